/-
The abstract layer, part A: abstract values, the abstract heap, and how they stand to the model's world. Nothing of a program.
-/
import Derived.Orders
import Derived.Below
import Derived.Laws.CopyRow
set_option linter.all false
namespace Go.Abs
open Go.RowKit (Below)

inductive V where
  | int (k : IntKind) (n : Int)
  | bool (b : Bool)
  | ptr (o r c : Nat)
  | nilp
  | slice (o s n : Nat) (cap : Option Nat)
  | nils
  | ro (rows : List (List V))
  | rop (row : List V) (c : Nat)
  | fn (f : FuncId) (caps : List V)
  | nilf
  | agg (cs : List V)
  | tup (vs : List V)
  | box (cs : List V)
  | lref (s c : Nat)
  | any
  deriving Inhabited

structure Place where
  blk : Nat
  w : Nat
  size : Nat

structure Ob where
  w : Nat
  rows : List (List V)

abbrev Heap := Nat → Option Ob

def upd (H : Heap) (o : Nat) (x : Ob) : Heap := fun i => if i = o then some x else H i
def del (H : Heap) (o : Nat) : Heap := fun i => if i = o then none else H i
def sub (H G : Heap) : Prop := ∀ o x, H o = some x → G o = some x
def disj (H F : Heap) : Prop := ∀ o x, H o = some x → F o = none

inductive RelV (w0 : World) (base : Nat) (ι : Nat → Option Place) : V → Value → Prop
  | int (k : IntKind) (n : Int) : RelV w0 base ι (.int k n) (.int k n)
  | bool (b : Bool) : RelV w0 base ι (.bool b) (.bool b)
  | ptr {o r c : Nat} {p : Place} (h : ι o = some p) : RelV w0 base ι (.ptr o r c) (.pointer (some ⟨p.blk, r * p.w + c, none⟩))
  | nilp : RelV w0 base ι .nilp (.pointer none)
  | slice {o s n : Nat} {cap : Option Nat} {p : Place} {c : Nat} (h : ι o = some p) (hn : n ≤ c) (hc : (s + c) * p.w ≤ p.size) (hk : ∀ k, cap = some k → c = k) :
      RelV w0 base ι (.slice o s n cap) (.slice (some ⟨p.blk, s * p.w, none⟩) n c)
  | sliceE {o s : Nat} {cap : Option Nat} {p : Place} (a : Addr) (h : ι o = some p) (hk : ∀ k, cap = some k → k = 0) : RelV w0 base ι (.slice o s 0 cap) (.slice (some a) 0 0)
  | nils : RelV w0 base ι .nils (.slice none 0 0)
  | ro {rows : List (List V)} {b off W n c : Nat} (f : Nat → Nat → Value) (hb : b < base) (hn : n = rows.length) (hc : rows.length ≤ c)
      (hw : ∀ i (hi : i < rows.length), (rows[i]).length = W)
      (hcell : ∀ i j, i < rows.length → j < W → w0.cell? ⟨b, off + (i * W + j), none⟩ = some (f i j))
      (hrel : ∀ i j (hi : i < rows.length) (hj : j < (rows[i]).length), RelV w0 base ι ((rows[i])[j]) (f i j)) :
      RelV w0 base ι (.ro rows) (.slice (some ⟨b, off, none⟩) n c)
  | roE (a : Option Addr) (c : Nat) : RelV w0 base ι (.ro []) (.slice a 0 c)
  | rop {row : List V} {c b off : Nat} (f : Nat → Value) (hb : b < base)
      (hcell : ∀ j, j < row.length → w0.cell? ⟨b, off + j, none⟩ = some (f j))
      (hrel : ∀ j (hj : j < row.length), RelV w0 base ι (row[j]) (f j)) :
      RelV w0 base ι (.rop row c) (.pointer (some ⟨b, off + c, none⟩))
  | fn {f : FuncId} {caps : List V} {cvs : Array Value} (hl : caps.length = cvs.size)
      (h : ∀ i (h1 : i < caps.length) (h2 : i < cvs.size), RelV w0 base ι (caps[i]) (cvs[i])) : RelV w0 base ι (.fn f caps) (.func (.func f) #[] cvs)
  | nilf : RelV w0 base ι .nilf .nilFunc
  | agg {cs : List V} {cvs : Array Value} (hl : cs.length = cvs.size)
      (h : ∀ i (h1 : i < cs.length) (h2 : i < cvs.size), RelV w0 base ι (cs[i]) (cvs[i])) : RelV w0 base ι (.agg cs) (.agg cvs)
  | tup {cs : List V} {cvs : Array Value} (hl : cs.length = cvs.size)
      (h : ∀ i (h1 : i < cs.length) (h2 : i < cvs.size), RelV w0 base ι (cs[i]) (cvs[i])) : RelV w0 base ι (.tup cs) (.tuple cvs)
  | any (v : Value) : RelV w0 base ι .any v

/-- Lists of values, place by place. -/
def RelL (w0 : World) (base : Nat) (ι : Nat → Option Place) (vs : List V) (cvs : List Value) : Prop :=
  vs.length = cvs.length ∧ ∀ (i : Nat) (v : V) (cv : Value), vs[i]? = some v → cvs[i]? = some cv → RelV w0 base ι v cv

def ile (ι ι' : Nat → Option Place) : Prop := ∀ o p, ι o = some p → ι' o = some p

theorem ile.refl (ι : Nat → Option Place) : ile ι ι := fun _ _ h => h
theorem ile.trans {a b c : Nat → Option Place} (h : ile a b) (k : ile b c) : ile a c := fun o p e => k o p (h o p e)

theorem RelV.mono {w0 : World} {base : Nat} {ι ι' : Nat → Option Place} (hi : ile ι ι') {v : V} {cv : Value} (h : RelV w0 base ι v cv) : RelV w0 base ι' v cv := by
  induction h with
  | int k n => exact .int k n
  | bool b => exact .bool b
  | ptr h => exact .ptr (hi _ _ h)
  | nilp => exact .nilp
  | slice h hn hc hk => exact .slice (hi _ _ h) hn hc hk
  | sliceE a h hk => exact .sliceE a (hi _ _ h) hk
  | nils => exact .nils
  | ro f hb hn hc hw hcell _ ih => exact .ro f hb hn hc hw hcell ih
  | roE a c => exact .roE a c
  | rop f hb hcell _ ih => exact .rop f hb hcell ih
  | fn hl _ ih => exact .fn hl ih
  | nilf => exact .nilf
  | agg hl _ ih => exact .agg hl ih
  | tup hl _ ih => exact .tup hl ih
  | any v => exact .any v

theorem RelL.mono {w0 : World} {base : Nat} {ι ι' : Nat → Option Place} (hi : ile ι ι') {v : List V} {cv : List Value} (h : RelL w0 base ι v cv) : RelL w0 base ι' v cv :=
  ⟨h.1, fun i v cv h1 h2 => (h.2 i v cv h1 h2).mono hi⟩

theorem RelL.nil {w0 : World} {base : Nat} {ι : Nat → Option Place} : RelL w0 base ι [] [] := ⟨rfl, fun i v cv h => by simp at h⟩
theorem RelL.cons {w0 : World} {base : Nat} {ι : Nat → Option Place} {v : V} {cv : Value} {vs : List V} {cvs : List Value} (h : RelV w0 base ι v cv) (t : RelL w0 base ι vs cvs) :
    RelL w0 base ι (v :: vs) (cv :: cvs) :=
  ⟨by simp [t.1], fun i x cx h1 h2 => by
    cases i with
    | zero => simp at h1 h2; subst h1; subst h2; exact h
    | succ i => simp at h1 h2; exact t.2 i x cx h1 h2⟩
theorem RelL.head {w0 : World} {base : Nat} {ι : Nat → Option Place} {v : V} {cv : Value} {vs : List V} {cvs : List Value} (h : RelL w0 base ι (v :: vs) (cv :: cvs)) : RelV w0 base ι v cv :=
  h.2 0 v cv rfl rfl
theorem RelL.tail {w0 : World} {base : Nat} {ι : Nat → Option Place} {v : V} {cv : Value} {vs : List V} {cvs : List Value} (h : RelL w0 base ι (v :: vs) (cv :: cvs)) : RelL w0 base ι vs cvs :=
  ⟨by simpa using h.1, fun i x cx h1 h2 => h.2 (i + 1) x cx (by simpa using h1) (by simpa using h2)⟩
theorem RelL.append {w0 : World} {base : Nat} {ι : Nat → Option Place} {a b : List V} {ca cb : List Value} (h : RelL w0 base ι a ca) (k : RelL w0 base ι b cb) :
    RelL w0 base ι (a ++ b) (ca ++ cb) := by
  refine ⟨by simp [h.1, k.1], fun i x cx h1 h2 => ?_⟩
  by_cases hi : i < a.length
  · rw [List.getElem?_append_left hi] at h1
    rw [List.getElem?_append_left (by rw [← h.1]; exact hi)] at h2
    exact h.2 i x cx h1 h2
  · rw [List.getElem?_append_right (by omega)] at h1
    rw [List.getElem?_append_right (by have := h.1; omega)] at h2
    have := h.1
    exact k.2 (i - a.length) x cx h1 (by rw [this]; exact h2)
theorem RelL.cases_cons {w0 : World} {base : Nat} {ι : Nat → Option Place} {v : V} {vs : List V} {c : List Value} (h : RelL w0 base ι (v :: vs) c) :
    ∃ cv cvs, c = cv :: cvs ∧ RelV w0 base ι v cv ∧ RelL w0 base ι vs cvs := by
  cases c with
  | nil => have := h.1; simp at this
  | cons cv cvs => exact ⟨cv, cvs, rfl, h.head, h.tail⟩
theorem RelL.cases_nil {w0 : World} {base : Nat} {ι : Nat → Option Place} {c : List Value} (h : RelL w0 base ι [] c) : c = [] := by
  cases c with
  | nil => rfl
  | cons => have := h.1; simp at this

theorem relV_agg {w0 : World} {base : Nat} {ι : Nat → Option Place} {cs : List V} {cvs : List Value} (h : RelL w0 base ι cs cvs) : RelV w0 base ι (.agg cs) (.agg cvs.toArray) :=
  .agg (by simp [h.1]) fun i h1 h2 => h.2 i _ _ (by simp [h1]) (by simp at h2; simp [h2])
theorem relV_tup {w0 : World} {base : Nat} {ι : Nat → Option Place} {cs : List V} {cvs : List Value} (h : RelL w0 base ι cs cvs) : RelV w0 base ι (.tup cs) (.tuple cvs.toArray) :=
  .tup (by simp [h.1]) fun i h1 h2 => h.2 i _ _ (by simp [h1]) (by simp at h2; simp [h2])
theorem relL_of_agg {w0 : World} {base : Nat} {ι : Nat → Option Place} {cs : List V} {cv : Value} (h : RelV w0 base ι (.agg cs) cv) : ∃ cvs : List Value, cv = .agg cvs.toArray ∧ RelL w0 base ι cs cvs := by
  cases h with
  | agg hl h =>
    rename_i cvs
    refine ⟨cvs.toList, by simp, by simp [hl], fun i v cv h1 h2 => ?_⟩
    have l1 := (List.getElem?_eq_some_iff.1 h1)
    have l2 := (List.getElem?_eq_some_iff.1 h2)
    obtain ⟨q1, rfl⟩ := l1
    obtain ⟨q2, rfl⟩ := l2
    exact h i q1 (by simpa using q2)
theorem relL_of_tup {w0 : World} {base : Nat} {ι : Nat → Option Place} {cs : List V} {cv : Value} (h : RelV w0 base ι (.tup cs) cv) : ∃ cvs : List Value, cv = .tuple cvs.toArray ∧ RelL w0 base ι cs cvs := by
  cases h with
  | tup hl h =>
    rename_i cvs
    refine ⟨cvs.toList, by simp, by simp [hl], fun i v cv h1 h2 => ?_⟩
    obtain ⟨q1, rfl⟩ := List.getElem?_eq_some_iff.1 h1
    obtain ⟨q2, rfl⟩ := List.getElem?_eq_some_iff.1 h2
    exact h i q1 (by simpa using q2)

/-- The cells of a value. -/
def cellsOf : V → List V | .agg cs => cs | v => [v]

theorem relL_cells {w0 : World} {base : Nat} {ι : Nat → Option Place} {v : V} {cv : Value} (h : RelV w0 base ι v cv) (hv : v ≠ .any) : RelL w0 base ι (cellsOf v) cv.cells.toList := by
  cases v with
  | agg cs => obtain ⟨cvs, rfl, hc⟩ := relL_of_agg h; simpa [cellsOf, Value.cells] using hc
  | any => exact absurd rfl hv
  | _ => have hk := h; cases h <;> exact RelL.cons hk RelL.nil

/-- What one cell of memory may hold. -/
def cellOk : V → Bool
  | .agg _ | .tup _ | .box _ | .lref _ _ | .any => false
  | _ => true
def CellRel (w0 : World) (base : Nat) (ι : Nat → Option Place) (v : V) (cv : Value) : Prop := RelV w0 base ι v cv ∧ (cellOk v = true ∨ v = .any ∧ cv.oneCell' = true)
theorem CellRel.mono {w0 : World} {base : Nat} {ι ι' : Nat → Option Place} (hi : ile ι ι') {v : V} {cv : Value} (h : CellRel w0 base ι v cv) : CellRel w0 base ι' v cv := ⟨h.1.mono hi, h.2⟩

/-- What the heap G says of the world. -/
structure RelH (w0 : World) (base : Nat) (ι : Nat → Option Place) (G : Heap) (w : World) : Prop where
  obj : ∀ o ob, G o = some ob → ∃ p cells ty, ι o = some p ∧ p.w = ob.w ∧ base ≤ p.blk ∧ w.heap[p.blk]? = some (.cells cells ty (0, 0)) ∧ cells.size = p.size ∧
    ob.rows.length * ob.w ≤ p.size ∧ (∀ r row, ob.rows[r]? = some row → row.length = ob.w ∧ ∀ c v, row[c]? = some v → ∃ cv, cells[r * ob.w + c]? = some cv ∧ CellRel w0 base ι v cv) ∧ ∀ (k : Nat) cv, cells[k]? = some cv → cv.oneCell' = true
  inj : ∀ o1 o2 b1 b2 p1 p2, G o1 = some b1 → G o2 = some b2 → ι o1 = some p1 → ι o2 = some p2 → p1.blk = p2.blk → o1 = o2
  low : Below base w0 w
  base_le : base ≤ w.heap.size
  fin : ∃ N, ∀ i, N ≤ i → ι i = none ∧ G i = none

end Go.Abs
