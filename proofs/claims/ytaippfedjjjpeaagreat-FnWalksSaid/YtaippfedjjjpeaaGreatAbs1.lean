/-
The abstract layer, part A: abstract values, the abstract heap, and how they stand to the model's world. Nothing of a program.
-/
import Derived.Orders
import Derived.Below
import Derived.Laws.CopyRow
import Derived.Laws.CopyOwn
import Derived.Laws.StructEq
import Derived.Great.BuildSlice
import Derived.Laws.MakeOwn
set_option linter.all false
namespace Go.Abs
open Go.RowKit (Below)

inductive V where
  | int (k : IntKind) (n : Int)
  | bool (b : Bool)
  | ptr (o r c : Nat)
  | nilp
  | slice (o s n : Nat) (cap : Option Nat)
  | nils
  | ro (rows : List (List V))
  | rop (row : List V) (c : Nat)
  | fn (f : FuncId) (caps : List V)
  | nilf
  | agg (cs : List V)
  | tup (vs : List V)
  | box (cs : List V)
  | lref (s c : Nat)
  | any
  deriving Inhabited

structure Place where
  blk : Nat
  w : Nat
  size : Nat

structure Ob where
  w : Nat
  rows : List (List V)

abbrev Heap := Nat → Option Ob

def upd (H : Heap) (o : Nat) (x : Ob) : Heap := fun i => if i = o then some x else H i
def del (H : Heap) (o : Nat) : Heap := fun i => if i = o then none else H i
def sub (H G : Heap) : Prop := ∀ o x, H o = some x → G o = some x
def disj (H F : Heap) : Prop := ∀ o x, H o = some x → F o = none

inductive RelV (w0 : World) (base : Nat) (ι : Nat → Option Place) : V → Value → Prop
  | int (k : IntKind) (n : Int) : RelV w0 base ι (.int k n) (.int k n)
  | bool (b : Bool) : RelV w0 base ι (.bool b) (.bool b)
  | ptr {o r c : Nat} {p : Place} (h : ι o = some p) : RelV w0 base ι (.ptr o r c) (.pointer (some ⟨p.blk, r * p.w + c, none⟩))
  | nilp : RelV w0 base ι .nilp (.pointer none)
  | slice {o s n : Nat} {cap : Option Nat} {p : Place} {c : Nat} (h : ι o = some p) (hn : n ≤ c) (hc : (s + c) * p.w ≤ p.size) (hk : ∀ k, cap = some k → c = k) :
      RelV w0 base ι (.slice o s n cap) (.slice (some ⟨p.blk, s * p.w, none⟩) n c)
  | sliceE {o s : Nat} {cap : Option Nat} {p : Place} (a : Addr) (h : ι o = some p) (hk : ∀ k, cap = some k → k = 0) : RelV w0 base ι (.slice o s 0 cap) (.slice (some a) 0 0)
  | nils : RelV w0 base ι .nils (.slice none 0 0)
  | ro {rows : List (List V)} {b off W n c : Nat} (f : Nat → Nat → Value) (hb : b < base) (hn : n = rows.length) (hc : rows.length ≤ c)
      (hw : ∀ i (hi : i < rows.length), (rows[i]).length = W)
      (hcell : ∀ i j, i < rows.length → j < W → w0.cell? ⟨b, off + (i * W + j), none⟩ = some (f i j))
      (hrel : ∀ i j (hi : i < rows.length) (hj : j < (rows[i]).length), RelV w0 base ι ((rows[i])[j]) (f i j)) :
      RelV w0 base ι (.ro rows) (.slice (some ⟨b, off, none⟩) n c)
  | roE (a : Option Addr) (c : Nat) : RelV w0 base ι (.ro []) (.slice a 0 c)
  | rop {row : List V} {c b off : Nat} (f : Nat → Value) (hb : b < base)
      (hcell : ∀ j, j < row.length → w0.cell? ⟨b, off + j, none⟩ = some (f j))
      (hrel : ∀ j (hj : j < row.length), RelV w0 base ι (row[j]) (f j)) :
      RelV w0 base ι (.rop row c) (.pointer (some ⟨b, off + c, none⟩))
  | fn {f : FuncId} {caps : List V} {cvs : Array Value} (hl : caps.length = cvs.size)
      (h : ∀ i (h1 : i < caps.length) (h2 : i < cvs.size), RelV w0 base ι (caps[i]) (cvs[i])) : RelV w0 base ι (.fn f caps) (.func (.func f) #[] cvs)
  | nilf : RelV w0 base ι .nilf .nilFunc
  | agg {cs : List V} {cvs : Array Value} (hl : cs.length = cvs.size)
      (h : ∀ i (h1 : i < cs.length) (h2 : i < cvs.size), RelV w0 base ι (cs[i]) (cvs[i])) : RelV w0 base ι (.agg cs) (.agg cvs)
  | tup {cs : List V} {cvs : Array Value} (hl : cs.length = cvs.size)
      (h : ∀ i (h1 : i < cs.length) (h2 : i < cvs.size), RelV w0 base ι (cs[i]) (cvs[i])) : RelV w0 base ι (.tup cs) (.tuple cvs)
  | any (v : Value) : RelV w0 base ι .any v

/-- Lists of values, place by place. -/
def RelL (w0 : World) (base : Nat) (ι : Nat → Option Place) (vs : List V) (cvs : List Value) : Prop :=
  vs.length = cvs.length ∧ ∀ (i : Nat) (v : V) (cv : Value), vs[i]? = some v → cvs[i]? = some cv → RelV w0 base ι v cv

def ile (ι ι' : Nat → Option Place) : Prop := ∀ o p, ι o = some p → ι' o = some p

theorem ile.refl (ι : Nat → Option Place) : ile ι ι := fun _ _ h => h
theorem ile.trans {a b c : Nat → Option Place} (h : ile a b) (k : ile b c) : ile a c := fun o p e => k o p (h o p e)

theorem RelV.mono {w0 : World} {base : Nat} {ι ι' : Nat → Option Place} (hi : ile ι ι') {v : V} {cv : Value} (h : RelV w0 base ι v cv) : RelV w0 base ι' v cv := by
  induction h with
  | int k n => exact .int k n
  | bool b => exact .bool b
  | ptr h => exact .ptr (hi _ _ h)
  | nilp => exact .nilp
  | slice h hn hc hk => exact .slice (hi _ _ h) hn hc hk
  | sliceE a h hk => exact .sliceE a (hi _ _ h) hk
  | nils => exact .nils
  | ro f hb hn hc hw hcell _ ih => exact .ro f hb hn hc hw hcell ih
  | roE a c => exact .roE a c
  | rop f hb hcell _ ih => exact .rop f hb hcell ih
  | fn hl _ ih => exact .fn hl ih
  | nilf => exact .nilf
  | agg hl _ ih => exact .agg hl ih
  | tup hl _ ih => exact .tup hl ih
  | any v => exact .any v

theorem RelL.mono {w0 : World} {base : Nat} {ι ι' : Nat → Option Place} (hi : ile ι ι') {v : List V} {cv : List Value} (h : RelL w0 base ι v cv) : RelL w0 base ι' v cv :=
  ⟨h.1, fun i v cv h1 h2 => (h.2 i v cv h1 h2).mono hi⟩

theorem RelL.nil {w0 : World} {base : Nat} {ι : Nat → Option Place} : RelL w0 base ι [] [] := ⟨rfl, fun i v cv h => by simp at h⟩
theorem RelL.cons {w0 : World} {base : Nat} {ι : Nat → Option Place} {v : V} {cv : Value} {vs : List V} {cvs : List Value} (h : RelV w0 base ι v cv) (t : RelL w0 base ι vs cvs) :
    RelL w0 base ι (v :: vs) (cv :: cvs) :=
  ⟨by simp [t.1], fun i x cx h1 h2 => by
    cases i with
    | zero => simp at h1 h2; subst h1; subst h2; exact h
    | succ i => simp at h1 h2; exact t.2 i x cx h1 h2⟩
theorem RelL.head {w0 : World} {base : Nat} {ι : Nat → Option Place} {v : V} {cv : Value} {vs : List V} {cvs : List Value} (h : RelL w0 base ι (v :: vs) (cv :: cvs)) : RelV w0 base ι v cv :=
  h.2 0 v cv rfl rfl
theorem RelL.tail {w0 : World} {base : Nat} {ι : Nat → Option Place} {v : V} {cv : Value} {vs : List V} {cvs : List Value} (h : RelL w0 base ι (v :: vs) (cv :: cvs)) : RelL w0 base ι vs cvs :=
  ⟨by simpa using h.1, fun i x cx h1 h2 => h.2 (i + 1) x cx (by simpa using h1) (by simpa using h2)⟩
theorem RelL.append {w0 : World} {base : Nat} {ι : Nat → Option Place} {a b : List V} {ca cb : List Value} (h : RelL w0 base ι a ca) (k : RelL w0 base ι b cb) :
    RelL w0 base ι (a ++ b) (ca ++ cb) := by
  refine ⟨by simp [h.1, k.1], fun i x cx h1 h2 => ?_⟩
  by_cases hi : i < a.length
  · rw [List.getElem?_append_left hi] at h1
    rw [List.getElem?_append_left (by rw [← h.1]; exact hi)] at h2
    exact h.2 i x cx h1 h2
  · rw [List.getElem?_append_right (by omega)] at h1
    rw [List.getElem?_append_right (by have := h.1; omega)] at h2
    have := h.1
    exact k.2 (i - a.length) x cx h1 (by rw [this]; exact h2)
theorem RelL.cases_cons {w0 : World} {base : Nat} {ι : Nat → Option Place} {v : V} {vs : List V} {c : List Value} (h : RelL w0 base ι (v :: vs) c) :
    ∃ cv cvs, c = cv :: cvs ∧ RelV w0 base ι v cv ∧ RelL w0 base ι vs cvs := by
  cases c with
  | nil => have := h.1; simp at this
  | cons cv cvs => exact ⟨cv, cvs, rfl, h.head, h.tail⟩
theorem RelL.cases_nil {w0 : World} {base : Nat} {ι : Nat → Option Place} {c : List Value} (h : RelL w0 base ι [] c) : c = [] := by
  cases c with
  | nil => rfl
  | cons => have := h.1; simp at this

theorem relV_agg {w0 : World} {base : Nat} {ι : Nat → Option Place} {cs : List V} {cvs : List Value} (h : RelL w0 base ι cs cvs) : RelV w0 base ι (.agg cs) (.agg cvs.toArray) :=
  .agg (by simp [h.1]) fun i h1 h2 => h.2 i _ _ (by simp [h1]) (by simp at h2; simp [h2])
theorem relV_tup {w0 : World} {base : Nat} {ι : Nat → Option Place} {cs : List V} {cvs : List Value} (h : RelL w0 base ι cs cvs) : RelV w0 base ι (.tup cs) (.tuple cvs.toArray) :=
  .tup (by simp [h.1]) fun i h1 h2 => h.2 i _ _ (by simp [h1]) (by simp at h2; simp [h2])
theorem relL_of_agg {w0 : World} {base : Nat} {ι : Nat → Option Place} {cs : List V} {cv : Value} (h : RelV w0 base ι (.agg cs) cv) : ∃ cvs : List Value, cv = .agg cvs.toArray ∧ RelL w0 base ι cs cvs := by
  cases h with
  | agg hl h =>
    rename_i cvs
    refine ⟨cvs.toList, by simp, by simp [hl], fun i v cv h1 h2 => ?_⟩
    have l1 := (List.getElem?_eq_some_iff.1 h1)
    have l2 := (List.getElem?_eq_some_iff.1 h2)
    obtain ⟨q1, rfl⟩ := l1
    obtain ⟨q2, rfl⟩ := l2
    exact h i q1 (by simpa using q2)
theorem relL_of_tup {w0 : World} {base : Nat} {ι : Nat → Option Place} {cs : List V} {cv : Value} (h : RelV w0 base ι (.tup cs) cv) : ∃ cvs : List Value, cv = .tuple cvs.toArray ∧ RelL w0 base ι cs cvs := by
  cases h with
  | tup hl h =>
    rename_i cvs
    refine ⟨cvs.toList, by simp, by simp [hl], fun i v cv h1 h2 => ?_⟩
    obtain ⟨q1, rfl⟩ := List.getElem?_eq_some_iff.1 h1
    obtain ⟨q2, rfl⟩ := List.getElem?_eq_some_iff.1 h2
    exact h i q1 (by simpa using q2)

/-- The cells of a value. -/
def cellsOf : V → List V | .agg cs => cs | v => [v]

theorem relL_cells {w0 : World} {base : Nat} {ι : Nat → Option Place} {v : V} {cv : Value} (h : RelV w0 base ι v cv) (hv : v ≠ .any) : RelL w0 base ι (cellsOf v) cv.cells.toList := by
  cases v with
  | agg cs => obtain ⟨cvs, rfl, hc⟩ := relL_of_agg h; simpa [cellsOf, Value.cells] using hc
  | any => exact absurd rfl hv
  | _ => have hk := h; cases h <;> exact RelL.cons hk RelL.nil

/-- What one cell of memory may hold. -/
def cellOk : V → Bool
  | .agg _ | .tup _ | .box _ | .lref _ _ | .any => false
  | _ => true
def CellRel (w0 : World) (base : Nat) (ι : Nat → Option Place) (v : V) (cv : Value) : Prop := RelV w0 base ι v cv ∧ (cellOk v = true ∨ v = .any ∧ cv.oneCell' = true)
theorem CellRel.mono {w0 : World} {base : Nat} {ι ι' : Nat → Option Place} (hi : ile ι ι') {v : V} {cv : Value} (h : CellRel w0 base ι v cv) : CellRel w0 base ι' v cv := ⟨h.1.mono hi, h.2⟩

/-- What the heap G says of the world. -/
structure RelH (w0 : World) (base : Nat) (ι : Nat → Option Place) (G : Heap) (w : World) : Prop where
  obj : ∀ o ob, G o = some ob → ∃ p cells ty, ι o = some p ∧ p.w = ob.w ∧ base ≤ p.blk ∧ w.heap[p.blk]? = some (.cells cells ty (0, 0)) ∧ cells.size = p.size ∧
    ob.rows.length * ob.w ≤ p.size ∧ (∀ r row, ob.rows[r]? = some row → row.length = ob.w ∧ ∀ c v, row[c]? = some v → ∃ cv, cells[r * ob.w + c]? = some cv ∧ CellRel w0 base ι v cv) ∧ ∀ (k : Nat) cv, cells[k]? = some cv → cv.oneCell' = true
  inj : ∀ o1 o2 b1 b2 p1 p2, G o1 = some b1 → G o2 = some b2 → ι o1 = some p1 → ι o2 = some p2 → p1.blk = p2.blk → o1 = o2
  low : Below base w0 w
  base_le : base ≤ w.heap.size
  fin : ∃ N, ∀ i, N ≤ i → ι i = none ∧ G i = none

end Go.Abs
/-
The abstract layer, part B: new blocks, stores, and the state of a frame.
-/
namespace Go.Abs
open Go.RowKit (Below)

theorem upd_same (H : Heap) (o : Nat) (x : Ob) : upd H o x o = some x := by simp [upd]
theorem upd_ne (H : Heap) {o i : Nat} (x : Ob) (h : i ≠ o) : upd H o x i = H i := by simp [upd, h]
theorem upd_other {H : Heap} {o i : Nat} {x y : Ob} (hf : H o = none) (h : H i = some y) : upd H o x i = some y := by
  rw [upd_ne]; exact h; rintro rfl; rw [hf] at h; cases h
theorem upd_upd (H : Heap) (o : Nat) (x y : Ob) : upd (upd H o x) o y = upd H o y := by
  funext i; unfold upd; split <;> rfl
theorem sub_refl (H : Heap) : sub H H := fun _ _ h => h
theorem sub_trans {A B C : Heap} (h : sub A B) (k : sub B C) : sub A C := fun o x e => k o x (h o x e)
theorem sub_upd {H : Heap} {o : Nat} (x : Ob) (hf : H o = none) : sub H (upd H o x) := fun _ _ h => upd_other hf h

def updP (ι : Nat → Option Place) (o : Nat) (p : Place) : Nat → Option Place := fun i => if i = o then some p else ι i
theorem ile_updP {ι : Nat → Option Place} {o : Nat} (p : Place) (h : ι o = none) : ile ι (updP ι o p) := fun i q e => by
  unfold updP; split
  · subst i; rw [h] at e; cases e
  · exact e

theorem block_alloc_new (w : World) (o : Obj) : (w.alloc o).heap[w.heap.size]? = some o := by
  show (w.heap.push o)[w.heap.size]? = _
  rw [Array.getElem?_push, if_pos rfl]
theorem block_alloc_old {w : World} {o x : Obj} {k : Nat} (h : w.heap[k]? = some x) : (w.alloc o).heap[k]? = some x := by
  have hk : k < w.heap.size := (Array.getElem?_eq_some_iff.1 h).1
  show (w.heap.push o)[k]? = _
  rw [Array.getElem?_push, if_neg (by omega)]; exact h
theorem block_lt {w : World} {x : Obj} {k : Nat} (h : w.heap[k]? = some x) : k < w.heap.size := (Array.getElem?_eq_some_iff.1 h).1

section
variable {w0 : World} {base : Nat}

/-- A row of cells in a block, against abstract rows. -/
def RowsRel (w0 : World) (base : Nat) (ι : Nat → Option Place) (ob : Ob) (cells : Array Value) : Prop :=
  ob.rows.length * ob.w ≤ cells.size ∧ (∀ r row, ob.rows[r]? = some row → row.length = ob.w ∧ ∀ c v, row[c]? = some v → ∃ cv, cells[r * ob.w + c]? = some cv ∧ CellRel w0 base ι v cv) ∧ ∀ (k : Nat) cv, cells[k]? = some cv → cv.oneCell' = true

theorem RowsRel.mono {ι ι' : Nat → Option Place} (hi : ile ι ι') {ob : Ob} {cells : Array Value} (h : RowsRel w0 base ι ob cells) : RowsRel w0 base ι' ob cells :=
  ⟨h.1, fun r row hr => ⟨(h.2.1 r row hr).1, fun c v hc => let ⟨cv, h1, h2⟩ := (h.2.1 r row hr).2 c v hc; ⟨cv, h1, h2.mono hi⟩⟩, h.2.2⟩

theorem RelH.get {ι : Nat → Option Place} {G : Heap} {w : World} (h : RelH w0 base ι G w) {o : Nat} {ob : Ob} (ho : G o = some ob) :
    ∃ p cells ty, ι o = some p ∧ p.w = ob.w ∧ base ≤ p.blk ∧ w.heap[p.blk]? = some (.cells cells ty (0, 0)) ∧ cells.size = p.size ∧ RowsRel w0 base ι ob cells := by
  obtain ⟨p, cells, ty, h1, h2, h3, h4, h5, h6, h7⟩ := h.obj o ob ho
  exact ⟨p, cells, ty, h1, h2, h3, h4, h5, by rw [h5]; exact h6, h7⟩

theorem RelH.alloc {ι : Nat → Option Place} {G : Heap} {w : World} (h : RelH w0 base ι G w) {o : Nat} (ho : ι o = none) (hG : G o = none) {ob : Ob} {cells : Array Value} (ty : TypeId)
    (hr : RowsRel w0 base ι ob cells) : RelH w0 base (updP ι o ⟨w.heap.size, ob.w, cells.size⟩) (upd G o ob) (w.alloc (.cells cells ty)) := by
  have hi := ile_updP ⟨w.heap.size, ob.w, cells.size⟩ ho
  refine ⟨fun i x hx => ?_, fun o1 o2 b1 b2 p1 p2 g1 g2 e1 e2 he => ?_, h.low.alloc h.base_le _, by have := h.base_le; simp; omega, ?_⟩
  · by_cases hio : i = o
    · subst hio
      rw [upd_same] at hx; cases hx
      have hr' := hr.mono hi
      exact ⟨⟨w.heap.size, ob.w, cells.size⟩, cells, ty, by simp [updP], rfl, h.base_le, block_alloc_new _ _, rfl, hr'.1, hr'.2⟩
    · rw [upd_ne _ _ hio] at hx
      obtain ⟨p, cs, t, h1, h2, h3, h4, h5, h6⟩ := h.get hx
      have h6' := h6.mono hi
      exact ⟨p, cs, t, hi _ _ h1, h2, h3, block_alloc_old h4, h5, by rw [← h5]; exact h6'.1, h6'.2⟩
  · have key : ∀ i b p, i ≠ o → upd G o ob i = some b → updP ι o ⟨w.heap.size, ob.w, cells.size⟩ i = some p → G i = some b ∧ ι i = some p ∧ p.blk < w.heap.size := by
      intro i b p hne hg hp
      rw [upd_ne _ _ hne] at hg
      simp only [updP, hne, if_false] at hp
      obtain ⟨q, cs, t, h1, _, _, h4, _⟩ := h.get hg
      rw [h1] at hp; cases hp
      exact ⟨hg, h1, block_lt h4⟩
    by_cases ho1 : o1 = o <;> by_cases ho2 : o2 = o
    · rw [ho1, ho2]
    · obtain ⟨_, _, hlt⟩ := key o2 b2 p2 ho2 g2 e2
      subst ho1; simp [updP] at e1; subst e1; simp at he; omega
    · obtain ⟨_, _, hlt⟩ := key o1 b1 p1 ho1 g1 e1
      subst ho2; simp [updP] at e2; subst e2; simp at he; omega
    · obtain ⟨a1, a2, _⟩ := key o1 b1 p1 ho1 g1 e1
      obtain ⟨c1, c2, _⟩ := key o2 b2 p2 ho2 g2 e2
      exact h.inj o1 o2 b1 b2 p1 p2 a1 c1 a2 c2 he
  · obtain ⟨N, hN⟩ := h.fin
    refine ⟨max N (o + 1), fun i hi => ?_⟩
    have := hN i (by omega)
    have hne : i ≠ o := by omega
    simp [updP, upd, hne, this.1, this.2]

/-- Writing the cells of one object, under its old or a new name. -/
theorem RelH.write {ι : Nat → Option Place} {G : Heap} {w : World} (h : RelH w0 base ι G w) {o o' : Nat} {ob ob' : Ob} {p : Place} {cells cells' : Array Value} {ty : TypeId}
    (hG : G o = some ob) (hp : ι o = some p) (hcell : w.heap[p.blk]? = some (.cells cells ty (0, 0))) (hsz : cells'.size = cells.size) (hw : ob'.w = ob.w)
    (hnew : o' = o ∨ (ι o' = none ∧ G o' = none)) (hr : RowsRel w0 base ι ob' cells') :
    RelH w0 base (updP ι o' p) (upd (del G o) o' ob') (w.setRow p.blk cells') ∧ ile ι (updP ι o' p) := by
  obtain ⟨p0, cells0, ty0, h1, h2, h3, h4, h5, h6⟩ := h.get hG
  rw [hp] at h1; cases h1
  rw [hcell] at h4; cases h4
  have hi : ile ι (updP ι o' p) := by
    rcases hnew with rfl | ⟨hn, _⟩
    · intro i q e; unfold updP; split
      · subst i; rw [hp] at e; exact e
      · exact e
    · exact ile_updP _ hn
  refine ⟨⟨fun i x hx => ?_, fun o1 o2 b1 b2 p1 p2 g1 g2 e1 e2 he => ?_, below_setRow h.low h3 _, by simpa using h.base_le, ?_⟩, hi⟩
  · by_cases hio : i = o'
    · subst hio
      rw [upd_same] at hx; cases hx
      have hr' := hr.mono hi
      exact ⟨p, cells', ty, by simp [updP], by rw [h2, hw], h3, setRow_heap _ _ _ _ _ _ hcell, by rw [hsz, h5], by rw [← h5, ← hsz]; exact hr'.1, hr'.2⟩
    · rw [upd_ne _ _ hio] at hx
      have hio2 : i ≠ o := by rintro rfl; simp [del] at hx
      have hx' : G i = some x := by simpa [del, hio2] using hx
      obtain ⟨q, cs, t, q1, q2, q3, q4, q5, q6⟩ := h.get hx'
      have hb : q.blk ≠ p.blk := fun e => hio2 (h.inj i o x ob q p hx' hG q1 hp e)
      have q6' := q6.mono hi
      exact ⟨q, cs, t, hi _ _ q1, q2, q3, by rw [setRow_other _ _ _ _ hb]; exact q4, q5, by rw [← q5]; exact q6'.1, q6'.2⟩
  · have key : ∀ i b q, i ≠ o' → upd (del G o) o' ob' i = some b → updP ι o' p i = some q → i ≠ o ∧ G i = some b ∧ ι i = some q := by
      intro i b q hne hg hq
      rw [upd_ne _ _ hne] at hg
      simp only [updP, hne, if_false] at hq
      have hio2 : i ≠ o := by rintro rfl; simp [del] at hg
      exact ⟨hio2, by simpa [del, hio2] using hg, hq⟩
    by_cases ho1 : o1 = o' <;> by_cases ho2 : o2 = o'
    · rw [ho1, ho2]
    · obtain ⟨hne, a1, a2⟩ := key o2 b2 p2 ho2 g2 e2
      subst ho1; simp [updP] at e1; subst e1
      exact absurd (h.inj o2 o b2 ob p2 p a1 hG a2 hp he.symm) hne
    · obtain ⟨hne, a1, a2⟩ := key o1 b1 p1 ho1 g1 e1
      subst ho2; simp [updP] at e2; subst e2
      exact absurd (h.inj o1 o b1 ob p1 p a1 hG a2 hp he) hne
    · obtain ⟨_, a1, a2⟩ := key o1 b1 p1 ho1 g1 e1
      obtain ⟨_, c1, c2⟩ := key o2 b2 p2 ho2 g2 e2
      exact h.inj o1 o2 b1 b2 p1 p2 a1 c1 a2 c2 he
  · obtain ⟨N, hN⟩ := h.fin
    refine ⟨max N (o' + 1), fun i hi => ?_⟩
    have := hN i (by omega)
    have hne : i ≠ o' := by omega
    simp [updP, upd, hne, this.1, this.2, del]

theorem updP_same {ι : Nat → Option Place} {o : Nat} {p : Place} (h : ι o = some p) : updP ι o p = ι := by
  funext i; unfold updP; split
  · subst i; exact h.symm
  · rfl
theorem upd_del (G : Heap) (o : Nat) (x : Ob) : upd (del G o) o x = upd G o x := by
  funext i; unfold upd del; split <;> rfl

/-- Writing in place. -/
theorem RelH.set {ι : Nat → Option Place} {G : Heap} {w : World} (h : RelH w0 base ι G w) {o : Nat} {ob ob' : Ob} {p : Place} {cells cells' : Array Value} {ty : TypeId}
    (hG : G o = some ob) (hp : ι o = some p) (hcell : w.heap[p.blk]? = some (.cells cells ty (0, 0))) (hsz : cells'.size = cells.size) (hw : ob'.w = ob.w)
    (hr : RowsRel w0 base ι ob' cells') : RelH w0 base ι (upd G o ob') (w.setRow p.blk cells') := by
  have := (h.write hG hp hcell hsz hw (.inl rfl) hr).1
  rwa [updP_same hp, upd_del] at this

end

/-! ### The frame -/

structure Cfg where
  L : List Nat
  R : List Nat

def Cfg.loc (g : Cfg) (t : Nat) : Bool := g.L.contains t || g.R.contains t

def SlotRel (g : Cfg) (w0 : World) (base : Nat) (ι : Nat → Option Place) (β : Nat → Option Nat) (G : Heap) (s : Nat) (v : V) (cv : Value) : Prop :=
  if g.L.contains s = true then v = .any ∨ ∃ cs id p, v = .box cs ∧ β s = some id ∧ ι id = some p ∧ cv = .pointer (some ⟨p.blk, 0, none⟩) ∧ G id = some ⟨cs.length, [cs]⟩
  else if g.R.contains s = true then v = .any ∨ ∃ s' c id p, v = .lref s' c ∧ g.L.contains s' = true ∧ β s' = some id ∧ ι id = some p ∧ cv = .pointer (some ⟨p.blk, c, none⟩)
  else RelV w0 base ι v cv

/-- The state of a frame: its slots, the heap H that it may use, the heap F that is kept for its callers. -/
structure St (g : Cfg) (w0 : World) (base : Nat) (F : Heap) (ι : Nat → Option Place) (β : Nat → Option Nat) (G : Heap) (env : List V) (H : Heap) (a : Act) (w : World) : Prop where
  heap : RelH w0 base ι G w
  sub : sub H G
  frm : Abs.sub F G
  dis : disj H F
  len : env.length = a.tmps.size
  slot : ∀ (s : Nat) (v : V) (cv : Value), env[s]? = some v → a.tmps[s]? = some cv → SlotRel g w0 base ι β G s v cv
  binj : ∀ s1 s2 i, β s1 = some i → β s2 = some i → s1 = s2
  bout : ∀ s i, β s = some i → H i = none ∧ F i = none
  bin : ∀ s i, β s = some i → ∃ x, G i = some x
  nodef : a.defers = []

section
variable {g : Cfg} {w0 : World} {base : Nat} {F : Heap} {ι : Nat → Option Place} {β : Nat → Option Nat} {G : Heap} {env : List V} {H : Heap} {a : Act} {w : World}

theorem SlotRel.plain {s : Nat} {v : V} {cv : Value} (hs : g.loc s = false) : SlotRel g w0 base ι β G s v cv ↔ RelV w0 base ι v cv := by
  unfold Cfg.loc at hs
  simp only [Bool.or_eq_false_iff] at hs
  unfold SlotRel
  rw [if_neg (by rw [hs.1]; exact Bool.false_ne_true), if_neg (by rw [hs.2]; exact Bool.false_ne_true)]

theorem St.val (h : St g w0 base F ι β G env H a w) {s : Nat} {v : V} (hs : g.loc s = false) (he : env[s]? = some v) : RelV w0 base ι v (a.tmps.getD s undef) := by
  have hlt : s < a.tmps.size := by rw [← h.len]; exact (List.getElem?_eq_some_iff.1 he).1
  have := h.slot s v a.tmps[s] he (by simp [hlt])
  rw [SlotRel.plain hs] at this
  simpa [Array.getD, hlt] using this

theorem St.put (h : St g w0 base F ι β G env H a w) {d : Nat} {v : V} {cv : Value} (hd : SlotRel g w0 base ι β G d v cv) : St g w0 base F ι β G (env.set d v) H (a.put (some d) cv) w := by
  refine ⟨h.heap, h.sub, h.frm, h.dis, by simp [Act.put, h.len], fun s x cx h1 h2 => ?_, h.binj, h.bout, h.bin, h.nodef⟩
  by_cases hsd : d = s
  · subst hsd
    have hlt : d < env.length := by
      have := (List.getElem?_eq_some_iff.1 h1).1; simpa using this
    have hlt2 : d < a.tmps.size := by rw [← h.len]; exact hlt
    simp [hlt] at h1
    simp [Act.put, hlt2] at h2
    subst h1; subst h2; exact hd
  · simp [hsd] at h1
    simp [Act.put, hsd] at h2
    exact h.slot s x cx h1 h2

/-- Forgetting a slot. -/
theorem St.forget (h : St g w0 base F ι β G env H a w) (d : Nat) : St g w0 base F ι β G (env.set d .any) H a w := by
  refine ⟨h.heap, h.sub, h.frm, h.dis, by simp [h.len], fun s x cx h1 h2 => ?_, h.binj, h.bout, h.bin, h.nodef⟩
  by_cases hsd : d = s
  · subst hsd
    have hlt : d < env.length := by
      have := (List.getElem?_eq_some_iff.1 h1).1; simpa using this
    simp [hlt] at h1
    subst h1
    unfold SlotRel; split
    · exact .inl rfl
    · split
      · exact .inl rfl
      · exact .any _
  · simp [hsd] at h1
    exact h.slot s x cx h1 h2

theorem SlotRel.any (s : Nat) (cv : Value) : SlotRel g w0 base ι β G s .any cv := by
  unfold SlotRel; split
  · exact .inl rfl
  · split
    · exact .inl rfl
    · exact .any _

/-- Less of the heap. -/
theorem St.weaken (h : St g w0 base F ι β G env H a w) {H' : Heap} (hs : Abs.sub H' H) : St g w0 base F ι β G env H' a w :=
  ⟨h.heap, sub_trans hs h.sub, h.frm, fun o x hx => h.dis o x (hs o x hx), h.len, h.slot, h.binj, fun s i hi =>
    ⟨by
      cases hx : H' i with
      | none => rfl
      | some x => (have := (h.bout s i hi).1; rw [hs i x hx] at this; cases this), (h.bout s i hi).2⟩, h.bin, h.nodef⟩

end
end Go.Abs
/-
The abstract layer, part C: the abstract operations and the predicate transformer.
-/
namespace Go.Abs

def bnd {α : Type} (o : Option α) (K : α → Prop) : Prop := match o with | some v => K v | none => False
@[simp] theorem bnd_some {α : Type} (v : α) (K : α → Prop) : bnd (some v) K = K v := rfl
theorem bnd_elim {α : Type} {o : Option α} {K : α → Prop} (h : bnd o K) : ∃ v, o = some v ∧ K v := by
  cases o with
  | none => exact h.elim
  | some v => exact ⟨v, rfl, h⟩

def vOf1 : Value → Option V
  | .int k n => some (.int k n)
  | .bool b => some (.bool b)
  | .pointer none => some .nilp
  | .slice none 0 0 => some .nils
  | .nilFunc => some .nilf
  | _ => none
def vOfs : List Value → Option (List V)
  | [] => some []
  | x :: xs => match vOf1 x, vOfs xs with | some v, some vs => some (v :: vs) | _, _ => none
def vOf : Value → Option V
  | .agg cs => match vOfs cs.toList with | some vs => some (.agg vs) | none => none
  | v => vOf1 v

def ev (g : Cfg) (env : List V) : Operand → Option V
  | .tmp t => match g.loc t with | true => none | false => env[t]?
  | .const v => vOf v
  | .func f => some (.fn f [])
  | .global _ => none
def evs (g : Cfg) (env : List V) : List Operand → Option (List V)
  | [] => some []
  | x :: xs => match ev g env x, evs g env xs with | some v, some vs => some (v :: vs) | _, _ => none
def evo (g : Cfg) (env : List V) : Option Operand → Option (Option V)
  | none => some none
  | some x => match ev g env x with | some v => some (some v) | none => none
def evp (g : Cfg) (env : List V) : List (Nat × Operand) → Option (List (Nat × V))
  | [] => some []
  | (i, x) :: xs => match ev g env x, evp g env xs with | some v, some vs => some ((i, v) :: vs) | _, _ => none

/-! #### types -/
def tSize (P : Program) (t : TypeId) : Option Nat := match P.info? t with | some i => some i.size | none => none
def tBytes (P : Program) (t : TypeId) : Option Nat := match P.info? t with | some i => some i.bytes | none => none
def tAgg (P : Program) (t : TypeId) : Option Bool := match P.underlying t with | some (.struct _) => some true | some (.array _ _) => some true | some _ => some false | none => none
def tElem (P : Program) (t : TypeId) : Option TypeId := match P.underlying t with | some (.slice e) => some e | _ => none
def tOff (P : Program) (t : TypeId) (f : Nat) : Option (Nat × TypeId) :=
  match P.underlying t with
  | some (.struct fs) => match fs[f]? with
    | some fd => match tSize P fd.type with | some (_ + 1) => some (fd.offset, fd.type) | _ => none
    | none => none
  | _ => none
def tZero (P : Program) (t : TypeId) : Option V := match P.info? t with
  | some i => match i.zero with | some z => vOf z | none => none
  | none => none

/-! #### memory -/
def partOf (agg : Bool) (sz : Nat) (cs : List V) (c : Nat) : Option V :=
  match agg with
  | true => if c + sz ≤ cs.length then some (.agg ((cs.drop c).take sz)) else none
  | false => cs[c]?
def ldc (P : Program) (t : TypeId) (cs : List V) (c : Nat) : Option V :=
  match tAgg P t, tSize P t with | some b, some sz => partOf b sz cs c | _, _ => none
def rowAt (H : Heap) (o r : Nat) : Option (List V) := match H o with | some ob => ob.rows[r]? | none => none
def aLd (b : Bool) (sz : Nat) (H : Heap) : V → Option V
  | .ptr o r c => match rowAt H o r with | some row => partOf b sz row c | none => none
  | .rop row c => partOf b sz row c
  | _ => none
def aLoad (P : Program) (H : Heap) (t : TypeId) (v : V) : Option V := match tAgg P t, tSize P t with | some b, some sz => aLd b sz H v | _, _ => none
def putCells (row : List V) (c : Nat) (cs : List V) : List V := row.take c ++ cs ++ row.drop (c + cs.length)
def notAny : V → Bool
  | .any => false
  | _ => true
def stz (sz : Nat) (row : List V) (c : Nat) (v : V) : Option (List V) :=
  if ((cellsOf v).length == sz && decide (c + sz ≤ row.length) && (cellsOf v).all cellOk) = true then some (putCells row c (cellsOf v)) else none
def stc (P : Program) (t : TypeId) (row : List V) (c : Nat) (v : V) : Option (List V) := match tSize P t with | some sz => stz sz row c v | none => none
def aSt (sz : Nat) (H : Heap) (p v : V) : Option Heap :=
  match p with
  | .ptr o r c => match H o with
    | some ob => match ob.rows[r]? with
      | some row => match stz sz row c v with
        | some row' => some (upd H o ⟨ob.w, ob.rows.set r row'⟩)
        | none => none
      | none => none
    | none => none
  | _ => none
def aStore (P : Program) (H : Heap) (t : TypeId) (p v : V) : Option Heap := match tSize P t with | some sz => aSt sz H p v | none => none
def aField (off : Nat) : V → Option V
  | .ptr o r c => some (.ptr o r (c + off))
  | .rop row c => some (.rop row (c + off))
  | _ => none
def natOf : V → Option Nat
  | .int _ k => if 0 ≤ k then some k.toNat else none
  | _ => none
def aIndex (H : Heap) (sz : Nat) (x i : V) : Option V :=
  match x, i with
  | .slice o s n _, .int _ k => if 0 ≤ k ∧ k < n then
      match H o with
      | some ob => if ob.w = sz then some (.ptr o (s + k.toNat) 0) else none
      | none => none
    else none
  | .ro rows, .int _ k => if 0 ≤ k then
      match rows[k.toNat]? with
      | some row => if row.length = sz then some (.rop row 0) else none
      | none => none
    else none
  | _, _ => none
def bound (d : Nat) : Option V → Option Nat
  | none => some d
  | some v => natOf v
def aSlice (H : Heap) (sz : Nat) (x : V) (lo hi mx : Option V) : Option V :=
  match x with
  | .slice o s n cap => match H o with
    | some ob => if ob.w = sz then
        match bound 0 lo, bound n hi, mx with
        | some l, some h, none => match cap with
          | some k => if l ≤ h ∧ h ≤ k then some (.slice o (s + l) (h - l) (some (k - l))) else none
          | none => if l ≤ h ∧ h ≤ n then some (.slice o (s + l) (h - l) none) else none
        | some l, some h, some mv => match natOf mv, hi with
          | some m, some _ => if l ≤ h ∧ h ≤ m ∧ m ≤ cap.getD n then some (.slice o (s + l) (h - l) (some (m - l))) else none
          | _, _ => none
        | _, _, _ => none
      else none
    | none => none
  | .nils => match bound 0 lo, bound 0 hi, mx with
    | some 0, some 0, none => some .nils
    | some 0, some 0, some mv => match natOf mv, hi with
      | some 0, some _ => some .nils
      | _, _ => none
    | _, _, _ => none
  | _ => none
def rowsOf (H : Heap) (sz : Nat) : V → Option (List (List V))
  | .slice o s n _ => match H o with
    | some ob => if ob.w = sz ∧ s + n ≤ ob.rows.length then some ((ob.rows.drop s).take n) else none
    | none => none
  | .nils => some []
  | _ => none
def lenOf : V → Option Nat
  | .slice _ _ n _ => some n
  | .nils => some 0
  | .ro rows => some rows.length
  | _ => none

/-! #### numbers -/
def aEqFs (P : Program) (rec_ : TypeId → V → V → Option Bool) (xs ys : List V) : List Field → Option Bool
  | [] => some true
  | f :: fs => match f.name == "_" with
    | true => none
    | false => match ldc P f.type xs f.offset, ldc P f.type ys f.offset with
      | some a, some b => match rec_ f.type a b, aEqFs P rec_ xs ys fs with
        | some p, some q => some (p && q)
        | _, _ => none
      | _, _ => none
def aEqT (P : Program) : Nat → TypeId → V → V → Option Bool
  | 0, _, _, _ => none
  | d + 1, t, x, y => match x, y with
    | .int k a, .int k' b => match P.underlying t with | some (.int _) => if k = k' then some (a == b) else none | _ => none
    | .bool a, .bool b => match P.underlying t with | some .bool => some (a == b) | _ => none
    | .nils, .nils => match P.underlying t with | some (.slice _) => some true | _ => none
    | .slice _ _ _ _, .nils => match P.underlying t with | some (.slice _) => some false | _ => none
    | .nils, .slice _ _ _ _ => match P.underlying t with | some (.slice _) => some false | _ => none
    | .agg xs, .agg ys => match P.underlying t with
      | some (.struct fs) => match P.stoodInHeld t with
        | false => aEqFs P (aEqT P d) xs ys fs.toList
        | true => none
      | _ => none
    | _, _ => none
def aEq (P : Program) (t : TypeId) (x y : V) : Option Bool :=
  match x with
  | .agg _ => match P.eqGuardType P.depth t with | false => aEqT P 4 t x y | true => none
  | _ => aEqT P 4 t x y
def aNum (op : BinOp) (k : IntKind) (a : Int) (k' : IntKind) (b : Int) : Option V :=
    match op with
    | .shl => if b < 0 then none else some (.int k (k.wrap (a * 2 ^ (min b.toNat k.bits))))
    | .shr => if b < 0 then none else some (.int k (a.fdiv (2 ^ (min b.toNat k.bits))))
    | _ => if k = k' then
      match op with
      | .add => some (.int k (k.wrap (a + b)))
      | .sub => some (.int k (k.wrap (a - b)))
      | .mul => some (.int k (k.wrap (a * b)))
      | .quo => if b = 0 then none else some (.int k (k.wrap (a.tdiv b)))
      | .rem => if b = 0 then none else some (.int k (a.tmod b))
      | .and => some (.int k (k.wrap ((BitVec.ofInt k.bits a) &&& (BitVec.ofInt k.bits b)).toNat))
      | .or => some (.int k (k.wrap ((BitVec.ofInt k.bits a) ||| (BitVec.ofInt k.bits b)).toNat))
      | .xor => some (.int k (k.wrap ((BitVec.ofInt k.bits a) ^^^ (BitVec.ofInt k.bits b)).toNat))
      | .eql => some (.bool (a == b))
      | .neq => some (.bool (a != b))
      | .lss => some (.bool (decide (a < b)))
      | .leq => some (.bool (decide (a ≤ b)))
      | .gtr => some (.bool (decide (a > b)))
      | .geq => some (.bool (decide (a ≥ b)))
      | _ => none
      else none
def aBin (P : Program) (op : BinOp) (t : TypeId) (x y : V) : Option V :=
  match x, y with
  | .int k a, .int k' b => aNum op k a k' b
  | x, y => match op with
    | .eql => match aEq P t x y with | some b => some (.bool b) | none => none
    | .neq => match aEq P t x y with | some b => some (.bool (!b)) | none => none
    | _ => none
def aBinN (op : BinOp) (x y : V) : Option V := match x, y with | .int k a, .int k' b => aNum op k a k' b | _, _ => none
def aBinB (op : BinOp) (x y : V) : Option V := match x, y with
  | .bool a, .bool b => (match op with | .eql => some (.bool (a == b)) | .neq => some (.bool (!(a == b))) | _ => none)
  | _, _ => none
def isNil : V → Option Bool | .nils => some true | .slice _ _ _ _ => some false | _ => none
def aBinZ (op : BinOp) (x y : V) : Option V := match y with
  | .nils => (match isNil x with | some b => (match op with | .eql => some (.bool b) | .neq => some (.bool (!b)) | _ => none) | none => none)
  | _ => none
inductive Sh | num | bool | slice | other
def shOf (P : Program) (t : TypeId) : Sh := match P.underlying t with | some (.int _) => .num | some .bool => .bool | some (.slice _) => .slice | _ => .other
def aBinS (P : Program) (op : BinOp) (t : TypeId) (x y : V) : Option V := match shOf P t with
  | .num => aBinN op x y | .bool => aBinB op x y | .slice => aBinZ op x y | .other => aBin P op t x y
theorem aBinS_le {P : Program} {op : BinOp} {t : TypeId} {x y v : V} (h : aBinS P op t x y = some v) : aBin P op t x y = some v := by
  unfold aBinS at h
  split at h
  · unfold aBinN at h
    split at h
    · exact h
    · cases h
  · rename_i hs
    have hu : P.underlying t = some .bool := by
      unfold shOf at hs; split at hs <;> first | assumption | cases hs
    unfold aBinB at h
    split at h
    · split at h
      · simpa [aBin, aEq, aEqT, hu] using h
      · simpa [aBin, aEq, aEqT, hu] using h
      · cases h
    · cases h
  · rename_i hs
    obtain ⟨e, hu⟩ : ∃ e, P.underlying t = some (.slice e) := by
      unfold shOf at hs; split at hs <;> first | exact ⟨_, by assumption⟩ | cases hs
    unfold aBinZ at h
    split at h
    · unfold isNil at h
      cases x <;> simp at h <;> (split at h <;> first | cases h | skip) <;> (simp [aBin, aEq, aEqT, hu]; try exact h)
    · cases h
  · exact h
def aNot : V → Option V | .bool b => some (.bool (!b)) | _ => none
def aNeg : V → Option V | .int k n => some (.int k (k.wrap (0 - n))) | _ => none
def aCv (k : IntKind) : V → Option V | .int _ n => some (.int k (k.wrap n)) | _ => none
def convTo (P : Program) (s d : TypeId) : Option IntKind := match P.underlying s, P.underlying d with | some (.int _), some (.int k) => some k | _, _ => none
def aConv (P : Program) (s d : TypeId) (x : V) : Option V := match convTo P s d with | some k => aCv k x | none => none
def aPick (c a b : V) : Option V := match c with | .bool t => some (match t with | true => a | false => b) | _ => none
def aExtract (i : Nat) : V → Option V | .tup vs => vs[i]? | _ => none
def aMin2 (mx : Bool) : V → V → Option V
  | .int k x, .int k' y => if k = k' then some (.int k (match mx with | true => if y > x then y else x | false => if y < x then y else x)) else none
  | _, _ => none
def aMins (mx : Bool) : V → List V → Option V
  | x, [] => some x
  | x, y :: ys => match aMin2 mx x y with | some z => aMins mx z ys | none => none

def structOk (P : Program) (t : TypeId) : Bool := match P.underlying t with | some (.struct fs) => fs.toList.all fun f => (P.info? f.type).isSome | _ => false
def placesOf (P : Program) (t : TypeId) : List (Nat × V) → Option (List (Nat × Nat × V))
  | [] => some []
  | (i, v) :: rest => match tOff P t i, placesOf P t rest with
    | some (off, ft), some r => match tSize P ft with
      | some sz => some ((off, sz, v) :: r)
      | none => none
    | _, _ => none
def fillZ : List V → List (Nat × Nat × V) → Option (List V)
  | cs, [] => some cs
  | cs, (off, sz, v) :: rest => if ((cellsOf v).length == sz && decide (off + sz ≤ cs.length) && notAny v) = true then fillZ (putCells cs off (cellsOf v)) rest else none
def fillS (P : Program) (t : TypeId) (cs : List V) (ps : List (Nat × V)) : Option (List V) := match placesOf P t ps with | some r => fillZ cs r | none => none

/-! #### the predicate transformer -/

inductive Ex where
  | normal
  | exit (id : Nat)
  | ret

/-- A call, on the abstract side: whatever the rest of the memory. -/
structure ACalls (P : Program) (f : FuncId) (args : List V) (H : Heap) (R : V → Heap → Prop) : Prop where
  run : ∀ (w0 : World) (base : Nat) (F : Heap) (ι : Nat → Option Place) (G : Heap) (w : World) (cargs : List Value),
    RelH w0 base ι G w → sub H G → sub F G → disj H F → RelL w0 base ι args cargs →
    Calls P f cargs.toArray w fun e w' => ∃ v cv ι' G' H', e = .returned cv ∧ RelV w0 base ι' v cv ∧ ile ι ι' ∧ RelH w0 base ι' G' w' ∧ sub H' G' ∧ sub F G' ∧ disj H' F ∧ R v H'

/-- A slot is turned: the list is walked and handed on written out. -/
def setK : List V → Nat → V → (List V → Prop) → Prop
  | [], _, _, K => K []
  | _ :: r, 0, v, K => K (v :: r)
  | x :: r, n + 1, v, K => setK r n v fun ys => K (x :: ys)
theorem setK_eq : ∀ (xs : List V) (d : Nat) (v : V) (K : List V → Prop), setK xs d v K = K (xs.set d v)
  | [], _, _, _ => rfl
  | _ :: _, 0, _, _ => rfl
  | x :: r, n + 1, v, K => by simp only [setK, List.set]; rw [setK_eq]
def putK (g : Cfg) (env : List V) (dst : Option Tmp) (v : V) (K : List V → Prop) : Prop :=
  match dst with
  | none => K env
  | some d => match g.loc d with | true => False | false => setK env d v K

/-- What is passed over yields nothing. -/
def skipDst (g : Cfg) (env : List V) (dst : Option Tmp) : List V := match dst with | none => env | some d => (match g.loc d with | true => env.set d .any | false => env.set d (.tup []))

/-- A callee that may be entered. -/
def enterable (P : Program) (f : FuncId) : Bool := match P.funcs[f]? with
  | some fn => fn.body.isSome && !(fn.name == "runtime.NumGoroutine")
  | none => false

def clr (ds : List Nat) (env : List V) : List V := match ds with | [] => env | d :: ds => clr ds (env.set d .any)

def newBox (g : Cfg) (env : List V) (H : Heap) (dst : Option Tmp) (cs : List V) (K : List V → Heap → Prop) : Prop :=
  match dst with
  | none => False
  | some d => match g.L.contains d with
    | true => setK (clr g.R env) d (.box cs) fun e => K e H
    | false => match g.R.contains d with
      | true => False
      | false => ∀ o, H o = none → setK env d (.ptr o 0 0) fun e => K e (upd H o ⟨cs.length, [cs]⟩)

inductive Loc where
  | heap (v : V)
  | here (s c : Nat) (cs : List V)

/-- Where an address operand leads. -/
def locOf (g : Cfg) (env : List V) : Operand → Option Loc
  | .tmp t => match g.L.contains t with
    | true => match env[t]? with | some (.box cs) => some (.here t 0 cs) | _ => none
    | false => match g.R.contains t with
      | true => match env[t]? with
        | some (.lref s c) => match g.L.contains s with | true => (match env[s]? with | some (.box cs) => some (.here s c cs) | _ => none) | false => none
        | _ => none
      | false => match env[t]? with | some v => some (.heap v) | none => none
  | x => match ev g env x with | some v => some (.heap v) | none => none

def aLoadL (P : Program) (H : Heap) (t : TypeId) : Loc → Option V
  | .heap v => aLoad P H t v
  | .here _ c cs => ldc P t cs c

def storeK (P : Program) (env : List V) (H : Heap) (t : TypeId) (v : V) (l : Loc) (K : List V → Heap → Prop) : Prop :=
  match l with
  | .heap p => bnd (aStore P H t p v) fun H' => K env H'
  | .here s c cs => bnd (stc P t cs c v) fun cs' => setK env s (.box cs') fun e => K e H

def fieldK (g : Cfg) (env : List V) (dst : Option Tmp) (off : Nat) (l : Loc) (K : List V → Prop) : Prop :=
  match l with
  | .heap p => bnd (aField off p) fun v => putK g env dst v K
  | .here s c _ => match dst with
    | none => K env
    | some d => match g.L.contains d with
      | true => False
      | false => match g.R.contains d with
        | true => setK env d (.lref s (c + off)) K
        | false => False

def appendK (H : Heap) (sz bytes : Nat) (s : V) (xs : List (List V)) (K : V → Heap → Prop) : Prop :=
  match s with
  | .nils => (xs = [] → K .nils H) ∧ (xs ≠ [] → xs.length * bytes ≤ 140737488355328 ∧ ∀ o, H o = none → K (.slice o 0 xs.length none) (upd H o ⟨sz, xs⟩))
  | .slice o st n cap => match H o with
    | none => False
    | some ob => ob.w = sz ∧ st + n ≤ ob.rows.length ∧ (xs = [] → K (.slice o st n cap) H) ∧ (xs ≠ [] → (n + xs.length) * bytes ≤ 140737488355328 ∧
        match cap with
        | none => st = 0 ∧ ∀ o', H o' = none → K (.slice o' 0 (n + xs.length) none) (upd (del H o) o' ⟨sz, ob.rows.take n ++ xs⟩)
        | some k => (n + xs.length ≤ k → st + n + xs.length ≤ ob.rows.length ∧ K (.slice o st (n + xs.length) (some k)) (upd H o ⟨sz, ob.rows.take (st + n) ++ xs ++ ob.rows.drop (st + n + xs.length)⟩)) ∧
          (k < n + xs.length → ∀ o', H o' = none → K (.slice o' 0 (n + xs.length) none) (upd H o' ⟨sz, (ob.rows.drop st).take n ++ xs⟩)))
  | _ => False

def copyK (H : Heap) (sz : Nat) (d : V) (xs : List (List V)) (K : V → Heap → Prop) : Prop :=
  match d with
  | .nils => K (.int .i64 0) H
  | .slice o st n _ => match H o with
    | none => False
    | some ob => ob.w = sz ∧ st + n ≤ ob.rows.length ∧
      K (.int .i64 (min xs.length n)) (upd H o ⟨sz, ob.rows.take st ++ xs.take n ++ ob.rows.drop (st + min xs.length n)⟩)
  | _ => False

def clearK (H : Heap) (sz : Nat) (z : List V) (d : V) (K : V → Heap → Prop) : Prop :=
  match d with
  | .nils => K (.tup []) H
  | .slice o st n _ => match H o with
    | none => False
    | some ob => ob.w = sz ∧ st + n ≤ ob.rows.length ∧ z.length = sz ∧ K (.tup []) (upd H o ⟨sz, ob.rows.take st ++ List.replicate n z ++ ob.rows.drop (st + n)⟩)
  | _ => False

def capK (H : Heap) (x : V) (K : V → Heap → Prop) : Prop :=
  match x with
  | .slice _ _ n none => ∀ c, n ≤ c → K (.int .i64 (c : Nat)) H
  | .slice _ _ _ (some k) => K (.int .i64 (k : Nat)) H
  | .nils => K (.int .i64 0) H
  | _ => False

/-- So many new cells of nothing appended, with growth. -/
def growZ (H : Heap) (sz by_ : Nat) (z : List V) (s x : V) (K : V → Heap → Prop) : Prop :=
  match s, x with
  | .slice o st n (some k), .int _ m => match H o with
    | none => False
    | some ob => ob.w = sz ∧ st + n ≤ ob.rows.length ∧ 0 ≤ m ∧ m ≤ 9223372036854775807 ∧ k < n + m.toNat ∧ (n + m.toNat) * by_ ≤ 140737488355328 ∧
        ∀ o', H o' = none → K (.slice o' 0 (n + m.toNat) none) (upd H o' ⟨sz, (ob.rows.drop st).take n ++ List.replicate m.toNat z⟩)
  | _, _ => False
def tInt (P : Program) (t : TypeId) : Bool := match P.underlying t with | some (.int _) => true | _ => false

def builtinK (P : Program) (H : Heap) (b : Builtin) (tys : List TypeId) (args : List V) (K : V → Heap → Prop) : Prop :=
  match b, tys, args with
  | .len, [t], [x] => bnd (tElem P t) fun _ => bnd (lenOf x) fun n => K (.int .i64 n) H
  | .cap, [t], [x] => bnd (tElem P t) fun _ => capK H x K
  | .append, [t, t'], [s, x] => if t = t' then bnd (tElem P t) fun e => bnd (tSize P e) fun sz => bnd (tBytes P e) fun by_ => bnd (tZero P e) fun z => if (cellsOf z).length = sz ∧ 0 < sz ∧ 0 < by_ then bnd (rowsOf H sz x) fun xs => appendK H sz by_ s xs K else False else bnd (tElem P t) fun e => bnd (tSize P e) fun sz => bnd (tBytes P e) fun by_ => bnd (tZero P e) fun z => if tInt P t' = true ∧ (cellsOf z).length = sz ∧ 0 < sz ∧ 0 < by_ then growZ H sz by_ (cellsOf z) s x K else False
  | .copy, [t, _], [d, x] => bnd (tElem P t) fun e => bnd (tSize P e) fun sz => bnd (rowsOf H sz x) fun xs => copyK H sz d xs K
  | .clear, [t], [d] => bnd (tElem P t) fun e => bnd (tSize P e) fun sz => bnd (tZero P e) fun z => clearK H sz (cellsOf z) d K
  | .min, _, x :: xs => bnd (aMins false x xs) fun v => K v H
  | .max, _, x :: xs => bnd (aMins true x xs) fun v => K v H
  | _, _, _ => False

def allW (sz : Nat) : List (Nat × V) → Bool
  | [] => true
  | (_, v) :: r => (cellsOf v).length == sz && (cellsOf v).all cellOk && allW sz r
def fillR (rows : List (List V)) : List (Nat × V) → Option (List (List V))
  | [] => some rows
  | (i, v) :: rest => if i < rows.length then fillR (rows.set i (cellsOf v)) rest else none

def bsl (sz len : Nat) (z : List V) (ps : List (Nat × V)) : Option (List (List V)) :=
  if (allW sz ps && decide (len * sz ≤ 16777216) && decide (z.length = sz) && decide (0 < sz)) = true then fillR (List.replicate len z) ps else none

/-- A function without a body that the model answers for: whether two slices overlap. -/
def ovE (P : Program) (f : FuncId) : Prop := ∃ (fn : Func) (t r e : TypeId) (size : Nat), P.funcs[f]? = some fn ∧ (fn.name == "runtime.NumGoroutine") = false ∧ fn.body.isNone = true ∧ Extern.findNext fn = none ∧
  Extern.find fn = some (Extern.SlicesOverlaps.overlaps #[t, t] #[r]) ∧ P.underlying t = some (.slice e) ∧ tSize P e = some size
/-- Two slices in two objects. -/
def extK (P : Program) (H : Heap) (f : FuncId) (args : List V) (K : V → Heap → Prop) : Prop :=
  ovE P f ∧ ∃ o1 s1 n1 c1 o2 s2 n2 c2, args = [.slice o1 s1 n1 c1, .slice o2 s2 n2 c2] ∧ (o1 ≠ o2 ∧ 0 < n1 ∧ 0 < n2) ∧ (∃ x, H o1 = some x) ∧ (∃ x, H o2 = some x ∧ x.rows ≠ [] ∧ 0 < x.w) ∧ K (.bool false) H
def callK (P : Program) (H : Heap) (f : V) (args : List V) (K : V → Heap → Prop) : Prop :=
  match f with
  | .fn f caps => match enterable P f with
    | true => ACalls P f (args ++ caps) H K
    | false => match caps with | [] => extK P H f args K | _ => False
  | _ => False

def boxK (v : V) (K : Prop) : Prop := (cellsOf v).all cellOk = true ∧ K
def aggOf : V → Option (List V) | .agg cs => some cs | _ => none
def aNil : V → Option V | .ptr o r c => some (.ptr o r c) | .rop r c => some (.rop r c) | _ => none
def cnd (v : V) (A B : Prop) : Prop := match v with | .bool t => (match t with | true => A | false => B) | _ => False

def opK (P : Program) (g : Cfg) (o : Oper) (env : List V) (H : Heap) (K : List V → Heap → Prop) : Prop :=
  let put (v : V) : Prop := putK g env o.dst v fun env' => K env' H
  let putH (v : V) (H' : Heap) : Prop := putK g env o.dst v fun env' => K env' H'
  match o.op with
  | .move x => bnd (ev g env x) put
  | .assign x => bnd (ev g env x) put
  | .pick c a b => bnd (ev g env c) fun c => bnd (ev g env a) fun a => bnd (ev g env b) fun b => bnd (aPick c a b) put
  | .alloc t => bnd (tZero P t) fun z => newBox g env H o.dst (cellsOf z) K
  | .box _ x => bnd (ev g env x) fun v => boxK v (newBox g env H o.dst (cellsOf v) K)
  | .build t parts => bnd (evp g env parts.toList) fun ps => bnd (tZero P t) fun z => match structOk P t with
    | true => bnd (fillS P t (cellsOf z) ps) fun cs => put (.agg cs)
    | false => False
  | .buildSlice t len parts => bnd (evp g env parts.toList) fun ps => bnd (tElem P t) fun e => bnd (tSize P e) fun sz => bnd (tZero P e) fun z =>
    bnd (bsl sz len (cellsOf z) ps) fun rows => ∀ o, H o = none → putH (.slice o 0 len (some len)) (upd H o ⟨sz, rows⟩)
  | .load t x => bnd (locOf g env x) fun l => bnd (aLoadL P H t l) put
  | .store t x v => match o.dst with
    | none => bnd (locOf g env x) fun l => bnd (ev g env v) fun v => storeK P env H t v l K
    | some _ => False
  | .fieldAddr t x f => bnd (locOf g env x) fun l => bnd (tOff P t f) fun off => fieldK g env o.dst off.1 l fun env' => K env' H
  | .field t x f => bnd (ev g env x) fun v => bnd (tOff P t f) fun off => bnd (aggOf v) fun cs => bnd (ldc P off.2 cs off.1) put
  | .indexAddr t x i => bnd (ev g env x) fun x => bnd (ev g env i) fun i => bnd (tElem P t) fun e => bnd (tSize P e) fun sz => bnd (aIndex H sz x i) put
  | .slice t x lo hi mx => bnd (ev g env x) fun x => bnd (evo g env lo) fun lo => bnd (evo g env hi) fun hi => bnd (evo g env mx) fun mx =>
      bnd (tElem P t) fun e => bnd (tSize P e) fun sz => bnd (aSlice H sz x lo hi mx) put
  | .makeSlice t l c => bnd (ev g env l) fun l => bnd (ev g env c) fun c => bnd (natOf l) fun l => bnd (natOf c) fun c => bnd (tElem P t) fun e => bnd (tSize P e) fun sz => bnd (tBytes P e) fun by_ => bnd (tZero P e) fun z =>
      (l ≤ c ∧ c ≤ 140737488355328 ∧ by_ * c ≤ 281474976710656 ∧ (cellsOf z).length = sz ∧ 0 < sz) ∧ ∀ o, H o = none → putH (.slice o 0 l (some c)) (upd H o ⟨sz, List.replicate c (cellsOf z)⟩)
  | .binOp op t x y _ => bnd (ev g env x) fun x => bnd (ev g env y) fun y => bnd (aBinS P op t x y) put
  | .unOp .not _ x => bnd (ev g env x) fun x => bnd (aNot x) put
  | .unOp .neg _ x => bnd (ev g env x) fun x => bnd (aNeg x) put
  | .convert s d x => bnd (ev g env x) fun x => bnd (aConv P s d x) put
  | .extract x i => bnd (ev g env x) fun x => bnd (aExtract i x) put
  | .nilCheck x => bnd (ev g env x) fun x => bnd (aNil x) put
  | .makeFunc (.func f) first caps => match first.toList with
    | [] => bnd (evs g env caps.toList) fun cs => put (.fn f cs)
    | _ => False
  | .call c => match c.callee with
    | .value f => bnd (ev g env f) fun f => bnd (evs g env c.args.toList) fun args => callK P H f args putH
    | .builtin b => bnd (evs g env c.args.toList) fun args => builtinK P H b c.argTypes.toList args putH
    | _ => False
  | _ => False

/-- Two ways, by a Bool. -/
def gb (b : Bool) (A B : Prop) : Prop := match b with | true => A | false => B
/-- A guard that has yielded v: the operation is wanted, or it is passed over. -/
def gd (v : V) (want : Bool) (A B : Prop) : Prop := match v with
  | .bool b => match want with | true => gb b A B | false => gb b B A
  | _ => False
/-- A guard that may itself have been passed over. -/
def gd3 (v : V) (want : Bool) (A B C : Prop) : Prop := match v with
  | .bool b => match want with | true => gb b A B | false => gb b B A
  | .tup [] => C
  | _ => False
/-- Behind the guard its slot is known. -/
def guardK (ops : List Oper) (env : List V) (j : Nat) (want : Bool) (A B : List V → Prop) : Prop :=
  match ops[j]? with
  | some o => match o.dst with
    | some t => match env[t]? with
      | some v => match o.guard.isSome with
        | false => gd v want (setK env t (.bool want) A) (setK env t (.bool (!want)) B)
        | true => gd3 v want (setK env t (.bool want) A) (setK env t (.bool (!want)) B) (setK env t (.tup []) B)
      | none => False
    | none => False
  | none => False

/-- The operations of a region, in the order of the text. -/
def opsK (P : Program) (g : Cfg) (ops : List Oper) : List Oper → List V → Heap → (List V → Heap → Prop) → Prop
  | [], env, H, K => K env H
  | o :: rest, env, H, K =>
    match o.guard with
    | none => opK P g o env H fun env' H' => opsK P g ops rest env' H' K
    | some (j, want) => guardK ops env j want (fun env => opK P g o env H fun env' H' => opsK P g ops rest env' H' K)
        (fun env => opsK P g ops rest (skipDst g env o.dst) H K)

end Go.Abs
/-
The abstract layer, part D: each abstract operation is sound.
-/
namespace Go.Abs
open Go.RowKit (Below)

section
variable {P : Program} {g : Cfg} {w0 : World} {base : Nat} {F : Heap} {ι : Nat → Option Place} {β : Nat → Option Nat} {G : Heap} {env : List V} {H : Heap} {a : Act} {w : World}

theorem vOf1_sound {c : Value} {v : V} (h : vOf1 c = some v) : RelV w0 base ι v c := by
  unfold vOf1 at h
  split at h <;> first | (cases h; constructor) | cases h

theorem vOfs_sound : ∀ {cs : List Value} {vs : List V}, vOfs cs = some vs → RelL w0 base ι vs cs
  | [], vs, h => by simp [vOfs] at h; subst h; exact RelL.nil
  | c :: cs, vs, h => by
    unfold vOfs at h
    split at h
    · rename_i x xs h1 h2; cases h; exact RelL.cons (vOf1_sound h1) (vOfs_sound h2)
    · cases h

theorem vOf_sound {c : Value} {v : V} (h : vOf c = some v) : RelV w0 base ι v c := by
  unfold vOf at h
  split at h
  · split at h
    · rename_i cs vs h1; cases h; simpa using relV_agg (vOfs_sound h1)
    · cases h
  · exact vOf1_sound h

theorem vOf1_notAny {c : Value} {v : V} (h : vOf1 c = some v) : notAny v = true := by
  unfold vOf1 at h
  split at h <;> first | (cases h; rfl) | cases h
theorem vOf_notAny {c : Value} {v : V} (h : vOf c = some v) : notAny v = true := by
  unfold vOf at h
  split at h
  · split at h
    · cases h; rfl
    · cases h
  · exact vOf1_notAny h
theorem vOf1_ok {c : Value} {v : V} (h : vOf1 c = some v) : cellOk v = true := by
  unfold vOf1 at h
  split at h <;> first | (cases h; rfl) | cases h
theorem vOfs_ok : ∀ {cs : List Value} {vs : List V}, vOfs cs = some vs → vs.all cellOk = true
  | [], vs, h => by simp [vOfs] at h; subst h; rfl
  | c :: cs, vs, h => by
    unfold vOfs at h
    split at h
    · rename_i x xs h1 h2; cases h; simp only [List.all_cons, Bool.and_eq_true]; exact ⟨vOf1_ok h1, vOfs_ok h2⟩
    · cases h
theorem vOf_ok {c : Value} {v : V} (h : vOf c = some v) : (cellsOf v).all cellOk = true := by
  unfold vOf at h
  split at h
  · split at h
    · rename_i cs vs h1; cases h; exact vOfs_ok h1
    · cases h
  · have := vOf1_ok h
    cases v <;> first | (simp [cellOk] at this; done) | (simp [cellsOf, cellOk])
theorem notAny_of_ok {v : V} (h : (cellsOf v).all cellOk = true) : v ≠ .any := by
  rintro rfl; simp [cellsOf, cellOk] at h
theorem notAny_ne {v : V} (h : notAny v = true) : v ≠ .any := by rintro rfl; cases h

theorem ev_sound (hs : St g w0 base F ι β G env H a w) {x : Operand} {v : V} (h : ev g env x = some v) : RelV w0 base ι v (a.eval x) := by
  cases x with
  | tmp t =>
    simp only [ev] at h
    cases hl : g.loc t with
    | true => rw [hl] at h; cases h
    | false => rw [hl] at h; exact hs.val hl h
  | const c => exact vOf_sound h
  | global g' => simp [ev] at h
  | func f => simp only [ev, Option.some.injEq] at h; subst h; exact .fn rfl (fun i h1 => by simp at h1)

theorem evs_sound (hs : St g w0 base F ι β G env H a w) : ∀ {xs : List Operand} {vs : List V}, evs g env xs = some vs → RelL w0 base ι vs (xs.map a.eval)
  | [], vs, h => by simp [evs] at h; subst h; exact RelL.nil
  | x :: xs, vs, h => by
    unfold evs at h
    split at h
    · rename_i v vs' h1 h2; cases h; exact RelL.cons (ev_sound hs h1) (evs_sound hs h2)
    · cases h

theorem wp_value {o : Oper} {next : Act → World → Prop} {Q : Exit → Act → World → Prop} {cv : Value} {w' : World} (h : (execOp a.eval o).run P w = .ok (.value cv) w') (hn : next (a.put o.dst cv) w') : o.wp P a w next Q := by
  unfold Oper.wp; rw [h]; exact hn
theorem wp_skipv {o : Oper} {next : Act → World → Prop} {Q : Exit → Act → World → Prop} {w' : World} (h : (execOp a.eval o).run P w = .ok .skip w') (hn : next (a.put o.dst undef) w') : o.wp P a w next Q := by
  unfold Oper.wp; rw [h]; exact hn

theorem putK_sound (hs : St g w0 base F ι β G env H a w) {dst : Option Tmp} {v : V} {cv : Value} {K : List V → Prop} (hv : RelV w0 base ι v cv) (hk : putK g env dst v K) :
    ∃ env', K env' ∧ St g w0 base F ι β G env' H (a.put dst cv) w := by
  cases dst with
  | none => exact ⟨env, hk, hs⟩
  | some d =>
    simp only [putK, setK_eq] at hk
    cases hl : g.loc d with
    | true => rw [hl] at hk; exact hk.elim
    | false => rw [hl] at hk; exact ⟨_, hk, hs.put ((SlotRel.plain hl).2 hv)⟩

theorem skipDst_sound (hs : St g w0 base F ι β G env H a w) (dst : Option Tmp) : St g w0 base F ι β G (skipDst g env dst) H (a.put dst undef) w := by
  cases dst with
  | none => exact hs
  | some d =>
    simp only [skipDst]
    cases hl : g.loc d with
    | true => exact hs.put (SlotRel.any _ _)
    | false => exact hs.put ((SlotRel.plain hl).2 (relV_tup RelL.nil))

/-- The next state: the maps may have grown. -/
def Cont (g : Cfg) (w0 : World) (base : Nat) (F : Heap) (ι : Nat → Option Place) (K : List V → Heap → Prop) (next : Act → World → Prop) : Prop :=
  ∀ ι' β' G' env' H' a' w', ile ι ι' → St g w0 base F ι' β' G' env' H' a' w' → K env' H' → next a' w'

variable {next : Act → World → Prop} {Q : Exit → Act → World → Prop} {K : List V → Heap → Prop}

theorem value_sound (hs : St g w0 base F ι β G env H a w) (hn : Cont g w0 base F ι K next) {o : Oper} {v : V} {cv : Value} (h : (execOp a.eval o).run P w = .ok (.value cv) w)
    (hv : RelV w0 base ι v cv) (hk : putK g env o.dst v fun env' => K env' H) : o.wp P a w next Q := by
  obtain ⟨env', hk', hs'⟩ := putK_sound hs hv hk
  exact wp_value h (hn _ _ _ _ _ _ _ (ile.refl _) hs' hk')

/-! #### the frame's state under a new block -/

theorem SlotRel.grow {ι' : Nat → Option Place} {G' : Heap} (hi : ile ι ι') (hG : ∀ s i x, β s = some i → G i = some x → G' i = some x) {s : Nat} {v : V} {cv : Value} (h : SlotRel g w0 base ι β G s v cv) : SlotRel g w0 base ι' β G' s v cv := by
  unfold SlotRel at *
  split
  · rename_i hl; rw [if_pos hl] at h
    rcases h with h | ⟨cs, id, p, h1, h2, h3, h4, h5⟩
    · exact .inl h
    · exact .inr ⟨cs, id, p, h1, h2, hi _ _ h3, h4, hG s id _ h2 h5⟩
  · rename_i hl; rw [if_neg hl] at h
    split
    · rename_i hr; rw [if_pos hr] at h
      rcases h with h | ⟨s', c, id, p, h1, h2, h3, h4, h5⟩
      · exact .inl h
      · exact .inr ⟨s', c, id, p, h1, h2, h3, hi _ _ h4, h5⟩
    · rename_i hr; rw [if_neg hr] at h; exact h.mono hi

theorem fresh (hs : St g w0 base F ι β G env H a w) : ∃ o, ι o = none ∧ G o = none ∧ H o = none ∧ F o = none ∧ ∀ s, β s ≠ some o := by
  obtain ⟨N, hN⟩ := hs.heap.fin
  refine ⟨N, (hN N (Nat.le_refl _)).1, (hN N (Nat.le_refl _)).2, ?_, ?_, ?_⟩
  · cases h : H N with
    | none => rfl
    | some x => have := hs.sub N x h; rw [(hN N (Nat.le_refl _)).2] at this; cases this
  · cases h : F N with
    | none => rfl
    | some x => have := hs.frm N x h; rw [(hN N (Nat.le_refl _)).2] at this; cases this
  · intro s e; obtain ⟨x, hx⟩ := hs.bin s N e; rw [(hN N (Nat.le_refl _)).2] at hx; cases hx


theorem disj_upd_fresh {H F : Heap} {o : Nat} {ob : Ob} (hd : disj H F) (hF : F o = none) : disj (upd H o ob) F := fun i x hx => by
  by_cases h : i = o
  · subst h; exact hF
  · rw [upd_ne _ _ h] at hx; exact hd i x hx

theorem sub_upd_upd {H G : Heap} {o : Nat} {ob : Ob} (h : Abs.sub H G) : Abs.sub (upd H o ob) (upd G o ob) := fun i x hx => by
  by_cases e : i = o
  · subst e; rw [upd_same] at hx; rw [upd_same]; exact hx
  · rw [upd_ne _ _ e] at hx; rw [upd_ne _ _ e]; exact h i x hx

/-- A new object of the frame's own heap. -/
theorem St.allocH (hs : St g w0 base F ι β G env H a w) {ob : Ob} {cells : Array Value} (ty : TypeId) (hr : RowsRel w0 base ι ob cells) :
    ∃ o ι' G', H o = none ∧ ile ι ι' ∧ St g w0 base F ι' β G' env (upd H o ob) a (w.alloc (.cells cells ty)) ∧ ι' o = some ⟨w.heap.size, ob.w, cells.size⟩ := by
  obtain ⟨o, ho, hG, hH, hF, hb⟩ := fresh hs
  have hi := ile_updP ⟨w.heap.size, ob.w, cells.size⟩ ho
  refine ⟨o, _, _, hH, hi, ⟨hs.heap.alloc ho hG ty hr, sub_upd_upd hs.sub, sub_trans hs.frm (sub_upd _ hG), disj_upd_fresh hs.dis hF, hs.len, fun s v cv h1 h2 => ?_, hs.binj, fun s i hsi => ?_, fun s i hsi => ?_, hs.nodef⟩, by simp [updP]⟩
  · exact (hs.slot s v cv h1 h2).grow hi fun s i x e1 e2 => upd_other hG e2
  · have hne : i ≠ o := by rintro rfl; exact hb s hsi
    rw [upd_ne _ _ hne]; exact hs.bout s i hsi
  · obtain ⟨x, hx⟩ := hs.bin s i hsi
    exact ⟨x, upd_other hG hx⟩

/-- An object of the frame's own heap, written. -/
theorem St.setH (hs : St g w0 base F ι β G env H a w) {o : Nat} {ob ob' : Ob} {p : Place} {cells cells' : Array Value} {ty : TypeId}
    (hH : H o = some ob) (hp : ι o = some p) (hcell : w.heap[p.blk]? = some (.cells cells ty (0, 0))) (hsz : cells'.size = cells.size) (hw : ob'.w = ob.w)
    (hr : RowsRel w0 base ι ob' cells') : St g w0 base F ι β (upd G o ob') env (upd H o ob') a (w.setRow p.blk cells') := by
  have hG := hs.sub o ob hH
  have hF := hs.dis o ob hH
  refine ⟨hs.heap.set hG hp hcell hsz hw hr, sub_upd_upd hs.sub, fun i x hx => ?_, disj_upd_fresh hs.dis hF, hs.len, fun s v cv h1 h2 => ?_, hs.binj, fun s i hsi => ?_, fun s i hsi => ?_, hs.nodef⟩
  · have hne : i ≠ o := by rintro rfl; rw [hF] at hx; cases hx
    rw [upd_ne _ _ hne]; exact hs.frm i x hx
  · refine (hs.slot s v cv h1 h2).grow (ile.refl _) fun s i x e1 e2 => ?_
    have hne : i ≠ o := by rintro rfl; rw [(hs.bout s i e1).1] at hH; cases hH
    rw [upd_ne _ _ hne]; exact e2
  · have hne : i ≠ o := by rintro rfl; rw [(hs.bout s i hsi).1] at hH; cases hH
    rw [upd_ne _ _ hne]; exact hs.bout s i hsi
  · have hne : i ≠ o := by rintro rfl; rw [(hs.bout s i hsi).1] at hH; cases hH
    rw [upd_ne _ _ hne]; exact hs.bin s i hsi

/-- The same, under a new name. -/
theorem St.moveH (hs : St g w0 base F ι β G env H a w) {o : Nat} {ob ob' : Ob} {p : Place} {cells cells' : Array Value} {ty : TypeId}
    (hH : H o = some ob) (hp : ι o = some p) (hcell : w.heap[p.blk]? = some (.cells cells ty (0, 0))) (hsz : cells'.size = cells.size) (hw : ob'.w = ob.w)
    (hr : RowsRel w0 base ι ob' cells') : ∃ o' ι' G', H o' = none ∧ ile ι ι' ∧ ι' o' = some p ∧ St g w0 base F ι' β G' env (upd (del H o) o' ob') a (w.setRow p.blk cells') := by
  have hG := hs.sub o ob hH
  have hF := hs.dis o ob hH
  obtain ⟨o', ho, hG', hH', hF', hb⟩ := fresh hs
  obtain ⟨hrel, hi⟩ := hs.heap.write hG hp hcell hsz hw (.inr ⟨ho, hG'⟩) hr
  refine ⟨o', _, _, hH', hi, by simp [updP], hrel, fun i x hx => ?_, fun i x hx => ?_, fun i x hx => ?_, hs.len, fun s v cv h1 h2 => ?_, hs.binj, fun s i hsi => ?_, fun s i hsi => ?_, hs.nodef⟩
  · by_cases e : i = o'
    · subst e; rw [upd_same] at hx; rw [upd_same]; exact hx
    · rw [upd_ne _ _ e] at hx; rw [upd_ne _ _ e]
      unfold del at *
      split at hx
      · cases hx
      · rename_i hne; rw [if_neg hne]; exact hs.sub i x hx
  · have hne : i ≠ o := by rintro rfl; rw [hF] at hx; cases hx
    have hne' : i ≠ o' := by rintro rfl; rw [hF'] at hx; cases hx
    rw [upd_ne _ _ hne']; unfold del; rw [if_neg hne]; exact hs.frm i x hx
  · by_cases e : i = o'
    · subst e; exact hF'
    · rw [upd_ne _ _ e] at hx
      unfold del at hx; split at hx
      · cases hx
      · exact hs.dis i x hx
  · refine (hs.slot s v cv h1 h2).grow hi fun s i x e1 e2 => ?_
    have hne : i ≠ o := by rintro rfl; rw [(hs.bout s i e1).1] at hH; cases hH
    have hne' : i ≠ o' := by rintro rfl; exact hb s e1
    rw [upd_ne _ _ hne']; unfold del; rw [if_neg hne]; exact e2
  · have hne : i ≠ o' := by rintro rfl; exact hb s hsi
    rw [upd_ne _ _ hne]
    refine ⟨?_, (hs.bout s i hsi).2⟩
    unfold del; split
    · rfl
    · exact (hs.bout s i hsi).1
  · have hne : i ≠ o := by rintro rfl; rw [(hs.bout s i hsi).1] at hH; cases hH
    have hne' : i ≠ o' := by rintro rfl; exact hb s hsi
    rw [upd_ne _ _ hne']; unfold del; rw [if_neg hne]; exact hs.bin s i hsi

theorem clr_len : ∀ (ds : List Nat) (env : List V), (clr ds env).length = env.length
  | [], _ => rfl
  | d :: ds, env => by rw [clr, clr_len ds]; simp
theorem clr_get : ∀ (ds : List Nat) (env : List V) (s : Nat) (v : V), (clr ds env)[s]? = some v → (s ∈ ds ∧ v = .any) ∨ env[s]? = some v
  | [], env, s, v, h => .inr h
  | d :: ds, env, s, v, h => by
    rw [clr] at h
    rcases clr_get ds _ s v h with ⟨h1, h2⟩ | h1
    · exact .inl ⟨List.mem_cons_of_mem _ h1, h2⟩
    · by_cases hsd : d = s
      · subst hsd
        have hlt : d < env.length := by have := (List.getElem?_eq_some_iff.1 h1).1; simpa using this
        simp [hlt] at h1
        exact .inl ⟨List.mem_cons_self, h1.symm⟩
      · simp [hsd] at h1; exact .inr h1
theorem clr_mem : ∀ (ds : List Nat) (env : List V) (s : Nat) (v : V), s ∈ ds → (clr ds env)[s]? = some v → v = .any
  | [], env, s, v, h, _ => by simp at h
  | d :: ds, env, s, v, hm, h => by
    rw [clr] at h
    by_cases hin : s ∈ ds
    · exact clr_mem ds _ s v hin h
    · rcases clr_get ds _ s v h with ⟨h1, _⟩ | h1
      · exact absurd h1 hin
      · have : s = d := by
          rcases List.mem_cons.1 hm with e | e
          · exact e
          · exact absurd e hin
        subst this
        have hlt : s < env.length := by have := (List.getElem?_eq_some_iff.1 h1).1; simpa using this
        simp [hlt] at h1; exact h1.symm

/-- A new box of the frame's own. -/
theorem St.allocL (hs : St g w0 base F ι β G env H a w) {d : Nat} (hd : g.L.contains d = true) {cs : List V} {cells : Array Value} (ty : TypeId)
    (hr : RowsRel w0 base ι ⟨cs.length, [cs]⟩ cells) :
    ∃ ι' β' G', ile ι ι' ∧ St g w0 base F ι' β' G' ((clr g.R env).set d (.box cs)) H (a.put (some d) (.pointer (some ⟨w.heap.size, 0, none⟩))) (w.alloc (.cells cells ty)) := by
  obtain ⟨o, ho, hG, hH, hF, hb⟩ := fresh hs
  have hi := ile_updP ⟨w.heap.size, cs.length, cells.size⟩ ho
  refine ⟨_, fun s => if s = d then some o else β s, _, hi, hs.heap.alloc ho hG ty hr, sub_trans hs.sub (sub_upd _ hG), sub_trans hs.frm (sub_upd _ hG), hs.dis, by simp [Act.put, clr_len, hs.len], fun s v cv h1 h2 => ?_, fun s1 s2 i e1 e2 => ?_, fun s i hsi => ?_, fun s i hsi => ?_, hs.nodef⟩
  · by_cases hsd : d = s
    · subst hsd
      have hlt : d < (clr g.R env).length := by have := (List.getElem?_eq_some_iff.1 h1).1; simpa using this
      have hlt2 : d < a.tmps.size := by rw [← hs.len, ← clr_len g.R env]; exact hlt
      simp [hlt] at h1
      simp [Act.put, hlt2] at h2
      subst h1; subst h2
      unfold SlotRel
      rw [if_pos hd]
      exact .inr ⟨cs, o, _, rfl, by simp, by simp [updP]; rfl, rfl, upd_same _ _ _⟩
    · simp [hsd] at h1
      simp [Act.put, hsd] at h2
      rcases clr_get g.R env s v h1 with ⟨_, rfl⟩ | h1'
      · exact SlotRel.any _ _
      · have hold := hs.slot s v cv h1' h2
        unfold SlotRel at *
        split
        · rename_i hl; rw [if_pos hl] at hold
          rcases hold with h | ⟨cs', id, p, q1, q2, q3, q4, q5⟩
          · exact .inl h
          · exact .inr ⟨cs', id, p, q1, by simp [Ne.symm hsd, q2], hi _ _ q3, q4, upd_other hG q5⟩
        · rename_i hl; rw [if_neg hl] at hold
          split
          · rename_i hr'
            exact .inl (clr_mem g.R env s v (by simpa using hr') h1)
          · rename_i hr'; rw [if_neg hr'] at hold; exact hold.mono hi
  · split at e1 <;> split at e2
    · rename_i p q; rw [p, q]
    · cases e1; exact absurd e2 (hb s2)
    · cases e2; exact absurd e1 (hb s1)
    · exact hs.binj s1 s2 i e1 e2
  · split at hsi
    · cases hsi; exact ⟨hH, hF⟩
    · exact hs.bout s i hsi
  · split at hsi
    · cases hsi; exact ⟨_, upd_same _ _ _⟩
    · obtain ⟨x, hx⟩ := hs.bin s i hsi
      exact ⟨x, upd_other hG hx⟩

/-- A store into a box of the frame's own. -/
theorem St.setL (hs : St g w0 base F ι β G env H a w) {s : Nat} {cs cs' : List V} {id : Nat} {p : Place} {cells cells' : Array Value} {ty : TypeId} (hl : g.L.contains s = true)
    (he : env[s]? = some (.box cs)) (hb : β s = some id) (hp : ι id = some p) (hG : G id = some ⟨cs.length, [cs]⟩) (hcell : w.heap[p.blk]? = some (.cells cells ty (0, 0))) (hsz : cells'.size = cells.size)
    (hlen : cs'.length = cs.length) (hr : RowsRel w0 base ι ⟨cs'.length, [cs']⟩ cells') :
    St g w0 base F ι β (upd G id ⟨cs'.length, [cs']⟩) (env.set s (.box cs')) H a (w.setRow p.blk cells') := by
  have hout := hs.bout s id hb
  refine ⟨hs.heap.set hG hp hcell hsz hlen hr, fun i x hx => ?_, fun i x hx => ?_, hs.dis, by simp [hs.len], fun t v cv h1 h2 => ?_, hs.binj, hs.bout, fun t i hti => ?_, hs.nodef⟩
  · have hne : i ≠ id := by rintro rfl; rw [hout.1] at hx; cases hx
    rw [upd_ne _ _ hne]; exact hs.sub i x hx
  · have hne : i ≠ id := by rintro rfl; rw [hout.2] at hx; cases hx
    rw [upd_ne _ _ hne]; exact hs.frm i x hx
  · by_cases hst : s = t
    · subst hst
      have hlt : s < env.length := (List.getElem?_eq_some_iff.1 he).1
      simp [hlt] at h1
      subst h1
      have hold := hs.slot s _ cv he h2
      unfold SlotRel at *
      rw [if_pos hl] at *
      rcases hold with h | ⟨cs0, id0, p0, q1, q2, q3, q4, q5⟩
      · cases h
      · cases q1
        rw [hb] at q2; cases q2
        rw [hp] at q3; cases q3
        exact .inr ⟨cs', id, p, rfl, hb, hp, q4, upd_same _ _ _⟩
    · simp [hst] at h1
      have hold := hs.slot t v cv h1 h2
      unfold SlotRel at *
      split
      · rename_i hl'; rw [if_pos hl'] at hold
        rcases hold with h | ⟨cs0, id0, p0, q1, q2, q3, q4, q5⟩
        · exact .inl h
        · have hne : id0 ≠ id := by rintro rfl; exact hst (hs.binj _ _ _ hb q2)
          exact .inr ⟨cs0, id0, p0, q1, q2, q3, q4, by rw [upd_ne _ _ hne]; exact q5⟩
      · rename_i hl'; rw [if_neg hl'] at hold
        exact hold
  · by_cases e : i = id
    · subst e; exact ⟨_, upd_same _ _ _⟩
    · rw [upd_ne _ _ e]; exact hs.bin t i hti

end
end Go.Abs
/-
The abstract layer, part E: reading and writing rows of cells.
-/
namespace Go.Abs
open Go.RowKit (Below)

section
variable {P : Program} {w0 : World} {base : Nat} {ι : Nat → Option Place} {G : Heap} {w : World}

/-- The cells of one row, from (b, off) on. -/
def RowRel (w0 : World) (base : Nat) (ι : Nat → Option Place) (w : World) (b off : Nat) (row : List V) : Prop :=
  ∀ (j : Nat) (v : V), row[j]? = some v → ∃ cv, w.cell? ⟨b, off + j, none⟩ = some cv ∧ RelV w0 base ι v cv

theorem addr_add (b off n : Nat) : (⟨b, off, none⟩ : Addr).add n = ⟨b, off + n, none⟩ := by
  unfold Addr.add; split <;> simp_all

theorem cell_of_heap {w : World} {b : Nat} {cells : Array Value} {ty : TypeId} (h : w.heap[b]? = some (.cells cells ty (0, 0))) (i : Nat) : w.cell? ⟨b, i, none⟩ = cells[i]? := by
  simp [World.cell?, h]

theorem RelH.row (h : RelH w0 base ι G w) {o r : Nat} {ob : Ob} {row : List V} {p : Place} (hG : G o = some ob) (hr : ob.rows[r]? = some row) (hp : ι o = some p) :
    RowRel w0 base ι w p.blk (r * p.w) row ∧ row.length = ob.w ∧ p.w = ob.w := by
  obtain ⟨p', cells, ty, h1, h2, h3, h4, h5, h6⟩ := h.get hG
  rw [hp] at h1; cases h1
  refine ⟨fun j v hj => ?_, (h6.2.1 r row hr).1, h2⟩
  obtain ⟨cv, hc, hv⟩ := (h6.2.1 r row hr).2 j v hj
  exact ⟨cv, by rw [cell_of_heap h4, h2]; exact hc, hv.1⟩

theorem RelH.rowW (h : RelH w0 base ι G w) {row : List V} {b off : Nat} {f : Nat → Value} (hb : b < base) (hcell : ∀ j, j < row.length → w0.cell? ⟨b, off + j, none⟩ = some (f j))
    (hrel : ∀ j (hj : j < row.length), RelV w0 base ι (row[j]) (f j)) : RowRel w0 base ι w b off row := by
  intro j v hj
  obtain ⟨hlt, rfl⟩ := List.getElem?_eq_some_iff.1 hj
  exact ⟨f j, by rw [h.low.cell (p := ⟨b, off + j, none⟩) hb]; exact hcell j hlt, hrel j hlt⟩

theorem run_isAgg {t : TypeId} {b : Bool} (h : tAgg P t = some b) (w : World) : (isAgg t).run P w = .ok b w := by
  unfold tAgg at h
  unfold isAgg
  split at h
  · rename_i hu; cases h; simp [underlying, hu]
  · rename_i hu; cases h; simp [underlying, hu]
  · rename_i d h1 h2 hu; cases h
    cases d <;> first | (simp [underlying, hu]; done) | (exact (h1 _ rfl).elim) | (exact (h2 _ _ rfl).elim)
  · cases h

theorem run_sizeOf {t : TypeId} {n : Nat} (h : tSize P t = some n) (w : World) : (sizeOf t).run P w = .ok n w := by
  unfold tSize at h
  split at h
  · rename_i i hi; cases h; simp [sizeOf, typeInfo, hi]
  · cases h

theorem run_loadCells_rel {b off n c : Nat} {row : List V} (hr : RowRel w0 base ι w b off row) (hc : c + n ≤ row.length) :
    ∃ cvs : List Value, (loadCells ⟨b, off + c, none⟩ n).run P w = .ok cvs.toArray w ∧ RelL w0 base ι ((row.drop c).take n) cvs := by
  have key : ∀ j, j < n → ∃ cv, w.cell? ⟨b, off + (c + j), none⟩ = some cv ∧ ∃ v, row[c + j]? = some v ∧ RelV w0 base ι v cv := fun j hj => by
    have hlt : c + j < row.length := by omega
    obtain ⟨cv, h1, h2⟩ := hr (c + j) row[c + j] (by simp [hlt])
    exact ⟨cv, h1, _, by simp [hlt], h2⟩
  let f : Nat → Value := fun j => (w.cell? ⟨b, off + (c + j), none⟩).getD undef
  refine ⟨(List.range n).map f, run_loadCells w ⟨b, off + c, none⟩ n f (fun j hj => ?_), by simp; omega, fun j v cv h1 h2 => ?_⟩
  · obtain ⟨cv, h1, _⟩ := key j hj
    rw [addr_add, show off + c + j = off + (c + j) by omega]
    simp [f, h1]
  · have hj : j < n := by
      have := (List.getElem?_eq_some_iff.1 h2).1; simpa using this
    obtain ⟨cv', q1, v', q2, q3⟩ := key j hj
    have e1 : v = v' := by
      rw [List.getElem?_take, if_pos hj, List.getElem?_drop] at h1
      rw [h1] at q2; cases q2; rfl
    have e2 : cv = cv' := by
      simp [hj, f, q1] at h2; exact h2.symm
    rw [e1, e2]; exact q3

theorem ldc_sound {t : TypeId} {b off c : Nat} {row : List V} {v : V} (hr : RowRel w0 base ι w b off row) (h : ldc P t row c = some v) :
    ∃ cv, (loadVar t ⟨b, off + c, none⟩).run P w = .ok cv w ∧ RelV w0 base ι v cv := by
  unfold ldc at h
  split at h
  · rename_i ag sz h1 h2
    cases ag with
    | true =>
      simp only [partOf] at h
      split at h
      · rename_i hc; cases h
        obtain ⟨cvs, q1, q2⟩ := run_loadCells_rel (P := P) hr hc
        exact ⟨.agg cvs.toArray, by simp only [loadVar, Sem.run_bind, run_isAgg h1, Result.andThen_ok, if_true, run_sizeOf h2, q1]; rfl, relV_agg q2⟩
      · cases h
    | false =>
      simp only [partOf] at h
      obtain ⟨cv, q1, q2⟩ := hr c v h
      exact ⟨cv, by simp only [loadVar, Sem.run_bind, run_isAgg h1, Result.andThen_ok, Bool.false_eq_true, if_false, run_load, q1], q2⟩
  · cases h

/-! #### writing -/

theorem oneCell_of {v : V} {cv : Value} (h : RelV w0 base ι v cv) (hk : cellOk v = true) : cv.oneCell' = true := by
  cases h <;> first | rfl | (simp [cellOk] at hk)

theorem CellRel.one {v : V} {cv : Value} (h : CellRel w0 base ι v cv) : cv.oneCell' = true := by
  obtain ⟨h1, h2 | h2⟩ := h
  · exact oneCell_of h1 h2
  · exact h2.2
theorem splice_one {l xs : List Value} {k m : Nat} (hl : ∀ (i : Nat) cv, l[i]? = some cv → cv.oneCell' = true) (hx : ∀ v ∈ xs, v.oneCell' = true) (i : Nat) (cv : Value) (h : (l.take k ++ xs ++ l.drop m).toArray[i]? = some cv) : cv.oneCell' = true := by
  have hm : cv ∈ l.take k ++ xs ++ l.drop m := by
    have := List.mem_of_getElem? (l := l.take k ++ xs ++ l.drop m) (i := i) (by simpa using h)
    exact this
  have hin : ∀ v ∈ l, v.oneCell' = true := fun v hv => by
    obtain ⟨j, hj⟩ := List.mem_iff_getElem?.1 hv
    exact hl j v hj
  rcases List.mem_append.1 hm with hm | hm
  · rcases List.mem_append.1 hm with hm | hm
    · exact hin _ (List.mem_of_mem_take hm)
    · exact hx _ hm
  · exact hin _ (List.mem_of_mem_drop hm)

theorem relL_oneCell {vs : List V} {cvs : List Value} (h : RelL w0 base ι vs cvs) (hk : vs.all cellOk = true) : ∀ v ∈ cvs, v.oneCell' = true := by
  intro cv hm
  obtain ⟨i, hi, rfl⟩ := List.getElem_of_mem hm
  have hi' : i < vs.length := by rw [h.1]; exact hi
  refine oneCell_of (h.2 i vs[i] cvs[i] (by simp [hi']) (by simp [hi])) ?_
  exact List.all_eq_true.1 hk _ (List.getElem_mem hi')

theorem splice_get (l xs : List Value) (k : Nat) (hk : k ≤ l.length) (i : Nat) :
    (l.take k ++ xs ++ l.drop (k + xs.length))[i]? = if i < k then l[i]? else if i < k + xs.length then xs[i - k]? else l[i]? := by
  have hk' : (l.take k).length = k := by simp; omega
  by_cases h1 : i < k
  · rw [if_pos h1, List.append_assoc, List.getElem?_append_left (by omega), List.getElem?_take, if_pos h1]
  · rw [if_neg h1]
    by_cases h2 : i < k + xs.length
    · rw [if_pos h2, List.append_assoc, List.getElem?_append_right (by omega), hk', List.getElem?_append_left (by omega)]
    · rw [if_neg h2, List.append_assoc, List.getElem?_append_right (by omega), hk', List.getElem?_append_right (by omega), List.getElem?_drop]
      congr 1; omega

theorem splice_len (l xs : List Value) (k : Nat) (hk : k + xs.length ≤ l.length) : (l.take k ++ xs ++ l.drop (k + xs.length)).length = l.length := by
  simp; omega

/-- Rows of cells spliced in, whole rows: from row k on. -/
theorem RowsRel.splice {ob : Ob} {cells : Array Value} (h : RowsRel w0 base ι ob cells) {k : Nat} {xs tail : List (List V)} {flat : List Value}
    (hk : k ≤ ob.rows.length) (hflat : flat.length = xs.length * ob.w) (hfit : (k + xs.length + tail.length) * ob.w ≤ cells.size)
    (hx : ∀ r row, xs[r]? = some row → row.length = ob.w ∧ ∀ (c : Nat) v, row[c]? = some v → ∃ cv, flat[r * ob.w + c]? = some cv ∧ CellRel w0 base ι v cv)
    (ht : ∀ (r : Nat) row, tail[r]? = some row → ob.rows[k + xs.length + r]? = some row) (hone : ∀ v ∈ flat, v.oneCell' = true) :
    RowsRel w0 base ι ⟨ob.w, ob.rows.take k ++ xs ++ tail⟩ (cells.toList.take (k * ob.w) ++ flat ++ cells.toList.drop (k * ob.w + flat.length)).toArray := by
  have hkw : k * ob.w ≤ cells.size := Nat.le_trans (Nat.mul_le_mul_right _ hk) h.1
  have hkx : (k + xs.length) * ob.w ≤ cells.size := Nat.le_trans (Nat.mul_le_mul_right _ (by omega)) hfit
  rw [Nat.add_mul] at hkx
  have hlen : (cells.toList.take (k * ob.w) ++ flat ++ cells.toList.drop (k * ob.w + flat.length)).length = cells.size := by
    rw [splice_len _ _ _ (by rw [hflat]; simpa using hkx)]; simp
  have hkl : (ob.rows.take k).length = k := by simp; omega
  refine ⟨?_, fun r row hr => ?_, splice_one (fun i cv hi => h.2.2 i cv (by simpa using hi)) hone⟩
  · simp only [List.size_toArray, hlen]
    have : (ob.rows.take k ++ xs ++ tail).length = k + xs.length + tail.length := by simp; omega
    rw [this]; exact hfit
  · have get : ∀ i, (cells.toList.take (k * ob.w) ++ flat ++ cells.toList.drop (k * ob.w + flat.length)).toArray[i]? =
        if i < k * ob.w then cells[i]? else if i < k * ob.w + flat.length then flat[i - k * ob.w]? else cells[i]? := fun i => by
      have := splice_get cells.toList flat (k * ob.w) (by simpa using hkw) i
      simpa using this
    by_cases h1 : r < k
    · rw [List.append_assoc, List.getElem?_append_left (by omega), List.getElem?_take, if_pos h1] at hr
      obtain ⟨q1, q2⟩ := h.2.1 r row hr
      refine ⟨q1, fun c v hc => ?_⟩
      obtain ⟨cv, e1, e2⟩ := q2 c v hc
      refine ⟨cv, ?_, e2⟩
      have hcl : c < ob.w := by rw [← q1]; exact (List.getElem?_eq_some_iff.1 hc).1
      have hlt : r * ob.w + c < k * ob.w := by
        have := Nat.mul_le_mul_right ob.w (show r + 1 ≤ k by omega)
        rw [Nat.add_mul] at this; omega
      dsimp only; rw [get, if_pos hlt]; exact e1
    · by_cases h2 : r < k + xs.length
      · rw [List.append_assoc, List.getElem?_append_right (by omega), hkl, List.getElem?_append_left (by omega)] at hr
        obtain ⟨q1, q2⟩ := hx (r - k) row hr
        refine ⟨q1, fun c v hc => ?_⟩
        obtain ⟨cv, e1, e2⟩ := q2 c v hc
        refine ⟨cv, ?_, e2⟩
        have hcl : c < ob.w := by rw [← q1]; exact (List.getElem?_eq_some_iff.1 hc).1
        have hge : k * ob.w ≤ r * ob.w := Nat.mul_le_mul_right _ (by omega)
        have hsub : r * ob.w + c - k * ob.w = (r - k) * ob.w + c := by rw [Nat.sub_mul]; omega
        have hlt : r * ob.w + c < k * ob.w + flat.length := by
          rw [hflat]
          have := Nat.mul_le_mul_right ob.w (show r + 1 ≤ k + xs.length by omega)
          rw [Nat.add_mul, Nat.add_mul] at this; omega
        dsimp only; rw [get, if_neg (by omega), if_pos hlt, hsub]; exact e1
      · rw [List.append_assoc, List.getElem?_append_right (by omega), hkl, List.getElem?_append_right (by omega)] at hr
        have hr' := ht _ row hr
        rw [show k + xs.length + (r - k - xs.length) = r by omega] at hr'
        obtain ⟨q1, q2⟩ := h.2.1 r row hr'
        refine ⟨q1, fun c v hc => ?_⟩
        obtain ⟨cv, e1, e2⟩ := q2 c v hc
        refine ⟨cv, ?_, e2⟩
        have hge : (k + xs.length) * ob.w ≤ r * ob.w := Nat.mul_le_mul_right _ (by omega)
        rw [Nat.add_mul] at hge
        dsimp only; rw [get, if_neg (by omega), if_neg (by rw [hflat]; omega)]; exact e1

/-- Some cells of one row written. -/
theorem RowsRel.store {ob : Ob} {cells : Array Value} (h : RowsRel w0 base ι ob cells) {r c : Nat} {row : List V} {vs : List V} {cvs : List Value}
    (hr : ob.rows[r]? = some row) (hc : c + vs.length ≤ row.length) (hv : RelL w0 base ι vs cvs) (hok : vs.all cellOk = true) :
    RowsRel w0 base ι ⟨ob.w, ob.rows.set r (putCells row c vs)⟩ (cells.toList.take (r * ob.w + c) ++ cvs ++ cells.toList.drop (r * ob.w + c + cvs.length)).toArray ∧ r * ob.w + c + cvs.length ≤ cells.size := by
  have hrl : r < ob.rows.length := (List.getElem?_eq_some_iff.1 hr).1
  have hw := (h.2.1 r row hr).1
  have hend : r * ob.w + c + cvs.length ≤ cells.size := by
    have := Nat.mul_le_mul_right ob.w (show r + 1 ≤ ob.rows.length by omega)
    rw [Nat.add_mul] at this
    have := h.1
    rw [← hv.1]; omega
  refine ⟨⟨?_, fun r' row' hr' => ?_, splice_one (fun i cv hi => h.2.2 i cv (by simpa using hi)) (relL_oneCell hv hok)⟩, hend⟩
  · have hlen := splice_len cells.toList cvs (r * ob.w + c) (by simpa using hend)
    simp only [List.size_toArray, hlen]
    simpa using h.1
  · have get : ∀ i, (cells.toList.take (r * ob.w + c) ++ cvs ++ cells.toList.drop (r * ob.w + c + cvs.length)).toArray[i]? =
        if i < r * ob.w + c then cells[i]? else if i < r * ob.w + c + cvs.length then cvs[i - (r * ob.w + c)]? else cells[i]? := fun i => by
      have := splice_get cells.toList cvs (r * ob.w + c) (by have := hend; simp; omega) i
      simpa using this
    by_cases e : r = r'
    · subst e
      have hr'' : row' = putCells row c vs := by
        have : (ob.rows.set r (putCells row c vs))[r]? = some (putCells row c vs) := by simp [hrl]
        have h3 : (ob.rows.set r (putCells row c vs))[r]? = some row' := hr'
        rw [this] at h3; cases h3; rfl
      subst hr''
      have hpl : (putCells row c vs).length = ob.w := by simp [putCells]; omega
      refine ⟨hpl, fun j v hj => ?_⟩
      have htl : (row.take c).length = c := by simp; omega
      have hvl := hv.1
      unfold putCells at hj
      by_cases h1 : j < c
      · rw [List.append_assoc, List.getElem?_append_left (by omega), List.getElem?_take, if_pos h1] at hj
        obtain ⟨cv, e1, e2⟩ := (h.2.1 r row hr).2 j v hj
        exact ⟨cv, by dsimp only; rw [get, if_pos (by omega)]; exact e1, e2⟩
      · by_cases h2 : j < c + vs.length
        · rw [List.append_assoc, List.getElem?_append_right (by omega), htl, List.getElem?_append_left (by omega)] at hj
          have hlt : j - c < cvs.length := by omega
          refine ⟨cvs[j - c], ?_, hv.2 (j - c) v _ hj (by simp [hlt]), .inl (List.all_eq_true.1 hok _ (List.mem_of_getElem? hj))⟩
          dsimp only
          rw [get, if_neg (by omega), if_pos (by omega), show r * ob.w + j - (r * ob.w + c) = j - c by omega]
          simp [hlt]
        · rw [List.append_assoc, List.getElem?_append_right (by omega), htl, List.getElem?_append_right (by omega), List.getElem?_drop] at hj
          rw [show c + vs.length + (j - c - vs.length) = j by omega] at hj
          obtain ⟨cv, e1, e2⟩ := (h.2.1 r row hr).2 j v hj
          exact ⟨cv, by dsimp only; rw [get, if_neg (by omega), if_neg (by omega)]; exact e1, e2⟩
    · have hr'' : ob.rows[r']? = some row' := by
        have h3 : (ob.rows.set r (putCells row c vs))[r']? = some row' := hr'
        rwa [List.getElem?_set_ne e] at h3
      obtain ⟨q1, q2⟩ := h.2.1 r' row' hr''
      refine ⟨q1, fun j v hj => ?_⟩
      obtain ⟨cv, e1, e2⟩ := q2 j v hj
      refine ⟨cv, ?_, e2⟩
      have hjl : j < ob.w := by rw [← q1]; exact (List.getElem?_eq_some_iff.1 hj).1
      have hvl := hv.1
      dsimp only
      rw [get]
      by_cases hlt : r' < r
      · have := Nat.mul_le_mul_right ob.w (show r' + 1 ≤ r by omega)
        rw [Nat.add_mul] at this
        rw [if_pos (by omega)]; exact e1
      · have := Nat.mul_le_mul_right ob.w (show r + 1 ≤ r' by omega)
        rw [Nat.add_mul] at this
        rw [if_neg (by omega), if_neg (by omega)]; exact e1

end
end Go.Abs
/-
The abstract layer, part F: each operation but the calls of built-in functions.
-/
namespace Go.Abs
open Go.RowKit (Below)

section
variable {P : Program} {g : Cfg} {w0 : World} {base : Nat} {F : Heap} {ι : Nat → Option Place} {β : Nat → Option Nat} {G : Heap} {env : List V} {H : Heap} {a : Act} {w : World}
variable {next : Act → World → Prop} {Q : Exit → Act → World → Prop} {K : List V → Heap → Prop}

theorem relV_int {k : IntKind} {n : Int} {cv : Value} (h : RelV w0 base ι (.int k n) cv) : cv = .int k n := by cases h; rfl
theorem relV_bool {b : Bool} {cv : Value} (h : RelV w0 base ι (.bool b) cv) : cv = .bool b := by cases h; rfl
theorem relV_ptr {o r c : Nat} {cv : Value} (h : RelV w0 base ι (.ptr o r c) cv) : ∃ p, ι o = some p ∧ cv = .pointer (some ⟨p.blk, r * p.w + c, none⟩) := by
  cases h with | ptr h => exact ⟨_, h, rfl⟩

theorem aNot_sound {x v : V} {cv : Value} (hv : RelV w0 base ι x cv) (h : aNot x = some v) : ∃ cv', (Op.unary .not cv).run P w = .ok cv' w ∧ RelV w0 base ι v cv' := by
  unfold aNot at h; split at h
  · cases h; rw [relV_bool hv]; exact ⟨_, rfl, .bool _⟩
  · cases h
theorem aNeg_sound {x v : V} {cv : Value} (hv : RelV w0 base ι x cv) (h : aNeg x = some v) : ∃ cv', (Op.unary .neg cv).run P w = .ok cv' w ∧ RelV w0 base ι v cv' := by
  unfold aNeg at h; split at h
  · cases h; rw [relV_int hv]; exact ⟨_, rfl, .int _ _⟩
  · cases h

theorem part_sound {t : TypeId} {off : Nat} {xs : List V} {cvs : List Value} {v : V} (hr : RelL w0 base ι xs cvs) (h : ldc P t xs off = some v) :
    ∃ cv, (part t cvs.toArray off).run P w = .ok cv w ∧ RelV w0 base ι v cv := by
  unfold ldc at h
  split at h
  · rename_i ag sz h1 h2
    cases ag with
    | true =>
      simp only [partOf] at h
      split at h
      · rename_i hc; cases h
        refine ⟨.agg ((cvs.drop off).take sz).toArray, ?_, relV_agg ⟨by simp [hr.1], fun i v cv e1 e2 => ?_⟩⟩
        · simp only [part, Sem.run_bind, run_isAgg h1, Result.andThen_ok, if_true, run_sizeOf h2]
          have : cvs.toArray.extract off (off + sz) = ((cvs.drop off).take sz).toArray := by
            apply Array.ext'; simp [List.extract_eq_take_drop]
          rw [this]; rfl
        · have hi : i < sz := by
            have := (List.getElem?_eq_some_iff.1 e1).1; simp at this; omega
          rw [List.getElem?_take, if_pos hi, List.getElem?_drop] at e1 e2
          exact hr.2 _ _ _ e1 e2
      · cases h
    | false =>
      simp only [partOf] at h
      have hlt : off < cvs.length := by rw [← hr.1]; exact (List.getElem?_eq_some_iff.1 h).1
      refine ⟨cvs[off], ?_, hr.2 off v _ h (by simp [hlt])⟩
      simp only [part, Sem.run_bind, run_isAgg h1, Result.andThen_ok, Bool.false_eq_true, if_false]
      simp [hlt]
  · cases h

theorem aEqFs_sound {d : Nat} {rec_ : TypeId → V → V → Option Bool} (hrec : ∀ t x y b cx cy, RelV w0 base ι x cx → RelV w0 base ι y cy → rec_ t x y = some b → (Op.equalIn d t cx cy).run P w = .ok b w)
    {xs ys : List V} {cxs cys : List Value} (hx : RelL w0 base ι xs cxs) (hy : RelL w0 base ι ys cys) :
    ∀ {fs : List Field} {b : Bool}, aEqFs P rec_ xs ys fs = some b → (Op.eqFields d cxs.toArray cys.toArray fs).run P w = .ok b w
  | [], b, h => by simp [aEqFs] at h; subst h; simp [Op.eqFields]
  | f :: fs, b, h => by
    unfold aEqFs at h
    split at h
    · cases h
    · rename_i hn
      split at h
      · rename_i x y h1 h2
        split at h
        · rename_i p q h3 h4
          cases h
          obtain ⟨cx, q1, q2⟩ := part_sound (P := P) (w := w) hx h1
          obtain ⟨cy, q3, q4⟩ := part_sound (P := P) (w := w) hy h2
          have he := hrec _ _ _ _ _ _ q2 q4 h3
          have ih := aEqFs_sound hrec hx hy h4
          have hn' : f.name ≠ "_" := by simpa using hn
          rw [Op.eqFields]
          simp only [if_pos hn', Sem.run_bind, q1, q3, he, Result.andThen_ok]
          cases p
          · simp
          · simpa using ih
        · cases h
      · cases h

theorem aEqT_sound : ∀ {n : Nat} {t : TypeId} {x y : V} {b : Bool} {cx cy : Value}, RelV w0 base ι x cx → RelV w0 base ι y cy → aEqT P n t x y = some b → ∀ m, n ≤ m → (Op.equalIn m t cx cy).run P w = .ok b w
  | 0, t, x, y, b, cx, cy, _, _, h, m, _ => by simp [aEqT] at h
  | n + 1, t, x, y, b, cx, cy, hx, hy, h, m, hm => by
    obtain ⟨m, rfl⟩ : ∃ m', m = m' + 1 := ⟨m - 1, by omega⟩
    unfold aEqT at h
    split at h
    · rw [relV_int hx, relV_int hy]
      split at h
      · rename_i hu
        split at h
        · rename_i hk; subst hk; cases h; simp [Op.equalIn, run_underlying hu]
        · cases h
      · cases h
    · rw [relV_bool hx, relV_bool hy]
      split at h
      · rename_i hu; cases h; simp [Op.equalIn, run_underlying hu]
      · cases h
    · cases hx; cases hy
      split at h
      · rename_i hu; cases h; simp [Op.equalIn, run_underlying hu]
      · cases h
    · cases hy
      split at h
      · rename_i hu; cases h
        cases hx <;> simp [Op.equalIn, run_underlying hu]
      · cases h
    · cases hx
      split at h
      · rename_i hu; cases h
        cases hy <;> simp [Op.equalIn, run_underlying hu]
      · cases h
    · obtain ⟨cxs, rfl, hxs⟩ := relL_of_agg hx
      obtain ⟨cys, rfl, hys⟩ := relL_of_agg hy
      split at h
      · rename_i fs hu
        split at h
        · rename_i hp
          have hf : P.fieldsOf t = fs := by simp [Program.fieldsOf, hu]
          rw [run_equalIn_struct (P := P) w m t cxs.toArray cys.toArray (by rw [hf]; exact hu) hp, hf]
          exact aEqFs_sound (fun t x y b cx cy h1 h2 h3 => aEqT_sound h1 h2 h3 m (by omega)) hxs hys h
        · cases h
      · cases h
    · cases h

theorem aEq_sound {t : TypeId} {x y : V} {b : Bool} {cx cy : Value} (hx : RelV w0 base ι x cx) (hy : RelV w0 base ι y cy) (hni : ∀ k n k' m, x = .int k n → y = .int k' m → False)
    (h : aEq P t x y = some b) (op : BinOp) (ox oy : Operand) :
    (eqGuard op t ox oy cx cy).run P w = .ok () w ∧ (Op.equal t cx cy).run P w = .ok b w ∧ binOp .eql t cx cy = (do pure (.bool (← Op.equal t cx cy))) ∧ binOp .neq t cx cy = (do pure (.bool (!(← Op.equal t cx cy)))) := by
  have heq : ∀ {n}, n ≤ 10000 → aEqT P n t x y = some b → (Op.equal t cx cy).run P w = .ok b w := fun hn hh => aEqT_sound hx hy hh 10000 hn
  unfold aEq at h
  split at h
  · split at h
    · rename_i cs hm
      have he := heq (n := 4) (by omega) h
      obtain ⟨cxs, rfl, hxs⟩ := relL_of_agg hx
      cases y with
      | agg cs' =>
        obtain ⟨cys, rfl, hys⟩ := relL_of_agg hy
        exact ⟨run_eqGuard_agg w op t ox oy _ _ hm, he, rfl, rfl⟩
      | _ => simp [aEqT] at h
    · cases h
  · rename_i hna
    have he := heq (n := 4) (by omega) h
    unfold aEqT at h
    split at h
    · exact (hni _ _ _ _ rfl rfl).elim
    · rw [relV_bool hx, relV_bool hy] at he ⊢
      exact ⟨by unfold eqGuard; cases op <;> rfl, he, rfl, rfl⟩
    · cases hx; cases hy
      exact ⟨by unfold eqGuard; cases op <;> rfl, he, rfl, rfl⟩
    · cases hy; cases hx <;> exact ⟨by unfold eqGuard; cases op <;> rfl, he, rfl, rfl⟩
    · cases hx; cases hy <;> exact ⟨by unfold eqGuard; cases op <;> rfl, he, rfl, rfl⟩
    · exact (hna _ rfl).elim
    · cases h

theorem aBin_sound {op : BinOp} {t : TypeId} {x y v : V} {cx cy : Value} {ox oy : Operand} (hx : RelV w0 base ι x cx) (hy : RelV w0 base ι y cy) (h : aBin P op t x y = some v) :
    ∃ cv, (do eqGuard op t ox oy cx cy; binOp op t cx cy : Sem Value).run P w = .ok cv w ∧ RelV w0 base ι v cv := by
  unfold aBin aNum at h
  split at h
  · rename_i k n k' m
    rw [relV_int hx, relV_int hy]
    have hg : (eqGuard op t ox oy (.int k n) (.int k' m)).run P w = .ok () w := by
      unfold eqGuard; cases op <;> rfl
    simp only [Sem.run_bind, hg, Result.andThen_ok]
    cases op
    case shl =>
      simp only at h; split at h
      · cases h
      · rename_i hb; cases h
        refine ⟨_, ?_, .int _ _⟩
        simp [binOp, Op.shift, hb]
    case shr =>
      simp only at h; split at h
      · cases h
      · rename_i hb; cases h
        refine ⟨_, ?_, .int _ _⟩
        simp [binOp, Op.shift, hb]
    case quo =>
      simp only at h; split at h
      · rename_i hk; subst hk
        split at h
        · cases h
        · rename_i hb; cases h
          exact ⟨_, by simp [binOp, Op.intDiv, hb], .int _ _⟩
      · cases h
    case rem =>
      simp only at h; split at h
      · rename_i hk; subst hk
        split at h
        · cases h
        · rename_i hb; cases h
          exact ⟨_, by simp [binOp, Op.intDiv, hb], .int _ _⟩
      · cases h
    case add => simp only at h; split at h; (rename_i hk; subst hk; cases h; exact ⟨_, by simp [binOp, Op.intArith], .int _ _⟩); cases h
    case sub => simp only at h; split at h; (rename_i hk; subst hk; cases h; exact ⟨_, by simp [binOp, Op.intArith], .int _ _⟩); cases h
    case mul => simp only at h; split at h; (rename_i hk; subst hk; cases h; exact ⟨_, by simp [binOp, Op.intArith], .int _ _⟩); cases h
    case and => simp only at h; split at h; (rename_i hk; subst hk; cases h; exact ⟨_, by simp [binOp, Op.intBits], .int _ _⟩); cases h
    case or => simp only at h; split at h; (rename_i hk; subst hk; cases h; exact ⟨_, by simp [binOp, Op.intBits], .int _ _⟩); cases h
    case xor => simp only at h; split at h; (rename_i hk; subst hk; cases h; exact ⟨_, by simp [binOp, Op.intBits], .int _ _⟩); cases h
    case andNot => simp only at h; split at h <;> cases h
    case eql => simp only at h; split at h; (rename_i hk; subst hk; cases h; exact ⟨_, by simp [binOp, Op.intCmp], .bool _⟩); cases h
    case neq => simp only at h; split at h; (rename_i hk; subst hk; cases h; exact ⟨_, by simp [binOp, Op.intCmp], .bool _⟩); cases h
    case lss => simp only at h; split at h; (rename_i hk; subst hk; cases h; exact ⟨_, by simp [binOp, Op.intCmp], .bool _⟩); cases h
    case leq => simp only at h; split at h; (rename_i hk; subst hk; cases h; exact ⟨_, by simp [binOp, Op.intCmp], .bool _⟩); cases h
    case gtr => simp only at h; split at h; (rename_i hk; subst hk; cases h; exact ⟨_, by simp [binOp, Op.intCmp], .bool _⟩); cases h
    case geq => simp only at h; split at h; (rename_i hk; subst hk; cases h; exact ⟨_, by simp [binOp, Op.intCmp], .bool _⟩); cases h
  · rename_i hni
    split at h
    · split at h
      · rename_i b hb; cases h
        obtain ⟨h1, h2, h3, _⟩ := aEq_sound (w := w) hx hy (by intro k n k' m e1 e2; subst e1; subst e2; exact hni _ _ _ _ rfl rfl) hb .eql ox oy
        refine ⟨_, ?_, .bool _⟩
        simp only [Sem.run_bind, h1, Result.andThen_ok, h3, h2]; rfl
      · cases h
    · split at h
      · rename_i b hb; cases h
        obtain ⟨h1, h2, _, h4⟩ := aEq_sound (w := w) hx hy (by intro k n k' m e1 e2; subst e1; subst e2; exact hni _ _ _ _ rfl rfl) hb .neq ox oy
        refine ⟨_, ?_, .bool _⟩
        simp only [Sem.run_bind, h1, Result.andThen_ok, h4, h2]; rfl
      · cases h
    · cases h

end
end Go.Abs
/-
The abstract layer, part G: new boxes, literals, loads, stores, addresses, slices.
-/
namespace Go.Abs
open Go.RowKit (Below)

section
variable {P : Program} {g : Cfg} {w0 : World} {base : Nat} {F : Heap} {ι : Nat → Option Place} {β : Nat → Option Nat} {G : Heap} {env : List V} {H : Heap} {a : Act} {w : World}
variable {next : Act → World → Prop} {Q : Exit → Act → World → Prop} {K : List V → Heap → Prop}

theorem run_v {s : Sem Value} {cv : Value} {w w' : World} (h : s.run P w = .ok cv w') : (do pure (Next.value (← s)) : Sem Next).run P w = .ok (.value cv) w' := by
  simp only [Sem.run_bind, h, Result.andThen_ok]; rfl
theorem run_u {s : Sem Unit} {w w' : World} (h : s.run P w = .ok () w') : (do s; pure Next.skip : Sem Next).run P w = .ok .skip w' := by
  simp only [Sem.run_bind, h, Result.andThen_ok]; rfl

theorem tZero_spec {t : TypeId} {z : V} (h : tZero P t = some z) : ∃ i cz, P.info? t = some i ∧ i.zero = some cz ∧ RelV w0 base ι z cz ∧ notAny z = true ∧ (cellsOf z).all cellOk = true := by
  unfold tZero at h
  split at h
  · rename_i i hi
    split at h
    · rename_i cz hz; exact ⟨i, cz, hi, hz, vOf_sound h, vOf_notAny h, vOf_ok h⟩
    · cases h
  · cases h
theorem tSize_spec {t : TypeId} {n : Nat} (h : tSize P t = some n) : ∃ i, P.info? t = some i ∧ i.size = n := by
  unfold tSize at h
  split at h
  · rename_i i hi; cases h; exact ⟨i, hi, rfl⟩
  · cases h
theorem tBytes_spec {t : TypeId} {n : Nat} (h : tBytes P t = some n) : ∃ i, P.info? t = some i ∧ i.bytes = n := by
  unfold tBytes at h
  split at h
  · rename_i i hi; cases h; exact ⟨i, hi, rfl⟩
  · cases h
theorem tElem_spec {t e : TypeId} (h : tElem P t = some e) : P.underlying t = some (.slice e) := by
  unfold tElem at h
  split at h
  · rename_i hu; cases h; exact hu
  · cases h

theorem rowsRel_one {cs : List V} {cvs : List Value} (h : RelL w0 base ι cs cvs) (hok : cs.all cellOk = true) : RowsRel w0 base ι ⟨cs.length, [cs]⟩ cvs.toArray := by
  refine ⟨by simp [h.1], fun r row hr => ?_, fun k cv hk => relL_oneCell h hok cv (List.mem_of_getElem? (by simpa using hk))⟩
  cases r with
  | zero =>
    simp at hr; subst hr
    refine ⟨rfl, fun c v hc => ?_⟩
    have hlt : c < cvs.length := by rw [← h.1]; exact (List.getElem?_eq_some_iff.1 hc).1
    exact ⟨cvs[c], by simp [hlt], h.2 c v _ hc (by simp [hlt]), .inl (List.all_eq_true.1 hok _ (List.mem_of_getElem? hc))⟩
  | succ r => simp at hr

theorem run_newVar (t : TypeId) (v : Value) (w : World) : (newVar t v).run P w = .ok ⟨w.heap.size, 0, none⟩ (w.alloc (.cells v.cells t)) := rfl

theorem newBox_sound (hs : St g w0 base F ι β G env H a w) (hn : Cont g w0 base F ι K next) {dst : Option Tmp} {cs : List V} {cvs : List Value} (ty : TypeId) (hc : RelL w0 base ι cs cvs) (hok : cs.all cellOk = true)
    (hk : newBox g env H dst cs K) : next (a.put dst (.pointer (some ⟨w.heap.size, 0, none⟩))) (w.alloc (.cells cvs.toArray ty)) := by
  cases dst with
  | none => exact hk.elim
  | some d =>
    simp only [newBox, setK_eq] at hk
    cases hl : g.L.contains d with
    | true =>
      rw [hl] at hk
      obtain ⟨ι', β', G', hi, hs'⟩ := hs.allocL hl ty (rowsRel_one hc hok)
      exact hn _ _ _ _ _ _ _ hi hs' hk
    | false =>
      rw [hl] at hk
      cases hr : g.R.contains d with
      | true => rw [hr] at hk; exact hk.elim
      | false =>
        rw [hr] at hk
        obtain ⟨o, ι', G', hH, hi, hs', hp⟩ := hs.allocH ty (rowsRel_one hc hok)
        refine hn _ _ _ _ _ _ _ hi (hs'.put ?_) (hk o hH)
        rw [SlotRel.plain (by unfold Cfg.loc; rw [hl, hr]; rfl)]
        have := RelV.ptr (w0 := w0) (base := base) (r := 0) (c := 0) hp
        simpa using this

/-- A value and a new object at once. -/
theorem newVal_sound (hs : St g w0 base F ι β G env H a w) (hn : Cont g w0 base F ι K next) {dst : Option Tmp} {ob : Ob} {cells : Array Value} (ty : TypeId) (hr : RowsRel w0 base ι ob cells)
    {fv : Nat → V} {cv : Value} (hv : ∀ o (ι' : Nat → Option Place), ι' o = some ⟨w.heap.size, ob.w, cells.size⟩ → RelV w0 base ι' (fv o) cv)
    (hk : ∀ o, H o = none → putK g env dst (fv o) fun env' => K env' (upd H o ob)) : next (a.put dst cv) (w.alloc (.cells cells ty)) := by
  obtain ⟨o, ι', G', hH, hi, hs', hp⟩ := hs.allocH ty hr
  obtain ⟨env', hk', hs''⟩ := putK_sound hs' (hv o ι' hp) (hk o hH)
  exact hn _ _ _ _ _ _ _ hi hs'' hk'

/-! #### loads and stores -/

/-- What an address operand holds. -/
def LocRel (w0 : World) (base : Nat) (ι : Nat → Option Place) (β : Nat → Option Nat) (G : Heap) (g : Cfg) (env : List V) (l : Loc) (cv : Value) : Prop :=
  match l with
  | .heap v => RelV w0 base ι v cv
  | .here s c cs => ∃ id p, g.L.contains s = true ∧ env[s]? = some (.box cs) ∧ β s = some id ∧ ι id = some p ∧ G id = some ⟨cs.length, [cs]⟩ ∧ cv = .pointer (some ⟨p.blk, c, none⟩)

theorem locOf_sound (hs : St g w0 base F ι β G env H a w) {x : Operand} {l : Loc} (h : locOf g env x = some l) : LocRel w0 base ι β G g env l (a.eval x) := by
  unfold locOf at h
  split at h
  · rename_i t
    have slot : ∀ v, env[t]? = some v → SlotRel g w0 base ι β G t v (a.tmps.getD t undef) := fun v hv => by
      have hlt : t < a.tmps.size := by rw [← hs.len]; exact (List.getElem?_eq_some_iff.1 hv).1
      have := hs.slot t v a.tmps[t] hv (by simp [hlt])
      simpa [Array.getD, hlt] using this
    split at h
    · rename_i hl
      split at h
      · rename_i cs he; cases h
        have := slot _ he
        unfold SlotRel at this; rw [if_pos hl] at this
        rcases this with h | ⟨cs', id, p, q1, q2, q3, q4, q5⟩
        · cases h
        · cases q1; exact ⟨id, p, hl, he, q2, q3, q5, q4⟩
      · cases h
    · rename_i hl
      split at h
      · rename_i hr
        split at h
        · rename_i s c he
          split at h
          case h_2 => cases h
          split at h
          · rename_i cs he2; cases h
            have h1 := slot _ he
            unfold SlotRel at h1; rw [if_neg (by rw [hl]; exact Bool.false_ne_true), if_pos hr] at h1
            rcases h1 with h | ⟨s', c', id, p, q1, q2, q3, q4, q5⟩
            · cases h
            · cases q1
              have hlt : s < a.tmps.size := by rw [← hs.len]; exact (List.getElem?_eq_some_iff.1 he2).1
              have h2 := hs.slot s _ a.tmps[s] he2 (by simp [hlt])
              unfold SlotRel at h2; rw [if_pos q2] at h2
              rcases h2 with h | ⟨cs', id', p', r1, r2, r3, r4, r5⟩
              · cases h
              · cases r1
                rw [q3] at r2; cases r2
                exact ⟨id, p, q2, he2, q3, q4, r5, q5⟩
          · cases h
        · cases h
      · rename_i hr
        split at h
        · rename_i v he; cases h
          have := slot _ he
          rw [SlotRel.plain (by unfold Cfg.loc; rw [hl, hr]; rfl)] at this
          exact this
        · cases h
  · split at h
    · rename_i hx v he; cases h; exact ev_sound hs he
    · cases h

theorem box_row (hs : St g w0 base F ι β G env H a w) {id : Nat} {p : Place} {cs : List V} (hG : G id = some ⟨cs.length, [cs]⟩) (hp : ι id = some p) : RowRel w0 base ι w p.blk 0 cs := by
  have := (hs.heap.row (r := 0) (row := cs) hG rfl hp).1
  rwa [Nat.zero_mul] at this

theorem ldc_of {t : TypeId} {b : Bool} {sz : Nat} (h1 : tAgg P t = some b) (h2 : tSize P t = some sz) (cs : List V) (c : Nat) : ldc P t cs c = partOf b sz cs c := by
  unfold ldc; rw [h1, h2]

theorem aLoad_sound (hs : St g w0 base F ι β G env H a w) {t : TypeId} {l : Loc} {v : V} {cv : Value} (hl : LocRel w0 base ι β G g env l cv) (h : aLoadL P H t l = some v) :
    ∃ cv', (Instr.loadAt t cv).run P w = .ok cv' w ∧ RelV w0 base ι v cv' := by
  cases l with
  | heap x =>
    simp only [aLoadL, aLoad] at h
    simp only [LocRel] at hl
    split at h
    case h_2 => cases h
    rename_i bb sz hb1 hb2
    unfold aLd at h
    split at h
    · rename_i o r c
      split at h
      · rename_i row hrow
        unfold rowAt at hrow
        split at hrow
        · rename_i ob hob
          obtain ⟨p, hp, rfl⟩ := relV_ptr hl
          obtain ⟨hr, _, _⟩ := hs.heap.row (hs.sub _ _ hob) hrow hp
          rw [← ldc_of hb1 hb2] at h
          obtain ⟨cv', q1, q2⟩ := ldc_sound (P := P) hr h
          exact ⟨cv', by simp only [Instr.loadAt, Instr.sureAddr]; exact q1, q2⟩
        · cases hrow
      · cases h
    · rename_i row c
      rw [← ldc_of hb1 hb2] at h
      cases hl with
      | rop f hb hcell hrel =>
        obtain ⟨cv', q1, q2⟩ := ldc_sound (P := P) (hs.heap.rowW hb hcell hrel) h
        exact ⟨cv', by simp only [Instr.loadAt, Instr.sureAddr]; exact q1, q2⟩
    · cases h
  | here s c cs =>
    obtain ⟨id, p, h1, h2, h3, h4, h5, rfl⟩ := hl
    obtain ⟨cv', q1, q2⟩ := ldc_sound (P := P) (box_row hs h5 h4) h
    rw [Nat.zero_add] at q1
    exact ⟨cv', by simp only [Instr.loadAt, Instr.sureAddr]; exact q1, q2⟩

theorem stz_spec {sz : Nat} {row row' : List V} {c : Nat} {v : V} (h : stz sz row c v = some row') :
    (cellsOf v).length = sz ∧ c + (cellsOf v).length ≤ row.length ∧ (cellsOf v).all cellOk = true ∧ row' = putCells row c (cellsOf v) := by
  unfold stz at h
  split at h
  · rename_i hc; cases h
    simp only [Bool.and_eq_true, beq_iff_eq, decide_eq_true_eq] at hc
    obtain ⟨⟨h1, h2⟩, h3⟩ := hc
    exact ⟨h1, by rw [h1]; exact h2, h3, rfl⟩
  · cases h
theorem stc_spec {t : TypeId} {row row' : List V} {c : Nat} {v : V} (h : stc P t row c v = some row') :
    ∃ sz, tSize P t = some sz ∧ (cellsOf v).length = sz ∧ c + (cellsOf v).length ≤ row.length ∧ (cellsOf v).all cellOk = true ∧ row' = putCells row c (cellsOf v) := by
  unfold stc at h
  split at h
  · rename_i sz hsz; exact ⟨sz, hsz, stz_spec h⟩
  · cases h

theorem run_storeAt {t : TypeId} {b off : Nat} {cv : Value} {cells : Array Value} {ty : TypeId} {n : Nat} (hsz : tSize P t = some n) (hn : cv.cells.size = n) (hcell : w.heap[b]? = some (.cells cells ty (0, 0)))
    (hfit : off + cv.cells.toList.length ≤ cells.size) (h1 : ∀ x ∈ cv.cells.toList, x.oneCell' = true) :
    (Instr.storeAt t (.pointer (some ⟨b, off, none⟩)) cv).run P w = .ok () (w.setRow b (cells.toList.take off ++ cv.cells.toList ++ cells.toList.drop (off + cv.cells.toList.length)).toArray) := by
  have h := run_storeCells_at P b off ty cv.cells.toList 0 cells w hcell (by simpa using hfit) h1
  simp only [Nat.add_zero] at h
  simp only [Instr.storeAt, Instr.sureAddr, storeVar]
  simp only [Sem.run_bind, run_sizeOf hsz, Result.andThen_ok, hn, ne_eq, not_true_eq_false, if_false]
  exact h

theorem relL_put {row vs : List V} {crow cvs : List Value} (hr : RelL w0 base ι row crow) (hv : RelL w0 base ι vs cvs) {c : Nat} (hc : c + vs.length ≤ row.length) :
    RelL w0 base ι (putCells row c vs) (crow.take c ++ cvs ++ crow.drop (c + cvs.length)) := by
  refine RelL.append (RelL.append ⟨by simp [hr.1], fun i v cv h1 h2 => ?_⟩ hv) ⟨by simp [hr.1, hv.1], fun i v cv h1 h2 => ?_⟩
  · rw [List.getElem?_take] at h1 h2
    split at h1
    · rename_i hi; rw [if_pos hi] at h2; exact hr.2 i v cv h1 h2
    · cases h1
  · rw [List.getElem?_drop] at h1 h2
    rw [← hv.1] at h2
    exact hr.2 _ v cv h1 h2

theorem storeK_sound (hs : St g w0 base F ι β G env H a w) (hn : Cont g w0 base F ι K next) {t : TypeId} {l : Loc} {v : V} {cp cv : Value} (hl : LocRel w0 base ι β G g env l cp) (hv : RelV w0 base ι v cv)
    (hk : storeK P env H t v l K) : ∃ w', (Instr.storeAt t cp cv).run P w = .ok () w' ∧ ∀ dst, dst = none → next (a.put dst undef) w' := by
  cases l with
  | heap x =>
    simp only [storeK, setK_eq] at hk
    obtain ⟨H', hst, hk⟩ := bnd_elim hk
    simp only [LocRel] at hl
    unfold aStore at hst
    split at hst
    case h_2 => cases hst
    rename_i sz e1
    unfold aSt at hst
    split at hst
    · rename_i o r c
      split at hst
      · rename_i ob hob
        split at hst
        · rename_i row hrow
          split at hst
          · rename_i row' hrow'; cases hst
            obtain ⟨e2, e3, e4, rfl⟩ := stz_spec hrow'
            obtain ⟨p, hp, rfl⟩ := relV_ptr hl
            obtain ⟨p', cells, ty, q1, q2, q3, q4, q5, q6⟩ := hs.heap.get (hs.sub _ _ hob)
            rw [hp] at q1; cases q1
            have hcv := relL_cells hv (notAny_of_ok e4)
            obtain ⟨hrr, hend⟩ := q6.store hrow e3 hcv e4
            rw [q2]
            refine ⟨_, run_storeAt e1 (by rw [← e2, hcv.1]; simp) q4 (by simpa using hend) (relL_oneCell hcv e4), fun dst hd => ?_⟩
            subst hd
            refine hn _ _ _ _ _ _ _ (ile.refl _) (hs.setH (ob' := ⟨ob.w, ob.rows.set r (putCells row c (cellsOf v))⟩) hob hp q4 ?_ rfl hrr) hk
            have := splice_len cells.toList cv.cells.toList (r * ob.w + c) (by simpa using hend)
            simpa using this
          · cases hst
        · cases hst
      · cases hst
    · cases hst
  | here s c cs =>
    simp only [storeK, setK_eq] at hk
    obtain ⟨cs', hst, hk⟩ := bnd_elim hk
    obtain ⟨sz, e1, e2, e3, e4, rfl⟩ := stc_spec hst
    obtain ⟨id, p, h1, h2, h3, h4, h5, rfl⟩ := hl
    obtain ⟨p', cells, ty, q1, q2, q3, q4, q5, q6⟩ := hs.heap.get h5
    rw [h4] at q1; cases q1
    have hcv := relL_cells hv (notAny_of_ok e4)
    obtain ⟨hrr, hend⟩ := q6.store (r := 0) (by simp) e3 hcv e4
    simp only [Nat.zero_mul, Nat.zero_add] at hrr hend
    refine ⟨_, run_storeAt e1 (by rw [← e2, hcv.1]; simp) q4 (by simpa using hend) (relL_oneCell hcv e4), fun dst hd => ?_⟩
    subst hd
    have hlen : (putCells cs c (cellsOf v)).length = cs.length := by simp [putCells]; omega
    refine hn _ _ _ _ _ _ _ (ile.refl _) (hs.setL (cs' := putCells cs c (cellsOf v)) h1 h2 h3 h4 h5 q4 ?_ hlen ?_) hk
    · have := splice_len cells.toList cv.cells.toList c (by simpa using hend)
      simpa using this
    · rw [hlen]; simpa using hrr

end
end Go.Abs
/-
The abstract layer, part H: literals, addresses, slices, numbers.
-/
namespace Go.Abs
open Go.RowKit (Below)

section
variable {P : Program} {g : Cfg} {w0 : World} {base : Nat} {F : Heap} {ι : Nat → Option Place} {β : Nat → Option Nat} {G : Heap} {env : List V} {H : Heap} {a : Act} {w : World}
variable {next : Act → World → Prop} {Q : Exit → Act → World → Prop} {K : List V → Heap → Prop}

/-! #### literals -/

theorem foldSet (off : Nat) : ∀ (vs : List Value) (k : Nat) (cells : Array Value), off + k + vs.length ≤ cells.size →
    ((vs.zipIdx k).foldl (fun cs (x : Value × Nat) => cs.setIfInBounds (off + x.2) x.1) cells).toList = cells.toList.take (off + k) ++ vs ++ cells.toList.drop (off + k + vs.length)
  | [], k, cells, _ => by simp
  | v :: vs, k, cells, h => by
    simp only [List.length_cons] at h
    have ih := foldSet off vs (k + 1) (cells.setIfInBounds (off + k) v) (by simp; omega)
    simp only [List.zipIdx_cons, List.foldl_cons]
    rw [ih]
    have hs := list_seg_step cells.toList (off + k) v vs (by simp; omega)
    simp only [Array.toList_setIfInBounds, List.length_cons]
    rw [show off + (k + 1) = off + k + 1 by omega]
    exact hs

theorem evp_sound (hs : St g w0 base F ι β G env H a w) : ∀ {xs : List (Nat × Operand)} {vs : List (Nat × V)}, evp g env xs = some vs →
    vs.length = xs.length ∧ ∀ (j : Nat) (i : Nat) (v : V), vs[j]? = some (i, v) → ∃ cv, (xs.map fun (i, x) => (i, a.eval x))[j]? = some (i, cv) ∧ RelV w0 base ι v cv
  | [], vs, h => by simp [evp] at h; subst h; simp
  | (i, x) :: xs, vs, h => by
    unfold evp at h
    split at h
    · rename_i v vs' h1 h2; cases h
      obtain ⟨q1, q2⟩ := evp_sound hs h2
      refine ⟨by simp [q1], fun j i' v' hj => ?_⟩
      cases j with
      | zero => simp at hj; obtain ⟨rfl, rfl⟩ := hj; exact ⟨_, rfl, ev_sound hs h1⟩
      | succ j => simp at hj; obtain ⟨cv, r1, r2⟩ := q2 j i' v' hj; exact ⟨cv, by simpa using r1, r2⟩
    · cases h

/-- Parts, place by place. -/
def RelP (w0 : World) (base : Nat) (ι : Nat → Option Place) : List (Nat × V) → List (Nat × Value) → Prop
  | [], [] => True
  | (i, v) :: vs, (j, cv) :: cvs => i = j ∧ RelV w0 base ι v cv ∧ RelP w0 base ι vs cvs
  | _, _ => False

theorem evp_rel (hs : St g w0 base F ι β G env H a w) : ∀ {xs : List (Nat × Operand)} {vs : List (Nat × V)}, evp g env xs = some vs → RelP w0 base ι vs (xs.map fun (i, x) => (i, a.eval x))
  | [], vs, h => by simp [evp] at h; subst h; trivial
  | (i, x) :: xs, vs, h => by
    unfold evp at h
    split at h
    · rename_i v vs' h1 h2; cases h
      exact ⟨rfl, ev_sound hs h1, evp_rel hs h2⟩
    · cases h

theorem fill_step {place : Nat → Option (Nat × Nat)} {cells : Array Value} {i off sz : Nat} {v : Value} {rest : List (Nat × Value)} (hp : place i = some (off, sz)) (hv : v.cells.size = sz) (hfit : off + sz ≤ cells.size) :
    Instr.fill place cells ((i, v) :: rest) = Instr.fill place (cells.toList.take off ++ v.cells.toList ++ cells.toList.drop (off + v.cells.toList.length)).toArray rest := by
  have hf := foldSet off v.cells.toList 0 cells (by simp [hv]; omega)
  simp only [Nat.add_zero] at hf
  have harr : v.cells.zipIdx.foldl (fun cs (c, j) => cs.setIfInBounds (off + j) c) cells = (cells.toList.take off ++ v.cells.toList ++ cells.toList.drop (off + v.cells.toList.length)).toArray := by
    apply Array.ext'
    rw [← Array.foldl_toList, Array.toList_zipIdx]
    simpa using hf
  rw [Instr.fill, hp]
  simp only []
  rw [if_neg (by simp [hv]; omega), harr]

theorem fillS_sound {t : TypeId} {fs : Array Field} {places : List (Nat × Nat)} (hu : P.underlying t = some (.struct fs)) (hpl : ∀ (i : Nat) (fd : Field) (n : Nat), fs[i]? = some fd → tSize P fd.type = some n → places[i]? = some (fd.offset, n)) :
    ∀ {ps : List (Nat × V)} {cps : List (Nat × Value)} {cs cs' : List V} {ccs : List Value}, RelP w0 base ι ps cps → RelL w0 base ι cs ccs → fillS P t cs ps = some cs' →
      ∃ ccs' : List Value, Instr.fill (places.toArray[·]?) ccs.toArray cps = some ccs'.toArray ∧ RelL w0 base ι cs' ccs'
  | [], [], cs, cs', ccs, _, hr, h => by simp [fillS, placesOf, fillZ] at h; subst h; exact ⟨ccs, rfl, hr⟩
  | (i, v) :: ps, (j, cv) :: cps, cs, cs', ccs, hp, hr, h => by
    obtain ⟨rfl, hv, hp'⟩ := hp
    unfold fillS at h
    split at h
    case h_2 => cases h
    rename_i r hpl0
    unfold placesOf at hpl0
    split at hpl0
    case h_2 => cases hpl0
    rename_i off ft r' ho hpl1
    split at hpl0
    case h_2 => cases hpl0
    rename_i sz hsz
    cases hpl0
    unfold fillZ at h
    split at h
    · rename_i hc
      simp only [Bool.and_eq_true, beq_iff_eq, decide_eq_true_eq] at hc
      obtain ⟨⟨h1, h2⟩, h3⟩ := hc
      have hcv := relL_cells hv (notAny_ne h3)
      have hcs : cv.cells.size = sz := by rw [← h1, hcv.1]; simp
      have hplace : places[i]? = some (off, sz) := by
        unfold tOff at ho
        rw [hu] at ho
        simp only at ho
        split at ho
        · rename_i fd hfd
          split at ho
          · rename_i n hn; cases ho
            exact hpl i fd _ hfd (by rw [hsz])
          · cases ho
        · cases ho
      have h' : fillS P t (putCells cs off (cellsOf v)) ps = some cs' := by unfold fillS; rw [hpl1]; exact h
      obtain ⟨ccs', q1, q2⟩ := fillS_sound hu hpl hp' (relL_put hr hcv (by rw [h1]; exact h2)) h'
      refine ⟨ccs', ?_, q2⟩
      rw [fill_step (by simpa using hplace) hcs (by simp [← hr.1]; exact h2)]
      exact q1
    · cases h
  | [], _ :: _, _, _, _, hp, _, _ => hp.elim
  | _ :: _, [], _, _, _, hp, _, _ => hp.elim

theorem places_spec : ∀ (fs : List Field), (fs.all fun f => (P.info? f.type).isSome) = true →
    ∃ places, fs.mapM (fun f => (P.info? f.type).map fun i => (f.offset, i.size)) = some places ∧ ∀ (i : Nat) (fd : Field) (n : Nat), fs[i]? = some fd → tSize P fd.type = some n → places[i]? = some (fd.offset, n)
  | [], _ => ⟨[], rfl, by simp⟩
  | f :: fs, h => by
    simp only [List.all_cons, Bool.and_eq_true] at h
    obtain ⟨places, q1, q2⟩ := places_spec fs h.2
    cases hi : P.info? f.type with
    | none => rw [hi] at h; simp at h
    | some inf =>
      refine ⟨(f.offset, inf.size) :: places, by simp [hi, q1], fun i fd n h1 h2 => ?_⟩
      cases i with
      | zero => simp at h1; subst h1; simp [tSize, hi] at h2; simp [h2]
      | succ i => simp at h1; simpa using q2 i fd n h1 h2

theorem build_sound {t : TypeId} {ps : List (Nat × V)} {cps : Array (Nat × Value)} {z : V} {cs : List V} (hp : RelP w0 base ι ps cps.toList) (hz : tZero P t = some z) (hok : structOk P t = true) (h : fillS P t (cellsOf z) ps = some cs) :
    ∃ cv, (Instr.build t cps).run P w = .ok cv w ∧ RelV w0 base ι (.agg cs) cv := by
  unfold structOk at hok
  split at hok
  · rename_i fs hu
    obtain ⟨places, q1, q2⟩ := places_spec (P := P) fs.toList hok
    obtain ⟨i, cz, hi, hzc, hrz, hna, _⟩ := tZero_spec (w0 := w0) (base := base) (ι := ι) hz
    obtain ⟨ccs', r1, r2⟩ := fillS_sound (P := P) (w0 := w0) (base := base) (ι := ι) hu (places := places) (fun i fd n h1 h2 => q2 i fd n (by simpa using h1) h2) hp (relL_cells hrz (notAny_ne hna)) h
    refine ⟨.agg ccs'.toArray, run_build (P := P) w t cps _ ?_, relV_agg r2⟩
    unfold Program.built
    rw [hi, hu]
    simp only [hzc, q1]
    simpa using r1
  · cases hok

theorem flat_get {W : Nat} (f : Nat → List Value) (hW : ∀ i, (f i).length = W) : ∀ (n i c : Nat), i < n → c < W → (((List.range n).flatMap f)[i * W + c]?) = (f i)[c]? := by
  intro n
  induction n with
  | zero => intro i c h; omega
  | succ n ih =>
    intro i c hi hc
    have hlen : ((List.range n).flatMap f).length = n * W := by
      clear ih hi hc
      induction n with
      | zero => simp
      | succ n ih2 => simp [List.range_succ, ih2, hW, Nat.add_mul]
    rw [List.range_succ, List.flatMap_append]
    by_cases h : i < n
    · have hlt : i * W + c < n * W := by
        have := Nat.mul_le_mul_right W (show i + 1 ≤ n by omega)
        rw [Nat.add_mul] at this; omega
      rw [List.getElem?_append_left (by rw [hlen]; exact hlt)]
      exact ih i c h hc
    · have hin : i = n := by omega
      subst hin
      rw [List.getElem?_append_right (by rw [hlen]; omega), hlen]
      simp

/-- n copies of the zero cells. -/
theorem rowsRel_zeros {sz n : Nat} {z : List V} {cz : List Value} (hz : RelL w0 base ι z cz) (hok : z.all cellOk = true) (hsz : z.length = sz) (cells : Array Value) (hcs : cells.size = n * sz)
    (hc : ∀ i, i < n * sz → cells[i]? = cz[i % sz]?) : RowsRel w0 base ι ⟨sz, List.replicate n z⟩ cells := by
  refine ⟨by simp [hcs], fun r row hr => ?_, fun k cv hk => ?_⟩
  rotate_left
  · have hlt : k < n * sz := by rw [← hcs]; exact (Array.getElem?_eq_some_iff.1 hk).1
    rw [hc k hlt] at hk
    exact relL_oneCell hz hok cv (List.mem_of_getElem? hk)
  have hrn : r < n := by
    have := (List.getElem?_eq_some_iff.1 hr).1; simpa using this
  have hrow : row = z := by
    simp [List.getElem?_replicate, hrn] at hr; exact hr.symm
  subst hrow
  refine ⟨hsz, fun c v hcv => ?_⟩
  have hclt : c < sz := by rw [← hsz]; exact (List.getElem?_eq_some_iff.1 hcv).1
  have hclt2 : c < cz.length := by rw [← hz.1, hsz]; exact hclt
  have hlt : r * sz + c < n * sz := by
    have := Nat.mul_le_mul_right sz (show r + 1 ≤ n by omega)
    rw [Nat.add_mul] at this; omega
  refine ⟨cz[c], ?_, hz.2 c v _ hcv (by simp [hclt2]), .inl (List.all_eq_true.1 hok _ (List.mem_of_getElem? hcv))⟩
  rw [hc _ hlt, Nat.add_comm, Nat.mul_comm, Nat.add_mul_mod_self_left, Nat.mod_eq_of_lt hclt]
  simp [hclt2]

theorem fillR_sound {sz : Nat} (hpos : 0 < sz) : ∀ {ps : List (Nat × V)} {cps : List (Nat × Value)} {rows rows' : List (List V)} {cells : Array Value}, RelP w0 base ι ps cps → allW sz ps = true →
    RowsRel w0 base ι ⟨sz, rows⟩ cells → fillR rows ps = some rows' → ∃ cells', Instr.fill (fun i => some (i * sz, sz)) cells cps = some cells' ∧ cells'.size = cells.size ∧ RowsRel w0 base ι ⟨sz, rows'⟩ cells'
  | [], [], rows, rows', cells, _, _, hr, h => by simp [fillR] at h; subst h; exact ⟨cells, rfl, rfl, hr⟩
  | (i, v) :: ps, (j, cv) :: cps, rows, rows', cells, hp, hw, hr, h => by
    obtain ⟨rfl, hv, hp'⟩ := hp
    simp only [allW, Bool.and_eq_true, beq_iff_eq] at hw
    obtain ⟨⟨h1, h2⟩, h3⟩ := hw
    unfold fillR at h
    split at h
    · rename_i hi
      have hcv := relL_cells hv (notAny_of_ok h2)
      have hrow : (⟨sz, rows⟩ : Ob).rows[i]? = some rows[i] := by simp [hi]
      have hlen : (rows[i]).length = sz := (hr.2.1 i _ hrow).1
      have hst := RowsRel.store (c := 0) hr hrow (by rw [h1]; omega) hcv h2
      have hput : putCells rows[i] 0 (cellsOf v) = cellsOf v := by
        unfold putCells
        simp only [List.take_zero, List.nil_append, Nat.zero_add]
        rw [List.drop_of_length_le (by omega), List.append_nil]
      rw [hput] at hst
      simp only [Nat.add_zero] at hst
      have hsplice := splice_len cells.toList cv.cells.toList (i * sz) (by simpa using hst.2)
      obtain ⟨cells', q1, q2, q3⟩ := fillR_sound hpos hp' h3 hst.1 h
      have hcs : cv.cells.size = sz := by rw [← h1, hcv.1]; simp
      refine ⟨cells', ?_, by rw [q2]; simpa using hsplice, q3⟩
      rw [fill_step (off := i * sz) (sz := sz) rfl hcs (by have := hst.2; simp [hcs] at this; exact this)]
      exact q1
    · cases h
  | [], _ :: _, _, _, _, hp, _, _, _ => hp.elim
  | _ :: _, [], _, _, _, hp, _, _, _ => hp.elim

end
end Go.Abs
/-
The abstract layer, part I: addresses, slices, numbers, makes.
-/
namespace Go.Abs
open Go.RowKit (Below)

section
variable {P : Program} {g : Cfg} {w0 : World} {base : Nat} {F : Heap} {ι : Nat → Option Place} {β : Nat → Option Nat} {G : Heap} {env : List V} {H : Heap} {a : Act} {w : World}
variable {next : Act → World → Prop} {Q : Exit → Act → World → Prop} {K : List V → Heap → Prop}

theorem natOf_spec {v : V} {n : Nat} (h : natOf v = some n) : ∃ k m, v = .int k m ∧ 0 ≤ m ∧ n = m.toNat := by
  unfold natOf at h
  split at h
  · rename_i k m
    split at h
    · rename_i hm; cases h; exact ⟨k, m, rfl, hm, rfl⟩
    · cases h
  · cases h

theorem madeCells_get {z : Array Value} {n i : Nat} (hz : 0 < z.size) (hi : i < n) : (madeCells z n)[i]? = z.toList[i % z.size]? := by
  have hlt : i % z.size < z.size := Nat.mod_lt _ hz
  simp [madeCells, hi, hlt]

theorem zeros_rel {t : TypeId} {z : V} {n sz : Nat} (hz : tZero P t = some z) (hl : (cellsOf z).length = sz) (hpos : 0 < sz) : ∃ i cz, P.info? t = some i ∧ i.zero = some cz ∧ cz.cells.size = sz ∧
    RowsRel w0 base ι ⟨sz, List.replicate n (cellsOf z)⟩ (madeCells cz.cells (n * sz)) := by
  obtain ⟨i, cz, hi, hzc, hrz, hna, hok⟩ := tZero_spec (w0 := w0) (base := base) (ι := ι) hz
  have hc := relL_cells hrz (notAny_ne hna)
  have hcs : cz.cells.size = sz := by rw [← hl, hc.1]; simp
  refine ⟨i, cz, hi, hzc, hcs, rowsRel_zeros hc hok hl _ (size_madeCells _ _) fun j hj => ?_⟩
  rw [madeCells_get (by omega) hj, hcs]

theorem relV_slice_new {o : Nat} {ι' : Nat → Option Place} {b W n c size : Nat} {cap : Option Nat} (hp : ι' o = some ⟨b, W, size⟩) (hn : n ≤ c) (hc : c * W ≤ size) (hk : ∀ k, cap = some k → c = k) :
    RelV w0 base ι' (.slice o 0 n cap) (.slice (some ⟨b, 0, none⟩) n c) := by
  have := RelV.slice (w0 := w0) (base := base) (s := 0) (p := ⟨b, W, size⟩) hp hn (by simpa using hc) hk
  simpa using this

theorem makeSlice_sound (hs : St g w0 base F ι β G env H a w) (hn : Cont g w0 base F ι K next) {o : Oper} {t e : TypeId} {x y : Operand} (ho : o.op = .makeSlice t x y) {l c : V} {l' c' sz by_ : Nat} {z : V}
    (hx : ev g env x = some l) (hy : ev g env y = some c) (hl : natOf l = some l') (hc : natOf c = some c') (he : tElem P t = some e) (hsz : tSize P e = some sz) (hby : tBytes P e = some by_) (hz : tZero P e = some z)
    (h : l' ≤ c' ∧ c' ≤ 140737488355328 ∧ by_ * c' ≤ 281474976710656 ∧ (cellsOf z).length = sz ∧ 0 < sz)
    (hk : ∀ id, H id = none → putK g env o.dst (.slice id 0 l' (some c')) fun env' => K env' (upd H id ⟨sz, List.replicate c' (cellsOf z)⟩)) : o.wp P a w next Q := by
  obtain ⟨h1, h2, h3, h4, h5⟩ := h
  obtain ⟨i, cz, hi, hzc, hcs, hrr⟩ := zeros_rel (P := P) (w0 := w0) (base := base) (ι := ι) (n := c') hz h4 h5
  obtain ⟨i2, hi2, hsz2⟩ := tSize_spec hsz
  obtain ⟨i3, hi3, hby2⟩ := tBytes_spec hby
  rw [hi] at hi2 hi3; cases hi2; cases hi3
  have evx := ev_sound hs hx
  have evy := ev_sound hs hy
  obtain ⟨k1, n1, rfl, p1, rfl⟩ := natOf_spec hl
  obtain ⟨k2, n2, rfl, p2, rfl⟩ := natOf_spec hc
  have ex := relV_int evx
  have ey := relV_int evy
  have hbytes : (i.bytes : Int) * n2 ≤ 281474976710656 := by
    have : ((i.bytes * n2.toNat : Nat) : Int) ≤ 281474976710656 := by rw [hby2]; omega
    rw [Int.natCast_mul, Int.toNat_of_nonneg p2] at this; exact this
  have hrun := run_make (P := P) w t e i cz (tElem_spec he) hi hzc k1 k2 n1 n2 p1 (by omega) hbytes (by omega)
  refine wp_value (cv := .slice (some ⟨w.heap.size, 0, none⟩) n1.toNat n2.toNat) (w' := w.alloc (.cells (madeCells cz.cells (n2.toNat * i.size)) e)) ?_ ?_
  · unfold execOp; rw [ho]; simp only [ex, ey]
    exact run_v hrun
  · rw [hsz2]
    refine newVal_sound hs hn e hrr (fv := fun id => .slice id 0 n1.toNat (some n2.toNat)) (fun id ι' hp => ?_) hk
    exact relV_slice_new hp h1 (by rw [size_madeCells]; exact Nat.le_refl _) (by intro k hk; cases hk; rfl)

theorem buildSlice_sound (hs : St g w0 base F ι β G env H a w) (hn : Cont g w0 base F ι K next) {o : Oper} {t e : TypeId} {len : Nat} {parts : Array (Nat × Operand)} (ho : o.op = .buildSlice t len parts) {ps : List (Nat × V)} {sz : Nat} {z : V} {rows : List (List V)}
    (hps : evp g env parts.toList = some ps) (he : tElem P t = some e) (hsz : tSize P e = some sz) (hz : tZero P e = some z)
    (hw : allW sz ps = true) (hlen : len * sz ≤ 16777216) (hzl : (cellsOf z).length = sz) (hpos : 0 < sz) (hf : fillR (List.replicate len (cellsOf z)) ps = some rows)
    (hk : ∀ id, H id = none → putK g env o.dst (.slice id 0 len (some len)) fun env' => K env' (upd H id ⟨sz, rows⟩)) : o.wp P a w next Q := by
  obtain ⟨i, cz, hi, hzc, hcs, hrr⟩ := zeros_rel (P := P) (w0 := w0) (base := base) (ι := ι) (n := len) hz hzl hpos
  obtain ⟨i2, hi2, hsz2⟩ := tSize_spec hsz
  rw [hi] at hi2; cases hi2
  have hrel := evp_rel hs hps
  obtain ⟨cells', q1, q2, q3⟩ := fillR_sound hpos hrel hw hrr hf
  have hfill : Instr.fill (fun j => some (j * i.size, i.size)) (if len * i.size = 0 then #[] else madeCells cz.cells (len * i.size)) (parts.map fun (j, x) => (j, a.eval x)).toList = some cells' := by
    rw [hsz2]
    split
    · rename_i h0
      have hm : madeCells cz.cells (len * sz) = #[] := Array.eq_empty_of_size_eq_zero (by rw [size_madeCells]; exact h0)
      rw [hm] at q1
      simpa using q1
    · simpa using q1
  have hu := tElem_spec he
  have hrun : (Instr.buildSlice t len (parts.map fun (j, x) => (j, a.eval x))).run P w = .ok (.slice (some ⟨w.heap.size, 0, none⟩) len len) (w.alloc (.cells cells' e)) := by
    have hsm : ¬ (16777216 < len * i.size) := by rw [hsz2]; omega
    simp only [Array.toList_map] at hfill
    by_cases h0 : len * i.size = 0
    · rw [if_pos h0] at hfill
      simp [Instr.buildSlice, run_underlying hu, sizeOf, typeInfo, hi, h0, newRow, show Array.range 0 = #[] from rfl, hfill]
    · rw [if_neg h0] at hfill
      unfold madeCells at hfill
      simp [Instr.buildSlice, run_underlying hu, sizeOf, typeInfo, zeroValue, hi, hzc, hsm, h0, newRow, hfill]
  refine wp_value (cv := .slice (some ⟨w.heap.size, 0, none⟩) len len) (w' := w.alloc (.cells cells' e)) ?_ ?_
  · unfold execOp; rw [ho]; exact run_v hrun
  · refine newVal_sound hs hn e q3 (fv := fun id => .slice id 0 len (some len)) (fun id ι' hp => ?_) hk
    refine relV_slice_new hp (Nat.le_refl _) ?_ (by intro k hk; cases hk; rfl)
    rw [q2, size_madeCells]; exact Nat.le_refl _

theorem tOff_spec {t : TypeId} {f : Nat} {r : Nat × TypeId} (h : tOff P t f = some r) : ∃ fs fd n, P.underlying t = some (.struct fs) ∧ fs[f]? = some fd ∧ tSize P fd.type = some (n + 1) ∧ r = (fd.offset, fd.type) := by
  unfold tOff at h
  split at h
  · rename_i fs hu
    split at h
    · rename_i fd hfd
      split at h
      · rename_i n hn; cases h; exact ⟨fs, fd, n, hu, hfd, hn, rfl⟩
      · cases h
    · cases h
  · cases h

theorem run_fieldAt' {t : TypeId} {f : Nat} {r : Nat × TypeId} (h : tOff P t f = some r) (b off : Nat) : (Instr.fieldAt t (.pointer (some ⟨b, off, none⟩)) f).run P w = .ok (.pointer (some ⟨b, off + r.1, none⟩)) w := by
  obtain ⟨fs, fd, n, h1, h2, h3, rfl⟩ := tOff_spec h
  simp only [Instr.fieldAt, Sem.run_bind, run_underlying h1, Result.andThen_ok, h2, Instr.sureAddr, fieldPlace]
  simp [run_sizeOf h3, addr_add]

theorem fieldK_sound (hs : St g w0 base F ι β G env H a w) (hn : Cont g w0 base F ι K next) {o : Oper} {t : TypeId} {x : Operand} {f : Nat} (ho : o.op = .fieldAddr t x f) {l : Loc} {r : Nat × TypeId} (hl : locOf g env x = some l) (hr : tOff P t f = some r)
    (hk : fieldK g env o.dst r.1 l fun env' => K env' H) : o.wp P a w next Q := by
  have hloc := locOf_sound hs hl
  cases l with
  | heap p =>
    simp only [fieldK, setK_eq] at hk
    simp only [LocRel] at hloc
    obtain ⟨v, hv, hk⟩ := bnd_elim hk
    unfold aField at hv
    split at hv
    · cases hv
      obtain ⟨p, hp, hev⟩ := relV_ptr hloc
      refine value_sound hs hn (cv := .pointer (some ⟨p.blk, _ * p.w + (_ + r.1), none⟩)) ?_ (.ptr hp) hk
      unfold execOp; rw [ho]; simp only [hev]; rw [← Nat.add_assoc]; exact run_v (run_fieldAt' hr _ _)
    · cases hv
      generalize hcv : a.eval x = cv at hloc
      cases hloc with
      | rop fn hb hcell hrel =>
        rename_i b off
        refine value_sound hs hn (cv := .pointer (some ⟨b, off + (_ + r.1), none⟩)) ?_ (.rop fn hb hcell hrel) hk
        unfold execOp; rw [ho]; simp only [hcv]; rw [← Nat.add_assoc]; exact run_v (run_fieldAt' hr _ _)
    · cases hv
  | here s c cs =>
    simp only [fieldK, setK_eq] at hk
    obtain ⟨id, p, h1, h2, h3, h4, h5, hev⟩ := hloc
    refine wp_value (cv := .pointer (some ⟨p.blk, c + r.1, none⟩)) (w' := w) ?_ ?_
    · unfold execOp; rw [ho]; simp only [hev]; exact run_v (run_fieldAt' hr _ _)
    · cases hd : o.dst with
      | none => rw [hd] at hk; exact hn _ _ _ _ _ _ _ (ile.refl _) hs hk
      | some d =>
        rw [hd] at hk
        simp only at hk
        cases hL : g.L.contains d with
        | true => rw [hL] at hk; exact hk.elim
        | false =>
          rw [hL] at hk
          cases hR : g.R.contains d with
          | false => rw [hR] at hk; exact hk.elim
          | true =>
            rw [hR] at hk
            refine hn _ _ _ _ _ _ _ (ile.refl _) (hs.put ?_) hk
            unfold SlotRel
            rw [if_neg (by rw [hL]; exact Bool.false_ne_true), if_pos hR]
            exact .inr ⟨s, _, id, p, rfl, h1, h3, h4, rfl⟩

theorem aIndex_sound (hs : St g w0 base F ι β G env H a w) {t e : TypeId} {sz : Nat} (he : tElem P t = some e) (hsz : tSize P e = some sz) {x i v : V} {cx ci : Value} (hx : RelV w0 base ι x cx) (hi : RelV w0 base ι i ci) (h : aIndex H sz x i = some v) :
    ∃ cv, (Instr.indexAt t cx ci).run P w = .ok cv w ∧ RelV w0 base ι v cv := by
  have hu := tElem_spec he
  unfold aIndex at h
  split at h
  · rename_i o s n cap k m
    split at h
    · rename_i hb
      split at h
      · rename_i ob hob
        split at h
        · rename_i hw; cases h
          obtain rfl := relV_int hi
          cases hx with
          | slice hp hnc hc hk =>
            rename_i p c
            obtain ⟨p', cells, ty, q1, q2, _⟩ := hs.heap.get (hs.sub _ _ hob)
            rw [hp] at q1; cases q1
            refine ⟨.pointer (some ⟨p.blk, (s + m.toNat) * p.w + 0, none⟩), ?_, .ptr hp⟩
            have hmul : s * p.w + m.toNat * sz = (s + m.toNat) * p.w := by rw [q2, hw, Nat.add_mul]
            simp [Instr.indexAt, asIntOf, run_underlying hu, hb, run_sizeOf hsz, addr_add, hmul]
          | sliceE a hp hk => exact absurd hb.2 (by have := hb.1; simp; omega)
        · cases h
      · cases h
    · cases h
  · rename_i rows k m
    split at h
    · rename_i hb
      split at h
      · rename_i row hrow
        split at h
        · rename_i hw; cases h
          obtain rfl := relV_int hi
          have hlt := (List.getElem?_eq_some_iff.1 hrow).1
          have hrow' : rows[m.toNat] = row := (List.getElem?_eq_some_iff.1 hrow).2
          cases hx with
          | ro f hbase hn hc hwid hcell hrel =>
            rename_i b off W n c
            subst hn
            have hW : W = sz := by rw [← hwid _ hlt, hrow']; exact hw
            subst hW
            refine ⟨.pointer (some ⟨b, off + m.toNat * W + 0, none⟩), ?_, .rop (fun j => f m.toNat j) hbase (fun j hj => ?_) (fun j hj => ?_)⟩
            · have hb2 : m < (rows.length : Int) := by omega
              simp [Instr.indexAt, asIntOf, run_underlying hu, hb, hb2, run_sizeOf hsz, addr_add]
            · rw [Nat.add_assoc]; exact hcell _ _ hlt (by rw [← hw]; exact hj)
            · subst hrow'; exact hrel _ _ hlt hj
          | roE a c => simp at hlt
        · cases h
      · cases h
    · cases h
  · cases h

theorem aConv_sound {s d : TypeId} {x v : V} {cx : Value} (hx : RelV w0 base ι x cx) (h : aConv P s d x = some v) : ∃ cv, (convert s d cx).run P w = .ok cv w ∧ RelV w0 base ι v cv := by
  unfold aConv at h
  split at h
  case h_2 => cases h
  rename_i k hc
  unfold convTo at hc
  split at hc
  case h_2 => cases hc
  rename_i h1 h2
  cases hc
  unfold aCv at h
  split at h
  · cases h
    rw [relV_int hx]
    exact ⟨_, by simp [convert, run_underlying h1, run_underlying h2, Conv.intToInt], .int _ _⟩
  · cases h

theorem aExtract_sound {i : Nat} {x v : V} {cx : Value} (hx : RelV w0 base ι x cx) (h : aExtract i x = some v) : ∃ cv, (Instr.extract cx i).run P w = .ok cv w ∧ RelV w0 base ι v cv := by
  unfold aExtract at h
  split at h
  · obtain ⟨cvs, rfl, hr⟩ := relL_of_tup hx
    have hlt : i < cvs.length := by rw [← hr.1]; exact (List.getElem?_eq_some_iff.1 h).1
    exact ⟨cvs[i], by simp [Instr.extract, hlt], hr.2 i v _ h (by simp [hlt])⟩
  · cases h

theorem aPick_sound {c x y v : V} {cc cx cy : Value} (hc : RelV w0 base ι c cc) (hx : RelV w0 base ι x cx) (hy : RelV w0 base ι y cy) (h : aPick c x y = some v) :
    ∃ cv, (do pure (Go.Next.value (if ← asBool cc then cx else cy)) : Sem Go.Next).run P w = .ok (.value cv) w ∧ RelV w0 base ι v cv := by
  unfold aPick at h
  split at h
  · rename_i t; cases h
    rw [relV_bool hc]
    cases t
    · exact ⟨cy, rfl, hy⟩
    · exact ⟨cx, rfl, hx⟩
  · cases h

end
end Go.Abs
