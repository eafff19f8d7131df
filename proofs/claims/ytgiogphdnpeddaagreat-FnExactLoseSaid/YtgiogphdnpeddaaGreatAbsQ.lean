/-
The abstract layer, part Q: the values that are handed in from without; a law's run.
-/
import Derived.Test.YtgiogphdnpeddaaGreatAbsP
import Derived.ChangeArms
import Derived.WideShapes
set_option linter.all false
namespace Go.Abs
open Go.RowKit (Below)

inductive Sc where
  | int (k : IntKind)
  | bool
  | slice (e : TypeId)

def flatFs (P : Program) (rec : TypeId → Option (List Sc)) : List Field → List Sc → Option (List Sc)
  | [], acc => some acc
  | f :: fs, acc => match rec f.type with
    | some s => if f.offset = acc.length ∧ P.cellsOf f.type = s.length then flatFs P rec fs (acc ++ s) else none
    | none => none
/-- The cells of a type, in order. -/
def flat (P : Program) : Nat → TypeId → Option (List Sc)
  | 0, _ => none
  | n + 1, t => match P.underlying t with
    | some .bool => some [.bool]
    | some (.int k) => some [.int k]
    | some (.slice e) => some [.slice e]
    | some (.struct fs) => match flatFs P (flat P n) fs.toList [] with
      | some scs => if scs.length = P.cellsOf t then some scs else none
      | none => none
    | _ => none

def CT (P : Program) : Nat → Sc → V → Prop
  | _, .int k, v => ∃ m, v = .int k m ∧ (Lit.int k m).wf = true
  | _, .bool, v => ∃ b, v = .bool b
  | 0, .slice _, _ => False
  | n + 1, .slice e, v => ∃ rows, v = .ro rows ∧ rows.length ≤ maxLen ∧ ∀ row ∈ rows, ∃ scs, flat P 8 e = some scs ∧ row.length = scs.length ∧ ∀ (j : Nat) s x, scs[j]? = some s → row[j]? = some x → CT P n s x

def okSc (P : Program) : Nat → Sc → Bool
  | _, .int _ => true
  | _, .bool => true
  | 0, .slice _ => false
  | n + 1, .slice e => match flat P 8 e with
    | some scs => !scs.isEmpty && P.cellsOf e == scs.length && scs.all (okSc P n)
    | none => false

theorem list_choice {α : Type} {Q : Nat → α → Prop} : ∀ (n : Nat), (∀ i, i < n → ∃ y, Q i y) → ∃ l : List α, l.length = n ∧ ∀ (i : Nat) y, l[i]? = some y → Q i y
  | 0, _ => ⟨[], rfl, fun i y h => by simp at h⟩
  | n + 1, h => by
    obtain ⟨l, hl, hq⟩ := list_choice n fun i hi => h i (by omega)
    obtain ⟨y, hy⟩ := h n (by omega)
    refine ⟨l ++ [y], by simp [hl], fun i z hz => ?_⟩
    by_cases hi : i < n
    · rw [List.getElem?_append_left (by omega)] at hz; exact hq i z hz
    · rw [List.getElem?_append_right (by omega), hl] at hz
      have : i = n := by
        have := (List.getElem?_eq_some_iff.1 hz).1
        simp at this; omega
      subst this
      simp at hz; subst hz; exact hy

section
variable {H : Type} {enc : TypeId × Value → H} {P : Program} {W : World} {spare : Nat → Bool} {held : Bool} {ι : Nat → Option Place} {n : Nat}

theorem cell_lt {a : Addr} {v : Value} (h : W.cell? a = some v) : a.block < W.heap.size := by
  unfold World.cell? at h
  split at h
  · rename_i he; exact (Array.getElem?_eq_some_iff.1 he).1
  · cases h
theorem cell_spot {a : Addr} {v : Value} (h : W.cell? a = some v) : a.spot = none := by
  unfold World.cell? at h
  split at h
  · split at h
    · cases h
    · rename_i hs; simpa using hs
  · cases h

/-- What is known of each cell, one level down. -/
def Down (enc : TypeId × Value → H) (P : Program) (W : World) (spare : Nat → Bool) (held : Bool) (ι : Nat → Option Place) (n : Nat) : Prop :=
  ∀ (s : Sc), okSc P n s = true → ∀ (t : TypeId) (fuel : Nat) (c : Value) x, (match s with | .int k => P.underlying t = some (.int k) | .bool => P.underlying t = some .bool | .slice e => P.underlying t = some (.slice e)) →
    DataW.trod enc P W 0 spare held fuel t [c] = some x → ∃ v, RelV W W.heap.size ι v c ∧ CT P n s v

theorem go_spec (D : Down enc P W spare held ι n) {d : Nat} (ih : ∀ (t : TypeId) (fuel : Nat) (cs : List Value) x scs, flat P d t = some scs → scs.all (okSc P n) = true → DataW.trod enc P W 0 spare held fuel t cs = some x →
      cs.length = scs.length ∧ ∀ (j : Nat) s c, scs[j]? = some s → cs[j]? = some c → ∃ v, RelV W W.heap.size ι v c ∧ CT P n s v) :
    ∀ (fs : List Field) (acc : List Sc) (scs : List Sc), flatFs P (flat P d) fs acc = some scs → scs.all (okSc P n) = true → ∀ (fuel : Nat) (cs : List Value),
      (∀ (i : Nat) f, fs[i]? = some f → ∃ y, DataW.trod enc P W 0 spare held fuel f.type ((cs.drop f.offset).take (P.cellsOf f.type)) = some y) →
      (∀ (j : Nat) s c, j < acc.length → scs[j]? = some s → cs[j]? = some c → ∃ v, RelV W W.heap.size ι v c ∧ CT P n s v) →
      ∀ (j : Nat) s c, scs[j]? = some s → cs[j]? = some c → ∃ v, RelV W W.heap.size ι v c ∧ CT P n s v
  | [], acc, scs, hg, hok, fuel, cs, hf, hacc, j, s, c, hs, hc => by
    simp only [flatFs, Option.some.injEq] at hg
    subst hg
    exact hacc j s c (List.getElem?_eq_some_iff.1 hs).1 hs hc
  | f :: fs, acc, scs, hg, hok, fuel, cs, hf, hacc, j, s, c, hs, hc => by
    simp only [flatFs] at hg
    split at hg
    case h_2 => cases hg
    rename_i sf hsf
    split at hg
    case isFalse => cases hg
    rename_i hoff
    have pre : ∀ (fs : List Field) (acc scs : List Sc), flatFs P (flat P d) fs acc = some scs → ∃ t, scs = acc ++ t := by
      intro fs
      induction fs with
      | nil => intro acc scs h; simp only [flatFs, Option.some.injEq] at h; exact ⟨[], by simp [h]⟩
      | cons f fs ih =>
        intro acc scs h
        simp only [flatFs] at h
        split at h
        case h_2 => cases h
        split at h
        case isFalse => cases h
        obtain ⟨t, ht⟩ := ih _ _ h
        exact ⟨_, by rw [ht, List.append_assoc]⟩
    obtain ⟨tl, htl⟩ := pre _ _ _ hg
    refine go_spec D ih fs (acc ++ sf) scs hg hok fuel cs (fun i g hi => hf (i + 1) g (by simpa using hi)) (fun j s c hj hs hc => ?_) j s c hs hc
    by_cases hja : j < acc.length
    · exact hacc j s c hja hs hc
    · obtain ⟨y, hy⟩ := hf 0 f rfl
      have hall : sf.all (okSc P n) = true := by
        rw [htl] at hok; simp at hok ⊢; exact hok.2.1
      obtain ⟨hl, hq⟩ := ih f.type fuel _ y sf hsf hall hy
      simp at hj
      refine hq (j - acc.length) s c ?_ ?_
      · rw [htl, List.append_assoc, List.getElem?_append_right (by omega), List.getElem?_append_left (by omega)] at hs
        exact hs
      · rw [hoff.1, hoff.2, List.getElem?_take, if_pos (by omega), List.getElem?_drop]
        rw [show acc.length + (j - acc.length) = j by omega]
        exact hc

theorem flat_spec (D : Down enc P W spare held ι n) : ∀ (d : Nat) (t : TypeId) (fuel : Nat) (cs : List Value) x scs, flat P d t = some scs → scs.all (okSc P n) = true → DataW.trod enc P W 0 spare held fuel t cs = some x →
      cs.length = scs.length ∧ ∀ (j : Nat) s c, scs[j]? = some s → cs[j]? = some c → ∃ v, RelV W W.heap.size ι v c ∧ CT P n s v := by
  intro d
  induction d with
  | zero => intro t fuel cs x scs h; simp [flat] at h
  | succ d ih =>
    intro t fuel cs x scs h hok hx
    unfold flat at h
    split at h
    · rename_i hu
      cases h
      cases fuel with
      | zero => simp [DataW.trod] at hx
      | succ fuel =>
        have : ∃ b, cs = [.bool b] := by
          unfold DataW.trod at hx; rw [hu] at hx
          split at hx <;> simp_all
        obtain ⟨b, rfl⟩ := this
        refine ⟨rfl, fun j s c hs hc => ?_⟩
        cases j with
        | zero => simp at hs hc; subst hs; subst hc; exact D .bool (by simp [okSc]) t (fuel + 1) _ x hu hx
        | succ j => simp at hs
    · rename_i k hu
      cases h
      obtain ⟨m, rfl, rfl, hw⟩ := DataW.trod_int hu hx
      refine ⟨rfl, fun j s c hs hc => ?_⟩
      cases j with
      | zero => simp at hs hc; subst hs; subst hc; exact ⟨.int k m, .int k m, by cases n <;> exact ⟨m, rfl, hw⟩⟩
      | succ j => simp at hs
    · rename_i e hu
      cases h
      have : ∃ c, cs = [c] := by
        rcases DataW.trod_slice hu hx with ⟨rfl, _⟩ | ⟨a, len, cap, elems, rest, n, _, rfl, _⟩
        · exact ⟨_, rfl⟩
        · exact ⟨_, rfl⟩
      obtain ⟨c0, rfl⟩ := this
      refine ⟨rfl, fun j s c hs hc => ?_⟩
      cases j with
      | zero => simp at hs hc; subst hs; subst hc; exact D (.slice e) (by simpa using hok) t fuel _ x hu hx
      | succ j => simp at hs
    · rename_i fs hu
      split at h
      case h_2 => cases h
      rename_i scs' hgo
      split at h
      case isFalse => cases h
      rename_i hlen'
      cases h
      obtain ⟨xs, m, rfl, rfl, hl, hlen, hf⟩ := DataW.trod_struct hu hx
      exact ⟨hl.trans hlen'.symm, go_spec D ih fs.toList [] scs hgo hok m cs (fun i f hi => by
        have hi' : fs[i]? = some f := by simpa using hi
        have := hf i f hi'
        have hlt : i < xs.length := by rw [hlen]; exact (Array.getElem?_eq_some_iff.1 hi').1
        exact ⟨xs[i], by rw [this]; simp [hlt]⟩) (fun j s c hj => by simp at hj)⟩
    · cases h

theorem down : ∀ (n : Nat), Down enc P W spare held ι n := by
  intro n
  induction n with
  | zero =>
    intro s hok t fuel c x hu hx
    cases s with
    | int k =>
      obtain ⟨m, h, _, hw⟩ := DataW.trod_int hu hx
      cases h; exact ⟨.int k m, .int k m, m, rfl, hw⟩
    | bool =>
      obtain ⟨b, h, _⟩ := DataW.trod_bool hu hx
      cases h; exact ⟨.bool b, .bool b, b, rfl⟩
    | slice e => simp [okSc] at hok
  | succ n ih =>
    intro s hok t fuel c x hu hx
    cases s with
    | int k =>
      obtain ⟨m, h, _, hw⟩ := DataW.trod_int hu hx
      cases h; exact ⟨.int k m, .int k m, m, rfl, hw⟩
    | bool =>
      obtain ⟨b, h, _⟩ := DataW.trod_bool hu hx
      cases h; exact ⟨.bool b, .bool b, b, rfl⟩
    | slice e =>
      unfold okSc at hok
      split at hok
      case h_2 => cases hok
      rename_i scs hscs
      simp only [Bool.and_eq_true, beq_iff_eq, Bool.not_eq_true'] at hok
      obtain ⟨⟨hne, hcells⟩, hall⟩ := hok
      rcases DataW.trod_slice hu hx with ⟨h, _⟩ | ⟨a, len, cap, elems, rest, m, _, h, _, _, hlc, hmx, hlen, hel, _, _⟩
      · cases h
        exact ⟨.ro [], .roE none 0, [], rfl, by simp, fun row hr => by simp at hr⟩
      · cases h
        have hpos : 0 < scs.length := by cases scs with | nil => simp at hne | cons => simp
        have rowAt : ∀ i, i < len → ∃ row : List V, row.length = scs.length ∧ (∀ (j : Nat) s x, scs[j]? = some s → row[j]? = some x → CT P n s x) ∧
            ∀ (j : Nat) x, row[j]? = some x → ∃ c, W.cell? ((a.add (i * scs.length)).add j) = some c ∧ RelV W W.heap.size ι x c := by
          intro i hi
          have hb := hel i hi
          have hlt : i < elems.length := by omega
          rw [show elems[i]? = some elems[i] by simp [hlt], Option.bind_eq_some_iff] at hb
          obtain ⟨cs', hcs', htr⟩ := hb
          obtain ⟨q1, q2⟩ := flat_spec ih 8 e m cs' _ scs hscs hall htr
          obtain ⟨_, hcl, hcell⟩ := World.cells?_some hcs'
          obtain ⟨row, r1, r2⟩ := list_choice (Q := fun j v => ∀ s c, scs[j]? = some s → cs'[j]? = some c → RelV W W.heap.size ι v c ∧ CT P n s v) scs.length fun j hj => by
            obtain ⟨v, hv⟩ := q2 j scs[j] cs'[j] (by simp [hj]) (by simp)
            exact ⟨v, fun s c hs hc => by
              rw [show scs[j]? = some scs[j] by simp [hj]] at hs
              rw [show cs'[j]? = some cs'[j] by simp] at hc
              cases hs; cases hc; exact hv⟩
          refine ⟨row, r1, fun j s x hs hx => ?_, fun j x hx => ?_⟩
          · have hj : j < scs.length := (List.getElem?_eq_some_iff.1 hs).1
            exact (r2 j x hx s cs'[j] hs (by simp)).2
          · have hj : j < row.length := (List.getElem?_eq_some_iff.1 hx).1
            have hj' : j < cs'.length := by omega
            refine ⟨cs'[j], ?_, (r2 j x hx scs[j] cs'[j] (by simp [show j < scs.length by omega]) (by simp)).1⟩
            have := hcell j (by omega)
            rw [hcells] at this
            rw [this]; simp [hj']
        obtain ⟨rows, e1, e2⟩ := list_choice len rowAt
        have hCT : CT P (n + 1) (.slice e) (.ro rows) := by
          refine ⟨rows, rfl, by omega, fun row hr => ⟨scs, hscs, ?_⟩⟩
          obtain ⟨i, hi⟩ := List.getElem?_of_mem hr
          exact ⟨(e2 i row hi).1, (e2 i row hi).2.1⟩
        refine ⟨.ro rows, ?_, hCT⟩
        by_cases hl0 : len = 0
        · have : rows = [] := by apply List.eq_nil_of_length_eq_zero; omega
          subst this; subst hl0
          exact .roE _ _
        · have hcell : ∀ i j (hi : i < rows.length) (hj : j < (rows[i]).length), ∃ c, W.cell? ((a.add (i * scs.length)).add j) = some c ∧ RelV W W.heap.size ι ((rows[i])[j]) c := fun i j hi hj =>
            (e2 i rows[i] (by simp [hi])).2.2 j _ (by simp)
          have hw : ∀ i (hi : i < rows.length), (rows[i]).length = scs.length := fun i hi => (e2 i rows[i] (by simp [hi])).1
          obtain ⟨c0, hc0, _⟩ := hcell 0 0 (by omega) (by rw [hw]; exact hpos)
          have hsp : a.spot = none := by simpa [Addr.add] using cell_spot hc0
          have hbl : a.block < W.heap.size := by simpa [Addr.add] using cell_lt hc0
          have hadd : ∀ i j, (a.add (i * scs.length)).add j = (⟨a.block, a.off + (i * scs.length + j), none⟩ : Addr) := by
            intro i j
            obtain ⟨ab, ao, asp⟩ := a
            simp only at hsp; subst hsp
            unfold Addr.add
            split <;> split <;> simp_all <;> omega
          have ha : a = (⟨a.block, a.off, none⟩ : Addr) := by
            obtain ⟨ab, ao, asp⟩ := a
            simp only at hsp; subst hsp; rfl
          rw [ha]
          refine .ro (fun i j => (W.cell? (⟨a.block, a.off + (i * scs.length + j), none⟩ : Addr)).getD undef) hbl e1.symm (by omega) hw (fun i j hi hj => ?_) (fun i j hi hj => ?_)
          · obtain ⟨c, hc, _⟩ := hcell i j hi (by rw [hw]; exact hj)
            rw [hadd] at hc; simp [hc]
          · obtain ⟨c, hc, hr⟩ := hcell i j hi hj
            rw [hadd] at hc; simpa [hc] using hr

/-- A value from without: its cells and their kinds. -/
theorem opened {t : TypeId} {v : Value} {d : DataW H} {ps : List MemPlace} {scs : List Sc} (n : Nat) (hf : flat P 8 t = some scs) (hok : scs.all (okSc P n) = true) (h : DataW.Trod enc P W 0 spare held t v d ps) :
    ∃ vs, RelL W W.heap.size ι vs v.cells.toList ∧ vs.length = scs.length ∧ ∀ (j : Nat) s x, scs[j]? = some s → vs[j]? = some x → CT P n s x := by
  obtain ⟨fuel, hx⟩ := h
  obtain ⟨q1, q2⟩ := flat_spec (ι := ι) (down n) 8 t fuel _ _ scs hf hok hx
  obtain ⟨vs, r1, r2⟩ := list_choice (Q := fun j x => ∀ s c, scs[j]? = some s → v.cells.toList[j]? = some c → RelV W W.heap.size ι x c ∧ CT P n s x) scs.length fun j hj => by
    obtain ⟨x, hv⟩ := q2 j scs[j] v.cells.toList[j] (by simp [hj]) (by simp)
    exact ⟨x, fun s c hs hc => by
      rw [show scs[j]? = some scs[j] by simp [hj]] at hs
      rw [show v.cells.toList[j]? = some v.cells.toList[j] by simp] at hc
      cases hs; cases hc; exact hv⟩
  refine ⟨vs, ⟨r1.trans q1.symm, fun j x c hx hc => ?_⟩, r1, fun j s x hs hx => ?_⟩
  · have hj : j < vs.length := (List.getElem?_eq_some_iff.1 hx).1
    exact (r2 j x hx scs[j] c (by simp [show j < scs.length by omega]) hc).1
  · have hj : j < scs.length := (List.getElem?_eq_some_iff.1 hs).1
    exact (r2 j x hx s v.cells.toList[j] hs (by simp)).2

def CTs (P : Program) (n : Nat) : List Sc → List V → Prop
  | [], [] => True
  | s :: ss, x :: xs => CT P n s x ∧ CTs P n ss xs
  | _, _ => False
theorem CTs_of : ∀ {scs : List Sc} {vs : List V}, vs.length = scs.length → (∀ (j : Nat) s x, scs[j]? = some s → vs[j]? = some x → CT P n s x) → CTs P n scs vs
  | [], [], _, _ => trivial
  | [], _ :: _, h, _ => by simp at h
  | _ :: _, [], h, _ => by simp at h
  | s :: ss, x :: xs, h, k => ⟨k 0 s x rfl rfl, CTs_of (by simpa using h) fun j s x h1 h2 => k (j + 1) s x (by simpa using h1) (by simpa using h2)⟩
theorem CTs_nil {vs : List V} (h : CTs P n [] vs) : vs = [] := by cases vs with | nil => rfl | cons => exact h.elim
theorem CTs_cons {s : Sc} {ss : List Sc} {vs : List V} (h : CTs P n (s :: ss) vs) : ∃ x xs, vs = x :: xs ∧ CT P n s x ∧ CTs P n ss xs := by
  cases vs with
  | nil => exact h.elim
  | cons x xs => exact ⟨x, xs, rfl, h⟩
theorem CT_int {k : IntKind} {v : V} (h : CT P n (.int k) v) : ∃ m, v = .int k m ∧ (Lit.int k m).wf = true := by cases n <;> exact h
theorem CT_bool {v : V} (h : CT P n .bool v) : ∃ b, v = .bool b := by cases n <;> exact h
theorem CT_slice {e : TypeId} {scs : List Sc} {v : V} (hf : flat P 8 e = some scs) (h : CT P (n + 1) (.slice e) v) : ∃ rows, v = .ro rows ∧ rows.length ≤ maxLen ∧ ∀ row ∈ rows, CTs P n scs row := by
  obtain ⟨rows, rfl, hl, h⟩ := h
  refine ⟨rows, rfl, hl, fun row hr => ?_⟩
  obtain ⟨scs', h1, h2, h3⟩ := h row hr
  rw [hf] at h1; cases h1
  exact CTs_of h2 h3
/-- A list of rows, each the image of something. -/
theorem rows_map {α : Type} {f : α → List V} : ∀ {rows : List (List V)}, (∀ row ∈ rows, ∃ x, row = f x) → ∃ xs : List α, rows = xs.map f
  | [], _ => ⟨[], rfl⟩
  | r :: rs, h => by
    obtain ⟨x, rfl⟩ := h r (by simp)
    obtain ⟨xs, rfl⟩ := rows_map (rows := rs) fun row hr => h row (by simp [hr])
    exact ⟨x :: xs, rfl⟩

/-- The argument of a type out of its cells. -/
def pack (P : Program) (t : TypeId) (vs : List V) : V := match P.underlying t with | some (.struct _) => .agg vs | _ => vs.headD .any
theorem arg (n : Nat) {t : TypeId} {v : Value} {d : DataW H} {ps : List MemPlace} {scs : List Sc} {r : Reach} {b : Nat} (hf : flat P 8 t = some scs) (hok : scs.all (okSc P n) = true)
    (hval : Value.okWide P W r b t v) (h : DataW.Trod enc P W 0 spare held t v d ps) : ∃ vs, CTs P n scs vs ∧ RelV W W.heap.size ι (pack P t vs) v := by
  obtain ⟨vs, h1, h2, h3⟩ := opened (ι := ι) n hf hok h
  refine ⟨vs, CTs_of h2 h3, ?_⟩
  have one : ∀ s, scs = [s] → v.cells = #[v] → RelV W W.heap.size ι (vs.headD .any) v := by
    intro s hs hv
    subst hs
    rw [hv] at h1
    cases vs with
    | nil => simp at h2
    | cons x xs => exact h1.head
  unfold flat at hf
  unfold pack
  split at hf
  · rename_i hu
    cases hf
    rw [hu]
    obtain ⟨b, rfl⟩ := WideShapes.okWide_bool hu hval
    exact one _ rfl rfl
  · rename_i k hu
    cases hf
    rw [hu]
    obtain ⟨m, rfl⟩ := WideShapes.okWide_int hu hval
    exact one _ rfl rfl
  · rename_i e hu
    cases hf
    rw [hu]
    obtain ⟨a, l, c, rfl⟩ := WideShapes.okWide_slice hu hval
    exact one _ rfl rfl
  · rename_i fs hu
    rw [hu]
    obtain ⟨cs, rfl, hsz⟩ := WideShapes.okWide_struct hu hval
    simp only [Value.cells] at h1
    simpa using relV_agg h1
  · cases hf

theorem law_run {f : FuncId} {args : List V} {cargs : List Value} (ha : RelL W W.heap.size (fun _ => none) args cargs) (h : ACalls P f args (fun _ => none) fun v _ => v = .bool true) :
    Calls P f cargs.toArray W fun e W' => e = .returned (.bool true) ∧ Below W.heap.size W W' := by
  have h0 : RelH W W.heap.size (fun _ => none) (fun _ => none) W :=
    ⟨fun o ob h => (by cases h), fun o1 o2 b1 b2 p1 p2 h => (by cases h), Below.refl _ _, Nat.le_refl _, ⟨0, fun _ _ => ⟨rfl, rfl⟩⟩⟩
  refine (h.run W W.heap.size (fun _ => none) (fun _ => none) (fun _ => none) W cargs h0 (fun _ _ h => h) (fun _ _ h => h) (fun _ _ h => (by cases h)) ha).mono fun e w' h => ?_
  obtain ⟨v, cv, ι', G', H', rfl, hv, hi, hrel, hsub, hfrm, hdis, rfl⟩ := h
  cases hv
  exact ⟨rfl, hrel.low⟩

end
end Go.Abs
