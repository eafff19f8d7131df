/-
The abstract layer, part T: slices that are read, slices that are one's own; nothing of a program.
-/
import Derived.Test.YtgiogphdnpeddaaGreatAbsQ
import Derived.IntWalk
set_option linter.all false
namespace Go.Abs

theorem i64_in {n : Int} (h0 : -9223372036854775808 ≤ n) (h1 : n ≤ 9223372036854775807) : IntKind.i64.wrap n = n := IntWalk.i64_in n ⟨h0, h1⟩

/-! #### heaps -/
theorem upd_eq (H : Heap) (o : Nat) (x : Ob) : upd H o x o = some x := by simp [upd]
theorem upd_off {H : Heap} {o i : Nat} {x : Ob} (h : i ≠ o) : upd H o x i = H i := by simp [upd, h]
theorem upd_twice (H : Heap) (o : Nat) (x y : Ob) : upd (upd H o x) o y = upd H o y := by funext i; by_cases h : i = o <;> simp [upd, h]
attribute [simp] upd_eq upd_twice
theorem sub_fresh {H : Heap} {o : Nat} {x : Ob} (h : H o = none) : Abs.sub H (upd H o x) := fun i y hi => by
  have : i ≠ o := by rintro rfl; rw [h] at hi; cases hi
  rw [upd_off this]; exact hi
theorem sub_upd_of {S H : Heap} {o : Nat} {x : Ob} (hs : Abs.sub S H) (h : S o = none) : Abs.sub S (upd H o x) := fun i y hi => by
  have : i ≠ o := by rintro rfl; rw [h] at hi; cases hi
  rw [upd_off this]; exact hs i y hi
theorem sub_upd2 {S H : Heap} {o : Nat} {x : Ob} (hs : Abs.sub S H) : Abs.sub (upd S o x) (upd H o x) := fun i y hi => by
  by_cases e : i = o
  · subst e; simpa using hi
  · rw [upd_off e] at hi ⊢; exact hs i y hi
theorem sub_none {S H : Heap} {o : Nat} (hs : Abs.sub S H) (h : H o = none) : S o = none := by
  cases e : S o with
  | none => rfl
  | some x => rw [hs o x e] at h; cases h
@[simp] theorem sub_self (H : Heap) : Abs.sub H H ↔ True := ⟨fun _ => trivial, fun _ => Abs.sub_refl _⟩

/-! #### reading -/

/-- The slice v reads as these rows. -/
def Rd (H : Heap) (sz : Nat) (v : V) (rows : List (List V)) : Prop :=
  (∀ r ∈ rows, r.length = sz) ∧ (v = .ro rows ∨ (v = .nils ∧ rows = []) ∨
    ∃ o s cap ob, v = .slice o s rows.length cap ∧ H o = some ob ∧ ob.w = sz ∧ s + rows.length ≤ ob.rows.length ∧ ∀ i, i < rows.length → ob.rows[s + i]? = rows[i]?)
/-- The pointer p leads into this row, c cells on. -/
def Pt (H : Heap) (p : V) (row : List V) (c : Nat) : Prop := p = .rop row c ∨ ∃ o r ob, p = .ptr o r c ∧ H o = some ob ∧ ob.rows[r]? = some row

theorem Rd.mono {H H' : Heap} {sz : Nat} {v : V} {rows : List (List V)} (h : Rd H sz v rows) (hs : Abs.sub H H') : Rd H' sz v rows := by
  refine ⟨h.1, ?_⟩
  rcases h.2 with h | h | ⟨o, s, cap, ob, h1, h2, h3⟩
  · exact .inl h
  · exact .inr (.inl h)
  · exact .inr (.inr ⟨o, s, cap, ob, h1, hs _ _ h2, h3⟩)
theorem Pt.mono {H H' : Heap} {p : V} {row : List V} {c : Nat} (h : Pt H p row c) (hs : Abs.sub H H') : Pt H' p row c := by
  rcases h with h | ⟨o, r, ob, h1, h2, h3⟩
  · exact .inl h
  · exact .inr ⟨o, r, ob, h1, hs _ _ h2, h3⟩
theorem Rd.ro {H : Heap} {sz : Nat} {rows : List (List V)} (h : ∀ r ∈ rows, r.length = sz) : Rd H sz (.ro rows) rows := ⟨h, .inl rfl⟩
theorem Rd.nils {H : Heap} {sz : Nat} : Rd H sz .nils [] := ⟨fun r h => by simp at h, .inr (.inl ⟨rfl, rfl⟩)⟩
theorem Rd.len {H : Heap} {sz : Nat} {v : V} {rows : List (List V)} (h : Rd H sz v rows) : lenOf v = some rows.length := by
  rcases h.2 with rfl | ⟨rfl, rfl⟩ | ⟨o, s, cap, ob, rfl, _⟩ <;> rfl
/-- A slice over a whole object. -/
theorem Rd.own {H : Heap} {o sz : Nat} {cap : Option Nat} {rows : List (List V)} (hr : ∀ r ∈ rows, r.length = sz) (h : H o = some ⟨sz, rows⟩) : Rd H sz (.slice o 0 rows.length cap) rows :=
  ⟨hr, .inr (.inr ⟨o, 0, cap, _, rfl, h, rfl, by simp, fun i hi => by simp⟩)⟩

theorem Rd.idx {H : Heap} {sz : Nat} {v : V} {rows : List (List V)} {k : IntKind} {i : Int} {K : V → Prop} (h : Rd H sz v rows) (h0 : 0 ≤ i) (h1 : i < rows.length) (hk : ∀ p, Pt H p (rows.getD i.toNat []) 0 → K p) :
    bnd (aIndex H sz v (.int k i)) K := by
  have hi : i.toNat < rows.length := by omega
  have hg : rows.getD i.toNat [] = rows[i.toNat] := by simp [hi]
  rw [hg] at hk
  rcases h.2 with rfl | ⟨rfl, rfl⟩ | ⟨o, s, cap, ob, rfl, h2, h3, h4, h5⟩
  · simp only [aIndex, if_pos h0]
    have : rows[i.toNat]? = some rows[i.toNat] := by simp [hi]
    rw [this]
    simp only
    rw [if_pos (h.1 _ (List.getElem_mem hi))]
    exact hk _ (.inl rfl)
  · simp at hi
  · simp only [aIndex]
    rw [if_pos ⟨h0, h1⟩, h2]
    simp only
    rw [if_pos h3]
    refine hk _ (.inr ⟨o, s + i.toNat, ob, rfl, h2, ?_⟩)
    rw [h5 _ hi]; simp [hi]
theorem Pt.ld {H : Heap} {p : V} {row : List V} {c : Nat} (h : Pt H p row c) (b : Bool) (sz : Nat) : aLd b sz H p = partOf b sz row c := by
  rcases h with rfl | ⟨o, r, ob, rfl, h2, h3⟩
  · rfl
  · simp [aLd, rowAt, h2, h3]
theorem Pt.fld {H : Heap} {p : V} {row : List V} {c : Nat} {off : Nat} {K : V → Prop} (h : Pt H p row c) (hk : ∀ q, Pt H q row (c + off) → K q) : bnd (aField off p) K := by
  rcases h with rfl | ⟨o, r, ob, rfl, h2, h3⟩
  · exact hk _ (.inl rfl)
  · exact hk _ (.inr ⟨o, r, ob, rfl, h2, h3⟩)
theorem Rd.rows {H : Heap} {sz : Nat} {v : V} {rows : List (List V)} (h : Rd H sz v rows) (hv : ∀ r, v ≠ .ro r) : rowsOf H sz v = some rows := by
  rcases h.2 with rfl | ⟨rfl, rfl⟩ | ⟨o, s, cap, ob, rfl, h2, h3, h4, h5⟩
  · exact absurd rfl (hv rows)
  · rfl
  · simp only [rowsOf, h2]
    rw [if_pos ⟨h3, h4⟩]
    congr 1
    apply List.ext_getElem?
    intro i
    by_cases hi : i < rows.length
    · rw [List.getElem?_take, if_pos hi, List.getElem?_drop, h5 i hi]
    · rw [List.getElem?_eq_none (by simp; omega), List.getElem?_eq_none (by omega)]

/-! #### one's own slices -/

theorem aIndex_own {H : Heap} {o sz s n : Nat} {ob : Ob} {cap : Option Nat} {k : IntKind} {i : Int} (ho : H o = some ob) (hw : ob.w = sz) (h0 : 0 ≤ i) (h1 : i < n) : aIndex H sz (.slice o s n cap) (.int k i) = some (.ptr o (s + i.toNat) 0) := by
  simp only [aIndex]
  rw [if_pos ⟨h0, h1⟩, ho]
  simp only
  rw [if_pos hw]
theorem aSt_own {H : Heap} {o r c sz : Nat} {ob : Ob} {row row' : List V} {v : V} (ho : H o = some ob) (hr : ob.rows[r]? = some row) (hs : stz sz row c v = some row') :
    aSt sz H (.ptr o r c) v = some (upd H o ⟨ob.w, ob.rows.set r row'⟩) := by
  simp only [aSt, ho, hr, hs]

/-- A slice that is wholly one's own, over what stood before. -/
def Own (H0 : Heap) (sz : Nat) (rows : List (List V)) (v : V) (H : Heap) : Prop :=
  (v = .nils ∧ rows = [] ∧ H = H0) ∨ (∃ o, H0 o = none ∧ v = .slice o 0 rows.length none ∧ H = upd H0 o ⟨sz, rows⟩) ∨ (∃ o, rows = [] ∧ H0 o = none ∧ v = .slice o 0 0 (some 0) ∧ H = upd H0 o ⟨sz, []⟩)
theorem Own.sub {H0 H : Heap} {sz : Nat} {rows : List (List V)} {v : V} (h : Own H0 sz rows v H) : Abs.sub H0 H := by
  rcases h with ⟨_, _, rfl⟩ | ⟨o, h1, _, rfl⟩ | ⟨o, _, h1, _, rfl⟩
  · exact Abs.sub_refl _
  · exact sub_fresh h1
  · exact sub_fresh h1
theorem Own.rd {H0 H : Heap} {sz : Nat} {rows : List (List V)} {v : V} (h : Own H0 sz rows v H) (hr : ∀ r ∈ rows, r.length = sz) : Rd H sz v rows := by
  rcases h with ⟨rfl, rfl, rfl⟩ | ⟨o, h1, rfl, rfl⟩ | ⟨o, rfl, h1, rfl, rfl⟩
  · exact Rd.nils
  · exact Rd.own hr (by simp)
  · exact Rd.own (rows := []) hr (by simp)
theorem Own.append {H0 H Hb : Heap} {sz by_ : Nat} {rows xs : List (List V)} {v : V} {K : V → Heap → Prop} (h : Own H0 sz rows v H) (hs : Abs.sub H Hb) (hx : xs ≠ []) (hb : (rows.length + xs.length) * by_ ≤ 140737488355328)
    (hk : ∀ v' H' H'', Own H0 sz (rows ++ xs) v' H'' → Abs.sub H'' H' → K v' H') : appendK Hb sz by_ v xs K := by
  have fresh : ∀ (o o' : Nat), H0 o' = none → Hb o' = none → Abs.sub H0 (del Hb o) → Own H0 sz (rows ++ xs) (.slice o' 0 (rows.length + xs.length) none) (upd H0 o' ⟨sz, rows ++ xs⟩) := fun o o' h0 _ _ =>
    .inr (.inl ⟨o', h0, by simp, rfl⟩)
  have nn : ∀ o', Hb o' = none → H0 o' = none := fun o' h' => sub_none (fun i x hi => hs i x (h.sub i x hi)) h'
  have hsub : Abs.sub H0 Hb := fun i x hi => hs i x (h.sub i x hi)
  rcases h with ⟨rfl, rfl, rfl⟩ | ⟨o, h1, rfl, rfl⟩ | ⟨o, rfl, h1, rfl, rfl⟩
  · refine ⟨fun e => absurd e hx, fun _ => ⟨by simpa using hb, fun o ho => ?_⟩⟩
    exact hk _ _ (upd H o ⟨sz, xs⟩) (.inr (.inl ⟨o, nn o ho, by simp, by simp⟩)) (sub_upd2 hs)
  · have ho : Hb o = some ⟨sz, rows⟩ := hs o _ (by simp)
    simp only [appendK, ho]
    refine ⟨trivial, by simp, fun e => absurd e hx, fun _ => ⟨hb, trivial, fun o' ho' => ?_⟩⟩
    refine hk _ _ (upd H0 o' ⟨sz, rows ++ xs⟩) (.inr (.inl ⟨o', nn o' ho', by simp, rfl⟩)) ?_
    simp only [List.take_length]
    refine sub_upd2 fun i x hi => ?_
    have : i ≠ o := by rintro rfl; rw [h1] at hi; cases hi
    simp only [del, if_neg this]
    exact hsub i x hi
  · have ho : Hb o = some ⟨sz, []⟩ := hs o _ (by simp)
    simp only [appendK, ho]
    refine ⟨trivial, by simp, fun e => absurd e hx, fun _ => ⟨by simpa using hb, fun e => ?_, fun _ o' ho' => ?_⟩⟩
    · exfalso
      have : 0 < xs.length := by cases xs with | nil => exact absurd rfl hx | cons => simp
      omega
    · refine hk _ _ (upd H0 o' ⟨sz, xs⟩) (.inr (.inl ⟨o', nn o' ho', by simp, by simp⟩)) ?_
      simp only [List.drop_nil, List.take_nil, List.nil_append]
      exact sub_upd2 hsub

theorem fill_get {α : Type} {M : List α} {z : α} {i n : Nat} (hn : n = M.length) (h : i < M.length) : (M.take i ++ List.replicate (n - i) z)[i]? = some z := by
  subst hn
  rw [List.getElem?_append_right (by simp; omega), List.getElem?_replicate]
  simp; omega
theorem fill_set {α : Type} {M : List α} {z : α} {i n : Nat} (hn : n = M.length) (h : i < M.length) : (M.take i ++ List.replicate (n - i) z).set i M[i] = M.take (i + 1) ++ List.replicate (n - (i + 1)) z := by
  subst hn
  apply List.ext_getElem?
  intro j
  by_cases hj : j = i
  · subst hj
    rw [List.getElem?_set_self (by simp; omega), List.getElem?_append_left (by simp; omega), List.getElem?_take, if_pos (by omega)]
    simp [h]
  · rw [List.getElem?_set_ne (by omega)]
    by_cases hlt : j < i
    · rw [List.getElem?_append_left (by simp; omega), List.getElem?_append_left (by simp; omega), List.getElem?_take, List.getElem?_take, if_pos hlt, if_pos (by omega)]
    · rw [List.getElem?_append_right (by simp; omega), List.getElem?_append_right (by simp; omega), List.getElem?_replicate, List.getElem?_replicate]
      simp
      congr 1
      simp; omega

theorem over_get {α : Type} {M R : List α} {i : Nat} (hn : M.length = R.length) (h : i < M.length) : (M.take i ++ R.drop i)[i]? = R[i]? := by
  rw [List.getElem?_append_right (by simp; omega), List.getElem?_drop]
  congr 1
  simp; omega
theorem over_set {α : Type} {M R : List α} {i : Nat} {x : α} (hn : M.length = R.length) (hx : M[i]? = some x) : (M.take i ++ R.drop i).set i x = M.take (i + 1) ++ R.drop (i + 1) := by
  have h : i < M.length := (List.getElem?_eq_some_iff.1 hx).1
  apply List.ext_getElem?
  intro j
  by_cases hj : j = i
  · subst hj
    rw [List.getElem?_set_self (by simp; omega), List.getElem?_append_left (by simp; omega), List.getElem?_take, if_pos (by omega), hx]
  · rw [List.getElem?_set_ne (by omega)]
    by_cases hlt : j < i
    · rw [List.getElem?_append_left (by simp; omega), List.getElem?_append_left (by simp; omega), List.getElem?_take, List.getElem?_take, if_pos hlt, if_pos (by omega)]
    · rw [List.getElem?_append_right (by simp; omega), List.getElem?_append_right (by simp; omega), List.getElem?_drop, List.getElem?_drop]
      congr 1
      simp; omega

/-- An int's row. -/
abbrev ri (n : Int) : List V := [.int .i64 n]
theorem ri_len {xs : List Int} : ∀ r ∈ xs.map ri, r.length = 1 := by simp
theorem getD_map_ri {xs : List Int} {i : Nat} (h : i < xs.length) : (xs.map ri).getD i [] = ri xs[i] := by simp [h]

/-- The marks k, k + 1, .. as rows. -/
def marks (k : Int) (n : Nat) : List (List V) := (List.range n).map fun i => ri (k + (i : Nat))
@[simp] theorem marks_len (k : Int) (n : Nat) : (marks k n).length = n := by simp [marks]
theorem marks_get {k : Int} {n i : Nat} (h : i < n) : (marks k n)[i]? = some (ri (k + (i : Nat))) := by simp [marks, h]
theorem marks_row {k : Int} {n : Nat} : ∀ r ∈ marks k n, r.length = 1 := by simp [marks]

theorem bsl_nil (sz : Nat) (z : List V) (h1 : z.length = sz) (h2 : 0 < sz) : bsl sz 0 z [] = some [] := by simp [bsl, allW, fillR, h1, h2]
theorem bsl_one (sz : Nat) (z : List V) (v : V) (h1 : z.length = sz) (h2 : 0 < sz) (h3 : (cellsOf v).length = sz) (h4 : (cellsOf v).all cellOk = true) (h5 : sz ≤ 16777216) : bsl sz 1 z [(0, v)] = some [cellsOf v] := by
  unfold bsl
  rw [if_pos (by simp [allW, h1, h2, h3, h5]; simpa using h4)]
  simp [fillR]
theorem rowsOf_own {H : Heap} {o sz n : Nat} {cap : Option Nat} {ob : Ob} (ho : H o = some ob) (hw : ob.w = sz) (hn : n = ob.rows.length) : rowsOf H sz (.slice o 0 n cap) = some ob.rows := by
  subst hn
  simp [rowsOf, ho, hw]

@[simp] theorem rowsOf_upd (H : Heap) (o sz n : Nat) (cap : Option Nat) (rows : List (List V)) : rowsOf (upd H o ⟨sz, rows⟩) sz (.slice o 0 n cap) = if n ≤ rows.length then some (rows.take n) else none := by
  simp [rowsOf]

/-- More steps than places: two steps at one place. -/
theorem pigeon : ∀ (L : Nat) (g : Nat → Nat), (∀ j, j ≤ L → g j < L) → ∃ i j, i < j ∧ j ≤ L ∧ g i = g j
  | 0, g, h => absurd (h 0 (Nat.le_refl 0)) (by omega)
  | L + 1, g, h => by
    by_cases hc : ∃ i, i ≤ L ∧ g i = g (L + 1)
    · obtain ⟨i, hi, e⟩ := hc
      exact ⟨i, L + 1, by omega, by omega, e⟩
    · have hne : ∀ i, i ≤ L → g i ≠ g (L + 1) := fun i hi e => hc ⟨i, hi, e⟩
      obtain ⟨i, j, h1, h2, h3⟩ := pigeon L (fun j => if g j = L then g (L + 1) else g j) fun j hj => by
        have := h j (by omega)
        have := h (L + 1) (by omega)
        have := hne j hj
        split <;> omega
      refine ⟨i, j, h1, by omega, ?_⟩
      have := hne i (by omega)
      have := hne j h2
      split at h3 <;> split at h3 <;> omega

/-- An older object may be written over: one's own slice stays. -/
theorem Own.rebase {H0 H : Heap} {sz : Nat} {rows : List (List V)} {v : V} {o : Nat} (x : Ob) (h : Own H0 sz rows v H) (ho : H0 o ≠ none) : Own (upd H0 o x) sz rows v (upd H o x) := by
  have comm : ∀ (p : Nat) (y : Ob), H0 p = none → upd (upd H0 p y) o x = upd (upd H0 o x) p y ∧ upd H0 o x p = none := fun p y hp => by
    have hne : p ≠ o := by rintro rfl; exact ho hp
    refine ⟨?_, by rw [upd_off hne]; exact hp⟩
    funext i
    by_cases e1 : i = p
    · subst e1; rw [upd_off hne, upd_eq, upd_eq]
    · by_cases e2 : i = o
      · subst e2; rw [upd_eq, upd_off e1, upd_eq]
      · rw [upd_off e2, upd_off e1, upd_off e1, upd_off e2]
  rcases h with ⟨rfl, rfl, rfl⟩ | ⟨p, h1, rfl, rfl⟩ | ⟨p, rfl, h1, rfl, rfl⟩
  · exact .inl ⟨rfl, rfl, rfl⟩
  · exact .inr (.inl ⟨p, (comm p ⟨sz, rows⟩ h1).2, rfl, (comm p _ h1).1⟩)
  · exact .inr (.inr ⟨p, rfl, (comm p ⟨sz, []⟩ h1).2, rfl, (comm p _ h1).1⟩)

theorem callK_fn {P : Program} {H : Heap} {f : FuncId} {caps args : List V} {K : V → Heap → Prop} (he : enterable P f = true) (h : ACalls P f (args ++ caps) H K) : callK P H (.fn f caps) args K := by
  simp only [callK, he]; exact h

theorem upd_comm {H : Heap} {i j : Nat} (x y : Ob) (h : i ≠ j) : upd (upd H i x) j y = upd (upd H j y) i x := by
  funext k
  by_cases e1 : k = i
  · subst e1; rw [upd_off h, upd_eq, upd_eq]
  · by_cases e2 : k = j
    · subst e2; rw [upd_eq, upd_off e1, upd_eq]
    · rw [upd_off e2, upd_off e1, upd_off e1, upd_off e2]
theorem upd_none {H : Heap} {i j : Nat} {x : Ob} (h : upd H i x j = none) : j ≠ i ∧ H j = none := by
  have hne : j ≠ i := by rintro rfl; rw [upd_eq] at h; cases h
  exact ⟨hne, by rw [upd_off hne] at h; exact h⟩
theorem Own.cell {H0 H : Heap} {sz : Nat} {rows : List (List V)} {v : V} (h : Own H0 sz rows v H) : cellsOf v = [v] ∧ cellOk v = true := by
  rcases h with ⟨rfl, _⟩ | ⟨o, _, rfl, _⟩ | ⟨o, _, _, rfl, _⟩ <;> exact ⟨rfl, rfl⟩

/-- A variable that holds one's own slice, in a box of its own. -/
def Cap (H : Heap) (o sz : Nat) (rows : List (List V)) (Hc : Heap) : Prop := ∃ u, Own (upd H o ⟨1, [[u]]⟩) sz rows u Hc
theorem Cap.sub {H Hc : Heap} {o sz : Nat} {rows : List (List V)} (h : Cap H o sz rows Hc) (ho : H o = none) : Abs.sub H Hc := by
  obtain ⟨u, hu⟩ := h
  exact sub_trans (sub_fresh ho) hu.sub
theorem Cap.start {H : Heap} {o p sz : Nat} (hp : H p = none) (ho : upd H p ⟨sz, []⟩ o = none) : Cap H o sz [] (upd (upd H p ⟨sz, []⟩) o ⟨1, [[.slice p 0 0 (some 0)]]⟩) := by
  obtain ⟨h1, h2⟩ := upd_none ho
  exact ⟨_, .inr (.inr ⟨p, rfl, by rw [upd_off (Ne.symm h1)]; exact hp, rfl, upd_comm _ _ (Ne.symm h1)⟩)⟩

/-- A slice that is wholly one's own (a result), whatever its capacity. -/
def Held (H0 : Heap) (sz : Nat) (rows : List (List V)) (v : V) (H : Heap) : Prop :=
  (v = .nils ∧ rows = [] ∧ H = H0) ∨ ∃ o cap, H0 o = none ∧ v = .slice o 0 rows.length cap ∧ (∀ k, cap = some k → k = rows.length) ∧ H = upd H0 o ⟨sz, rows⟩
theorem Own.held {H0 H : Heap} {sz : Nat} {rows : List (List V)} {v : V} (h : Own H0 sz rows v H) : Held H0 sz rows v H := by
  rcases h with ⟨h1, h2, h3⟩ | ⟨o, h1, h2, h3⟩ | ⟨o, rfl, h1, h2, h3⟩
  · exact .inl ⟨h1, h2, h3⟩
  · exact .inr ⟨o, none, h1, h2, by simp, h3⟩
  · exact .inr ⟨o, some 0, h1, h2, by simp, h3⟩
theorem Held.sub {H0 H : Heap} {sz : Nat} {rows : List (List V)} {v : V} (h : Held H0 sz rows v H) : Abs.sub H0 H := by
  rcases h with ⟨_, _, rfl⟩ | ⟨o, _, h1, _, _, rfl⟩
  · exact Abs.sub_refl _
  · exact sub_fresh h1
theorem Held.rd {H0 H : Heap} {sz : Nat} {rows : List (List V)} {v : V} (h : Held H0 sz rows v H) (hr : ∀ r ∈ rows, r.length = sz) : Rd H sz v rows := by
  rcases h with ⟨rfl, rfl, rfl⟩ | ⟨o, cap, h1, rfl, hc, rfl⟩
  · exact Rd.nils
  · exact Rd.own hr (by simp)
theorem Held.rebase {H0 H : Heap} {sz : Nat} {rows : List (List V)} {v : V} {o : Nat} (x : Ob) (h : Held H0 sz rows v H) (ho : H0 o ≠ none) : Held (upd H0 o x) sz rows v (upd H o x) := by
  rcases h with ⟨h1, h2, rfl⟩ | ⟨p, cap, h1, h2, hc, rfl⟩
  · exact .inl ⟨h1, h2, rfl⟩
  · have hne : p ≠ o := by rintro rfl; exact ho h1
    exact .inr ⟨p, cap, by rw [upd_off hne]; exact h1, h2, hc, upd_comm _ _ hne⟩
theorem Own.some {H0 H : Heap} {sz : Nat} {rows : List (List V)} {v : V} (h : Own H0 sz rows v H) (hr : rows ≠ []) : v ≠ .nils := by
  rcases h with ⟨_, h2, _⟩ | ⟨o, _, rfl, _⟩ | ⟨o, _, _, rfl, _⟩
  · exact absurd h2 hr
  · simp
  · simp

/-! #### boxes: objects of one row -/
theorem aLd_at {H : Heap} {o w : Nat} {row : List V} (h : H o = some ⟨w, [row]⟩) (b : Bool) (sz c : Nat) : aLd b sz H (.ptr o 0 c) = partOf b sz row c := by
  simp [aLd, rowAt, h]
theorem aSt_at {H : Heap} {o w : Nat} {row : List V} (h : H o = some ⟨w, [row]⟩) (sz c : Nat) (v : V) : aSt sz H (.ptr o 0 c) v = (stz sz row c v).map fun r => upd H o ⟨w, [r]⟩ := by
  simp only [aSt, h]
  simp
  cases stz sz row c v <;> rfl

end Go.Abs
