/-
Contracts: an element is put into one's own slice.
-/
import Derived.Test.YtaippfedjjjpeaaGreatBytM
import Derived.Test.YtaippfedjjjpeaaGreatKindA
set_option linter.all false
namespace Go.Proofs.YtaippfedjjjpeaaGreat
open Go Go.Abs Go.Proofs

abbrev putAt {α : Type} (xs : List α) (i : Nat) (x : α) : List α := xs.take i ++ [x] ++ xs.drop i
theorem putAt_len {α : Type} {xs : List α} {i : Nat} {x : α} (h : i ≤ xs.length) : (putAt xs i x).length = xs.length + 1 := by
  simp [putAt]; omega
def InsR (o n c : Nat) (final : List (List V)) (H : Heap) (v : V) (H' : Heap) : Prop :=
  (v = .slice o 0 (n + 1) (some c) ∧ ∃ ex', H' = upd H o ⟨5, final ++ ex'⟩) ∨ (∃ o', H o' = none ∧ v = .slice o' 0 (n + 1) none ∧ H' = upd H o' ⟨5, final⟩)
theorem own_split {α : Type} {T : Ty α} {xs : List α} {rows : List (List V)} {es : List Ent} (h : OwnL T xs rows es) : ∀ i : Nat, ∃ A B : List Ent, OwnL T (xs.take i) (rows.take i) A ∧ OwnL T (xs.drop i) (rows.drop i) B ∧ es = A ++ B := by
  induction h with
  | nil => intro i; exact ⟨[], [], by simpa using .nil, by simpa using .nil, rfl⟩
  | @cons a r es xs rs ess h1 h2 ih =>
    intro i
    cases i with
    | zero => exact ⟨[], es ++ ess, .nil, .cons h1 h2, rfl⟩
    | succ i =>
      obtain ⟨A, B, q1, q2, rfl⟩ := ih i
      exact ⟨es ++ A, B, .cons h1 q1, q2, by simp⟩
end Go.Proofs.YtaippfedjjjpeaaGreat
/-
Plain laws: what the reference's Install makes of a database.
-/
namespace Go.Proofs.YtaippfedjjjpeaaGreat
open Go Go.Abs Go.Proofs

theorem fold_pre {l : TLsa} : ∀ {ys : List TLsa} {o : List TLsa}, (∀ x ∈ ys, x.origin < l.origin) → ys.foldl (stepP l) (o, false) = (o ++ ys, false)
  | [], o, _ => by simp
  | x :: ys, o, h => by
    have hx := h x (by simp)
    have e : stepP l (o, false) x = (o ++ [x], false) := by
      unfold stepP
      have h1 : ¬ (l.origin ≤ x.origin) := by omega
      have h2 : x.origin ≠ l.origin := by omega
      simp [h1, h2]
    rw [List.foldl_cons, e, fold_pre fun y hy => h y (List.mem_cons_of_mem _ hy)]
    simp
theorem fold_post {l : TLsa} : ∀ {ys : List TLsa} {o : List TLsa}, (∀ x ∈ ys, x.origin ≠ l.origin) → ys.foldl (stepP l) (o, true) = (o ++ ys, true)
  | [], o, _ => by simp
  | x :: ys, o, h => by
    have hx := h x (by simp)
    have e : stepP l (o, true) x = (o ++ [x], true) := by
      unfold stepP
      simp [hx]
    rw [List.foldl_cons, e, fold_post fun y hy => h y (List.mem_cons_of_mem _ hy)]
    simp
theorem foldP_app (l : TLsa) (xs ys : List TLsa) : foldP l (xs ++ ys) = ys.foldl (stepP l) (foldP l xs) := by unfold foldP; rw [List.foldl_append]
theorem drop_org {xs : List TLsa} (hd : dbOk xs) {i : Nat} {x : TLsa} (h : x ∈ xs.drop i) : ∃ j, i ≤ j ∧ j < xs.length ∧ x.origin = og xs j := by
  obtain ⟨k, hk, rfl⟩ := List.mem_iff_getElem.1 h
  have hk' : k < xs.length - i := by simpa using hk
  refine ⟨i + k, by omega, by omega, ?_⟩
  rw [og_get (by omega)]
  simp
theorem take_org {xs : List TLsa} {i : Nat} {x : TLsa} (h : x ∈ xs.take i) : ∃ j, j < i ∧ j < xs.length ∧ x.origin = og xs j := by
  obtain ⟨k, hk, rfl⟩ := List.mem_iff_getElem.1 h
  have hk' : k < min i xs.length := by simpa using hk
  refine ⟨k, by omega, by omega, ?_⟩
  rw [og_get (by omega)]
  simp
theorem putL_set {xs : List TLsa} {l : TLsa} {i : Nat} (hd : dbOk xs) (hi : i < xs.length) (ho : og xs i = l.origin) : putL l xs = xs.set i l := by
  have e : xs = xs.take i ++ (xs[i] :: xs.drop (i + 1)) := by rw [← List.drop_eq_getElem_cons hi, List.take_append_drop]
  have h1 : foldP l (xs.take i) = (xs.take i, false) := by
    have := fold_pre (l := l) (ys := xs.take i) (o := []) fun x hx => by
      obtain ⟨j, h1, h2, h3⟩ := take_org hx
      have := og_lt hd (i := j) (j := i) h1 hi
      omega
    unfold foldP; simpa using this
  have h2 : stepP l (xs.take i, false) xs[i] = (xs.take i ++ [l], true) := by
    have : xs[i].origin = l.origin := by rw [← ho, og_get hi]
    unfold stepP
    simp [this]
  have h3 : foldP l xs = (xs.take i ++ [l] ++ xs.drop (i + 1), true) := by
    conv => lhs; rw [e]
    rw [foldP_app, h1, List.foldl_cons, h2, fold_post fun x hx => by
      obtain ⟨j, h1, h2, h3⟩ := drop_org hd hx
      have := og_lt hd (i := i) (j := j) (by omega) h2
      omega]
  unfold putL
  rw [h3]
  simp only [if_true]
  rw [List.set_eq_take_append_cons_drop, if_pos hi]
  simp
theorem putL_put {xs : List TLsa} {l : TLsa} {i : Nat} (hd : dbOk xs) (hi : i ≤ xs.length) (h2 : ∀ j, j < i → og xs j < l.origin) (h3 : ∀ j, i ≤ j → j < xs.length → l.origin < og xs j) : putL l xs = putAt xs i l := by
  have h1 : foldP l (xs.take i) = (xs.take i, false) := by
    have := fold_pre (l := l) (ys := xs.take i) (o := []) fun x hx => by
      obtain ⟨j, q1, q2, q3⟩ := take_org hx
      have := h2 j q1
      omega
    unfold foldP; simpa using this
  by_cases he : i = xs.length
  · subst he
    rw [List.take_length] at h1
    unfold putL putAt
    rw [h1]
    simp
  · have hlt : i < xs.length := by omega
    have e : xs = xs.take i ++ (xs[i] :: xs.drop (i + 1)) := by rw [← List.drop_eq_getElem_cons hlt, List.take_append_drop]
    have hx : l.origin < xs[i].origin := by have := h3 i (by omega) hlt; rwa [og_get hlt] at this
    have hs : stepP l (xs.take i, false) xs[i] = (xs.take i ++ [l] ++ [xs[i]], true) := by
      unfold stepP
      have q1 : l.origin ≤ xs[i].origin := by omega
      have q2 : xs[i].origin ≠ l.origin := by omega
      simp [q1, q2]
    have h4 : foldP l xs = (xs.take i ++ [l] ++ [xs[i]] ++ xs.drop (i + 1), true) := by
      conv => lhs; rw [e]
      rw [foldP_app, h1, List.foldl_cons, hs, fold_post fun x hx => by
        obtain ⟨j, q1, q2, q3⟩ := drop_org hd hx
        have := h3 j (by omega) q2
        omega]
    unfold putL putAt
    rw [h4]
    simp only [if_true]
    rw [List.drop_eq_getElem_cons hlt]
    simp
theorem og_out {xs : List TLsa} {j : Nat} (h : xs.length ≤ j) : og xs j = 0 := by
  unfold og
  rw [List.getElem?_eq_none (by simpa using h)]
  rfl
theorem ok_set {xs : List TLsa} {l : TLsa} {i : Nat} (hd : dbOk xs) (hl : lsaOk l) (hi : i < xs.length) (ho : og xs i = l.origin) : dbOk (xs.set i l) := by
  have hog : ∀ j, og (xs.set i l) j = og xs j := fun j => by
    by_cases hj : j < xs.length
    · rw [og_get (by simpa using hj), og_get hj]
      by_cases e : i = j
      · subst e; simp; rw [← ho, og_get hi]
      · simp [e]
    · rw [og_out (by simp; omega), og_out (by omega)]
  refine ⟨fun j hj => ?_, fun j hj h0 => ?_⟩
  · by_cases e : i = j
    · subst e; simp; exact hl
    · simp [e]; exact hd.1 j (by simpa using hj)
  · rw [hog, hog]
    exact hd.2 j (by simpa using hj) h0
theorem putAt_get {xs : List TLsa} {l : TLsa} {i : Nat} (hi : i ≤ xs.length) (j : Nat) : (putAt xs i l)[j]? = if j < i then xs[j]? else if j = i then some l else xs[j - 1]? := by
  have hti : (xs.take i).length = i := by simp; omega
  unfold putAt
  by_cases h1 : j < i
  · rw [if_pos h1, List.append_assoc, List.getElem?_append_left (by omega), List.getElem?_take, if_pos h1]
  · rw [if_neg h1]
    by_cases h2 : j = i
    · subst h2
      rw [if_pos rfl, List.append_assoc, List.getElem?_append_right (by omega), hti]
      simp
    · rw [if_neg h2, List.append_assoc, List.getElem?_append_right (by omega), hti]
      have e : j - i = (j - i - 1) + 1 := by omega
      rw [e]
      simp
      congr 1; omega
theorem og_opt {xs : List TLsa} {j : Nat} {x : TLsa} (h : xs[j]? = some x) : og xs j = x.origin := by
  obtain ⟨h1, h2⟩ := List.getElem?_eq_some_iff.1 h
  rw [og_get h1, h2]
theorem ok_put {xs : List TLsa} {l : TLsa} {i : Nat} (hd : dbOk xs) (hl : lsaOk l) (hi : i ≤ xs.length) (h2 : ∀ j, j < i → og xs j < l.origin) (h3 : ∀ j, i ≤ j → j < xs.length → l.origin < og xs j) : dbOk (putAt xs i l) := by
  have hlen : (putAt xs i l).length = xs.length + 1 := putAt_len hi
  have hog : ∀ j, j < xs.length + 1 → og (putAt xs i l) j = if j < i then og xs j else if j = i then l.origin else og xs (j - 1) := fun j hj => by
    have := putAt_get (l := l) hi j
    by_cases q1 : j < i
    · rw [if_pos q1] at this ⊢
      rw [List.getElem?_eq_getElem (l := xs) (by omega)] at this
      rw [og_opt this, og_get (by omega)]
    · rw [if_neg q1] at this ⊢
      by_cases q2 : j = i
      · rw [if_pos q2] at this ⊢; exact og_opt this
      · rw [if_neg q2] at this ⊢
        rw [List.getElem?_eq_getElem (l := xs) (by omega)] at this
        rw [og_opt this, og_get (by omega)]
  refine ⟨fun j hj => ?_, fun j hj h0 => ?_⟩
  · have := putAt_get (l := l) hi j
    rw [List.getElem?_eq_getElem hj] at this
    split at this
    · rw [List.getElem?_eq_getElem (l := xs) (by omega)] at this
      rw [Option.some.inj this]; exact hd.1 _ _
    · split at this
      · rw [Option.some.inj this]; exact hl
      · rw [List.getElem?_eq_getElem (l := xs) (by omega)] at this
        rw [Option.some.inj this]; exact hd.1 _ _
  · rw [hlen] at hj
    rw [hog j hj, hog (j - 1) (by omega)]
    by_cases q1 : j < i
    · rw [if_pos (by omega), if_pos q1]; exact hd.2 j (by omega) h0
    · rw [if_neg q1]
      by_cases q2 : j = i
      · rw [if_pos q2, if_pos (by omega)]
        exact h2 _ (by omega)
      · rw [if_neg q2]
        by_cases q3 : j - 1 = i
        · rw [if_neg (by omega), if_pos q3, q3]
          exact h3 i (by omega) (by omega)
        · rw [if_neg (by omega), if_neg q3]
          exact hd.2 (j - 1) (by omega) (by omega)
theorem split_lt {xs : List TLsa} {o : Int} {i : Nat} (hd : dbOk xs) (h3 : ∀ j, i ≤ j → j < xs.length → o ≤ og xs j) (hf : ¬ (i < xs.length ∧ og xs i = o)) : ∀ j, i ≤ j → j < xs.length → o < og xs j := fun j hj hlt => by
  by_cases e : j = i
  · subst e
    have := h3 j (by omega) hlt
    have : og xs j ≠ o := fun hh => hf ⟨hlt, hh⟩
    omega
  · have := og_lt hd (i := i) (j := j) (by omega) hlt
    have := h3 i (by omega) (by omega)
    omega
theorem split_at (xs : List TLsa) (hd : dbOk xs) (o : Int) : ∃ i, i ≤ xs.length ∧ (∀ j, j < i → og xs j < o) ∧ ∀ j, i ≤ j → j < xs.length → o ≤ og xs j := by
  have : ∀ k, k ≤ xs.length → ∃ i, i ≤ k ∧ (∀ j, j < i → og xs j < o) ∧ ∀ j, i ≤ j → j < k → o ≤ og xs j := by
    intro k
    induction k with
    | zero => exact fun _ => ⟨0, by omega, by omega, by omega⟩
    | succ k ih =>
      intro hk
      obtain ⟨i, h1, h2, h3⟩ := ih (by omega)
      by_cases q : o ≤ og xs k
      · exact ⟨i, by omega, h2, fun j hj hlt => if e : j = k then by rw [e]; exact q else h3 j hj (by omega)⟩
      · refine ⟨k + 1, by omega, fun j hj => ?_, by omega⟩
        by_cases e : j = k
        · rw [e]; omega
        · have := og_lt hd (i := j) (j := k) (by omega) (by omega)
          omega
  obtain ⟨i, h1, h2, h3⟩ := this xs.length (Nat.le_refl _)
  exact ⟨i, h1, h2, h3⟩
theorem putL_ok {xs : List TLsa} {l : TLsa} (hd : dbOk xs) (hl : lsaOk l) : dbOk (putL l xs) := by
  obtain ⟨i, h1, h2, h3⟩ := split_at xs hd l.origin
  by_cases hf : i < xs.length ∧ og xs i = l.origin
  · rw [putL_set hd hf.1 hf.2]; exact ok_set hd hl hf.1 hf.2
  · have h4 := split_lt hd h3 hf
    rw [putL_put hd h1 h2 h4]
    exact ok_put hd hl h1 h2 h4
theorem install_ok {xs : List TLsa} {l : TLsa} (hd : dbOk xs) : dbOk (installR xs l).1 := by
  unfold installR
  split
  · rename_i h
    split
    · exact putL_ok h.1 h.2
    · exact hd
  · exact hd
theorem dbOk_sz {xs : List TLsa} (hd : dbOk xs) : xs.length + sumF szl xs ≤ 200 := by
  have h1 := db_len hd
  have : ∀ l ∈ xs, szl l ≤ 16 := fun l hl => by
    obtain ⟨i, hi, rfl⟩ := List.mem_iff_getElem.1 hl
    have h := hd.1 i hi
    have h2 := h.2.2.2.1
    have h3 := h.2.2.2.2.1
    show xs[i].links.length + xs[i].stubs.length ≤ 16
    omega
  have h2 : ∀ {xs : List TLsa}, (∀ l ∈ xs, szl l ≤ 16) → sumF szl xs ≤ 16 * xs.length := by
    intro xs
    induction xs with
    | nil => intro _; simp [sumF]
    | cons a xs ih =>
      intro h
      have q1 := h a (by simp)
      have q2 := ih fun x hx => h x (List.mem_cons_of_mem _ hx)
      have e : sumF szl (a :: xs) = szl a + sumF szl xs := by simp [sumF]
      rw [e, List.length_cons, Nat.mul_add]
      omega
  have := h2 this
  omega
end Go.Proofs.YtaippfedjjjpeaaGreat
/-
Contracts: an advertisement is installed in place; merging.
-/
namespace Go.Proofs.YtaippfedjjjpeaaGreat
open Go Go.Abs Go.Proofs

theorem dp_rebase0 {α : Type} {T : Ty α} {H0 H : Heap} {a : α} {vs : List V} {o : Nat} (x : Ob) (h : Dp T H0 a vs H) (ho : H0 o ≠ none) : Dp T (upd H0 o x) a vs (upd H o x) := by
  obtain ⟨es, h1, h2⟩ := h
  refine ⟨es, h1, ?_⟩
  have : ∀ {es : List Ent} {H0 H : Heap}, Chain H0 es H → H0 o ≠ none → Chain (upd H0 o x) es (upd H o x) := by
    intro es
    induction es with
    | nil => intro H0 H h _; cases h; rfl
    | cons e es ih => rintro H0 H ⟨Hm, h1, h2⟩ ho; exact ⟨_, h1.rebase x ho, ih h2 fun hn => ho (sub_none h1.sub hn)⟩
  exact this h2 ho
/-- A database whose slice stands in row r of an object. -/
def DB (c : Bool) (H1 : Heap) (o : Nat) (rows : List (List V)) (r : Nat) (xs : List TLsa) (H : Heap) : Prop :=
  ∃ v, H1 o = none ∧ r < rows.length ∧ Dp (dbT c) (upd H1 o ⟨1, rows.set r [v]⟩) xs [v] H
theorem DB.sub {c : Bool} {H1 H : Heap} {o r : Nat} {rows : List (List V)} {xs : List TLsa} (h : DB c H1 o rows r xs H) : Abs.sub H1 H := by
  obtain ⟨v, h1, _, h2⟩ := h
  exact sub_trans (sub_fresh h1) h2.sub
theorem aField_p {off o r c : Nat} : aField off (.ptr o r c) = some (.ptr o r (c + off)) := rfl
theorem idx_low {Hn Hb : Heap} {n : Nat} {w i : V} {K : V → Prop} (h1 : bnd (aIndex Hn n w i) fun _ => True) (hs : Abs.sub Hn Hb) (h : bnd (aIndex Hb n w i) K) : bnd (aIndex Hn n w i) K := by
  obtain ⟨p, hp, _⟩ := bnd_elim h1
  rw [aIndex_up hp hs] at h
  rw [hp]; exact h
theorem row_ld {H : Heap} {o r : Nat} {rows : List (List V)} {v : V} (ho : H o = some ⟨1, rows.set r [v]⟩) (hr : r < rows.length) (f : Bool) : aLd f 1 H (.ptr o r 0) = partOf f 1 [v] 0 := by
  simp [aLd, Go.Abs.rowAt, ho, hr]
theorem row_st {H : Heap} {o r : Nat} {rows : List (List V)} {v v' : V} (ho : H o = some ⟨1, rows.set r [v]⟩) (hr : r < rows.length) (cv : cellsOf v' = [v'] ∧ cellOk v' = true ∧ notAny v' = true) : aSt 1 H (.ptr o r 0) v' = some (upd H o ⟨1, rows.set r [v']⟩) := by
  rw [aSt_own ho (row := [v]) (row' := [v']) (by simp [hr]) (by simp [stz_eq, putCells, cv])]
  simp
theorem DB.put {c : Bool} {H1 H Hb : Heap} {o r : Nat} {rows : List (List V)} {xs : List TLsa} {x : Ob} {v : V} (ho : H1 o = none) (hr : r < rows.length) (h : Dp (dbT c) (upd H1 o x) xs [v] H) (hs : Abs.sub H Hb) :
    DB c H1 o rows r xs (upd H o ⟨1, rows.set r [v]⟩) ∧ Abs.sub (upd H o ⟨1, rows.set r [v]⟩) (upd Hb o ⟨1, rows.set r [v]⟩) := by
  have := dp_rebase0 (o := o) ⟨1, rows.set r [v]⟩ h (by rw [upd_eq]; simp)
  rw [upd_upd] at this
  exact ⟨⟨v, ho, hr, this⟩, sub_upd2 hs⟩
end Go.Proofs.YtaippfedjjjpeaaGreat
/-
Contracts: Install and Merge, both sides.
-/
namespace Go.Proofs.YtaippfedjjjpeaaGreat
open Go Go.Abs Go.Proofs

theorem held_box0 {H0 H : Heap} {sz : Nat} {rows : List (List V)} {v : V} {o : Nat} (x : Ob) (h : Held H0 sz rows v H) (ho : H o = none) : Held (upd H0 o x) sz rows v (upd H o x) := by
  rcases h with ⟨h1, h2, rfl⟩ | ⟨p, cap, h1, h2, hc, rfl⟩
  · exact .inl ⟨h1, h2, rfl⟩
  · obtain ⟨hne, _⟩ := upd_none ho
    exact .inr ⟨p, cap, by rw [upd_off (Ne.symm hne)]; exact h1, h2, hc, upd_comm _ _ (Ne.symm hne)⟩
theorem dp_box0 {α : Type} {T : Ty α} {H0 H : Heap} {a : α} {vs : List V} {o : Nat} (x : Ob) (h : Dp T H0 a vs H) (ho : H o = none) : Dp T (upd H0 o x) a vs (upd H o x) := by
  obtain ⟨es, h1, h2⟩ := h
  refine ⟨es, h1, ?_⟩
  have : ∀ {es : List Ent} {H0 H : Heap}, Chain H0 es H → H o = none → Chain (upd H0 o x) es (upd H o x) := by
    intro es
    induction es with
    | nil => intro H0 H h _; cases h; rfl
    | cons e es ih => rintro H0 H ⟨Hm, h1, h2⟩ ho; exact ⟨_, held_box0 x h1 (sub_none h2.sub ho), ih h2 ho⟩
  exact this h2 ho
theorem one_cell {b : Bool} {xs : List TLsa} {us : List V} {H0 H : Heap} (h : Dp (dbT b) H0 xs us H) : ∃ u, us = [u] := by
  obtain ⟨es, ⟨w', rows, ess, e, _⟩, _⟩ := h
  exact ⟨w', e⟩
theorem DB.of {c : Bool} {H0 H : Heap} {o : Nat} {xs : List TLsa} {u : V} (h : Dp (dbT c) H0 xs [u] H) (ho : H o = none) : DB c H0 o [[.nils]] 0 xs (upd H o ⟨1, [[u]]⟩) := ⟨u, sub_none h.sub ho, by simp, by simpa using dp_box0 ⟨1, [[u]]⟩ h ho⟩
theorem DB.open {c : Bool} {H0 H : Heap} {o : Nat} {xs : List TLsa} (h : DB c H0 o [[.nils]] 0 xs H) : ∃ v, H o = some ⟨1, [[v]]⟩ ∧ H0 o = none ∧ (cellsOf v = [v] ∧ cellOk v = true ∧ notAny v = true) ∧ ∃ H', Dp (dbT c) H0 xs [v] H' ∧ Abs.sub H' H := by
  obtain ⟨v, h1, _, h2⟩ := h
  have h3 : Dp (dbT c) (upd H0 o ⟨1, [[v]]⟩) xs [v] H := by simpa using h2
  exact ⟨v, h3.sub _ _ (upd_eq _ _ _), h1, dpS_cell h3, h3.shrink (sub_fresh h1)⟩
theorem installR_bad {xs : List TLsa} {l : TLsa} (h : ¬ (dbOk xs ∧ lsaOk l)) : installR xs l = (xs, 3) := by unfold installR; rw [if_neg h]
def foldI (a bs : List TLsa) : List TLsa := bs.foldl (fun o l => (installR o l).1) a
def mergeR (a bs : List TLsa) : List TLsa × Bool := if dbOk a ∧ dbOk bs then (foldI a bs, true) else (a, false)
theorem foldI_succ {a bs : List TLsa} {i : Nat} (h : i < bs.length) : foldI a (bs.take (i + 1)) = (installR (foldI a (bs.take i)) bs[i]).1 := by
  unfold foldI
  rw [List.take_succ_eq_append_getElem h, List.foldl_append]
  rfl
theorem foldI_ok : ∀ {bs a : List TLsa}, dbOk a → dbOk (foldI a bs)
  | [], _, h => h
  | l :: bs, a, h => foldI_ok (bs := bs) (install_ok (l := l) h)
theorem mergeR_sz {a bs : List TLsa} (h : bDb a) : bDb (mergeR a bs).1 := by
  unfold mergeR
  split
  · rename_i hh
    have := dbOk_sz (foldI_ok (bs := bs) hh.1)
    unfold bDb
    simp only
    omega
  · exact h
theorem installR_sz {a : List TLsa} {l : TLsa} (h : bDb a) : bDb (installR a l).1 := by
  by_cases hh : dbOk a
  · have := dbOk_sz (install_ok (l := l) hh)
    unfold bDb
    omega
  · rw [installR_bad fun q => hh q.1]; exact h
def InvMe (c : Bool) (H : Heap) (a bs : List TLsa) (w : V) (m : Nat) (ys : List V) (Hc : Heap) : Prop :=
  ∃ (i : Nat) (u : V), i ≤ bs.length ∧ ys = [.box [w], .box [.nils], .box [u], .int .i64 (i : Nat)] ∧ m = bs.length - i ∧ Dp (dbT c) H (foldI a (bs.take i)) [u] Hc
def InvMi (c : Bool) (H : Heap) (o : Nat) (a bs : List TLsa) (m : Nat) (ys : List V) (Hc : Heap) : Prop :=
  ∃ (i : Nat) (Hn' : Heap), i ≤ bs.length ∧ ys = [.box [.nils], .int .i64 (i : Nat)] ∧ m = bs.length - i ∧ DB c H o [[.nils]] 0 (foldI a (bs.take i)) Hn' ∧ Abs.sub Hn' Hc
end Go.Proofs.YtaippfedjjjpeaaGreat
