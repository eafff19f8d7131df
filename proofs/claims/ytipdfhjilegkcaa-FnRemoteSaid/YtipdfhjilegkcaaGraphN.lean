/-
Contracts: graphs whose edges go both ways, neighbors, loop-free ones.
-/
import Derived.Test.YtipdfhjilegkcaaGraphG
set_option linter.all false
namespace Go.Proofs.Ytipdfhjilegkcaa
open Go Go.Abs Go.Proofs

def bothOk (n : Int) (es : List TEdge) : Prop := ∀ i, i < es.length → cost n es (ed es i).2.1 (ed es i).1 ≠ 1000000
def nodesOk (n : Int) (xs : List Int) : Prop := ∀ i, i < xs.length → 0 ≤ xs.getD i 0 ∧ xs.getD i 0 < n
instance (n : Int) (es : List TEdge) : Decidable (bothOk n es) := by unfold bothOk; infer_instance
instance (n : Int) (xs : List Int) : Decidable (nodesOk n xs) := by unfold nodesOk; infer_instance
def around (n : Int) (es : List TEdge) (xs : List Int) : Prop := graphOk n es ∧ bothOk n es ∧ nodesOk n xs
instance (n : Int) (es : List TEdge) (xs : List Int) : Decidable (around n es xs) := by unfold around; infer_instance
def near (n : Int) (es : List TEdge) (s t : Int) : Prop := s ≠ t ∧ cost n es s t < 1000000
instance (n : Int) (es : List TEdge) (s t : Int) : Decidable (near n es s t) := by unfold near; infer_instance
def lfree (n : Int) (es : List TEdge) (s t d : Int) : Prop := near n es s t ∧ s ≠ d ∧ far n es t d < 1000000 ∧ far n es t s < 1000000 ∧ far n es s d < 1000000 ∧ far n es t d < far n es t s + far n es s d
instance (n : Int) (es : List TEdge) (s t d : Int) : Decidable (lfree n es s t d) := by unfold lfree; infer_instance
theorem nodesOk_three {n a b c : Int} (h : nodesOk n [a, b, c]) : (0 ≤ a ∧ a < n) ∧ (0 ≤ b ∧ b < n) ∧ (0 ≤ c ∧ c < n) := ⟨by simpa using h 0 (by simp), by simpa using h 1 (by simp), by simpa using h 2 (by simp)⟩
theorem nodesOk_four {n a b c d : Int} (h : nodesOk n [a, b, c, d]) : (0 ≤ a ∧ a < n) ∧ (0 ≤ b ∧ b < n) ∧ (0 ≤ c ∧ c < n) ∧ (0 ≤ d ∧ d < n) := ⟨by simpa using h 0 (by simp), by simpa using h 1 (by simp), by simpa using h 2 (by simp), by simpa using h 3 (by simp)⟩

theorem C_s_l10Near {n s t : Int} {v : V} {es : List TEdge} {H : Heap} {K : V → Heap → Prop} (hv : Rd H 3 v (es.map enEdge)) (hg : graphOk n es) (h : K (.bool (decide (near n es s t))) H) : ACalls P n_s_l10Near [vG n v, .int .i64 s, .int .i64 t] H K := by
  have hc := hv.cell
  apply W_s_l10Near
  unfold F_s_l10Near
  simp [hc]
  refine ⟨fun q => ?_, fun q => Ret.no h fun hh => hh.1 q⟩
  refine C_s_l03Cost hv hg ?_
  exact Ret.iff h ⟨fun hh => ⟨q, hh⟩, fun hh => hh.2⟩
theorem C_i_Graph_isNear {n s t : Int} {v : V} {es : List TEdge} {H : Heap} {K : V → Heap → Prop} (hv : Rd H 3 v (es.map enEdge)) (hg : graphOk n es) (h : K (.bool (decide (near n es s t))) H) : ACalls P n_i_Graph_isNear [vG n v, .int .i64 s, .int .i64 t] H K := by
  have hc := hv.cell
  apply W_i_Graph_isNear
  unfold F_i_Graph_isNear
  simp [hc]
  refine ⟨fun q => ?_, fun q => Ret.no h fun hh => hh.1 q⟩
  refine C_i_Graph_cost hv hg ?_
  exact Ret.iff h ⟨fun hh => ⟨q, hh⟩, fun hh => hh.2⟩
theorem C_s_l10Dist {n a b : Int} {v : V} {es : List TEdge} {H : Heap} {K : V → Heap → Prop} (hv : Rd H 3 v (es.map enEdge)) (hg : graphOk n es) (ha : 0 ≤ a ∧ a < n) (hb : 0 ≤ b ∧ b < n) (h : K (.int .i64 (far n es a b)) H) : ACalls P n_s_l10Dist [vG n v, .int .i64 a, .int .i64 b] H K := by
  have hc := hv.cell
  apply W_s_l10Dist
  unfold F_s_l10Dist
  simp [hc]
  refine C_s_Distances hv hg ha fun u H' hu => ?_
  refine dist_ld (hu.rd ri_len) hg hb ?_
  exact Ret.shr h rfl hu.sub

def InvG1 (n : Int) (es : List TEdge) (H : Heap) (m : Nat) (ys : List V) (Hc : Heap) : Prop :=
  ∃ i, i ≤ es.length ∧ ys = [.int .i64 (i : Nat)] ∧ m = es.length - i ∧ Hc = H ∧ ∀ j, j < i → cost n es (ed es j).2.1 (ed es j).1 ≠ 1000000
def InvG2 (n : Int) (xs : List Int) (H : Heap) (m : Nat) (ys : List V) (Hc : Heap) : Prop :=
  ∃ i, i ≤ xs.length ∧ ys = [.int .i64 (i : Nat)] ∧ m = xs.length - i ∧ Hc = H ∧ ∀ j, j < i → 0 ≤ xs.getD j 0 ∧ xs.getD j 0 < n

set_option maxHeartbeats 1000000 in
theorem C_s_l10Good {n : Int} {v w : V} {es : List TEdge} {xs : List Int} {H : Heap} {K : V → Heap → Prop} (hv : Rd H 3 v (es.map enEdge)) (hw : Rd H 1 w (xs.map ri)) (hx : xs.length ≤ 1000) (h : K (.bool (decide (around n es xs))) H) : ACalls P n_s_l10Good [vG n v, w] H K := by
  have hc := hv.cell
  apply W_s_l10Good
  unfold F_s_l10Good
  simp [hc]
  refine C_s_GraphOk hv ?_
  simp
  refine ⟨fun q => Ret.no h fun hh => q hh.1, fun hg => ?_⟩
  have hl := hg.2.1
  refine ⟨InvG1 n es H, ⟨es.length, Shr.of ⟨0, by omega, by simp, by omega, rfl, fun j hj => absurd hj (by omega)⟩⟩, ?_⟩
  rintro m ys Hc ⟨i, hi, rfl, rfl, rfl, hok⟩
  simp [hv.len]
  refine ⟨fun hlt => ⟨_, Abs.sub_refl _, ?_⟩, fun hge => ?_⟩
  · have he := ed_get hlt
    refine hv.idx (by omega) (by simpa using hlt) fun p hp => ?_
    refine hp.fld fun p1 hp1 => ?_
    simp only [hp1.ld]
    simp [hlt]
    refine hv.idx (by omega) (by simpa using hlt) fun p hp => ?_
    refine hp.fld fun p1 hp1 => ?_
    simp only [hp1.ld]
    simp [hlt]
    refine C_s_l03Cost hv hg ?_
    simp
    refine ⟨fun q => Ret.no h fun hh => hh.2.1 i hlt (by rw [he]; exact q), fun q => ?_⟩
    rw [i64_in (n := (i : Int) + 1) (by omega) (by omega)]
    exact ⟨es.length - (i + 1), by omega, Shr.of ⟨i + 1, by omega, by simp, rfl, rfl, fun j hj => by
        by_cases e : j = i
        · subst e; rw [he]; exact q
        · exact hok j (by omega)⟩⟩
  · have : i = es.length := by omega
    subst this
    refine ⟨InvG2 n xs Hc, ⟨xs.length, Shr.of ⟨0, by omega, by simp, by omega, rfl, fun j hj => absurd hj (by omega)⟩⟩, ?_⟩
    rintro m ys Hd ⟨i, hi, rfl, rfl, rfl, hok2⟩
    simp [hw.len]
    refine ⟨fun hlt => ⟨_, Abs.sub_refl _, ?_⟩, fun hge => ?_⟩
    · have he : xs.getD i 0 = xs[i] := by simp [hlt]
      refine hw.idx (by omega) (by simpa using hlt) fun p hp => ?_
      simp only [hp.ld]
      simp [hlt]
      refine C_s_l03Node hv hg.1 ?_
      simp
      refine ⟨fun q => Ret.no h fun hh => ?_, fun q1 q2 => ?_⟩
      · have := hh.2.2 i hlt; rw [he] at this; omega
      rw [i64_in (n := (i : Int) + 1) (by omega) (by omega)]
      exact ⟨xs.length - (i + 1), by omega, Shr.of ⟨i + 1, by omega, by simp, rfl, rfl, fun j hj => by
        by_cases e : j = i
        · subst e; rw [he]; exact ⟨q1, q2⟩
        · exact hok2 j (by omega)⟩⟩
    · have : i = xs.length := by omega
      subst this
      exact Ret.yes h ⟨hg, hok, hok2⟩

/-! #### the program's -/
def InvI (len : Nat) (q : Nat → Bool) (H : Heap) (m : Nat) (ys : List V) (Hc : Heap) : Prop :=
  ∃ i, i ≤ len ∧ ys = [.int .i64 (i : Nat)] ∧ m = len - i ∧ Hc = H ∧ ∀ j, j < i → q j = false
theorem C_ContainsFunc_Edge {v f : V} {es : List TEdge} {q : Nat → Bool} {H : Heap} {K : V → Heap → Prop} (hv : Rd H 3 v (es.map enEdge)) (hl : es.length ≤ 1000) (hf : ∀ i (hi : i < es.length) K', K' (.bool (q i)) H → callK P H f [.agg (enEdge es[i])] K')
    (h : K (.bool (decide (∃ i, i < es.length ∧ q i = true))) H) : ACalls P n_slices_ContainsFunc_i_Edge_i_Edge [v, f] H K := by
  apply W_slices_ContainsFunc_i_Edge_i_Edge
  unfold F_slices_ContainsFunc_i_Edge_i_Edge
  apply W_slices_IndexFunc_i_Edge_i_Edge
  unfold F_slices_IndexFunc_i_Edge_i_Edge
  simp [hv.len]
  refine ⟨InvI es.length q H, ⟨es.length, Shr.of ⟨0, by omega, by simp, by omega, rfl, fun j hj => absurd hj (by omega)⟩⟩, ?_⟩
  rintro m ys Hc ⟨i, hi, rfl, rfl, rfl, hok⟩
  simp
  refine ⟨fun hlt => ?_, fun hge => ?_⟩
  · refine hv.idx (by omega) (by simpa using hlt) fun p hp => ?_
    simp only [hp.ld]
    simp [hlt]
    refine hf i hlt _ ?_
    cases hq : q i
    · simp
      rw [i64_in (n := (i : Int) + 1) (by omega) (by omega)]
      exact ⟨es.length - (i + 1), by omega, Shr.of ⟨i + 1, by omega, by simp, rfl, rfl, fun j hj => by
        by_cases e : j = i
        · subst e; exact hq
        · exact hok j (by omega)⟩⟩
    · simp
      refine Ret.of ?_
      simp
      exact Ret.eq h (by simp; exact ⟨i, hlt, hq⟩)
  · have : i = es.length := by omega
    subst this
    refine Ret.of ?_
    simp
    exact Ret.eq h (by simp; exact fun j hj => by simp [hok j hj])
theorem C_ContainsFunc_int {v f : V} {xs : List Int} {q : Nat → Bool} {H : Heap} {K : V → Heap → Prop} (hv : Rd H 1 v (xs.map ri)) (hl : xs.length ≤ 1000) (hf : ∀ i (hi : i < xs.length) K', K' (.bool (q i)) H → callK P H f [.int .i64 xs[i]] K')
    (h : K (.bool (decide (∃ i, i < xs.length ∧ q i = true))) H) : ACalls P n_slices_ContainsFunc_int_int [v, f] H K := by
  apply W_slices_ContainsFunc_int_int
  unfold F_slices_ContainsFunc_int_int
  apply W_slices_IndexFunc_int_int
  unfold F_slices_IndexFunc_int_int
  simp [hv.len]
  refine ⟨InvI xs.length q H, ⟨xs.length, Shr.of ⟨0, by omega, by simp, by omega, rfl, fun j hj => absurd hj (by omega)⟩⟩, ?_⟩
  rintro m ys Hc ⟨i, hi, rfl, rfl, rfl, hok⟩
  simp
  refine ⟨fun hlt => ?_, fun hge => ?_⟩
  · refine hv.idx (by omega) (by simpa using hlt) fun p hp => ?_
    simp only [hp.ld]
    simp [hlt]
    refine hf i hlt _ ?_
    cases hq : q i
    · simp
      rw [i64_in (n := (i : Int) + 1) (by omega) (by omega)]
      exact ⟨xs.length - (i + 1), by omega, Shr.of ⟨i + 1, by omega, by simp, rfl, rfl, fun j hj => by
        by_cases e : j = i
        · subst e; exact hq
        · exact hok j (by omega)⟩⟩
    · simp
      refine Ret.of ?_
      simp
      exact Ret.eq h (by simp; exact ⟨i, hlt, hq⟩)
  · have : i = xs.length := by omega
    subst this
    refine Ret.of ?_
    simp
    exact Ret.eq h (by simp; exact fun j hj => by simp [hok j hj])

theorem C_i_isAround {n : Int} {v w : V} {es : List TEdge} {xs : List Int} {H : Heap} {K : V → Heap → Prop} (hv : Rd H 3 v (es.map enEdge)) (hw : Rd H 1 w (xs.map ri)) (hx : xs.length ≤ 1000) (h : K (.bool (decide (around n es xs))) H) : ACalls P n_i_isAround [vG n v, w] H K := by
  have hc := hv.cell
  apply W_i_isAround
  unfold F_i_isAround
  simp [hc]
  intro o ho
  have hs : Abs.sub H (upd H o ⟨2, [[.int .i64 n, v]]⟩) := sub_fresh ho
  have ho' : (upd H o ⟨2, [[.int .i64 n, v]]⟩) o = some ⟨2, [[.int .i64 n, v]]⟩ := upd_eq _ _ _
  generalize upd H o ⟨2, [[.int .i64 n, v]]⟩ = Hb at *
  have hvb := hv.mono hs
  rw [aLd_at ho']
  simp
  refine C_i_GraphOk hvb ?_
  simp
  refine ⟨fun hg => ?_, fun q => Ret.shr h (by rw [decide_eq_false (fun hh => q hh.1)]) hs⟩
  have hl := hg.2.1
  simp [aField, aLd_at ho']
  refine C_ContainsFunc_Edge (q := fun i => !decide (cost n es (ed es i).2.1 (ed es i).1 < 1000000)) hvb (by omega) (fun i hi K' hk => ?_) ?_
  · simp only [callK]
    rw [E_i_isAround_1]
    show ACalls P n_i_isAround_1 [.agg (enEdge es[i]), .ptr o 0 0] Hb K'
    apply W_i_isAround_1
    unfold F_i_isAround_1
    simp [aLd_at ho']
    apply W_i_Graph_isBoth
    unfold F_i_Graph_isBoth
    simp [hc]
    refine C_i_Graph_cost hvb hg ?_
    simp
    refine Ret.of ?_
    simp
    refine Ret.eq hk ?_
    simp [hi]
  have hcc : ∀ a b, cost n es a b = 1000000 ∨ cost n es a b < 1000000 := fun a b => by rcases cost_cases hg a b with hh | hh <;> omega
  by_cases hb : bothOk n es
  · have e1 : ¬ ∃ i, i < es.length ∧ (!decide (cost n es (ed es i).2.1 (ed es i).1 < 1000000)) = true := by
      rintro ⟨i, hi, hh⟩
      simp only [Bool.not_eq_true', decide_eq_false_iff_not] at hh
      have := hb i hi
      rcases hcc (ed es i).2.1 (ed es i).1 with q | q
      · exact this q
      · exact hh q
    rw [decide_eq_false e1]
    simp
    refine C_ContainsFunc_int (q := fun i => !decide (0 ≤ xs.getD i 0 ∧ xs.getD i 0 < n)) (hw.mono hs) hx (fun i hi K' hk => ?_) ?_
    · simp only [callK]
      rw [E_i_isAround_2]
      show ACalls P n_i_isAround_2 [.int .i64 xs[i], .ptr o 0 0] Hb K'
      apply W_i_isAround_2
      unfold F_i_isAround_2
      simp [aLd_at ho']
      refine C_i_Graph_isNode hvb hg.1 ?_
      simp
      refine Ret.eq hk ?_
      simp [hi]
    refine Ret.shr h ?_ hs
    by_cases hn : nodesOk n xs
    · rw [decide_eq_true (show around n es xs from ⟨hg, hb, hn⟩), decide_eq_false, Bool.not_false]
      rintro ⟨i, hi, hh⟩
      simp only [Bool.not_eq_true', decide_eq_false_iff_not] at hh
      exact hh (hn i hi)
    · rw [decide_eq_false (show ¬ around n es xs from fun hh => hn hh.2.2), decide_eq_true, Bool.not_true]
      apply Classical.byContradiction
      intro hh
      refine hn fun i hi => ?_
      apply Classical.byContradiction
      intro h2
      exact hh ⟨i, hi, by simp only [Bool.not_eq_true', decide_eq_false_iff_not]; exact h2⟩
  · have e1 : ∃ i, i < es.length ∧ (!decide (cost n es (ed es i).2.1 (ed es i).1 < 1000000)) = true := by
      apply Classical.byContradiction
      intro hh
      refine hb fun i hi h2 => hh ⟨i, hi, by rw [h2]; rfl⟩
    rw [decide_eq_true e1]
    simp
    exact Ret.shr h (by rw [decide_eq_false (fun hh => hb hh.2.1)]) hs

end Go.Proofs.Ytipdfhjilegkcaa
