/-
Contracts: Remote.
-/
import Derived.Test.YtipdfhjilegkcaaGraphQ
set_option linter.all false
namespace Go.Proofs.Ytipdfhjilegkcaa
open Go Go.Abs Go.Proofs

def overP (n : Int) (es : List TEdge) (a b s f : Int) : Prop := far n es a s + cost n es s f + far n es f b = far n es a b
instance (n : Int) (es : List TEdge) (a b s f : Int) : Decidable (overP n es a b s f) := by unfold overP; infer_instance
def over (n : Int) (es : List TEdge) (a b s f : Int) : Prop := overP n es a b s f ∨ overP n es a b f s
instance (n : Int) (es : List TEdge) (a b s f : Int) : Decidable (over n es a b s f) := by unfold over; infer_instance
def remQ (n : Int) (es : List TEdge) (s f d p : Int) : Bool := decide (p ≠ s ∧ p ≠ f ∧ far n es s p < 1000000 ∧ far n es p d < 1000000 ∧ ¬ over n es s p s f ∧ ¬ over n es p d s f)
def remote (n : Int) (es : List TEdge) (s f d : Int) : List Int := if around n es [s, f, d] ∧ near n es s f ∧ s ≠ d then fil (remQ n es s f d) n.toNat else []
theorem remote_len {n : Int} {es : List TEdge} (s f d : Int) : (remote n es s f d).length ≤ 1000 := by
  unfold remote
  split
  · rename_i ha
    have := ha.1.1.1
    have := fil_len (remQ n es s f d) n.toNat; omega
  · simp
theorem sum3_in {n : Int} {es : List TEdge} (hg : graphOk n es) {a b s f : Int} (hb : 0 ≤ b ∧ b < n) (hs : 0 ≤ s ∧ s < n) : (0 ≤ far n es a s + cost n es s f ∧ far n es a s + cost n es s f ≤ 2000000) ∧ (0 ≤ far n es a s + cost n es s f + far n es f b ∧ far n es a s + cost n es s f + far n es f b ≤ 3000000) := by
  have f1 := far_in hg a hs.1 hs.2
  have f2 := far_in hg f hb.1 hb.2
  rcases cost_cases hg s f with h | h <;> omega

set_option maxHeartbeats 1000000 in
theorem C_s_l10Over {n a b s f : Int} {v : V} {es : List TEdge} {H : Heap} {K : V → Heap → Prop} (hv : Rd H 3 v (es.map enEdge)) (hg : graphOk n es) (ha : 0 ≤ a ∧ a < n) (hb : 0 ≤ b ∧ b < n) (hs : 0 ≤ s ∧ s < n) (hf : 0 ≤ f ∧ f < n)
    (h : K (.bool (decide (over n es a b s f))) H) : ACalls P n_s_l10Over [vG n v, .int .i64 a, .int .i64 b, .int .i64 s, .int .i64 f] H K := by
  have hc := hv.cell
  have w1 := sum3_in (es := es) hg (a := a) (f := f) hb hs
  have w2 := sum3_in (es := es) hg (a := a) (f := s) hb hf
  apply W_s_l10Over
  unfold F_s_l10Over
  simp [hc]
  refine C_s_l10Dist hv hg ha hb ⟨_, Abs.sub_refl _, ?_⟩
  refine C_s_l10Dist hv hg ha hs ⟨Abs.sub_refl _, ?_⟩
  refine C_s_l03Cost hv hg ⟨Abs.sub_refl _, ?_⟩
  simp
  refine C_s_l10Dist hv hg hf hb ⟨Abs.sub_refl _, ?_⟩
  simp
  rw [i64_in (n := far n es a s + cost n es s f) (by omega) (by omega), i64_in (n := far n es a s + cost n es s f + far n es f b) (by omega) (by omega)]
  refine ⟨fun q => Ret.yes h (.inl q), fun q => ?_⟩
  refine C_s_l10Dist hv hg ha hf ⟨Abs.sub_refl _, ?_⟩
  refine C_s_l03Cost hv hg ⟨Abs.sub_refl _, ?_⟩
  simp
  refine C_s_l10Dist hv hg hs hb ⟨Abs.sub_refl _, ?_⟩
  simp
  rw [i64_in (n := far n es a f + cost n es f s) (by omega) (by omega), i64_in (n := far n es a f + cost n es f s + far n es s b) (by omega) (by omega)]
  exact Ret.iff h ⟨fun hh => .inr hh, fun hh => hh.resolve_left q⟩

set_option maxHeartbeats 1000000 in
theorem C_i_Graph_uses_1 {n a b s f : Int} {v u : V} {o1 o2 o3 o4 : Nat} {es : List TEdge} {H : Heap} {K : V → Heap → Prop} (hv : Rd H 3 v (es.map enEdge)) (hg : graphOk n es) (ha : 0 ≤ a ∧ a < n) (hb : 0 ≤ b ∧ b < n) (hs : 0 ≤ s ∧ s < n) (hf : 0 ≤ f ∧ f < n) (hu : Rd2 H 1 u (allD n es))
    (p1 : H o1 = some ⟨2, [[.int .i64 n, v]]⟩) (p2 : H o2 = some ⟨1, [[.int .i64 a]]⟩) (p3 : H o3 = some ⟨1, [[.int .i64 b]]⟩) (p4 : H o4 = some ⟨1, [[u]]⟩)
    (h : K (.bool (decide (near n es s f ∧ overP n es a b s f))) H) : ACalls P n_i_Graph_uses_1 [.int .i64 s, .int .i64 f, .ptr o1 0 0, .ptr o4 0 0, .ptr o2 0 0, .ptr o3 0 0] H K := by
  have w1 := sum3_in (es := es) hg (a := a) (f := f) hb hs
  apply W_i_Graph_uses_1
  unfold F_i_Graph_uses_1
  refine ⟨_, Abs.sub_refl _, ?_⟩
  simp [aLd_at p1, aLd_at p2, aLd_at p3, aLd_at p4]
  refine C_i_Graph_isNear hv hg ?_
  simp
  refine ⟨fun q => ?_, fun q => Ret.no h fun hh => q hh.1⟩
  refine far_ld hu hg ha hs ?_
  refine far_ld hu hg hf hb ?_
  refine far_ld hu hg ha hb ?_
  refine C_i_Graph_cost hv hg ?_
  simp
  rw [i64_in (n := far n es a s + cost n es s f) (by omega) (by omega), i64_in (n := far n es a s + cost n es s f + far n es f b) (by omega) (by omega)]
  exact Ret.iff h ⟨fun hh => ⟨q, hh⟩, fun hh => hh.2⟩

set_option maxHeartbeats 1000000 in
theorem C_i_Graph_uses {n a b s f : Int} {v u : V} {es : List TEdge} {H : Heap} {K : V → Heap → Prop} (hv : Rd H 3 v (es.map enEdge)) (hg : graphOk n es) (ha : 0 ≤ a ∧ a < n) (hb : 0 ≤ b ∧ b < n) (hs : 0 ≤ s ∧ s < n) (hf : 0 ≤ f ∧ f < n) (hu : Rd2 H 1 u (allD n es)) (huc : cellsOf u = [u] ∧ cellOk u = true)
    (h : K (.bool (decide ((near n es s f ∧ overP n es a b s f) ∨ (near n es f s ∧ overP n es a b f s)))) H) : ACalls P n_i_Graph_uses [vG n v, .int .i64 a, .int .i64 b, .int .i64 s, .int .i64 f, u] H K := by
  have hc := hv.cell
  apply W_i_Graph_uses
  unfold F_i_Graph_uses
  simp [hc, huc]
  intro o1 h1 o2 h2 o3 h3 o4 h4
  have e1 : Abs.sub H (upd H o1 ⟨2, [[.int .i64 n, v]]⟩) := sub_fresh h1
  have e2 := sub_fresh (x := ⟨1, [[.int .i64 a]]⟩) h2
  have e3 := sub_fresh (x := ⟨1, [[.int .i64 b]]⟩) h3
  have e4 := sub_fresh (x := ⟨1, [[u]]⟩) h4
  have p1 := e4 _ _ (e3 _ _ (e2 _ _ (upd_eq H o1 ⟨2, [[.int .i64 n, v]]⟩)))
  have p2 := e4 _ _ (e3 _ _ (upd_eq (upd H o1 ⟨2, [[.int .i64 n, v]]⟩) o2 ⟨1, [[.int .i64 a]]⟩))
  have p3 := e4 _ _ (upd_eq (upd (upd H o1 ⟨2, [[.int .i64 n, v]]⟩) o2 ⟨1, [[.int .i64 a]]⟩) o3 ⟨1, [[.int .i64 b]]⟩)
  have p4 := upd_eq (upd (upd (upd H o1 ⟨2, [[.int .i64 n, v]]⟩) o2 ⟨1, [[.int .i64 a]]⟩) o3 ⟨1, [[.int .i64 b]]⟩) o4 ⟨1, [[u]]⟩
  have ht := sub_trans e1 (sub_trans e2 (sub_trans e3 e4))
  generalize upd (upd (upd (upd H o1 ⟨2, [[.int .i64 n, v]]⟩) o2 ⟨1, [[.int .i64 a]]⟩) o3 ⟨1, [[.int .i64 b]]⟩) o4 ⟨1, [[u]]⟩ = Hb at *
  have hvb := hv.mono ht
  have hub := hu.mono ht
  refine C_i_Graph_uses_1 hvb hg ha hb hs hf hub p1 p2 p3 p4 ?_
  by_cases q : near n es s f ∧ overP n es a b s f
  · rw [decide_eq_true q]
    simp
    exact Ret.shr h (by rw [decide_eq_true (.inl q)]) ht
  · rw [decide_eq_false q]
    simp
    refine C_i_Graph_uses_1 hvb hg ha hb hf hs hub p1 p2 p3 p4 ?_
    refine Ret.shr h ?_ ht
    by_cases q2 : near n es f s ∧ overP n es a b f s
    · rw [decide_eq_true q2, decide_eq_true (.inr q2)]
    · rw [decide_eq_false q2, decide_eq_false (fun hh => hh.elim q q2)]

theorem near_back {n : Int} {es : List TEdge} (hg : graphOk n es) (hb : bothOk n es) {s f : Int} (h : near n es s f) : near n es f s := by
  obtain ⟨h1, h2⟩ := h
  rw [cost_look h1] at h2
  obtain ⟨e, he, q1, q2, _⟩ := look_mem (es := es) (a := s) (b := f) (by omega)
  obtain ⟨i, hi, rfl⟩ := ed_mem he
  have := hb i hi
  rw [q1, q2] at this
  refine ⟨Ne.symm h1, ?_⟩
  rcases cost_cases hg f s with hh | hh
  · exact absurd hh this
  · omega

set_option maxHeartbeats 1000000 in
theorem C_s_Remote {n s f d : Int} {v : V} {es : List TEdge} {H : Heap} {K : V → Heap → Prop} (hv : Rd H 3 v (es.map enEdge)) (h : ∀ u H', Held H 1 ((remote n es s f d).map ri) u H' → K u H') : ACalls P n_s_Remote [vG n v, .int .i64 s, .int .i64 f, .int .i64 d] H K := by
  have hc := hv.cell
  apply W_s_Remote
  unfold F_s_Remote
  simp [hc, bsl3, bsl_nil]
  intro o1 ho1 o ho
  have h0 := Held.new (sz := 1) ho1
  have hw : Held (upd H o1 ⟨1, []⟩) 1 (([s, f, d] : List Int).map ri) (.slice o 0 3 (some 3)) (upd (upd H o1 ⟨1, []⟩) o ⟨1, ([s, f, d] : List Int).map ri⟩) := Held.full ho (by simp)
  obtain ⟨Hb, g1, g2⟩ := h0.swap hw
  have hs := sub_trans h0.sub hw.sub
  have hvb := hv.mono hs
  refine C_s_l10Good hvb (hw.rd ri_len) (by simp) ?_
  simp
  refine ⟨fun q => Ret.shr (h .nils H (by rw [remote, if_neg (fun hh => q hh.1)]; exact Held.nil)) rfl hs, fun ha => ?_⟩
  have hg := ha.1
  have hn := hg.1
  obtain ⟨n1, n2, n3⟩ := nodesOk_three ha.2.2
  refine C_s_l10Near hvb hg ?_
  simp
  refine ⟨fun q => Ret.shr (h .nils H (by rw [remote, if_neg (fun hh => q hh.2.1)]; exact Held.nil)) rfl hs, fun hnear => ?_⟩
  refine ⟨fun q => Ret.shr (h .nils H (by rw [remote, if_neg (fun hh => hh.2.2 q)]; exact Held.nil)) rfl hs, fun hsd => ?_⟩
  rw [remote, if_pos ⟨ha, hnear, hsd⟩] at h
  refine ⟨InvFil H n (remQ n es s f d), ⟨n.toNat, Shr.of ⟨0, _, Hb, by omega, rfl, by omega, g1.sub, by simpa [fil] using g2⟩⟩, ?_⟩
  rintro m ys Hc ⟨i, u, Hb, hi, rfl, rfl, hsb, hu⟩
  simp
  refine ⟨fun hlt => ?_, fun hge => ?_⟩
  · have hvc := hv.mono (sub_trans hsb hu.sub)
    have hlen := fil_len (remQ n es s f d) i
    rw [i64_in (n := (i : Int) + 1) (by omega) (by omega)]
    have no : remQ n es s f d (i : Int) = false → ∃ n14, n14 < n.toNat - i ∧ Shr (InvFil H n (remQ n es s f d) n14 [u, .int .i64 ((i : Int) + 1)]) Hc := fun hne =>
      ⟨n.toNat - (i + 1), by omega, Shr.of ⟨i + 1, u, Hb, by omega, by simp, rfl, hsb, by rw [fil_no hne]; exact hu⟩⟩
    have hi' : 0 ≤ (i : Int) ∧ (i : Int) < n := by omega
    have f1 := far_in hg s hi'.1 hi'.2
    have f2 := far_in hg (i : Int) n3.1 n3.2
    refine ⟨fun q => no (decide_eq_false fun hh => hh.1 q), fun q1 => ⟨fun q => no (decide_eq_false fun hh => hh.2.1 q), fun q2 => ?_⟩⟩
    refine C_s_l10Dist hvc hg n1 hi' ?_
    simp
    refine ⟨fun q => no (decide_eq_false fun hh => by have := hh.2.2.1; omega), fun q3 => ?_⟩
    refine C_s_l10Dist hvc hg hi' n3 ?_
    simp
    refine ⟨fun q => no (decide_eq_false fun hh => by have := hh.2.2.2.1; omega), fun q4 => ?_⟩
    refine C_s_l10Over hvc hg n1 hi' n1 n2 ?_
    simp
    refine ⟨fun q5 => ?_, fun q => no (decide_eq_false fun hh => hh.2.2.2.2.1 q)⟩
    refine C_s_l10Over hvc hg hi' n3 n1 n2 ?_
    simp
    refine ⟨fun q6 => ?_, fun q => no (decide_eq_false fun hh => hh.2.2.2.2.2 q)⟩
    simp [bsl_one]
    intro o3 ho3
    refine hu.append (sub_fresh ho3) (by simp) (by simp; omega) fun v' H' H'' ho' hs' => ?_
    refine ⟨n.toNat - (i + 1), by omega, H'', hs', i + 1, v', Hb, by omega, by simp, rfl, hsb, ?_⟩
    rw [fil_yes (decide_eq_true ⟨q1, q2, by omega, by omega, q5, q6⟩)]
    simpa using ho'
  · have e : i = n.toNat := by omega
    subst e
    exact Ret.held hu hsb h

theorem rd2_cell {H : Heap} {sz : Nat} {v : V} {ts : List (List (List V))} (h : Rd2 H sz v ts) : cellsOf v = [v] ∧ cellOk v = true := by
  obtain ⟨ws, _, h2, _⟩ := h
  exact ⟨h2.cell.1, h2.cell.2.1⟩

set_option maxHeartbeats 1000000 in
theorem C_i_Remote {n s f d : Int} {v : V} {es : List TEdge} {H : Heap} {K : V → Heap → Prop} (hv : Rd H 3 v (es.map enEdge)) (h : ∀ u H', Held H 1 ((remote n es s f d).map ri) u H' → K u H') : ACalls P n_i_Remote [vG n v, .int .i64 s, .int .i64 f, .int .i64 d] H K := by
  have hc := hv.cell
  apply W_i_Remote
  unfold F_i_Remote
  simp [hc, bsl3, bsl_nil]
  intro o ho
  have hw : Held H 1 (([s, f, d] : List Int).map ri) (.slice o 0 3 (some 3)) (upd H o ⟨1, ([s, f, d] : List Int).map ri⟩) := Held.full ho (by simp)
  have hs := hw.sub
  have hvb := hv.mono hs
  refine C_i_isAround hvb (hw.rd ri_len) (by simp) ?_
  simp
  refine ⟨fun q => Ret.shr (h .nils H (by rw [remote, if_neg (fun hh => q hh.1)]; exact Held.nil)) rfl hs, fun ha => ?_⟩
  have hg := ha.1
  have hn := hg.1
  obtain ⟨n1, n2, n3⟩ := nodesOk_three ha.2.2
  refine C_i_Graph_isNear hvb hg ?_
  simp
  refine ⟨fun q => Ret.shr (h .nils H (by rw [remote, if_neg (fun hh => q hh.2.1)]; exact Held.nil)) rfl hs, fun hnear => ?_⟩
  refine ⟨fun q => Ret.shr (h .nils H (by rw [remote, if_neg (fun hh => hh.2.2 q)]; exact Held.nil)) rfl hs, fun hsd => ?_⟩
  rw [remote, if_pos ⟨ha, hnear, hsd⟩] at h
  have hback := near_back hg ha.2.1 hnear
  refine C_i_Graph_all hvb hg fun fv H0 h0 hfv => ?_
  intro o1 ho1
  have hb := sub_trans hs h0
  refine ⟨InvFil H0 n (remQ n es s f d), ⟨n.toNat, Shr.of (InvFil.start (by omega) ho1)⟩, ?_⟩
  rintro m ys Hc ⟨i, u, Hb, hi, rfl, rfl, hsb, hu⟩
  simp
  refine ⟨fun hlt => ?_, fun hge => ?_⟩
  · have hsc := sub_trans hsb hu.sub
    have hvc := hv.mono (sub_trans hb hsc)
    have hfc := hfv.mono hsc
    have hlen := fil_len (remQ n es s f d) i
    rw [i64_in (n := (i : Int) + 1) (by omega) (by omega)]
    have no : remQ n es s f d (i : Int) = false → ∃ n14, n14 < n.toNat - i ∧ Shr (InvFil H0 n (remQ n es s f d) n14 [u, .int .i64 ((i : Int) + 1)]) Hc := fun hne =>
      ⟨n.toNat - (i + 1), by omega, Shr.of ⟨i + 1, u, Hb, by omega, by simp, rfl, hsb, by rw [fil_no hne]; exact hu⟩⟩
    have hi' : 0 ≤ (i : Int) ∧ (i : Int) < n := by omega
    refine ⟨fun q1 => ⟨fun q2 => ?_, fun q => no (decide_eq_false fun hh => hh.2.1 q)⟩, fun q => no (decide_eq_false fun hh => hh.1 q)⟩
    refine far_ld hfc hg n1 hi' ?_
    simp
    refine ⟨fun q3 => ?_, fun q => no (decide_eq_false fun hh => by have := hh.2.2.1; omega)⟩
    refine far_ld hfc hg hi' n3 ?_
    simp
    refine ⟨fun q4 => ?_, fun q => no (decide_eq_false fun hh => by have := hh.2.2.2.1; omega)⟩
    have same : ∀ a b : Int, decide ((near n es s f ∧ overP n es a b s f) ∨ (near n es f s ∧ overP n es a b f s)) = decide (over n es a b s f) := fun a b => decide_eq_decide.2 (by
      simp [hnear, hback, over])
    refine C_i_Graph_uses hvc hg n1 hi' n1 n2 hfc (rd2_cell hfc) ?_
    rw [same]
    simp
    refine ⟨fun q5 => ?_, fun q => no (decide_eq_false fun hh => hh.2.2.2.2.1 q)⟩
    refine C_i_Graph_uses hvc hg hi' n3 n1 n2 hfc (rd2_cell hfc) ?_
    rw [same]
    simp
    refine ⟨fun q6 => ?_, fun q => no (decide_eq_false fun hh => hh.2.2.2.2.2 q)⟩
    simp [bsl_one]
    intro o3 ho3
    refine hu.append (sub_fresh ho3) (by simp) (by simp; omega) fun v' H' H'' ho' hs' => ?_
    refine ⟨n.toNat - (i + 1), by omega, H'', hs', i + 1, v', Hb, by omega, by simp, rfl, hsb, ?_⟩
    rw [fil_yes (decide_eq_true ⟨q1, q2, q3, q4, q5, q6⟩)]
    simpa using ho'
  · have e : i = n.toNat := by omega
    subst e
    exact Ret.held hu (sub_trans hb hsb) h

end Go.Proofs.Ytipdfhjilegkcaa
