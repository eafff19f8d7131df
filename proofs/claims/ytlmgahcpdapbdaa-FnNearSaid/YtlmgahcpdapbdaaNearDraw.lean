/-
Contracts of the draws of neighbor events.
-/
import Derived.Test.YtlmgahcpdapbdaaCur
import Derived.Test.YtlmgahcpdapbdaaFull2
set_option linter.all false
namespace Go.Proofs.Ytlmgahcpdapbdaa
open Go Go.Abs Go.Proofs

abbrev vE (e : TNearEvent) : V := .agg [.int .i64 e.1, .int .i64 e.2.1, .int .i64 e.2.2]

set_option maxHeartbeats 1000000 in
theorem C_s_l07DrawEvent {o : Nat} {now : Int} {H : Heap} {K : V → Heap → Prop} (hc : IsCur H o) (h : ∀ (e : TNearEvent) Hd, St H o Hd → K (vE e) Hd) : ACalls P n_s_l07DrawEvent [.ptr o 0 0, .int .i64 now] H K := by
  apply W_s_l07DrawEvent
  unfold F_s_l07DrawEvent
  refine C_pick [0, 1, 1, 1, 2, 2, 3, 3, 3, 4, 4, 5] rfl rfl rfl (by simp) (by decide) hc fun k H1 _ s1 => ?_
  refine C_pick [0, 1, 2, 3] rfl rfl rfl (by simp) (by decide) s1.1 fun n H2 _ s2 => ?_
  simp [fillZ, stz_eq, putCells]
  have s2 := s1.trans s2
  refine C_s_l01Once s2.1 fun q H3 s3 => ?_
  have s3 := s2.trans s3
  simp
  refine ⟨fun _ => ?_, fun _ => ?_⟩
  · refine C_s_l01Below s3.1 fun w H4 _ _ _ s4 => ?_
    have s4 := s3.trans s4
    simp
    refine ⟨fun _ => ?_, fun _ => ⟨fun _ => ?_, fun _ => ⟨fun _ => ?_, fun _ => ?_⟩⟩⟩
    · refine C_pick [-1, 6] rfl rfl rfl (by simp) (by decide) s4.1 fun x H5 _ s5 => ?_
      simp [stz_eq, putCells]
      exact Ret.of (h (x, now, n) _ (s4.trans s5))
    · refine C_pick [IntKind.i64.wrap (now - 1), 1000000, 1000001] rfl rfl rfl (by simp) (by simp) s4.1 fun x H5 _ s5 => ?_
      simp [stz_eq, putCells]
      exact Ret.of (h (k, x, n) _ (s4.trans s5))
    · refine C_pick [-1, 10, 11] rfl rfl rfl (by simp) (by decide) s4.1 fun x H5 _ s5 => ?_
      simp [stz_eq, putCells]
      exact Ret.of (h (k, now, x) _ (s4.trans s5))
    · exact Ret.of (h (k, now, n) _ s4)
  · exact Ret.of (h (k, now, n) _ s3)

def InvD (Hs : Heap) (o : Nat) (m : Int) (n : Nat) (ys : List V) (Hc : Heap) : Prop :=
  ∃ (es : List TNearEvent) (u : V) (now : Int) (Hb : Heap), (es.length : Int) ≤ max m 0 ∧ ys = [u, .int .i64 now, .int .i64 (es.length : Nat)] ∧ (n : Int) = max m 0 - es.length ∧ St Hs o Hb ∧ Own Hb 3 (es.map enNearEvent) u Hc

set_option maxHeartbeats 1000000 in
theorem C_s_l07DrawEvents {v : V} {bs : List (List V)} {H : Heap} {K : V → Heap → Prop} (hv : Rd H 1 v bs) (hb : Bs bs) (hl : bs.length ≤ 9223372036854775807) (hcell : cellsOf v = [v] ∧ cellOk v = true ∧ notAny v = true)
    (h : ∀ (es : List TNearEvent) u Hb Hd, es.length ≤ 301 → Abs.sub H Hb → Own Hb 3 (es.map enNearEvent) u Hd → K u Hd) : ACalls P n_s_l07DrawEvents [v] H K := by
  apply W_s_l07DrawEvents
  unfold F_s_l07DrawEvents
  refine C_s_l01New hv hb hl hcell fun o H2 ho hc2 hs2 => ?_
  simp [bsl_nil]
  intro o4 ho4
  refine C_s_l01Size (hv.mono (sub_trans hs2 (sub_fresh ho4))) (by omega) hl fun sz hz0 hz1 => ?_
  have g4 : St H2 o (upd H2 o4 ⟨3, []⟩) := St.grow hc2 (sub_fresh ho4)
  refine C_s_l01Below g4.1 fun m H8 hm0 hm1 hm2 s8 => ?_
  refine ⟨fun xs Hj => ∃ m : Int, 0 ≤ m ∧ m ≤ 301 ∧ xs = [.int .i64 m] ∧ St (upd H2 o4 ⟨3, []⟩) o Hj, ?_, ?_⟩
  · refine C_s_l01Once s8.1 fun q H3 s3 => ?_
    have s3 := s8.trans s3
    simp
    refine ⟨fun _ => ?_, fun _ => Shr.of ⟨m, by omega, by omega, rfl, s3⟩⟩
    refine C_s_l01Below s3.1 fun x H4 hx0 hx1 _ s4 => ?_
    simp
    rw [i64_in (by omega) (by omega)]
    exact Shr.of ⟨_, by omega, by omega, rfl, s3.trans s4⟩
  rintro xs Hj ⟨m, h0, h1, rfl, sj⟩
  simp
  obtain ⟨Hb, Hd', q1, q2, q3⟩ := sj.own hc2 (rows := []) (v := .slice o4 0 0 (some 0)) (sz := 3) (.inr (.inr ⟨o4, rfl, ho4, rfl, rfl⟩))
  refine ⟨InvD H2 o m, ⟨m.toNat, Hd', q3, [], _, 0, Hb, by simp <;> omega, rfl, by simp <;> omega, q1, q2⟩, ?_⟩
  rintro n ys Hc ⟨es, u, now, Hb, h2, rfl, h3, s4, hu⟩
  simp
  have hcc : IsCur Hc o := s4.1.mono hu.sub
  refine ⟨fun hlt => ?_, fun hge => ?_⟩
  · refine C_pick [0, 0, 1, 1, 2, 4, 5] rfl rfl rfl (by simp) (by decide) hcc fun x H5 _ s5 => ?_
    simp
    refine C_s_l07DrawEvent s5.1 fun e H6 s6 => ?_
    obtain ⟨Hb', Hd', q1, q2, q3⟩ := (s5.trans s6).own s4.1 hu
    have hb1 : bsl 3 1 [.int .i64 0, .int .i64 0, .int .i64 0] [(0, vE e)] = some [enNearEvent e] := rfl
    rw [hb1]
    simp
    intro o7 ho7
    refine q2.append (sub_trans q3 (sub_fresh ho7)) (by simp) (by simp <;> omega) fun v' H' H'' ho' hs' => ?_
    rw [i64_in (n := (es.length : Int) + 1) (by omega) (by omega)]
    refine ⟨(m - es.length - 1).toNat, by omega, H'', hs', es ++ [e], v', _, Hb', by simp <;> omega, by simp <;> rfl, by simp <;> omega, s4.trans q1, by simpa using ho'⟩
  · refine Ret.of (h es u Hb Hc (by omega) ?_ hu)
    obtain ⟨_, y, _, h5⟩ := s4
    refine sub_trans ?_ h5
    intro i x hi
    have : i ≠ o := by rintro rfl; rw [ho] at hi; cases hi
    rw [upd_off this]
    exact hs2 _ _ hi

end Go.Proofs.Ytlmgahcpdapbdaa
