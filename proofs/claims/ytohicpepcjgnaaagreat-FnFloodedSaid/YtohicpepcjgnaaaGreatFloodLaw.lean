/-
The law FnFlooded.
-/
import Derived.Test.YtohicpepcjgnaaaGreatLived
import Derived.Test.YtohicpepcjgnaaaGreatSettleC
import Derived.Test.YtohicpepcjgnaaaGreatAgreeC
set_option linter.all false
namespace Go.Proofs.YtohicpepcjgnaaaGreat
open Go Go.Abs Go.Proofs

set_option maxHeartbeats 1000000 in
theorem C_l_FnFlooded {v : V} {bs : List (List V)} {H : Heap} {K : V → Heap → Prop} (hv : Rd H 1 v bs) (hb : Bb bs) (h : ∀ H', K (.bool true) H') : ACalls P n_l_FnFlooded [v] H K := by
  apply W_l_FnFlooded
  unfold F_l_FnFlooded
  refine C_l_big hv.len ?_
  simp
  refine ⟨fun _ => Ret.of (h _), fun hl => ?_⟩
  refine C_l_lived hv hb (by omega) fun a us H1 hs hL hr => ?_
  have hr' := hr
  obtain ⟨e1, d1, w1, rfl, g1, g2, g3⟩ := hr'
  have hc1 := net_cell g1 g2 g3
  simp [stz_eq, putCells, hc1]
  obtain ⟨f1, c1, z1⟩ := settle_fl (f := 5000) hL.1
  have c1 := c1 (hL.2 rfl)
  have se : settleR a = ((settleF 5000 a).1, (((settleF 5000 a).2 : Nat) : Int)) := by
    unfold settleR settleN
    rw [if_pos hL.1.ok]
  refine C_i_Settle (c := false) hr hL.sz fun us2 H2 h2 => ?_
  rw [se] at h2 ⊢
  have r2 := h2.rd
  generalize (settleF 5000 a).2 = k1 at *
  generalize (settleF 5000 a).1 = a1 at *
  have r2' := r2
  obtain ⟨e2, d2, w2, rfl, g1, g2, g3⟩ := r2'
  have hc2 := net_cell g1 g2 g3
  have nw := rdS_len g3
  simp [stz_eq, putCells, hc2, nw]
  have z4 := small_sz (small_of f1.ok)
  refine ⟨fun q => by omega, ?_⟩
  refine C_s_NetOk r2 z4 ?_
  simp [f1.ok]
  refine ⟨fun _ => Ret.of (h _), fun hlost => ⟨fun _ => Ret.of (h _), fun hk => ?_⟩⟩
  have hw := z1 (by omega)
  have ag := agree_fl f1 c1 (by omega) hw
  have hw0 : a1.wires = [] := List.eq_nil_of_length_eq_zero hw
  simp [hw0]
  refine C_i_Agree r2 z4 ?_
  simp [ag]
  refine C_s_Agree r2 z4 ?_
  simp [ag]
  exact Ret.of (h _)

end Go.Proofs.YtohicpepcjgnaaaGreat
