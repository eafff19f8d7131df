/-
The law FnExactCountBad.
-/
import Derived.Test.YtipdfhjilegkcaaBadI
import Derived.Test.YtipdfhjilegkcaaHeldLaw
set_option linter.all false
namespace Go.Proofs.Ytipdfhjilegkcaa
open Go Go.Abs Go.Proofs

set_option maxHeartbeats 1000000 in
theorem C_l_FnExactCountBad {n0 : Int} {v0 : V} {es0 : List TEdge} {n1 : Int} {v1 : V} {es1 : List TEdge} {x2 : Int} {H : Heap} {K : V → Heap → Prop} (hv0 : Rd H 3 v0 (es0.map enEdge)) (hv1 : Rd H 3 v1 (es1.map enEdge)) (hl0 : es0.length ≤ 9223372036854775807) (hl1 : es1.length ≤ 9223372036854775807) (h : ∀ H', K (.bool true) H') : ACalls P n_l_FnExactCountBad [vG n0 v0, vG n1 v1, .int .i64 x2] H K := by
  have hc0 := hv0.cell
  have hc1 := hv1.cell
  apply W_l_FnExactCountBad
  unfold F_l_FnExactCountBad
  simp [hc0, hc1]
  refine C_l_szGraph hv0 ?_
  rw [i64_in (by omega) (by omega)]
  generalize hq0 : (if _ < (0 : Int) then (-1 : Int) else _) = q0
  simp
  refine ⟨fun _ => Ret.of (h _), fun hp0 => ?_⟩
  have hb0 : es0.length ≤ 1048576 ∧ q0 ≤ 1048576 := by split at hq0 <;> omega
  refine C_l_szGraph hv1 ?_
  generalize hq1 : (if _ < (0 : Int) then (-1 : Int) else _) = q1
  simp
  refine ⟨fun _ => Ret.of (h _), fun hp1 => ?_⟩
  have hb1 : es1.length ≤ 1048576 ∧ q1 ≤ 1048576 := by rw [i64_in (by omega) (by omega)] at hq1; split at hq1 <;> omega
  refine ⟨_, Abs.sub_refl _, ?_⟩
  refine C_l_toGraph hv0 (by omega) fun u_1 H_2 h_3 => ?_
  refine ⟨h_3.sub, ?_⟩
  refine C_l_toGraph (hv1.mono h_3.sub) (by omega) fun u_4 H_5 h_6 => ?_
  refine ⟨(sub_trans h_3.sub h_6.sub), ?_⟩
  refine C_s_CountBad ((h_3.rd enEdge_len).mono h_6.sub) ((h_6.rd enEdge_len).mono (Abs.sub_refl _)) ⟨(sub_trans h_3.sub h_6.sub), ?_⟩
  refine C_l_toGraph (hv0.mono (sub_trans h_3.sub h_6.sub)) (by omega) fun u_7 H_8 h_9 => ?_
  have hc_10 := h_9.cell
  simp [stz_eq, putCells, hc_10]
  refine C_l_toGraph (hv1.mono (sub_trans h_3.sub (sub_trans h_6.sub h_9.sub))) (by omega) fun u_11 H_12 h_13 => ?_
  have hc_14 := h_13.cell
  simp [stz_eq, putCells, hc_14]
  refine C_i_CountBad ((h_9.rd enEdge_len).mono h_13.sub) ((h_13.rd enEdge_len).mono (Abs.sub_refl _)) ?_
  simp
  refine ⟨_, Abs.sub_refl _, ?_⟩
  refine C_l_toGraph (hv0.mono (sub_trans h_3.sub (sub_trans h_6.sub (sub_trans h_9.sub h_13.sub)))) (by omega) fun u_15 H_16 h_17 => ?_
  refine ⟨h_17.sub, ?_⟩
  refine C_l_eqGraph ((h_9.rd enEdge_len).mono (sub_trans h_13.sub h_17.sub)) ((h_17.rd enEdge_len).mono (Abs.sub_refl _)) (by omega) ?_
  refine ⟨h_17.sub, ?_⟩
  simp
  refine ⟨_, Abs.sub_refl _, ?_⟩
  refine C_l_toGraph (hv1.mono (sub_trans h_3.sub (sub_trans h_6.sub (sub_trans h_9.sub (sub_trans h_13.sub h_17.sub))))) (by omega) fun u_18 H_19 h_20 => ?_
  refine ⟨h_20.sub, ?_⟩
  refine C_l_eqGraph ((h_13.rd enEdge_len).mono (sub_trans h_17.sub h_20.sub)) ((h_20.rd enEdge_len).mono (Abs.sub_refl _)) (by omega) ?_
  refine ⟨h_20.sub, ?_⟩
  simp
  exact Ret.of (h _)
end Go.Proofs.Ytipdfhjilegkcaa
