/-
The law FnExactFirstLoop.
-/
import Derived.Test.YtogffkekamfmbaaFirst
import Derived.Test.YtogffkekamfmbaaHeldLaw
set_option linter.all false
namespace Go.Proofs.Ytogffkekamfmbaa
open Go Go.Abs Go.Proofs

set_option maxHeartbeats 1000000 in
theorem C_l_FnExactFirstLoop {n0 : Int} {v0 : V} {es0 : List TEdge} {n1 : Int} {v1 : V} {es1 : List TEdge} {v2 : V} {ds2 : List Int} {x3 : Int} {H : Heap} {K : V → Heap → Prop} (hv0 : Rd H 3 v0 (es0.map enEdge)) (hv1 : Rd H 3 v1 (es1.map enEdge)) (hv2 : Rd H 1 v2 (ds2.map ri)) (hl0 : es0.length ≤ 9223372036854775807) (hl1 : es1.length ≤ 9223372036854775807) (hl2 : ds2.length ≤ 9223372036854775807) (h : ∀ H', K (.bool true) H') : ACalls P n_l_FnExactFirstLoop [vG n0 v0, vG n1 v1, v2, .int .i64 x3] H K := by
  have hc0 := hv0.cell
  have hc1 := hv1.cell
  apply W_l_FnExactFirstLoop
  unfold F_l_FnExactFirstLoop
  simp [hc0, hc1, hv2.len]
  refine ⟨fun _ => Ret.of (h _), fun hsds2 => ?_⟩
  refine C_l_szGraph hv0 ?_
  rw [i64_in (by omega) (by omega)]
  generalize hq0 : (if _ < (0 : Int) then (-1 : Int) else _) = q0
  simp
  refine ⟨fun _ => Ret.of (h _), fun hp0 => ?_⟩
  have hb0 : es0.length ≤ 1048576 ∧ q0 ≤ 1048576 := by split at hq0 <;> omega
  refine C_l_szGraph hv1 ?_
  generalize hq1 : (if _ < (0 : Int) then (-1 : Int) else _) = q1
  simp
  refine ⟨fun _ => Ret.of (h _), fun hp1 => ?_⟩
  have hb1 : es1.length ≤ 1048576 ∧ q1 ≤ 1048576 := by rw [i64_in (by omega) (by omega)] at hq1; split at hq1 <;> omega
  refine ⟨_, Abs.sub_refl _, ?_⟩
  refine C_l_toGraph hv0 (by omega) fun u_1 H_2 h_3 => ?_
  refine ⟨h_3.sub, ?_⟩
  refine C_l_toGraph (hv1.mono h_3.sub) (by omega) fun u_4 H_5 h_6 => ?_
  refine ⟨(sub_trans h_3.sub h_6.sub), ?_⟩
  refine C_l_toIntS (hv2.mono (sub_trans h_3.sub h_6.sub)) (by omega) fun o_10 ho_11 => ?_
  have h_9 := Held.full (sz := 1) (rows := ds2.map ri) (n := ds2.length) ho_11 (by simp)
  refine ⟨(sub_trans h_3.sub (sub_trans h_6.sub h_9.sub)), ?_⟩
  refine C_s_FirstLoop ((h_3.rd enEdge_len).mono (sub_trans h_6.sub h_9.sub)) ((h_6.rd enEdge_len).mono h_9.sub) (Sl.of ((h_9.rd ri_len).mono (Abs.sub_refl _))) ⟨(sub_trans h_3.sub (sub_trans h_6.sub h_9.sub)), ?_⟩
  refine C_l_toGraph (hv0.mono (sub_trans h_3.sub (sub_trans h_6.sub h_9.sub))) (by omega) fun u_12 H_13 h_14 => ?_
  have hc_15 := h_14.cell
  simp [stz_eq, putCells, hc_15]
  refine C_l_toGraph (hv1.mono (sub_trans h_3.sub (sub_trans h_6.sub (sub_trans h_9.sub h_14.sub)))) (by omega) fun u_16 H_17 h_18 => ?_
  have hc_19 := h_18.cell
  simp [stz_eq, putCells, hc_19]
  refine C_l_toIntS (hv2.mono (sub_trans h_3.sub (sub_trans h_6.sub (sub_trans h_9.sub (sub_trans h_14.sub h_18.sub))))) (by omega) fun o_23 ho_24 => ?_
  have h_22 := Held.full (sz := 1) (rows := ds2.map ri) (n := ds2.length) ho_24 (by simp)
  refine C_i_FirstLoop ((h_14.rd enEdge_len).mono (sub_trans h_18.sub h_22.sub)) ((h_18.rd enEdge_len).mono h_22.sub) (Sl.of ((h_22.rd ri_len).mono (Abs.sub_refl _))) ?_
  simp
  refine ⟨_, Abs.sub_refl _, ?_⟩
  refine C_l_toGraph (hv0.mono (sub_trans h_3.sub (sub_trans h_6.sub (sub_trans h_9.sub (sub_trans h_14.sub (sub_trans h_18.sub h_22.sub)))))) (by omega) fun u_25 H_26 h_27 => ?_
  refine ⟨h_27.sub, ?_⟩
  refine C_l_eqGraph ((h_14.rd enEdge_len).mono (sub_trans h_18.sub (sub_trans h_22.sub h_27.sub))) ((h_27.rd enEdge_len).mono (Abs.sub_refl _)) (by omega) ?_
  refine ⟨h_27.sub, ?_⟩
  simp
  refine ⟨_, Abs.sub_refl _, ?_⟩
  refine C_l_toGraph (hv1.mono (sub_trans h_3.sub (sub_trans h_6.sub (sub_trans h_9.sub (sub_trans h_14.sub (sub_trans h_18.sub (sub_trans h_22.sub h_27.sub))))))) (by omega) fun u_28 H_29 h_30 => ?_
  refine ⟨h_30.sub, ?_⟩
  refine C_l_eqGraph ((h_18.rd enEdge_len).mono (sub_trans h_22.sub (sub_trans h_27.sub h_30.sub))) ((h_30.rd enEdge_len).mono (Abs.sub_refl _)) (by omega) ?_
  refine ⟨h_30.sub, ?_⟩
  simp
  refine C_l_toIntS (hv2.mono (sub_trans h_3.sub (sub_trans h_6.sub (sub_trans h_9.sub (sub_trans h_14.sub (sub_trans h_18.sub (sub_trans h_22.sub (sub_trans h_27.sub h_30.sub)))))))) (by omega) fun o_34 ho_35 => ?_
  have h_33 := Held.full (sz := 1) (rows := ds2.map ri) (n := ds2.length) ho_35 (by simp)
  refine C_l_eqIntS ((h_22.rd ri_len).mono (sub_trans h_27.sub (sub_trans h_30.sub h_33.sub))) ((h_33.rd ri_len).mono (Abs.sub_refl _)) (by omega) ?_
  simp
  exact Ret.of (h _)
end Go.Proofs.Ytogffkekamfmbaa
