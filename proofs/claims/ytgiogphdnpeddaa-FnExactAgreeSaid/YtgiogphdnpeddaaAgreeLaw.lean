/-
The law FnExactAgree.
-/
import Derived.Test.YtgiogphdnpeddaaArgN
import Derived.Test.YtgiogphdnpeddaaAgreeC
set_option linter.all false
namespace Go.Proofs.Ytgiogphdnpeddaa
open Go Go.Abs Go.Proofs

set_option maxHeartbeats 2000000 in
theorem C_l_FnExactAgree {a0 : TNet} {v0 : List V} {H : Heap} {K : V → Heap → Prop} (hv0 : (netT true).rd H a0 v0) (hm0 : hugeNet a0) (h : ∀ H', K (.bool true) H') : ACalls P n_l_FnExactAgree [.agg v0] H K := by
  obtain ⟨e_v0, d_v0, w_v0, rfl, ca_v0, cb_v0, cc_v0⟩ := id hv0
  have ca_1 := net_cell ca_v0 cb_v0 cc_v0
  apply W_l_FnExactAgree
  unfold F_l_FnExactAgree
  try simp [stz_eq, putCells, fillZ, ca_1]
  refine C_l_szNet hv0 (by omega) (by omega) hm0 fun q0 hq0 => ?_
  simp
  refine ⟨fun _ => Ret.of (h _), fun hp0 => ?_⟩
  have hq0 := hq0 hp0
  have hb0 : bNet a0 := by unfold bNet; omega
  refine C_to_Net (b := true) ((netT true).mono hv0 (Abs.sub_refl _)) hb0 fun u_2 H_3 h_4 => ?_
  obtain ⟨ec_6, dc_6, wc_6, _, _, rfl, fc_6, gc_6, hc_6⟩ := net_dp h_4
  have c_6 := And.intro fc_6.cell (And.intro (dpS_cell gc_6) (dpS_cell hc_6))
  try simp [stz_eq, putCells, fillZ, ca_1, c_6]
  refine C_s_Agree ((netT false).mono h_4.rd (Abs.sub_refl _)) hb0 ?_
  try simp [stz_eq, putCells, fillZ, ca_1, c_6]
  refine C_to_Net (b := true) ((netT true).mono hv0 h_4.sub) hb0 fun u_7 H_8 h_9 => ?_
  obtain ⟨ec_11, dc_11, wc_11, _, _, rfl, fc_11, gc_11, hc_11⟩ := net_dp h_9
  have c_11 := And.intro fc_11.cell (And.intro (dpS_cell gc_11) (dpS_cell hc_11))
  try simp [stz_eq, putCells, fillZ, ca_1, c_6, c_11]
  refine C_i_Agree ((netT false).mono h_9.rd (Abs.sub_refl _)) hb0 ?_
  try simp [stz_eq, putCells, fillZ, ca_1, c_6, c_11]
  refine ⟨_, Abs.sub_refl _, ?_⟩
  refine C_to_Net (b := true) ((netT true).mono hv0 (sub_trans h_4.sub h_9.sub)) hb0 fun u_12 H_13 h_14 => ⟨h_14.sub, ?_⟩
  obtain ⟨ec_16, dc_16, wc_16, _, _, rfl, fc_16, gc_16, hc_16⟩ := net_dp h_14
  have c_16 := And.intro fc_16.cell (And.intro (dpS_cell gc_16) (dpS_cell hc_16))
  try simp [stz_eq, putCells, fillZ, ca_1, c_6, c_11, c_16]
  refine C_eq_Net ((netT false).mono h_9.rd h_14.sub) ((netT false).mono h_14.rd (Abs.sub_refl _)) hb0 ⟨h_14.sub, ?_⟩
  try simp [stz_eq, putCells, fillZ, ca_1, c_6, c_11, c_16]
  exact Ret.of (h _)
end Go.Proofs.Ytgiogphdnpeddaa
