/-
The law FnExactTablesOf.
-/
import Derived.Test.YtaippfedjjjpeaaGreatArgN
import Derived.Test.YtaippfedjjjpeaaGreatTbsC
set_option linter.all false
namespace Go.Proofs.YtaippfedjjjpeaaGreat
open Go Go.Abs Go.Proofs

set_option maxHeartbeats 2000000 in
theorem C_l_FnExactTablesOf {a0 : TNet} {v0 : List V} {H : Heap} {K : V → Heap → Prop} (hv0 : (netT true).rd H a0 v0) (hm0 : hugeNet a0) (h : ∀ H', K (.bool true) H') : ACalls P n_l_FnExactTablesOf [.agg v0] H K := by
  obtain ⟨e_v0, d_v0, w_v0, rfl, ca_v0, cb_v0, cc_v0⟩ := id hv0
  have ca_1 := net_cell ca_v0 cb_v0 cc_v0
  apply W_l_FnExactTablesOf
  unfold F_l_FnExactTablesOf
  try simp [stz_eq, putCells, fillZ, ca_1]
  refine C_l_szNet hv0 (by omega) (by omega) hm0 fun q0 hq0 => ?_
  simp
  refine ⟨fun _ => Ret.of (h _), fun hp0 => ?_⟩
  have hq0 := hq0 hp0
  have hb0 : bNet a0 := by unfold bNet; omega
  have hR0 : bTableS (tablesR a0).1 := tablesR_sz
  refine C_to_Net (b := true) ((netT true).mono hv0 (Abs.sub_refl _)) hb0 fun u_2 H_3 h_4 => ?_
  obtain ⟨ec_6, dc_6, wc_6, _, _, rfl, fc_6, gc_6, hc_6⟩ := net_dp h_4
  have c_6 := And.intro fc_6.cell (And.intro (dpS_cell gc_6) (dpS_cell hc_6))
  try simp [stz_eq, putCells, fillZ, ca_1, c_6]
  refine C_s_TablesOf ((netT false).mono h_4.rd (Abs.sub_refl _)) hb0 fun w_7 H_8 h_9 => ?_
  have c_11 := dpS_cell h_9
  try simp [stz_eq, putCells, fillZ, ca_1, c_6, c_11]
  refine C_to_Net (b := true) ((netT true).mono hv0 (sub_trans h_4.sub h_9.sub)) hb0 fun u_12 H_13 h_14 => ?_
  obtain ⟨ec_16, dc_16, wc_16, _, _, rfl, fc_16, gc_16, hc_16⟩ := net_dp h_14
  have c_16 := And.intro fc_16.cell (And.intro (dpS_cell gc_16) (dpS_cell hc_16))
  try simp [stz_eq, putCells, fillZ, ca_1, c_6, c_11, c_16]
  refine C_i_TablesOf ((netT false).mono h_14.rd (Abs.sub_refl _)) hb0 fun w_17 H_18 h_19 => ?_
  have c_21 := dpS_cell h_19
  try simp [stz_eq, putCells, fillZ, ca_1, c_6, c_11, c_16, c_21]
  refine C_eq_TableS ((tablesT false).mono h_19.rd (Abs.sub_refl _)) ((tablesT false).mono h_9.rd (sub_trans h_14.sub h_19.sub)) hR0 ?_
  try simp [stz_eq, putCells, fillZ, ca_1, c_6, c_11, c_16, c_21]
  refine ⟨_, Abs.sub_refl _, ?_⟩
  refine C_to_Net (b := true) ((netT true).mono hv0 (sub_trans h_4.sub (sub_trans h_9.sub (sub_trans h_14.sub h_19.sub)))) hb0 fun u_22 H_23 h_24 => ⟨h_24.sub, ?_⟩
  obtain ⟨ec_26, dc_26, wc_26, _, _, rfl, fc_26, gc_26, hc_26⟩ := net_dp h_24
  have c_26 := And.intro fc_26.cell (And.intro (dpS_cell gc_26) (dpS_cell hc_26))
  try simp [stz_eq, putCells, fillZ, ca_1, c_6, c_11, c_16, c_21, c_26]
  refine C_eq_Net ((netT false).mono h_14.rd (sub_trans h_19.sub h_24.sub)) ((netT false).mono h_24.rd (Abs.sub_refl _)) hb0 ⟨h_24.sub, ?_⟩
  try simp [stz_eq, putCells, fillZ, ca_1, c_6, c_11, c_16, c_21, c_26]
  have z0 := sB_Net hb0
  have zR0 := sB_TableS hR0
  obtain ⟨_, hs_27, hs_28⟩ := Dp.swap h_14 h_19
  obtain ⟨_, hs_29, hs_30⟩ := Dp.swap hs_28 h_24
  refine C_mark_Net hs_30 (Abs.sub_refl _) hb0 (by omega) fun H_31 Ho_32 h_33 s_34 => ?_
  try simp [stz_eq, putCells, fillZ, ca_1, c_6, c_11, c_16, c_21, c_26]
  refine ⟨fun hh => absurd hh (by omega), fun _ => ?_⟩
  refine C_eq_TableS ((tablesT false).mono hs_27.rd (sub_trans hs_29.sub (sub_trans h_33.sub s_34))) ((tablesT false).mono h_9.rd (sub_trans hs_27.sub (sub_trans hs_29.sub (sub_trans h_33.sub s_34)))) hR0 ?_
  try simp [stz_eq, putCells, fillZ, ca_1, c_6, c_11, c_16, c_21, c_26]
  obtain ⟨_, hs_35, hs_36⟩ := Dp.swap hs_27 hs_29
  obtain ⟨_, hs_37, hs_38⟩ := Dp.swap hs_36 h_33
  refine C_mark_TableS hs_38 s_34 hR0 (by omega) fun H_39 Ho_40 h_41 s_42 => ?_
  try simp [stz_eq, putCells, fillZ, ca_1, c_6, c_11, c_16, c_21, c_26]
  refine C_held_TableS ((tablesT false).mono h_41.rd s_42) hR0 (by omega) ?_
  try simp [stz_eq, putCells, fillZ, ca_1, c_6, c_11, c_16, c_21, c_26]
  refine ⟨fun hh => absurd hh (by omega), fun _ => ?_⟩
  have r_43 := ((tablesT false).mono h_9.rd (sub_trans hs_35.sub (sub_trans hs_37.sub (sub_trans h_41.sub s_42))))
  have r_44 := ((tablesT false).mono h_41.rd s_42)
  have b_45 := ((netT true).mono hv0 (sub_trans h_4.sub (sub_trans h_9.sub (sub_trans hs_35.sub (sub_trans hs_37.sub (sub_trans h_41.sub s_42))))))
  refine C_to_Net (b := true) ((netT true).mono b_45 (Abs.sub_refl _)) hb0 fun u_46 H_47 h_48 => ?_
  obtain ⟨ec_50, dc_50, wc_50, _, _, rfl, fc_50, gc_50, hc_50⟩ := net_dp h_48
  have c_50 := And.intro fc_50.cell (And.intro (dpS_cell gc_50) (dpS_cell hc_50))
  try simp [stz_eq, putCells, fillZ, ca_1, c_6, c_11, c_16, c_21, c_26, c_50]
  refine C_i_TablesOf ((netT false).mono h_48.rd (Abs.sub_refl _)) hb0 fun w_51 H_52 h_53 => ?_
  have c_55 := dpS_cell h_53
  try simp [stz_eq, putCells, fillZ, ca_1, c_6, c_11, c_16, c_21, c_26, c_50, c_55]
  refine C_eq_TableS ((tablesT false).mono h_53.rd (Abs.sub_refl _)) ((tablesT false).mono r_43 (sub_trans h_48.sub h_53.sub)) hR0 ?_
  try simp [stz_eq, putCells, fillZ, ca_1, c_6, c_11, c_16, c_21, c_26, c_50, c_55]
  refine C_held_TableS ((tablesT false).mono r_44 (sub_trans h_48.sub h_53.sub)) hR0 (by omega) ?_
  try simp [stz_eq, putCells, fillZ, ca_1, c_6, c_11, c_16, c_21, c_26, c_50, c_55]
  exact ⟨fun hh => absurd hh (by omega), fun _ => Ret.of (h _)⟩
end Go.Proofs.YtaippfedjjjpeaaGreat
