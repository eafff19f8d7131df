/-
The law FnExactTableFor.
-/
import Derived.Test.YtaippfedjjjpeaaGreatArgD
import Derived.Test.YtaippfedjjjpeaaGreatTblK
set_option linter.all false
namespace Go.Proofs.YtaippfedjjjpeaaGreat
open Go Go.Abs Go.Proofs

set_option maxHeartbeats 2000000 in
theorem C_l_FnExactTableFor {a0 : List TLsa} {v0 : V} {x1 : Int} {H : Heap} {K : V → Heap → Prop} (hv0 : (dbT true).rd H a0 [v0]) (hl0 : a0.length ≤ 9223372036854775807) (hm0 : ∀ x ∈ a0, x.links.length ≤ 9223372036854775807 ∧ x.stubs.length ≤ 9223372036854775807) (h : ∀ H', K (.bool true) H') : ACalls P n_l_FnExactTableFor [.agg [v0], .int .i64 x1] H K := by
  have ca_1 := rdS_cell hv0
  apply W_l_FnExactTableFor
  unfold F_l_FnExactTableFor
  try simp [stz_eq, putCells, fillZ, ca_1]
  refine C_l_szDb hv0 (by omega) (by omega) hl0 hm0 fun q0 hq0 => ?_
  simp
  refine ⟨fun _ => Ret.of (h _), fun hp0 => ?_⟩
  have hq0 := hq0 hp0
  have hb0 : bDb a0 := by unfold bDb; omega
  have hR0 : bRouteS (pfxR a0 x1).1 := pfxR_sz
  refine C_to_Db (b := true) ((dbT true).mono hv0 (Abs.sub_refl _)) hb0 fun u_2 H_3 h_4 => ?_
  have c_6 := dpS_cell h_4
  try simp [stz_eq, putCells, fillZ, ca_1, c_6]
  refine C_s_TableFor ((dbT false).mono h_4.rd (Abs.sub_refl _)) hb0 fun w_7 H_8 h_9 => ?_
  have c_11 := dpS_cell h_9
  try simp [stz_eq, putCells, fillZ, ca_1, c_6, c_11]
  refine C_to_Db (b := true) ((dbT true).mono hv0 (sub_trans h_4.sub h_9.sub)) hb0 fun u_12 H_13 h_14 => ?_
  have c_16 := dpS_cell h_14
  try simp [stz_eq, putCells, fillZ, ca_1, c_6, c_11, c_16]
  refine C_i_TableFor ((dbT false).mono h_14.rd (Abs.sub_refl _)) hb0 fun w_17 H_18 h_19 => ?_
  have c_21 := dpS_cell h_19
  try simp [stz_eq, putCells, fillZ, ca_1, c_6, c_11, c_16, c_21]
  refine C_eq_Table ((routesT false).mono h_19.rd (Abs.sub_refl _)) ((routesT false).mono h_9.rd (sub_trans h_14.sub h_19.sub)) hR0 ?_
  try simp [stz_eq, putCells, fillZ, ca_1, c_6, c_11, c_16, c_21]
  refine ⟨_, Abs.sub_refl _, ?_⟩
  refine C_to_Db (b := true) ((dbT true).mono hv0 (sub_trans h_4.sub (sub_trans h_9.sub (sub_trans h_14.sub h_19.sub)))) hb0 fun u_22 H_23 h_24 => ⟨h_24.sub, ?_⟩
  have c_26 := dpS_cell h_24
  try simp [stz_eq, putCells, fillZ, ca_1, c_6, c_11, c_16, c_21, c_26]
  refine C_eq_Db ((dbT false).mono h_14.rd (sub_trans h_19.sub h_24.sub)) ((dbT false).mono h_24.rd (Abs.sub_refl _)) hb0 ⟨h_24.sub, ?_⟩
  try simp [stz_eq, putCells, fillZ, ca_1, c_6, c_11, c_16, c_21, c_26]
  have z0 := sB_Db hb0
  have zR0 := sB_Table hR0
  obtain ⟨_, hs_27, hs_28⟩ := Dp.swap h_14 h_19
  obtain ⟨_, hs_29, hs_30⟩ := Dp.swap hs_28 h_24
  refine C_mark_Db hs_30 (Abs.sub_refl _) hb0 (by omega) fun H_31 Ho_32 h_33 s_34 => ?_
  try simp [stz_eq, putCells, fillZ, ca_1, c_6, c_11, c_16, c_21, c_26]
  refine ⟨fun hh => absurd hh (by omega), fun _ => ?_⟩
  refine C_eq_Table ((routesT false).mono hs_27.rd (sub_trans hs_29.sub (sub_trans h_33.sub s_34))) ((routesT false).mono h_9.rd (sub_trans hs_27.sub (sub_trans hs_29.sub (sub_trans h_33.sub s_34)))) hR0 ?_
  try simp [stz_eq, putCells, fillZ, ca_1, c_6, c_11, c_16, c_21, c_26]
  obtain ⟨_, hs_35, hs_36⟩ := Dp.swap hs_27 hs_29
  obtain ⟨_, hs_37, hs_38⟩ := Dp.swap hs_36 h_33
  refine C_mark_Table hs_38 s_34 hR0 (by omega) fun H_39 Ho_40 h_41 s_42 => ?_
  try simp [stz_eq, putCells, fillZ, ca_1, c_6, c_11, c_16, c_21, c_26]
  refine C_held_Table ((routesT false).mono h_41.rd s_42) hR0 (by omega) ?_
  try simp [stz_eq, putCells, fillZ, ca_1, c_6, c_11, c_16, c_21, c_26]
  refine ⟨fun hh => absurd hh (by omega), fun _ => ?_⟩
  have r_43 := ((routesT false).mono h_9.rd (sub_trans hs_35.sub (sub_trans hs_37.sub (sub_trans h_41.sub s_42))))
  have r_44 := ((routesT false).mono h_41.rd s_42)
  have b_45 := ((dbT true).mono hv0 (sub_trans h_4.sub (sub_trans h_9.sub (sub_trans hs_35.sub (sub_trans hs_37.sub (sub_trans h_41.sub s_42))))))
  refine C_to_Db (b := true) ((dbT true).mono b_45 (Abs.sub_refl _)) hb0 fun u_46 H_47 h_48 => ?_
  have c_50 := dpS_cell h_48
  try simp [stz_eq, putCells, fillZ, ca_1, c_6, c_11, c_16, c_21, c_26, c_50]
  refine C_i_TableFor ((dbT false).mono h_48.rd (Abs.sub_refl _)) hb0 fun w_51 H_52 h_53 => ?_
  have c_55 := dpS_cell h_53
  try simp [stz_eq, putCells, fillZ, ca_1, c_6, c_11, c_16, c_21, c_26, c_50, c_55]
  refine C_eq_Table ((routesT false).mono h_53.rd (Abs.sub_refl _)) ((routesT false).mono r_43 (sub_trans h_48.sub h_53.sub)) hR0 ?_
  try simp [stz_eq, putCells, fillZ, ca_1, c_6, c_11, c_16, c_21, c_26, c_50, c_55]
  refine C_held_Table ((routesT false).mono r_44 (sub_trans h_48.sub h_53.sub)) hR0 (by omega) ?_
  try simp [stz_eq, putCells, fillZ, ca_1, c_6, c_11, c_16, c_21, c_26, c_50, c_55]
  exact ⟨fun hh => absurd hh (by omega), fun _ => Ret.of (h _)⟩
end Go.Proofs.YtaippfedjjjpeaaGreat
