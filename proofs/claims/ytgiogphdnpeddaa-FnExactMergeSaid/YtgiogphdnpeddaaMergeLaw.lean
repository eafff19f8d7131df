/-
The law FnExactMerge.
-/
import Derived.Test.YtgiogphdnpeddaaArgD
import Derived.Test.YtgiogphdnpeddaaMergeC
set_option linter.all false
namespace Go.Proofs.Ytgiogphdnpeddaa
open Go Go.Abs Go.Proofs

set_option maxHeartbeats 2000000 in
theorem C_l_FnExactMerge {a0 : List TLsa} {v0 : V} {a1 : List TLsa} {v1 : V} {H : Heap} {K : V → Heap → Prop} (hv0 : (dbT true).rd H a0 [v0]) (hl0 : a0.length ≤ 9223372036854775807) (hm0 : ∀ x ∈ a0, x.links.length ≤ 9223372036854775807 ∧ x.stubs.length ≤ 9223372036854775807) (hv1 : (dbT true).rd H a1 [v1]) (hl1 : a1.length ≤ 9223372036854775807) (hm1 : ∀ x ∈ a1, x.links.length ≤ 9223372036854775807 ∧ x.stubs.length ≤ 9223372036854775807) (h : ∀ H', K (.bool true) H') : ACalls P n_l_FnExactMerge [.agg [v0], .agg [v1]] H K := by
  have ca_1 := rdS_cell hv0
  have ca_2 := rdS_cell hv1
  apply W_l_FnExactMerge
  unfold F_l_FnExactMerge
  try simp [stz_eq, putCells, fillZ, ca_1, ca_2]
  refine C_l_szDb hv0 (by omega) (by omega) hl0 hm0 fun q0 hq0 => ?_
  simp
  refine ⟨fun _ => Ret.of (h _), fun hp0 => ?_⟩
  have hq0 := hq0 hp0
  refine C_l_szDb hv1 (by omega) (by omega) hl1 hm1 fun q1 hq1 => ?_
  simp
  refine ⟨fun _ => Ret.of (h _), fun hp1 => ?_⟩
  have hq1 := hq1 hp1
  have hb0 : bDb a0 := by unfold bDb; omega
  have hb1 : bDb a1 := by unfold bDb; omega
  have hR0 : bDb (mergeR a0 a1).1 := mergeR_sz hb0
  refine ⟨_, Abs.sub_refl _, ?_⟩
  try simp [stz_eq, putCells, fillZ, ca_1, ca_2]
  refine C_to_Db (b := true) ((dbT true).mono hv0 (Abs.sub_refl _)) hb0 fun u_3 H_4 h_5 => ⟨h_5.sub, ?_⟩
  have c_7 := dpS_cell h_5
  try simp [stz_eq, putCells, fillZ, ca_1, ca_2, c_7]
  refine C_to_Db (b := true) ((dbT true).mono hv1 h_5.sub) hb1 fun u_8 H_9 h_10 => ⟨(sub_trans h_5.sub h_10.sub), ?_⟩
  have c_12 := dpS_cell h_10
  try simp [stz_eq, putCells, fillZ, ca_1, ca_2, c_7, c_12]
  refine C_s_Merge (c := false) ((dbT false).mono h_5.rd h_10.sub) hb0 ((dbT false).mono h_10.rd (Abs.sub_refl _)) hb1 fun w_13 H_14 h_15 => ⟨(sub_trans h_5.sub (sub_trans h_10.sub h_15.sub)), ?_⟩
  have c_17 := dpS_cell h_15
  try simp [stz_eq, putCells, fillZ, ca_1, ca_2, c_7, c_12, c_17]
  refine C_to_Db (b := true) ((dbT true).mono hv0 (sub_trans h_5.sub (sub_trans h_10.sub h_15.sub))) hb0 fun u_18 H_19 h_20 => ?_
  have c_22 := dpS_cell h_20
  try simp [stz_eq, putCells, fillZ, ca_1, ca_2, c_7, c_12, c_17, c_22]
  refine C_to_Db (b := true) ((dbT true).mono hv1 (sub_trans h_5.sub (sub_trans h_10.sub (sub_trans h_15.sub h_20.sub)))) hb1 fun u_23 H_24 h_25 => ?_
  have c_27 := dpS_cell h_25
  try simp [stz_eq, putCells, fillZ, ca_1, ca_2, c_7, c_12, c_17, c_22, c_27]
  refine C_i_Merge (c := false) ((dbT false).mono h_20.rd h_25.sub) hb0 ((dbT false).mono h_25.rd (Abs.sub_refl _)) hb1 fun w_28 H_29 h_30 => ?_
  have c_32 := dpS_cell h_30
  try simp [stz_eq, putCells, fillZ, ca_1, ca_2, c_7, c_12, c_17, c_22, c_27, c_32]
  refine C_eq_Db ((dbT false).mono h_30.rd (Abs.sub_refl _)) ((dbT false).mono h_15.rd (sub_trans h_20.sub (sub_trans h_25.sub h_30.sub))) hR0 ?_
  try simp [stz_eq, putCells, fillZ, ca_1, ca_2, c_7, c_12, c_17, c_22, c_27, c_32]
  refine ⟨_, Abs.sub_refl _, ?_⟩
  refine C_to_Db (b := true) ((dbT true).mono hv0 (sub_trans h_5.sub (sub_trans h_10.sub (sub_trans h_15.sub (sub_trans h_20.sub (sub_trans h_25.sub h_30.sub)))))) hb0 fun u_33 H_34 h_35 => ⟨h_35.sub, ?_⟩
  have c_37 := dpS_cell h_35
  try simp [stz_eq, putCells, fillZ, ca_1, ca_2, c_7, c_12, c_17, c_22, c_27, c_32, c_37]
  refine C_eq_Db ((dbT false).mono h_20.rd (sub_trans h_25.sub (sub_trans h_30.sub h_35.sub))) ((dbT false).mono h_35.rd (Abs.sub_refl _)) hb0 ⟨h_35.sub, ?_⟩
  try simp [stz_eq, putCells, fillZ, ca_1, ca_2, c_7, c_12, c_17, c_22, c_27, c_32, c_37]
  refine ⟨_, Abs.sub_refl _, ?_⟩
  refine C_to_Db (b := true) ((dbT true).mono hv1 (sub_trans h_5.sub (sub_trans h_10.sub (sub_trans h_15.sub (sub_trans h_20.sub (sub_trans h_25.sub (sub_trans h_30.sub h_35.sub))))))) hb1 fun u_38 H_39 h_40 => ⟨h_40.sub, ?_⟩
  have c_42 := dpS_cell h_40
  try simp [stz_eq, putCells, fillZ, ca_1, ca_2, c_7, c_12, c_17, c_22, c_27, c_32, c_37, c_42]
  refine C_eq_Db ((dbT false).mono h_25.rd (sub_trans h_30.sub (sub_trans h_35.sub h_40.sub))) ((dbT false).mono h_40.rd (Abs.sub_refl _)) hb1 ⟨h_40.sub, ?_⟩
  try simp [stz_eq, putCells, fillZ, ca_1, ca_2, c_7, c_12, c_17, c_22, c_27, c_32, c_37, c_42]
  have z0 := sB_Db hb0
  have z1 := sB_Db hb1
  have zR0 := sB_Db hR0
  obtain ⟨_, hs_43, hs_44⟩ := Dp.swap h_20 h_25
  obtain ⟨_, hs_45, hs_46⟩ := Dp.swap hs_44 h_30
  obtain ⟨_, hs_47, hs_48⟩ := Dp.swap hs_46 h_35
  obtain ⟨_, hs_49, hs_50⟩ := Dp.swap hs_48 h_40
  refine C_mark_Db hs_50 (Abs.sub_refl _) hb0 (by omega) fun H_51 Ho_52 h_53 s_54 => ?_
  try simp [stz_eq, putCells, fillZ, ca_1, ca_2, c_7, c_12, c_17, c_22, c_27, c_32, c_37, c_42]
  obtain ⟨_, hs_55, hs_56⟩ := Dp.swap hs_43 hs_45
  obtain ⟨_, hs_57, hs_58⟩ := Dp.swap hs_56 hs_47
  obtain ⟨_, hs_59, hs_60⟩ := Dp.swap hs_58 hs_49
  obtain ⟨_, hs_61, hs_62⟩ := Dp.swap hs_60 h_53
  refine C_mark_Db hs_62 s_54 hb1 (by omega) fun H_63 Ho_64 h_65 s_66 => ?_
  try simp [stz_eq, putCells, fillZ, ca_1, ca_2, c_7, c_12, c_17, c_22, c_27, c_32, c_37, c_42]
  refine ⟨fun hh => absurd hh (by omega), fun _ => ?_⟩
  refine C_eq_Db ((dbT false).mono hs_55.rd (sub_trans hs_57.sub (sub_trans hs_59.sub (sub_trans hs_61.sub (sub_trans h_65.sub s_66))))) ((dbT false).mono h_15.rd (sub_trans hs_55.sub (sub_trans hs_57.sub (sub_trans hs_59.sub (sub_trans hs_61.sub (sub_trans h_65.sub s_66)))))) hR0 ?_
  try simp [stz_eq, putCells, fillZ, ca_1, ca_2, c_7, c_12, c_17, c_22, c_27, c_32, c_37, c_42]
  obtain ⟨_, hs_67, hs_68⟩ := Dp.swap hs_55 hs_57
  obtain ⟨_, hs_69, hs_70⟩ := Dp.swap hs_68 hs_59
  obtain ⟨_, hs_71, hs_72⟩ := Dp.swap hs_70 hs_61
  obtain ⟨_, hs_73, hs_74⟩ := Dp.swap hs_72 h_65
  refine C_mark_Db hs_74 s_66 hR0 (by omega) fun H_75 Ho_76 h_77 s_78 => ?_
  try simp [stz_eq, putCells, fillZ, ca_1, ca_2, c_7, c_12, c_17, c_22, c_27, c_32, c_37, c_42]
  refine C_held_Db ((dbT false).mono h_77.rd s_78) hR0 (by omega) ?_
  try simp [stz_eq, putCells, fillZ, ca_1, ca_2, c_7, c_12, c_17, c_22, c_27, c_32, c_37, c_42]
  refine ⟨fun hh => absurd hh (by omega), fun _ => ?_⟩
  have r_79 := ((dbT false).mono h_15.rd (sub_trans hs_67.sub (sub_trans hs_69.sub (sub_trans hs_71.sub (sub_trans hs_73.sub (sub_trans h_77.sub s_78))))))
  have r_80 := ((dbT false).mono h_77.rd s_78)
  have b_81 := ((dbT true).mono hv0 (sub_trans h_5.sub (sub_trans h_10.sub (sub_trans h_15.sub (sub_trans hs_67.sub (sub_trans hs_69.sub (sub_trans hs_71.sub (sub_trans hs_73.sub (sub_trans h_77.sub s_78)))))))))
  have b_82 := ((dbT true).mono hv1 (sub_trans h_5.sub (sub_trans h_10.sub (sub_trans h_15.sub (sub_trans hs_67.sub (sub_trans hs_69.sub (sub_trans hs_71.sub (sub_trans hs_73.sub (sub_trans h_77.sub s_78)))))))))
  refine ⟨_, Abs.sub_refl _, ?_⟩
  try simp [stz_eq, putCells, fillZ, ca_1, ca_2, c_7, c_12, c_17, c_22, c_27, c_32, c_37, c_42]
  refine C_to_Db (b := true) ((dbT true).mono b_81 (Abs.sub_refl _)) hb0 fun u_83 H_84 h_85 => ⟨h_85.sub, ?_⟩
  have c_87 := dpS_cell h_85
  try simp [stz_eq, putCells, fillZ, ca_1, ca_2, c_7, c_12, c_17, c_22, c_27, c_32, c_37, c_42, c_87]
  refine C_to_Db (b := true) ((dbT true).mono b_82 h_85.sub) hb1 fun u_88 H_89 h_90 => ⟨(sub_trans h_85.sub h_90.sub), ?_⟩
  have c_92 := dpS_cell h_90
  try simp [stz_eq, putCells, fillZ, ca_1, ca_2, c_7, c_12, c_17, c_22, c_27, c_32, c_37, c_42, c_87, c_92]
  refine C_i_Merge (c := false) ((dbT false).mono h_85.rd h_90.sub) hb0 ((dbT false).mono h_90.rd (Abs.sub_refl _)) hb1 fun w_93 H_94 h_95 => ⟨(sub_trans h_85.sub (sub_trans h_90.sub h_95.sub)), ?_⟩
  have c_97 := dpS_cell h_95
  try simp [stz_eq, putCells, fillZ, ca_1, ca_2, c_7, c_12, c_17, c_22, c_27, c_32, c_37, c_42, c_87, c_92, c_97]
  refine C_eq_Db ((dbT false).mono h_95.rd (Abs.sub_refl _)) ((dbT false).mono r_79 (sub_trans h_85.sub (sub_trans h_90.sub h_95.sub))) hR0 ?_
  try simp [stz_eq, putCells, fillZ, ca_1, ca_2, c_7, c_12, c_17, c_22, c_27, c_32, c_37, c_42, c_87, c_92, c_97]
  refine C_held_Db ((dbT false).mono r_80 (sub_trans h_85.sub (sub_trans h_90.sub h_95.sub))) hR0 (by omega) ?_
  try simp [stz_eq, putCells, fillZ, ca_1, ca_2, c_7, c_12, c_17, c_22, c_27, c_32, c_37, c_42, c_87, c_92, c_97]
  exact ⟨fun hh => absurd hh (by omega), fun _ => Ret.of (h _)⟩
end Go.Proofs.Ytgiogphdnpeddaa
