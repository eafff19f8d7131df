/-
The law FnExactAgeDb.
-/
import Derived.Test.YtcmpkkcbdmllpacKindA
import Derived.Test.YtcmpkkcbdmllpacAgeF
set_option linter.all false
namespace Go.Proofs.Ytcmpkkcbdmllpac
open Go Go.Abs Go.Proofs

set_option maxHeartbeats 2000000 in
theorem C_l_FnExactAgeDb {a0 : List TLsa} {v0 : V} {x1 : Int} {H : Heap} {K : V → Heap → Prop} (hv0 : (dbT true).rd H a0 [v0]) (hl0 : a0.length ≤ 9223372036854775807) (hm0 : ∀ x ∈ a0, x.links.length ≤ 9223372036854775807 ∧ x.stubs.length ≤ 9223372036854775807) (h : ∀ H', K (.bool true) H') : ACalls P n_l_FnExactAgeDb [.agg [v0], .int .i64 x1] H K := by
  have ca_1 := rdS_cell hv0
  apply W_l_FnExactAgeDb
  unfold F_l_FnExactAgeDb
  try simp [stz_eq, putCells, fillZ, ca_1]
  refine C_l_szDb hv0 (by omega) (by omega) hl0 hm0 fun q0 hq0 => ?_
  simp
  refine ⟨fun _ => Ret.of (h _), fun hp0 => ?_⟩
  have hq0 := hq0 hp0
  have hb0 : bDb a0 := by unfold bDb; omega
  have hR0 : bDb (ageR a0 x1).1 := (ageR_sz hb0).1
  have hR1 : bIntS (ageR a0 x1).2 := (ageR_sz hb0).2
  refine C_to_Db (b := true) ((dbT true).mono hv0 (Abs.sub_refl _)) hb0 fun u_2 H_3 h_4 => ?_
  have c_6 := dpS_cell h_4
  try simp [stz_eq, putCells, fillZ, ca_1, c_6]
  refine C_s_AgeDb (c := false) ((dbT false).mono h_4.rd (Abs.sub_refl _)) hb0 fun w_7 H_8 h_9 w_10 H_11 h_12 => ?_
  have c_14 := dpS_cell h_9
  have c_16 := dpS_cell h_12
  try simp [stz_eq, putCells, fillZ, ca_1, c_6, c_14, c_16]
  refine C_to_Db (b := true) ((dbT true).mono hv0 (sub_trans h_4.sub (sub_trans h_9.sub h_12.sub))) hb0 fun u_17 H_18 h_19 => ?_
  have c_21 := dpS_cell h_19
  try simp [stz_eq, putCells, fillZ, ca_1, c_6, c_14, c_16, c_21]
  refine C_i_AgeDb (c := false) ((dbT false).mono h_19.rd (Abs.sub_refl _)) hb0 fun w_22 H_23 h_24 w_25 H_26 h_27 => ?_
  have c_29 := dpS_cell h_24
  have c_31 := dpS_cell h_27
  try simp [stz_eq, putCells, fillZ, ca_1, c_6, c_14, c_16, c_21, c_29, c_31]
  refine C_eq_Db ((dbT false).mono h_24.rd h_27.sub) ((dbT false).mono h_9.rd (sub_trans h_12.sub (sub_trans h_19.sub (sub_trans h_24.sub h_27.sub)))) hR0 ?_
  try simp [stz_eq, putCells, fillZ, ca_1, c_6, c_14, c_16, c_21, c_29, c_31]
  refine C_eq_IntS ((intsT false).mono h_27.rd (Abs.sub_refl _)) ((intsT false).mono h_12.rd (sub_trans h_19.sub (sub_trans h_24.sub h_27.sub))) hR1 ?_
  try simp [stz_eq, putCells, fillZ, ca_1, c_6, c_14, c_16, c_21, c_29, c_31]
  refine ⟨_, Abs.sub_refl _, ?_⟩
  refine C_to_Db (b := true) ((dbT true).mono hv0 (sub_trans h_4.sub (sub_trans h_9.sub (sub_trans h_12.sub (sub_trans h_19.sub (sub_trans h_24.sub h_27.sub)))))) hb0 fun u_32 H_33 h_34 => ⟨h_34.sub, ?_⟩
  have c_36 := dpS_cell h_34
  try simp [stz_eq, putCells, fillZ, ca_1, c_6, c_14, c_16, c_21, c_29, c_31, c_36]
  refine C_eq_Db ((dbT false).mono h_19.rd (sub_trans h_24.sub (sub_trans h_27.sub h_34.sub))) ((dbT false).mono h_34.rd (Abs.sub_refl _)) hb0 ⟨h_34.sub, ?_⟩
  try simp [stz_eq, putCells, fillZ, ca_1, c_6, c_14, c_16, c_21, c_29, c_31, c_36]
  have z0 := sB_Db hb0
  have zR0 := sB_Db hR0
  have zR1 := sB_IntS hR1
  obtain ⟨_, hs_37, hs_38⟩ := Dp.swap h_19 h_24
  obtain ⟨_, hs_39, hs_40⟩ := Dp.swap hs_38 h_27
  obtain ⟨_, hs_41, hs_42⟩ := Dp.swap hs_40 h_34
  refine C_mark_Db hs_42 (Abs.sub_refl _) hb0 (by omega) fun H_43 Ho_44 h_45 s_46 => ?_
  try simp [stz_eq, putCells, fillZ, ca_1, c_6, c_14, c_16, c_21, c_29, c_31, c_36]
  refine ⟨fun hh => absurd hh (by omega), fun _ => ?_⟩
  refine C_eq_Db ((dbT false).mono hs_37.rd (sub_trans hs_39.sub (sub_trans hs_41.sub (sub_trans h_45.sub s_46)))) ((dbT false).mono h_9.rd (sub_trans h_12.sub (sub_trans hs_37.sub (sub_trans hs_39.sub (sub_trans hs_41.sub (sub_trans h_45.sub s_46)))))) hR0 ?_
  try simp [stz_eq, putCells, fillZ, ca_1, c_6, c_14, c_16, c_21, c_29, c_31, c_36]
  refine C_eq_IntS ((intsT false).mono hs_39.rd (sub_trans hs_41.sub (sub_trans h_45.sub s_46))) ((intsT false).mono h_12.rd (sub_trans hs_37.sub (sub_trans hs_39.sub (sub_trans hs_41.sub (sub_trans h_45.sub s_46))))) hR1 ?_
  try simp [stz_eq, putCells, fillZ, ca_1, c_6, c_14, c_16, c_21, c_29, c_31, c_36]
  obtain ⟨_, hs_47, hs_48⟩ := Dp.swap hs_37 hs_39
  obtain ⟨_, hs_49, hs_50⟩ := Dp.swap hs_48 hs_41
  obtain ⟨_, hs_51, hs_52⟩ := Dp.swap hs_50 h_45
  refine C_mark_Db hs_52 s_46 hR0 (by omega) fun H_53 Ho_54 h_55 s_56 => ?_
  try simp [stz_eq, putCells, fillZ, ca_1, c_6, c_14, c_16, c_21, c_29, c_31, c_36]
  obtain ⟨_, hs_57, hs_58⟩ := Dp.swap hs_47 hs_49
  obtain ⟨_, hs_59, hs_60⟩ := Dp.swap hs_58 hs_51
  obtain ⟨_, hs_61, hs_62⟩ := Dp.swap hs_60 h_55
  refine C_mark_IntS hs_62 s_56 hR1 (by omega) fun H_63 Ho_64 h_65 s_66 => ?_
  try simp [stz_eq, putCells, fillZ, ca_1, c_6, c_14, c_16, c_21, c_29, c_31, c_36]
  refine C_held_Db ((dbT false).mono hs_61.rd (sub_trans h_65.sub s_66)) hR0 (by omega) ?_
  try simp [stz_eq, putCells, fillZ, ca_1, c_6, c_14, c_16, c_21, c_29, c_31, c_36]
  refine ⟨fun hh => absurd hh (by omega), fun _ => ?_⟩
  refine C_held_IntS ((intsT false).mono h_65.rd s_66) hR1 (by omega) ?_
  try simp [stz_eq, putCells, fillZ, ca_1, c_6, c_14, c_16, c_21, c_29, c_31, c_36]
  refine ⟨fun hh => absurd hh (by omega), fun _ => ?_⟩
  have r_67 := ((dbT false).mono h_9.rd (sub_trans h_12.sub (sub_trans hs_57.sub (sub_trans hs_59.sub (sub_trans hs_61.sub (sub_trans h_65.sub s_66))))))
  have r_68 := ((intsT false).mono h_12.rd (sub_trans hs_57.sub (sub_trans hs_59.sub (sub_trans hs_61.sub (sub_trans h_65.sub s_66)))))
  have r_69 := ((dbT false).mono hs_61.rd (sub_trans h_65.sub s_66))
  have r_70 := ((intsT false).mono h_65.rd s_66)
  have b_71 := ((dbT true).mono hv0 (sub_trans h_4.sub (sub_trans h_9.sub (sub_trans h_12.sub (sub_trans hs_57.sub (sub_trans hs_59.sub (sub_trans hs_61.sub (sub_trans h_65.sub s_66))))))))
  refine C_to_Db (b := true) ((dbT true).mono b_71 (Abs.sub_refl _)) hb0 fun u_72 H_73 h_74 => ?_
  have c_76 := dpS_cell h_74
  try simp [stz_eq, putCells, fillZ, ca_1, c_6, c_14, c_16, c_21, c_29, c_31, c_36, c_76]
  refine C_i_AgeDb (c := false) ((dbT false).mono h_74.rd (Abs.sub_refl _)) hb0 fun w_77 H_78 h_79 w_80 H_81 h_82 => ?_
  have c_84 := dpS_cell h_79
  have c_86 := dpS_cell h_82
  try simp [stz_eq, putCells, fillZ, ca_1, c_6, c_14, c_16, c_21, c_29, c_31, c_36, c_76, c_84, c_86]
  refine C_eq_Db ((dbT false).mono h_79.rd h_82.sub) ((dbT false).mono r_67 (sub_trans h_74.sub (sub_trans h_79.sub h_82.sub))) hR0 ?_
  try simp [stz_eq, putCells, fillZ, ca_1, c_6, c_14, c_16, c_21, c_29, c_31, c_36, c_76, c_84, c_86]
  refine C_eq_IntS ((intsT false).mono h_82.rd (Abs.sub_refl _)) ((intsT false).mono r_68 (sub_trans h_74.sub (sub_trans h_79.sub h_82.sub))) hR1 ?_
  try simp [stz_eq, putCells, fillZ, ca_1, c_6, c_14, c_16, c_21, c_29, c_31, c_36, c_76, c_84, c_86]
  refine C_held_Db ((dbT false).mono r_69 (sub_trans h_74.sub (sub_trans h_79.sub h_82.sub))) hR0 (by omega) ?_
  try simp [stz_eq, putCells, fillZ, ca_1, c_6, c_14, c_16, c_21, c_29, c_31, c_36, c_76, c_84, c_86]
  refine ⟨fun hh => absurd hh (by omega), fun _ => ?_⟩
  refine C_held_IntS ((intsT false).mono r_70 (sub_trans h_74.sub (sub_trans h_79.sub h_82.sub))) hR1 (by omega) ?_
  try simp [stz_eq, putCells, fillZ, ca_1, c_6, c_14, c_16, c_21, c_29, c_31, c_36, c_76, c_84, c_86]
  exact ⟨fun hh => absurd hh (by omega), fun _ => Ret.of (h _)⟩
end Go.Proofs.Ytcmpkkcbdmllpac
