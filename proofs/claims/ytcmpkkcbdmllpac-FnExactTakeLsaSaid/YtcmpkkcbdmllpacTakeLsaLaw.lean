/-
The law FnExactTakeLsa.
-/
import Derived.Test.YtcmpkkcbdmllpacKindA
import Derived.Test.YtcmpkkcbdmllpacTakeJ
set_option linter.all false
namespace Go.Proofs.Ytcmpkkcbdmllpac
open Go Go.Abs Go.Proofs

set_option maxHeartbeats 2000000 in
theorem C_l_FnExactTakeLsa {a0 : List Int} {v0 : V} {H : Heap} {K : V → Heap → Prop} (hv0 : (bytesT true).rd H a0 [v0]) (hl0 : a0.length ≤ 9223372036854775807) (hi0 : ∀ c ∈ a0, isB c) (h : ∀ H', K (.bool true) H') : ACalls P n_l_FnExactTakeLsa [v0] H K := by
  have ca_1 := rdS_cell hv0
  apply W_l_FnExactTakeLsa
  unfold F_l_FnExactTakeLsa
  try simp [stz_eq, putCells, fillZ, ca_1]
  simp [rdS_len hv0]
  refine ⟨fun _ => Ret.of (h _), fun hp0 => ?_⟩
  have hb0 : bByteS a0 := by unfold bByteS; omega
  have hR0 : bLsa (takeR a0).1 := takeR_small a0
  refine C_to_ByteS (b := true) ((bytesT true).mono hv0 (Abs.sub_refl _)) hb0 fun u_2 H_3 h_4 => ?_
  have c_6 := dpS_cell h_4
  try simp [stz_eq, putCells, fillZ, ca_1, c_6]
  refine C_s_TakeLsa (c := false) (Sl.mono ((flat_dp.1 h_4).sl enB_len) (Abs.sub_refl _)) hb0 hi0 fun w_7 H_8 h_9 => ?_
  obtain ⟨lc_11, sc_11, _, rfl, dc_11, fc_11⟩ := lsa_dp h_9
  have c_11 := And.intro dc_11.cell fc_11.cell
  try simp [stz_eq, putCells, fillZ, ca_1, c_6, c_11]
  refine C_to_ByteS (b := true) ((bytesT true).mono hv0 (sub_trans h_4.sub h_9.sub)) hb0 fun u_12 H_13 h_14 => ?_
  have c_16 := dpS_cell h_14
  try simp [stz_eq, putCells, fillZ, ca_1, c_6, c_11, c_16]
  refine C_i_TakeLsa (c := false) (Sl.mono ((flat_dp.1 h_14).sl enB_len) (Abs.sub_refl _)) hb0 hi0 fun w_17 H_18 h_19 => ?_
  obtain ⟨lc_21, sc_21, _, rfl, dc_21, fc_21⟩ := lsa_dp h_19
  have c_21 := And.intro dc_21.cell fc_21.cell
  try simp [stz_eq, putCells, fillZ, ca_1, c_6, c_11, c_16, c_21]
  refine C_eq_Lsa ((lsaT false).mono h_19.rd (Abs.sub_refl _)) ((lsaT false).mono h_9.rd (sub_trans h_14.sub h_19.sub)) hR0 ?_
  try simp [stz_eq, putCells, fillZ, ca_1, c_6, c_11, c_16, c_21]
  refine C_to_ByteS (b := true) ((bytesT true).mono hv0 (sub_trans h_4.sub (sub_trans h_9.sub (sub_trans h_14.sub h_19.sub)))) hb0 fun u_22 H_23 h_24 => ?_
  have c_26 := dpS_cell h_24
  try simp [stz_eq, putCells, fillZ, ca_1, c_6, c_11, c_16, c_21, c_26]
  refine C_eq_ByteS ((bytesT false).mono h_14.rd (sub_trans h_19.sub h_24.sub)) ((bytesT false).mono h_24.rd (Abs.sub_refl _)) hb0 ?_
  try simp [stz_eq, putCells, fillZ, ca_1, c_6, c_11, c_16, c_21, c_26]
  have z0 := sB_ByteS hb0
  have zR0 := sB_Lsa hR0
  obtain ⟨_, hs_27, hs_28⟩ := Dp.swap h_14 h_19
  obtain ⟨_, hs_29, hs_30⟩ := Dp.swap hs_28 h_24
  refine C_mark_ByteS hs_30 (Abs.sub_refl _) hb0 (by omega) fun H_31 Ho_32 h_33 s_34 => ?_
  try simp [stz_eq, putCells, fillZ, ca_1, c_6, c_11, c_16, c_21, c_26]
  refine ⟨fun hh => absurd hh (by omega), fun _ => ?_⟩
  refine C_eq_Lsa ((lsaT false).mono hs_27.rd (sub_trans hs_29.sub (sub_trans h_33.sub s_34))) ((lsaT false).mono h_9.rd (sub_trans hs_27.sub (sub_trans hs_29.sub (sub_trans h_33.sub s_34)))) hR0 ?_
  try simp [stz_eq, putCells, fillZ, ca_1, c_6, c_11, c_16, c_21, c_26]
  obtain ⟨_, hs_35, hs_36⟩ := Dp.swap hs_27 hs_29
  obtain ⟨_, hs_37, hs_38⟩ := Dp.swap hs_36 h_33
  refine C_mark_Lsa hs_38 s_34 hR0 (by omega) fun H_39 Ho_40 h_41 s_42 => ?_
  try simp [stz_eq, putCells, fillZ, ca_1, c_6, c_11, c_16, c_21, c_26]
  refine C_held_Lsa ((lsaT false).mono h_41.rd s_42) hR0 (by omega) ?_
  try simp [stz_eq, putCells, fillZ, ca_1, c_6, c_11, c_16, c_21, c_26]
  refine ⟨fun hh => absurd hh (by omega), fun _ => ?_⟩
  have r_43 := ((lsaT false).mono h_9.rd (sub_trans hs_35.sub (sub_trans hs_37.sub (sub_trans h_41.sub s_42))))
  have r_44 := ((lsaT false).mono h_41.rd s_42)
  have b_45 := ((bytesT true).mono hv0 (sub_trans h_4.sub (sub_trans h_9.sub (sub_trans hs_35.sub (sub_trans hs_37.sub (sub_trans h_41.sub s_42))))))
  refine C_to_ByteS (b := true) ((bytesT true).mono b_45 (Abs.sub_refl _)) hb0 fun u_46 H_47 h_48 => ?_
  have c_50 := dpS_cell h_48
  try simp [stz_eq, putCells, fillZ, ca_1, c_6, c_11, c_16, c_21, c_26, c_50]
  refine C_i_TakeLsa (c := false) (Sl.mono ((flat_dp.1 h_48).sl enB_len) (Abs.sub_refl _)) hb0 hi0 fun w_51 H_52 h_53 => ?_
  obtain ⟨lc_55, sc_55, _, rfl, dc_55, fc_55⟩ := lsa_dp h_53
  have c_55 := And.intro dc_55.cell fc_55.cell
  try simp [stz_eq, putCells, fillZ, ca_1, c_6, c_11, c_16, c_21, c_26, c_50, c_55]
  refine C_eq_Lsa ((lsaT false).mono h_53.rd (Abs.sub_refl _)) ((lsaT false).mono r_43 (sub_trans h_48.sub h_53.sub)) hR0 ?_
  try simp [stz_eq, putCells, fillZ, ca_1, c_6, c_11, c_16, c_21, c_26, c_50, c_55]
  refine C_held_Lsa ((lsaT false).mono r_44 (sub_trans h_48.sub h_53.sub)) hR0 (by omega) ?_
  try simp [stz_eq, putCells, fillZ, ca_1, c_6, c_11, c_16, c_21, c_26, c_50, c_55]
  exact ⟨fun hh => absurd hh (by omega), fun _ => Ret.of (h _)⟩
end Go.Proofs.Ytcmpkkcbdmllpac
