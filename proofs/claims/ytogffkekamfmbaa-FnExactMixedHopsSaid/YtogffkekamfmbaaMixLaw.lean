/-
The law FnExactMixedHops.
-/
import Derived.Test.YtogffkekamfmbaaMixed
import Derived.Test.YtogffkekamfmbaaHeldLaw
set_option linter.all false
namespace Go.Proofs.Ytogffkekamfmbaa
open Go Go.Abs Go.Proofs

set_option maxHeartbeats 1000000 in
theorem C_l_FnExactMixedHops {n0 : Int} {v0 : V} {es0 : List TEdge} {n1 : Int} {v1 : V} {es1 : List TEdge} {v2 : V} {ds2 : List Int} {x3 : Int} {H : Heap} {K : V → Heap → Prop} (hv0 : Rd H 3 v0 (es0.map enEdge)) (hv1 : Rd H 3 v1 (es1.map enEdge)) (hv2 : Rd H 1 v2 (ds2.map ri)) (hl0 : es0.length ≤ 9223372036854775807) (hl1 : es1.length ≤ 9223372036854775807) (hl2 : ds2.length ≤ 9223372036854775807) (h : ∀ H', K (.bool true) H') : ACalls P n_l_FnExactMixedHops [vG n0 v0, vG n1 v1, v2, .int .i64 x3] H K := by
  have hc0 := hv0.cell
  have hc1 := hv1.cell
  apply W_l_FnExactMixedHops
  unfold F_l_FnExactMixedHops
  simp [hc0, hc1, hv2.len]
  refine ⟨fun _ => Ret.of (h _), fun hsds2 => ?_⟩
  refine C_l_szGraph hv0 ?_
  rw [i64_in (by omega) (by omega)]
  generalize hq0 : (if _ < (0 : Int) then (-1 : Int) else _) = q0
  simp
  refine ⟨fun _ => Ret.of (h _), fun hp0 => ?_⟩
  have hb0 : es0.length ≤ 1048576 ∧ q0 ≤ 1048576 := by split at hq0 <;> omega
  refine C_l_szGraph hv1 ?_
  generalize hq1 : (if _ < (0 : Int) then (-1 : Int) else _) = q1
  simp
  refine ⟨fun _ => Ret.of (h _), fun hp1 => ?_⟩
  have hb1 : es1.length ≤ 1048576 ∧ q1 ≤ 1048576 := by rw [i64_in (by omega) (by omega)] at hq1; split at hq1 <;> omega
  have hr : (mixedH n0 n1 es0 es1 ds2 x3).length ≤ 1000 := Nat.le_trans (mixedH_len _ _) (by omega)
  refine ⟨_, Abs.sub_refl _, ?_⟩
  refine C_l_toGraph hv0 (by omega) fun u_1 H_2 h_3 => ?_
  refine ⟨h_3.sub, ?_⟩
  refine C_l_toGraph (hv1.mono h_3.sub) (by omega) fun u_4 H_5 h_6 => ?_
  refine ⟨(sub_trans h_3.sub h_6.sub), ?_⟩
  refine C_l_toIntS (hv2.mono (sub_trans h_3.sub h_6.sub)) (by omega) fun o_10 ho_11 => ?_
  have h_9 := Held.full (sz := 1) (rows := ds2.map ri) (n := ds2.length) ho_11 (by simp)
  refine ⟨(sub_trans h_3.sub (sub_trans h_6.sub h_9.sub)), ?_⟩
  refine C_s_MixedHops ((h_3.rd enEdge_len).mono (sub_trans h_6.sub h_9.sub)) ((h_6.rd enEdge_len).mono h_9.sub) ((h_9.rd ri_len).mono (Abs.sub_refl _)) fun w_12 H_13 h_14 => ?_
  refine ⟨(sub_trans h_3.sub (sub_trans h_6.sub (sub_trans h_9.sub h_14.sub))), ?_⟩
  refine C_l_toGraph (hv0.mono (sub_trans h_3.sub (sub_trans h_6.sub (sub_trans h_9.sub h_14.sub)))) (by omega) fun u_15 H_16 h_17 => ?_
  have hc_18 := h_17.cell
  simp [stz_eq, putCells, hc_18]
  refine C_l_toGraph (hv1.mono (sub_trans h_3.sub (sub_trans h_6.sub (sub_trans h_9.sub (sub_trans h_14.sub h_17.sub))))) (by omega) fun u_19 H_20 h_21 => ?_
  have hc_22 := h_21.cell
  simp [stz_eq, putCells, hc_22]
  refine C_l_toIntS (hv2.mono (sub_trans h_3.sub (sub_trans h_6.sub (sub_trans h_9.sub (sub_trans h_14.sub (sub_trans h_17.sub h_21.sub)))))) (by omega) fun o_26 ho_27 => ?_
  have h_25 := Held.full (sz := 1) (rows := ds2.map ri) (n := ds2.length) ho_27 (by simp)
  refine C_i_MixedHops ((h_17.rd enEdge_len).mono (sub_trans h_21.sub h_25.sub)) ((h_21.rd enEdge_len).mono h_25.sub) ((h_25.rd ri_len).mono (Abs.sub_refl _)) fun w_28 H_29 h_30 => ?_
  refine C_l_eqIntS ((h_30.rd ri_len).mono (Abs.sub_refl _)) ((h_14.rd ri_len).mono (sub_trans h_17.sub (sub_trans h_21.sub (sub_trans h_25.sub h_30.sub)))) (by omega) ?_
  simp
  refine ⟨_, Abs.sub_refl _, ?_⟩
  refine C_l_toGraph (hv0.mono (sub_trans h_3.sub (sub_trans h_6.sub (sub_trans h_9.sub (sub_trans h_14.sub (sub_trans h_17.sub (sub_trans h_21.sub (sub_trans h_25.sub h_30.sub)))))))) (by omega) fun u_31 H_32 h_33 => ?_
  refine ⟨h_33.sub, ?_⟩
  refine C_l_eqGraph ((h_17.rd enEdge_len).mono (sub_trans h_21.sub (sub_trans h_25.sub (sub_trans h_30.sub h_33.sub)))) ((h_33.rd enEdge_len).mono (Abs.sub_refl _)) (by omega) ?_
  refine ⟨h_33.sub, ?_⟩
  simp
  refine ⟨_, Abs.sub_refl _, ?_⟩
  refine C_l_toGraph (hv1.mono (sub_trans h_3.sub (sub_trans h_6.sub (sub_trans h_9.sub (sub_trans h_14.sub (sub_trans h_17.sub (sub_trans h_21.sub (sub_trans h_25.sub (sub_trans h_30.sub h_33.sub))))))))) (by omega) fun u_34 H_35 h_36 => ?_
  refine ⟨h_36.sub, ?_⟩
  refine C_l_eqGraph ((h_21.rd enEdge_len).mono (sub_trans h_25.sub (sub_trans h_30.sub (sub_trans h_33.sub h_36.sub)))) ((h_36.rd enEdge_len).mono (Abs.sub_refl _)) (by omega) ?_
  refine ⟨h_36.sub, ?_⟩
  simp
  refine C_l_toIntS (hv2.mono (sub_trans h_3.sub (sub_trans h_6.sub (sub_trans h_9.sub (sub_trans h_14.sub (sub_trans h_17.sub (sub_trans h_21.sub (sub_trans h_25.sub (sub_trans h_30.sub (sub_trans h_33.sub h_36.sub)))))))))) (by omega) fun o_40 ho_41 => ?_
  have h_39 := Held.full (sz := 1) (rows := ds2.map ri) (n := ds2.length) ho_41 (by simp)
  refine C_l_eqIntS ((h_25.rd ri_len).mono (sub_trans h_30.sub (sub_trans h_33.sub (sub_trans h_36.sub h_39.sub)))) ((h_39.rd ri_len).mono (Abs.sub_refl _)) (by omega) ?_
  simp
  obtain ⟨Hs_42, hs_43, hs_44⟩ := h_17.swap h_21
  obtain ⟨Hs_45, hs_46, hs_47⟩ := hs_44.swap h_25
  obtain ⟨Hs_48, hs_49, hs_50⟩ := hs_47.swap h_30
  obtain ⟨Hs_51, hs_52, hs_53⟩ := hs_50.swap h_33
  obtain ⟨Hs_54, hs_55, hs_56⟩ := hs_53.swap h_36
  obtain ⟨Hs_57, hs_58, hs_59⟩ := hs_56.swap h_39
  refine C_l_markGraph hs_59 (Abs.sub_refl _) enEdge_len (by omega) (by simp; omega) fun H_60 Ho_61 h_62 s_63 => ?_
  simp at h_62 ⊢
  obtain ⟨Hs_64, hs_65, hs_66⟩ := hs_43.swap hs_46
  obtain ⟨Hs_67, hs_68, hs_69⟩ := hs_66.swap hs_49
  obtain ⟨Hs_70, hs_71, hs_72⟩ := hs_69.swap hs_52
  obtain ⟨Hs_73, hs_74, hs_75⟩ := hs_72.swap hs_55
  obtain ⟨Hs_76, hs_77, hs_78⟩ := hs_75.swap hs_58
  obtain ⟨Hs_79, hs_80, hs_81⟩ := hs_78.swap h_62
  refine C_l_markGraph hs_81 s_63 enEdge_len (by omega) (by simp; omega) fun H_82 Ho_83 h_84 s_85 => ?_
  simp at h_84 ⊢
  obtain ⟨Hs_86, hs_87, hs_88⟩ := hs_65.swap hs_68
  obtain ⟨Hs_89, hs_90, hs_91⟩ := hs_88.swap hs_71
  obtain ⟨Hs_92, hs_93, hs_94⟩ := hs_91.swap hs_74
  obtain ⟨Hs_95, hs_96, hs_97⟩ := hs_94.swap hs_77
  obtain ⟨Hs_98, hs_99, hs_100⟩ := hs_97.swap hs_80
  obtain ⟨Hs_101, hs_102, hs_103⟩ := hs_100.swap h_84
  refine C_markHeld hs_103 s_85 ri_len (by omega) (by simp; omega) fun H_104 Ho_105 h_106 s_107 => ?_
  simp at h_106 ⊢
  refine ⟨fun hh => absurd hh (by omega), fun _ => ?_⟩
  refine C_l_eqIntS ((hs_87.rd ri_len).mono (sub_trans hs_90.sub (sub_trans hs_93.sub (sub_trans hs_96.sub (sub_trans hs_99.sub (sub_trans hs_102.sub (sub_trans h_106.sub s_107))))))) ((h_14.rd ri_len).mono (sub_trans hs_87.sub (sub_trans hs_90.sub (sub_trans hs_93.sub (sub_trans hs_96.sub (sub_trans hs_99.sub (sub_trans hs_102.sub (sub_trans h_106.sub s_107)))))))) (by omega) ?_
  simp
  obtain ⟨Hs_108, hs_109, hs_110⟩ := hs_87.swap hs_90
  obtain ⟨Hs_111, hs_112, hs_113⟩ := hs_110.swap hs_93
  obtain ⟨Hs_114, hs_115, hs_116⟩ := hs_113.swap hs_96
  obtain ⟨Hs_117, hs_118, hs_119⟩ := hs_116.swap hs_99
  obtain ⟨Hs_120, hs_121, hs_122⟩ := hs_119.swap hs_102
  obtain ⟨Hs_123, hs_124, hs_125⟩ := hs_122.swap h_106
  refine C_markHeld hs_125 s_107 ri_len (by omega) (by simp; omega) fun H_126 Ho_127 h_128 s_129 => ?_
  simp at h_128 ⊢
  have r_130 := ((h_128.rd marks_row).mono s_129)
  have r_131 := ((h_14.rd ri_len).mono (sub_trans hs_109.sub (sub_trans hs_112.sub (sub_trans hs_115.sub (sub_trans hs_118.sub (sub_trans hs_121.sub (sub_trans hs_124.sub (sub_trans h_128.sub s_129))))))))
  have b_132 := hv0.mono (sub_trans h_3.sub (sub_trans h_6.sub (sub_trans h_9.sub (sub_trans h_14.sub (sub_trans hs_109.sub (sub_trans hs_112.sub (sub_trans hs_115.sub (sub_trans hs_118.sub (sub_trans hs_121.sub (sub_trans hs_124.sub (sub_trans h_128.sub s_129)))))))))))
  have b_133 := hv1.mono (sub_trans h_3.sub (sub_trans h_6.sub (sub_trans h_9.sub (sub_trans h_14.sub (sub_trans hs_109.sub (sub_trans hs_112.sub (sub_trans hs_115.sub (sub_trans hs_118.sub (sub_trans hs_121.sub (sub_trans hs_124.sub (sub_trans h_128.sub s_129)))))))))))
  have b_134 := hv2.mono (sub_trans h_3.sub (sub_trans h_6.sub (sub_trans h_9.sub (sub_trans h_14.sub (sub_trans hs_109.sub (sub_trans hs_112.sub (sub_trans hs_115.sub (sub_trans hs_118.sub (sub_trans hs_121.sub (sub_trans hs_124.sub (sub_trans h_128.sub s_129)))))))))))
  refine C_l_heldIntS r_130 (by omega) (by omega) ?_
  simp
  refine ⟨fun hh => absurd hh (by omega), fun _ => ?_⟩
  refine ⟨_, Abs.sub_refl _, ?_⟩
  refine C_l_toGraph b_132 (by omega) fun u_135 H_136 h_137 => ?_
  refine ⟨h_137.sub, ?_⟩
  refine C_l_toGraph (b_133.mono h_137.sub) (by omega) fun u_138 H_139 h_140 => ?_
  refine ⟨(sub_trans h_137.sub h_140.sub), ?_⟩
  refine C_l_toIntS (b_134.mono (sub_trans h_137.sub h_140.sub)) (by omega) fun o_144 ho_145 => ?_
  have h_143 := Held.full (sz := 1) (rows := ds2.map ri) (n := ds2.length) ho_145 (by simp)
  refine ⟨(sub_trans h_137.sub (sub_trans h_140.sub h_143.sub)), ?_⟩
  refine C_i_MixedHops ((h_137.rd enEdge_len).mono (sub_trans h_140.sub h_143.sub)) ((h_140.rd enEdge_len).mono h_143.sub) ((h_143.rd ri_len).mono (Abs.sub_refl _)) fun w_146 H_147 h_148 => ?_
  refine ⟨(sub_trans h_137.sub (sub_trans h_140.sub (sub_trans h_143.sub h_148.sub))), ?_⟩
  refine C_l_eqIntS ((h_148.rd ri_len).mono (Abs.sub_refl _)) (r_131.mono (sub_trans h_137.sub (sub_trans h_140.sub (sub_trans h_143.sub h_148.sub)))) (by omega) ?_
  simp
  refine C_l_heldIntS (r_130.mono (sub_trans h_137.sub (sub_trans h_140.sub (sub_trans h_143.sub h_148.sub)))) (by omega) (by omega) ?_
  simp
  exact ⟨fun hh => absurd hh (by omega), fun _ => Ret.of (h _)⟩
end Go.Proofs.Ytogffkekamfmbaa
