/-
The law FnExactLoopsAt.
-/
import Derived.Test.YtcmpkkcbdmllpaaTabX
set_option linter.all false
namespace Go.Proofs.Ytcmpkkcbdmllpaa
open Go Go.Abs Go.Proofs

set_option maxHeartbeats 1000000 in
theorem C_l_FnExactLoopsAt {v0 : V} {ts0 : List (List TRoute)} {x1 : Int} {H : Heap} {K : V → Heap → Prop} (hv0 : Tabs H v0 ts0) (hl0 : ts0.length ≤ 9223372036854775807) (hm0 : ∀ t ∈ ts0, t.length ≤ 9223372036854775807) (h : ∀ H', K (.bool true) H') : ACalls P n_l_FnExactLoopsAt [v0, .int .i64 x1] H K := by
  apply W_l_FnExactLoopsAt
  unfold F_l_FnExactLoopsAt
  refine C_l_szTableS hv0 hl0 hm0 fun q0 hq0 => ?_
  simp
  refine ⟨fun _ => Ret.of (h _), fun hp0 => ?_⟩
  have hb0 := hq0 hp0
  have hr : (nodesW ts0 x1 16 2).length ≤ 1000 := Nat.le_trans (nodesW_len _ _ _) (by omega)
  refine C_l_toTableS hv0 hb0 fun u_1 H_2 h_3 => ?_
  refine C_s_LoopsAt (h_3.rd.mono (Abs.sub_refl _)) hb0 fun w_4 H_5 h_6 => ?_
  refine C_l_toTableS (hv0.mono (sub_trans h_3.sub h_6.sub)) hb0 fun u_7 H_8 h_9 => ?_
  refine C_i_LoopsAt (h_9.rd.mono (Abs.sub_refl _)) hb0 fun w_10 H_11 h_12 => ?_
  refine C_l_eqIntS ((h_12.rd ri_len).mono (Abs.sub_refl _)) ((h_6.rd ri_len).mono (sub_trans h_9.sub h_12.sub)) (by omega) ?_
  simp
  refine C_l_toTableS (hv0.mono (sub_trans h_3.sub (sub_trans h_6.sub (sub_trans h_9.sub h_12.sub)))) hb0 fun u_13 H_14 h_15 => ?_
  refine C_l_eqTableS (h_9.rd.mono (sub_trans h_12.sub h_15.sub)) (h_15.rd.mono (Abs.sub_refl _)) hb0 ?_
  simp
  obtain ⟨Hs_16, hs_17, hs_18⟩ := TabC.under h_9 h_12
  obtain ⟨Hs_19, hs_20, hs_21⟩ := TabC.swap hs_18 h_15
  refine C_l_markTableS hs_21 (Abs.sub_refl _) hb0 fun k_26 ts_27 H_22 Ho_23 hk_28 h_24 s_25 => ?_
  simp
  refine ⟨fun hh => absurd hh (by omega), fun _ => ?_⟩
  refine C_l_eqIntS ((hs_17.rd ri_len).mono (sub_trans hs_20.sub (sub_trans h_24.sub s_25))) ((h_6.rd ri_len).mono (sub_trans hs_17.sub (sub_trans hs_20.sub (sub_trans h_24.sub s_25)))) (by omega) ?_
  simp
  obtain ⟨Hs_29, hs_30, hs_31⟩ := TabC.over hs_17 hs_20
  obtain ⟨Hs_32, hs_33, hs_34⟩ := TabC.over hs_31 h_24
  refine C_markHeld hs_34 s_25 ri_len (by omega) (by simp; omega) fun H_35 Ho_36 h_37 s_38 => ?_
  simp at h_37 ⊢
  have r_39 := ((h_37.rd marks_row).mono s_38)
  have r_40 := ((h_6.rd ri_len).mono (sub_trans hs_30.sub (sub_trans hs_33.sub (sub_trans h_37.sub s_38))))
  have b_41 := hv0.mono (sub_trans h_3.sub (sub_trans h_6.sub (sub_trans hs_30.sub (sub_trans hs_33.sub (sub_trans h_37.sub s_38)))))
  refine C_l_heldIntS r_39 (by omega) (by omega) ?_
  simp
  refine ⟨fun hh => absurd hh (by omega), fun _ => ?_⟩
  refine C_l_toTableS b_41 hb0 fun u_42 H_43 h_44 => ?_
  refine C_i_LoopsAt (h_44.rd.mono (Abs.sub_refl _)) hb0 fun w_45 H_46 h_47 => ?_
  refine C_l_eqIntS ((h_47.rd ri_len).mono (Abs.sub_refl _)) (r_40.mono (sub_trans h_44.sub h_47.sub)) (by omega) ?_
  simp
  refine C_l_heldIntS (r_39.mono (sub_trans h_44.sub h_47.sub)) (by omega) (by omega) ?_
  simp
  exact ⟨fun hh => absurd hh (by omega), fun _ => Ret.of (h _)⟩
end Go.Proofs.Ytcmpkkcbdmllpaa
