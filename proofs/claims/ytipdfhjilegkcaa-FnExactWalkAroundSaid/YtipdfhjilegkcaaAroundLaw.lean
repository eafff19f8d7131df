/-
The law FnExactWalkAround.
-/
import Derived.Test.YtipdfhjilegkcaaStepW
import Derived.Test.YtipdfhjilegkcaaHeldLaw
set_option linter.all false
namespace Go.Proofs.Ytipdfhjilegkcaa
open Go Go.Abs Go.Proofs

set_option maxHeartbeats 1000000 in
theorem C_l_FnExactWalkAround {n0 : Int} {v0 : V} {es0 : List TEdge} {x1 : Int} {x2 : Int} {x3 : Int} {H : Heap} {K : V → Heap → Prop} (hv0 : Rd H 3 v0 (es0.map enEdge)) (hl0 : es0.length ≤ 9223372036854775807) (h : ∀ H', K (.bool true) H') : ACalls P n_l_FnExactWalkAround [vG n0 v0, .int .i64 x1, .int .i64 x2, .int .i64 x3] H K := by
  have hc0 := hv0.cell
  apply W_l_FnExactWalkAround
  unfold F_l_FnExactWalkAround
  simp [hc0]
  refine C_l_szGraph hv0 ?_
  rw [i64_in (by omega) (by omega)]
  generalize hq0 : (if _ < (0 : Int) then (-1 : Int) else _) = q0
  simp
  refine ⟨fun _ => Ret.of (h _), fun hp0 => ?_⟩
  have hb0 : es0.length ≤ 1048576 ∧ q0 ≤ 1048576 := by split at hq0 <;> omega
  have hr : (wAround n0 es0 x1 x2 x3).length ≤ 1000 := wAround_len _ _ _
  refine C_l_toGraph hv0 (by omega) fun u_1 H_2 h_3 => ?_
  refine C_s_WalkAround ((h_3.rd enEdge_len).mono (Abs.sub_refl _)) fun w_4 H_5 h_6 => ?_
  simp
  refine C_l_toGraph (hv0.mono (sub_trans h_3.sub h_6.sub)) (by omega) fun u_7 H_8 h_9 => ?_
  have hc_10 := h_9.cell
  simp [stz_eq, putCells, hc_10]
  refine C_i_WalkAround ((h_9.rd enEdge_len).mono (Abs.sub_refl _)) fun w_11 H_12 h_13 => ?_
  simp
  refine C_l_eqIntS ((h_13.rd ri_len).mono (Abs.sub_refl _)) ((h_6.rd ri_len).mono (sub_trans h_9.sub h_13.sub)) (by omega) ?_
  simp
  refine ⟨_, Abs.sub_refl _, ?_⟩
  refine C_l_toGraph (hv0.mono (sub_trans h_3.sub (sub_trans h_6.sub (sub_trans h_9.sub h_13.sub)))) (by omega) fun u_14 H_15 h_16 => ?_
  refine ⟨h_16.sub, ?_⟩
  refine C_l_eqGraph ((h_9.rd enEdge_len).mono (sub_trans h_13.sub h_16.sub)) ((h_16.rd enEdge_len).mono (Abs.sub_refl _)) (by omega) ?_
  refine ⟨h_16.sub, ?_⟩
  simp
  obtain ⟨Hs_17, hs_18, hs_19⟩ := Held.swap h_9 h_13
  obtain ⟨Hs_20, hs_21, hs_22⟩ := Held.swap hs_19 h_16
  refine C_l_markGraph hs_22 (Abs.sub_refl _) enEdge_len (by omega) (by simp; omega) fun H_23 Ho_24 h_25 s_26 => ?_
  simp at h_25 ⊢
  refine ⟨fun hh => absurd hh (by omega), fun _ => ?_⟩
  refine C_l_eqIntS ((hs_18.rd ri_len).mono (sub_trans hs_21.sub (sub_trans h_25.sub s_26))) ((h_6.rd ri_len).mono (sub_trans hs_18.sub (sub_trans hs_21.sub (sub_trans h_25.sub s_26)))) (by omega) ?_
  simp
  obtain ⟨Hs_27, hs_28, hs_29⟩ := Held.swap hs_18 hs_21
  obtain ⟨Hs_30, hs_31, hs_32⟩ := Held.swap hs_29 h_25
  refine C_markHeld hs_32 s_26 ri_len (by omega) (by simp; omega) fun H_33 Ho_34 h_35 s_36 => ?_
  simp at h_35 ⊢
  have r_37 := ((h_35.rd marks_row).mono s_36)
  have r_38 := ((h_6.rd ri_len).mono (sub_trans hs_28.sub (sub_trans hs_31.sub (sub_trans h_35.sub s_36))))
  have b_39 := hv0.mono (sub_trans h_3.sub (sub_trans h_6.sub (sub_trans hs_28.sub (sub_trans hs_31.sub (sub_trans h_35.sub s_36)))))
  refine C_l_heldIntS r_37 (by omega) (by omega) ?_
  simp
  refine ⟨fun hh => absurd hh (by omega), fun _ => ?_⟩
  refine C_l_toGraph b_39 (by omega) fun u_40 H_41 h_42 => ?_
  refine C_i_WalkAround ((h_42.rd enEdge_len).mono (Abs.sub_refl _)) fun w_43 H_44 h_45 => ?_
  simp
  refine C_l_eqIntS ((h_45.rd ri_len).mono (Abs.sub_refl _)) (r_38.mono (sub_trans h_42.sub h_45.sub)) (by omega) ?_
  simp
  refine C_l_heldIntS (r_37.mono (sub_trans h_42.sub h_45.sub)) (by omega) (by omega) ?_
  simp
  exact ⟨fun hh => absurd hh (by omega), fun _ => Ret.of (h _)⟩
end Go.Proofs.Ytipdfhjilegkcaa
