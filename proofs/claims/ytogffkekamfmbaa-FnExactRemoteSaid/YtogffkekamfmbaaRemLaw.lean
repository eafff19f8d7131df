/-
The law FnExactRemote.
-/
import Derived.Test.YtogffkekamfmbaaGraphR
import Derived.Test.YtogffkekamfmbaaHeldLaw
set_option linter.all false
namespace Go.Proofs.Ytogffkekamfmbaa
open Go Go.Abs Go.Proofs

theorem C_l_FnExactRemote {n : Int} {x1 x2 x3 : Int} {v : V} {es : List TEdge} {H : Heap} {K : V → Heap → Prop} (hv : Rd H 3 v (es.map enEdge)) (hl : es.length ≤ 9223372036854775807) (h : ∀ H', K (.bool true) H') : ACalls P n_l_FnExactRemote [vG n v, .int .i64 x1, .int .i64 x2, .int .i64 x3] H K := by
  have hc := hv.cell
  apply W_l_FnExactRemote
  unfold F_l_FnExactRemote
  simp [hc]
  refine C_l_szGraph hv ?_
  rw [i64_in (by omega) (by omega)]
  simp
  refine ⟨fun _ => Ret.of (h _), fun hs => ?_⟩
  have hlen : es.length ≤ 1048576 := by split at hs <;> omega
  refine C_l_toGraph hv (by omega) fun u1 H1 h1 => ?_
  have hr : (remote n es x1 x2 x3).length ≤ 1000 := remote_len _ _ _
  refine C_s_Remote (h1.rd enEdge_len) fun w8 H2 h8 => ?_
  have s2 := sub_trans h1.sub h8.sub
  refine C_l_toGraph (hv.mono s2) (by omega) fun u3 H3 h3 => ?_
  have hc3 := h3.cell
  simp [stz_eq, putCells, hc3]
  refine C_i_Remote (h3.rd enEdge_len) fun w H4 hw => ?_
  obtain ⟨H3', hw', h3'⟩ := h3.swap hw
  have s4 := sub_trans h3.sub hw.sub
  have r8 := h8.rd ri_len
  refine C_l_eqIntS (hw.rd ri_len) (r8.mono s4) (by omega) ?_
  simp
  refine ⟨_, Abs.sub_refl _, ?_⟩
  refine C_l_toGraph (hv.mono (sub_trans s2 s4)) (by omega) fun u5 H5 h5 => ?_
  refine ⟨h5.sub, ?_⟩
  refine C_l_eqGraph ((h3'.rd enEdge_len).mono h5.sub) (h5.rd enEdge_len) (by omega) ?_
  refine ⟨h5.sub, ?_⟩
  simp
  refine C_l_markGraph h3' h5.sub enEdge_len (by omega) (by simp; omega) fun H6 Ho6 h6 s6 => ?_
  simp
  refine ⟨fun hh => absurd hh (by omega), fun _ => ?_⟩
  have t6 := sub_trans h6.sub s6
  have t26 := sub_trans hw'.sub t6
  refine C_l_eqIntS ((hw'.rd ri_len).mono t6) (r8.mono t26) (by omega) ?_
  simp
  refine C_markHeld hw' t6 ri_len (by omega) (by simp; omega) fun H7 Ho7 h7 s7 => ?_
  simp at h7 ⊢
  have r7 := (h7.rd marks_row).mono s7
  refine C_l_heldIntS r7 (by omega) (by omega) ?_
  simp
  refine ⟨fun hh => absurd hh (by omega), fun _ => ?_⟩
  have t7 := sub_trans h7.sub s7
  refine C_l_toGraph (hv.mono (sub_trans s2 t7)) (by omega) fun u8 H8 h9 => ?_
  refine C_i_Remote (h9.rd enEdge_len) fun w9 H9 hw9 => ?_
  have s9 := sub_trans h9.sub hw9.sub
  refine C_l_eqIntS (hw9.rd ri_len) (r8.mono (sub_trans t7 s9)) (by omega) ?_
  simp
  refine C_l_heldIntS (r7.mono s9) (by omega) (by omega) ?_
  simp
  exact ⟨fun hh => absurd hh (by omega), fun _ => Ret.of (h _)⟩

end Go.Proofs.Ytogffkekamfmbaa
