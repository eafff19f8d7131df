/-
The law FnExactNewNet.
-/
import Derived.Test.YtgiogphdnpeddaaKindA
import Derived.Test.YtgiogphdnpeddaaNewNetC
set_option linter.all false
namespace Go.Proofs.Ytgiogphdnpeddaa
open Go Go.Abs Go.Proofs

set_option maxHeartbeats 2000000 in
theorem C_l_FnExactNewNet {x0 : Int} {H : Heap} {K : V → Heap → Prop} (h : ∀ H', K (.bool true) H') : ACalls P n_l_FnExactNewNet [.int .i64 x0] H K := by
  apply W_l_FnExactNewNet
  unfold F_l_FnExactNewNet
  try simp [stz_eq, putCells, fillZ]
  have hR0 : bNet (newR x0).1 := newR_sz
  refine C_s_NewNet (c := false)  fun w_1 H_2 h_3 => ?_
  obtain ⟨ec_5, dc_5, wc_5, _, _, rfl, fc_5, gc_5, hc_5⟩ := net_dp h_3
  have c_5 := And.intro fc_5.cell (And.intro (dpS_cell gc_5) (dpS_cell hc_5))
  try simp [stz_eq, putCells, fillZ, c_5]
  refine C_i_NewNet (c := false)  fun w_6 H_7 h_8 => ?_
  obtain ⟨ec_10, dc_10, wc_10, _, _, rfl, fc_10, gc_10, hc_10⟩ := net_dp h_8
  have c_10 := And.intro fc_10.cell (And.intro (dpS_cell gc_10) (dpS_cell hc_10))
  try simp [stz_eq, putCells, fillZ, c_5, c_10]
  refine C_eq_Net ((netT false).mono h_8.rd (Abs.sub_refl _)) ((netT false).mono h_3.rd h_8.sub) hR0 ?_
  try simp [stz_eq, putCells, fillZ, c_5, c_10]
  have zR0 := sB_Net hR0
  refine C_mark_Net h_8 (Abs.sub_refl _) hR0 (by omega) fun H_11 Ho_12 h_13 s_14 => ?_
  try simp [stz_eq, putCells, fillZ, c_5, c_10]
  refine C_held_Net ((netT false).mono h_13.rd s_14) hR0 (by omega) ?_
  try simp [stz_eq, putCells, fillZ, c_5, c_10]
  refine ⟨fun hh => absurd hh (by omega), fun _ => ?_⟩
  have r_15 := ((netT false).mono h_3.rd (sub_trans h_13.sub s_14))
  have r_16 := ((netT false).mono h_13.rd s_14)
  refine C_i_NewNet (c := false)  fun w_17 H_18 h_19 => ?_
  obtain ⟨ec_21, dc_21, wc_21, _, _, rfl, fc_21, gc_21, hc_21⟩ := net_dp h_19
  have c_21 := And.intro fc_21.cell (And.intro (dpS_cell gc_21) (dpS_cell hc_21))
  try simp [stz_eq, putCells, fillZ, c_5, c_10, c_21]
  refine C_eq_Net ((netT false).mono h_19.rd (Abs.sub_refl _)) ((netT false).mono r_15 h_19.sub) hR0 ?_
  try simp [stz_eq, putCells, fillZ, c_5, c_10, c_21]
  refine C_held_Net ((netT false).mono r_16 h_19.sub) hR0 (by omega) ?_
  try simp [stz_eq, putCells, fillZ, c_5, c_10, c_21]
  exact ⟨fun hh => absurd hh (by omega), fun _ => Ret.of (h _)⟩
end Go.Proofs.Ytgiogphdnpeddaa
