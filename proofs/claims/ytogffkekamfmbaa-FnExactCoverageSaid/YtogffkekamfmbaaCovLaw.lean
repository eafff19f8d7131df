/-
The law FnExactCoverage.
-/
import Derived.Test.YtogffkekamfmbaaGraphQ
set_option linter.all false
namespace Go.Proofs.Ytogffkekamfmbaa
open Go Go.Abs Go.Proofs

theorem C_l_FnExactCoverage {n : Int} {v : V} {es : List TEdge} {H : Heap} {K : V → Heap → Prop} (hv : Rd H 3 v (es.map enEdge)) (hl : es.length ≤ 9223372036854775807) (h : ∀ H', K (.bool true) H') : ACalls P n_l_FnExactCoverage [vG n v] H K := by
  have hc := hv.cell
  apply W_l_FnExactCoverage
  unfold F_l_FnExactCoverage
  simp [hc]
  refine C_l_szGraph hv ?_
  rw [i64_in (by omega) (by omega)]
  simp
  refine ⟨fun _ => Ret.of (h _), fun hs => ?_⟩
  have hlen : es.length ≤ 1048576 := by split at hs <;> omega
  refine C_l_toGraph hv (by omega) fun u1 H1 h1 => ?_
  refine C_s_Coverage (h1.rd enEdge_len) ?_
  have s1 := h1.sub
  simp
  refine C_l_toGraph (hv.mono s1) (by omega) fun u3 H3 h3 => ?_
  have hc3 := h3.cell
  simp [stz_eq, putCells, hc3]
  refine C_i_Coverage (h3.rd enEdge_len) ?_
  simp
  refine ⟨_, Abs.sub_refl _, ?_⟩
  refine C_l_toGraph (hv.mono (sub_trans s1 h3.sub)) (by omega) fun u5 H5 h5 => ?_
  refine ⟨h5.sub, ?_⟩
  refine C_l_eqGraph ((h3.rd enEdge_len).mono h5.sub) (h5.rd enEdge_len) (by omega) ?_
  refine ⟨h5.sub, ?_⟩
  simp
  exact Ret.of (h _)

end Go.Proofs.Ytogffkekamfmbaa
