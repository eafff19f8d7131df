/-
The law FnExactCountHome.
-/
import Derived.Test.YtcmpkkcbdmllpaaTabX
set_option linter.all false
namespace Go.Proofs.Ytcmpkkcbdmllpaa
open Go Go.Abs Go.Proofs

set_option maxHeartbeats 1000000 in
theorem C_l_FnExactCountHome {v0 : V} {ts0 : List (List TRoute)} {x1 : Int} {H : Heap} {K : V → Heap → Prop} (hv0 : Tabs H v0 ts0) (hl0 : ts0.length ≤ 9223372036854775807) (hm0 : ∀ t ∈ ts0, t.length ≤ 9223372036854775807) (h : ∀ H', K (.bool true) H') : ACalls P n_l_FnExactCountHome [v0, .int .i64 x1] H K := by
  apply W_l_FnExactCountHome
  unfold F_l_FnExactCountHome
  refine C_l_szTableS hv0 hl0 hm0 fun q0 hq0 => ?_
  simp
  refine ⟨fun _ => Ret.of (h _), fun hp0 => ?_⟩
  have hb0 := hq0 hp0
  refine C_l_toTableS hv0 hb0 fun u_1 H_2 h_3 => ?_
  refine C_s_CountHome (h_3.rd.mono (Abs.sub_refl _)) hb0 ?_
  refine C_l_toTableS (hv0.mono h_3.sub) hb0 fun u_4 H_5 h_6 => ?_
  refine C_i_CountHome (h_6.rd.mono (Abs.sub_refl _)) hb0 ?_
  simp
  refine C_l_toTableS (hv0.mono (sub_trans h_3.sub h_6.sub)) hb0 fun u_7 H_8 h_9 => ?_
  refine C_l_eqTableS (h_6.rd.mono h_9.sub) (h_9.rd.mono (Abs.sub_refl _)) hb0 ?_
  simp
  exact Ret.of (h _)
end Go.Proofs.Ytcmpkkcbdmllpaa
