/-
The law FnHealed.
-/
import Derived.Test.YtohicpepcjgnaaaLived
import Derived.Test.YtohicpepcjgnaaaSettleC
import Derived.Test.YtohicpepcjgnaaaAgreeC
set_option linter.all false
namespace Go.Proofs.Ytohicpepcjgnaaa
open Go Go.Abs Go.Proofs

theorem settleR_fl {a : TNet} (h : Fl a) : settleR a = ((settleF 5000 a).1, (((settleF 5000 a).2 : Nat) : Int)) := by
  unfold settleR settleN
  rw [if_pos h.ok]
set_option maxHeartbeats 1000000 in
theorem C_l_FnHealed {v : V} {bs : List (List V)} {H : Heap} {K : V → Heap → Prop} (hv : Rd H 1 v bs) (hb : Bb bs) (h : ∀ H', K (.bool true) H') : ACalls P n_l_FnHealed [v] H K := by
  apply W_l_FnHealed
  unfold F_l_FnHealed
  refine C_l_big hv.len ?_
  simp
  refine ⟨fun _ => Ret.of (h _), fun hl => ?_⟩
  refine C_l_lived hv hb (by omega) fun a us H1 hs hL hr => ?_
  obtain ⟨f1, -, -⟩ := settle_fl (f := 5000) hL.1
  refine C_i_Settle (c := false) hr hL.sz fun us2 H2 h2 => ?_
  rw [settleR_fl hL.1] at h2 ⊢
  have r2 := h2.rd
  generalize hcnt : (settleF 5000 a).2 = k1 at *
  generalize (settleF 5000 a).1 = a1 at *
  have r2' := r2
  obtain ⟨e2, d2, w2, rfl, g1, g2, g3⟩ := r2'
  have hc2 := net_cell g1 g2 g3
  simp [stz_eq, putCells, hc2]
  obtain ⟨f2, c2⟩ := sync_fl f1
  have s1 : syncR a1 = (syncN a1.up.es a1, true) := by unfold syncR; rw [if_pos f1.ok]
  refine C_i_SyncAll (c := false) r2 (small_sz (small_of f1.ok)) fun us3 H3 h3 => ?_
  rw [s1] at h3 ⊢
  have r3 := h3.rd
  generalize syncN a1.up.es a1 = a2 at *
  have r3' := r3
  obtain ⟨e3, d3, w3, rfl, g1, g2, g3⟩ := r3'
  have hc3 := net_cell g1 g2 g3
  simp [stz_eq, putCells, hc3]
  obtain ⟨f3, c3, z3⟩ := settle_fl (f := 5000) f2
  refine C_i_Settle (c := false) r3 (small_sz (small_of f2.ok)) fun us4 H4 h4 => ?_
  rw [settleR_fl f2] at h4 ⊢
  have r4 := h4.rd
  generalize (settleF 5000 a2).2 = k2 at *
  generalize (settleF 5000 a2).1 = a3 at *
  have r4' := r4
  obtain ⟨e4, d4, w4, rfl, g1, g2, g3⟩ := r4'
  have hc4 := net_cell g1 g2 g3
  simp [stz_eq, putCells, hc4]
  have z4 := small_sz (small_of f3.ok)
  refine ⟨fun q => by omega, fun q => by omega, ?_⟩
  refine C_s_NetOk r4 z4 ?_
  simp [f3.ok]
  refine ⟨fun _ => Ret.of (h _), fun hlost => ⟨fun _ => Ret.of (h _), fun _ => ⟨fun _ => Ret.of (h _), fun hk => ?_⟩⟩⟩
  refine C_i_Agree r4 z4 ?_
  have ag := agree_fl f3 (c3 c2) (by omega) (z3 (by omega))
  simp [ag]
  exact Ret.of (h _)

end Go.Proofs.Ytohicpepcjgnaaa
