/-
The law FnNewer.
-/
import Derived.Test.YtgoljfhjhcjcpaaNewC
set_option linter.all false
namespace Go.Proofs.Ytgoljfhjhcjcpaa
open Go Go.Abs Go.Proofs

theorem newR_turn (a b : TLsa) (h : newR a b ≠ -2) : newR b a = - newR a b ∧ newR a a = 0 ∧ lsaOk a ∧ lsaOk b ∧ a.origin = b.origin ∧ newR a b = newerR a b := by
  unfold newR at h ⊢
  by_cases hh : lsaOk a ∧ lsaOk b ∧ a.origin = b.origin
  · rw [if_pos hh, if_pos ⟨hh.2.1, hh.1, hh.2.2.symm⟩, if_pos ⟨hh.1, hh.1, rfl⟩]
    exact ⟨newer_turn a b, newer_self a, hh.1, hh.2.1, hh.2.2, rfl⟩
  · rw [if_neg hh] at h; exact absurd rfl h
set_option maxHeartbeats 1000000 in
theorem C_l_FnNewer {v : V} {bs : List (List V)} {H : Heap} {K : V → Heap → Prop} (hv : Rd H 1 v bs) (hb : Bs bs) (hl : bs.length ≤ 9223372036854775807) (hcell : cellsOf v = [v] ∧ cellOk v = true ∧ notAny v = true) (h : ∀ H', K (.bool true) H') : ACalls P n_l_FnNewer [v] H K := by
  apply W_l_FnNewer
  unfold F_l_FnNewer
  refine C_l_big hv.len ?_
  simp
  refine ⟨fun _ => Ret.of (h _), fun _ => ?_⟩
  refine C_w_DrawNewer hv hb hl hcell fun a b us vs H1 hs1 la lb hu hv2 => ?_
  have la' : a.links.length ≤ 1048576 ∧ a.stubs.length ≤ 1048576 := by omega
  have lb' : b.links.length ≤ 1048576 ∧ b.stubs.length ≤ 1048576 := by omega
  have hu' := hu
  have hv2' := hv2
  obtain ⟨l, s, rfl, g1, g2⟩ := hu
  have hcu := lsa_cell g1 g2
  obtain ⟨l', s', rfl, g1', g2'⟩ := hv2
  have hcv := lsa_cell g1' g2'
  simp [stz_eq, putCells, hcu, hcv]
  refine C_x_Newer hu' hv2' ?_
  refine C_i_Newer hu' hv2' la' lb' ?_
  simp
  refine ⟨fun _ => Ret.of (h _), fun hne => ?_⟩
  obtain ⟨t1, t2, oka, okb, ho, te⟩ := newR_turn a b hne
  have t3 := newer_three a b
  refine ⟨fun _ Hc => Hc = H1, ⟨H1, Abs.sub_refl _, ?_⟩, ?_⟩
  · have wr : IntKind.i64.wrap (-newR a b) = -newR a b := i64_in (by omega) (by omega)
    simp [wr]
    refine C_i_Newer hv2' hu' lb' la' ⟨Abs.sub_refl _, ?_⟩
    rw [t1]
    simp
    refine C_i_Newer hu' hu' la' la' ⟨Abs.sub_refl _, ?_⟩
    rw [t2]
    simp
    by_cases e0 : newR a b = 0
    · have := newer_zero (show newerR a b = 0 by omega)
      simp [e0]
      refine ⟨fun q => absurd this.1 q, fun _ => ?_⟩
      refine C_s_LsaSum hu' oka ⟨Abs.sub_refl _, ?_⟩
      refine C_s_LsaSum hv2' okb ⟨Abs.sub_refl _, ?_⟩
      simp [this.2]
      exact Shr.of rfl
    · simp [e0]
      refine ⟨fun _ => Shr.of rfl, fun _ => ?_⟩
      refine C_s_LsaSum hu' oka ⟨Abs.sub_refl _, ?_⟩
      refine C_s_LsaSum hv2' okb ⟨Abs.sub_refl _, ?_⟩
      simp
      exact ⟨fun _ => Shr.of rfl, fun _ => Shr.of rfl⟩
  rintro _ _ rfl
  refine C_i_PutLsa hu' la' (fun _ w H2 hd => ?_) fun q => absurd oka q
  have hlen := putB_len a
  have k4 := oka.2.2.2.1
  have k5 := oka.2.2.2.2.1
  refine C_i_TakeLsa (c := false) (hd.sl (by simp)) (by unfold bByteS; omega) putB_in fun ws H3 hw => ?_
  rw [take_put oka] at hw ⊢
  have hw' := hw.rd
  obtain ⟨l2, s2, rfl, g3, g4⟩ := hw'
  have hcw := lsa_cell g3 g4
  have s13 := sub_trans hd.sub hw.sub
  simp [stz_eq, putCells, hcw, hcu, hcv]
  refine ⟨fun _ Hc => Hc = H3, ?_, ?_⟩
  · refine C_i_SameWords hw.rd ((lsaT false).mono hu' s13) la' la' ?_
    simp [oka]
    exact Shr.of rfl
  rintro _ _ rfl
  refine C_i_NextLsa ((lsaT false).mono hu' s13) (g1'.mono s13) (g2'.mono s13) la' lb' (fun _ q zs H4 hz => ?_) fun q H4 _ => ?_
  · have ne := (next_ok oka okb ho).1 q
    have hz' := hz.rd
    obtain ⟨l5, s5, rfl, g5, g6⟩ := hz'
    have hcz := lsa_cell g5 g6
    simp [stz_eq, putCells, hcz, ne]
    refine ⟨_, Abs.sub_refl _, ?_⟩
    refine C_i_Newer hz.rd ((lsaT false).mono hu' (sub_trans s13 hz.sub)) lb' la' ⟨Abs.sub_refl _, ?_⟩
    unfold newR
    rw [if_pos ⟨q, oka, rfl⟩, next_newer]
    simp
    refine C_i_LsaSum hz.rd lb' q ⟨Abs.sub_refl _, ?_⟩
    refine C_s_LsaSum hz.rd q ⟨Abs.sub_refl _, ?_⟩
    simp
    exact Ret.of (h _)
  · have e : a.seq = 1000000 := by
      by_cases e : a.seq = 1000000
      · exact e
      · exact absurd ⟨oka, (next_ok oka okb ho).2 e⟩ q
    simp [stz_eq, putCells, e]
    exact Ret.of (h _)

end Go.Proofs.Ytgoljfhjhcjcpaa
