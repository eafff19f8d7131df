/-
The law FnInstalled.
-/
import Derived.Test.YtgoljfhjhcjcpaaMergC2
import Derived.Test.YtgoljfhjhcjcpaaAltC
set_option linter.all false
namespace Go.Proofs.Ytgoljfhjhcjcpaa
open Go Go.Abs Go.Proofs

theorem sumD_same {xs ys : List TLsa} (hx : dbOk xs) (hy : dbOk ys) (h : lacksR xs ys = []) : sumD (mergeR xs ys).1 = sumD xs := by
  have e1 : mergeR xs ys = (foldI xs ys, true) := by unfold mergeR; rw [if_pos ⟨hx, hy⟩]
  rw [e1]
  unfold sumD
  rw [if_pos (foldI_ok hx), if_pos hx, lacks_same hx hy h]
theorem merge_yes {xs ys : List TLsa} (h : (mergeR xs ys).2 = true) : dbOk xs ∧ dbOk ys ∧ (mergeR xs ys).1 = foldI xs ys := by
  unfold mergeR at h ⊢
  by_cases hh : dbOk xs ∧ dbOk ys
  · rw [if_pos hh]; exact ⟨hh.1, hh.2, rfl⟩
  · rw [if_neg hh] at h; simp at h
set_option maxHeartbeats 4000000 in
theorem C_l_FnInstalled {v : V} {bs : List (List V)} {H : Heap} {K : V → Heap → Prop} (hv : Rd H 1 v bs) (hb : Bs bs) (hl : bs.length ≤ 9223372036854775807) (hcell : cellsOf v = [v] ∧ cellOk v = true ∧ notAny v = true) (h : ∀ H', K (.bool true) H') : ACalls P n_l_FnInstalled [v] H K := by
  apply W_l_FnInstalled
  unfold F_l_FnInstalled
  refine C_l_big hv.len ?_
  simp
  refine ⟨fun _ => Ret.of (h _), fun _ => ?_⟩
  refine C_w_DrawInstall hv hb hl hcell fun xs u a us H1 hs1 f1 r1 hla r2 => ?_
  have c1 := rdS_cell r1
  have n1 := rdS_len r1
  have b1 := f1.1
  have z1 : xs.length + sumF szl xs ≤ 1048576 := fits_sz f1 (by omega)
  have la : a.links.length ≤ 1048576 ∧ a.stubs.length ≤ 1048576 := by omega
  have r2' := r2
  obtain ⟨l, s, rfl, g1, g2⟩ := r2'
  have hcu := lsa_cell g1 g2
  simp [stz_eq, putCells, c1, hcu]
  refine C_s_Install (c := false) r1 r2 z1 fun u3 H3 h3 => ?_
  have c3 := dpS_cell h3
  simp [stz_eq, putCells, c3]
  refine C_i_Install (c := false) ((dbT false).mono r1 h3.sub) ((lsaT false).mono r2 h3.sub) z1 la fun u4 H4 h4 => ?_
  have c4 := dpS_cell h4
  have n4 := rdS_len h4.rd
  have r24 := (lsaT false).mono r2 (sub_trans h3.sub h4.sub)
  have hlen := inst_len xs a
  have z4 : (installR xs a).1.length + sumF szl (installR xs a).1 ≤ 1048576 := installR_sz (show bDb xs from z1)
  simp [stz_eq, putCells, c4, n4, n1]
  refine ⟨fun q => by omega, fun _ => ?_⟩
  refine ⟨fun _ Hc => Abs.sub H Hc, ⟨fun q0 => ?_, fun _ => Shr.of (sub_trans hs1 (sub_trans h3.sub h4.sub))⟩, ?_⟩
  · obtain ⟨k1, k2, k3, k4⟩ := inst_found q0
    refine C_i_FindLsa (c := false) h4.rd z4 fun us5 H5 h5 => ?_
    rw [k3] at h5 ⊢
    have r5 := h5.rd
    obtain ⟨l5, s5, rfl, g5, g6⟩ := r5
    have hc5 := lsa_cell g5 g6
    simp [stz_eq, putCells, hc5]
    refine C_i_Install (c := false) ((dbT false).mono h4.rd h5.sub) ((lsaT false).mono r24 h5.sub) z4 la fun u6 H6 h6 => ?_
    have c6 := dpS_cell h6
    simp [stz_eq, putCells, c6]
    refine C_i_SameWords ((lsaT false).mono h5.rd h6.sub) ((lsaT false).mono r24 (sub_trans h5.sub h6.sub)) la la ?_
    simp [k2, k4]
    exact Shr.of (sub_trans hs1 (sub_trans h3.sub (sub_trans h4.sub (sub_trans h5.sub h6.sub))))
  rintro zs Hc hsc
  refine C_l_alt (hv.mono hsc) hb fun bs' v' H7 hs7 hv7 hb7 hl7 hc7 => ?_
  refine C_w_DrawMerge hv7 hb7 hl7 hc7 fun xs u ys w H1 hs1 f1 r1 f2 r2 => ?_
  have c1 := rdS_cell r1
  have c2 := rdS_cell r2
  have b1 := f1.1
  have b2 := f2.1
  have z1 : xs.length + sumF szl xs ≤ 1048576 := fits_sz f1 (by omega)
  have z2 : ys.length + sumF szl ys ≤ 1048576 := fits_sz f2 (by omega)
  have m1 : (mergeR xs ys).1.length + sumF szl (mergeR xs ys).1 ≤ 1048576 := mergeR_sz (bs := ys) (show bDb xs from z1)
  simp [stz_eq, putCells, c1, c2]
  refine C_i_Merge (c := false) r1 z1 r2 z2 fun u3 H3 h3 => ?_
  have c3 := dpS_cell h3
  simp [stz_eq, putCells, c3]
  refine C_s_Merge (c := false) ((dbT false).mono r1 h3.sub) z1 ((dbT false).mono r2 h3.sub) z2 fun u4 H4 h4 => ?_
  have c4 := dpS_cell h4
  simp [stz_eq, putCells, c4]
  have r3 := (dbT false).mono h3.rd h4.sub
  have r14 := (dbT false).mono r1 (sub_trans h3.sub h4.sub)
  have r24 := (dbT false).mono r2 (sub_trans h3.sub h4.sub)
  refine ⟨H4, Abs.sub_refl _, ?_⟩
  refine C_i_DbSum r3 m1 ⟨Abs.sub_refl _, ?_⟩
  refine C_x_DbSum h4.rd ⟨Abs.sub_refl _, ?_⟩
  simp
  refine ⟨fun _ => Ret.of (h _), fun q => ?_⟩
  obtain ⟨o1, o2, e⟩ := merge_yes q
  refine C_i_Lacks r14 z1 r24 z2 fun g5 H5 h5 => ?_
  refine C_s_Lacks ((dbT false).mono r14 h5.sub) z1 ((dbT false).mono r24 h5.sub) z2 fun g6 H6 h6 => ?_
  have q5 := (flat_dp.1 h5).rd (by simp)
  have q6 := (flat_dp.1 h6).rd (by simp)
  have n5 := (q5.mono h6.sub).len
  have hsz : (lacksR xs ys).length ≤ 2097152 := by
    have := lacksR_sz (a := xs) (bs := ys) (show bDb ys from z2)
    unfold bIntS at this
    omega
  refine C_l_same (q5.mono h6.sub) q6 hsz ?_
  simp
  have s56 := sub_trans h5.sub h6.sub
  refine C_i_Lacks ((dbT false).mono r3 s56) m1 ((dbT false).mono r24 s56) z2 fun g7 H7' h7 => ?_
  rw [e, lacks_none o1 o2] at h7
  have n7 := ((flat_dp.1 h7).rd (by simp)).len
  simp [n7]
  refine ⟨H7', Abs.sub_refl _, ?_⟩
  have n57 : lenOf g5 = some (lacksR xs ys).length := by simpa using n5
  simp [n57]
  refine ⟨fun _ => Ret.of (h _), fun q0 => ?_⟩
  have e0 : lacksR xs ys = [] := by
    cases hq : lacksR xs ys with
    | nil => rfl
    | cons x L => rw [hq] at q0; simp at q0
  refine C_i_DbSum ((dbT false).mono r3 (sub_trans s56 h7.sub)) m1 ⟨Abs.sub_refl _, ?_⟩
  refine C_i_DbSum ((dbT false).mono r14 (sub_trans s56 h7.sub)) z1 ⟨Abs.sub_refl _, ?_⟩
  rw [sumD_same o1 o2 e0]
  simp
  exact Ret.of (h _)

end Go.Proofs.Ytgoljfhjhcjcpaa
