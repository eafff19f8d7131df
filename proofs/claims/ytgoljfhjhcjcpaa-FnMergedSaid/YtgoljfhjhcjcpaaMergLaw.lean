/-
The law FnMerged.
-/
import Derived.Test.YtgoljfhjhcjcpaaMergC2
set_option linter.all false
namespace Go.Proofs.Ytgoljfhjhcjcpaa
open Go Go.Abs Go.Proofs

def InvAge (xs : List TLsa) (H : Heap) (m : Nat) (ys : List V) (Hc : Heap) : Prop := ∃ i : Nat, i ≤ xs.length ∧ ys = [.int .i64 (i : Nat)] ∧ m = xs.length - i ∧ Hc = H ∧ ∀ j, (h : j < xs.length) → j < i → xs[j].age ≠ 60
theorem age_all {xs : List TLsa} (h : ∀ j, (h : j < xs.length) → j < xs.length → xs[j].age ≠ 60) : ∀ a ∈ xs, a.age ≠ 60 := by
  intro a ha
  obtain ⟨i, hi, rfl⟩ := List.mem_iff_getElem.1 ha
  exact h i hi hi
set_option maxHeartbeats 4000000 in
theorem C_l_FnMerged {v : V} {bs : List (List V)} {H : Heap} {K : V → Heap → Prop} (hv : Rd H 1 v bs) (hb : Bs bs) (hl : bs.length ≤ 9223372036854775807) (hcell : cellsOf v = [v] ∧ cellOk v = true ∧ notAny v = true) (h : ∀ H', K (.bool true) H') : ACalls P n_l_FnMerged [v] H K := by
  apply W_l_FnMerged
  unfold F_l_FnMerged
  refine C_l_big hv.len ?_
  simp
  refine ⟨fun _ => Ret.of (h _), fun _ => ?_⟩
  refine C_w_DrawMerge hv hb hl hcell fun xs u ys w H1 hs1 f1 r1 f2 r2 => ?_
  have c1 := rdS_cell r1
  have c2 := rdS_cell r2
  have n1 := rdS_len r1
  have n2 := rdS_len r2
  have b1 := f1.1
  have b2 := f2.1
  have z1 : xs.length + sumF szl xs ≤ 1048576 := fits_sz f1 (by omega)
  have z2 : ys.length + sumF szl ys ≤ 1048576 := fits_sz f2 (by omega)
  simp [stz_eq, putCells, c1, c2]
  refine C_s_DbOk r1 ?_
  by_cases ok1 : dbOk xs
  rotate_left
  · simp [ok1]; exact Ret.of (h _)
  simp [ok1]
  refine C_s_DbOk r2 ?_
  by_cases ok2 : dbOk ys
  rotate_left
  · simp [ok2]; exact Ret.of (h _)
  simp [ok2]
  refine ⟨InvAge xs H1, ⟨xs.length, Shr.of ⟨0, by omega, rfl, by omega, rfl, fun j _ hj => absurd hj (by omega)⟩⟩, ?_⟩
  rintro m zs Hc ⟨i, hi, rfl, rfl, rfl, ha⟩
  simp [n1]
  rw [i64_in (n := (i : Int) + 1) (by omega) (by omega)]
  refine ⟨fun hlt => ?_, fun hge => ?_⟩
  · refine rdS_idx r1 (by omega) (by simpa using hlt) fun p row hp hrw => hp.fld fun q hq => ?_
    simp only [Int.toNat_natCast] at hrw
    obtain ⟨l3, s3', rfl, _, _⟩ := hrw
    rw [hq.ld]
    simp
    refine ⟨fun _ => Ret.of (h _), fun hne => ?_⟩
    refine ⟨InvAt ys.length Hc, ⟨ys.length, Shr.of ⟨0, by omega, rfl, by omega, rfl⟩⟩, ?_⟩
    rintro m zs Hd ⟨j, hj, rfl, rfl, rfl⟩
    simp [n2]
    rw [i64_in (n := (j : Int) + 1) (by omega) (by omega)]
    refine ⟨fun hlt2 => ?_, fun _ => ⟨xs.length - (i + 1), by omega, Shr.of ⟨i + 1, by omega, by simp, rfl, rfl, fun k hk hk2 => ?_⟩⟩⟩
    · have next : ∃ n34, n34 < ys.length - j ∧ Shr (InvAt ys.length Hd n34 [.int .i64 ((j : Int) + 1)]) Hd := ⟨ys.length - (j + 1), by omega, Shr.of ⟨j + 1, by omega, by simp, rfl, rfl⟩⟩
      refine ⟨Hd, Abs.sub_refl _, ?_⟩
      refine rdS_idx r2 (by omega) (by simpa using hlt2) fun p row hp hrw => hp.fld fun q hq => ?_
      simp only [Int.toNat_natCast] at hrw
      obtain ⟨l4, s4', rfl, _, _⟩ := hrw
      rw [hq.ld]
      simp
      refine ⟨fun _ => Ret.of (h _), fun _ => ?_⟩
      refine rdS_idx r1 (by omega) (by simpa using hlt) fun p row hp hrw => hp.fld fun q hq => ?_
      simp only [Int.toNat_natCast] at hrw
      obtain ⟨l5, s5', rfl, _, _⟩ := hrw
      rw [hq.ld]
      simp
      refine rdS_idx r2 (by omega) (by simpa using hlt2) fun p row hp hrw => hp.fld fun q hq => ?_
      simp only [Int.toNat_natCast] at hrw
      obtain ⟨l6, s6', rfl, _, _⟩ := hrw
      rw [hq.ld]
      simp
      refine ⟨fun _ => ?_, fun _ => next⟩
      refine rdS_idx r1 (by omega) (by simpa using hlt) fun p row hp hrw => hp.fld fun q hq => ?_
      simp only [Int.toNat_natCast] at hrw
      obtain ⟨l5, s5', rfl, _, _⟩ := hrw
      rw [hq.ld]
      simp
      refine rdS_idx r2 (by omega) (by simpa using hlt2) fun p row hp hrw => hp.fld fun q hq => ?_
      simp only [Int.toNat_natCast] at hrw
      obtain ⟨l6, s6', rfl, _, _⟩ := hrw
      rw [hq.ld]
      simp
      refine ⟨fun _ => ?_, fun _ => next⟩
      refine rdS_idx r1 (by omega) (by simpa using hlt) fun p row hp hrw => ?_
      simp only [Int.toNat_natCast] at hrw
      have hA := hrw
      obtain ⟨l7, s7', rfl, _, _⟩ := hrw
      rw [hp.ld]
      simp
      refine rdS_idx r2 (by omega) (by simpa using hlt2) fun p row hp hrw => ?_
      simp only [Int.toNat_natCast] at hrw
      have hB := hrw
      obtain ⟨l8, s8', rfl, _, _⟩ := hrw
      rw [hp.ld]
      simp
      refine C_w_SameWords hA hB fun q => ⟨Abs.sub_refl _, ?_⟩
      cases q
      · simp; exact Ret.of (h _)
      · simp; exact next
    · by_cases e : k = i
      · subst e; exact hne
      · exact ha k hk (by omega)
  · refine ⟨InvAge ys Hc, ⟨ys.length, Shr.of ⟨0, by omega, rfl, by omega, rfl, fun j _ hj => absurd hj (by omega)⟩⟩, ?_⟩
    rintro m zs Hd ⟨j, hj, rfl, rfl, rfl, ha2⟩
    simp [n2]
    rw [i64_in (n := (j : Int) + 1) (by omega) (by omega)]
    refine ⟨fun hlt2 => ?_, fun hge2 => ?_⟩
    · refine rdS_idx r2 (by omega) (by simpa using hlt2) fun p row hp hrw => hp.fld fun q hq => ?_
      simp only [Int.toNat_natCast] at hrw
      obtain ⟨l4, s4', rfl, _, _⟩ := hrw
      rw [hq.ld]
      simp
      refine ⟨fun _ => Ret.of (h _), fun hne => ⟨ys.length - (j + 1), by omega, Shr.of ⟨j + 1, by omega, by simp, rfl, rfl, fun k hk hk2 => ?_⟩⟩⟩
      by_cases e : k = j
      · subst e; exact hne
      · exact ha2 k hk (by omega)
    have a1 := age_all fun k hk _ => ha k hk (by omega)
    have a2 := age_all fun k hk _ => ha2 k hk (by omega)
    have e1 : mergeR xs ys = (foldI xs ys, true) := by unfold mergeR; rw [if_pos ⟨ok1, ok2⟩]
    have e2 : mergeR ys xs = (foldI ys xs, true) := by unfold mergeR; rw [if_pos ⟨ok2, ok1⟩]
    have m1 := mergeR_sz (bs := ys) (show bDb xs from z1)
    have m2 := mergeR_sz (bs := xs) (show bDb ys from z2)
    have ms := merge_sym ok1 ok2 a1 a2
    refine C_i_Merge (c := false) r1 z1 r2 z2 fun u3 H3 h3 => ?_
    rw [e1] at h3 m1 ⊢
    have c3 := dpS_cell h3
    simp [stz_eq, putCells, c3]
    refine C_i_Merge (c := false) ((dbT false).mono r2 h3.sub) z2 ((dbT false).mono r1 h3.sub) z1 fun u4 H4 h4 => ?_
    rw [e2] at h4 m2 ⊢
    have c4 := dpS_cell h4
    have r3 := (dbT false).mono h3.rd h4.sub
    have l3 := rdS_len r3
    have l4 := rdS_len h4.rd
    simp [stz_eq, putCells, c4]
    refine ⟨H4, Abs.sub_refl _, ?_⟩
    simp [l3, l4, ms.2]
    refine C_i_DbSum r3 m1 ⟨Abs.sub_refl _, ?_⟩
    refine C_i_DbSum h4.rd m2 ⟨Abs.sub_refl _, ?_⟩
    unfold sumD
    rw [if_pos (foldI_ok ok1), if_pos (foldI_ok ok2), ms.1]
    simp
    exact Ret.of (h _)

end Go.Proofs.Ytgoljfhjhcjcpaa
