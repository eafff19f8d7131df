/-
Contracts: sums of any database; the same words, weakly.
-/
import Derived.Test.YtgoljfhjhcjcpaaMergeP
import Derived.Test.YtgoljfhjhcjcpaaDrwM
import Derived.Test.YtgoljfhjhcjcpaaNewC
set_option linter.all false
namespace Go.Proofs.Ytgoljfhjhcjcpaa
open Go Go.Abs Go.Proofs

theorem C_x_DbSum {b : Bool} {xs : List TLsa} {w : V} {H : Heap} {K : V → Heap → Prop} (hv : (dbT b).rd H xs [w]) (h : K (.int .i64 (sumD xs)) H) : ACalls P n_s_DbSum [.agg [w]] H K := by
  by_cases hd : dbOk xs
  · unfold sumD at h
    rw [if_pos hd] at h
    exact C_s_DbSum hv hd h
  · unfold sumD at h
    rw [if_neg hd] at h
    have cw := rdS_cell hv
    apply W_s_DbSum
    unfold F_s_DbSum
    simp [cw]
    refine C_s_DbOk hv ?_
    simp [hd]
    exact Ret.of h
theorem C_i_DbSum {b : Bool} {xs : List TLsa} {w : V} {H : Heap} {K : V → Heap → Prop} (hv : (dbT b).rd H xs [w]) (hl : xs.length + sumF szl xs ≤ 1048576) (h : K (.int .i64 (sumD xs)) H) : ACalls P n_i_DbSum [.agg [w]] H K := by
  have cw := rdS_cell hv
  apply W_i_DbSum
  unfold F_i_DbSum
  simp [cw]
  refine C_i_DbOk hv hl ?_
  unfold sumD at h
  by_cases hd : dbOk xs
  · rw [if_pos hd] at h
    simp [hd]
    exact C_i_Db_sum hv hd (Ret.of h)
  · rw [if_neg hd] at h
    simp [hd]
    exact Ret.of h
def InvAt (n : Nat) (H : Heap) (m : Nat) (ys : List V) (Hc : Heap) : Prop := ∃ i : Nat, i ≤ n ∧ ys = [.int .i64 (i : Nat)] ∧ m = n - i ∧ Hc = H
set_option maxHeartbeats 1000000 in
theorem C_w_SameWords {b b' : Bool} {x y : TLsa} {us vs : List V} {H : Heap} {K : V → Heap → Prop} (hu : (lsaT b).rd H x us) (hv : (lsaT b').rd H y vs) (h : ∀ q, K (.bool q) H) : ACalls P n_s_SameWords [.agg us, .agg vs] H K := by
  have hu' := hu
  have hv' := hv
  obtain ⟨l, s, rfl, g1, g2⟩ := hu
  have hcu := lsa_cell g1 g2
  obtain ⟨l', s', rfl, g1', g2'⟩ := hv
  have hcv := lsa_cell g1' g2'
  apply W_s_SameWords
  unfold F_s_SameWords
  simp [hcu, hcv]
  refine C_s_LsaOk hu' ?_
  by_cases hx : lsaOk x
  · simp [hx]
    refine C_s_LsaOk hv' ?_
    by_cases hy : lsaOk y
    · simp [hy, g1.1.len, g2.1.len, g1'.1.len, g2'.1.len]
      have k4 := hx.2.2.2.1
      have k5 := hx.2.2.2.2.1
      refine ⟨fun _ => Ret.of (h _), fun _ => ⟨fun _ => Ret.of (h _), fun e1 => ⟨fun _ => Ret.of (h _), fun e2 => ?_⟩⟩⟩
      refine ⟨InvAt x.links.length H, ⟨x.links.length, Shr.of ⟨0, by omega, rfl, by omega, rfl⟩⟩, ?_⟩
      rintro m zs Hc ⟨i, hi, rfl, rfl, rfl⟩
      simp
      refine ⟨fun hlt => ?_, fun _ => ?_⟩
      · refine ⟨Hc, Abs.sub_refl _, ?_⟩
        have q1 : (x.links.map enLink).getD i [] = enLink x.links[i] := by simp [hlt]
        have hlt2 : i < y.links.length := by omega
        have q2 : (y.links.map enLink).getD i [] = enLink y.links[i] := by simp [hlt2]
        refine g1.1.idx (by omega) (by simpa using hlt) fun p hp => ?_
        simp only [Int.toNat_natCast, q1] at hp
        rw [hp.ld]
        simp
        refine g1'.1.idx (by omega) (by simpa using hlt2) fun p hp => ?_
        simp only [Int.toNat_natCast, q2] at hp
        rw [hp.ld]
        simp
        rw [neq_link]
        simp
        rw [i64_in (n := (i : Int) + 1) (by omega) (by omega)]
        exact ⟨fun _ => Ret.of (h _), fun _ _ => ⟨x.links.length - (i + 1), by omega, Shr.of ⟨i + 1, by omega, by simp, rfl, rfl⟩⟩⟩
      · refine ⟨InvAt x.stubs.length Hc, ⟨x.stubs.length, Shr.of ⟨0, by omega, rfl, by omega, rfl⟩⟩, ?_⟩
        rintro m zs Hc ⟨i, hi, rfl, rfl, rfl⟩
        simp
        refine ⟨fun hlt => ?_, fun _ => Ret.of (h _)⟩
        refine ⟨Hc, Abs.sub_refl _, ?_⟩
        have q1 : (x.stubs.map enStub).getD i [] = enStub x.stubs[i] := by simp [hlt]
        have hlt2 : i < y.stubs.length := by omega
        have q2 : (y.stubs.map enStub).getD i [] = enStub y.stubs[i] := by simp [hlt2]
        refine g2.1.idx (by omega) (by simpa using hlt) fun p hp => ?_
        simp only [Int.toNat_natCast, q1] at hp
        rw [hp.ld]
        simp
        refine g2'.1.idx (by omega) (by simpa using hlt2) fun p hp => ?_
        simp only [Int.toNat_natCast, q2] at hp
        rw [hp.ld]
        simp
        rw [neq_stub]
        simp
        rw [i64_in (n := (i : Int) + 1) (by omega) (by omega)]
        exact ⟨fun _ => Ret.of (h _), fun _ _ _ => ⟨x.stubs.length - (i + 1), by omega, Shr.of ⟨i + 1, by omega, by simp, rfl, rfl⟩⟩⟩
    · simp [hy]
      exact Ret.of (h _)
  · simp [hx]
    exact Ret.of (h _)

end Go.Proofs.Ytgoljfhjhcjcpaa
