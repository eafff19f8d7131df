/-
Contracts of the laws' small helpers.
-/
import Derived.Test.YtaippfedjjjpeaaGreatInts
set_option linter.all false
namespace Go.Proofs.YtaippfedjjjpeaaGreat
open Go Go.Abs Go.Proofs

theorem C_l_big {v : V} {n : Nat} {H : Heap} {K : V → Heap → Prop} (hv : lenOf v = some n) (h : K (.bool (decide (1048576 < (n : Int)))) H) : ACalls P n_l_big [v] H K := by
  apply W_l_big
  unfold F_l_big
  simp [hv]
  exact Ret.eq h (by simp)

theorem C_l_same {xs ys : List Int} {v w : V} {H : Heap} {K : V → Heap → Prop} (hv : Rd H 1 v (xs.map ri)) (hw : Rd H 1 w (ys.map ri)) (hl : xs.length ≤ 2097152) (h : K (.bool (decide (xs = ys))) H) :
    ACalls P n_l_same [v, w] H K := by
  apply W_l_same
  unfold F_l_same
  simp [hv.len, hw.len]
  refine ⟨fun hne => Ret.eq h ?_, fun heq => ?_⟩
  · have : xs ≠ ys := by rintro rfl; exact hne rfl
    simp [this]
  · have heq' : xs.length = ys.length := by omega
    refine ⟨fun n zs H' => ∃ i, i ≤ xs.length ∧ zs = [.int .i64 (i : Nat)] ∧ n = xs.length - i ∧ H' = H ∧ xs.take i = ys.take i, ⟨xs.length, Shr.of ⟨0, by omega, rfl, by omega, rfl, by simp⟩⟩, ?_⟩
    rintro n zs H' ⟨i, hi, rfl, rfl, rfl, ht⟩
    simp
    refine ⟨fun hlt => ⟨H', by simp, ?_⟩, fun hge => ?_⟩
    · refine hv.idx (by omega) (by simpa using hlt) fun p hp => ?_
      simp only [hp.ld]
      simp [hlt]
      refine hw.idx (by omega) (by simp; omega) fun q hq => ?_
      simp only [hq.ld]
      have hlt' : i < ys.length := by omega
      simp [hlt']
      refine ⟨fun hne => Ret.eq h ?_, fun he => ?_⟩
      · have : xs ≠ ys := by rintro rfl; exact hne rfl
        simp [this]
      · rw [i64_in (by omega) (by omega)]
        refine ⟨xs.length - (i + 1), by omega, Shr.of ⟨i + 1, by omega, by simp, rfl, rfl, ?_⟩⟩
        rw [List.take_succ_eq_append_getElem hlt, List.take_succ_eq_append_getElem hlt', ht, he]
    · have : i = xs.length := by omega
      subst this
      rw [List.take_of_length_le (by omega), List.take_of_length_le (by omega)] at ht
      exact Ret.eq h (by simp [ht])

end Go.Proofs.YtaippfedjjjpeaaGreat
