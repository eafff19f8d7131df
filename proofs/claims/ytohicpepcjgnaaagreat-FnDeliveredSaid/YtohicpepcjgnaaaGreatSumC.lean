/-
Contracts: the checksum of a database.
-/
import Derived.Test.YtohicpepcjgnaaaGreatBytM
import Derived.Test.YtohicpepcjgnaaaGreatNetF
set_option linter.all false
namespace Go.Proofs.YtohicpepcjgnaaaGreat
open Go Go.Abs Go.Proofs

def stepDb (s : Int) (l : TLsa) : Int := (31 * s + lsaSum l) % 1000003
def dbSum (xs : List TLsa) : Int := xs.foldl stepDb 1
theorem foldDb_in : ∀ (xs : List TLsa) (s : Int), 0 ≤ s ∧ s < 1000003 → 0 ≤ xs.foldl stepDb s ∧ xs.foldl stepDb s < 1000003
  | [], _, h => h
  | x :: xs, s, _ => foldDb_in xs _ (by unfold stepDb; omega)
theorem dbSum_in (xs : List TLsa) : 0 ≤ dbSum xs ∧ dbSum xs < 1000003 := foldDb_in xs 1 (by omega)
theorem dbSum_succ {xs : List TLsa} {i : Nat} (h : i < xs.length) : dbSum (xs.take (i + 1)) = stepDb (dbSum (xs.take i)) xs[i] := by
  unfold dbSum
  rw [List.take_succ_eq_append_getElem h, List.foldl_append]
  rfl
def InvDm (H : Heap) (xs : List TLsa) (m : Nat) (ys : List V) (Hc : Heap) : Prop :=
  ∃ i : Nat, i ≤ xs.length ∧ ys = [.int .i64 (dbSum (xs.take i)), .int .i64 (i : Nat)] ∧ m = xs.length - i ∧ Hc = H
theorem C_s_DbSum {b : Bool} {xs : List TLsa} {w : V} {H : Heap} {K : V → Heap → Prop} (hv : (dbT b).rd H xs [w]) (hd : dbOk xs) (h : K (.int .i64 (dbSum xs)) H) : ACalls P n_s_DbSum [.agg [w]] H K := by
  have cw := rdS_cell hv
  have hl := db_len hd
  apply W_s_DbSum
  unfold F_s_DbSum
  simp [cw]
  refine C_s_DbOk hv ?_
  simp [hd]
  refine ⟨InvDm H xs, ⟨xs.length, Shr.of ⟨0, by omega, rfl, by omega, rfl⟩⟩, ?_⟩
  rintro m ys Hc ⟨i, hi, rfl, rfl, rfl⟩
  simp [rdS_len hv]
  refine ⟨fun hlt => ?_, fun hge => ?_⟩
  · refine rdS_idx hv (by omega) (by simpa using hlt) fun p row hp hrow => ?_
    simp only [Int.toNat_natCast] at hrow
    have hrow' := hrow
    obtain ⟨l, s, rfl, g1, g2⟩ := hrow
    rw [hp.ld]
    simp
    refine C_s_LsaSum hrow' (hd.1 i hlt) ?_
    have b1 := dbSum_in (xs.take i)
    have b2 := sumR_in (lsaB xs[i])
    have b2' : 0 ≤ lsaSum xs[i] ∧ lsaSum xs[i] < 1000003 := b2
    rw [i64_in (n := 31 * dbSum (xs.take i)) (by omega) (by omega)]
    simp
    rw [i64_in (n := 31 * dbSum (xs.take i) + lsaSum xs[i]) (by omega) (by omega), Int.tmod_eq_emod_of_nonneg (by omega)]
    rw [i64_in (n := (i : Int) + 1) (by omega) (by omega)]
    exact ⟨xs.length - (i + 1), by omega, Shr.of ⟨i + 1, by omega, by simp [dbSum_succ hlt, stepDb], rfl, rfl⟩⟩
  · have : i = xs.length := by omega
    subst this
    rw [List.take_length]
    exact Ret.of h
theorem C_i_Db_sum {b : Bool} {xs : List TLsa} {w : V} {H : Heap} {K : V → Heap → Prop} (hv : (dbT b).rd H xs [w]) (hd : dbOk xs) (h : K (.int .i64 (dbSum xs)) H) : ACalls P n_i_Db_sum [.agg [w]] H K := by
  have cw := rdS_cell hv
  have hl := db_len hd
  apply W_i_Db_sum
  unfold F_i_Db_sum
  simp [cw, rdS_len hv]
  refine ⟨InvDm H xs, ⟨xs.length, Shr.of ⟨0, by omega, rfl, by omega, rfl⟩⟩, ?_⟩
  rintro m ys Hc ⟨i, hi, rfl, rfl, rfl⟩
  simp
  refine ⟨fun hlt => ?_, fun hge => ?_⟩
  · refine rdS_idx hv (by omega) (by simpa using hlt) fun p row hp hrow => ?_
    simp only [Int.toNat_natCast] at hrow
    have hrow' := hrow
    obtain ⟨l, s, rfl, g1, g2⟩ := hrow
    have hcc := lsa_cell g1 g2
    rw [hp.ld]
    simp [stz_eq, putCells, hcc]
    refine C_i_Lsa_sum hrow' (hd.1 i hlt) ?_
    have b1 := dbSum_in (xs.take i)
    have b2 := sumR_in (lsaB xs[i])
    have b2' : 0 ≤ lsaSum xs[i] ∧ lsaSum xs[i] < 1000003 := b2
    rw [i64_in (n := 31 * dbSum (xs.take i)) (by omega) (by omega)]
    simp
    rw [i64_in (n := 31 * dbSum (xs.take i) + lsaSum xs[i]) (by omega) (by omega), Int.tmod_eq_emod_of_nonneg (by omega)]
    rw [i64_in (n := (i : Int) + 1) (by omega) (by omega)]
    exact ⟨xs.length - (i + 1), by omega, Shr.of ⟨i + 1, by omega, by simp [dbSum_succ hlt, stepDb], rfl, rfl⟩⟩
  · have : i = xs.length := by omega
    subst this
    rw [List.take_length]
    exact Ret.of h
end Go.Proofs.YtohicpepcjgnaaaGreat
