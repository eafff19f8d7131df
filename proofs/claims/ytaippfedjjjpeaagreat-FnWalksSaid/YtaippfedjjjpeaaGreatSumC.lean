/-
Contracts: the checksum of a database.
-/
import Derived.Test.YtaippfedjjjpeaaGreatBytM
import Derived.Test.YtaippfedjjjpeaaGreatNetF
set_option linter.all false
namespace Go.Proofs.YtaippfedjjjpeaaGreat
open Go Go.Abs Go.Proofs

def stepDb (s : Int) (l : TLsa) : Int := (31 * s + lsaSum l) % 1000003
def dbSum (xs : List TLsa) : Int := xs.foldl stepDb 1
theorem foldDb_in : ∀ (xs : List TLsa) (s : Int), 0 ≤ s ∧ s < 1000003 → 0 ≤ xs.foldl stepDb s ∧ xs.foldl stepDb s < 1000003
  | [], _, h => h
  | x :: xs, s, _ => foldDb_in xs _ (by unfold stepDb; omega)
theorem dbSum_in (xs : List TLsa) : 0 ≤ dbSum xs ∧ dbSum xs < 1000003 := foldDb_in xs 1 (by omega)
theorem dbSum_succ {xs : List TLsa} {i : Nat} (h : i < xs.length) : dbSum (xs.take (i + 1)) = stepDb (dbSum (xs.take i)) xs[i] := by
  unfold dbSum
  rw [List.take_succ_eq_append_getElem h, List.foldl_append]
  rfl
def InvDm (H : Heap) (xs : List TLsa) (m : Nat) (ys : List V) (Hc : Heap) : Prop :=
  ∃ i : Nat, i ≤ xs.length ∧ ys = [.int .i64 (dbSum (xs.take i)), .int .i64 (i : Nat)] ∧ m = xs.length - i ∧ Hc = H
end Go.Proofs.YtaippfedjjjpeaaGreat
