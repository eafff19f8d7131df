/-
The helpers' contracts in one form: advertisements, databases, ints.
-/
import Derived.Test.YtaippfedjjjpeaaGreatMarks
import Derived.Test.YtaippfedjjjpeaaGreatLsaM
set_option linter.all false
namespace Go.Proofs.YtaippfedjjjpeaaGreat
open Go Go.Abs Go.Proofs

def bLsa (a : TLsa) : Prop := a.links.length ≤ 1048576 ∧ a.stubs.length ≤ 1048576
theorem sB_Lsa {a : TLsa} (h : bLsa a) : szm a ≤ 10000000 := by unfold bLsa at h; unfold szm; omega
def bDb (xs : List TLsa) : Prop := xs.length + sumF szl xs ≤ 1048576
theorem sumA_le : ∀ xs : List TLsa, sumF szA xs ≤ 3 * (xs.length + sumF szl xs)
  | [] => by simp [sumF]
  | a :: xs => by
    have := sumA_le xs
    have e1 : sumF szA (a :: xs) = szA a + sumF szA xs := by simp [sumF]
    have e2 : sumF szl (a :: xs) = szl a + sumF szl xs := by simp [sumF]
    rw [e1, e2]
    simp only [List.length_cons]
    unfold szA szl at *
    omega
theorem sB_Db {xs : List TLsa} (h : bDb xs) : sumF szA xs ≤ 10000000 := by
  have := sumA_le xs
  unfold bDb at h
  omega
abbrev intsT (b : Bool) : Ty (List Int) := sliceT b (flatT 1 ri (fun _ => rfl))
def bIntS (xs : List Int) : Prop := xs.length ≤ 1048576
theorem sB_IntS {xs : List Int} (h : bIntS xs) : xs.length ≤ 10000000 := by unfold bIntS at h; omega
def mkI (k : Int) (n : Nat) : List Int := (List.range n).map fun i => k + (i : Nat)
theorem mkI_eq (k : Int) (n : Nat) : marks k n = (mkI k n).map ri := by unfold marks mkI; rw [List.map_map]; rfl
@[simp] theorem mkI_len (k : Int) (n : Nat) : (mkI k n).length = n := by simp [mkI]
end Go.Proofs.YtaippfedjjjpeaaGreat
