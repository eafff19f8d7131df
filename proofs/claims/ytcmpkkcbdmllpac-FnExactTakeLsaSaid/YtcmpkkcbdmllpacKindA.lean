/-
The helpers' contracts in one form: advertisements, databases, ints.
-/
import Derived.Test.YtcmpkkcbdmllpacMarks
import Derived.Test.YtcmpkkcbdmllpacLsaC
set_option linter.all false
namespace Go.Proofs.Ytcmpkkcbdmllpac
open Go Go.Abs Go.Proofs

def bLsa (a : TLsa) : Prop := a.links.length ≤ 1048576 ∧ a.stubs.length ≤ 1048576
theorem sB_Lsa {a : TLsa} (h : bLsa a) : szm a ≤ 10000000 := by unfold bLsa at h; unfold szm; omega
theorem C_eq_Lsa {b c : Bool} {a a' : TLsa} {vs us : List V} {H : Heap} {K : V → Heap → Prop} (hv : (lsaT b).rd H a vs) (hw : (lsaT c).rd H a' us) (hb : bLsa a) (h : K (.bool (decide (a = a'))) H) : ACalls P n_l_eqLsa [.agg vs, .agg us] H K :=
  C_l_eqLsa hv hw (by unfold bLsa at hb; omega) h
theorem C_mark_Lsa {a : TLsa} {vs : List V} {k : Int} {H0 Ho H : Heap} {K : V → Heap → Prop} (hu : Dp (lsaT false) H0 a vs Ho) (hs : Abs.sub Ho H) (hb : bLsa a) (hk : 0 ≤ k ∧ k ≤ 1000000000)
    (h : ∀ H' Ho', Dp (lsaT false) H0 (mkIn k a) vs Ho' → Abs.sub Ho' H' → K (.int .i64 (k + szm a)) H') : ACalls P n_l_markLsa [.agg vs, .int .i64 k] H K := by
  have := sB_Lsa hb
  exact C_l_markLsa hu hs hk.1 (by omega) h
theorem C_held_Lsa {b : Bool} {a : TLsa} {vs : List V} {k : Int} {H : Heap} {K : V → Heap → Prop} (hv : (lsaT b).rd H (mkIn k a) vs) (hb : bLsa a) (hk : 0 ≤ k ∧ k ≤ 1000000000) (h : K (.int .i64 (k + szm a)) H) : ACalls P n_l_heldLsa [.agg vs, .int .i64 k] H K := by
  have := sB_Lsa hb
  exact C_l_heldLsa hv hk.1 (by omega) h

def bDb (xs : List TLsa) : Prop := xs.length + sumF szl xs ≤ 1048576
theorem sumA_le : ∀ xs : List TLsa, sumF szA xs ≤ 3 * (xs.length + sumF szl xs)
  | [] => by simp [sumF]
  | a :: xs => by
    have := sumA_le xs
    have e1 : sumF szA (a :: xs) = szA a + sumF szA xs := by simp [sumF]
    have e2 : sumF szl (a :: xs) = szl a + sumF szl xs := by simp [sumF]
    rw [e1, e2]
    simp only [List.length_cons]
    unfold szA szl at *
    omega
theorem sB_Db {xs : List TLsa} (h : bDb xs) : sumF szA xs ≤ 10000000 := by
  have := sumA_le xs
  unfold bDb at h
  omega
abbrev intsT (b : Bool) : Ty (List Int) := sliceT b (flatT 1 ri (fun _ => rfl))
def bIntS (xs : List Int) : Prop := xs.length ≤ 1048576
theorem sB_IntS {xs : List Int} (h : bIntS xs) : xs.length ≤ 10000000 := by unfold bIntS at h; omega
def mkI (k : Int) (n : Nat) : List Int := (List.range n).map fun i => k + (i : Nat)
theorem mkI_eq (k : Int) (n : Nat) : marks k n = (mkI k n).map ri := by unfold marks mkI; rw [List.map_map]; rfl
@[simp] theorem mkI_len (k : Int) (n : Nat) : (mkI k n).length = n := by simp [mkI]
end Go.Proofs.Ytcmpkkcbdmllpac
