/-
The helpers' contracts in one form: advertisements, databases, ints.
-/
import Derived.Test.YtaippfedjjjpeaaGreatMarks
import Derived.Test.YtaippfedjjjpeaaGreatLsaM
set_option linter.all false
namespace Go.Proofs.YtaippfedjjjpeaaGreat
open Go Go.Abs Go.Proofs

def bLsa (a : TLsa) : Prop := a.links.length ≤ 1048576 ∧ a.stubs.length ≤ 1048576
theorem sB_Lsa {a : TLsa} (h : bLsa a) : szm a ≤ 10000000 := by unfold bLsa at h; unfold szm; omega
theorem C_to_Lsa {b : Bool} {a : TLsa} {vs : List V} {H : Heap} {K : V → Heap → Prop} (hv : (lsaT b).rd H a vs) (hb : bLsa a) (h : ∀ us H', Dp (lsaT false) H a us H' → K (.agg us) H') : ACalls P n_l_toLsa [.agg vs] H K :=
  C_l_toLsa hv (by unfold bLsa at hb; omega) h
theorem C_eq_Lsa {b c : Bool} {a a' : TLsa} {vs us : List V} {H : Heap} {K : V → Heap → Prop} (hv : (lsaT b).rd H a vs) (hw : (lsaT c).rd H a' us) (hb : bLsa a) (h : K (.bool (decide (a = a'))) H) : ACalls P n_l_eqLsa [.agg vs, .agg us] H K :=
  C_l_eqLsa hv hw (by unfold bLsa at hb; omega) h
def bDb (xs : List TLsa) : Prop := xs.length + sumF szl xs ≤ 1048576
theorem sumA_le : ∀ xs : List TLsa, sumF szA xs ≤ 3 * (xs.length + sumF szl xs)
  | [] => by simp [sumF]
  | a :: xs => by
    have := sumA_le xs
    have e1 : sumF szA (a :: xs) = szA a + sumF szA xs := by simp [sumF]
    have e2 : sumF szl (a :: xs) = szl a + sumF szl xs := by simp [sumF]
    rw [e1, e2]
    simp only [List.length_cons]
    unfold szA szl at *
    omega
theorem sB_Db {xs : List TLsa} (h : bDb xs) : sumF szA xs ≤ 10000000 := by
  have := sumA_le xs
  unfold bDb at h
  omega
theorem C_to_Db {b : Bool} {xs : List TLsa} {w : V} {H : Heap} {K : V → Heap → Prop} (hv : (dbT b).rd H xs [w]) (hb : bDb xs) (h : ∀ u H', Dp (dbT false) H xs [u] H' → K (.agg [u]) H') : ACalls P n_l_toDb [.agg [w]] H K := C_l_toDb hv hb h
theorem C_eq_Db {b c : Bool} {xs bs : List TLsa} {v w : V} {H : Heap} {K : V → Heap → Prop} (hv : (dbT b).rd H xs [v]) (hw : (dbT c).rd H bs [w]) (hb : bDb xs) (h : K (.bool (decide (xs = bs))) H) : ACalls P n_l_eqDb [.agg [v], .agg [w]] H K := C_l_eqDb hv hw hb h
theorem C_mark_Db {xs : List TLsa} {u : V} {k : Int} {H0 Ho H : Heap} {K : V → Heap → Prop} (hu : Dp (dbT false) H0 xs [u] Ho) (hs : Abs.sub Ho H) (hb : bDb xs) (hk : 0 ≤ k ∧ k ≤ 1000000000)
    (h : ∀ H' Ho', Dp (dbT false) H0 (mkAS k xs) [u] Ho' → Abs.sub Ho' H' → K (.int .i64 (k + sumF szA xs)) H') : ACalls P n_l_markDb [.agg [u], .int .i64 k] H K := by
  have := sB_Db hb
  exact C_l_markDb hu hs hk.1 (by omega) (by unfold bDb at hb; omega) h
abbrev intsT (b : Bool) : Ty (List Int) := sliceT b (flatT 1 ri (fun _ => rfl))
def bIntS (xs : List Int) : Prop := xs.length ≤ 1048576
theorem sB_IntS {xs : List Int} (h : bIntS xs) : xs.length ≤ 10000000 := by unfold bIntS at h; omega
def mkI (k : Int) (n : Nat) : List Int := (List.range n).map fun i => k + (i : Nat)
theorem mkI_eq (k : Int) (n : Nat) : marks k n = (mkI k n).map ri := by unfold marks mkI; rw [List.map_map]; rfl
@[simp] theorem mkI_len (k : Int) (n : Nat) : (mkI k n).length = n := by simp [mkI]
end Go.Proofs.YtaippfedjjjpeaaGreat
