/-
Marks: what the laws write over results, and what they read back.
-/
import Derived.Test.YtaippfedjjjpeaaGreatLkM
import Derived.Test.YtaippfedjjjpeaaGreatHeldLaw
set_option linter.all false
namespace Go.Proofs.YtaippfedjjjpeaaGreat
open Go Go.Abs Go.Proofs

def mkL (k : Int) (n : Nat) : List TLink := (List.range n).map fun i => (k + 2 * (i : Nat), k + 2 * (i : Nat) + 1)
def mkS (k : Int) (n : Nat) : List TStub := (List.range n).map fun i => (k + 3 * (i : Nat), k + 3 * (i : Nat) + 1, k + 3 * (i : Nat) + 1 + 1)
theorem mkL_eq (k : Int) (n : Nat) : mkLink k n = (mkL k n).map enLink := by unfold mkLink mkL; rw [List.map_map]; rfl
theorem mkS_eq (k : Int) (n : Nat) : mkStub k n = (mkS k n).map enStub := by unfold mkStub mkS; rw [List.map_map]; rfl
@[simp] theorem mkL_len (k : Int) (n : Nat) : (mkL k n).length = n := by simp [mkL]
@[simp] theorem mkS_len (k : Int) (n : Nat) : (mkS k n).length = n := by simp [mkS]
def mkIn (k : Int) (a : TLsa) : TLsa := ⟨a.origin, a.seq, a.age, mkL k a.links.length, mkS (k + 2 * a.links.length) a.stubs.length⟩
def szm (a : TLsa) : Nat := 2 * a.links.length + 3 * a.stubs.length
theorem lsa_dp' {b : Bool} {a : TLsa} {l s : V} {H0 H2 : Heap} (h : Dp (lsaT b) H0 a (lsaRow a l s) H2) : ∃ H1, Held H0 2 (a.links.map enLink) l H1 ∧ Held H1 3 (a.stubs.map enStub) s H2 := by
  obtain ⟨l', s', H1, e, h1, h2⟩ := lsa_dp h
  simp at e
  rw [e.1, e.2]
  exact ⟨H1, h1, h2⟩
def mkA (k : Int) (a : TLsa) : TLsa := ⟨k, k + 1, k + 1 + 1, mkL (k + 1 + 1 + 1) a.links.length, mkS (k + 1 + 1 + 1 + 2 * a.links.length) a.stubs.length⟩
def szA (a : TLsa) : Nat := 3 + 2 * a.links.length + 3 * a.stubs.length
def mkAS : Int → List TLsa → List TLsa
  | _, [] => []
  | k, a :: xs => mkA k a :: mkAS (k + szA a) xs
@[simp] theorem mkAS_len : ∀ (k : Int) (xs : List TLsa), (mkAS k xs).length = xs.length
  | _, [] => rfl
  | k, a :: xs => by simp [mkAS, mkAS_len _ xs]
theorem mkAS_get : ∀ {xs : List TLsa} {k : Int} {i : Nat} (h : i < xs.length), (mkAS k xs)[i]? = some (mkA (k + sumF szA (xs.take i)) xs[i])
  | a :: xs, k, 0, _ => by simp [mkAS, sumF]
  | a :: xs, k, i + 1, h => by
    have := mkAS_get (xs := xs) (k := k + szA a) (i := i) (by simpa using h)
    simp only [mkAS, List.getElem?_cons_succ, this, List.getElem_cons_succ, List.take_succ_cons]
    congr 2
    simp [sumF]
    omega
def cur (k : Int) (xs : List TLsa) (i : Nat) : List TLsa := (mkAS k xs).take i ++ xs.drop i
theorem cur_len {k : Int} {xs : List TLsa} {i : Nat} (h : i ≤ xs.length) : (cur k xs i).length = xs.length := by simp [cur]; omega
theorem cur_get {k : Int} {xs : List TLsa} {i : Nat} (h : i < xs.length) : (cur k xs i)[i]? = some xs[i] := by
  unfold cur
  rw [over_get (by simp) (by simpa using h)]
  simp [h]
theorem cur_set {k : Int} {xs : List TLsa} {i : Nat} (h : i < xs.length) : (cur k xs i).set i (mkA (k + sumF szA (xs.take i)) xs[i]) = cur k xs (i + 1) := over_set (by simp) (mkAS_get h)
theorem cur_done {k : Int} {xs : List TLsa} : cur k xs xs.length = mkAS k xs := by
  unfold cur
  rw [List.take_of_length_le (by simp), List.drop_eq_nil_of_le (by simp)]
  simp
theorem own_lsa {b : Bool} {a : TLsa} {l s : V} {es : List Ent} (h : (lsaT b).own a (lsaRow a l s) es) : es = [⟨2, a.links.map enLink, l⟩, ⟨3, a.stubs.map enStub, s⟩] := by
  obtain ⟨l', s', e, rfl⟩ := h
  simp at e
  rw [e.1, e.2]
/-- One field of an advertisement in a slice of one's own is written over. -/
theorem lsa_put {b : Bool} {xs : List TLsa} {u : V} {H0 Ho H : Heap} {i : Nat} {f : Nat} {n : Int} {a : TLsa} {a' : TLsa} {K : Heap → Prop} (h : Dp (dbT b) H0 xs [u] Ho) (hs : Abs.sub Ho H) (ha : xs[i]? = some a) (h1 : a'.links = a.links) (h2 : a'.stubs = a.stubs)
    (hz : ∀ l s, stz 1 (lsaRow a l s) f (.int .i64 n) = some (lsaRow a' l s)) (hk : ∀ H' Ho', Dp (dbT b) H0 (xs.set i a') [u] Ho' → Abs.sub Ho' H' → K H') : bnd (aIndex H 5 u (.int .i64 (i : Nat))) fun p => bnd (aField f p) fun q => bnd (aSt 1 H q (.int .i64 n)) K := by
  obtain ⟨hi, rfl⟩ := List.getElem?_eq_some_iff.1 ha
  refine dpS_pt h hs (by omega) (by simpa using hi) fun p r hr hp => ?_
  simp only [Int.toNat_natCast] at hr hp
  obtain ⟨l, s, rfl, g1, g2⟩ := hr
  refine hp.fld fun q hq => ?_
  refine hq.st (r' := lsaRow a' l s) (a' := a') hi (by simpa using hz l s) rfl (fun es he => ?_) hk
  have := own_lsa he
  subst this
  exact ⟨l, s, rfl, by rw [h1, h2]⟩
/-- The slices inside an advertisement in a slice of one's own. -/
theorem lsa_in {b : Bool} {xs : List TLsa} {u : V} {H0 Ho H : Heap} {i : Nat} {a : TLsa} {f : Nat} {K : V → Prop} (h : Dp (dbT b) H0 xs [u] Ho) (hs : Abs.sub Ho H) (ha : xs[i]? = some a)
    (hk : ∀ l s Hm, Dp (lsaT b) Hm a (lsaRow a l s) Ho → (∀ a' Hx, Dp (lsaT b) Hm a' (lsaRow a l s) Hx → Dp (dbT b) H0 (xs.set i a') [u] Hx) → ∀ q, aLd false 1 H q = partOf false 1 (lsaRow a l s) f → K q) : bnd (aIndex H 5 u (.int .i64 (i : Nat))) fun p => bnd (aField f p) K := by
  obtain ⟨hi, rfl⟩ := List.getElem?_eq_some_iff.1 ha
  obtain ⟨rows, r, Hm, g1, g2, g3, g4, g5, g6⟩ := dpS_elem h hi
  have g4' := g4
  obtain ⟨l, s, H1, rfl, w1, w2⟩ := lsa_dp g4
  refine (g1.mono hs).idx (by omega) (by omega) fun p hp => ?_
  have hg : rows.getD (i : Int).toNat [] = lsaRow xs[i] l s := by
    rw [List.getD_eq_getElem?_getD]
    simp only [Int.toNat_natCast]
    rw [g3]; rfl
  rw [hg] at hp
  refine hp.fld fun q hq => hk l s Hm g4' g6 q ?_
  rw [hq.ld]
  simp

def InvM (b : Bool) (H0 : Heap) (xs : List TLsa) (k : Int) (u : V) (m : Nat) (ys : List V) (Hc : Heap) : Prop :=
  ∃ (i : Nat) (Ho' : Heap), i ≤ xs.length ∧ ys = [.int .i64 (k + sumF szA (xs.take i)), .int .i64 (i : Nat)] ∧ m = xs.length - i ∧ Dp (dbT b) H0 (cur k xs i) [u] Ho' ∧ Abs.sub Ho' Hc
end Go.Proofs.YtaippfedjjjpeaaGreat
