/-
Marks: what the laws write over results, and what they read back.
-/
import Derived.Test.YtcmpkkcbdmllpacLsas
import Derived.Test.YtcmpkkcbdmllpacHeldLaw
set_option linter.all false
namespace Go.Proofs.Ytcmpkkcbdmllpac
open Go Go.Abs Go.Proofs

theorem C_l_heldLinkS {n : Nat} {v : V} {k : Int} {H : Heap} {K : V → Heap → Prop} (hv : Rd H 2 v (mkLink k n)) (hk : 0 ≤ k) (hkn : k + 2 * n ≤ 1000000000000) (h : K (.int .i64 (k + 2 * n)) H) : ACalls P n_l_heldLinkS [v, .int .i64 k] H K := by
  have hl := hv.len
  rw [mkLink_len] at hl
  apply W_l_heldLinkS
  unfold F_l_heldLinkS
  refine ⟨fun mm zs H' => ∃ i, i ≤ n ∧ zs = [.int .i64 (k + 2 * (i : Nat)), .int .i64 (i : Nat)] ∧ mm = n - i ∧ H' = H, n, Shr.of ⟨0, by omega, by simp, by omega, rfl⟩, ?_⟩
  rintro mm zs H' ⟨i, hi, rfl, rfl, rfl⟩
  simp [hl]
  refine ⟨fun hlt => ?_, fun hge => ?_⟩
  · have hrow : (mkLink k n).getD i [] = enLink (k + 2 * (i : Int), k + 2 * (i : Int) + 1) := by rw [List.getD_eq_getElem?_getD, mkLink_get hlt]; rfl
    have e1 : IntKind.i64.wrap (k + 2 * (i : Int) + 1) = k + 2 * (i : Int) + 1 := i64_in (by omega) (by omega)
    have e2 : IntKind.i64.wrap (k + 2 * (i : Int) + 1 + 1) = k + 2 * (i : Int) + 1 + 1 := i64_in (by omega) (by omega)
    have e0 : IntKind.i64.wrap ((i : Int) + 1) = (i : Int) + 1 := i64_in (by omega) (by omega)
    refine hv.idx (by omega) (by rw [mkLink_len]; omega) fun p0 hp0 => ?_
    simp only [Int.toNat_natCast, hrow] at hp0
    refine hp0.fld fun q00 hq00 => ?_
    rw [hq00.ld]
    simp [e1, e0]
    refine hv.idx (by omega) (by rw [mkLink_len]; omega) fun p1 hp1 => ?_
    simp only [Int.toNat_natCast, hrow] at hp1
    refine hp1.fld fun q10 hq10 => ?_
    rw [hq10.ld]
    simp [e2, e0]
    exact ⟨n - (i + 1), by omega, Shr.of ⟨i + 1, by omega, by simp; omega, rfl, rfl⟩⟩
  · have : i = n := by omega
    subst this
    exact Ret.of h


theorem C_l_heldStubS {n : Nat} {v : V} {k : Int} {H : Heap} {K : V → Heap → Prop} (hv : Rd H 3 v (mkStub k n)) (hk : 0 ≤ k) (hkn : k + 3 * n ≤ 1000000000000) (h : K (.int .i64 (k + 3 * n)) H) : ACalls P n_l_heldStubS [v, .int .i64 k] H K := by
  have hl := hv.len
  rw [mkStub_len] at hl
  apply W_l_heldStubS
  unfold F_l_heldStubS
  refine ⟨fun mm zs H' => ∃ i, i ≤ n ∧ zs = [.int .i64 (k + 3 * (i : Nat)), .int .i64 (i : Nat)] ∧ mm = n - i ∧ H' = H, n, Shr.of ⟨0, by omega, by simp, by omega, rfl⟩, ?_⟩
  rintro mm zs H' ⟨i, hi, rfl, rfl, rfl⟩
  simp [hl]
  refine ⟨fun hlt => ?_, fun hge => ?_⟩
  · have hrow : (mkStub k n).getD i [] = enStub (k + 3 * (i : Int), k + 3 * (i : Int) + 1, k + 3 * (i : Int) + 1 + 1) := by rw [List.getD_eq_getElem?_getD, mkStub_get hlt]; rfl
    have e1 : IntKind.i64.wrap (k + 3 * (i : Int) + 1) = k + 3 * (i : Int) + 1 := i64_in (by omega) (by omega)
    have e2 : IntKind.i64.wrap (k + 3 * (i : Int) + 1 + 1) = k + 3 * (i : Int) + 1 + 1 := i64_in (by omega) (by omega)
    have e3 : IntKind.i64.wrap (k + 3 * (i : Int) + 1 + 1 + 1) = k + 3 * (i : Int) + 1 + 1 + 1 := i64_in (by omega) (by omega)
    have e0 : IntKind.i64.wrap ((i : Int) + 1) = (i : Int) + 1 := i64_in (by omega) (by omega)
    refine hv.idx (by omega) (by rw [mkStub_len]; omega) fun p0 hp0 => ?_
    simp only [Int.toNat_natCast, hrow] at hp0
    refine hp0.fld fun q00 hq00 => ?_
    refine hq00.fld fun q01 hq01 => ?_
    rw [hq01.ld]
    simp [e1, e0]
    refine hv.idx (by omega) (by rw [mkStub_len]; omega) fun p1 hp1 => ?_
    simp only [Int.toNat_natCast, hrow] at hp1
    refine hp1.fld fun q10 hq10 => ?_
    refine hq10.fld fun q11 hq11 => ?_
    rw [hq11.ld]
    simp [e2, e0]
    refine hv.idx (by omega) (by rw [mkStub_len]; omega) fun p2 hp2 => ?_
    simp only [Int.toNat_natCast, hrow] at hp2
    refine hp2.fld fun q20 hq20 => ?_
    rw [hq20.ld]
    simp [e3, e0]
    exact ⟨n - (i + 1), by omega, Shr.of ⟨i + 1, by omega, by simp; omega, rfl, rfl⟩⟩
  · have : i = n := by omega
    subst this
    exact Ret.of h

def mkL (k : Int) (n : Nat) : List TLink := (List.range n).map fun i => (k + 2 * (i : Nat), k + 2 * (i : Nat) + 1)
def mkS (k : Int) (n : Nat) : List TStub := (List.range n).map fun i => (k + 3 * (i : Nat), k + 3 * (i : Nat) + 1, k + 3 * (i : Nat) + 1 + 1)
theorem mkL_eq (k : Int) (n : Nat) : mkLink k n = (mkL k n).map enLink := by unfold mkLink mkL; rw [List.map_map]; rfl
theorem mkS_eq (k : Int) (n : Nat) : mkStub k n = (mkS k n).map enStub := by unfold mkStub mkS; rw [List.map_map]; rfl
@[simp] theorem mkL_len (k : Int) (n : Nat) : (mkL k n).length = n := by simp [mkL]
@[simp] theorem mkS_len (k : Int) (n : Nat) : (mkS k n).length = n := by simp [mkS]
def mkIn (k : Int) (a : TLsa) : TLsa := ⟨a.origin, a.seq, a.age, mkL k a.links.length, mkS (k + 2 * a.links.length) a.stubs.length⟩
def szm (a : TLsa) : Nat := 2 * a.links.length + 3 * a.stubs.length
theorem lsa_dp' {b : Bool} {a : TLsa} {l s : V} {H0 H2 : Heap} (h : Dp (lsaT b) H0 a (lsaRow a l s) H2) : ∃ H1, Held H0 2 (a.links.map enLink) l H1 ∧ Held H1 3 (a.stubs.map enStub) s H2 := by
  obtain ⟨l', s', H1, e, h1, h2⟩ := lsa_dp h
  simp at e
  rw [e.1, e.2]
  exact ⟨H1, h1, h2⟩
theorem C_l_markLsa {b : Bool} {a : TLsa} {vs : List V} {k : Int} {H0 Ho H : Heap} {K : V → Heap → Prop} (hu : Dp (lsaT b) H0 a vs Ho) (hs : Abs.sub Ho H) (hk : 0 ≤ k) (hkn : k + szm a ≤ 1000000000000)
    (h : ∀ H' Ho', Dp (lsaT b) H0 (mkIn k a) vs Ho' → Abs.sub Ho' H' → K (.int .i64 (k + szm a)) H') : ACalls P n_l_markLsa [.agg vs, .int .i64 k] H K := by
  obtain ⟨l, s, H1, rfl, h1, h2⟩ := lsa_dp hu
  have c1 := h1.cell
  have c2 := h2.cell
  unfold szm at hkn h
  apply W_l_markLsa
  unfold F_l_markLsa
  simp [c1, c2]
  obtain ⟨Hm, g1, g2⟩ := h1.swap h2
  refine C_markLinkHeld g2 hs enLink_len hk (by simp; omega) fun H' Ho' q1 q2 => ?_
  simp [c1, c2] at q1 ⊢
  obtain ⟨Hm2, e1, e2⟩ := g1.swap q1
  refine C_markStubHeld e2 q2 enStub_len (by omega) (by simp; omega) fun H'' Ho'' r1 r2 => ?_
  simp at r1
  rw [mkL_eq] at e1
  rw [mkS_eq] at r1
  refine Ret.eq (h _ _ (Dp.lsa (a := mkIn k a) e1 r1) r2) ?_
  simp
  omega
theorem C_l_heldLsa {b : Bool} {a : TLsa} {vs : List V} {k : Int} {H : Heap} {K : V → Heap → Prop} (hv : (lsaT b).rd H (mkIn k a) vs) (hk : 0 ≤ k) (hkn : k + szm a ≤ 1000000000000) (h : K (.int .i64 (k + szm a)) H) : ACalls P n_l_heldLsa [.agg vs, .int .i64 k] H K := by
  obtain ⟨l, s, rfl, h2, h3⟩ := hv
  have hc := lsa_cell h2 h3
  unfold szm at hkn h
  apply W_l_heldLsa
  unfold F_l_heldLsa
  simp [hc]
  have h2 := h2.1
  have h3 := h3.1
  simp only [mkIn, ← mkL_eq, ← mkS_eq] at h2 h3
  refine C_l_heldLinkS h2 hk (by omega) ?_
  simp
  refine ⟨fun hh => absurd hh (by omega), fun _ => ?_⟩
  refine C_l_heldStubS h3 (by omega) (by omega) ?_
  simp
  refine ⟨fun hh => absurd hh (by omega), fun _ => Ret.eq h ?_⟩
  simp
  omega

def mkA (k : Int) (a : TLsa) : TLsa := ⟨k, k + 1, k + 1 + 1, mkL (k + 1 + 1 + 1) a.links.length, mkS (k + 1 + 1 + 1 + 2 * a.links.length) a.stubs.length⟩
def szA (a : TLsa) : Nat := 3 + 2 * a.links.length + 3 * a.stubs.length
def mkAS : Int → List TLsa → List TLsa
  | _, [] => []
  | k, a :: xs => mkA k a :: mkAS (k + szA a) xs
@[simp] theorem mkAS_len : ∀ (k : Int) (xs : List TLsa), (mkAS k xs).length = xs.length
  | _, [] => rfl
  | k, a :: xs => by simp [mkAS, mkAS_len _ xs]
theorem mkAS_get : ∀ {xs : List TLsa} {k : Int} {i : Nat} (h : i < xs.length), (mkAS k xs)[i]? = some (mkA (k + sumF szA (xs.take i)) xs[i])
  | a :: xs, k, 0, _ => by simp [mkAS, sumF]
  | a :: xs, k, i + 1, h => by
    have := mkAS_get (xs := xs) (k := k + szA a) (i := i) (by simpa using h)
    simp only [mkAS, List.getElem?_cons_succ, this, List.getElem_cons_succ, List.take_succ_cons]
    congr 2
    simp [sumF]
    omega
def cur (k : Int) (xs : List TLsa) (i : Nat) : List TLsa := (mkAS k xs).take i ++ xs.drop i
theorem cur_len {k : Int} {xs : List TLsa} {i : Nat} (h : i ≤ xs.length) : (cur k xs i).length = xs.length := by simp [cur]; omega
theorem cur_get {k : Int} {xs : List TLsa} {i : Nat} (h : i < xs.length) : (cur k xs i)[i]? = some xs[i] := by
  unfold cur
  rw [over_get (by simp) (by simpa using h)]
  simp [h]
theorem cur_set {k : Int} {xs : List TLsa} {i : Nat} (h : i < xs.length) : (cur k xs i).set i (mkA (k + sumF szA (xs.take i)) xs[i]) = cur k xs (i + 1) := over_set (by simp) (mkAS_get h)
theorem cur_done {k : Int} {xs : List TLsa} : cur k xs xs.length = mkAS k xs := by
  unfold cur
  rw [List.take_of_length_le (by simp), List.drop_eq_nil_of_le (by simp)]
  simp
theorem own_lsa {b : Bool} {a : TLsa} {l s : V} {es : List Ent} (h : (lsaT b).own a (lsaRow a l s) es) : es = [⟨2, a.links.map enLink, l⟩, ⟨3, a.stubs.map enStub, s⟩] := by
  obtain ⟨l', s', e, rfl⟩ := h
  simp at e
  rw [e.1, e.2]
/-- One field of an advertisement in a slice of one's own is written over. -/
theorem lsa_put {b : Bool} {xs : List TLsa} {u : V} {H0 Ho H : Heap} {i : Nat} {f : Nat} {n : Int} {a : TLsa} {a' : TLsa} {K : Heap → Prop} (h : Dp (dbT b) H0 xs [u] Ho) (hs : Abs.sub Ho H) (ha : xs[i]? = some a) (h1 : a'.links = a.links) (h2 : a'.stubs = a.stubs)
    (hz : ∀ l s, stz 1 (lsaRow a l s) f (.int .i64 n) = some (lsaRow a' l s)) (hk : ∀ H' Ho', Dp (dbT b) H0 (xs.set i a') [u] Ho' → Abs.sub Ho' H' → K H') : bnd (aIndex H 5 u (.int .i64 (i : Nat))) fun p => bnd (aField f p) fun q => bnd (aSt 1 H q (.int .i64 n)) K := by
  obtain ⟨hi, rfl⟩ := List.getElem?_eq_some_iff.1 ha
  refine dpS_pt h hs (by omega) (by simpa using hi) fun p r hr hp => ?_
  simp only [Int.toNat_natCast] at hr hp
  obtain ⟨l, s, rfl, g1, g2⟩ := hr
  refine hp.fld fun q hq => ?_
  refine hq.st (r' := lsaRow a' l s) (a' := a') hi (by simpa using hz l s) rfl (fun es he => ?_) hk
  have := own_lsa he
  subst this
  exact ⟨l, s, rfl, by rw [h1, h2]⟩
/-- The slices inside an advertisement in a slice of one's own. -/
theorem lsa_in {b : Bool} {xs : List TLsa} {u : V} {H0 Ho H : Heap} {i : Nat} {a : TLsa} {f : Nat} {K : V → Prop} (h : Dp (dbT b) H0 xs [u] Ho) (hs : Abs.sub Ho H) (ha : xs[i]? = some a)
    (hk : ∀ l s Hm, Dp (lsaT b) Hm a (lsaRow a l s) Ho → (∀ a' Hx, Dp (lsaT b) Hm a' (lsaRow a l s) Hx → Dp (dbT b) H0 (xs.set i a') [u] Hx) → ∀ q, aLd false 1 H q = partOf false 1 (lsaRow a l s) f → K q) : bnd (aIndex H 5 u (.int .i64 (i : Nat))) fun p => bnd (aField f p) K := by
  obtain ⟨hi, rfl⟩ := List.getElem?_eq_some_iff.1 ha
  obtain ⟨rows, r, Hm, g1, g2, g3, g4, g5, g6⟩ := dpS_elem h hi
  have g4' := g4
  obtain ⟨l, s, H1, rfl, w1, w2⟩ := lsa_dp g4
  refine (g1.mono hs).idx (by omega) (by omega) fun p hp => ?_
  have hg : rows.getD (i : Int).toNat [] = lsaRow xs[i] l s := by
    rw [List.getD_eq_getElem?_getD]
    simp only [Int.toNat_natCast]
    rw [g3]; rfl
  rw [hg] at hp
  refine hp.fld fun q hq => hk l s Hm g4' g6 q ?_
  rw [hq.ld]
  simp

def InvM (b : Bool) (H0 : Heap) (xs : List TLsa) (k : Int) (u : V) (m : Nat) (ys : List V) (Hc : Heap) : Prop :=
  ∃ (i : Nat) (Ho' : Heap), i ≤ xs.length ∧ ys = [.int .i64 (k + sumF szA (xs.take i)), .int .i64 (i : Nat)] ∧ m = xs.length - i ∧ Dp (dbT b) H0 (cur k xs i) [u] Ho' ∧ Abs.sub Ho' Hc
end Go.Proofs.Ytcmpkkcbdmllpac
