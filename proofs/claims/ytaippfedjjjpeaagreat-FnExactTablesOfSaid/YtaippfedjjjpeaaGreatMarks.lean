/-
Marks: what the laws write over results, and what they read back.
-/
import Derived.Test.YtaippfedjjjpeaaGreatLsas
import Derived.Test.YtaippfedjjjpeaaGreatHeldLaw
set_option linter.all false
namespace Go.Proofs.YtaippfedjjjpeaaGreat
open Go Go.Abs Go.Proofs

def mkL (k : Int) (n : Nat) : List TLink := (List.range n).map fun i => (k + 2 * (i : Nat), k + 2 * (i : Nat) + 1)
def mkS (k : Int) (n : Nat) : List TStub := (List.range n).map fun i => (k + 3 * (i : Nat), k + 3 * (i : Nat) + 1, k + 3 * (i : Nat) + 1 + 1)
theorem mkL_eq (k : Int) (n : Nat) : mkLink k n = (mkL k n).map enLink := by unfold mkLink mkL; rw [List.map_map]; rfl
theorem mkS_eq (k : Int) (n : Nat) : mkStub k n = (mkS k n).map enStub := by unfold mkStub mkS; rw [List.map_map]; rfl
@[simp] theorem mkL_len (k : Int) (n : Nat) : (mkL k n).length = n := by simp [mkL]
@[simp] theorem mkS_len (k : Int) (n : Nat) : (mkS k n).length = n := by simp [mkS]
def mkIn (k : Int) (a : TLsa) : TLsa := ⟨a.origin, a.seq, a.age, mkL k a.links.length, mkS (k + 2 * a.links.length) a.stubs.length⟩
def szm (a : TLsa) : Nat := 2 * a.links.length + 3 * a.stubs.length
theorem lsa_dp' {b : Bool} {a : TLsa} {l s : V} {H0 H2 : Heap} (h : Dp (lsaT b) H0 a (lsaRow a l s) H2) : ∃ H1, Held H0 2 (a.links.map enLink) l H1 ∧ Held H1 3 (a.stubs.map enStub) s H2 := by
  obtain ⟨l', s', H1, e, h1, h2⟩ := lsa_dp h
  simp at e
  rw [e.1, e.2]
  exact ⟨H1, h1, h2⟩
def mkA (k : Int) (a : TLsa) : TLsa := ⟨k, k + 1, k + 1 + 1, mkL (k + 1 + 1 + 1) a.links.length, mkS (k + 1 + 1 + 1 + 2 * a.links.length) a.stubs.length⟩
def szA (a : TLsa) : Nat := 3 + 2 * a.links.length + 3 * a.stubs.length
def mkAS : Int → List TLsa → List TLsa
  | _, [] => []
  | k, a :: xs => mkA k a :: mkAS (k + szA a) xs
@[simp] theorem mkAS_len : ∀ (k : Int) (xs : List TLsa), (mkAS k xs).length = xs.length
  | _, [] => rfl
  | k, a :: xs => by simp [mkAS, mkAS_len _ xs]
theorem mkAS_get : ∀ {xs : List TLsa} {k : Int} {i : Nat} (h : i < xs.length), (mkAS k xs)[i]? = some (mkA (k + sumF szA (xs.take i)) xs[i])
  | a :: xs, k, 0, _ => by simp [mkAS, sumF]
  | a :: xs, k, i + 1, h => by
    have := mkAS_get (xs := xs) (k := k + szA a) (i := i) (by simpa using h)
    simp only [mkAS, List.getElem?_cons_succ, this, List.getElem_cons_succ, List.take_succ_cons]
    congr 2
    simp [sumF]
    omega
def cur (k : Int) (xs : List TLsa) (i : Nat) : List TLsa := (mkAS k xs).take i ++ xs.drop i
theorem cur_len {k : Int} {xs : List TLsa} {i : Nat} (h : i ≤ xs.length) : (cur k xs i).length = xs.length := by simp [cur]; omega
theorem cur_get {k : Int} {xs : List TLsa} {i : Nat} (h : i < xs.length) : (cur k xs i)[i]? = some xs[i] := by
  unfold cur
  rw [over_get (by simp) (by simpa using h)]
  simp [h]
theorem cur_set {k : Int} {xs : List TLsa} {i : Nat} (h : i < xs.length) : (cur k xs i).set i (mkA (k + sumF szA (xs.take i)) xs[i]) = cur k xs (i + 1) := over_set (by simp) (mkAS_get h)
theorem cur_done {k : Int} {xs : List TLsa} : cur k xs xs.length = mkAS k xs := by
  unfold cur
  rw [List.take_of_length_le (by simp), List.drop_eq_nil_of_le (by simp)]
  simp
theorem own_lsa {b : Bool} {a : TLsa} {l s : V} {es : List Ent} (h : (lsaT b).own a (lsaRow a l s) es) : es = [⟨2, a.links.map enLink, l⟩, ⟨3, a.stubs.map enStub, s⟩] := by
  obtain ⟨l', s', e, rfl⟩ := h
  simp at e
  rw [e.1, e.2]
/-- One field of an advertisement in a slice of one's own is written over. -/
theorem lsa_put {b : Bool} {xs : List TLsa} {u : V} {H0 Ho H : Heap} {i : Nat} {f : Nat} {n : Int} {a : TLsa} {a' : TLsa} {K : Heap → Prop} (h : Dp (dbT b) H0 xs [u] Ho) (hs : Abs.sub Ho H) (ha : xs[i]? = some a) (h1 : a'.links = a.links) (h2 : a'.stubs = a.stubs)
    (hz : ∀ l s, stz 1 (lsaRow a l s) f (.int .i64 n) = some (lsaRow a' l s)) (hk : ∀ H' Ho', Dp (dbT b) H0 (xs.set i a') [u] Ho' → Abs.sub Ho' H' → K H') : bnd (aIndex H 5 u (.int .i64 (i : Nat))) fun p => bnd (aField f p) fun q => bnd (aSt 1 H q (.int .i64 n)) K := by
  obtain ⟨hi, rfl⟩ := List.getElem?_eq_some_iff.1 ha
  refine dpS_pt h hs (by omega) (by simpa using hi) fun p r hr hp => ?_
  simp only [Int.toNat_natCast] at hr hp
  obtain ⟨l, s, rfl, g1, g2⟩ := hr
  refine hp.fld fun q hq => ?_
  refine hq.st (r' := lsaRow a' l s) (a' := a') hi (by simpa using hz l s) rfl (fun es he => ?_) hk
  have := own_lsa he
  subst this
  exact ⟨l, s, rfl, by rw [h1, h2]⟩
/-- The slices inside an advertisement in a slice of one's own. -/
theorem lsa_in {b : Bool} {xs : List TLsa} {u : V} {H0 Ho H : Heap} {i : Nat} {a : TLsa} {f : Nat} {K : V → Prop} (h : Dp (dbT b) H0 xs [u] Ho) (hs : Abs.sub Ho H) (ha : xs[i]? = some a)
    (hk : ∀ l s Hm, Dp (lsaT b) Hm a (lsaRow a l s) Ho → (∀ a' Hx, Dp (lsaT b) Hm a' (lsaRow a l s) Hx → Dp (dbT b) H0 (xs.set i a') [u] Hx) → ∀ q, aLd false 1 H q = partOf false 1 (lsaRow a l s) f → K q) : bnd (aIndex H 5 u (.int .i64 (i : Nat))) fun p => bnd (aField f p) K := by
  obtain ⟨hi, rfl⟩ := List.getElem?_eq_some_iff.1 ha
  obtain ⟨rows, r, Hm, g1, g2, g3, g4, g5, g6⟩ := dpS_elem h hi
  have g4' := g4
  obtain ⟨l, s, H1, rfl, w1, w2⟩ := lsa_dp g4
  refine (g1.mono hs).idx (by omega) (by omega) fun p hp => ?_
  have hg : rows.getD (i : Int).toNat [] = lsaRow xs[i] l s := by
    rw [List.getD_eq_getElem?_getD]
    simp only [Int.toNat_natCast]
    rw [g3]; rfl
  rw [hg] at hp
  refine hp.fld fun q hq => hk l s Hm g4' g6 q ?_
  rw [hq.ld]
  simp

def InvM (b : Bool) (H0 : Heap) (xs : List TLsa) (k : Int) (u : V) (m : Nat) (ys : List V) (Hc : Heap) : Prop :=
  ∃ (i : Nat) (Ho' : Heap), i ≤ xs.length ∧ ys = [.int .i64 (k + sumF szA (xs.take i)), .int .i64 (i : Nat)] ∧ m = xs.length - i ∧ Dp (dbT b) H0 (cur k xs i) [u] Ho' ∧ Abs.sub Ho' Hc
theorem C_l_markLsaS {b : Bool} {xs : List TLsa} {u : V} {k : Int} {H0 Ho H : Heap} {K : V → Heap → Prop} (hu : Dp (dbT b) H0 xs [u] Ho) (hs : Abs.sub Ho H) (hk : 0 ≤ k) (hkn : k + sumF szA xs ≤ 1000000000000) (hl : xs.length ≤ 1048576)
    (h : ∀ H' Ho', Dp (dbT b) H0 (mkAS k xs) [u] Ho' → Abs.sub Ho' H' → K (.int .i64 (k + sumF szA xs)) H') : ACalls P n_l_markLsaS [u, .int .i64 k] H K := by
  apply W_l_markLsaS
  unfold F_l_markLsaS
  refine ⟨InvM b H0 xs k u, xs.length, Shr.of ⟨0, Ho, by omega, by simp [sumF], by omega, by simpa [cur] using hu, hs⟩, ?_⟩
  rintro m ys Hc ⟨i, Ho', hi, rfl, rfl, hc, hsub⟩
  have hlu : lenOf u = some xs.length := by rw [rdS_len hc.rd, cur_len hi]
  simp [hlu]
  refine ⟨fun hlt => ?_, fun hge => ?_⟩
  · have hsum := sumF_succ (f := szA) hlt
    have hle : sumF szA (xs.take (i + 1)) ≤ sumF szA xs := sumF_le (i + 1)
    have hz : szA xs[i] = 3 + 2 * xs[i].links.length + 3 * xs[i].stubs.length := rfl
    have ha := cur_get (k := k) hlt
    generalize hc0 : cur k xs i = C at hc ha
    have hCi : i < C.length := (List.getElem?_eq_some_iff.1 ha).1
    generalize hkk : k + (sumF szA (xs.take i) : Int) = kk at *
    have e1 : IntKind.i64.wrap (kk + 1) = kk + 1 := i64_in (by omega) (by omega)
    have e2 : IntKind.i64.wrap (kk + 1 + 1) = kk + 1 + 1 := i64_in (by omega) (by omega)
    have e3 : IntKind.i64.wrap (kk + 1 + 1 + 1) = kk + 1 + 1 + 1 := i64_in (by omega) (by omega)
    have e0 : IntKind.i64.wrap ((i : Int) + 1) = (i : Int) + 1 := i64_in (by omega) (by omega)
    generalize hai : xs[i] = a at *
    refine lsa_put (a := a) (a' := ⟨kk, a.seq, a.age, a.links, a.stubs⟩) hc hsub ha rfl rfl (fun l s => by simp [stz_eq, putCells]) fun H1 Ho1 hc1 hs1 => ?_
    simp only [e1, e2, e3, e0]
    refine lsa_put (a' := ⟨kk, kk + 1, a.age, a.links, a.stubs⟩) hc1 hs1 (List.getElem?_set_self hCi) rfl rfl (fun l s => by simp [stz_eq, putCells]) fun H2 Ho2 hc2 hs2 => ?_
    rw [List.set_set] at hc2
    refine lsa_put (a' := ⟨kk, kk + 1, kk + 1 + 1, a.links, a.stubs⟩) hc2 hs2 (List.getElem?_set_self hCi) rfl rfl (fun l s => by simp [stz_eq, putCells]) fun H3 Ho3 hc3 hs3 => ?_
    rw [List.set_set] at hc3
    refine lsa_in (f := 3) hc3 hs3 (List.getElem?_set_self hCi) fun l s Hm w1 w2 q hq => ?_
    obtain ⟨Hn, d1, d2⟩ := lsa_dp' w1
    have c1 := d1.cell
    rw [hq]
    simp [c1]
    obtain ⟨Hn2, d3, d4⟩ := d1.swap d2
    refine C_markLinkHeld d4 hs3 enLink_len (by omega) (by simp; omega) fun H4 Ho4 d5 hs4 => ?_
    simp at d5 ⊢
    obtain ⟨Hn3, d6, d7⟩ := d3.swap d5
    rw [mkL_eq] at d6
    have hc4 := w2 ⟨kk, kk + 1, kk + 1 + 1, mkL (kk + 1 + 1 + 1) a.links.length, a.stubs⟩ _ (Dp.lsa d6 d7)
    rw [List.set_set] at hc4
    refine lsa_in (f := 4) hc4 hs4 (List.getElem?_set_self hCi) fun l s Hm w1 w2 q hq => ?_
    obtain ⟨Hk, f1, f2⟩ := lsa_dp' w1
    have c2 := f2.cell
    rw [hq]
    simp [c2]
    refine C_markStubHeld f2 hs4 enStub_len (by omega) (by simp; omega) fun H5 Ho5 f3 hs5 => ?_
    simp at f3 ⊢
    rw [mkS_eq] at f3
    have hc5 := w2 (mkA kk a) _ (Dp.lsa f1 f3)
    rw [List.set_set, ← hc0, ← hkk, ← hai, cur_set hlt] at hc5
    refine ⟨xs.length - (i + 1), by omega, Shr.of ⟨i + 1, Ho5, by omega, ?_, rfl, hc5, hs5⟩⟩
    rw [hsum]
    simp
    omega
  · have : i = xs.length := by omega
    subst this
    rw [List.take_length] at *
    rw [cur_done] at hc
    exact Ret.of (h _ _ hc hsub)
theorem C_l_markDb {b : Bool} {xs : List TLsa} {u : V} {k : Int} {H0 Ho H : Heap} {K : V → Heap → Prop} (hu : Dp (dbT b) H0 xs [u] Ho) (hs : Abs.sub Ho H) (hk : 0 ≤ k) (hkn : k + sumF szA xs ≤ 1000000000000) (hl : xs.length ≤ 1048576)
    (h : ∀ H' Ho', Dp (dbT b) H0 (mkAS k xs) [u] Ho' → Abs.sub Ho' H' → K (.int .i64 (k + sumF szA xs)) H') : ACalls P n_l_markDb [.agg [u], .int .i64 k] H K := by
  have cu := dpS_cell hu
  apply W_l_markDb
  unfold F_l_markDb
  simp [cu]
  exact C_l_markLsaS hu hs hk hkn hl fun H' Ho' h1 h2 => Ret.of (h H' Ho' h1 h2)
end Go.Proofs.YtaippfedjjjpeaaGreat
