/-
Nets: reading marks back; the helpers' contracts in one form.
-/
import Derived.Test.YtmbekckgpbmdkaaGreatNetM
set_option linter.all false
namespace Go.Proofs.YtmbekckgpbmdkaaGreat
open Go Go.Abs Go.Proofs

theorem C_l_heldMsgS {b : Bool} {xs : List TMsg} {u : V} {k : Int} {H : Heap} {K : V → Heap → Prop} (hv : (wiresT b).rd H (mkWS k xs) [u]) (hk : 0 ≤ k) (hkn : k + sumF szW xs ≤ 1000000000000) (hl : xs.length ≤ 1048576)
    (h : K (.int .i64 (k + sumF szW xs)) H) : ACalls P n_l_heldMsgS [u, .int .i64 k] H K := by
  apply W_l_heldMsgS
  unfold F_l_heldMsgS
  refine ⟨fun m ys Hc => ∃ i, i ≤ xs.length ∧ ys = [.int .i64 (k + sumF szW (xs.take i)), .int .i64 (i : Nat)] ∧ m = xs.length - i ∧ Hc = H, xs.length, Shr.of ⟨0, by omega, by simp [sumF], by omega, rfl⟩, ?_⟩
  rintro m ys Hc ⟨i, hi, rfl, rfl, rfl⟩
  have hlu : lenOf u = some xs.length := by rw [rdS_len hv, mkG_len]
  simp [hlu]
  refine ⟨fun hlt => ?_, fun hge => ?_⟩
  · have hsum := sumF_succ (f := szW) hlt
    have hle : sumF szW (xs.take (i + 1)) ≤ sumF szW xs := sumF_le (i + 1)
    have hz : szW xs[i] = 2 + (3 + 2 * xs[i].2.2.links.length + 3 * xs[i].2.2.stubs.length) := rfl
    have hg := mkG_get (mk := mkW) (sz := szW) (k := k) hlt
    obtain ⟨hi', hg⟩ := List.getElem?_eq_some_iff.1 hg
    generalize hkk : k + (sumF szW (xs.take i) : Int) = kk at *
    have e1 : IntKind.i64.wrap (kk + 1) = kk + 1 := i64_in (by omega) (by omega)
    have e2 : IntKind.i64.wrap (kk + 1 + 1) = kk + 1 + 1 := i64_in (by omega) (by omega)
    have e3 : IntKind.i64.wrap (kk + 1 + 1 + 1) = kk + 1 + 1 + 1 := i64_in (by omega) (by omega)
    have e4 : IntKind.i64.wrap (kk + 1 + 1 + 1 + 1) = kk + 1 + 1 + 1 + 1 := i64_in (by omega) (by omega)
    have e5 : IntKind.i64.wrap (kk + 1 + 1 + 1 + 1 + 1) = kk + 1 + 1 + 1 + 1 + 1 := i64_in (by omega) (by omega)
    have e0 : IntKind.i64.wrap ((i : Int) + 1) = (i : Int) + 1 := i64_in (by omega) (by omega)
    have at_ : ∀ {K : V → Prop}, (∀ p l s, Pt Hc p (msgRow (mkW kk xs[i]) l s) 0 → (lsaT b).rd Hc (mkA (kk + 1 + 1) xs[i].2.2) (lsaRow (mkA (kk + 1 + 1) xs[i].2.2) l s) → K p) → bnd (aIndex Hc 7 u (.int .i64 (i : Nat))) K := fun {K} hK => by
      refine rdS_idx hv (by omega) (by simpa using hlt) fun p row hp hr => ?_
      simp only [Int.toNat_natCast, hg] at hr
      obtain ⟨r, rfl, hr⟩ := hr
      have hr' := hr
      obtain ⟨l, s, rfl, _, _⟩ := hr
      exact hK p l s hp hr'
    refine at_ fun p l s hp _ => hp.fld fun q hq => ?_
    rw [hq.ld]
    simp [mkW, mkA, e1]
    refine at_ fun p l s hp _ => hp.fld fun q hq => ?_
    rw [hq.ld]
    simp [mkW, mkA, e2]
    refine at_ fun p l s hp _ => hp.fld fun q hq => hq.fld fun q hq => ?_
    rw [hq.ld]
    simp [mkW, mkA, e3]
    refine at_ fun p l s hp _ => hp.fld fun q hq => hq.fld fun q hq => ?_
    rw [hq.ld]
    simp [mkW, mkA, e4]
    refine at_ fun p l s hp _ => hp.fld fun q hq => hq.fld fun q hq => ?_
    rw [hq.ld]
    simp [mkW, mkA, e5]
    refine at_ fun p l s hp hr => hp.fld fun q hq => hq.fld fun q hq => ?_
    obtain ⟨l', s', e, g1, g2⟩ := hr
    simp at e
    obtain ⟨rfl, rfl⟩ := e
    have c1 := g1.1.cell
    rw [hq.ld]
    simp [c1]
    have g1 := g1.1
    simp only [mkA, ← mkL_eq] at g1
    refine C_l_heldLinkS g1 (by omega) (by omega) ?_
    simp
    refine ⟨fun hh => absurd hh (by omega), fun _ => ?_⟩
    refine at_ fun p l s hp hr => hp.fld fun q hq => hq.fld fun q hq => ?_
    obtain ⟨l', s', e, g1, g2⟩ := hr
    simp at e
    obtain ⟨rfl, rfl⟩ := e
    have c2 := g2.1.cell
    rw [hq.ld]
    simp [c2]
    have g2 := g2.1
    simp only [mkA, ← mkS_eq] at g2
    refine C_l_heldStubS g2 (by omega) (by omega) ?_
    simp [e0]
    refine ⟨fun hh => absurd hh (by omega), fun _ => ?_⟩
    refine ⟨xs.length - (i + 1), by omega, Shr.of ⟨i + 1, by omega, ?_, rfl, rfl⟩⟩
    rw [hsum]
    simp
    omega
  · have : i = xs.length := by omega
    subst this
    rw [List.take_length]
    exact Ret.of h

def szN (a : TNet) : Nat := 3 * a.up.es.length + (sumF szD a.dbs + sumF szW a.wires)
def mkN (k : Int) (a : TNet) : TNet := ⟨⟨a.up.n, mkE k a.up.es.length⟩, mkDS (k + 3 * a.up.es.length) a.dbs, mkWS (k + 3 * a.up.es.length + sumF szD a.dbs) a.wires, a.lost⟩
theorem sumD_le : ∀ xs : List (List TLsa), sumF szD xs ≤ 3 * sumF szd xs
  | [] => by simp [sumF]
  | a :: xs => by
    have := sumD_le xs
    have e1 : sumF szD (a :: xs) = szD a + sumF szD xs := by simp [sumF]
    have e2 : sumF szd (a :: xs) = szd a + sumF szd xs := by simp [sumF]
    have := sumA_le a
    have e3 : szD a = sumF szA a := rfl
    have e4 : szd a = a.length + sumF szl a := rfl
    rw [e1, e2]
    omega
theorem sumW_le : ∀ xs : List TMsg, sumF szW xs ≤ 5 * (xs.length + sumF szw xs)
  | [] => by simp [sumF]
  | a :: xs => by
    have := sumW_le xs
    have e1 : sumF szW (a :: xs) = szW a + sumF szW xs := by simp [sumF]
    have e2 : sumF szw (a :: xs) = szw a + sumF szw xs := by simp [sumF]
    have e3 : szW a = 2 + (3 + 2 * a.2.2.links.length + 3 * a.2.2.stubs.length) := rfl
    have e4 : szw a = a.2.2.links.length + a.2.2.stubs.length := rfl
    rw [e1, e2]
    simp only [List.length_cons]
    omega
theorem sB_Net {a : TNet} (h : bNet a) : szN a ≤ 10000000 := by
  have := sumD_le a.dbs
  have := sumW_le a.wires
  unfold bNet szn at h
  unfold szN
  omega
theorem dbs_each {xs : List (List TLsa)} {n : Nat} (h : sumF szd xs ≤ n) : ∀ d ∈ xs, d.length ≤ n := fun d hd => by
  obtain ⟨i, hi, rfl⟩ := List.mem_iff_getElem.1 hd
  have := le_sumF (f := szd) hi
  have e4 : szd xs[i] = xs[i].length + sumF szl xs[i] := rfl
  omega
theorem C_mark_Net {a : TNet} {vs : List V} {k : Int} {H0 Ho H : Heap} {K : V → Heap → Prop} (hu : Dp (netT false) H0 a vs Ho) (hs : Abs.sub Ho H) (hb : bNet a) (hk : 0 ≤ k ∧ k ≤ 1000000000)
    (h : ∀ H' Ho', Dp (netT false) H0 (mkN k a) vs Ho' → Abs.sub Ho' H' → K (.int .i64 (k + szN a)) H') : ACalls P n_l_markNet [.agg vs, .int .i64 k] H K := by
  have hsz := sB_Net hb
  obtain ⟨e, d, w, H1, H2, rfl, h1, h2, h3⟩ := net_dp hu
  have c1 := h1.cell
  have c2 := dpS_cell h2
  have c3 := dpS_cell h3
  unfold bNet szn at hb
  unfold szN at hsz h
  apply W_l_markNet
  unfold F_l_markNet
  simp [c1, c2, c3]
  obtain ⟨Ha, k2, k1⟩ := Dp.heldOver h1 h2
  obtain ⟨Hb, k3, k1⟩ := Dp.heldOver k1 h3
  refine C_l_markGraph k1 hs enEdge_len hk.1 (by simp; omega) fun Hx Ho' m1 s1 => ?_
  simp only [List.length_map] at m1 ⊢
  try simp [c2]
  rw [mkE_eq] at m1
  obtain ⟨Hc, k3, k2⟩ := k2.swap k3
  obtain ⟨Hd, m1, k2⟩ := Dp.heldUnder k2 m1
  refine C_l_markDbS k2 s1 (by omega) (by omega) (by omega) (dbs_each (by omega)) fun Hy Ho'' m2 s2 => ?_
  try simp [c3]
  obtain ⟨He, m1, k3⟩ := Dp.heldUnder k3 m1
  obtain ⟨Hf, m2, k3⟩ := k3.swap m2
  refine C_l_markMsgS k3 s2 (by omega) (by omega) (by omega) fun Hz Ho3 m3 s3 => ?_
  refine Ret.eq (h _ _ (Dp.net (a := mkN k a) m1 m2 m3) s3) ?_
  simp
  omega
theorem C_held_Net {b : Bool} {a : TNet} {vs : List V} {k : Int} {H : Heap} {K : V → Heap → Prop} (hv : (netT b).rd H (mkN k a) vs) (hb : bNet a) (hk : 0 ≤ k ∧ k ≤ 1000000000) (h : K (.int .i64 (k + szN a)) H) : ACalls P n_l_heldNet [.agg vs, .int .i64 k] H K := by
  have hsz := sB_Net hb
  obtain ⟨e, d, w, rfl, g1, g2, g3⟩ := hv
  have hc := net_cell g1 g2 g3
  unfold bNet szn at hb
  unfold szN at hsz h
  apply W_l_heldNet
  unfold F_l_heldNet
  simp [hc]
  refine C_held_Graph (b := b) (a := a.up) ⟨e, rfl, g1⟩ (by unfold bGraph; omega) hk ?_
  simp
  refine ⟨fun hh => absurd hh (by omega), fun _ => ?_⟩
  refine C_l_heldDbS g2 (by omega) (by omega) (by omega) (dbs_each (by omega)) ?_
  simp
  refine ⟨fun hh => absurd hh (by omega), fun _ => ?_⟩
  refine C_l_heldMsgS g3 (by omega) (by omega) (by omega) ?_
  simp
  refine ⟨fun hh => absurd hh (by omega), fun _ => Ret.eq h ?_⟩
  simp
  omega
end Go.Proofs.YtmbekckgpbmdkaaGreat
