/-
Nets: reading marks back; the helpers' contracts in one form.
-/
import Derived.Test.YtaippfedjjjpeaaGreatNetM
set_option linter.all false
namespace Go.Proofs.YtaippfedjjjpeaaGreat
open Go Go.Abs Go.Proofs

def szN (a : TNet) : Nat := 3 * a.up.es.length + (sumF szD a.dbs + sumF szW a.wires)
def mkN (k : Int) (a : TNet) : TNet := ⟨⟨a.up.n, mkE k a.up.es.length⟩, mkDS (k + 3 * a.up.es.length) a.dbs, mkWS (k + 3 * a.up.es.length + sumF szD a.dbs) a.wires, a.lost⟩
theorem sumD_le : ∀ xs : List (List TLsa), sumF szD xs ≤ 3 * sumF szd xs
  | [] => by simp [sumF]
  | a :: xs => by
    have := sumD_le xs
    have e1 : sumF szD (a :: xs) = szD a + sumF szD xs := by simp [sumF]
    have e2 : sumF szd (a :: xs) = szd a + sumF szd xs := by simp [sumF]
    have := sumA_le a
    have e3 : szD a = sumF szA a := rfl
    have e4 : szd a = a.length + sumF szl a := rfl
    rw [e1, e2]
    omega
theorem sumW_le : ∀ xs : List TMsg, sumF szW xs ≤ 5 * (xs.length + sumF szw xs)
  | [] => by simp [sumF]
  | a :: xs => by
    have := sumW_le xs
    have e1 : sumF szW (a :: xs) = szW a + sumF szW xs := by simp [sumF]
    have e2 : sumF szw (a :: xs) = szw a + sumF szw xs := by simp [sumF]
    have e3 : szW a = 2 + (3 + 2 * a.2.2.links.length + 3 * a.2.2.stubs.length) := rfl
    have e4 : szw a = a.2.2.links.length + a.2.2.stubs.length := rfl
    rw [e1, e2]
    simp only [List.length_cons]
    omega
theorem sB_Net {a : TNet} (h : bNet a) : szN a ≤ 10000000 := by
  have := sumD_le a.dbs
  have := sumW_le a.wires
  unfold bNet szn at h
  unfold szN
  omega
theorem dbs_each {xs : List (List TLsa)} {n : Nat} (h : sumF szd xs ≤ n) : ∀ d ∈ xs, d.length ≤ n := fun d hd => by
  obtain ⟨i, hi, rfl⟩ := List.mem_iff_getElem.1 hd
  have := le_sumF (f := szd) hi
  have e4 : szd xs[i] = xs[i].length + sumF szl xs[i] := rfl
  omega
theorem C_mark_Net {a : TNet} {vs : List V} {k : Int} {H0 Ho H : Heap} {K : V → Heap → Prop} (hu : Dp (netT false) H0 a vs Ho) (hs : Abs.sub Ho H) (hb : bNet a) (hk : 0 ≤ k ∧ k ≤ 1000000000)
    (h : ∀ H' Ho', Dp (netT false) H0 (mkN k a) vs Ho' → Abs.sub Ho' H' → K (.int .i64 (k + szN a)) H') : ACalls P n_l_markNet [.agg vs, .int .i64 k] H K := by
  have hsz := sB_Net hb
  obtain ⟨e, d, w, H1, H2, rfl, h1, h2, h3⟩ := net_dp hu
  have c1 := h1.cell
  have c2 := dpS_cell h2
  have c3 := dpS_cell h3
  unfold bNet szn at hb
  unfold szN at hsz h
  apply W_l_markNet
  unfold F_l_markNet
  simp [c1, c2, c3]
  obtain ⟨Ha, k2, k1⟩ := Dp.heldOver h1 h2
  obtain ⟨Hb, k3, k1⟩ := Dp.heldOver k1 h3
  refine C_l_markGraph k1 hs enEdge_len hk.1 (by simp; omega) fun Hx Ho' m1 s1 => ?_
  simp only [List.length_map] at m1 ⊢
  try simp [c2]
  rw [mkE_eq] at m1
  obtain ⟨Hc, k3, k2⟩ := k2.swap k3
  obtain ⟨Hd, m1, k2⟩ := Dp.heldUnder k2 m1
  refine C_l_markDbS k2 s1 (by omega) (by omega) (by omega) (dbs_each (by omega)) fun Hy Ho'' m2 s2 => ?_
  try simp [c3]
  obtain ⟨He, m1, k3⟩ := Dp.heldUnder k3 m1
  obtain ⟨Hf, m2, k3⟩ := k3.swap m2
  refine C_l_markMsgS k3 s2 (by omega) (by omega) (by omega) fun Hz Ho3 m3 s3 => ?_
  refine Ret.eq (h _ _ (Dp.net (a := mkN k a) m1 m2 m3) s3) ?_
  simp
  omega
end Go.Proofs.YtaippfedjjjpeaaGreat
