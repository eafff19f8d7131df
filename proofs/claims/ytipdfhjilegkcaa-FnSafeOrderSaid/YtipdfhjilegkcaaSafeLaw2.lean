/-
The law FnSafeOrder.
-/
import Derived.Test.YtipdfhjilegkcaaBadI
import Derived.Test.YtipdfhjilegkcaaDrawH
import Derived.Test.YtipdfhjilegkcaaLawAid
set_option linter.all false
namespace Go.Proofs.Ytipdfhjilegkcaa
open Go Go.Abs Go.Proofs

theorem fact_ten : ∀ {k : Nat}, k ≤ 10 → fact k ≤ 3628800
  | 0, _ | 1, _ | 2, _ | 3, _ | 4, _ | 5, _ | 6, _ | 7, _ | 8, _ | 9, _ | 10, _ => by decide
  | k + 11, h => by omega
theorem safeL_ten {n : Int} {es : List TEdge} (d : Int) : (safeL n es d).length ≤ 10 := by
  unfold safeL
  split
  · rename_i hh
    have := ordL_len n.toNat (fun x => far n es x d)
    have := hh.1.1
    omega
  · simp

def InvFc (n : Int) (H : Heap) (m : Nat) (ys : List V) (Hc : Heap) : Prop :=
  ∃ k : Nat, 1 ≤ k ∧ (k : Int) ≤ n ∧ ys = [.int .i64 (fact k), .int .i64 ((k : Int) + 1)] ∧ m = n.toNat - k ∧ Hc = H
set_option maxHeartbeats 2000000 in
theorem C_l_FnSafeOrder {v : V} {bs : List (List V)} {H : Heap} {K : V → Heap → Prop} (hv : Rd H 1 v bs) (hb : Bs bs) (hl : bs.length ≤ 9223372036854775807) (hcell : cellsOf v = [v] ∧ cellOk v = true ∧ notAny v = true) (h : ∀ H', K (.bool true) H') : ACalls P n_l_FnSafeOrder [v] H K := by
  apply W_l_FnSafeOrder
  unfold F_l_FnSafeOrder
  refine C_l_big hv.len ?_
  simp
  refine ⟨fun _ => Ret.of (h _), fun _ => ?_⟩
  refine C_w_DrawCountBad hv hb hl hcell fun n es u n2 fs w d H1 l1 l2 r1 r2 => ?_
  have c1 := r1.cell
  have c2 := r2.cell
  simp [stz_eq, putCells, c1, c2]
  refine C_s_SafeOrder r2 fun z H2 hz => ?_
  refine ⟨H2, Abs.sub_refl _, ?_⟩
  have hlen := safeL_ten (n := n2) (es := fs) d
  refine C_i_SafeOrder (r2.mono hz.sub) fun z2 H3 hz2 => ⟨hz2.sub, ?_⟩
  refine C_l_same (hz2.rd ri_len) ((hz.rd ri_len).mono hz2.sub) (by omega) ?_
  simp
  refine ⟨hz2.sub, ?_⟩
  have s3 := sub_trans hz.sub hz2.sub
  have rz := (hz.sl ri_len).mono hz2.sub
  have q1 := r1.mono s3
  have q2 := r2.mono s3
  refine C_i_CountBad q1 q2 ⟨hz2.sub, ?_⟩
  refine C_s_CountBad q1 q2 ⟨hz2.sub, ?_⟩
  simp
  refine C_s_FirstLoop q1 q2 rz ?_
  simp
  by_cases hf : fine n n2 es fs d
  · obtain ⟨hg, hg', rfl, hd⟩ := hf
    have hn := hg.1
    have e1 : firstL n n es fs (safeL n fs d) d = -1 := by
      rw [firstL, if_pos ⟨⟨hg, hg', rfl, hd⟩, hlen⟩]
      exact safe_first hg hg' hd
    rw [e1]
    refine ⟨fun q => absurd q (by decide), fun _ => ?_⟩
    refine C_i_FirstLoop q1 q2 rz ?_
    rw [e1]
    simp
    refine ⟨InvFc n H3, ⟨n.toNat - 1, Shr.of ⟨1, by omega, by omega, by simp [fact], rfl, rfl⟩⟩, ?_⟩
    rintro m ys Hc ⟨k, k1, k2, rfl, rfl, rfl⟩
    simp
    have hfk := fact_ten (k := k) (by omega)
    have hfp := fact_pos k
    refine ⟨fun hlt => ?_, fun hge => ?_⟩
    · have hs : fact (k + 1) = fact k * ((k : Int) + 1) := by rw [fact, Int.mul_comm]; rfl
      have hfk1 := fact_ten (k := k + 1) (by omega)
      have hfp1 := fact_pos (k + 1)
      rw [← hs, i64_in (n := fact (k + 1)) (by omega) (by omega), i64_in (n := (k : Int) + 1 + 1) (by omega) (by omega)]
      exact ⟨n.toNat - (k + 1), by omega, Shr.of ⟨k + 1, by omega, by omega, by simp, rfl, rfl⟩⟩
    · refine C_i_CountBad q1 q2 ?_
      have e : k = n.toNat := by omega
      subst e
      have hc := countBad_lt (es := es) (fs := fs) hg hg' hd
      unfold countBad
      by_cases h6 : n ≤ 6
      · rw [if_pos ⟨⟨hg, hg', rfl, hd⟩, h6⟩]
        have : ¬ 6 < n := by omega
        simp [this, h6, hc.1, hc.2]
        exact Ret.of (h _)
      · rw [if_neg (fun hh => h6 hh.2)]
        have : 6 < n := by omega
        simp [this]
        exact ⟨Ret.of (h _), fun hh => absurd hh h6⟩
  · have e1 : firstL n n2 es fs (safeL n2 fs d) d = -2 := by rw [firstL, if_neg (fun hh => hf hh.1)]
    rw [e1]
    refine ⟨fun _ => ?_, fun q => absurd rfl q⟩
    refine C_i_FirstLoop q1 q2 rz ?_
    rw [e1]
    simp
    exact Ret.of (h _)

end Go.Proofs.Ytipdfhjilegkcaa
