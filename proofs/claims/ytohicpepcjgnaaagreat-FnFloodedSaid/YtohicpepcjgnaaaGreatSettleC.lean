/-
Contracts: all messages are delivered.
-/
import Derived.Test.YtohicpepcjgnaaaGreatDelivD
set_option linter.all false
namespace Go.Proofs.YtohicpepcjgnaaaGreat
open Go Go.Abs Go.Proofs

def settleF : Nat → TNet → TNet × Nat
  | 0, a => (a, 0)
  | f + 1, a => if a.wires.length = 0 then (a, 0) else ((settleF f (deliverN a 0)).1, (settleF f (deliverN a 0)).2 + 1)
theorem settle_stop {f : Nat} {a : TNet} (h : a.wires.length = 0 ∨ f = 0) : settleF f a = (a, 0) := by
  cases f with
  | zero => rfl
  | succ f =>
    rcases h with h | h
    · unfold settleF; rw [if_pos h]
    · cases h
theorem settle_step {f : Nat} {a : TNet} (h : ¬ a.wires.length = 0) : settleF (f + 1) a = ((settleF f (deliverN a 0)).1, (settleF f (deliverN a 0)).2 + 1) := by
  rw [settleF, if_neg h]
def Went (N : Nat) (a : TNet) (i : Nat) (x : TNet) : Prop := i ≤ N ∧ settleF N a = ((settleF (N - i) x).1, (settleF (N - i) x).2 + i)
theorem Went.start (N : Nat) (a : TNet) : Went N a 0 a := ⟨by omega, by simp⟩
theorem Went.next {N i : Nat} {a x : TNet} (h : Went N a i x) (hx : ¬ x.wires.length = 0) (hi : i < N) : Went N a (i + 1) (deliverN x 0) := by
  refine ⟨by omega, ?_⟩
  rw [h.2]
  have : N - i = (N - (i + 1)) + 1 := by omega
  rw [this, settle_step hx]
  simp only [Prod.mk.injEq, true_and]
  omega
theorem Went.stop {N i : Nat} {a x : TNet} (h : Went N a i x) (hx : x.wires.length = 0 ∨ N ≤ i) : settleF N a = (x, i) := by
  rw [h.2, settle_stop (by omega)]
  simp
theorem settle_ok : ∀ {f : Nat} {a : TNet}, netOk a → netOk (settleF f a).1
  | 0, _, h => h
  | f + 1, a, h => by
    by_cases hx : a.wires.length = 0
    · rw [settle_stop (.inl hx)]; exact h
    · rw [settle_step hx]; exact settle_ok (netOk_deliver h)
def settleN (N : Nat) (a : TNet) : TNet × Int := if netOk a then ((settleF N a).1, ((settleF N a).2 : Nat)) else (a, -1)
theorem settleN_sz {N : Nat} {a : TNet} (h : bNet a) : bNet (settleN N a).1 := by
  unfold settleN
  split
  · rename_i hh
    exact small_sz (small_of (settle_ok hh))
  · exact h
theorem deliver_zero {a : TNet} (h : netOk a) (hx : ¬ a.wires.length = 0) : deliverR a 0 = (deliverN a 0, true) := by
  unfold deliverR
  rw [if_pos ⟨h, by omega, by omega⟩]
  rfl
def InvSs (c : Bool) (H : Heap) (N : Nat) (a : TNet) (m : Nat) (ys : List V) (Hc : Heap) : Prop :=
  ∃ (i : Nat) (x : TNet) (e d w : V), ys = [.box [.int .i64 0, .nils, .nils, .nils, .int .i64 0], .box (netRow x e d w), .int .i64 (i : Nat)] ∧ m = N - i ∧ netOk x ∧ Went N a i x ∧ Dp (netT c) H x (netRow x e d w) Hc
def InvSi (H : Heap) (o N : Nat) (a : TNet) (m : Nat) (ys : List V) (Hc : Heap) : Prop :=
  ∃ (i : Nat) (x : TNet) (e d w : V) (Y Hn : Heap), ys = [.int .i64 (i : Nat)] ∧ m = N - i ∧ netOk x ∧ Went N a i x ∧ Abs.sub H Y ∧ NB false Y o x e d w Hn ∧ Abs.sub Hn Hc
set_option maxHeartbeats 2000000 in
theorem C_i_SettleN {a : TNet} {vs : List V} {N : Nat} {H : Heap} {K : V → Heap → Prop} (hN : N = 5000) (hv : (netT false).rd H a vs) (hl : bNet a)
    (h : ∀ us H', Dp (netT false) H (settleN N a).1 us H' → K (.tup [.agg us, .int .i64 (settleN N a).2]) H') : ACalls P n_i_Settle [.agg vs] H K := by
  have hv' := hv
  obtain ⟨e0, d0, w0, rfl, g1, g2, g3⟩ := hv
  have hc := net_cell g1 g2 g3
  apply W_i_Settle
  unfold F_i_Settle
  obtain ⟨M, hM⟩ : ∃ M : Int, M = 5000 := ⟨_, rfl⟩
  rw [← hM]
  simp [hc]
  refine C_i_ownNet (c := false) hv' hl fun us H3 hus => ?_
  have hus' := hus
  obtain ⟨e, d, w, H1, H2, rfl, h1, h2, h3⟩ := net_dp hus
  have ce := h1.cell
  have cd := dpS_cell h2
  have cw := dpS_cell h3
  intro o ho
  rw [aSt_at (upd_eq H3 o _)]
  simp [stz_eq, putCells, ce, cd, cw]
  have nb := NB.of hus' ho
  have hs : Abs.sub H (upd H3 o ⟨5, [netRow a e d w]⟩) := nb.sub
  refine C_i_NetOk ((netT false).mono hv' hs) hl ?_
  simp
  unfold settleN at h
  refine ⟨fun q => ?_, fun q => ?_⟩
  · rw [if_neg q] at h
    simp [aLd_at nb.box, ce, cd, cw, stz_eq, putCells]
    exact Ret.shr (h _ _ hus') rfl (sub_fresh ho)
  · rw [if_pos q] at h
    refine ⟨InvSi H o N a, ⟨N, Shr.of ⟨0, a, e, d, w, H, _, rfl, rfl, q, Went.start _ _, Abs.sub_refl _, nb, Abs.sub_refl _⟩⟩, ?_⟩
    rintro m ys Hc ⟨i, x, e, d, w, Y, Hn, rfl, rfl, hx, hw, hy, hnb, hsn⟩
    have hb' := hsn _ _ hnb.box
    have hc' := hnb.cell
    have hx400 := hx.2.2.2.2.1
    obtain ⟨_, _, _, _, hwr⟩ := nb_parts hnb
    simp [aField_box, aLd_at hb', hc', rdS_len hwr.rd]
    have fin : x.wires.length = 0 ∨ N ≤ i → ACalls P n_i_ownNet [.agg (netRow x e d w)] Hc fun v28 H29 =>
        bnd (stz 5 [(.int .i64 0), .nils, .nils, .nils, (.int .i64 0)] 0 v28) fun c30 =>
        bnd (if 5 ≤ c30.length then some (V.agg (List.take 5 c30)) else none) fun t31 =>
        Ret K (.tup [t31, .int .i64 (i : Nat)]) H29 := fun q3 => by
      have := hw.stop q3
      rw [this] at h
      obtain ⟨Hz, z1, z2⟩ := hnb.leave
      refine C_i_ownNet (c := false) ((netT false).mono z1.rd (sub_trans z2 hsn)) (small_sz (small_of hx)) fun us H6 hus6 => ?_
      obtain ⟨e6, d6, w6, _, _, rfl, p1, p2, p3⟩ := net_dp hus6
      have c6 := And.intro p1.cell (And.intro (dpS_cell p2) (dpS_cell p3))
      simp [stz_eq, putCells, c6]
      obtain ⟨Hy, y1, y2⟩ := hus6.shrink (sub_trans hy (sub_trans hnb.sub hsn))
      exact Ret.shr (h _ _ y1) rfl y2
    refine ⟨fun q1 => ⟨fun q2 => ?_, fun q2 => ?_⟩, fun q1 => ?_⟩
    · refine C_p_i_Net_deliver (k := 0) hnb hsn hx (by omega) fun Y' e' d' w' H' Hn' f1 f2 f3 => ?_
      rw [i64_in (n := (i : Int) + 1) (by omega) (by omega)]
      exact ⟨N - (i + 1), by omega, Shr.of ⟨i + 1, _, e', d', w', Y', Hn', by simp, rfl, netOk_deliver hx, hw.next (by omega) (by omega), sub_trans hy f1, f2, f3⟩⟩
    · exact fin (by omega)
    · exact fin (.inl (by rw [q1]; rfl))
def settleR (a : TNet) : TNet × Int := settleN 5000 a
theorem settleR_sz {a : TNet} (h : bNet a) : bNet (settleR a).1 := settleN_sz h
theorem C_i_Settle {c : Bool} {a : TNet} {vs : List V} {H : Heap} {K : V → Heap → Prop} (hv : (netT false).rd H a vs) (hl : bNet a)
    (h : ∀ us H', Dp (netT false) H (settleR a).1 us H' → K (.tup [.agg us, .int .i64 (settleR a).2]) H') : ACalls P n_i_Settle [.agg vs] H K :=
  C_i_SettleN (N := 5000) rfl hv hl h
end Go.Proofs.YtohicpepcjgnaaaGreat
