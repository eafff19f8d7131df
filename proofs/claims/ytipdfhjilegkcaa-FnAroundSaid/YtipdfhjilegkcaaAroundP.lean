/-
Plain terms: a walk around begins with a loop-free neighbor and never comes back.
-/
import Derived.Test.YtipdfhjilegkcaaStepW
import Derived.Test.YtipdfhjilegkcaaRemC
import Derived.Test.YtipdfhjilegkcaaWay
set_option linter.all false
namespace Go.Proofs.Ytipdfhjilegkcaa
open Go Go.Abs Go.Proofs

theorem wayTo_get {n : Int} {es : List TEdge} {t x : Int} : ∀ {k j : Nat}, j ≤ k → (wayTo n es t x k).getD j 0 = iter n es t x j
  | 0, j, h => by
    have : j = 0 := by omega
    subst this; rfl
  | k + 1, j, h => by
    rw [wayTo, List.getD_eq_getElem?_getD]
    have hl := wayTo_len n es t x k
    by_cases e : j = k + 1
    · subst e
      rw [List.getElem?_append_right (by omega), hl, Nat.sub_self]; rfl
    · rw [List.getElem?_append_left (by omega), ← List.getD_eq_getElem?_getD]
      exact wayTo_get (by omega)
theorem iter_way {n : Int} {es : List TEdge} (hg : graphOk n es) {t x : Int} (ht : 0 ≤ t ∧ t < n) (hx : 0 ≤ x ∧ x < n) (h : fw n es t x < 1000000) : ∀ k : Nat, (k : Int) ≤ fw n es t x → Way es x (iter n es t x k) (far n es x t - far n es (iter n es t x k) t)
  | 0, _ => by
    rw [show far n es x t - far n es (iter n es t x 0) t = 0 by simp [iter]]
    exact .nil
  | k + 1, hk => by
    have ih := iter_way hg ht hx h k (by omega)
    obtain ⟨h1, h2⟩ := iter_fw hg ht hx h k (by omega)
    have hne : iter n es t x k ≠ t := fun e => by rw [e, fw_t] at h1; omega
    obtain ⟨h3, h4⟩ := nxt_spec hg ht hne (by omega)
    obtain ⟨e, he, e1, e2, e3, _⟩ := hop_edge h3
    have hs := Way.snoc ih he e1
    have : iter n es t x (k + 1) = e.2.1 := e2.symm
    rw [this]
    rw [← e2] at e3
    rw [show far n es x t - far n es e.2.1 t = far n es x t - far n es (iter n es t x k) t + e.2.2 by omega]
    exact hs
theorem iter_ne {n : Int} {es : List TEdge} (hg : graphOk n es) {t x s : Int} (ht : 0 ≤ t ∧ t < n) (hx : 0 ≤ x ∧ x < n) (h : fw n es t x < 1000000) (hl : far n es x t < far n es x s + far n es s t) (k : Nat) (hk : (k : Int) ≤ fw n es t x) : iter n es t x k ≠ s := by
  intro e
  have := far_le hg hx (iter_way hg ht hx h k hk)
  rw [e] at this
  omega
theorem iter_edge {n : Int} {es : List TEdge} (hg : graphOk n es) {t x : Int} (ht : 0 ≤ t ∧ t < n) (hx : 0 ≤ x ∧ x < n) (h : fw n es t x < 1000000) (k : Nat) (hk : (k : Int) < fw n es t x) : ∃ e, e ∈ es ∧ e.1 = iter n es t x k ∧ e.2.1 = iter n es t x (k + 1) := by
  obtain ⟨h1, h2⟩ := iter_fw hg ht hx h k (by omega)
  have hne : iter n es t x k ≠ t := fun e => by rw [e, fw_t] at h1; omega
  obtain ⟨h3, h4⟩ := nxt_spec hg ht hne (by omega)
  obtain ⟨e, he, e1, e2, e3, _⟩ := hop_edge h3
  exact ⟨e, he, e1, e2⟩
theorem look_wo {es : List TEdge} {x y a b : Int} (h : ¬ (a = x ∧ b = y) ∧ ¬ (a = y ∧ b = x)) : look (es.filter (keepE x y)) a b = look es a b := by
  unfold look
  rw [List.find?_filter]
  have : (fun e : TEdge => decide (keepE x y e = true ∧ isHit a b e = true)) = isHit a b := by
    funext e
    rw [Bool.eq_iff_iff]
    simp only [decide_eq_true_eq]
    constructor
    · exact fun hh => hh.2
    · intro hh
      refine ⟨?_, hh⟩
      unfold isHit at hh
      simp only [decide_eq_true_eq] at hh
      unfold keepE
      simp only [decide_eq_true_eq]
      omega
  rw [this]
theorem wayR_both {n : Int} {es fs : List TEdge} (hg : graphOk n es) {ws : List Int} (hin : ∀ i, i < ws.length → 0 ≤ ws.getD i 0 ∧ ws.getD i 0 < n) (hst : ∀ i, i + 1 < ws.length → ws.getD (i + 1) 0 ≠ ws.getD i 0 ∧ cost n es (ws.getD i 0) (ws.getD (i + 1) 0) < 1000000 ∧ cost n fs (ws.getD i 0) (ws.getD (i + 1) 0) = cost n es (ws.getD i 0) (ws.getD (i + 1) 0)) (hl : ws.length ≤ 300) :
    ∀ i, i ≤ ws.length → ∃ t, wayR n es ws i = some t ∧ wayR n fs ws i = some t ∧ (0 ≤ t ∧ t ≤ 1000 * i) ∧ (2 ≤ i → 1 ≤ t)
  | 0, _ => ⟨0, rfl, rfl, by omega, fun h => by omega⟩
  | i + 1, hi => by
    obtain ⟨t, h1, h2, h3, h4⟩ := wayR_both hg hin hst hl i (by omega)
    rw [wayR_step h1, wayR_step h2]
    have := hin i (by omega)
    have hnn : ¬ ¬ (0 ≤ ws.getD i 0 ∧ ws.getD i 0 < n) := fun hh => hh this
    rw [if_neg hnn, if_neg hnn]
    by_cases h0 : i = 0
    · rw [if_pos h0, if_pos h0]
      exact ⟨t, rfl, rfl, by omega, fun h => by omega⟩
    · rw [if_neg h0, if_neg h0]
      obtain ⟨g1, g2, g3⟩ := hst (i - 1) (by omega)
      rw [show i - 1 + 1 = i by omega] at g1 g2 g3
      rw [g3]
      have hc : 1 ≤ cost n es (ws.getD (i - 1) 0) (ws.getD i 0) ∧ cost n es (ws.getD (i - 1) 0) (ws.getD i 0) ≤ 1000 := by
        rw [cost_look (Ne.symm g1)] at g2 ⊢
        rcases look_cases hg (ws.getD (i - 1) 0) (ws.getD i 0) with q | q <;> omega
      rw [if_neg (by omega), i64_in (by omega) (by omega)]
      exact ⟨_, rfl, rfl, by omega, fun _ => by omega⟩
/-- What the law asks of a walk around. -/
theorem around_ok {n : Int} {es : List TEdge} {s f d : Int} (h : ¬ wB n es s f d < 0) : ∃ (p : Int) (k : Nat), wB n es s f d = p ∧ wAround n es s f d = s :: wayTo n es d p k ∧ (k : Nat) ≤ 10 ∧ around n es [s, f, d] ∧ (0 ≤ p ∧ p < n) ∧ p ≠ f ∧ lfree n es s p d ∧ iter n es d p k = d ∧
    (∀ j, j ≤ k → iter n es d p j ≠ s) ∧ wayCost n (wo n es s f) (wAround n es s f d) = wayCost n es (wAround n es s f d) ∧ 1 ≤ wayCost n es (wAround n es s f d) := by
  obtain ⟨har, hm⟩ := wB_in h
  obtain ⟨hlf, hpr, hpf, hnear⟩ := alts_node hm
  generalize hp : wB n es s f d = p at *
  obtain ⟨ns, nf, nd'⟩ := nodesOk_three har.2.2
  have hg := har.1
  have hB : cheapB n es p d := ⟨hg, hpr, nd', hlf.2.2.1⟩
  have hfw := (fw_lt hg nd' hpr).2 hlf.2.2.1
  have hfi := fw_in hg d p
  have hn := hg.1
  have hk : ((fw n es d p).toNat : Int) = fw n es d p := by omega
  have eW : wAround n es s f d = s :: wayTo n es d p (fw n es d p).toNat := by
    rw [wAround, hp, if_neg h, cheapR, if_pos hB, cheap, if_pos hlf.2.2.1]
  generalize hkk : (fw n es d p).toNat = k at *
  have hk10 : k ≤ 10 := by omega
  have hwl := wayTo_len n es d p k
  have g0 : (s :: wayTo n es d p k).getD 0 0 = s := rfl
  have g1 : ∀ j, j ≤ k → (s :: wayTo n es d p k).getD (j + 1) 0 = iter n es d p j := fun j hj => by
    rw [List.getD_cons_succ]; exact wayTo_get hj
  have hne : ∀ j, j ≤ k → iter n es d p j ≠ s := fun j hj => iter_ne hg nd' hpr hfw hlf.2.2.2.2.2 j (by omega)
  have hin : ∀ i, i < (s :: wayTo n es d p k).length → 0 ≤ (s :: wayTo n es d p k).getD i 0 ∧ (s :: wayTo n es d p k).getD i 0 < n := fun i hi => by
    cases i with
    | zero => rw [g0]; exact ns
    | succ j =>
      simp at hi
      rw [g1 j (by omega)]
      exact (iter_fw hg nd' hpr hfw j (by omega)).2
  have hst : ∀ i, i + 1 < (s :: wayTo n es d p k).length → (s :: wayTo n es d p k).getD (i + 1) 0 ≠ (s :: wayTo n es d p k).getD i 0 ∧ cost n es ((s :: wayTo n es d p k).getD i 0) ((s :: wayTo n es d p k).getD (i + 1) 0) < 1000000 ∧
      cost n (wo n es s f) ((s :: wayTo n es d p k).getD i 0) ((s :: wayTo n es d p k).getD (i + 1) 0) = cost n es ((s :: wayTo n es d p k).getD i 0) ((s :: wayTo n es d p k).getD (i + 1) 0) := fun i hi => by
    simp only [List.length_cons] at hi
    cases i with
    | zero =>
      rw [g0, g1 0 (by omega)]
      have e0 : iter n es d p 0 = p := rfl
      rw [e0]
      have hsp : s ≠ p := hlf.1.1
      refine ⟨Ne.symm hsp, hlf.1.2, ?_⟩
      rw [cost_look hsp, cost_look hsp, wo, if_pos hg]
      have := hnear.1
      exact look_wo (by omega)
    | succ j =>
      rw [g1 j (by omega), g1 (j + 1) (by omega)]
      obtain ⟨e, he, e1, e2⟩ := iter_edge hg nd' hpr hfw j (by omega)
      have ho := edge_ok hg he
      have hl := look_edge hg he
      have n1 := hne j (by omega)
      have n2 := hne (j + 1) (by omega)
      rw [e1, e2] at ho hl
      rw [cost_look ho.2.2.1, cost_look ho.2.2.1, hl]
      refine ⟨Ne.symm ho.2.2.1, by omega, ?_⟩
      rw [wo, if_pos hg, look_wo (by omega), hl]
  obtain ⟨t, t1, t2, t3, t4⟩ := wayR_both hg hin hst (by simp; omega) (s :: wayTo n es d p k).length (Nat.le_refl _)
  have hl0 : (s :: wayTo n es d p k).length ≠ 0 := by simp
  have hl3 : (s :: wayTo n es d p k).length ≤ 300 := by simp; omega
  have c1 := wayCost_some hg hl0 hl3 t1
  have c2 := wayCost_some (wo_ok hg s f) hl0 hl3 t2
  refine ⟨p, k, rfl, eW, hk10, har, hpr, hpf, hlf, ?_, hne, ?_, ?_⟩
  · exact (iter_end hg nd' hpr hfw k (by omega)).2 (by omega)
  · rw [eW, c1, c2]
  · rw [eW, c1]; exact t4 (by simp; omega)

end Go.Proofs.Ytipdfhjilegkcaa
