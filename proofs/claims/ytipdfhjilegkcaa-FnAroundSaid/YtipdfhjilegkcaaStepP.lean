/-
Plain terms: the fewest edges of a cheapest way.
-/
import Derived.Test.YtipdfhjilegkcaaDist
import Derived.Test.YtipdfhjilegkcaaMixed
set_option linter.all false
namespace Go.Proofs.Ytipdfhjilegkcaa
open Go Go.Abs Go.Proofs

/-- The edge lies on a cheapest way to t. -/
def tight (n : Int) (es : List TEdge) (t : Int) (e : TEdge) : Prop := far n es e.1 t < 1000000 ∧ e.2.2 + far n es e.2.1 t = far n es e.1 t
instance (n : Int) (es : List TEdge) (t : Int) (e : TEdge) : Decidable (tight n es t e) := by unfold tight; infer_instance
inductive TW (n : Int) (es : List TEdge) (t : Int) : Int → Nat → Prop
  | nil : TW n es t t 0
  | cons {e : TEdge} {k : Nat} : e ∈ es → tight n es t e → TW n es t e.2.1 k → TW n es t e.1 (k + 1)
open Classical in
noncomputable def fw (n : Int) (es : List TEdge) (t x : Int) : Int := if h : ∃ k, TW n es t x k then ((Classical.choose (least_nat _ h) : Nat) : Int) else 1000000
theorem fw_spec (n : Int) (es : List TEdge) (t x : Int) : (∃ k : Nat, fw n es t x = k ∧ TW n es t x k ∧ ∀ j, TW n es t x j → k ≤ j) ∨ (fw n es t x = 1000000 ∧ ∀ k, ¬ TW n es t x k) := by
  unfold fw
  split
  · rename_i h
    have := Classical.choose_spec (least_nat _ h)
    exact .inl ⟨_, rfl, this.1, this.2⟩
  · rename_i h
    exact .inr ⟨rfl, fun k hk => h ⟨k, hk⟩⟩
theorem far_same {n : Int} {es : List TEdge} (hg : graphOk n es) {t : Int} (ht : 0 ≤ t ∧ t < n) : far n es t t = 0 := by
  have h1 := far_le hg ht (Way.nil (es := es) (a := t))
  have h2 := far_in hg t ht.1 ht.2
  omega
def rk (n : Int) (es : List TEdge) (t x : Int) : Nat := ((List.range n.toNat).filter fun v => decide (far n es (v : Nat) t < far n es x t)).length
theorem rk_le (n : Int) (es : List TEdge) (t x : Int) : rk n es t x ≤ n.toNat := by
  unfold rk
  have := List.length_filter_le (fun v : Nat => decide (far n es (v : Nat) t < far n es x t)) (List.range n.toNat)
  simpa using this
theorem rk_lt {n : Int} {es : List TEdge} {t x y : Int} (hy : 0 ≤ y ∧ y < n) (h : far n es y t < far n es x t) : rk n es t y < rk n es t x := by
  have e : ((y.toNat : Nat) : Int) = y := by omega
  unfold rk
  refine filter_lt (y := y.toNat) ?_ ?_ (fun v _ hv => ?_) (by simp; omega)
  · rw [e]; simp
  · rw [e]; simp [h]
  · simp at hv ⊢; omega
theorem tight_lt {n : Int} {es : List TEdge} (hg : graphOk n es) {t : Int} {e : TEdge} (he : e ∈ es) (h : tight n es t e) : far n es e.2.1 t < far n es e.1 t := by
  have := (edge_ok hg he).2.2.2
  have := h.2
  omega
theorem tw_rk {n : Int} {es : List TEdge} (hg : graphOk n es) {t x : Int} {k : Nat} (h : TW n es t x k) : k ≤ rk n es t x := by
  induction h with
  | nil => omega
  | @cons e k he ht _ ih => have := rk_lt (es := es) (t := t) (edge_ok hg he).2.1 (tight_lt hg he ht); omega
theorem tw_le {n : Int} {es : List TEdge} (hg : graphOk n es) {t x : Int} {k : Nat} (h : TW n es t x k) : k ≤ n.toNat := Nat.le_trans (tw_rk hg h) (rk_le n es t x)
theorem fw_in {n : Int} {es : List TEdge} (hg : graphOk n es) (t x : Int) : 0 ≤ fw n es t x ∧ (fw n es t x ≤ n ∨ fw n es t x = 1000000) := by
  have hn := hg.1
  rcases fw_spec n es t x with ⟨k, h1, h2, _⟩ | ⟨h1, _⟩
  · have := tw_le hg h2; omega
  · omega
theorem fw_t (n : Int) (es : List TEdge) (t : Int) : fw n es t t = 0 := by
  rcases fw_spec n es t t with ⟨k, h1, h2, h3⟩ | ⟨_, h2⟩
  · have := h3 0 .nil; omega
  · exact absurd .nil (h2 0)
theorem tw_far {n : Int} {es : List TEdge} (hg : graphOk n es) {t x : Int} {k : Nat} (ht : 0 ≤ t ∧ t < n) (h : TW n es t x k) : far n es x t < 1000000 := by
  cases h with
  | nil => rw [far_same hg ht]; omega
  | cons _ h _ => exact h.1
theorem Way.uncons {es : List TEdge} {a b c : Int} (h : Way es a b c) : (b = a ∧ c = 0) ∨ ∃ e, e ∈ es ∧ e.1 = a ∧ ∃ c', Way es e.2.1 b c' ∧ c = e.2.2 + c' := by
  induction h with
  | nil => exact .inl ⟨rfl, rfl⟩
  | @snoc b c e h he hb ih =>
    rcases ih with ⟨rfl, rfl⟩ | ⟨f, hf, hfa, c', hw, hc⟩
    · exact .inr ⟨e, he, hb, 0, .nil, by omega⟩
    · exact .inr ⟨f, hf, hfa, c' + e.2.2, .snoc hw he hb, by omega⟩
theorem tight_ex {n : Int} {es : List TEdge} (hg : graphOk n es) {t x : Int} (ht : 0 ≤ t ∧ t < n) (hx : 0 ≤ x ∧ x < n) (h : far n es x t < 1000000) (hne : x ≠ t) : ∃ e, e ∈ es ∧ e.1 = x ∧ tight n es t e := by
  rcases (far_way hg hx ht h).uncons with ⟨h1, _⟩ | ⟨e, he, hea, c', hw, hc⟩
  · exact absurd h1.symm hne
  · have ho := edge_ok hg he
    have l1 := far_le hg ho.2.1 hw
    have l2 := far_way hg ho.2.1 ht (by omega)
    have l3 := far_le hg (by rw [hea]; exact hx) (Way.cons he l2)
    rw [hea] at l3
    refine ⟨e, he, hea, ?_⟩
    unfold tight
    rw [hea]
    omega
theorem tw_ex {n : Int} {es : List TEdge} (hg : graphOk n es) {t : Int} (ht : 0 ≤ t ∧ t < n) : ∀ (k : Nat) (x : Int), (far n es x t).toNat = k → 0 ≤ x ∧ x < n → far n es x t < 1000000 → ∃ j, TW n es t x j := by
  intro k
  induction k using Nat.strongRecOn with
  | ind k ih =>
    intro x hk hx h
    by_cases q : x = t
    · subst q; exact ⟨0, .nil⟩
    · obtain ⟨e, he, rfl, h2⟩ := tight_ex hg ht hx h q
      have lt := tight_lt hg he h2
      have ho := (edge_ok hg he).2.1
      have hf := far_in hg e.2.1 ht.1 ht.2
      obtain ⟨j, hj⟩ := ih (far n es e.2.1 t).toNat (by omega) e.2.1 rfl ho (by omega)
      exact ⟨j + 1, .cons he h2 hj⟩
theorem fw_lt {n : Int} {es : List TEdge} (hg : graphOk n es) {t x : Int} (ht : 0 ≤ t ∧ t < n) (hx : 0 ≤ x ∧ x < n) : fw n es t x < 1000000 ↔ far n es x t < 1000000 := by
  have hn := hg.1
  constructor
  · intro h
    rcases fw_spec n es t x with ⟨k, h1, h2, h3⟩ | ⟨h1, _⟩
    · exact tw_far hg ht h2
    · omega
  · intro h
    obtain ⟨j, hj⟩ := tw_ex hg ht _ x rfl hx h
    rcases fw_spec n es t x with ⟨k, h1, h2, h3⟩ | ⟨_, h1⟩
    · have := tw_le hg h2; omega
    · exact absurd hj (h1 j)
theorem fw_edge {n : Int} {es : List TEdge} (hg : graphOk n es) {t : Int} {e : TEdge} (he : e ∈ es) (h : tight n es t e) : fw n es t e.1 ≤ fw n es t e.2.1 + 1 := by
  have h1 := fw_in hg t e.1
  have hn := hg.1
  rcases fw_spec n es t e.2.1 with ⟨k, g1, g2, g3⟩ | ⟨g1, _⟩
  · rcases fw_spec n es t e.1 with ⟨j, f1, f2, f3⟩ | ⟨f1, f2⟩
    · have := f3 _ (.cons he h g2); omega
    · exact absurd (TW.cons he h g2) (f2 _)
  · omega
theorem fw_next {n : Int} {es : List TEdge} {t x : Int} (hne : x ≠ t) (h : fw n es t x < 1000000) : ∃ e, e ∈ es ∧ e.1 = x ∧ tight n es t e ∧ fw n es t e.2.1 ≤ fw n es t x - 1 := by
  rcases fw_spec n es t x with ⟨k, g1, g2, g3⟩ | ⟨g1, _⟩
  · cases g2 with
    | nil => exact absurd rfl hne
    | @cons e k he ht hw =>
      refine ⟨e, he, rfl, ht, ?_⟩
      rcases fw_spec n es t e.2.1 with ⟨j, f1, f2, f3⟩ | ⟨f1, f2⟩
      · have := f3 _ hw; omega
      · exact absurd hw (f2 _)
  · omega

/-! #### as the program counts them -/
def relS (n : Int) (es : List TEdge) (t : Int) (out : List Int) (e : TEdge) : List Int := if tight n es t e then out.set e.1.toNat (min (nd out e.1) (nd out e.2.1 + 1)) else out
def foldS (n : Int) (es : List TEdge) (t : Int) (j : Nat) (out : List Int) : List Int := (es.take j).foldl (relS n es t) out
def roundsS (n : Int) (es : List TEdge) (t : Int) : Nat → List Int
  | 0 => dist0 n t
  | k + 1 => foldS n es t es.length (roundsS n es t k)
theorem foldS_succ {n : Int} {es : List TEdge} {t : Int} {j : Nat} {out : List Int} (h : j < es.length) : foldS n es t (j + 1) out = relS n es t (foldS n es t j out) es[j] := by
  unfold foldS
  rw [List.take_succ_eq_append_getElem h, List.foldl_append]
  rfl
def SOk (n : Int) (es : List TEdge) (t : Int) (out : List Int) : Prop := out.length = n.toNat ∧ ∀ x, 0 ≤ x ∧ x < n → fw n es t x ≤ nd out x ∧ nd out x ≤ 1000000
theorem SOk.rel {n : Int} {es : List TEdge} (hg : graphOk n es) {t : Int} {out : List Int} (h : SOk n es t out) {e : TEdge} (he : e ∈ es) : SOk n es t (relS n es t out e) ∧ ∀ x, 0 ≤ x ∧ x < n → nd (relS n es t out e) x ≤ nd out x := by
  have ho := edge_ok hg he
  unfold relS
  split
  · rename_i ht
    have hset : ∀ x, 0 ≤ x ∧ x < n → nd (out.set e.1.toNat (min (nd out e.1) (nd out e.2.1 + 1))) x = if e.1 = x then min (nd out e.1) (nd out e.2.1 + 1) else nd out x := fun x hx => nd_set (by have := h.1; omega) hx.1
    have h1 := h.2 e.1 ho.1
    have h2 := h.2 e.2.1 ho.2.1
    have h3 := fw_edge hg he ht
    refine ⟨⟨by simpa using h.1, fun x hx => ?_⟩, fun x hx => ?_⟩
    · rw [hset x hx]
      have := h.2 x hx
      split
      · rename_i q; subst q; omega
      · exact this
    · rw [hset x hx]
      split
      · rename_i q; subst q; omega
      · omega
  · exact ⟨h, fun x _ => Int.le_refl _⟩
theorem SOk.fold {n : Int} {es : List TEdge} (hg : graphOk n es) {t : Int} {out : List Int} (h : SOk n es t out) : ∀ {fs : List TEdge}, (∀ e ∈ fs, e ∈ es) → SOk n es t (fs.foldl (relS n es t) out) ∧ ∀ x, 0 ≤ x ∧ x < n → nd (fs.foldl (relS n es t) out) x ≤ nd out x := by
  intro fs
  induction fs generalizing out with
  | nil => exact fun _ => ⟨h, fun x _ => Int.le_refl _⟩
  | cons e fs ih =>
    intro hs
    obtain ⟨a1, a2⟩ := h.rel hg (hs e (by simp))
    obtain ⟨b1, b2⟩ := ih a1 fun f hf => hs f (List.mem_cons_of_mem _ hf)
    exact ⟨b1, fun x hx => Int.le_trans (b2 x hx) (a2 x hx)⟩
theorem SOk.zero {n : Int} {es : List TEdge} (hg : graphOk n es) {t : Int} (ht : 0 ≤ t ∧ t < n) : SOk n es t (dist0 n t) := by
  refine ⟨by simp [dist0], fun x hx => ?_⟩
  rw [zero_at ht hx]
  have := fw_in hg t x
  have hn := hg.1
  split
  · rename_i q; subst q; rw [fw_t]; omega
  · omega
theorem SOk.part {n : Int} {es : List TEdge} (hg : graphOk n es) {t : Int} {out : List Int} (h : SOk n es t out) (j : Nat) : SOk n es t (foldS n es t j out) := (h.fold hg fun e he => List.mem_of_mem_take he).1
theorem SOk.rounds {n : Int} {es : List TEdge} (hg : graphOk n es) {t : Int} (ht : 0 ≤ t ∧ t < n) : ∀ k, SOk n es t (roundsS n es t k)
  | 0 => SOk.zero hg ht
  | k + 1 => (SOk.rounds hg ht k).part hg _
theorem roundS_hit {n : Int} {es : List TEdge} (hg : graphOk n es) {t : Int} {out : List Int} (h : SOk n es t out) {e : TEdge} (he : e ∈ es) (ht : tight n es t e) : nd (foldS n es t es.length out) e.1 ≤ nd out e.2.1 + 1 := by
  obtain ⟨A, B, hAB⟩ := List.append_of_mem he
  unfold foldS
  rw [List.take_length]
  have ho := edge_ok hg he
  have e1 : es.foldl (relS n es t) out = B.foldl (relS n es t) (relS n es t (A.foldl (relS n es t) out) e) := by
    conv => lhs; arg 3; rw [hAB]
    rw [List.foldl_append, List.foldl_cons]
  rw [e1]
  obtain ⟨a1, a2⟩ := h.fold hg (fs := A) fun f hf => by rw [hAB]; exact List.mem_append_left _ hf
  obtain ⟨b1, b2⟩ := a1.rel hg he
  obtain ⟨c1, c2⟩ := b1.fold hg (fs := B) fun f hf => by rw [hAB]; exact List.mem_append_right _ (List.mem_cons_of_mem _ hf)
  have l1 := c2 e.1 ho.1
  have l2 := a2 e.2.1 ho.2.1
  have l3 : nd (relS n es t (A.foldl (relS n es t) out) e) e.1 ≤ nd (A.foldl (relS n es t) out) e.2.1 + 1 := by
    generalize A.foldl (relS n es t) out = o' at *
    unfold relS
    rw [if_pos ht, nd_set (by have := a1.1; omega) ho.1.1, if_pos rfl]
    omega
  omega
theorem rounds_fw {n : Int} {es : List TEdge} (hg : graphOk n es) {t : Int} (ht : 0 ≤ t ∧ t < n) : ∀ (k : Nat) (x : Int), 0 ≤ x ∧ x < n → fw n es t x ≤ k → nd (roundsS n es t k) x ≤ fw n es t x
  | 0, x, hx, h => by
    have h0 := fw_in hg t x
    rw [roundsS, zero_at ht hx]
    split
    · omega
    · rename_i q
      obtain ⟨e, he, rfl, h2, h3⟩ := fw_next (n := n) (es := es) (fun hh => q hh.symm) (by omega)
      have := fw_in hg t e.2.1
      omega
  | k + 1, x, hx, h => by
    have hn := hg.1
    have h0 := fw_in hg t x
    have hok := SOk.rounds (es := es) hg ht k
    by_cases q : x = t
    · have := (hok.part hg es.length)
      have h2 := rounds_fw hg ht k x hx (by rw [q, fw_t]; omega)
      have h3 := (hok.fold hg (fs := es.take es.length) fun f hf => List.mem_of_mem_take hf).2 x hx
      rw [roundsS]
      unfold foldS
      omega
    · by_cases hlt : fw n es t x < 1000000
      · obtain ⟨e, he, rfl, h2, h3⟩ := fw_next (n := n) (es := es) q hlt
        have ho := edge_ok hg he
        have ih := rounds_fw hg ht k e.2.1 ho.2.1 (by omega)
        have := roundS_hit hg hok he h2
        rw [roundsS]
        omega
      · have := (hok.part hg es.length).2 x hx
        rw [roundsS]
        omega
theorem list_tab {q : Int → Int} {out : List Int} {n : Nat} (hl : out.length = n) (h : ∀ x : Int, 0 ≤ x ∧ x < n → nd out x = q x) : out = tab q n := by
  apply List.ext_getElem
  · rw [hl, tab_len]
  · intro i h1 h2
    have := h (i : Int) (by omega)
    unfold nd at this
    simp [h1] at this
    rw [this]
    simp [tab]
theorem steps_fw {n : Int} {es : List TEdge} (hg : graphOk n es) {t : Int} (ht : 0 ≤ t ∧ t < n) : roundsS n es t n.toNat = tab (fw n es t) n.toNat := by
  have hn := hg.1
  have hok := SOk.rounds (es := es) hg ht n.toNat
  refine list_tab hok.1 fun x hx => ?_
  have hx' : 0 ≤ x ∧ x < n := by omega
  have h1 := hok.2 x hx'
  rcases (fw_in hg t x).2 with h | h
  · have := rounds_fw hg ht n.toNat x hx' (by omega); omega
  · omega

/-! #### the preferred way -/
noncomputable def nxt (n : Int) (es : List TEdge) (t x : Int) : Int := ((hops n es x t).find? fun y => decide (fw n es t y = fw n es t x - 1)).getD x
theorem hop_edge {n : Int} {es : List TEdge} {a b y : Int} (h : y ∈ hops n es a b) : ∃ e, e ∈ es ∧ e.1 = a ∧ e.2.1 = y ∧ e.2.2 + far n es y b = far n es a b ∧ far n es a b ≠ 1000000 ∧ a ≠ b := by
  unfold hops at h
  split at h
  · simp at h
  · rename_i hc
    obtain ⟨e, he, hx⟩ := List.mem_filterMap.1 h
    unfold hopAt at hx
    split at hx
    · rename_i hc2
      simp at hx
      exact ⟨e, he, hc2.1, hx, by rw [← hx]; exact hc2.2, fun hh => hc (.inr hh), fun hh => hc (.inl hh)⟩
    · cases hx
theorem edge_hop {n : Int} {es : List TEdge} {b : Int} {e : TEdge} (he : e ∈ es) (ht : tight n es b e) (hne : e.1 ≠ b) : e.2.1 ∈ hops n es e.1 b := by
  unfold hops
  have := ht.1
  rw [if_neg (fun hh => by rcases hh with hh | hh <;> omega)]
  refine List.mem_filterMap.2 ⟨e, he, ?_⟩
  unfold hopAt
  rw [if_pos ⟨rfl, ht.2⟩]
theorem nxt_spec {n : Int} {es : List TEdge} (hg : graphOk n es) {t x : Int} (ht : 0 ≤ t ∧ t < n) (hne : x ≠ t) (h : fw n es t x < 1000000) : nxt n es t x ∈ hops n es x t ∧ fw n es t (nxt n es t x) = fw n es t x - 1 := by
  obtain ⟨e, he, rfl, h2, h3⟩ := fw_next (n := n) (es := es) hne h
  have hm := edge_hop he h2 hne
  have h4 := fw_edge hg he h2
  unfold nxt
  cases hf : (hops n es e.1 t).find? fun y => decide (fw n es t y = fw n es t e.1 - 1) with
  | none =>
    have := List.find?_eq_none.1 hf _ hm
    simp at this
    omega
  | some y =>
    have a := List.mem_of_find?_eq_some hf
    have b := List.find?_some hf
    simp at b
    exact ⟨a, b⟩
noncomputable def iter (n : Int) (es : List TEdge) (t x : Int) : Nat → Int
  | 0 => x
  | k + 1 => nxt n es t (iter n es t x k)
/-- The way of k steps, its start in front. -/
noncomputable def wayTo (n : Int) (es : List TEdge) (t x : Int) : Nat → List Int
  | 0 => [x]
  | k + 1 => wayTo n es t x k ++ [iter n es t x (k + 1)]
theorem wayTo_len (n : Int) (es : List TEdge) (t x : Int) : ∀ k, (wayTo n es t x k).length = k + 1
  | 0 => rfl
  | k + 1 => by rw [wayTo, List.length_append, wayTo_len]; rfl
theorem iter_fw {n : Int} {es : List TEdge} (hg : graphOk n es) {t x : Int} (ht : 0 ≤ t ∧ t < n) (hx : 0 ≤ x ∧ x < n) (h : fw n es t x < 1000000) : ∀ k : Nat, (k : Int) ≤ fw n es t x → fw n es t (iter n es t x k) = fw n es t x - k ∧ (0 ≤ iter n es t x k ∧ iter n es t x k < n)
  | 0, _ => ⟨by simp [iter], hx⟩
  | k + 1, hk => by
    obtain ⟨h1, h2⟩ := iter_fw hg ht hx h k (by omega)
    have hne : iter n es t x k ≠ t := fun e => by rw [e, fw_t] at h1; omega
    obtain ⟨h3, h4⟩ := nxt_spec hg ht hne (by omega)
    obtain ⟨e, he, _, e2, _⟩ := hop_edge h3
    have := (edge_ok hg he).2.1
    refine ⟨?_, ?_⟩
    · show fw n es t (nxt n es t (iter n es t x k)) = _
      rw [h4, h1]; omega
    · show 0 ≤ nxt n es t (iter n es t x k) ∧ nxt n es t (iter n es t x k) < n
      rw [← e2]; exact this
theorem iter_end {n : Int} {es : List TEdge} (hg : graphOk n es) {t x : Int} (ht : 0 ≤ t ∧ t < n) (hx : 0 ≤ x ∧ x < n) (h : fw n es t x < 1000000) : ∀ k : Nat, (k : Int) ≤ fw n es t x → (iter n es t x k = t ↔ (k : Int) = fw n es t x) := fun k hk => by
  obtain ⟨h1, h2⟩ := iter_fw hg ht hx h k hk
  constructor
  · intro e; rw [e, fw_t] at h1; omega
  · intro e
    rcases fw_spec n es t (iter n es t x k) with ⟨j, g1, g2, _⟩ | ⟨g1, _⟩
    · have : j = 0 := by omega
      subst this
      generalize iter n es t x k = z at *
      cases g2; rfl
    · omega
noncomputable def cheap (n : Int) (es : List TEdge) (t x : Int) : List Int := if far n es x t < 1000000 then wayTo n es t x (fw n es t x).toNat else []

end Go.Proofs.Ytipdfhjilegkcaa
