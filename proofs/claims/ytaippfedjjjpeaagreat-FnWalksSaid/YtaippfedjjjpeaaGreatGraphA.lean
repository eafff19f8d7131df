/-
Graphs in plain terms: well-formed ones, costs, distances, hops.
-/
import Derived.Test.YtaippfedjjjpeaaGreatEdges
import Derived.Test.YtaippfedjjjpeaaGreatAbs3
set_option linter.all false
namespace Go.Proofs.YtaippfedjjjpeaaGreat
open Go Go.Abs

abbrev ed (es : List TEdge) (i : Nat) : TEdge := es.getD i (0, 0, 0)
def okAt (n : Int) (es : List TEdge) (i : Nat) : Prop :=
  (0 ≤ (ed es i).1 ∧ (ed es i).1 < n) ∧ (0 ≤ (ed es i).2.1 ∧ (ed es i).2.1 < n) ∧ (ed es i).1 ≠ (ed es i).2.1 ∧ (1 ≤ (ed es i).2.2 ∧ (ed es i).2.2 ≤ 1000) ∧
    (0 < i → ((ed es (i - 1)).1 < (ed es i).1 ∨ (ed es (i - 1)).1 = (ed es i).1 ∧ (ed es (i - 1)).2.1 < (ed es i).2.1))
instance (n : Int) (es : List TEdge) (i : Nat) : Decidable (okAt n es i) := by unfold okAt; infer_instance
def graphOk (n : Int) (es : List TEdge) : Prop := (1 ≤ n ∧ n ≤ 10) ∧ es.length ≤ 60 ∧ ∀ i, i < es.length → okAt n es i
instance (n : Int) (es : List TEdge) : Decidable (graphOk n es) := by unfold graphOk; infer_instance

def isHit (a b : Int) (e : TEdge) : Bool := decide (e.1 = a ∧ e.2.1 = b)
def look (es : List TEdge) (a b : Int) : Int := match es.find? (isHit a b) with | some e => e.2.2 | none => 1000000
def cost (n : Int) (es : List TEdge) (a b : Int) : Int := if a = b ∧ 0 ≤ a ∧ a < n then 0 else look es a b

theorem ed_get {es : List TEdge} {i : Nat} (h : i < es.length) : ed es i = es[i] := by simp [ed, h]
theorem ed_mem {es : List TEdge} {e : TEdge} (h : e ∈ es) : ∃ i, i < es.length ∧ ed es i = e := by
  obtain ⟨i, hi, rfl⟩ := List.getElem_of_mem h
  exact ⟨i, hi, ed_get hi⟩
theorem look_hit {es : List TEdge} {a b : Int} {i : Nat} (hi : i < es.length) (h1 : (ed es i).1 = a) (h2 : (ed es i).2.1 = b) (h : ∀ j, j < i → ¬ ((ed es j).1 = a ∧ (ed es j).2.1 = b)) : look es a b = (ed es i).2.2 := by
  have : es.find? (isHit a b) = some es[i] := by
    rw [List.find?_eq_some_iff_getElem]
    rw [ed_get hi] at h1 h2
    refine ⟨by simp [isHit, h1, h2], i, hi, rfl, fun j hj => ?_⟩
    have := h j hj
    rw [ed_get (by omega)] at this
    simp [isHit]
    omega
  rw [look, this, ed_get hi]
theorem look_none {es : List TEdge} {a b : Int} (h : ∀ j, j < es.length → ¬ ((ed es j).1 = a ∧ (ed es j).2.1 = b)) : look es a b = 1000000 := by
  have : es.find? (isHit a b) = none := by
    rw [List.find?_eq_none]
    intro e he
    obtain ⟨i, hi, rfl⟩ := ed_mem he
    simp [isHit]
    intro q1 q2
    exact h i hi ⟨q1, q2⟩
  rw [look, this]
theorem look_cases {n : Int} {es : List TEdge} (hg : graphOk n es) (a b : Int) : look es a b = 1000000 ∨ ((1 ≤ look es a b ∧ look es a b ≤ 1000) ∧ (0 ≤ a ∧ a < n) ∧ (0 ≤ b ∧ b < n) ∧ a ≠ b) := by
  unfold look
  split
  · rename_i e he
    have hm := List.mem_of_find?_eq_some he
    have hp := List.find?_some he
    obtain ⟨i, hi, rfl⟩ := ed_mem hm
    simp [isHit] at hp
    obtain ⟨g1, g2, g3, g4, _⟩ := hg.2.2 i hi
    obtain ⟨p1, p2⟩ := hp
    rw [← p1, ← p2]
    exact .inr ⟨g4, g1, g2, g3⟩
  · exact .inl rfl
theorem cost_cases {n : Int} {es : List TEdge} (hg : graphOk n es) (a b : Int) : cost n es a b = 1000000 ∨ (0 ≤ cost n es a b ∧ cost n es a b ≤ 1000) := by
  unfold cost
  split
  · exact .inr (by omega)
  · rcases look_cases hg a b with h | ⟨h, _⟩
    · exact .inl h
    · exact .inr (by omega)

def relax (out : List Int) (e : TEdge) : List Int :=
  if out.getD e.1.toNat 0 < 1000000 ∧ out.getD e.1.toNat 0 + e.2.2 < out.getD e.2.1.toNat 0 then out.set e.2.1.toNat (out.getD e.1.toNat 0 + e.2.2) else out
def round (es : List TEdge) (out : List Int) : List Int := es.foldl relax out
def rounds (es : List TEdge) : Nat → List Int → List Int
  | 0, out => out
  | k + 1, out => round es (rounds es k out)
def dist0 (n a : Int) : List Int := (List.replicate n.toNat 1000000).set a.toNat 0
def dist (n : Int) (es : List TEdge) (a : Int) : List Int := rounds es n.toNat (dist0 n a)
def DOk (n : Int) (out : List Int) : Prop := out.length = n.toNat ∧ ∀ i, i < n.toNat → 0 ≤ out.getD i 0 ∧ out.getD i 0 ≤ 1000000
theorem DOk.relax {n : Int} {out : List Int} {e : TEdge} (h : DOk n out) (h1 : 0 ≤ e.1 ∧ e.1 < n) (h2 : 1 ≤ e.2.2) : DOk n (relax out e) := by
  unfold YtaippfedjjjpeaaGreat.relax
  split
  · rename_i hc
    refine ⟨by simpa using h.1, fun i hi => ?_⟩
    have hl := h.1
    have ha := h.2 e.1.toNat (by omega)
    by_cases hb : e.2.1.toNat = i
    · subst hb
      have := h.2 e.2.1.toNat hi
      rw [List.getD_eq_getElem?_getD, List.getElem?_set_self (by omega)]
      simp only [Option.getD_some]
      omega
    · rw [List.getD_eq_getElem?_getD, List.getElem?_set_ne hb, ← List.getD_eq_getElem?_getD]
      exact h.2 i hi
  · exact h
theorem DOk.zero {n a : Int} : DOk n (dist0 n a) := by
  refine ⟨by simp [dist0], fun i hi => ?_⟩
  unfold dist0
  by_cases hb : a.toNat = i
  · subst hb
    rw [List.getD_eq_getElem?_getD, List.getElem?_set_self (by simpa using hi)]
    simp
  · rw [List.getD_eq_getElem?_getD, List.getElem?_set_ne hb]
    simp [hi]
def part (es : List TEdge) (j : Nat) (out : List Int) : List Int := (es.take j).foldl relax out
theorem part_succ {es : List TEdge} {j : Nat} {out : List Int} (h : j < es.length) : part es (j + 1) out = relax (part es j out) (ed es j) := by
  unfold part
  rw [List.take_succ_eq_append_getElem h, List.foldl_append, ed_get h]
  rfl
theorem part_all {es : List TEdge} {out : List Int} : part es es.length out = round es out := by simp [part, round]
theorem DOk.part {n : Int} {es : List TEdge} {out : List Int} (hg : graphOk n es) (h : DOk n out) : ∀ {j : Nat}, j ≤ es.length → DOk n (part es j out)
  | 0, _ => by simpa [YtaippfedjjjpeaaGreat.part] using h
  | j + 1, hj => by
    rw [part_succ (by omega)]
    have := hg.2.2 j (by omega)
    exact (DOk.part hg h (by omega)).relax this.1 (by have := this.2.2.2.1; omega)
theorem DOk.rounds {n : Int} {es : List TEdge} {out : List Int} (hg : graphOk n es) (h : DOk n out) : ∀ k, DOk n (rounds es k out)
  | 0 => h
  | k + 1 => by
    rw [YtaippfedjjjpeaaGreat.rounds, ← part_all]
    exact (DOk.rounds hg h k).part hg (Nat.le_refl _)
theorem DOk.dist {n : Int} {es : List TEdge} (hg : graphOk n es) (a : Int) : DOk n (dist n es a) := DOk.zero.rounds hg _
def far (n : Int) (es : List TEdge) (a b : Int) : Int := (dist n es a).getD b.toNat 0
theorem far_in {n : Int} {es : List TEdge} (hg : graphOk n es) (a : Int) {b : Int} (h0 : 0 ≤ b) (h1 : b < n) : 0 ≤ far n es a b ∧ far n es a b ≤ 1000000 := (DOk.dist hg a).2 _ (by omega)

/-! #### hops -/
theorem lt_sorted_eq : ∀ {xs ys : List Int}, xs.Pairwise (· < ·) → ys.Pairwise (· < ·) → (∀ x, x ∈ xs ↔ x ∈ ys) → xs = ys
  | [], [], _, _, _ => rfl
  | [], y :: ys, _, _, h => absurd ((h y).2 (by simp)) (by simp)
  | x :: xs, [], _, _, h => absurd ((h x).1 (by simp)) (by simp)
  | x :: xs, y :: ys, h1, h2, h => by
    rw [List.pairwise_cons] at h1 h2
    have e : x = y := by
      have a := (h x).1 (by simp)
      have b := (h y).2 (by simp)
      simp at a b
      rcases a with a | a
      · exact a
      · rcases b with b | b
        · exact b.symm
        · have := h1.1 y b
          have := h2.1 x a
          omega
    subst e
    congr 1
    refine lt_sorted_eq h1.2 h2.2 fun z => ?_
    constructor
    · intro hz
      have := (h z).1 (by simp [hz])
      simp at this
      rcases this with rfl | this
      · exact absurd (h1.1 _ hz) (by omega)
      · exact this
    · intro hz
      have := (h z).2 (by simp [hz])
      simp at this
      rcases this with rfl | this
      · exact absurd (h2.1 _ hz) (by omega)
      · exact this

def hopAt (n : Int) (es : List TEdge) (a b : Int) (e : TEdge) : Option Int := if e.1 = a ∧ e.2.2 + far n es e.2.1 b = far n es a b then some e.2.1 else none
/-- as the program does it -/
def hops (n : Int) (es : List TEdge) (a b : Int) : List Int := if a = b ∨ far n es a b = 1000000 then [] else es.filterMap (hopAt n es a b)
def hopX (n : Int) (es : List TEdge) (a b x : Int) : Bool := decide (x ≠ a ∧ cost n es a x < 1000000 ∧ cost n es a x + far n es x b = far n es a b)
/-- as the reference does it -/
def hopsR (n : Int) (es : List TEdge) (a b : Int) : List Int := if a = b ∨ far n es a b = 1000000 then [] else ((List.range n.toNat).map (fun i : Nat => (i : Int))).filter (hopX n es a b)

theorem lex_lt {n : Int} {es : List TEdge} (hg : graphOk n es) {i : Nat} : ∀ {j : Nat}, i < j → j < es.length → ((ed es i).1 < (ed es j).1 ∨ (ed es i).1 = (ed es j).1 ∧ (ed es i).2.1 < (ed es j).2.1)
  | 0, h, _ => absurd h (by omega)
  | j + 1, h, hj => by
    have h1 := (hg.2.2 (j + 1) hj).2.2.2.2 (by omega)
    simp only [Nat.add_sub_cancel] at h1
    by_cases e : i = j
    · subst e; exact h1
    · have h2 := lex_lt hg (i := i) (j := j) (by omega) (by omega)
      omega
theorem look_edge {n : Int} {es : List TEdge} (hg : graphOk n es) {e : TEdge} (he : e ∈ es) : look es e.1 e.2.1 = e.2.2 := by
  obtain ⟨i, hi, rfl⟩ := ed_mem he
  refine look_hit hi rfl rfl fun j hj hh => ?_
  have := lex_lt hg hj hi
  omega
theorem look_mem {es : List TEdge} {a b : Int} (h : look es a b ≠ 1000000) : ∃ e, e ∈ es ∧ e.1 = a ∧ e.2.1 = b ∧ look es a b = e.2.2 := by
  unfold look at *
  split at h
  · rename_i e he
    have hp := List.find?_some he
    simp [isHit] at hp
    exact ⟨e, List.mem_of_find?_eq_some he, hp.1, hp.2, rfl⟩
  · exact absurd rfl h
theorem hops_sorted {n : Int} {es : List TEdge} (hg : graphOk n es) (a b : Int) : (es.filterMap (hopAt n es a b)).Pairwise (· < ·) := by
  rw [List.pairwise_filterMap]
  rw [List.pairwise_iff_getElem]
  intro i j hi hj hij x hx y hy
  have := lex_lt hg hij hj
  rw [ed_get hi, ed_get hj] at this
  unfold hopAt at hx hy
  split at hx
  · split at hy
    · simp at hx hy
      omega
    · cases hy
  · cases hx
theorem range_sorted (n : Nat) : ((List.range n).map (fun i : Nat => (i : Int))).Pairwise (· < ·) := by
  rw [List.pairwise_map]
  refine List.Pairwise.imp ?_ List.pairwise_lt_range
  intro a b h
  omega
theorem hops_eq {n : Int} {es : List TEdge} (hg : graphOk n es) (a b : Int) : hops n es a b = hopsR n es a b := by
  unfold hops hopsR
  split
  · rfl
  refine lt_sorted_eq (hops_sorted hg a b) ((range_sorted _).filter _) fun x => ?_
  simp only [List.mem_filterMap, List.mem_filter, List.mem_map, List.mem_range]
  constructor
  · rintro ⟨e, he, hx⟩
    unfold hopAt at hx
    split at hx
    · rename_i hc
      simp at hx
      obtain ⟨i, hi, rfl⟩ := ed_mem he
      obtain ⟨g1, g2, g3, g4, _⟩ := hg.2.2 i hi
      have hl := look_edge hg he
      refine ⟨⟨(ed es i).2.1.toNat, by omega, by omega⟩, ?_⟩
      have hco : cost n es a x = (ed es i).2.2 := by
        unfold cost
        rw [if_neg (by omega), ← hc.1, ← hx]
        exact hl
      simp only [hopX, hco, decide_eq_true_eq]
      refine ⟨by omega, by omega, ?_⟩
      rw [← hx]
      exact hc.2
    · cases hx
  · rintro ⟨⟨i, hi, rfl⟩, hx⟩
    simp only [hopX, decide_eq_true_eq] at hx
    obtain ⟨h1, h2, h3⟩ := hx
    have hc : cost n es a (i : Int) = look es a (i : Int) := by unfold cost; rw [if_neg (by omega)]
    rw [hc] at h2 h3
    obtain ⟨e, he, q1, q2, q3⟩ := look_mem (es := es) (a := a) (b := (i : Int)) (by omega)
    refine ⟨e, he, ?_⟩
    unfold hopAt
    rw [if_pos ⟨q1, by rw [q2, ← q3]; exact h3⟩, q2]

end Go.Proofs.YtaippfedjjjpeaaGreat
