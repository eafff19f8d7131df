/-
Contracts: valid nets.
-/
import Derived.Test.YtaippfedjjjpeaaGreatNets
import Derived.Test.YtaippfedjjjpeaaGreatLsaM
set_option linter.all false
namespace Go.Proofs.YtaippfedjjjpeaaGreat
open Go Go.Abs Go.Proofs

def edgeT (_ : Bool) : Ty TEdge := flatT 3 enEdge (fun _ => rfl)
def nodesIn (n : Int) (x : Int) : Prop := 0 ≤ x ∧ x < n
instance (n x : Int) : Decidable (nodesIn n x) := by unfold nodesIn; infer_instance
def pairOk (n : Int) (es : List TEdge) (i : Nat) : Prop := cost n es (ed es i).2.1 (ed es i).1 = (ed es i).2.2
instance (n : Int) (es : List TEdge) (i : Nat) : Decidable (pairOk n es i) := by unfold pairOk; infer_instance
def pairsOk (n : Int) (es : List TEdge) : Prop := ∀ i, i < es.length → pairOk n es i
instance (n : Int) (es : List TEdge) : Decidable (pairsOk n es) := by unfold pairsOk; infer_instance
def msgOk (n : Int) (m : TMsg) : Prop := nodesIn n m.1 ∧ nodesIn n m.2.1 ∧ m.1 ≠ m.2.1 ∧ lsaOk m.2.2
instance (n : Int) (m : TMsg) : Decidable (msgOk n m) := by unfold msgOk; infer_instance
def dbsOk (xs : List (List TLsa)) : Prop := ∀ i, (h : i < xs.length) → dbOk xs[i]
instance (xs : List (List TLsa)) : Decidable (dbsOk xs) := by unfold dbsOk; infer_instance
def wiresOk (n : Int) (xs : List TMsg) : Prop := ∀ i, (h : i < xs.length) → msgOk n xs[i]
instance (n : Int) (xs : List TMsg) : Decidable (wiresOk n xs) := by unfold wiresOk; infer_instance
def netOk (a : TNet) : Prop := graphOk a.up.n a.up.es ∧ a.up.n ≤ 6 ∧ pairsOk a.up.n a.up.es ∧ (a.dbs.length : Int) = a.up.n ∧ a.wires.length ≤ 400 ∧ (0 ≤ a.lost ∧ a.lost ≤ 1000000) ∧ dbsOk a.dbs ∧ wiresOk a.up.n a.wires
instance (a : TNet) : Decidable (netOk a) := by unfold netOk; infer_instance

def InvN1 (xs : List (List TLsa)) (H : Heap) (m : Nat) (ys : List V) (Hc : Heap) : Prop :=
  ∃ i, i ≤ xs.length ∧ ys = [.int .i64 (i : Nat)] ∧ m = xs.length - i ∧ Hc = H ∧ ∀ j, (h : j < xs.length) → j < i → dbOk xs[j]
def InvN2 (n : Int) (xs : List TMsg) (cells : List V) (H : Heap) (m : Nat) (ys : List V) (Hc : Heap) : Prop :=
  ∃ i, i ≤ xs.length ∧ ys = [.box cells, .int .i64 (i : Nat)] ∧ m = xs.length - i ∧ Hc = H ∧ ∀ j, (h : j < xs.length) → j < i → msgOk n xs[j]
/-! #### the program's -/
theorem no_all {n : Nat} {q : Nat → Prop} [∀ i, Decidable (q i)] : (!decide (∃ i, i < n ∧ (!decide (q i)) = true)) = decide (∀ i, i < n → q i) := by
  by_cases h : ∀ i, i < n → q i
  · have : ¬ ∃ i, i < n ∧ (!decide (q i)) = true := fun ⟨i, h1, h2⟩ => by simp [h i h1] at h2
    rw [decide_eq_true h, decide_eq_false this]; rfl
  · have : ∃ i, i < n ∧ (!decide (q i)) = true := by
      apply Classical.byContradiction
      intro hh
      refine h fun i hi => ?_
      apply Classical.byContradiction
      intro hq
      exact hh ⟨i, hi, by simp [hq]⟩
    rw [decide_eq_false h, decide_eq_true this]; rfl
def chk {α : Type} (p : α → Bool) (xs : List α) (i : Nat) : Bool := match xs[i]? with | some a => p a | none => false
theorem chk_at {α : Type} {p : α → Bool} {xs : List α} {i : Nat} (h : i < xs.length) : chk p xs i = p xs[i] := by unfold chk; simp [h]
theorem chk_any {α : Type} {p : α → Bool} {xs : List α} : decide (∃ i, i < xs.length ∧ chk p xs i = true) = xs.any p := by
  by_cases h : xs.any p = true
  · rw [h]
    obtain ⟨a, ha, hp⟩ := List.any_eq_true.1 h
    obtain ⟨i, hi, rfl⟩ := List.mem_iff_getElem.1 ha
    exact decide_eq_true ⟨i, hi, by rw [chk_at hi]; exact hp⟩
  · rw [Bool.eq_false_iff.2 h]
    refine decide_eq_false fun ⟨i, hi, hp⟩ => h (List.any_eq_true.2 ⟨xs[i], List.getElem_mem hi, by rw [← chk_at (p := p) hi]; exact hp⟩)
theorem dbs_any {xs : List (List TLsa)} : xs.any (fun d => !decide (dbOk d)) = !decide (dbsOk xs) := by
  by_cases h : dbsOk xs
  · rw [decide_eq_true h]
    refine Bool.eq_false_iff.2 fun hh => ?_
    obtain ⟨a, ha, hp⟩ := List.any_eq_true.1 hh
    obtain ⟨i, hi, rfl⟩ := List.mem_iff_getElem.1 ha
    simp [h i hi] at hp
  · rw [decide_eq_false h]
    apply Classical.byContradiction
    intro hh
    refine h fun i hi => ?_
    apply Classical.byContradiction
    intro hq
    exact hh (List.any_eq_true.2 ⟨xs[i], List.getElem_mem hi, by simp [hq]⟩)
theorem wires_any {n : Int} {xs : List TMsg} : xs.any (fun d => !decide (msgOk n d)) = !decide (wiresOk n xs) := by
  by_cases h : wiresOk n xs
  · rw [decide_eq_true h]
    refine Bool.eq_false_iff.2 fun hh => ?_
    obtain ⟨a, ha, hp⟩ := List.any_eq_true.1 hh
    obtain ⟨i, hi, rfl⟩ := List.mem_iff_getElem.1 ha
    simp [h i hi] at hp
  · rw [decide_eq_false h]
    apply Classical.byContradiction
    intro hh
    refine h fun i hi => ?_
    apply Classical.byContradiction
    intro hq
    exact hh (List.any_eq_true.2 ⟨xs[i], List.getElem_mem hi, by simp [hq]⟩)
end Go.Proofs.YtaippfedjjjpeaaGreat
