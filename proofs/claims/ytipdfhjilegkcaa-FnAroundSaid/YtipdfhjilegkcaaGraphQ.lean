/-
Contracts: Coverage, Remote.
-/
import Derived.Test.YtipdfhjilegkcaaGraphP
set_option linter.all false
namespace Go.Proofs.Ytipdfhjilegkcaa
open Go Go.Abs Go.Proofs

/-! #### Coverage: the counts over d for one s, over s -/
def stepC (n : Int) (es : List TEdge) (s : Int) (c : Int × Int) (d : Nat) : Int × Int :=
  if (hops n es s d).length = 0 then c else if 0 ≤ bestA n es s d (alts n es s ((hops n es s d).headD (-1)) d) then (c.1 + 1, c.2 + 1) else (c.1, c.2 + 1)
def rowC (n : Int) (es : List TEdge) (s : Int) (c : Int × Int) : Nat → Int × Int
  | 0 => c
  | j + 1 => stepC n es s (rowC n es s c j) j
def allC (n : Int) (es : List TEdge) : Nat → Int × Int
  | 0 => (0, 0)
  | i + 1 => rowC n es i (allC n es i) n.toNat
def cover (n : Int) (es : List TEdge) : Int × Int := if around n es [] then allC n es n.toNat else (0, 0)
theorem stepC_in {n : Int} {es : List TEdge} {s : Int} {c : Int × Int} {d : Nat} {m : Int} (h : (0 ≤ c.1 ∧ c.1 ≤ m) ∧ (0 ≤ c.2 ∧ c.2 ≤ m)) : (0 ≤ (stepC n es s c d).1 ∧ (stepC n es s c d).1 ≤ m + 1) ∧ (0 ≤ (stepC n es s c d).2 ∧ (stepC n es s c d).2 ≤ m + 1) := by
  unfold stepC
  split
  · omega
  · split <;> simp only <;> omega
theorem rowC_in {n : Int} {es : List TEdge} {s : Int} {c : Int × Int} {m : Int} (h : (0 ≤ c.1 ∧ c.1 ≤ m) ∧ (0 ≤ c.2 ∧ c.2 ≤ m)) : ∀ j : Nat, (0 ≤ (rowC n es s c j).1 ∧ (rowC n es s c j).1 ≤ m + j) ∧ (0 ≤ (rowC n es s c j).2 ∧ (rowC n es s c j).2 ≤ m + j)
  | 0 => by simpa [rowC] using h
  | j + 1 => by
    have := stepC_in (n := n) (es := es) (s := s) (d := j) (rowC_in (n := n) (es := es) (s := s) h j)
    rw [rowC]
    omega
theorem allC_in {n : Int} {es : List TEdge} (hn : n.toNat ≤ 10) : ∀ i : Nat, (0 ≤ (allC n es i).1 ∧ (allC n es i).1 ≤ 10 * i) ∧ (0 ≤ (allC n es i).2 ∧ (allC n es i).2 ≤ 10 * i)
  | 0 => by simp [allC]
  | i + 1 => by
    have := rowC_in (n := n) (es := es) (s := i) (allC_in (es := es) hn i) n.toNat
    rw [allC]
    omega
theorem hop_node {n : Int} {es : List TEdge} (hg : graphOk n es) {a b x : Int} (h : x ∈ hops n es a b) : 0 ≤ x ∧ x < n := by
  unfold hops at h
  split at h
  · simp at h
  · simp only [List.mem_filterMap] at h
    obtain ⟨e, he, hx⟩ := h
    unfold hopAt at hx
    split at hx
    · simp at hx
      obtain ⟨i, hi, rfl⟩ := ed_mem he
      have := (hg.2.2 i hi).2.1
      omega
    · cases hx
theorem bestA_R {n : Int} {es : List TEdge} {s f d : Int} (ha : around n es [s, f, d]) : bestA n es s d (altsR n es s f d) = bestA n es s d (alts n es s f d) := by rw [altsR, if_pos ha]
theorem headD_get {l : List Int} (h : 0 < l.length) : l.headD (-1) = l[0] := by
  match l, h with
  | x :: xs, _ => rfl

def InvC1 (n : Int) (es : List TEdge) (H : Heap) (m : Nat) (ys : List V) (Hc : Heap) : Prop :=
  ∃ (i : Nat), (i : Int) ≤ n ∧ ys = [.int .i64 (allC n es i).1, .int .i64 (allC n es i).2, .int .i64 (i : Nat)] ∧ m = n.toNat - i ∧ Abs.sub H Hc
def InvC2 (n : Int) (es : List TEdge) (i : Nat) (H : Heap) (m : Nat) (ys : List V) (Hc : Heap) : Prop :=
  ∃ (j : Nat), (j : Int) ≤ n ∧ ys = [.int .i64 (rowC n es i (allC n es i) j).1, .int .i64 (rowC n es i (allC n es i) j).2, .int .i64 (j : Nat)] ∧ m = n.toNat - j ∧ Abs.sub H Hc

end Go.Proofs.Ytipdfhjilegkcaa
