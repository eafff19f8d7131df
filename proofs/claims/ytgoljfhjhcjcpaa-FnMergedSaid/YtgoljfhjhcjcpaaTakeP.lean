/-
Plain laws: an advertisement read from bytes.
-/
import Derived.Test.YtgoljfhjhcjcpaaTakeA
import Derived.Test.YtgoljfhjhcjcpaaKindA
import Derived.Test.YtgoljfhjhcjcpaaDbF
set_option linter.all false
namespace Go.Proofs.Ytgoljfhjhcjcpaa
open Go Go.Abs Go.Proofs

def nth (b : List Int) (i : Nat) : Int := b.getD i 0
def rdB (b : List Int) (i c : Nat) : Int := readB ((b.take (i + c)).drop i)
def linkAt (b : List Int) (i : Nat) : TLink := (nth b (5 + 3 * i), rdB b (6 + 3 * i) 2)
def stubAt (b : List Int) (p j : Nat) : TStub := (rdB b (p + 5 * j) 2, nth b (p + 5 * j + 2), rdB b (p + 5 * j + 3) 2)
def nL (b : List Int) : Nat := (nth b 4).toNat
def pS (b : List Int) : Nat := 5 + 3 * nL b
def nS (b : List Int) : Nat := (nth b (pS b)).toNat
def pA (b : List Int) : Nat := pS b + 1 + 5 * nS b
def linksAt (b : List Int) (i : Nat) : List TLink := (List.range i).map (linkAt b)
def stubsAt (b : List Int) (i : Nat) : List TStub := (List.range i).map (stubAt b (pS b + 1))
def lsaAt (b : List Int) : TLsa := ⟨nth b 0, rdB b 1 3, nth b (pA b), linksAt b (nL b), stubsAt b (nS b)⟩
def fitsB (b : List Int) : Prop := 5 ≤ b.length ∧ pS b < b.length ∧ pA b < b.length
instance (b : List Int) : Decidable (fitsB b) := by unfold fitsB; infer_instance
def goodB (b : List Int) : Prop := fitsB b ∧ lsaOk (lsaAt b) ∧ putB (lsaAt b) = b
instance (b : List Int) : Decidable (goodB b) := by unfold goodB; infer_instance
def takeR (b : List Int) : TLsa × Bool := if goodB b then (lsaAt b, true) else (zeroL, false)
theorem linksAt_succ (b : List Int) (i : Nat) : linksAt b (i + 1) = linksAt b i ++ [linkAt b i] := by
  unfold linksAt
  rw [List.range_succ, List.map_append]
  rfl
theorem stubsAt_succ (b : List Int) (i : Nat) : stubsAt b (i + 1) = stubsAt b i ++ [stubAt b (pS b + 1) i] := by
  unfold stubsAt
  rw [List.range_succ, List.map_append]
  rfl
theorem linksAt_len (b : List Int) (i : Nat) : (linksAt b i).length = i := by simp [linksAt]
theorem stubsAt_len (b : List Int) (i : Nat) : (stubsAt b i).length = i := by simp [stubsAt]
/-- What fits and is the same again has the right length. -/
theorem good_len {b : List Int} (h : goodB b) : 10 ≤ b.length ∧ b.length ≤ 70 ∧ pA b + 4 = b.length := by
  obtain ⟨_, h1, h2⟩ := h
  have hl := putB_len (lsaAt b)
  rw [h2] at hl
  have e1 : (lsaAt b).links.length = nL b := linksAt_len ..
  have e2 : (lsaAt b).stubs.length = nS b := stubsAt_len ..
  have a1 := h1.2.2.2.1
  have a2 := h1.2.2.2.2.1
  rw [e1] at hl a1
  rw [e2] at hl a2
  unfold pA pS
  omega
theorem nth_in {b : List Int} (hb : ∀ c ∈ b, isB c) (i : Nat) : isB (nth b i) := by
  unfold nth
  rw [List.getD_eq_getElem?_getD]
  by_cases e : i < b.length
  · rw [List.getElem?_eq_getElem e]
    exact hb _ (List.getElem_mem e)
  · rw [List.getElem?_eq_none (by omega)]
    exact ⟨by simp, by simp⟩
theorem part_in {b : List Int} (hb : ∀ c ∈ b, isB c) (i j : Nat) : ∀ c ∈ (b.take j).drop i, isB c := fun c hc => hb c (List.mem_of_mem_take (List.mem_of_mem_drop hc))
theorem part_len (b : List Int) (i c : Nat) : ((b.take (i + c)).drop i).length ≤ c := by simp; omega
theorem rdB_in {b : List Int} (hb : ∀ c ∈ b, isB c) (i : Nat) {c : Nat} (hc : c ≤ 3) : 0 ≤ rdB b i c ∧ rdB b i c < 16777216 := by
  have h1 := readB_in (part_in hb i (i + c))
  have h2 := part_len b i c
  have h3 := pow_small (n := ((b.take (i + c)).drop i).length) (by omega)
  unfold rdB
  omega
theorem takeR_small (b : List Int) : bLsa (takeR b).1 := by
  unfold takeR bLsa
  split
  · rename_i h
    have a1 := h.2.1.2.2.2.1
    have a2 := h.2.1.2.2.2.2.1
    simp only
    omega
  · simp [zeroL]
end Go.Proofs.Ytgoljfhjhcjcpaa
