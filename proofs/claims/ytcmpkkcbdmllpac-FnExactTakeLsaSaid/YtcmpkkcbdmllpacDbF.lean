/-
Contracts: finding an advertisement.
-/
import Derived.Test.YtcmpkkcbdmllpacLsaG
import Derived.Test.YtcmpkkcbdmllpacLsaC
set_option linter.all false
namespace Go.Proofs.Ytcmpkkcbdmllpac
open Go Go.Abs Go.Proofs

def cmpI (a b : Int) : Int := if a < b then -1 else if b < a then 1 else 0
theorem mid_ : ∀ s : Nat, s ≤ 20 → aBinN .shr (.int .u64 (IntKind.u64.wrap (s : Int))) (.int .u64 1) = some (.int .u64 ((s / 2 : Nat) : Int)) := by
  intro s hs
  have : s = 0 ∨ s = 1 ∨ s = 2 ∨ s = 3 ∨ s = 4 ∨ s = 5 ∨ s = 6 ∨ s = 7 ∨ s = 8 ∨ s = 9 ∨ s = 10 ∨ s = 11 ∨ s = 12 ∨ s = 13 ∨ s = 14 ∨ s = 15 ∨ s = 16 ∨ s = 17 ∨ s = 18 ∨ s = 19 ∨ s = 20 := by omega
  rcases this with rfl | rfl | rfl | rfl | rfl | rfl | rfl | rfl | rfl | rfl | rfl | rfl | rfl | rfl | rfl | rfl | rfl | rfl | rfl | rfl | rfl <;> rfl
def InvBs (xs : List TLsa) (o : Int) (H : Heap) (m : Nat) (ys : List V) (Hc : Heap) : Prop :=
  ∃ lo hi : Nat, lo ≤ hi ∧ hi ≤ xs.length ∧ ys = [.int .i64 (lo : Nat), .int .i64 (hi : Nat)] ∧ m = hi - lo ∧ Hc = H ∧ (∀ j, j < lo → og xs j < o) ∧ ∀ j, hi ≤ j → j < xs.length → o ≤ og xs j
def zeroL : TLsa := ⟨0, 0, 0, [], []⟩
theorem zero_dp {b : Bool} {H : Heap} : Dp (lsaT b) H zeroL [.int .i64 0, .int .i64 0, .int .i64 0, .nils, .nils] H := Dp.lsa (a := zeroL) Held.nil Held.nil
def findR (xs : List TLsa) (o : Int) : TLsa × Bool :=
  if dbOk xs then (match xs.find? (fun a => a.origin == o) with | some a => (a, true) | none => (zeroL, false)) else (zeroL, false)
theorem findR_bad {xs : List TLsa} {o : Int} (h : ¬ dbOk xs) : findR xs o = (zeroL, false) := by unfold findR; rw [if_neg h]
theorem findR_no {xs : List TLsa} {o : Int} (h : ∀ i, i < xs.length → og xs i ≠ o) : findR xs o = (zeroL, false) := by
  unfold findR
  have : xs.find? (fun a => a.origin == o) = none := by
    rw [List.find?_eq_none]
    intro a ha
    obtain ⟨i, hi, rfl⟩ := List.mem_iff_getElem.1 ha
    have := h i hi
    rw [og_get hi] at this
    simpa using this
  rw [this]
  split <;> rfl
theorem findR_at {xs : List TLsa} {o : Int} {i : Nat} (hd : dbOk xs) (hi : i < xs.length) (h : og xs i = o) : findR xs o = (xs[i], true) := by
  unfold findR
  rw [if_pos hd]
  have : xs.find? (fun a => a.origin == o) = some xs[i] := by
    rw [List.find?_eq_some_iff_getElem]
    refine ⟨by rw [og_get hi] at h; simpa using h, i, hi, rfl, fun j hj => ?_⟩
    have := og_lt hd hj hi
    rw [og_get (by omega)] at this
    simp
    omega
  rw [this]

def InvF (xs : List TLsa) (w : V) (o : Int) (H : Heap) (m : Nat) (ys : List V) (Hc : Heap) : Prop :=
  ∃ i : Nat, i ≤ xs.length ∧ ys = [.box [w], .box [.int .i64 0, .int .i64 0, .int .i64 0, .nils, .nils], .int .i64 (i : Nat)] ∧ m = xs.length - i ∧ Hc = H ∧ ∀ j, j < i → og xs j ≠ o
theorem findR_sz {xs : List TLsa} {o : Int} (h : xs.length + sumF szl xs ≤ 1048576) : (findR xs o).1.links.length ≤ 1048576 ∧ (findR xs o).1.stubs.length ≤ 1048576 := by
  unfold findR
  split
  · split
    · rename_i a ha
      obtain ⟨i, hi, rfl⟩ := List.mem_iff_getElem.1 (List.mem_of_find?_eq_some ha)
      have hz := le_sumF (f := szl) hi
      have hz' : szl xs[i] = xs[i].links.length + xs[i].stubs.length := rfl
      simp only
      omega
    · simp [zeroL]
  · simp [zeroL]
end Go.Proofs.Ytcmpkkcbdmllpac
