/-
Contracts: mixed hops, first loops.
-/
import Derived.Test.YtipdfhjilegkcaaGraphR
import Derived.Test.YtipdfhjilegkcaaLoopsIn
set_option linter.all false
namespace Go.Proofs.Ytipdfhjilegkcaa
open Go Go.Abs Go.Proofs

def fine (n m : Int) (es fs : List TEdge) (d : Int) : Prop := graphOk n es ∧ graphOk m fs ∧ n = m ∧ (0 ≤ d ∧ d < n)
instance (n m : Int) (es fs : List TEdge) (d : Int) : Decidable (fine n m es fs d) := by unfold fine; infer_instance

/-! #### rows of numbers by place -/
def tab (q : Int → Int) (i : Nat) : List Int := (List.range i).map fun x : Nat => q (x : Int)
theorem tab_len (q : Int → Int) (i : Nat) : (tab q i).length = i := by simp [tab]
theorem tab_succ (q : Int → Int) (i : Nat) : tab q (i + 1) = tab q i ++ [q (i : Int)] := by simp [tab, List.range_succ]
theorem tab_get {q : Int → Int} {n : Nat} {x : Int} (h : 0 ≤ x ∧ x < n) : (tab q n).getD x.toNat 0 = q x := by
  have h1 : x.toNat < n := by omega
  have e : ((x.toNat : Nat) : Int) = x := by omega
  simp [tab, h1, e]
theorem tab_ext {q r : Int → Int} {n : Nat} (h : ∀ x : Int, 0 ≤ x → x < n → q x = r x) : tab q n = tab r n := by
  unfold tab
  refine List.map_congr_left fun x hx => ?_
  rw [List.mem_range] at hx
  exact h _ (by omega) (by omega)
theorem tab_set {q : Int → Int} {n : Nat} {x : Int} {y : Int} (h : 0 ≤ x ∧ x < n) : (tab q n).set x.toNat y = tab (fun z => if z = x then y else q z) n := by
  apply List.ext_getElem?
  intro j
  by_cases hj : x.toNat = j
  · subst hj
    have h1 : x.toNat < n := by omega
    have e : ((x.toNat : Nat) : Int) = x := by omega
    rw [List.getElem?_set_self (by rw [tab_len]; omega)]
    simp [tab, h1, e]
  · rw [List.getElem?_set_ne hj]
    by_cases hl : j < n
    · have : ¬ (j : Int) = x := by omega
      simp [tab, hl, this]
    · rw [List.getElem?_eq_none (by rw [tab_len]; omega), List.getElem?_eq_none (by rw [tab_len]; omega)]

def InvTab (H : Heap) (n : Int) (q : Int → Int) (m : Nat) (ys : List V) (Hc : Heap) : Prop :=
  ∃ (i : Nat) (u : V) (Hb : Heap), (i : Int) ≤ n ∧ ys = [u, .int .i64 (i : Nat)] ∧ m = n.toNat - i ∧ Abs.sub H Hb ∧ Held Hb 1 ((tab q i).map ri) u Hc ∧ ∀ r, u ≠ .ro r
theorem InvTab.start {H : Heap} {n : Int} {q : Int → Int} {o : Nat} (hn : 0 ≤ n) (ho : H o = none) : InvTab H n q n.toNat [.slice o 0 0 (some 0), .int .i64 0] (upd H o ⟨1, []⟩) := ⟨0, _, H, by omega, rfl, by omega, Abs.sub_refl _, by simpa [tab] using Held.new ho, by simp⟩
theorem Held.notro {H0 H : Heap} {sz : Nat} {rows : List (List V)} {v : V} (h : Held H0 sz rows v H) : ∀ r, v ≠ .ro r := by
  rcases h with ⟨rfl, _⟩ | ⟨o, cap, _, rfl, _⟩ <;> simp

def mixQ (n : Int) (es fs : List TEdge) (ds : List Int) (d x : Int) : Int := if x ∈ ds then hopOf n fs x d else hopOf n es x d
def mixedH (n m : Int) (es fs : List TEdge) (ds : List Int) (d : Int) : List Int := if fine n m es fs d ∧ ds.length ≤ 300 then tab (mixQ n es fs ds d) n.toNat else []
theorem mixedH_len {n m : Int} {es fs : List TEdge} (ds : List Int) (d : Int) : (mixedH n m es fs ds d).length ≤ 10 := by
  unfold mixedH
  split
  · rename_i h
    have := h.1.1.1
    rw [tab_len]; omega
  · simp

def mixL (n : Nat) (nx : Int → Int) (old : Int → Int) (ds : List Int) (x : Int) : Int := if x ∈ ds then nx x else old x
end Go.Proofs.Ytipdfhjilegkcaa
