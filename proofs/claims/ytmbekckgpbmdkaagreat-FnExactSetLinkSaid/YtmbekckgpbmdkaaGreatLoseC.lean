/-
Contracts: a message is lost.
-/
import Derived.Test.YtmbekckgpbmdkaaGreatDel
set_option linter.all false
namespace Go.Proofs.YtmbekckgpbmdkaaGreat
open Go Go.Abs Go.Proofs

theorem keep_succ {α : Type} {xs : List α} {i k : Nat} (hi : i < xs.length) : (xs.take (i + 1)).eraseIdx k = if i = k then (xs.take i).eraseIdx k else (xs.take i).eraseIdx k ++ [xs[i]] := by
  rw [List.take_succ_eq_append_getElem hi]
  have hl : (xs.take i).length = i := by simp; omega
  split
  · rename_i e
    subst e
    have e1 : (xs.take i).eraseIdx i = xs.take i := List.eraseIdx_of_length_le (by omega)
    rw [List.eraseIdx_append_of_length_le (by omega), hl, Nat.sub_self, e1]
    simp
  · by_cases h : k < i
    · rw [List.eraseIdx_append_of_lt_length (by omega)]
    · rw [List.eraseIdx_of_length_le (by rw [List.length_append, hl]; simp; omega), List.eraseIdx_of_length_le (by omega)]
theorem sumF_erase {α : Type} {f : α → Nat} {xs : List α} {k : Nat} : sumF f (xs.eraseIdx k) ≤ sumF f xs := by
  rw [List.eraseIdx_eq_take_drop_succ]
  have h : sumF f xs = sumF f (xs.take k) + sumF f (xs.drop k) := by
    unfold sumF
    rw [← List.sum_append, ← List.map_append, List.take_append_drop]
  have h2 : sumF f (xs.take k ++ xs.drop (k + 1)) = sumF f (xs.take k) + sumF f (xs.drop (k + 1)) := by
    unfold sumF
    rw [List.map_append, List.sum_append]
  have h3 : sumF f (xs.drop (k + 1)) ≤ sumF f (xs.drop k) := by
    by_cases hk : k < xs.length
    · rw [List.drop_eq_getElem_cons hk]
      unfold sumF
      simp only [List.map_cons, List.sum_cons]
      omega
    · rw [List.drop_eq_nil_of_le (by omega)]
      simp [sumF]
  omega
abbrev offN (a : TNet) (k : Nat) : TNet := ⟨a.up, a.dbs, a.wires.eraseIdx k, a.lost⟩
theorem offN_sz {a : TNet} {k : Nat} (h : bNet a) : bNet (offN a k) := by
  unfold bNet szn at *
  have h1 : (a.wires.eraseIdx k).length ≤ a.wires.length := List.length_eraseIdx_le ..
  have h2 : sumF szw (a.wires.eraseIdx k) ≤ sumF szw a.wires := sumF_erase
  simp only [offN]
  omega
def loseR (a : TNet) (k : Int) : TNet × Bool := if netOk a ∧ 0 ≤ k ∧ k ≤ (a.wires.length : Int) - 1 then (offN a k.toNat, true) else (a, false)
theorem loseR_sz {a : TNet} {k : Int} (h : bNet a) : bNet (loseR a k).1 := by
  unfold loseR
  split
  · exact offN_sz h
  · exact h

def InvOff (c : Bool) (H : Heap) (a : TNet) (k : Nat) (e0 d0 w0 e d : V) (r : List V) (m : Nat) (ys : List V) (Hc : Heap) : Prop :=
  ∃ (i : Nat) (u : V), i ≤ a.wires.length ∧ ys = [.box (netRow a e0 d0 w0), .box [.int .i64 0, .nils, .nils, .nils, .int .i64 0], .box [.int .i64 0, .int .i64 0, .int .i64 0, .int .i64 0, .int .i64 0, .nils, .nils], .box [.int .i64 a.up.n, e, d, u, .int .i64 a.lost], .box r, .int .i64 (i : Nat)] ∧ m = a.wires.length - i ∧ Dp (wiresT c) H ((a.wires.take i).eraseIdx k) [u] Hc
end Go.Proofs.YtmbekckgpbmdkaaGreat
