/-
Numbers that pass a test, in order.
-/
import Derived.Test.YtcmpkkcbdmllpaaAbsU
import Derived.Test.YtcmpkkcbdmllpaaW1
set_option linter.all false
namespace Go.Proofs.Ytcmpkkcbdmllpaa
open Go Go.Abs Go.Proofs

def fil (q : Int → Bool) (i : Nat) : List Int := ((List.range i).map (fun i : Nat => (i : Int))).filter q
theorem fil_len (q : Int → Bool) (i : Nat) : (fil q i).length ≤ i := by
  unfold fil
  have := List.length_filter_le q ((List.range i).map (fun i : Nat => (i : Int)))
  simpa using this
theorem fil_succ {q : Int → Bool} {i : Nat} : fil q (i + 1) = fil q i ++ (if q (i : Int) = true then [(i : Int)] else []) := by
  unfold fil
  rw [List.range_succ, List.map_append, List.filter_append]
  congr 1
  simp only [List.map_cons, List.map_nil, List.filter_cons, List.filter_nil]
theorem fil_yes {q : Int → Bool} {i : Nat} (h : q (i : Int) = true) : fil q (i + 1) = fil q i ++ [(i : Int)] := by rw [fil_succ, if_pos h]
theorem fil_no {q : Int → Bool} {i : Nat} (h : q (i : Int) = false) : fil q (i + 1) = fil q i := by rw [fil_succ, if_neg (by rw [h]; simp), List.append_nil]
theorem mem_fil {q : Int → Bool} {i : Nat} {x : Int} (h : x ∈ fil q i) : (0 ≤ x ∧ x < i) ∧ q x = true := by
  unfold fil at h
  simp only [List.mem_filter, List.mem_map, List.mem_range] at h
  obtain ⟨⟨j, hj, rfl⟩, h2⟩ := h
  exact ⟨⟨by omega, by omega⟩, h2⟩
theorem fil_mem {q : Int → Bool} {n x : Int} (h0 : 0 ≤ x ∧ x < n) (h : q x = true) : x ∈ fil q n.toNat := by
  unfold fil
  simp only [List.mem_filter, List.mem_map, List.mem_range]
  exact ⟨⟨x.toNat, by omega, by omega⟩, h⟩
def InvFil (H : Heap) (n : Int) (q : Int → Bool) (m : Nat) (ys : List V) (Hc : Heap) : Prop :=
  ∃ (i : Nat) (u : V) (Hb : Heap), (i : Int) ≤ n ∧ ys = [u, .int .i64 (i : Nat)] ∧ m = n.toNat - i ∧ Abs.sub H Hb ∧ Held Hb 1 ((fil q i).map ri) u Hc
theorem InvFil.start {H : Heap} {n : Int} {q : Int → Bool} {o : Nat} (hn : 0 ≤ n) (ho : H o = none) : InvFil H n q n.toNat [.slice o 0 0 (some 0), .int .i64 0] (upd H o ⟨1, []⟩) := ⟨0, _, H, by omega, rfl, by omega, Abs.sub_refl _, by simpa [fil] using Held.new ho⟩

end Go.Proofs.Ytcmpkkcbdmllpaa
