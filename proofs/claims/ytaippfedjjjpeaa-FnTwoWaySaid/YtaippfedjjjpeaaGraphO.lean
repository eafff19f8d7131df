/-
Contracts: loop-free neighbors, alternates.
-/
import Derived.Test.YtaippfedjjjpeaaGraphN
set_option linter.all false
namespace Go.Proofs.Ytaippfedjjjpeaa
open Go Go.Abs Go.Proofs

theorem bsl3 (a b c : Int) : bsl 1 3 [.int .i64 0] [(0, .int .i64 a), (1, .int .i64 b), (2, .int .i64 c)] = some (([a, b, c] : List Int).map ri) := rfl
theorem bsl4 (a b c d : Int) : bsl 1 4 [.int .i64 0] [(0, .int .i64 a), (1, .int .i64 b), (2, .int .i64 c), (3, .int .i64 d)] = some (([a, b, c, d] : List Int).map ri) := rfl

def fil (q : Int → Bool) (i : Nat) : List Int := ((List.range i).map (fun i : Nat => (i : Int))).filter q
theorem fil_len (q : Int → Bool) (i : Nat) : (fil q i).length ≤ i := by
  unfold fil
  have := List.length_filter_le q ((List.range i).map (fun i : Nat => (i : Int)))
  simpa using this
theorem fil_succ {q : Int → Bool} {i : Nat} : fil q (i + 1) = fil q i ++ (if q (i : Int) = true then [(i : Int)] else []) := by
  unfold fil
  rw [List.range_succ, List.map_append, List.filter_append]
  congr 1
  simp only [List.map_cons, List.map_nil, List.filter_cons, List.filter_nil]
theorem fil_yes {q : Int → Bool} {i : Nat} (h : q (i : Int) = true) : fil q (i + 1) = fil q i ++ [(i : Int)] := by rw [fil_succ, if_pos h]
theorem fil_no {q : Int → Bool} {i : Nat} (h : q (i : Int) = false) : fil q (i + 1) = fil q i := by rw [fil_succ, if_neg (by rw [h]; simp), List.append_nil]
theorem mem_fil {q : Int → Bool} {i : Nat} {x : Int} (h : x ∈ fil q i) : (0 ≤ x ∧ x < i) ∧ q x = true := by
  unfold fil at h
  simp only [List.mem_filter, List.mem_map, List.mem_range] at h
  obtain ⟨⟨j, hj, rfl⟩, h2⟩ := h
  exact ⟨⟨by omega, by omega⟩, h2⟩
theorem fil_mem {q : Int → Bool} {n x : Int} (h0 : 0 ≤ x ∧ x < n) (h : q x = true) : x ∈ fil q n.toNat := by
  unfold fil
  simp only [List.mem_filter, List.mem_map, List.mem_range]
  exact ⟨⟨x.toNat, by omega, by omega⟩, h⟩
def InvFil (H : Heap) (n : Int) (q : Int → Bool) (m : Nat) (ys : List V) (Hc : Heap) : Prop :=
  ∃ (i : Nat) (u : V) (Hb : Heap), (i : Int) ≤ n ∧ ys = [u, .int .i64 (i : Nat)] ∧ m = n.toNat - i ∧ Abs.sub H Hb ∧ Held Hb 1 ((fil q i).map ri) u Hc
theorem InvFil.start {H : Heap} {n : Int} {q : Int → Bool} {o : Nat} (hn : 0 ≤ n) (ho : H o = none) : InvFil H n q n.toNat [.slice o 0 0 (some 0), .int .i64 0] (upd H o ⟨1, []⟩) := ⟨0, _, H, by omega, rfl, by omega, Abs.sub_refl _, by simpa [fil] using Held.new ho⟩

theorem C_slices_Contains {x : Int} {w : V} {xs : List Int} {H : Heap} {K : V → Heap → Prop} (hw : Rd H 1 w (xs.map ri)) (hl : xs.length ≤ 1000000) (h : K (.bool (decide (x ∈ xs))) H) : ACalls P n_slices_Contains_int_int [w, .int .i64 x] H K := by
  apply W_slices_Contains_int_int
  unfold F_slices_Contains_int_int
  apply W_slices_Index_int_int
  unfold F_slices_Index_int_int
  simp [hw.len]
  refine ⟨fun m ys Hc => ∃ i, i ≤ xs.length ∧ ys = [.int .i64 (i : Nat)] ∧ m = xs.length - i ∧ Hc = H ∧ x ∉ xs.take i, ⟨xs.length, Shr.of ⟨0, by omega, by simp, by omega, rfl, by simp⟩⟩, ?_⟩
  rintro m ys Hc ⟨i, hi, rfl, rfl, rfl, hx⟩
  simp
  refine ⟨fun hlt => ?_, fun hge => ?_⟩
  · refine hw.idx (by omega) (by simpa using hlt) fun p hp => ?_
    simp only [hp.ld]
    simp [hlt]
    refine ⟨fun q => Ret.of ?_, fun q => ?_⟩
    · simp
      exact Ret.yes h (q ▸ List.getElem_mem hlt)
    rw [i64_in (n := (i : Int) + 1) (by omega) (by omega)]
    refine ⟨xs.length - (i + 1), by omega, Shr.of ⟨i + 1, by omega, by simp, rfl, rfl, ?_⟩⟩
    rw [List.take_succ_eq_append_getElem hlt, List.mem_append]
    rintro (hh | hh)
    · exact hx hh
    · simp at hh; exact q hh
  · have : i = xs.length := by omega
    subst this
    rw [List.take_length] at hx
    refine Ret.of ?_
    simp
    exact Ret.no h hx

/-! #### alternates -/
def altQ (n : Int) (es : List TEdge) (s f d x : Int) : Bool := decide (x ≠ f ∧ lfree n es s x d)
def alts (n : Int) (es : List TEdge) (s f d : Int) : List Int := if near n es s f then fil (altQ n es s f d) n.toNat else []
def altsR (n : Int) (es : List TEdge) (s f d : Int) : List Int := if around n es [s, f, d] then alts n es s f d else []
theorem altsR_len {n : Int} {es : List TEdge} (s f d : Int) : (altsR n es s f d).length ≤ 1000 := by
  unfold altsR
  split
  · rename_i ha
    unfold alts
    have := ha.1.1
    split
    · have := fil_len (altQ n es s f d) n.toNat; omega
    · simp
  · simp
theorem nodesOk_mk {n a b c : Int} (h1 : 0 ≤ a ∧ a < n) (h2 : 0 ≤ b ∧ b < n) (h3 : 0 ≤ c ∧ c < n) : nodesOk n [a, b, c] := fun i hi => by
  simp at hi
  have : i = 0 ∨ i = 1 ∨ i = 2 := by omega
  rcases this with rfl | rfl | rfl <;> simpa

end Go.Proofs.Ytaippfedjjjpeaa
