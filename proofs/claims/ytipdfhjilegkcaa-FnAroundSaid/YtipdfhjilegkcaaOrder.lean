/-
Orders of nodes by a key, in plain terms.
-/
import Derived.Test.YtipdfhjilegkcaaMixed
set_option linter.all false
namespace Go.Proofs.Ytipdfhjilegkcaa
open Go Go.Abs

def lexlt (key : Int → Int) (x y : Int) : Prop := key x < key y ∨ key x = key y ∧ x < y
theorem lexlt_asymm {key : Int → Int} {x y : Int} (h : lexlt key x y) : ¬ lexlt key y x := by unfold lexlt at *; omega
theorem lexlt_trans {key : Int → Int} {x y z : Int} (h : lexlt key x y) (h' : lexlt key y z) : lexlt key x z := by unfold lexlt at *; omega
def IsOrder (n : Nat) (key : Int → Int) (L : List Int) : Prop := L.Pairwise (lexlt key) ∧ ∀ x, x ∈ L ↔ 0 ≤ x ∧ x < (n : Int)
theorem pair_eq {key : Int → Int} : ∀ {xs ys : List Int}, xs.Pairwise (lexlt key) → ys.Pairwise (lexlt key) → (∀ x, x ∈ xs ↔ x ∈ ys) → xs = ys
  | [], [], _, _, _ => rfl
  | [], y :: ys, _, _, h => absurd ((h y).2 (by simp)) (by simp)
  | x :: xs, [], _, _, h => absurd ((h x).1 (by simp)) (by simp)
  | x :: xs, y :: ys, h1, h2, h => by
    rw [List.pairwise_cons] at h1 h2
    have e : x = y := by
      have a := (h x).1 (by simp)
      have b := (h y).2 (by simp)
      simp at a b
      rcases a with a | a
      · exact a
      · rcases b with b | b
        · exact b.symm
        · exact absurd (h1.1 y b) (lexlt_asymm (h2.1 x a))
    subst e
    congr 1
    refine pair_eq h1.2 h2.2 fun z => ?_
    constructor
    · intro hz
      have := (h z).1 (by simp [hz])
      simp at this
      rcases this with rfl | this
      · exact absurd (h1.1 _ hz) (lexlt_asymm (h1.1 _ hz))
      · exact this
    · intro hz
      have := (h z).2 (by simp [hz])
      simp at this
      rcases this with rfl | this
      · exact absurd (h2.1 _ hz) (lexlt_asymm (h2.1 _ hz))
      · exact this
open Classical in
noncomputable def ordL (n : Nat) (key : Int → Int) : List Int := if h : ∃ L, IsOrder n key L then Classical.choose h else []
theorem ordL_eq {n : Nat} {key : Int → Int} {L : List Int} (h : IsOrder n key L) : L = ordL n key := by
  have hex : ∃ L, IsOrder n key L := ⟨L, h⟩
  unfold ordL
  rw [dif_pos hex]
  have h' := Classical.choose_spec hex
  exact pair_eq h.1 h'.1 fun x => (h.2 x).trans (h'.2 x).symm

theorem pair_nodup {key : Int → Int} {L : List Int} (h : L.Pairwise (lexlt key)) : L.Pairwise (· ≠ ·) := h.imp fun a e => by subst e; unfold lexlt at a; omega
theorem nodup_get {L : List Int} (h : L.Pairwise (· ≠ ·)) {i j : Nat} (hi : i < j) (hj : j < L.length) : L[i] ≠ L[j] := (List.pairwise_iff_getElem.1 h) i j (by omega) hj hi
/-- A place is free. -/
theorem free_of {L : List Int} {n : Nat} (hl : L.length < n) : ∃ x : Int, (0 ≤ x ∧ x < n) ∧ x ∉ L := by
  apply Classical.byContradiction
  intro hc
  have all : ∀ x : Nat, x < n → (x : Int) ∈ L := fun x hx => by
    apply Classical.byContradiction
    intro h
    exact hc ⟨x, by omega, h⟩
  obtain ⟨i, j, h1, h2, h3⟩ := pigeon L.length (fun x => L.idxOf (x : Int)) fun j hj => List.idxOf_lt_length_of_mem (all j (by omega))
  have e1 := List.getElem_idxOf (List.idxOf_lt_length_of_mem (all i (by omega)))
  have e2 := List.getElem_idxOf (List.idxOf_lt_length_of_mem (all j (by omega)))
  have h3 : L.idxOf (i : Int) = L.idxOf (j : Int) := h3
  have : (i : Int) = (j : Int) := by
    rw [← e1, ← e2]
    congr 1
  omega
/-- None is free. -/
theorem full_of {L : List Int} {n : Nat} (hd : L.Pairwise (· ≠ ·)) (hin : ∀ x ∈ L, 0 ≤ x ∧ x < (n : Int)) (hl : n ≤ L.length) : ∀ x : Int, 0 ≤ x → x < n → x ∈ L := by
  intro y h0 h1
  apply Classical.byContradiction
  intro hy
  have hd' : (y :: L).Pairwise (· ≠ ·) := List.pairwise_cons.2 ⟨fun z hz e => hy (e ▸ hz), hd⟩
  have hin' : ∀ x ∈ y :: L, 0 ≤ x ∧ x < (n : Int) := fun x hx => by
    rcases List.mem_cons.1 hx with rfl | hx
    · exact ⟨h0, h1⟩
    · exact hin x hx
  obtain ⟨i, j, q1, q2, q3⟩ := pigeon n (fun x => ((y :: L).getD x 0).toNat) fun j hj => by
    have hj' : j < (y :: L).length := by simp; omega
    have := hin' _ (List.getElem_mem hj')
    simp only [List.getD_eq_getElem?_getD, List.getElem?_eq_getElem hj', Option.getD_some]
    omega
  have hi' : i < (y :: L).length := by simp; omega
  have hj' : j < (y :: L).length := by simp; omega
  simp only [List.getD_eq_getElem?_getD, List.getElem?_eq_getElem hj', List.getElem?_eq_getElem hi', Option.getD_some] at q3
  have a := hin' _ (List.getElem_mem hi')
  have b := hin' _ (List.getElem_mem hj')
  exact nodup_get hd' q1 hj' (by omega)

/-! #### choosing the least -/
def bst (key : Int → Int) (L : List Int) : Nat → Int
  | 0 => -1
  | i + 1 => if (i : Int) ∉ L ∧ (bst key L i < 0 ∨ key i < key (bst key L i)) then i else bst key L i
theorem bst_spec {key : Int → Int} {L : List Int} : ∀ i : Nat, (bst key L i = -1 ∧ ∀ y : Int, 0 ≤ y → y < i → y ∈ L) ∨
    ((0 ≤ bst key L i ∧ bst key L i < i) ∧ bst key L i ∉ L ∧ ∀ y : Int, 0 ≤ y → y < i → y ∉ L → y ≠ bst key L i → lexlt key (bst key L i) y)
  | 0 => .inl ⟨rfl, fun y _ _ => by omega⟩
  | i + 1 => by
    have ih := bst_spec (key := key) (L := L) i
    unfold bst
    generalize bst key L i = b at *
    by_cases hi : (i : Int) ∈ L
    · rw [if_neg (fun hh => hh.1 hi)]
      rcases ih with ⟨h1, h2⟩ | ⟨h1, h2, h3⟩
      · refine .inl ⟨h1, fun y y0 y1 => ?_⟩
        by_cases e : y = i
        · subst e; exact hi
        · exact h2 y y0 (by omega)
      · refine .inr ⟨by omega, h2, fun y y0 y1 y2 y3 => ?_⟩
        by_cases e : y = i
        · subst e; exact absurd hi y2
        · exact h3 y y0 (by omega) y2 y3
    · rcases ih with ⟨h1, h2⟩ | ⟨h1, h2, h3⟩
      · rw [if_pos ⟨hi, .inl (by omega)⟩]
        refine .inr ⟨by omega, hi, fun y y0 y1 y2 y3 => ?_⟩
        exact absurd (h2 y y0 (by omega)) y2
      · by_cases hk : key i < key b
        · rw [if_pos ⟨hi, .inr hk⟩]
          refine .inr ⟨by omega, hi, fun y y0 y1 y2 y3 => ?_⟩
          by_cases e : y = b
          · subst e; exact .inl hk
          · exact lexlt_trans (.inl hk) (h3 y y0 (by omega) y2 e)
        · rw [if_neg (by rintro ⟨_, hh | hh⟩; omega; exact hk hh)]
          refine .inr ⟨by omega, h2, fun y y0 y1 y2 y3 => ?_⟩
          by_cases e : y = i
          · subst e; unfold lexlt; omega
          · exact h3 y y0 (by omega) y2 y3
/-- A part of the order: what is in it comes before what is not. -/
def Part (n : Nat) (key : Int → Int) (L : List Int) : Prop := L.Pairwise (lexlt key) ∧ (∀ x ∈ L, 0 ≤ x ∧ x < (n : Int)) ∧ ∀ x ∈ L, ∀ y : Int, 0 ≤ y → y < n → y ∉ L → lexlt key x y
theorem Part.nil {n : Nat} {key : Int → Int} : Part n key [] := ⟨by simp, by simp, by simp⟩
theorem Part.len {n : Nat} {key : Int → Int} {L : List Int} (h : Part n key L) : L.length ≤ n := by
  apply Classical.byContradiction
  intro hl
  obtain ⟨i, j, q1, q2, q3⟩ := pigeon n (fun x => (L.getD x 0).toNat) fun j hj => by
    have hj' : j < L.length := by omega
    have := h.2.1 _ (List.getElem_mem hj')
    simp only [List.getD_eq_getElem?_getD, List.getElem?_eq_getElem hj', Option.getD_some]
    omega
  have hi' : i < L.length := by omega
  have hj' : j < L.length := by omega
  simp only [List.getD_eq_getElem?_getD, List.getElem?_eq_getElem hj', List.getElem?_eq_getElem hi', Option.getD_some] at q3
  have a := h.2.1 _ (List.getElem_mem hi')
  have b := h.2.1 _ (List.getElem_mem hj')
  exact nodup_get (pair_nodup h.1) q1 hj' (by omega)
theorem Part.next {n : Nat} {key : Int → Int} {L : List Int} (h : Part n key L) (hl : L.length < n) : Part n key (L ++ [bst key L n]) := by
  obtain ⟨f, hf, hfl⟩ := free_of hl
  rcases bst_spec (key := key) (L := L) n with ⟨_, h2⟩ | ⟨h1, h2, h3⟩
  · exact absurd (h2 f hf.1 hf.2) hfl
  · generalize bst key L n = b at *
    refine ⟨List.pairwise_append.2 ⟨h.1, by simp, fun x hx y hy => ?_⟩, fun x hx => ?_, fun x hx y y0 y1 y2 => ?_⟩
    · simp at hy
      subst hy
      exact h.2.2 x hx y h1.1 h1.2 h2
    · rcases List.mem_append.1 hx with hx | hx
      · exact h.2.1 x hx
      · simp at hx; subst hx; exact h1
    · simp at y2
      rcases List.mem_append.1 hx with hx | hx
      · exact h.2.2 x hx y y0 y1 y2.1
      · simp at hx; subst hx; exact h3 y y0 y1 y2.1 y2.2
theorem Part.done {n : Nat} {key : Int → Int} {L : List Int} (h : Part n key L) (hl : n ≤ L.length) : IsOrder n key L :=
  ⟨h.1, fun x => ⟨h.2.1 x, fun hx => full_of (pair_nodup h.1) h.2.1 hl x hx.1 hx.2⟩⟩

theorem IsOrder.part {n : Nat} {key : Int → Int} {L : List Int} (h : IsOrder n key L) : Part n key L := ⟨h.1, fun x hx => (h.2 x).1 hx, fun x _ y y0 y1 y2 => absurd ((h.2 y).2 ⟨y0, y1⟩) y2⟩
theorem ordL_len (n : Nat) (key : Int → Int) : (ordL n key).length ≤ n := by
  unfold ordL
  split
  · rename_i hex
    exact (IsOrder.part (Classical.choose_spec hex)).len
  · simp

/-! #### sorting by insertion -/
theorem swap_set (A B : List Int) (a x : Int) : ((A ++ a :: x :: B).set (A.length + 1) a).set A.length x = A ++ x :: a :: B := by
  induction A with
  | nil => rfl
  | cons c A ih => simpa using ih
/-- x has come from place i down to the end of A. -/
def Ins (key : Int → Int) (i : Nat) (xs A B R : List Int) : Prop :=
  xs = A ++ (i : Int) :: (B ++ R) ∧ (A ++ B).Pairwise (lexlt key) ∧ (∀ x, x ∈ A ++ B ↔ 0 ≤ x ∧ x < (i : Int)) ∧ A.length + B.length = i ∧ ∀ b ∈ B, key i < key b
theorem Ins.swap {key : Int → Int} {i : Nat} {xs A B R : List Int} {a : Int} (h : Ins key i xs (A ++ [a]) B R) (hk : key i < key a) : Ins key i ((xs.set (A.length + 1) a).set A.length i) A (a :: B) R := by
  obtain ⟨rfl, h2, h3, h4, h5⟩ := h
  refine ⟨?_, by simpa using h2, by simpa using h3, by simp at h4 ⊢; omega, fun b hb => ?_⟩
  · have := swap_set A (B ++ R) a i
    simpa using this
  · rcases List.mem_cons.1 hb with rfl | hb
    · exact hk
    · exact h5 b hb
theorem Ins.stop {key : Int → Int} {i : Nat} {xs A B R : List Int} (h : Ins key i xs A B R) (hk : ∀ A' a, A = A' ++ [a] → ¬ key i < key a) : (A ++ (i : Int) :: B).Pairwise (lexlt key) ∧ (∀ x, x ∈ A ++ (i : Int) :: B ↔ 0 ≤ x ∧ x < ((i + 1 : Nat) : Int)) ∧ (A ++ (i : Int) :: B).length = i + 1 ∧ xs = (A ++ (i : Int) :: B) ++ R := by
  obtain ⟨rfl, h2, h3, h4, h5⟩ := h
  rw [List.pairwise_append] at h2
  obtain ⟨p1, p2, p3⟩ := h2
  refine ⟨List.pairwise_append.2 ⟨p1, List.pairwise_cons.2 ⟨fun b hb => .inl (h5 b hb), p2⟩, fun x hx y hy => ?_⟩, fun x => ?_, by simp; omega, by simp⟩
  · rcases List.mem_cons.1 hy with rfl | hy
    · -- all of A come before i
      rcases List.eq_nil_or_concat A with rfl | ⟨A', a, rfl⟩
      · simp at hx
      · simp only [List.concat_eq_append] at *
        have hka := hk A' a rfl
        have hai := (h3 a).1 (by simp)
        have la : lexlt key a i := by unfold lexlt; omega
        rcases List.mem_append.1 hx with hx | hx
        · rw [List.pairwise_append] at p1
          exact lexlt_trans (p1.2.2 x hx a (by simp)) la
        · simp at hx; subst hx; exact la
    · exact p3 x hx y hy
  · have := h3 x
    simp only [List.mem_append, List.mem_cons] at this ⊢
    constructor
    · rintro (q | rfl | q)
      · have := this.1 (.inl q); omega
      · omega
      · have := this.1 (.inr q); omega
    · intro q
      by_cases e : x = i
      · exact .inr (.inl e)
      · rcases this.2 ⟨q.1, by omega⟩ with q | q
        · exact .inl q
        · exact .inr (.inr q)

end Go.Proofs.Ytipdfhjilegkcaa
