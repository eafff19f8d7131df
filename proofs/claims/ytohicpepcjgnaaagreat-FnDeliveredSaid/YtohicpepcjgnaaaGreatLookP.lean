/-
Plain terms: what a database holds for an origin; sums by keys.
-/
import Derived.Test.YtohicpepcjgnaaaGreatInsP
import Derived.Test.YtohicpepcjgnaaaGreatBytM
import Derived.Test.YtohicpepcjgnaaaGreatSumC
set_option linter.all false
namespace Go.Proofs.YtohicpepcjgnaaaGreat
open Go Go.Abs Go.Proofs

def lookL (xs : List TLsa) (o : Int) : Option TLsa := xs.find? (fun a => a.origin == o)
theorem lookL_iff {xs : List TLsa} (hd : dbOk xs) {o : Int} {a : TLsa} : lookL xs o = some a ↔ a ∈ xs ∧ a.origin = o := by
  constructor
  · intro h
    exact ⟨List.mem_of_find?_eq_some h, by simpa using List.find?_some h⟩
  · rintro ⟨h1, h2⟩
    obtain ⟨i, hi, rfl⟩ := List.mem_iff_getElem.1 h1
    have := findR_at (o := o) hd hi (by rw [og_get hi]; exact h2)
    unfold findR at this
    rw [if_pos hd] at this
    unfold lookL
    cases hf : xs.find? (fun a => a.origin == o) with
    | none => rw [hf] at this; simp at this
    | some b => rw [hf] at this; simp at this; rw [this]
theorem lookL_org {xs : List TLsa} {o : Int} {a : TLsa} (h : lookL xs o = some a) : a ∈ xs ∧ a.origin = o := ⟨List.mem_of_find?_eq_some h, by simpa using List.find?_some h⟩
theorem lookL_none {xs : List TLsa} {o : Int} (h : lookL xs o = none) {a : TLsa} (ha : a ∈ xs) : a.origin ≠ o := by
  unfold lookL at h
  rw [List.find?_eq_none] at h
  simpa using h a ha
theorem findR_lookL {xs : List TLsa} (hd : dbOk xs) (o : Int) : findR xs o = match lookL xs o with | some a => (a, true) | none => (zeroL, false) := by
  unfold findR lookL
  rw [if_pos hd]
  generalize List.find? _ xs = q
  cases q <;> rfl
theorem mem_okL {xs : List TLsa} (hd : dbOk xs) {a : TLsa} (h : a ∈ xs) : lsaOk a := by
  obtain ⟨i, hi, rfl⟩ := List.mem_iff_getElem.1 h
  exact hd.1 i hi
theorem offer_lookL {xs : List TLsa} (hd : dbOk xs) (l : TLsa) : offerR xs l = match lookL xs l.origin with
    | some r => if newerR l r = 1 then 0 else if newerR l r = 0 then 1 else 2
    | none => if l.age = 60 then 1 else 0 := by
  unfold offerR
  rw [findR_lookL hd]
  cases lookL xs l.origin <;> simp
theorem mem_foldL {l : TLsa} : ∀ {xs : List TLsa} {o : List TLsa × Bool}, (o.2 = true → l ∈ o.1) → ((xs.foldl (stepP l) o).2 = true → l ∈ (xs.foldl (stepP l) o).1) ∧ ∀ a, a ≠ l → (a ∈ (xs.foldl (stepP l) o).1 ↔ a ∈ o.1 ∨ (a ∈ xs ∧ a.origin ≠ l.origin))
  | [], o, h => ⟨h, fun a _ => by simp⟩
  | x :: xs, o, h => by
    have hs : ((stepP l o x).2 = true → l ∈ (stepP l o x).1) ∧ ∀ a, a ≠ l → (a ∈ (stepP l o x).1 ↔ a ∈ o.1 ∨ (a = x ∧ a.origin ≠ l.origin)) := by
      unfold stepP
      simp only
      by_cases h1 : o.2 = false ∧ l.origin ≤ x.origin
      · rw [if_pos h1]
        by_cases h2 : x.origin ≠ l.origin
        · rw [if_pos h2]
          refine ⟨fun _ => by simp, fun a ha => ?_⟩
          simp [ha]
          constructor
          · rintro (q | rfl)
            · exact .inl q
            · exact .inr ⟨rfl, h2⟩
          · rintro (q | q)
            · exact .inl q
            · exact .inr q.1
        · rw [if_neg h2]
          refine ⟨fun _ => by simp, fun a ha => ?_⟩
          simp [ha]
          rintro rfl q
          exact absurd q h2
      · rw [if_neg h1]
        by_cases h2 : x.origin ≠ l.origin
        · rw [if_pos h2]
          refine ⟨fun q => by simp [h q], fun a ha => ?_⟩
          simp
          constructor
          · rintro (q | rfl)
            · exact .inl q
            · exact .inr ⟨rfl, h2⟩
          · rintro (q | q)
            · exact .inl q
            · exact .inr q.1
        · rw [if_neg h2]
          refine ⟨h, fun a ha => ?_⟩
          constructor
          · exact .inl
          · rintro (q | ⟨rfl, q⟩)
            · exact q
            · exact absurd q h2
    obtain ⟨i1, i2⟩ := mem_foldL (l := l) (xs := xs) (o := stepP l o x) hs.1
    refine ⟨i1, fun a ha => ?_⟩
    rw [List.foldl_cons, i2 a ha, hs.2 a ha]
    simp only [List.mem_cons]
    constructor
    · rintro ((q | q) | q)
      · exact .inl q
      · exact .inr ⟨.inl q.1, q.2⟩
      · exact .inr ⟨.inr q.1, q.2⟩
    · rintro (q | ⟨q | q, q2⟩)
      · exact .inl (.inl q)
      · exact .inl (.inr ⟨q, q2⟩)
      · exact .inr ⟨q, q2⟩
theorem mem_putL {l : TLsa} {xs : List TLsa} {a : TLsa} : a ∈ putL l xs ↔ a = l ∨ (a ∈ xs ∧ a.origin ≠ l.origin) := by
  obtain ⟨i1, i2⟩ := mem_foldL (l := l) (xs := xs) (o := ([], false)) (by simp)
  unfold putL
  have i1 : (foldP l xs).2 = true → l ∈ (foldP l xs).1 := i1
  have i2 : ∀ a, a ≠ l → (a ∈ (foldP l xs).1 ↔ a ∈ ([] : List TLsa) ∨ (a ∈ xs ∧ a.origin ≠ l.origin)) := i2
  by_cases ha : a = l
  · subst ha
    split
    · rename_i q; simp [i1 q]
    · simp
  · have := i2 a ha
    simp at this
    split
    · rw [this]; simp [ha]
    · simp [ha, this]
theorem db_pairL {xs : List TLsa} (hd : dbOk xs) : xs.Pairwise (fun a b => a.origin < b.origin) := by
  rw [List.pairwise_iff_getElem]
  intro i j hi hj hij
  have := og_lt hd hij hj
  rw [og_get hi, og_get hj] at this
  exact this
/-! #### the same by keys -/
def keyL (a : TLsa) : Int × Int := (a.origin, lsaSum a)
theorem sort_eqL : ∀ {A B : List (Int × Int)}, A.Pairwise (fun a b => a.1 < b.1) → B.Pairwise (fun a b => a.1 < b.1) → (∀ k, k ∈ A ↔ k ∈ B) → A = B
  | [], [], _, _, _ => rfl
  | [], b :: B, _, _, h => by have := (h b).2 (by simp); simp at this
  | a :: A, [], _, _, h => by have := (h a).1 (by simp); simp at this
  | a :: A, b :: B, hA, hB, h => by
    have pA := List.pairwise_cons.1 hA
    have pB := List.pairwise_cons.1 hB
    have e : a = b := by
      have h1 := (h a).1 (by simp)
      have h2 := (h b).2 (by simp)
      rcases List.mem_cons.1 h1 with q | q
      · exact q
      · rcases List.mem_cons.1 h2 with q2 | q2
        · exact q2.symm
        · have := pB.1 a q
          have := pA.1 b q2
          omega
    subst e
    congr 1
    refine sort_eqL pA.2 pB.2 fun k => ⟨fun hk => ?_, fun hk => ?_⟩
    · rcases List.mem_cons.1 ((h k).1 (List.mem_cons_of_mem _ hk)) with q | q
      · subst q; have := pA.1 _ hk; omega
      · exact q
    · rcases List.mem_cons.1 ((h k).2 (List.mem_cons_of_mem _ hk)) with q | q
      · subst q; have := pB.1 _ hk; omega
      · exact q
theorem keys_eq {xs ys : List TLsa} (hx : dbOk xs) (hy : dbOk ys) (h : ∀ o, (lookL xs o).map keyL = (lookL ys o).map keyL) : xs.map keyL = ys.map keyL := by
  have pw : ∀ {zs : List TLsa}, dbOk zs → (zs.map keyL).Pairwise (fun a b => a.1 < b.1) := fun hz => by
    rw [List.pairwise_map]; exact db_pairL hz
  have inn : ∀ {zs : List TLsa}, dbOk zs → ∀ k, k ∈ zs.map keyL ↔ (lookL zs k.1).map keyL = some k := fun {zs} hz k => by
    rw [List.mem_map, Option.map_eq_some_iff]
    constructor
    · rintro ⟨a, h1, rfl⟩
      exact ⟨a, (lookL_iff hz).2 ⟨h1, rfl⟩, rfl⟩
    · rintro ⟨a, h1, h2⟩
      exact ⟨a, (lookL_org h1).1, h2⟩
  exact sort_eqL (pw hx) (pw hy) fun k => by rw [inn hx, inn hy, h]
theorem sum_keys {xs ys : List TLsa} (h : xs.map keyL = ys.map keyL) : dbSum xs = dbSum ys ∧ xs.length = ys.length := by
  refine ⟨?_, by simpa using congrArg List.length h⟩
  have e : ∀ (zs : List TLsa) (s : Int), zs.foldl stepDb s = (zs.map keyL).foldl (fun s k => (31 * s + k.2) % 1000003) s := by
    intro zs
    induction zs with
    | nil => intro s; rfl
    | cons z zs ih => intro s; simp only [List.foldl_cons, List.map_cons]; rw [ih]; rfl
  unfold dbSum
  rw [e, e, h]

end Go.Proofs.YtohicpepcjgnaaaGreat
