/-
Plain terms: what a database holds for an origin; merging; sums.
-/
import Derived.Test.YtgoljfhjhcjcpaaMergeC
import Derived.Test.YtgoljfhjhcjcpaaLacksC
import Derived.Test.YtgoljfhjhcjcpaaSumC
import Derived.Test.YtgoljfhjhcjcpaaNewP
set_option linter.all false
namespace Go.Proofs.Ytgoljfhjhcjcpaa
open Go Go.Abs Go.Proofs

def lookL (xs : List TLsa) (o : Int) : Option TLsa := xs.find? (fun a => a.origin == o)
theorem lookL_iff {xs : List TLsa} (hd : dbOk xs) {o : Int} {a : TLsa} : lookL xs o = some a ↔ a ∈ xs ∧ a.origin = o := by
  constructor
  · intro h
    exact ⟨List.mem_of_find?_eq_some h, by simpa using List.find?_some h⟩
  · rintro ⟨h1, h2⟩
    obtain ⟨i, hi, rfl⟩ := List.mem_iff_getElem.1 h1
    have := findR_at (o := o) hd hi (by rw [og_get hi]; exact h2)
    unfold findR at this
    rw [if_pos hd] at this
    unfold lookL
    cases hf : xs.find? (fun a => a.origin == o) with
    | none => rw [hf] at this; simp at this
    | some b => rw [hf] at this; simp at this; rw [this]
theorem lookL_org {xs : List TLsa} {o : Int} {a : TLsa} (h : lookL xs o = some a) : a ∈ xs ∧ a.origin = o := ⟨List.mem_of_find?_eq_some h, by simpa using List.find?_some h⟩
theorem lookL_none {xs : List TLsa} {o : Int} (h : lookL xs o = none) {a : TLsa} (ha : a ∈ xs) : a.origin ≠ o := by
  unfold lookL at h
  rw [List.find?_eq_none] at h
  simpa using h a ha
theorem findR_lookL {xs : List TLsa} (hd : dbOk xs) (o : Int) : findR xs o = match lookL xs o with | some a => (a, true) | none => (zeroL, false) := by
  unfold findR lookL
  rw [if_pos hd]
  generalize List.find? _ xs = q
  cases q <;> rfl
theorem mem_ok {xs : List TLsa} (hd : dbOk xs) {a : TLsa} (h : a ∈ xs) : lsaOk a := by
  obtain ⟨i, hi, rfl⟩ := List.mem_iff_getElem.1 h
  exact hd.1 i hi
theorem offer_lookL {xs : List TLsa} (hd : dbOk xs) (l : TLsa) : offerR xs l = match lookL xs l.origin with
    | some r => if newerR l r = 1 then 0 else if newerR l r = 0 then 1 else 2
    | none => if l.age = 60 then 1 else 0 := by
  unfold offerR
  rw [findR_lookL hd]
  cases lookL xs l.origin <;> simp
theorem mem_fold {l : TLsa} : ∀ {xs : List TLsa} {o : List TLsa × Bool}, (o.2 = true → l ∈ o.1) → ((xs.foldl (stepP l) o).2 = true → l ∈ (xs.foldl (stepP l) o).1) ∧ ∀ a, a ≠ l → (a ∈ (xs.foldl (stepP l) o).1 ↔ a ∈ o.1 ∨ (a ∈ xs ∧ a.origin ≠ l.origin))
  | [], o, h => ⟨h, fun a _ => by simp⟩
  | x :: xs, o, h => by
    have hs : ((stepP l o x).2 = true → l ∈ (stepP l o x).1) ∧ ∀ a, a ≠ l → (a ∈ (stepP l o x).1 ↔ a ∈ o.1 ∨ (a = x ∧ a.origin ≠ l.origin)) := by
      unfold stepP
      simp only
      by_cases h1 : o.2 = false ∧ l.origin ≤ x.origin
      · rw [if_pos h1]
        by_cases h2 : x.origin ≠ l.origin
        · rw [if_pos h2]
          refine ⟨fun _ => by simp, fun a ha => ?_⟩
          simp [ha]
          constructor
          · rintro (q | rfl)
            · exact .inl q
            · exact .inr ⟨rfl, h2⟩
          · rintro (q | q)
            · exact .inl q
            · exact .inr q.1
        · rw [if_neg h2]
          refine ⟨fun _ => by simp, fun a ha => ?_⟩
          simp [ha]
          rintro rfl q
          exact absurd q h2
      · rw [if_neg h1]
        by_cases h2 : x.origin ≠ l.origin
        · rw [if_pos h2]
          refine ⟨fun q => by simp [h q], fun a ha => ?_⟩
          simp
          constructor
          · rintro (q | rfl)
            · exact .inl q
            · exact .inr ⟨rfl, h2⟩
          · rintro (q | q)
            · exact .inl q
            · exact .inr q.1
        · rw [if_neg h2]
          refine ⟨h, fun a ha => ?_⟩
          constructor
          · exact .inl
          · rintro (q | ⟨rfl, q⟩)
            · exact q
            · exact absurd q h2
    obtain ⟨i1, i2⟩ := mem_fold (l := l) (xs := xs) (o := stepP l o x) hs.1
    refine ⟨i1, fun a ha => ?_⟩
    rw [List.foldl_cons, i2 a ha, hs.2 a ha]
    simp only [List.mem_cons]
    constructor
    · rintro ((q | q) | q)
      · exact .inl q
      · exact .inr ⟨.inl q.1, q.2⟩
      · exact .inr ⟨.inr q.1, q.2⟩
    · rintro (q | ⟨q | q, q2⟩)
      · exact .inl (.inl q)
      · exact .inl (.inr ⟨q, q2⟩)
      · exact .inr ⟨q, q2⟩
theorem mem_put {l : TLsa} {xs : List TLsa} {a : TLsa} : a ∈ putL l xs ↔ a = l ∨ (a ∈ xs ∧ a.origin ≠ l.origin) := by
  obtain ⟨i1, i2⟩ := mem_fold (l := l) (xs := xs) (o := ([], false)) (by simp)
  unfold putL
  have i1 : (foldP l xs).2 = true → l ∈ (foldP l xs).1 := i1
  have i2 : ∀ a, a ≠ l → (a ∈ (foldP l xs).1 ↔ a ∈ ([] : List TLsa) ∨ (a ∈ xs ∧ a.origin ≠ l.origin)) := i2
  by_cases ha : a = l
  · subst ha
    split
    · rename_i q; simp [i1 q]
    · simp
  · have := i2 a ha
    simp at this
    split
    · rw [this]; simp [ha]
    · simp [ha, this]
theorem lookL_put {l : TLsa} {xs : List TLsa} (hd : dbOk xs) (hl : lsaOk l) (o : Int) : lookL (putL l xs) o = if o = l.origin then some l else lookL xs o := by
  have hp := putL_ok hd hl
  split
  · rename_i e
    exact (lookL_iff hp).2 ⟨mem_put.2 (.inl rfl), e.symm⟩
  · rename_i e
    cases hf : lookL xs o with
    | some a =>
      have := (lookL_iff hd).1 hf
      exact (lookL_iff hp).2 ⟨mem_put.2 (.inr ⟨this.1, by rw [this.2]; exact e⟩), this.2⟩
    | none =>
      cases hg : lookL (putL l xs) o with
      | none => rfl
      | some b =>
        have := (lookL_iff hp).1 hg
        rcases mem_put.1 this.1 with rfl | q
        · exact absurd this.2.symm e
        · exact absurd this.2 (lookL_none hf q.1)
theorem lookL_inst {l : TLsa} {xs : List TLsa} (hd : dbOk xs) (hl : lsaOk l) (o : Int) : lookL (installR xs l).1 o = if o = l.origin ∧ offerR xs l = 0 then some l else lookL xs o := by
  unfold installR
  rw [if_pos ⟨hd, hl⟩]
  by_cases h : offerR xs l = 0
  · rw [if_pos h]
    simp only
    rw [lookL_put hd hl]
    simp [h]
  · rw [if_neg h]
    simp [h]
theorem lookL_fold : ∀ {ys xs : List TLsa}, dbOk xs → (∀ a ∈ ys, lsaOk a) → ys.Pairwise (fun a b => a.origin < b.origin) → ∀ o, lookL (foldI xs ys) o = match lookL ys o with | some l => if offerR xs l = 0 then some l else lookL xs o | none => lookL xs o
  | [], xs, _, _, _, o => rfl
  | l :: ys, xs, hd, hk, hp, o => by
    have hl := hk l (by simp)
    have hd' := install_ok (l := l) hd
    have hp' := List.pairwise_cons.1 hp
    have ih := lookL_fold hd' (fun a ha => hk a (List.mem_cons_of_mem _ ha)) hp'.2 o
    have e : foldI xs (l :: ys) = foldI (installR xs l).1 ys := rfl
    rw [e, ih, lookL_inst hd hl]
    by_cases ho : o = l.origin
    · subst ho
      have h1 : lookL ys l.origin = none := by
        unfold lookL
        rw [List.find?_eq_none]
        intro a ha
        have := hp'.1 a ha
        simp
        omega
      have h2 : lookL (l :: ys) l.origin = some l := by simp [lookL]
      rw [h1, h2]
      simp
    · have h2 : lookL (l :: ys) o = lookL ys o := by
        unfold lookL
        rw [List.find?_cons_of_neg]
        simp
        exact fun q => ho q.symm
      rw [h2, if_neg fun q => ho q.1]
      cases hf : lookL ys o with
      | none => rfl
      | some b =>
        have hb := (lookL_org hf).2
        have : offerR (installR xs l).1 b = offerR xs b := by
          rw [offer_lookL hd', offer_lookL hd, lookL_inst hd hl, hb, if_neg fun q => ho q.1]
        simp only [this]
theorem db_pair {xs : List TLsa} (hd : dbOk xs) : xs.Pairwise (fun a b => a.origin < b.origin) := by
  rw [List.pairwise_iff_getElem]
  intro i j hi hj hij
  have := og_lt hd hij hj
  rw [og_get hi, og_get hj] at this
  exact this
theorem lookL_merge {xs ys : List TLsa} (hx : dbOk xs) (hy : dbOk ys) (o : Int) : lookL (foldI xs ys) o = match lookL ys o with | some l => if offerR xs l = 0 then some l else lookL xs o | none => lookL xs o :=
  lookL_fold hx (fun _ ha => mem_ok hy ha) (db_pair hy) o
/-! #### the same by keys -/
def keyL (a : TLsa) : Int × Int := (a.origin, lsaSum a)
theorem sort_eq : ∀ {A B : List (Int × Int)}, A.Pairwise (fun a b => a.1 < b.1) → B.Pairwise (fun a b => a.1 < b.1) → (∀ k, k ∈ A ↔ k ∈ B) → A = B
  | [], [], _, _, _ => rfl
  | [], b :: B, _, _, h => by have := (h b).2 (by simp); simp at this
  | a :: A, [], _, _, h => by have := (h a).1 (by simp); simp at this
  | a :: A, b :: B, hA, hB, h => by
    have pA := List.pairwise_cons.1 hA
    have pB := List.pairwise_cons.1 hB
    have e : a = b := by
      have h1 := (h a).1 (by simp)
      have h2 := (h b).2 (by simp)
      rcases List.mem_cons.1 h1 with q | q
      · exact q
      · rcases List.mem_cons.1 h2 with q2 | q2
        · exact q2.symm
        · have := pB.1 a q
          have := pA.1 b q2
          omega
    subst e
    congr 1
    refine sort_eq pA.2 pB.2 fun k => ⟨fun hk => ?_, fun hk => ?_⟩
    · rcases List.mem_cons.1 ((h k).1 (List.mem_cons_of_mem _ hk)) with q | q
      · subst q; have := pA.1 _ hk; omega
      · exact q
    · rcases List.mem_cons.1 ((h k).2 (List.mem_cons_of_mem _ hk)) with q | q
      · subst q; have := pB.1 _ hk; omega
      · exact q
theorem keys_eq {xs ys : List TLsa} (hx : dbOk xs) (hy : dbOk ys) (h : ∀ o, (lookL xs o).map keyL = (lookL ys o).map keyL) : xs.map keyL = ys.map keyL := by
  have pw : ∀ {zs : List TLsa}, dbOk zs → (zs.map keyL).Pairwise (fun a b => a.1 < b.1) := fun hz => by
    rw [List.pairwise_map]; exact db_pair hz
  have inn : ∀ {zs : List TLsa}, dbOk zs → ∀ k, k ∈ zs.map keyL ↔ (lookL zs k.1).map keyL = some k := fun {zs} hz k => by
    rw [List.mem_map, Option.map_eq_some_iff]
    constructor
    · rintro ⟨a, h1, rfl⟩
      exact ⟨a, (lookL_iff hz).2 ⟨h1, rfl⟩, rfl⟩
    · rintro ⟨a, h1, h2⟩
      exact ⟨a, (lookL_org h1).1, h2⟩
  exact sort_eq (pw hx) (pw hy) fun k => by rw [inn hx, inn hy, h]
theorem sum_keys {xs ys : List TLsa} (h : xs.map keyL = ys.map keyL) : dbSum xs = dbSum ys ∧ xs.length = ys.length := by
  refine ⟨?_, by simpa using congrArg List.length h⟩
  have e : ∀ (zs : List TLsa) (s : Int), zs.foldl stepDb s = (zs.map keyL).foldl (fun s k => (31 * s + k.2) % 1000003) s := by
    intro zs
    induction zs with
    | nil => intro s; rfl
    | cons z zs ih => intro s; simp only [List.foldl_cons, List.map_cons]; rw [ih]; rfl
  unfold dbSum
  rw [e, e, h]
theorem merge_sym {xs ys : List TLsa} (hx : dbOk xs) (hy : dbOk ys) (ax : ∀ a ∈ xs, a.age ≠ 60) (ay : ∀ a ∈ ys, a.age ≠ 60) : dbSum (foldI xs ys) = dbSum (foldI ys xs) ∧ (foldI xs ys).length = (foldI ys xs).length := by
  refine sum_keys (keys_eq (foldI_ok hx) (foldI_ok hy) fun o => ?_)
  rw [lookL_merge hx hy, lookL_merge hy hx]
  cases h1 : lookL xs o with
  | none =>
    cases h2 : lookL ys o with
    | none => simp
    | some l =>
      have hl := lookL_org h2
      have := ay l hl.1
      simp [offer_lookL hx, hl.2, h1, this]
  | some r =>
    have hr := lookL_org h1
    cases h2 : lookL ys o with
    | none =>
      have := ax r hr.1
      simp [offer_lookL hy, hr.2, h2, this]
    | some l =>
      have hl := lookL_org h2
      simp only [offer_lookL hx, offer_lookL hy, hl.2, hr.2, h1, h2]
      have t := newer_turn l r
      rcases newer_in l r with q | q | q
      · simp [t, q]
      · have z := newer_zero q
        have eo : l.origin = r.origin := by omega
        simp [t, q, keyL, eo, z.2]
      · simp [t, q]
theorem lacks_none {xs ys : List TLsa} (hx : dbOk xs) (hy : dbOk ys) : lacksR (foldI xs ys) ys = [] := by
  unfold lacksR
  rw [if_pos ⟨foldI_ok hx, hy⟩]
  unfold lackL
  rw [List.map_eq_nil_iff, List.filter_eq_nil_iff]
  intro l hl
  have e := (lookL_iff hy).2 ⟨hl, rfl⟩
  have m := lookL_merge hx hy l.origin
  rw [e] at m
  simp only at m
  simp only [decide_eq_true_eq]
  rw [offer_lookL (foldI_ok hx)]
  by_cases h : offerR xs l = 0
  · rw [if_pos h] at m
    rw [m]
    simp [newer_self]
  · rw [if_neg h] at m
    rw [m, ← offer_lookL hx]
    exact h
theorem lacks_same {xs ys : List TLsa} (hx : dbOk xs) (hy : dbOk ys) (h : lacksR xs ys = []) : dbSum (foldI xs ys) = dbSum xs := by
  refine (sum_keys (keys_eq (foldI_ok hx) hx fun o => ?_)).1
  rw [lookL_merge hx hy]
  cases h2 : lookL ys o with
  | none => rfl
  | some l =>
    unfold lacksR at h
    rw [if_pos ⟨hx, hy⟩] at h
    unfold lackL at h
    rw [List.map_eq_nil_iff, List.filter_eq_nil_iff] at h
    have := h l (lookL_org h2).1
    simp only [decide_eq_true_eq] at this
    simp [this]
theorem inst_len (xs : List TLsa) (l : TLsa) : xs.length ≤ (installR xs l).1.length := by
  unfold installR
  split
  · rename_i hh
    split
    · simp only
      obtain ⟨i, hi, h2, h3⟩ := split_at xs hh.1 l.origin
      by_cases hf : i < xs.length ∧ og xs i = l.origin
      · rw [putL_set hh.1 hf.1 hf.2]; simp
      · rw [putL_put hh.1 hi h2 (split_lt hh.1 h3 hf), putAt_len hi]; omega
    · simp
  · simp
theorem inst_found {xs : List TLsa} {l : TLsa} (h : (installR xs l).2 = 0) : dbOk xs ∧ lsaOk l ∧ findR (installR xs l).1 l.origin = (l, true) ∧ (installR (installR xs l).1 l).2 = 1 := by
  by_cases hh : dbOk xs ∧ lsaOk l
  · have h0 : offerR xs l = 0 := by
      unfold installR at h
      rw [if_pos hh] at h
      split at h
      · assumption
      · exact h
    have hd := install_ok (l := l) hh.1
    have e := lookL_inst hh.1 hh.2 l.origin
    rw [if_pos ⟨rfl, h0⟩] at e
    refine ⟨hh.1, hh.2, ?_, ?_⟩
    · rw [findR_lookL hd, e]
    · have : offerR (installR xs l).1 l = 1 := by
        rw [offer_lookL hd, e]
        simp [newer_self]
      generalize (installR xs l).1 = ys at *
      unfold installR
      rw [if_pos ⟨hd, hh.2⟩, if_neg (by omega)]
      exact this
  · unfold installR at h
    rw [if_neg hh] at h
    simp at h
/-! #### sums of any database -/
def sumD (xs : List TLsa) : Int := if dbOk xs then dbSum xs else -1

end Go.Proofs.Ytgoljfhjhcjcpaa
