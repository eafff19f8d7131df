/-
Plain terms: no loops in the safe order; how many orders are bad.
-/
import Derived.Test.YtipdfhjilegkcaaFirst
import Derived.Test.YtipdfhjilegkcaaSafeOrd
set_option linter.all false
namespace Go.Proofs.Ytipdfhjilegkcaa
open Go Go.Abs Go.Proofs

theorem order_ex (n : Nat) (key : Int → Int) : ∃ L, IsOrder n key L := by
  have : ∀ k, k ≤ n → ∃ L, Part n key L ∧ L.length = k := by
    intro k
    induction k with
    | zero => exact fun _ => ⟨[], Part.nil, rfl⟩
    | succ k ih =>
      intro hk
      obtain ⟨L, h1, h2⟩ := ih (by omega)
      exact ⟨_, h1.next (by omega), by simp [h2]⟩
  obtain ⟨L, h1, h2⟩ := this n (Nat.le_refl _)
  exact ⟨L, h1.done (by omega)⟩
theorem ordL_is (n : Nat) (key : Int → Int) : IsOrder n key (ordL n key) := by
  obtain ⟨L, h⟩ := order_ex n key
  rw [← ordL_eq h]; exact h
theorem IsOrder.length {n : Nat} {key : Int → Int} {L : List Int} (h : IsOrder n key L) : L.length = n := by
  have h1 := h.part.len
  by_cases e : L.length < n
  · obtain ⟨x, hx, hn⟩ := free_of e
    exact absurd ((h.2 x).2 hx) hn
  · omega

theorem hops_near {n : Int} {es : List TEdge} (hg : graphOk n es) {a b x : Int} (hb : 0 ≤ b ∧ b < n) (h : x ∈ hops n es a b) : far n es x b < far n es a b ∧ far n es a b < 1000000 ∧ (0 ≤ x ∧ x < n) ∧ a ≠ b := by
  unfold hops at h
  split at h
  · simp at h
  · rename_i hc
    obtain ⟨e, he, hx⟩ := List.mem_filterMap.1 h
    unfold hopAt at hx
    split at hx
    · rename_i hc2
      simp at hx
      obtain ⟨i, hi, rfl⟩ := ed_mem he
      obtain ⟨g1, g2, g3, g4, _⟩ := hg.2.2 i hi
      have := far_in hg a hb.1 hb.2
      rw [← hx]
      refine ⟨by omega, by omega, g2, fun e => hc (.inl e)⟩
    · cases hx
theorem hopOf_near {n : Int} {es : List TEdge} (hg : graphOk n es) {a b : Int} (hb : 0 ≤ b ∧ b < n) (hab : a ≠ b) : hopOf n es a b = -1 ∨ far n es (hopOf n es a b) b < far n es a b ∧ 0 ≤ hopOf n es a b ∧ hopOf n es a b < n := by
  by_cases h0 : (hops n es a b).length = 0
  · exact .inl (hopOf_none hab h0)
  · have h1 := hopOf_some hab (Nat.pos_of_ne_zero h0)
    have := hops_near hg hb (x := hopOf n es a b) (by rw [← h1]; exact List.getElem_mem _)
    exact .inr ⟨this.1, this.2.2.1⟩

/-- Below what is done all that is nearer is done. -/
def Down (n : Int) (es : List TEdge) (d : Int) (ds : List Int) : Prop := ∀ x y, x ∈ ds → 0 ≤ y ∧ y < n → far n es y d < far n es x d → y ∈ ds
theorem down_take {n : Int} {es : List TEdge} {d : Int} (k : Nat) : Down n es d ((ordL n.toNat (fun x => far n es x d)).take k) := by
  intro x y hx hy hlt
  have ho := ordL_is n.toNat (fun x => far n es x d)
  generalize ordL n.toNat (fun x => far n es x d) = L at *
  have hyL : y ∈ L := (ho.2 y).2 (by omega)
  rw [← List.take_append_drop k L] at hyL
  rcases List.mem_append.1 hyL with h | h
  · exact h
  · have hp := ho.1
    rw [← List.take_append_drop k L, List.pairwise_append] at hp
    have := hp.2.2 x hx y h
    unfold lexlt at this
    simp only at this
    omega

def mu (n : Int) (es fs : List TEdge) (ds : List Int) (d x : Int) : Int := if x ∈ ds then far n fs x d else 2000000 + far n es x d
theorem mix_near {n : Int} {es fs : List TEdge} {d : Int} {ds : List Int} (hg : graphOk n es) (hg' : graphOk n fs) (hd : 0 ≤ d ∧ d < n) (hD : Down n fs d ds) {x : Int} (hx : 0 ≤ x ∧ x < n) (hne : x ≠ d) (h0 : 0 ≤ mixQ n es fs ds d x) : mu n es fs ds d (mixQ n es fs ds d x) < mu n es fs ds d x := by
  unfold mixQ at *
  by_cases hm : x ∈ ds
  · rw [if_pos hm] at *
    rcases hopOf_near hg' hd hne with h | ⟨h1, h2⟩
    · omega
    · have hy := hD x _ hm h2 h1
      unfold mu
      rw [if_pos hm, if_pos hy]
      exact h1
  · rw [if_neg hm] at *
    rcases hopOf_near hg hd hne with h | ⟨h1, h2⟩
    · omega
    · have f1 := far_in hg x hd.1 hd.2
      have f2 := far_in hg' (hopOf n es x d) hd.1 hd.2
      unfold mu
      rw [if_neg hm]
      split <;> omega
theorem loops_nil {n : Int} {es fs : List TEdge} {d : Int} {ds : List Int} (hg : graphOk n es) (hg' : graphOk n fs) (hd : 0 ≤ d ∧ d < n) (hD : Down n fs d ds) : loopsIn (tab (mixQ n es fs ds d) n.toNat) d = [] := by
  have hl := tab_len (mixQ n es fs ds d) n.toNat
  have hn := hg.1
  unfold loopsIn
  rw [if_neg (by omega)]
  unfold loopsTo
  rw [List.map_eq_nil_iff, List.filter_eq_nil_iff]
  intro i hi hlive
  simp only [decide_eq_true_eq] at hlive
  have hs := walk_steps hlive
  generalize hT : tab (mixQ n es fs ds d) n.toNat = T at *
  have step : ∀ j a, steps T (j + 1) a = T.getD (steps T j a).toNat 0 := fun j a => by rw [steps_add]; rfl
  have dec : ∀ j, j < T.length + 1 → mu n es fs ds d (steps T (j + 1) i) < mu n es fs ds d (steps T j i) := fun j hj => by
    have l0 := hs j (by omega)
    have l1 := hs (j + 1) (by omega)
    unfold live at l0 l1
    have e : steps T (j + 1) i = mixQ n es fs ds d (steps T j i) := by
      have q := tab_get (q := mixQ n es fs ds d) (n := n.toNat) (x := steps T j i) (by omega)
      rw [hT] at q
      rw [step, q]
    rw [e]
    rw [e] at l1
    exact mix_near hg hg' hd hD (by omega) l0.1 l1.2.1
  have mono : ∀ k j, j + k ≤ T.length + 1 → 0 < k → mu n es fs ds d (steps T (j + k) i) < mu n es fs ds d (steps T j i) := by
    intro k
    induction k with
    | zero => intro j _ h; omega
    | succ k ih =>
      intro j hj _
      have h1 := dec (j + k) (by omega)
      by_cases hk : k = 0
      · subst hk; exact h1
      · have h2 := ih j (by omega) (by omega)
        rw [← Nat.add_assoc]
        omega
  obtain ⟨a, b, h1, h2, h3⟩ := pigeon T.length (fun j => (steps T j i).toNat) fun j hj => by
    have := hs j (by omega)
    unfold live at this
    omega
  have la := hs a (by omega)
  have lb := hs b (by omega)
  have e : steps T a i = steps T b i := by unfold live at la lb; omega
  have := mono (b - a) a (by omega) (by omega)
  rw [show a + (b - a) = b by omega, e] at this
  omega
theorem firstFrom_none {bad : Nat → Bool} : ∀ {r k : Nat}, (∀ j, k ≤ j → j < k + r → bad j = false) → firstFrom bad k r = -1
  | 0, _, _ => rfl
  | r + 1, k, h => by
    rw [firstFrom, if_neg (by rw [h k (by omega) (by omega)]; simp)]
    exact firstFrom_none fun j h1 h2 => h j (by omega) (by omega)
theorem firstFrom_iff {bad : Nat → Bool} : ∀ {r k : Nat}, firstFrom bad k r ≠ -1 ↔ ∃ j, k ≤ j ∧ j < k + r ∧ bad j = true
  | 0, k => by simp [firstFrom]; omega
  | r + 1, k => by
    rw [firstFrom]
    by_cases h : bad k = true
    · rw [if_pos h]
      exact ⟨fun _ => ⟨k, by omega, by omega, h⟩, fun _ => by omega⟩
    · rw [if_neg h, firstFrom_iff]
      constructor
      · rintro ⟨j, h1, h2, h3⟩; exact ⟨j, by omega, by omega, h3⟩
      · rintro ⟨j, h1, h2, h3⟩
        by_cases e : j = k
        · subst e; exact absurd h3 h
        · exact ⟨j, by omega, by omega, h3⟩
theorem safe_first {n : Int} {es fs : List TEdge} {d : Int} (hg : graphOk n es) (hg' : graphOk n fs) (hd : 0 ≤ d ∧ d < n) : firstLoop n es fs (safeL n fs d) d = -1 := by
  unfold firstLoop
  refine firstFrom_none fun j _ _ => ?_
  unfold badMix
  rw [safeL, if_pos ⟨hg', hd⟩, loops_nil hg hg' hd (down_take j)]
  simp

/-! #### counting -/
def sumTo (q : Nat → Int) : Nat → Int
  | 0 => 0
  | i + 1 => sumTo q i + q i
theorem sumTo_congr {q r : Nat → Int} : ∀ {i : Nat}, (∀ j, j < i → q j = r j) → sumTo q i = sumTo r i
  | 0, _ => rfl
  | i + 1, h => by rw [sumTo, sumTo, sumTo_congr fun j hj => h j (by omega), h i (by omega)]
theorem sumTo_in {q : Nat → Int} {b : Int} : ∀ {i : Nat}, (∀ j, j < i → 0 ≤ q j ∧ q j ≤ b) → 0 ≤ sumTo q i ∧ sumTo q i ≤ i * b
  | 0, _ => by simp [sumTo]
  | i + 1, h => by
    have h1 := sumTo_in (i := i) fun j hj => h j (by omega)
    have h2 := h i (by omega)
    rw [sumTo]
    have : ((i + 1 : Nat) : Int) * b = i * b + b := by rw [Int.natCast_add, Int.add_mul]; simp
    omega
def sumL (g : Int → Int) : List Int → Int
  | [] => 0
  | x :: l => g x + sumL g l
theorem sumL_append (g : Int → Int) : ∀ (a b : List Int), sumL g (a ++ b) = sumL g a + sumL g b
  | [], b => by simp [sumL]
  | x :: a, b => by rw [List.cons_append, sumL, sumL, sumL_append g a b]; omega
theorem sumTo_list (g : Int → Int) (l : List Int) : ∀ i, i ≤ l.length → sumTo (fun i => g (l.getD i 0)) i = sumL g (l.take i)
  | 0, _ => by simp [sumTo, sumL]
  | i + 1, h => by
    rw [sumTo, sumTo_list g l i (by omega), List.take_succ_eq_append_getElem (by omega), sumL_append]
    simp [sumL, show i < l.length by omega]
theorem sumTo_all (g : Int → Int) (l : List Int) : sumTo (fun i => g (l.getD i 0)) l.length = sumL g l := by
  rw [sumTo_list g l _ (Nat.le_refl _), List.take_length]
theorem sumL_fil (g : Int → Int) (q : Int → Bool) : ∀ i : Nat, sumL g (fil q i) = sumTo (fun x => if q (x : Int) = true then g (x : Int) else 0) i
  | 0 => rfl
  | i + 1 => by
    rw [fil_succ, sumL_append, sumL_fil g q i, sumTo]
    split <;> simp [sumL]

def fact : Nat → Int
  | 0 => 1
  | r + 1 => (r + 1 : Nat) * fact r
theorem fact_pos : ∀ r, 1 ≤ fact r
  | 0 => by simp [fact]
  | r + 1 => by
    have := fact_pos r
    rw [fact, Int.natCast_add, Int.add_mul]
    have h : 0 ≤ (r : Int) * fact r := Int.mul_nonneg (by omega) (by omega)
    omega
/-- As the program counts them: r are still to come behind o. -/
def bads (n : Int) (es fs : List TEdge) (d : Int) : Nat → List Int → Int
  | 0, o => if firstLoop n es fs o d ≠ -1 then 1 else 0
  | r + 1, o => sumTo (fun x => if (x : Int) ∈ o then 0 else bads n es fs d r (o ++ [(x : Int)])) n.toNat
/-- As the reference counts them. -/
def isBad (m : List Int) (d : Int) (b : Bool) : Bool := b || decide (0 < (loopsIn m d).length)
def lbad (fresh : List Int) (d : Int) : Nat → List Int → List Int → Bool → Int
  | 0, m, _, b => if isBad m d b = true then 1 else 0
  | r + 1, m, l, b => sumTo (fun i => lbad fresh d r (m.set (l.getD i 0).toNat (fresh.getD (l.getD i 0).toNat 0)) (l.eraseIdx i) (isBad m d b)) l.length
theorem lbad_in (fresh : List Int) (d : Int) : ∀ (r : Nat) (m l : List Int) (b : Bool), l.length = r → 0 ≤ lbad fresh d r m l b ∧ lbad fresh d r m l b ≤ fact r
  | 0, m, l, b, _ => by
    rw [lbad]; split <;> simp [fact]
  | r + 1, m, l, b, h => by
    rw [lbad, fact, ← h]
    exact sumTo_in fun j hj => lbad_in fresh d r _ _ _ (by rw [List.length_eraseIdx_of_lt hj]; omega)

def freeQ (o : List Int) (x : Int) : Bool := decide (x ∉ o)
theorem fil_nodup (q : Int → Bool) (i : Nat) : (fil q i).Pairwise (· ≠ ·) := by
  unfold fil
  exact ((range_sorted i).filter q).imp fun h => by omega
theorem eraseIdx_fil : ∀ {l : List Int}, l.Pairwise (· ≠ ·) → ∀ {i : Nat}, i < l.length → l.eraseIdx i = l.filter (fun x => decide (x ≠ l.getD i 0))
  | [], _, i, h => by simp at h
  | x :: l, hp, 0, _ => by
    rw [List.pairwise_cons] at hp
    have : l.filter (fun y => decide (y ≠ x)) = l := List.filter_eq_self.2 fun y hy => by have := hp.1 y hy; simp; omega
    simp only [List.eraseIdx_cons_zero, List.getD_cons_zero, List.filter_cons]
    simp
    simpa using this.symm
  | x :: l, hp, i + 1, h => by
    rw [List.pairwise_cons] at hp
    have hi : i < l.length := by simpa using h
    have hx : x ≠ l.getD i 0 := by
      have := hp.1 _ (List.getElem_mem hi)
      simpa [hi] using this
    simp only [List.eraseIdx_cons_succ, List.getD_cons_succ, List.filter_cons, hx, ne_eq, not_false_eq_true, decide_true, if_true]
    rw [eraseIdx_fil hp.2 hi]
theorem fil_erase {o : List Int} {n i : Nat} (hi : i < (fil (freeQ o) n).length) : (fil (freeQ o) n).eraseIdx i = fil (freeQ (o ++ [(fil (freeQ o) n).getD i 0])) n := by
  rw [eraseIdx_fil (fil_nodup _ _) hi]
  generalize (fil (freeQ o) n).getD i 0 = x
  unfold fil
  rw [List.filter_filter]
  congr 1
  funext y
  simp [freeQ, and_comm]

theorem any_take (bad : Nat → Bool) (k : Nat) : ((List.range (k + 1)).any bad) = ((List.range k).any bad || bad k) := by
  rw [List.range_succ, List.any_append]; simp
theorem mix_add {n : Int} {es fs : List TEdge} {d : Int} {o : List Int} {x : Int} (hx : 0 ≤ x ∧ x < n) :
    (tab (mixQ n es fs o d) n.toNat).set x.toNat ((tab (fun x => hopOf n fs x d) n.toNat).getD x.toNat 0) = tab (mixQ n es fs (o ++ [x]) d) n.toNat := by
  rw [tab_get (by omega), tab_set (by omega)]
  refine tab_ext fun z z0 z1 => ?_
  by_cases e : z = x
  · subst e; simp [mixQ]
  · rw [if_neg e]
    unfold mixQ
    simp [e]
theorem bads_eq {n : Int} {es fs : List TEdge} {d : Int} : ∀ (r : Nat) (o : List Int), (fil (freeQ o) n.toNat).length = r →
    lbad (tab (fun x => hopOf n fs x d) n.toNat) d r (tab (mixQ n es fs o d) n.toNat) (fil (freeQ o) n.toNat) ((List.range o.length).any (badMix n es fs o d)) = bads n es fs d r o
  | 0, o, _ => by
    rw [lbad, bads]
    congr 1
    rw [eq_iff_iff, firstLoop, firstFrom_iff]
    have e : isBad (tab (mixQ n es fs o d) n.toNat) d ((List.range o.length).any (badMix n es fs o d)) = (List.range (o.length + 1)).any (badMix n es fs o d) := by
      rw [any_take]
      unfold isBad badMix
      rw [List.take_length]
    rw [e]
    simp only [List.any_eq_true, List.mem_range]
    constructor
    · rintro ⟨j, h1, h2⟩; exact ⟨j, by omega, by omega, h2⟩
    · rintro ⟨j, h1, h2, h3⟩; exact ⟨j, by omega, h3⟩
  | r + 1, o, hl => by
    rw [lbad, bads]
    have e1 : isBad (tab (mixQ n es fs o d) n.toNat) d ((List.range o.length).any (badMix n es fs o d)) = (List.range (o.length + 1)).any (badMix n es fs o d) := by
      rw [any_take]
      unfold isBad badMix
      rw [List.take_length]
    rw [e1]
    have key : ∀ i, i < (fil (freeQ o) n.toNat).length → lbad (tab (fun x => hopOf n fs x d) n.toNat) d r ((tab (mixQ n es fs o d) n.toNat).set ((fil (freeQ o) n.toNat).getD i 0).toNat ((tab (fun x => hopOf n fs x d) n.toNat).getD ((fil (freeQ o) n.toNat).getD i 0).toNat 0)) ((fil (freeQ o) n.toNat).eraseIdx i) ((List.range (o.length + 1)).any (badMix n es fs o d))
        = (fun x => bads n es fs d r (o ++ [x])) ((fil (freeQ o) n.toNat).getD i 0) := fun i hi => by
      have hm : (fil (freeQ o) n.toNat).getD i 0 ∈ fil (freeQ o) n.toNat := by simp [hi]
      have hr := (mem_fil hm).1
      rw [fil_erase hi]
      generalize hx : (fil (freeQ o) n.toNat).getD i 0 = x at *
      rw [mix_add (by omega)]
      have hlen : (fil (freeQ (o ++ [x])) n.toNat).length = r := by
        have := fil_erase hi
        rw [hx] at this
        rw [← this, List.length_eraseIdx_of_lt hi]; omega
      have ih := bads_eq (es := es) (fs := fs) (d := d) r (o ++ [x]) hlen
      have e2 : (List.range (o ++ [x]).length).any (badMix n es fs (o ++ [x]) d) = (List.range (o.length + 1)).any (badMix n es fs o d) := by
        rw [List.length_append, List.length_singleton]
        have : ∀ j, j ∈ List.range (o.length + 1) → badMix n es fs (o ++ [x]) d j = badMix n es fs o d j := fun j hj => by
          rw [List.mem_range] at hj
          unfold badMix
          rw [List.take_append_of_le_length (by omega)]
        rw [Bool.eq_iff_iff, List.any_eq_true, List.any_eq_true]
        constructor
        · rintro ⟨j, h1, h2⟩; exact ⟨j, h1, by rw [← this j h1]; exact h2⟩
        · rintro ⟨j, h1, h2⟩; exact ⟨j, h1, by rw [this j h1]; exact h2⟩
      rw [e2] at ih
      exact ih
    rw [sumTo_congr key, sumTo_all (fun x => bads n es fs d r (o ++ [x])), sumL_fil]
    refine sumTo_congr fun x _ => ?_
    by_cases h : (x : Int) ∈ o <;> simp [freeQ, h]
theorem fil_all (n : Nat) : fil (freeQ []) n = tab (fun x => x) n := by
  unfold fil tab
  rw [List.filter_eq_self.2]
  intro x _; simp [freeQ]

/-- Of the orders that begin as the safe one does fewer are bad than there are. -/
theorem bads_le {n : Int} {es fs : List TEdge} {d : Int} : ∀ (r : Nat) (o : List Int), (fil (freeQ o) n.toNat).length = r → 0 ≤ bads n es fs d r o ∧ bads n es fs d r o ≤ fact r := fun r o h => by
  rw [← bads_eq r o h]
  exact lbad_in _ _ _ _ _ _ h
theorem sumL_lt {g : Int → Int} {b : Int} : ∀ {l : List Int}, (∀ x ∈ l, g x ≤ b) → (∃ x ∈ l, g x < b) → sumL g l < l.length * b
  | [], _, h => by obtain ⟨x, hx, _⟩ := h; simp at hx
  | y :: l, h, hex => by
    have e : ((y :: l).length : Int) * b = b + l.length * b := by
      rw [List.length_cons, Int.natCast_add, Int.add_mul]; simp; omega
    have le : ∀ {l : List Int}, (∀ x ∈ l, g x ≤ b) → sumL g l ≤ l.length * b := by
      intro l
      induction l with
      | nil => simp [sumL]
      | cons z l ih =>
        intro h
        have := ih fun x hx => h x (List.mem_cons_of_mem _ hx)
        have := h z (by simp)
        have e : ((z :: l).length : Int) * b = b + l.length * b := by
          rw [List.length_cons, Int.natCast_add, Int.add_mul]; simp; omega
        rw [sumL]; omega
    rw [e, sumL]
    obtain ⟨x, hx, hlt⟩ := hex
    rcases List.mem_cons.1 hx with rfl | hx
    · have := le (l := l) fun x hx => h x (List.mem_cons_of_mem _ hx)
      omega
    · have := sumL_lt (fun x hx => h x (List.mem_cons_of_mem _ hx)) ⟨x, hx, hlt⟩
      have := h y (by simp)
      omega
theorem free_len {n : Nat} {o : List Int} (hd : o.Pairwise (· ≠ ·)) (hin : ∀ x ∈ o, 0 ≤ x ∧ x < (n : Int)) : ∀ k, k ≤ o.length → (fil (freeQ (o.take k)) n).length = n - k
  | 0, _ => by rw [List.take_zero, fil_all, tab_len]; rfl
  | k + 1, hk => by
    have ih := free_len hd hin k (by omega)
    have hx : o[k] ∈ fil (freeQ (o.take k)) n := by
      have := hin _ (List.getElem_mem (show k < o.length by omega))
      have hm := fil_mem (q := freeQ (o.take k)) (n := (n : Int)) this (by
        simp only [freeQ, decide_eq_true_eq]
        intro hm
        obtain ⟨j, hj, e⟩ := List.getElem_of_mem hm
        rw [List.getElem_take] at e
        have hj' : j < k := by simp at hj; omega
        exact nodup_get hd hj' (by omega) e)
      simpa using hm
    obtain ⟨i, hi, e⟩ := List.getElem_of_mem hx
    have := fil_erase hi
    rw [List.take_succ_eq_append_getElem (by omega)]
    have e' : (fil (freeQ (o.take k)) n).getD i 0 = o[k] := by rw [← e]; simp [hi]
    rw [e'] at this
    rw [← this, List.length_eraseIdx_of_lt hi]
    omega
theorem bads_lt {n : Int} {es fs : List TEdge} {d : Int} {L : List Int} (hd : L.Pairwise (· ≠ ·)) (hin : ∀ x ∈ L, 0 ≤ x ∧ x < n) (hl : L.length = n.toNat) (hb : firstLoop n es fs L d = -1) :
    ∀ r, r ≤ n.toNat → bads n es fs d r (L.take (n.toNat - r)) < fact r
  | 0, _ => by
    rw [Nat.sub_zero, ← hl, List.take_length, bads, if_neg (by simp [hb])]
    simp [fact]
  | r + 1, hr => by
    have ih := bads_lt hd hin hl hb r (by omega)
    have hin' : ∀ x ∈ L, 0 ≤ x ∧ x < ((n.toNat : Nat) : Int) := fun x hx => by have := hin x hx; omega
    have hfl := free_len hd hin' (n.toNat - (r + 1)) (by omega)
    have hfl' := free_len hd hin' (n.toNat - r) (by omega)
    generalize hk : n.toNat - (r + 1) = k at *
    have hk' : n.toNat - r = k + 1 := by omega
    rw [hk'] at ih hfl'
    have hkl : k < L.length := by omega
    rw [List.take_succ_eq_append_getElem hkl] at ih
    rw [bads]
    have e : sumTo (fun x => if (x : Int) ∈ L.take k then 0 else bads n es fs d r (L.take k ++ [(x : Int)])) n.toNat = sumL (fun x => bads n es fs d r (L.take k ++ [x])) (fil (freeQ (L.take k)) n.toNat) := by
      rw [sumL_fil]
      refine sumTo_congr fun x _ => ?_
      by_cases h : (x : Int) ∈ L.take k <;> simp [freeQ, h]
    rw [e, fact]
    have hlen : (fil (freeQ (L.take k)) n.toNat).length = r + 1 := by omega
    have := sumL_lt (g := fun x => bads n es fs d r (L.take k ++ [x])) (b := fact r) (l := fil (freeQ (L.take k)) n.toNat) (fun x hx => ?_) ⟨L[k], ?_, ih⟩
    · rw [hlen] at this
      exact this
    · obtain ⟨i, hi, e⟩ := List.getElem_of_mem hx
      have h2 := fil_erase hi
      have e' : (fil (freeQ (L.take k)) n.toNat).getD i 0 = x := by rw [← e]; simp [hi]
      rw [e'] at h2
      refine (bads_le r _ ?_).2
      rw [← h2, List.length_eraseIdx_of_lt hi]; omega
    · have h1 := hin' _ (List.getElem_mem hkl)
      have := fil_mem (q := freeQ (L.take k)) (n := ((n.toNat : Nat) : Int)) h1 (by
        simp only [freeQ, decide_eq_true_eq]
        intro hm
        obtain ⟨j, hj, e⟩ := List.getElem_of_mem hm
        rw [List.getElem_take] at e
        have hj' : j < k := by simp at hj; omega
        exact nodup_get hd hj' hkl e)
      rw [Int.toNat_natCast] at this
      exact this
def countBad (n m : Int) (es fs : List TEdge) (d : Int) : Int := if fine n m es fs d ∧ n ≤ 6 then bads n es fs d n.toNat [] else -1
theorem countBad_lt {n : Int} {es fs : List TEdge} {d : Int} (hg : graphOk n es) (hg' : graphOk n fs) (hd : 0 ≤ d ∧ d < n) : 0 ≤ bads n es fs d n.toNat [] ∧ bads n es fs d n.toNat [] < fact n.toNat := by
  have ho := ordL_is n.toNat (fun x => far n fs x d)
  have hs := safe_first (es := es) hg hg' hd
  rw [safeL, if_pos ⟨hg', hd⟩] at hs
  have h1 := bads_lt (pair_nodup ho.1) (fun x hx => by have := (ho.2 x).1 hx; omega) ho.length hs n.toNat (Nat.le_refl _)
  have h2 := (bads_le (n := n) (es := es) (fs := fs) (d := d) n.toNat [] (by rw [fil_all, tab_len])).1
  rw [Nat.sub_self, List.take_zero] at h1
  exact ⟨h2, h1⟩

end Go.Proofs.Ytipdfhjilegkcaa
