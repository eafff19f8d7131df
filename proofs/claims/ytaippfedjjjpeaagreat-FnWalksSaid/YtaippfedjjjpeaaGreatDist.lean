/-
Shortest ways in plain terms: the distances are the costs of cheapest ways.
-/
import Derived.Test.YtaippfedjjjpeaaGreatGraphA
set_option linter.all false
namespace Go.Proofs.YtaippfedjjjpeaaGreat
open Go Go.Abs

abbrev nd (out : List Int) (x : Int) : Int := out.getD x.toNat 0
inductive Way (es : List TEdge) (a : Int) : Int → Int → Prop
  | nil : Way es a a 0
  | snoc {b c : Int} {e : TEdge} : Way es a b c → e ∈ es → e.1 = b → Way es a e.2.1 (c + e.2.2)
theorem edge_ok {n : Int} {es : List TEdge} (hg : graphOk n es) {e : TEdge} (he : e ∈ es) : (0 ≤ e.1 ∧ e.1 < n) ∧ (0 ≤ e.2.1 ∧ e.2.1 < n) ∧ e.1 ≠ e.2.1 ∧ (1 ≤ e.2.2 ∧ e.2.2 ≤ 1000) := by
  obtain ⟨i, hi, rfl⟩ := ed_mem he
  have := hg.2.2 i hi
  exact ⟨this.1, this.2.1, this.2.2.1, this.2.2.2.1⟩
theorem Way.nonneg {n : Int} {es : List TEdge} (hg : graphOk n es) {a b c : Int} (h : Way es a b c) : 0 ≤ c := by
  induction h with
  | nil => omega
  | snoc _ he _ ih => have := (edge_ok hg he).2.2.2; omega
theorem Way.stays {n : Int} {es : List TEdge} (hg : graphOk n es) {a b c : Int} (ha : 0 ≤ a ∧ a < n) (h : Way es a b c) : 0 ≤ b ∧ b < n := by
  cases h with
  | nil => exact ha
  | snoc _ he _ => exact (edge_ok hg he).2.1
theorem nd_set {out : List Int} {x y v : Int} (hx : 0 ≤ x ∧ x.toNat < out.length) (hy : 0 ≤ y) : nd (out.set x.toNat v) y = if x = y then v else nd out y := by
  unfold nd
  by_cases e : x = y
  · subst e
    rw [if_pos rfl, List.getD_eq_getElem?_getD, List.getElem?_set_self hx.2]; rfl
  · rw [if_neg e, List.getD_eq_getElem?_getD, List.getElem?_set_ne (by omega), ← List.getD_eq_getElem?_getD]
theorem relax_le {n : Int} {es : List TEdge} (hg : graphOk n es) {out : List Int} (hd : DOk n out) {e : TEdge} (he : e ∈ es) {x : Int} (hx : 0 ≤ x ∧ x < n) : nd (relax out e) x ≤ nd out x := by
  have h := edge_ok hg he
  unfold relax
  split
  · rename_i hc
    rw [nd_set (by have := hd.1; omega) hx.1]
    split
    · rename_i q; subst q; unfold nd; omega
    · omega
  · omega
theorem relax_hit {n : Int} {es : List TEdge} (hg : graphOk n es) {out : List Int} (hd : DOk n out) {e : TEdge} (he : e ∈ es) (h1 : nd out e.1 < 1000000) : nd (relax out e) e.2.1 ≤ nd out e.1 + e.2.2 := by
  have h := edge_ok hg he
  unfold relax
  split
  · rename_i hc
    rw [nd_set (by have := hd.1; omega) h.2.1.1, if_pos rfl]
    unfold nd; omega
  · rename_i hc
    unfold nd at *
    omega
theorem relax_ok {n : Int} {es : List TEdge} (hg : graphOk n es) {out : List Int} (hd : DOk n out) {e : TEdge} (he : e ∈ es) : DOk n (relax out e) := hd.relax (edge_ok hg he).1 (edge_ok hg he).2.2.2.1
theorem fold_le {n : Int} {es : List TEdge} (hg : graphOk n es) : ∀ {fs : List TEdge} {out : List Int}, (∀ e ∈ fs, e ∈ es) → DOk n out → DOk n (fs.foldl relax out) ∧ ∀ x, 0 ≤ x ∧ x < n → nd (fs.foldl relax out) x ≤ nd out x
  | [], out, _, hd => ⟨hd, fun x _ => Int.le_refl _⟩
  | e :: fs, out, hs, hd => by
    have he := hs e (by simp)
    obtain ⟨h1, h2⟩ := fold_le hg (fs := fs) (fun f hf => hs f (List.mem_cons_of_mem _ hf)) (relax_ok hg hd he)
    exact ⟨h1, fun x hx => Int.le_trans (h2 x hx) (relax_le hg hd he hx)⟩
theorem round_hit {n : Int} {es : List TEdge} (hg : graphOk n es) {out : List Int} (hd : DOk n out) {e : TEdge} (he : e ∈ es) (h1 : nd out e.1 < 1000000) : nd (round es out) e.2.1 ≤ nd out e.1 + e.2.2 := by
  obtain ⟨A, B, rfl⟩ := List.append_of_mem he
  unfold round
  rw [List.foldl_append, List.foldl_cons]
  have hk := edge_ok hg he
  obtain ⟨a1, a2⟩ := fold_le hg (fs := A) (fun f hf => List.mem_append_left _ hf) hd
  have b1 := a2 e.1 hk.1
  have c1 := relax_hit hg a1 he (by omega)
  obtain ⟨d1, d2⟩ := fold_le hg (fs := B) (fun f hf => List.mem_append_right _ (List.mem_cons_of_mem _ hf)) (relax_ok hg a1 he)
  have := d2 e.2.1 hk.2.1
  omega
theorem rounds_le {n : Int} {es : List TEdge} (hg : graphOk n es) {out : List Int} (hd : DOk n out) {x : Int} (hx : 0 ≤ x ∧ x < n) (k : Nat) : ∀ d : Nat, nd (rounds es (k + d) out) x ≤ nd (rounds es k out) x
  | 0 => Int.le_refl _
  | d + 1 => by
    have := rounds_le hg hd hx k d
    refine Int.le_trans ?_ this
    exact (fold_le hg (fs := es) (fun f hf => hf) (DOk.rounds hg hd (k + d))).2 x hx
def Sound (n : Int) (es : List TEdge) (a : Int) (out : List Int) : Prop := ∀ x, 0 ≤ x ∧ x < n → nd out x < 1000000 → Way es a x (nd out x)
theorem fold_sound {n : Int} {es : List TEdge} (hg : graphOk n es) {a : Int} : ∀ {fs : List TEdge} {out : List Int}, (∀ e ∈ fs, e ∈ es) → DOk n out → Sound n es a out → Sound n es a (fs.foldl relax out)
  | [], _, _, _, h => h
  | e :: fs, out, hs, hd, h => by
    have he := hs e (by simp)
    have hk := edge_ok hg he
    refine fold_sound hg (fs := fs) (fun f hf => hs f (List.mem_cons_of_mem _ hf)) (relax_ok hg hd he) fun x hx hlt => ?_
    unfold relax at hlt ⊢
    split at hlt
    · rename_i hc
      rw [if_pos hc]
      rw [nd_set (by have := hd.1; omega) hx.1] at hlt ⊢
      split at hlt
      · rename_i q
        subst q
        rw [if_pos rfl]
        exact .snoc (h e.1 hk.1 hc.1) he rfl
      · rename_i q
        rw [if_neg q]
        exact h x hx hlt
    · rename_i hc
      rw [if_neg hc]
      exact h x hx hlt
theorem rounds_sound {n : Int} {es : List TEdge} (hg : graphOk n es) {a : Int} {out : List Int} (hd : DOk n out) (h : Sound n es a out) : ∀ k, Sound n es a (rounds es k out)
  | 0 => h
  | k + 1 => fold_sound hg (fs := es) (fun f hf => hf) (DOk.rounds hg hd k) (rounds_sound hg hd h k)
theorem zero_at {n a x : Int} (ha : 0 ≤ a ∧ a < n) (hx : 0 ≤ x ∧ x < n) : nd (dist0 n a) x = if a = x then 0 else 1000000 := by
  unfold dist0
  rw [nd_set (by simp; omega) hx.1]
  split
  · rfl
  · unfold nd; rw [List.getD_eq_getElem?_getD, List.getElem?_replicate, if_pos (by omega)]; rfl
theorem far_way {n : Int} {es : List TEdge} (hg : graphOk n es) {a b : Int} (ha : 0 ≤ a ∧ a < n) (hb : 0 ≤ b ∧ b < n) (h : far n es a b < 1000000) : Way es a b (far n es a b) := by
  refine rounds_sound hg DOk.zero (fun x hx hlt => ?_) n.toNat b hb h
  rw [zero_at ha hx] at hlt ⊢
  split at hlt
  · rename_i q; subst q; rw [if_pos rfl]; exact .nil
  · omega

/-! #### cheapest ways -/
theorem least_nat (P : Nat → Prop) (h : ∃ k, P k) : ∃ m, P m ∧ ∀ k, P k → m ≤ k := by
  obtain ⟨k, hk⟩ := h
  induction k using Nat.strongRecOn with
  | ind k ih =>
    by_cases q : ∃ j, j < k ∧ P j
    · obtain ⟨j, h1, h2⟩ := q; exact ih j h1 h2
    · exact ⟨k, hk, fun j hj => Nat.le_of_not_lt fun hh => q ⟨j, hh, hj⟩⟩
theorem filter_lt {p q : Nat → Bool} {y : Nat} (hp : p y = false) (hq : q y = true) : ∀ {l : List Nat}, (∀ x ∈ l, p x = true → q x = true) → y ∈ l → (l.filter p).length < (l.filter q).length := by
  have le : ∀ {l : List Nat}, (∀ x ∈ l, p x = true → q x = true) → (l.filter p).length ≤ (l.filter q).length := by
    intro l
    induction l with
    | nil => intro _; simp
    | cons x l ih =>
      intro h
      have := ih fun z hz => h z (List.mem_cons_of_mem _ hz)
      by_cases e : p x = true
      · rw [List.filter_cons_of_pos e, List.filter_cons_of_pos (h x (by simp) e)]; simp; exact this
      · rw [List.filter_cons_of_neg e]
        by_cases e2 : q x = true
        · rw [List.filter_cons_of_pos e2]; simp; omega
        · rw [List.filter_cons_of_neg e2]; exact this
  intro l
  induction l with
  | nil => intro _ hy; simp at hy
  | cons x l ih =>
    intro h hy
    have hl := fun z hz => h z (List.mem_cons_of_mem _ hz)
    rcases List.mem_cons.1 hy with rfl | hy
    · rw [List.filter_cons_of_neg (by simp [hp]), List.filter_cons_of_pos hq]
      have := le hl
      simp; omega
    · have := ih hl hy
      by_cases e : p x = true
      · rw [List.filter_cons_of_pos e, List.filter_cons_of_pos (h x (by simp) e)]; simp; exact this
      · rw [List.filter_cons_of_neg e]
        by_cases e2 : q x = true
        · rw [List.filter_cons_of_pos e2]; simp; omega
        · rw [List.filter_cons_of_neg e2]; exact this
/-- The cost of a cheapest way. -/
def Least (es : List TEdge) (a x m : Int) : Prop := Way es a x m ∧ ∀ c, Way es a x c → m ≤ c
open Classical in
noncomputable def lowB (es : List TEdge) (a m : Int) (v : Nat) : Bool := decide (∃ m', Least es a (v : Nat) m' ∧ m' < m)
theorem lowB_iff {es : List TEdge} {a m : Int} {v : Nat} : lowB es a m v = true ↔ ∃ m', Least es a (v : Nat) m' ∧ m' < m := by
  unfold lowB
  simp
noncomputable def rank (n : Int) (es : List TEdge) (a m : Int) : Nat := ((List.range n.toNat).filter (lowB es a m)).length
theorem rank_le (n : Int) (es : List TEdge) (a m : Int) : rank n es a m ≤ n.toNat := by
  unfold rank
  have := List.length_filter_le (lowB es a m) (List.range n.toNat)
  simpa using this
theorem rank_lt {n : Int} {es : List TEdge} (hg : graphOk n es) {a b m m' : Int} (ha : 0 ≤ a ∧ a < n) (hb : Least es a b m') (hlt : m' < m) : rank n es a m' < rank n es a m := by
  have hbn := hb.1.stays hg ha
  have hbc : ((b.toNat : Nat) : Int) = b := by omega
  unfold rank
  refine filter_lt (y := b.toNat) ?_ ?_ (fun x _ hx => ?_) (by simp; omega)
  · refine Bool.eq_false_iff.2 fun hh => ?_
    obtain ⟨c, h1, h2⟩ := lowB_iff.1 hh
    rw [hbc] at h1
    have := hb.2 c h1.1
    omega
  · exact lowB_iff.2 ⟨m', by rw [hbc]; exact hb, hlt⟩
  · obtain ⟨c, h1, h2⟩ := lowB_iff.1 hx
    exact lowB_iff.2 ⟨c, h1, by omega⟩
theorem least_round {n : Int} {es : List TEdge} (hg : graphOk n es) {a : Int} (ha : 0 ≤ a ∧ a < n) : ∀ (k : Nat) (x m : Int), m.toNat = k → Least es a x m → m < 1000000 → nd (rounds es (rank n es a m) (dist0 n a)) x ≤ m := by
  intro k
  induction k using Nat.strongRecOn with
  | ind k ih =>
    intro x m hk hm hlt
    have h0 := hm.1.nonneg hg
    have hx := hm.1.stays hg ha
    cases hm.1 with
    | nil =>
      have := rounds_le hg (DOk.zero (n := n) (a := a)) hx 0 (rank n es a 0)
      rw [Nat.zero_add] at this
      have e : nd (rounds es 0 (dist0 n a)) a = 0 := by
        show nd (dist0 n a) a = 0
        rw [zero_at ha ha, if_pos rfl]
      omega
    | @snoc b c e hw he hb =>
      have hk2 := edge_ok hg he
      have hc0 := hw.nonneg hg
      have hlb : Least es a b c := ⟨hw, fun c' hc' => by
        have := hm.2 _ (.snoc hc' he hb)
        omega⟩
      have hlt2 : c < c + e.2.2 := by omega
      have hr := rank_lt hg ha hlb hlt2
      have h1 := ih c.toNat (by omega) b c rfl hlb (by omega)
      have h2 := round_hit hg (DOk.rounds hg (DOk.zero (n := n) (a := a)) (rank n es a c)) he (by rw [hb]; omega)
      rw [hb] at h2
      have h3 := rounds_le hg (DOk.zero (n := n) (a := a)) hx (rank n es a c + 1) (rank n es a (c + e.2.2) - (rank n es a c + 1))
      have e1 : rank n es a c + 1 + (rank n es a (c + e.2.2) - (rank n es a c + 1)) = rank n es a (c + e.2.2) := by omega
      rw [e1] at h3
      have h4 : nd (rounds es (rank n es a c + 1) (dist0 n a)) e.2.1 = nd (round es (rounds es (rank n es a c) (dist0 n a))) e.2.1 := rfl
      omega
/-- No way is cheaper than the distance. -/
theorem far_le {n : Int} {es : List TEdge} (hg : graphOk n es) {a b c : Int} (ha : 0 ≤ a ∧ a < n) (h : Way es a b c) : far n es a b ≤ c := by
  have hb := h.stays hg ha
  by_cases hc : c < 1000000
  · obtain ⟨m, h1, h2⟩ := least_nat (fun k => Way es a b (k : Nat)) ⟨c.toNat, by have := h.nonneg hg; rwa [Int.toNat_of_nonneg this]⟩
    have hl : Least es a b (m : Nat) := ⟨h1, fun c' hc' => by
      have h0 := hc'.nonneg hg
      have := h2 c'.toNat (by rwa [Int.toNat_of_nonneg h0])
      omega⟩
    have hmc := hl.2 c h
    have h3 := least_round hg ha _ b m rfl hl (by omega)
    have h4 := rounds_le hg (DOk.zero (n := n) (a := a)) hb (rank n es a m) (n.toNat - rank n es a m)
    have e1 : rank n es a m + (n.toNat - rank n es a m) = n.toNat := by have := rank_le n es a m; omega
    rw [e1] at h4
    show nd (rounds es n.toNat (dist0 n a)) b ≤ c
    omega
  · have := (far_in hg a hb.1 hb.2).2
    omega

/-! #### graphs whose edges go both ways -/
theorem Way.cons {es : List TEdge} {e : TEdge} {b c : Int} (he : e ∈ es) (h : Way es e.2.1 b c) : Way es e.1 b (e.2.2 + c) := by
  induction h with
  | nil => 
    have := Way.snoc (.nil (es := es) (a := e.1)) he rfl
    rwa [Int.zero_add, ← Int.add_zero e.2.2] at this
  | @snoc b' c' f _ hf hb ih =>
    have := Way.snoc ih hf hb
    rwa [Int.add_assoc] at this
theorem Way.back {es : List TEdge} (hs : ∀ e ∈ es, (e.2.1, e.1, e.2.2) ∈ es) {a b c : Int} (h : Way es a b c) : Way es b a c := by
  induction h with
  | nil => exact .nil
  | @snoc b' c' f _ hf hb ih =>
    subst hb
    have := Way.cons (e := (f.2.1, f.1, f.2.2)) (hs f hf) ih
    rwa [Int.add_comm] at this
theorem far_sym {n : Int} {es : List TEdge} (hg : graphOk n es) (hs : ∀ e ∈ es, (e.2.1, e.1, e.2.2) ∈ es) {a b : Int} (ha : 0 ≤ a ∧ a < n) (hb : 0 ≤ b ∧ b < n) : far n es a b = far n es b a := by
  have key : ∀ {a b : Int}, (0 ≤ a ∧ a < n) → (0 ≤ b ∧ b < n) → far n es b a ≤ far n es a b := fun {a b} ha hb => by
    by_cases h : far n es a b < 1000000
    · exact far_le hg hb ((far_way hg ha hb h).back hs)
    · have := (far_in hg b ha.1 ha.2).2
      omega
  have h1 := key ha hb
  have h2 := key hb ha
  omega
end Go.Proofs.YtaippfedjjjpeaaGreat
