/-
Slices that are one's own: reading, storing, appending, two at a time.
-/
import Derived.Test.YtgiogphdnpeddaaGreatAbsT
set_option linter.all false
namespace Go.Abs

theorem Held.new {H : Heap} {o sz : Nat} (h : H o = none) : Held H sz [] (.slice o 0 0 (some 0)) (upd H o ⟨sz, []⟩) := .inr ⟨o, some 0, h, rfl, by simp, rfl⟩
theorem Held.full {H : Heap} {o sz n : Nat} {rows : List (List V)} (h : H o = none) (hn : n = rows.length) : Held H sz rows (.slice o 0 n (some n)) (upd H o ⟨sz, rows⟩) := .inr ⟨o, some n, h, by rw [hn], by simp [hn], rfl⟩
theorem Held.nil {H : Heap} {sz : Nat} : Held H sz [] .nils H := .inl ⟨rfl, rfl, rfl⟩
theorem Held.nn {H0 H : Heap} {sz : Nat} {rows : List (List V)} {v : V} (h : Held H0 sz rows v H) (hr : rows ≠ []) : v ≠ .nils := by
  rcases h with ⟨_, h2, _⟩ | ⟨o, cap, _, rfl, _⟩
  · exact absurd h2 hr
  · simp
theorem Held.cell {H0 H : Heap} {sz : Nat} {rows : List (List V)} {v : V} (h : Held H0 sz rows v H) : cellsOf v = [v] ∧ cellOk v = true ∧ notAny v = true := by
  rcases h with ⟨rfl, _⟩ | ⟨o, cap, _, rfl, _⟩ <;> exact ⟨rfl, rfl, rfl⟩
theorem Held.swap {H0 H1 H2 : Heap} {s t : Nat} {xs ys : List (List V)} {u v : V} (h1 : Held H0 s xs u H1) (h2 : Held H1 t ys v H2) : ∃ H1', Held H0 t ys v H1' ∧ Held H1' s xs u H2 := by
  rcases h1 with ⟨rfl, rfl, rfl⟩ | ⟨o, cap, a1, rfl, a2, rfl⟩
  · exact ⟨H2, h2, .inl ⟨rfl, rfl, rfl⟩⟩
  · rcases h2 with ⟨rfl, rfl, rfl⟩ | ⟨p, cap', b1, rfl, b2, rfl⟩
    · exact ⟨H0, .inl ⟨rfl, rfl, rfl⟩, .inr ⟨o, cap, a1, rfl, a2, rfl⟩⟩
    · have hne : p ≠ o := by rintro rfl; simp at b1
      rw [upd_off hne] at b1
      exact ⟨upd H0 p ⟨t, ys⟩, .inr ⟨p, cap', b1, rfl, b2, rfl⟩, .inr ⟨o, cap, by rw [upd_off (Ne.symm hne)]; exact a1, rfl, a2, upd_comm _ _ (Ne.symm hne)⟩⟩
theorem Held.append {H0 H Hb : Heap} {sz by_ : Nat} {rows xs : List (List V)} {v : V} {K : V → Heap → Prop} (h : Held H0 sz rows v H) (hs : Abs.sub H Hb) (hx : xs ≠ []) (hb : (rows.length + xs.length) * by_ ≤ 140737488355328)
    (hk : ∀ v' H' H'', Held H0 sz (rows ++ xs) v' H'' → Abs.sub H'' H' → K v' H') : appendK Hb sz by_ v xs K := by
  have base : Own H0 sz rows v H → appendK Hb sz by_ v xs K := fun ho => ho.append hs hx hb fun v' H' H'' q1 q2 => hk v' H' H'' q1.held q2
  rcases h with h | ⟨o, cap, h1, rfl, hc, rfl⟩
  · exact base (.inl h)
  · cases cap with
    | none => exact base (.inr (.inl ⟨o, h1, rfl, rfl⟩))
    | some k =>
      obtain rfl := hc k rfl
      have ho : Hb o = some ⟨sz, rows⟩ := hs o _ (by simp)
      have hp : 0 < xs.length := List.length_pos_iff.2 hx
      simp only [appendK, ho]
      refine ⟨trivial, by simp, fun e => absurd e hx, fun _ => ⟨hb, fun hh => absurd hh (by omega), fun _ o' ho' => ?_⟩⟩
      have h0' : H0 o' = none := sub_none (fun i x hi => hs i x (sub_fresh h1 i x hi)) ho'
      refine hk _ _ (upd H0 o' ⟨sz, rows ++ xs⟩) (.inr ⟨o', none, h0', by simp, by simp, rfl⟩) ?_
      simp only [List.drop_zero, List.take_length]
      exact sub_upd2 (sub_trans (sub_fresh h1) hs)

/-- A place in one's own slice. -/
def OwnPt (H0 : Heap) (sz : Nat) (rows : List (List V)) (u : V) (Hb : Heap) (p : V) (i c : Nat) : Prop :=
  ∃ o cap, u = .slice o 0 rows.length cap ∧ H0 o = none ∧ (∀ k, cap = some k → k = rows.length) ∧ Hb o = some ⟨sz, rows⟩ ∧ Abs.sub H0 Hb ∧ p = .ptr o i c ∧ i < rows.length
theorem Held.pt {H0 H Hb : Heap} {sz : Nat} {rows : List (List V)} {u : V} {k : IntKind} {i : Int} {K : V → Prop} (h : Held H0 sz rows u H) (hs : Abs.sub H Hb) (h0 : 0 ≤ i) (hi : i < rows.length)
    (hk : ∀ p, OwnPt H0 sz rows u Hb p i.toNat 0 → K p) : bnd (aIndex Hb sz u (.int k i)) K := by
  rcases h with ⟨rfl, rfl, rfl⟩ | ⟨o, cap, h1, rfl, hc, rfl⟩
  · simp at hi; omega
  · have ho := hs _ _ (upd_eq _ _ _)
    rw [aIndex_own ho rfl h0 hi]
    refine hk _ ⟨o, cap, rfl, h1, hc, ho, sub_trans (sub_fresh h1) hs, by simp, by omega⟩
theorem OwnPt.fld {H0 Hb : Heap} {sz : Nat} {rows : List (List V)} {u p : V} {i c off : Nat} {K : V → Prop} (h : OwnPt H0 sz rows u Hb p i c) (hk : ∀ q, OwnPt H0 sz rows u Hb q i (c + off) → K q) : bnd (aField off p) K := by
  obtain ⟨o, cap, h1, h2, h3, h4, h5, rfl, h7⟩ := h
  exact hk _ ⟨o, cap, h1, h2, h3, h4, h5, rfl, h7⟩
theorem OwnPt.ld {H0 Hb : Heap} {sz : Nat} {rows : List (List V)} {u p : V} {i c : Nat} (h : OwnPt H0 sz rows u Hb p i c) (b : Bool) (m : Nat) : aLd b m Hb p = partOf b m (rows.getD i []) c := by
  obtain ⟨o, cap, h1, h2, h3, h4, h5, rfl, h7⟩ := h
  simp [aLd, rowAt, h4, h7]
theorem OwnPt.st {H0 Hb : Heap} {sz m : Nat} {rows : List (List V)} {u p v : V} {i c : Nat} {K : Heap → Prop} (h : OwnPt H0 sz rows u Hb p i c) {row' : List V} (hz : stz m (rows.getD i []) c v = some row')
    (hk : ∀ H' H'', Held H0 sz (rows.set i row') u H'' → Abs.sub H'' H' → K H') : bnd (aSt m Hb p v) K := by
  obtain ⟨o, cap, h1, h2, h3, h4, h5, rfl, h7⟩ := h
  have : rows[i]? = some (rows.getD i []) := by simp [h7]
  rw [aSt_own h4 (by simpa using this) hz]
  refine hk _ (upd H0 o ⟨sz, rows.set i row'⟩) (.inr ⟨o, cap, h2, by simpa using h1, by simpa using h3, rfl⟩) (sub_upd2 h5)

/-- What reads a slice of slices. -/
def Rd2 (H : Heap) (sz : Nat) (v : V) (ts : List (List (List V))) : Prop := ∃ ws : List V, ws.length = ts.length ∧ Rd H 1 v (ws.map fun w => [w]) ∧ ∀ i, i < ts.length → Rd H sz (ws.getD i .any) (ts.getD i [])
theorem Rd2.mono {H H' : Heap} {sz : Nat} {v : V} {ts : List (List (List V))} (h : Rd2 H sz v ts) (hs : Abs.sub H H') : Rd2 H' sz v ts := by
  obtain ⟨ws, h1, h2, h3⟩ := h
  exact ⟨ws, h1, h2.mono hs, fun i hi => (h3 i hi).mono hs⟩
theorem Rd2.len {H : Heap} {sz : Nat} {v : V} {ts : List (List (List V))} (h : Rd2 H sz v ts) : lenOf v = some ts.length := by
  obtain ⟨ws, h1, h2, h3⟩ := h
  rw [h2.len]; simp [h1]
/-- An inner slice of it. -/
theorem Rd2.idx {H : Heap} {sz : Nat} {v : V} {ts : List (List (List V))} {k : IntKind} {i : Int} {K : V → Prop} (h : Rd2 H sz v ts) (h0 : 0 ≤ i) (h1 : i < ts.length) (hk : ∀ p w, (∀ b, aLd b 1 H p = partOf b 1 [w] 0) → Rd H sz w (ts.getD i.toNat []) → K p) :
    bnd (aIndex H 1 v (.int k i)) K := by
  obtain ⟨ws, g1, g2, g3⟩ := h
  refine g2.idx h0 (by simp; omega) fun p hp => hk p (ws.getD i.toNat .any) (fun b => ?_) (g3 _ (by omega))
  rw [hp.ld]
  have : i.toNat < ws.length := by omega
  simp [this]

theorem Rd.cell {H : Heap} {sz : Nat} {v : V} {rows : List (List V)} (h : Rd H sz v rows) : cellsOf v = [v] ∧ cellOk v = true ∧ notAny v = true := by
  rcases h.2 with rfl | ⟨rfl, _⟩ | ⟨o, s, cap, ob, rfl, _⟩ <;> exact ⟨rfl, rfl, rfl⟩

theorem Ret.no {R : V → Heap → Prop} {G : Prop} [Decidable G] {H : Heap} (h : R (.bool (decide G)) H) (hg : ¬ G) : Ret R (.bool false) H := Ret.eq h (by rw [decide_eq_false hg])
theorem Ret.yes {R : V → Heap → Prop} {G : Prop} [Decidable G] {H : Heap} (h : R (.bool (decide G)) H) (hg : G) : Ret R (.bool true) H := Ret.eq h (by rw [decide_eq_true hg])
theorem Ret.iff {R : V → Heap → Prop} {G G' : Prop} [Decidable G] [Decidable G'] {H : Heap} (h : R (.bool (decide G)) H) (hg : G' ↔ G) : Ret R (.bool (decide G')) H := Ret.eq h (by rw [decide_eq_decide.2 hg])

theorem Held.shrink {H Ha H' : Heap} {sz : Nat} {rows : List (List V)} {u : V} (h : Held Ha sz rows u H') (hs : Abs.sub H Ha) : ∃ H'', Held H sz rows u H'' ∧ Abs.sub H'' H' := by
  rcases h with ⟨rfl, rfl, rfl⟩ | ⟨o, cap, h1, rfl, h2, rfl⟩
  · exact ⟨H, .inl ⟨rfl, rfl, rfl⟩, hs⟩
  · exact ⟨upd H o ⟨sz, rows⟩, .inr ⟨o, cap, sub_none hs h1, rfl, h2, rfl⟩, sub_upd2 hs⟩
/-- What one's own slice is, handed back over what stood before. -/
theorem Ret.held {R : V → Heap → Prop} {H Ha H' : Heap} {sz : Nat} {rows : List (List V)} {u : V} (h : Held Ha sz rows u H') (hs : Abs.sub H Ha) (hk : ∀ u' H'', Held H sz rows u' H'' → R u' H'') : Ret R u H' := by
  obtain ⟨H'', h1, h2⟩ := h.shrink hs
  exact Ret.shr (hk _ _ h1) rfl h2

theorem aMins_two (k : IntKind) (a b : Int) : aMins false (.int k a) [.int k b] = some (.int k (min a b)) := by
  simp only [aMins, aMin2]
  by_cases h : b < a
  · simp [h]; omega
  · simp [h]; omega
theorem aMaxs_two (k : IntKind) (a b : Int) : aMins true (.int k a) [.int k b] = some (.int k (max a b)) := by
  simp only [aMins, aMin2]
  by_cases h : b > a
  · simp [h]; omega
  · simp [h]; omega

/-- What reads a slice that may be cut. -/
def Sl (H : Heap) (sz : Nat) (v : V) (rows : List (List V)) : Prop := Rd H sz v rows ∧ (∀ r, v ≠ .ro r) ∧ ∀ o s n c, v = .slice o s n (some c) → n ≤ c
theorem Sl.of {H : Heap} {sz o n : Nat} {rows : List (List V)} (h : Rd H sz (.slice o 0 n (some n)) rows) : Sl H sz (.slice o 0 n (some n)) rows := ⟨h, by simp, fun o s n c e => by cases e; omega⟩
theorem Sl.mono {H H' : Heap} {sz : Nat} {v : V} {rows : List (List V)} (h : Sl H sz v rows) (hs : Abs.sub H H') : Sl H' sz v rows := ⟨h.1.mono hs, h.2⟩
theorem Held.sl {H0 H : Heap} {sz : Nat} {rows : List (List V)} {v : V} (h : Held H0 sz rows v H) (hr : ∀ r ∈ rows, r.length = sz) : Sl H sz v rows := by
  refine ⟨h.rd hr, ?_, ?_⟩
  · rcases h with ⟨rfl, _⟩ | ⟨o, cap, _, rfl, _⟩ <;> simp
  · rintro o s n c rfl
    rcases h with ⟨h, _⟩ | ⟨o', cap, _, h, hc, _⟩
    · cases h
    · cases h
      have := hc c rfl
      omega
theorem Sl.upto {H : Heap} {sz : Nat} {v : V} {rows : List (List V)} {k : IntKind} {i : Nat} (h : Sl H sz v rows) (hi : i ≤ rows.length) : ∃ w, aSlice H sz v none (some (.int k (i : Nat))) none = some w ∧ Sl H sz w (rows.take i) := by
  obtain ⟨⟨h0, h1⟩, h2, h3⟩ := h
  rcases h1 with rfl | ⟨rfl, rfl⟩ | ⟨o, s, cap, ob, rfl, g2, g3, g4, g5⟩
  · exact absurd rfl (h2 rows)
  · simp at hi
    subst hi
    exact ⟨.nils, by simp [aSlice, bound, natOf], ⟨by simp, .inr (.inl ⟨rfl, by simp⟩)⟩, by simp, by simp⟩
  · have hw : ∀ r ∈ rows.take i, r.length = sz := fun r hr => h0 r (List.mem_of_mem_take hr)
    have hn : (rows.take i).length = i := by simp; omega
    have rd : ∀ c, Rd H sz (.slice o s i c) (rows.take i) := fun c => ⟨hw, .inr (.inr ⟨o, s, c, ob, by rw [hn], g2, g3, by rw [hn]; omega, fun j hj => by
      rw [hn] at hj
      rw [g5 j (by omega), List.getElem?_take, if_pos hj]⟩)⟩
    cases cap with
    | none => exact ⟨.slice o s i none, by simp [aSlice, g2, g3, bound, natOf, hi], rd _, by simp, by simp⟩
    | some c =>
      have := h3 o s rows.length c rfl
      exact ⟨.slice o s i (some c), by simp [aSlice, g2, g3, bound, natOf]; omega, rd _, by simp, fun o s n c e => by cases e; omega⟩

/-- One's own slice, seen from a greater heap. -/
theorem Held.rise {H0 H Hb : Heap} {sz : Nat} {rows : List (List V)} {v : V} (h : Held H0 sz rows v H) (hs : Abs.sub H Hb) : ∃ H0', Abs.sub H0 H0' ∧ Held H0' sz rows v Hb := by
  rcases h with ⟨rfl, rfl, rfl⟩ | ⟨o, cap, h1, rfl, h2, rfl⟩
  · exact ⟨Hb, hs, .inl ⟨rfl, rfl, rfl⟩⟩
  · have ho := hs _ _ (upd_eq _ _ _)
    refine ⟨del Hb o, fun i x hi => ?_, .inr ⟨o, cap, by simp [del], rfl, h2, ?_⟩⟩
    · have hne : i ≠ o := by rintro rfl; rw [h1] at hi; cases hi
      simp only [del, if_neg hne]
      exact hs _ _ (sub_fresh h1 _ _ hi)
    · funext i
      by_cases e : i = o
      · subst e; rw [upd_eq]; exact ho
      · rw [upd_off e]; simp [del, e]

end Go.Abs
