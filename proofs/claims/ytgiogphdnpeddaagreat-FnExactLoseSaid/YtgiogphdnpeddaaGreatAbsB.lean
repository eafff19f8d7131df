/-
The abstract layer, part B: new blocks, stores, and the state of a frame.
-/
import Derived.Test.YtgiogphdnpeddaaGreatAbsA
import Derived.Laws.CopyOwn
set_option linter.all false
namespace Go.Abs
open Go.RowKit (Below)

theorem upd_same (H : Heap) (o : Nat) (x : Ob) : upd H o x o = some x := by simp [upd]
theorem upd_ne (H : Heap) {o i : Nat} (x : Ob) (h : i ≠ o) : upd H o x i = H i := by simp [upd, h]
theorem upd_other {H : Heap} {o i : Nat} {x y : Ob} (hf : H o = none) (h : H i = some y) : upd H o x i = some y := by
  rw [upd_ne]; exact h; rintro rfl; rw [hf] at h; cases h
theorem upd_upd (H : Heap) (o : Nat) (x y : Ob) : upd (upd H o x) o y = upd H o y := by
  funext i; unfold upd; split <;> rfl
theorem sub_refl (H : Heap) : sub H H := fun _ _ h => h
theorem sub_trans {A B C : Heap} (h : sub A B) (k : sub B C) : sub A C := fun o x e => k o x (h o x e)
theorem sub_upd {H : Heap} {o : Nat} (x : Ob) (hf : H o = none) : sub H (upd H o x) := fun _ _ h => upd_other hf h

def updP (ι : Nat → Option Place) (o : Nat) (p : Place) : Nat → Option Place := fun i => if i = o then some p else ι i
theorem ile_updP {ι : Nat → Option Place} {o : Nat} (p : Place) (h : ι o = none) : ile ι (updP ι o p) := fun i q e => by
  unfold updP; split
  · subst i; rw [h] at e; cases e
  · exact e

theorem block_alloc_new (w : World) (o : Obj) : (w.alloc o).heap[w.heap.size]? = some o := by
  show (w.heap.push o)[w.heap.size]? = _
  rw [Array.getElem?_push, if_pos rfl]
theorem block_alloc_old {w : World} {o x : Obj} {k : Nat} (h : w.heap[k]? = some x) : (w.alloc o).heap[k]? = some x := by
  have hk : k < w.heap.size := (Array.getElem?_eq_some_iff.1 h).1
  show (w.heap.push o)[k]? = _
  rw [Array.getElem?_push, if_neg (by omega)]; exact h
theorem block_lt {w : World} {x : Obj} {k : Nat} (h : w.heap[k]? = some x) : k < w.heap.size := (Array.getElem?_eq_some_iff.1 h).1

section
variable {w0 : World} {base : Nat}

/-- A row of cells in a block, against abstract rows. -/
def RowsRel (w0 : World) (base : Nat) (ι : Nat → Option Place) (ob : Ob) (cells : Array Value) : Prop :=
  ob.rows.length * ob.w ≤ cells.size ∧ (∀ r row, ob.rows[r]? = some row → row.length = ob.w ∧ ∀ c v, row[c]? = some v → ∃ cv, cells[r * ob.w + c]? = some cv ∧ CellRel w0 base ι v cv) ∧ ∀ (k : Nat) cv, cells[k]? = some cv → cv.oneCell' = true

theorem RowsRel.mono {ι ι' : Nat → Option Place} (hi : ile ι ι') {ob : Ob} {cells : Array Value} (h : RowsRel w0 base ι ob cells) : RowsRel w0 base ι' ob cells :=
  ⟨h.1, fun r row hr => ⟨(h.2.1 r row hr).1, fun c v hc => let ⟨cv, h1, h2⟩ := (h.2.1 r row hr).2 c v hc; ⟨cv, h1, h2.mono hi⟩⟩, h.2.2⟩

theorem RelH.get {ι : Nat → Option Place} {G : Heap} {w : World} (h : RelH w0 base ι G w) {o : Nat} {ob : Ob} (ho : G o = some ob) :
    ∃ p cells ty, ι o = some p ∧ p.w = ob.w ∧ base ≤ p.blk ∧ w.heap[p.blk]? = some (.cells cells ty (0, 0)) ∧ cells.size = p.size ∧ RowsRel w0 base ι ob cells := by
  obtain ⟨p, cells, ty, h1, h2, h3, h4, h5, h6, h7⟩ := h.obj o ob ho
  exact ⟨p, cells, ty, h1, h2, h3, h4, h5, by rw [h5]; exact h6, h7⟩

theorem RelH.alloc {ι : Nat → Option Place} {G : Heap} {w : World} (h : RelH w0 base ι G w) {o : Nat} (ho : ι o = none) (hG : G o = none) {ob : Ob} {cells : Array Value} (ty : TypeId)
    (hr : RowsRel w0 base ι ob cells) : RelH w0 base (updP ι o ⟨w.heap.size, ob.w, cells.size⟩) (upd G o ob) (w.alloc (.cells cells ty)) := by
  have hi := ile_updP ⟨w.heap.size, ob.w, cells.size⟩ ho
  refine ⟨fun i x hx => ?_, fun o1 o2 b1 b2 p1 p2 g1 g2 e1 e2 he => ?_, h.low.alloc h.base_le _, by have := h.base_le; simp; omega, ?_⟩
  · by_cases hio : i = o
    · subst hio
      rw [upd_same] at hx; cases hx
      have hr' := hr.mono hi
      exact ⟨⟨w.heap.size, ob.w, cells.size⟩, cells, ty, by simp [updP], rfl, h.base_le, block_alloc_new _ _, rfl, hr'.1, hr'.2⟩
    · rw [upd_ne _ _ hio] at hx
      obtain ⟨p, cs, t, h1, h2, h3, h4, h5, h6⟩ := h.get hx
      have h6' := h6.mono hi
      exact ⟨p, cs, t, hi _ _ h1, h2, h3, block_alloc_old h4, h5, by rw [← h5]; exact h6'.1, h6'.2⟩
  · have key : ∀ i b p, i ≠ o → upd G o ob i = some b → updP ι o ⟨w.heap.size, ob.w, cells.size⟩ i = some p → G i = some b ∧ ι i = some p ∧ p.blk < w.heap.size := by
      intro i b p hne hg hp
      rw [upd_ne _ _ hne] at hg
      simp only [updP, hne, if_false] at hp
      obtain ⟨q, cs, t, h1, _, _, h4, _⟩ := h.get hg
      rw [h1] at hp; cases hp
      exact ⟨hg, h1, block_lt h4⟩
    by_cases ho1 : o1 = o <;> by_cases ho2 : o2 = o
    · rw [ho1, ho2]
    · obtain ⟨_, _, hlt⟩ := key o2 b2 p2 ho2 g2 e2
      subst ho1; simp [updP] at e1; subst e1; simp at he; omega
    · obtain ⟨_, _, hlt⟩ := key o1 b1 p1 ho1 g1 e1
      subst ho2; simp [updP] at e2; subst e2; simp at he; omega
    · obtain ⟨a1, a2, _⟩ := key o1 b1 p1 ho1 g1 e1
      obtain ⟨c1, c2, _⟩ := key o2 b2 p2 ho2 g2 e2
      exact h.inj o1 o2 b1 b2 p1 p2 a1 c1 a2 c2 he
  · obtain ⟨N, hN⟩ := h.fin
    refine ⟨max N (o + 1), fun i hi => ?_⟩
    have := hN i (by omega)
    have hne : i ≠ o := by omega
    simp [updP, upd, hne, this.1, this.2]

/-- Writing the cells of one object, under its old or a new name. -/
theorem RelH.write {ι : Nat → Option Place} {G : Heap} {w : World} (h : RelH w0 base ι G w) {o o' : Nat} {ob ob' : Ob} {p : Place} {cells cells' : Array Value} {ty : TypeId}
    (hG : G o = some ob) (hp : ι o = some p) (hcell : w.heap[p.blk]? = some (.cells cells ty (0, 0))) (hsz : cells'.size = cells.size) (hw : ob'.w = ob.w)
    (hnew : o' = o ∨ (ι o' = none ∧ G o' = none)) (hr : RowsRel w0 base ι ob' cells') :
    RelH w0 base (updP ι o' p) (upd (del G o) o' ob') (w.setRow p.blk cells') ∧ ile ι (updP ι o' p) := by
  obtain ⟨p0, cells0, ty0, h1, h2, h3, h4, h5, h6⟩ := h.get hG
  rw [hp] at h1; cases h1
  rw [hcell] at h4; cases h4
  have hi : ile ι (updP ι o' p) := by
    rcases hnew with rfl | ⟨hn, _⟩
    · intro i q e; unfold updP; split
      · subst i; rw [hp] at e; exact e
      · exact e
    · exact ile_updP _ hn
  refine ⟨⟨fun i x hx => ?_, fun o1 o2 b1 b2 p1 p2 g1 g2 e1 e2 he => ?_, below_setRow h.low h3 _, by simpa using h.base_le, ?_⟩, hi⟩
  · by_cases hio : i = o'
    · subst hio
      rw [upd_same] at hx; cases hx
      have hr' := hr.mono hi
      exact ⟨p, cells', ty, by simp [updP], by rw [h2, hw], h3, setRow_heap _ _ _ _ _ _ hcell, by rw [hsz, h5], by rw [← h5, ← hsz]; exact hr'.1, hr'.2⟩
    · rw [upd_ne _ _ hio] at hx
      have hio2 : i ≠ o := by rintro rfl; simp [del] at hx
      have hx' : G i = some x := by simpa [del, hio2] using hx
      obtain ⟨q, cs, t, q1, q2, q3, q4, q5, q6⟩ := h.get hx'
      have hb : q.blk ≠ p.blk := fun e => hio2 (h.inj i o x ob q p hx' hG q1 hp e)
      have q6' := q6.mono hi
      exact ⟨q, cs, t, hi _ _ q1, q2, q3, by rw [setRow_other _ _ _ _ hb]; exact q4, q5, by rw [← q5]; exact q6'.1, q6'.2⟩
  · have key : ∀ i b q, i ≠ o' → upd (del G o) o' ob' i = some b → updP ι o' p i = some q → i ≠ o ∧ G i = some b ∧ ι i = some q := by
      intro i b q hne hg hq
      rw [upd_ne _ _ hne] at hg
      simp only [updP, hne, if_false] at hq
      have hio2 : i ≠ o := by rintro rfl; simp [del] at hg
      exact ⟨hio2, by simpa [del, hio2] using hg, hq⟩
    by_cases ho1 : o1 = o' <;> by_cases ho2 : o2 = o'
    · rw [ho1, ho2]
    · obtain ⟨hne, a1, a2⟩ := key o2 b2 p2 ho2 g2 e2
      subst ho1; simp [updP] at e1; subst e1
      exact absurd (h.inj o2 o b2 ob p2 p a1 hG a2 hp he.symm) hne
    · obtain ⟨hne, a1, a2⟩ := key o1 b1 p1 ho1 g1 e1
      subst ho2; simp [updP] at e2; subst e2
      exact absurd (h.inj o1 o b1 ob p1 p a1 hG a2 hp he) hne
    · obtain ⟨_, a1, a2⟩ := key o1 b1 p1 ho1 g1 e1
      obtain ⟨_, c1, c2⟩ := key o2 b2 p2 ho2 g2 e2
      exact h.inj o1 o2 b1 b2 p1 p2 a1 c1 a2 c2 he
  · obtain ⟨N, hN⟩ := h.fin
    refine ⟨max N (o' + 1), fun i hi => ?_⟩
    have := hN i (by omega)
    have hne : i ≠ o' := by omega
    simp [updP, upd, hne, this.1, this.2, del]

theorem updP_same {ι : Nat → Option Place} {o : Nat} {p : Place} (h : ι o = some p) : updP ι o p = ι := by
  funext i; unfold updP; split
  · subst i; exact h.symm
  · rfl
theorem upd_del (G : Heap) (o : Nat) (x : Ob) : upd (del G o) o x = upd G o x := by
  funext i; unfold upd del; split <;> rfl

/-- Writing in place. -/
theorem RelH.set {ι : Nat → Option Place} {G : Heap} {w : World} (h : RelH w0 base ι G w) {o : Nat} {ob ob' : Ob} {p : Place} {cells cells' : Array Value} {ty : TypeId}
    (hG : G o = some ob) (hp : ι o = some p) (hcell : w.heap[p.blk]? = some (.cells cells ty (0, 0))) (hsz : cells'.size = cells.size) (hw : ob'.w = ob.w)
    (hr : RowsRel w0 base ι ob' cells') : RelH w0 base ι (upd G o ob') (w.setRow p.blk cells') := by
  have := (h.write hG hp hcell hsz hw (.inl rfl) hr).1
  rwa [updP_same hp, upd_del] at this

end

/-! ### The frame -/

structure Cfg where
  L : List Nat
  R : List Nat

def Cfg.loc (g : Cfg) (t : Nat) : Bool := g.L.contains t || g.R.contains t

def SlotRel (g : Cfg) (w0 : World) (base : Nat) (ι : Nat → Option Place) (β : Nat → Option Nat) (G : Heap) (s : Nat) (v : V) (cv : Value) : Prop :=
  if g.L.contains s = true then v = .any ∨ ∃ cs id p, v = .box cs ∧ β s = some id ∧ ι id = some p ∧ cv = .pointer (some ⟨p.blk, 0, none⟩) ∧ G id = some ⟨cs.length, [cs]⟩
  else if g.R.contains s = true then v = .any ∨ ∃ s' c id p, v = .lref s' c ∧ g.L.contains s' = true ∧ β s' = some id ∧ ι id = some p ∧ cv = .pointer (some ⟨p.blk, c, none⟩)
  else RelV w0 base ι v cv

/-- The state of a frame: its slots, the heap H that it may use, the heap F that is kept for its callers. -/
structure St (g : Cfg) (w0 : World) (base : Nat) (F : Heap) (ι : Nat → Option Place) (β : Nat → Option Nat) (G : Heap) (env : List V) (H : Heap) (a : Act) (w : World) : Prop where
  heap : RelH w0 base ι G w
  sub : sub H G
  frm : Abs.sub F G
  dis : disj H F
  len : env.length = a.tmps.size
  slot : ∀ (s : Nat) (v : V) (cv : Value), env[s]? = some v → a.tmps[s]? = some cv → SlotRel g w0 base ι β G s v cv
  binj : ∀ s1 s2 i, β s1 = some i → β s2 = some i → s1 = s2
  bout : ∀ s i, β s = some i → H i = none ∧ F i = none
  bin : ∀ s i, β s = some i → ∃ x, G i = some x
  nodef : a.defers = []

section
variable {g : Cfg} {w0 : World} {base : Nat} {F : Heap} {ι : Nat → Option Place} {β : Nat → Option Nat} {G : Heap} {env : List V} {H : Heap} {a : Act} {w : World}

theorem SlotRel.plain {s : Nat} {v : V} {cv : Value} (hs : g.loc s = false) : SlotRel g w0 base ι β G s v cv ↔ RelV w0 base ι v cv := by
  unfold Cfg.loc at hs
  simp only [Bool.or_eq_false_iff] at hs
  unfold SlotRel
  rw [if_neg (by rw [hs.1]; exact Bool.false_ne_true), if_neg (by rw [hs.2]; exact Bool.false_ne_true)]

theorem St.val (h : St g w0 base F ι β G env H a w) {s : Nat} {v : V} (hs : g.loc s = false) (he : env[s]? = some v) : RelV w0 base ι v (a.tmps.getD s undef) := by
  have hlt : s < a.tmps.size := by rw [← h.len]; exact (List.getElem?_eq_some_iff.1 he).1
  have := h.slot s v a.tmps[s] he (by simp [hlt])
  rw [SlotRel.plain hs] at this
  simpa [Array.getD, hlt] using this

theorem St.put (h : St g w0 base F ι β G env H a w) {d : Nat} {v : V} {cv : Value} (hd : SlotRel g w0 base ι β G d v cv) : St g w0 base F ι β G (env.set d v) H (a.put (some d) cv) w := by
  refine ⟨h.heap, h.sub, h.frm, h.dis, by simp [Act.put, h.len], fun s x cx h1 h2 => ?_, h.binj, h.bout, h.bin, h.nodef⟩
  by_cases hsd : d = s
  · subst hsd
    have hlt : d < env.length := by
      have := (List.getElem?_eq_some_iff.1 h1).1; simpa using this
    have hlt2 : d < a.tmps.size := by rw [← h.len]; exact hlt
    simp [hlt] at h1
    simp [Act.put, hlt2] at h2
    subst h1; subst h2; exact hd
  · simp [hsd] at h1
    simp [Act.put, hsd] at h2
    exact h.slot s x cx h1 h2

/-- Forgetting a slot. -/
theorem St.forget (h : St g w0 base F ι β G env H a w) (d : Nat) : St g w0 base F ι β G (env.set d .any) H a w := by
  refine ⟨h.heap, h.sub, h.frm, h.dis, by simp [h.len], fun s x cx h1 h2 => ?_, h.binj, h.bout, h.bin, h.nodef⟩
  by_cases hsd : d = s
  · subst hsd
    have hlt : d < env.length := by
      have := (List.getElem?_eq_some_iff.1 h1).1; simpa using this
    simp [hlt] at h1
    subst h1
    unfold SlotRel; split
    · exact .inl rfl
    · split
      · exact .inl rfl
      · exact .any _
  · simp [hsd] at h1
    exact h.slot s x cx h1 h2

theorem SlotRel.any (s : Nat) (cv : Value) : SlotRel g w0 base ι β G s .any cv := by
  unfold SlotRel; split
  · exact .inl rfl
  · split
    · exact .inl rfl
    · exact .any _

/-- Less of the heap. -/
theorem St.weaken (h : St g w0 base F ι β G env H a w) {H' : Heap} (hs : Abs.sub H' H) : St g w0 base F ι β G env H' a w :=
  ⟨h.heap, sub_trans hs h.sub, h.frm, fun o x hx => h.dis o x (hs o x hx), h.len, h.slot, h.binj, fun s i hi =>
    ⟨by
      cases hx : H' i with
      | none => rfl
      | some x => (have := (h.bout s i hi).1; rw [hs i x hx] at this; cases this), (h.bout s i hi).2⟩, h.bin, h.nodef⟩

end
end Go.Abs
