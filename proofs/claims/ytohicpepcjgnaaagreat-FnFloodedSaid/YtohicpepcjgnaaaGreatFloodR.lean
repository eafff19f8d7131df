/-
Plain laws: what is known spreads; links, losses, settling, agreement.
-/
import Derived.Test.YtohicpepcjgnaaaGreatFloodQ
set_option linter.all false
namespace Go.Proofs.YtohicpepcjgnaaaGreat
open Go Go.Abs Go.Proofs

theorem tell_fl {a : TNet} {x y : Int} (h : Fl a) (hx : nodesIn a.up.n x) (hy : nodesIn a.up.n y) (hne : x ≠ y) : Fl (tellN a x y) := by
  obtain ⟨m1, _⟩ := More.tell (a := a) (x := x) (y := y)
  refine h.more m1 fun m ⟨q1, q2, q3⟩ => ?_
  obtain ⟨k1, k2⟩ := dbOk_at h.ok hx
  obtain ⟨p, q, l⟩ := m
  simp only at q1 q2 q3
  subst q1; subst q2
  exact ⟨⟨hx, hy, hne, mem_okL k1 q3⟩, h.dy _ _ q3, l, q3, geO_refl l⟩
theorem tell_cov {S : Int → Int → Prop} {a : TNet} {x y : Int} (h : Fl a) (hc : Cov S a) : Cov (fun p q => S p q ∨ (p = x ∧ q = y)) (tellN a x y) := by
  obtain ⟨m1, m2⟩ := More.tell (a := a) (x := x) (y := y)
  intro hb e he hs l hl
  rcases hs with hs | hs
  · exact hc.more h.lost m1 hb e he hs l hl
  · have hl' : l ∈ db a x := by unfold db at hl ⊢; rw [m1.dbs, hs.1] at hl; exact hl
    exact .inr ⟨_, m2 h.lost hb l hl', hs.1.symm, hs.2.symm, geO_refl l⟩
theorem sync_fl {a : TNet} (h : Fl a) : Fl (syncN a.up.es a) ∧ Cov allS (syncN a.up.es a) := by
  obtain ⟨m1, m2⟩ := More.sync (es := a.up.es) (a := a)
  refine ⟨h.more m1 ?_, fun hb e he _ l hl => ?_⟩
  · rintro ⟨p, q, l⟩ ⟨e, he, q1, q2, q3⟩
    simp only at q1 q2 q3
    subst q1; subst q2
    obtain ⟨n1, n2, n3⟩ := h.nodes e he
    obtain ⟨k1, k2⟩ := dbOk_at h.ok n1
    exact ⟨⟨n1, n2, n3, mem_okL k1 q3⟩, h.dy _ _ q3, l, q3, geO_refl l⟩
  · rw [m1.up] at he
    have hl' : l ∈ db a e.1 := by unfold db at hl ⊢; rw [m1.dbs] at hl; exact hl
    exact .inr ⟨_, m2 h.lost hb e he l hl', rfl, rfl, geO_refl l⟩
/-! #### links -/
def butS (x y : Int) (p q : Int) : Prop := ¬ (p = x ∧ q = y) ∧ ¬ (p = y ∧ q = x)
theorem at_fl {a : TNet} {x y c : Int} (h : Fl a) (hx : nodesIn a.up.n x) (hy : nodesIn a.up.n y) (hne : x ≠ y) (hc : 0 ≤ c ∧ c ≤ 1000) : Fl (atN a x y c) ∧ (Cov allS a → Cov (butS x y) (atN a x y c)) := by
  refine ⟨⟨netOk_at h.ok hx hy hne hc, h.dy, h.wy, h.src⟩, fun hcov hb e he hs => hcov hb e ?_ trivial⟩
  have he : e ∈ linked x y c a.up.es := he
  unfold linked at he
  split at he
  · exact (mem_drop.1 (mem_drop.1 he).1).1
  · rcases mem_put.1 he with rfl | ⟨he, _⟩
    · exact absurd ⟨rfl, rfl⟩ hs.2
    · rcases mem_put.1 he with rfl | ⟨he, _⟩
      · exact absurd ⟨rfl, rfl⟩ hs.1
      · exact he
theorem cut_not {x y : Int} {es : List TEdge} : ∀ e ∈ linked x y 0 es, butS x y e.1 e.2.1 := fun e he => by
  unfold linked at he
  rw [if_pos rfl] at he
  have h1 := mem_drop.1 he
  have h2 := mem_drop.1 h1.1
  exact ⟨h2.2, h1.2⟩
theorem setN_fl {a : TNet} {x y c : Int} (h : Fl a) (hx : nodesIn a.up.n x) (hy : nodesIn a.up.n y) (hne : x ≠ y) (hc : 0 ≤ c ∧ c ≤ 1000) (hs : setOk a x y c) : Fl (setN a x y c) ∧ (Cov allS a → Cov allS (setN a x y c)) := by
  obtain ⟨f1, g1⟩ := at_fl h hx hy hne hc
  obtain ⟨f2, g2⟩ := ann_fl (S := butS x y) f1 hx hs.1
  have u2 := up_announce (atN a x y c) x
  obtain ⟨f3, g3⟩ := ann_fl (S := butS x y) f2 (by rw [u2]; exact hy) hs.2
  have u3 := up_announce (announceN (atN a x y c) x) y
  have hg : Cov allS a → Cov (butS x y) (announceN (announceN (atN a x y c) x) y) := fun q => g3 (g2 (g1 q))
  unfold setN telledN
  split
  · rename_i hp
    have n3 : (announceN (announceN (atN a x y c) x) y).up.n = a.up.n := by rw [u3, u2]; rfl
    have t1 := tell_fl f3 (x := x) (y := y) (by rw [n3]; exact hx) (by rw [n3]; exact hy) hne
    have m1 := (More.tell (a := announceN (announceN (atN a x y c) x) y) (x := x) (y := y)).1
    have t2 := tell_fl t1 (x := y) (y := x) (by rw [m1.up, n3]; exact hy) (by rw [m1.up, n3]; exact hx) hne.symm
    refine ⟨t2, fun q => ?_⟩
    have c2 := tell_cov (x := y) (y := x) t1 (tell_cov (x := x) (y := y) f3 (hg q))
    intro hb e he _
    refine c2 hb e he ?_
    unfold butS
    by_cases e1 : e.1 = x ∧ e.2.1 = y
    · exact .inl (.inr e1)
    · by_cases e2 : e.1 = y ∧ e.2.1 = x
      · exact .inr e2
      · exact .inl (.inl ⟨e1, e2⟩)
  · rename_i hp
    have c0 : c = 0 := by omega
    refine ⟨f3, fun q hb e he _ => hg q hb e he ?_⟩
    rw [u3, u2] at he
    subst c0
    exact cut_not e he
theorem setR_fl {a : TNet} {p q c : Int} (h : Fl a) : Fl (setR a p q c).1 ∧ (Cov allS a → Cov allS (setR a p q c).1) := by
  unfold setR
  split
  · rename_i hh
    obtain ⟨m1, m2, m3⟩ := good_mm hh.1
    exact setN_fl h m1 m2 m3 hh.1.2.2.2.2.1 hh.2
  · exact ⟨h, id⟩
theorem annR_fl {a : TNet} {x : Int} (h : Fl a) : Fl (announceR a x).1 ∧ (Cov allS a → Cov allS (announceR a x).1) := by
  unfold announceR
  split
  · rename_i hh
    exact ann_fl h hh.2.1 hh.2.2
  · exact ⟨h, id⟩
theorem delR_fl {a : TNet} {k : Int} (h : Fl a) : Fl (deliverR a k).1 ∧ (Cov allS a → Cov allS (deliverR a k).1) := by
  unfold deliverR
  split
  · exact del_fl h
  · exact ⟨h, id⟩
theorem loseR_fl {a : TNet} {k : Int} (h : Fl a) : Fl (loseR a k).1 := by
  unfold loseR
  split
  · exact off_fl h
  · exact h
theorem douR_fl {a : TNet} {k : Int} (h : Fl a) : Fl (doubleR a k).1 ∧ (Cov allS a → Cov allS (doubleR a k).1) := by
  unfold doubleR
  split
  · cases hk : a.wires[k.toNat]? with
    | none => exact ⟨h, id⟩
    | some m =>
      simp only
      have hmem := List.mem_of_getElem? hk
      obtain ⟨m1, _⟩ := More.send (a := a) (x := m.1) (y := m.2.1) (l := m.2.2)
      refine ⟨h.more m1 ?_, fun hc => hc.more h.lost m1⟩
      rintro w rfl
      obtain ⟨i, hi, he⟩ := List.mem_iff_getElem.1 hmem
      have := h.ok.2.2.2.2.2.2.2 i hi
      rw [he] at this
      exact ⟨this, h.wy m hmem, h.src m hmem⟩
  · exact ⟨h, id⟩
theorem new_fl {n : Int} (hn : 1 ≤ n ∧ n ≤ 6) : Fl (newR n).1 ∧ Cov allS (newR n).1 := by
  unfold newR
  rw [if_pos hn]
  have hdb : ∀ x, db (⟨⟨n, []⟩, List.replicate n.toNat [], [], 0⟩ : TNet) x = [] := fun x => by
    unfold db
    simp only
    rw [List.getD_eq_getElem?_getD, List.getElem?_replicate]
    split <;> rfl
  refine ⟨⟨?_, fun x => by rw [hdb]; intro l hl; simp at hl, fun m hm => by simp at hm, fun m hm => by simp at hm⟩, fun _ e he => by simp at he⟩
  refine ⟨⟨by simp only; omega, by simp, fun i hi => by simp at hi⟩, by simp only; omega, fun i hi => by simp at hi, by simp only [List.length_replicate]; omega, by simp, by simp, fun i hi => ?_, fun i hi => by simp at hi⟩
  simp only [List.getElem_replicate]
  exact ⟨fun j hj => by simp at hj, fun j hj => by simp at hj⟩
/-! #### settling -/
theorem settle_fl : ∀ {f : Nat} {a : TNet}, Fl a → Fl (settleF f a).1 ∧ (Cov allS a → Cov allS (settleF f a).1) ∧ ((settleF f a).2 < f → (settleF f a).1.wires.length = 0)
  | 0, _, h => ⟨h, id, fun q => absurd q (by omega)⟩
  | f + 1, a, h => by
    by_cases hx : a.wires.length = 0
    · rw [settle_stop (.inl hx)]; exact ⟨h, id, fun _ => hx⟩
    · rw [settle_step hx]
      obtain ⟨d1, d2⟩ := del_fl (k := 0) h
      obtain ⟨i1, i2, i3⟩ := settle_fl (f := f) d1
      exact ⟨i1, fun q => i2 (d2 q), fun q => i3 (by simp only at q; omega)⟩
/-! #### agreement -/
def Le (a : TNet) (x y : Int) : Prop := ∀ l ∈ db a x, ∃ r ∈ db a y, geO r l
theorem Le.refl (a : TNet) (x : Int) : Le a x x := fun l hl => ⟨l, hl, geO_refl l⟩
theorem Le.trans {a : TNet} {x y z : Int} (h : Le a x y) (k : Le a y z) : Le a x z := fun l hl => by
  obtain ⟨r, r1, r2⟩ := h l hl
  obtain ⟨s, s1, s2⟩ := k r r1
  exact ⟨s, s1, geO_trans s2 r2⟩
theorem le_keys {a : TNet} {x y : Int} (hx : dbOk (db a x)) (hy : dbOk (db a y)) (h : Le a x y) (k : Le a y x) : dbSum (db a x) = dbSum (db a y) ∧ (db a x).length = (db a y).length := by
  refine sum_keys (keys_eq hx hy fun o => ?_)
  have one : ∀ {u v : Int}, dbOk (db a u) → dbOk (db a v) → Le a u v → Le a v u → ∀ l, lookL (db a u) o = some l → ∃ r, lookL (db a v) o = some r ∧ keyL r = keyL l := fun {u v} hu hv h1 h2 l hl => by
    obtain ⟨l1, l2⟩ := lookL_org hl
    obtain ⟨r, r1, r2⟩ := h1 l l1
    obtain ⟨s, s1, s2⟩ := h2 r r1
    have hs := (lookL_iff hu).2 ⟨s1, show s.origin = o by rw [s2.1, r2.1, l2]⟩
    rw [hl] at hs
    obtain rfl : l = s := by simpa using hs
    refine ⟨r, (lookL_iff hv).2 ⟨r1, by rw [r2.1, l2]⟩, ?_⟩
    unfold keyL
    have e1 := r2.1
    have : lsaSum r = lsaSum l := by
      have q1 := r2.2
      have q2 := s2.2
      unfold ge at q1 q2
      omega
    rw [e1, this]
  cases hl : lookL (db a x) o with
  | none =>
    cases hr : lookL (db a y) o with
    | none => rfl
    | some r =>
      obtain ⟨l, q, _⟩ := one hy hx k h r hr
      rw [hl] at q; cases q
  | some l =>
    obtain ⟨r, q1, q2⟩ := one hx hy h k l hl
    rw [q1]
    simp [q2]
theorem way_both {a : TNet} (h : ∀ e ∈ a.up.es, Le a e.1 e.2.1 ∧ Le a e.2.1 e.1) {x : Int} : ∀ {y m : Int}, Way a.up.es x y m → Le a x y ∧ Le a y x := by
  intro y m hw
  induction hw with
  | nil => exact ⟨Le.refl a _, Le.refl a _⟩
  | snoc _ he hx ih =>
    obtain ⟨h1, h2⟩ := h _ he
    rw [hx] at h1 h2
    exact ⟨ih.1.trans h1, h2.trans ih.2⟩
theorem agree_fl {a : TNet} (h : Fl a) (hc : Cov allS a) (hl : a.lost ≤ 0) (hw : a.wires.length = 0) : agreeR a := by
  have hw0 : a.wires = [] := List.eq_nil_of_length_eq_zero hw
  have one : ∀ e ∈ a.up.es, Le a e.1 e.2.1 := fun e he l hl' => by
    rcases hc hl e he trivial l hl' with q | ⟨m, q, _⟩
    · exact q
    · rw [hw0] at q; simp at q
  have both : ∀ e ∈ a.up.es, Le a e.1 e.2.1 ∧ Le a e.2.1 e.1 := fun e he => ⟨one e he, one _ (pairs_back h.ok.1 h.ok.2.2.1 e he)⟩
  have hn := h.ok.2.2.2.1
  refine ⟨h.ok, fun i hi j hj hf => ?_⟩
  have hi' : nodesIn a.up.n (i : Nat) := ⟨by omega, by omega⟩
  have hj' : nodesIn a.up.n (j : Nat) := ⟨by omega, by omega⟩
  obtain ⟨w1, w2⟩ := way_both both (far_way h.ok.1 hi' hj' hf)
  exact le_keys (dbOk_at h.ok hi').1 (dbOk_at h.ok hj').1 w1 w2

end Go.Proofs.YtohicpepcjgnaaaGreat
