/-
Plain laws: what is known spreads.
-/
import Derived.Test.YtohicpepcjgnaaaGreatLookP
import Derived.Test.YtohicpepcjgnaaaGreatSetP
import Derived.Test.YtohicpepcjgnaaaGreatAgreeP
import Derived.Test.YtohicpepcjgnaaaGreatSettleC
import Derived.Test.YtohicpepcjgnaaaGreatNtM
import Derived.Test.YtohicpepcjgnaaaGreatDoubleC
import Derived.Test.YtohicpepcjgnaaaGreatNewNetC
set_option linter.all false
namespace Go.Proofs.YtohicpepcjgnaaaGreat
open Go Go.Abs Go.Proofs

/-! #### one record is as new as another -/
def ge (r l : TLsa) : Prop := l.seq < r.seq ∨ (l.seq = r.seq ∧ lsaSum l ≤ lsaSum r)
def geO (r l : TLsa) : Prop := r.origin = l.origin ∧ ge r l
theorem ge_refl (r : TLsa) : ge r r := .inr ⟨rfl, Int.le_refl _⟩
theorem geO_refl (r : TLsa) : geO r r := ⟨rfl, ge_refl r⟩
theorem geO_trans {a b c : TLsa} (h : geO a b) (k : geO b c) : geO a c := by
  unfold geO ge at *; omega
theorem ge_all (r l : TLsa) : ge r l ∨ ge l r := by unfold ge; omega
theorem newer_one {l r : TLsa} (hl : l.age = 0) (hr : r.age = 0) : newerR l r = 1 ↔ ¬ ge r l := by
  unfold newerR ge signI
  by_cases h1 : l.seq = r.seq
  · rw [if_neg (show ¬ l.seq ≠ r.seq by omega)]
    by_cases h2 : lsaSum l = lsaSum r
    · rw [if_neg (show ¬ lsaSum l ≠ lsaSum r by omega), if_pos (by omega)]
      simp; omega
    · rw [if_pos (show lsaSum l ≠ lsaSum r by omega)]
      by_cases h3 : 0 < lsaSum l - lsaSum r
      · rw [if_pos h3]; simp; omega
      · rw [if_neg h3]
        split
        · simp; omega
        · omega
  · rw [if_pos (show l.seq ≠ r.seq by omega)]
    by_cases h3 : 0 < l.seq - r.seq
    · rw [if_pos h3]; simp; omega
    · rw [if_neg h3]
      split
      · simp; omega
      · omega
def young (xs : List TLsa) : Prop := ∀ l ∈ xs, l.age = 0
theorem inst_facts {xs : List TLsa} {l : TLsa} (hd : dbOk xs) (hy : young xs) (hl : lsaOk l) (ha : l.age = 0) :
    (∀ r ∈ (installR xs l).1, r ∈ xs ∨ (r = l ∧ (installR xs l).2 = 0)) ∧ (∀ r ∈ xs, ∃ r' ∈ (installR xs l).1, geO r' r) ∧ (∃ r' ∈ (installR xs l).1, geO r' l) ∧ ((installR xs l).2 = 0 → l ∈ (installR xs l).1) := by
  rw [inst_of hd hl]
  have ho := offer_lookL hd l
  by_cases h : offerR xs l = 0
  · rw [if_pos h]
    refine ⟨fun r hr => ?_, fun r hr => ?_, ⟨l, mem_putL.2 (.inl rfl), geO_refl l⟩, fun _ => mem_putL.2 (.inl rfl)⟩
    · rcases mem_putL.1 hr with q | q
      · exact .inr ⟨q, rfl⟩
      · exact .inl q.1
    · by_cases e : r.origin = l.origin
      · have hk := (lookL_iff hd).2 ⟨hr, e⟩
        rw [hk, h] at ho
        simp only at ho
        have h1 : newerR l r = 1 := by
          by_cases q : newerR l r = 1
          · exact q
          · rw [if_neg q] at ho; split at ho <;> omega
        have := (newer_one ha (hy r hr)).1 h1
        exact ⟨l, mem_putL.2 (.inl rfl), e.symm, (ge_all l r).resolve_right this⟩
      · exact ⟨r, mem_putL.2 (.inr ⟨hr, e⟩), geO_refl r⟩
  · rw [if_neg h]
    refine ⟨fun r hr => .inl hr, fun r hr => ⟨r, hr, geO_refl r⟩, ?_, fun q => absurd q h⟩
    cases hk : lookL xs l.origin with
    | none =>
      rw [hk] at ho
      simp only at ho
      rw [if_neg (by omega)] at ho
      exact absurd ho h
    | some r =>
      have hr := lookL_org hk
      rw [hk] at ho
      simp only at ho
      refine ⟨r, hr.1, hr.2, ?_⟩
      have h1 : ¬ newerR l r = 1 := fun q => by rw [if_pos q] at ho; exact h ho
      rw [newer_one ha (hy r hr.1)] at h1
      exact Classical.byContradiction h1
theorem inst_young {xs : List TLsa} {l : TLsa} (hy : young xs) (ha : l.age = 0) (hd : dbOk xs) (hl : lsaOk l) : young (installR xs l).1 := by
  intro r hr
  rcases (inst_facts hd hy hl ha).1 r hr with q | q
  · exact hy r q
  · rw [q.1]; exact ha

/-! #### messages are added -/
structure More (Q : TMsg → Prop) (a b : TNet) : Prop where
  up : b.up = a.up
  dbs : b.dbs = a.dbs
  lost : 0 ≤ a.lost → 0 ≤ b.lost ∧ (b.lost ≤ 0 → a.lost ≤ 0)
  keep : 0 ≤ a.lost → b.lost ≤ 0 → ∀ m ∈ a.wires, m ∈ b.wires
  new : ∀ m ∈ b.wires, m ∈ a.wires ∨ Q m
  ok : (∀ m, Q m → msgOk a.up.n m) → netOk a → netOk b
theorem More.refl {Q : TMsg → Prop} (a : TNet) : More Q a a := ⟨rfl, rfl, fun h => ⟨h, id⟩, fun _ _ _ h => h, fun _ h => .inl h, fun _ h => h⟩
theorem More.trans {Q : TMsg → Prop} {a b c : TNet} (h : More Q a b) (k : More Q b c) : More Q a c where
  up := k.up.trans h.up
  dbs := k.dbs.trans h.dbs
  lost h0 := ⟨(k.lost (h.lost h0).1).1, fun hc => (h.lost h0).2 ((k.lost (h.lost h0).1).2 hc)⟩
  keep h0 hc m hm := by
    have h1 := h.lost h0
    have h2 := k.lost h1.1
    exact k.keep h1.1 hc m (h.keep h0 (h2.2 hc) m hm)
  new m hm := by
    rcases k.new m hm with q | q
    · exact h.new m q
    · exact .inr q
  ok hq ha := k.ok (by rw [h.up]; exact hq) (h.ok hq ha)
theorem More.imp {Q R : TMsg → Prop} {a b : TNet} (h : More Q a b) (hi : ∀ m, Q m → R m) : More R a b := ⟨h.up, h.dbs, h.lost, h.keep, fun m hm => (h.new m hm).imp id (hi m), fun hr => h.ok fun m hm => hr m (hi m hm)⟩
theorem More.send {a : TNet} {x y : Int} {l : TLsa} : More (fun m => m = (x, y, l)) a (sendN a x y l) ∧ (0 ≤ a.lost → (sendN a x y l).lost ≤ 0 → (x, y, l) ∈ (sendN a x y l).wires) := by
  have hok : (∀ m, m = (x, y, l) → msgOk a.up.n m) → netOk a → netOk (sendN a x y l) := fun hq ha => netOk_send ha (hq _ rfl)
  unfold sendN at hok ⊢
  split
  · rename_i h
    rw [if_pos h] at hok
    exact ⟨⟨rfl, rfl, fun h => ⟨h, id⟩, fun _ _ m hm => List.mem_append_left _ hm, fun m hm => by simpa using hm, hok⟩, fun _ _ => by simp⟩
  · rename_i h
    rw [if_neg h] at hok
    refine ⟨⟨rfl, rfl, fun h0 => by simp only; omega, fun h0 hb => ?_, fun m hm => .inl hm, hok⟩, fun h0 hb => ?_⟩
    · simp only at hb; omega
    · simp only at hb; omega
theorem More.spread {x but : Int} {l : TLsa} : ∀ {es : List TEdge} {a : TNet}, More (fun m => ∃ e ∈ es, e.1 = x ∧ e.2.1 ≠ but ∧ m = (x, e.2.1, l)) a (spreadL x but l es a) ∧ (0 ≤ a.lost → (spreadL x but l es a).lost ≤ 0 → ∀ e ∈ es, e.1 = x → e.2.1 ≠ but → (x, e.2.1, l) ∈ (spreadL x but l es a).wires)
  | [], a => ⟨More.refl a, fun _ _ e he => by simp at he⟩
  | e :: es, a => by
    have e0 : spreadL x but l (e :: es) a = spreadL x but l es (spreadS x but l a e) := rfl
    rw [e0]
    obtain ⟨i1, i2⟩ := More.spread (x := x) (but := but) (l := l) (es := es) (a := spreadS x but l a e)
    have j1 := i1.imp (R := fun m => ∃ f ∈ e :: es, f.1 = x ∧ f.2.1 ≠ but ∧ m = (x, f.2.1, l)) fun m ⟨f, h1, h2⟩ => ⟨f, List.mem_cons_of_mem _ h1, h2⟩
    by_cases hc : e.1 = x ∧ e.2.1 ≠ but
    · have es1 : spreadS x but l a e = sendN a x e.2.1 l := by unfold spreadS; rw [if_pos hc]
      rw [es1] at i1 i2 j1 ⊢
      obtain ⟨s1, s2⟩ := More.send (a := a) (x := x) (y := e.2.1) (l := l)
      have s3 := s1.imp (R := fun m => ∃ f ∈ e :: es, f.1 = x ∧ f.2.1 ≠ but ∧ m = (x, f.2.1, l)) fun m hm => ⟨e, by simp, hc.1, hc.2, hm⟩
      refine ⟨s3.trans j1, fun h0 hb f hf g1 g2 => ?_⟩
      have h1 := s3.lost h0
      have h2 := j1.lost h1.1
      rcases List.mem_cons.1 hf with rfl | q
      · exact j1.keep h1.1 hb _ (s2 h0 (h2.2 hb))
      · exact i2 h1.1 hb f q g1 g2
    · have es1 : spreadS x but l a e = a := by unfold spreadS; rw [if_neg hc]
      rw [es1] at i1 i2 j1 ⊢
      refine ⟨j1, fun h0 hb f hf g1 g2 => ?_⟩
      rcases List.mem_cons.1 hf with rfl | q
      · exact absurd ⟨g1, g2⟩ hc
      · exact i2 h0 hb f q g1 g2
theorem More.sends {x y : Int} : ∀ {ls : List TLsa} {a : TNet}, More (fun m => ∃ l ∈ ls, m = (x, y, l)) a (sendsN x y ls a) ∧ (0 ≤ a.lost → (sendsN x y ls a).lost ≤ 0 → ∀ l ∈ ls, (x, y, l) ∈ (sendsN x y ls a).wires)
  | [], a => ⟨More.refl a, fun _ _ e he => by simp at he⟩
  | l :: ls, a => by
    have e0 : sendsN x y (l :: ls) a = sendsN x y ls (sendN a x y l) := rfl
    rw [e0]
    obtain ⟨i1, i2⟩ := More.sends (x := x) (y := y) (ls := ls) (a := sendN a x y l)
    have j1 := i1.imp (R := fun m => ∃ f ∈ l :: ls, m = (x, y, f)) fun m ⟨f, h1, h2⟩ => ⟨f, List.mem_cons_of_mem _ h1, h2⟩
    obtain ⟨s1, s2⟩ := More.send (a := a) (x := x) (y := y) (l := l)
    have s3 := s1.imp (R := fun m => ∃ f ∈ l :: ls, m = (x, y, f)) fun m hm => ⟨l, by simp, hm⟩
    refine ⟨s3.trans j1, fun h0 hb f hf => ?_⟩
    have h1 := s3.lost h0
    have h2 := j1.lost h1.1
    rcases List.mem_cons.1 hf with rfl | q
    · exact j1.keep h1.1 hb _ (s2 h0 (h2.2 hb))
    · exact i2 h1.1 hb f q
theorem More.tell {a : TNet} {x y : Int} : More (fun m => m.1 = x ∧ m.2.1 = y ∧ m.2.2 ∈ db a x) a (tellN a x y) ∧ (0 ≤ a.lost → (tellN a x y).lost ≤ 0 → ∀ l ∈ db a x, (x, y, l) ∈ (tellN a x y).wires) := by
  obtain ⟨h1, h2⟩ := More.sends (x := x) (y := y) (ls := db a x) (a := a)
  exact ⟨h1.imp fun m ⟨l, q1, q2⟩ => by subst q2; exact ⟨rfl, rfl, q1⟩, h2⟩
theorem More.sync : ∀ {es : List TEdge} {a : TNet}, More (fun m => ∃ e ∈ es, m.1 = e.1 ∧ m.2.1 = e.2.1 ∧ m.2.2 ∈ db a e.1) a (syncN es a) ∧ (0 ≤ a.lost → (syncN es a).lost ≤ 0 → ∀ e ∈ es, ∀ l ∈ db a e.1, (e.1, e.2.1, l) ∈ (syncN es a).wires)
  | [], a => ⟨More.refl a, fun _ _ e he => by simp at he⟩
  | e :: es, a => by
    have e0 : syncN (e :: es) a = syncN es (tellN a e.1 e.2.1) := rfl
    rw [e0]
    obtain ⟨s1, s2⟩ := More.tell (a := a) (x := e.1) (y := e.2.1)
    have hdb : ∀ x, db (tellN a e.1 e.2.1) x = db a x := fun x => by unfold db; rw [s1.dbs]
    obtain ⟨i1, i2⟩ := More.sync (es := es) (a := tellN a e.1 e.2.1)
    simp only [hdb] at i1 i2
    have j1 := i1.imp (R := fun m => ∃ f ∈ e :: es, m.1 = f.1 ∧ m.2.1 = f.2.1 ∧ m.2.2 ∈ db a f.1) fun m ⟨f, h1, h2⟩ => ⟨f, List.mem_cons_of_mem _ h1, h2⟩
    have s3 := s1.imp (R := fun m => ∃ f ∈ e :: es, m.1 = f.1 ∧ m.2.1 = f.2.1 ∧ m.2.2 ∈ db a f.1) fun m hm => ⟨e, by simp, hm⟩
    refine ⟨s3.trans j1, fun h0 hb f hf l hl => ?_⟩
    have h1 := s3.lost h0
    have h2 := j1.lost h1.1
    rcases List.mem_cons.1 hf with rfl | q
    · exact j1.keep h1.1 hb _ (s2 h0 (h2.2 hb) l hl)
    · exact i2 h1.1 hb f q l hl

end Go.Proofs.YtohicpepcjgnaaaGreat
