/-
Draws: deep values of one's own beside a cursor that moves.
-/
import Derived.Test.YtaippfedjjjpeaaCur
import Derived.Test.YtaippfedjjjpeaaLkM
set_option linter.all false
namespace Go.Proofs.Ytaippfedjjjpeaa
open Go Go.Abs Go.Proofs

theorem chain_rebaseQ {o : Nat} (y : Ob) : ∀ {es : List Ent} {H0 H : Heap}, Chain H0 es H → H0 o ≠ none → Chain (upd H0 o y) es (upd H o y)
  | [], H0, H, h, _ => by
    have e : H = H0 := h
    subst e; rfl
  | e :: es, H0, H, h, ho => by
    obtain ⟨Hm, h1, h2⟩ := h
    refine ⟨upd Hm o y, h1.rebase y ho, chain_rebaseQ y h2 ?_⟩
    cases hx : H0 o with
    | none => exact absurd hx ho
    | some z => rw [h1.sub _ _ hx]; simp
theorem held_del {o sz : Nat} {rows : List (List V)} {v : V} {H0 H : Heap} (h : Held H0 sz rows v H) (ho : H0 o ≠ none) : Held (del H0 o) sz rows v (del H o) := by
  rcases h with ⟨h1, h2, rfl⟩ | ⟨p, cap, h1, h2, hc, rfl⟩
  · exact .inl ⟨h1, h2, rfl⟩
  · have hne : p ≠ o := by rintro rfl; exact ho h1
    refine .inr ⟨p, cap, by unfold del; rw [if_neg hne]; exact h1, h2, hc, ?_⟩
    funext i
    unfold del upd
    by_cases e : i = o
    · subst e; simp [Ne.symm hne]
    · simp [e]
theorem chain_del {o : Nat} : ∀ {es : List Ent} {H0 H : Heap}, Chain H0 es H → H0 o ≠ none → Chain (del H0 o) es (del H o)
  | [], H0, H, h, _ => by
    have e : H = H0 := h
    subst e; rfl
  | e :: es, H0, H, h, ho => by
    obtain ⟨Hm, h1, h2⟩ := h
    refine ⟨del Hm o, held_del h1 ho, chain_del h2 ?_⟩
    cases hx : H0 o with
    | none => exact absurd hx ho
    | some z => rw [h1.sub _ _ hx]; simp
theorem St.del {H H' : Heap} {o : Nat} (h : St H o H') : Abs.sub (Abs.del H o) (Abs.del H' o) := by
  obtain ⟨_, y, _, h2⟩ := h
  have := del_mono (o := o) h2
  rwa [del_upd] at this
theorem St.low {H H' : Heap} {o : Nat} (h : St H o H') : Abs.sub (Abs.del H o) H' := by
  obtain ⟨_, y, _, h2⟩ := h
  exact sub_trans del_sub_upd h2

section
variable {α : Type} {T : Ty α}
/-- Read where the cursor does not stand. -/
def Rq (T : Ty α) (H : Heap) (o : Nat) (a : α) (vs : List V) : Prop := T.rd (Abs.del H o) a vs
theorem Rq.rd {H : Heap} {o : Nat} {a : α} {vs : List V} (h : Rq T H o a vs) : T.rd H a vs := T.mono h del_sub
theorem Rq.st {H H' : Heap} {o : Nat} {a : α} {vs : List V} (h : Rq T H o a vs) (hs : St H o H') : Rq T H' o a vs := T.mono h (St.del hs)
theorem Rq.mono {H H' : Heap} {o : Nat} {a : α} {vs : List V} (h : Rq T H o a vs) (hs : Abs.sub H H') : Rq T H' o a vs := T.mono h (del_mono hs)
/-- One's own, and the cursor has moved since. -/
def Dq (T : Ty α) (Hs : Heap) (o : Nat) (a : α) (vs : List V) (H : Heap) : Prop := ∃ Hb, St Hs o Hb ∧ Dp T Hb a vs H
theorem Dq.cur {Hs H : Heap} {o : Nat} {a : α} {vs : List V} (h : Dq T Hs o a vs H) : IsCur H o := by
  obtain ⟨Hb, h1, h2⟩ := h; exact h1.1.mono h2.sub
theorem Dq.st {Hs H : Heap} {o : Nat} {a : α} {vs : List V} (h : Dq T Hs o a vs H) : St Hs o H := by
  obtain ⟨Hb, h1, h2⟩ := h; exact h1.more h2.sub
theorem Dq.rq {Hs H : Heap} {o : Nat} {a : α} {vs : List V} (h : Dq T Hs o a vs H) : Rq T H o a vs := by
  obtain ⟨Hb, h1, es, h2, h3⟩ := h
  exact Dp.rd ⟨es, h2, chain_del h3 h1.1.some⟩
theorem Dq.grow {Hs H H' : Heap} {o : Nat} {a : α} {vs : List V} (h : Dq T Hs o a vs H) (hs : Abs.sub H H') : Dq T Hs o a vs H' := by
  obtain ⟨Hb, h1, h2⟩ := h
  obtain ⟨Hb', g1, g2⟩ := h2.rise hs
  exact ⟨Hb', h1.more g1, g2⟩
theorem Dq.step {Hs H H' : Heap} {o : Nat} {a : α} {vs : List V} (h : Dq T Hs o a vs H) (hs : St H o H') : Dq T Hs o a vs H' := by
  obtain ⟨Hb, h1, es, h2, h3⟩ := h
  obtain ⟨hc, y, g1, g2⟩ := hs
  have h4 := chain_rebaseQ (o := o) y h3 h1.1.some
  have h5 : St Hs o (upd Hb o y) := h1.trans (St.of (g1.mono h3.sub) h1.1)
  exact Dq.grow ⟨_, h5, es, h2, h4⟩ g2
theorem Dq.of {Hs H H' : Heap} {o : Nat} {a : α} {vs : List V} (h : St Hs o H) (h' : Dp T H a vs H') : Dq T Hs o a vs H' := ⟨H, h, h'⟩
theorem Dq.from {Hs Hs' H : Heap} {o : Nat} {a : α} {vs : List V} (h : St Hs o Hs') (h' : Dq T Hs' o a vs H) : Dq T Hs o a vs H := by
  obtain ⟨Hb, h1, h2⟩ := h'
  exact ⟨Hb, h.trans h1, h2⟩
end
/-- The same for a flat slice. -/
def Hx (Hs : Heap) (o sz : Nat) (rows : List (List V)) (v : V) (H : Heap) : Prop := ∃ Hb, St Hs o Hb ∧ Held Hb sz rows v H
theorem hx_cur {Hs H : Heap} {o sz : Nat} {rows : List (List V)} {v : V} (h : Hx Hs o sz rows v H) : IsCur H o := by
  obtain ⟨Hb, h1, h2⟩ := h; exact h1.1.mono h2.sub
theorem hx_st {Hs H : Heap} {o sz : Nat} {rows : List (List V)} {v : V} (h : Hx Hs o sz rows v H) : St Hs o H := by
  obtain ⟨Hb, h1, h2⟩ := h; exact h1.more h2.sub
theorem hx_rc {Hs H : Heap} {o sz : Nat} {rows : List (List V)} {v : V} (h : Hx Hs o sz rows v H) (hr : ∀ r ∈ rows, r.length = sz) : Rd (Abs.del H o) sz v rows := by
  obtain ⟨Hb, h1, h2⟩ := h
  exact (held_del h2 h1.1.some).rd hr
theorem hx_grow {Hs H H' : Heap} {o sz : Nat} {rows : List (List V)} {v : V} (h : Hx Hs o sz rows v H) (hs : Abs.sub H H') : Hx Hs o sz rows v H' := by
  obtain ⟨Hb, h1, h2⟩ := h
  obtain ⟨Hb', g1, g2⟩ := h2.rise hs
  exact ⟨Hb', h1.more g1, g2⟩
theorem hx_step {Hs H H' : Heap} {o sz : Nat} {rows : List (List V)} {v : V} (h : Hx Hs o sz rows v H) (hs : St H o H') : Hx Hs o sz rows v H' := by
  obtain ⟨Hb, h1, h2⟩ := h
  obtain ⟨hc, y, g1, g2⟩ := hs
  exact hx_grow ⟨_, h1.trans (St.of (g1.mono h2.sub) h1.1), h2.rebase y (o := o) h1.1.some⟩ g2
/-- Two of one's own. -/
theorem dq_lsa {b : Bool} {a : TLsa} {l s : V} {Hs H1 H2 : Heap} {o : Nat} (h1 : Hx Hs o 2 (a.links.map enLink) l H1) (h2 : Hx H1 o 3 (a.stubs.map enStub) s H2) : Dq (lsaT b) Hs o a (lsaRow a l s) H2 := by
  obtain ⟨Hb, g1, g2⟩ := h2
  obtain ⟨Hc, k1, k2⟩ := hx_step h1 g1
  exact ⟨Hc, k1, Dp.lsa k2 g2⟩
theorem dq_links {b : Bool} {a : TLsa} {l s : V} {Hs H Hb : Heap} {o : Nat} {x : TLink} {K : V → Heap → Prop} (h : Dq (lsaT b) Hs o a (lsaRow a l s) H) (hs : Abs.sub H Hb) (hl : a.links.length ≤ 1000)
    (hk : ∀ l' H', Dq (lsaT b) Hs o { a with links := a.links ++ [x] } (lsaRow a l' s) H' → (cellsOf l' = [l'] ∧ cellOk l' = true ∧ notAny l' = true) → K l' H') : appendK Hb 2 16 l [enLink x] K := by
  obtain ⟨Hc, h1, h2⟩ := h
  obtain ⟨l2, s2, Hm, e, g1, g2⟩ := lsa_dp h2
  simp only [lsaRow, List.cons.injEq, and_true, true_and] at e
  obtain ⟨rfl, rfl⟩ := e
  obtain ⟨Hm', k1, k2⟩ := g1.swap g2
  refine k2.append hs (by simp) (by simp; omega) fun v' H' H'' ho' hs' => ?_
  obtain ⟨Hn, m1, m2⟩ := k1.swap ho'
  have := Dp.lsa (b := b) (a := { a with links := a.links ++ [x] }) (by rw [List.map_append]; exact m1) m2
  exact hk v' H' (Dq.grow ⟨Hc, h1, this⟩ hs') ho'.cell
theorem dq_stubs {b : Bool} {a : TLsa} {l s : V} {Hs H Hb : Heap} {o : Nat} {x : TStub} {K : V → Heap → Prop} (h : Dq (lsaT b) Hs o a (lsaRow a l s) H) (hs : Abs.sub H Hb) (hl : a.stubs.length ≤ 1000)
    (hk : ∀ s' H', Dq (lsaT b) Hs o { a with stubs := a.stubs ++ [x] } (lsaRow a l s') H' → (cellsOf s' = [s'] ∧ cellOk s' = true ∧ notAny s' = true) → K s' H') : appendK Hb 3 24 s [enStub x] K := by
  obtain ⟨Hc, h1, h2⟩ := h
  obtain ⟨l2, s2, Hm, e, g1, g2⟩ := lsa_dp h2
  simp only [lsaRow, List.cons.injEq, and_true, true_and] at e
  obtain ⟨rfl, rfl⟩ := e
  refine g2.append hs (by simp) (by simp; omega) fun v' H' H'' ho' hs' => ?_
  have := Dp.lsa (b := b) (a := { a with stubs := a.stubs ++ [x] }) g1 (by rw [List.map_append]; exact ho')
  exact hk v' H' (Dq.grow ⟨Hc, h1, this⟩ hs') ho'.cell
theorem dq_cell {b : Bool} {a : TLsa} {vs : List V} {Hs H : Heap} {o : Nat} (h : Dq (lsaT b) Hs o a vs H) : ∃ l s, vs = lsaRow a l s ∧ (cellsOf l = [l] ∧ cellOk l = true ∧ notAny l = true) ∧ (cellsOf s = [s] ∧ cellOk s = true ∧ notAny s = true) := by
  obtain ⟨l, s, e, h1, h2⟩ := h.rq
  exact ⟨l, s, e, h1.1.cell, h2.1.cell⟩
/-- The plain numbers of an advertisement do not count. -/
theorem dq_nums {b : Bool} {a : TLsa} {l s : V} {Hs H : Heap} {o : Nat} (h : Dq (lsaT b) Hs o a (lsaRow a l s) H) (x y z : Int) : Dq (lsaT b) Hs o ⟨x, y, z, a.links, a.stubs⟩ (lsaRow ⟨x, y, z, a.links, a.stubs⟩ l s) H := by
  obtain ⟨Hc, h1, h2⟩ := h
  obtain ⟨l2, s2, Hm, e, g1, g2⟩ := lsa_dp h2
  simp only [lsaRow, List.cons.injEq, and_true, true_and] at e
  obtain ⟨rfl, rfl⟩ := e
  exact ⟨Hc, h1, Dp.lsa (a := ⟨x, y, z, a.links, a.stubs⟩) g1 g2⟩

end Go.Proofs.Ytaippfedjjjpeaa
