/-
Many slices of one's own: a chain, in any order.
-/
import Derived.Test.YtgiogphdnpeddaaGreatAbsU
set_option linter.all false
namespace Go.Abs

structure Ent where
  sz : Nat
  rows : List (List V)
  v : V
def Chain (H0 : Heap) : List Ent → Heap → Prop
  | [], H => H = H0
  | e :: es, H => ∃ Hm, Held H0 e.sz e.rows e.v Hm ∧ Chain Hm es H
theorem Chain.sub : ∀ {es : List Ent} {H0 H : Heap}, Chain H0 es H → Abs.sub H0 H
  | [], H0, H, h => by cases h; exact Abs.sub_refl _
  | e :: es, H0, H, ⟨Hm, h1, h2⟩ => sub_trans h1.sub h2.sub
theorem Chain.append : ∀ {A B : List Ent} {H0 H : Heap}, Chain H0 (A ++ B) H ↔ ∃ Hm, Chain H0 A Hm ∧ Chain Hm B H
  | [], B, H0, H => ⟨fun h => ⟨H0, rfl, h⟩, fun ⟨Hm, h1, h2⟩ => by cases h1; exact h2⟩
  | a :: A, B, H0, H => by
    constructor
    · rintro ⟨Hm, h1, h2⟩
      obtain ⟨Hk, h3, h4⟩ := Chain.append.1 h2
      exact ⟨Hk, ⟨Hm, h1, h3⟩, h4⟩
    · rintro ⟨Hk, ⟨Hm, h1, h3⟩, h4⟩
      exact ⟨Hm, h1, Chain.append.2 ⟨Hk, h3, h4⟩⟩
theorem Chain.one {e : Ent} {H0 H : Heap} : Chain H0 [e] H ↔ Held H0 e.sz e.rows e.v H := ⟨fun ⟨Hm, h1, h2⟩ => by cases h2; exact h1, fun h => ⟨H, h, rfl⟩⟩
theorem Chain.perm {A B : List Ent} (hp : A.Perm B) : ∀ {H0 H : Heap}, Chain H0 A H → Chain H0 B H := by
  induction hp with
  | nil => intro H0 H h; exact h
  | cons e _ ih => intro H0 H ⟨Hm, h1, h2⟩; exact ⟨Hm, h1, ih h2⟩
  | swap a b l =>
    intro H0 H ⟨Hm, h1, Hk, h2, h3⟩
    obtain ⟨Hj, g1, g2⟩ := h1.swap h2
    exact ⟨Hj, g1, Hk, g2, h3⟩
  | trans _ _ ih1 ih2 => intro H0 H h; exact ih2 (ih1 h)
theorem Chain.top {A B : List Ent} {e : Ent} {H0 H : Heap} (h : Chain H0 (A ++ e :: B) H) : ∃ Hm, Chain H0 (A ++ B) Hm ∧ Held Hm e.sz e.rows e.v H := by
  have hp : (A ++ e :: B).Perm ((A ++ B) ++ [e]) := List.perm_middle.trans (List.perm_append_comm (l₁ := [e]))
  obtain ⟨Hm, h1, h2⟩ := Chain.append.1 (h.perm hp)
  exact ⟨Hm, h1, Chain.one.1 h2⟩
theorem Chain.back {A B : List Ent} {e : Ent} {H0 Hm H : Heap} (h : Chain H0 (A ++ B) Hm) (h' : Held Hm e.sz e.rows e.v H) : Chain H0 (A ++ e :: B) H := by
  have hp : ((A ++ B) ++ [e]).Perm (A ++ e :: B) := (List.perm_append_comm (l₂ := [e])).trans (List.perm_middle (l₁ := A) (l₂ := B) (a := e)).symm
  exact (Chain.append.2 ⟨Hm, h, Chain.one.2 h'⟩).perm hp
theorem Chain.push {A : List Ent} {H0 Hm H : Heap} {sz : Nat} {rows : List (List V)} {v : V} (h : Chain H0 A Hm) (h' : Held Hm sz rows v H) : Chain H0 (A ++ [⟨sz, rows, v⟩]) H := Chain.append.2 ⟨Hm, h, Chain.one.2 h'⟩
theorem Chain.rd {es : List Ent} {e : Ent} {H0 H : Heap} (h : Chain H0 es H) (he : e ∈ es) (hr : ∀ r ∈ e.rows, r.length = e.sz) : Rd H e.sz e.v e.rows := by
  obtain ⟨A, B, rfl⟩ := List.append_of_mem he
  obtain ⟨Hm, _, h2⟩ := h.top
  exact h2.rd hr
theorem Chain.rise : ∀ {es : List Ent} {H0 H Hb : Heap}, Chain H0 es H → Abs.sub H Hb → ∃ H0', Abs.sub H0 H0' ∧ Chain H0' es Hb
  | [], H0, H, Hb, h, hs => by cases h; exact ⟨Hb, hs, rfl⟩
  | e :: es, H0, H, Hb, ⟨Hm, h1, h2⟩, hs => by
    obtain ⟨Hm', g1, g2⟩ := Chain.rise h2 hs
    obtain ⟨H0', g3, g4⟩ := h1.rise g1
    exact ⟨H0', g3, Hm', g4, g2⟩
theorem Chain.shrink : ∀ {es : List Ent} {H H0 H' : Heap}, Chain H0 es H' → Abs.sub H H0 → ∃ H'', Chain H es H'' ∧ Abs.sub H'' H'
  | [], H, H0, H', h, hs => by cases h; exact ⟨H, rfl, hs⟩
  | e :: es, H, H0, H', ⟨Hm, h1, h2⟩, hs => by
    obtain ⟨Hm', g1, g2⟩ := h1.shrink hs
    obtain ⟨H'', g3, g4⟩ := Chain.shrink h2 g2
    exact ⟨H'', ⟨Hm', g1, g3⟩, g4⟩
/-- One above a chain, brought below it. -/
theorem Chain.under {es : List Ent} {H0 H H' : Heap} {sz : Nat} {rows : List (List V)} {v : V} (h : Chain H0 es H) (h' : Held H sz rows v H') : ∃ Hm, Held H0 sz rows v Hm ∧ Chain Hm es H' := by
  have := (h.push h').perm (List.perm_append_comm (l₂ := [⟨sz, rows, v⟩]))
  obtain ⟨Hm, h1, h2⟩ := this
  exact ⟨Hm, h1, h2⟩
theorem Chain.swap {A B : List Ent} {H0 H H' : Heap} (h : Chain H0 A H) (h' : Chain H B H') : ∃ Hm, Chain H0 B Hm ∧ Chain Hm A H' :=
  Chain.append.1 ((Chain.append.2 ⟨H, h, h'⟩).perm List.perm_append_comm)

end Go.Abs
