/-
Nets: how they lie in memory; contracts of the laws' helpers over them.
-/
import Derived.Test.YtaippfedjjjpeaaGreatGraphF
import Derived.Test.YtaippfedjjjpeaaGreatKindA
import Derived.Test.YtaippfedjjjpeaaGreatMarks
set_option linter.all false
namespace Go.Proofs.YtaippfedjjjpeaaGreat
open Go Go.Abs Go.Proofs

abbrev TMsg : Type := Int × Int × TLsa
def msgT (b : Bool) : Ty TMsg where
  n := 7
  rd H m vs := ∃ r, vs = .int .i64 m.1 :: .int .i64 m.2.1 :: r ∧ (lsaT b).rd H m.2.2 r
  own m vs es := ∃ r, vs = .int .i64 m.1 :: .int .i64 m.2.1 :: r ∧ (lsaT b).own m.2.2 r es
  len := by rintro H m vs ⟨r, rfl, h⟩; have := (lsaT b).len h; simp [this, lsaT]
  mono := by rintro H H' m vs ⟨r, rfl, h⟩ hs; exact ⟨r, rfl, (lsaT b).mono h hs⟩
  ok := by rintro m vs es ⟨r, rfl, h⟩; exact (lsaT b).ok h
  ofOwn := by rintro H m vs es ⟨r, rfl, h⟩ hh; exact ⟨r, rfl, (lsaT b).ofOwn h hh⟩
theorem Dp.msg {b : Bool} {x y : Int} {a : TLsa} {r : List V} {H0 H : Heap} (h : Dp (lsaT b) H0 a r H) : Dp (msgT b) H0 (x, y, a) (.int .i64 x :: .int .i64 y :: r) H := by
  obtain ⟨es, h1, h2⟩ := h
  exact ⟨es, ⟨r, rfl, h1⟩, h2⟩
theorem msg_dp {b : Bool} {m : TMsg} {vs : List V} {H0 H : Heap} (h : Dp (msgT b) H0 m vs H) : ∃ r, vs = .int .i64 m.1 :: .int .i64 m.2.1 :: r ∧ Dp (lsaT b) H0 m.2.2 r H := by
  obtain ⟨es, ⟨r, rfl, h1⟩, h2⟩ := h
  exact ⟨r, rfl, es, h1, h2⟩
abbrev dbsT (b : Bool) : Ty (List (List TLsa)) := sliceT b (dbT b)
abbrev wiresT (b : Bool) : Ty (List TMsg) := sliceT b (msgT b)

structure TNet where
  up : TGraph
  dbs : List (List TLsa)
  wires : List TMsg
  lost : Int
theorem TNet.eq_iff {a b : TNet} : a = b ↔ a.up = b.up ∧ a.dbs = b.dbs ∧ a.wires = b.wires ∧ a.lost = b.lost := by
  constructor
  · rintro rfl; simp
  · intro h; cases a; cases b; simp_all
instance : DecidableEq TNet := fun a b => decidable_of_iff (a.up = b.up ∧ a.dbs = b.dbs ∧ a.wires = b.wires ∧ a.lost = b.lost) TNet.eq_iff.symm
abbrev netRow (a : TNet) (e d w : V) : List V := [.int .i64 a.up.n, e, d, w, .int .i64 a.lost]
def netT (b : Bool) : Ty TNet where
  n := 5
  rd H a vs := ∃ e d w, vs = netRow a e d w ∧ Rb b H 3 e (a.up.es.map enEdge) ∧ (dbsT b).rd H a.dbs [d] ∧ (wiresT b).rd H a.wires [w]
  own a vs es := ∃ e d w E2 E3, vs = netRow a e d w ∧ (dbsT b).own a.dbs [d] E2 ∧ (wiresT b).own a.wires [w] E3 ∧ es = ⟨3, a.up.es.map enEdge, e⟩ :: (E2 ++ E3)
  len := by rintro H a vs ⟨e, d, w, rfl, _⟩; rfl
  mono := by rintro H H' a vs ⟨e, d, w, rfl, h1, h2, h3⟩ hs; exact ⟨e, d, w, rfl, h1.mono hs, (dbsT b).mono h2 hs, (wiresT b).mono h3 hs⟩
  ok := by
    rintro a vs es ⟨e, d, w, E2, E3, rfl, h2, h3, rfl⟩ x hx r hr
    rcases List.mem_cons.1 hx with rfl | hx
    · exact enEdge_len r hr
    · rcases List.mem_append.1 hx with hx | hx
      · exact (dbsT b).ok h2 x hx r hr
      · exact (wiresT b).ok h3 x hx r hr
  ofOwn := by
    rintro H a vs es ⟨e, d, w, E2, E3, rfl, h2, h3, rfl⟩ h
    exact ⟨e, d, w, rfl, (h ⟨3, a.up.es.map enEdge, e⟩ (by simp)).any b, (dbsT b).ofOwn h2 fun x hx => h x (by simp [hx]), (wiresT b).ofOwn h3 fun x hx => h x (by simp [hx])⟩
theorem Dp.net {b : Bool} {a : TNet} {e d w : V} {H0 H1 H2 H3 : Heap} (h1 : Held H0 3 (a.up.es.map enEdge) e H1) (h2 : Dp (dbsT b) H1 a.dbs [d] H2) (h3 : Dp (wiresT b) H2 a.wires [w] H3) : Dp (netT b) H0 a (netRow a e d w) H3 := by
  obtain ⟨E2, g1, g2⟩ := h2
  obtain ⟨E3, g3, g4⟩ := h3
  exact ⟨_, ⟨e, d, w, E2, E3, rfl, g1, g3, rfl⟩, H1, h1, Chain.append.2 ⟨H2, g2, g4⟩⟩
theorem net_dp {b : Bool} {a : TNet} {vs : List V} {H0 H3 : Heap} (h : Dp (netT b) H0 a vs H3) : ∃ e d w H1 H2, vs = netRow a e d w ∧ Held H0 3 (a.up.es.map enEdge) e H1 ∧ Dp (dbsT b) H1 a.dbs [d] H2 ∧ Dp (wiresT b) H2 a.wires [w] H3 := by
  obtain ⟨es, ⟨e, d, w, E2, E3, rfl, h2, h3, rfl⟩, H1, g1, g2⟩ := h
  obtain ⟨H2, g3, g4⟩ := Chain.append.1 g2
  exact ⟨e, d, w, H1, H2, rfl, g1, ⟨E2, h2, g3⟩, ⟨E3, h3, g4⟩⟩
abbrev okV (v : V) : Prop := cellsOf v = [v] ∧ cellOk v = true ∧ notAny v = true
theorem net_cell {b : Bool} {H : Heap} {a : TNet} {e d w : V} (h1 : Rb b H 3 e (a.up.es.map enEdge)) (h2 : (dbsT b).rd H a.dbs [d]) (h3 : (wiresT b).rd H a.wires [w]) : okV e ∧ okV d ∧ okV w := ⟨h1.1.cell, rdS_cell h2, rdS_cell h3⟩

def szd (xs : List TLsa) : Nat := xs.length + sumF szl xs
def szw (m : TMsg) : Nat := szl m.2.2
def szn (a : TNet) : Nat := a.up.es.length + (a.dbs.length + sumF szd a.dbs) + (a.wires.length + sumF szw a.wires)
abbrev bigD (xs : List TLsa) : Prop := xs.length ≤ 9223372036854775807 ∧ ∀ a ∈ xs, a.links.length ≤ 9223372036854775807 ∧ a.stubs.length ≤ 9223372036854775807
abbrev bigM (m : TMsg) : Prop := m.2.2.links.length ≤ 9223372036854775807 ∧ m.2.2.stubs.length ≤ 9223372036854775807
def hugeNet (a : TNet) : Prop := a.up.es.length ≤ 9223372036854775807 ∧ (a.dbs.length ≤ 9223372036854775807 ∧ ∀ d ∈ a.dbs, bigD d) ∧ a.wires.length ≤ 9223372036854775807 ∧ ∀ m ∈ a.wires, bigM m
/-! #### copies -/
def bNet (a : TNet) : Prop := szn a ≤ 1048576
/-! #### comparisons -/
end Go.Proofs.YtaippfedjjjpeaaGreat
