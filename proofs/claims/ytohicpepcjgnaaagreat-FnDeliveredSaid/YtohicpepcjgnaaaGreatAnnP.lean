/-
Plain laws: a node's own advertisement.
-/
import Derived.Test.YtohicpepcjgnaaaGreatDelivP
set_option linter.all false
namespace Go.Proofs.YtohicpepcjgnaaaGreat
open Go Go.Abs Go.Proofs

def elt (e f : TEdge) : Prop := e.1 < f.1 ∨ e.1 = f.1 ∧ e.2.1 < f.2.1
theorem elt_trans {a b c : TEdge} (h : elt a b) (k : elt b c) : elt a c := by unfold elt at *; omega
def eOk (n : Int) (e : TEdge) : Prop := (0 ≤ e.1 ∧ e.1 < n) ∧ (0 ≤ e.2.1 ∧ e.2.1 < n) ∧ e.1 ≠ e.2.1 ∧ 1 ≤ e.2.2 ∧ e.2.2 ≤ 1000
theorem graph_iff {n : Int} {es : List TEdge} : graphOk n es ↔ (1 ≤ n ∧ n ≤ 10) ∧ es.length ≤ 60 ∧ (∀ e ∈ es, eOk n e) ∧ es.Pairwise elt := by
  constructor
  · rintro ⟨h1, h2, h3⟩
    refine ⟨h1, h2, fun e he => ?_, ?_⟩
    · obtain ⟨i, hi, rfl⟩ := ed_mem he
      obtain ⟨g1, g2, g3, g4, _⟩ := h3 i hi
      exact ⟨g1, g2, g3, g4⟩
    · rw [List.pairwise_iff_getElem]
      have key : ∀ d i, i + d + 1 < es.length → elt (ed es i) (ed es (i + d + 1)) := by
        intro d
        induction d with
        | zero =>
          intro i hi
          have := (h3 (i + 1) (by omega)).2.2.2.2 (by omega)
          simp only [Nat.add_sub_cancel] at this
          exact this
        | succ d ih =>
          intro i hi
          have a := ih i (by omega)
          have b := (h3 (i + (d + 1) + 1) hi).2.2.2.2 (by omega)
          simp only [Nat.add_sub_cancel] at b
          exact elt_trans a b
      intro i j hi hj hij
      have := key (j - i - 1) i (by omega)
      rw [show i + (j - i - 1) + 1 = j by omega, ed_get hi, ed_get hj] at this
      exact this
  · rintro ⟨h1, h2, h3, h4⟩
    refine ⟨h1, h2, fun i hi => ?_⟩
    rw [List.pairwise_iff_getElem] at h4
    obtain ⟨g1, g2, g3, g4⟩ := h3 _ (List.getElem_mem hi)
    unfold okAt
    rw [ed_get hi]
    refine ⟨g1, g2, g3, g4, fun hp => ?_⟩
    have := h4 (i - 1) i (by omega) hi (by omega)
    rw [ed_get (by omega)]
    exact this

def toLink (e : TEdge) : TLink := (e.2.1, e.2.2)
def linksOf (x : Int) (es : List TEdge) : List TLink := (es.filter fun e => decide (e.1 = x)).map toLink
theorem links_yes {x : Int} {es : List TEdge} {i : Nat} (hi : i < es.length) (h : es[i].1 = x) : linksOf x (es.take (i + 1)) = linksOf x (es.take i) ++ [toLink es[i]] := by
  unfold linksOf
  rw [List.take_succ_eq_append_getElem hi, List.filter_append, List.map_append]
  simp [h]
theorem links_no {x : Int} {es : List TEdge} {i : Nat} (hi : i < es.length) (h : ¬ es[i].1 = x) : linksOf x (es.take (i + 1)) = linksOf x (es.take i) := by
  unfold linksOf
  rw [List.take_succ_eq_append_getElem hi, List.filter_append, List.map_append]
  simp [h]
theorem links_le (x : Int) (es : List TEdge) : (linksOf x es).length ≤ es.length := by
  unfold linksOf
  rw [List.length_map]
  exact List.length_filter_le ..
theorem links_ok {n x : Int} {es : List TEdge} (hg : graphOk n es) (hn : n ≤ 6) : lksOk x (linksOf x es) := by
  rw [graph_iff] at hg
  obtain ⟨h1, h2, h3, h4⟩ := hg
  have hp : (linksOf x es).Pairwise fun a b => a.1 < b.1 := by
    unfold linksOf
    rw [List.pairwise_map]
    refine (List.Pairwise.filter _ h4).imp_of_mem fun ha hb hab => ?_
    have q1 := (List.mem_filter.1 ha).2
    have q2 := (List.mem_filter.1 hb).2
    simp at q1 q2
    unfold elt at hab
    unfold toLink
    simp only
    omega
  rw [List.pairwise_iff_getElem] at hp
  intro i hi
  have hm := List.getElem_mem hi
  unfold linksOf at hm
  obtain ⟨e, he, hee⟩ := List.mem_map.1 hm
  obtain ⟨he1, he2⟩ := List.mem_filter.1 he
  obtain ⟨g1, g2, g3, g4⟩ := h3 e he1
  simp at he2
  unfold lkOk
  rw [lk_get hi, show (linksOf x es)[i] = toLink e from hee.symm]
  refine ⟨by unfold toLink; simp only; omega, by unfold toLink; simp only; omega, by unfold toLink; simp only; omega, fun hp0 => ?_⟩
  have := hp (i - 1) i (by omega) hi (by omega)
  rw [lk_get (by omega)]
  rw [show (linksOf x es)[i] = toLink e from hee.symm] at this
  exact this
def nextSeq (xs : List TLsa) (x : Int) : Int := if (findR xs x).2 then (findR xs x).1.seq + 1 else 1
def ownL (a : TNet) (x : Int) : TLsa := ⟨x, nextSeq (a.dbs.getD x.toNat []) x, 0, linksOf x a.up.es, [(256 * x, 8, 1)]⟩
theorem nextSeq_pos {xs : List TLsa} {x : Int} (hd : dbOk xs) : 1 ≤ nextSeq xs x := by
  unfold nextSeq
  split
  · rename_i h
    have := (findR_ok hd h).1.2.1
    omega
  · omega
theorem ownL_ok {a : TNet} {x : Int} (h : netOk a) (hx : 0 ≤ x ∧ x < a.up.n) : lsaOk (ownL a x) ↔ nextSeq (a.dbs.getD x.toNat []) x ≤ 1000000 := by
  constructor
  · intro h; exact h.2.1.2
  · intro hs
    have hn := h.2.1
    obtain ⟨hr, he, hd⟩ := db_at h hx
    have hlo := links_ok (x := x) h.1 hn
    have h1 := nextSeq_pos (x := x) (xs := a.dbs.getD x.toNat []) (by rw [he]; exact hd)
    refine ⟨⟨hx.1, by show x ≤ 9; omega⟩, ⟨h1, hs⟩, (by show (0 : Int) ≤ 0 ∧ (0 : Int) ≤ 60; decide), lks_len hlo, by simp [ownL], hlo, ?_⟩
    intro i hi
    have : i = 0 := by simp [ownL] at hi; omega
    subst this
    have h6 : x ≤ 6 := by omega
    have hx0 := hx.1
    unfold stOk
    simp only [ownL, rt, List.getD_cons_zero]
    refine ⟨⟨by omega, ⟨by omega, by omega⟩, ?_⟩, by omega, fun hh => by omega⟩
    have hp : psz 8 = 256 := by decide
    rw [hp]
    exact Int.mul_tmod_right ..
def announceN (a : TNet) (x : Int) : TNet := spreadN ⟨a.up, a.dbs.set x.toNat (installR (a.dbs.getD x.toNat []) (ownL a x)).1, a.wires, a.lost⟩ x (-1) (ownL a x)
def announceR (a : TNet) (x : Int) : TNet × Bool := if netOk a ∧ (0 ≤ x ∧ x < a.up.n) ∧ lsaOk (ownL a x) then (announceN a x, true) else (a, false)
theorem netOk_announce {a : TNet} {x : Int} (h : netOk a) (hx : 0 ≤ x ∧ x < a.up.n) (hl : lsaOk (ownL a x)) : netOk (announceN a x) := by
  obtain ⟨hr, he, hd⟩ := db_at h hx
  unfold announceN
  exact netOk_spread hl (netOk_db h (by rw [he]; exact install_ok hd)) fun e he => he
theorem announceR_sz {a : TNet} {x : Int} (h : bNet a) : bNet (announceR a x).1 := by
  unfold announceR
  split
  · rename_i hh
    exact small_sz (small_of (netOk_announce hh.1 hh.2.1 hh.2.2))
  · exact h
end Go.Proofs.YtohicpepcjgnaaaGreat
