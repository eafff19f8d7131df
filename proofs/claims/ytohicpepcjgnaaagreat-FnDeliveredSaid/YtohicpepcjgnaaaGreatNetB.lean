/-
Nets: a net in a box at the bottom; one database of it opened.
-/
import Derived.Test.YtohicpepcjgnaaaGreatNtM
import Derived.Test.YtohicpepcjgnaaaGreatInsC
set_option linter.all false
namespace Go.Proofs.YtohicpepcjgnaaaGreat
open Go Go.Abs Go.Proofs

theorem held_unbox {H0 H : Heap} {sz : Nat} {rows : List (List V)} {v : V} {o : Nat} {x : Ob} (h : Held (upd H0 o x) sz rows v H) (ho : H0 o = none) : ∃ Y, H = upd Y o x ∧ Y o = none ∧ Held H0 sz rows v Y := by
  rcases h with ⟨h1, h2, rfl⟩ | ⟨p, cap, h1, h2, hc, rfl⟩
  · exact ⟨H0, rfl, ho, .inl ⟨h1, h2, rfl⟩⟩
  · obtain ⟨hne, hp⟩ := upd_none h1
    exact ⟨upd H0 p ⟨sz, rows⟩, upd_comm _ _ (Ne.symm hne), by rw [upd_off (Ne.symm hne)]; exact ho, .inr ⟨p, cap, hp, h2, hc, rfl⟩⟩
theorem chain_unbox {o : Nat} {x : Ob} : ∀ {es : List Ent} {H0 H : Heap}, Chain (upd H0 o x) es H → H0 o = none → ∃ Y, H = upd Y o x ∧ Y o = none ∧ Chain H0 es Y
  | [], H0, _, h, ho => by cases h; exact ⟨H0, rfl, ho, rfl⟩
  | e :: es, H0, H, ⟨Hm, h1, h2⟩, ho => by
    obtain ⟨Y, rfl, hY, q1⟩ := held_unbox h1 ho
    obtain ⟨Z, rfl, hZ, q2⟩ := chain_unbox h2 hY
    exact ⟨Z, rfl, hZ, Y, q1, q2⟩
theorem dp_unbox {α : Type} {T : Ty α} {H0 H : Heap} {a : α} {vs : List V} {o : Nat} {x : Ob} (h : Dp T (upd H0 o x) a vs H) (ho : H0 o = none) : ∃ Y, H = upd Y o x ∧ Y o = none ∧ Dp T H0 a vs Y := by
  obtain ⟨es, h1, h2⟩ := h
  obtain ⟨Y, q1, q2, q3⟩ := chain_unbox h2 ho
  exact ⟨Y, q1, q2, es, h1, q3⟩
/-- A net that is wholly one's own, in a box of its own. -/
structure NB (c : Bool) (H0 : Heap) (o : Nat) (a : TNet) (e d w : V) (H : Heap) : Prop where
  fresh : H0 o = none
  own : Dp (netT c) (upd H0 o ⟨5, [netRow a e d w]⟩) a (netRow a e d w) H
theorem NB.of {c : Bool} {H0 H : Heap} {o : Nat} {a : TNet} {e d w : V} (h : Dp (netT c) H0 a (netRow a e d w) H) (ho : H o = none) : NB c H0 o a e d w (upd H o ⟨5, [netRow a e d w]⟩) := ⟨sub_none h.sub ho, dp_box _ h ho⟩
theorem nb_parts {c : Bool} {H0 H : Heap} {o : Nat} {a : TNet} {e d w : V} (h : NB c H0 o a e d w H) : ∃ H1 H2, Held (upd H0 o ⟨5, [netRow a e d w]⟩) 3 (a.up.es.map enEdge) e H1 ∧ Dp (dbsT c) H1 a.dbs [d] H2 ∧ Dp (wiresT c) H2 a.wires [w] H := by
  obtain ⟨e', d', w', H1, H2, q, q1, q2, q3⟩ := net_dp h.own
  simp at q
  obtain ⟨rfl, rfl, rfl⟩ := q
  exact ⟨H1, H2, q1, q2, q3⟩
theorem NB.sub {c : Bool} {H0 H : Heap} {o : Nat} {a : TNet} {e d w : V} (h : NB c H0 o a e d w H) : Abs.sub H0 H := sub_trans (sub_fresh h.fresh) h.own.sub
theorem NB.box {c : Bool} {H0 H : Heap} {o : Nat} {a : TNet} {e d w : V} (h : NB c H0 o a e d w H) : H o = some ⟨5, [netRow a e d w]⟩ := h.own.sub _ _ (upd_eq _ _ _)
theorem NB.cell {c : Bool} {H0 H : Heap} {o : Nat} {a : TNet} {e d w : V} (h : NB c H0 o a e d w H) : okV e ∧ okV d ∧ okV w := by
  obtain ⟨H1, H2, q1, q2, q3⟩ := nb_parts h
  exact ⟨q1.cell, dpS_cell q2, dpS_cell q3⟩
/-- The messages on top, the rest below. -/
theorem NB.split {c : Bool} {H0 H : Heap} {o : Nat} {a : TNet} {e d w : V} (h : NB c H0 o a e d w H) : ∃ Y1 Y2, Held H0 3 (a.up.es.map enEdge) e Y1 ∧ Dp (dbsT c) Y1 a.dbs [d] Y2 ∧ NW c Y2 o a e d H := by
  obtain ⟨H1, H2, q1, q2, q3⟩ := nb_parts h
  obtain ⟨Y1, rfl, hY1, p1⟩ := held_unbox q1 h.fresh
  obtain ⟨Y2, rfl, hY2, p2⟩ := dp_unbox q2 hY1
  exact ⟨Y1, Y2, p1, p2, w, hY2, q1.cell, dpS_cell q2, q3⟩
theorem NB.join {c : Bool} {H0 Y1 Y2 H : Heap} {o : Nat} {a : TNet} {e d : V} (h1 : Held H0 3 (a.up.es.map enEdge) e Y1) (h2 : Dp (dbsT c) Y1 a.dbs [d] Y2) (h : NW c Y2 o a e d H) : ∃ w, NB c H0 o a e d w H := by
  obtain ⟨w, ho, _, _, h3⟩ := h
  have hY1 := sub_none h2.sub ho
  exact ⟨w, sub_none h1.sub hY1, Dp.net (held_box _ h1 hY1) (dp_box _ h2 ho) h3⟩
theorem NB.leave {c : Bool} {H0 H : Heap} {o : Nat} {a : TNet} {e d w : V} (h : NB c H0 o a e d w H) : ∃ H', Dp (netT c) H0 a (netRow a e d w) H' ∧ Abs.sub H' H := h.own.shrink (sub_fresh h.fresh)
/-- Something else, made later, is put under it. -/
theorem NB.under {c : Bool} {α : Type} {T : Ty α} {H0 H Hb H2 : Heap} {o : Nat} {a : TNet} {e d w : V} {x : α} {us : List V} (h : NB c H0 o a e d w H) (hs : Abs.sub H Hb) (hx : Dp T Hb x us H2) : ∃ Y H', Dp T H0 x us Y ∧ NB c Y o a e d w H' ∧ Abs.sub H' H2 := by
  obtain ⟨Hx, h1, h2⟩ := hx.shrink hs
  obtain ⟨Hm, h3, h4⟩ := Dp.swap h.own h1
  obtain ⟨Y, rfl, h5, h6⟩ := dp_unbox h3 h.fresh
  exact ⟨Y, Hx, h6, ⟨h5, h4⟩, h2⟩
/-- One database opened. -/
theorem NB.elem {c : Bool} {H0 H : Heap} {o r : Nat} {a : TNet} {e d w : V} (h : NB c H0 o a e d w H) (hr : r < a.dbs.length) :
    ∃ od cap Yw rows, d = .slice od 0 a.dbs.length cap ∧ rows.length = a.dbs.length ∧ DB c Yw od rows r a.dbs[r] H ∧ Abs.sub (upd H0 o ⟨5, [netRow a e d w]⟩) Yw ∧
      ∀ db' H', DB c Yw od rows r db' H' → NB c H0 o ⟨a.up, a.dbs.set r db', a.wires, a.lost⟩ e d w H' := by
  have hf := h.fresh
  obtain ⟨H1, H2, q1, q2, q3⟩ := nb_parts h
  obtain ⟨rows, A, ee, B, hl, hw, o1, ⟨v, o2, o3⟩, o4, hc⟩ := dpS_open q2 hr
  obtain ⟨ws, w1, w2⟩ := q3
  -- all of it, the opened part last
  have hall : Chain (upd H0 o ⟨5, [netRow a e d w]⟩) ([⟨3, a.up.es.map enEdge, e⟩] ++ ((A ++ ee ++ B ++ [⟨1, rows, d⟩]) ++ ws)) H :=
    Chain.append.2 ⟨H1, Chain.one.2 q1, Chain.append.2 ⟨H2, hc, w2⟩⟩
  have hperm : ∀ (X : List Ent) (D : Ent), ([(⟨3, a.up.es.map enEdge, e⟩ : Ent)] ++ ((A ++ X ++ B ++ [D]) ++ ws)).Perm ((([(⟨3, a.up.es.map enEdge, e⟩ : Ent)] ++ A ++ B ++ ws) ++ [D]) ++ X) := fun X D => by
    have p1 : (A ++ X ++ B ++ [D] ++ ws).Perm (A ++ (B ++ (ws ++ ([D] ++ X)))) := by
      rw [List.append_assoc, List.append_assoc, List.append_assoc]
      refine List.Perm.append_left A ?_
      have s1 : (X ++ (B ++ ([D] ++ ws))).Perm ((B ++ ([D] ++ ws)) ++ X) := List.perm_append_comm
      refine s1.trans ?_
      rw [List.append_assoc, List.append_assoc]
      refine List.Perm.append_left B ?_
      have s2 : ([D] ++ (ws ++ X)).Perm ((ws ++ X) ++ [D]) := List.perm_append_comm
      refine s2.trans ?_
      rw [List.append_assoc]
      exact List.Perm.append_left ws List.perm_append_comm
    have := List.Perm.append_left [(⟨3, a.up.es.map enEdge, e⟩ : Ent)] p1
    simpa [List.append_assoc] using this
  obtain ⟨Yd, c1, c2⟩ := Chain.append.1 (hall.perm (hperm ee ⟨1, rows, d⟩))
  obtain ⟨Yw, c3, c4⟩ := Chain.append.1 c1
  have c4 : Held Yw 1 rows d Yd := Chain.one.1 c4
  have hwl : v.length = 1 := by
    obtain ⟨hi, he⟩ := List.getElem?_eq_some_iff.1 o2
    rw [← he]; exact hw _ (List.getElem_mem hi)
  obtain ⟨x, rfl⟩ : ∃ x, v = [x] := by
    match v, hwl with
    | [x], _ => exact ⟨x, rfl⟩
  have hset : rows.set r [x] = rows := by
    obtain ⟨hi, he⟩ := List.getElem?_eq_some_iff.1 o2
    rw [← he]; simp
  rcases c4 with ⟨_, hn, _⟩ | ⟨od, cap, ho, hd, hcap, hYd⟩
  · rw [hn] at hl; simp at hl; omega
  · refine ⟨od, cap, Yw, rows, by rw [← hl]; exact hd, hl, ⟨x, ho, by omega, ee, o3, ?_⟩, c3.sub, ?_⟩
    · rw [hset, ← hYd]; exact c2
    · rintro db' H' ⟨x', _, hrl, es', s1, s2⟩
      have h4 : Held Yw 1 (rows.set r [x']) d (upd Yw od ⟨1, rows.set r [x']⟩) := .inr ⟨od, cap, ho, by simpa using hd, by simpa using hcap, rfl⟩
      have hall' : Chain (upd H0 o ⟨5, [netRow a e d w]⟩) ((([(⟨3, a.up.es.map enEdge, e⟩ : Ent)] ++ A ++ B ++ ws) ++ [(⟨1, rows.set r [x'], d⟩ : Ent)]) ++ es') H' := Chain.append.2 ⟨_, Chain.append.2 ⟨Yw, c3, Chain.one.2 h4⟩, s2⟩
      have hall' := hall'.perm (hperm es' ⟨1, rows.set r [x'], d⟩).symm
      obtain ⟨Z1, z1, z2⟩ := Chain.append.1 hall'
      obtain ⟨Z2, z3, z4⟩ := Chain.append.1 z2
      have hdbs : Dp (dbsT c) Z1 (a.dbs.set r db') [d] Z2 := by
        refine ⟨_, ⟨d, rows.set r [x'], A ++ es' ++ B, rfl, ?_, OwnL.put hr hl.symm o1 s1 o4, rfl⟩, z3⟩
        intro y hy
        rcases List.mem_or_eq_of_mem_set hy with hy | rfl
        · exact hw _ hy
        · rfl
      exact ⟨hf, Dp.net (a := ⟨a.up, a.dbs.set r db', a.wires, a.lost⟩) (Chain.one.1 z1) hdbs ⟨ws, w1, z4⟩⟩
end Go.Proofs.YtohicpepcjgnaaaGreat
