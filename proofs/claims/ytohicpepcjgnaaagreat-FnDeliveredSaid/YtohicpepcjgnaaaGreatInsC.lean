/-
Contracts: an advertisement is installed in place; merging.
-/
import Derived.Test.YtohicpepcjgnaaaGreatInsP
set_option linter.all false
namespace Go.Proofs.YtohicpepcjgnaaaGreat
open Go Go.Abs Go.Proofs

theorem dp_rebase0 {α : Type} {T : Ty α} {H0 H : Heap} {a : α} {vs : List V} {o : Nat} (x : Ob) (h : Dp T H0 a vs H) (ho : H0 o ≠ none) : Dp T (upd H0 o x) a vs (upd H o x) := by
  obtain ⟨es, h1, h2⟩ := h
  refine ⟨es, h1, ?_⟩
  have : ∀ {es : List Ent} {H0 H : Heap}, Chain H0 es H → H0 o ≠ none → Chain (upd H0 o x) es (upd H o x) := by
    intro es
    induction es with
    | nil => intro H0 H h _; cases h; rfl
    | cons e es ih => rintro H0 H ⟨Hm, h1, h2⟩ ho; exact ⟨_, h1.rebase x ho, ih h2 fun hn => ho (sub_none h1.sub hn)⟩
  exact this h2 ho
/-- A database whose slice stands in row r of an object. -/
def DB (c : Bool) (H1 : Heap) (o : Nat) (rows : List (List V)) (r : Nat) (xs : List TLsa) (H : Heap) : Prop :=
  ∃ v, H1 o = none ∧ r < rows.length ∧ Dp (dbT c) (upd H1 o ⟨1, rows.set r [v]⟩) xs [v] H
theorem DB.sub {c : Bool} {H1 H : Heap} {o r : Nat} {rows : List (List V)} {xs : List TLsa} (h : DB c H1 o rows r xs H) : Abs.sub H1 H := by
  obtain ⟨v, h1, _, h2⟩ := h
  exact sub_trans (sub_fresh h1) h2.sub
theorem aField_p {off o r c : Nat} : aField off (.ptr o r c) = some (.ptr o r (c + off)) := rfl
theorem idx_low {Hn Hb : Heap} {n : Nat} {w i : V} {K : V → Prop} (h1 : bnd (aIndex Hn n w i) fun _ => True) (hs : Abs.sub Hn Hb) (h : bnd (aIndex Hb n w i) K) : bnd (aIndex Hn n w i) K := by
  obtain ⟨p, hp, _⟩ := bnd_elim h1
  rw [aIndex_up hp hs] at h
  rw [hp]; exact h
theorem row_ld {H : Heap} {o r : Nat} {rows : List (List V)} {v : V} (ho : H o = some ⟨1, rows.set r [v]⟩) (hr : r < rows.length) (f : Bool) : aLd f 1 H (.ptr o r 0) = partOf f 1 [v] 0 := by
  simp [aLd, Go.Abs.rowAt, ho, hr]
theorem row_st {H : Heap} {o r : Nat} {rows : List (List V)} {v v' : V} (ho : H o = some ⟨1, rows.set r [v]⟩) (hr : r < rows.length) (cv : cellsOf v' = [v'] ∧ cellOk v' = true ∧ notAny v' = true) : aSt 1 H (.ptr o r 0) v' = some (upd H o ⟨1, rows.set r [v']⟩) := by
  rw [aSt_own ho (row := [v]) (row' := [v']) (by simp [hr]) (by simp [stz_eq, putCells, cv])]
  simp
theorem DB.put {c : Bool} {H1 H Hb : Heap} {o r : Nat} {rows : List (List V)} {xs : List TLsa} {x : Ob} {v : V} (ho : H1 o = none) (hr : r < rows.length) (h : Dp (dbT c) (upd H1 o x) xs [v] H) (hs : Abs.sub H Hb) :
    DB c H1 o rows r xs (upd H o ⟨1, rows.set r [v]⟩) ∧ Abs.sub (upd H o ⟨1, rows.set r [v]⟩) (upd Hb o ⟨1, rows.set r [v]⟩) := by
  have := dp_rebase0 (o := o) ⟨1, rows.set r [v]⟩ h (by rw [upd_eq]; simp)
  rw [upd_upd] at this
  exact ⟨⟨v, ho, hr, this⟩, sub_upd2 hs⟩
set_option maxHeartbeats 2000000 in
theorem C_p_i_Db_install {b' c : Bool} {xs : List TLsa} {l : TLsa} {vs : List V} {o r : Nat} {rows : List (List V)} {H1 Hn H : Heap} {K : V → Heap → Prop} (hn : DB c H1 o rows r xs Hn) (hs : Abs.sub Hn H) (hv : (lsaT false).rd H l vs) (hd : dbOk xs) (hl : lsaOk l)
    (h : ∀ H' Hn', DB c H1 o rows r (installR xs l).1 Hn' → Abs.sub Hn' H' → K (.int .i64 (installR xs l).2) H') : ACalls P n_p_i_Db_install [.ptr o r 0, .agg vs] H K := by
  have hn0 := hn
  obtain ⟨v, ho, hr, h3⟩ := hn
  have cv := dpS_cell h3
  have hbox : Hn o = some ⟨1, rows.set r [v]⟩ := h3.sub _ _ (upd_eq _ _ _)
  have hBn : Abs.sub (upd H1 o ⟨1, rows.set r [v]⟩) Hn := h3.sub
  have hv' := hv
  obtain ⟨lv, sv, rfl, g1, g2⟩ := hv
  have hcc := lsa_cell g1 g2
  have hl4 := hl.2.2.2.1
  have hl5 := hl.2.2.2.2.1
  have hxl := db_len hd
  have hin : installR xs l = if offerR xs l = 0 then (putL l xs, 0) else (xs, offerR xs l) := by unfold installR; rw [if_pos ⟨hd, hl⟩]
  rw [hin] at h
  apply W_p_i_Db_install
  unfold F_p_i_Db_install
  simp [hcc]
  refine ⟨Hn, hs, ?_⟩
  simp [aNil, row_ld hbox hr, cv]
  refine C_i_Db_offer ((dbT c).mono h3.rd hs) hv' hd hl ⟨hs, ?_⟩
  simp
  refine ⟨fun q => ?_, fun q => ?_⟩
  rotate_left
  · rw [if_neg q] at h
    exact Ret.of (h _ _ hn0 hs)
  rw [if_pos q] at h
  rw [q]
  refine ⟨Hn, hs, ?_⟩
  simp [row_ld hbox hr, cv]
  refine C_i_Db_find ((dbT c).mono h3.rd hs) hd fun i e1 e2 e3 => ⟨hs, ?_⟩
  simp [aExtract]
  have hloc : ∀ {us : List V} {H2 : Heap}, Dp (lsaT c) H l us H2 → ∃ Hx, Dp (lsaT c) Hn l us Hx ∧ Abs.sub Hx H2 := fun hus => hus.shrink hs
  refine ⟨fun f1 f2 => ?_, fun f => ?_⟩
  · -- in its place
    refine ⟨Hn, hs, ?_⟩
    simp [aField_p, row_ld hbox hr, cv]
    refine C_i_ownLsa (c := c) hv' (by omega) fun us H2 hus => ⟨sub_trans hs hus.sub, ?_⟩
    obtain ⟨Hx, hus2, hsx⟩ := hloc hus
    have cus : us.length = 5 := (lsaT c).len hus.rd
    have hset := putL_set (l := l) hd f1 f2
    rw [hset] at h
    refine idx_low (rdS_idx h3.rd (by omega) (by simpa using f1) fun _ _ _ _ => trivial) (sub_trans hs hus.sub) ?_
    refine dpS_set (T := lsaT c) h3 hus2 hsx (by omega) (by simpa using f1) fun p hst => ?_
    refine ⟨noHeap, none_sub _, ?_⟩
    obtain ⟨l2, s2, Hm, rfl, w1, w2⟩ := lsa_dp hus
    have c1 := w1.cell
    have c2 := w2.cell
    refine hst _ _ (fun row hrow => by
      simp [stz, c1, c2, hrow, lsaT, putCells]
      ) fun H' H'' q1 q2 => ?_
    refine ⟨none_sub _, Ret.of (h _ _ ⟨v, ho, hr, by simpa using q1⟩ q2)⟩
  · -- a new one
    refine ⟨upd H1 o ⟨1, rows.set r [v]⟩, sub_trans hBn hs, ?_⟩
    simp [aField_p, row_ld (upd_eq H1 o _) hr, cv]
    refine C_i_ownLsa (c := c) hv' (by omega) fun us H2 hus => ⟨sub_trans (sub_trans hBn hs) hus.sub, ?_⟩
    obtain ⟨Hx, hus2, hsx⟩ := hloc hus
    have hf : ¬ (i < xs.length ∧ og xs i = l.origin) := fun hh => f hh.1 hh.2
    have hput := putL_put (l := l) hd e1 e2 (split_lt hd e3 hf)
    rw [hput] at h
    obtain ⟨l2, s2, Hm, rfl, w1, w2⟩ := lsa_dp hus
    have c1 := w1.cell
    have c2 := w2.cell
    simp [bsl_one, c1, c2]
    intro q0 hq0
    refine ⟨sub_trans (sub_trans (sub_trans hBn hs) hus.sub) (sub_fresh hq0), ?_⟩
    refine C_Insert_Lsa h3 hus2 (sub_trans hsx (sub_fresh hq0)) (upd_eq _ _ _) (sub_none hsx hq0) e1 (by omega) fun v' H' H'' q1 q2 => ?_
    have cv' := dpS_cell q1
    have hB2 : Abs.sub (upd H1 o ⟨1, rows.set r [v]⟩) H' := sub_trans q1.sub q2
    refine ⟨hB2, noHeap, none_sub _, ?_⟩
    rw [row_st (hB2 _ _ (upd_eq _ _ _)) hr cv']
    simp only [bnd_some]
    obtain ⟨g3, g4⟩ := DB.put (c := c) (r := r) ho hr q1 q2
    exact ⟨none_sub _, Ret.of (h _ _ g3 g4)⟩
end Go.Proofs.YtohicpepcjgnaaaGreat
