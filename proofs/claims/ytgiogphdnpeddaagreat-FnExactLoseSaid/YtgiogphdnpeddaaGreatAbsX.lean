/-
A slice of unknown capacity, opened: its spare cells as rows of which nothing is known; and closed again.
-/
import Derived.Test.YtgiogphdnpeddaaGreatAbsW
set_option linter.all false
namespace Go.Abs
variable {P : Program}

theorem RelH.reob {w0 : World} {base : Nat} {ι : Nat → Option Place} {G : Heap} {w : World} (h : RelH w0 base ι G w) {o : Nat} {ob ob' : Ob} (ho : G o = some ob)
    (hr : ∀ p cells, ι o = some p → p.w = ob.w → cells.size = p.size → RowsRel w0 base ι ob cells → ob'.w = ob.w ∧ RowsRel w0 base ι ob' cells) : RelH w0 base ι (upd G o ob') w := by
  refine ⟨fun i x hx => ?_, fun o1 o2 b1 b2 p1 p2 g1 g2 e1 e2 he => ?_, h.low, h.base_le, ?_⟩
  · by_cases hi : i = o
    · subst hi
      rw [upd_same] at hx; cases hx
      obtain ⟨p, cells, ty, h1, h2, h3, h4, h5, h6⟩ := h.get ho
      obtain ⟨q1, q2⟩ := hr p cells h1 h2 h5 h6
      exact ⟨p, cells, ty, h1, by rw [h2, q1], h3, h4, h5, by rw [← h5]; exact q2.1, q2.2⟩
    · rw [upd_ne _ _ hi] at hx
      exact h.obj i x hx
  · have key : ∀ i b, upd G o ob' i = some b → ∃ b', G i = some b' := fun i b hb => by
      by_cases hi : i = o
      · subst hi; exact ⟨_, ho⟩
      · rw [upd_ne _ _ hi] at hb; exact ⟨_, hb⟩
    obtain ⟨c1, d1⟩ := key _ _ g1
    obtain ⟨c2, d2⟩ := key _ _ g2
    exact h.inj o1 o2 c1 c2 p1 p2 d1 d2 e1 e2 he
  · obtain ⟨N, hN⟩ := h.fin
    refine ⟨N, fun i hi => ?_⟩
    have := hN i hi
    have hne : i ≠ o := by rintro rfl; rw [this.2] at ho; cases ho
    exact ⟨this.1, by rw [upd_ne _ _ hne]; exact this.2⟩

theorem sub_both {H G : Heap} (o : Nat) (x : Ob) (h : sub H G) : sub (upd H o x) (upd G o x) := fun i y hi => by
  unfold upd at *
  split
  · rename_i e; rw [if_pos e] at hi; exact hi
  · rename_i e; rw [if_neg e] at hi; exact h _ _ hi

/-- The first argument, opened. -/
theorem ACalls.opened {f : FuncId} {o n sz : Nat} {rows : List (List V)} {args : List V} {H : Heap} {R : V → Heap → Prop} (ho : H o = some ⟨sz, rows⟩) (hn : rows.length = n)
    (h : ∀ c ex, (∀ r ∈ ex, r.length = sz) → n + ex.length = c → ACalls P f (.slice o 0 n (some c) :: args) (upd H o ⟨sz, rows ++ ex⟩) R) : ACalls P f (.slice o 0 n none :: args) H R := by
  refine ⟨fun w0 base F ι G w cargs hrel hsub hF hdis hargs => ?_⟩
  obtain ⟨cv, cvs, rfl, hv, hvs⟩ := hargs.cases_cons
  have hG := hsub _ _ ho
  have hFo := hdis _ _ ho
  have main : ∀ c ex, (∀ r ∈ ex, r.length = sz) → n + ex.length = c → RelV w0 base ι (.slice o 0 n (some c)) cv → RelH w0 base ι (upd G o ⟨sz, rows ++ ex⟩) w →
      Calls P f (cv :: cvs).toArray w fun e w' => ∃ v cv ι' G' H', e = .returned cv ∧ RelV w0 base ι' v cv ∧ ile ι ι' ∧ RelH w0 base ι' G' w' ∧ sub H' G' ∧ sub F G' ∧ disj H' F ∧ R v H' := fun c ex h1 h2 h3 h4 => by
    refine (h c ex h1 h2).run w0 base F ι _ w _ h4 (sub_both _ _ hsub) (fun i x hi => ?_) (fun i x hi => ?_) (RelL.cons h3 hvs)
    · have hne : i ≠ o := by rintro rfl; rw [hFo] at hi; cases hi
      rw [upd_ne _ _ hne]; exact hF _ _ hi
    · by_cases hio : i = o
      · subst hio; exact hFo
      · rw [upd_ne _ _ hio] at hi; exact hdis _ _ hi
  cases hv with
  | @slice _ _ _ _ p c hp hnc hc hk =>
    refine main c (List.replicate (c - n) (List.replicate sz .any)) (fun r hr => ?_) (by simp; omega) (.slice hp hnc hc (by intro k hk; cases hk; rfl)) (hrel.reob hG fun p' cells q1 q2 q3 q4 => ⟨rfl, ?_⟩)
    · rw [List.eq_of_mem_replicate hr]; simp
    · rw [hp] at q1; cases q1
      have hfit : c * sz ≤ cells.size := by
        rw [q3]; simp only [Nat.zero_add] at hc; rw [q2] at hc; exact hc
      refine ⟨?_, fun r row hr => ?_, q4.2.2⟩
      · simp only [List.length_append, List.length_replicate]
        have : rows.length + (c - n) = c := by omega
        rw [this]; exact hfit
      · by_cases hlt : r < rows.length
        · rw [List.getElem?_append_left hlt] at hr
          exact q4.2.1 r row hr
        · rw [List.getElem?_append_right (by omega)] at hr
          have hr' := hr
          rw [List.getElem?_replicate] at hr'
          split at hr'
          · rename_i hrc
            cases hr'
            refine ⟨by simp, fun j v hj => ?_⟩
            have hj' := hj
            rw [List.getElem?_replicate] at hj'
            split at hj'
            · rename_i hjs
              cases hj'
              have hlt2 : r * sz + j < cells.size := by
                have := Nat.mul_le_mul_right sz (show r + 1 ≤ c by omega)
                rw [Nat.add_mul] at this; omega
              exact ⟨cells[r * sz + j], by simp [hlt2], .any _, .inr ⟨rfl, q4.2.2 (r * sz + j) _ (by simp [hlt2])⟩⟩
            · cases hj'
          · cases hr'
  | @sliceE _ _ _ p a hp hk =>
    refine main 0 [] (by simp) (by simp) (.sliceE a hp (by intro k hk; cases hk; rfl)) (hrel.reob hG fun p' cells q1 q2 q3 q4 => ⟨rfl, by simpa using q4⟩)

/-- A result, closed. -/
theorem ACalls.closed {f : FuncId} {args : List V} {H : Heap} {R R' : V → Heap → Prop} (h : ACalls P f args H R)
    (hk : ∀ v H', R v H' → R' v H' ∨ ∃ o n c sz rows ex, v = .slice o 0 n (some c) ∧ H' o = some ⟨sz, rows ++ ex⟩ ∧ R' (.slice o 0 n none) (upd H' o ⟨sz, rows⟩)) : ACalls P f args H R' := by
  refine ⟨fun w0 base F ι G w cargs hrel hsub hF hdis hargs => Calls.mono (h.run w0 base F ι G w cargs hrel hsub hF hdis hargs) fun e w' hh => ?_⟩
  obtain ⟨v, cv, ι', G', H', r1, r2, r3, r4, r5, r6, r7, r8⟩ := hh
  rcases hk v H' r8 with h | ⟨o, n, c, sz, rows, ex, rfl, ho, hR⟩
  · exact ⟨v, cv, ι', G', H', r1, r2, r3, r4, r5, r6, r7, h⟩
  · have hG := r5 _ _ ho
    have hFo := r7 _ _ ho
    refine ⟨.slice o 0 n none, cv, ι', upd G' o ⟨sz, rows⟩, _, r1, ?_, r3, r4.reob hG fun p cells q1 q2 q3 q4 => ⟨rfl, ?_, fun r row hr => ?_, q4.2.2⟩, sub_both _ _ r5, fun i x hi => ?_, fun i x hi => ?_, hR⟩
    · cases r2 with
      | slice hp hnc hc hk => exact .slice hp hnc hc (by intro k hk; cases hk)
      | sliceE a hp hk => exact .sliceE a hp (by intro k hk; cases hk)
    · refine Nat.le_trans (Nat.mul_le_mul_right _ ?_) q4.1
      simp
    · have hlt := (List.getElem?_eq_some_iff.1 hr).1
      exact q4.2.1 r row (by rw [List.getElem?_append_left hlt]; exact hr)
    · have hne : i ≠ o := by rintro rfl; rw [hFo] at hi; cases hi
      rw [upd_ne _ _ hne]; exact r6 _ _ hi
    · by_cases hio : i = o
      · subst hio; exact hFo
      · rw [upd_ne _ _ hio] at hi; exact r7 _ _ hi
end Go.Abs
