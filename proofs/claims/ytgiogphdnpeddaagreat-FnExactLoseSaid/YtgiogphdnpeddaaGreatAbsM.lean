/-
The abstract layer, part M: every operation.
-/
import Derived.Test.YtgiogphdnpeddaaGreatAbsL
set_option linter.all false
namespace Go.Abs
open Go.RowKit (Below)

section
variable {P : Program} {g : Cfg} {w0 : World} {base : Nat} {F : Heap} {ι : Nat → Option Place} {β : Nat → Option Nat} {G : Heap} {env : List V} {H : Heap} {a : Act} {w : World}
variable {next : Act → World → Prop} {Q : Exit → Act → World → Prop} {K : List V → Heap → Prop}

theorem run_callFunc {f : FuncId} (h : enterable P f = true) (args : Array Value) (w : World) : (callFunc f args).run P w = .ok (.enter f args) w := by
  unfold enterable at h
  split at h
  · rename_i fn hf
    simp only [Bool.and_eq_true, Bool.not_eq_true'] at h
    obtain ⟨h1, h2⟩ := h
    have hn : ¬ (fn.body.isNone = true) := by
      cases hb : fn.body with
      | none => rw [hb] at h1; cases h1
      | some b => simp
    simp only [callFunc, Sem.run_bind, run_program, Result.andThen_ok, hf, h2, Bool.false_eq_true, if_false, if_neg hn]
    rfl
  · cases h

theorem St.outer (hs : St g w0 base F ι β G env H a w) : ∃ F', Abs.sub F' G ∧ disj H F' ∧ Abs.sub F F' ∧ (∀ s i, β s = some i → H i = none ∧ (∀ x, G i = some x → F' i = some x)) ∧ ∀ i x, F' i = some x → H i = none := by
  refine ⟨fun i => match H i with | some _ => none | none => G i, fun i x h => ?_, fun i x h => ?_, fun i x h => ?_, fun s i h => ⟨(hs.bout s i h).1, fun x hx => ?_⟩, fun i x h => ?_⟩
  · dsimp only at h; split at h
    · cases h
    · exact h
  · dsimp only; rw [h]
  · dsimp only
    cases hH : H i with
    | some y => have := hs.dis i y hH; rw [h] at this; cases this
    | none => exact hs.frm i x h
  · dsimp only; rw [(hs.bout s i h).1]; exact hx
  · dsimp only at h; split at h
    · cases h
    · rename_i hn; exact hn

/-- A call. -/
theorem call_sound (hs : St g w0 base F ι β G env H a w) {f : FuncId} {args : List V} {cargs : List Value} (ha : RelL w0 base ι args cargs) {R : V → Heap → Prop} (hc : ACalls P f args H R)
    {T : Ending → World → Prop} (hT : ∀ cv w', Made g w0 base F ι β env a R cv w' → T (.returned cv) w') : Calls P f cargs.toArray w T := by
  obtain ⟨F', h1, h2, h3, h4, h5⟩ := hs.outer
  refine (hc.run w0 base F' ι G w cargs hs.heap hs.sub h1 h2 ha).mono fun e w' h => ?_
  obtain ⟨v, cv, ι', G', H', rfl, hv, hi, hrel, hsub, hfrm, hdis, hR⟩ := h
  refine hT cv w' ⟨ι', G', v, H', hi, ⟨hrel, hsub, sub_trans h3 hfrm, fun i x hx => ?_, hs.len, fun s v cv e1 e2 => ?_, hs.binj, fun s i e => ⟨?_, (hs.bout s i e).2⟩, fun s i e => ?_, hs.nodef⟩, hv, hR⟩
  · have := hdis i x hx
    cases hF : F i with
    | none => rfl
    | some y => rw [h3 i y hF] at this; cases this
  · exact (hs.slot s v cv e1 e2).grow hi fun s i x q1 q2 => hfrm i x ((h4 s i q1).2 x q2)
  · cases hH' : H' i with
    | none => rfl
    | some y =>
      have hd := hdis i y hH'
      obtain ⟨x, hx⟩ := hs.bin s i e
      rw [(h4 s i e).2 x hx] at hd; cases hd
  · obtain ⟨x, hx⟩ := hs.bin s i e
    exact ⟨x, hfrm i x ((h4 s i e).2 x hx)⟩

theorem callK_sound (hs : St g w0 base F ι β G env H a w) (hn : Cont g w0 base F ι K next) {o : Oper} {c : Call} (ho : o.op = .call c) {xf : Operand} (hcal : c.callee = .value xf) {f : V} {args : List V}
    (hf : ev g env xf = some f) (ha : evs g env c.args.toList = some args) (hk : callK P H f args fun v H' => putK g env o.dst v fun env' => K env' H') : o.wp P a w next Q := by
  have hfv := ev_sound hs hf
  have hav := evs_sound hs ha
  unfold callK at hk
  split at hk
  · rename_i f' caps
    split at hk
    · rename_i hent
      generalize hcf : a.eval xf = cf at hfv
      cases hfv with
      | fn hl hcap =>
        rename_i cvs
        have hcaps : RelL w0 base ι caps cvs.toList := ⟨by simp [hl], fun i v cv h1 h2 => by
          obtain ⟨q1, rfl⟩ := List.getElem?_eq_some_iff.1 h1
          obtain ⟨q2, rfl⟩ := List.getElem?_eq_some_iff.1 h2
          exact hcap i q1 (by simpa using q2)⟩
        have hrun : (execOp a.eval o).run P w = .ok (.enter f' ((c.args.toList.map a.eval) ++ cvs.toList).toArray) w := by
          unfold execOp; rw [ho]
          simp only [resolve, hcal, hcf, Deferred.ofValue, Sem.run_bind, Sem.run_pure, Result.andThen_ok, invoke, run_callFunc hent]
          congr 2
          apply Array.ext'; simp
        unfold Oper.wp
        rw [hrun, Oper.upon_enter]
        refine call_sound hs (hav.append hcaps) hk fun cv w' hm => ?_
        obtain ⟨ι', G', v, H', hi, hs', hv, hkk⟩ := hm
        obtain ⟨env', hk', hs''⟩ := putK_sound hs' hv hkk
        exact hn _ _ _ _ _ _ _ hi hs'' hk'
    · exact hk.elim
  · exact hk.elim

theorem opK_sound (hs : St g w0 base F ι β G env H a w) (hn : Cont g w0 base F ι K next) {o : Oper} (hk : opK P g o env H K) : o.wp P a w next Q := by
  unfold opK at hk
  split at hk
  · rename_i x ho
    obtain ⟨v, hv, hk⟩ := bnd_elim hk
    exact value_sound hs hn (by unfold execOp; rw [ho]; rfl) (ev_sound hs hv) hk
  · rename_i x ho
    obtain ⟨v, hv, hk⟩ := bnd_elim hk
    exact value_sound hs hn (by unfold execOp; rw [ho]; rfl) (ev_sound hs hv) hk
  · rename_i xc xa xb ho
    obtain ⟨c, hc, hk⟩ := bnd_elim hk
    obtain ⟨x, hx, hk⟩ := bnd_elim hk
    obtain ⟨y, hy, hk⟩ := bnd_elim hk
    obtain ⟨v, hv, hk⟩ := bnd_elim hk
    obtain ⟨cv, q1, q2⟩ := aPick_sound (P := P) (w := w) (ev_sound hs hc) (ev_sound hs hx) (ev_sound hs hy) hv
    exact value_sound hs hn (by unfold execOp; rw [ho]; exact q1) q2 hk
  · rename_i t ho
    obtain ⟨z, hz, hk⟩ := bnd_elim hk
    obtain ⟨i, cz, hi, hzc, hrz, hna, hok⟩ := tZero_spec (w0 := w0) (base := base) (ι := ι) hz
    have hc := relL_cells hrz (notAny_ne hna)
    refine wp_value (cv := .pointer (some ⟨w.heap.size, 0, none⟩)) (w' := w.alloc (.cells cz.cells.toList.toArray t)) ?_ (newBox_sound hs hn t hc hok hk)
    unfold execOp; rw [ho]
    refine run_v ?_
    have hzv : (zeroValue t).run P w = .ok cz w := by simp [zeroValue, typeInfo, hi, hzc]
    simp only [Instr.alloc, Sem.run_bind, hzv, Result.andThen_ok]
    simp [run_newVar]
  · rename_i t x ho
    obtain ⟨v, hv, hok, hk⟩ := bnd_elim hk
    · have hc := relL_cells (ev_sound hs hv) (notAny_of_ok hok)
      refine wp_value (cv := .pointer (some ⟨w.heap.size, 0, none⟩)) (w' := w.alloc (.cells (a.eval x).cells.toList.toArray t)) ?_ (newBox_sound hs hn t hc hok hk)
      unfold execOp; rw [ho]
      refine run_v ?_
      simp [Instr.box, run_newVar]
  · rename_i t parts ho
    obtain ⟨ps, hps, hk⟩ := bnd_elim hk
    obtain ⟨z, hz, hk⟩ := bnd_elim hk
    split at hk
    · rename_i hok
      obtain ⟨cs, hcs, hk⟩ := bnd_elim hk
      obtain ⟨cv, q1, q2⟩ := build_sound (P := P) (w := w) (cps := parts.map fun (i, x) => (i, a.eval x)) (by simpa using evp_rel hs hps) hz hok hcs
      exact value_sound hs hn (by unfold execOp; rw [ho]; exact run_v q1) q2 hk
    · exact hk.elim
  · rename_i t len parts ho
    obtain ⟨ps, hps, hk⟩ := bnd_elim hk
    obtain ⟨e, he, hk⟩ := bnd_elim hk
    obtain ⟨sz, hsz, hk⟩ := bnd_elim hk
    obtain ⟨z, hz, hk⟩ := bnd_elim hk
    obtain ⟨rows, hf, hk⟩ := bnd_elim hk
    unfold bsl at hf
    split at hf
    · rename_i hc
      simp only [Bool.and_eq_true, decide_eq_true_eq] at hc
      exact buildSlice_sound hs hn ho hps he hsz hz hc.1.1.1 hc.1.1.2 hc.1.2 hc.2 hf hk
    · cases hf
  · rename_i t x ho
    obtain ⟨l, hl, hk⟩ := bnd_elim hk
    obtain ⟨v, hv, hk⟩ := bnd_elim hk
    obtain ⟨cv, q1, q2⟩ := aLoad_sound (P := P) hs (locOf_sound hs hl) hv
    exact value_sound hs hn (by unfold execOp; rw [ho]; exact run_v q1) q2 hk
  · rename_i t x xv ho
    split at hk
    · rename_i hd
      obtain ⟨l, hl, hk⟩ := bnd_elim hk
      obtain ⟨v, hv, hk⟩ := bnd_elim hk
      obtain ⟨w', q1, q2⟩ := storeK_sound (P := P) hs hn (locOf_sound hs hl) (ev_sound hs hv) hk
      exact wp_skipv (w' := w') (by unfold execOp; rw [ho]; exact run_u q1) (q2 _ hd)
    · exact hk.elim
  · rename_i t x f ho
    obtain ⟨l, hl, hk⟩ := bnd_elim hk
    obtain ⟨r, hr, hk⟩ := bnd_elim hk
    exact fieldK_sound hs hn ho hl hr hk
  · rename_i t x f ho
    obtain ⟨v, hv, hk⟩ := bnd_elim hk
    obtain ⟨r, hr, hk1⟩ := bnd_elim hk
    obtain ⟨cs0, hcs, hk3⟩ := bnd_elim hk1
    obtain ⟨v', hv', hk2⟩ := bnd_elim hk3
    clear hk hk1 hk3
    unfold aggOf at hcs
    split at hcs
    · cases hcs
      obtain ⟨cvs, hcv, hrel⟩ := relL_of_agg (ev_sound hs hv)
      obtain ⟨cv, q1, q2⟩ := part_sound (P := P) (w := w) hrel hv'
      obtain ⟨fs, fd, n, h1, h2, h3, rfl⟩ := tOff_spec hr
      refine value_sound hs hn (cv := cv) ?_ q2 hk2
      unfold execOp; rw [ho]
      refine run_v ?_
      simp only [Instr.field, Sem.run_bind, run_underlying h1, Result.andThen_ok, h2, hcv, asAgg, Sem.run_pure]
      exact q1
    · cases hcs
  · rename_i t x i ho
    obtain ⟨xv, hx, hk⟩ := bnd_elim hk
    obtain ⟨iv, hiv, hk⟩ := bnd_elim hk
    obtain ⟨e, he, hk⟩ := bnd_elim hk
    obtain ⟨sz, hsz, hk⟩ := bnd_elim hk
    obtain ⟨v, hv, hk⟩ := bnd_elim hk
    obtain ⟨cv, q1, q2⟩ := aIndex_sound (P := P) hs he hsz (ev_sound hs hx) (ev_sound hs hiv) hv
    exact value_sound hs hn (by unfold execOp; rw [ho]; exact run_v q1) q2 hk
  · rename_i t x lo hi mx ho
    obtain ⟨xv, hx, hk⟩ := bnd_elim hk
    obtain ⟨lov, hlo, hk⟩ := bnd_elim hk
    obtain ⟨hiv, hhi, hk⟩ := bnd_elim hk
    obtain ⟨mxv, hmx, hk⟩ := bnd_elim hk
    obtain ⟨e, he, hk⟩ := bnd_elim hk
    obtain ⟨sz, hsz, hk⟩ := bnd_elim hk
    obtain ⟨v, hv, hk⟩ := bnd_elim hk
    obtain ⟨cv, q1, q2⟩ := aSlice_sound (P := P) hs he hsz (ev_sound hs hx) (evo_sound hs hlo) (evo_sound hs hhi) (evo_sound hs hmx) hv
    exact value_sound hs hn (by unfold execOp; rw [ho]; exact run_v q1) q2 hk
  · rename_i t xl xc ho
    obtain ⟨l, hl, hk⟩ := bnd_elim hk
    obtain ⟨c, hc, hk⟩ := bnd_elim hk
    obtain ⟨l', hl', hk⟩ := bnd_elim hk
    obtain ⟨c', hc', hk⟩ := bnd_elim hk
    obtain ⟨e, he, hk⟩ := bnd_elim hk
    obtain ⟨sz, hsz, hk⟩ := bnd_elim hk
    obtain ⟨by_, hby, hk⟩ := bnd_elim hk
    obtain ⟨z, hz, hk⟩ := bnd_elim hk
    exact makeSlice_sound hs hn ho hl hc hl' hc' he hsz hby hz hk.1 hk.2
  · rename_i op t x y yt ho
    obtain ⟨xv, hx, hk⟩ := bnd_elim hk
    obtain ⟨yv, hy, hk⟩ := bnd_elim hk
    obtain ⟨v, hv, hk⟩ := bnd_elim hk
    obtain ⟨cv, q1, q2⟩ := aBin_sound (P := P) (w := w) (ox := x) (oy := y) (ev_sound hs hx) (ev_sound hs hy) (aBinS_le hv)
    exact value_sound hs hn (by unfold execOp; rw [ho]; exact run_v q1) q2 hk
  · rename_i t x ho
    obtain ⟨xv, hx, hk⟩ := bnd_elim hk
    obtain ⟨v, hv, hk⟩ := bnd_elim hk
    obtain ⟨cv, q1, q2⟩ := aNot_sound (P := P) (w := w) (ev_sound hs hx) hv
    exact value_sound hs hn (by unfold execOp; rw [ho]; exact run_v q1) q2 hk
  · rename_i t x ho
    obtain ⟨xv, hx, hk⟩ := bnd_elim hk
    obtain ⟨v, hv, hk⟩ := bnd_elim hk
    obtain ⟨cv, q1, q2⟩ := aNeg_sound (P := P) (w := w) (ev_sound hs hx) hv
    exact value_sound hs hn (by unfold execOp; rw [ho]; exact run_v q1) q2 hk
  · rename_i s d x ho
    obtain ⟨xv, hx, hk⟩ := bnd_elim hk
    obtain ⟨v, hv, hk⟩ := bnd_elim hk
    obtain ⟨cv, q1, q2⟩ := aConv_sound (P := P) (w := w) (ev_sound hs hx) hv
    exact value_sound hs hn (by unfold execOp; rw [ho]; exact run_v q1) q2 hk
  · rename_i x i ho
    obtain ⟨xv, hx, hk⟩ := bnd_elim hk
    obtain ⟨v, hv, hk⟩ := bnd_elim hk
    obtain ⟨cv, q1, q2⟩ := aExtract_sound (P := P) (w := w) (ev_sound hs hx) hv
    exact value_sound hs hn (by unfold execOp; rw [ho]; exact run_v q1) q2 hk
  · rename_i x ho
    obtain ⟨xv, hx, hk⟩ := bnd_elim hk
    have hxv := ev_sound hs hx
    obtain ⟨xv', hxn, hk⟩ := bnd_elim hk
    unfold aNil at hxn
    split at hxn
    · cases hxn
      obtain ⟨p, hp, hev⟩ := relV_ptr hxv
      exact value_sound hs hn (by unfold execOp; rw [ho]; simp only [hev]; rfl) (by rw [hev] at hxv; exact hxv) hk
    · cases hxn
      generalize hcv : a.eval x = cv at hxv
      cases hxv with
      | rop f hb hcell hrel => exact value_sound hs hn (by unfold execOp; rw [ho]; simp only [hcv]; rfl) (.rop f hb hcell hrel) hk
    · cases hxn
  · rename_i f first caps ho
    split at hk
    · rename_i hf
      obtain ⟨cs, hcs, hk⟩ := bnd_elim hk
      have hr := evs_sound hs hcs
      refine value_sound hs hn (cv := .func (.func f) #[] (caps.map a.eval)) ?_ ?_ hk
      · unfold execOp; rw [ho]
        have : first = #[] := by simpa using hf
        subst this
        exact run_v (by simp [Instr.makeFunc])
      · exact .fn (by simp [hr.1]) fun i h1 h2 => hr.2 i _ _ (by simp [h1]) (by simp at h2; simp [h2])
    · exact hk.elim
  · rename_i c ho
    split at hk
    · rename_i xf hcal
      obtain ⟨f, hf, hk⟩ := bnd_elim hk
      obtain ⟨args, ha, hk⟩ := bnd_elim hk
      exact callK_sound hs hn ho hcal hf ha hk
    · rename_i b hcal
      obtain ⟨args, ha, hk⟩ := bnd_elim hk
      obtain ⟨cv, w', q1, q2⟩ := builtin_sound (P := P) (ty := o.type) (cb := c.args.map fun | .const _ => true | _ => false) hs (evs_sound hs ha) hk
      refine made_value hn (cv := cv) (w' := w') ?_ q2
      unfold execOp; rw [ho]
      simp only [resolve, hcal, Sem.run_bind, Sem.run_pure, Result.andThen_ok, invoke]
      have e1 : (c.args.toList.map a.eval).toArray = c.args.map a.eval := by apply Array.ext'; simp
      have e2 : c.argTypes.toList.toArray = c.argTypes := by simp
      rw [e1, e2] at q1
      exact q1
    · exact hk.elim
  · exact hk.elim

end
end Go.Abs
