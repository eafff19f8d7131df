/-
The abstract layer, part F: each operation but the calls of built-in functions.
-/
import Derived.Test.YtgiogphdnpeddaaGreatAbsE
import Derived.Laws.StructEq
set_option linter.all false
namespace Go.Abs
open Go.RowKit (Below)

section
variable {P : Program} {g : Cfg} {w0 : World} {base : Nat} {F : Heap} {ι : Nat → Option Place} {β : Nat → Option Nat} {G : Heap} {env : List V} {H : Heap} {a : Act} {w : World}
variable {next : Act → World → Prop} {Q : Exit → Act → World → Prop} {K : List V → Heap → Prop}

theorem relV_int {k : IntKind} {n : Int} {cv : Value} (h : RelV w0 base ι (.int k n) cv) : cv = .int k n := by cases h; rfl
theorem relV_bool {b : Bool} {cv : Value} (h : RelV w0 base ι (.bool b) cv) : cv = .bool b := by cases h; rfl
theorem relV_ptr {o r c : Nat} {cv : Value} (h : RelV w0 base ι (.ptr o r c) cv) : ∃ p, ι o = some p ∧ cv = .pointer (some ⟨p.blk, r * p.w + c, none⟩) := by
  cases h with | ptr h => exact ⟨_, h, rfl⟩

theorem aNot_sound {x v : V} {cv : Value} (hv : RelV w0 base ι x cv) (h : aNot x = some v) : ∃ cv', (Op.unary .not cv).run P w = .ok cv' w ∧ RelV w0 base ι v cv' := by
  unfold aNot at h; split at h
  · cases h; rw [relV_bool hv]; exact ⟨_, rfl, .bool _⟩
  · cases h
theorem aNeg_sound {x v : V} {cv : Value} (hv : RelV w0 base ι x cv) (h : aNeg x = some v) : ∃ cv', (Op.unary .neg cv).run P w = .ok cv' w ∧ RelV w0 base ι v cv' := by
  unfold aNeg at h; split at h
  · cases h; rw [relV_int hv]; exact ⟨_, rfl, .int _ _⟩
  · cases h

theorem part_sound {t : TypeId} {off : Nat} {xs : List V} {cvs : List Value} {v : V} (hr : RelL w0 base ι xs cvs) (h : ldc P t xs off = some v) :
    ∃ cv, (part t cvs.toArray off).run P w = .ok cv w ∧ RelV w0 base ι v cv := by
  unfold ldc at h
  split at h
  · rename_i ag sz h1 h2
    cases ag with
    | true =>
      simp only [partOf] at h
      split at h
      · rename_i hc; cases h
        refine ⟨.agg ((cvs.drop off).take sz).toArray, ?_, relV_agg ⟨by simp [hr.1], fun i v cv e1 e2 => ?_⟩⟩
        · simp only [part, Sem.run_bind, run_isAgg h1, Result.andThen_ok, if_true, run_sizeOf h2]
          have : cvs.toArray.extract off (off + sz) = ((cvs.drop off).take sz).toArray := by
            apply Array.ext'; simp [List.extract_eq_take_drop]
          rw [this]; rfl
        · have hi : i < sz := by
            have := (List.getElem?_eq_some_iff.1 e1).1; simp at this; omega
          rw [List.getElem?_take, if_pos hi, List.getElem?_drop] at e1 e2
          exact hr.2 _ _ _ e1 e2
      · cases h
    | false =>
      simp only [partOf] at h
      have hlt : off < cvs.length := by rw [← hr.1]; exact (List.getElem?_eq_some_iff.1 h).1
      refine ⟨cvs[off], ?_, hr.2 off v _ h (by simp [hlt])⟩
      simp only [part, Sem.run_bind, run_isAgg h1, Result.andThen_ok, Bool.false_eq_true, if_false]
      simp [hlt]
  · cases h

theorem aEqFs_sound {d : Nat} {rec_ : TypeId → V → V → Option Bool} (hrec : ∀ t x y b cx cy, RelV w0 base ι x cx → RelV w0 base ι y cy → rec_ t x y = some b → (Op.equalIn d t cx cy).run P w = .ok b w)
    {xs ys : List V} {cxs cys : List Value} (hx : RelL w0 base ι xs cxs) (hy : RelL w0 base ι ys cys) :
    ∀ {fs : List Field} {b : Bool}, aEqFs P rec_ xs ys fs = some b → (Op.eqFields d cxs.toArray cys.toArray fs).run P w = .ok b w
  | [], b, h => by simp [aEqFs] at h; subst h; simp [Op.eqFields]
  | f :: fs, b, h => by
    unfold aEqFs at h
    split at h
    · cases h
    · rename_i hn
      split at h
      · rename_i x y h1 h2
        split at h
        · rename_i p q h3 h4
          cases h
          obtain ⟨cx, q1, q2⟩ := part_sound (P := P) (w := w) hx h1
          obtain ⟨cy, q3, q4⟩ := part_sound (P := P) (w := w) hy h2
          have he := hrec _ _ _ _ _ _ q2 q4 h3
          have ih := aEqFs_sound hrec hx hy h4
          have hn' : f.name ≠ "_" := by simpa using hn
          rw [Op.eqFields]
          simp only [if_pos hn', Sem.run_bind, q1, q3, he, Result.andThen_ok]
          cases p
          · simp
          · simpa using ih
        · cases h
      · cases h

theorem aEqT_sound : ∀ {n : Nat} {t : TypeId} {x y : V} {b : Bool} {cx cy : Value}, RelV w0 base ι x cx → RelV w0 base ι y cy → aEqT P n t x y = some b → ∀ m, n ≤ m → (Op.equalIn m t cx cy).run P w = .ok b w
  | 0, t, x, y, b, cx, cy, _, _, h, m, _ => by simp [aEqT] at h
  | n + 1, t, x, y, b, cx, cy, hx, hy, h, m, hm => by
    obtain ⟨m, rfl⟩ : ∃ m', m = m' + 1 := ⟨m - 1, by omega⟩
    unfold aEqT at h
    split at h
    · rw [relV_int hx, relV_int hy]
      split at h
      · rename_i hu
        split at h
        · rename_i hk; subst hk; cases h; simp [Op.equalIn, run_underlying hu]
        · cases h
      · cases h
    · rw [relV_bool hx, relV_bool hy]
      split at h
      · rename_i hu; cases h; simp [Op.equalIn, run_underlying hu]
      · cases h
    · cases hx; cases hy
      split at h
      · rename_i hu; cases h; simp [Op.equalIn, run_underlying hu]
      · cases h
    · cases hy
      split at h
      · rename_i hu; cases h
        cases hx <;> simp [Op.equalIn, run_underlying hu]
      · cases h
    · cases hx
      split at h
      · rename_i hu; cases h
        cases hy <;> simp [Op.equalIn, run_underlying hu]
      · cases h
    · obtain ⟨cxs, rfl, hxs⟩ := relL_of_agg hx
      obtain ⟨cys, rfl, hys⟩ := relL_of_agg hy
      split at h
      · rename_i fs hu
        split at h
        · rename_i hp
          have hf : P.fieldsOf t = fs := by simp [Program.fieldsOf, hu]
          rw [run_equalIn_struct (P := P) w m t cxs.toArray cys.toArray (by rw [hf]; exact hu) hp, hf]
          exact aEqFs_sound (fun t x y b cx cy h1 h2 h3 => aEqT_sound h1 h2 h3 m (by omega)) hxs hys h
        · cases h
      · cases h
    · cases h

theorem aEq_sound {t : TypeId} {x y : V} {b : Bool} {cx cy : Value} (hx : RelV w0 base ι x cx) (hy : RelV w0 base ι y cy) (hni : ∀ k n k' m, x = .int k n → y = .int k' m → False)
    (h : aEq P t x y = some b) (op : BinOp) (ox oy : Operand) :
    (eqGuard op t ox oy cx cy).run P w = .ok () w ∧ (Op.equal t cx cy).run P w = .ok b w ∧ binOp .eql t cx cy = (do pure (.bool (← Op.equal t cx cy))) ∧ binOp .neq t cx cy = (do pure (.bool (!(← Op.equal t cx cy)))) := by
  have heq : ∀ {n}, n ≤ 10000 → aEqT P n t x y = some b → (Op.equal t cx cy).run P w = .ok b w := fun hn hh => aEqT_sound hx hy hh 10000 hn
  unfold aEq at h
  split at h
  · split at h
    · rename_i cs hm
      have he := heq (n := 4) (by omega) h
      obtain ⟨cxs, rfl, hxs⟩ := relL_of_agg hx
      cases y with
      | agg cs' =>
        obtain ⟨cys, rfl, hys⟩ := relL_of_agg hy
        exact ⟨run_eqGuard_agg w op t ox oy _ _ hm, he, rfl, rfl⟩
      | _ => simp [aEqT] at h
    · cases h
  · rename_i hna
    have he := heq (n := 4) (by omega) h
    unfold aEqT at h
    split at h
    · exact (hni _ _ _ _ rfl rfl).elim
    · rw [relV_bool hx, relV_bool hy] at he ⊢
      exact ⟨by unfold eqGuard; cases op <;> rfl, he, rfl, rfl⟩
    · cases hx; cases hy
      exact ⟨by unfold eqGuard; cases op <;> rfl, he, rfl, rfl⟩
    · cases hy; cases hx <;> exact ⟨by unfold eqGuard; cases op <;> rfl, he, rfl, rfl⟩
    · cases hx; cases hy <;> exact ⟨by unfold eqGuard; cases op <;> rfl, he, rfl, rfl⟩
    · exact (hna _ rfl).elim
    · cases h

theorem aBin_sound {op : BinOp} {t : TypeId} {x y v : V} {cx cy : Value} {ox oy : Operand} (hx : RelV w0 base ι x cx) (hy : RelV w0 base ι y cy) (h : aBin P op t x y = some v) :
    ∃ cv, (do eqGuard op t ox oy cx cy; binOp op t cx cy : Sem Value).run P w = .ok cv w ∧ RelV w0 base ι v cv := by
  unfold aBin aNum at h
  split at h
  · rename_i k n k' m
    rw [relV_int hx, relV_int hy]
    have hg : (eqGuard op t ox oy (.int k n) (.int k' m)).run P w = .ok () w := by
      unfold eqGuard; cases op <;> rfl
    simp only [Sem.run_bind, hg, Result.andThen_ok]
    cases op
    case shl =>
      simp only at h; split at h
      · cases h
      · rename_i hb; cases h
        refine ⟨_, ?_, .int _ _⟩
        simp [binOp, Op.shift, hb]
    case shr =>
      simp only at h; split at h
      · cases h
      · rename_i hb; cases h
        refine ⟨_, ?_, .int _ _⟩
        simp [binOp, Op.shift, hb]
    case quo =>
      simp only at h; split at h
      · rename_i hk; subst hk
        split at h
        · cases h
        · rename_i hb; cases h
          exact ⟨_, by simp [binOp, Op.intDiv, hb], .int _ _⟩
      · cases h
    case rem =>
      simp only at h; split at h
      · rename_i hk; subst hk
        split at h
        · cases h
        · rename_i hb; cases h
          exact ⟨_, by simp [binOp, Op.intDiv, hb], .int _ _⟩
      · cases h
    case add => simp only at h; split at h; (rename_i hk; subst hk; cases h; exact ⟨_, by simp [binOp, Op.intArith], .int _ _⟩); cases h
    case sub => simp only at h; split at h; (rename_i hk; subst hk; cases h; exact ⟨_, by simp [binOp, Op.intArith], .int _ _⟩); cases h
    case mul => simp only at h; split at h; (rename_i hk; subst hk; cases h; exact ⟨_, by simp [binOp, Op.intArith], .int _ _⟩); cases h
    case and => simp only at h; split at h; (rename_i hk; subst hk; cases h; exact ⟨_, by simp [binOp, Op.intBits], .int _ _⟩); cases h
    case or => simp only at h; split at h; (rename_i hk; subst hk; cases h; exact ⟨_, by simp [binOp, Op.intBits], .int _ _⟩); cases h
    case xor => simp only at h; split at h; (rename_i hk; subst hk; cases h; exact ⟨_, by simp [binOp, Op.intBits], .int _ _⟩); cases h
    case andNot => simp only at h; split at h <;> cases h
    case eql => simp only at h; split at h; (rename_i hk; subst hk; cases h; exact ⟨_, by simp [binOp, Op.intCmp], .bool _⟩); cases h
    case neq => simp only at h; split at h; (rename_i hk; subst hk; cases h; exact ⟨_, by simp [binOp, Op.intCmp], .bool _⟩); cases h
    case lss => simp only at h; split at h; (rename_i hk; subst hk; cases h; exact ⟨_, by simp [binOp, Op.intCmp], .bool _⟩); cases h
    case leq => simp only at h; split at h; (rename_i hk; subst hk; cases h; exact ⟨_, by simp [binOp, Op.intCmp], .bool _⟩); cases h
    case gtr => simp only at h; split at h; (rename_i hk; subst hk; cases h; exact ⟨_, by simp [binOp, Op.intCmp], .bool _⟩); cases h
    case geq => simp only at h; split at h; (rename_i hk; subst hk; cases h; exact ⟨_, by simp [binOp, Op.intCmp], .bool _⟩); cases h
  · rename_i hni
    split at h
    · split at h
      · rename_i b hb; cases h
        obtain ⟨h1, h2, h3, _⟩ := aEq_sound (w := w) hx hy (by intro k n k' m e1 e2; subst e1; subst e2; exact hni _ _ _ _ rfl rfl) hb .eql ox oy
        refine ⟨_, ?_, .bool _⟩
        simp only [Sem.run_bind, h1, Result.andThen_ok, h3, h2]; rfl
      · cases h
    · split at h
      · rename_i b hb; cases h
        obtain ⟨h1, h2, _, h4⟩ := aEq_sound (w := w) hx hy (by intro k n k' m e1 e2; subst e1; subst e2; exact hni _ _ _ _ rfl rfl) hb .neq ox oy
        refine ⟨_, ?_, .bool _⟩
        simp only [Sem.run_bind, h1, Result.andThen_ok, h4, h2]; rfl
      · cases h
    · cases h

end
end Go.Abs
