/-
The abstract layer, part R: regions whose order is left open: one order stands for all.
-/
import Derived.Test.YtgiogphdnpeddaaGreatAbsN
set_option linter.all false
namespace Go.Abs
open Go.RowKit (Below)

section
variable {P : Program} {g : Cfg} {HS H : Heap} {env env' : List V} {ops : List Oper}

/-- Two slot lists that agree where the operands look. -/
def Same (g : Cfg) (xs : List Operand) (e e' : List V) : Prop :=
  (∀ s, s ∈ tmpsOf xs → e[s]? = e'[s]?) ∧ ((tmpsOf xs).any g.R.contains = true → ∀ s, s ∈ g.L → e[s]? = e'[s]?)

theorem Same.of_rds {o : Oper} (h : ∀ s, s ∈ rds g o → env[s]? = env'[s]?) : Same g (opnds o.op) env env' := by
  unfold rds at h
  refine ⟨fun s hs => h s (List.mem_append_left _ hs), fun hr s hs => h s (List.mem_append_right _ ?_)⟩
  rw [hr]; exact hs
theorem Same.sub {xs ys : List Operand} (h : Same g xs env env') (hs : ∀ t, t ∈ tmpsOf ys → t ∈ tmpsOf xs) : Same g ys env env' := by
  refine ⟨fun s hm => h.1 s (hs s hm), fun hr => h.2 ?_⟩
  rw [List.any_eq_true] at hr ⊢
  obtain ⟨t, h1, h2⟩ := hr
  exact ⟨t, hs t h1, h2⟩
theorem tmpsOf_append (a b : List Operand) : tmpsOf (a ++ b) = tmpsOf a ++ tmpsOf b := by
  induction a with
  | nil => rfl
  | cons x a ih => cases x <;> simp [tmpsOf, ih]
theorem Same.left {xs ys : List Operand} (h : Same g (xs ++ ys) env env') : Same g xs env env' := h.sub fun t ht => by rw [tmpsOf_append]; exact List.mem_append_left _ ht
theorem Same.right {xs ys : List Operand} (h : Same g (xs ++ ys) env env') : Same g ys env env' := h.sub fun t ht => by rw [tmpsOf_append]; exact List.mem_append_right _ ht
theorem Same.one {x : Operand} {xs : List Operand} (h : Same g (x :: xs) env env') : Same g [x] env env' := Same.left (ys := xs) (by simpa using h)
theorem Same.rest {x : Operand} {xs : List Operand} (h : Same g (x :: xs) env env') : Same g xs env env' := Same.right (xs := [x]) (by simpa using h)

theorem ev_same {x : Operand} (h : Same g [x] env env') : ev g env x = ev g env' x := by
  cases x with
  | tmp t => simp only [ev]; rw [h.1 t (by simp [tmpsOf])]
  | _ => rfl
theorem evs_same : ∀ {xs : List Operand}, Same g xs env env' → evs g env xs = evs g env' xs
  | [], _ => rfl
  | x :: xs, h => by simp only [evs]; rw [ev_same h.one, evs_same h.rest]
theorem evo_same {x : Option Operand} (h : Same g x.toList env env') : evo g env x = evo g env' x := by
  cases x with
  | none => rfl
  | some x => simp only [evo]; rw [ev_same h]
theorem evp_same : ∀ {xs : List (Nat × Operand)}, Same g (xs.map (·.2)) env env' → evp g env xs = evp g env' xs
  | [], _ => rfl
  | (i, x) :: xs, h => by
    simp only [evp]
    rw [ev_same (Same.one (x := x) (xs := xs.map (·.2)) h), evp_same (Same.rest (x := x) h)]
theorem locOf_same {x : Operand} (h : Same g [x] env env') : locOf g env x = locOf g env' x := by
  cases x with
  | tmp t =>
    have ht := h.1 t (by simp [tmpsOf])
    unfold locOf
    simp only [ht]
    cases hR : g.R.contains t with
    | false => rfl
    | true =>
      have h2 := h.2 (by simp [tmpsOf]; simpa using hR)
      cases g.L.contains t with
      | true => rfl
      | false =>
        simp only
        cases he : env'[t]? with
        | none => rfl
        | some v =>
          cases v with
          | lref s c =>
            simp only
            cases hs : g.L.contains s with
            | false => rfl
            | true => simp only; rw [h2 s (by simpa using hs)]
          | _ => rfl
  | _ => rfl

/-- What stands behind the same operation over two slot lists. -/
def Post (g : Cfg) (o : Oper) (env env' : List V) (K : List V → Heap → Prop) (e' : List V) (H' : Heap) : Prop :=
  ∃ e, K e H' ∧ e.length = e'.length ∧ agree (wrs g o) env e ∧ agree (wrs g o) env' e' ∧ ∀ s, s ∈ wrs g o → e[s]? = e'[s]?

theorem set_same (d : Nat) (v : V) {e e' : List V} (hl : e.length = e'.length) : (e.set d v)[d]? = (e'.set d v)[d]? := by
  by_cases h : d < e.length
  · simp [h, show d < e'.length by omega]
  · rw [List.getElem?_eq_none (by simp; omega), List.getElem?_eq_none (by simp; omega)]

theorem putK_rel {o : Oper} {v : V} {H' : Heap} {K : List V → Heap → Prop} (hlen : env.length = env'.length) (hw : wrs g o = dstL o.dst) (h : putK g env o.dst v fun e => K e H') :
    putK g env' o.dst v fun e' => Post g o env env' K e' H' := by
  unfold Post
  rw [hw]
  unfold putK at *
  simp only [setK_eq] at *
  generalize o.dst = dd at *
  cases dd with
  | none => exact ⟨env, h, hlen, agree.refl _ _, agree.refl _ _, fun s hs => by simp [dstL] at hs⟩
  | some d =>
    simp only at h ⊢
    revert h
    cases g.loc d with
    | true => exact fun h => h
    | false =>
      refine fun h => ⟨_, h, by simp [hlen], agree.set _ _ (by simp [dstL]), agree.set _ _ (by simp [dstL]), fun s hs => ?_⟩
      have : s = d := by simpa [dstL] using hs
      subst this
      exact set_same _ _ hlen

theorem clr_same : ∀ (ds : List Nat) (e e' : List V), e.length = e'.length → (∀ s, s ∈ ds → (clr ds e)[s]? = (clr ds e')[s]?)
  | [], _, _, _, s, hs => by simp at hs
  | d :: ds, e, e', hl, s, hs => by
    unfold clr
    by_cases hm : s ∈ ds
    · exact clr_same ds _ _ (by simp [hl]) s hm
    · have hsd : s = d := by rcases List.mem_cons.1 hs with h | h; exact h; exact absurd h hm
      subst hsd
      have a1 := (agree.clr (ms := ds) ds (e.set s .any) fun _ h => h).2 s hm
      have a2 := (agree.clr (ms := ds) ds (e'.set s .any) fun _ h => h).2 s hm
      rw [← a1, ← a2]
      exact set_same _ _ hl

theorem newBox_rel {o : Oper} {cs : List V} {K : List V → Heap → Prop} (hlen : env.length = env'.length) (hw : wrs g o = dstL o.dst ++ (match (dstL o.dst).any g.L.contains with | true => g.R | false => [])) (h : newBox g env H o.dst cs K) :
    newBox g env' H o.dst cs (Post g o env env' K) := by
  unfold Post
  rw [hw]
  unfold newBox at *
  simp only [setK_eq] at *
  generalize o.dst = dd at *
  cases dd with
  | none => exact h.elim
  | some d =>
    simp only at h ⊢
    have hd : (dstL (some d)).any g.L.contains = g.L.contains d := by simp [dstL]
    rw [hd]
    revert h
    cases hL : g.L.contains d with
    | true =>
      refine fun h => ⟨_, h, by simp [clr_len, hlen], ?_, ?_, fun s hs => ?_⟩
      · exact (agree.clr _ _ (fun d hd => List.mem_append_right _ hd)).trans (agree.set _ _ (by simp [dstL]))
      · exact (agree.clr _ _ (fun d hd => List.mem_append_right _ hd)).trans (agree.set _ _ (by simp [dstL]))
      · by_cases hsd : s = d
        · subst hsd; exact set_same _ _ (by simp [clr_len, hlen])
        · have hsR : s ∈ g.R := by
            rcases List.mem_append.1 hs with h | h
            · exact absurd (by simpa [dstL] using h) hsd
            · exact h
          rw [List.getElem?_set_ne (by omega), List.getElem?_set_ne (by omega)]
          exact clr_same _ _ _ hlen s hsR
    | false =>
      simp only
      cases hR : g.R.contains d with
      | true => exact fun h => h
      | false =>
        refine fun h o' ho' => ⟨_, h o' ho', by simp [hlen], agree.set _ _ (by simp [dstL]), agree.set _ _ (by simp [dstL]), fun s hs => ?_⟩
        have : s = d := by simpa [dstL] using hs
        subst this
        exact set_same _ _ hlen

theorem fieldK_rel {o : Oper} {off : Nat} {l : Loc} {H' : Heap} {K : List V → Heap → Prop} (hlen : env.length = env'.length) (hw : wrs g o = dstL o.dst) (h : fieldK g env o.dst off l fun e => K e H') :
    fieldK g env' o.dst off l fun e' => Post g o env env' K e' H' := by
  cases l with
  | heap p => exact bnd_mono h fun v _ h => putK_rel hlen hw h
  | here s c cs =>
    unfold Post
    rw [hw]
    unfold fieldK at *
    simp only [setK_eq] at *
    generalize o.dst = dd at *
    cases dd with
    | none => exact ⟨env, h, hlen, agree.refl _ _, agree.refl _ _, fun s hs => by simp [dstL] at hs⟩
    | some d =>
      simp only at h ⊢
      revert h
      cases g.L.contains d with
      | true => exact fun h => h
      | false =>
        simp only
        cases g.R.contains d with
        | false => exact fun h => h
        | true =>
          refine fun h => ⟨_, h, by simp [hlen], agree.set _ _ (by simp [dstL]), agree.set _ _ (by simp [dstL]), fun s hs => ?_⟩
          have : s = d := by simpa [dstL] using hs
          subst this
          exact set_same _ _ hlen

/-- The slots that a store turns are those that the operation is said to turn. -/
theorem storeK_rel {o : Oper} {t : TypeId} {x y : Operand} {v : V} {l : Loc} {K : List V → Heap → Prop} (ho : o.op = .store t x y) (hd : o.dst = none) (hlen : env.length = env'.length) (hsm : Same g [x] env env') (hl : locOf g env x = some l)
    (h : storeK P env H t v l K) : storeK P env' H t v l (Post g o env env' K) := by
  cases l with
  | heap p => exact bnd_mono h fun H' _ h => ⟨env, h, hlen, agree.refl _ _, agree.refl _ _, fun s hs => by
      exfalso
      unfold wrs at hs
      rw [ho, hd] at hs
      cases x with
      | tmp u =>
        unfold locOf at hl
        simp only [dstL, List.nil_append] at hs hl
        cases hL : g.L.contains u with
        | true => rw [hL] at hl; simp only at hl; split at hl <;> cases hl
        | false =>
          rw [hL] at hl hs
          simp only at hl hs
          cases hR : g.R.contains u with
          | true =>
            rw [hR] at hl
            simp only at hl
            split at hl
            · split at hl
              · split at hl <;> cases hl
              · cases hl
            · cases hl
          | false => rw [hR] at hs; simp at hs
      | _ => simp [dstL] at hs⟩
  | here s c cs =>
    refine bnd_mono h fun cs' _ h => ?_
    have key : s ∈ wrs g o ∧ ∀ s', s' ∈ wrs g o → s' ≠ s → env[s']? = env'[s']? := by
      unfold wrs
      rw [ho, hd]
      cases x with
      | tmp u =>
        unfold locOf at hl
        simp only [dstL, List.nil_append] at hl ⊢
        cases hL : g.L.contains u with
        | true =>
          rw [hL] at hl
          simp only at hl ⊢
          split at hl
          · cases hl; exact ⟨by simp, fun s' h1 h2 => absurd (by simpa using h1) h2⟩
          · cases hl
        | false =>
          rw [hL] at hl
          simp only at hl ⊢
          cases hR : g.R.contains u with
          | true =>
            have h2 := hsm.2 (by simp [tmpsOf]; simpa using hR)
            rw [hR] at hl
            simp only at hl ⊢
            split at hl
            · split at hl
              · rename_i hs
                split at hl
                · cases hl; exact ⟨by simpa using hs, fun s' h1 _ => h2 s' h1⟩
                · cases hl
              · cases hl
            · cases hl
          | false => rw [hR] at hl; simp only at hl; split at hl <;> cases hl
      | _ => unfold locOf at hl; simp only at hl; split at hl <;> cases hl
    rw [setK_eq] at h
    show setK env' s (.box cs') fun e => Post g o env env' K e H
    rw [setK_eq]
    refine ⟨_, h, by simp [hlen], agree.set _ _ key.1, agree.set _ _ key.1, fun s' hs' => ?_⟩
    by_cases e : s' = s
    · subst e; exact set_same _ _ hlen
    · rw [List.getElem?_set_ne (by omega), List.getElem?_set_ne (by omega)]
      exact key.2 s' hs' e

theorem bnd_same {α : Type} {a b : Option α} {K : α → Prop} (h : bnd a K) (e : a = b) : bnd b K := e ▸ h

theorem opK_rel {o : Oper} {K : List V → Heap → Prop} (hlen : env.length = env'.length) (hs : Same g (opnds o.op) env env') (h : opK P g o env H K) : opK P g o env' H (Post g o env env' K) := by
  have hput : wrs g o = dstL o.dst → ∀ {v : V} {H' : Heap}, putK g env o.dst v (fun e => K e H') → putK g env' o.dst v (fun e' => Post g o env env' K e' H') := fun hw _ _ h => putK_rel hlen hw h
  unfold opK at h ⊢
  split at h
  · rename_i x ho
    rw [ho] at hs
    have hw : wrs g o = dstL o.dst := by unfold wrs; rw [ho]; simp
    exact bnd_same (bnd_mono h fun _ _ h => hput hw h) (ev_same hs)
  · rename_i x ho
    rw [ho] at hs
    have hw : wrs g o = dstL o.dst := by unfold wrs; rw [ho]; simp
    exact bnd_same (bnd_mono h fun _ _ h => hput hw h) (ev_same hs)
  · rename_i c a b ho
    rw [ho] at hs
    have hw : wrs g o = dstL o.dst := by unfold wrs; rw [ho]; simp
    exact bnd_same (bnd_mono h fun _ _ h => bnd_same (bnd_mono h fun _ _ h => bnd_same (bnd_mono h fun _ _ h => bnd_mono h fun _ _ h => hput hw h) (ev_same hs.rest.rest.one)) (ev_same hs.rest.one)) (ev_same hs.one)
  · rename_i t ho
    exact bnd_mono h fun _ _ h => newBox_rel hlen (by unfold wrs; rw [ho]; rfl) h
  · rename_i t x ho
    rw [ho] at hs
    exact bnd_same (bnd_mono h fun _ _ h => ⟨h.1, newBox_rel hlen (by unfold wrs; rw [ho]; rfl) h.2⟩) (ev_same hs)
  · rename_i t ps ho
    rw [ho] at hs
    have hw : wrs g o = dstL o.dst := by unfold wrs; rw [ho]; simp
    refine bnd_same (bnd_mono h fun _ _ h => bnd_mono h fun _ _ h => ?_) (evp_same hs)
    split at h
    · exact bnd_mono h fun _ _ h => hput hw h
    · exact h.elim
  · rename_i t len ps ho
    rw [ho] at hs
    have hw : wrs g o = dstL o.dst := by unfold wrs; rw [ho]; simp
    exact bnd_same (bnd_mono h fun _ _ h => bnd_mono h fun _ _ h => bnd_mono h fun _ _ h => bnd_mono h fun _ _ h => bnd_mono h fun _ _ h => fun o' ho' => hput hw (h o' ho')) (evp_same hs)
  · rename_i t x ho
    rw [ho] at hs
    have hw : wrs g o = dstL o.dst := by unfold wrs; rw [ho]; simp
    exact bnd_same (bnd_mono h fun _ _ h => bnd_mono h fun _ _ h => hput hw h) (locOf_same hs)
  · rename_i t x v ho
    rw [ho] at hs
    split at h
    · rename_i hd
      refine bnd_same (bnd_mono h fun l hl h => bnd_same (bnd_mono h fun _ _ h => ?_) (ev_same hs.rest)) (locOf_same hs.one)
      exact storeK_rel ho hd hlen hs.one hl h
    · exact h.elim
  · rename_i t x f ho
    rw [ho] at hs
    have hw : wrs g o = dstL o.dst := by unfold wrs; rw [ho]; simp
    exact bnd_same (bnd_mono h fun _ _ h => bnd_mono h fun _ _ h => fieldK_rel hlen hw h) (locOf_same hs)
  · rename_i t x f ho
    rw [ho] at hs
    have hw : wrs g o = dstL o.dst := by unfold wrs; rw [ho]; simp
    exact bnd_same (bnd_mono h fun _ _ h => bnd_mono h fun _ _ h => bnd_mono h fun _ _ h => bnd_mono h fun _ _ h => hput hw h) (ev_same hs)
  · rename_i t x i ho
    rw [ho] at hs
    have hw : wrs g o = dstL o.dst := by unfold wrs; rw [ho]; simp
    exact bnd_same (bnd_mono h fun _ _ h => bnd_same (bnd_mono h fun _ _ h => bnd_mono h fun _ _ h => bnd_mono h fun _ _ h => bnd_mono h fun _ _ h => hput hw h) (ev_same hs.rest)) (ev_same hs.one)
  · rename_i t x lo hi mx ho
    rw [ho] at hs
    have hw : wrs g o = dstL o.dst := by unfold wrs; rw [ho]; simp
    have h1 : Same g (lo.toList ++ hi.toList ++ mx.toList) env env' := Same.rest (x := x) hs
    exact bnd_same (bnd_mono h fun _ _ h => bnd_same (bnd_mono h fun _ _ h => bnd_same (bnd_mono h fun _ _ h => bnd_same (bnd_mono h fun _ _ h => bnd_mono h fun _ _ h => bnd_mono h fun _ _ h => bnd_mono h fun _ _ h => hput hw h) (evo_same h1.right)) (evo_same h1.left.right)) (evo_same h1.left.left)) (ev_same (Same.one (xs := lo.toList ++ hi.toList ++ mx.toList) hs))
  · rename_i t l c ho
    rw [ho] at hs
    have hw : wrs g o = dstL o.dst := by unfold wrs; rw [ho]; simp
    exact bnd_same (bnd_mono h fun _ _ h => bnd_same (bnd_mono h fun _ _ h => bnd_mono h fun _ _ h => bnd_mono h fun _ _ h => bnd_mono h fun _ _ h => bnd_mono h fun _ _ h => bnd_mono h fun _ _ h => bnd_mono h fun _ _ h => ⟨h.1, fun o' ho' => hput hw (h.2 o' ho')⟩) (ev_same hs.rest)) (ev_same hs.one)
  · rename_i op t x y cm ho
    rw [ho] at hs
    have hw : wrs g o = dstL o.dst := by unfold wrs; rw [ho]; simp
    exact bnd_same (bnd_mono h fun _ _ h => bnd_same (bnd_mono h fun _ _ h => bnd_mono h fun _ _ h => hput hw h) (ev_same hs.rest)) (ev_same hs.one)
  · rename_i t x ho
    rw [ho] at hs
    have hw : wrs g o = dstL o.dst := by unfold wrs; rw [ho]; simp
    exact bnd_same (bnd_mono h fun _ _ h => bnd_mono h fun _ _ h => hput hw h) (ev_same hs)
  · rename_i t x ho
    rw [ho] at hs
    have hw : wrs g o = dstL o.dst := by unfold wrs; rw [ho]; simp
    exact bnd_same (bnd_mono h fun _ _ h => bnd_mono h fun _ _ h => hput hw h) (ev_same hs)
  · rename_i s d x ho
    rw [ho] at hs
    have hw : wrs g o = dstL o.dst := by unfold wrs; rw [ho]; simp
    exact bnd_same (bnd_mono h fun _ _ h => bnd_mono h fun _ _ h => hput hw h) (ev_same hs)
  · rename_i x i ho
    rw [ho] at hs
    have hw : wrs g o = dstL o.dst := by unfold wrs; rw [ho]; simp
    exact bnd_same (bnd_mono h fun _ _ h => bnd_mono h fun _ _ h => hput hw h) (ev_same hs)
  · rename_i x ho
    rw [ho] at hs
    have hw : wrs g o = dstL o.dst := by unfold wrs; rw [ho]; simp
    exact bnd_same (bnd_mono h fun _ _ h => bnd_mono h fun _ _ h => hput hw h) (ev_same hs)
  · rename_i f first caps ho
    rw [ho] at hs
    have hw : wrs g o = dstL o.dst := by unfold wrs; rw [ho]; simp
    split at h
    · exact bnd_same (bnd_mono h fun _ _ h => hput hw h) (evs_same hs)
    · exact h.elim
  · rename_i c ho
    rw [ho] at hs
    have hw : wrs g o = dstL o.dst := by unfold wrs; rw [ho]; simp
    split at h
    · rename_i f hc
      have hs' : Same g (f :: c.args.toList) env env' := by simpa [opnds, hc] using hs
      refine bnd_same (bnd_mono h fun _ _ h => bnd_same (bnd_mono h fun _ _ h => ?_) (evs_same hs'.rest)) (ev_same hs'.one)
      unfold callK at *
      split at h
      · split at h
        · exact h.mono fun v H' h => hput hw h
        · exact h.elim
      · exact h.elim
    · rename_i b hc
      have hs' : Same g c.args.toList env env' := by simpa [opnds, hc] using hs
      exact bnd_same (bnd_mono h fun _ _ h => builtinK_mono h fun v H' h => hput hw h) (evs_same hs')
    · exact h.elim
  · exact h.elim

theorem putK_fun {d : Option Tmp} {v : V} {K : List V → Heap → Prop} {H0 : Heap} (h : putK g env d v fun e => K e H0) : ∃ e, K e H0 ∧ ∀ (H : Heap) (K' : List V → Heap → Prop), K' e H → putK g env d v fun e => K' e H := by
  cases d with
  | none => exact ⟨env, h, fun _ _ h => h⟩
  | some d =>
    simp only [putK, setK_eq] at h ⊢
    revert h
    cases g.loc d with
    | true => exact fun h => h.elim
    | false => exact fun h => ⟨_, h, fun _ _ h => h⟩
theorem newBox_fun {d : Tmp} {cs : List V} {K : List V → Heap → Prop} {H0 : Heap} (hd : g.L.contains d = true) (h : newBox g env H0 (some d) cs K) : ∃ e, K e H0 ∧ ∀ (H : Heap) (K' : List V → Heap → Prop), K' e H → newBox g env H (some d) cs K' := by
  simp only [newBox, setK_eq, hd] at h ⊢
  exact ⟨_, h, fun _ _ h => h⟩
theorem fieldK_fun {d : Option Tmp} {off : Nat} {l : Loc} {K : List V → Heap → Prop} {H0 : Heap} (h : fieldK g env d off l fun e => K e H0) : ∃ e, K e H0 ∧ ∀ (H : Heap) (K' : List V → Heap → Prop), K' e H → fieldK g env d off l fun e => K' e H := by
  cases l with
  | heap p =>
    obtain ⟨v, hv, h⟩ := bnd_elim h
    obtain ⟨e, he, hk⟩ := putK_fun h
    exact ⟨e, he, fun H K' h => by simp only [fieldK, setK_eq, hv, bnd_some]; exact hk H K' h⟩
  | here s c cs =>
    cases d with
    | none => exact ⟨env, h, fun _ _ h => h⟩
    | some d =>
      simp only [fieldK, setK_eq] at h ⊢
      revert h
      cases g.L.contains d with
      | true => exact fun h => h.elim
      | false =>
        simp only
        cases g.R.contains d with
        | true => exact fun h => ⟨_, h, fun _ _ h => h⟩
        | false => exact fun h => h.elim
theorem aLd_up {b : Bool} {sz : Nat} {p v : V} (h : aLd b sz HS p = some v) (hs : Abs.sub HS H) : aLd b sz H p = some v := by
  unfold aLd rowAt at *
  split at h
  · split at h
    · rename_i hr
      split at hr
      · rename_i ob ho
        rw [hs _ _ ho]; simp only [hr]; exact h
      · cases hr
    · cases h
  · exact h
  · cases h
theorem aLoadL_up {t : TypeId} {l : Loc} {v : V} (h : aLoadL P HS t l = some v) (hs : Abs.sub HS H) : aLoadL P H t l = some v := by
  cases l with
  | heap p =>
    simp only [aLoadL, aLoad] at *
    split at h
    · exact aLd_up h hs
    · cases h
  | here s c cs => exact h
theorem aIndex_up {sz : Nat} {x i v : V} (h : aIndex HS sz x i = some v) (hs : Abs.sub HS H) : aIndex H sz x i = some v := by
  unfold aIndex at *
  split at h
  · split at h
    · rename_i hb
      split at h
      · rename_i ob ho
        rw [if_pos hb, hs _ _ ho]; exact h
      · cases h
    · cases h
  · exact h
  · cases h
theorem aSlice_up {sz : Nat} {x v : V} {lo hi mx : Option V} (h : aSlice HS sz x lo hi mx = some v) (hs : Abs.sub HS H) : aSlice H sz x lo hi mx = some v := by
  unfold aSlice at *
  split at h
  · split at h
    · rename_i ob ho
      rw [hs _ _ ho]; exact h
    · cases h
  · exact h
  · cases h
theorem storeK_fun {t : TypeId} {v : V} {s c : Nat} {cs : List V} {K : List V → Heap → Prop} {H0 : Heap} (h : storeK P env H0 t v (.here s c cs) K) : ∃ e, K e H0 ∧ ∀ (H : Heap) (K' : List V → Heap → Prop), K' e H → storeK P env H t v (.here s c cs) K' := by
  obtain ⟨cs', hc, h⟩ := bnd_elim h
  rw [setK_eq] at h
  exact ⟨_, h, fun H K' h => by simp only [storeK, setK_eq, hc, bnd_some]; exact h⟩
theorem locOf_local {t : Tmp} {l : Loc} (ht : (g.L.contains t || g.R.contains t) = true) (h : locOf g env (.tmp t) = some l) : ∃ s c cs, l = .here s c cs := by
  unfold locOf at h
  simp only at h
  cases hL : g.L.contains t with
  | true =>
    rw [hL] at h
    simp only at h
    split at h
    · cases h; exact ⟨_, _, _, rfl⟩
    · cases h
  | false =>
    rw [hL] at h ht
    have hR : g.R.contains t = true := by simpa using ht
    rw [hR] at h
    simp only at h
    split at h
    · split at h
      · split at h
        · cases h; exact ⟨_, _, _, rfl⟩
        · cases h
      · cases h
    · cases h

/-- An operation of this kind has one outcome, and has it over any greater heap. -/
theorem E_fun {o : Oper} {K : List V → Heap → Prop} (hE : isE g o = true) (h : opK P g o env HS K) : ∃ e, K e HS ∧ ∀ H, Abs.sub HS H → ∀ K' : List V → Heap → Prop, K' e H → opK P g o env H K' := by
  unfold opK at h
  unfold isE at hE
  split at h
  · rename_i x ho
    obtain ⟨v, hv, h⟩ := bnd_elim h
    obtain ⟨e, he, hk⟩ := putK_fun h
    exact ⟨e, he, fun H hs K' h => by unfold opK; simp only [ho, hv, bnd_some]; exact hk H K' h⟩
  · rename_i x ho
    obtain ⟨v, hv, h⟩ := bnd_elim h
    obtain ⟨e, he, hk⟩ := putK_fun h
    exact ⟨e, he, fun H hs K' h => by unfold opK; simp only [ho, hv, bnd_some]; exact hk H K' h⟩
  · rename_i c a b ho
    obtain ⟨v, hv, h⟩ := bnd_elim h
    obtain ⟨v1, hv1, h⟩ := bnd_elim h
    obtain ⟨v2, hv2, h⟩ := bnd_elim h
    obtain ⟨v3, hv3, h⟩ := bnd_elim h
    obtain ⟨e, he, hk⟩ := putK_fun h
    exact ⟨e, he, fun H hs K' h => by unfold opK; simp only [ho, hv, hv1, hv2, hv3, bnd_some]; exact hk H K' h⟩
  · rename_i t ho
    rw [ho] at hE
    simp only at hE
    obtain ⟨z, hz, h⟩ := bnd_elim h
    split at hE
    · rename_i d hd
      rw [hd] at h
      obtain ⟨e, he, hk⟩ := newBox_fun hE h
      exact ⟨e, he, fun H hs K' h => by unfold opK; simp only [ho, hz, hd, bnd_some]; exact hk H K' h⟩
    · cases hE
  · rename_i t x ho
    rw [ho] at hE
    simp only at hE
    obtain ⟨v, hv, h⟩ := bnd_elim h
    split at hE
    · rename_i d hd
      rw [hd] at h
      obtain ⟨e, he, hk⟩ := newBox_fun hE h.2
      exact ⟨e, he, fun H hs K' h' => by unfold opK; simp only [ho, hv, hd, bnd_some]; exact ⟨h.1, hk H K' h'⟩⟩
    · cases hE
  · rename_i t ps ho
    obtain ⟨v, hv, h⟩ := bnd_elim h
    obtain ⟨z, hz, h⟩ := bnd_elim h
    split at h
    · rename_i hok
      obtain ⟨cs, hcs, h⟩ := bnd_elim h
      obtain ⟨e, he, hk⟩ := putK_fun h
      exact ⟨e, he, fun H hs K' h => by unfold opK; simp only [ho, hv, hz, hok, hcs, bnd_some]; exact hk H K' h⟩
    · exact h.elim
  · rename_i t len ps ho
    rw [ho] at hE; cases hE
  · rename_i t x ho
    obtain ⟨l, hl, h⟩ := bnd_elim h
    obtain ⟨v, hv, h⟩ := bnd_elim h
    obtain ⟨e, he, hk⟩ := putK_fun h
    exact ⟨e, he, fun H hs K' h => by unfold opK; simp only [ho, hl, aLoadL_up hv hs, bnd_some]; exact hk H K' h⟩
  · rename_i t x v ho
    rw [ho] at hE
    split at h
    · rename_i hd
      obtain ⟨l, hl, h⟩ := bnd_elim h
      obtain ⟨v', hv, h⟩ := bnd_elim h
      cases x with
      | tmp u =>
        obtain ⟨s, c, cs, rfl⟩ := locOf_local hE hl
        obtain ⟨e, he, hk⟩ := storeK_fun h
        exact ⟨e, he, fun H hs K' h => by unfold opK; simp only [ho, hd, hl, hv, bnd_some]; exact hk H K' h⟩
      | _ => cases hE
    · exact h.elim
  · rename_i t x f ho
    obtain ⟨l, hl, h⟩ := bnd_elim h
    obtain ⟨off, hoff, h⟩ := bnd_elim h
    obtain ⟨e, he, hk⟩ := fieldK_fun h
    exact ⟨e, he, fun H hs K' h => by unfold opK; simp only [ho, hl, hoff, bnd_some]; exact hk H K' h⟩
  · rename_i t x f ho
    obtain ⟨v, hv, h⟩ := bnd_elim h
    obtain ⟨off, hoff, h⟩ := bnd_elim h
    obtain ⟨cs, hcs, h⟩ := bnd_elim h
    obtain ⟨y, hy, h⟩ := bnd_elim h
    obtain ⟨e, he, hk⟩ := putK_fun h
    exact ⟨e, he, fun H hs K' h => by unfold opK; simp only [ho, hv, hoff, hcs, hy, bnd_some]; exact hk H K' h⟩
  · rename_i t x i ho
    obtain ⟨v, hv, h⟩ := bnd_elim h
    obtain ⟨v1, hv1, h⟩ := bnd_elim h
    obtain ⟨v2, hv2, h⟩ := bnd_elim h
    obtain ⟨v3, hv3, h⟩ := bnd_elim h
    obtain ⟨v4, hv4, h⟩ := bnd_elim h
    obtain ⟨e, he, hk⟩ := putK_fun h
    exact ⟨e, he, fun H hs K' h => by unfold opK; simp only [ho, hv, hv1, hv2, hv3, aIndex_up hv4 hs, bnd_some]; exact hk H K' h⟩
  · rename_i t x lo hi mx ho
    obtain ⟨v, hv, h⟩ := bnd_elim h
    obtain ⟨v1, hv1, h⟩ := bnd_elim h
    obtain ⟨v2, hv2, h⟩ := bnd_elim h
    obtain ⟨v3, hv3, h⟩ := bnd_elim h
    obtain ⟨v4, hv4, h⟩ := bnd_elim h
    obtain ⟨v5, hv5, h⟩ := bnd_elim h
    obtain ⟨v6, hv6, h⟩ := bnd_elim h
    obtain ⟨e, he, hk⟩ := putK_fun h
    exact ⟨e, he, fun H hs K' h => by unfold opK; simp only [ho, hv, hv1, hv2, hv3, hv4, hv5, aSlice_up hv6 hs, bnd_some]; exact hk H K' h⟩
  · rename_i t l c ho
    rw [ho] at hE; cases hE
  · rename_i op t x y cm ho
    obtain ⟨v, hv, h⟩ := bnd_elim h
    obtain ⟨v1, hv1, h⟩ := bnd_elim h
    obtain ⟨v2, hv2, h⟩ := bnd_elim h
    obtain ⟨e, he, hk⟩ := putK_fun h
    exact ⟨e, he, fun H hs K' h => by unfold opK; simp only [ho, hv, hv1, hv2, bnd_some]; exact hk H K' h⟩
  · rename_i t x ho
    obtain ⟨v, hv, h⟩ := bnd_elim h
    obtain ⟨v1, hv1, h⟩ := bnd_elim h
    obtain ⟨e, he, hk⟩ := putK_fun h
    exact ⟨e, he, fun H hs K' h => by unfold opK; simp only [ho, hv, hv1, bnd_some]; exact hk H K' h⟩
  · rename_i t x ho
    obtain ⟨v, hv, h⟩ := bnd_elim h
    obtain ⟨v1, hv1, h⟩ := bnd_elim h
    obtain ⟨e, he, hk⟩ := putK_fun h
    exact ⟨e, he, fun H hs K' h => by unfold opK; simp only [ho, hv, hv1, bnd_some]; exact hk H K' h⟩
  · rename_i s d x ho
    obtain ⟨v, hv, h⟩ := bnd_elim h
    obtain ⟨v1, hv1, h⟩ := bnd_elim h
    obtain ⟨e, he, hk⟩ := putK_fun h
    exact ⟨e, he, fun H hs K' h => by unfold opK; simp only [ho, hv, hv1, bnd_some]; exact hk H K' h⟩
  · rename_i x i ho
    obtain ⟨v, hv, h⟩ := bnd_elim h
    obtain ⟨v1, hv1, h⟩ := bnd_elim h
    obtain ⟨e, he, hk⟩ := putK_fun h
    exact ⟨e, he, fun H hs K' h => by unfold opK; simp only [ho, hv, hv1, bnd_some]; exact hk H K' h⟩
  · rename_i x ho
    obtain ⟨v, hv, h⟩ := bnd_elim h
    obtain ⟨v1, hv1, h⟩ := bnd_elim h
    obtain ⟨e, he, hk⟩ := putK_fun h
    exact ⟨e, he, fun H hs K' h => by unfold opK; simp only [ho, hv, hv1, bnd_some]; exact hk H K' h⟩
  · rename_i f first caps ho
    split at h
    · rename_i hf
      obtain ⟨v, hv, h⟩ := bnd_elim h
      obtain ⟨e, he, hk⟩ := putK_fun h
      exact ⟨e, he, fun H hs K' h => by unfold opK; simp only [ho, hf, hv, bnd_some]; exact hk H K' h⟩
    · exact h.elim
  · rename_i c ho
    rw [ho] at hE
    simp only at hE
    split at h
    · rename_i f hc
      rw [hc] at hE; cases hE
    · rename_i b hc
      obtain ⟨v, hv, h⟩ := bnd_elim h
      generalize htys : c.argTypes.toList = tys at h
      unfold builtinK at h
      split at h
      · obtain ⟨v1, hv1, h⟩ := bnd_elim h
        obtain ⟨v2, hv2, h⟩ := bnd_elim h
        obtain ⟨e, he, hk⟩ := putK_fun h
        exact ⟨e, he, fun H hs K' h => by unfold opK; simp only [ho, hc, hv, htys, builtinK, hv1, hv2, bnd_some]; exact hk H K' h⟩
      · rw [hc] at hE; cases hE
      · rw [hc] at hE; cases hE
      · rw [hc] at hE; cases hE
      · rw [hc] at hE; cases hE
      · obtain ⟨v1, hv1, h⟩ := bnd_elim h
        obtain ⟨e, he, hk⟩ := putK_fun h
        exact ⟨e, he, fun H hs K' h => by unfold opK; simp only [ho, hc, hv, builtinK, hv1, bnd_some]; exact hk H K' h⟩
      · obtain ⟨v1, hv1, h⟩ := bnd_elim h
        obtain ⟨e, he, hk⟩ := putK_fun h
        exact ⟨e, he, fun H hs K' h => by unfold opK; simp only [ho, hc, hv, builtinK, hv1, bnd_some]; exact hk H K' h⟩
      · exact h.elim
    · exact h.elim
  · exact h.elim


/-! #### one more object, untouched -/
section
variable {P : Program} {g : Cfg} {env : List V} {H : Heap} {q : Nat} {ob : Ob}
/-- The rest goes on from a heap without the object. -/
def Fr {α : Type} (q : Nat) (ob : Ob) (K : α → Heap → Prop) (e : α) (H'' : Heap) : Prop := ∃ H', H' q = none ∧ H'' = upd H' q ob ∧ K e H'
theorem updc {H : Heap} {i j : Nat} (x y : Ob) (h : i ≠ j) : upd (upd H i x) j y = upd (upd H j y) i x := by
  funext k
  unfold upd
  by_cases e1 : k = i
  · subst e1; simp [h]
  · simp [e1]
theorem sub_q (hq : H q = none) : Abs.sub H (upd H q ob) := fun i x hi => by
  unfold upd; split
  · rename_i e; subst e; rw [hq] at hi; cases hi
  · exact hi
theorem ne_q (hq : H q = none) {o : Nat} {x : Ob} (ho : H o = some x) : o ≠ q := by rintro rfl; rw [hq] at ho; cases ho
theorem upd_q {H : Heap} {o q : Nat} {ob : Ob} (h : o ≠ q) : (upd H q ob) o = H o := by unfold upd; rw [if_neg h]
theorem ACalls.frame {f : FuncId} {args : List V} {R : V → Heap → Prop} (h : ACalls P f args H R) (hq : H q = none) : ACalls P f args (upd H q ob) (Fr q ob R) := by
  refine ⟨fun w0 base F ι G w cargs hrel hsub hF hdis hargs => ?_⟩
  have hob : (upd H q ob) q = some ob := by unfold upd; rw [if_pos rfl]
  have hFq : F q = none := hdis _ _ hob
  have e1 : Abs.sub H G := fun i x hi => hsub _ _ (sub_q hq _ _ hi)
  have e2 : Abs.sub (upd F q ob) G := fun i x hi => by
    by_cases e : i = q
    · subst e
      unfold upd at hi; rw [if_pos rfl] at hi; cases hi
      exact hsub _ _ hob
    · rw [upd_q e] at hi; exact hF _ _ hi
  have e3 : disj H (upd F q ob) := fun i x hi => by
    have e := ne_q hq hi
    rw [upd_q e]
    exact hdis i x (by rw [upd_q e]; exact hi)
  refine Calls.mono (h.run w0 base (upd F q ob) ι G w cargs hrel e1 e2 e3 hargs) fun e w' hh => ?_
  obtain ⟨v, cv, ι', G', H', r1, r2, r3, r4, r5, r6, r7, r8⟩ := hh
  have hFob : (upd F q ob) q = some ob := by unfold upd; rw [if_pos rfl]
  have hH'q : H' q = none := by
    cases hx : H' q with
    | none => rfl
    | some x => have := r7 _ _ hx; rw [hFob] at this; cases this
  refine ⟨v, cv, ι', G', upd H' q ob, r1, r2, r3, r4, fun i x hi => ?_, fun i x hi => ?_, fun i x hi => ?_, H', hH'q, rfl, r8⟩
  · by_cases e : i = q
    · subst e
      unfold upd at hi; rw [if_pos rfl] at hi; cases hi
      exact r6 _ _ hFob
    · rw [upd_q e] at hi; exact r5 _ _ hi
  · refine r6 _ _ ?_
    by_cases e : i = q
    · subst e; rw [hFq] at hi; cases hi
    · rw [upd_q e]; exact hi
  · by_cases e : i = q
    · subst e; exact hFq
    · rw [upd_q e] at hi
      have := r7 _ _ hi
      rwa [upd_q e] at this
theorem putK_mono {d : Option Tmp} {v : V} {A B : List V → Prop} (h : putK g env d v A) (hk : ∀ e, A e → B e) : putK g env d v B := by
  unfold putK at *
  split at h
  · exact hk _ h
  · split at h
    · exact h.elim
    · rw [setK_eq] at *; exact hk _ h
theorem aSt_frame {sz : Nat} {p v : V} {H' : Heap} (hq : H q = none) (h : aSt sz H p v = some H') : H' q = none ∧ aSt sz (upd H q ob) p v = some (upd H' q ob) := by
  unfold aSt at h
  split at h
  · rename_i o r c
    split at h
    · rename_i x hx
      have hne := ne_q hq hx
      split at h
      · rename_i row hr
        split at h
        · rename_i row' hz
          cases h
          refine ⟨by rw [upd_q (Ne.symm hne)]; exact hq, ?_⟩
          unfold aSt
          simp only [upd_q hne, hx, hr, hz]
          rw [updc _ _ (Ne.symm hne)]
        · cases h
      · cases h
    · cases h
  · cases h
theorem newBox_frame {d : Option Tmp} {cs : List V} {K : List V → Heap → Prop} (hq : H q = none) (h : newBox g env H d cs K) : newBox g env (upd H q ob) d cs (Fr q ob K) := by
  unfold newBox at *
  split at h
  · exact h.elim
  · split at h
    · rw [setK_eq] at *; exact ⟨H, hq, rfl, h⟩
    · split at h
      · exact h.elim
      · intro o ho
        have hne : o ≠ q := by rintro rfl; unfold upd at ho; rw [if_pos rfl] at ho; cases ho
        rw [upd_q hne] at ho
        have := h o ho
        rw [setK_eq] at *
        exact ⟨_, by rw [upd_q (Ne.symm hne)]; exact hq, updc _ _ (Ne.symm hne), this⟩
theorem fieldK_mono {d : Option Tmp} {off : Nat} {l : Loc} {A B : List V → Prop} (h : fieldK g env d off l A) (hk : ∀ e, A e → B e) : fieldK g env d off l B := by
  unfold fieldK at *
  split at h
  · exact bnd_mono h fun _ _ h => putK_mono h hk
  · split at h
    · exact hk _ h
    · split at h
      · exact h.elim
      · split at h
        · rw [setK_eq] at *; exact hk _ h
        · exact h.elim
theorem appendK_frame {sz by_ : Nat} {s : V} {xs : List (List V)} {K : V → Heap → Prop} (hq : H q = none) (h : appendK H sz by_ s xs K) : appendK (upd H q ob) sz by_ s xs (Fr q ob K) := by
  have fr : ∀ {o : Nat}, (upd H q ob) o = none → o ≠ q ∧ H o = none := fun {o} ho => by
    have hne : o ≠ q := by rintro rfl; unfold upd at ho; rw [if_pos rfl] at ho; cases ho
    exact ⟨hne, by rwa [upd_q hne] at ho⟩
  unfold appendK at *
  split at h
  · refine ⟨fun e => ⟨H, hq, rfl, h.1 e⟩, fun e => ⟨(h.2 e).1, fun o ho => ?_⟩⟩
    obtain ⟨hne, ho'⟩ := fr ho
    exact ⟨_, by rw [upd_q (Ne.symm hne)]; exact hq, updc _ _ (Ne.symm hne), (h.2 e).2 o ho'⟩
  · rename_i o st n cap
    split at h
    · exact h.elim
    · rename_i x hx
      have hne := ne_q hq hx
      simp only [upd_q hne, hx]
      obtain ⟨h1, h2, h3, h4⟩ := h
      refine ⟨h1, h2, fun e => ⟨H, hq, rfl, h3 e⟩, fun e => ⟨(h4 e).1, ?_⟩⟩
      have h5 := (h4 e).2
      split at h5
      · refine ⟨h5.1, fun o' ho' => ?_⟩
        obtain ⟨hne', ho''⟩ := fr ho'
        refine ⟨_, ?_, ?_, h5.2 o' ho''⟩
        · rw [upd_q (Ne.symm hne')]
          simp only [del]
          rw [if_neg (Ne.symm hne)]; exact hq
        · rw [updc (H := del H o) _ _ hne']
          congr 1
          funext i
          simp only [del, upd]
          by_cases e1 : i = q
          · subst e1; simp [Ne.symm hne]
          · simp [e1]
      · refine ⟨fun hh => ⟨(h5.1 hh).1, _, ?_, ?_, (h5.1 hh).2⟩, fun hh o' ho' => ?_⟩
        · rw [upd_q (Ne.symm hne)]; exact hq
        · rw [updc _ _ (Ne.symm hne)]
        · obtain ⟨hne', ho''⟩ := fr ho'
          exact ⟨_, by rw [upd_q (Ne.symm hne')]; exact hq, updc _ _ (Ne.symm hne'), h5.2 hh o' ho''⟩
  · exact h.elim
theorem copyK_frame {sz : Nat} {d : V} {xs : List (List V)} {K : V → Heap → Prop} (hq : H q = none) (h : copyK H sz d xs K) : copyK (upd H q ob) sz d xs (Fr q ob K) := by
  unfold copyK at *
  split at h
  · exact ⟨H, hq, rfl, h⟩
  · split at h
    · exact h.elim
    · rename_i x hx
      have hne := ne_q hq hx
      simp only [upd_q hne, hx]
      exact ⟨h.1, h.2.1, _, by rw [upd_q (Ne.symm hne)]; exact hq, by rw [updc _ _ (Ne.symm hne)], h.2.2⟩
  · exact h.elim
theorem clearK_frame {sz : Nat} {z : List V} {d : V} {K : V → Heap → Prop} (hq : H q = none) (h : clearK H sz z d K) : clearK (upd H q ob) sz z d (Fr q ob K) := by
  unfold clearK at *
  split at h
  · exact ⟨H, hq, rfl, h⟩
  · split at h
    · exact h.elim
    · rename_i x hx
      have hne := ne_q hq hx
      simp only [upd_q hne, hx]
      exact ⟨h.1, h.2.1, h.2.2.1, _, by rw [upd_q (Ne.symm hne)]; exact hq, by rw [updc _ _ (Ne.symm hne)], h.2.2.2⟩
  · exact h.elim
theorem rowsOf_up {sz : Nat} {x : V} {r : List (List V)} (h : rowsOf H sz x = some r) (hq : H q = none) : rowsOf (upd H q ob) sz x = some r := by
  unfold rowsOf at *
  split at h
  · split at h
    · rename_i x hx
      simp only [upd_q (ne_q hq hx), hx]; exact h
    · cases h
  · exact h
  · cases h
theorem growZ_frame {sz by_ : Nat} {z : List V} {s x : V} {K : V → Heap → Prop} (hq : H q = none) (h : growZ H sz by_ z s x K) : growZ (upd H q ob) sz by_ z s x (Fr q ob K) := by
  unfold growZ at *
  split at h
  · split at h
    · exact h.elim
    · rename_i x hx
      have hne := ne_q hq hx
      simp only [upd_q hne, hx]
      obtain ⟨h1, h2, h3, h4, h5, h6, h7⟩ := h
      refine ⟨h1, h2, h3, h4, h5, h6, fun o ho => ?_⟩
      have hne : o ≠ q := by rintro rfl; unfold upd at ho; rw [if_pos rfl] at ho; cases ho
      have ho' : H o = none := by rwa [upd_q hne] at ho
      exact ⟨_, by rw [upd_q (Ne.symm hne)]; exact hq, updc _ _ (Ne.symm hne), h7 o ho'⟩
  · exact h.elim
theorem builtinK_frame {b : Builtin} {tys : List TypeId} {args : List V} {K : V → Heap → Prop} (hq : H q = none) (h : builtinK P H b tys args K) : builtinK P (upd H q ob) b tys args (Fr q ob K) := by
  unfold builtinK at *
  split at h
  · exact bnd_mono h fun _ _ h => bnd_mono h fun _ _ h => ⟨H, hq, rfl, h⟩
  · refine bnd_mono h fun _ _ h => ?_
    unfold capK at *
    split at h
    · exact fun c hc => ⟨H, hq, rfl, h c hc⟩
    · exact ⟨H, hq, rfl, h⟩
    · exact ⟨H, hq, rfl, h⟩
    · exact h.elim
  · split at h
    · rename_i e; rw [if_pos e]
      refine bnd_mono h fun _ _ h => bnd_mono h fun _ _ h => bnd_mono h fun _ _ h => bnd_mono h fun _ _ h => ?_
      split at h
      · rename_i e; rw [if_pos e]
        obtain ⟨r, hr, h⟩ := bnd_elim h
        rw [rowsOf_up hr hq]
        exact appendK_frame hq h
      · exact h.elim
    · rename_i e; rw [if_neg e]
      refine bnd_mono h fun _ _ h => bnd_mono h fun _ _ h => bnd_mono h fun _ _ h => bnd_mono h fun _ _ h => ?_
      split at h
      · rename_i e; rw [if_pos e]; exact growZ_frame hq h
      · exact h.elim
  · refine bnd_mono h fun _ _ h => bnd_mono h fun _ _ h => ?_
    obtain ⟨r, hr, h⟩ := bnd_elim h
    rw [rowsOf_up hr hq]
    exact copyK_frame hq h
  · exact bnd_mono h fun _ _ h => bnd_mono h fun _ _ h => bnd_mono h fun _ _ h => clearK_frame hq h
  · exact bnd_mono h fun _ _ h => ⟨H, hq, rfl, h⟩
  · exact bnd_mono h fun _ _ h => ⟨H, hq, rfl, h⟩
  · exact h.elim
theorem opK_frame {o : Oper} {K : List V → Heap → Prop} (hq : H q = none) (h : opK P g o env H K) : opK P g o env (upd H q ob) (Fr q ob K) := by
  have hs : Abs.sub H (upd H q ob) := sub_q hq
  have hput : ∀ {v : V}, putK g env o.dst v (fun env' => K env' H) → putK g env o.dst v (fun env' => Fr q ob K env' (upd H q ob)) := fun h => putK_mono h fun e h => ⟨H, hq, rfl, h⟩
  have hnew : ∀ {v : Nat → V} {x : Ob}, (∀ o', H o' = none → putK g env o.dst (v o') (fun env' => K env' (upd H o' x))) → ∀ o', (upd H q ob) o' = none → putK g env o.dst (v o') (fun env' => Fr q ob K env' (upd (upd H q ob) o' x)) := fun h o' ho => by
    have hne : o' ≠ q := by rintro rfl; unfold upd at ho; rw [if_pos rfl] at ho; cases ho
    rw [upd_q hne] at ho
    exact putK_mono (h o' ho) fun e h => ⟨_, by rw [upd_q (Ne.symm hne)]; exact hq, updc _ _ (Ne.symm hne), h⟩
  unfold opK at *
  split at h
  · exact bnd_mono h fun _ _ h => hput h
  · exact bnd_mono h fun _ _ h => hput h
  · exact bnd_mono h fun _ _ h => bnd_mono h fun _ _ h => bnd_mono h fun _ _ h => bnd_mono h fun _ _ h => hput h
  · exact bnd_mono h fun _ _ h => newBox_frame hq h
  · exact bnd_mono h fun _ _ h => ⟨h.1, newBox_frame hq h.2⟩
  · refine bnd_mono h fun _ _ h => bnd_mono h fun _ _ h => ?_
    split at h
    · exact bnd_mono h fun _ _ h => hput h
    · exact h.elim
  · exact bnd_mono h fun _ _ h => bnd_mono h fun _ _ h => bnd_mono h fun _ _ h => bnd_mono h fun _ _ h => bnd_mono h fun _ _ h => hnew (v := fun o' => .slice o' 0 _ (some _)) h
  · refine bnd_mono h fun _ _ h => ?_
    obtain ⟨v, hv, h⟩ := bnd_elim h
    rw [aLoadL_up hv hs]
    exact hput h
  · split at h
    · refine bnd_mono h fun l _ h => bnd_mono h fun _ _ h => ?_
      cases l with
      | heap p =>
        obtain ⟨H', hv, h⟩ := bnd_elim h
        unfold aStore at hv
        split at hv
        · rename_i sz hsz
          obtain ⟨g1, g2⟩ := aSt_frame (ob := ob) hq hv
          show bnd (aStore P (upd H q ob) _ p _) _
          unfold aStore
          simp only [hsz, g2]
          exact ⟨H', g1, rfl, h⟩
        · cases hv
      | here s c cs =>
        refine bnd_mono h fun cs' _ h => ?_
        rw [setK_eq] at *
        exact ⟨H, hq, rfl, h⟩
    · exact h.elim
  · exact bnd_mono h fun _ _ h => bnd_mono h fun _ _ h => fieldK_mono h fun env' h => ⟨H, hq, rfl, h⟩
  · exact bnd_mono h fun _ _ h => bnd_mono h fun _ _ h => bnd_mono h fun _ _ h => bnd_mono h fun _ _ h => hput h
  · refine bnd_mono h fun _ _ h => bnd_mono h fun _ _ h => bnd_mono h fun _ _ h => bnd_mono h fun _ _ h => ?_
    obtain ⟨v, hv, h⟩ := bnd_elim h
    rw [aIndex_up hv hs]
    exact hput h
  · refine bnd_mono h fun _ _ h => bnd_mono h fun _ _ h => bnd_mono h fun _ _ h => bnd_mono h fun _ _ h => bnd_mono h fun _ _ h => bnd_mono h fun _ _ h => ?_
    obtain ⟨v, hv, h⟩ := bnd_elim h
    rw [aSlice_up hv hs]
    exact hput h
  · exact bnd_mono h fun _ _ h => bnd_mono h fun _ _ h => bnd_mono h fun _ _ h => bnd_mono h fun _ _ h => bnd_mono h fun _ _ h => bnd_mono h fun _ _ h => bnd_mono h fun _ _ h => bnd_mono h fun _ _ h => ⟨h.1, hnew (v := fun o' => .slice o' 0 _ (some _)) h.2⟩
  · exact bnd_mono h fun _ _ h => bnd_mono h fun _ _ h => bnd_mono h fun _ _ h => hput h
  · exact bnd_mono h fun _ _ h => bnd_mono h fun _ _ h => hput h
  · exact bnd_mono h fun _ _ h => bnd_mono h fun _ _ h => hput h
  · exact bnd_mono h fun _ _ h => bnd_mono h fun _ _ h => hput h
  · exact bnd_mono h fun _ _ h => bnd_mono h fun _ _ h => hput h
  · exact bnd_mono h fun _ _ h => bnd_mono h fun _ _ h => hput h
  · split at h
    · exact bnd_mono h fun _ _ h => hput h
    · exact h.elim
  · have hputF : ∀ v H', putK g env o.dst v (fun env' => K env' H') → True := fun _ _ _ => trivial
    split at h
    · refine bnd_mono h fun _ _ h => bnd_mono h fun _ _ h => ?_
      unfold callK at *
      split at h
      · split at h
        · refine (h.frame hq).mono fun v H'' hh => ?_
          obtain ⟨H', a, b, c⟩ := hh
          exact putK_mono c fun e h => ⟨H', a, b, h⟩
        · exact h.elim
      · exact h.elim
    · refine bnd_mono h fun _ _ h => ?_
      refine builtinK_mono (builtinK_frame hq h) fun v H'' hh => ?_
      obtain ⟨H', a, b, c⟩ := hh
      exact putK_mono c fun e h => ⟨H', a, b, h⟩
    · exact h.elim
  · exact h.elim
end

end
end Go.Abs
