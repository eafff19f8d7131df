/-
The abstract layer, part O: the transformer is sound; a function's contract.
-/
import Derived.Test.YtaippfedjjjpeaaGreatAbs2
import Derived.ChangeArms
import Derived.WideShapes
import Derived.IntWalk
set_option linter.all false
namespace Go.Abs
open Go.RowKit (Below)

section
variable {P : Program} {g : Cfg} {w0 : World} {base : Nat} {F : Heap} {ι : Nat → Option Place} {β : Nat → Option Nat} {G : Heap} {env : List V} {H : Heap} {a : Act} {w : World}

theorem omods_dst {o : Oper} {d : Nat} (h : o.dst = some d) : d ∈ omods g o := by unfold omods; rw [h]; simp [dstL]

theorem skipDst_agree (o : Oper) : agree (omods g o) env (skipDst g env o.dst) := by
  cases h : o.dst with
  | none => exact agree.refl _ _
  | some d =>
    simp only [skipDst]
    cases g.loc d <;> exact agree.set _ _ (omods_dst h)

theorem opsK_lift {ops : List Oper} : ∀ {l : List Oper} {env : List V} {H : Heap} {K K' : List V → Heap → Prop}, opsK P g ops l env H K → (∀ env' H', agree (rmods g l) env env' → K env' H' → K' env' H') → opsK P g ops l env H K'
  | [], env, H, K, K', h, hk => hk env H (agree.refl _ _) h
  | o :: l, env, H, K, K', h, hk => by
    have step : ∀ {env' : List V} {H' : Heap}, agree (omods g o) env env' → opsK P g ops l env' H' K → opsK P g ops l env' H' K' := fun ha h =>
      opsK_lift h fun env'' H'' ha' h => hk env'' H'' ((ha.mono fun s hs => List.mem_append_left _ hs).trans (ha'.mono fun s hs => List.mem_append_right _ hs)) h
    unfold opsK at h ⊢
    split at h
    · rename_i hg
      exact opK_lift h fun env' H' ha h => step ha h
    · obtain ⟨o', t, v, h1, h2, h3, hv, h4, h5⟩ := guardK_elim h
      exact guardK_intro h1 h2 h3 hv (fun e => opK_lift (h4 e) fun env' H' ha h => step ha h) (fun e => step (skipDst_agree o) (h5 e))

theorem regK_lift {ops : Array Oper} {draw : Bool} {K K' : List V → Heap → Prop} (h : regK P g ops draw env H K) (hk : ∀ env' H', agree (rmods g ops.toList) env env' → K env' H' → K' env' H') : regK P g ops draw env H K' := by
  unfold regK at *
  cases draw with
  | false => exact opsK_lift h hk
  | true => exact h

theorem clr_agree' (ms : List Nat) (env : List V) : agree ms env (clr ms env) := agree.clr ms env fun _ h => h
theorem setMany_agree (ms : List Nat) : ∀ (live : List Nat) (xs env : List V), agree ms env (setMany g ms live xs env)
  | [], xs, env => agree.refl _ _
  | d :: ds, xs, env => by
    unfold setMany
    refine agree.trans ?_ (setMany_agree ms ds xs.tail _)
    cases h : ms.contains d with
    | true => exact agree.set _ _ (by simpa using h)
    | false => exact agree.refl _ _
theorem head_agree (ms live : List Nat) (env xs : List V) : agree ms env (head g ms live env xs) := (clr_agree' ms env).trans (setMany_agree ms live xs _)

theorem rmods_mem : ∀ {l : List Oper} {i : Nat} {o : Oper} {s : Nat}, l[i]? = some o → s ∈ omods g o → s ∈ rmods g l
  | [], i, o, s, h, _ => by simp at h
  | x :: l, 0, o, s, h, hs => by simp at h; subst h; exact List.mem_append_left _ hs
  | x :: l, i + 1, o, s, h, hs => List.mem_append_right _ (rmods_mem (l := l) (i := i) (by simpa using h) hs)
theorem opD_liftA {HS : Heap} {o : Oper} {K K' : List V → Heap → Prop} (h : opD P g HS o env H K) (hk : ∀ e h, agree (omods g o) env e → K e h → K' e h) : opD P g HS o env H K' := by
  unfold opD at *
  split at h
  · exact opK_lift h fun e _ ha h => hk e H ha h
  · exact opK_lift h fun e h' ha h => ⟨h.1, hk e h' ha h.2⟩
theorem seqD_liftA {HS : Heap} {ops : List Oper} : ∀ {l : List Nat} {env : List V} {H : Heap} {K K' : List V → Heap → Prop}, seqD P g HS ops l env H K → (∀ e h, agree (rmods g ops) env e → K e h → K' e h) → seqD P g HS ops l env H K'
  | [], env, H, K, K', h, hk => hk env H (agree.refl _ _) h
  | i :: l, env, H, K, K', h, hk => by
    unfold seqD at h ⊢
    split at h
    · rename_i o ho
      have step : ∀ {e : List V} {h : Heap}, agree (omods g o) env e → seqD P g HS ops l e h K → seqD P g HS ops l e h K' := fun ha h =>
        seqD_liftA h fun e' h' ha' h => hk e' h' ((ha.mono fun s hs => rmods_mem ho hs).trans ha') h
      unfold stepD at h ⊢
      split at h
      · exact opD_liftA h fun e h' ha h => step ha h
      · obtain ⟨o', t, b, h1, h2, h3, hv, h4, h5⟩ := guardK_elim h
        exact guardK_intro h1 h2 h3 hv (fun e => opD_liftA (h4 e) fun e h' ha h => step ha h) (fun e => step (skipDst_agree o) (h5 e))
    · exact h.elim
theorem drawK_lift {ops : List Oper} {order : List Nat} {K K' : List V → Heap → Prop} (h : drawK P g ops order env H K) (hk : ∀ e h, agree (rmods g ops) env e → K e h → K' e h) : drawK P g ops order env H K' := by
  unfold drawK at *
  split at h
  · obtain ⟨HS, h1, h2⟩ := h
    exact ⟨HS, h1, seqD_liftA h2 hk⟩
  · exact h.elim

theorem opH_liftA {o : Oper} {env : List V} {H : Heap} {K K' : List V → Heap → Prop} (h : opH P g o env H K) (hk : ∀ e h, agree (omods g o) env e → K e h → K' e h) : opH P g o env H K' := by
  unfold opH at *
  split at h
  · exact opK_lift h fun e _ ha h => hk e H ha h
  · exact opK_lift h fun e h' ha h => hk e h' ha h
theorem seqH_liftA {ops : List Oper} : ∀ {l : List Nat} {env : List V} {H : Heap} {K K' : List V → Heap → Prop}, seqH P g ops l env H K → (∀ e h, agree (rmods g ops) env e → K e h → K' e h) → seqH P g ops l env H K'
  | [], env, H, K, K', h, hk => hk env H (agree.refl _ _) h
  | i :: l, env, H, K, K', h, hk => by
    unfold seqH at h ⊢
    split at h
    · rename_i o ho
      have step : ∀ {e : List V} {h : Heap}, agree (omods g o) env e → seqH P g ops l e h K → seqH P g ops l e h K' := fun ha h =>
        seqH_liftA h fun e' h' ha' h => hk e' h' ((ha.mono fun s hs => rmods_mem ho hs).trans ha') h
      unfold stepH at h ⊢
      split at h
      · exact opH_liftA h fun e h' ha h => step ha h
      · obtain ⟨o', t, b, h1, h2, h3, hv, h4, h5⟩ := guardK_elim h
        exact guardK_intro h1 h2 h3 hv (fun e => opH_liftA (h4 e) fun e h' ha h => step ha h) (fun e => step (skipDst_agree o) (h5 e))
    · exact h.elim
theorem drawH_lift {ops : List Oper} {order : List Nat} {K K' : List V → Heap → Prop} (h : drawH P g ops order env H K) (hk : ∀ e h, agree (rmods g ops) env e → K e h → K' e h) : drawH P g ops order env H K' := by
  unfold drawH at *
  split at h
  · exact seqH_liftA h hk
  · exact h.elim

theorem phK_lift {ops : List Oper} : ∀ {ph : List (List Nat)} {env : List V} {H : Heap} {K K' : List V → Heap → Prop}, phK P g ops ph env H K → (∀ e h, agree (rmods g ops) env e → K e h → K' e h) → phK P g ops ph env H K'
  | [], env, H, K, K', h, hk => hk env H (agree.refl _ _) h
  | p :: r, env, H, K, K', h, hk => by
    obtain ⟨HS, h1, h2⟩ := h
    exact ⟨HS, h1, seqD_liftA h2 fun e h ha h => phK_lift h fun e' h' ha' h => hk e' h' (ha.trans ha') h⟩
theorem drawP_lift {ops : List Oper} {ph : List (List Nat)} {K K' : List V → Heap → Prop} (h : drawP P g ops ph env H K) (hk : ∀ e h, agree (rmods g ops) env e → K e h → K' e h) : drawP P g ops ph env H K' := by
  unfold drawP at *
  split at h
  · exact phK_lift h hk
  · exact h.elim

theorem seqG_liftA {ops : List Oper} : ∀ {l : List Nat} {HS : Heap} {env : List V} {H : Heap} {K K' : List V → Heap → Prop}, seqG P g ops l HS env H K → (∀ e h, agree (rmods g ops) env e → K e h → K' e h) → seqG P g ops l HS env H K'
  | [], _, env, H, K, K', h, hk => hk env H (agree.refl _ _) h
  | i :: l, HS, env, H, K, K', h, hk => by
    unfold seqG at h ⊢
    split at h
    · rename_i o ho
      have step : ∀ {HS2 : Heap} {e : List V} {h : Heap}, agree (omods g o) env e → seqG P g ops l HS2 e h K → seqG P g ops l HS2 e h K' := fun ha h =>
        seqG_liftA h fun e' h' ha' h => hk e' h' ((ha.mono fun s hs => rmods_mem ho hs).trans ha') h
      have nx : ∀ {e : List V} {h : Heap}, agree (omods g o) env e → (match isE g o with | true => seqG P g ops l HS e h K | false => ∃ HS', Abs.sub HS HS' ∧ Abs.sub HS' h ∧ seqG P g ops l HS' e h K) →
          (match isE g o with | true => seqG P g ops l HS e h K' | false => ∃ HS', Abs.sub HS HS' ∧ Abs.sub HS' h ∧ seqG P g ops l HS' e h K') := fun {e h} ha hh => by
        cases hE : isE g o with
        | true => rw [hE] at hh; exact step ha hh
        | false =>
          rw [hE] at hh
          obtain ⟨HS', z1, z2, z3⟩ := hh
          exact ⟨HS', z1, z2, step ha z3⟩
      unfold stepD at h ⊢
      split at h
      · exact opD_liftA h fun e h' ha h => nx ha h
      · obtain ⟨o', t, b, h1, h2, h3, hv, h4, h5⟩ := guardK_elim h
        exact guardK_intro h1 h2 h3 hv (fun e => opD_liftA (h4 e) fun e h' ha h => nx ha h) (fun e => nx (skipDst_agree o) (h5 e))
    · exact h.elim
theorem drawG_lift {ops : List Oper} {order : List Nat} {K K' : List V → Heap → Prop} (h : drawG P g ops order env H K) (hk : ∀ e h, agree (rmods g ops) env e → K e h → K' e h) : drawG P g ops order env H K' := by
  unfold drawG at *
  split at h
  · obtain ⟨HS, h1, h2⟩ := h
    exact ⟨HS, h1, seqG_liftA h2 hk⟩
  · exact h.elim

theorem awp_lift {c : Code} : ∀ {x : Ann} {Q Q' : Ex → List V → Heap → Prop} {env : List V} {H : Heap}, awp P g c x Q env H → (∀ e env' H', agree (mods g c) env env' → Q e env' H' → Q' e env' H') → awp P g c x Q' env H := by
  induction c with
  | skip => intro x Q Q' env H h hk; unfold awp at *; exact hk _ _ _ (agree.refl _ _) h
  | ret => intro x Q Q' env H h hk; unfold awp at *; exact hk _ _ _ (agree.refl _ _) h
  | exit id => intro x Q Q' env H h hk; unfold awp at *; exact hk _ _ _ (agree.refl _ _) h
  | region id ops draw =>
    intro x Q Q' env H h hk
    cases x with
    | cut live =>
      obtain ⟨J, h1, h2⟩ := h
      exact ⟨J, h1, fun xs H' hj => hk _ _ _ (head_agree _ _ _ _) (h2 xs H' hj)⟩
    | draw order =>
      cases draw with
      | true => exact drawK_lift h fun env' H' ha h => hk _ _ _ ha h
      | false => exact h.elim
    | drawh order =>
      cases draw with
      | true => exact drawH_lift h fun env' H' ha h => hk _ _ _ ha h
      | false => exact h.elim
    | drawp ph =>
      cases draw with
      | true => exact drawP_lift h fun env' H' ha h => hk _ _ _ ha h
      | false => exact h.elim
    | drawg ph =>
      cases draw with
      | true => exact drawG_lift h fun env' H' ha h => hk _ _ _ ha h
      | false => exact h.elim
    | _ => exact regK_lift h fun env' H' ha h => hk _ _ _ ha h
  | seq a b iha ihb =>
    intro x Q Q' env H h hk
    cases x with
    | seq x y =>
      refine iha h fun e env' H' ha h => ?_
      cases e with
      | normal => exact ihb h fun e env'' H'' hb h => hk _ _ _ ((ha.mono fun s hs => List.mem_append_left _ hs).trans (hb.mono fun s hs => List.mem_append_right _ hs)) h
      | _ => exact hk _ _ _ (ha.mono fun s hs => List.mem_append_left _ hs) h
    | seqc x y live =>
      obtain ⟨J, h1, h2⟩ := h
      refine ⟨J, iha h1 fun e env' H' ha h => ?_, fun xs H' hj => ihb (h2 xs H' hj) fun e env'' H'' hb h => hk _ _ _ (((head_agree _ _ _ _).mono fun s hs => List.mem_append_left _ hs).trans (hb.mono fun s hs => List.mem_append_right _ hs)) h⟩
      cases e with
      | normal => exact h
      | _ => exact hk _ _ _ (ha.mono fun s hs => List.mem_append_left _ hs) h
    | _ => exact h.elim
  | cond c a b iha ihb =>
    intro x Q Q' env H h hk
    cases x with
    | cond x y =>
      refine bnd_mono h fun v _ h => ?_
      cases v with
      | bool t =>
        cases t
        · exact ihb h fun e env' H' ha h => hk _ _ _ (ha.mono fun s hs => List.mem_append_right _ hs) h
        · exact iha h fun e env' H' ha h => hk _ _ _ (ha.mono fun s hs => List.mem_append_left _ hs) h
      | _ => exact h.elim
    | _ => exact h.elim
  | block id a iha =>
    intro x Q Q' env H h hk
    cases x with
    | block x =>
      refine iha h fun e env' H' ha h => ?_
      cases e with
      | exit id' =>
        revert h
        show (match id' == id with | true => Q .normal env' H' | false => Q (.exit id') env' H') → (match id' == id with | true => Q' .normal env' H' | false => Q' (.exit id') env' H')
        cases id' == id with
        | true => exact hk _ _ _ ha
        | false => exact hk _ _ _ ha
      | _ => exact hk _ _ _ ha h
    | _ => exact h.elim
  | loop a iha =>
    intro x Q Q' env H h hk
    cases x with
    | loop live x =>
      obtain ⟨I, n0, h1, h2⟩ := h
      refine ⟨I, n0, h1, fun n xs H' hi => iha (h2 n xs H' hi) fun e env' H'' ha h => ?_⟩
      cases e with
      | normal => exact h
      | _ => exact hk _ _ _ ((head_agree _ _ _ _).trans ha) h
    | _ => exact h.elim
  | _ => intro x Q Q' env H h hk; exact h.elim

/-! #### soundness -/

theorem opsK_sound {ops : Array Oper} {Q : Exit → Act → World → Prop} {K : List V → Heap → Prop} : ∀ {l : List Oper} {env : List V} {H : Heap} {ι : Nat → Option Place} {β : Nat → Option Nat} {G : Heap} {a : Act} {w : World},
    St g w0 base F ι β G env H a w → Cont g w0 base F ι K (Q .normal) → opsK P g ops.toList l env H K → wpList P ops Q l a w
  | [], env, H, ι, β, G, a, w, hs, hn, hk => wpList_nil (hn _ _ _ _ _ _ _ (ile.refl _) hs hk)
  | o :: l, env, H, ι, β, G, a, w, hs, hn, hk => by
    have step : Cont g w0 base F ι (fun env' H' => opsK P g ops.toList l env' H' K) (wpList P ops Q l) := fun ι' β' G' env' H' a' w' hi hs' hk' =>
      opsK_sound hs' (fun ι'' β'' G'' env'' H'' a'' w'' hi' hs'' hk'' => hn _ _ _ _ _ _ _ (hi.trans hi') hs'' hk'') hk'
    refine wpList_step fun K0 hK0 => ?_
    have step' : Cont g w0 base F ι (fun env' H' => opsK P g ops.toList l env' H' K) K0 := fun ι' β' G' env' H' a' w' hi hs' hk' => hK0 _ _ (step _ _ _ _ _ _ _ hi hs' hk')
    unfold opsK at hk
    split at hk
    · rename_i hg
      rw [if_pos (by unfold Region.wanted; rw [hg])]
      exact opK_sound hs step' hk
    · rename_i j want hg
      rcases guard_sound hs hg hk with ⟨h1, h2⟩ | ⟨h1, h2⟩
      · rw [if_pos h1]; exact opK_sound hs step' h2
      · rw [if_neg (by rw [h1]; exact Bool.false_ne_true)]
        exact step' _ _ _ _ _ _ _ (ile.refl _) (skipDst_sound hs o.dst) h2

def exRel : Ex → Exit → Prop
  | .normal, .normal => True
  | .exit i, .exit j => i = j
  | .ret, .ret => True
  | _, _ => False

/-- The postcondition, of the model's side. -/
def PostQ (g : Cfg) (w0 : World) (base : Nat) (F : Heap) (ι : Nat → Option Place) (Q : Ex → List V → Heap → Prop) : Exit → Act → World → Prop := fun e a w =>
  ∃ ex env H ι' β G, exRel ex e ∧ ile ι ι' ∧ St g w0 base F ι' β G env H a w ∧ Q ex env H

theorem regK_sound {id : Nat} {ops : Array Oper} {draw : Bool} {Q : Exit → Act → World → Prop} {K : List V → Heap → Prop} (hs : St g w0 base F ι β G env H a w) (hn : Cont g w0 base F ι K (Q .normal)) (hk : regK P g ops draw env H K) :
    (Code.region id ops draw).wp P Q a w := by
  unfold regK at hk
  cases draw with
  | false => exact wp_region_list (opsK_sound hs hn hk)
  | true => exact hk.elim

theorem getMany_get (env : List V) : ∀ (live : List Nat), getMany env live = live.map fun d => env.getD d .any
  | [] => rfl
  | d :: ds => by simp [getMany, getMany_get env ds]

theorem setMany_get (ms : List Nat) (env' : List V) : ∀ (live : List Nat) (e : List V), e.length = env'.length → (∀ (s : Nat) v, e[s]? = some v → v = .any ∨ env'[s]? = some v) →
    okMany g env' live = true → ∀ (s : Nat) v, (setMany g ms live (getMany env' live) e)[s]? = some v → v = .any ∨ env'[s]? = some v
  | [], e, _, h, _, s, v, hv => h s v hv
  | d :: ds, e, hl, h, hok, s, v, hv => by
    unfold setMany at hv
    simp only [getMany, List.tail_cons, List.headD_cons] at hv
    have hok' : okMany g env' ds = true ∧ (setMany g ms ds (getMany env' ds) (match ms.contains d with | true => e.set d (env'.getD d .any) | false => e))[s]? = some v := by
      unfold okMany at hok
      cases hc : g.L.contains d with
      | true =>
        rw [hc] at hok hv
        simp only at hok hv
        split at hok
        · rename_i cs he
          refine ⟨hok, ?_⟩
          have hb : V.box (bc (env'.getD d .any)) = env'.getD d .any := by simp [List.getD_eq_getElem?_getD, he, bc]
          rw [hb] at hv
          cases hm : ms.contains d <;> rw [hm] at hv <;> exact hv
        · cases hok
      | false => rw [hc] at hok hv; exact ⟨hok, by cases hm : ms.contains d <;> rw [hm] at hv <;> exact hv⟩
    obtain ⟨hok, hv⟩ := hok'
    refine setMany_get ms env' ds _ ?_ ?_ hok s v hv
    · split <;> simp [hl]
    · intro s v hv
      split at hv
      · by_cases e' : d = s
        · subst e'
          have hlt : d < e.length := by have := (List.getElem?_eq_some_iff.1 hv).1; simpa using this
          simp [hlt] at hv
          have hlt' : d < env'.length := by omega
          simp [hlt'] at hv
          exact .inr (by simp [hlt', hv])
        · simp [e'] at hv; exact h s v hv
      · exact h s v hv

theorem St.shrink (hs : St g w0 base F ι β G env H a w) {H' : Heap} (hsub : Abs.sub H' H) : St g w0 base F ι β G env H' a w :=
  ⟨hs.heap, sub_trans hsub hs.sub, hs.frm, fun o x h => hs.dis o x (hsub o x h), hs.len, hs.slot, hs.binj, (fun s i h => by
    refine ⟨?_, (hs.bout s i h).2⟩
    have h0 := (hs.bout s i h).1
    cases e : H' i
    · rfl
    · rw [hsub i _ e] at h0; cases h0), hs.bin, hs.nodef⟩
theorem meet_elim {live : List Nat} {J : List V → Heap → Prop} (h : meet g env live J H) : okMany g env live = true ∧ ∃ H', Abs.sub H' H ∧ J (getMany env live) H' := by
  unfold meet at h
  split at h
  · exact ⟨by assumption, h⟩
  · exact h.elim

theorem St.head (hs : St g w0 base F ι β G env H a w) {ms live : List Nat} {env0 : List V} (ha : agree ms env0 env) (hok : okMany g env live = true) : St g w0 base F ι β G (Abs.head g ms live env0 (getMany env live)) H a w := by
  have key : ∀ (s : Nat) v, (Abs.head g ms live env0 (getMany env live))[s]? = some v → v = .any ∨ env[s]? = some v := by
    refine setMany_get ms env live _ (by rw [clr_len]; exact ha.1) (fun s v hv => ?_) hok
    by_cases hm : s ∈ ms
    · exact .inl (clr_mem ms env0 s v hm hv)
    · rcases clr_get ms env0 s v hv with ⟨h, _⟩ | h
      · exact absurd h hm
      · exact .inr (by rw [← ha.2 s hm]; exact h)
  refine ⟨hs.heap, hs.sub, hs.frm, hs.dis, ?_, fun s v cv h1 h2 => ?_, hs.binj, hs.bout, hs.bin, hs.nodef⟩
  · rw [← (head_agree ms live env0 (getMany env live)).1, ha.1, hs.len]
  · rcases key s v h1 with rfl | h
    · exact SlotRel.any _ _
    · exact hs.slot s v cv h h2

theorem PostQ.mono {Q Q' : Ex → List V → Heap → Prop} {ι' : Nat → Option Place} {e : Exit} {a : Act} {w : World} (h : PostQ g w0 base F ι' Q e a w) (hi : ile ι ι') (hq : ∀ e env H, Q e env H → Q' e env H) : PostQ g w0 base F ι Q' e a w := by
  obtain ⟨ex, env, H, ι'', β, G, h1, h2, h3, h4⟩ := h
  exact ⟨ex, env, H, ι'', β, G, h1, hi.trans h2, h3, hq _ _ _ h4⟩

theorem least {p : Nat → Prop} (h : ∃ n, p n) : ∃ n, p n ∧ ∀ m, p m → n ≤ m := by
  obtain ⟨n, hn⟩ := h
  induction n using Nat.strongRecOn with
  | _ n ih =>
    by_cases hex : ∃ m, m < n ∧ p m
    · obtain ⟨m, hm, hp⟩ := hex; exact ih m hm hp
    · exact ⟨n, hn, fun m hp => by
        rcases Nat.lt_or_ge m n with h | h
        · exact absurd ⟨m, h, hp⟩ hex
        · exact h⟩

theorem wp_loop_n {c : Code} {Q : Exit → Act → World → Prop} (I : Nat → Act → World → Prop) (round : ∀ n a w, I n a w → c.wp P (Exit.then (fun a' w' => ∃ m, m < n ∧ I m a' w') Q) a w) : ∀ n a w, I n a w → (Code.loop c).wp P Q a w := by
  classical
  intro n a w h
  let μ : Act → World → Nat := fun a w => if h : ∃ n, I n a w then (least h).choose else 0
  refine wp_loop (fun a w => ∃ n, I n a w) μ ⟨n, h⟩ fun a w hex => ?_
  have hmin : μ a w = (least hex).choose := by simp only [μ]; rw [dif_pos hex]
  refine wp_mono (round _ a w (least hex).choose_spec.1) fun e a' w' hq => ?_
  cases e with
  | normal =>
    obtain ⟨m, hm, hI⟩ := hq
    refine ⟨⟨m, hI⟩, ?_⟩
    have hex' : ∃ n, I n a' w' := ⟨m, hI⟩
    have : μ a' w' = (least hex').choose := by simp only [μ]; rw [dif_pos hex']
    rw [this, hmin]
    exact Nat.lt_of_le_of_lt ((least hex').choose_spec.2 m hI) hm
  | _ => exact hq

theorem awp_sound {c : Code} : ∀ {x : Ann} {Q : Ex → List V → Heap → Prop} {env : List V} {H : Heap} {ι : Nat → Option Place} {β : Nat → Option Nat} {G : Heap} {a : Act} {w : World},
    awp P g c x Q env H → St g w0 base F ι β G env H a w → c.wp P (PostQ g w0 base F ι Q) a w := by
  induction c with
  | skip => intro x Q env H ι β G a w h hs; unfold awp at h; exact wp_skip ⟨.normal, env, H, ι, β, G, trivial, ile.refl _, hs, h⟩
  | ret => intro x Q env H ι β G a w h hs; unfold awp at h; exact wp_ret ⟨.ret, env, H, ι, β, G, trivial, ile.refl _, hs, h⟩
  | exit id => intro x Q env H ι β G a w h hs; unfold awp at h; exact wp_exit ⟨.exit id, env, H, ι, β, G, rfl, ile.refl _, hs, h⟩
  | region id ops draw =>
    intro x Q env H ι β G a w h hs
    cases x with
    | cut live =>
      obtain ⟨J, h1, h2⟩ := h
      have h1' := regK_lift (K' := fun env' H' => agree (rmods g ops.toList) env env' ∧ meet g env' live J H') h1 fun env' H' ha h => ⟨ha, h⟩
      refine regK_sound hs (fun ι' β' G' env' H' a' w' hi hs' hk => ?_) h1'
      obtain ⟨hok, Hs, hsub, hJ⟩ := meet_elim hk.2
      exact ⟨.normal, _, Hs, ι', β', G', trivial, hi, (hs'.shrink hsub).head hk.1 hok, h2 _ _ hJ⟩
    | draw order =>
      cases draw with
      | true => exact drawK_sound hs (fun ι' β' G' env' H' a' w' hi hs' hk => ⟨.normal, env', H', ι', β', G', trivial, hi, hs', hk⟩) h
      | false => exact h.elim
    | drawh order =>
      cases draw with
      | true => exact drawH_sound hs (fun ι' β' G' env' H' a' w' hi hs' hk => ⟨.normal, env', H', ι', β', G', trivial, hi, hs', hk⟩) h
      | false => exact h.elim
    | drawp ph =>
      cases draw with
      | true => exact drawP_sound hs (fun ι' β' G' env' H' a' w' hi hs' hk => ⟨.normal, env', H', ι', β', G', trivial, hi, hs', hk⟩) h
      | false => exact h.elim
    | drawg ph =>
      cases draw with
      | true => exact drawG_sound hs (fun ι' β' G' env' H' a' w' hi hs' hk => ⟨.normal, env', H', ι', β', G', trivial, hi, hs', hk⟩) h
      | false => exact h.elim
    | _ => exact regK_sound hs (fun ι' β' G' env' H' a' w' hi hs' hk => ⟨.normal, env', H', ι', β', G', trivial, hi, hs', hk⟩) h
  | seq a b iha ihb =>
    intro x Q env H ι β G ac w h hs
    cases x with
    | seq x y =>
      refine wp_seq (wp_mono (iha h hs) fun e a' w' hp => ?_)
      obtain ⟨ex, env', H', ι', β', G', h1, h2, h3, h4⟩ := hp
      cases ex <;> cases e <;> try exact h1.elim
      · exact wp_mono (ihb h4 h3) fun e a w hp => hp.mono h2 fun _ _ _ h => h
      · exact ⟨.exit _, env', H', ι', β', G', h1, h2, h3, h4⟩
      · exact ⟨.ret, env', H', ι', β', G', h1, h2, h3, h4⟩
    | seqc x y live =>
      obtain ⟨J, h1, h2⟩ := h
      have h1' := awp_lift (Q' := fun e env' H' => agree (mods g a) env env' ∧ match e with | .normal => meet g env' live J H' | e => Q e env' H') h1 fun e env' H' ha h => ⟨ha, h⟩
      refine wp_seq (wp_mono (iha h1' hs) fun e a' w' hp => ?_)
      obtain ⟨ex, env', H', ι', β', G', q1, q2, q3, q4, q5⟩ := hp
      cases ex <;> cases e <;> try exact q1.elim
      · obtain ⟨hok, Hs, hsub, hJ⟩ := meet_elim q5
        exact wp_mono (ihb (h2 _ _ hJ) ((q3.shrink hsub).head q4 hok)) fun e a w hp => hp.mono q2 fun _ _ _ h => h
      · exact ⟨.exit _, env', H', ι', β', G', q1, q2, q3, q5⟩
      · exact ⟨.ret, env', H', ι', β', G', q1, q2, q3, q5⟩
    | _ => exact h.elim
  | cond c a b iha ihb =>
    intro x Q env H ι β G ac w h hs
    cases x with
    | cond x y =>
      obtain ⟨v, hv, h⟩ := bnd_elim h
      have hev := ev_sound hs hv
      cases v with
      | bool t =>
        cases t
        · exact wp_cond_false (relV_bool hev) (ihb h hs)
        · exact wp_cond_true (relV_bool hev) (iha h hs)
      | _ => exact h.elim
    | _ => exact h.elim
  | block id a iha =>
    intro x Q env H ι β G ac w h hs
    cases x with
    | block x =>
      refine wp_block (wp_mono (iha h hs) fun e a' w' hp => ?_)
      obtain ⟨ex, env', H', ι', β', G', h1, h2, h3, h4⟩ := hp
      cases ex <;> cases e <;> try exact h1.elim
      · exact ⟨.normal, env', H', ι', β', G', trivial, h2, h3, h4⟩
      · rename_i i j
        have hij : i = j := h1
        subst hij
        revert h4
        show (match i == id with | true => Q .normal env' H' | false => Q (.exit i) env' H') → (if i = id then PostQ g w0 base F ι Q .normal a' w' else PostQ g w0 base F ι Q (.exit i) a' w')
        by_cases e : i = id
        · subst e
          rw [beq_self_eq_true, if_pos rfl]
          exact fun h4 => ⟨.normal, env', H', ι', β', G', trivial, h2, h3, h4⟩
        · rw [if_neg e, show (i == id) = false by simpa using e]
          exact fun h4 => ⟨.exit i, env', H', ι', β', G', rfl, h2, h3, h4⟩
      · exact ⟨.ret, env', H', ι', β', G', trivial, h2, h3, h4⟩
    | _ => exact h.elim
  | loop c iha =>
    intro x Q env H ι β G ac w h hs
    cases x with
    | loop live x =>
      obtain ⟨I, n0, h1, h2⟩ := h
      obtain ⟨hok, Hs, hsub, hJ⟩ := meet_elim h1
      refine wp_loop_n (fun n a w => ∃ env' H' ι' β' G', agree (mods g c) env env' ∧ ile ι ι' ∧ St g w0 base F ι' β' G' env' H' a w ∧ okMany g env' live = true ∧ I n (getMany env' live) H') ?_ n0 ac w ⟨env, Hs, ι, β, G, agree.refl _ _, ile.refl _, hs.shrink hsub, hok, hJ⟩
      rintro n a w ⟨env', H', ι', β', G', ha, hi, hs', hok, hI⟩
      have hr := awp_lift (Q' := fun e env'' H'' => agree (mods g c) (head g (mods g c) live env (getMany env' live)) env'' ∧ match e with | .normal => ∃ m, m < n ∧ meet g env'' live (I m) H'' | e => Q e env'' H'') (h2 n _ _ hI) fun e env' H' ha h => ⟨ha, h⟩
      refine wp_mono (iha hr (hs'.head ha hok)) fun e a' w' hp => ?_
      obtain ⟨ex, env'', H'', ι'', β'', G'', q1, q2, q3, q4, q5⟩ := hp
      cases ex <;> cases e <;> try exact q1.elim
      · obtain ⟨m, hm, hI'⟩ := q5
        obtain ⟨hok', Hs', hsub', hJ'⟩ := meet_elim hI'
        exact ⟨m, hm, env'', Hs', ι'', β'', G'', (head_agree _ _ _ _).trans q4, hi.trans q2, q3.shrink hsub', hok', hJ'⟩
      · exact ⟨.exit _, env'', H'', ι'', β'', G'', q1, hi.trans q2, q3, q5⟩
      · exact ⟨.ret, env'', H'', ι'', β'', G'', q1, hi.trans q2, q3, q5⟩
    | _ => exact h.elim
  | _ => intro x Q env H ι β G a w h hs; exact h.elim

/-! #### a function -/

def resOf (P : Program) (g : Cfg) (env : List V) (H : Heap) : ResultVar → Option V
  | .tmp t => match g.loc t with | true => none | false => env[t]?
  | .cell t ty => match locOf g env (.tmp t) with | some l => aLoadL P H ty l | none => none
def resK (P : Program) (g : Cfg) (env : List V) (H : Heap) : List ResultVar → (List V → Prop) → Prop
  | [], K => K []
  | r :: rs, K => bnd (resOf P g env H r) fun v => resK P g env H rs fun vs => K (v :: vs)
def tupOf : List V → V | [v] => v | vs => .tup vs
/-- What is returned; what is no longer needed of the heap is let go. -/
def Ret (R : V → Heap → Prop) (v : V) (H : Heap) : Prop := ∃ H', Abs.sub H' H ∧ R v H'

def retK (P : Program) (g : Cfg) (rs : List ResultVar) (R : V → Heap → Prop) : Ex → List V → Heap → Prop
  | .exit _, _, _ => False
  | _, env, H => resK P g env H rs fun vs => R (tupOf vs) H

def resSem (tmps : Array Value) : ResultVar → Sem Value
  | .tmp t => pure (tmps.getD t undef)
  | .cell x t => do loadVar t (← asAddr (tmps.getD x undef))

theorem resOf_sound (hs : St g w0 base F ι β G env H a w) {r : ResultVar} {v : V} (h : resOf P g env H r = some v) : ∃ cv, (resSem a.tmps r).run P w = .ok cv w ∧ RelV w0 base ι v cv := by
  cases r with
  | tmp t =>
    simp only [resOf] at h
    split at h
    · cases h
    · rename_i hl; exact ⟨_, rfl, hs.val hl h⟩
  | cell t ty =>
    simp only [resOf] at h
    split at h
    · rename_i l hl
      obtain ⟨cv, r1, r2⟩ := aLoad_sound (P := P) hs (locOf_sound hs hl) h
      refine ⟨cv, ?_, r2⟩
      have : a.eval (.tmp t) = a.tmps.getD t undef := rfl
      rw [this] at r1
      unfold resSem
      simp only [Instr.loadAt, Sem.run_bind] at r1 ⊢
      cases hv : a.tmps.getD t undef with
      | pointer p =>
        rw [hv] at r1
        cases p with
        | some p => simpa [Instr.sureAddr, asAddr] using r1
        | none => simp [Instr.sureAddr, stuck, Sem.run, Result.andThen] at r1
      | _ => rw [hv] at r1; simp [Instr.sureAddr, stuck, Sem.run, Result.andThen] at r1
    · cases h

theorem results_eq (fn : Func) (tmps : Array Value) : results fn tmps = (do let vs ← fn.results.mapM (resSem tmps); pure (if h : vs.size = 1 then vs[0] else .tuple vs)) := by
  unfold results
  congr 1

theorem results_sound (hs : St g w0 base F ι β G env H a w) {fn : Func} {K : List V → Prop} (hl : fn.results.toList.length ≤ 4) (h : resK P g env H fn.results.toList K) : ∃ vs cv, (results fn a.tmps).run P w = .ok cv w ∧ RelV w0 base ι (tupOf vs) cv ∧ K vs := by
  rw [results_eq]
  generalize hrs : fn.results = rs at h hl
  obtain ⟨rs⟩ := rs
  simp only at h hl
  match rs, hl with
  | [], _ => exact ⟨[], .tuple #[], by simp, relV_tup RelL.nil, h⟩
  | [r], _ =>
    obtain ⟨v, h1, h⟩ := bnd_elim h
    obtain ⟨cv, q1, q2⟩ := resOf_sound hs h1
    exact ⟨[v], cv, by simp [q1], q2, h⟩
  | [r, r'], _ =>
    obtain ⟨v, h1, h⟩ := bnd_elim h
    obtain ⟨v', h3, h⟩ := bnd_elim h
    obtain ⟨cv, q1, q2⟩ := resOf_sound hs h1
    obtain ⟨cv', q1', q2'⟩ := resOf_sound hs h3
    exact ⟨[v, v'], .tuple #[cv, cv'], by simp [q1, q1'], relV_tup (RelL.cons q2 (RelL.cons q2' RelL.nil)), h⟩
  | [r, r', r''], _ =>
    obtain ⟨v, h1, h⟩ := bnd_elim h
    obtain ⟨v', h3, h⟩ := bnd_elim h
    obtain ⟨v'', h5, h⟩ := bnd_elim h
    obtain ⟨cv, q1, q2⟩ := resOf_sound hs h1
    obtain ⟨cv', q1', q2'⟩ := resOf_sound hs h3
    obtain ⟨cv'', q1'', q2''⟩ := resOf_sound hs h5
    exact ⟨[v, v', v''], .tuple #[cv, cv', cv''], by simp [q1, q1', q1''], relV_tup (RelL.cons q2 (RelL.cons q2' (RelL.cons q2'' RelL.nil))), h⟩
  | [r, r', r'', r3], _ =>
    obtain ⟨v, h1, h⟩ := bnd_elim h
    obtain ⟨v', h3, h⟩ := bnd_elim h
    obtain ⟨v'', h5, h⟩ := bnd_elim h
    obtain ⟨v3, h7, h⟩ := bnd_elim h
    obtain ⟨cv, q1, q2⟩ := resOf_sound hs h1
    obtain ⟨cv', q1', q2'⟩ := resOf_sound hs h3
    obtain ⟨cv'', q1'', q2''⟩ := resOf_sound hs h5
    obtain ⟨cv3, q13, q23⟩ := resOf_sound hs h7
    exact ⟨[v, v', v'', v3], .tuple #[cv, cv', cv'', cv3], by simp [q1, q1', q1'', q13], relV_tup (RelL.cons q2 (RelL.cons q2' (RelL.cons q2'' (RelL.cons q23 RelL.nil)))), h⟩
  | _ :: _ :: _ :: _ :: _ :: _, hl => exact absurd hl (by simp)

theorem initSt {ι : Nat → Option Place} {G : Heap} {args : List V} {cargs : List Value} {n : Nat} (hrel : RelH w0 base ι G w) (hH : Abs.sub H G) (hF : Abs.sub F G) (hd : disj H F) (ha : RelL w0 base ι args cargs)
    (hloc : ∀ s, s < args.length → g.loc s = false) :
    St g w0 base F ι (fun _ => none) G (args ++ List.replicate n .any) H { tmps := cargs.toArray ++ Array.replicate n undef, defers := [] } w := by
  refine ⟨hrel, hH, hF, hd, by simp [ha.1], fun s v cv h1 h2 => ?_, by simp, by simp, by simp, rfl⟩
  by_cases hs : s < args.length
  · rw [List.getElem?_append_left hs] at h1
    rw [SlotRel.plain (hloc s hs)]
    have hs2 : s < cargs.length := by rw [← ha.1]; exact hs
    refine ha.2 s v cv h1 ?_
    rw [Array.getElem?_append_left (by simpa using hs2)] at h2
    simpa using h2
  · rw [List.getElem?_append_right (by omega)] at h1
    have : v = .any := by
      rw [List.getElem?_replicate] at h1
      split at h1
      · cases h1; rfl
      · cases h1
    subst this
    exact SlotRel.any _ _

/-- The contract of a function off the transformer. -/
theorem acalls_of_awp {f : FuncId} {fn : Func} {c : Code} {x : Ann} {args : List V} {R : V → Heap → Prop} (hf : P.funcs[f]? = some fn) (hb : fn.body = some c) (hl : fn.results.toList.length ≤ 4) (hloc : (List.range args.length).all (fun s => !g.loc s) = true)
    (h : awp P g c x (retK P g fn.results.toList (Ret R)) (args ++ List.replicate (fn.ntmps - args.length) .any) H) : ACalls P f args H R := by
  refine ⟨fun w0 base F ι G w cargs hrel hH hF hd ha => ?_⟩
  refine calls_of_wp hf hb ?_
  have hs := initSt (g := g) (n := fn.ntmps - cargs.toArray.size) hrel hH hF hd ha (fun s hs => by
    have := List.all_eq_true.1 hloc s (by simpa using hs)
    simpa using this)
  have hn : fn.ntmps - cargs.toArray.size = fn.ntmps - args.length := by rw [ha.1]; simp
  rw [hn] at hs
  rw [hn]
  refine wp_mono (awp_sound (x := x) h hs) fun e a' w' hp => ?_
  obtain ⟨ex, env', H', ι', β', G', h1, h2, h3, h4⟩ := hp
  have fin : (resK P g env' H' fn.results.toList fun vs => Ret R (tupOf vs) H') → bodyPost P fn (fun e w' => ∃ v cv ι' G' H', e = .returned cv ∧ RelV w0 base ι' v cv ∧ ile ι ι' ∧ RelH w0 base ι' G' w' ∧ Abs.sub H' G' ∧ Abs.sub F G' ∧ disj H' F ∧ R v H') .ret a' w' := by
    intro hb
    obtain ⟨vs, cv, q1, q2, H'', hsub, hR⟩ := results_sound h3 hl hb
    exact ⟨h3.nodef, cv, q1, _, cv, ι', G', H'', rfl, q2, h2, h3.heap, sub_trans hsub h3.sub, h3.frm, fun i x hx => h3.dis i x (hsub i x hx), hR⟩
  cases ex <;> cases e <;> try exact h1.elim
  · exact fin h4
  · exact h4.elim
  · exact fin h4

def bodyOf (fn : Func) : Code := fn.body.getD .skip
/-- The same, with what is to be looked up given as Booleans and the form apart. -/
theorem acalls_of_form {f : FuncId} {fn : Func} {x : Ann} {args : List V} {R : V → Heap → Prop} {T : Prop} (hf : P.funcs[f]? = some fn) (hb : fn.body.isSome = true) (hl : Nat.ble fn.results.toList.length 4 = true)
    (hloc : (List.range args.length).all (fun s => !g.loc s) = true)
    (he : T = awp P g (bodyOf fn) x (retK P g fn.results.toList (Ret R)) (args ++ List.replicate (fn.ntmps - args.length) .any) H) (h : T) : ACalls P f args H R := by
  refine acalls_of_awp (g := g) (c := bodyOf fn) (x := x) hf ?_ (Nat.le_of_ble_eq_true hl) hloc (he ▸ h)
  unfold bodyOf
  cases hbb : fn.body with
  | some c => rfl
  | none => rw [hbb] at hb; cases hb

end
end Go.Abs
/-
The abstract layer, part P: how the forms are worked out; nothing of a program.
-/
namespace Go.Abs

theorem Ret.of {R : V → Heap → Prop} {v : V} {H : Heap} (h : R v H) : Ret R v H := ⟨H, fun _ _ h => h, h⟩
theorem Ret.eq {R : V → Heap → Prop} {v v' : V} {H : Heap} (h : R v' H) (e : v = v') : Ret R v H := Ret.of (e ▸ h)
theorem Ret.shr {R : V → Heap → Prop} {v v' : V} {H H' : Heap} (h : R v' H') (e : v = v') (hs : Abs.sub H' H) : Ret R v H := ⟨H', hs, e ▸ h⟩
theorem Shr.of {J : Heap → Prop} {H : Heap} (h : J H) : Shr J H := ⟨H, fun _ _ h => h, h⟩

@[simp] theorem cellsOf_agg (cs : List V) : cellsOf (.agg cs) = cs := rfl
@[simp] theorem cellsOf_int (k : IntKind) (n : Int) : cellsOf (.int k n) = [.int k n] := rfl
@[simp] theorem cellsOf_bool (b : Bool) : cellsOf (.bool b) = [.bool b] := rfl
@[simp] theorem cellsOf_slice (o s n : Nat) (c : Option Nat) : cellsOf (.slice o s n c) = [.slice o s n c] := rfl
@[simp] theorem cellsOf_nils : cellsOf .nils = [.nils] := rfl
@[simp] theorem cellsOf_ro (rows : List (List V)) : cellsOf (.ro rows) = [.ro rows] := rfl
@[simp] theorem cellsOf_ptr (o r c : Nat) : cellsOf (.ptr o r c) = [.ptr o r c] := rfl
@[simp] theorem cellOk_int (k : IntKind) (n : Int) : cellOk (.int k n) = true := rfl
@[simp] theorem cellOk_bool (b : Bool) : cellOk (.bool b) = true := rfl
@[simp] theorem cellOk_slice (o s n : Nat) (c : Option Nat) : cellOk (.slice o s n c) = true := rfl
@[simp] theorem cellOk_nils : cellOk .nils = true := rfl
@[simp] theorem cellOk_ro (rows : List (List V)) : cellOk (.ro rows) = true := rfl
@[simp] theorem cellOk_ptr (o r c : Nat) : cellOk (.ptr o r c) = true := rfl
@[simp] theorem notAny_int (k : IntKind) (n : Int) : notAny (.int k n) = true := rfl
@[simp] theorem notAny_bool (b : Bool) : notAny (.bool b) = true := rfl
@[simp] theorem notAny_agg (cs : List V) : notAny (.agg cs) = true := rfl
@[simp] theorem notAny_slice (o s n : Nat) (c : Option Nat) : notAny (.slice o s n c) = true := rfl
@[simp] theorem notAny_nils : notAny .nils = true := rfl
@[simp] theorem notAny_ro (rows : List (List V)) : notAny (.ro rows) = true := rfl
@[simp] theorem bc_box (cs : List V) : bc (.box cs) = cs := rfl
@[simp] theorem aggOf_agg (cs : List V) : aggOf (.agg cs) = some cs := rfl

@[simp] theorem boxK_iff (v : V) (K : Prop) : boxK v K ↔ (cellsOf v).all cellOk = true ∧ K := Iff.rfl
@[simp] theorem aNot_bool (b : Bool) : aNot (.bool b) = some (.bool (!b)) := rfl
@[simp] theorem aNeg_int (k : IntKind) (n : Int) : aNeg (.int k n) = some (.int k (k.wrap (0 - n))) := rfl
@[simp] theorem aCv_int (k k' : IntKind) (n : Int) : aCv k (.int k' n) = some (.int k (k.wrap n)) := rfl
@[simp] theorem aPick_bool (b : Bool) (x y : V) : aPick (.bool b) x y = some (if b then x else y) := by cases b <;> rfl
@[simp] theorem aExtract_tup (i : Nat) (vs : List V) : aExtract i (.tup vs) = vs[i]? := rfl
@[simp] theorem natOf_int (k : IntKind) (n : Int) : natOf (.int k n) = if 0 ≤ n then some n.toNat else none := rfl
@[simp] theorem lenOf_slice (o s n : Nat) (c : Option Nat) : lenOf (.slice o s n c) = some n := rfl
@[simp] theorem lenOf_nils : lenOf .nils = some 0 := rfl
@[simp] theorem lenOf_ro (rows : List (List V)) : lenOf (.ro rows) = some rows.length := rfl

@[simp] theorem gb_iff (b : Bool) (A B : Prop) : gb b A B ↔ (b = true → A) ∧ (b = false → B) := by cases b <;> simp [gb]
@[simp] theorem gd_true (b : Bool) (A B : Prop) : gd (.bool b) true A B ↔ (b = true → A) ∧ (b = false → B) := by cases b <;> simp [gd, gb]
@[simp] theorem gd_false (b : Bool) (A B : Prop) : gd (.bool b) false A B ↔ (b = true → B) ∧ (b = false → A) := by cases b <;> simp [gd, gb]
@[simp] theorem gd3_true (b : Bool) (A B C : Prop) : gd3 (.bool b) true A B C ↔ (b = true → A) ∧ (b = false → B) := by cases b <;> simp [gd3, gb]
@[simp] theorem gd3_false (b : Bool) (A B C : Prop) : gd3 (.bool b) false A B C ↔ (b = true → B) ∧ (b = false → A) := by cases b <;> simp [gd3, gb]
@[simp] theorem cnd_bool (b : Bool) (A B : Prop) : cnd (.bool b) A B ↔ (b = true → A) ∧ (b = false → B) := by cases b <;> simp [cnd]

section
variable (k : IntKind) (a b : Int)
@[simp] theorem aBinN_add : aBinN .add (.int k a) (.int k b) = some (.int k (k.wrap (a + b))) := by simp [aBinN, aNum]
@[simp] theorem aBinN_sub : aBinN .sub (.int k a) (.int k b) = some (.int k (k.wrap (a - b))) := by simp [aBinN, aNum]
@[simp] theorem aBinN_mul : aBinN .mul (.int k a) (.int k b) = some (.int k (k.wrap (a * b))) := by simp [aBinN, aNum]
@[simp] theorem aBinN_quo : aBinN .quo (.int k a) (.int k b) = if b = 0 then none else some (.int k (k.wrap (a.tdiv b))) := by simp [aBinN, aNum]
@[simp] theorem aBinN_rem : aBinN .rem (.int k a) (.int k b) = if b = 0 then none else some (.int k (a.tmod b)) := by simp [aBinN, aNum]
@[simp] theorem aBinN_eql : aBinN .eql (.int k a) (.int k b) = some (.bool (decide (a = b))) := by simp [aBinN, aNum]; rfl
@[simp] theorem aBinN_neq : aBinN .neq (.int k a) (.int k b) = some (.bool (!decide (a = b))) := by simp [aBinN, aNum]; rfl
@[simp] theorem aBinN_lss : aBinN .lss (.int k a) (.int k b) = some (.bool (decide (a < b))) := by simp [aBinN, aNum]
@[simp] theorem aBinN_leq : aBinN .leq (.int k a) (.int k b) = some (.bool (decide (a ≤ b))) := by simp [aBinN, aNum]
@[simp] theorem aBinN_gtr : aBinN .gtr (.int k a) (.int k b) = some (.bool (decide (b < a))) := by simp [aBinN, aNum]
@[simp] theorem aBinN_geq : aBinN .geq (.int k a) (.int k b) = some (.bool (decide (b ≤ a))) := by simp [aBinN, aNum]
@[simp] theorem aBinB_eql (a b : Bool) : aBinB .eql (.bool a) (.bool b) = some (.bool (a == b)) := rfl
@[simp] theorem aBinB_neq (a b : Bool) : aBinB .neq (.bool a) (.bool b) = some (.bool (!(a == b))) := rfl
@[simp] theorem aBinZ_eql_nil : aBinZ .eql .nils .nils = some (.bool true) := rfl
@[simp] theorem aBinZ_eql_slice (o s n : Nat) (c : Option Nat) : aBinZ .eql (.slice o s n c) .nils = some (.bool false) := rfl
@[simp] theorem aBinZ_neq_nil : aBinZ .neq .nils .nils = some (.bool false) := rfl
@[simp] theorem aBinZ_neq_slice (o s n : Nat) (c : Option Nat) : aBinZ .neq (.slice o s n c) .nils = some (.bool true) := rfl
end

theorem partOf_f (sz : Nat) (cs : List V) (c : Nat) : partOf false sz cs c = cs[c]? := rfl
theorem partOf_t (sz : Nat) (cs : List V) (c : Nat) : partOf true sz cs c = if c + sz ≤ cs.length then some (.agg ((cs.drop c).take sz)) else none := rfl
attribute [simp] partOf_f partOf_t

theorem stz_eq {sz : Nat} {row : List V} {c : Nat} {v : V} (h1 : (cellsOf v).length = sz) (h2 : c + sz ≤ row.length) (h3 : (cellsOf v).all cellOk = true) : stz sz row c v = some (putCells row c (cellsOf v)) := by
  unfold stz; rw [if_pos (by simp [h1, h2]; simpa using h3)]


end Go.Abs
/-
The abstract layer, part Q: the values that are handed in from without; a law's run.
-/
namespace Go.Abs
open Go.RowKit (Below)

inductive Sc where
  | int (k : IntKind)
  | bool
  | slice (e : TypeId)

def flatFs (P : Program) (rec : TypeId → Option (List Sc)) : List Field → List Sc → Option (List Sc)
  | [], acc => some acc
  | f :: fs, acc => match rec f.type with
    | some s => if f.offset = acc.length ∧ P.cellsOf f.type = s.length then flatFs P rec fs (acc ++ s) else none
    | none => none
/-- The cells of a type, in order. -/
def flat (P : Program) : Nat → TypeId → Option (List Sc)
  | 0, _ => none
  | n + 1, t => match P.underlying t with
    | some .bool => some [.bool]
    | some (.int k) => some [.int k]
    | some (.slice e) => some [.slice e]
    | some (.struct fs) => match flatFs P (flat P n) fs.toList [] with
      | some scs => if scs.length = P.cellsOf t then some scs else none
      | none => none
    | _ => none

def CT (P : Program) : Nat → Sc → V → Prop
  | _, .int k, v => ∃ m, v = .int k m ∧ (Lit.int k m).wf = true
  | _, .bool, v => ∃ b, v = .bool b
  | 0, .slice _, _ => False
  | n + 1, .slice e, v => ∃ rows, v = .ro rows ∧ rows.length ≤ maxLen ∧ ∀ row ∈ rows, ∃ scs, flat P 8 e = some scs ∧ row.length = scs.length ∧ ∀ (j : Nat) s x, scs[j]? = some s → row[j]? = some x → CT P n s x

def okSc (P : Program) : Nat → Sc → Bool
  | _, .int _ => true
  | _, .bool => true
  | 0, .slice _ => false
  | n + 1, .slice e => match flat P 8 e with
    | some scs => !scs.isEmpty && P.cellsOf e == scs.length && scs.all (okSc P n)
    | none => false

theorem list_choice {α : Type} {Q : Nat → α → Prop} : ∀ (n : Nat), (∀ i, i < n → ∃ y, Q i y) → ∃ l : List α, l.length = n ∧ ∀ (i : Nat) y, l[i]? = some y → Q i y
  | 0, _ => ⟨[], rfl, fun i y h => by simp at h⟩
  | n + 1, h => by
    obtain ⟨l, hl, hq⟩ := list_choice n fun i hi => h i (by omega)
    obtain ⟨y, hy⟩ := h n (by omega)
    refine ⟨l ++ [y], by simp [hl], fun i z hz => ?_⟩
    by_cases hi : i < n
    · rw [List.getElem?_append_left (by omega)] at hz; exact hq i z hz
    · rw [List.getElem?_append_right (by omega), hl] at hz
      have : i = n := by
        have := (List.getElem?_eq_some_iff.1 hz).1
        simp at this; omega
      subst this
      simp at hz; subst hz; exact hy

section
variable {H : Type} {enc : TypeId × Value → H} {P : Program} {W : World} {spare : Nat → Bool} {held : Bool} {ι : Nat → Option Place} {n : Nat}

theorem cell_lt {a : Addr} {v : Value} (h : W.cell? a = some v) : a.block < W.heap.size := by
  unfold World.cell? at h
  split at h
  · rename_i he; exact (Array.getElem?_eq_some_iff.1 he).1
  · cases h
theorem cell_spot {a : Addr} {v : Value} (h : W.cell? a = some v) : a.spot = none := by
  unfold World.cell? at h
  split at h
  · split at h
    · cases h
    · rename_i hs; simpa using hs
  · cases h

/-- What is known of each cell, one level down. -/
def Down (enc : TypeId × Value → H) (P : Program) (W : World) (spare : Nat → Bool) (held : Bool) (ι : Nat → Option Place) (n : Nat) : Prop :=
  ∀ (s : Sc), okSc P n s = true → ∀ (t : TypeId) (fuel : Nat) (c : Value) x, (match s with | .int k => P.underlying t = some (.int k) | .bool => P.underlying t = some .bool | .slice e => P.underlying t = some (.slice e)) →
    DataW.trod enc P W 0 spare held fuel t [c] = some x → ∃ v, RelV W W.heap.size ι v c ∧ CT P n s v

theorem go_spec (D : Down enc P W spare held ι n) {d : Nat} (ih : ∀ (t : TypeId) (fuel : Nat) (cs : List Value) x scs, flat P d t = some scs → scs.all (okSc P n) = true → DataW.trod enc P W 0 spare held fuel t cs = some x →
      cs.length = scs.length ∧ ∀ (j : Nat) s c, scs[j]? = some s → cs[j]? = some c → ∃ v, RelV W W.heap.size ι v c ∧ CT P n s v) :
    ∀ (fs : List Field) (acc : List Sc) (scs : List Sc), flatFs P (flat P d) fs acc = some scs → scs.all (okSc P n) = true → ∀ (fuel : Nat) (cs : List Value),
      (∀ (i : Nat) f, fs[i]? = some f → ∃ y, DataW.trod enc P W 0 spare held fuel f.type ((cs.drop f.offset).take (P.cellsOf f.type)) = some y) →
      (∀ (j : Nat) s c, j < acc.length → scs[j]? = some s → cs[j]? = some c → ∃ v, RelV W W.heap.size ι v c ∧ CT P n s v) →
      ∀ (j : Nat) s c, scs[j]? = some s → cs[j]? = some c → ∃ v, RelV W W.heap.size ι v c ∧ CT P n s v
  | [], acc, scs, hg, hok, fuel, cs, hf, hacc, j, s, c, hs, hc => by
    simp only [flatFs, Option.some.injEq] at hg
    subst hg
    exact hacc j s c (List.getElem?_eq_some_iff.1 hs).1 hs hc
  | f :: fs, acc, scs, hg, hok, fuel, cs, hf, hacc, j, s, c, hs, hc => by
    simp only [flatFs] at hg
    split at hg
    case h_2 => cases hg
    rename_i sf hsf
    split at hg
    case isFalse => cases hg
    rename_i hoff
    have pre : ∀ (fs : List Field) (acc scs : List Sc), flatFs P (flat P d) fs acc = some scs → ∃ t, scs = acc ++ t := by
      intro fs
      induction fs with
      | nil => intro acc scs h; simp only [flatFs, Option.some.injEq] at h; exact ⟨[], by simp [h]⟩
      | cons f fs ih =>
        intro acc scs h
        simp only [flatFs] at h
        split at h
        case h_2 => cases h
        split at h
        case isFalse => cases h
        obtain ⟨t, ht⟩ := ih _ _ h
        exact ⟨_, by rw [ht, List.append_assoc]⟩
    obtain ⟨tl, htl⟩ := pre _ _ _ hg
    refine go_spec D ih fs (acc ++ sf) scs hg hok fuel cs (fun i g hi => hf (i + 1) g (by simpa using hi)) (fun j s c hj hs hc => ?_) j s c hs hc
    by_cases hja : j < acc.length
    · exact hacc j s c hja hs hc
    · obtain ⟨y, hy⟩ := hf 0 f rfl
      have hall : sf.all (okSc P n) = true := by
        rw [htl] at hok; simp at hok ⊢; exact hok.2.1
      obtain ⟨hl, hq⟩ := ih f.type fuel _ y sf hsf hall hy
      simp at hj
      refine hq (j - acc.length) s c ?_ ?_
      · rw [htl, List.append_assoc, List.getElem?_append_right (by omega), List.getElem?_append_left (by omega)] at hs
        exact hs
      · rw [hoff.1, hoff.2, List.getElem?_take, if_pos (by omega), List.getElem?_drop]
        rw [show acc.length + (j - acc.length) = j by omega]
        exact hc

theorem flat_spec (D : Down enc P W spare held ι n) : ∀ (d : Nat) (t : TypeId) (fuel : Nat) (cs : List Value) x scs, flat P d t = some scs → scs.all (okSc P n) = true → DataW.trod enc P W 0 spare held fuel t cs = some x →
      cs.length = scs.length ∧ ∀ (j : Nat) s c, scs[j]? = some s → cs[j]? = some c → ∃ v, RelV W W.heap.size ι v c ∧ CT P n s v := by
  intro d
  induction d with
  | zero => intro t fuel cs x scs h; simp [flat] at h
  | succ d ih =>
    intro t fuel cs x scs h hok hx
    unfold flat at h
    split at h
    · rename_i hu
      cases h
      cases fuel with
      | zero => simp [DataW.trod] at hx
      | succ fuel =>
        have : ∃ b, cs = [.bool b] := by
          unfold DataW.trod at hx; rw [hu] at hx
          split at hx <;> simp_all
        obtain ⟨b, rfl⟩ := this
        refine ⟨rfl, fun j s c hs hc => ?_⟩
        cases j with
        | zero => simp at hs hc; subst hs; subst hc; exact D .bool (by simp [okSc]) t (fuel + 1) _ x hu hx
        | succ j => simp at hs
    · rename_i k hu
      cases h
      obtain ⟨m, rfl, rfl, hw⟩ := DataW.trod_int hu hx
      refine ⟨rfl, fun j s c hs hc => ?_⟩
      cases j with
      | zero => simp at hs hc; subst hs; subst hc; exact ⟨.int k m, .int k m, by cases n <;> exact ⟨m, rfl, hw⟩⟩
      | succ j => simp at hs
    · rename_i e hu
      cases h
      have : ∃ c, cs = [c] := by
        rcases DataW.trod_slice hu hx with ⟨rfl, _⟩ | ⟨a, len, cap, elems, rest, n, _, rfl, _⟩
        · exact ⟨_, rfl⟩
        · exact ⟨_, rfl⟩
      obtain ⟨c0, rfl⟩ := this
      refine ⟨rfl, fun j s c hs hc => ?_⟩
      cases j with
      | zero => simp at hs hc; subst hs; subst hc; exact D (.slice e) (by simpa using hok) t fuel _ x hu hx
      | succ j => simp at hs
    · rename_i fs hu
      split at h
      case h_2 => cases h
      rename_i scs' hgo
      split at h
      case isFalse => cases h
      rename_i hlen'
      cases h
      obtain ⟨xs, m, rfl, rfl, hl, hlen, hf⟩ := DataW.trod_struct hu hx
      exact ⟨hl.trans hlen'.symm, go_spec D ih fs.toList [] scs hgo hok m cs (fun i f hi => by
        have hi' : fs[i]? = some f := by simpa using hi
        have := hf i f hi'
        have hlt : i < xs.length := by rw [hlen]; exact (Array.getElem?_eq_some_iff.1 hi').1
        exact ⟨xs[i], by rw [this]; simp [hlt]⟩) (fun j s c hj => by simp at hj)⟩
    · cases h

theorem down : ∀ (n : Nat), Down enc P W spare held ι n := by
  intro n
  induction n with
  | zero =>
    intro s hok t fuel c x hu hx
    cases s with
    | int k =>
      obtain ⟨m, h, _, hw⟩ := DataW.trod_int hu hx
      cases h; exact ⟨.int k m, .int k m, m, rfl, hw⟩
    | bool =>
      obtain ⟨b, h, _⟩ := DataW.trod_bool hu hx
      cases h; exact ⟨.bool b, .bool b, b, rfl⟩
    | slice e => simp [okSc] at hok
  | succ n ih =>
    intro s hok t fuel c x hu hx
    cases s with
    | int k =>
      obtain ⟨m, h, _, hw⟩ := DataW.trod_int hu hx
      cases h; exact ⟨.int k m, .int k m, m, rfl, hw⟩
    | bool =>
      obtain ⟨b, h, _⟩ := DataW.trod_bool hu hx
      cases h; exact ⟨.bool b, .bool b, b, rfl⟩
    | slice e =>
      unfold okSc at hok
      split at hok
      case h_2 => cases hok
      rename_i scs hscs
      simp only [Bool.and_eq_true, beq_iff_eq, Bool.not_eq_true'] at hok
      obtain ⟨⟨hne, hcells⟩, hall⟩ := hok
      rcases DataW.trod_slice hu hx with ⟨h, _⟩ | ⟨a, len, cap, elems, rest, m, _, h, _, _, hlc, hmx, hlen, hel, _, _⟩
      · cases h
        exact ⟨.ro [], .roE none 0, [], rfl, by simp, fun row hr => by simp at hr⟩
      · cases h
        have hpos : 0 < scs.length := by cases scs with | nil => simp at hne | cons => simp
        have rowAt : ∀ i, i < len → ∃ row : List V, row.length = scs.length ∧ (∀ (j : Nat) s x, scs[j]? = some s → row[j]? = some x → CT P n s x) ∧
            ∀ (j : Nat) x, row[j]? = some x → ∃ c, W.cell? ((a.add (i * scs.length)).add j) = some c ∧ RelV W W.heap.size ι x c := by
          intro i hi
          have hb := hel i hi
          have hlt : i < elems.length := by omega
          rw [show elems[i]? = some elems[i] by simp [hlt], Option.bind_eq_some_iff] at hb
          obtain ⟨cs', hcs', htr⟩ := hb
          obtain ⟨q1, q2⟩ := flat_spec ih 8 e m cs' _ scs hscs hall htr
          obtain ⟨_, hcl, hcell⟩ := World.cells?_some hcs'
          obtain ⟨row, r1, r2⟩ := list_choice (Q := fun j v => ∀ s c, scs[j]? = some s → cs'[j]? = some c → RelV W W.heap.size ι v c ∧ CT P n s v) scs.length fun j hj => by
            obtain ⟨v, hv⟩ := q2 j scs[j] cs'[j] (by simp [hj]) (by simp)
            exact ⟨v, fun s c hs hc => by
              rw [show scs[j]? = some scs[j] by simp [hj]] at hs
              rw [show cs'[j]? = some cs'[j] by simp] at hc
              cases hs; cases hc; exact hv⟩
          refine ⟨row, r1, fun j s x hs hx => ?_, fun j x hx => ?_⟩
          · have hj : j < scs.length := (List.getElem?_eq_some_iff.1 hs).1
            exact (r2 j x hx s cs'[j] hs (by simp)).2
          · have hj : j < row.length := (List.getElem?_eq_some_iff.1 hx).1
            have hj' : j < cs'.length := by omega
            refine ⟨cs'[j], ?_, (r2 j x hx scs[j] cs'[j] (by simp [show j < scs.length by omega]) (by simp)).1⟩
            have := hcell j (by omega)
            rw [hcells] at this
            rw [this]; simp [hj']
        obtain ⟨rows, e1, e2⟩ := list_choice len rowAt
        have hCT : CT P (n + 1) (.slice e) (.ro rows) := by
          refine ⟨rows, rfl, by omega, fun row hr => ⟨scs, hscs, ?_⟩⟩
          obtain ⟨i, hi⟩ := List.getElem?_of_mem hr
          exact ⟨(e2 i row hi).1, (e2 i row hi).2.1⟩
        refine ⟨.ro rows, ?_, hCT⟩
        by_cases hl0 : len = 0
        · have : rows = [] := by apply List.eq_nil_of_length_eq_zero; omega
          subst this; subst hl0
          exact .roE _ _
        · have hcell : ∀ i j (hi : i < rows.length) (hj : j < (rows[i]).length), ∃ c, W.cell? ((a.add (i * scs.length)).add j) = some c ∧ RelV W W.heap.size ι ((rows[i])[j]) c := fun i j hi hj =>
            (e2 i rows[i] (by simp [hi])).2.2 j _ (by simp)
          have hw : ∀ i (hi : i < rows.length), (rows[i]).length = scs.length := fun i hi => (e2 i rows[i] (by simp [hi])).1
          obtain ⟨c0, hc0, _⟩ := hcell 0 0 (by omega) (by rw [hw]; exact hpos)
          have hsp : a.spot = none := by simpa [Addr.add] using cell_spot hc0
          have hbl : a.block < W.heap.size := by simpa [Addr.add] using cell_lt hc0
          have hadd : ∀ i j, (a.add (i * scs.length)).add j = (⟨a.block, a.off + (i * scs.length + j), none⟩ : Addr) := by
            intro i j
            obtain ⟨ab, ao, asp⟩ := a
            simp only at hsp; subst hsp
            unfold Addr.add
            split <;> split <;> simp_all <;> omega
          have ha : a = (⟨a.block, a.off, none⟩ : Addr) := by
            obtain ⟨ab, ao, asp⟩ := a
            simp only at hsp; subst hsp; rfl
          rw [ha]
          refine .ro (fun i j => (W.cell? (⟨a.block, a.off + (i * scs.length + j), none⟩ : Addr)).getD undef) hbl e1.symm (by omega) hw (fun i j hi hj => ?_) (fun i j hi hj => ?_)
          · obtain ⟨c, hc, _⟩ := hcell i j hi (by rw [hw]; exact hj)
            rw [hadd] at hc; simp [hc]
          · obtain ⟨c, hc, hr⟩ := hcell i j hi hj
            rw [hadd] at hc; simpa [hc] using hr

/-- A value from without: its cells and their kinds. -/
theorem opened {t : TypeId} {v : Value} {d : DataW H} {ps : List MemPlace} {scs : List Sc} (n : Nat) (hf : flat P 8 t = some scs) (hok : scs.all (okSc P n) = true) (h : DataW.Trod enc P W 0 spare held t v d ps) :
    ∃ vs, RelL W W.heap.size ι vs v.cells.toList ∧ vs.length = scs.length ∧ ∀ (j : Nat) s x, scs[j]? = some s → vs[j]? = some x → CT P n s x := by
  obtain ⟨fuel, hx⟩ := h
  obtain ⟨q1, q2⟩ := flat_spec (ι := ι) (down n) 8 t fuel _ _ scs hf hok hx
  obtain ⟨vs, r1, r2⟩ := list_choice (Q := fun j x => ∀ s c, scs[j]? = some s → v.cells.toList[j]? = some c → RelV W W.heap.size ι x c ∧ CT P n s x) scs.length fun j hj => by
    obtain ⟨x, hv⟩ := q2 j scs[j] v.cells.toList[j] (by simp [hj]) (by simp)
    exact ⟨x, fun s c hs hc => by
      rw [show scs[j]? = some scs[j] by simp [hj]] at hs
      rw [show v.cells.toList[j]? = some v.cells.toList[j] by simp] at hc
      cases hs; cases hc; exact hv⟩
  refine ⟨vs, ⟨r1.trans q1.symm, fun j x c hx hc => ?_⟩, r1, fun j s x hs hx => ?_⟩
  · have hj : j < vs.length := (List.getElem?_eq_some_iff.1 hx).1
    exact (r2 j x hx scs[j] c (by simp [show j < scs.length by omega]) hc).1
  · have hj : j < scs.length := (List.getElem?_eq_some_iff.1 hs).1
    exact (r2 j x hx s v.cells.toList[j] hs (by simp)).2

def CTs (P : Program) (n : Nat) : List Sc → List V → Prop
  | [], [] => True
  | s :: ss, x :: xs => CT P n s x ∧ CTs P n ss xs
  | _, _ => False
theorem CTs_of : ∀ {scs : List Sc} {vs : List V}, vs.length = scs.length → (∀ (j : Nat) s x, scs[j]? = some s → vs[j]? = some x → CT P n s x) → CTs P n scs vs
  | [], [], _, _ => trivial
  | [], _ :: _, h, _ => by simp at h
  | _ :: _, [], h, _ => by simp at h
  | s :: ss, x :: xs, h, k => ⟨k 0 s x rfl rfl, CTs_of (by simpa using h) fun j s x h1 h2 => k (j + 1) s x (by simpa using h1) (by simpa using h2)⟩
theorem CTs_nil {vs : List V} (h : CTs P n [] vs) : vs = [] := by cases vs with | nil => rfl | cons => exact h.elim
theorem CTs_cons {s : Sc} {ss : List Sc} {vs : List V} (h : CTs P n (s :: ss) vs) : ∃ x xs, vs = x :: xs ∧ CT P n s x ∧ CTs P n ss xs := by
  cases vs with
  | nil => exact h.elim
  | cons x xs => exact ⟨x, xs, rfl, h⟩
theorem CT_int {k : IntKind} {v : V} (h : CT P n (.int k) v) : ∃ m, v = .int k m ∧ (Lit.int k m).wf = true := by cases n <;> exact h
theorem CT_bool {v : V} (h : CT P n .bool v) : ∃ b, v = .bool b := by cases n <;> exact h
theorem CT_slice {e : TypeId} {scs : List Sc} {v : V} (hf : flat P 8 e = some scs) (h : CT P (n + 1) (.slice e) v) : ∃ rows, v = .ro rows ∧ rows.length ≤ maxLen ∧ ∀ row ∈ rows, CTs P n scs row := by
  obtain ⟨rows, rfl, hl, h⟩ := h
  refine ⟨rows, rfl, hl, fun row hr => ?_⟩
  obtain ⟨scs', h1, h2, h3⟩ := h row hr
  rw [hf] at h1; cases h1
  exact CTs_of h2 h3
/-- A list of rows, each the image of something. -/
theorem rows_map {α : Type} {f : α → List V} : ∀ {rows : List (List V)}, (∀ row ∈ rows, ∃ x, row = f x) → ∃ xs : List α, rows = xs.map f
  | [], _ => ⟨[], rfl⟩
  | r :: rs, h => by
    obtain ⟨x, rfl⟩ := h r (by simp)
    obtain ⟨xs, rfl⟩ := rows_map (rows := rs) fun row hr => h row (by simp [hr])
    exact ⟨x :: xs, rfl⟩

/-- The argument of a type out of its cells. -/
def pack (P : Program) (t : TypeId) (vs : List V) : V := match P.underlying t with | some (.struct _) => .agg vs | _ => vs.headD .any
theorem arg (n : Nat) {t : TypeId} {v : Value} {d : DataW H} {ps : List MemPlace} {scs : List Sc} {r : Reach} {b : Nat} (hf : flat P 8 t = some scs) (hok : scs.all (okSc P n) = true)
    (hval : Value.okWide P W r b t v) (h : DataW.Trod enc P W 0 spare held t v d ps) : ∃ vs, CTs P n scs vs ∧ RelV W W.heap.size ι (pack P t vs) v := by
  obtain ⟨vs, h1, h2, h3⟩ := opened (ι := ι) n hf hok h
  refine ⟨vs, CTs_of h2 h3, ?_⟩
  have one : ∀ s, scs = [s] → v.cells = #[v] → RelV W W.heap.size ι (vs.headD .any) v := by
    intro s hs hv
    subst hs
    rw [hv] at h1
    cases vs with
    | nil => simp at h2
    | cons x xs => exact h1.head
  unfold flat at hf
  unfold pack
  split at hf
  · rename_i hu
    cases hf
    rw [hu]
    obtain ⟨b, rfl⟩ := WideShapes.okWide_bool hu hval
    exact one _ rfl rfl
  · rename_i k hu
    cases hf
    rw [hu]
    obtain ⟨m, rfl⟩ := WideShapes.okWide_int hu hval
    exact one _ rfl rfl
  · rename_i e hu
    cases hf
    rw [hu]
    obtain ⟨a, l, c, rfl⟩ := WideShapes.okWide_slice hu hval
    exact one _ rfl rfl
  · rename_i fs hu
    rw [hu]
    obtain ⟨cs, rfl, hsz⟩ := WideShapes.okWide_struct hu hval
    simp only [Value.cells] at h1
    simpa using relV_agg h1
  · cases hf

theorem law_run {f : FuncId} {args : List V} {cargs : List Value} (ha : RelL W W.heap.size (fun _ => none) args cargs) (h : ACalls P f args (fun _ => none) fun v _ => v = .bool true) :
    Calls P f cargs.toArray W fun e W' => e = .returned (.bool true) ∧ Below W.heap.size W W' := by
  have h0 : RelH W W.heap.size (fun _ => none) (fun _ => none) W :=
    ⟨fun o ob h => (by cases h), fun o1 o2 b1 b2 p1 p2 h => (by cases h), Below.refl _ _, Nat.le_refl _, ⟨0, fun _ _ => ⟨rfl, rfl⟩⟩⟩
  refine (h.run W W.heap.size (fun _ => none) (fun _ => none) (fun _ => none) W cargs h0 (fun _ _ h => h) (fun _ _ h => h) (fun _ _ h => (by cases h)) ha).mono fun e w' h => ?_
  obtain ⟨v, cv, ι', G', H', rfl, hv, hi, hrel, hsub, hfrm, hdis, rfl⟩ := h
  cases hv
  exact ⟨rfl, hrel.low⟩

end
end Go.Abs
/-
The abstract layer, part T: slices that are read, slices that are one's own; nothing of a program.
-/
namespace Go.Abs

theorem i64_in {n : Int} (h0 : -9223372036854775808 ≤ n) (h1 : n ≤ 9223372036854775807) : IntKind.i64.wrap n = n := IntWalk.i64_in n ⟨h0, h1⟩

/-! #### heaps -/
theorem upd_eq (H : Heap) (o : Nat) (x : Ob) : upd H o x o = some x := by simp [upd]
theorem upd_off {H : Heap} {o i : Nat} {x : Ob} (h : i ≠ o) : upd H o x i = H i := by simp [upd, h]
theorem upd_twice (H : Heap) (o : Nat) (x y : Ob) : upd (upd H o x) o y = upd H o y := by funext i; by_cases h : i = o <;> simp [upd, h]
attribute [simp] upd_eq upd_twice
theorem sub_fresh {H : Heap} {o : Nat} {x : Ob} (h : H o = none) : Abs.sub H (upd H o x) := fun i y hi => by
  have : i ≠ o := by rintro rfl; rw [h] at hi; cases hi
  rw [upd_off this]; exact hi
theorem sub_upd_of {S H : Heap} {o : Nat} {x : Ob} (hs : Abs.sub S H) (h : S o = none) : Abs.sub S (upd H o x) := fun i y hi => by
  have : i ≠ o := by rintro rfl; rw [h] at hi; cases hi
  rw [upd_off this]; exact hs i y hi
theorem sub_upd2 {S H : Heap} {o : Nat} {x : Ob} (hs : Abs.sub S H) : Abs.sub (upd S o x) (upd H o x) := fun i y hi => by
  by_cases e : i = o
  · subst e; simpa using hi
  · rw [upd_off e] at hi ⊢; exact hs i y hi
theorem sub_none {S H : Heap} {o : Nat} (hs : Abs.sub S H) (h : H o = none) : S o = none := by
  cases e : S o with
  | none => rfl
  | some x => rw [hs o x e] at h; cases h
@[simp] theorem sub_self (H : Heap) : Abs.sub H H ↔ True := ⟨fun _ => trivial, fun _ => Abs.sub_refl _⟩

/-! #### reading -/

/-- The slice v reads as these rows. -/
def Rd (H : Heap) (sz : Nat) (v : V) (rows : List (List V)) : Prop :=
  (∀ r ∈ rows, r.length = sz) ∧ (v = .ro rows ∨ (v = .nils ∧ rows = []) ∨
    ∃ o s cap ob, v = .slice o s rows.length cap ∧ H o = some ob ∧ ob.w = sz ∧ s + rows.length ≤ ob.rows.length ∧ ∀ i, i < rows.length → ob.rows[s + i]? = rows[i]?)
/-- The pointer p leads into this row, c cells on. -/
def Pt (H : Heap) (p : V) (row : List V) (c : Nat) : Prop := p = .rop row c ∨ ∃ o r ob, p = .ptr o r c ∧ H o = some ob ∧ ob.rows[r]? = some row

theorem Rd.mono {H H' : Heap} {sz : Nat} {v : V} {rows : List (List V)} (h : Rd H sz v rows) (hs : Abs.sub H H') : Rd H' sz v rows := by
  refine ⟨h.1, ?_⟩
  rcases h.2 with h | h | ⟨o, s, cap, ob, h1, h2, h3⟩
  · exact .inl h
  · exact .inr (.inl h)
  · exact .inr (.inr ⟨o, s, cap, ob, h1, hs _ _ h2, h3⟩)
theorem Pt.mono {H H' : Heap} {p : V} {row : List V} {c : Nat} (h : Pt H p row c) (hs : Abs.sub H H') : Pt H' p row c := by
  rcases h with h | ⟨o, r, ob, h1, h2, h3⟩
  · exact .inl h
  · exact .inr ⟨o, r, ob, h1, hs _ _ h2, h3⟩
theorem Rd.ro {H : Heap} {sz : Nat} {rows : List (List V)} (h : ∀ r ∈ rows, r.length = sz) : Rd H sz (.ro rows) rows := ⟨h, .inl rfl⟩
theorem Rd.nils {H : Heap} {sz : Nat} : Rd H sz .nils [] := ⟨fun r h => by simp at h, .inr (.inl ⟨rfl, rfl⟩)⟩
theorem Rd.len {H : Heap} {sz : Nat} {v : V} {rows : List (List V)} (h : Rd H sz v rows) : lenOf v = some rows.length := by
  rcases h.2 with rfl | ⟨rfl, rfl⟩ | ⟨o, s, cap, ob, rfl, _⟩ <;> rfl
/-- A slice over a whole object. -/
theorem Rd.own {H : Heap} {o sz : Nat} {cap : Option Nat} {rows : List (List V)} (hr : ∀ r ∈ rows, r.length = sz) (h : H o = some ⟨sz, rows⟩) : Rd H sz (.slice o 0 rows.length cap) rows :=
  ⟨hr, .inr (.inr ⟨o, 0, cap, _, rfl, h, rfl, by simp, fun i hi => by simp⟩)⟩

theorem Rd.idx {H : Heap} {sz : Nat} {v : V} {rows : List (List V)} {k : IntKind} {i : Int} {K : V → Prop} (h : Rd H sz v rows) (h0 : 0 ≤ i) (h1 : i < rows.length) (hk : ∀ p, Pt H p (rows.getD i.toNat []) 0 → K p) :
    bnd (aIndex H sz v (.int k i)) K := by
  have hi : i.toNat < rows.length := by omega
  have hg : rows.getD i.toNat [] = rows[i.toNat] := by simp [hi]
  rw [hg] at hk
  rcases h.2 with rfl | ⟨rfl, rfl⟩ | ⟨o, s, cap, ob, rfl, h2, h3, h4, h5⟩
  · simp only [aIndex, if_pos h0]
    have : rows[i.toNat]? = some rows[i.toNat] := by simp [hi]
    rw [this]
    simp only
    rw [if_pos (h.1 _ (List.getElem_mem hi))]
    exact hk _ (.inl rfl)
  · simp at hi
  · simp only [aIndex]
    rw [if_pos ⟨h0, h1⟩, h2]
    simp only
    rw [if_pos h3]
    refine hk _ (.inr ⟨o, s + i.toNat, ob, rfl, h2, ?_⟩)
    rw [h5 _ hi]; simp [hi]
theorem Pt.ld {H : Heap} {p : V} {row : List V} {c : Nat} (h : Pt H p row c) (b : Bool) (sz : Nat) : aLd b sz H p = partOf b sz row c := by
  rcases h with rfl | ⟨o, r, ob, rfl, h2, h3⟩
  · rfl
  · simp [aLd, rowAt, h2, h3]
theorem Pt.fld {H : Heap} {p : V} {row : List V} {c : Nat} {off : Nat} {K : V → Prop} (h : Pt H p row c) (hk : ∀ q, Pt H q row (c + off) → K q) : bnd (aField off p) K := by
  rcases h with rfl | ⟨o, r, ob, rfl, h2, h3⟩
  · exact hk _ (.inl rfl)
  · exact hk _ (.inr ⟨o, r, ob, rfl, h2, h3⟩)
theorem Rd.rows {H : Heap} {sz : Nat} {v : V} {rows : List (List V)} (h : Rd H sz v rows) (hv : ∀ r, v ≠ .ro r) : rowsOf H sz v = some rows := by
  rcases h.2 with rfl | ⟨rfl, rfl⟩ | ⟨o, s, cap, ob, rfl, h2, h3, h4, h5⟩
  · exact absurd rfl (hv rows)
  · rfl
  · simp only [rowsOf, h2]
    rw [if_pos ⟨h3, h4⟩]
    congr 1
    apply List.ext_getElem?
    intro i
    by_cases hi : i < rows.length
    · rw [List.getElem?_take, if_pos hi, List.getElem?_drop, h5 i hi]
    · rw [List.getElem?_eq_none (by simp; omega), List.getElem?_eq_none (by omega)]

/-! #### one's own slices -/

theorem aIndex_own {H : Heap} {o sz s n : Nat} {ob : Ob} {cap : Option Nat} {k : IntKind} {i : Int} (ho : H o = some ob) (hw : ob.w = sz) (h0 : 0 ≤ i) (h1 : i < n) : aIndex H sz (.slice o s n cap) (.int k i) = some (.ptr o (s + i.toNat) 0) := by
  simp only [aIndex]
  rw [if_pos ⟨h0, h1⟩, ho]
  simp only
  rw [if_pos hw]
theorem aSt_own {H : Heap} {o r c sz : Nat} {ob : Ob} {row row' : List V} {v : V} (ho : H o = some ob) (hr : ob.rows[r]? = some row) (hs : stz sz row c v = some row') :
    aSt sz H (.ptr o r c) v = some (upd H o ⟨ob.w, ob.rows.set r row'⟩) := by
  simp only [aSt, ho, hr, hs]

/-- A slice that is wholly one's own, over what stood before. -/
def Own (H0 : Heap) (sz : Nat) (rows : List (List V)) (v : V) (H : Heap) : Prop :=
  (v = .nils ∧ rows = [] ∧ H = H0) ∨ (∃ o, H0 o = none ∧ v = .slice o 0 rows.length none ∧ H = upd H0 o ⟨sz, rows⟩) ∨ (∃ o, rows = [] ∧ H0 o = none ∧ v = .slice o 0 0 (some 0) ∧ H = upd H0 o ⟨sz, []⟩)
theorem Own.sub {H0 H : Heap} {sz : Nat} {rows : List (List V)} {v : V} (h : Own H0 sz rows v H) : Abs.sub H0 H := by
  rcases h with ⟨_, _, rfl⟩ | ⟨o, h1, _, rfl⟩ | ⟨o, _, h1, _, rfl⟩
  · exact Abs.sub_refl _
  · exact sub_fresh h1
  · exact sub_fresh h1
theorem Own.rd {H0 H : Heap} {sz : Nat} {rows : List (List V)} {v : V} (h : Own H0 sz rows v H) (hr : ∀ r ∈ rows, r.length = sz) : Rd H sz v rows := by
  rcases h with ⟨rfl, rfl, rfl⟩ | ⟨o, h1, rfl, rfl⟩ | ⟨o, rfl, h1, rfl, rfl⟩
  · exact Rd.nils
  · exact Rd.own hr (by simp)
  · exact Rd.own (rows := []) hr (by simp)
theorem Own.append {H0 H Hb : Heap} {sz by_ : Nat} {rows xs : List (List V)} {v : V} {K : V → Heap → Prop} (h : Own H0 sz rows v H) (hs : Abs.sub H Hb) (hx : xs ≠ []) (hb : (rows.length + xs.length) * by_ ≤ 140737488355328)
    (hk : ∀ v' H' H'', Own H0 sz (rows ++ xs) v' H'' → Abs.sub H'' H' → K v' H') : appendK Hb sz by_ v xs K := by
  have fresh : ∀ (o o' : Nat), H0 o' = none → Hb o' = none → Abs.sub H0 (del Hb o) → Own H0 sz (rows ++ xs) (.slice o' 0 (rows.length + xs.length) none) (upd H0 o' ⟨sz, rows ++ xs⟩) := fun o o' h0 _ _ =>
    .inr (.inl ⟨o', h0, by simp, rfl⟩)
  have nn : ∀ o', Hb o' = none → H0 o' = none := fun o' h' => sub_none (fun i x hi => hs i x (h.sub i x hi)) h'
  have hsub : Abs.sub H0 Hb := fun i x hi => hs i x (h.sub i x hi)
  rcases h with ⟨rfl, rfl, rfl⟩ | ⟨o, h1, rfl, rfl⟩ | ⟨o, rfl, h1, rfl, rfl⟩
  · refine ⟨fun e => absurd e hx, fun _ => ⟨by simpa using hb, fun o ho => ?_⟩⟩
    exact hk _ _ (upd H o ⟨sz, xs⟩) (.inr (.inl ⟨o, nn o ho, by simp, by simp⟩)) (sub_upd2 hs)
  · have ho : Hb o = some ⟨sz, rows⟩ := hs o _ (by simp)
    simp only [appendK, ho]
    refine ⟨trivial, by simp, fun e => absurd e hx, fun _ => ⟨hb, trivial, fun o' ho' => ?_⟩⟩
    refine hk _ _ (upd H0 o' ⟨sz, rows ++ xs⟩) (.inr (.inl ⟨o', nn o' ho', by simp, rfl⟩)) ?_
    simp only [List.take_length]
    refine sub_upd2 fun i x hi => ?_
    have : i ≠ o := by rintro rfl; rw [h1] at hi; cases hi
    simp only [del, if_neg this]
    exact hsub i x hi
  · have ho : Hb o = some ⟨sz, []⟩ := hs o _ (by simp)
    simp only [appendK, ho]
    refine ⟨trivial, by simp, fun e => absurd e hx, fun _ => ⟨by simpa using hb, fun e => ?_, fun _ o' ho' => ?_⟩⟩
    · exfalso
      have : 0 < xs.length := by cases xs with | nil => exact absurd rfl hx | cons => simp
      omega
    · refine hk _ _ (upd H0 o' ⟨sz, xs⟩) (.inr (.inl ⟨o', nn o' ho', by simp, by simp⟩)) ?_
      simp only [List.drop_nil, List.take_nil, List.nil_append]
      exact sub_upd2 hsub

theorem fill_get {α : Type} {M : List α} {z : α} {i n : Nat} (hn : n = M.length) (h : i < M.length) : (M.take i ++ List.replicate (n - i) z)[i]? = some z := by
  subst hn
  rw [List.getElem?_append_right (by simp; omega), List.getElem?_replicate]
  simp; omega
theorem fill_set {α : Type} {M : List α} {z : α} {i n : Nat} (hn : n = M.length) (h : i < M.length) : (M.take i ++ List.replicate (n - i) z).set i M[i] = M.take (i + 1) ++ List.replicate (n - (i + 1)) z := by
  subst hn
  apply List.ext_getElem?
  intro j
  by_cases hj : j = i
  · subst hj
    rw [List.getElem?_set_self (by simp; omega), List.getElem?_append_left (by simp; omega), List.getElem?_take, if_pos (by omega)]
    simp [h]
  · rw [List.getElem?_set_ne (by omega)]
    by_cases hlt : j < i
    · rw [List.getElem?_append_left (by simp; omega), List.getElem?_append_left (by simp; omega), List.getElem?_take, List.getElem?_take, if_pos hlt, if_pos (by omega)]
    · rw [List.getElem?_append_right (by simp; omega), List.getElem?_append_right (by simp; omega), List.getElem?_replicate, List.getElem?_replicate]
      simp
      congr 1
      simp; omega

theorem over_get {α : Type} {M R : List α} {i : Nat} (hn : M.length = R.length) (h : i < M.length) : (M.take i ++ R.drop i)[i]? = R[i]? := by
  rw [List.getElem?_append_right (by simp; omega), List.getElem?_drop]
  congr 1
  simp; omega
theorem over_set {α : Type} {M R : List α} {i : Nat} {x : α} (hn : M.length = R.length) (hx : M[i]? = some x) : (M.take i ++ R.drop i).set i x = M.take (i + 1) ++ R.drop (i + 1) := by
  have h : i < M.length := (List.getElem?_eq_some_iff.1 hx).1
  apply List.ext_getElem?
  intro j
  by_cases hj : j = i
  · subst hj
    rw [List.getElem?_set_self (by simp; omega), List.getElem?_append_left (by simp; omega), List.getElem?_take, if_pos (by omega), hx]
  · rw [List.getElem?_set_ne (by omega)]
    by_cases hlt : j < i
    · rw [List.getElem?_append_left (by simp; omega), List.getElem?_append_left (by simp; omega), List.getElem?_take, List.getElem?_take, if_pos hlt, if_pos (by omega)]
    · rw [List.getElem?_append_right (by simp; omega), List.getElem?_append_right (by simp; omega), List.getElem?_drop, List.getElem?_drop]
      congr 1
      simp; omega

/-- An int's row. -/
abbrev ri (n : Int) : List V := [.int .i64 n]
theorem ri_len {xs : List Int} : ∀ r ∈ xs.map ri, r.length = 1 := by simp
theorem getD_map_ri {xs : List Int} {i : Nat} (h : i < xs.length) : (xs.map ri).getD i [] = ri xs[i] := by simp [h]

/-- The marks k, k + 1, .. as rows. -/
def marks (k : Int) (n : Nat) : List (List V) := (List.range n).map fun i => ri (k + (i : Nat))
@[simp] theorem marks_len (k : Int) (n : Nat) : (marks k n).length = n := by simp [marks]
theorem marks_get {k : Int} {n i : Nat} (h : i < n) : (marks k n)[i]? = some (ri (k + (i : Nat))) := by simp [marks, h]
theorem marks_row {k : Int} {n : Nat} : ∀ r ∈ marks k n, r.length = 1 := by simp [marks]

theorem bsl_nil (sz : Nat) (z : List V) (h1 : z.length = sz) (h2 : 0 < sz) : bsl sz 0 z [] = some [] := by simp [bsl, allW, fillR, h1, h2]
theorem bsl_one (sz : Nat) (z : List V) (v : V) (h1 : z.length = sz) (h2 : 0 < sz) (h3 : (cellsOf v).length = sz) (h4 : (cellsOf v).all cellOk = true) (h5 : sz ≤ 16777216) : bsl sz 1 z [(0, v)] = some [cellsOf v] := by
  unfold bsl
  rw [if_pos (by simp [allW, h1, h2, h3, h5]; simpa using h4)]
  simp [fillR]
theorem rowsOf_own {H : Heap} {o sz n : Nat} {cap : Option Nat} {ob : Ob} (ho : H o = some ob) (hw : ob.w = sz) (hn : n = ob.rows.length) : rowsOf H sz (.slice o 0 n cap) = some ob.rows := by
  subst hn
  simp [rowsOf, ho, hw]

@[simp] theorem rowsOf_upd (H : Heap) (o sz n : Nat) (cap : Option Nat) (rows : List (List V)) : rowsOf (upd H o ⟨sz, rows⟩) sz (.slice o 0 n cap) = if n ≤ rows.length then some (rows.take n) else none := by
  simp [rowsOf]

/-- More steps than places: two steps at one place. -/
theorem pigeon : ∀ (L : Nat) (g : Nat → Nat), (∀ j, j ≤ L → g j < L) → ∃ i j, i < j ∧ j ≤ L ∧ g i = g j
  | 0, g, h => absurd (h 0 (Nat.le_refl 0)) (by omega)
  | L + 1, g, h => by
    by_cases hc : ∃ i, i ≤ L ∧ g i = g (L + 1)
    · obtain ⟨i, hi, e⟩ := hc
      exact ⟨i, L + 1, by omega, by omega, e⟩
    · have hne : ∀ i, i ≤ L → g i ≠ g (L + 1) := fun i hi e => hc ⟨i, hi, e⟩
      obtain ⟨i, j, h1, h2, h3⟩ := pigeon L (fun j => if g j = L then g (L + 1) else g j) fun j hj => by
        have := h j (by omega)
        have := h (L + 1) (by omega)
        have := hne j hj
        split <;> omega
      refine ⟨i, j, h1, by omega, ?_⟩
      have := hne i (by omega)
      have := hne j h2
      split at h3 <;> split at h3 <;> omega

/-- An older object may be written over: one's own slice stays. -/
theorem Own.rebase {H0 H : Heap} {sz : Nat} {rows : List (List V)} {v : V} {o : Nat} (x : Ob) (h : Own H0 sz rows v H) (ho : H0 o ≠ none) : Own (upd H0 o x) sz rows v (upd H o x) := by
  have comm : ∀ (p : Nat) (y : Ob), H0 p = none → upd (upd H0 p y) o x = upd (upd H0 o x) p y ∧ upd H0 o x p = none := fun p y hp => by
    have hne : p ≠ o := by rintro rfl; exact ho hp
    refine ⟨?_, by rw [upd_off hne]; exact hp⟩
    funext i
    by_cases e1 : i = p
    · subst e1; rw [upd_off hne, upd_eq, upd_eq]
    · by_cases e2 : i = o
      · subst e2; rw [upd_eq, upd_off e1, upd_eq]
      · rw [upd_off e2, upd_off e1, upd_off e1, upd_off e2]
  rcases h with ⟨rfl, rfl, rfl⟩ | ⟨p, h1, rfl, rfl⟩ | ⟨p, rfl, h1, rfl, rfl⟩
  · exact .inl ⟨rfl, rfl, rfl⟩
  · exact .inr (.inl ⟨p, (comm p ⟨sz, rows⟩ h1).2, rfl, (comm p _ h1).1⟩)
  · exact .inr (.inr ⟨p, rfl, (comm p ⟨sz, []⟩ h1).2, rfl, (comm p _ h1).1⟩)

theorem callK_fn {P : Program} {H : Heap} {f : FuncId} {caps args : List V} {K : V → Heap → Prop} (he : enterable P f = true) (h : ACalls P f (args ++ caps) H K) : callK P H (.fn f caps) args K := by
  simp only [callK, he]; exact h

theorem upd_comm {H : Heap} {i j : Nat} (x y : Ob) (h : i ≠ j) : upd (upd H i x) j y = upd (upd H j y) i x := by
  funext k
  by_cases e1 : k = i
  · subst e1; rw [upd_off h, upd_eq, upd_eq]
  · by_cases e2 : k = j
    · subst e2; rw [upd_eq, upd_off e1, upd_eq]
    · rw [upd_off e2, upd_off e1, upd_off e1, upd_off e2]
theorem upd_none {H : Heap} {i j : Nat} {x : Ob} (h : upd H i x j = none) : j ≠ i ∧ H j = none := by
  have hne : j ≠ i := by rintro rfl; rw [upd_eq] at h; cases h
  exact ⟨hne, by rw [upd_off hne] at h; exact h⟩
theorem Own.cell {H0 H : Heap} {sz : Nat} {rows : List (List V)} {v : V} (h : Own H0 sz rows v H) : cellsOf v = [v] ∧ cellOk v = true := by
  rcases h with ⟨rfl, _⟩ | ⟨o, _, rfl, _⟩ | ⟨o, _, _, rfl, _⟩ <;> exact ⟨rfl, rfl⟩

/-- A variable that holds one's own slice, in a box of its own. -/
def Cap (H : Heap) (o sz : Nat) (rows : List (List V)) (Hc : Heap) : Prop := ∃ u, Own (upd H o ⟨1, [[u]]⟩) sz rows u Hc
theorem Cap.sub {H Hc : Heap} {o sz : Nat} {rows : List (List V)} (h : Cap H o sz rows Hc) (ho : H o = none) : Abs.sub H Hc := by
  obtain ⟨u, hu⟩ := h
  exact sub_trans (sub_fresh ho) hu.sub
theorem Cap.start {H : Heap} {o p sz : Nat} (hp : H p = none) (ho : upd H p ⟨sz, []⟩ o = none) : Cap H o sz [] (upd (upd H p ⟨sz, []⟩) o ⟨1, [[.slice p 0 0 (some 0)]]⟩) := by
  obtain ⟨h1, h2⟩ := upd_none ho
  exact ⟨_, .inr (.inr ⟨p, rfl, by rw [upd_off (Ne.symm h1)]; exact hp, rfl, upd_comm _ _ (Ne.symm h1)⟩)⟩

/-- A slice that is wholly one's own (a result), whatever its capacity. -/
def Held (H0 : Heap) (sz : Nat) (rows : List (List V)) (v : V) (H : Heap) : Prop :=
  (v = .nils ∧ rows = [] ∧ H = H0) ∨ ∃ o cap, H0 o = none ∧ v = .slice o 0 rows.length cap ∧ (∀ k, cap = some k → k = rows.length) ∧ H = upd H0 o ⟨sz, rows⟩
theorem Own.held {H0 H : Heap} {sz : Nat} {rows : List (List V)} {v : V} (h : Own H0 sz rows v H) : Held H0 sz rows v H := by
  rcases h with ⟨h1, h2, h3⟩ | ⟨o, h1, h2, h3⟩ | ⟨o, rfl, h1, h2, h3⟩
  · exact .inl ⟨h1, h2, h3⟩
  · exact .inr ⟨o, none, h1, h2, by simp, h3⟩
  · exact .inr ⟨o, some 0, h1, h2, by simp, h3⟩
theorem Held.sub {H0 H : Heap} {sz : Nat} {rows : List (List V)} {v : V} (h : Held H0 sz rows v H) : Abs.sub H0 H := by
  rcases h with ⟨_, _, rfl⟩ | ⟨o, _, h1, _, _, rfl⟩
  · exact Abs.sub_refl _
  · exact sub_fresh h1
theorem Held.rd {H0 H : Heap} {sz : Nat} {rows : List (List V)} {v : V} (h : Held H0 sz rows v H) (hr : ∀ r ∈ rows, r.length = sz) : Rd H sz v rows := by
  rcases h with ⟨rfl, rfl, rfl⟩ | ⟨o, cap, h1, rfl, hc, rfl⟩
  · exact Rd.nils
  · exact Rd.own hr (by simp)
theorem Held.rebase {H0 H : Heap} {sz : Nat} {rows : List (List V)} {v : V} {o : Nat} (x : Ob) (h : Held H0 sz rows v H) (ho : H0 o ≠ none) : Held (upd H0 o x) sz rows v (upd H o x) := by
  rcases h with ⟨h1, h2, rfl⟩ | ⟨p, cap, h1, h2, hc, rfl⟩
  · exact .inl ⟨h1, h2, rfl⟩
  · have hne : p ≠ o := by rintro rfl; exact ho h1
    exact .inr ⟨p, cap, by rw [upd_off hne]; exact h1, h2, hc, upd_comm _ _ hne⟩
theorem Own.some {H0 H : Heap} {sz : Nat} {rows : List (List V)} {v : V} (h : Own H0 sz rows v H) (hr : rows ≠ []) : v ≠ .nils := by
  rcases h with ⟨_, h2, _⟩ | ⟨o, _, rfl, _⟩ | ⟨o, _, _, rfl, _⟩
  · exact absurd h2 hr
  · simp
  · simp

/-! #### boxes: objects of one row -/
theorem aLd_at {H : Heap} {o w : Nat} {row : List V} (h : H o = some ⟨w, [row]⟩) (b : Bool) (sz c : Nat) : aLd b sz H (.ptr o 0 c) = partOf b sz row c := by
  simp [aLd, rowAt, h]
theorem aSt_at {H : Heap} {o w : Nat} {row : List V} (h : H o = some ⟨w, [row]⟩) (sz c : Nat) (v : V) : aSt sz H (.ptr o 0 c) v = (stz sz row c v).map fun r => upd H o ⟨w, [r]⟩ := by
  simp only [aSt, h]
  simp
  cases stz sz row c v <;> rfl

end Go.Abs
/-
Slices that are one's own: reading, storing, appending, two at a time.
-/
namespace Go.Abs

theorem Held.new {H : Heap} {o sz : Nat} (h : H o = none) : Held H sz [] (.slice o 0 0 (some 0)) (upd H o ⟨sz, []⟩) := .inr ⟨o, some 0, h, rfl, by simp, rfl⟩
theorem Held.full {H : Heap} {o sz n : Nat} {rows : List (List V)} (h : H o = none) (hn : n = rows.length) : Held H sz rows (.slice o 0 n (some n)) (upd H o ⟨sz, rows⟩) := .inr ⟨o, some n, h, by rw [hn], by simp [hn], rfl⟩
theorem Held.nil {H : Heap} {sz : Nat} : Held H sz [] .nils H := .inl ⟨rfl, rfl, rfl⟩
theorem Held.nn {H0 H : Heap} {sz : Nat} {rows : List (List V)} {v : V} (h : Held H0 sz rows v H) (hr : rows ≠ []) : v ≠ .nils := by
  rcases h with ⟨_, h2, _⟩ | ⟨o, cap, _, rfl, _⟩
  · exact absurd h2 hr
  · simp
theorem Held.cell {H0 H : Heap} {sz : Nat} {rows : List (List V)} {v : V} (h : Held H0 sz rows v H) : cellsOf v = [v] ∧ cellOk v = true ∧ notAny v = true := by
  rcases h with ⟨rfl, _⟩ | ⟨o, cap, _, rfl, _⟩ <;> exact ⟨rfl, rfl, rfl⟩
theorem Held.swap {H0 H1 H2 : Heap} {s t : Nat} {xs ys : List (List V)} {u v : V} (h1 : Held H0 s xs u H1) (h2 : Held H1 t ys v H2) : ∃ H1', Held H0 t ys v H1' ∧ Held H1' s xs u H2 := by
  rcases h1 with ⟨rfl, rfl, rfl⟩ | ⟨o, cap, a1, rfl, a2, rfl⟩
  · exact ⟨H2, h2, .inl ⟨rfl, rfl, rfl⟩⟩
  · rcases h2 with ⟨rfl, rfl, rfl⟩ | ⟨p, cap', b1, rfl, b2, rfl⟩
    · exact ⟨H0, .inl ⟨rfl, rfl, rfl⟩, .inr ⟨o, cap, a1, rfl, a2, rfl⟩⟩
    · have hne : p ≠ o := by rintro rfl; simp at b1
      rw [upd_off hne] at b1
      exact ⟨upd H0 p ⟨t, ys⟩, .inr ⟨p, cap', b1, rfl, b2, rfl⟩, .inr ⟨o, cap, by rw [upd_off (Ne.symm hne)]; exact a1, rfl, a2, upd_comm _ _ (Ne.symm hne)⟩⟩
theorem Held.append {H0 H Hb : Heap} {sz by_ : Nat} {rows xs : List (List V)} {v : V} {K : V → Heap → Prop} (h : Held H0 sz rows v H) (hs : Abs.sub H Hb) (hx : xs ≠ []) (hb : (rows.length + xs.length) * by_ ≤ 140737488355328)
    (hk : ∀ v' H' H'', Held H0 sz (rows ++ xs) v' H'' → Abs.sub H'' H' → K v' H') : appendK Hb sz by_ v xs K := by
  have base : Own H0 sz rows v H → appendK Hb sz by_ v xs K := fun ho => ho.append hs hx hb fun v' H' H'' q1 q2 => hk v' H' H'' q1.held q2
  rcases h with h | ⟨o, cap, h1, rfl, hc, rfl⟩
  · exact base (.inl h)
  · cases cap with
    | none => exact base (.inr (.inl ⟨o, h1, rfl, rfl⟩))
    | some k =>
      obtain rfl := hc k rfl
      have ho : Hb o = some ⟨sz, rows⟩ := hs o _ (by simp)
      have hp : 0 < xs.length := List.length_pos_iff.2 hx
      simp only [appendK, ho]
      refine ⟨trivial, by simp, fun e => absurd e hx, fun _ => ⟨hb, fun hh => absurd hh (by omega), fun _ o' ho' => ?_⟩⟩
      have h0' : H0 o' = none := sub_none (fun i x hi => hs i x (sub_fresh h1 i x hi)) ho'
      refine hk _ _ (upd H0 o' ⟨sz, rows ++ xs⟩) (.inr ⟨o', none, h0', by simp, by simp, rfl⟩) ?_
      simp only [List.drop_zero, List.take_length]
      exact sub_upd2 (sub_trans (sub_fresh h1) hs)

/-- A place in one's own slice. -/
def OwnPt (H0 : Heap) (sz : Nat) (rows : List (List V)) (u : V) (Hb : Heap) (p : V) (i c : Nat) : Prop :=
  ∃ o cap, u = .slice o 0 rows.length cap ∧ H0 o = none ∧ (∀ k, cap = some k → k = rows.length) ∧ Hb o = some ⟨sz, rows⟩ ∧ Abs.sub H0 Hb ∧ p = .ptr o i c ∧ i < rows.length
theorem Held.pt {H0 H Hb : Heap} {sz : Nat} {rows : List (List V)} {u : V} {k : IntKind} {i : Int} {K : V → Prop} (h : Held H0 sz rows u H) (hs : Abs.sub H Hb) (h0 : 0 ≤ i) (hi : i < rows.length)
    (hk : ∀ p, OwnPt H0 sz rows u Hb p i.toNat 0 → K p) : bnd (aIndex Hb sz u (.int k i)) K := by
  rcases h with ⟨rfl, rfl, rfl⟩ | ⟨o, cap, h1, rfl, hc, rfl⟩
  · simp at hi; omega
  · have ho := hs _ _ (upd_eq _ _ _)
    rw [aIndex_own ho rfl h0 hi]
    refine hk _ ⟨o, cap, rfl, h1, hc, ho, sub_trans (sub_fresh h1) hs, by simp, by omega⟩
theorem OwnPt.fld {H0 Hb : Heap} {sz : Nat} {rows : List (List V)} {u p : V} {i c off : Nat} {K : V → Prop} (h : OwnPt H0 sz rows u Hb p i c) (hk : ∀ q, OwnPt H0 sz rows u Hb q i (c + off) → K q) : bnd (aField off p) K := by
  obtain ⟨o, cap, h1, h2, h3, h4, h5, rfl, h7⟩ := h
  exact hk _ ⟨o, cap, h1, h2, h3, h4, h5, rfl, h7⟩
theorem OwnPt.ld {H0 Hb : Heap} {sz : Nat} {rows : List (List V)} {u p : V} {i c : Nat} (h : OwnPt H0 sz rows u Hb p i c) (b : Bool) (m : Nat) : aLd b m Hb p = partOf b m (rows.getD i []) c := by
  obtain ⟨o, cap, h1, h2, h3, h4, h5, rfl, h7⟩ := h
  simp [aLd, rowAt, h4, h7]
theorem OwnPt.st {H0 Hb : Heap} {sz m : Nat} {rows : List (List V)} {u p v : V} {i c : Nat} {K : Heap → Prop} (h : OwnPt H0 sz rows u Hb p i c) {row' : List V} (hz : stz m (rows.getD i []) c v = some row')
    (hk : ∀ H' H'', Held H0 sz (rows.set i row') u H'' → Abs.sub H'' H' → K H') : bnd (aSt m Hb p v) K := by
  obtain ⟨o, cap, h1, h2, h3, h4, h5, rfl, h7⟩ := h
  have : rows[i]? = some (rows.getD i []) := by simp [h7]
  rw [aSt_own h4 (by simpa using this) hz]
  refine hk _ (upd H0 o ⟨sz, rows.set i row'⟩) (.inr ⟨o, cap, h2, by simpa using h1, by simpa using h3, rfl⟩) (sub_upd2 h5)

/-- What reads a slice of slices. -/
def Rd2 (H : Heap) (sz : Nat) (v : V) (ts : List (List (List V))) : Prop := ∃ ws : List V, ws.length = ts.length ∧ Rd H 1 v (ws.map fun w => [w]) ∧ ∀ i, i < ts.length → Rd H sz (ws.getD i .any) (ts.getD i [])
theorem Rd2.mono {H H' : Heap} {sz : Nat} {v : V} {ts : List (List (List V))} (h : Rd2 H sz v ts) (hs : Abs.sub H H') : Rd2 H' sz v ts := by
  obtain ⟨ws, h1, h2, h3⟩ := h
  exact ⟨ws, h1, h2.mono hs, fun i hi => (h3 i hi).mono hs⟩
theorem Rd2.len {H : Heap} {sz : Nat} {v : V} {ts : List (List (List V))} (h : Rd2 H sz v ts) : lenOf v = some ts.length := by
  obtain ⟨ws, h1, h2, h3⟩ := h
  rw [h2.len]; simp [h1]
/-- An inner slice of it. -/
theorem Rd2.idx {H : Heap} {sz : Nat} {v : V} {ts : List (List (List V))} {k : IntKind} {i : Int} {K : V → Prop} (h : Rd2 H sz v ts) (h0 : 0 ≤ i) (h1 : i < ts.length) (hk : ∀ p w, (∀ b, aLd b 1 H p = partOf b 1 [w] 0) → Rd H sz w (ts.getD i.toNat []) → K p) :
    bnd (aIndex H 1 v (.int k i)) K := by
  obtain ⟨ws, g1, g2, g3⟩ := h
  refine g2.idx h0 (by simp; omega) fun p hp => hk p (ws.getD i.toNat .any) (fun b => ?_) (g3 _ (by omega))
  rw [hp.ld]
  have : i.toNat < ws.length := by omega
  simp [this]

theorem Rd.cell {H : Heap} {sz : Nat} {v : V} {rows : List (List V)} (h : Rd H sz v rows) : cellsOf v = [v] ∧ cellOk v = true ∧ notAny v = true := by
  rcases h.2 with rfl | ⟨rfl, _⟩ | ⟨o, s, cap, ob, rfl, _⟩ <;> exact ⟨rfl, rfl, rfl⟩

theorem Ret.no {R : V → Heap → Prop} {G : Prop} [Decidable G] {H : Heap} (h : R (.bool (decide G)) H) (hg : ¬ G) : Ret R (.bool false) H := Ret.eq h (by rw [decide_eq_false hg])
theorem Ret.yes {R : V → Heap → Prop} {G : Prop} [Decidable G] {H : Heap} (h : R (.bool (decide G)) H) (hg : G) : Ret R (.bool true) H := Ret.eq h (by rw [decide_eq_true hg])
theorem Ret.iff {R : V → Heap → Prop} {G G' : Prop} [Decidable G] [Decidable G'] {H : Heap} (h : R (.bool (decide G)) H) (hg : G' ↔ G) : Ret R (.bool (decide G')) H := Ret.eq h (by rw [decide_eq_decide.2 hg])

theorem Held.shrink {H Ha H' : Heap} {sz : Nat} {rows : List (List V)} {u : V} (h : Held Ha sz rows u H') (hs : Abs.sub H Ha) : ∃ H'', Held H sz rows u H'' ∧ Abs.sub H'' H' := by
  rcases h with ⟨rfl, rfl, rfl⟩ | ⟨o, cap, h1, rfl, h2, rfl⟩
  · exact ⟨H, .inl ⟨rfl, rfl, rfl⟩, hs⟩
  · exact ⟨upd H o ⟨sz, rows⟩, .inr ⟨o, cap, sub_none hs h1, rfl, h2, rfl⟩, sub_upd2 hs⟩
/-- What one's own slice is, handed back over what stood before. -/
theorem Ret.held {R : V → Heap → Prop} {H Ha H' : Heap} {sz : Nat} {rows : List (List V)} {u : V} (h : Held Ha sz rows u H') (hs : Abs.sub H Ha) (hk : ∀ u' H'', Held H sz rows u' H'' → R u' H'') : Ret R u H' := by
  obtain ⟨H'', h1, h2⟩ := h.shrink hs
  exact Ret.shr (hk _ _ h1) rfl h2

theorem aMins_two (k : IntKind) (a b : Int) : aMins false (.int k a) [.int k b] = some (.int k (min a b)) := by
  simp only [aMins, aMin2]
  by_cases h : b < a
  · simp [h]; omega
  · simp [h]; omega
theorem aMaxs_two (k : IntKind) (a b : Int) : aMins true (.int k a) [.int k b] = some (.int k (max a b)) := by
  simp only [aMins, aMin2]
  by_cases h : b > a
  · simp [h]; omega
  · simp [h]; omega

/-- What reads a slice that may be cut. -/
def Sl (H : Heap) (sz : Nat) (v : V) (rows : List (List V)) : Prop := Rd H sz v rows ∧ (∀ r, v ≠ .ro r) ∧ ∀ o s n c, v = .slice o s n (some c) → n ≤ c
theorem Sl.of {H : Heap} {sz o n : Nat} {rows : List (List V)} (h : Rd H sz (.slice o 0 n (some n)) rows) : Sl H sz (.slice o 0 n (some n)) rows := ⟨h, by simp, fun o s n c e => by cases e; omega⟩
theorem Sl.mono {H H' : Heap} {sz : Nat} {v : V} {rows : List (List V)} (h : Sl H sz v rows) (hs : Abs.sub H H') : Sl H' sz v rows := ⟨h.1.mono hs, h.2⟩
theorem Held.sl {H0 H : Heap} {sz : Nat} {rows : List (List V)} {v : V} (h : Held H0 sz rows v H) (hr : ∀ r ∈ rows, r.length = sz) : Sl H sz v rows := by
  refine ⟨h.rd hr, ?_, ?_⟩
  · rcases h with ⟨rfl, _⟩ | ⟨o, cap, _, rfl, _⟩ <;> simp
  · rintro o s n c rfl
    rcases h with ⟨h, _⟩ | ⟨o', cap, _, h, hc, _⟩
    · cases h
    · cases h
      have := hc c rfl
      omega
theorem Sl.upto {H : Heap} {sz : Nat} {v : V} {rows : List (List V)} {k : IntKind} {i : Nat} (h : Sl H sz v rows) (hi : i ≤ rows.length) : ∃ w, aSlice H sz v none (some (.int k (i : Nat))) none = some w ∧ Sl H sz w (rows.take i) := by
  obtain ⟨⟨h0, h1⟩, h2, h3⟩ := h
  rcases h1 with rfl | ⟨rfl, rfl⟩ | ⟨o, s, cap, ob, rfl, g2, g3, g4, g5⟩
  · exact absurd rfl (h2 rows)
  · simp at hi
    subst hi
    exact ⟨.nils, by simp [aSlice, bound, natOf], ⟨by simp, .inr (.inl ⟨rfl, by simp⟩)⟩, by simp, by simp⟩
  · have hw : ∀ r ∈ rows.take i, r.length = sz := fun r hr => h0 r (List.mem_of_mem_take hr)
    have hn : (rows.take i).length = i := by simp; omega
    have rd : ∀ c, Rd H sz (.slice o s i c) (rows.take i) := fun c => ⟨hw, .inr (.inr ⟨o, s, c, ob, by rw [hn], g2, g3, by rw [hn]; omega, fun j hj => by
      rw [hn] at hj
      rw [g5 j (by omega), List.getElem?_take, if_pos hj]⟩)⟩
    cases cap with
    | none => exact ⟨.slice o s i none, by simp [aSlice, g2, g3, bound, natOf, hi], rd _, by simp, by simp⟩
    | some c =>
      have := h3 o s rows.length c rfl
      exact ⟨.slice o s i (some c), by simp [aSlice, g2, g3, bound, natOf]; omega, rd _, by simp, fun o s n c e => by cases e; omega⟩

/-- One's own slice, seen from a greater heap. -/
theorem Held.rise {H0 H Hb : Heap} {sz : Nat} {rows : List (List V)} {v : V} (h : Held H0 sz rows v H) (hs : Abs.sub H Hb) : ∃ H0', Abs.sub H0 H0' ∧ Held H0' sz rows v Hb := by
  rcases h with ⟨rfl, rfl, rfl⟩ | ⟨o, cap, h1, rfl, h2, rfl⟩
  · exact ⟨Hb, hs, .inl ⟨rfl, rfl, rfl⟩⟩
  · have ho := hs _ _ (upd_eq _ _ _)
    refine ⟨del Hb o, fun i x hi => ?_, .inr ⟨o, cap, by simp [del], rfl, h2, ?_⟩⟩
    · have hne : i ≠ o := by rintro rfl; rw [h1] at hi; cases hi
      simp only [del, if_neg hne]
      exact hs _ _ (sub_fresh h1 _ _ hi)
    · funext i
      by_cases e : i = o
      · subst e; rw [upd_eq]; exact ho
      · rw [upd_off e]; simp [del, e]

end Go.Abs
/-
Many slices of one's own: a chain, in any order.
-/
namespace Go.Abs

structure Ent where
  sz : Nat
  rows : List (List V)
  v : V
def Chain (H0 : Heap) : List Ent → Heap → Prop
  | [], H => H = H0
  | e :: es, H => ∃ Hm, Held H0 e.sz e.rows e.v Hm ∧ Chain Hm es H
theorem Chain.sub : ∀ {es : List Ent} {H0 H : Heap}, Chain H0 es H → Abs.sub H0 H
  | [], H0, H, h => by cases h; exact Abs.sub_refl _
  | e :: es, H0, H, ⟨Hm, h1, h2⟩ => sub_trans h1.sub h2.sub
theorem Chain.append : ∀ {A B : List Ent} {H0 H : Heap}, Chain H0 (A ++ B) H ↔ ∃ Hm, Chain H0 A Hm ∧ Chain Hm B H
  | [], B, H0, H => ⟨fun h => ⟨H0, rfl, h⟩, fun ⟨Hm, h1, h2⟩ => by cases h1; exact h2⟩
  | a :: A, B, H0, H => by
    constructor
    · rintro ⟨Hm, h1, h2⟩
      obtain ⟨Hk, h3, h4⟩ := Chain.append.1 h2
      exact ⟨Hk, ⟨Hm, h1, h3⟩, h4⟩
    · rintro ⟨Hk, ⟨Hm, h1, h3⟩, h4⟩
      exact ⟨Hm, h1, Chain.append.2 ⟨Hk, h3, h4⟩⟩
theorem Chain.one {e : Ent} {H0 H : Heap} : Chain H0 [e] H ↔ Held H0 e.sz e.rows e.v H := ⟨fun ⟨Hm, h1, h2⟩ => by cases h2; exact h1, fun h => ⟨H, h, rfl⟩⟩
theorem Chain.perm {A B : List Ent} (hp : A.Perm B) : ∀ {H0 H : Heap}, Chain H0 A H → Chain H0 B H := by
  induction hp with
  | nil => intro H0 H h; exact h
  | cons e _ ih => intro H0 H ⟨Hm, h1, h2⟩; exact ⟨Hm, h1, ih h2⟩
  | swap a b l =>
    intro H0 H ⟨Hm, h1, Hk, h2, h3⟩
    obtain ⟨Hj, g1, g2⟩ := h1.swap h2
    exact ⟨Hj, g1, Hk, g2, h3⟩
  | trans _ _ ih1 ih2 => intro H0 H h; exact ih2 (ih1 h)
theorem Chain.top {A B : List Ent} {e : Ent} {H0 H : Heap} (h : Chain H0 (A ++ e :: B) H) : ∃ Hm, Chain H0 (A ++ B) Hm ∧ Held Hm e.sz e.rows e.v H := by
  have hp : (A ++ e :: B).Perm ((A ++ B) ++ [e]) := List.perm_middle.trans (List.perm_append_comm (l₁ := [e]))
  obtain ⟨Hm, h1, h2⟩ := Chain.append.1 (h.perm hp)
  exact ⟨Hm, h1, Chain.one.1 h2⟩
theorem Chain.back {A B : List Ent} {e : Ent} {H0 Hm H : Heap} (h : Chain H0 (A ++ B) Hm) (h' : Held Hm e.sz e.rows e.v H) : Chain H0 (A ++ e :: B) H := by
  have hp : ((A ++ B) ++ [e]).Perm (A ++ e :: B) := (List.perm_append_comm (l₂ := [e])).trans (List.perm_middle (l₁ := A) (l₂ := B) (a := e)).symm
  exact (Chain.append.2 ⟨Hm, h, Chain.one.2 h'⟩).perm hp
theorem Chain.push {A : List Ent} {H0 Hm H : Heap} {sz : Nat} {rows : List (List V)} {v : V} (h : Chain H0 A Hm) (h' : Held Hm sz rows v H) : Chain H0 (A ++ [⟨sz, rows, v⟩]) H := Chain.append.2 ⟨Hm, h, Chain.one.2 h'⟩
theorem Chain.rd {es : List Ent} {e : Ent} {H0 H : Heap} (h : Chain H0 es H) (he : e ∈ es) (hr : ∀ r ∈ e.rows, r.length = e.sz) : Rd H e.sz e.v e.rows := by
  obtain ⟨A, B, rfl⟩ := List.append_of_mem he
  obtain ⟨Hm, _, h2⟩ := h.top
  exact h2.rd hr
theorem Chain.rise : ∀ {es : List Ent} {H0 H Hb : Heap}, Chain H0 es H → Abs.sub H Hb → ∃ H0', Abs.sub H0 H0' ∧ Chain H0' es Hb
  | [], H0, H, Hb, h, hs => by cases h; exact ⟨Hb, hs, rfl⟩
  | e :: es, H0, H, Hb, ⟨Hm, h1, h2⟩, hs => by
    obtain ⟨Hm', g1, g2⟩ := Chain.rise h2 hs
    obtain ⟨H0', g3, g4⟩ := h1.rise g1
    exact ⟨H0', g3, Hm', g4, g2⟩
theorem Chain.shrink : ∀ {es : List Ent} {H H0 H' : Heap}, Chain H0 es H' → Abs.sub H H0 → ∃ H'', Chain H es H'' ∧ Abs.sub H'' H'
  | [], H, H0, H', h, hs => by cases h; exact ⟨H, rfl, hs⟩
  | e :: es, H, H0, H', ⟨Hm, h1, h2⟩, hs => by
    obtain ⟨Hm', g1, g2⟩ := h1.shrink hs
    obtain ⟨H'', g3, g4⟩ := Chain.shrink h2 g2
    exact ⟨H'', ⟨Hm', g1, g3⟩, g4⟩
/-- One above a chain, brought below it. -/
theorem Chain.under {es : List Ent} {H0 H H' : Heap} {sz : Nat} {rows : List (List V)} {v : V} (h : Chain H0 es H) (h' : Held H sz rows v H') : ∃ Hm, Held H0 sz rows v Hm ∧ Chain Hm es H' := by
  have := (h.push h').perm (List.perm_append_comm (l₂ := [⟨sz, rows, v⟩]))
  obtain ⟨Hm, h1, h2⟩ := this
  exact ⟨Hm, h1, h2⟩
theorem Chain.swap {A B : List Ent} {H0 H H' : Heap} (h : Chain H0 A H) (h' : Chain H B H') : ∃ Hm, Chain H0 B Hm ∧ Chain Hm A H' :=
  Chain.append.1 ((Chain.append.2 ⟨H, h, h'⟩).perm List.perm_append_comm)

end Go.Abs
/-
Deep values: how a value with slices inside is read, and how it is held as one's own.
-/
namespace Go.Abs

inductive All2 {α β : Type} (R : α → β → Prop) : List α → List β → Prop
  | nil : All2 R [] []
  | cons {a b as bs} : R a b → All2 R as bs → All2 R (a :: as) (b :: bs)
theorem All2.len {α β : Type} {R : α → β → Prop} {as : List α} {bs : List β} (h : All2 R as bs) : as.length = bs.length := by
  induction h with
  | nil => rfl
  | cons _ _ ih => simp [ih]
theorem All2.get {α β : Type} {R : α → β → Prop} {as : List α} {bs : List β} (h : All2 R as bs) : ∀ {i : Nat} (h1 : i < as.length) (h2 : i < bs.length), R as[i] bs[i] := by
  induction h with
  | nil => intro i h1; simp at h1
  | cons hr _ ih =>
    intro i h1 h2
    cases i with
    | zero => exact hr
    | succ i => exact ih (by simpa using h1) (by simpa using h2)
theorem All2.imp {α β : Type} {R S : α → β → Prop} (f : ∀ a b, R a b → S a b) {as : List α} {bs : List β} (h : All2 R as bs) : All2 S as bs := by
  induction h with
  | nil => exact .nil
  | cons hr _ ih => exact .cons (f _ _ hr) ih

/-- What reads a slice; the flag says whether it may lie outside the heap. -/
def Rb (b : Bool) (H : Heap) (sz : Nat) (v : V) (rows : List (List V)) : Prop := Rd H sz v rows ∧ (b = false → ∀ r, v ≠ .ro r)
theorem Rb.mono {b : Bool} {H H' : Heap} {sz : Nat} {v : V} {rows : List (List V)} (h : Rb b H sz v rows) (hs : Abs.sub H H') : Rb b H' sz v rows := ⟨h.1.mono hs, h.2⟩
theorem Rb.any {H : Heap} {sz : Nat} {v : V} {rows : List (List V)} (h : Rb false H sz v rows) (b : Bool) : Rb b H sz v rows := ⟨h.1, fun _ => h.2 rfl⟩
theorem Held.rb {H0 H : Heap} {sz : Nat} {rows : List (List V)} {v : V} (h : Held H0 sz rows v H) (hr : ∀ r ∈ rows, r.length = sz) : Rb false H sz v rows := ⟨(h.sl hr).1, fun _ => (h.sl hr).2.1⟩
theorem Chain.rb {es : List Ent} {e : Ent} {H0 H : Heap} (h : Chain H0 es H) (he : e ∈ es) (hr : ∀ r ∈ e.rows, r.length = e.sz) : Rb false H e.sz e.v e.rows := by
  obtain ⟨A, B, rfl⟩ := List.append_of_mem he
  obtain ⟨Hm, _, h2⟩ := h.top
  exact h2.rb hr

/-- How values of one kind lie in memory: n cells each; how they are read; how they are held (the slices inside, as entries of a chain). -/
structure Ty (α : Type) where
  n : Nat
  rd : Heap → α → List V → Prop
  own : α → List V → List Ent → Prop
  len : ∀ {H a vs}, rd H a vs → vs.length = n
  mono : ∀ {H H' a vs}, rd H a vs → Abs.sub H H' → rd H' a vs
  ok : ∀ {a vs es}, own a vs es → ∀ e ∈ es, ∀ r ∈ e.rows, r.length = e.sz
  ofOwn : ∀ {H a vs es}, own a vs es → (∀ e ∈ es, Rb false H e.sz e.v e.rows) → rd H a vs

def Dp {α : Type} (T : Ty α) (H0 : Heap) (a : α) (vs : List V) (H : Heap) : Prop := ∃ es, T.own a vs es ∧ Chain H0 es H

variable {α β : Type} {T : Ty α} {U : Ty β} {b : Bool}
theorem Dp.sub {H0 H : Heap} {a : α} {vs : List V} (h : Dp T H0 a vs H) : Abs.sub H0 H := by
  obtain ⟨es, _, h⟩ := h; exact h.sub
theorem Dp.rd {H0 H : Heap} {a : α} {vs : List V} (h : Dp T H0 a vs H) : T.rd H a vs := by
  obtain ⟨es, h1, h2⟩ := h
  exact T.ofOwn h1 fun e he => h2.rb he (T.ok h1 e he)
theorem Dp.swap {H0 H H' : Heap} {a : α} {c : β} {us vs : List V} (h : Dp T H0 a us H) (h' : Dp U H c vs H') : ∃ Hm, Dp U H0 c vs Hm ∧ Dp T Hm a us H' := by
  obtain ⟨es, h1, h2⟩ := h
  obtain ⟨fs, g1, g2⟩ := h'
  obtain ⟨Hm, a, b⟩ := h2.swap g2
  exact ⟨Hm, ⟨fs, g1, a⟩, es, h1, b⟩
theorem Dp.rise {H0 H Hb : Heap} {a : α} {vs : List V} (h : Dp T H0 a vs H) (hs : Abs.sub H Hb) : ∃ H0', Abs.sub H0 H0' ∧ Dp T H0' a vs Hb := by
  obtain ⟨es, h1, h2⟩ := h
  obtain ⟨H0', g1, g2⟩ := h2.rise hs
  exact ⟨H0', g1, es, h1, g2⟩
theorem Dp.shrink {H0 H1 H : Heap} {a : α} {vs : List V} (h : Dp T H1 a vs H) (hs : Abs.sub H0 H1) : ∃ H', Dp T H0 a vs H' ∧ Abs.sub H' H := by
  obtain ⟨es, h1, h2⟩ := h
  obtain ⟨H', g1, g2⟩ := h2.shrink hs
  exact ⟨H', ⟨es, h1, g1⟩, g2⟩
theorem Dp.heldUnder {H0 H H' : Heap} {a : α} {vs : List V} {sz : Nat} {rows : List (List V)} {v : V} (h : Dp T H0 a vs H) (h' : Held H sz rows v H') : ∃ Hm, Held H0 sz rows v Hm ∧ Dp T Hm a vs H' := by
  obtain ⟨es, h1, h2⟩ := h
  obtain ⟨Hm, g1, g2⟩ := h2.under h'
  exact ⟨Hm, g1, es, h1, g2⟩
theorem Dp.heldOver {H0 H H' : Heap} {a : α} {vs : List V} {sz : Nat} {rows : List (List V)} {v : V} (h : Held H0 sz rows v H) (h' : Dp T H a vs H') : ∃ Hm, Dp T H0 a vs Hm ∧ Held Hm sz rows v H' := by
  obtain ⟨es, h1, h2⟩ := h'
  obtain ⟨Hm, g1, g2⟩ := (Chain.one (e := ⟨sz, rows, v⟩)).2 h |>.swap h2
  exact ⟨Hm, ⟨es, h1, g1⟩, Chain.one.1 g2⟩
/-- What is deep and one's own, handed back over what stood before. -/
theorem Ret.dp {R : V → Heap → Prop} {H Ha H' : Heap} {a : α} {vs : List V} {f : List V → V} (h : Dp T Ha a vs H') (hs : Abs.sub H Ha) (hk : ∀ us H'', Dp T H a us H'' → R (f us) H'') : Ret R (f vs) H' := by
  obtain ⟨H'', h1, h2⟩ := h.shrink hs
  exact Ret.shr (hk _ _ h1) rfl h2

/-! #### slices of deep values -/
inductive OwnL (T : Ty α) : List α → List (List V) → List Ent → Prop
  | nil : OwnL T [] [] []
  | cons {a r es as rs ess} : T.own a r es → OwnL T as rs ess → OwnL T (a :: as) (r :: rs) (es ++ ess)
theorem OwnL.len {as : List α} {rs : List (List V)} {es : List Ent} (h : OwnL T as rs es) : as.length = rs.length := by
  induction h with
  | nil => rfl
  | cons _ _ ih => simp [ih]
theorem OwnL.ok {as : List α} {rs : List (List V)} {es : List Ent} (h : OwnL T as rs es) : ∀ e ∈ es, ∀ r ∈ e.rows, r.length = e.sz := by
  induction h with
  | nil => intro e he; simp at he
  | cons h1 _ ih =>
    intro e he
    rcases List.mem_append.1 he with he | he
    · exact T.ok h1 e he
    · exact ih e he
theorem OwnL.all {as : List α} {rs : List (List V)} {es : List Ent} {H : Heap} (h : OwnL T as rs es) (hr : ∀ e ∈ es, Rb false H e.sz e.v e.rows) : All2 (T.rd H) as rs := by
  induction h with
  | nil => exact .nil
  | cons h1 _ ih => exact .cons (T.ofOwn h1 fun e he => hr e (List.mem_append_left _ he)) (ih fun e he => hr e (List.mem_append_right _ he))
theorem OwnL.append {as bs : List α} {rs ss : List (List V)} {es fs : List Ent} (h : OwnL T as rs es) (h' : OwnL T bs ss fs) : OwnL T (as ++ bs) (rs ++ ss) (es ++ fs) := by
  induction h with
  | nil => exact h'
  | cons h1 _ ih => rw [List.append_assoc]; exact .cons h1 ih
theorem OwnL.one {a : α} {r : List V} {es : List Ent} (h : T.own a r es) : OwnL T [a] [r] es := by
  have := OwnL.cons h OwnL.nil
  simpa using this
theorem OwnL.cut {as : List α} {rs : List (List V)} {es : List Ent} (h : OwnL T as rs es) : ∀ {i : Nat} (hi : i < as.length), ∃ r A e B, rs[i]? = some r ∧ OwnL T (as.take i) (rs.take i) A ∧ T.own as[i] r e ∧ OwnL T (as.drop (i + 1)) (rs.drop (i + 1)) B ∧ es = A ++ e ++ B := by
  induction h with
  | nil => intro i hi; simp at hi
  | @cons a r es as rs ess h1 h2 ih =>
    intro i hi
    cases i with
    | zero => exact ⟨r, [], es, ess, rfl, .nil, h1, by simpa using h2, by simp⟩
    | succ i =>
      obtain ⟨r', A, e, B, g1, g2, g3, g4, rfl⟩ := ih (i := i) (by simpa using hi)
      exact ⟨r', es ++ A, e, B, by simpa using g1, .cons h1 g2, g3, by simpa using g4, by simp⟩
theorem OwnL.put {as : List α} {rs : List (List V)} {A e B : List Ent} {i : Nat} {a : α} {r : List V} (hi : i < as.length) (hl : as.length = rs.length) (h1 : OwnL T (as.take i) (rs.take i) A) (h2 : T.own a r e) (h3 : OwnL T (as.drop (i + 1)) (rs.drop (i + 1)) B) : OwnL T (as.set i a) (rs.set i r) (A ++ e ++ B) := by
  have e1 : as.set i a = as.take i ++ [a] ++ as.drop (i + 1) := by rw [List.set_eq_take_append_cons_drop, if_pos hi]; simp
  have e2 : rs.set i r = rs.take i ++ [r] ++ rs.drop (i + 1) := by rw [List.set_eq_take_append_cons_drop, if_pos (by omega)]; simp
  rw [e1, e2]
  exact (h1.append (.one h2)).append h3

def sliceT (b : Bool) (T : Ty α) : Ty (List α) where
  n := 1
  rd H as vs := ∃ w rows, vs = [w] ∧ Rb b H T.n w rows ∧ All2 (T.rd H) as rows
  own as vs es := ∃ w rows ess, vs = [w] ∧ (∀ r ∈ rows, r.length = T.n) ∧ OwnL T as rows ess ∧ es = ess ++ [⟨T.n, rows, w⟩]
  len := by rintro H a vs ⟨w, rows, rfl, _⟩; rfl
  mono := by rintro H H' a vs ⟨w, rows, rfl, h1, h2⟩ hs; exact ⟨w, rows, rfl, h1.mono hs, h2.imp fun _ _ h => T.mono h hs⟩
  ok := by
    rintro a vs es ⟨w, rows, ess, rfl, h0, h1, rfl⟩ e he r hr
    rcases List.mem_append.1 he with he | he
    · exact h1.ok e he r hr
    · simp at he; subst he; exact h0 r hr
  ofOwn := by
    rintro H a vs es ⟨w, rows, ess, rfl, h0, h1, rfl⟩ h
    exact ⟨w, rows, rfl, (h ⟨T.n, rows, w⟩ (by simp)).any b, h1.all fun e he => h e (List.mem_append_left _ he)⟩

theorem rdS_len {H : Heap} {as : List α} {w : V} (h : (sliceT b T).rd H as [w]) : lenOf w = some as.length := by
  obtain ⟨w', rows, e, h1, h2⟩ := h
  cases e
  rw [h1.1.len, h2.len]
theorem rdS_cell {H : Heap} {as : List α} {w : V} (h : (sliceT b T).rd H as [w]) : cellsOf w = [w] ∧ cellOk w = true ∧ notAny w = true := by
  obtain ⟨w', rows, e, h1, h2⟩ := h
  cases e
  exact h1.1.cell
theorem rdS_idx {H : Heap} {as : List α} {w : V} {k : IntKind} {i : Int} {K : V → Prop} (h : (sliceT b T).rd H as [w]) (h0 : 0 ≤ i) (hi : i.toNat < as.length) (hk : ∀ p row, Pt H p row 0 → T.rd H as[i.toNat] row → K p) : bnd (aIndex H T.n w (.int k i)) K := by
  obtain ⟨w', rows, e, h1, h2⟩ := h
  cases e
  have := h2.len
  have hi' : i.toNat < rows.length := by omega
  refine h1.1.idx h0 (by omega) fun p hp => hk p _ hp ?_
  have := h2.get hi hi'
  simpa [hi'] using this
theorem rdS_at {H Hb : Heap} {as : List α} {w : V} {k : IntKind} {i : Int} {K : V → Prop} (h : (sliceT b T).rd H as [w]) (hs : Abs.sub H Hb) (h0 : 0 ≤ i) (hi : i.toNat < as.length) (hk : ∀ p row, Pt Hb p row 0 → T.rd H as[i.toNat] row → K p) : bnd (aIndex Hb T.n w (.int k i)) K := by
  obtain ⟨w', rows, e, h1, h2⟩ := h
  cases e
  have := h2.len
  have hi' : i.toNat < rows.length := by omega
  refine (h1.1.mono hs).idx h0 (by omega) fun p hp => hk p _ hp ?_
  have := h2.get hi hi'
  simpa [hi'] using this
theorem dpS_cell {H0 H : Heap} {as : List α} {w : V} (h : Dp (sliceT b T) H0 as [w] H) : cellsOf w = [w] ∧ cellOk w = true ∧ notAny w = true := rdS_cell h.rd
theorem dpS_nil {H : Heap} : Dp (sliceT b T) H [] [.nils] H := ⟨[⟨T.n, [], .nils⟩], ⟨.nils, [], [], rfl, by simp, .nil, rfl⟩, H, Held.nil, rfl⟩
theorem dpS_new {H : Heap} {o : Nat} (ho : H o = none) : Dp (sliceT b T) H [] [.slice o 0 0 (some 0)] (upd H o ⟨T.n, []⟩) := ⟨[⟨T.n, [], .slice o 0 0 (some 0)⟩], ⟨_, [], [], rfl, by simp, .nil, rfl⟩, Chain.one.2 (Held.new ho)⟩
theorem dpS_fill {H : Heap} {o n : Nat} {as : List α} {rows : List (List V)} (ho : H o = none) (hn : n = rows.length) (hw : ∀ r ∈ rows, r.length = T.n) (hr : OwnL T as rows []) : Dp (sliceT b T) H as [.slice o 0 n (some n)] (upd H o ⟨T.n, rows⟩) :=
  ⟨[⟨T.n, rows, .slice o 0 n (some n)⟩], ⟨_, rows, [], rfl, hw, hr, rfl⟩, Chain.one.2 (Held.full ho hn)⟩

/-- A deep element is appended. -/
theorem dpS_app {H0 H H1 Hb : Heap} {as : List α} {w : V} {a : α} {r : List V} {by_ : Nat} {K : V → Heap → Prop} (h : Dp (sliceT b T) H0 as [w] H) (ha : Dp T H a r H1) (hs : Abs.sub H1 Hb) (hb : (as.length + 1) * by_ ≤ 140737488355328)
    (hk : ∀ v' H' H'', Dp (sliceT b T) H0 (as ++ [a]) [v'] H'' → Abs.sub H'' H' → K v' H') : appendK Hb T.n by_ w [r] K := by
  obtain ⟨es, ⟨w', rows, ess, e, h0, h1, rfl⟩, h2⟩ := h
  cases e
  obtain ⟨fs, g1, g2⟩ := ha
  have hl := h1.len
  have hc : Chain H0 ((ess ++ ⟨T.n, rows, w⟩ :: fs)) H1 := by
    have := Chain.append.2 ⟨H, h2, g2⟩
    simpa using this
  obtain ⟨Hm, c1, c2⟩ := hc.top
  have hr : r.length = T.n := T.len (T.ofOwn (H := H1) g1 fun e he => g2.rb he (T.ok g1 e he))
  refine c2.append hs (by simp) (by simpa [← hl] using hb) fun v' H' H'' q1 q2 => ?_
  refine hk v' H' H'' ⟨_, ⟨v', rows ++ [r], ess ++ fs, rfl, ?_, h1.append (.one g1), rfl⟩, ?_⟩ q2
  · intro x hx
    rcases List.mem_append.1 hx with hx | hx
    · exact h0 x hx
    · simp at hx; subst hx; exact hr
  · exact c1.push q1
/-- An element, opened: the slices inside it on top. -/
theorem dpS_open {H0 H : Heap} {as : List α} {w : V} {i : Nat} (h : Dp (sliceT b T) H0 as [w] H) (hi : i < as.length) :
    ∃ rows A e B, rows.length = as.length ∧ (∀ r ∈ rows, r.length = T.n) ∧ OwnL T (as.take i) (rows.take i) A ∧ (∃ r, rows[i]? = some r ∧ T.own as[i] r e) ∧ OwnL T (as.drop (i + 1)) (rows.drop (i + 1)) B ∧ Chain H0 (A ++ e ++ B ++ [⟨T.n, rows, w⟩]) H := by
  obtain ⟨es, ⟨w', rows, ess, e, h0, h1, rfl⟩, h2⟩ := h
  cases e
  obtain ⟨r, A, e, B, g1, g2, g3, g4, rfl⟩ := h1.cut hi
  exact ⟨rows, A, e, B, h1.len.symm, h0, g2, ⟨r, g1, g3⟩, g4, h2⟩
theorem chain_drop : ∀ {A e B : List Ent} {H0 H : Heap}, Chain H0 (A ++ e ++ B) H → ∃ H', Chain H0 (A ++ B) H' ∧ Abs.sub H' H
  | A, [], B, H0, H, h => ⟨H, by simpa using h, Abs.sub_refl _⟩
  | A, x :: e, B, H0, H, h => by
    obtain ⟨Hm, h1, h2⟩ := Chain.top (A := A) (B := e ++ B) (by simpa using h)
    obtain ⟨H', h3, h4⟩ := chain_drop (A := A) (e := e) (B := B) (by simpa using h1)
    exact ⟨H', h3, sub_trans h4 h2.sub⟩
/-- An element is written over with another one. -/
theorem dpS_set {H0 H H1 Hb : Heap} {as : List α} {w : V} {a : α} {r : List V} {k : IntKind} {i : Int} {K : V → Prop} (h : Dp (sliceT b T) H0 as [w] H) (ha : Dp T H a r H1) (hs : Abs.sub H1 Hb) (h0 : 0 ≤ i) (hi : i.toNat < as.length)
    (hk : ∀ p, (∀ (v : V) (K' : Heap → Prop), (∀ row, row.length = T.n → stz T.n row 0 v = some r) → (∀ H' H'', Dp (sliceT b T) H0 (as.set i.toNat a) [w] H'' → Abs.sub H'' H' → K' H') → bnd (aSt T.n Hb p v) K') → K p) : bnd (aIndex Hb T.n w (.int k i)) K := by
  obtain ⟨rows, A, e, B, hl, hw, o1, ⟨r0, o2, o3⟩, o4, hc⟩ := dpS_open h hi
  obtain ⟨fs, g1, g2⟩ := ha
  have hc2 : Chain H0 (A ++ e ++ (B ++ [⟨T.n, rows, w⟩] ++ fs)) H1 := by
    have := Chain.append.2 ⟨H, hc, g2⟩
    simpa using this
  obtain ⟨H', d1, d2⟩ := chain_drop hc2
  have d3 : Chain H0 ((A ++ B) ++ ⟨T.n, rows, w⟩ :: fs) H' := by simpa using d1
  obtain ⟨Hm, c1, c2⟩ := d3.top
  have c2 : Held Hm T.n rows w H' := c2
  refine c2.pt (sub_trans d2 hs) h0 (by omega) fun p hp => hk p fun v K' hv hK => ?_
  have hr : r.length = T.n := T.len (T.ofOwn (H := H1) g1 fun e he => g2.rb he (T.ok g1 e he))
  have hir : i.toNat < rows.length := by omega
  refine hp.st (row' := r) (hv _ ?_) fun H' H'' q1 q2 => ?_
  · simp only [List.getD_eq_getElem?_getD, List.getElem?_eq_getElem hir, Option.getD_some]
    exact hw _ (List.getElem_mem hir)
  · refine hK H' H'' ⟨_, ⟨w, rows.set i.toNat r, A ++ fs ++ B, rfl, ?_, OwnL.put hi hl.symm o1 g1 o4, rfl⟩, ?_⟩ q2
    · intro x hx
      rcases List.mem_or_eq_of_mem_set hx with hx | rfl
      · exact hw _ hx
      · exact hr
    · have := c1.push q1
      refine this.perm ?_
      refine List.Perm.append_right _ ?_
      rw [List.append_assoc, List.append_assoc]
      exact List.Perm.append_left _ List.perm_append_comm

theorem perm_mid {A e B O : List Ent} : (A ++ e ++ B ++ O).Perm ((A ++ B ++ O) ++ e) := by
  have h : (e ++ (B ++ O)).Perm ((B ++ O) ++ e) := List.perm_append_comm
  have := h.append_left A
  simpa using this
/-- An element, as a part that may change: what it reads, and the way back. -/
theorem dpS_elem {H0 H : Heap} {as : List α} {w : V} {i : Nat} (h : Dp (sliceT b T) H0 as [w] H) (hi : i < as.length) :
    ∃ rows r Hm, Rd H T.n w rows ∧ rows.length = as.length ∧ rows[i]? = some r ∧ Dp T Hm as[i] r H ∧ Abs.sub H0 Hm ∧ ∀ a' Hx, Dp T Hm a' r Hx → Dp (sliceT b T) H0 (as.set i a') [w] Hx := by
  obtain ⟨rows, A, e, B, hl, hw, o1, ⟨r, o2, o3⟩, o4, hc⟩ := dpS_open h hi
  have hrd : Rd H T.n w rows := hc.rd (e := ⟨T.n, rows, w⟩) (by simp) hw
  obtain ⟨Hm, c1, c2⟩ := Chain.append.1 (hc.perm perm_mid)
  refine ⟨rows, r, Hm, hrd, hl, o2, ⟨e, o3, c2⟩, c1.sub, fun a' Hx hx => ?_⟩
  obtain ⟨e', g1, g2⟩ := hx
  have hir : i < rows.length := by omega
  have hset : rows.set i r = rows := by
    have : rows[i] = r := by simpa [hir] using o2
    rw [← this]; simp
  refine ⟨_, ⟨w, rows, A ++ e' ++ B, rfl, hw, ?_, rfl⟩, ?_⟩
  · have := OwnL.put hi hl.symm o1 g1 o4
    rwa [hset] at this
  · exact (Chain.append.2 ⟨Hm, c1, g2⟩).perm perm_mid.symm

/-- A place in an element of one's own. -/
def ElPt (b : Bool) (T : Ty α) (H0 : Heap) (as : List α) (w : V) (Hb : Heap) (p : V) (i c : Nat) (r : List V) : Prop :=
  ∃ rows ess Hm, (∀ x ∈ rows, x.length = T.n) ∧ OwnL T as rows ess ∧ Chain H0 ess Hm ∧ OwnPt Hm T.n rows w Hb p i c ∧ rows[i]? = some r
theorem dpS_pt {H0 H Hb : Heap} {as : List α} {w : V} {k : IntKind} {i : Int} {K : V → Prop} (h : Dp (sliceT b T) H0 as [w] H) (hs : Abs.sub H Hb) (h0 : 0 ≤ i) (hi : i.toNat < as.length)
    (hk : ∀ p r, T.rd H as[i.toNat] r → ElPt b T H0 as w Hb p i.toNat 0 r → K p) : bnd (aIndex Hb T.n w (.int k i)) K := by
  have hrd := h.rd
  obtain ⟨es, ⟨w', rows, ess, e, h1, h2, rfl⟩, h3⟩ := h
  cases e
  have hl := h2.len
  obtain ⟨Hm, c1, c2⟩ := Chain.append.1 h3
  have c2 : Held Hm T.n rows w H := Chain.one.1 c2
  have hir : i.toNat < rows.length := by omega
  have hall : All2 (T.rd H) as rows := h2.all fun e he => h3.rb (List.mem_append_left _ he) (h2.ok e he)
  refine c2.pt hs h0 (by omega) fun p hp => hk p rows[i.toNat] (hall.get hi hir) ⟨rows, ess, Hm, h1, h2, c1, hp, by simp [hir]⟩
theorem ElPt.fld {H0 Hb : Heap} {as : List α} {w p : V} {i c off : Nat} {r : List V} {K : V → Prop} (h : ElPt b T H0 as w Hb p i c r) (hk : ∀ q, ElPt b T H0 as w Hb q i (c + off) r → K q) : bnd (aField off p) K := by
  obtain ⟨rows, ess, Hm, h1, h2, h3, h4, h5⟩ := h
  exact h4.fld fun q hq => hk q ⟨rows, ess, Hm, h1, h2, h3, hq, h5⟩
theorem ElPt.ld {H0 Hb : Heap} {as : List α} {w p : V} {i c : Nat} {r : List V} (h : ElPt b T H0 as w Hb p i c r) (f : Bool) (m : Nat) : aLd f m Hb p = partOf f m r c := by
  obtain ⟨rows, ess, Hm, h1, h2, h3, h4, h5⟩ := h
  rw [h4.ld, List.getD_eq_getElem?_getD, h5]; rfl
theorem ElPt.st {H0 Hb : Heap} {as : List α} {w p v : V} {i c m : Nat} {r r' : List V} {a' : α} {K : Heap → Prop} (h : ElPt b T H0 as w Hb p i c r) (hi : i < as.length) (hz : stz m r c v = some r') (hr : r'.length = T.n) (ho : ∀ es, T.own as[i] r es → T.own a' r' es)
    (hk : ∀ H' H'', Dp (sliceT b T) H0 (as.set i a') [w] H'' → Abs.sub H'' H' → K H') : bnd (aSt m Hb p v) K := by
  obtain ⟨rows, ess, Hm, h1, h2, h3, h4, h5⟩ := h
  refine h4.st (row' := r') (by rw [List.getD_eq_getElem?_getD, h5]; exact hz) fun H' H'' q1 q2 => hk H' H'' ?_ q2
  obtain ⟨r0, A, e, B, g1, g2, g3, g4, rfl⟩ := h2.cut hi
  have : r0 = r := by rw [h5] at g1; cases g1; rfl
  subst this
  refine ⟨_, ⟨w, rows.set i r', A ++ e ++ B, rfl, ?_, OwnL.put hi h2.len g2 (ho _ g3) g4, rfl⟩, h3.push q1⟩
  intro x hx
  rcases List.mem_or_eq_of_mem_set hx with hx | rfl
  · exact h1 _ hx
  · exact hr

/-- A slice of fixed length that is filled from the left. -/
def Fil (T : Ty α) (H0 : Heap) (as : List α) (N : Nat) (z : List V) (o : Nat) (H : Heap) : Prop :=
  ∃ rows ess Hb, OwnL T as rows ess ∧ (∀ r ∈ rows, r.length = T.n) ∧ as.length ≤ N ∧ Chain H0 ess Hb ∧ Held Hb T.n (rows ++ List.replicate (N - as.length) z) (.slice o 0 N (some N)) H
theorem Fil.sub {H0 H : Heap} {as : List α} {N o : Nat} {z : List V} (h : Fil T H0 as N z o H) : Abs.sub H0 H := by
  obtain ⟨rows, ess, Hb, h1, h2, h3, h4, h5⟩ := h
  exact sub_trans h4.sub h5.sub
theorem Fil.start {H0 : Heap} {N o : Nat} {z : List V} (h : H0 o = none) : Fil T H0 [] N z o (upd H0 o ⟨T.n, List.replicate N z⟩) :=
  ⟨[], [], H0, .nil, by simp, by simp, rfl, by simpa using Held.full (rows := List.replicate N z) h (by simp)⟩
theorem Fil.done {H0 H : Heap} {as : List α} {N o : Nat} {z : List V} (h : Fil T H0 as N z o H) (hn : as.length = N) : Dp (sliceT b T) H0 as [.slice o 0 N (some N)] H := by
  obtain ⟨rows, ess, Hb, h1, h2, h3, h4, h5⟩ := h
  subst hn
  simp at h5
  exact ⟨_, ⟨_, rows, ess, rfl, h2, h1, rfl⟩, h4.push h5⟩
theorem Fil.step {H0 H H1 Hb : Heap} {as : List α} {N o : Nat} {z : List V} {a : α} {r : List V} {k : IntKind} {j : Nat} {K : V → Prop} (h : Fil T H0 as N z o H) (ha : Dp T H a r H1) (hj : as.length = j) (hn : j < N) (hs : Abs.sub H1 Hb)
    (hk : ∀ p, (∀ (v : V) (K' : Heap → Prop), stz T.n z 0 v = some r → (∀ H' H'', Fil T H0 (as ++ [a]) N z o H'' → Abs.sub H'' H' → K' H') → bnd (aSt T.n Hb p v) K') → K p) : bnd (aIndex Hb T.n (.slice o 0 N (some N)) (.int k (j : Nat))) K := by
  subst hj
  obtain ⟨rows, ess, Hm, h1, h2, h3, h4, h5⟩ := h
  obtain ⟨fs, g1, g2⟩ := ha
  have hl := h1.len
  have hr : r.length = T.n := T.len (T.ofOwn (H := H1) g1 fun e he => g2.rb he (T.ok g1 e he))
  obtain ⟨Hm', q1, q2⟩ := Chain.swap ((Chain.one (e := ⟨T.n, rows ++ List.replicate (N - as.length) z, .slice o 0 N (some N)⟩)).2 h5) g2
  have q2 : Held Hm' T.n (rows ++ List.replicate (N - as.length) z) (.slice o 0 N (some N)) H1 := Chain.one.1 q2
  refine q2.pt hs (by omega) (by simp; omega) fun p hp => hk p fun v K' hv hK => ?_
  have hg : (rows ++ List.replicate (N - as.length) z).getD (as.length : Int).toNat [] = z := by
    have h0 : 0 < N - as.length := by omega
    rw [List.getD_eq_getElem?_getD, List.getElem?_append_right (by simp; omega)]
    have hz0 : (as.length : Int).toNat - rows.length = 0 := by omega
    rw [hz0, List.getElem?_replicate, if_pos h0]
    rfl
  refine hp.st (row' := r) (by rw [hg]; exact hv) fun H' H'' w1 w2 => hK H' H'' ⟨rows ++ [r], ess ++ fs, Hm', h1.append (.one g1), ?_, by simp; omega, Chain.append.2 ⟨Hm, h4, q1⟩, ?_⟩ w2
  · intro x hx
    rcases List.mem_append.1 hx with hx | hx
    · exact h2 x hx
    · simp at hx; subst hx; exact hr
  · have e : (rows ++ List.replicate (N - as.length) z).set (as.length : Int).toNat r = (rows ++ [r]) ++ List.replicate (N - (as ++ [a]).length) z := by
      rw [List.set_append_right _ _ (by simp; omega)]
      simp [hl]
      rw [show N - rows.length = (N - (rows.length + 1)) + 1 by omega, List.replicate_succ]
      simp
    rw [e] at w1; exact w1

/-! #### sums over a list -/
def sumF (f : α → Nat) (as : List α) : Nat := (as.map f).sum
theorem sumF_nil (f : α → Nat) : sumF f [] = 0 := rfl
theorem sumF_succ {f : α → Nat} {as : List α} {i : Nat} (h : i < as.length) : sumF f (as.take (i + 1)) = sumF f (as.take i) + f as[i] := by
  unfold sumF
  rw [List.take_succ_eq_append_getElem h, List.map_append, List.sum_append]
  simp only [List.map_cons, List.map_nil, List.sum_cons, List.sum_nil, Nat.add_zero]
theorem sumF_le {f : α → Nat} {as : List α} (i : Nat) : sumF f (as.take i) ≤ sumF f as := by
  have : sumF f as = sumF f (as.take i) + sumF f (as.drop i) := by
    unfold sumF
    rw [← List.sum_append, ← List.map_append, List.take_append_drop]
  omega
theorem le_sumF {f : α → Nat} {as : List α} {i : Nat} (h : i < as.length) : f as[i] ≤ sumF f as := by
  have := sumF_succ (f := f) h
  have := sumF_le (f := f) (as := as) (i + 1)
  omega

/-! #### flat values -/
def flatT (n : Nat) (en : α → List V) (hn : ∀ a, (en a).length = n) : Ty α where
  n := n
  rd _ a vs := vs = en a
  own a vs es := vs = en a ∧ es = []
  len := by rintro H a vs rfl; exact hn a
  mono := by rintro H H' a vs h _; exact h
  ok := by rintro a vs es ⟨_, rfl⟩ e he; simp at he
  ofOwn := by rintro H a vs es ⟨rfl, _⟩ _; rfl
theorem flat_all {n : Nat} {en : α → List V} {hn : ∀ a, (en a).length = n} {H : Heap} {as : List α} {rows : List (List V)} (h : All2 ((flatT n en hn).rd H) as rows) : rows = as.map en := by
  induction h with
  | nil => rfl
  | cons h1 _ ih => simp only [List.map_cons]; rw [ih]; congr 1
theorem flat_all' {n : Nat} {en : α → List V} {hn : ∀ a, (en a).length = n} {H : Heap} : ∀ (as : List α), All2 ((flatT n en hn).rd H) as (as.map en)
  | [] => .nil
  | _ :: as => .cons rfl (flat_all' as)
theorem flat_own {n : Nat} {en : α → List V} {hn : ∀ a, (en a).length = n} {as : List α} {rows : List (List V)} {es : List Ent} (h : OwnL (flatT n en hn) as rows es) : rows = as.map en ∧ es = [] := by
  induction h with
  | nil => exact ⟨rfl, rfl⟩
  | cons h1 _ ih => obtain ⟨rfl, rfl⟩ := h1; obtain ⟨rfl, rfl⟩ := ih; exact ⟨rfl, rfl⟩
theorem flat_own' {n : Nat} {en : α → List V} {hn : ∀ a, (en a).length = n} : ∀ (as : List α), OwnL (flatT n en hn) as (as.map en) []
  | [] => .nil
  | a :: as => OwnL.cons (es := []) (T := flatT n en hn) ⟨rfl, rfl⟩ (flat_own' as)
theorem flat_rd {n : Nat} {en : α → List V} {hn : ∀ a, (en a).length = n} {H : Heap} {as : List α} {w : V} : (sliceT b (flatT n en hn)).rd H as [w] ↔ Rb b H n w (as.map en) := by
  constructor
  · rintro ⟨w', rows, e, h1, h2⟩
    cases e
    rw [← flat_all h2]; exact h1
  · intro h
    exact ⟨w, _, rfl, h, flat_all' as⟩
theorem flat_dp {n : Nat} {en : α → List V} {hn : ∀ a, (en a).length = n} {H0 H : Heap} {as : List α} {w : V} : Dp (sliceT b (flatT n en hn)) H0 as [w] H ↔ Held H0 n (as.map en) w H := by
  constructor
  · rintro ⟨es, ⟨w', rows, ess, e, h0, h1, rfl⟩, h2⟩
    cases e
    obtain ⟨rfl, rfl⟩ := flat_own h1
    exact Chain.one.1 h2
  · intro h
    exact ⟨_, ⟨w, as.map en, [], rfl, by simp; intro a _; exact hn a, flat_own' as, rfl⟩, Chain.one.2 h⟩

end Go.Abs
/-
A slice of unknown capacity, opened: its spare cells as rows of which nothing is known; and closed again.
-/
namespace Go.Abs
variable {P : Program}

theorem RelH.reob {w0 : World} {base : Nat} {ι : Nat → Option Place} {G : Heap} {w : World} (h : RelH w0 base ι G w) {o : Nat} {ob ob' : Ob} (ho : G o = some ob)
    (hr : ∀ p cells, ι o = some p → p.w = ob.w → cells.size = p.size → RowsRel w0 base ι ob cells → ob'.w = ob.w ∧ RowsRel w0 base ι ob' cells) : RelH w0 base ι (upd G o ob') w := by
  refine ⟨fun i x hx => ?_, fun o1 o2 b1 b2 p1 p2 g1 g2 e1 e2 he => ?_, h.low, h.base_le, ?_⟩
  · by_cases hi : i = o
    · subst hi
      rw [upd_same] at hx; cases hx
      obtain ⟨p, cells, ty, h1, h2, h3, h4, h5, h6⟩ := h.get ho
      obtain ⟨q1, q2⟩ := hr p cells h1 h2 h5 h6
      exact ⟨p, cells, ty, h1, by rw [h2, q1], h3, h4, h5, by rw [← h5]; exact q2.1, q2.2⟩
    · rw [upd_ne _ _ hi] at hx
      exact h.obj i x hx
  · have key : ∀ i b, upd G o ob' i = some b → ∃ b', G i = some b' := fun i b hb => by
      by_cases hi : i = o
      · subst hi; exact ⟨_, ho⟩
      · rw [upd_ne _ _ hi] at hb; exact ⟨_, hb⟩
    obtain ⟨c1, d1⟩ := key _ _ g1
    obtain ⟨c2, d2⟩ := key _ _ g2
    exact h.inj o1 o2 c1 c2 p1 p2 d1 d2 e1 e2 he
  · obtain ⟨N, hN⟩ := h.fin
    refine ⟨N, fun i hi => ?_⟩
    have := hN i hi
    have hne : i ≠ o := by rintro rfl; rw [this.2] at ho; cases ho
    exact ⟨this.1, by rw [upd_ne _ _ hne]; exact this.2⟩

theorem sub_both {H G : Heap} (o : Nat) (x : Ob) (h : sub H G) : sub (upd H o x) (upd G o x) := fun i y hi => by
  unfold upd at *
  split
  · rename_i e; rw [if_pos e] at hi; exact hi
  · rename_i e; rw [if_neg e] at hi; exact h _ _ hi

/-- The first argument, opened. -/
theorem ACalls.opened {f : FuncId} {o n sz : Nat} {rows : List (List V)} {args : List V} {H : Heap} {R : V → Heap → Prop} (ho : H o = some ⟨sz, rows⟩) (hn : rows.length = n)
    (h : ∀ c ex, (∀ r ∈ ex, r.length = sz) → n + ex.length = c → ACalls P f (.slice o 0 n (some c) :: args) (upd H o ⟨sz, rows ++ ex⟩) R) : ACalls P f (.slice o 0 n none :: args) H R := by
  refine ⟨fun w0 base F ι G w cargs hrel hsub hF hdis hargs => ?_⟩
  obtain ⟨cv, cvs, rfl, hv, hvs⟩ := hargs.cases_cons
  have hG := hsub _ _ ho
  have hFo := hdis _ _ ho
  have main : ∀ c ex, (∀ r ∈ ex, r.length = sz) → n + ex.length = c → RelV w0 base ι (.slice o 0 n (some c)) cv → RelH w0 base ι (upd G o ⟨sz, rows ++ ex⟩) w →
      Calls P f (cv :: cvs).toArray w fun e w' => ∃ v cv ι' G' H', e = .returned cv ∧ RelV w0 base ι' v cv ∧ ile ι ι' ∧ RelH w0 base ι' G' w' ∧ sub H' G' ∧ sub F G' ∧ disj H' F ∧ R v H' := fun c ex h1 h2 h3 h4 => by
    refine (h c ex h1 h2).run w0 base F ι _ w _ h4 (sub_both _ _ hsub) (fun i x hi => ?_) (fun i x hi => ?_) (RelL.cons h3 hvs)
    · have hne : i ≠ o := by rintro rfl; rw [hFo] at hi; cases hi
      rw [upd_ne _ _ hne]; exact hF _ _ hi
    · by_cases hio : i = o
      · subst hio; exact hFo
      · rw [upd_ne _ _ hio] at hi; exact hdis _ _ hi
  cases hv with
  | @slice _ _ _ _ p c hp hnc hc hk =>
    refine main c (List.replicate (c - n) (List.replicate sz .any)) (fun r hr => ?_) (by simp; omega) (.slice hp hnc hc (by intro k hk; cases hk; rfl)) (hrel.reob hG fun p' cells q1 q2 q3 q4 => ⟨rfl, ?_⟩)
    · rw [List.eq_of_mem_replicate hr]; simp
    · rw [hp] at q1; cases q1
      have hfit : c * sz ≤ cells.size := by
        rw [q3]; simp only [Nat.zero_add] at hc; rw [q2] at hc; exact hc
      refine ⟨?_, fun r row hr => ?_, q4.2.2⟩
      · simp only [List.length_append, List.length_replicate]
        have : rows.length + (c - n) = c := by omega
        rw [this]; exact hfit
      · by_cases hlt : r < rows.length
        · rw [List.getElem?_append_left hlt] at hr
          exact q4.2.1 r row hr
        · rw [List.getElem?_append_right (by omega)] at hr
          have hr' := hr
          rw [List.getElem?_replicate] at hr'
          split at hr'
          · rename_i hrc
            cases hr'
            refine ⟨by simp, fun j v hj => ?_⟩
            have hj' := hj
            rw [List.getElem?_replicate] at hj'
            split at hj'
            · rename_i hjs
              cases hj'
              have hlt2 : r * sz + j < cells.size := by
                have := Nat.mul_le_mul_right sz (show r + 1 ≤ c by omega)
                rw [Nat.add_mul] at this; omega
              exact ⟨cells[r * sz + j], by simp [hlt2], .any _, .inr ⟨rfl, q4.2.2 (r * sz + j) _ (by simp [hlt2])⟩⟩
            · cases hj'
          · cases hr'
  | @sliceE _ _ _ p a hp hk =>
    refine main 0 [] (by simp) (by simp) (.sliceE a hp (by intro k hk; cases hk; rfl)) (hrel.reob hG fun p' cells q1 q2 q3 q4 => ⟨rfl, by simpa using q4⟩)

/-- A result, closed. -/
theorem ACalls.closed {f : FuncId} {args : List V} {H : Heap} {R R' : V → Heap → Prop} (h : ACalls P f args H R)
    (hk : ∀ v H', R v H' → R' v H' ∨ ∃ o n c sz rows ex, v = .slice o 0 n (some c) ∧ H' o = some ⟨sz, rows ++ ex⟩ ∧ R' (.slice o 0 n none) (upd H' o ⟨sz, rows⟩)) : ACalls P f args H R' := by
  refine ⟨fun w0 base F ι G w cargs hrel hsub hF hdis hargs => Calls.mono (h.run w0 base F ι G w cargs hrel hsub hF hdis hargs) fun e w' hh => ?_⟩
  obtain ⟨v, cv, ι', G', H', r1, r2, r3, r4, r5, r6, r7, r8⟩ := hh
  rcases hk v H' r8 with h | ⟨o, n, c, sz, rows, ex, rfl, ho, hR⟩
  · exact ⟨v, cv, ι', G', H', r1, r2, r3, r4, r5, r6, r7, h⟩
  · have hG := r5 _ _ ho
    have hFo := r7 _ _ ho
    refine ⟨.slice o 0 n none, cv, ι', upd G' o ⟨sz, rows⟩, _, r1, ?_, r3, r4.reob hG fun p cells q1 q2 q3 q4 => ⟨rfl, ?_, fun r row hr => ?_, q4.2.2⟩, sub_both _ _ r5, fun i x hi => ?_, fun i x hi => ?_, hR⟩
    · cases r2 with
      | slice hp hnc hc hk => exact .slice hp hnc hc (by intro k hk; cases hk)
      | sliceE a hp hk => exact .sliceE a hp (by intro k hk; cases hk)
    · refine Nat.le_trans (Nat.mul_le_mul_right _ ?_) q4.1
      simp
    · have hlt := (List.getElem?_eq_some_iff.1 hr).1
      exact q4.2.1 r row (by rw [List.getElem?_append_left hlt]; exact hr)
    · have hne : i ≠ o := by rintro rfl; rw [hFo] at hi; cases hi
      rw [upd_ne _ _ hne]; exact r6 _ _ hi
    · by_cases hio : i = o
      · subst hio; exact hFo
      · rw [upd_ne _ _ hio] at hi; exact r7 _ _ hi
end Go.Abs
