/-
The abstract layer, part O: the transformer is sound; a function's contract.
-/
import Derived.Test.YtgiogphdnpeddaaGreatAbsY
set_option linter.all false
namespace Go.Abs
open Go.RowKit (Below)

section
variable {P : Program} {g : Cfg} {w0 : World} {base : Nat} {F : Heap} {ι : Nat → Option Place} {β : Nat → Option Nat} {G : Heap} {env : List V} {H : Heap} {a : Act} {w : World}

theorem omods_dst {o : Oper} {d : Nat} (h : o.dst = some d) : d ∈ omods g o := by unfold omods; rw [h]; simp [dstL]

theorem skipDst_agree (o : Oper) : agree (omods g o) env (skipDst g env o.dst) := by
  cases h : o.dst with
  | none => exact agree.refl _ _
  | some d =>
    simp only [skipDst]
    cases g.loc d <;> exact agree.set _ _ (omods_dst h)

theorem opsK_lift {ops : List Oper} : ∀ {l : List Oper} {env : List V} {H : Heap} {K K' : List V → Heap → Prop}, opsK P g ops l env H K → (∀ env' H', agree (rmods g l) env env' → K env' H' → K' env' H') → opsK P g ops l env H K'
  | [], env, H, K, K', h, hk => hk env H (agree.refl _ _) h
  | o :: l, env, H, K, K', h, hk => by
    have step : ∀ {env' : List V} {H' : Heap}, agree (omods g o) env env' → opsK P g ops l env' H' K → opsK P g ops l env' H' K' := fun ha h =>
      opsK_lift h fun env'' H'' ha' h => hk env'' H'' ((ha.mono fun s hs => List.mem_append_left _ hs).trans (ha'.mono fun s hs => List.mem_append_right _ hs)) h
    unfold opsK at h ⊢
    split at h
    · rename_i hg
      exact opK_lift h fun env' H' ha h => step ha h
    · obtain ⟨o', t, v, h1, h2, h3, hv, h4, h5⟩ := guardK_elim h
      exact guardK_intro h1 h2 h3 hv (fun e => opK_lift (h4 e) fun env' H' ha h => step ha h) (fun e => step (skipDst_agree o) (h5 e))

theorem regK_lift {ops : Array Oper} {draw : Bool} {K K' : List V → Heap → Prop} (h : regK P g ops draw env H K) (hk : ∀ env' H', agree (rmods g ops.toList) env env' → K env' H' → K' env' H') : regK P g ops draw env H K' := by
  unfold regK at *
  cases draw with
  | false => exact opsK_lift h hk
  | true => exact h

theorem clr_agree' (ms : List Nat) (env : List V) : agree ms env (clr ms env) := agree.clr ms env fun _ h => h
theorem setMany_agree (ms : List Nat) : ∀ (live : List Nat) (xs env : List V), agree ms env (setMany g ms live xs env)
  | [], xs, env => agree.refl _ _
  | d :: ds, xs, env => by
    unfold setMany
    refine agree.trans ?_ (setMany_agree ms ds xs.tail _)
    cases h : ms.contains d with
    | true => exact agree.set _ _ (by simpa using h)
    | false => exact agree.refl _ _
theorem head_agree (ms live : List Nat) (env xs : List V) : agree ms env (head g ms live env xs) := (clr_agree' ms env).trans (setMany_agree ms live xs _)

theorem rmods_mem : ∀ {l : List Oper} {i : Nat} {o : Oper} {s : Nat}, l[i]? = some o → s ∈ omods g o → s ∈ rmods g l
  | [], i, o, s, h, _ => by simp at h
  | x :: l, 0, o, s, h, hs => by simp at h; subst h; exact List.mem_append_left _ hs
  | x :: l, i + 1, o, s, h, hs => List.mem_append_right _ (rmods_mem (l := l) (i := i) (by simpa using h) hs)
theorem opD_liftA {HS : Heap} {o : Oper} {K K' : List V → Heap → Prop} (h : opD P g HS o env H K) (hk : ∀ e h, agree (omods g o) env e → K e h → K' e h) : opD P g HS o env H K' := by
  unfold opD at *
  split at h
  · exact opK_lift h fun e _ ha h => hk e H ha h
  · exact opK_lift h fun e h' ha h => ⟨h.1, hk e h' ha h.2⟩
theorem seqD_liftA {HS : Heap} {ops : List Oper} : ∀ {l : List Nat} {env : List V} {H : Heap} {K K' : List V → Heap → Prop}, seqD P g HS ops l env H K → (∀ e h, agree (rmods g ops) env e → K e h → K' e h) → seqD P g HS ops l env H K'
  | [], env, H, K, K', h, hk => hk env H (agree.refl _ _) h
  | i :: l, env, H, K, K', h, hk => by
    unfold seqD at h ⊢
    split at h
    · rename_i o ho
      have step : ∀ {e : List V} {h : Heap}, agree (omods g o) env e → seqD P g HS ops l e h K → seqD P g HS ops l e h K' := fun ha h =>
        seqD_liftA h fun e' h' ha' h => hk e' h' ((ha.mono fun s hs => rmods_mem ho hs).trans ha') h
      unfold stepD at h ⊢
      split at h
      · exact opD_liftA h fun e h' ha h => step ha h
      · obtain ⟨o', t, b, h1, h2, h3, hv, h4, h5⟩ := guardK_elim h
        exact guardK_intro h1 h2 h3 hv (fun e => opD_liftA (h4 e) fun e h' ha h => step ha h) (fun e => step (skipDst_agree o) (h5 e))
    · exact h.elim
theorem drawK_lift {ops : List Oper} {order : List Nat} {K K' : List V → Heap → Prop} (h : drawK P g ops order env H K) (hk : ∀ e h, agree (rmods g ops) env e → K e h → K' e h) : drawK P g ops order env H K' := by
  unfold drawK at *
  split at h
  · obtain ⟨HS, h1, h2⟩ := h
    exact ⟨HS, h1, seqD_liftA h2 hk⟩
  · exact h.elim

theorem opH_liftA {o : Oper} {env : List V} {H : Heap} {K K' : List V → Heap → Prop} (h : opH P g o env H K) (hk : ∀ e h, agree (omods g o) env e → K e h → K' e h) : opH P g o env H K' := by
  unfold opH at *
  split at h
  · exact opK_lift h fun e _ ha h => hk e H ha h
  · exact opK_lift h fun e h' ha h => hk e h' ha h
theorem seqH_liftA {ops : List Oper} : ∀ {l : List Nat} {env : List V} {H : Heap} {K K' : List V → Heap → Prop}, seqH P g ops l env H K → (∀ e h, agree (rmods g ops) env e → K e h → K' e h) → seqH P g ops l env H K'
  | [], env, H, K, K', h, hk => hk env H (agree.refl _ _) h
  | i :: l, env, H, K, K', h, hk => by
    unfold seqH at h ⊢
    split at h
    · rename_i o ho
      have step : ∀ {e : List V} {h : Heap}, agree (omods g o) env e → seqH P g ops l e h K → seqH P g ops l e h K' := fun ha h =>
        seqH_liftA h fun e' h' ha' h => hk e' h' ((ha.mono fun s hs => rmods_mem ho hs).trans ha') h
      unfold stepH at h ⊢
      split at h
      · exact opH_liftA h fun e h' ha h => step ha h
      · obtain ⟨o', t, b, h1, h2, h3, hv, h4, h5⟩ := guardK_elim h
        exact guardK_intro h1 h2 h3 hv (fun e => opH_liftA (h4 e) fun e h' ha h => step ha h) (fun e => step (skipDst_agree o) (h5 e))
    · exact h.elim
theorem drawH_lift {ops : List Oper} {order : List Nat} {K K' : List V → Heap → Prop} (h : drawH P g ops order env H K) (hk : ∀ e h, agree (rmods g ops) env e → K e h → K' e h) : drawH P g ops order env H K' := by
  unfold drawH at *
  split at h
  · exact seqH_liftA h hk
  · exact h.elim

theorem phK_lift {ops : List Oper} : ∀ {ph : List (List Nat)} {env : List V} {H : Heap} {K K' : List V → Heap → Prop}, phK P g ops ph env H K → (∀ e h, agree (rmods g ops) env e → K e h → K' e h) → phK P g ops ph env H K'
  | [], env, H, K, K', h, hk => hk env H (agree.refl _ _) h
  | p :: r, env, H, K, K', h, hk => by
    obtain ⟨HS, h1, h2⟩ := h
    exact ⟨HS, h1, seqD_liftA h2 fun e h ha h => phK_lift h fun e' h' ha' h => hk e' h' (ha.trans ha') h⟩
theorem drawP_lift {ops : List Oper} {ph : List (List Nat)} {K K' : List V → Heap → Prop} (h : drawP P g ops ph env H K) (hk : ∀ e h, agree (rmods g ops) env e → K e h → K' e h) : drawP P g ops ph env H K' := by
  unfold drawP at *
  split at h
  · exact phK_lift h hk
  · exact h.elim

theorem awp_lift {c : Code} : ∀ {x : Ann} {Q Q' : Ex → List V → Heap → Prop} {env : List V} {H : Heap}, awp P g c x Q env H → (∀ e env' H', agree (mods g c) env env' → Q e env' H' → Q' e env' H') → awp P g c x Q' env H := by
  induction c with
  | skip => intro x Q Q' env H h hk; unfold awp at *; exact hk _ _ _ (agree.refl _ _) h
  | ret => intro x Q Q' env H h hk; unfold awp at *; exact hk _ _ _ (agree.refl _ _) h
  | exit id => intro x Q Q' env H h hk; unfold awp at *; exact hk _ _ _ (agree.refl _ _) h
  | region id ops draw =>
    intro x Q Q' env H h hk
    cases x with
    | cut live =>
      obtain ⟨J, h1, h2⟩ := h
      exact ⟨J, h1, fun xs H' hj => hk _ _ _ (head_agree _ _ _ _) (h2 xs H' hj)⟩
    | draw order =>
      cases draw with
      | true => exact drawK_lift h fun env' H' ha h => hk _ _ _ ha h
      | false => exact h.elim
    | drawh order =>
      cases draw with
      | true => exact drawH_lift h fun env' H' ha h => hk _ _ _ ha h
      | false => exact h.elim
    | drawp ph =>
      cases draw with
      | true => exact drawP_lift h fun env' H' ha h => hk _ _ _ ha h
      | false => exact h.elim
    | _ => exact regK_lift h fun env' H' ha h => hk _ _ _ ha h
  | seq a b iha ihb =>
    intro x Q Q' env H h hk
    cases x with
    | seq x y =>
      refine iha h fun e env' H' ha h => ?_
      cases e with
      | normal => exact ihb h fun e env'' H'' hb h => hk _ _ _ ((ha.mono fun s hs => List.mem_append_left _ hs).trans (hb.mono fun s hs => List.mem_append_right _ hs)) h
      | _ => exact hk _ _ _ (ha.mono fun s hs => List.mem_append_left _ hs) h
    | seqc x y live =>
      obtain ⟨J, h1, h2⟩ := h
      refine ⟨J, iha h1 fun e env' H' ha h => ?_, fun xs H' hj => ihb (h2 xs H' hj) fun e env'' H'' hb h => hk _ _ _ (((head_agree _ _ _ _).mono fun s hs => List.mem_append_left _ hs).trans (hb.mono fun s hs => List.mem_append_right _ hs)) h⟩
      cases e with
      | normal => exact h
      | _ => exact hk _ _ _ (ha.mono fun s hs => List.mem_append_left _ hs) h
    | _ => exact h.elim
  | cond c a b iha ihb =>
    intro x Q Q' env H h hk
    cases x with
    | cond x y =>
      refine bnd_mono h fun v _ h => ?_
      cases v with
      | bool t =>
        cases t
        · exact ihb h fun e env' H' ha h => hk _ _ _ (ha.mono fun s hs => List.mem_append_right _ hs) h
        · exact iha h fun e env' H' ha h => hk _ _ _ (ha.mono fun s hs => List.mem_append_left _ hs) h
      | _ => exact h.elim
    | _ => exact h.elim
  | block id a iha =>
    intro x Q Q' env H h hk
    cases x with
    | block x =>
      refine iha h fun e env' H' ha h => ?_
      cases e with
      | exit id' =>
        revert h
        show (match id' == id with | true => Q .normal env' H' | false => Q (.exit id') env' H') → (match id' == id with | true => Q' .normal env' H' | false => Q' (.exit id') env' H')
        cases id' == id with
        | true => exact hk _ _ _ ha
        | false => exact hk _ _ _ ha
      | _ => exact hk _ _ _ ha h
    | _ => exact h.elim
  | loop a iha =>
    intro x Q Q' env H h hk
    cases x with
    | loop live x =>
      obtain ⟨I, n0, h1, h2⟩ := h
      refine ⟨I, n0, h1, fun n xs H' hi => iha (h2 n xs H' hi) fun e env' H'' ha h => ?_⟩
      cases e with
      | normal => exact h
      | _ => exact hk _ _ _ ((head_agree _ _ _ _).trans ha) h
    | _ => exact h.elim
  | _ => intro x Q Q' env H h hk; exact h.elim

/-! #### soundness -/

theorem opsK_sound {ops : Array Oper} {Q : Exit → Act → World → Prop} {K : List V → Heap → Prop} : ∀ {l : List Oper} {env : List V} {H : Heap} {ι : Nat → Option Place} {β : Nat → Option Nat} {G : Heap} {a : Act} {w : World},
    St g w0 base F ι β G env H a w → Cont g w0 base F ι K (Q .normal) → opsK P g ops.toList l env H K → wpList P ops Q l a w
  | [], env, H, ι, β, G, a, w, hs, hn, hk => wpList_nil (hn _ _ _ _ _ _ _ (ile.refl _) hs hk)
  | o :: l, env, H, ι, β, G, a, w, hs, hn, hk => by
    have step : Cont g w0 base F ι (fun env' H' => opsK P g ops.toList l env' H' K) (wpList P ops Q l) := fun ι' β' G' env' H' a' w' hi hs' hk' =>
      opsK_sound hs' (fun ι'' β'' G'' env'' H'' a'' w'' hi' hs'' hk'' => hn _ _ _ _ _ _ _ (hi.trans hi') hs'' hk'') hk'
    refine wpList_step fun K0 hK0 => ?_
    have step' : Cont g w0 base F ι (fun env' H' => opsK P g ops.toList l env' H' K) K0 := fun ι' β' G' env' H' a' w' hi hs' hk' => hK0 _ _ (step _ _ _ _ _ _ _ hi hs' hk')
    unfold opsK at hk
    split at hk
    · rename_i hg
      rw [if_pos (by unfold Region.wanted; rw [hg])]
      exact opK_sound hs step' hk
    · rename_i j want hg
      rcases guard_sound hs hg hk with ⟨h1, h2⟩ | ⟨h1, h2⟩
      · rw [if_pos h1]; exact opK_sound hs step' h2
      · rw [if_neg (by rw [h1]; exact Bool.false_ne_true)]
        exact step' _ _ _ _ _ _ _ (ile.refl _) (skipDst_sound hs o.dst) h2

def exRel : Ex → Exit → Prop
  | .normal, .normal => True
  | .exit i, .exit j => i = j
  | .ret, .ret => True
  | _, _ => False

/-- The postcondition, of the model's side. -/
def PostQ (g : Cfg) (w0 : World) (base : Nat) (F : Heap) (ι : Nat → Option Place) (Q : Ex → List V → Heap → Prop) : Exit → Act → World → Prop := fun e a w =>
  ∃ ex env H ι' β G, exRel ex e ∧ ile ι ι' ∧ St g w0 base F ι' β G env H a w ∧ Q ex env H

theorem regK_sound {id : Nat} {ops : Array Oper} {draw : Bool} {Q : Exit → Act → World → Prop} {K : List V → Heap → Prop} (hs : St g w0 base F ι β G env H a w) (hn : Cont g w0 base F ι K (Q .normal)) (hk : regK P g ops draw env H K) :
    (Code.region id ops draw).wp P Q a w := by
  unfold regK at hk
  cases draw with
  | false => exact wp_region_list (opsK_sound hs hn hk)
  | true => exact hk.elim

theorem getMany_get (env : List V) : ∀ (live : List Nat), getMany env live = live.map fun d => env.getD d .any
  | [] => rfl
  | d :: ds => by simp [getMany, getMany_get env ds]

theorem setMany_get (ms : List Nat) (env' : List V) : ∀ (live : List Nat) (e : List V), e.length = env'.length → (∀ (s : Nat) v, e[s]? = some v → v = .any ∨ env'[s]? = some v) →
    okMany g env' live = true → ∀ (s : Nat) v, (setMany g ms live (getMany env' live) e)[s]? = some v → v = .any ∨ env'[s]? = some v
  | [], e, _, h, _, s, v, hv => h s v hv
  | d :: ds, e, hl, h, hok, s, v, hv => by
    unfold setMany at hv
    simp only [getMany, List.tail_cons, List.headD_cons] at hv
    have hok' : okMany g env' ds = true ∧ (setMany g ms ds (getMany env' ds) (match ms.contains d with | true => e.set d (env'.getD d .any) | false => e))[s]? = some v := by
      unfold okMany at hok
      cases hc : g.L.contains d with
      | true =>
        rw [hc] at hok hv
        simp only at hok hv
        split at hok
        · rename_i cs he
          refine ⟨hok, ?_⟩
          have hb : V.box (bc (env'.getD d .any)) = env'.getD d .any := by simp [List.getD_eq_getElem?_getD, he, bc]
          rw [hb] at hv
          cases hm : ms.contains d <;> rw [hm] at hv <;> exact hv
        · cases hok
      | false => rw [hc] at hok hv; exact ⟨hok, by cases hm : ms.contains d <;> rw [hm] at hv <;> exact hv⟩
    obtain ⟨hok, hv⟩ := hok'
    refine setMany_get ms env' ds _ ?_ ?_ hok s v hv
    · split <;> simp [hl]
    · intro s v hv
      split at hv
      · by_cases e' : d = s
        · subst e'
          have hlt : d < e.length := by have := (List.getElem?_eq_some_iff.1 hv).1; simpa using this
          simp [hlt] at hv
          have hlt' : d < env'.length := by omega
          simp [hlt'] at hv
          exact .inr (by simp [hlt', hv])
        · simp [e'] at hv; exact h s v hv
      · exact h s v hv

theorem St.shrink (hs : St g w0 base F ι β G env H a w) {H' : Heap} (hsub : Abs.sub H' H) : St g w0 base F ι β G env H' a w :=
  ⟨hs.heap, sub_trans hsub hs.sub, hs.frm, fun o x h => hs.dis o x (hsub o x h), hs.len, hs.slot, hs.binj, (fun s i h => by
    refine ⟨?_, (hs.bout s i h).2⟩
    have h0 := (hs.bout s i h).1
    cases e : H' i
    · rfl
    · rw [hsub i _ e] at h0; cases h0), hs.bin, hs.nodef⟩
theorem meet_elim {live : List Nat} {J : List V → Heap → Prop} (h : meet g env live J H) : okMany g env live = true ∧ ∃ H', Abs.sub H' H ∧ J (getMany env live) H' := by
  unfold meet at h
  split at h
  · exact ⟨by assumption, h⟩
  · exact h.elim

theorem St.head (hs : St g w0 base F ι β G env H a w) {ms live : List Nat} {env0 : List V} (ha : agree ms env0 env) (hok : okMany g env live = true) : St g w0 base F ι β G (Abs.head g ms live env0 (getMany env live)) H a w := by
  have key : ∀ (s : Nat) v, (Abs.head g ms live env0 (getMany env live))[s]? = some v → v = .any ∨ env[s]? = some v := by
    refine setMany_get ms env live _ (by rw [clr_len]; exact ha.1) (fun s v hv => ?_) hok
    by_cases hm : s ∈ ms
    · exact .inl (clr_mem ms env0 s v hm hv)
    · rcases clr_get ms env0 s v hv with ⟨h, _⟩ | h
      · exact absurd h hm
      · exact .inr (by rw [← ha.2 s hm]; exact h)
  refine ⟨hs.heap, hs.sub, hs.frm, hs.dis, ?_, fun s v cv h1 h2 => ?_, hs.binj, hs.bout, hs.bin, hs.nodef⟩
  · rw [← (head_agree ms live env0 (getMany env live)).1, ha.1, hs.len]
  · rcases key s v h1 with rfl | h
    · exact SlotRel.any _ _
    · exact hs.slot s v cv h h2

theorem PostQ.mono {Q Q' : Ex → List V → Heap → Prop} {ι' : Nat → Option Place} {e : Exit} {a : Act} {w : World} (h : PostQ g w0 base F ι' Q e a w) (hi : ile ι ι') (hq : ∀ e env H, Q e env H → Q' e env H) : PostQ g w0 base F ι Q' e a w := by
  obtain ⟨ex, env, H, ι'', β, G, h1, h2, h3, h4⟩ := h
  exact ⟨ex, env, H, ι'', β, G, h1, hi.trans h2, h3, hq _ _ _ h4⟩

theorem least {p : Nat → Prop} (h : ∃ n, p n) : ∃ n, p n ∧ ∀ m, p m → n ≤ m := by
  obtain ⟨n, hn⟩ := h
  induction n using Nat.strongRecOn with
  | _ n ih =>
    by_cases hex : ∃ m, m < n ∧ p m
    · obtain ⟨m, hm, hp⟩ := hex; exact ih m hm hp
    · exact ⟨n, hn, fun m hp => by
        rcases Nat.lt_or_ge m n with h | h
        · exact absurd ⟨m, h, hp⟩ hex
        · exact h⟩

theorem wp_loop_n {c : Code} {Q : Exit → Act → World → Prop} (I : Nat → Act → World → Prop) (round : ∀ n a w, I n a w → c.wp P (Exit.then (fun a' w' => ∃ m, m < n ∧ I m a' w') Q) a w) : ∀ n a w, I n a w → (Code.loop c).wp P Q a w := by
  classical
  intro n a w h
  let μ : Act → World → Nat := fun a w => if h : ∃ n, I n a w then (least h).choose else 0
  refine wp_loop (fun a w => ∃ n, I n a w) μ ⟨n, h⟩ fun a w hex => ?_
  have hmin : μ a w = (least hex).choose := by simp only [μ]; rw [dif_pos hex]
  refine wp_mono (round _ a w (least hex).choose_spec.1) fun e a' w' hq => ?_
  cases e with
  | normal =>
    obtain ⟨m, hm, hI⟩ := hq
    refine ⟨⟨m, hI⟩, ?_⟩
    have hex' : ∃ n, I n a' w' := ⟨m, hI⟩
    have : μ a' w' = (least hex').choose := by simp only [μ]; rw [dif_pos hex']
    rw [this, hmin]
    exact Nat.lt_of_le_of_lt ((least hex').choose_spec.2 m hI) hm
  | _ => exact hq

theorem awp_sound {c : Code} : ∀ {x : Ann} {Q : Ex → List V → Heap → Prop} {env : List V} {H : Heap} {ι : Nat → Option Place} {β : Nat → Option Nat} {G : Heap} {a : Act} {w : World},
    awp P g c x Q env H → St g w0 base F ι β G env H a w → c.wp P (PostQ g w0 base F ι Q) a w := by
  induction c with
  | skip => intro x Q env H ι β G a w h hs; unfold awp at h; exact wp_skip ⟨.normal, env, H, ι, β, G, trivial, ile.refl _, hs, h⟩
  | ret => intro x Q env H ι β G a w h hs; unfold awp at h; exact wp_ret ⟨.ret, env, H, ι, β, G, trivial, ile.refl _, hs, h⟩
  | exit id => intro x Q env H ι β G a w h hs; unfold awp at h; exact wp_exit ⟨.exit id, env, H, ι, β, G, rfl, ile.refl _, hs, h⟩
  | region id ops draw =>
    intro x Q env H ι β G a w h hs
    cases x with
    | cut live =>
      obtain ⟨J, h1, h2⟩ := h
      have h1' := regK_lift (K' := fun env' H' => agree (rmods g ops.toList) env env' ∧ meet g env' live J H') h1 fun env' H' ha h => ⟨ha, h⟩
      refine regK_sound hs (fun ι' β' G' env' H' a' w' hi hs' hk => ?_) h1'
      obtain ⟨hok, Hs, hsub, hJ⟩ := meet_elim hk.2
      exact ⟨.normal, _, Hs, ι', β', G', trivial, hi, (hs'.shrink hsub).head hk.1 hok, h2 _ _ hJ⟩
    | draw order =>
      cases draw with
      | true => exact drawK_sound hs (fun ι' β' G' env' H' a' w' hi hs' hk => ⟨.normal, env', H', ι', β', G', trivial, hi, hs', hk⟩) h
      | false => exact h.elim
    | drawh order =>
      cases draw with
      | true => exact drawH_sound hs (fun ι' β' G' env' H' a' w' hi hs' hk => ⟨.normal, env', H', ι', β', G', trivial, hi, hs', hk⟩) h
      | false => exact h.elim
    | drawp ph =>
      cases draw with
      | true => exact drawP_sound hs (fun ι' β' G' env' H' a' w' hi hs' hk => ⟨.normal, env', H', ι', β', G', trivial, hi, hs', hk⟩) h
      | false => exact h.elim
    | _ => exact regK_sound hs (fun ι' β' G' env' H' a' w' hi hs' hk => ⟨.normal, env', H', ι', β', G', trivial, hi, hs', hk⟩) h
  | seq a b iha ihb =>
    intro x Q env H ι β G ac w h hs
    cases x with
    | seq x y =>
      refine wp_seq (wp_mono (iha h hs) fun e a' w' hp => ?_)
      obtain ⟨ex, env', H', ι', β', G', h1, h2, h3, h4⟩ := hp
      cases ex <;> cases e <;> try exact h1.elim
      · exact wp_mono (ihb h4 h3) fun e a w hp => hp.mono h2 fun _ _ _ h => h
      · exact ⟨.exit _, env', H', ι', β', G', h1, h2, h3, h4⟩
      · exact ⟨.ret, env', H', ι', β', G', h1, h2, h3, h4⟩
    | seqc x y live =>
      obtain ⟨J, h1, h2⟩ := h
      have h1' := awp_lift (Q' := fun e env' H' => agree (mods g a) env env' ∧ match e with | .normal => meet g env' live J H' | e => Q e env' H') h1 fun e env' H' ha h => ⟨ha, h⟩
      refine wp_seq (wp_mono (iha h1' hs) fun e a' w' hp => ?_)
      obtain ⟨ex, env', H', ι', β', G', q1, q2, q3, q4, q5⟩ := hp
      cases ex <;> cases e <;> try exact q1.elim
      · obtain ⟨hok, Hs, hsub, hJ⟩ := meet_elim q5
        exact wp_mono (ihb (h2 _ _ hJ) ((q3.shrink hsub).head q4 hok)) fun e a w hp => hp.mono q2 fun _ _ _ h => h
      · exact ⟨.exit _, env', H', ι', β', G', q1, q2, q3, q5⟩
      · exact ⟨.ret, env', H', ι', β', G', q1, q2, q3, q5⟩
    | _ => exact h.elim
  | cond c a b iha ihb =>
    intro x Q env H ι β G ac w h hs
    cases x with
    | cond x y =>
      obtain ⟨v, hv, h⟩ := bnd_elim h
      have hev := ev_sound hs hv
      cases v with
      | bool t =>
        cases t
        · exact wp_cond_false (relV_bool hev) (ihb h hs)
        · exact wp_cond_true (relV_bool hev) (iha h hs)
      | _ => exact h.elim
    | _ => exact h.elim
  | block id a iha =>
    intro x Q env H ι β G ac w h hs
    cases x with
    | block x =>
      refine wp_block (wp_mono (iha h hs) fun e a' w' hp => ?_)
      obtain ⟨ex, env', H', ι', β', G', h1, h2, h3, h4⟩ := hp
      cases ex <;> cases e <;> try exact h1.elim
      · exact ⟨.normal, env', H', ι', β', G', trivial, h2, h3, h4⟩
      · rename_i i j
        have hij : i = j := h1
        subst hij
        revert h4
        show (match i == id with | true => Q .normal env' H' | false => Q (.exit i) env' H') → (if i = id then PostQ g w0 base F ι Q .normal a' w' else PostQ g w0 base F ι Q (.exit i) a' w')
        by_cases e : i = id
        · subst e
          rw [beq_self_eq_true, if_pos rfl]
          exact fun h4 => ⟨.normal, env', H', ι', β', G', trivial, h2, h3, h4⟩
        · rw [if_neg e, show (i == id) = false by simpa using e]
          exact fun h4 => ⟨.exit i, env', H', ι', β', G', rfl, h2, h3, h4⟩
      · exact ⟨.ret, env', H', ι', β', G', trivial, h2, h3, h4⟩
    | _ => exact h.elim
  | loop c iha =>
    intro x Q env H ι β G ac w h hs
    cases x with
    | loop live x =>
      obtain ⟨I, n0, h1, h2⟩ := h
      obtain ⟨hok, Hs, hsub, hJ⟩ := meet_elim h1
      refine wp_loop_n (fun n a w => ∃ env' H' ι' β' G', agree (mods g c) env env' ∧ ile ι ι' ∧ St g w0 base F ι' β' G' env' H' a w ∧ okMany g env' live = true ∧ I n (getMany env' live) H') ?_ n0 ac w ⟨env, Hs, ι, β, G, agree.refl _ _, ile.refl _, hs.shrink hsub, hok, hJ⟩
      rintro n a w ⟨env', H', ι', β', G', ha, hi, hs', hok, hI⟩
      have hr := awp_lift (Q' := fun e env'' H'' => agree (mods g c) (head g (mods g c) live env (getMany env' live)) env'' ∧ match e with | .normal => ∃ m, m < n ∧ meet g env'' live (I m) H'' | e => Q e env'' H'') (h2 n _ _ hI) fun e env' H' ha h => ⟨ha, h⟩
      refine wp_mono (iha hr (hs'.head ha hok)) fun e a' w' hp => ?_
      obtain ⟨ex, env'', H'', ι'', β'', G'', q1, q2, q3, q4, q5⟩ := hp
      cases ex <;> cases e <;> try exact q1.elim
      · obtain ⟨m, hm, hI'⟩ := q5
        obtain ⟨hok', Hs', hsub', hJ'⟩ := meet_elim hI'
        exact ⟨m, hm, env'', Hs', ι'', β'', G'', (head_agree _ _ _ _).trans q4, hi.trans q2, q3.shrink hsub', hok', hJ'⟩
      · exact ⟨.exit _, env'', H'', ι'', β'', G'', q1, hi.trans q2, q3, q5⟩
      · exact ⟨.ret, env'', H'', ι'', β'', G'', q1, hi.trans q2, q3, q5⟩
    | _ => exact h.elim
  | _ => intro x Q env H ι β G a w h hs; exact h.elim

/-! #### a function -/

def resOf (P : Program) (g : Cfg) (env : List V) (H : Heap) : ResultVar → Option V
  | .tmp t => match g.loc t with | true => none | false => env[t]?
  | .cell t ty => match locOf g env (.tmp t) with | some l => aLoadL P H ty l | none => none
def resK (P : Program) (g : Cfg) (env : List V) (H : Heap) : List ResultVar → (List V → Prop) → Prop
  | [], K => K []
  | r :: rs, K => bnd (resOf P g env H r) fun v => resK P g env H rs fun vs => K (v :: vs)
def tupOf : List V → V | [v] => v | vs => .tup vs
/-- What is returned; what is no longer needed of the heap is let go. -/
def Ret (R : V → Heap → Prop) (v : V) (H : Heap) : Prop := ∃ H', Abs.sub H' H ∧ R v H'

def retK (P : Program) (g : Cfg) (rs : List ResultVar) (R : V → Heap → Prop) : Ex → List V → Heap → Prop
  | .exit _, _, _ => False
  | _, env, H => resK P g env H rs fun vs => R (tupOf vs) H

def resSem (tmps : Array Value) : ResultVar → Sem Value
  | .tmp t => pure (tmps.getD t undef)
  | .cell x t => do loadVar t (← asAddr (tmps.getD x undef))

theorem resOf_sound (hs : St g w0 base F ι β G env H a w) {r : ResultVar} {v : V} (h : resOf P g env H r = some v) : ∃ cv, (resSem a.tmps r).run P w = .ok cv w ∧ RelV w0 base ι v cv := by
  cases r with
  | tmp t =>
    simp only [resOf] at h
    split at h
    · cases h
    · rename_i hl; exact ⟨_, rfl, hs.val hl h⟩
  | cell t ty =>
    simp only [resOf] at h
    split at h
    · rename_i l hl
      obtain ⟨cv, r1, r2⟩ := aLoad_sound (P := P) hs (locOf_sound hs hl) h
      refine ⟨cv, ?_, r2⟩
      have : a.eval (.tmp t) = a.tmps.getD t undef := rfl
      rw [this] at r1
      unfold resSem
      simp only [Instr.loadAt, Sem.run_bind] at r1 ⊢
      cases hv : a.tmps.getD t undef with
      | pointer p =>
        rw [hv] at r1
        cases p with
        | some p => simpa [Instr.sureAddr, asAddr] using r1
        | none => simp [Instr.sureAddr, stuck, Sem.run, Result.andThen] at r1
      | _ => rw [hv] at r1; simp [Instr.sureAddr, stuck, Sem.run, Result.andThen] at r1
    · cases h

theorem results_eq (fn : Func) (tmps : Array Value) : results fn tmps = (do let vs ← fn.results.mapM (resSem tmps); pure (if h : vs.size = 1 then vs[0] else .tuple vs)) := by
  unfold results
  congr 1

theorem results_sound (hs : St g w0 base F ι β G env H a w) {fn : Func} {K : List V → Prop} (hl : fn.results.toList.length ≤ 3) (h : resK P g env H fn.results.toList K) : ∃ vs cv, (results fn a.tmps).run P w = .ok cv w ∧ RelV w0 base ι (tupOf vs) cv ∧ K vs := by
  rw [results_eq]
  generalize hrs : fn.results = rs at h hl
  obtain ⟨rs⟩ := rs
  simp only at h hl
  match rs, hl with
  | [], _ => exact ⟨[], .tuple #[], by simp, relV_tup RelL.nil, h⟩
  | [r], _ =>
    obtain ⟨v, h1, h⟩ := bnd_elim h
    obtain ⟨cv, q1, q2⟩ := resOf_sound hs h1
    exact ⟨[v], cv, by simp [q1], q2, h⟩
  | [r, r'], _ =>
    obtain ⟨v, h1, h⟩ := bnd_elim h
    obtain ⟨v', h3, h⟩ := bnd_elim h
    obtain ⟨cv, q1, q2⟩ := resOf_sound hs h1
    obtain ⟨cv', q1', q2'⟩ := resOf_sound hs h3
    exact ⟨[v, v'], .tuple #[cv, cv'], by simp [q1, q1'], relV_tup (RelL.cons q2 (RelL.cons q2' RelL.nil)), h⟩
  | [r, r', r''], _ =>
    obtain ⟨v, h1, h⟩ := bnd_elim h
    obtain ⟨v', h3, h⟩ := bnd_elim h
    obtain ⟨v'', h5, h⟩ := bnd_elim h
    obtain ⟨cv, q1, q2⟩ := resOf_sound hs h1
    obtain ⟨cv', q1', q2'⟩ := resOf_sound hs h3
    obtain ⟨cv'', q1'', q2''⟩ := resOf_sound hs h5
    exact ⟨[v, v', v''], .tuple #[cv, cv', cv''], by simp [q1, q1', q1''], relV_tup (RelL.cons q2 (RelL.cons q2' (RelL.cons q2'' RelL.nil))), h⟩
  | _ :: _ :: _ :: _ :: _, hl => exact absurd hl (by simp)

theorem initSt {ι : Nat → Option Place} {G : Heap} {args : List V} {cargs : List Value} {n : Nat} (hrel : RelH w0 base ι G w) (hH : Abs.sub H G) (hF : Abs.sub F G) (hd : disj H F) (ha : RelL w0 base ι args cargs)
    (hloc : ∀ s, s < args.length → g.loc s = false) :
    St g w0 base F ι (fun _ => none) G (args ++ List.replicate n .any) H { tmps := cargs.toArray ++ Array.replicate n undef, defers := [] } w := by
  refine ⟨hrel, hH, hF, hd, by simp [ha.1], fun s v cv h1 h2 => ?_, by simp, by simp, by simp, rfl⟩
  by_cases hs : s < args.length
  · rw [List.getElem?_append_left hs] at h1
    rw [SlotRel.plain (hloc s hs)]
    have hs2 : s < cargs.length := by rw [← ha.1]; exact hs
    refine ha.2 s v cv h1 ?_
    rw [Array.getElem?_append_left (by simpa using hs2)] at h2
    simpa using h2
  · rw [List.getElem?_append_right (by omega)] at h1
    have : v = .any := by
      rw [List.getElem?_replicate] at h1
      split at h1
      · cases h1; rfl
      · cases h1
    subst this
    exact SlotRel.any _ _

/-- The contract of a function off the transformer. -/
theorem acalls_of_awp {f : FuncId} {fn : Func} {c : Code} {x : Ann} {args : List V} {R : V → Heap → Prop} (hf : P.funcs[f]? = some fn) (hb : fn.body = some c) (hl : fn.results.toList.length ≤ 3) (hloc : (List.range args.length).all (fun s => !g.loc s) = true)
    (h : awp P g c x (retK P g fn.results.toList (Ret R)) (args ++ List.replicate (fn.ntmps - args.length) .any) H) : ACalls P f args H R := by
  refine ⟨fun w0 base F ι G w cargs hrel hH hF hd ha => ?_⟩
  refine calls_of_wp hf hb ?_
  have hs := initSt (g := g) (n := fn.ntmps - cargs.toArray.size) hrel hH hF hd ha (fun s hs => by
    have := List.all_eq_true.1 hloc s (by simpa using hs)
    simpa using this)
  have hn : fn.ntmps - cargs.toArray.size = fn.ntmps - args.length := by rw [ha.1]; simp
  rw [hn] at hs
  rw [hn]
  refine wp_mono (awp_sound (x := x) h hs) fun e a' w' hp => ?_
  obtain ⟨ex, env', H', ι', β', G', h1, h2, h3, h4⟩ := hp
  have fin : (resK P g env' H' fn.results.toList fun vs => Ret R (tupOf vs) H') → bodyPost P fn (fun e w' => ∃ v cv ι' G' H', e = .returned cv ∧ RelV w0 base ι' v cv ∧ ile ι ι' ∧ RelH w0 base ι' G' w' ∧ Abs.sub H' G' ∧ Abs.sub F G' ∧ disj H' F ∧ R v H') .ret a' w' := by
    intro hb
    obtain ⟨vs, cv, q1, q2, H'', hsub, hR⟩ := results_sound h3 hl hb
    exact ⟨h3.nodef, cv, q1, _, cv, ι', G', H'', rfl, q2, h2, h3.heap, sub_trans hsub h3.sub, h3.frm, fun i x hx => h3.dis i x (hsub i x hx), hR⟩
  cases ex <;> cases e <;> try exact h1.elim
  · exact fin h4
  · exact h4.elim
  · exact fin h4

def bodyOf (fn : Func) : Code := fn.body.getD .skip
/-- The same, with what is to be looked up given as Booleans and the form apart. -/
theorem acalls_of_form {f : FuncId} {fn : Func} {x : Ann} {args : List V} {R : V → Heap → Prop} {T : Prop} (hf : P.funcs[f]? = some fn) (hb : fn.body.isSome = true) (hl : Nat.ble fn.results.toList.length 3 = true)
    (hloc : (List.range args.length).all (fun s => !g.loc s) = true)
    (he : T = awp P g (bodyOf fn) x (retK P g fn.results.toList (Ret R)) (args ++ List.replicate (fn.ntmps - args.length) .any) H) (h : T) : ACalls P f args H R := by
  refine acalls_of_awp (g := g) (c := bodyOf fn) (x := x) hf ?_ (Nat.le_of_ble_eq_true hl) hloc (he ▸ h)
  unfold bodyOf
  cases hbb : fn.body with
  | some c => rfl
  | none => rw [hbb] at hb; cases hb

end
end Go.Abs
