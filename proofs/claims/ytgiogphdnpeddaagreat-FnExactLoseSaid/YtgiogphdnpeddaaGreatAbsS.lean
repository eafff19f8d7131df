/-
The abstract layer, part S: a region whose order is left open, over the model.
-/
import Derived.Test.YtgiogphdnpeddaaGreatAbsR
set_option linter.all false
namespace Go.Abs
open Go.RowKit (Below)

section
variable {P : Program} {g : Cfg} {HS H : Heap} {env env' : List V} {ops : List Oper}

theorem set_back {v : V} {t : Nat} (h : env[t]? = some v) : env.set t v = env := by
  obtain ⟨hlt, he⟩ := List.getElem?_eq_some_iff.1 h
  rw [← he]; exact List.set_getElem_self hlt
/-- A guard: its slot holds a Boolean, or, passed over itself, nothing. -/
theorem guardK_elim {j : Nat} {want : Bool} {A B : List V → Prop} (h : guardK ops env j want A B) :
    ∃ o' t v, ops[j]? = some o' ∧ o'.dst = some t ∧ env[t]? = some v ∧ ((∃ b, v = .bool b) ∨ (o'.guard.isSome = true ∧ v = .tup [])) ∧ (v = .bool want → A env) ∧ (v ≠ .bool want → B env) := by
  unfold guardK at h
  simp only [setK_eq] at h
  split at h
  case h_2 => exact h.elim
  rename_i o' ho'
  split at h
  case h_2 => exact h.elim
  rename_i t ht
  split at h
  case h_2 => exact h.elim
  rename_i v hv0
  have two : ∀ b, v = .bool b → gd (.bool b) want (A (env.set t (.bool want))) (B (env.set t (.bool (!want)))) → (v = .bool want → A env) ∧ (v ≠ .bool want → B env) := by
    clear h
    intro b hb h
    subst hb
    have hset := set_back hv0
    cases b <;> cases want <;> simp only [gd, gb, Bool.not_true, Bool.not_false] at h <;> rw [hset] at h <;> simp [h]
  split at h
  · have h' := h
    unfold gd at h
    split at h
    case h_2 => exact h.elim
    exact ⟨o', t, _, ho', ht, hv0, .inl ⟨_, rfl⟩, two _ rfl h'⟩
  · rename_i hg
    have h' := h
    unfold gd3 at h
    split at h
    · exact ⟨o', t, _, ho', ht, hv0, .inl ⟨_, rfl⟩, two _ rfl h'⟩
    · rw [set_back hv0] at h
      exact ⟨o', t, _, ho', ht, hv0, .inr ⟨hg, rfl⟩, ⟨fun e => (by cases e), fun _ => h⟩⟩
    · exact h.elim
theorem guardK_intro {j : Nat} {want : Bool} {A B : List V → Prop} {o' : Oper} {t : Tmp} {v : V} (h1 : ops[j]? = some o') (h2 : o'.dst = some t) (h3 : env[t]? = some v) (hv : (∃ b, v = .bool b) ∨ (o'.guard.isSome = true ∧ v = .tup []))
    (h4 : v = .bool want → A env) (h5 : v ≠ .bool want → B env) : guardK ops env j want A B := by
  unfold guardK
  simp only [h1, h2, h3, setK_eq]
  have hset := set_back h3
  rcases hv with ⟨b, rfl⟩ | ⟨hg, rfl⟩
  · have two : gd (.bool b) want (A (env.set t (.bool want))) (B (env.set t (.bool (!want)))) := by
      cases b <;> cases want <;> simp only [gd, gb, Bool.not_true, Bool.not_false] <;> rw [hset] <;> first | exact h4 rfl | exact h5 (by simp)
    split
    · exact two
    · exact two
  · rw [hg]
    simp only [gd3]
    rw [hset]
    exact h5 (by simp)

theorem opD_lift {o : Oper} {K K' : List V → Heap → Prop} (h : opD P g HS o env H K) (hs : Abs.sub HS H) (hk : ∀ e h, Abs.sub HS h → K e h → K' e h) : opD P g HS o env H K' := by
  unfold opD at *
  split at h
  · exact opK_lift h fun e _ _ h => hk e H hs h
  · exact opK_lift h fun e h' _ h => ⟨h.1, hk e h' h.1 h.2⟩
theorem stepD_lift {o : Oper} {K K' : List V → Heap → Prop} (h : stepD P g HS ops o env H K) (hs : Abs.sub HS H) (hk : ∀ e h, Abs.sub HS h → K e h → K' e h) : stepD P g HS ops o env H K' := by
  unfold stepD at *
  split at h
  · exact opD_lift h hs hk
  · obtain ⟨o', t, b, h1, h2, h3, hv, h4, h5⟩ := guardK_elim h
    exact guardK_intro h1 h2 h3 hv (fun e => opD_lift (h4 e) hs hk) (fun e => hk _ _ hs (h5 e))

theorem opD_rel {o : Oper} {K : List V → Heap → Prop} (hlen : env.length = env'.length) (hsm : Same g (opnds o.op) env env') (h : opD P g HS o env H K) : opD P g HS o env' H (Post g o env env' K) := by
  unfold opD at *
  split at h
  · exact opK_lift (opK_rel hlen hsm h) fun e _ _ ⟨e0, q0, q⟩ => ⟨e0, q0, q⟩
  · exact opK_lift (opK_rel hlen hsm h) fun e _ _ ⟨e0, q0, q⟩ => ⟨q0.1, e0, q0.2, q⟩

theorem skip_get (e : List V) (d : Option Tmp) {s : Nat} (h : s ∉ dstL d) : (skipDst g e d)[s]? = e[s]? := by
  cases d with
  | none => rfl
  | some d =>
    have : d ≠ s := by rintro rfl; exact h (by simp [dstL])
    simp only [skipDst]
    cases g.loc d <;> simp [this]
theorem skip_same {e e' : List V} (d : Option Tmp) (hl : e.length = e'.length) {s : Nat} (h : s ∈ dstL d) : (skipDst g e d)[s]? = (skipDst g e' d)[s]? := by
  cases d with
  | none => simp [dstL] at h
  | some d =>
    have : s = d := by simpa [dstL] using h
    subst this
    simp only [skipDst]
    cases g.loc s <;> exact set_same _ _ hl
theorem skip_len (e : List V) (d : Option Tmp) : (skipDst g e d).length = e.length := by
  cases d with
  | none => rfl
  | some d => simp only [skipDst]; cases g.loc d <;> simp
theorem dst_wrs {o : Oper} {s : Nat} (h : s ∈ dstL o.dst) : s ∈ wrs g o := List.mem_append_left _ h
theorem skip_agree {o : Oper} (e : List V) : agree (wrs g o) e (skipDst g e o.dst) := ⟨(skip_len _ _).symm, fun s hs => (skip_get e o.dst fun h => hs (dst_wrs h)).symm⟩
theorem okG_spec {o : Oper} (h : okG g o = true) (hg : o.guard ≠ none) {s : Nat} (hs : s ∈ wrs g o) (hd : s ∉ dstL o.dst) : s ∈ rds g o := by
  unfold okG at h
  cases ho : o.guard with
  | none => exact absurd ho hg
  | some x =>
    rw [ho] at h
    simp only [Option.isNone_some, Bool.false_or, List.all_eq_true] at h
    have := h s hs
    simp only [Bool.or_eq_true, List.contains_iff_mem] at this
    exact this.resolve_left hd

theorem gslot_mem {o o' : Oper} {j : Nat} {want : Bool} {t : Tmp} (hg : o.guard = some (j, want)) (h1 : ops[j]? = some o') (h2 : o'.dst = some t) : t ∈ gslot ops o := by
  unfold gslot; rw [hg]; simp only [h1, h2]; simp [dstL]

theorem stepD_rel {o : Oper} {K : List V → Heap → Prop} (hG : okG g o = true) (hlen : env.length = env'.length) (hr : ∀ s, s ∈ rds g o → env[s]? = env'[s]?) (hgs : ∀ s, s ∈ gslot ops o → env[s]? = env'[s]?)
    (h : stepD P g HS ops o env H K) : stepD P g HS ops o env' H (Post g o env env' K) := by
  unfold stepD at *
  split at h
  · exact opD_rel hlen (Same.of_rds hr) h
  · rename_i j want hg
    obtain ⟨o', t, b, h1, h2, h3, hv, h4, h5⟩ := guardK_elim h
    refine guardK_intro h1 h2 (by rw [← hgs t (gslot_mem hg h1 h2)]; exact h3) hv (fun e => opD_rel hlen (Same.of_rds hr) (h4 e)) fun e => ?_
    refine ⟨_, h5 e, by rw [skip_len, skip_len, hlen], skip_agree _, skip_agree _, fun s hs => ?_⟩
    by_cases hd : s ∈ dstL o.dst
    · exact skip_same _ hlen hd
    · rw [skip_get _ _ hd, skip_get _ _ hd]
      exact hr s (okG_spec hG (by rw [hg]; simp) hs hd)

/-- A pure step: one outcome, carried over. -/
theorem stepD_fun {o : Oper} {K : List V → Heap → Prop} (hE : isE g o = true) (hG : okG g o = true) (h : stepD P g HS ops o env H K) :
    ∃ e, K e H ∧ e.length = env.length ∧ agree (wrs g o) env e ∧ ∀ env', env.length = env'.length → (∀ s, s ∈ rds g o → env[s]? = env'[s]?) → (∀ s, s ∈ gslot ops o → env[s]? = env'[s]?) →
      ∀ (H2 : Heap) (K' : List V → Heap → Prop), (∀ e', e'.length = env'.length → (∀ s, s ∈ wrs g o → e[s]? = e'[s]?) → (∀ s, s ∉ wrs g o → env'[s]? = e'[s]?) → K' e' H2) → stepD P g HS ops o env' H2 K' := by
  have main : opD P g HS o env H K → ∃ e, K e H ∧ e.length = env.length ∧ agree (wrs g o) env e ∧ ∀ env', env.length = env'.length → (∀ s, s ∈ rds g o → env[s]? = env'[s]?) →
      ∀ (H2 : Heap) (K' : List V → Heap → Prop), (∀ e', e'.length = env'.length → (∀ s, s ∈ wrs g o → e[s]? = e'[s]?) → (∀ s, s ∉ wrs g o → env'[s]? = e'[s]?) → K' e' H2) → opD P g HS o env' H2 K' := by
    intro h
    unfold opD at h
    rw [hE] at h
    simp only at h
    obtain ⟨e, he, hup⟩ := E_fun hE h
    have hdet : opK P g o env HS fun e' _ => e' = e := hup HS (fun _ _ h => h) _ rfl
    obtain ⟨e2, ⟨e3, q1, q2, q3, q4, q5⟩, _⟩ := E_fun hE (opK_rel rfl (Same.of_rds fun s _ => rfl) hdet)
    subst q1
    refine ⟨e3, he, q3.1.symm, q3, fun env' hlen hr H2 K' hk => ?_⟩
    unfold opD
    rw [hE]
    refine opK_lift (opK_rel hlen (Same.of_rds hr) hdet) fun e' _ _ ⟨e4, r1, r2, r3, r4, r5⟩ => ?_
    subst r1
    exact hk e' (by rw [← r4.1]) r5 r4.2
  unfold stepD at h
  split at h
  · rename_i hg
    obtain ⟨e, h1, h2, h3, h4⟩ := main h
    refine ⟨e, h1, h2, h3, fun env' hlen hr _ H2 K' hk => ?_⟩
    unfold stepD; rw [hg]; exact h4 env' hlen hr H2 K' hk
  · rename_i j want hg
    obtain ⟨o', t, b, h1, h2, h3, hv, h4, h5⟩ := guardK_elim h
    by_cases hb : b = .bool want
    · obtain ⟨e, q1, q2, q3, q4⟩ := main (h4 hb)
      refine ⟨e, q1, q2, q3, fun env' hlen hr hgs H2 K' hk => ?_⟩
      unfold stepD; rw [hg]
      exact guardK_intro h1 h2 (by rw [← hgs t (gslot_mem hg h1 h2)]; exact h3) hv (fun _ => q4 env' hlen hr H2 K' hk) (fun e => absurd hb e)
    · refine ⟨_, h5 hb, skip_len _ _, skip_agree _, fun env' hlen hr hgs H2 K' hk => ?_⟩
      unfold stepD; rw [hg]
      refine guardK_intro h1 h2 (by rw [← hgs t (gslot_mem hg h1 h2)]; exact h3) hv (fun e => absurd e hb) fun _ => hk _ (skip_len _ _) (fun s hs => ?_) (fun s hs => (skip_agree (g := g) (o := o) env').2 s hs)
      by_cases hd : s ∈ dstL o.dst
      · exact skip_same _ hlen hd
      · rw [skip_get _ _ hd, skip_get _ _ hd]
        exact hr s (okG_spec hG (by rw [hg]; simp) hs hd)

theorem noneIn_spec {a b : List Nat} (h : noneIn a b = true) {s : Nat} (hs : s ∈ a) : s ∉ b := by
  unfold noneIn at h
  have := List.all_eq_true.1 h s hs
  simpa using this

theorem swap {x y : Oper} {K : List V → Heap → Prop} (hok : swapOk g ops x y = true) (gx : okG g x = true) (gy : okG g y = true) (hs : Abs.sub HS H) (h : stepD P g HS ops x env H fun e h => stepD P g HS ops y e h K) :
    stepD P g HS ops y env H fun e h => stepD P g HS ops x e h K := by
  unfold swapOk at hok
  simp only [Bool.and_eq_true] at hok
  obtain ⟨⟨⟨⟨⟨hE, n1⟩, n2⟩, n3⟩, n4⟩, n5⟩ := hok
  obtain ⟨e1, h1, hl, ha, hf⟩ := stepD_fun hE gx h
  have hy := stepD_rel (env' := env) gy hl (fun s hs => ((ha.2 s fun hw => noneIn_spec n1 hw hs)).symm) (fun s hs => ((ha.2 s fun hw => noneIn_spec n2 hw hs)).symm) h1
  refine stepD_lift hy hs fun e' h' _ ⟨e2, q1, q2, q3, q4, q5⟩ => ?_
  refine hf e' q4.1 (fun s hs => q4.2 s fun hw => noneIn_spec n4 hw hs) (fun s hs => q4.2 s fun hw => noneIn_spec n5 hw hs) h' K fun e'' r1 r2 r3 => ?_
  have : e'' = e2 := by
    apply List.ext_getElem?
    intro s
    by_cases hx : s ∈ wrs g x
    · rw [← r2 s hx]
      exact q3.2 s fun hw => noneIn_spec n3 hx hw
    · rw [← r3 s hx]
      by_cases hyw : s ∈ wrs g y
      · exact (q5 s hyw).symm
      · rw [← q4.2 s hyw, ha.2 s hx, q3.2 s hyw]
  rw [this]; exact q1

theorem ev_nil {x : Operand} {v : V} (h : ev g [] x = some v) : ev g env x = some v := by
  unfold ev at *
  split at h
  · split at h
    · cases h
    · simp at h
  · exact h
  · exact h
  · cases h
theorem evp_nil : ∀ {xs : List (Nat × Operand)} {ps : List (Nat × V)}, evp g [] xs = some ps → evp g env xs = some ps
  | [], ps, h => h
  | (i, x) :: xs, ps, h => by
    unfold evp at h ⊢
    split at h
    · rename_i v vs h1 h2
      rw [ev_nil h1, evp_nil h2]; exact h
    · cases h
/-- A new object, wherever it is made. -/
theorem opK_A {y : Oper} {ob : Ob} {b : Bool} {n d : Nat} (h : obA P g y = some (ob, b, n, d)) (K : List V → Heap → Prop) : y.dst = some d ∧ g.loc d = false ∧ (opK P g y env H K ↔ ∀ q, H q = none → K (env.set d (mkA b n q)) (upd H q ob)) := by
  unfold obA at h
  split at h
  case h_2 => cases h
  rename_i d' hd
  split at h
  case h_1 => cases h
  rename_i hloc
  have hL : g.L.contains d' = false ∧ g.R.contains d' = false := by
    unfold Cfg.loc at hloc
    simpa using hloc
  split at h
  case h_3 => cases h
  · rename_i t ho
    split at h
    case h_2 => cases h
    rename_i z hz
    cases h
    refine ⟨hd, hloc, ?_⟩
    unfold opK
    simp only [ho, hz, bnd_some, hd, newBox, hL.1, hL.2, setK_eq, mkA]
  · rename_i t len parts ho
    split at h
    case h_2 => cases h
    rename_i ps hps
    split at h
    case h_2 => cases h
    rename_i e he
    split at h
    case h_2 => cases h
    rename_i sz hsz
    split at h
    case h_2 => cases h
    rename_i z hz
    split at h
    case h_2 => cases h
    rename_i rows hrows
    cases h
    refine ⟨hd, hloc, ?_⟩
    unfold opK
    simp only [ho, evp_nil hps, he, hsz, hz, hrows, bnd_some, hd, putK, hloc, setK_eq, mkA]
theorem isE0_alloc {y : Oper} {r : Ob × Bool × Nat × Nat} (h : obA P g y = some r) : isE0 g y = false := by
  obtain ⟨ob, b, n, d⟩ := r
  unfold obA at h
  split at h
  case h_2 => cases h
  rename_i d' hd
  split at h
  case h_1 => cases h
  rename_i hloc
  have hL : g.L.contains d' = false := by
    unfold Cfg.loc at hloc
    simp at hloc
    simpa using hloc.1
  split at h
  case h_3 => cases h
  · rename_i t ho
    unfold isE0 isE
    simp only [ho, hd, hL, Bool.false_and]
  · rename_i t len parts ho
    unfold isE0 isE
    simp only [ho, Bool.false_and]

theorem isE_A {y : Oper} {r : Ob × Bool × Nat × Nat} (h : obA P g y = some r) : isE g y = false := by
  obtain ⟨ob, b, n, d⟩ := r
  unfold obA at h
  split at h
  case h_2 => cases h
  rename_i d' hd
  split at h
  case h_1 => cases h
  rename_i hloc
  have hL : g.L.contains d' = false := by
    unfold Cfg.loc at hloc
    simp at hloc
    simpa using hloc.1
  split at h
  case h_3 => cases h
  · rename_i t ho
    unfold isE
    simp only [ho, hd, hL]
  · rename_i t len parts ho
    unfold isE
    simp only [ho]
theorem opD_frame {x : Oper} {K : List V → Heap → Prop} {q : Nat} {ob : Ob} (hq : H q = none) (h : opD P g HS x env H K) : opD P g HS x env (upd H q ob) (Fr q ob K) := by
  unfold opD at *
  split at h
  · exact opK_lift h fun e _ _ h => ⟨H, hq, rfl, h⟩
  · exact opK_lift (opK_frame hq h) fun e H'' _ hh => by
      obtain ⟨H', a, rfl, c, d⟩ := hh
      exact ⟨fun i x hi => sub_q a _ _ (c _ _ hi), H', a, rfl, d⟩
theorem stepD_frame {x : Oper} {K : List V → Heap → Prop} {q : Nat} {ob : Ob} (hq : H q = none) (h : stepD P g HS ops x env H K) : stepD P g HS ops x env (upd H q ob) (Fr q ob K) := by
  unfold stepD at *
  split at h
  · exact opD_frame hq h
  · obtain ⟨o', t, b, h1, h2, h3, hv, h4, h5⟩ := guardK_elim h
    exact guardK_intro h1 h2 h3 hv (fun e => opD_frame hq (h4 e)) (fun e => ⟨H, hq, rfl, h5 e⟩)
theorem swapDa {x y : Oper} {K : List V → Heap → Prop} (hy : isA0 P g y = true) (hok : swapA g ops x y = true) (gx : okG g x = true) (hs : Abs.sub HS H) (h : stepD P g HS ops x env H fun e h => stepD P g HS ops y e h K) :
    stepD P g HS ops y env H fun e h => stepD P g HS ops x e h K := by
  unfold isA0 at hy
  simp only [Bool.and_eq_true] at hy
  obtain ⟨hguard, hsome⟩ := hy
  have hg : y.guard = none := by simpa using hguard
  obtain ⟨⟨ob, b, n, d⟩, hob⟩ := Option.isSome_iff_exists.1 hsome
  have h0 := isE_A hob
  have shape : ∀ (env : List V) (H : Heap) (K : List V → Heap → Prop), stepD P g HS ops y env H K ↔ ∀ q, H q = none → Abs.sub HS (upd H q ob) ∧ K (env.set d (mkA b n q)) (upd H q ob) := fun env H K => by
    unfold stepD opD
    rw [hg, h0]
    exact (opK_A hob _).2.2
  have hd : y.dst = some d := (opK_A (env := env) (H := H) hob K).1
  have hdw : d ∈ wrs g y := dst_wrs (by rw [hd]; simp [dstL])
  unfold swapA at hok
  simp only [Bool.and_eq_true] at hok
  obtain ⟨⟨⟨n1, n2⟩, n3⟩, n4⟩ := hok
  rw [shape]
  intro q hq
  refine ⟨fun i x hi => sub_q hq _ _ (hs _ _ hi), ?_⟩
  have hxr := stepD_rel (env' := env.set d (mkA b n q)) gx (by simp) (fun s hs => by
      have : d ≠ s := by rintro rfl; exact noneIn_spec n3 hdw hs
      rw [List.getElem?_set_ne this]) (fun s hs => by
      have : d ≠ s := by rintro rfl; exact noneIn_spec n4 hdw hs
      rw [List.getElem?_set_ne this]) (stepD_frame (ob := ob) hq h)
  refine stepD_lift hxr (fun i x hi => sub_q hq _ _ (hs _ _ hi)) fun e' H' _ hp => ?_
  obtain ⟨e0, ⟨H1, a1, rfl, a3⟩, p1, p2, p3, p4⟩ := hp
  rw [shape] at a3
  have hk := (a3 q a1).2
  have hdx : d ∉ wrs g x := fun hm => noneIn_spec n2 hm hdw
  have : e0.set d (mkA b n q) = e' := by
    apply List.ext_getElem?
    intro s
    by_cases hs : s = d
    · subst hs
      have := p3.2 s hdx
      rw [← this]
      by_cases hl : s < env.length
      · rw [List.getElem?_set_self (by rw [← p2.1]; exact hl), List.getElem?_set_self hl]
      · rw [List.getElem?_eq_none (by simp; rw [← p2.1]; omega), List.getElem?_eq_none (by simp; omega)]
    · rw [List.getElem?_set_ne (Ne.symm hs)]
      by_cases hx : s ∈ wrs g x
      · exact p4 s hx
      · rw [← p2.2 s hx, ← p3.2 s hx, List.getElem?_set_ne (Ne.symm hs)]
  rw [← this]; exact hk
theorem swapDs {x y : Oper} {K : List V → Heap → Prop} (hok : swapD P g ops x y = true) (gx : okG g x = true) (gy : okG g y = true) (hs : Abs.sub HS H) (h : stepD P g HS ops x env H fun e h => stepD P g HS ops y e h K) :
    stepD P g HS ops y env H fun e h => stepD P g HS ops x e h K := by
  unfold swapD at hok
  rw [Bool.or_eq_true] at hok
  rcases hok with hok | hok
  · exact swap hok gx gy hs h
  · rw [Bool.and_eq_true] at hok
    exact swapDa hok.1 hok.2 gx hs h

/-- What stands ahead may wait. -/
theorem bubble {i : Nat} {oi : Oper} {l2 : List Nat} {K : List V → Heap → Prop} (hi : ops[i]? = some oi) (gi : okG g oi = true) : ∀ {l1 : List Nat} {env : List V} {H : Heap}, (∀ x, x ∈ l1 → ∃ ox, ops[x]? = some ox ∧ swapD P g ops ox oi = true ∧ okG g ox = true) →
    Abs.sub HS H → seqD P g HS ops (l1 ++ i :: l2) env H K → stepD P g HS ops oi env H fun e h => seqD P g HS ops (l1 ++ l2) e h K
  | [], env, H, _, hs, h => by
    simp only [List.nil_append, seqD, hi] at h ⊢
    exact h
  | x :: l1, env, H, hx, hs, h => by
    obtain ⟨ox, h1, h2, h3⟩ := hx x List.mem_cons_self
    simp only [List.cons_append, seqD, h1] at h ⊢
    exact swapDs h2 h3 gi hs (stepD_lift h hs fun e h hs' hk => bubble hi gi (fun x hm => hx x (List.mem_cons_of_mem _ hm)) hs' hk)

end

section
variable {P : Program} {g : Cfg} {w0 : World} {base : Nat} {F : Heap} {ι : Nat → Option Place} {β : Nat → Option Nat} {G : Heap} {env : List V} {H HS : Heap} {a : Act} {w : World}

theorem guard_sound (hs : St g w0 base F ι β G env H a w) {ops : Array Oper} {o : Oper} {j : Nat} {want : Bool} (hg : o.guard = some (j, want)) {A B : List V → Prop} (h : guardK ops.toList env j want A B) :
    (Region.wanted o (yielded ops a.tmps) = true ∧ A env) ∨ (Region.wanted o (yielded ops a.tmps) = false ∧ B env) := by
  obtain ⟨o', t, v, ho', ht, hv0, hv, h4, h5⟩ := guardK_elim h
  have hlt : t < a.tmps.size := by rw [← hs.len]; exact (List.getElem?_eq_some_iff.1 hv0).1
  have hrel := hs.slot t _ a.tmps[t] hv0 (by simp [hlt])
  have hpl : RelV w0 base ι v a.tmps[t] := by
    unfold SlotRel at hrel
    rcases hv with ⟨b, rfl⟩ | ⟨_, rfl⟩ <;>
    · split at hrel
      · rcases hrel with h | ⟨_, _, _, h, _⟩ <;> cases h
      · split at hrel
        · rcases hrel with h | ⟨_, _, _, _, h, _⟩ <;> cases h
        · exact hrel
  have ho2 : ops[j]? = some o' := by simpa using ho'
  have hy : yielded ops a.tmps j = (match a.tmps[t] with | .bool b => some b | _ => none) := by
    unfold yielded
    simp only [ho2, Option.bind_some, ht]
    simp [hlt]
    cases a.tmps[t] <;> rfl
  have hw : Region.wanted o (yielded ops a.tmps) = (yielded ops a.tmps j == some want) := by
    unfold Region.wanted; rw [hg]
  rcases hv with ⟨b, rfl⟩ | ⟨_, rfl⟩
  · have hcv : a.tmps[t] = .bool b := relV_bool hpl
    rw [hcv] at hy
    by_cases hb : b = want
    · subst hb; exact .inl ⟨by rw [hw, hy]; simp, h4 rfl⟩
    · exact .inr ⟨by rw [hw, hy]; simpa using hb, h5 (by intro e; cases e; exact hb rfl)⟩
  · obtain ⟨cvs, hcv, _⟩ := relL_of_tup hpl
    rw [hcv] at hy
    exact .inr ⟨by rw [hw, hy]; simp, h5 (by simp)⟩

theorem opD_up {o : Oper} {K : List V → Heap → Prop} (hs : Abs.sub HS H) (h : opD P g HS o env H K) : opK P g o env H fun e h => Abs.sub HS h ∧ K e h := by
  unfold opD at h
  split at h
  · rename_i hE
    obtain ⟨e, he, hup⟩ := E_fun hE h
    exact hup H hs _ ⟨hs, he⟩
  · exact h

theorem wpOp_sound {ops : Array Oper} {i : Nat} {o : Oper} {Q : Exit → Act → World → Prop} {next : Act → World → Prop} {K : List V → Heap → Prop} (hs : St g w0 base F ι β G env H a w) (hi : ops[i]? = some o) (hsub : Abs.sub HS H)
    (hn : Cont g w0 base F ι (fun e h => Abs.sub HS h ∧ K e h) next) (h : stepD P g HS ops.toList o env H K) : wpOp P ops Q i next a w := by
  unfold wpOp
  simp only [hi]
  unfold stepD at h
  split at h
  · rename_i hg
    rw [if_pos (by unfold Region.wanted; rw [hg])]
    exact .inl (opK_sound hs hn (opD_up hsub h))
  · rename_i j want hg
    rcases guard_sound hs hg h with ⟨h1, h2⟩ | ⟨h1, h2⟩
    · rw [if_pos h1]; exact .inl (opK_sound hs hn (opD_up hsub h2))
    · rw [if_neg (by rw [h1]; exact Bool.false_ne_true)]
      exact hn _ _ _ _ _ _ _ (ile.refl _) (skipDst_sound hs o.dst) ⟨hsub, h2⟩

theorem St.drawn (hs : St g w0 base F ι β G env H a w) (n : Nat) : St g w0 base F ι β G env H a { w with drawn := n } :=
  ⟨⟨hs.heap.obj, hs.heap.inj, ⟨hs.heap.low.os, hs.heap.low.tape, hs.heap.low.output, hs.heap.low.size, hs.heap.low.block⟩, hs.heap.base_le, hs.heap.fin⟩, hs.sub, hs.frm, hs.dis, hs.len, hs.slot, hs.binj, hs.bout, hs.bin, hs.nodef⟩

/-! #### the order -/

theorem depsOf_mem {o : Oper} {d : Nat} : d ∈ depsOf o ↔ ∃ e ∈ o.after, Region.binds .any e = true ∧ e.on = d := by
  unfold depsOf
  simp only [List.mem_map, List.mem_filter, Array.mem_toList_iff]
  constructor
  · rintro ⟨e, ⟨h1, h2⟩, h3⟩; exact ⟨e, h1, h2, h3⟩
  · rintro ⟨e, h1, h2, h3⟩; exact ⟨e, ⟨h1, h2⟩, h3⟩

/-- All that an entry waits for is listed. -/
def closed (ops : List Oper) (lst : Nat → Bool) : Prop := ∀ z o, lst z = true → ops[z]? = some o → ∀ d, d ∈ depsOf o → lst d = true
/-- A table of what stands ahead is right. -/
def tabRight (ops : List Oper) (tab : List Nat) : Prop := ∀ (y : Nat) (o : Oper) (x : Nat), ops[y]? = some o → Nat.testBit (tab.getD y 0) x = true → ∀ lst, closed ops lst → (∀ d, d ∈ depsOf o → lst d = true) → lst x = true
theorem maskOf_bit {tab : List Nat} {x : Nat} : ∀ {ds : List Nat}, Nat.testBit (maskOf tab ds) x = true → ∃ d, d ∈ ds ∧ (d = x ∨ Nat.testBit (tab.getD d 0) x = true)
  | [], h => by simp [maskOf] at h
  | d :: ds, h => by
    simp only [maskOf, Nat.testBit_or, Bool.or_eq_true] at h
    rcases h with (h | h) | h
    · rw [Nat.testBit_two_pow] at h
      exact ⟨d, List.mem_cons_self, .inl (by simpa using h)⟩
    · exact ⟨d, List.mem_cons_self, .inr h⟩
    · obtain ⟨d', h1, h2⟩ := maskOf_bit h
      exact ⟨d', List.mem_cons_of_mem _ h1, h2⟩
theorem tabRight_set {ops : List Oper} {tab : List Nat} {i : Nat} {o : Oper} (hd : (depsOf o).all (fun d => Nat.blt d ops.length) = true) (hi : ops[i]? = some o) (h : tabRight ops tab) : tabRight ops (tab.set i (maskOf tab (depsOf o))) := by
  intro y o' x hy hb lst hc hdeps
  by_cases e : i = y
  · subst e
    rw [hi] at hy; cases hy
    by_cases hlt : i < tab.length
    · simp only [List.getD_eq_getElem?_getD, List.getElem?_set_self hlt, Option.getD_some] at hb
      obtain ⟨d, h1, h2⟩ := maskOf_bit hb
      rcases h2 with rfl | h2
      · exact hdeps d h1
      · have hdl : d < ops.length := by
          have := List.all_eq_true.1 hd d h1
          rw [Nat.blt_eq] at this; exact this
        exact h d ops[d] x (by simp [hdl]) h2 lst hc (hc d ops[d] (hdeps d h1) (by simp [hdl]))
    · rw [List.getD_eq_getElem?_getD, List.getElem?_eq_none (by simp; omega)] at hb
      simp at hb
  · rw [List.getD_eq_getElem?_getD, List.getElem?_set_ne e, ← List.getD_eq_getElem?_getD] at hb
    exact h y o' x hy hb lst hc hdeps
theorem tabOf_right {ops : List Oper} : ∀ {l : List Nat} {tab : List Nat}, (∀ i o, i ∈ l → ops[i]? = some o → (depsOf o).all (fun d => Nat.blt d ops.length) = true) → tabRight ops tab → tabRight ops (tabOf ops l tab)
  | [], tab, _, h => h
  | i :: l, tab, hl, h => by
    unfold tabOf
    split
    · rename_i o ho
      exact tabOf_right (fun i o hm => hl i o (List.mem_cons_of_mem _ hm)) (tabRight_set (hl i o List.mem_cons_self ho) ho h)
    · exact tabOf_right (fun i o hm => hl i o (List.mem_cons_of_mem _ hm)) h

theorem okTail_spec {ops : List Oper} {tab : List Nat} {x : Nat} {o : Oper} : ∀ {r : List Nat}, okTail P g ops tab x o r = true ↔ ∀ y, y ∈ r → ∃ o', ops[y]? = some o' ∧ (Nat.testBit (tab.getD y 0) x = true ∨ swapD P g ops o o' = true) ∧ y ∉ depsOf o
  | [] => by simp [okTail]
  | y :: r => by
    unfold okTail
    rw [Bool.and_eq_true, okTail_spec]
    constructor
    · rintro ⟨h1, h2⟩ z hz
      rcases List.mem_cons.1 hz with rfl | hz
      · split at h1
        · rename_i o' ho'
          simp only [Bool.and_eq_true, Bool.or_eq_true, Bool.not_eq_true'] at h1
          exact ⟨o', ho', h1.1, fun hm => by have := h1.2; simp [hm] at this⟩
        · cases h1
      · exact h2 z hz
    · intro h
      refine ⟨?_, fun z hz => h z (List.mem_cons_of_mem _ hz)⟩
      obtain ⟨o', h1, h2, h3⟩ := h y List.mem_cons_self
      rw [h1]
      simp only [Bool.and_eq_true, Bool.or_eq_true, Bool.not_eq_true']
      exact ⟨h2, by simpa using h3⟩

theorem okOrder_cons {ops : List Oper} {tab : List Nat} {x : Nat} {r : List Nat} (h : okOrder P g ops tab (x :: r) = true) :
    ∃ o, ops[x]? = some o ∧ okTail P g ops tab x o r = true ∧ x ∉ depsOf o ∧ okG g o = true ∧ (depsOf o).all (fun d => Nat.blt d ops.length) = true ∧ x ∉ r ∧ okOrder P g ops tab r = true := by
  unfold okOrder at h
  simp only [Bool.and_eq_true, Bool.not_eq_true'] at h
  obtain ⟨⟨h1, h2⟩, h3⟩ := h
  split at h1
  · rename_i o ho
    simp only [Bool.and_eq_true, Bool.not_eq_true'] at h1
    exact ⟨o, ho, h1.1.1.1, fun hm => by have := h1.1.1.2; simp [hm] at this, h1.1.2, h1.2, fun hm => by simp [hm] at h2, h3⟩
  · cases h1
theorem okOrder_mem {ops : List Oper} {tab : List Nat} : ∀ {r : List Nat}, okOrder P g ops tab r = true → ∀ x, x ∈ r → ∃ o, ops[x]? = some o ∧ okG g o = true ∧ (depsOf o).all (fun d => Nat.blt d ops.length) = true
  | [], _, x, hx => by simp at hx
  | y :: r, h, x, hx => by
    obtain ⟨o, h1, _, _, h4, h5, _, h7⟩ := okOrder_cons h
    rcases List.mem_cons.1 hx with rfl | hx
    · exact ⟨o, h1, h4, h5⟩
    · exact okOrder_mem h7 x hx
theorem okOrder_mk {ops : List Oper} {tab : List Nat} {x : Nat} {r : List Nat} {o : Oper} (h1 : ops[x]? = some o) (h2 : okTail P g ops tab x o r = true) (h3 : x ∉ depsOf o) (h4 : okG g o = true) (h5 : (depsOf o).all (fun d => Nat.blt d ops.length) = true) (h6 : x ∉ r) (h7 : okOrder P g ops tab r = true) : okOrder P g ops tab (x :: r) = true := by
  unfold okOrder
  simp only [h1, h2, h4, h5, h7, Bool.true_and, Bool.and_true, Bool.and_eq_true, Bool.not_eq_true']
  exact ⟨by simpa using h3, by simpa using h6⟩
/-- One taken out: the rest is still in order, and what stood ahead of it is named or may wait. -/
theorem okOrder_out {ops : List Oper} {tab : List Nat} {i : Nat} {l2 : List Nat} : ∀ {l1 : List Nat}, okOrder P g ops tab (l1 ++ i :: l2) = true → okOrder P g ops tab (l1 ++ l2) = true ∧
    (∀ x, x ∈ l1 → ∃ ox oi, ops[x]? = some ox ∧ ops[i]? = some oi ∧ (Nat.testBit (tab.getD i 0) x = true ∨ swapD P g ops ox oi = true) ∧ okG g ox = true) ∧ i ∉ l1 ++ l2
  | [], h => by
    obtain ⟨o, h1, h2, h3, h4, h5, h6, h7⟩ := okOrder_cons h
    exact ⟨h7, fun x hx => by simp at hx, h6⟩
  | y :: l1, h => by
    obtain ⟨o, h1, h2, h3, h4, h5, h6, h7⟩ := okOrder_cons h
    obtain ⟨q1, q2, q3⟩ := okOrder_out h7
    rw [okTail_spec] at h2
    refine ⟨okOrder_mk h1 (okTail_spec.2 fun z hz => h2 z ?_) h3 h4 h5 (fun hm => h6 ?_) q1, fun x hx => ?_, fun hm => ?_⟩
    · rcases List.mem_append.1 hz with h | h
      · exact List.mem_append_left _ h
      · exact List.mem_append_right _ (List.mem_cons_of_mem _ h)
    · rcases List.mem_append.1 hm with h | h
      · exact List.mem_append_left _ h
      · exact List.mem_append_right _ (List.mem_cons_of_mem _ h)
    · rcases List.mem_cons.1 hx with rfl | hx
      · obtain ⟨oi, r1, r2, _⟩ := h2 i (List.mem_append_right _ List.mem_cons_self)
        exact ⟨o, oi, h1, r1, r2, h4⟩
      · exact q2 x hx
    · rcases List.mem_cons.1 hm with rfl | hm
      · exact h6 (List.mem_append_right _ List.mem_cons_self)
      · exact q3 hm

theorem anyD_sound {ops : Array Oper} {Q : Exit → Act → World → Prop} {K : List V → Heap → Prop} {tab : List Nat} (htab : tabRight ops.toList tab) :
    ∀ (fuel : Nat) (rem : List Nat) (listed : Array Bool) {env : List V} {H : Heap} {ι : Nat → Option Place} {β : Nat → Option Nat} {G : Heap} {a : Act} {w : World}, rem.length ≤ fuel →
      listed.size = ops.size → (∀ i, i < ops.size → (listed.getD i true = false ↔ i ∈ rem)) → closed ops.toList (fun d => listed.getD d false) → okOrder P g ops.toList tab rem = true →
      St g w0 base F ι β G env H a w → Abs.sub HS H → Cont g w0 base F ι K (Q .normal) → seqD P g HS ops.toList rem env H K → wpAny P .any ops Q fuel listed a w := by
  intro fuel
  have hnil : ∀ (listed : Array Bool), listed.size = ops.size → (∀ i, i < ops.size → (listed.getD i true = false ↔ i ∈ ([] : List Nat))) → Region.ready .any ops listed = [] := by
    intro listed hsz hl
    apply List.eq_nil_iff_forall_not_mem.2
    intro i hi
    obtain ⟨h0, o, ho, _⟩ := mem_ready.1 hi
    have := (hl i (Array.getElem?_eq_some_iff.1 ho).1).1 h0
    simp at this
  induction fuel with
  | zero =>
    intro rem listed env H ι β G a w hf hsz hl hc hok hs hsub hn h
    have : rem = [] := List.eq_nil_of_length_eq_zero (by omega)
    subst this
    exact ⟨hnil listed hsz hl, hn _ _ _ _ _ _ _ (ile.refl _) hs h⟩
  | succ fuel ih =>
    intro rem listed env H ι β G a w hf hsz hl hc hok hs hsub hn h
    refine ⟨fun hr => ?_, fun i hi => ?_⟩
    · cases rem with
      | nil => exact hn _ _ _ _ _ _ _ (ile.refl _) hs h
      | cons x r =>
        exfalso
        obtain ⟨o, h1, h2, h3, h4, h5, h6, h7⟩ := okOrder_cons hok
        have h1' : ops[x]? = some o := by simpa using h1
        have hx : x ∈ Region.ready .any ops listed := by
          refine mem_ready.2 ⟨(hl x (Array.getElem?_eq_some_iff.1 h1').1).2 List.mem_cons_self, o, h1', fun e he hb => ?_⟩
          have hd : e.on ∈ depsOf o := depsOf_mem.2 ⟨e, he, hb, rfl⟩
          have hlt : e.on < ops.size := by
            have := List.all_eq_true.1 h5 _ hd
            rw [Nat.blt_eq] at this; simpa using this
          have hnot : e.on ∉ x :: r := by
            intro hm
            rcases List.mem_cons.1 hm with q | q
            · rw [q] at hd; exact h3 hd
            · obtain ⟨_, _, _, q3⟩ := okTail_spec.1 h2 _ q
              exact q3 hd
          have hlt' : e.on < listed.size := by omega
          have := mt (hl e.on hlt).1 hnot
          simp [Array.getD, hlt'] at this ⊢
          exact this
        rw [hr] at hx; simp at hx
    · obtain ⟨h0, oi, hoi, hdeps⟩ := mem_ready.1 hi
      have hilt : i < ops.size := (Array.getElem?_eq_some_iff.1 hoi).1
      have him : i ∈ rem := (hl i hilt).1 h0
      obtain ⟨l1, l2, rfl⟩ := List.append_of_mem him
      obtain ⟨q1, q2, q3⟩ := okOrder_out hok
      have hoi' : ops.toList[i]? = some oi := by simpa using hoi
      have gi : okG g oi = true := by
        obtain ⟨o, r1, r2, _⟩ := okOrder_mem hok i him
        rw [hoi'] at r1; cases r1; exact r2
      have hb := bubble (K := K) hoi' gi (fun x hx => by
        obtain ⟨ox, oi2, r1, r2, r3, r4⟩ := q2 x hx
        rw [hoi'] at r2; cases r2
        refine ⟨ox, r1, r3.resolve_left fun hbit => ?_, r4⟩
        have hlx := htab i oi x hoi' hbit (fun d => listed.getD d false) hc (fun d hd => by
          obtain ⟨e, he, hbnd, rfl⟩ := depsOf_mem.1 hd
          exact hdeps e he hbnd)
        have hxlt : x < ops.size := by
          have : ops[x]? = some ox := by simpa using r1
          exact (Array.getElem?_eq_some_iff.1 this).1
        have := (hl x hxlt).2 (List.mem_append_left _ hx)
        have hlt' : x < listed.size := by omega
        simp [Array.getD, hlt'] at this hlx
        rw [this] at hlx; cases hlx) hsub h
      refine wpOp_sound hs hoi hsub (fun ι' β' G' env' H' a' w' hi' hs' hk => ?_) hb
      refine ih (l1 ++ l2) (listed.setIfInBounds i true) (by simp at hf ⊢; omega) (by simpa using hsz) (fun j hj => ?_) ?_ q1 hs' hk.1 (fun ι'' β'' G'' env'' H'' a'' w'' hi'' hs'' hk'' => hn _ _ _ _ _ _ _ (hi'.trans hi'') hs'' hk'') hk.2
      · by_cases e : i = j
        · subst e
          have hlt' : i < listed.size := by omega
          simp only [q3, iff_false]
          simp [Array.getD, hlt']
        · rw [getD_set_ne true e, hl j hj]
          simp only [List.mem_append, List.mem_cons]
          constructor
          · rintro (h | h | h)
            · exact .inl h
            · exact absurd h.symm e
            · exact .inr h
          · rintro (h | h)
            · exact .inl h
            · exact .inr (.inr h)
      · intro z o hz ho d hd
        by_cases e : i = z
        · subst e
          rw [hoi'] at ho; cases ho
          obtain ⟨e', he, hbnd, rfl⟩ := depsOf_mem.1 hd
          exact getD_set_true (hdeps e' he hbnd)
        · have hz' : listed.getD z false = true := by
            have := getD_set_ne (listed := listed) (i := i) (j := z) false e
            simp only at hz
            rw [this] at hz; exact hz
          exact getD_set_true (hc z o hz' ho d hd)

theorem drawK_sound {id : Nat} {ops : Array Oper} {order : List Nat} {Q : Exit → Act → World → Prop} {K : List V → Heap → Prop} (hs : St g w0 base F ι β G env H a w) (hn : Cont g w0 base F ι K (Q .normal)) (hk : drawK P g ops.toList order env H K) :
    (Code.region id ops true).wp P Q a w := by
  unfold drawK at hk
  split at hk
  case h_2 => exact hk.elim
  rename_i hok
  obtain ⟨HS, hsub, hk⟩ := hk
  unfold okDraw at hok
  simp only [Bool.and_eq_true] at hok
  obtain ⟨⟨⟨h1, hle⟩, h2⟩, h3⟩ := hok
  have hmem : ∀ i o, i ∈ order → ops.toList[i]? = some o → (depsOf o).all (fun d => Nat.blt d ops.toList.length) = true := fun i o hm ho => by
    obtain ⟨o', r1, _, r3⟩ := okOrder_mem h3 i hm
    rw [ho] at r1; cases r1; exact r3
  have htab : tabRight ops.toList (tabOf ops.toList order (List.replicate ops.toList.length 0)) := tabOf_right hmem fun y o x _ hb => by
    rw [List.getD_eq_getElem?_getD, List.getElem?_replicate] at hb
    split at hb <;> simp at hb
  have hin : ∀ i, i < ops.size → i ∈ order := fun i hi => by
    have := List.all_eq_true.1 h2 i (by simpa using hi)
    simpa using this
  have hlen : order.length ≤ ops.size := by simpa using Nat.le_of_ble_eq_true hle
  refine wp_region_any h1 (anyD_sound htab ops.size order (Array.replicate ops.size false) hlen (by simp) (fun i hi => ?_) ?_ h3 (hs.drawn _) hsub hn hk)
  · simp [Array.getD, hi, hin i hi]
  · intro z o hz
    exfalso
    simp only [Array.getD] at hz
    split at hz <;> simp at hz

end

/-! #### heap reads that keep their place -/
section
variable {P : Program} {g : Cfg} {H : Heap} {env env' : List V} {ops : List Oper}
theorem none_sub (H : Heap) : Abs.sub noHeap H := fun _ _ h => by cases h
theorem isE_of_E0 {o : Oper} (h : isE0 g o = true) : isE g o = true := by unfold isE0 at h; rw [Bool.and_eq_true] at h; exact h.1
theorem opH_lift {o : Oper} {K K' : List V → Heap → Prop} (h : opH P g o env H K) (hk : ∀ e h, K e h → K' e h) : opH P g o env H K' := by
  unfold opH at *
  split at h
  · exact opK_lift h fun e _ _ h => hk e H h
  · exact opK_lift h fun e h' _ h => hk e h' h
theorem stepH_lift {o : Oper} {K K' : List V → Heap → Prop} (h : stepH P g ops o env H K) (hk : ∀ e h, K e h → K' e h) : stepH P g ops o env H K' := by
  unfold stepH at *
  split at h
  · exact opH_lift h hk
  · obtain ⟨o', t, b, h1, h2, h3, hv, h4, h5⟩ := guardK_elim h
    exact guardK_intro h1 h2 h3 hv (fun e => opH_lift (h4 e) hk) (fun e => hk _ _ (h5 e))
theorem opH_rel {o : Oper} {K : List V → Heap → Prop} (hlen : env.length = env'.length) (hsm : Same g (opnds o.op) env env') (h : opH P g o env H K) : opH P g o env' H (Post g o env env' K) := by
  unfold opH at *
  split at h
  · exact opK_lift (opK_rel hlen hsm h) fun e _ _ ⟨e0, q0, q⟩ => ⟨e0, q0, q⟩
  · exact opK_rel hlen hsm h
theorem stepH_rel {o : Oper} {K : List V → Heap → Prop} (hG : okG g o = true) (hlen : env.length = env'.length) (hr : ∀ s, s ∈ rds g o → env[s]? = env'[s]?) (hgs : ∀ s, s ∈ gslot ops o → env[s]? = env'[s]?)
    (h : stepH P g ops o env H K) : stepH P g ops o env' H (Post g o env env' K) := by
  unfold stepH at *
  split at h
  · exact opH_rel hlen (Same.of_rds hr) h
  · rename_i j want hg
    obtain ⟨o', t, b, h1, h2, h3, hv, h4, h5⟩ := guardK_elim h
    refine guardK_intro h1 h2 (by rw [← hgs t (gslot_mem hg h1 h2)]; exact h3) hv (fun e => opH_rel hlen (Same.of_rds hr) (h4 e)) fun e => ?_
    refine ⟨_, h5 e, by rw [skip_len, skip_len, hlen], skip_agree _, skip_agree _, fun s hs => ?_⟩
    by_cases hd : s ∈ dstL o.dst
    · exact skip_same _ hlen hd
    · rw [skip_get _ _ hd, skip_get _ _ hd]
      exact hr s (okG_spec hG (by rw [hg]; simp) hs hd)
/-- A pure step, at the heap that it looks at. -/
theorem stepH_D {o : Oper} {K : List V → Heap → Prop} (hE : isE g o = true) (h : stepH P g ops o env H K) : stepD P g H ops o env H K := by
  have main : opH P g o env H K → opD P g H o env H K := fun h => by
    unfold opH at h
    unfold opD
    rw [hE]
    split at h
    · obtain ⟨e, h1, h2⟩ := E_fun hE h
      exact h2 H (none_sub H) _ h1
    · obtain ⟨e, h1, h2⟩ := E_fun hE h
      exact h2 H (Abs.sub_refl _) _ h1
  unfold stepH at h
  unfold stepD
  split at h
  · exact main h
  · obtain ⟨o', t, b, h1, h2, h3, hv, h4, h5⟩ := guardK_elim h
    exact guardK_intro h1 h2 h3 hv (fun e => main (h4 e)) (fun e => h5 e)
theorem stepD_H {o : Oper} {K : List V → Heap → Prop} (hE : isE g o = true) (h0 : isE0 g o = false) (h : stepD P g H ops o env H K) : stepH P g ops o env H K := by
  have main : opD P g H o env H K → opH P g o env H K := fun h => by
    unfold opD at h
    rw [hE] at h
    unfold opH
    rw [h0]
    obtain ⟨e, h1, h2⟩ := E_fun hE h
    exact h2 H (Abs.sub_refl _) _ h1
  unfold stepD at h
  unfold stepH
  split at h
  · exact main h
  · obtain ⟨o', t, b, h1, h2, h3, hv, h4, h5⟩ := guardK_elim h
    exact guardK_intro h1 h2 h3 hv (fun e => main (h4 e)) (fun e => h5 e)
theorem stepH_D0 {o : Oper} {K : List V → Heap → Prop} (h0 : isE0 g o = true) (h : stepH P g ops o env H K) : stepD P g noHeap ops o env H K := by
  have hE := isE_of_E0 h0
  have main : opH P g o env H K → opD P g noHeap o env H K := fun h => by
    unfold opH at h; rw [h0] at h
    unfold opD; rw [hE]; exact h
  unfold stepH at h
  unfold stepD
  split at h
  · exact main h
  · obtain ⟨o', t, b, h1, h2, h3, hv, h4, h5⟩ := guardK_elim h
    exact guardK_intro h1 h2 h3 hv (fun e => main (h4 e)) (fun e => h5 e)
theorem stepD0_H {o : Oper} {K : List V → Heap → Prop} (h0 : isE0 g o = true) (h : stepD P g noHeap ops o env H K) : stepH P g ops o env H K := by
  have hE := isE_of_E0 h0
  have main : opD P g noHeap o env H K → opH P g o env H K := fun h => by
    unfold opD at h; rw [hE] at h
    unfold opH; rw [h0]; exact h
  unfold stepD at h
  unfold stepH
  split at h
  · exact main h
  · obtain ⟨o', t, b, h1, h2, h3, hv, h4, h5⟩ := guardK_elim h
    exact guardK_intro h1 h2 h3 hv (fun e => main (h4 e)) (fun e => h5 e)
/-- A pure step has one outcome, at the heap as it stands. -/
theorem stepH_fun {x : Oper} {K : List V → Heap → Prop} (hE : isE g x = true) (hG : okG g x = true) (h : stepH P g ops x env H K) :
    ∃ e, K e H ∧ e.length = env.length ∧ agree (wrs g x) env e ∧ ∀ env', env.length = env'.length → (∀ s, s ∈ rds g x → env[s]? = env'[s]?) → (∀ s, s ∈ gslot ops x → env[s]? = env'[s]?) →
      ∀ (H2 : Heap) (K' : List V → Heap → Prop), (isE0 g x = true ∨ H2 = H) → (∀ e', e'.length = env'.length → (∀ s, s ∈ wrs g x → e[s]? = e'[s]?) → (∀ s, s ∉ wrs g x → env'[s]? = e'[s]?) → K' e' H2) → stepH P g ops x env' H2 K' := by
  cases h0 : isE0 g x with
  | true =>
    obtain ⟨e, h1, h2, h3, h4⟩ := stepD_fun hE hG (stepH_D0 h0 h)
    exact ⟨e, h1, h2, h3, fun env' q1 q2 q3 H2 K' _ hk => stepD0_H h0 (h4 env' q1 q2 q3 H2 K' hk)⟩
  | false =>
    obtain ⟨e, h1, h2, h3, h4⟩ := stepD_fun hE hG (stepH_D hE h)
    refine ⟨e, h1, h2, h3, fun env' q1 q2 q3 H2 K' hh hk => ?_⟩
    rcases hh with hh | rfl
    · cases hh
    · exact stepD_H hE h0 (h4 env' q1 q2 q3 H2 K' hk)
/-- A pure step leaves the heap. -/
theorem stepH_stay {y : Oper} {K : List V → Heap → Prop} (hE : isE g y = true) (hG : okG g y = true) (h : stepH P g ops y env H K) : stepH P g ops y env H fun e h => h = H ∧ K e h := by
  obtain ⟨e, h1, h2, h3, h4⟩ := stepH_fun hE hG h
  refine h4 env rfl (fun _ _ => rfl) (fun _ _ => rfl) H _ (.inr rfl) fun e' q1 q2 q3 => ⟨rfl, ?_⟩
  have : e' = e := by
    apply List.ext_getElem?
    intro s
    by_cases hs : s ∈ wrs g y
    · exact (q2 s hs).symm
    · rw [← q3 s hs, h3.2 s hs]
  rw [this]; exact h1
theorem swapHe {x y : Oper} {K : List V → Heap → Prop} (hok : ((isE0 g x || isE g y) && swapOk g ops x y) = true) (gx : okG g x = true) (gy : okG g y = true) (h : stepH P g ops x env H fun e h => stepH P g ops y e h K) :
    stepH P g ops y env H fun e h => stepH P g ops x e h K := by
  rw [Bool.and_eq_true] at hok
  obtain ⟨hor, hok⟩ := hok
  unfold swapOk at hok
  simp only [Bool.and_eq_true] at hok
  obtain ⟨⟨⟨⟨⟨hE, n1⟩, n2⟩, n3⟩, n4⟩, n5⟩ := hok
  obtain ⟨e1, h1, hl, ha, hf⟩ := stepH_fun hE gx h
  have fin : ∀ (e' : List V) (h' : Heap), (isE0 g x = true ∨ h' = H) → Post g y e1 env K e' h' → stepH P g ops x e' h' K := by
    rintro e' h' hh ⟨e2, q1, q2, q3, q4, q5⟩
    refine hf e' q4.1 (fun s hs => q4.2 s fun hw => noneIn_spec n4 hw hs) (fun s hs => q4.2 s fun hw => noneIn_spec n5 hw hs) h' K hh fun e'' r1 r2 r3 => ?_
    have : e'' = e2 := by
      apply List.ext_getElem?
      intro s
      by_cases hx : s ∈ wrs g x
      · rw [← r2 s hx]
        exact q3.2 s fun hw => noneIn_spec n3 hx hw
      · rw [← r3 s hx]
        by_cases hyw : s ∈ wrs g y
        · exact (q5 s hyw).symm
        · rw [← q4.2 s hyw, ha.2 s hx, q3.2 s hyw]
    rw [this]; exact q1
  have rel : ∀ {K : List V → Heap → Prop}, stepH P g ops y e1 H K → stepH P g ops y env H (Post g y e1 env K) := fun h =>
    stepH_rel gy hl (fun s hs => ((ha.2 s fun hw => noneIn_spec n1 hw hs)).symm) (fun s hs => ((ha.2 s fun hw => noneIn_spec n2 hw hs)).symm) h
  rw [Bool.or_eq_true] at hor
  rcases hor with h0 | hEy
  · exact stepH_lift (rel h1) fun e' h' hp => fin e' h' (.inl h0) hp
  · refine stepH_lift (rel (stepH_stay hEy gy h1)) fun e' h' hp => ?_
    obtain ⟨e2, ⟨q0, q1⟩, q⟩ := hp
    exact fin e' h' (.inr q0) ⟨e2, q1, q⟩

theorem opH_frame {x : Oper} {K : List V → Heap → Prop} {q : Nat} {ob : Ob} (hq : H q = none) (h : opH P g x env H K) : opH P g x env (upd H q ob) (Fr q ob K) := by
  unfold opH at *
  split at h
  · exact opK_lift h fun e _ _ h => ⟨H, hq, rfl, h⟩
  · exact opK_frame hq h
theorem stepH_frame {x : Oper} {K : List V → Heap → Prop} {q : Nat} {ob : Ob} (hq : H q = none) (h : stepH P g ops x env H K) : stepH P g ops x env (upd H q ob) (Fr q ob K) := by
  unfold stepH at *
  split at h
  · exact opH_frame hq h
  · obtain ⟨o', t, b, h1, h2, h3, hv, h4, h5⟩ := guardK_elim h
    exact guardK_intro h1 h2 h3 hv (fun e => opH_frame hq (h4 e)) (fun e => ⟨H, hq, rfl, h5 e⟩)
theorem swapHa {x y : Oper} {K : List V → Heap → Prop} (hy : isA0 P g y = true) (hok : swapA g ops x y = true) (gx : okG g x = true) (h : stepH P g ops x env H fun e h => stepH P g ops y e h K) :
    stepH P g ops y env H fun e h => stepH P g ops x e h K := by
  unfold isA0 at hy
  simp only [Bool.and_eq_true] at hy
  obtain ⟨hguard, hsome⟩ := hy
  have hg : y.guard = none := by simpa using hguard
  obtain ⟨⟨ob, b, n, d⟩, hob⟩ := Option.isSome_iff_exists.1 hsome
  have h0 := isE0_alloc hob
  have shape : ∀ (env : List V) (H : Heap) (K : List V → Heap → Prop), stepH P g ops y env H K ↔ ∀ q, H q = none → K (env.set d (mkA b n q)) (upd H q ob) := fun env H K => by
    unfold stepH opH
    rw [hg, h0]
    exact (opK_A hob K).2.2
  have hd : y.dst = some d := (opK_A (env := env) (H := H) hob K).1
  have hdw : d ∈ wrs g y := dst_wrs (by rw [hd]; simp [dstL])
  unfold swapA at hok
  simp only [Bool.and_eq_true] at hok
  obtain ⟨⟨⟨n1, n2⟩, n3⟩, n4⟩ := hok
  rw [shape]
  intro q hq
  have hxr := stepH_rel (env' := env.set d (mkA b n q)) gx (by simp) (fun s hs => by
      have : d ≠ s := by rintro rfl; exact noneIn_spec n3 hdw hs
      rw [List.getElem?_set_ne this]) (fun s hs => by
      have : d ≠ s := by rintro rfl; exact noneIn_spec n4 hdw hs
      rw [List.getElem?_set_ne this]) (stepH_frame (ob := ob) hq h)
  refine stepH_lift hxr fun e' H' hp => ?_
  obtain ⟨e0, ⟨H1, a1, rfl, a3⟩, p1, p2, p3, p4⟩ := hp
  rw [shape] at a3
  have hk := a3 q a1
  have hdx : d ∉ wrs g x := fun hm => noneIn_spec n2 hm hdw
  have : e0.set d (mkA b n q) = e' := by
    apply List.ext_getElem?
    intro s
    by_cases hs : s = d
    · subst hs
      have := p3.2 s hdx
      rw [← this]
      by_cases hl : s < env.length
      · rw [List.getElem?_set_self (by rw [← p2.1]; exact hl), List.getElem?_set_self hl]
      · rw [List.getElem?_eq_none (by simp; rw [← p2.1]; omega), List.getElem?_eq_none (by simp; omega)]
    · rw [List.getElem?_set_ne (Ne.symm hs)]
      by_cases hx : s ∈ wrs g x
      · exact p4 s hx
      · rw [← p2.2 s hx, ← p3.2 s hx, List.getElem?_set_ne (Ne.symm hs)]
  rw [← this]; exact hk
theorem swapHs {x y : Oper} {K : List V → Heap → Prop} (hok : swapH P g ops x y = true) (gx : okG g x = true) (gy : okG g y = true) (h : stepH P g ops x env H fun e h => stepH P g ops y e h K) :
    stepH P g ops y env H fun e h => stepH P g ops x e h K := by
  unfold swapH at hok
  rw [Bool.or_eq_true] at hok
  rcases hok with hok | hok
  · exact swapHe hok gx gy h
  · rw [Bool.and_eq_true] at hok
    exact swapHa hok.1 hok.2 gx h
theorem bubbleH {i : Nat} {oi : Oper} {l2 : List Nat} {K : List V → Heap → Prop} (hi : ops[i]? = some oi) (gi : okG g oi = true) : ∀ {l1 : List Nat} {env : List V} {H : Heap}, (∀ x, x ∈ l1 → ∃ ox, ops[x]? = some ox ∧ swapH P g ops ox oi = true ∧ okG g ox = true) →
    seqH P g ops (l1 ++ i :: l2) env H K → stepH P g ops oi env H fun e h => seqH P g ops (l1 ++ l2) e h K
  | [], env, H, _, h => by
    simp only [List.nil_append, seqH, hi] at h ⊢
    exact h
  | x :: l1, env, H, hx, h => by
    obtain ⟨ox, h1, h2, h3⟩ := hx x List.mem_cons_self
    simp only [List.cons_append, seqH, h1] at h ⊢
    exact swapHs h2 h3 gi (stepH_lift h fun e h hk => bubbleH hi gi (fun x hm => hx x (List.mem_cons_of_mem _ hm)) hk)
end

section
variable {P : Program} {g : Cfg} {w0 : World} {base : Nat} {F : Heap} {ι : Nat → Option Place} {β : Nat → Option Nat} {G : Heap} {env : List V} {H : Heap} {a : Act} {w : World}
theorem opH_up {o : Oper} {K : List V → Heap → Prop} (h : opH P g o env H K) : opK P g o env H K := by
  unfold opH at h
  split at h
  · rename_i h0
    obtain ⟨e, he, hup⟩ := E_fun (isE_of_E0 h0) h
    exact hup H (none_sub H) _ he
  · exact h
theorem wpOpH_sound {ops : Array Oper} {i : Nat} {o : Oper} {Q : Exit → Act → World → Prop} {next : Act → World → Prop} {K : List V → Heap → Prop} (hs : St g w0 base F ι β G env H a w) (hi : ops[i]? = some o)
    (hn : Cont g w0 base F ι K next) (h : stepH P g ops.toList o env H K) : wpOp P ops Q i next a w := by
  unfold wpOp
  simp only [hi]
  unfold stepH at h
  split at h
  · rename_i hg
    rw [if_pos (by unfold Region.wanted; rw [hg])]
    exact .inl (opK_sound hs hn (opH_up h))
  · rename_i j want hg
    rcases guard_sound hs hg h with ⟨h1, h2⟩ | ⟨h1, h2⟩
    · rw [if_pos h1]; exact .inl (opK_sound hs hn (opH_up h2))
    · rw [if_neg (by rw [h1]; exact Bool.false_ne_true)]
      exact hn _ _ _ _ _ _ _ (ile.refl _) (skipDst_sound hs o.dst) h2

theorem okTailH_spec {ops : List Oper} {tab : List Nat} {x : Nat} {o : Oper} : ∀ {r : List Nat}, okTailH P g ops tab x o r = true ↔ ∀ y, y ∈ r → ∃ o', ops[y]? = some o' ∧ (Nat.testBit (tab.getD y 0) x = true ∨ swapH P g ops o o' = true) ∧ y ∉ depsOf o
  | [] => by simp [okTailH]
  | y :: r => by
    unfold okTailH
    rw [Bool.and_eq_true, okTailH_spec]
    constructor
    · rintro ⟨h1, h2⟩ z hz
      rcases List.mem_cons.1 hz with rfl | hz
      · split at h1
        · rename_i o' ho'
          simp only [Bool.and_eq_true, Bool.or_eq_true, Bool.not_eq_true'] at h1
          exact ⟨o', ho', h1.1, fun hm => by have := h1.2; simp [hm] at this⟩
        · cases h1
      · exact h2 z hz
    · intro h
      refine ⟨?_, fun z hz => h z (List.mem_cons_of_mem _ hz)⟩
      obtain ⟨o', h1, h2, h3⟩ := h y List.mem_cons_self
      rw [h1]
      simp only [Bool.and_eq_true, Bool.or_eq_true, Bool.not_eq_true']
      exact ⟨h2, by simpa using h3⟩

theorem okOrderH_cons {ops : List Oper} {tab : List Nat} {x : Nat} {r : List Nat} (h : okOrderH P g ops tab (x :: r) = true) :
    ∃ o, ops[x]? = some o ∧ okTailH P g ops tab x o r = true ∧ x ∉ depsOf o ∧ okG g o = true ∧ (depsOf o).all (fun d => Nat.blt d ops.length) = true ∧ x ∉ r ∧ okOrderH P g ops tab r = true := by
  unfold okOrderH at h
  simp only [Bool.and_eq_true, Bool.not_eq_true'] at h
  obtain ⟨⟨h1, h2⟩, h3⟩ := h
  split at h1
  · rename_i o ho
    simp only [Bool.and_eq_true, Bool.not_eq_true'] at h1
    exact ⟨o, ho, h1.1.1.1, fun hm => by have := h1.1.1.2; simp [hm] at this, h1.1.2, h1.2, fun hm => by simp [hm] at h2, h3⟩
  · cases h1
theorem okOrderH_mem {ops : List Oper} {tab : List Nat} : ∀ {r : List Nat}, okOrderH P g ops tab r = true → ∀ x, x ∈ r → ∃ o, ops[x]? = some o ∧ okG g o = true ∧ (depsOf o).all (fun d => Nat.blt d ops.length) = true
  | [], _, x, hx => by simp at hx
  | y :: r, h, x, hx => by
    obtain ⟨o, h1, _, _, h4, h5, _, h7⟩ := okOrderH_cons h
    rcases List.mem_cons.1 hx with rfl | hx
    · exact ⟨o, h1, h4, h5⟩
    · exact okOrderH_mem h7 x hx
theorem okOrderH_mk {ops : List Oper} {tab : List Nat} {x : Nat} {r : List Nat} {o : Oper} (h1 : ops[x]? = some o) (h2 : okTailH P g ops tab x o r = true) (h3 : x ∉ depsOf o) (h4 : okG g o = true) (h5 : (depsOf o).all (fun d => Nat.blt d ops.length) = true) (h6 : x ∉ r) (h7 : okOrderH P g ops tab r = true) : okOrderH P g ops tab (x :: r) = true := by
  unfold okOrderH
  simp only [h1, h2, h4, h5, h7, Bool.true_and, Bool.and_true, Bool.and_eq_true, Bool.not_eq_true']
  exact ⟨by simpa using h3, by simpa using h6⟩
/-- One taken out: the rest is still in order, and what stood ahead of it is named or may wait. -/
theorem okOrderH_out {ops : List Oper} {tab : List Nat} {i : Nat} {l2 : List Nat} : ∀ {l1 : List Nat}, okOrderH P g ops tab (l1 ++ i :: l2) = true → okOrderH P g ops tab (l1 ++ l2) = true ∧
    (∀ x, x ∈ l1 → ∃ ox oi, ops[x]? = some ox ∧ ops[i]? = some oi ∧ (Nat.testBit (tab.getD i 0) x = true ∨ swapH P g ops ox oi = true) ∧ okG g ox = true) ∧ i ∉ l1 ++ l2
  | [], h => by
    obtain ⟨o, h1, h2, h3, h4, h5, h6, h7⟩ := okOrderH_cons h
    exact ⟨h7, fun x hx => by simp at hx, h6⟩
  | y :: l1, h => by
    obtain ⟨o, h1, h2, h3, h4, h5, h6, h7⟩ := okOrderH_cons h
    obtain ⟨q1, q2, q3⟩ := okOrderH_out h7
    rw [okTailH_spec] at h2
    refine ⟨okOrderH_mk h1 (okTailH_spec.2 fun z hz => h2 z ?_) h3 h4 h5 (fun hm => h6 ?_) q1, fun x hx => ?_, fun hm => ?_⟩
    · rcases List.mem_append.1 hz with h | h
      · exact List.mem_append_left _ h
      · exact List.mem_append_right _ (List.mem_cons_of_mem _ h)
    · rcases List.mem_append.1 hm with h | h
      · exact List.mem_append_left _ h
      · exact List.mem_append_right _ (List.mem_cons_of_mem _ h)
    · rcases List.mem_cons.1 hx with rfl | hx
      · obtain ⟨oi, r1, r2, _⟩ := h2 i (List.mem_append_right _ List.mem_cons_self)
        exact ⟨o, oi, h1, r1, r2, h4⟩
      · exact q2 x hx
    · rcases List.mem_cons.1 hm with rfl | hm
      · exact h6 (List.mem_append_right _ List.mem_cons_self)
      · exact q3 hm

theorem anyH_sound {ops : Array Oper} {Q : Exit → Act → World → Prop} {K : List V → Heap → Prop} {tab : List Nat} (htab : tabRight ops.toList tab) :
    ∀ (fuel : Nat) (rem : List Nat) (listed : Array Bool) {env : List V} {H : Heap} {ι : Nat → Option Place} {β : Nat → Option Nat} {G : Heap} {a : Act} {w : World}, rem.length ≤ fuel →
      listed.size = ops.size → (∀ i, i < ops.size → (listed.getD i true = false ↔ i ∈ rem)) → closed ops.toList (fun d => listed.getD d false) → okOrderH P g ops.toList tab rem = true →
      St g w0 base F ι β G env H a w → Cont g w0 base F ι K (Q .normal) → seqH P g ops.toList rem env H K → wpAny P .any ops Q fuel listed a w := by
  intro fuel
  have hnil : ∀ (listed : Array Bool), listed.size = ops.size → (∀ i, i < ops.size → (listed.getD i true = false ↔ i ∈ ([] : List Nat))) → Region.ready .any ops listed = [] := by
    intro listed hsz hl
    apply List.eq_nil_iff_forall_not_mem.2
    intro i hi
    obtain ⟨h0, o, ho, _⟩ := mem_ready.1 hi
    have := (hl i (Array.getElem?_eq_some_iff.1 ho).1).1 h0
    simp at this
  induction fuel with
  | zero =>
    intro rem listed env H ι β G a w hf hsz hl hc hok hs hn h
    have : rem = [] := List.eq_nil_of_length_eq_zero (by omega)
    subst this
    exact ⟨hnil listed hsz hl, hn _ _ _ _ _ _ _ (ile.refl _) hs h⟩
  | succ fuel ih =>
    intro rem listed env H ι β G a w hf hsz hl hc hok hs hn h
    refine ⟨fun hr => ?_, fun i hi => ?_⟩
    · cases rem with
      | nil => exact hn _ _ _ _ _ _ _ (ile.refl _) hs h
      | cons x r =>
        exfalso
        obtain ⟨o, h1, h2, h3, h4, h5, h6, h7⟩ := okOrderH_cons hok
        have h1' : ops[x]? = some o := by simpa using h1
        have hx : x ∈ Region.ready .any ops listed := by
          refine mem_ready.2 ⟨(hl x (Array.getElem?_eq_some_iff.1 h1').1).2 List.mem_cons_self, o, h1', fun e he hb => ?_⟩
          have hd : e.on ∈ depsOf o := depsOf_mem.2 ⟨e, he, hb, rfl⟩
          have hlt : e.on < ops.size := by
            have := List.all_eq_true.1 h5 _ hd
            rw [Nat.blt_eq] at this; simpa using this
          have hnot : e.on ∉ x :: r := by
            intro hm
            rcases List.mem_cons.1 hm with q | q
            · rw [q] at hd; exact h3 hd
            · obtain ⟨_, _, _, q3⟩ := okTailH_spec.1 h2 _ q
              exact q3 hd
          have hlt' : e.on < listed.size := by omega
          have := mt (hl e.on hlt).1 hnot
          simp [Array.getD, hlt'] at this ⊢
          exact this
        rw [hr] at hx; simp at hx
    · obtain ⟨h0, oi, hoi, hdeps⟩ := mem_ready.1 hi
      have hilt : i < ops.size := (Array.getElem?_eq_some_iff.1 hoi).1
      have him : i ∈ rem := (hl i hilt).1 h0
      obtain ⟨l1, l2, rfl⟩ := List.append_of_mem him
      obtain ⟨q1, q2, q3⟩ := okOrderH_out hok
      have hoi' : ops.toList[i]? = some oi := by simpa using hoi
      have gi : okG g oi = true := by
        obtain ⟨o, r1, r2, _⟩ := okOrderH_mem hok i him
        rw [hoi'] at r1; cases r1; exact r2
      have hb := bubbleH (K := K) hoi' gi (fun x hx => by
        obtain ⟨ox, oi2, r1, r2, r3, r4⟩ := q2 x hx
        rw [hoi'] at r2; cases r2
        refine ⟨ox, r1, r3.resolve_left fun hbit => ?_, r4⟩
        have hlx := htab i oi x hoi' hbit (fun d => listed.getD d false) hc (fun d hd => by
          obtain ⟨e, he, hbnd, rfl⟩ := depsOf_mem.1 hd
          exact hdeps e he hbnd)
        have hxlt : x < ops.size := by
          have : ops[x]? = some ox := by simpa using r1
          exact (Array.getElem?_eq_some_iff.1 this).1
        have := (hl x hxlt).2 (List.mem_append_left _ hx)
        have hlt' : x < listed.size := by omega
        simp [Array.getD, hlt'] at this hlx
        rw [this] at hlx; cases hlx) h
      refine wpOpH_sound hs hoi (fun ι' β' G' env' H' a' w' hi' hs' hk => ?_) hb
      refine ih (l1 ++ l2) (listed.setIfInBounds i true) (by simp at hf ⊢; omega) (by simpa using hsz) (fun j hj => ?_) ?_ q1 hs' (fun ι'' β'' G'' env'' H'' a'' w'' hi'' hs'' hk'' => hn _ _ _ _ _ _ _ (hi'.trans hi'') hs'' hk'') hk
      · by_cases e : i = j
        · subst e
          have hlt' : i < listed.size := by omega
          simp only [q3, iff_false]
          simp [Array.getD, hlt']
        · rw [getD_set_ne true e, hl j hj]
          simp only [List.mem_append, List.mem_cons]
          constructor
          · rintro (h | h | h)
            · exact .inl h
            · exact absurd h.symm e
            · exact .inr h
          · rintro (h | h)
            · exact .inl h
            · exact .inr (.inr h)
      · intro z o hz ho d hd
        by_cases e : i = z
        · subst e
          rw [hoi'] at ho; cases ho
          obtain ⟨e', he, hbnd, rfl⟩ := depsOf_mem.1 hd
          exact getD_set_true (hdeps e' he hbnd)
        · have hz' : listed.getD z false = true := by
            have := getD_set_ne (listed := listed) (i := i) (j := z) false e
            simp only at hz
            rw [this] at hz; exact hz
          exact getD_set_true (hc z o hz' ho d hd)

theorem drawH_sound {id : Nat} {ops : Array Oper} {order : List Nat} {Q : Exit → Act → World → Prop} {K : List V → Heap → Prop} (hs : St g w0 base F ι β G env H a w) (hn : Cont g w0 base F ι K (Q .normal)) (hk : drawH P g ops.toList order env H K) :
    (Code.region id ops true).wp P Q a w := by
  unfold drawH at hk
  split at hk
  case h_2 => exact hk.elim
  rename_i hok
  unfold okDrawH at hok
  simp only [Bool.and_eq_true] at hok
  obtain ⟨⟨⟨h1, hle⟩, h2⟩, h3⟩ := hok
  have hmem : ∀ i o, i ∈ order → ops.toList[i]? = some o → (depsOf o).all (fun d => Nat.blt d ops.toList.length) = true := fun i o hm ho => by
    obtain ⟨o', r1, _, r3⟩ := okOrderH_mem h3 i hm
    rw [ho] at r1; cases r1; exact r3
  have htab : tabRight ops.toList (tabOf ops.toList order (List.replicate ops.toList.length 0)) := tabOf_right hmem fun y o x _ hb => by
    rw [List.getD_eq_getElem?_getD, List.getElem?_replicate] at hb
    split at hb <;> simp at hb
  have hin : ∀ i, i < ops.size → i ∈ order := fun i hi => by
    have := List.all_eq_true.1 h2 i (by simpa using hi)
    simpa using this
  have hlen : order.length ≤ ops.size := by simpa using Nat.le_of_ble_eq_true hle
  refine wp_region_any h1 (anyH_sound htab ops.size order (Array.replicate ops.size false) hlen (by simp) (fun i hi => ?_) ?_ h3 (hs.drawn _) hn hk)
  · simp [Array.getD, hi, hin i hi]
  · intro z o hz
    exfalso
    simp only [Array.getD] at hz
    split at hz <;> simp at hz

end
end Go.Abs
