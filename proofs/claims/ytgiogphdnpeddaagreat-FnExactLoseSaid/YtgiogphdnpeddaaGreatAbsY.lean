/-
The abstract layer, part Y: regions in phases; new objects of known content may wait.
-/
import Derived.Test.YtgiogphdnpeddaaGreatAbsS
set_option linter.all false
namespace Go.Abs
open Go.RowKit (Below)

section
variable {P : Program} {g : Cfg} {HS H : Heap} {env env' : List V} {ops : List Oper}

theorem stepD_agree {o : Oper} {K : List V → Heap → Prop} (hG : okG g o = true) (hs : Abs.sub HS H) (h : stepD P g HS ops o env H K) : stepD P g HS ops o env H fun e h => agree (wrs g o) env e ∧ K e h := by
  refine stepD_lift (stepD_rel hG rfl (fun _ _ => rfl) (fun _ _ => rfl) h) hs fun e' h' _ hp => ?_
  obtain ⟨e, h1, h2, h3, h4, h5⟩ := hp
  have : e = e' := by
    apply List.ext_getElem?
    intro s
    by_cases hw : s ∈ wrs g o
    · exact h5 s hw
    · rw [← h3.2 s hw, ← h4.2 s hw]
  subst this
  exact ⟨h3, h1⟩

theorem opK_E {y : Oper} {ob : Ob} {b : Bool} {n d : Nat} (h : obE P g env y = some (ob, b, n, d)) (K : List V → Heap → Prop) : y.dst = some d ∧ g.loc d = false ∧ (opK P g y env H K ↔ ∀ q, H q = none → K (env.set d (mkA b n q)) (upd H q ob)) := by
  unfold obE at h
  split at h
  case h_2 => cases h
  rename_i d' hd
  split at h
  case h_1 => cases h
  rename_i hloc
  have hL : g.L.contains d' = false ∧ g.R.contains d' = false := by
    unfold Cfg.loc at hloc
    simpa using hloc
  split at h
  case h_3 => cases h
  · rename_i t ho
    split at h
    case h_2 => cases h
    rename_i z hz
    cases h
    refine ⟨hd, hloc, ?_⟩
    unfold opK
    simp only [ho, hz, bnd_some, hd, newBox, hL.1, hL.2, setK_eq, mkA]
  · rename_i t len parts ho
    split at h
    case h_2 => cases h
    rename_i ps hps
    split at h
    case h_2 => cases h
    rename_i e he
    split at h
    case h_2 => cases h
    rename_i sz hsz
    split at h
    case h_2 => cases h
    rename_i z hz
    split at h
    case h_2 => cases h
    rename_i rows hrows
    cases h
    refine ⟨hd, hloc, ?_⟩
    unfold opK
    simp only [ho, hps, he, hsz, hz, hrows, bnd_some, hd, putK, hloc, setK_eq, mkA]
theorem isE_E {y : Oper} {r : Ob × Bool × Nat × Nat} (h : obE P g env y = some r) : isE g y = false := by
  obtain ⟨ob, b, n, d⟩ := r
  unfold obE at h
  split at h
  case h_2 => cases h
  rename_i d' hd
  split at h
  case h_1 => cases h
  rename_i hloc
  have hL : g.L.contains d' = false := by
    unfold Cfg.loc at hloc
    simp at hloc
    simpa using hloc.1
  split at h
  case h_3 => cases h
  · rename_i t ho
    unfold isE
    simp only [ho, hd, hL]
  · rename_i t len parts ho
    unfold isE
    simp only [ho]
theorem obE_of_A {y : Oper} (h : (obA P g y).isSome = true) : (obE P g env y).isSome = true := by
  obtain ⟨r, h⟩ := Option.isSome_iff_exists.1 h
  unfold obA at h
  unfold obE
  split at h
  case h_2 => cases h
  rename_i d' hd
  split at h
  case h_1 => cases h
  rename_i hloc
  split at h
  case h_3 => cases h
  · rename_i t ho
    simp only [ho, h]; rfl
  · rename_i t len parts ho
    split at h
    case h_2 => cases h
    rename_i ps hps
    simp only [ho, evp_nil hps, h]; rfl
theorem obE_same {y : Oper} (h : ∀ s, s ∈ rds g y → env[s]? = env'[s]?) : obE P g env y = obE P g env' y := by
  have hs := Same.of_rds h
  unfold obE
  split
  · split
    · rfl
    · split
      · rfl
      · rename_i ho
        rw [ho] at hs
        rw [evp_same hs]
      · rfl
  · rfl
theorem obE_int {y : Oper} (h : isA1 P g ops y = true) (hs : ∀ s, intS g ops y s = true → ∃ k n, env[s]? = some (.int k n)) : (obE P g env y).isSome = true := by
  unfold isA1 at h
  rw [Bool.and_eq_true] at h
  obtain ⟨_, h⟩ := h
  unfold obE
  split at h
  case h_2 => cases h
  rename_i d hd
  rw [Bool.and_eq_true] at h
  obtain ⟨hl, h⟩ := h
  have hl : g.loc d = false := by simpa using hl
  simp only [hl]
  split at h
  case h_2 => cases h
  rename_i t len parts ho
  rw [Bool.and_eq_true] at h
  obtain ⟨he, h⟩ := h
  simp only [ho]
  unfold one1 at h
  split at h
  case h_2 => cases h
  rename_i i s' hp
  simp only [Bool.and_eq_true, Bool.not_eq_true'] at h
  obtain ⟨⟨⟨hi, hlen⟩, hls⟩, hint⟩ := h
  obtain ⟨k, n, hk⟩ := hs _ hint
  have hi := Nat.eq_of_beq_eq_true hi
  have hlen := Nat.eq_of_beq_eq_true hlen
  subst hi hlen
  unfold elem1 at he
  split at he
  case h_2 => cases he
  rename_i e he1
  split at he
  case h_2 => cases he
  rename_i sz hsz
  split at he
  case h_2 => cases he
  rename_i z hz
  rw [Bool.and_eq_true] at he
  have h1 := Nat.eq_of_beq_eq_true he.1
  have h2 := Nat.eq_of_beq_eq_true he.2
  subst h1
  have hev : ev g env (.tmp s') = some (.int k n) := by
    unfold ev
    simp only [hls, hk]
  have hc : cellsOf (V.int k n) = [V.int k n] := rfl
  have hb : bsl 1 1 (cellsOf z) [(0, V.int k n)] = some [[V.int k n]] := by
    unfold bsl
    rw [if_pos (by simp [allW, h2, hc]; rfl)]
    simp [fillR, hc]
  simp only [hp, evp, hev, he1, hsz, hz, hb]
  rfl

theorem swapDe {x y : Oper} {K : List V → Heap → Prop} (hg : y.guard = none) (hsome : (obE P g env y).isSome = true) (hok : swapA g ops x y = true) (gx : okG g x = true) (hs : Abs.sub HS H) (h : stepD P g HS ops x env H fun e h => stepD P g HS ops y e h K) :
    stepD P g HS ops y env H fun e h => stepD P g HS ops x e h K := by
  obtain ⟨⟨ob, b, n, d⟩, hob⟩ := Option.isSome_iff_exists.1 hsome
  have h0 := isE_E hob
  have shape : ∀ (env : List V) (H : Heap) (K : List V → Heap → Prop), obE P g env y = some (ob, b, n, d) → (stepD P g HS ops y env H K ↔ ∀ q, H q = none → Abs.sub HS (upd H q ob) ∧ K (env.set d (mkA b n q)) (upd H q ob)) := fun env H K hob => by
    unfold stepD opD
    rw [hg, h0]
    exact (opK_E hob _).2.2
  have hd : y.dst = some d := (opK_E (env := env) (H := H) hob K).1
  have hdw : d ∈ wrs g y := dst_wrs (by rw [hd]; simp [dstL])
  unfold swapA at hok
  simp only [Bool.and_eq_true] at hok
  obtain ⟨⟨⟨n1, n2⟩, n3⟩, n4⟩ := hok
  rw [shape _ _ _ hob]
  intro q hq
  refine ⟨fun i x hi => sub_q hq _ _ (hs _ _ hi), ?_⟩
  have hxr := stepD_rel (env' := env.set d (mkA b n q)) gx (by simp) (fun s hs => by
      have : d ≠ s := by rintro rfl; exact noneIn_spec n3 hdw hs
      rw [List.getElem?_set_ne this]) (fun s hs => by
      have : d ≠ s := by rintro rfl; exact noneIn_spec n4 hdw hs
      rw [List.getElem?_set_ne this]) (stepD_frame (ob := ob) hq h)
  refine stepD_lift hxr (fun i x hi => sub_q hq _ _ (hs _ _ hi)) fun e' H' _ hp => ?_
  obtain ⟨e0, ⟨H1, a1, rfl, a3⟩, p1, p2, p3, p4⟩ := hp
  have hob0 : obE P g e0 y = some (ob, b, n, d) := by
    rw [← hob]
    refine obE_same fun s hs => ?_
    exact (p2.2 s fun hm => noneIn_spec n1 hm hs).symm
  rw [shape _ _ _ hob0] at a3
  have hk := (a3 q a1).2
  have hdx : d ∉ wrs g x := fun hm => noneIn_spec n2 hm hdw
  have : e0.set d (mkA b n q) = e' := by
    apply List.ext_getElem?
    intro s
    by_cases hs : s = d
    · subst hs
      have := p3.2 s hdx
      rw [← this]
      by_cases hl : s < env.length
      · rw [List.getElem?_set_self (by rw [← p2.1]; exact hl), List.getElem?_set_self hl]
      · rw [List.getElem?_eq_none (by simp; rw [← p2.1]; omega), List.getElem?_eq_none (by simp; omega)]
    · rw [List.getElem?_set_ne (Ne.symm hs)]
      by_cases hx : s ∈ wrs g x
      · exact p4 s hx
      · rw [← p2.2 s hx, ← p3.2 s hx, List.getElem?_set_ne (Ne.symm hs)]
  rw [← this]; exact hk
/-- What may be made early is known. -/
def Kn (P : Program) (g : Cfg) (ops : List Oper) (y : Oper) (env : List V) : Prop := isA1 P g ops y = true → (obE P g env y).isSome = true
theorem swapPs {x y : Oper} {K : List V → Heap → Prop} (hok : swapP P g ops x y = true) (hkn : Kn P g ops y env) (gx : okG g x = true) (gy : okG g y = true) (hs : Abs.sub HS H) (h : stepD P g HS ops x env H fun e h => stepD P g HS ops y e h K) :
    stepD P g HS ops y env H fun e h => stepD P g HS ops x e h K := by
  unfold swapP at hok
  rw [Bool.or_eq_true] at hok
  rcases hok with hok | hok
  · exact swap hok gx gy hs h
  · rw [Bool.and_eq_true, Bool.or_eq_true] at hok
    obtain ⟨hA | hA, hok⟩ := hok
    · have hA' := hA
      unfold isA0 at hA'
      rw [Bool.and_eq_true] at hA'
      exact swapDe (by simpa using hA'.1) (obE_of_A hA'.2) hok gx hs h
    · have hA' := hA
      unfold isA1 at hA'
      rw [Bool.and_eq_true] at hA'
      exact swapDe (by simpa using hA'.1) (hkn hA) hok gx hs h
theorem swapP_rd {x y : Oper} (hok : swapP P g ops x y = true) : noneIn (wrs g x) (rds g y) = true := by
  unfold swapP at hok
  rw [Bool.or_eq_true] at hok
  rcases hok with hok | hok
  · unfold swapOk at hok
    simp only [Bool.and_eq_true] at hok
    exact hok.1.1.1.1.2
  · rw [Bool.and_eq_true] at hok
    have hok := hok.2
    unfold swapA at hok
    simp only [Bool.and_eq_true] at hok
    exact hok.1.1.1
theorem bubbleP {i : Nat} {oi : Oper} {l2 : List Nat} {K : List V → Heap → Prop} (hi : ops[i]? = some oi) (gi : okG g oi = true) : ∀ {l1 : List Nat} {env : List V} {H : Heap}, (∀ x, x ∈ l1 → ∃ ox, ops[x]? = some ox ∧ swapP P g ops ox oi = true ∧ okG g ox = true) → Kn P g ops oi env →
    Abs.sub HS H → seqD P g HS ops (l1 ++ i :: l2) env H K → stepD P g HS ops oi env H fun e h => seqD P g HS ops (l1 ++ l2) e h K
  | [], env, H, _, _, hs, h => by
    simp only [List.nil_append, seqD, hi] at h ⊢
    exact h
  | x :: l1, env, H, hx, hkn, hs, h => by
    obtain ⟨ox, h1, h2, h3⟩ := hx x List.mem_cons_self
    simp only [List.cons_append, seqD, h1] at h ⊢
    refine swapPs h2 hkn h3 gi hs (stepD_lift (stepD_agree h3 hs h) hs fun e h hs' hk => bubbleP hi gi (fun x hm => hx x (List.mem_cons_of_mem _ hm)) ?_ hs' hk.2)
    intro hA
    rw [← obE_same (env := env) fun s hs => hk.1.2 s fun hm => noneIn_spec (swapP_rd h2) hm hs]
    exact hkn hA

theorem cv_step {o : Oper} {t : Nat} {K : List V → Heap → Prop} (hc : cvD g o = some t) (ht : t < env.length) (hs : Abs.sub HS H) (h : stepD P g HS ops o env H K) : stepD P g HS ops o env H fun e h => (∃ k n, e[t]? = some (.int k n)) ∧ K e h := by
  unfold cvD at hc
  split at hc
  case h_2 => cases hc
  rename_i hg
  split at hc
  case h_2 => cases hc
  rename_i s d x ho
  split at hc
  case h_2 => cases hc
  rename_i t' hd
  split at hc
  case h_2 => cases hc
  rename_i hl
  cases hc
  have hE : isE g o = true := by unfold isE; rw [ho]
  unfold stepD opD at *
  simp only [hg, hE] at h ⊢
  unfold opK at h ⊢
  simp only [ho] at h ⊢
  refine bnd_mono h fun v _ h => bnd_mono h fun v' hv' h => ?_
  have hint : ∃ k n, v' = V.int k n := by
    unfold aConv at hv'
    split at hv'
    · unfold aCv at hv'
      split at hv'
      · cases hv'; exact ⟨_, _, rfl⟩
      · cases hv'
    · cases hv'
  obtain ⟨k, n, rfl⟩ := hint
  unfold putK at h ⊢
  simp only [hd, hl, setK_eq] at h ⊢
  exact ⟨⟨k, n, by rw [List.getElem?_set_self ht]⟩, h⟩
end

section
variable {P : Program} {g : Cfg} {w0 : World} {base : Nat} {F : Heap} {ι : Nat → Option Place} {β : Nat → Option Nat} {G : Heap} {env : List V} {H HS : Heap} {a : Act} {w : World}

/-- The numbers that were turned into another kind stand in their slots. -/
def Iv (g : Cfg) (ops : List Oper) (lst : Nat → Bool) (env : List V) : Prop :=
  ∀ c oc t, lst c = true → ops[c]? = some oc → cvD g oc = some t → soleW g ops c t = true → ∃ k n, env[t]? = some (.int k n)
theorem Iv.kn {ops : List Oper} {lst : Nat → Bool} {y : Oper} (h : Iv g ops lst env) (hd : ∀ d, d ∈ depsOf y → lst d = true) : Kn P g ops y env := fun hA => by
  refine obE_int hA fun s hs => ?_
  unfold intS at hs
  obtain ⟨c, h1, h2⟩ := List.any_eq_true.1 hs
  split at h2
  case h_2 => cases h2
  rename_i oc hoc
  split at h2
  case h_2 => cases h2
  rename_i t ht
  rw [Bool.and_eq_true] at h2
  have := Nat.eq_of_beq_eq_true h2.1
  subst this
  exact h c oc t (hd c h1) hoc ht h2.2
theorem soleW_spec {ops : List Oper} {c t j : Nat} {o : Oper} (h : soleW g ops c t = true) (hj : ops[j]? = some o) (hne : j ≠ c) : t ∉ wrs g o := by
  unfold soleW at h
  have hlt := (List.getElem?_eq_some_iff.1 hj).1
  have := List.all_eq_true.1 h j (by simpa using hlt)
  rw [hj, Bool.or_eq_true] at this
  rcases this with h | h
  · exact absurd (Nat.eq_of_beq_eq_true h) hne
  · simpa using h

theorem okTailP_spec {ops : List Oper} {tab : List Nat} {x : Nat} {o : Oper} : ∀ {r : List Nat}, okTailP P g ops tab x o r = true ↔ ∀ y, y ∈ r → ∃ o', ops[y]? = some o' ∧ (Nat.testBit (tab.getD y 0) x = true ∨ swapP P g ops o o' = true) ∧ y ∉ depsOf o
  | [] => by simp [okTailP]
  | y :: r => by
    unfold okTailP
    rw [Bool.and_eq_true, okTailP_spec]
    constructor
    · rintro ⟨h1, h2⟩ z hz
      rcases List.mem_cons.1 hz with rfl | hz
      · split at h1
        · rename_i o' ho'
          simp only [Bool.and_eq_true, Bool.or_eq_true, Bool.not_eq_true'] at h1
          exact ⟨o', ho', h1.1, fun hm => by have := h1.2; simp [hm] at this⟩
        · cases h1
      · exact h2 z hz
    · intro h
      refine ⟨?_, fun z hz => h z (List.mem_cons_of_mem _ hz)⟩
      obtain ⟨o', h1, h2, h3⟩ := h y List.mem_cons_self
      rw [h1]
      simp only [Bool.and_eq_true, Bool.or_eq_true, Bool.not_eq_true']
      exact ⟨h2, by simpa using h3⟩
theorem okOrderP_cons {ops : List Oper} {tab : List Nat} {x : Nat} {r : List Nat} (h : okOrderP P g ops tab (x :: r) = true) :
    ∃ o, ops[x]? = some o ∧ okTailP P g ops tab x o r = true ∧ x ∉ depsOf o ∧ okG g o = true ∧ (depsOf o).all (fun d => Nat.blt d ops.length) = true ∧ x ∉ r ∧ okOrderP P g ops tab r = true := by
  unfold okOrderP at h
  simp only [Bool.and_eq_true, Bool.not_eq_true'] at h
  obtain ⟨⟨h1, h2⟩, h3⟩ := h
  split at h1
  · rename_i o ho
    simp only [Bool.and_eq_true, Bool.not_eq_true'] at h1
    exact ⟨o, ho, h1.1.1.1, fun hm => by have := h1.1.1.2; simp [hm] at this, h1.1.2, h1.2, fun hm => by simp [hm] at h2, h3⟩
  · cases h1
theorem okOrderP_mem {ops : List Oper} {tab : List Nat} : ∀ {r : List Nat}, okOrderP P g ops tab r = true → ∀ x, x ∈ r → ∃ o, ops[x]? = some o ∧ okG g o = true ∧ (depsOf o).all (fun d => Nat.blt d ops.length) = true
  | [], _, x, hx => by simp at hx
  | y :: r, h, x, hx => by
    obtain ⟨o, h1, _, _, h4, h5, _, h7⟩ := okOrderP_cons h
    rcases List.mem_cons.1 hx with rfl | hx
    · exact ⟨o, h1, h4, h5⟩
    · exact okOrderP_mem h7 x hx
theorem okOrderP_mk {ops : List Oper} {tab : List Nat} {x : Nat} {r : List Nat} {o : Oper} (h1 : ops[x]? = some o) (h2 : okTailP P g ops tab x o r = true) (h3 : x ∉ depsOf o) (h4 : okG g o = true) (h5 : (depsOf o).all (fun d => Nat.blt d ops.length) = true) (h6 : x ∉ r) (h7 : okOrderP P g ops tab r = true) : okOrderP P g ops tab (x :: r) = true := by
  unfold okOrderP
  simp only [h1, h2, h4, h5, h7, Bool.true_and, Bool.and_true, Bool.and_eq_true, Bool.not_eq_true']
  exact ⟨by simpa using h3, by simpa using h6⟩
theorem okOrderP_out {ops : List Oper} {tab : List Nat} {i : Nat} {l2 : List Nat} : ∀ {l1 : List Nat}, okOrderP P g ops tab (l1 ++ i :: l2) = true → okOrderP P g ops tab (l1 ++ l2) = true ∧
    (∀ x, x ∈ l1 → ∃ ox oi, ops[x]? = some ox ∧ ops[i]? = some oi ∧ (Nat.testBit (tab.getD i 0) x = true ∨ swapP P g ops ox oi = true) ∧ okG g ox = true) ∧ i ∉ l1 ++ l2
  | [], h => by
    obtain ⟨o, h1, h2, h3, h4, h5, h6, h7⟩ := okOrderP_cons h
    exact ⟨h7, fun x hx => by simp at hx, h6⟩
  | y :: l1, h => by
    obtain ⟨o, h1, h2, h3, h4, h5, h6, h7⟩ := okOrderP_cons h
    obtain ⟨q1, q2, q3⟩ := okOrderP_out h7
    rw [okTailP_spec] at h2
    refine ⟨okOrderP_mk h1 (okTailP_spec.2 fun z hz => h2 z ?_) h3 h4 h5 (fun hm => h6 ?_) q1, fun x hx => ?_, fun hm => ?_⟩
    · rcases List.mem_append.1 hz with h | h
      · exact List.mem_append_left _ h
      · exact List.mem_append_right _ (List.mem_cons_of_mem _ h)
    · rcases List.mem_append.1 hm with h | h
      · exact List.mem_append_left _ h
      · exact List.mem_append_right _ (List.mem_cons_of_mem _ h)
    · rcases List.mem_cons.1 hx with rfl | hx
      · obtain ⟨oi, r1, r2, _⟩ := h2 i (List.mem_append_right _ List.mem_cons_self)
        exact ⟨o, oi, h1, r1, r2, h4⟩
      · exact q2 x hx
    · rcases List.mem_cons.1 hm with rfl | hm
      · exact h6 (List.mem_append_right _ List.mem_cons_self)
      · exact q3 hm

/-- One phase, and what comes after it. -/
theorem phase_sound {ops : Array Oper} {Q : Exit → Act → World → Prop} {K : List V → Heap → Prop} {tab rest : List Nat} (htab : tabRight ops.toList tab) :
    ∀ (m : Nat) (rem : List Nat) (fuel : Nat) (listed : Array Bool) {env : List V} {H : Heap} {ι : Nat → Option Place} {β : Nat → Option Nat} {G : Heap} {a : Act} {w : World}, rem.length = m → rem.length + rest.length ≤ fuel →
      listed.size = ops.size → (∀ i, i < ops.size → (listed.getD i true = false ↔ i ∈ rem ∨ i ∈ rest)) → closed ops.toList (fun d => listed.getD d false) → okOrderP P g ops.toList tab rem = true →
      (∀ x o, x ∈ rem → ops.toList[x]? = some o → ∀ y, y ∈ rest → Nat.testBit (tab.getD y 0) x = true ∧ y ∉ depsOf o ∧ y ≠ x) →
      St g w0 base F ι β G env H a w → Abs.sub HS H → Iv g ops.toList (fun d => listed.getD d false) env → cvLen g ops.toList env.length = true →
      (∀ (fuel : Nat) (listed : Array Bool) ι' β' G' env' H' a' w', ile ι ι' → rest.length ≤ fuel → listed.size = ops.size → (∀ i, i < ops.size → (listed.getD i true = false ↔ i ∈ rest)) → closed ops.toList (fun d => listed.getD d false) →
        St g w0 base F ι' β' G' env' H' a' w' → Iv g ops.toList (fun d => listed.getD d false) env' → env'.length = env.length → K env' H' → wpAny P .any ops Q fuel listed a' w') →
      seqD P g HS ops.toList rem env H K → wpAny P .any ops Q fuel listed a w := by
  intro m
  induction m with
  | zero =>
    intro rem fuel listed env H ι β G a w hm hf hsz hl hc hok hah hs hsub hiv hcv hn h
    have : rem = [] := List.eq_nil_of_length_eq_zero hm
    subst this
    exact hn fuel listed _ _ _ _ _ _ _ (ile.refl _) (by simpa using hf) hsz (fun i hi => by simpa using hl i hi) hc hs hiv rfl h
  | succ m ih =>
    intro rem fuel listed env H ι β G a w hm hf hsz hl hc hok hah hs hsub hiv hcv hn h
    obtain ⟨n, rfl⟩ : ∃ n, fuel = n + 1 := ⟨fuel - 1, by omega⟩
    refine ⟨fun hr => ?_, fun i hi => ?_⟩
    · cases rem with
      | nil => simp at hm
      | cons x r =>
        exfalso
        obtain ⟨o, h1, h2, h3, h4, h5, h6, h7⟩ := okOrderP_cons hok
        have h1' : ops[x]? = some o := by simpa using h1
        have hx : x ∈ Region.ready .any ops listed := by
          refine mem_ready.2 ⟨(hl x (Array.getElem?_eq_some_iff.1 h1').1).2 (.inl List.mem_cons_self), o, h1', fun e he hb => ?_⟩
          have hd : e.on ∈ depsOf o := depsOf_mem.2 ⟨e, he, hb, rfl⟩
          have hlt : e.on < ops.size := by
            have := List.all_eq_true.1 h5 _ hd
            rw [Nat.blt_eq] at this; simpa using this
          have hnot : ¬ (e.on ∈ x :: r ∨ e.on ∈ rest) := by
            rintro (hm | hm)
            · rcases List.mem_cons.1 hm with q | q
              · rw [q] at hd; exact h3 hd
              · obtain ⟨_, _, _, q3⟩ := okTailP_spec.1 h2 _ q
                exact q3 hd
            · exact (hah x o List.mem_cons_self h1 _ hm).2.1 hd
          have hlt' : e.on < listed.size := by omega
          have := mt (hl e.on hlt).1 hnot
          simp [Array.getD, hlt'] at this ⊢
          exact this
        rw [hr] at hx; simp at hx
    · obtain ⟨h0, oi, hoi, hdeps⟩ := mem_ready.1 hi
      have hilt : i < ops.size := (Array.getElem?_eq_some_iff.1 hoi).1
      have hoi' : ops.toList[i]? = some oi := by simpa using hoi
      have hdl : ∀ d, d ∈ depsOf oi → listed.getD d false = true := fun d hd => by
        obtain ⟨e, he, hbnd, rfl⟩ := depsOf_mem.1 hd
        exact hdeps e he hbnd
      have nolist : ∀ x, x < ops.size → Nat.testBit (tab.getD i 0) x = true → ¬ (x ∈ rem ∨ x ∈ rest) := fun x hxlt hbit hmem => by
        have hlx := htab i oi x hoi' hbit (fun d => listed.getD d false) hc hdl
        have := (hl x hxlt).2 hmem
        have hlt' : x < listed.size := by omega
        simp [Array.getD, hlt'] at this hlx
        rw [this] at hlx; cases hlx
      have him : i ∈ rem := by
        rcases (hl i hilt).1 h0 with hh | hh
        · exact hh
        · exfalso
          cases rem with
          | nil => simp at hm
          | cons x r =>
            obtain ⟨o, r1, _, _⟩ := okOrderP_mem hok x List.mem_cons_self
            have hxlt : x < ops.size := by
              have : ops[x]? = some o := by simpa using r1
              exact (Array.getElem?_eq_some_iff.1 this).1
            exact nolist x hxlt (hah x o List.mem_cons_self r1 i hh).1 (.inl List.mem_cons_self)
      obtain ⟨l1, l2, rfl⟩ := List.append_of_mem him
      obtain ⟨q1, q2, q3⟩ := okOrderP_out hok
      have gi : okG g oi = true := by
        obtain ⟨o, r1, r2, _⟩ := okOrderP_mem hok i him
        rw [hoi'] at r1; cases r1; exact r2
      have hb := bubbleP (K := K) hoi' gi (fun x hx => by
        obtain ⟨ox, oi2, r1, r2, r3, r4⟩ := q2 x hx
        rw [hoi'] at r2; cases r2
        refine ⟨ox, r1, r3.resolve_left fun hbit => ?_, r4⟩
        have hxlt : x < ops.size := by
          have : ops[x]? = some ox := by simpa using r1
          exact (Array.getElem?_eq_some_iff.1 this).1
        exact nolist x hxlt hbit (.inl (List.mem_append_left _ hx))) (hiv.kn hdl) hsub h
      have hb := stepD_agree gi hsub hb
      have hb : stepD P g HS ops.toList oi env H fun e h => (∀ t, cvD g oi = some t → ∃ k n, e[t]? = some (.int k n)) ∧ agree (wrs g oi) env e ∧ seqD P g HS ops.toList (l1 ++ l2) e h K := by
        cases hcd : cvD g oi with
        | none => exact stepD_lift hb hsub fun e h _ hk => ⟨fun t ht => (by cases ht), hk⟩
        | some t =>
          have ht : t < env.length := by
            unfold cvLen at hcv
            have := List.all_eq_true.1 hcv oi (List.mem_of_getElem? hoi')
            rw [hcd, Nat.blt_eq] at this
            exact this
          refine stepD_lift (cv_step hcd ht hsub hb) hsub fun e h _ hk => ⟨fun t' ht' => ?_, hk.2⟩
          cases ht'
          exact hk.1
      refine wpOp_sound hs hoi hsub (fun ι' β' G' env' H' a' w' hi' hs' hk => ?_) hb
      have hlm : (l1 ++ l2).length = m := by simp at hm ⊢; omega
      have hup : ∀ c, (listed.setIfInBounds i true).getD c false = true → c = i ∨ listed.getD c false = true := fun c hc => by
        by_cases e : i = c
        · exact .inl e.symm
        · rw [getD_set_ne false e] at hc; exact .inr hc
      refine ih (l1 ++ l2) n (listed.setIfInBounds i true) hlm (by simp at hf ⊢; omega) (by simpa using hsz) (fun j hj => ?_) ?_ q1 (fun x o hx ho y hy => hah x o (by
        rcases List.mem_append.1 hx with h | h
        · exact List.mem_append_left _ h
        · exact List.mem_append_right _ (List.mem_cons_of_mem _ h)) ho y hy) hs' hk.1 ?_ (by rw [← hk.2.2.1.1]; exact hcv) (fun fuel listed ι'' β'' G'' env'' H'' a'' w'' hi'' h1 h2 h3 h4 h5 h6 h7 h8 => hn fuel listed _ _ _ _ _ _ _ (hi'.trans hi'') h1 h2 h3 h4 h5 h6 (h7.trans hk.2.2.1.1.symm) h8) hk.2.2.2
      · by_cases e : i = j
        · subst e
          have hlt' : i < listed.size := by omega
          have hr : i ∉ rest := fun hm => (hah i oi him hoi' i hm).2.2 rfl
          simp only [q3, hr, iff_false, or_self]
          simp [Array.getD, hlt']
        · rw [getD_set_ne true e, hl j hj]
          simp only [List.mem_append, List.mem_cons]
          constructor
          · rintro ((h | h | h) | h)
            · exact .inl (.inl h)
            · exact absurd h.symm e
            · exact .inl (.inr h)
            · exact .inr h
          · rintro ((h | h) | h)
            · exact .inl (.inl h)
            · exact .inl (.inr (.inr h))
            · exact .inr h
      · intro z o hz ho d hd
        by_cases e : i = z
        · subst e
          rw [hoi'] at ho; cases ho
          exact getD_set_true (hdl d hd)
        · have hz' : listed.getD z false = true := by
            have := getD_set_ne (listed := listed) (i := i) (j := z) false e
            simp only at hz
            rw [this] at hz; exact hz
          exact getD_set_true (hc z o hz' ho d hd)
      · intro c oc t hlc hoc hcd hsole
        rcases hup c hlc with rfl | hlc'
        · rw [hoi'] at hoc; cases hoc
          exact hk.2.1 t hcd
        · by_cases e : i = c
          · subst e
            rw [hoi'] at hoc; cases hoc
            exact hk.2.1 t hcd
          · obtain ⟨k, v, hv⟩ := hiv c oc t hlc' hoc hcd hsole
            refine ⟨k, v, ?_⟩
            rw [← hk.2.2.1.2 t (soleW_spec hsole hoi' e)]
            exact hv

theorem okPh_sound {ops : Array Oper} {Q : Exit → Act → World → Prop} {K : List V → Heap → Prop} {tab : List Nat} (htab : tabRight ops.toList tab) :
    ∀ (ph : List (List Nat)) (fuel : Nat) (listed : Array Bool) {env : List V} {H : Heap} {ι : Nat → Option Place} {β : Nat → Option Nat} {G : Heap} {a : Act} {w : World}, (cat ph).length ≤ fuel →
      listed.size = ops.size → (∀ i, i < ops.size → (listed.getD i true = false ↔ i ∈ cat ph)) → closed ops.toList (fun d => listed.getD d false) → okPh P g ops.toList tab ph = true →
      St g w0 base F ι β G env H a w → Iv g ops.toList (fun d => listed.getD d false) env → cvLen g ops.toList env.length = true → Cont g w0 base F ι K (Q .normal) → phK P g ops.toList ph env H K → wpAny P .any ops Q fuel listed a w
  | [], fuel, listed, env, H, ι, β, G, a, w, hf, hsz, hl, hc, hok, hs, hiv, hcv, hn, h => by
    have hnil : Region.ready .any ops listed = [] := by
      apply List.eq_nil_iff_forall_not_mem.2
      intro i hi
      obtain ⟨h0, o, ho, _⟩ := mem_ready.1 hi
      have := (hl i (Array.getElem?_eq_some_iff.1 ho).1).1 h0
      simp [cat] at this
    cases fuel with
    | zero => exact ⟨hnil, hn _ _ _ _ _ _ _ (ile.refl _) hs h⟩
    | succ n => exact ⟨fun _ => hn _ _ _ _ _ _ _ (ile.refl _) hs h, fun i hi => by rw [hnil] at hi; simp at hi⟩
  | p :: r, fuel, listed, env, H, ι, β, G, a, w, hf, hsz, hl, hc, hok, hs, hiv, hcv, hn, h => by
    unfold okPh at hok
    simp only [Bool.and_eq_true] at hok
    obtain ⟨⟨k1, k2⟩, k3⟩ := hok
    obtain ⟨HS, hsub, h⟩ := h
    refine phase_sound (rest := cat r) htab p.length p fuel listed rfl (by simpa [cat] using hf) hsz (fun i hi => by rw [hl i hi]; simp [cat]) hc k1 (fun x o hx ho y hy => ?_) hs hsub hiv hcv
      (fun fuel listed ι' β' G' env' H' a' w' g1 g2 g3 g4 g5 g6 g7 g8 g9 => okPh_sound htab r fuel listed g2 g3 g4 g5 k3 g6 g7 (by rw [g8]; exact hcv) (fun ι'' β'' G'' env'' H'' a'' w'' hi'' hs'' hk'' => hn _ _ _ _ _ _ _ (g1.trans hi'') hs'' hk'') g9) h
    unfold ahead at k2
    have := List.all_eq_true.1 k2 x hx
    rw [ho] at this
    have := List.all_eq_true.1 this y hy
    simp only [Bool.and_eq_true, Bool.not_eq_true'] at this
    obtain ⟨⟨a1, a2⟩, a3⟩ := this
    refine ⟨a1, fun hm => by simp [hm] at a2, ?_⟩
    rintro rfl
    simp at a3
theorem okPh_mem {ops : List Oper} {tab : List Nat} : ∀ {ph : List (List Nat)}, okPh P g ops tab ph = true → ∀ x, x ∈ cat ph → ∃ o, ops[x]? = some o ∧ (depsOf o).all (fun d => Nat.blt d ops.length) = true
  | [], _, x, hx => by simp [cat] at hx
  | p :: r, h, x, hx => by
    unfold okPh at h
    simp only [Bool.and_eq_true] at h
    rcases List.mem_append.1 hx with hx | hx
    · obtain ⟨o, a, _, b⟩ := okOrderP_mem h.1.1 x hx
      exact ⟨o, a, b⟩
    · exact okPh_mem h.2 x hx

theorem drawP_sound {id : Nat} {ops : Array Oper} {ph : List (List Nat)} {Q : Exit → Act → World → Prop} {K : List V → Heap → Prop} (hs : St g w0 base F ι β G env H a w) (hn : Cont g w0 base F ι K (Q .normal)) (hk : drawP P g ops.toList ph env H K) :
    (Code.region id ops true).wp P Q a w := by
  unfold drawP at hk
  split at hk
  case h_2 => exact hk.elim
  rename_i hok
  unfold okDrawP at hok
  simp only [Bool.and_eq_true] at hok
  obtain ⟨⟨⟨⟨h1, hle⟩, h2⟩, h3⟩, h4⟩ := hok
  have hmem : ∀ i o, i ∈ cat ph → ops.toList[i]? = some o → (depsOf o).all (fun d => Nat.blt d ops.toList.length) = true := fun i o hm ho => by
    obtain ⟨o', r1, r3⟩ := okPh_mem h3 i hm
    rw [ho] at r1; cases r1; exact r3
  have htab : tabRight ops.toList (tabOf ops.toList (cat ph) (List.replicate ops.toList.length 0)) := tabOf_right hmem fun y o x _ hb => by
    rw [List.getD_eq_getElem?_getD, List.getElem?_replicate] at hb
    split at hb <;> simp at hb
  have hin : ∀ i, i < ops.size → i ∈ cat ph := fun i hi => by
    have := List.all_eq_true.1 h2 i (by simpa using hi)
    simpa using this
  have hlen : (cat ph).length ≤ ops.size := by simpa using Nat.le_of_ble_eq_true hle
  have hno : ∀ z, (Array.replicate ops.size false).getD z false = true → False := fun z hz => by
    simp only [Array.getD] at hz
    split at hz <;> simp at hz
  refine wp_region_any h1 (okPh_sound htab ph ops.size (Array.replicate ops.size false) hlen (by simp) (fun i hi => ?_) ?_ h3 (hs.drawn _) ?_ h4 hn hk)
  · simp [Array.getD, hi, hin i hi]
  · intro z o hz; exact (hno z hz).elim
  · intro c oc t hz; exact (hno c hz).elim
end
end Go.Abs
