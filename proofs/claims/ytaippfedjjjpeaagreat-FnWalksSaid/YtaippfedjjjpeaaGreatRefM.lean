/-
Plain terms: the reference's routes to prefixes.
-/
import Derived.Test.YtaippfedjjjpeaaGreatPfxC
import Derived.Test.YtaippfedjjjpeaaGreatPutR
import Derived.Test.YtaippfedjjjpeaaGreatGrhM
set_option linter.all false
namespace Go.Proofs.YtaippfedjjjpeaaGreat
open Go Go.Abs Go.Proofs

def hpO (es : List TEdge) (f o : Int) : Int := if o ≠ f then 1 + (hops 10 es f o).headD 0 else 0
def stepRf (p : Int × Int) (ds hp : Int → Int) (t : Int × Int) (q : Int × TStub) : Int × Int :=
  if pfx q.2 ≠ p ∨ ds q.1 = 1000000 then t
  else if ds q.1 + q.2.2.2 < t.1 ∨ (ds q.1 + q.2.2.2 = t.1 ∧ hp q.1 < t.2) then (ds q.1 + q.2.2.2, hp q.1) else t
def refF (p : Int × Int) (ds hp : Int → Int) (qs : List (Int × TStub)) : Int × Int := qs.foldl (stepRf p ds hp) (1000000, -1)
def Cpl (hp : Int → Int) (a : List Int × Int) (t : Int × Int) : Prop := a.2 = t.1 ∧ ((a.1 = [] ∧ a.2 = 1000000 ∧ t.2 = -1) ∨ (a.1 ≠ [] ∧ t.2 = minL (a.1.map hp)))
theorem minL_snoc {L : List Int} {x : Int} (h : L ≠ []) : minL (L ++ [x]) = min (minL L) x := by
  cases L with
  | nil => exact absurd rfl h
  | cons y r => show (r ++ [x]).foldl min y = _; rw [List.foldl_append]; rfl
theorem cpl_step {p : Int × Int} {ds hp : Int → Int} {a : List Int × Int} {t : Int × Int} {q : Int × TStub} (h : Cpl hp a t) (hc : ds q.1 ≠ 1000000 → ds q.1 + q.2.2.2 < 1000000) : Cpl hp (stepN p ds a q) (stepRf p ds hp t q) := by
  obtain ⟨h1, h2⟩ := h
  unfold stepN stepRf
  by_cases h3 : pfx q.2 ≠ p ∨ ds q.1 = 1000000
  · rw [if_pos (by rcases h3 with q | q; exact .inl q; exact .inr (.inl q)), if_pos h3]
    exact ⟨h1, h2⟩
  · have n1 : ds q.1 ≠ 1000000 := fun e => h3 (.inr e)
    have n2 : pfx q.2 = p := Classical.byContradiction fun e => h3 (.inl e)
    have hc := hc n1
    rw [if_neg h3]
    by_cases h4 : a.2 < ds q.1 + q.2.2.2
    · rw [if_pos (.inr (.inr h4)), if_neg (by omega)]
      exact ⟨h1, h2⟩
    · rw [if_neg (by rintro (e | e | e); exact e n2; exact n1 e; exact h4 e)]
      by_cases h5 : ds q.1 + q.2.2.2 < a.2
      · rw [if_pos h5, if_pos (.inl (by omega))]
        exact ⟨rfl, .inr ⟨by simp, rfl⟩⟩
      · rw [if_neg h5]
        have e6 : ds q.1 + q.2.2.2 = a.2 := by omega
        rcases h2 with ⟨e1, e2, e3⟩ | ⟨e1, e2⟩
        · omega
        · have em : minL ((a.1 ++ [q.1]).map hp) = min (minL (a.1.map hp)) (hp q.1) := by
            rw [List.map_append]
            exact minL_snoc (by simpa using e1)
          by_cases h7 : hp q.1 < t.2
          · rw [if_pos (.inr ⟨by omega, h7⟩)]
            refine ⟨by simp only; omega, .inr ⟨by simp, ?_⟩⟩
            simp only
            rw [em]; omega
          · rw [if_neg (by omega)]
            refine ⟨h1, .inr ⟨by simp, ?_⟩⟩
            simp only
            rw [em]; omega
theorem cpl_fold {p : Int × Int} {ds hp : Int → Int} : ∀ {qs : List (Int × TStub)} {a : List Int × Int} {t : Int × Int}, Cpl hp a t → (∀ q ∈ qs, ds q.1 ≠ 1000000 → ds q.1 + q.2.2.2 < 1000000) → Cpl hp (qs.foldl (stepN p ds) a) (qs.foldl (stepRf p ds hp) t)
  | [], _, _, h, _ => h
  | q :: qs, _, _, h, hq => cpl_fold (qs := qs) (cpl_step h (hq q (by simp))) fun r hr => hq r (List.mem_cons_of_mem _ hr)
/-! #### distances are small -/
def Fin' (B : Int) (out : List Int) : Prop := ∀ x ∈ out, x = 1000000 ∨ (0 ≤ x ∧ x ≤ B)
theorem relax_fin {n : Int} {es : List TEdge} (hg : graphOk n es) {B : Int} {out : List Int} {e : TEdge} (he : e ∈ es) (h : Fin' B out) (hB : 0 ≤ B) : Fin' (B + 1000) (relax out e) := by
  have ok := edge_ok hg he
  unfold Go.Proofs.YtaippfedjjjpeaaGreat.relax
  split
  · rename_i hc
    intro x hx
    rcases List.mem_or_eq_of_mem_set hx with q | q
    · have := h x q; omega
    · have hv : 0 ≤ out.getD e.1.toNat 0 ∧ out.getD e.1.toNat 0 ≤ B := by
        by_cases hl : e.1.toNat < out.length
        · have hm : out.getD e.1.toNat 0 ∈ out := by
            rw [List.getD_eq_getElem?_getD, List.getElem?_eq_getElem hl]
            exact List.getElem_mem hl
          have := h _ hm
          omega
        · rw [List.getD_eq_getElem?_getD, List.getElem?_eq_none (by omega)]
          simpa using hB
      omega
  · intro x hx
    have := h x hx
    omega
theorem fold_fin {n : Int} {es : List TEdge} (hg : graphOk n es) : ∀ {fs : List TEdge} {B : Int} {out : List Int}, (∀ e ∈ fs, e ∈ es) → Fin' B out → 0 ≤ B → Fin' (B + 1000 * fs.length) (fs.foldl relax out)
  | [], B, out, _, h, _ => by simpa using h
  | e :: fs, B, out, hs, h, hB => by
    have i1 := relax_fin hg (hs e (by simp)) h hB
    have i2 := fold_fin hg (fs := fs) (fun f hf => hs f (List.mem_cons_of_mem _ hf)) i1 (by omega)
    rw [show B + 1000 * ((e :: fs).length : Int) = B + 1000 + 1000 * (fs.length : Int) by simp only [List.length_cons]; omega]
    exact i2
theorem rounds_fin {n : Int} {es : List TEdge} (hg : graphOk n es) {B : Int} {out : List Int} (h : Fin' B out) (hB : 0 ≤ B) : ∀ k : Nat, Fin' (B + 60000 * k) (rounds es k out)
  | 0 => by simpa [rounds] using h
  | k + 1 => by
    have ih := rounds_fin hg h hB k
    have i1 := fold_fin hg (fs := es) (fun e he => he) ih (by omega)
    have hl := hg.2.1
    intro x hx
    have := i1 x hx
    have e : ((k + 1 : Nat) : Int) = (k : Int) + 1 := by omega
    rw [e]
    omega
theorem far_small {es : List TEdge} (hg : graphOk 10 es) {a b : Int} (hb : 0 ≤ b ∧ b < 10) (h : far 10 es a b ≠ 1000000) : far 10 es a b ≤ 600000 := by
  have h0 : Fin' 0 (dist0 10 a) := by
    intro x hx
    unfold dist0 at hx
    rcases List.mem_or_eq_of_mem_set hx with q | q
    · left; exact (List.mem_replicate.1 q).2
    · right; omega
  have h1 := rounds_fin hg h0 (by omega) 10
  have hl : (dist 10 es a).length = 10 := (DOk.dist hg a).1
  have hm : far 10 es a b ∈ dist 10 es a := by
    unfold far
    rw [List.getD_eq_getElem?_getD, List.getElem?_eq_getElem (by omega)]
    exact List.getElem_mem (by omega)
  have := h1 _ hm
  omega
theorem prs_cost {xs : List TLsa} (hd : dbOk xs) : ∀ q ∈ prs xs, (0 ≤ q.1 ∧ q.1 < 10) ∧ 1 ≤ q.2.2.2 ∧ q.2.2.2 ≤ 1000 := fun q hq => by
  unfold prs at hq
  obtain ⟨a, ha, hq⟩ := List.mem_flatMap.1 hq
  obtain ⟨s, hs, rfl⟩ := List.mem_map.1 hq
  obtain ⟨i, hi, rfl⟩ := List.mem_iff_getElem.1 ha
  obtain ⟨j, hj, rfl⟩ := List.mem_iff_getElem.1 hs
  have h1 := (hd.1 i hi).1
  have h2 := ((hd.1 i hi).2.2.2.2.2.2 j hj).2.1
  rw [show rt xs[i].stubs j = xs[i].stubs[j] by simp [rt, hj]] at h2
  simp only
  omega
/-- The reference's best and hop are the program's. -/
theorem ref_near {xs : List TLsa} {es : List TEdge} {f : Int} (hd : dbOk xs) (hg : graphOk 10 es) (p : Int × Int) : Cpl (hpO es f) (nearF p (far 10 es f) (prs xs)) (refF p (far 10 es f) (hpO es f) (prs xs)) :=
  cpl_fold ⟨rfl, .inl ⟨rfl, rfl, rfl⟩⟩ fun q hq hn => by
    obtain ⟨h1, h2⟩ := prs_cost hd q hq
    have := far_small hg (a := f) h1 hn
    omega

end Go.Proofs.YtaippfedjjjpeaaGreat
/-
Plain terms: the least hop; the table's prefixes are the sorted ones.
-/
namespace Go.Proofs.YtaippfedjjjpeaaGreat
open Go Go.Abs Go.Proofs

theorem hop_head {es : List TEdge} (hg : graphOk 10 es) {f o : Int} (h : hops 10 es f o ≠ []) : (hops 10 es f o).headD 0 ∈ hops 10 es f o ∧ ∀ y ∈ hops 10 es f o, (hops 10 es f o).headD 0 ≤ y := by
  have hs : (hops 10 es f o).Pairwise (· < ·) := by
    unfold hops
    split
    · exact List.Pairwise.nil
    · exact hops_sorted hg f o
  cases hh : hops 10 es f o with
  | nil => exact absurd hh h
  | cons x r =>
    rw [hh] at hs
    have := List.pairwise_cons.1 hs
    refine ⟨by simp, fun y hy => ?_⟩
    rcases List.mem_cons.1 hy with rfl | hy
    · simp
    · have := this.1 y hy
      simp only [List.headD_cons]
      omega
theorem hopP_eq {es : List TEdge} (hg : graphOk 10 es) {f : Int} (hf : 0 ≤ f ∧ f < 10) {N : List Int} (hne : N ≠ []) (hN : ∀ o ∈ N, far 10 es f o ≠ 1000000 ∧ 0 ≤ o ∧ o < 10) : hopP es f N = minL (N.map (hpO es f)) ∧ 0 ≤ hopP es f N := by
  have hp0 : ∀ o ∈ N, 0 ≤ hpO es f o := fun o ho => by
    unfold hpO
    split
    · rename_i q
      obtain ⟨k1, k2⟩ := hN o ho
      have := hops_in hg (hop_head hg (hops_ne hg hf k2 (fun e => q e.symm) k1)).1
      omega
    · omega
  unfold hopP
  split
  · rename_i hm
    refine ⟨?_, by omega⟩
    symm
    refine minL_uniq (List.mem_map.2 ⟨f, hm, by unfold hpO; rw [if_neg (by simp)]⟩) fun y hy => ?_
    obtain ⟨o, ho, rfl⟩ := List.mem_map.1 hy
    exact hp0 o ho
  · rename_i hm
    have neo : ∀ o ∈ N, o ≠ f := fun o ho e => hm (e ▸ ho)
    have neh : ∀ o ∈ N, hops 10 es f o ≠ [] := fun o ho => by
      obtain ⟨k1, k2⟩ := hN o ho
      exact hops_ne hg hf k2 (neo o ho).symm k1
    have neA : hopsA es f N ≠ [] := by
      cases N with
      | nil => exact absurd rfl hne
      | cons o N' =>
        have := neh o (by simp)
        unfold hopsA
        simp [this]
    obtain ⟨m1, m2⟩ := minL_spec neA
    have m1' := m1
    unfold hopsA at m1'
    obtain ⟨o, ho, hmo⟩ := List.mem_flatMap.1 m1'
    obtain ⟨g1, g2⟩ := hop_head hg (neh o ho)
    have inA : ∀ o ∈ N, (hops 10 es f o).headD 0 ∈ hopsA es f N := fun o ho => by
      unfold hopsA
      exact List.mem_flatMap.2 ⟨o, ho, (hop_head hg (neh o ho)).1⟩
    have e1 : (hops 10 es f o).headD 0 = minL (hopsA es f N) := by
      have q1 := g2 _ hmo
      have q2 := m2 _ (inA o ho)
      unfold hopsA at q1 q2 ⊢
      omega
    have hpo : ∀ o ∈ N, hpO es f o = 1 + (hops 10 es f o).headD 0 := fun o ho => by unfold hpO; rw [if_pos (neo o ho)]
    refine ⟨?_, ?_⟩
    · symm
      refine minL_uniq (List.mem_map.2 ⟨o, ho, by rw [hpo o ho, e1]⟩) fun y hy => ?_
      obtain ⟨o', ho', rfl⟩ := List.mem_map.1 hy
      rw [hpo o' ho']
      have := m2 _ (inA o' ho')
      omega
    · have := hops_in hg g1
      omega
def oneS (xs : List TLsa) (es : List TEdge) (f : Int) (p : Int × Int) : Option TStub :=
  if 0 ≤ (refF p (far 10 es f) (hpO es f) (prs xs)).2 then some (p.1, p.2, (refF p (far 10 es f) (hpO es f) (prs xs)).2) else none
theorem one_same {xs : List TLsa} {es : List TEdge} {f : Int} (hd : dbOk xs) (hg : graphOk 10 es) (hf : 0 ≤ f ∧ f < 10) (p : Int × Int) : oneS xs es f p = oneR xs es f p := by
  have h := ref_near (f := f) hd hg p
  have hN := near_ok (xs := xs) (p := p) (ds := far 10 es f) hd
  unfold oneS oneR
  obtain ⟨_, ⟨e1, _, e3⟩ | ⟨e1, e2⟩⟩ := h
  · rw [if_pos e1, if_neg (by omega)]
  · obtain ⟨q1, q2⟩ := hopP_eq hg hf e1 hN
    rw [if_neg e1, if_pos (by omega), e2, q1]
/-! #### sorted lists -/
theorem ltP_all (p q : Int × Int) : p = q ∨ ltP p q ∨ ltP q p := by
  unfold ltP
  by_cases h1 : p.1 = q.1
  · by_cases h2 : p.2 = q.2
    · exact .inl (Prod.ext h1 h2)
    · omega
  · omega
theorem ltP_trans {p q r : Int × Int} (h : ltP p q) (k : ltP q r) : ltP p r := by unfold ltP at *; omega
theorem ltP_irr (p : Int × Int) : ¬ ltP p p := by unfold ltP; omega
theorem sortP_eq : ∀ {A B : List (Int × Int)}, A.Pairwise ltP → B.Pairwise ltP → (∀ k, k ∈ A ↔ k ∈ B) → A = B
  | [], [], _, _, _ => rfl
  | [], b :: B, _, _, h => by have := (h b).2 (by simp); simp at this
  | a :: A, [], _, _, h => by have := (h a).1 (by simp); simp at this
  | a :: A, b :: B, hA, hB, h => by
    have pA := List.pairwise_cons.1 hA
    have pB := List.pairwise_cons.1 hB
    have e : a = b := by
      have h1 := (h a).1 (by simp)
      have h2 := (h b).2 (by simp)
      rcases List.mem_cons.1 h1 with q | q
      · exact q
      · rcases List.mem_cons.1 h2 with q2 | q2
        · exact q2.symm
        · exact absurd (ltP_trans (pB.1 a q) (pA.1 b q2)) (ltP_irr b)
    subst e
    congr 1
    refine sortP_eq pA.2 pB.2 fun k => ⟨fun hk => ?_, fun hk => ?_⟩
    · rcases List.mem_cons.1 ((h k).1 (List.mem_cons_of_mem _ hk)) with q | q
      · subst q; exact absurd (pA.1 _ hk) (ltP_irr _)
      · exact q
    · rcases List.mem_cons.1 ((h k).2 (List.mem_cons_of_mem _ hk)) with q | q
      · subst q; exact absurd (pB.1 _ hk) (ltP_irr _)
      · exact q
theorem dd_spec {L : List (Int × Int)} (hs : ∀ i j, i < j → (h2 : j < L.length) → ∀ h1 : i < L.length, ¬ ltP L[j] L[i]) : ∀ i, i ≤ L.length → (∀ p, p ∈ dd L i ↔ p ∈ L.take i) ∧ (dd L i).Pairwise ltP
  | 0, _ => by simp [dd]
  | i + 1, hi => by
    obtain ⟨i1, i2⟩ := dd_spec hs i (by omega)
    have hlt : i < L.length := by omega
    have et : L.take (i + 1) = L.take i ++ [L[i]] := List.take_succ_eq_append_getElem hlt
    by_cases h0 : i = 0
    · subst h0
      have : dd L 1 = [L[0]] := by
        simp [dd, hlt]
      rw [this, et]
      simp
    rw [dd_succ (by omega) hlt]
    have eX : L[i]? = some L[i] := List.getElem?_eq_getElem hlt
    have eY : L[i - 1]? = some (L[i - 1]'(by omega)) := List.getElem?_eq_getElem (by omega)
    by_cases q : L[i]? = L[i - 1]?
    · rw [if_pos q]
      refine ⟨fun p => ?_, i2⟩
      rw [i1, et]
      have q' : L[i] = L[i - 1]'(by omega) := by rw [eX, eY] at q; simpa using q
      constructor
      · exact fun h => List.mem_append_left _ h
      · intro h
        rcases List.mem_append.1 h with h | h
        · exact h
        · have : p = L[i] := by simpa using h
          rw [this, q']
          exact List.mem_take_iff_getElem.2 ⟨i - 1, by omega, rfl⟩
    · rw [if_neg q]
      refine ⟨fun p => ?_, ?_⟩
      · rw [List.mem_append, i1, et, List.mem_append]
      · rw [List.pairwise_append]
        refine ⟨i2, by simp, fun a ha b hb => ?_⟩
        have : b = L[i] := by simpa using hb
        subst this
        rw [i1] at ha
        obtain ⟨j, hj, rfl⟩ := List.mem_take_iff_getElem.1 ha
        have hj' : j < i := by omega
        have lastlt : ltP (L[i - 1]'(by omega)) L[i] := by
          rcases ltP_all (L[i - 1]'(by omega)) L[i] with e | e | e
          · exact absurd (by rw [eX, eY, e]) q
          · exact e
          · exact absurd e (hs (i - 1) i (by omega) hlt (by omega))
        by_cases ej : j = i - 1
        · subst ej; exact lastlt
        · rcases ltP_all (L[j]'(by omega)) (L[i - 1]'(by omega)) with e | e | e
          · rw [e]; exact lastlt
          · exact ltP_trans e lastlt
          · exact absurd e (hs j (i - 1) (by omega) (by omega) (by omega))

end Go.Proofs.YtaippfedjjjpeaaGreat
/-
Plain terms: the table of all prefixes.
-/
namespace Go.Proofs.YtaippfedjjjpeaaGreat
open Go Go.Abs Go.Proofs

def zr (p : Int × Int) : TStub := (p.1, p.2, 0)
def tabF (ps : List (Int × Int)) : List TStub := ps.foldl (fun t p => (putT t (zr p)).1) []
def goodP (p : Int × Int) : Prop := prefOk p.1 p.2
theorem tab_iff {t : List TStub} : tabOk t ↔ t.length ≤ 120 ∧ (∀ x ∈ t, prefOk x.1 x.2.1 ∧ 0 ≤ x.2.2 ∧ x.2.2 ≤ 999) ∧ t.Pairwise ahead := by
  have tr : ∀ {a b c : TStub}, ahead a b → ahead b c → ahead a c := fun h k => by unfold ahead at *; omega
  constructor
  · rintro ⟨h1, h2⟩
    refine ⟨h1, fun x hx => ?_, ?_⟩
    · obtain ⟨i, hi, rfl⟩ := List.mem_iff_getElem.1 hx
      have := h2 i hi
      unfold rtOk at this
      rw [rt_getT hi] at this
      exact ⟨this.1, this.2.1⟩
    · rw [List.pairwise_iff_getElem]
      have key : ∀ (d i : Nat) (hi : i < t.length) (hj : i + d + 1 < t.length), ahead t[i] t[i + d + 1] := by
        intro d
        induction d with
        | zero =>
          intro i hi hj
          have := (h2 (i + 1) hj).2.2 (by omega)
          rw [rt_getT hj, show i + 1 - 1 = i by omega, rt_getT hi] at this
          exact this
        | succ d ih =>
          intro i hi hj
          have a1 := ih i hi (by omega)
          have hj2 : i + d + 1 + 1 < t.length := by omega
          have a2 := (h2 (i + d + 1 + 1) hj2).2.2 (by omega)
          rw [rt_getT hj2, show i + d + 1 + 1 - 1 = i + d + 1 by omega, rt_getT (by omega)] at a2
          exact tr a1 a2
      intro i j hi hj hij
      obtain ⟨d, rfl⟩ : ∃ d, j = i + d + 1 := ⟨j - i - 1, by omega⟩
      exact key d i hi hj
  · rintro ⟨h1, h2, h3⟩
    refine ⟨h1, fun i hi => ?_⟩
    have := h2 t[i] (List.getElem_mem hi)
    unfold rtOk
    rw [rt_getT hi]
    refine ⟨this.1, this.2, fun h0 => ?_⟩
    rw [rt_getT (by omega)]
    exact List.pairwise_iff_getElem.1 h3 (i - 1) i (by omega) hi (by omega)
theorem mem_insR {r x : TStub} : ∀ {t : List TStub}, x ∈ insR r t ↔ x = r ∨ x ∈ t
  | [] => by simp [insR]
  | y :: t => by
    have ih := mem_insR (r := r) (x := x) (t := t)
    unfold insR
    split
    · simp
    · simp only [List.mem_cons, ih]
      constructor
      · rintro (h | h | h)
        · exact .inr (.inl h)
        · exact .inl h
        · exact .inr (.inr h)
      · rintro (h | h | h)
        · exact .inr (.inl h)
        · exact .inl h
        · exact .inr (.inr h)
theorem ins_pw {r : TStub} : ∀ {t : List TStub}, t.Pairwise ahead → (∀ x ∈ t, ahead r x ∨ ahead x r) → (insR r t).Pairwise ahead
  | [], _, _ => by simp [insR]
  | y :: t, h, hx => by
    have p := List.pairwise_cons.1 h
    unfold insR
    split
    · rename_i q
      refine List.pairwise_cons.2 ⟨fun z hz => ?_, h⟩
      rcases List.mem_cons.1 hz with rfl | hz
      · exact q
      · have := p.1 z hz
        unfold ahead at *; omega
    · rename_i q
      have yr := (hx y (by simp)).resolve_left q
      refine List.pairwise_cons.2 ⟨fun z hz => ?_, ins_pw p.2 fun x h' => hx x (List.mem_cons_of_mem _ h')⟩
      rcases mem_insR.1 hz with rfl | hz
      · exact yr
      · exact p.1 z hz
structure Tb (ps : List (Int × Int)) (t : List TStub) : Prop where
  len : t.length ≤ ps.length
  ok : ∀ x ∈ t, prefOk x.1 x.2.1 ∧ x.2.2 = 0
  pw : t.Pairwise ahead
  mem : ∀ p, p ∈ t.map pfx ↔ p ∈ ps
theorem tb_put {ps : List (Int × Int)} {t : List TStub} {p : Int × Int} (h : Tb ps t) (hp : prefOk p.1 p.2) (hl : ps.length ≤ 100) : Tb (ps ++ [p]) (putT t (zr p)).1 := by
  have ok1 : tabOk t := tab_iff.2 ⟨by have := h.len; omega, fun x hx => by have := h.ok x hx; exact ⟨this.1, by omega⟩, h.pw⟩
  have hless : ∀ x, x ∈ lessR (zr p) t ↔ x ∈ t ∧ pfx x ≠ p := fun x => by
    unfold lessR sameP
    rw [List.mem_filter]
    constructor
    · rintro ⟨h1, h2⟩
      refine ⟨h1, fun e => ?_⟩
      rw [← e] at h2
      simp [zr, pfx] at h2
    · rintro ⟨h1, h2⟩
      refine ⟨h1, ?_⟩
      simp only [zr, Bool.not_eq_true']
      exact decide_eq_false fun e => h2 (Prod.ext e.1 e.2)
  have pwl : (lessR (zr p) t).Pairwise ahead := h.pw.filter _
  have pwi : (insR (zr p) (lessR (zr p) t)).Pairwise ahead := ins_pw pwl fun x hx => by
    have := ((hless x).1 hx).2
    have h3 : ¬ (x.1 = p.1 ∧ x.2.1 = p.2) := fun e => this (Prod.ext e.1 e.2)
    unfold ahead zr
    simp only
    omega
  have okx : ∀ x ∈ insR (zr p) (lessR (zr p) t), prefOk x.1 x.2.1 ∧ x.2.2 = 0 := fun x hx => by
    rcases mem_insR.1 hx with rfl | hx
    · exact ⟨hp, rfl⟩
    · exact h.ok x ((hless x).1 hx).1
  have len2 : (insR (zr p) (lessR (zr p) t)).length ≤ ps.length + 1 := by
    have := lessR_len (zr p) t
    rw [insR_len]
    have := h.len
    omega
  have ok2 : tabOk (insR (zr p) (lessR (zr p) t)) := tab_iff.2 ⟨by omega, fun x hx => by have := okx x hx; exact ⟨this.1, by omega⟩, pwi⟩
  have e : putT t (zr p) = (insR (zr p) (lessR (zr p) t), true) := by unfold putT; rw [if_pos ok1, if_pos ok2]
  rw [e]
  refine ⟨by simpa using len2, okx, pwi, fun q => ?_⟩
  rw [List.mem_map, List.mem_append, ← h.mem q, List.mem_map]
  constructor
  · rintro ⟨x, hx, rfl⟩
    rcases mem_insR.1 hx with rfl | hx
    · exact .inr (by simp [zr, pfx])
    · exact .inl ⟨x, ((hless x).1 hx).1, rfl⟩
  · rintro (⟨x, hx, rfl⟩ | hq)
    · by_cases e : pfx x = p
      · exact ⟨zr p, mem_insR.2 (.inl rfl), by rw [e]; rfl⟩
      · exact ⟨x, mem_insR.2 (.inr ((hless x).2 ⟨hx, e⟩)), rfl⟩
    · have : q = p := by simpa using hq
      subst this
      exact ⟨zr q, mem_insR.2 (.inl rfl), rfl⟩
theorem tab_sorted {ps L : List (Int × Int)} {t : List TStub} (h : Tb ps t) (hp : L.Perm ps) (hs : ∀ i j, i < j → (h2 : j < L.length) → ∀ h1 : i < L.length, ¬ ltP L[j] L[i]) : t.map pfx = dd L L.length := by
  obtain ⟨d1, d2⟩ := dd_spec hs L.length (Nat.le_refl _)
  refine sortP_eq ?_ d2 fun p => ?_
  · rw [List.pairwise_map]
    exact h.pw.imp fun q => by unfold ahead at q; unfold ltP pfx; exact q
  · rw [h.mem, d1, List.take_length]
    exact hp.mem_iff.symm

end Go.Proofs.YtaippfedjjjpeaaGreat
/-
Contract: the routes to a database's prefixes, as the reference finds them.
-/
namespace Go.Proofs.YtaippfedjjjpeaaGreat
open Go Go.Abs Go.Proofs

def rtsS (xs : List TLsa) (es : List TEdge) (f : Int) (T : List TStub) : List TStub := T.filterMap fun r => oneS xs es f (pfx r)
theorem rtsS_succ {xs : List TLsa} {es : List TEdge} {f : Int} {T : List TStub} {i : Nat} (h : i < T.length) : rtsS xs es f (T.take (i + 1)) = rtsS xs es f (T.take i) ++ (oneS xs es f (pfx T[i])).toList := by
  unfold rtsS
  rw [List.take_succ_eq_append_getElem h, List.filterMap_append]
  congr 1
theorem refF_snoc (p : Int × Int) (ds hp : Int → Int) (qs : List (Int × TStub)) (q : Int × TStub) : refF p ds hp (qs ++ [q]) = stepRf p ds hp (refF p ds hp qs) q := by
  unfold refF
  rw [List.foldl_append]
  rfl
def InvR1 (H : Heap) (xs : List TLsa) (w g : V) (m : Nat) (ys : List V) (Hc : Heap) : Prop :=
  ∃ (i : Nat) (u : V) (T : List TStub), i ≤ xs.length ∧ ys = [.box [w], .box [.int .i64 10, g], .box [u], .int .i64 (i : Nat)] ∧ m = xs.length - i ∧ Tb (pAll (xs.take i)) T ∧ Rd Hc 3 u (T.map enStub) ∧ Abs.sub H Hc
def InvR2 (H : Heap) (xs : List TLsa) (w g : V) (i : Nat) (a : TLsa) (m : Nat) (ys : List V) (Hc : Heap) : Prop :=
  ∃ (j : Nat) (u : V) (T : List TStub), j ≤ a.stubs.length ∧ ys = [.box [w], .box [.int .i64 10, g], .box [u], .int .i64 (j : Nat)] ∧ m = a.stubs.length - j ∧ Tb (pAll (xs.take i) ++ (a.stubs.take j).map pfx) T ∧ Rd Hc 3 u (T.map enStub) ∧ Abs.sub H Hc
def InvR3 (H : Heap) (xs : List TLsa) (es : List TEdge) (f : Int) (T : List TStub) (w g u : V) (m : Nat) (ys : List V) (Hc : Heap) : Prop :=
  ∃ (i : Nat) (v : V) (Hb : Heap), i ≤ T.length ∧ ys = [.box [w], .box [.int .i64 10, g], .box [u], v, .int .i64 (i : Nat)] ∧ m = T.length - i ∧ Abs.sub H Hb ∧ Held Hb 3 ((rtsS xs es f (T.take i)).map enStub) v Hc
def InvR4 (H : Heap) (xs : List TLsa) (es : List TEdge) (f : Int) (p : Int × Int) (w g u : V) (m : Nat) (ys : List V) (Hc : Heap) : Prop :=
  ∃ (k : Nat) (t : Int × Int), k ≤ xs.length ∧ ys = [.box [w], .box [.int .i64 10, g], .box [u], .box (enP p), .int .i64 t.1, .int .i64 t.2, .int .i64 (k : Nat)] ∧ m = xs.length - k ∧ t = refF p (far 10 es f) (hpO es f) (prs (xs.take k)) ∧ Abs.sub H Hc
def InvR5 (H : Heap) (xs : List TLsa) (es : List TEdge) (f : Int) (p : Int × Int) (k : Nat) (a : TLsa) (m : Nat) (ys : List V) (Hc : Heap) : Prop :=
  ∃ (j : Nat) (t : Int × Int), j ≤ a.stubs.length ∧ ys = [.int .i64 t.1, .int .i64 t.2, .int .i64 (j : Nat)] ∧ m = a.stubs.length - j ∧ t = refF p (far 10 es f) (hpO es f) (prs (xs.take k) ++ (a.stubs.take j).map fun s => (a.origin, s)) ∧ Abs.sub H Hc
set_option maxHeartbeats 8000000 in
theorem C_sw_PrefixesOf {b : Bool} {xs : List TLsa} {w : V} {f : Int} {H : Heap} {K : V → Heap → Prop} (hv : (dbT b).rd H xs [w]) (hl : xs.length + sumF szl xs ≤ 1048576)
    (hn : ¬ ((graphR xs).2 = true ∧ 0 ≤ f ∧ f ≤ 9) → ∀ H', Abs.sub H H' → K (.tup [.nils, .bool false]) H')
    (hy : (graphR xs).2 = true → 0 ≤ f ∧ f ≤ 9 → ∀ (T : List TStub) u H' Hb, Tb (pAll xs) T → Abs.sub H Hb → Held Hb 3 ((rtsS xs (edgesOf xs xs) f T).map enStub) u H' → K (.tup [u, .bool true]) H') : ACalls P n_s_PrefixesOf [.agg [w], .int .i64 f] H K := by
  have cw := rdS_cell hv
  have ln := rdS_len hv
  apply W_s_PrefixesOf
  unfold F_s_PrefixesOf
  simp [cw]
  refine C_s_GraphOf (c := false) hv hl fun us H1 h1 => ?_
  by_cases hok : dbOk xs ∧ (edgesOf xs xs).length ≤ 60
  rotate_left
  · have e := graph_no hok
    have r1 := h1.rd
    rw [e] at r1 hn ⊢
    obtain ⟨g, rfl, k1⟩ := r1
    simp [stz_eq, putCells, k1.1.cell]
    exact Ret.of (hn (by simp) _ h1.sub)
  have e := graph_yes hok
  have r1 := h1.rd
  rw [e] at r1 hn hy ⊢
  obtain ⟨g, rfl, k1⟩ := r1
  have cg := k1.1.cell
  simp [stz_eq, putCells, cg]
  have hg : graphOk 10 (edgesOf xs xs) := (graphOf_ok hok.1).2 hok.2
  have hd := hok.1
  have hxl := db_len hd
  generalize edgesOf xs xs = es at *
  refine C_s_l01In ?_
  by_cases hf : 0 ≤ f ∧ f ≤ 9
  rotate_left
  · simp [hf]
    exact Ret.of (hn (by simp [hf]) _ h1.sub)
  simp [hf]
  have hfn : 0 ≤ f ∧ f < 10 := by omega
  refine C_s_Distances k1.1 hg hfn fun d H2 hdd => ?_
  have hdr := hdd.rd ri_len
  have s02 := sub_trans h1.sub hdd.sub
  have hgr := k1.1.mono hdd.sub
  have hv2 := (dbT b).mono hv s02
  have hy := fun T u H' Hb => hy rfl hf T u H' Hb
  have st6 : ∀ a ∈ xs, a.stubs.length ≤ 6 := fun a ha => by
    obtain ⟨i, hi, rfl⟩ := List.mem_iff_getElem.1 ha
    exact (hd.1 i hi).2.2.2.2.1
  have plen : ∀ i, (pAll (xs.take i)).length ≤ 60 := fun i => by
    have := pAll_len (xs := xs.take i) fun a ha => st6 a (List.mem_of_mem_take ha)
    simp at this
    omega
  simp [stz_eq, putCells, fillZ]
  refine ⟨InvR1 H2 xs w g, ⟨xs.length, Shr.of ⟨0, .nils, [], by omega, rfl, by omega, ⟨by simp, by simp, by simp, by simp [pAll]⟩, Rd.nils, Abs.sub_refl _⟩⟩, ?_⟩
  rintro m ys Hc ⟨i, u, T, hi, rfl, rfl, hT, hu, hs⟩
  have cu := hu.cell
  simp [ln]
  rw [i64_in (n := (i : Int) + 1) (by omega) (by omega)]
  refine ⟨fun hlt => ?_, fun hge => ?_⟩
  · refine ⟨InvR2 H2 xs w g i xs[i], ⟨xs[i].stubs.length, Shr.of ⟨0, u, T, by omega, rfl, by omega, by simpa using hT, hu, hs⟩⟩, ?_⟩
    rintro m ys Hd ⟨j, u2, T2, hj, rfl, rfl, hT2, hu2, hs2⟩
    have cu2 := hu2.cell
    have h6 := st6 xs[i] (List.getElem_mem hlt)
    simp
    rw [i64_in (n := (j : Int) + 1) (by omega) (by omega)]
    refine rdS_at hv2 hs2 (by omega) (by simpa using hlt) fun q row hp hrw => hp.fld fun q2 hp2 => ?_
    simp only [Int.toNat_natCast] at hrw
    obtain ⟨l1, s1, rfl, g1, g2⟩ := hrw
    rw [hp2.ld]
    simp [g2.1.len]
    refine ⟨fun hlt2 => ?_, fun hge2 => ?_⟩
    · refine ⟨Hd, Abs.sub_refl _, ?_⟩
      refine rdS_at hv2 hs2 (by omega) (by simpa using hlt) fun q row hp hrw => hp.fld fun q2 hp2 => ?_
      simp only [Int.toNat_natCast] at hrw
      obtain ⟨l1, s1, rfl, g1, g2⟩ := hrw
      rw [hp2.ld]
      simp
      have hgd : (xs[i].stubs.map enStub).getD j [] = enStub xs[i].stubs[j] := by simp [hlt2]
      refine (g2.1.mono hs2).idx (by omega) (by simpa using hlt2) fun q hp => hp.fld fun q2 hp2 => ?_
      simp only [Int.toNat_natCast, hgd] at hp2
      rw [hp2.ld]
      simp [cu2, fillZ, putCells]
      have hst := (hd.1 i hlt).2.2.2.2.2.2 j hlt2
      unfold stOk at hst
      rw [show rt xs[i].stubs j = xs[i].stubs[j] by simp [rt, hlt2]] at hst
      have hpl := plen i
      have hT2l : T2.length ≤ 70 := by have := hT2.len; simp at this; omega
      refine C_s_PutRoute (k := zr (pfx xs[i].stubs[j])) hu2 (by omega) fun u3 H3 h3 => ⟨h3.sub, ?_⟩
      have cu3 := h3.cell
      simp [stz_eq, putCells, cu3]
      have hT3 := tb_put (p := pfx xs[i].stubs[j]) hT2 hst.1 (by simp; omega)
      have et : pAll (xs.take i) ++ (xs[i].stubs.take (j + 1)).map pfx = (pAll (xs.take i) ++ (xs[i].stubs.take j).map pfx) ++ [pfx xs[i].stubs[j]] := by
        rw [List.take_succ_eq_append_getElem hlt2, List.map_append, List.append_assoc]; rfl
      exact ⟨xs[i].stubs.length - (j + 1), by omega, Shr.of ⟨j + 1, u3, _, by omega, by simp, rfl, by rw [et]; exact hT3, h3.rd (fun r hr => by obtain ⟨x, _, rfl⟩ := List.mem_map.1 hr; rfl), sub_trans hs2 h3.sub⟩⟩
    · have : j = xs[i].stubs.length := by omega
      subst this
      rw [List.take_length, ← pAll_succ hlt] at hT2
      exact ⟨xs.length - (i + 1), by omega, Shr.of ⟨i + 1, u2, T2, by omega, by simp, rfl, hT2, hu2, hs2⟩⟩
  · have : i = xs.length := by omega
    subst this
    rw [List.take_length] at hT
    have hTl : T.length ≤ 60 := by
      have := hT.len
      have := plen xs.length
      rw [List.take_length] at this
      omega
    have hb0 : bsl 3 0 [V.int .i64 0, .int .i64 0, .int .i64 0] [] = some [] := rfl
    simp [hb0]
    intro o ho
    refine ⟨InvR3 Hc xs es f T w g u, ⟨T.length, Shr.of ⟨0, .slice o 0 0 (some 0), Hc, by omega, rfl, by omega, Abs.sub_refl _, by simpa [rtsS] using Held.new ho⟩⟩, ?_⟩
    rintro m ys Hd ⟨i, v, Hb, hi, rfl, rfl, hsb, hv'⟩
    have hsd := sub_trans hsb hv'.sub
    have hlen := hu.len
    have hlen : lenOf u = some T.length := by simpa using hlen
    simp [hlen]
    rw [i64_in (n := (i : Int) + 1) (by omega) (by omega)]
    refine ⟨fun hlt => ?_, fun hge => ?_⟩
    rotate_left
    · have : i = T.length := by omega
      subst this
      rw [List.take_length] at hv'
      exact Ret.of (hy T v Hd Hb hT (sub_trans s02 (sub_trans hs hsb)) hv')
    have hgd : (T.map enStub).getD i [] = enStub T[i] := by simp [hlt]
    refine (hu.mono hsd).idx (by omega) (by simpa using hlt) fun q hp => hp.fld fun q2 hp2 => ?_
    simp only [Int.toNat_natCast, hgd] at hp2
    rw [hp2.ld]
    simp [stz_eq, putCells]
    have ep : [V.int .i64 T[i].1, .int .i64 T[i].2.1] = enP (pfx T[i]) := rfl
    rw [ep]
    generalize hp' : pfx T[i] = p at *
    refine ⟨InvR4 Hd xs es f p w g u, ⟨xs.length, Shr.of ⟨0, (1000000, -1), by omega, rfl, by omega, rfl, Abs.sub_refl _⟩⟩, ?_⟩
    rintro m ys He ⟨k, t, hk, rfl, rfl, ht, hse⟩
    have s2e := sub_trans hs (sub_trans hsd hse)
    simp [ln]
    rw [i64_in (n := (k : Int) + 1) (by omega) (by omega)]
    refine ⟨fun hlt2 => ?_, fun hge2 => ?_⟩
    · refine rdS_at hv2 s2e (by omega) (by simpa using hlt2) fun q row hp hrw => ?_
      simp only [Int.toNat_natCast] at hrw
      obtain ⟨l1, s1, rfl, g1, g2⟩ := hrw
      have cc := lsa_cell g1 g2
      have ok := hd.1 k hlt2
      have og := ok.1
      have h6 := ok.2.2.2.2.1
      rw [hp.ld]
      simp [stz_eq, putCells, cc, g2.1.len]
      refine ⟨InvR5 He xs es f p k xs[k], ⟨xs[k].stubs.length, Shr.of ⟨0, t, by omega, rfl, by omega, by simpa using ht, Abs.sub_refl _⟩⟩, ?_⟩
      rintro m ys Hg ⟨j, t', hj, rfl, rfl, ht', hsg⟩
      have s2g := sub_trans s2e hsg
      simp
      rw [i64_in (n := (j : Int) + 1) (by omega) (by omega)]
      refine ⟨fun hlt3 => ?_, fun hge3 => ?_⟩
      · have st := (ok.2.2.2.2.2.2 j hlt3).2.1
        rw [show rt xs[k].stubs j = xs[k].stubs[j] by simp [rt, hlt3]] at st
        have fi := far_in (n := 10) hg f (b := xs[k].origin) og.1 (by omega)
        have next : ∀ (t2 : Int × Int) H', stepRf p (far 10 es f) (hpO es f) t' (xs[k].origin, xs[k].stubs[j]) = t2 → Abs.sub Hg H' → ∃ n86, n86 < xs[k].stubs.length - j ∧ Shr (InvR5 He xs es f p k xs[k] n86 [.int .i64 t2.1, .int .i64 t2.2, .int .i64 ((j : Int) + 1)]) H' := fun t2 H' e1 e2 =>
          ⟨xs[k].stubs.length - (j + 1), by omega, Shr.of ⟨j + 1, t2, by omega, by simp, rfl, by
            rw [← e1, ht', List.take_succ_eq_append_getElem hlt3, List.map_append, ← List.append_assoc]
            exact (refF_snoc ..).symm, sub_trans hsg e2⟩⟩
        have step : stepRf p (far 10 es f) (hpO es f) t' (xs[k].origin, xs[k].stubs[j]) = if pfx xs[k].stubs[j] ≠ p ∨ far 10 es f xs[k].origin = 1000000 then t' else if far 10 es f xs[k].origin + xs[k].stubs[j].2.2 < t'.1 ∨ (far 10 es f xs[k].origin + xs[k].stubs[j].2.2 = t'.1 ∧ hpO es f xs[k].origin < t'.2) then (far 10 es f xs[k].origin + xs[k].stubs[j].2.2, hpO es f xs[k].origin) else t' := rfl
        have hgd2 : (xs[k].stubs.map enStub).getD j [] = enStub xs[k].stubs[j] := by simp [hlt3]
        refine ⟨Hg, Abs.sub_refl _, ?_⟩
        refine (g2.1.mono s2g).idx (by omega) (by simpa using hlt3) fun q hp => hp.fld fun q2 hp2 => ?_
        simp only [Int.toNat_natCast, hgd2] at hp2
        rw [hp2.ld]
        simp [enP]
        rw [neq_pref]
        simp
        have stay : (pfx xs[k].stubs[j] ≠ p ∨ far 10 es f xs[k].origin = 1000000) → stepRf p (far 10 es f) (hpO es f) t' (xs[k].origin, xs[k].stubs[j]) = t' := fun q => by rw [step, if_pos q]
        refine ⟨fun a1 => next t' Hg (stay (.inl fun q => ?_)) (Abs.sub_refl _), fun a1 a2 => ?_⟩
        · rw [← q] at a1; simp [pfx] at a1
        have ep2 : pfx xs[k].stubs[j] = p := Prod.ext a1 a2
        refine dist_ld (hdr.mono s2g) hg (by omega) ?_
        simp
        refine ⟨fun b1 => next t' Hg (stay (.inr b1)) (Abs.sub_refl _), fun b1 => ?_⟩
        have step2 : stepRf p (far 10 es f) (hpO es f) t' (xs[k].origin, xs[k].stubs[j]) = if far 10 es f xs[k].origin + xs[k].stubs[j].2.2 < t'.1 ∨ (far 10 es f xs[k].origin + xs[k].stubs[j].2.2 = t'.1 ∧ hpO es f xs[k].origin < t'.2) then (far 10 es f xs[k].origin + xs[k].stubs[j].2.2, hpO es f xs[k].origin) else t' := by
          rw [step, if_neg (by rintro (q | q); exact q ep2; exact b1 q)]
        refine ⟨Hg, Abs.sub_refl _, ?_⟩
        refine dist_ld (hdr.mono s2g) hg (by omega) ?_
        refine (g2.1.mono s2g).idx (by omega) (by simpa using hlt3) fun q hp => hp.fld fun q2 hp2 => ?_
        simp only [Int.toNat_natCast, hgd2] at hp2
        rw [hp2.ld]
        simp
        rw [i64_in (n := far 10 es f xs[k].origin + xs[k].stubs[j].2.2) (by omega) (by omega)]
        generalize hcc : far 10 es f xs[k].origin + xs[k].stubs[j].2.2 = c at *
        have yes : ∀ H', Abs.sub Hg H' → (c < t'.1 ∨ (c = t'.1 ∧ hpO es f xs[k].origin < t'.2)) → ∃ n86, n86 < xs[k].stubs.length - j ∧ Shr (InvR5 He xs es f p k xs[k] n86 [.int .i64 c, .int .i64 (hpO es f xs[k].origin), .int .i64 ((j : Int) + 1)]) H' := fun H' q1 q2 => next (c, hpO es f xs[k].origin) H' (by rw [step2, if_pos q2]) q1
        have no : ∀ H', Abs.sub Hg H' → ¬ (c < t'.1 ∨ (c = t'.1 ∧ hpO es f xs[k].origin < t'.2)) → ∃ n86, n86 < xs[k].stubs.length - j ∧ Shr (InvR5 He xs es f p k xs[k] n86 [.int .i64 t'.1, .int .i64 t'.2, .int .i64 ((j : Int) + 1)]) H' := fun H' q1 q2 => next t' H' (by rw [step2, if_neg q2]) q1
        refine ⟨fun c1 => ?_, fun c1 => ?_⟩
        · refine C_s_HopsTo (hgr.mono s2g) hg hfn (by omega) fun hv3 H3 h3 => ?_
          have nh := hops_ne hg hfn (b := xs[k].origin) (by omega) (fun q => c1 q.symm) b1
          obtain ⟨m1, _⟩ := hop_head hg nh
          have mi := hops_in hg m1
          have hpe : hpO es f xs[k].origin = 1 + (hops 10 es f xs[k].origin).headD 0 := by unfold hpO; rw [if_pos c1]
          have hg0 : ((hops 10 es f xs[k].origin).map ri).getD 0 [] = ri ((hops 10 es f xs[k].origin).headD 0) := by
            cases hq : hops 10 es f xs[k].origin with
            | nil => exact absurd hq nh
            | cons x r => rfl
          refine (h3.rd ri_len).idx (by omega) (by simpa using List.length_pos_iff.2 nh) fun q hp => ?_
          rw [show ((0 : Int).toNat) = 0 from rfl, hg0] at hp
          rw [hp.ld]
          generalize (hops 10 es f xs[k].origin).headD 0 = hd0 at *
          simp [ri]
          rw [i64_in (n := 1 + hd0) (by omega) (by omega), ← hpe]
          generalize hpO es f xs[k].origin = ho at *
          refine ⟨fun d1 => yes H3 h3.sub (.inl d1), fun d1 => ⟨fun d2 => ⟨fun d3 => yes H3 h3.sub (.inr ⟨d2, d3⟩), fun d3 => no H3 h3.sub (by omega)⟩, fun d2 => no H3 h3.sub (by omega)⟩⟩
        · have hpe : hpO es f xs[k].origin = 0 := by unfold hpO; rw [if_neg (by simpa using c1)]
          rw [hpe] at yes no
          refine ⟨fun d1 => yes Hg (Abs.sub_refl _) (.inl d1), fun d1 => ⟨fun d2 => ⟨fun d3 => yes Hg (Abs.sub_refl _) (.inr ⟨d2, d3⟩), fun d3 => no Hg (Abs.sub_refl _) (by omega)⟩, fun d2 => no Hg (Abs.sub_refl _) (by omega)⟩⟩
      · have : j = xs[k].stubs.length := by omega
        subst this
        rw [List.take_length, ← prs_succ hlt2] at ht'
        exact ⟨xs.length - (k + 1), by omega, Shr.of ⟨k + 1, t', by omega, by simp [enP], rfl, ht', sub_trans hse hsg⟩⟩
    · have : k = xs.length := by omega
      subst this
      rw [List.take_length] at ht
      have one : oneS xs es f p = if 0 ≤ t.2 then some (p.1, p.2, t.2) else none := by rw [ht]; rfl
      have succ := rtsS_succ (xs := xs) (es := es) (f := f) hlt
      rw [hp', one] at succ
      obtain ⟨Hb', r1, r2⟩ := hv'.rise hse
      have rl : (rtsS xs es f (T.take i)).length ≤ 60 := by
        have : (rtsS xs es f (T.take i)).length ≤ (T.take i).length := List.length_filterMap_le ..
        simp at this
        omega
      refine ⟨fun hh => ?_, fun hh => ?_⟩
      · rw [if_pos hh] at succ
        simp [fillZ, putCells, enP, bsl_one]
        intro o7 ho7
        refine r2.append (sub_fresh ho7) (by simp) (by simp; omega) fun v' H' H'' ho' hs' => ?_
        refine ⟨T.length - (i + 1), by omega, H'', hs', i + 1, v', Hb', by omega, by simp, rfl, sub_trans hsb r1, ?_⟩
        rw [succ, List.map_append]
        exact ho'
      · rw [if_neg (by omega)] at succ
        exact ⟨T.length - (i + 1), by omega, Shr.of ⟨i + 1, v, Hb', by omega, by simp, rfl, sub_trans hsb r1, by rw [succ]; simpa using r2⟩⟩

end Go.Proofs.YtaippfedjjjpeaaGreat
