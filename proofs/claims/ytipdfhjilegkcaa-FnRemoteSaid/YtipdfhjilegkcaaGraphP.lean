/-
Contracts: the best alternate, node-safe ones.
-/
import Derived.Test.YtipdfhjilegkcaaGraphO
set_option linter.all false
namespace Go.Proofs.Ytipdfhjilegkcaa
open Go Go.Abs Go.Proofs

def valA (n : Int) (es : List TEdge) (s d x : Int) : Int := cost n es s x + far n es x d
def pickA (n : Int) (es : List TEdge) (s d out x : Int) : Int := if out < 0 ∨ valA n es s d x < valA n es s d out then x else out
def bestA (n : Int) (es : List TEdge) (s d : Int) (l : List Int) : Int := l.foldl (pickA n es s d) (-1)
theorem bestA_succ {n : Int} {es : List TEdge} {s d : Int} {l : List Int} {i : Nat} (h : i < l.length) : bestA n es s d (l.take (i + 1)) = pickA n es s d (bestA n es s d (l.take i)) l[i] := by
  unfold bestA
  rw [List.take_succ_eq_append_getElem h, List.foldl_append]
  rfl
theorem bestA_in {n : Int} {es : List TEdge} {s d : Int} {l : List Int} (hl : ∀ x ∈ l, 0 ≤ x ∧ x < n) : ∀ {i : Nat}, i ≤ l.length → bestA n es s d (l.take i) = -1 ∨ (0 ≤ bestA n es s d (l.take i) ∧ bestA n es s d (l.take i) < n)
  | 0, _ => .inl (by simp [bestA])
  | i + 1, hi => by
    rw [bestA_succ (by omega), pickA]
    split
    · exact .inr (hl _ (List.getElem_mem (by omega)))
    · exact bestA_in hl (by omega)
theorem valA_in {n : Int} {es : List TEdge} (hg : graphOk n es) (s : Int) {d x : Int} (hd : 0 ≤ d ∧ d < n) : 0 ≤ valA n es s d x ∧ valA n es s d x ≤ 2000000 := by
  unfold valA
  have := far_in hg x hd.1 hd.2
  rcases cost_cases hg s x with h | h <;> omega
theorem alts_mem {n : Int} {es : List TEdge} {s f d x : Int} (hn : 0 ≤ n) (h : x ∈ alts n es s f d) : (0 ≤ x ∧ x < n) ∧ x ≠ f ∧ lfree n es s x d := by
  unfold alts at h
  split at h
  · obtain ⟨h1, h2⟩ := mem_fil h
    unfold altQ at h2
    have := of_decide_eq_true h2
    exact ⟨⟨h1.1, by omega⟩, this⟩
  · simp at h
theorem mem_alts {n : Int} {es : List TEdge} {s f d x : Int} (hx : 0 ≤ x ∧ x < n) (h1 : near n es s f) (h2 : x ≠ f) (h3 : lfree n es s x d) : x ∈ alts n es s f d := by
  unfold alts
  rw [if_pos h1]
  exact fil_mem hx (decide_eq_true ⟨h2, h3⟩)
theorem alts_len {n : Int} {es : List TEdge} (hn : n ≤ 10) (s f d : Int) : (alts n es s f d).length ≤ 10 := by
  unfold alts
  split
  · have := fil_len (altQ n es s f d) n.toNat; omega
  · simp

theorem bestR_eq {n : Int} {es : List TEdge} {s f d : Int} : bestA n es s d (altsR n es s f d) = if around n es [s, f, d] then bestA n es s d (alts n es s f d) else -1 := by
  unfold altsR
  split <;> simp [bestA]

def InvB (n : Int) (es : List TEdge) (s d : Int) (l : List Int) (H : Heap) (m : Nat) (ys : List V) (Hc : Heap) : Prop :=
  ∃ (i : Nat) (c : Int), i ≤ l.length ∧ ys = [.int .i64 (bestA n es s d (l.take i)), .int .i64 c, .int .i64 (i : Nat)] ∧ m = l.length - i ∧ Hc = H ∧ (bestA n es s d (l.take i) < 0 ∨ c = valA n es s d (bestA n es s d (l.take i)))

set_option maxHeartbeats 1000000 in
theorem C_s_BestAlternate {n s f d : Int} {v : V} {es : List TEdge} {H : Heap} {K : V → Heap → Prop} (hv : Rd H 3 v (es.map enEdge)) (h : K (.int .i64 (bestA n es s d (altsR n es s f d))) H) : ACalls P n_s_BestAlternate [vG n v, .int .i64 s, .int .i64 f, .int .i64 d] H K := by
  have hc := hv.cell
  apply W_s_BestAlternate
  unfold F_s_BestAlternate
  simp [hc]
  refine C_s_Alternates hv fun u H' hu => ?_
  have ru := hu.rd ri_len
  have hvb := hv.mono hu.sub
  have hs := hu.sub
  have hlen := altsR_len (n := n) (es := es) s f d
  by_cases ha : around n es [s, f, d]
  · have hg := ha.1
    have hn := hg.1
    obtain ⟨n1, n2, n3⟩ := nodesOk_three ha.2.2
    have hin : ∀ x ∈ altsR n es s f d, 0 ≤ x ∧ x < n := fun x hx => by
      rw [altsR, if_pos ha] at hx
      exact (alts_mem (by omega) hx).1
    generalize altsR n es s f d = l at *
    clear hu
    refine ⟨InvB n es s d l H', ⟨l.length, Shr.of ⟨0, 0, by omega, by simp [bestA], by omega, rfl, .inl (by simp [bestA])⟩⟩, ?_⟩
    rintro m ys Hc ⟨i, c, hi, rfl, rfl, rfl, hcs⟩
    simp [ru.len]
    refine ⟨fun hlt => ⟨_, Abs.sub_refl _, ?_⟩, fun hge => ?_⟩
    · have hx := hin _ (List.getElem_mem hlt)
      have hv1 := valA_in hg s (d := d) (x := l[i]) n3
      have step := bestA_succ (n := n) (es := es) (s := s) (d := d) hlt
      refine ru.idx (by omega) (by simpa using hlt) fun p hp => ?_
      simp only [hp.ld]
      simp [hlt]
      refine ru.idx (by omega) (by simpa using hlt) fun p hp => ?_
      simp only [hp.ld]
      simp [hlt]
      refine C_s_l03Cost hvb hg ?_
      simp
      refine C_s_l10Dist hvb hg hx n3 ?_
      simp
      rw [i64_in (n := (i : Int) + 1) (by omega) (by omega)]
      have e1 : IntKind.i64.wrap (cost n es s l[i] + far n es l[i] d) = valA n es s d l[i] := i64_in (by unfold valA at hv1; omega) (by unfold valA at hv1; omega)
      rw [e1]
      refine ⟨fun q => ?_, fun q => ⟨fun q2 => ?_, fun q2 => ?_⟩⟩
      · refine ru.idx (by omega) (by simpa using hlt) fun p hp => ?_
        simp only [hp.ld]
        simp [hlt]
        rw [pickA, if_pos (.inl q)] at step
        exact ⟨l.length - (i + 1), by omega, Shr.of ⟨i + 1, _, by omega, by rw [step]; simp; rfl, rfl, rfl, .inr (by rw [step])⟩⟩
      · have q2' : valA n es s d l[i] < valA n es s d (bestA n es s d (l.take i)) := by rcases hcs with hh | hh <;> omega
        refine ru.idx (by omega) (by simpa using hlt) fun p hp => ?_
        simp only [hp.ld]
        simp [hlt]
        rw [pickA, if_pos (.inr q2')] at step
        exact ⟨l.length - (i + 1), by omega, Shr.of ⟨i + 1, _, by omega, by rw [step]; simp; rfl, rfl, rfl, .inr (by rw [step])⟩⟩
      · have q2' : ¬ valA n es s d l[i] < valA n es s d (bestA n es s d (l.take i)) := by rcases hcs with hh | hh <;> omega
        rw [pickA, if_neg (by omega)] at step
        exact ⟨l.length - (i + 1), by omega, Shr.of ⟨i + 1, _, by omega, by rw [step]; simp; rfl, rfl, rfl, by rw [step]; exact hcs⟩⟩
    · have : i = l.length := by omega
      subst this
      rw [List.take_length]
      exact Ret.shr h rfl hs
  · have e : altsR n es s f d = [] := by rw [altsR, if_neg ha]
    rw [e] at hu h ru
    refine ⟨fun m ys Hc => ys = [.int .i64 (-1), .int .i64 0, .int .i64 0] ∧ Hc = H', ⟨0, Shr.of ⟨rfl, rfl⟩⟩, ?_⟩
    rintro m ys Hc ⟨rfl, rfl⟩
    simp [ru.len]
    exact Ret.shr h (by simp [bestA]) hs

def InvB2 (n : Int) (es : List TEdge) (s d : Int) (l : List Int) (H : Heap) (m : Nat) (ys : List V) (Hc : Heap) : Prop :=
  ∃ (i : Nat), i ≤ l.length ∧ ys = [.int .i64 (bestA n es s d (l.take i)), .int .i64 (i : Nat)] ∧ m = l.length - i ∧ Hc = H

set_option maxHeartbeats 1000000 in
theorem C_i_Graph_bestAlternate {n s f d : Int} {v u : V} {es : List TEdge} {H : Heap} {K : V → Heap → Prop} (hv : Rd H 3 v (es.map enEdge)) (hg : graphOk n es) (n1 : 0 ≤ s ∧ s < n) (n3 : 0 ≤ d ∧ d < n) (hu : Rd2 H 1 u (allD n es))
    (h : K (.int .i64 (bestA n es s d (alts n es s f d))) H) : ACalls P n_i_Graph_bestAlternate [vG n v, .int .i64 s, .int .i64 f, .int .i64 d, u] H K := by
  have hc := hv.cell
  have hn := hg.1
  apply W_i_Graph_bestAlternate
  unfold F_i_Graph_bestAlternate
  simp [hc]
  refine C_i_Graph_alternates hv hg n1 n3 hu fun w H' hw => ?_
  have rw' := hw.rd ri_len
  have hs := hw.sub
  have hvb := hv.mono hs
  have hub := hu.mono hs
  have hin : ∀ x ∈ alts n es s f d, 0 ≤ x ∧ x < n := fun x hx => (alts_mem (by omega) hx).1
  have hlen := alts_len (es := es) hn.2 s f d
  simp [rw'.len]
  generalize alts n es s f d = l at *
  clear hw
  refine ⟨InvB2 n es s d l H', ⟨l.length, Shr.of ⟨0, by omega, by simp [bestA], by omega, rfl⟩⟩, ?_⟩
  rintro m ys Hc ⟨i, hi, rfl, rfl, rfl⟩
  simp
  refine ⟨fun hlt => ?_, fun hge => ?_⟩
  · have hx := hin _ (List.getElem_mem hlt)
    have hv1 := valA_in hg s (d := d) (x := l[i]) n3
    have step := bestA_succ (n := n) (es := es) (s := s) (d := d) hlt
    have hb := bestA_in (n := n) (es := es) (s := s) (d := d) hin hi
    refine rw'.idx (by omega) (by simpa using hlt) fun p hp => ?_
    simp only [hp.ld]
    simp [hlt]
    rw [i64_in (n := (i : Int) + 1) (by omega) (by omega)]
    refine ⟨_, Abs.sub_refl _, ?_⟩
    refine ⟨fun q => ?_, fun q => ?_⟩
    · rw [pickA, if_pos (.inl q)] at step
      exact ⟨l.length - (i + 1), by omega, Shr.of ⟨i + 1, by omega, by rw [step]; simp, rfl, rfl⟩⟩
    · have hv2 := valA_in hg s (d := d) (x := bestA n es s d (l.take i)) n3
      have hb' : 0 ≤ bestA n es s d (l.take i) ∧ bestA n es s d (l.take i) < n := by rcases hb with hh | hh <;> omega
      refine far_ld hub hg hx n3 ?_
      refine far_ld hub hg hb' n3 ?_
      refine C_i_Graph_cost hvb hg ?_
      simp
      refine C_i_Graph_cost hvb hg ?_
      have e1 : IntKind.i64.wrap (cost n es s l[i] + far n es l[i] d) = valA n es s d l[i] := i64_in (by unfold valA at hv1; omega) (by unfold valA at hv1; omega)
      have e2 : IntKind.i64.wrap (cost n es s (bestA n es s d (l.take i)) + far n es (bestA n es s d (l.take i)) d) = valA n es s d (bestA n es s d (l.take i)) := i64_in (by unfold valA at hv2; omega) (by unfold valA at hv2; omega)
      simp
      rw [e1, e2]
      refine ⟨fun q2 => ?_, fun q2 => ?_⟩
      · rw [pickA, if_pos (.inr q2)] at step
        exact ⟨l.length - (i + 1), by omega, Shr.of ⟨i + 1, by omega, by rw [step]; simp, rfl, rfl⟩⟩
      · rw [pickA, if_neg (by omega)] at step
        exact ⟨l.length - (i + 1), by omega, Shr.of ⟨i + 1, by omega, by rw [step]; simp, rfl, rfl⟩⟩
  · have : i = l.length := by omega
    subst this
    rw [List.take_length]
    exact Ret.shr h rfl hs

theorem C_i_BestAlternate {n s f d : Int} {v : V} {es : List TEdge} {H : Heap} {K : V → Heap → Prop} (hv : Rd H 3 v (es.map enEdge)) (h : K (.int .i64 (bestA n es s d (altsR n es s f d))) H) : ACalls P n_i_BestAlternate [vG n v, .int .i64 s, .int .i64 f, .int .i64 d] H K := by
  have hc := hv.cell
  apply W_i_BestAlternate
  unfold F_i_BestAlternate
  simp [hc, bsl3]
  intro o ho
  have hw : Held H 1 (([s, f, d] : List Int).map ri) (.slice o 0 3 (some 3)) (upd H o ⟨1, ([s, f, d] : List Int).map ri⟩) := Held.full ho (by simp)
  have hs := hw.sub
  have hvb := hv.mono hs
  refine C_i_isAround hvb (hw.rd ri_len) (by simp) ?_
  simp
  refine ⟨fun q => Ret.shr h (by rw [altsR, if_neg q]; simp [bestA]) hs, fun ha => ?_⟩
  have hg := ha.1
  obtain ⟨n1, n2, n3⟩ := nodesOk_three ha.2.2
  rw [altsR, if_pos ha] at h
  refine ⟨_, Abs.sub_refl _, ?_⟩
  refine C_i_Graph_all hvb hg fun u H1 h1 hu => ⟨h1, ?_⟩
  exact C_i_Graph_bestAlternate (hvb.mono h1) hg n1 n3 hu ⟨h1, Ret.shr h rfl (sub_trans hs h1)⟩

/-! #### node-safe -/
def nsafe (n : Int) (es : List TEdge) (s x f d : Int) : Prop := f ≠ d ∧ x ∈ altsR n es s f d ∧ far n es x d < far n es x f + far n es f d
instance (n : Int) (es : List TEdge) (s x f d : Int) : Decidable (nsafe n es s x f d) := by unfold nsafe; infer_instance

theorem C_s_NodeSafe {n s x f d : Int} {v : V} {es : List TEdge} {H : Heap} {K : V → Heap → Prop} (hv : Rd H 3 v (es.map enEdge)) (h : K (.bool (decide (nsafe n es s x f d))) H) : ACalls P n_s_NodeSafe [vG n v, .int .i64 s, .int .i64 x, .int .i64 f, .int .i64 d] H K := by
  have hc := hv.cell
  apply W_s_NodeSafe
  unfold F_s_NodeSafe
  simp [hc]
  refine ⟨fun q => Ret.no h fun hh => hh.1 q, fun q1 => ?_⟩
  refine C_s_Alternates hv fun u H' hu => ?_
  have hlen := altsR_len (n := n) (es := es) s f d
  have hs := hu.sub
  have hvb := hv.mono hs
  refine C_s_l01Has (hu.rd ri_len) (by omega) ?_
  simp
  refine ⟨fun q => Ret.shr h (by rw [decide_eq_false (fun hh => q hh.2.1)]) hs, fun q2 => ⟨_, Abs.sub_refl _, ?_⟩⟩
  have ha : around n es [s, f, d] := by
    unfold altsR at q2
    split at q2
    · assumption
    · simp at q2
  have hg := ha.1
  have hn := hg.1
  obtain ⟨n1, n2, n3⟩ := nodesOk_three ha.2.2
  have hx : 0 ≤ x ∧ x < n := by
    have q2' := q2
    rw [altsR, if_pos ha] at q2'
    exact (alts_mem (by omega) q2').1
  refine C_s_l10Dist hvb hg hx n3 ?_
  simp
  refine C_s_l10Dist hvb hg hx n2 ?_
  simp
  refine C_s_l10Dist hvb hg n2 n3 ?_
  simp
  have f1 := far_in hg x n2.1 n2.2
  have f2 := far_in hg f n3.1 n3.2
  rw [i64_in (n := far n es x f + far n es f d) (by omega) (by omega)]
  refine Ret.shr h ?_ hs
  by_cases q : far n es x d < far n es x f + far n es f d
  · rw [decide_eq_true q, decide_eq_true ⟨q1, q2, q⟩]
  · rw [decide_eq_false q, decide_eq_false (fun hh => q hh.2.2)]

theorem C_i_NodeSafe {n s x f d : Int} {v : V} {es : List TEdge} {H : Heap} {K : V → Heap → Prop} (hv : Rd H 3 v (es.map enEdge)) (h : K (.bool (decide (nsafe n es s x f d))) H) : ACalls P n_i_NodeSafe [vG n v, .int .i64 s, .int .i64 x, .int .i64 f, .int .i64 d] H K := by
  have hc := hv.cell
  apply W_i_NodeSafe
  unfold F_i_NodeSafe
  simp [hc, bsl4]
  intro o ho
  have hw : Held H 1 (([s, x, f, d] : List Int).map ri) (.slice o 0 4 (some 4)) (upd H o ⟨1, ([s, x, f, d] : List Int).map ri⟩) := Held.full ho (by simp)
  have hs := hw.sub
  have hvb := hv.mono hs
  refine C_i_isAround hvb (hw.rd ri_len) (by simp) ?_
  simp
  refine ⟨fun q => Ret.shr h ?_ hs, fun ha => ?_⟩
  · rw [decide_eq_false]
    rintro ⟨h1, h2, h3⟩
    unfold altsR at h2
    split at h2
    · rename_i ha
      have hn := ha.1.1
      obtain ⟨n1, n2, n3⟩ := nodesOk_three ha.2.2
      have hx := (alts_mem (by omega) h2).1
      refine q ⟨ha.1, ha.2.1, fun i hi => ?_⟩
      simp at hi
      have : i = 0 ∨ i = 1 ∨ i = 2 ∨ i = 3 := by omega
      rcases this with rfl | rfl | rfl | rfl <;> simpa
    · simp at h2
  have hg := ha.1
  have hn := hg.1
  obtain ⟨n1, n0, n2, n3⟩ := nodesOk_four ha.2.2
  refine ⟨fun q => Ret.shr h (by rw [decide_eq_false (fun hh => hh.1 q)]) hs, fun q1 => ?_⟩
  refine C_i_Graph_all hvb hg fun u H1 h1 hu => ⟨_, Abs.sub_refl _, ?_⟩
  refine C_i_Graph_alternates (hvb.mono h1) hg n1 n3 hu fun w H2 hw2 => ⟨hw2.sub, ?_⟩
  have hlen := alts_len (es := es) hn.2 s f d
  have ha' : around n es [s, f, d] := ⟨hg, ha.2.1, nodesOk_mk n1 n2 n3⟩
  have e : altsR n es s f d = alts n es s f d := by rw [altsR, if_pos ha']
  have ht := sub_trans hs (sub_trans h1 hw2.sub)
  refine C_slices_Contains (hw2.rd ri_len) (by omega) ⟨hw2.sub, ?_⟩
  simp
  refine ⟨fun q2 => ?_, fun q => Ret.shr h (by rw [decide_eq_false (fun hh => q (e ▸ hh.2.1))]) ht⟩
  refine far_ld hu hg n0 n3 ?_
  refine far_ld hu hg n0 n2 ?_
  refine far_ld hu hg n2 n3 ?_
  simp
  have f1 := far_in hg x n2.1 n2.2
  have f2 := far_in hg f n3.1 n3.2
  rw [i64_in (n := far n es x f + far n es f d) (by omega) (by omega)]
  refine Ret.shr h ?_ ht
  by_cases q : far n es x d < far n es x f + far n es f d
  · rw [decide_eq_true q, decide_eq_true ⟨q1, e ▸ q2, q⟩]
  · rw [decide_eq_false q, decide_eq_false (fun hh => q hh.2.2)]

end Go.Proofs.Ytipdfhjilegkcaa
