/-
Contracts: Coverage, Remote.
-/
import Derived.Test.YtogffkekamfmbaaGraphP
set_option linter.all false
namespace Go.Proofs.Ytogffkekamfmbaa
open Go Go.Abs Go.Proofs

/-! #### Coverage: the counts over d for one s, over s -/
def stepC (n : Int) (es : List TEdge) (s : Int) (c : Int × Int) (d : Nat) : Int × Int :=
  if (hops n es s d).length = 0 then c else if 0 ≤ bestA n es s d (alts n es s ((hops n es s d).headD (-1)) d) then (c.1 + 1, c.2 + 1) else (c.1, c.2 + 1)
def rowC (n : Int) (es : List TEdge) (s : Int) (c : Int × Int) : Nat → Int × Int
  | 0 => c
  | j + 1 => stepC n es s (rowC n es s c j) j
def allC (n : Int) (es : List TEdge) : Nat → Int × Int
  | 0 => (0, 0)
  | i + 1 => rowC n es i (allC n es i) n.toNat
def cover (n : Int) (es : List TEdge) : Int × Int := if around n es [] then allC n es n.toNat else (0, 0)
theorem stepC_in {n : Int} {es : List TEdge} {s : Int} {c : Int × Int} {d : Nat} {m : Int} (h : (0 ≤ c.1 ∧ c.1 ≤ m) ∧ (0 ≤ c.2 ∧ c.2 ≤ m)) : (0 ≤ (stepC n es s c d).1 ∧ (stepC n es s c d).1 ≤ m + 1) ∧ (0 ≤ (stepC n es s c d).2 ∧ (stepC n es s c d).2 ≤ m + 1) := by
  unfold stepC
  split
  · omega
  · split <;> simp only <;> omega
theorem rowC_in {n : Int} {es : List TEdge} {s : Int} {c : Int × Int} {m : Int} (h : (0 ≤ c.1 ∧ c.1 ≤ m) ∧ (0 ≤ c.2 ∧ c.2 ≤ m)) : ∀ j : Nat, (0 ≤ (rowC n es s c j).1 ∧ (rowC n es s c j).1 ≤ m + j) ∧ (0 ≤ (rowC n es s c j).2 ∧ (rowC n es s c j).2 ≤ m + j)
  | 0 => by simpa [rowC] using h
  | j + 1 => by
    have := stepC_in (n := n) (es := es) (s := s) (d := j) (rowC_in (n := n) (es := es) (s := s) h j)
    rw [rowC]
    omega
theorem allC_in {n : Int} {es : List TEdge} (hn : n.toNat ≤ 10) : ∀ i : Nat, (0 ≤ (allC n es i).1 ∧ (allC n es i).1 ≤ 10 * i) ∧ (0 ≤ (allC n es i).2 ∧ (allC n es i).2 ≤ 10 * i)
  | 0 => by simp [allC]
  | i + 1 => by
    have := rowC_in (n := n) (es := es) (s := i) (allC_in (es := es) hn i) n.toNat
    rw [allC]
    omega
theorem hop_node {n : Int} {es : List TEdge} (hg : graphOk n es) {a b x : Int} (h : x ∈ hops n es a b) : 0 ≤ x ∧ x < n := by
  unfold hops at h
  split at h
  · simp at h
  · simp only [List.mem_filterMap] at h
    obtain ⟨e, he, hx⟩ := h
    unfold hopAt at hx
    split at hx
    · simp at hx
      obtain ⟨i, hi, rfl⟩ := ed_mem he
      have := (hg.2.2 i hi).2.1
      omega
    · cases hx
theorem bestA_R {n : Int} {es : List TEdge} {s f d : Int} (ha : around n es [s, f, d]) : bestA n es s d (altsR n es s f d) = bestA n es s d (alts n es s f d) := by rw [altsR, if_pos ha]
theorem headD_get {l : List Int} (h : 0 < l.length) : l.headD (-1) = l[0] := by
  match l, h with
  | x :: xs, _ => rfl

def InvC1 (n : Int) (es : List TEdge) (H : Heap) (m : Nat) (ys : List V) (Hc : Heap) : Prop :=
  ∃ (i : Nat), (i : Int) ≤ n ∧ ys = [.int .i64 (allC n es i).1, .int .i64 (allC n es i).2, .int .i64 (i : Nat)] ∧ m = n.toNat - i ∧ Abs.sub H Hc
def InvC2 (n : Int) (es : List TEdge) (i : Nat) (H : Heap) (m : Nat) (ys : List V) (Hc : Heap) : Prop :=
  ∃ (j : Nat), (j : Int) ≤ n ∧ ys = [.int .i64 (rowC n es i (allC n es i) j).1, .int .i64 (rowC n es i (allC n es i) j).2, .int .i64 (j : Nat)] ∧ m = n.toNat - j ∧ Abs.sub H Hc

set_option maxHeartbeats 1000000 in
theorem C_s_Coverage {n : Int} {v : V} {es : List TEdge} {H : Heap} {K : V → Heap → Prop} (hv : Rd H 3 v (es.map enEdge)) (h : K (.tup [.int .i64 (cover n es).1, .int .i64 (cover n es).2]) H) : ACalls P n_s_Coverage [vG n v] H K := by
  have hc := hv.cell
  apply W_s_Coverage
  unfold F_s_Coverage
  simp [hc]
  refine C_s_l10Good (xs := []) hv Rd.nils (by simp) ?_
  simp
  refine ⟨fun q => Ret.eq h (by rw [cover, if_neg q]), fun ha => ?_⟩
  rw [cover, if_pos ha] at h
  have hg := ha.1
  have hn := hg.1
  refine ⟨InvC1 n es H, ⟨n.toNat, Shr.of ⟨0, by omega, by simp [allC], by omega, Abs.sub_refl _⟩⟩, ?_⟩
  rintro m ys Hc ⟨i, hi, rfl, rfl, hs⟩
  simp
  have bi := allC_in (n := n) (es := es) (by omega) i
  refine ⟨fun hlt => ?_, fun hge => ?_⟩
  · refine ⟨InvC2 n es i H, ⟨n.toNat, Shr.of ⟨0, by omega, by simp [rowC], by omega, hs⟩⟩, ?_⟩
    rintro m ys Hd ⟨j, hj, rfl, rfl, hs2⟩
    simp
    have bj := rowC_in (n := n) (es := es) (s := i) bi j
    refine ⟨fun hlt2 => ?_, fun hge2 => ?_⟩
    · have hvc := hv.mono hs2
      have step : rowC n es i (allC n es i) (j + 1) = stepC n es i (rowC n es i (allC n es i) j) j := rfl
      refine C_s_HopsTo hvc hg (by omega) (by omega) fun u H1 hu => ?_
      have ru := hu.rd ri_len
      have hs3 := sub_trans hs2 hu.sub
      simp [ru.len]
      rw [i64_in (n := (j : Int) + 1) (by omega) (by omega)]
      refine ⟨fun q => ?_, fun q => ?_⟩
      · refine ⟨n.toNat - (j + 1), by omega, Shr.of ⟨j + 1, by omega, ?_, rfl, hs3⟩⟩
        rw [step, stepC, if_pos (by simp [q])]
        simp
      · have h0 : 0 < (hops n es i j).length := List.length_pos_iff.2 q
        rw [stepC, if_neg (by omega), headD_get h0] at step
        refine ⟨_, Abs.sub_refl _, ?_⟩
        refine ru.idx (by omega) (by simpa using h0) fun p hp => ?_
        simp only [hp.ld]
        simp [h0]
        refine C_s_BestAlternate (hvc.mono hu.sub) ?_
        have hx := hop_node hg (List.getElem_mem h0)
        rw [bestA_R ⟨hg, ha.2.1, nodesOk_mk (by omega) hx (by omega)⟩]
        simp
        rw [i64_in (by omega) (by omega), i64_in (by omega) (by omega)]
        refine ⟨fun q2 => ?_, fun q2 => ?_⟩
        · refine ⟨n.toNat - (j + 1), by omega, Shr.of ⟨j + 1, by omega, ?_, rfl, hs3⟩⟩
          rw [step, if_pos q2]
          simp
        · refine ⟨n.toNat - (j + 1), by omega, Shr.of ⟨j + 1, by omega, ?_, rfl, hs3⟩⟩
          rw [step, if_neg (by omega)]
          simp
    · have : j = n.toNat := by omega
      subst this
      rw [i64_in (by omega) (by omega)]
      exact ⟨n.toNat - (i + 1), by omega, Shr.of ⟨i + 1, by omega, by simp [allC], rfl, hs2⟩⟩
  · have : i = n.toNat := by omega
    subst this
    exact Ret.shr h rfl hs

set_option maxHeartbeats 1000000 in
theorem C_i_Coverage {n : Int} {v : V} {es : List TEdge} {H : Heap} {K : V → Heap → Prop} (hv : Rd H 3 v (es.map enEdge)) (h : K (.tup [.int .i64 (cover n es).1, .int .i64 (cover n es).2]) H) : ACalls P n_i_Coverage [vG n v] H K := by
  have hc := hv.cell
  apply W_i_Coverage
  unfold F_i_Coverage
  simp [hc]
  refine C_i_isAround (xs := []) hv Rd.nils (by simp) ?_
  simp
  refine ⟨fun q => Ret.eq h (by rw [cover, if_neg q]), fun ha => ?_⟩
  rw [cover, if_pos ha] at h
  have hg := ha.1
  have hn := hg.1
  refine C_i_Graph_all hv hg fun fv H0 h0 hfv => ?_
  refine ⟨InvC1 n es H0, ⟨n.toNat, Shr.of ⟨0, by omega, by simp [allC], by omega, Abs.sub_refl _⟩⟩, ?_⟩
  rintro m ys Hc ⟨i, hi, rfl, rfl, hs⟩
  simp
  have bi := allC_in (n := n) (es := es) (by omega) i
  refine ⟨fun hlt => ?_, fun hge => ?_⟩
  · refine ⟨InvC2 n es i H0, ⟨n.toNat, Shr.of ⟨0, by omega, by simp [rowC], by omega, hs⟩⟩, ?_⟩
    rintro m ys Hd ⟨j, hj, rfl, rfl, hs2⟩
    simp
    have bj := rowC_in (n := n) (es := es) (s := i) bi j
    refine ⟨fun hlt2 => ?_, fun hge2 => ?_⟩
    · have hvc := hv.mono (sub_trans h0 hs2)
      have hfc := hfv.mono hs2
      have step : rowC n es i (allC n es i) (j + 1) = stepC n es i (rowC n es i (allC n es i) j) j := rfl
      refine C_i_Graph_hopsTo hvc hg (by omega) (by omega) hfc fun u H1 hu => ?_
      have ru := hu.rd ri_len
      have hs3 := sub_trans hs2 hu.sub
      simp [ru.len]
      rw [i64_in (n := (j : Int) + 1) (by omega) (by omega)]
      refine ⟨fun q => ?_, fun q => ?_⟩
      · refine ⟨n.toNat - (j + 1), by omega, Shr.of ⟨j + 1, by omega, ?_, rfl, hs3⟩⟩
        rw [step, stepC, if_pos (by simp [q])]
        simp
      · have h0 : 0 < (hops n es i j).length := List.length_pos_iff.2 q
        rw [stepC, if_neg (by omega), headD_get h0] at step
        refine ⟨_, Abs.sub_refl _, ?_⟩
        refine ru.idx (by omega) (by simpa using h0) fun p hp => ?_
        simp only [hp.ld]
        simp [h0]
        refine C_i_Graph_bestAlternate (hvc.mono hu.sub) hg (by omega) (by omega) (hfc.mono hu.sub) ?_
        simp
        rw [i64_in (by omega) (by omega), i64_in (by omega) (by omega)]
        refine ⟨fun q2 => ?_, fun q2 => ?_⟩
        · refine ⟨n.toNat - (j + 1), by omega, Shr.of ⟨j + 1, by omega, ?_, rfl, hs3⟩⟩
          rw [step, if_pos q2]
          simp
        · refine ⟨n.toNat - (j + 1), by omega, Shr.of ⟨j + 1, by omega, ?_, rfl, hs3⟩⟩
          rw [step, if_neg (by omega)]
          simp
    · have : j = n.toNat := by omega
      subst this
      rw [i64_in (by omega) (by omega)]
      exact ⟨n.toNat - (i + 1), by omega, Shr.of ⟨i + 1, by omega, by simp [allC], rfl, hs2⟩⟩
  · have : i = n.toNat := by omega
    subst this
    exact Ret.shr h rfl (sub_trans h0 hs)

end Go.Proofs.Ytogffkekamfmbaa
