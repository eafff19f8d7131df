/-
The law FnNear.
-/
import Derived.Test.YtlmgahcpdapbdaaNearDraw
set_option linter.all false
namespace Go.Proofs.Ytlmgahcpdapbdaa
open Go Go.Abs Go.Proofs

theorem C_l_big {v : V} {n : Nat} {H : Heap} {K : V → Heap → Prop} (hv : lenOf v = some n) (h : K (.bool (decide (1048576 < (n : Int)))) H) : ACalls P n_l_big [v] H K := by
  apply W_l_big
  unfold F_l_big
  simp [hv]
  exact Ret.eq h (by simp)

theorem C_l_same {xs ys : List Int} {v w : V} {H : Heap} {K : V → Heap → Prop} (hv : Rd H 1 v (xs.map ri)) (hw : Rd H 1 w (ys.map ri)) (hl : xs.length ≤ 2097152) (h : K (.bool (decide (xs = ys))) H) :
    ACalls P n_l_same [v, w] H K := by
  apply W_l_same
  unfold F_l_same
  simp [hv.len, hw.len]
  refine ⟨fun hne => Ret.eq h ?_, fun heq => ?_⟩
  · have : xs ≠ ys := by rintro rfl; exact hne rfl
    simp [this]
  · have heq' : xs.length = ys.length := by omega
    refine ⟨fun n zs H' => ∃ i, i ≤ xs.length ∧ zs = [.int .i64 (i : Nat)] ∧ n = xs.length - i ∧ H' = H ∧ xs.take i = ys.take i, ⟨xs.length, Shr.of ⟨0, by omega, rfl, by omega, rfl, by simp⟩⟩, ?_⟩
    rintro n zs H' ⟨i, hi, rfl, rfl, rfl, ht⟩
    simp
    refine ⟨fun hlt => ⟨H', by simp, ?_⟩, fun hge => ?_⟩
    · refine hv.idx (by omega) (by simpa using hlt) fun p hp => ?_
      simp only [hp.ld]
      simp [hlt]
      refine hw.idx (by omega) (by simp; omega) fun q hq => ?_
      simp only [hq.ld]
      have hlt' : i < ys.length := by omega
      simp [hlt']
      refine ⟨fun hne => Ret.eq h ?_, fun he => ?_⟩
      · have : xs ≠ ys := by rintro rfl; exact hne rfl
        simp [this]
      · rw [i64_in (by omega) (by omega)]
        refine ⟨xs.length - (i + 1), by omega, Shr.of ⟨i + 1, by omega, by simp, rfl, rfl, ?_⟩⟩
        rw [List.take_succ_eq_append_getElem hlt, List.take_succ_eq_append_getElem hlt', ht, he]
    · have : i = xs.length := by omega
      subst this
      rw [List.take_of_length_le (by omega), List.take_of_length_le (by omega)] at ht
      exact Ret.eq h (by simp [ht])

theorem full_ahead {es : List TNearEvent} {i : Nat} (h : isFull es i) : (play (es.take i)).1.1 = 2 ∨ (play (es.take i)).1.1 = 3 := by
  obtain ⟨hi, h1, h2⟩ := h
  revert h1 h2
  generalize (play (es.take i)).1 = n
  generalize es[i] = e
  simp only [stepE, stepNear]
  split
  · simp only [nearNext]
    repeat' split
    all_goals simp_all
    all_goals omega
  · simp
theorem step_two {n : TNear} {e : TNearEvent} (h : 2 ≤ (stepE n e).1.1) : 2 ≤ n.1 ∨ e.1 = 1 := by
  revert h
  simp only [stepE, stepNear]
  split
  · simp only [nearNext]
    repeat' split
    all_goals simp_all
    all_goals omega
  · simp
    omega
def namedB (es : List TNearEvent) : Nat → Bool
  | 0 => false
  | i + 1 => namedB es i || decide ((es.getD i (0, 0, 0)).1 = 1)
theorem named_of {es : List TNearEvent} : ∀ {i : Nat}, i ≤ es.length → 2 ≤ (play (es.take i)).1.1 → namedB es i = true
  | 0, _, h => by simp [play] at h
  | i + 1, hi, h => by
    rw [play_succ (by omega)] at h
    rcases step_two h with h | h
    · simp [namedB, named_of (by omega) h]
    · have : i < es.length := by omega
      simp [namedB, this, h]
theorem mem_fulls {es : List TNearEvent} {f : Int} : ∀ {n : Nat}, f ∈ fulls es n → ∃ i : Nat, f = i ∧ i < n ∧ isFull es i
  | 0, h => by simp [fulls] at h
  | n + 1, h => by
    rw [fulls, List.mem_append] at h
    rcases h with h | h
    · obtain ⟨i, h1, h2, h3⟩ := mem_fulls h
      exact ⟨i, h1, by omega, h3⟩
    · split at h
      · simp at h
        exact ⟨n, h, by omega, by assumption⟩
      · simp at h
theorem dead_step {n : TNear} {d : Int} (hd : deadAt n.1 n.2.1 n.2.2 = d) (h0 : 0 ≤ d) : ((stepNear n.1 n.2.1 n.2.2 4 d 0).1.1 = 0 ∧ (stepNear n.1 n.2.1 n.2.2 4 d 0).2 = 1) ∧ (stepNear n.1 n.2.1 n.2.2 4 (IntKind.i64.wrap (d - 1)) 0).1.1 = n.1 ∧ (stepNear n.1 n.2.1 n.2.2 4 (IntKind.i64.wrap (d - 1)) 0).2 = 0 := by
  obtain ⟨s, l, w⟩ := n
  simp only at *
  unfold deadAt at hd
  split at hd
  · omega
  rename_i hok
  have hok1 : nearOk s l w = true := by
    cases e : nearOk s l w with
    | true => rfl
    | false => exact absurd (.inl e) hok
  have hok2 : ¬ s = 0 := fun e => hok (.inr e)
  have hl : 0 ≤ l ∧ l ≤ 1000000 := by
    simp [nearOk] at hok1
    omega
  rw [i64_in (by omega) (by omega)] at hd
  split at hd
  · omega
  subst hd
  have e1 : IntKind.i64.wrap (l + 4 - 1) = l + 4 - 1 := i64_in (by omega) (by omega)
  have e2 : IntKind.i64.wrap (l + 4 - l) = 4 := by rw [i64_in (by omega) (by omega)]; omega
  have e3 : IntKind.i64.wrap (l + 4 - 1 - l) = 3 := by rw [i64_in (by omega) (by omega)]; omega
  rw [e1]
  simp only [stepNear, hok1, nearNext, e2, e3]
  have c1 : l ≤ l + 4 ∧ l + 4 ≤ 1000000 := by omega
  have c2 : l ≤ l + 4 - 1 ∧ l + 4 - 1 ≤ 1000000 := by omega
  have hok3 : ¬ 0 = s := fun e => hok2 e.symm
  simp [c1, c2, hok2, hok3]

def InvN (es : List TNearEvent) (Hb : Heap) (n : Nat) (ys : List V) (Hc : Heap) : Prop :=
  ∃ i, i ≤ (fullTimes es).length ∧ ys = [.box [.int .i64 (played es).1.1, .int .i64 (played es).1.2.1, .int .i64 (played es).1.2.2], .int .i64 (i : Nat)] ∧ n = (fullTimes es).length - i ∧ Abs.sub Hb Hc
def InvM (es : List TNearEvent) (H : Heap) (f : Nat) (n : Nat) (ys : List V) (Hc : Heap) : Prop :=
  ∃ i, i ≤ f ∧ ys = [.bool (namedB es i), .int .i64 (i : Nat)] ∧ n = f - i ∧ Hc = H

theorem aSlice_own {H0 H Hb : Heap} {sz : Nat} {rows : List (List V)} {u : V} {f : Nat} {k : IntKind} (hu : Own H0 sz rows u H) (hs : Abs.sub H Hb) (hf : f ≤ rows.length) (hr : rows ≠ []) (hw : ∀ r ∈ rows, r.length = sz) : ∃ w, aSlice Hb sz u none (some (.int k (f : Nat))) none = some w ∧ Rd Hb sz w (rows.take f) := by
  rcases hu with ⟨_, h2, _⟩ | ⟨o, h1, rfl, rfl⟩ | ⟨o, h2, _⟩
  · exact absurd h2 hr
  · have := hs _ _ (upd_eq _ _ _)
    refine ⟨.slice o 0 f none, by simp [aSlice, this, bound, natOf, hf], fun r h => hw r (List.mem_of_mem_take h), .inr (.inr ⟨o, 0, none, ⟨sz, rows⟩, ?_, this, rfl, by simp; omega, fun i hi => ?_⟩)⟩
    · simp [hf]
    · have : i < f := by simp at hi; omega
      simp [this]
  · exact absurd h2 hr

set_option maxHeartbeats 1000000 in
theorem C_l_FnNear {v : V} {bs : List (List V)} {H : Heap} {K : V → Heap → Prop} (hv : Rd H 1 v bs) (hb : Bs bs) (hl : bs.length ≤ 9223372036854775807) (hcell : cellsOf v = [v] ∧ cellOk v = true ∧ notAny v = true)
    (h : ∀ H', K (.bool true) H') : ACalls P n_l_FnNear [v] H K := by
  apply W_l_FnNear
  unfold F_l_FnNear
  refine C_l_big hv.len ?_
  simp
  refine ⟨fun _ => Ret.of (h _), fun _ => ?_⟩
  apply W_s_DrawPlayNear
  unfold F_s_DrawPlayNear
  refine C_s_l07DrawEvents hv hb hl hcell fun es u Hb H4 hes _ hu => Ret.of ?_
  have ru := hu.rd enNearEvent_len
  have hW := fullTimes_len es
  have hP := played_len es
  refine C_s_PlayNear ru fun u5 H6 h5 => ?_
  simp [stz_eq, putCells]
  have s6 := h5.sub
  have r5 := h5.rd ri_len
  refine C_i_PlayNear (ru.mono s6) fun u10 Ha H11 sa h10 => ?_
  simp [stz_eq, putCells, Q_neq_Near]
  have s11 : Abs.sub H6 H11 := sub_trans sa h10.sub
  refine C_l_same (h10.rd ri_len) (r5.mono s11) (by omega) ?_
  simp
  refine C_i_Changes (ru.mono (sub_trans s6 s11)) fun H22 s22 => ?_
  refine C_s_Changes (ru.mono (sub_trans s6 (sub_trans s11 s22))) fun H24 s24 => ?_
  simp
  have s4 : Abs.sub H4 H24 := sub_trans s6 (sub_trans s11 (sub_trans s22 s24))
  refine C_i_FullTimes (ru.mono s4) fun u26 Hc H27 sc h26 => ?_
  have s27 : Abs.sub H4 H27 := sub_trans s4 (sub_trans sc h26.sub)
  refine C_s_FullTimes (ru.mono s27) fun u28 H29 h28 => ?_
  have r26 := (h26.rd ri_len).mono h28.sub
  refine C_l_same r26 (h28.rd ri_len) (by omega) ?_
  simp
  have s29 := sub_trans s27 h28.sub
  refine ⟨InvN es H29, ⟨(fullTimes es).length, Shr.of ⟨0, by omega, rfl, by omega, Abs.sub_refl _⟩⟩, ?_⟩
  rintro n ys H38 ⟨i, hi, rfl, rfl, s38⟩
  have r26 := r26.mono s38
  simp [r26.len]
  refine ⟨fun hlt => ?_, fun hge => ?_⟩
  · refine r26.idx (by omega) (by simpa using hlt) fun p hp => ?_
    simp only [hp.ld]
    have hmem : ∀ l, fullTimes es = l → (fullTimes es)[i] ∈ l := fun l e => e ▸ List.getElem_mem hlt
    have he : fullTimes es = fulls es es.length ∧ es.length ≤ 300 := by
      by_cases e : 300 < es.length
      · simp [fullTimes, e] at hlt
      · exact ⟨by simp [fullTimes, e], by omega⟩
    obtain ⟨f, hf', hfl, hful⟩ := mem_fulls (hmem _ he.1)
    simp [hlt, hf']
    obtain ⟨w, hw1, hw2⟩ := aSlice_own (k := .i64) hu (sub_trans s29 s38) (f := f) (by simp; omega) (by simp; rintro rfl; simp at hfl) enNearEvent_len
    rw [hw1]
    simp
    rw [← List.map_take] at hw2
    refine C_i_PlayNear hw2 fun u44 Hd H45 sd h44 => ?_
    have hpl : played (es.take f) = play (es.take f) := by unfold played; rw [if_neg (by simp; omega)]
    have hah := full_ahead hful
    rw [hpl]
    have s45 : Abs.sub H38 H45 := sub_trans sd h44.sub
    have hnm : namedB es f = true := named_of (by omega) (by omega)
    have ru45 := ru.mono (sub_trans s29 (sub_trans s38 s45))
    have r26' := r26.mono s45
    simp [stz_eq, putCells]
    refine ⟨fun h2 => ⟨fun h3 => by omega, fun h3 => ?_⟩, fun h2 => ?_⟩ <;>
    · refine ⟨InvM es H45 f, ⟨f, Shr.of ⟨0, by omega, rfl, by omega, rfl⟩⟩, ?_⟩
      rintro n ys H58 ⟨k, hk, rfl, rfl, rfl⟩
      simp
      refine r26'.idx (by omega) (by simpa using hlt) fun p hp => ?_
      simp only [hp.ld]
      simp [hlt, hf']
      refine ⟨fun hlt2 => ?_, fun hge2 => ?_⟩
      · have hk2 : k < es.length := by omega
        rw [i64_in (n := (k : Int) + 1) (by omega) (by omega)]
        refine ⟨fun hh => ?_, fun hh => ?_⟩
        · refine ⟨f - (k + 1), by omega, Shr.of ⟨k + 1, by omega, by simp [namedB, hh], by omega, rfl⟩⟩
        · refine ru45.idx (by omega) (by simp; omega) fun q hq => ?_
          refine hq.fld fun q' hq' => ?_
          simp only [hq'.ld]
          simp [hk2]
          refine ⟨f - (k + 1), by omega, Shr.of ⟨k + 1, by omega, by simp [namedB, hh, hk2], by omega, rfl⟩⟩
      · have : k = f := by omega
        subst this
        rw [hnm]
        simp
        rw [i64_in (n := (i : Int) + 1) (by omega) (by omega)]
        exact ⟨_, by omega, Shr.of ⟨i + 1, by omega, by simp, rfl, sub_trans s38 s45⟩⟩
  · refine C_i_DeadAt ?_
    simp
    refine ⟨fun _ => Ret.of (h _), fun h0 => ?_⟩
    obtain ⟨⟨d1, d2⟩, d3, d4⟩ := dead_step rfl h0
    simp [fillZ, putCells]
    apply C_i_StepNear
    simp [stz_eq, putCells]
    apply C_i_StepNear
    simp [stz_eq, putCells, d1, d2, d3, d4]
    exact Ret.of (h _)

end Go.Proofs.Ytlmgahcpdapbdaa
