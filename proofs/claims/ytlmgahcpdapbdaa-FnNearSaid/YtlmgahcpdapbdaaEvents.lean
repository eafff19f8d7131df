/-
Contracts of the laws' helpers over slices of neighbor events.
-/
import Derived.Test.YtlmgahcpdapbdaaBase
set_option linter.all false
namespace Go.Proofs.Ytlmgahcpdapbdaa
open Go Go.Abs Go.Proofs

/-! #### NearEvent -/
abbrev TNearEvent : Type := Int × Int × Int
abbrev enNearEvent (e : TNearEvent) : List V := [.int .i64 e.1, .int .i64 e.2.1, .int .i64 e.2.2]
theorem enNearEvent_len {xs : List TNearEvent} : ∀ r ∈ xs.map enNearEvent, r.length = 3 := fun r hr => by obtain ⟨x, _, rfl⟩ := List.mem_map.1 hr; rfl
theorem enNearEvent_inj {a b : TNearEvent} : a = b ↔ (a.1 = b.1 ∧ a.2.1 = b.2.1 ∧ a.2.2 = b.2.2) := by
  constructor
  · rintro rfl; simp
  · intro h; obtain ⟨a0, a1, a2⟩ := a; obtain ⟨b0, b1, b2⟩ := b; simp_all
theorem NearEvents_of {e : TypeId} {x : V} (hf : flat P 8 e = some [.int .i64, .int .i64, .int .i64]) (c : CT P 8 (.slice e) x) : ∃ xs : List TNearEvent, x = .ro (xs.map enNearEvent) ∧ xs.length ≤ 9223372036854775807 := by
  obtain ⟨rows, rfl, hl, h⟩ := CT_slice hf c
  obtain ⟨xs, rfl⟩ := rows_map (f := enNearEvent) (rows := rows) fun row hr => by
    have c := h row hr
    obtain ⟨_, _, rfl, k0, c⟩ := CTs_cons c
    obtain ⟨_, _, rfl, k1, c⟩ := CTs_cons c
    obtain ⟨_, _, rfl, k2, c⟩ := CTs_cons c
    obtain rfl := CTs_nil c
    obtain ⟨m0, rfl, _⟩ := CT_int k0
    obtain ⟨m1, rfl, _⟩ := CT_int k1
    obtain ⟨m2, rfl, _⟩ := CT_int k2
    exact ⟨(m0, m1, m2), rfl⟩
  exact ⟨xs, rfl, by simp [maxLen] at hl; omega⟩
theorem C_l_toNearEvent {f0 f1 f2 : Int} {H : Heap} {K : V → Heap → Prop} (h : K (.agg [.int .i64 f0, .int .i64 f1, .int .i64 f2]) H) : ACalls P n_l_toNearEvent [.agg [.int .i64 f0, .int .i64 f1, .int .i64 f2]] H K := by
  apply W_l_toNearEvent
  unfold F_l_toNearEvent
  simp [stz_eq, putCells]
  exact Ret.eq h rfl
theorem C_l_eqNearEvent {f0 f1 f2 g0 g1 g2 : Int} {H : Heap} {K : V → Heap → Prop} (h : K (.bool (decide (f0 = g0 ∧ f1 = g1 ∧ f2 = g2))) H) : ACalls P n_l_eqNearEvent [.agg [.int .i64 f0, .int .i64 f1, .int .i64 f2], .agg [.int .i64 g0, .int .i64 g1, .int .i64 g2]] H K := by
  apply W_l_eqNearEvent
  unfold F_l_eqNearEvent
  simp
  repeat' first
    | exact Ret.eq h (by simp; grind)
    | (refine And.intro ?_ ?_)
    | intro _
theorem C_l_toNearEventS {xs : List TNearEvent} {v : V} {H : Heap} {K : V → Heap → Prop} (hv : Rd H 3 v (xs.map enNearEvent)) (hl : xs.length ≤ 2097152) (h : ∀ o, H o = none → K (.slice o 0 xs.length (some xs.length)) (upd H o ⟨3, xs.map enNearEvent⟩)) :
    ACalls P n_l_toNearEventS [v] H K := by
  apply W_l_toNearEventS
  unfold F_l_toNearEventS
  simp [hv.len]
  refine ⟨by omega, fun o ho => ?_⟩
  refine ⟨fun n ys H' => ∃ i, i ≤ xs.length ∧ ys = [.int .i64 (i : Nat)] ∧ n = xs.length - i ∧ H' = upd H o ⟨3, (xs.map enNearEvent).take i ++ List.replicate (xs.length - i) [.int .i64 0, .int .i64 0, .int .i64 0]⟩, ⟨xs.length, Shr.of ⟨0, by omega, rfl, by omega, by simp⟩⟩, ?_⟩
  rintro n ys H' ⟨i, hi, rfl, rfl, rfl⟩
  simp
  refine ⟨fun hlt => ?_, fun hge => ?_⟩
  · refine (hv.mono (sub_fresh ho)).idx (by omega) (by simpa using hlt) fun p hp => ?_
    simp only [hp.ld]
    simp [hlt]
    apply C_l_toNearEvent
    rw [aIndex_own (upd_eq _ _ _) rfl (by omega) (by omega)]
    simp
    rw [aSt_own (upd_eq _ _ _) (row := [.int .i64 0, .int .i64 0, .int .i64 0]) (row' := enNearEvent xs[i]) (by simpa using fill_get (M := xs.map enNearEvent) (z := [.int .i64 0, .int .i64 0, .int .i64 0]) (i := i) (by simp) (by simpa using hlt)) (by simp [stz_eq, putCells])]
    simp
    rw [i64_in (by omega) (by omega)]
    refine ⟨xs.length - (i + 1), by omega, Shr.of ⟨i + 1, by omega, by simp, rfl, ?_⟩⟩
    have := fill_set (M := xs.map enNearEvent) (z := [.int .i64 0, .int .i64 0, .int .i64 0]) (i := i) (n := xs.length) (by simp) (by simpa using hlt)
    simp at this
    rw [this]
  · have : i = xs.length := by omega
    subst this
    have e : (xs.map enNearEvent).take xs.length ++ List.replicate (xs.length - xs.length) [.int .i64 0, .int .i64 0, .int .i64 0] = xs.map enNearEvent := by rw [List.take_of_length_le (by simp)]; simp
    rw [e]
    exact Ret.of (h o ho)
theorem C_l_eqNearEventS {xs ys : List TNearEvent} {v w : V} {H : Heap} {K : V → Heap → Prop} (hv : Rd H 3 v (xs.map enNearEvent)) (hw : Rd H 3 w (ys.map enNearEvent)) (hl : xs.length ≤ 2097152) (h : K (.bool (decide (xs = ys))) H) :
    ACalls P n_l_eqNearEventS [v, w] H K := by
  apply W_l_eqNearEventS
  unfold F_l_eqNearEventS
  simp [hv.len, hw.len]
  refine ⟨fun hne => Ret.eq h ?_, fun heq => ?_⟩
  · have : xs ≠ ys := by rintro rfl; exact hne rfl
    simp [this]
  · have heq' : xs.length = ys.length := by omega
    refine ⟨fun n zs H' => ∃ i, i ≤ xs.length ∧ zs = [.int .i64 (i : Nat)] ∧ n = xs.length - i ∧ H' = H ∧ xs.take i = ys.take i, ⟨xs.length, Shr.of ⟨0, by omega, rfl, by omega, rfl, by simp⟩⟩, ?_⟩
    rintro n zs H' ⟨i, hi, rfl, rfl, rfl, ht⟩
    simp
    refine ⟨fun hlt => ⟨H', by simp, ?_⟩, fun hge => ?_⟩
    · refine hv.idx (by omega) (by simpa using hlt) fun p hp => ?_
      simp only [hp.ld]
      simp [hlt]
      refine hw.idx (by omega) (by simp; omega) fun q hq => ?_
      simp only [hq.ld]
      have hlt' : i < ys.length := by omega
      simp [hlt']
      apply C_l_eqNearEvent
      simp only [← enNearEvent_inj]
      by_cases he : xs[i] = ys[i]
      · simp [he]
        rw [i64_in (by omega) (by omega)]
        refine ⟨xs.length - (i + 1), by omega, Shr.of ⟨i + 1, by omega, by simp, rfl, rfl, ?_⟩⟩
        rw [List.take_succ_eq_append_getElem hlt, List.take_succ_eq_append_getElem hlt', ht, he]
      · simp [he]
        have : xs ≠ ys := by rintro rfl; exact he rfl
        exact Ret.eq h (by simp [this])
    · have : i = xs.length := by omega
      subst this
      rw [List.take_of_length_le (by omega), List.take_of_length_le (by omega)] at ht
      exact Ret.eq h (by simp [ht])

end Go.Proofs.Ytlmgahcpdapbdaa
