/-
Contracts of the laws' helpers over slices of ints.
-/
import Derived.Test.YtipdfhjilegkcaaBase
set_option linter.all false
namespace Go.Proofs.Ytipdfhjilegkcaa
open Go Go.Abs Go.Proofs

theorem C_l_eqIntS {xs ys : List Int} {v w : V} {H : Heap} {K : V → Heap → Prop} (hv : Rd H 1 v (xs.map ri)) (hw : Rd H 1 w (ys.map ri)) (hl : xs.length ≤ 2097152) (h : K (.bool (decide (xs = ys))) H) :
    ACalls P n_l_eqIntS [v, w] H K := by
  apply W_l_eqIntS
  unfold F_l_eqIntS
  simp [hv.len, hw.len]
  refine ⟨fun hne => Ret.eq h ?_, fun heq => ?_⟩
  · have : xs ≠ ys := by rintro rfl; exact hne rfl
    simp [this]
  · have heq' : xs.length = ys.length := by omega
    refine ⟨fun n zs H' => ∃ i, i ≤ xs.length ∧ zs = [.int .i64 (i : Nat)] ∧ n = xs.length - i ∧ H' = H ∧ xs.take i = ys.take i, ⟨xs.length, Shr.of ⟨0, by omega, rfl, by omega, rfl, by simp⟩⟩, ?_⟩
    rintro n zs H' ⟨i, hi, rfl, rfl, rfl, ht⟩
    simp
    refine ⟨fun hlt => ⟨H', by simp, ?_⟩, fun hge => ?_⟩
    · refine hv.idx (by omega) (by simpa using hlt) fun p hp => ?_
      simp only [hp.ld]
      simp [hlt]
      refine hw.idx (by omega) (by simp; omega) fun q hq => ?_
      simp only [hq.ld]
      have hlt' : i < ys.length := by omega
      simp [hlt']
      refine ⟨fun hne => Ret.eq h ?_, fun he => ?_⟩
      · have : xs ≠ ys := by rintro rfl; exact hne rfl
        simp [this]
      · rw [i64_in (by omega) (by omega)]
        refine ⟨xs.length - (i + 1), by omega, Shr.of ⟨i + 1, by omega, by simp, rfl, rfl, ?_⟩⟩
        rw [List.take_succ_eq_append_getElem hlt, List.take_succ_eq_append_getElem hlt', ht, he]
    · have : i = xs.length := by omega
      subst this
      rw [List.take_of_length_le (by omega), List.take_of_length_le (by omega)] at ht
      exact Ret.eq h (by simp [ht])

theorem C_l_markIntS {o n : Nat} {cap : Option Nat} {rows : List (List V)} {k : Int} {H : Heap} {K : V → Heap → Prop} (ho : H o = some ⟨1, rows⟩) (hr : ∀ r ∈ rows, r.length = 1) (hn : rows.length = n) (hk : 0 ≤ k) (hkn : k + n ≤ 1000000000000)
    (h : K (.int .i64 (k + n)) (upd H o ⟨1, marks k n⟩)) : ACalls P n_l_markIntS [.slice o 0 n cap, .int .i64 k] H K := by
  apply W_l_markIntS
  unfold F_l_markIntS
  simp
  refine ⟨fun m zs H' => ∃ i, i ≤ n ∧ zs = [.int .i64 (k + (i : Nat)), .int .i64 (i : Nat)] ∧ m = n - i ∧ H' = upd H o ⟨1, (marks k n).take i ++ rows.drop i⟩, ⟨n, Shr.of ⟨0, by omega, by simp, by omega, ?_⟩⟩, ?_⟩
  · funext j
    by_cases e : j = o
    · subst e; simp [ho]
    · rw [upd_off e]
  rintro m zs H' ⟨i, hi, rfl, rfl, rfl⟩
  simp
  refine ⟨fun hlt => ?_, fun hge => ?_⟩
  · rw [aIndex_own (upd_eq _ _ _) rfl (by omega) (by omega)]
    simp
    have hri : i < rows.length := by omega
    have hrow : rows[i].length = 1 := hr _ (List.getElem_mem hri)
    have hd : rows[i].drop 1 = [] := List.drop_eq_nil_of_le (by omega)
    rw [aSt_own (upd_eq _ _ _) (row := rows[i]) (row' := ri (k + (i : Nat))) (by simp; rw [over_get (by simp; omega) (by simp; omega)]; simp [hri]) (by rw [stz_eq (by simp) (by omega) (by simp)]; simp [putCells, hd])]
    simp
    rw [i64_in (by omega) (by omega), i64_in (by omega) (by omega)]
    refine ⟨n - (i + 1), by omega, Shr.of ⟨i + 1, by omega, by simp; omega, rfl, ?_⟩⟩
    rw [over_set (by simp; omega) (marks_get (by omega))]
  · have : i = n := by omega
    subst this
    refine Ret.eq (v' := .int .i64 (k + (i : Nat))) ?_ rfl
    have e : (marks k i).take i ++ rows.drop i = marks k i := by rw [List.take_of_length_le (by simp), List.drop_eq_nil_of_le (by omega)]; simp
    rw [e]; exact h

theorem C_l_markIntS_nil {k : Int} {H : Heap} {K : V → Heap → Prop} (h : K (.int .i64 k) H) : ACalls P n_l_markIntS [.nils, .int .i64 k] H K := by
  apply W_l_markIntS
  unfold F_l_markIntS
  simp
  refine ⟨fun m zs H' => zs = [.int .i64 k, .int .i64 0] ∧ H' = H, ⟨0, Shr.of ⟨rfl, rfl⟩⟩, ?_⟩
  rintro m zs H' ⟨rfl, rfl⟩
  simp
  exact Ret.eq h rfl

theorem C_l_heldIntS {n : Nat} {v : V} {k : Int} {H : Heap} {K : V → Heap → Prop} (hv : Rd H 1 v (marks k n)) (hk : 0 ≤ k) (hkn : k + n ≤ 1000000000000) (h : K (.int .i64 (k + n)) H) : ACalls P n_l_heldIntS [v, .int .i64 k] H K := by
  apply W_l_heldIntS
  unfold F_l_heldIntS
  simp [hv.len]
  refine ⟨fun m zs H' => ∃ i, i ≤ n ∧ zs = [.int .i64 (k + (i : Nat)), .int .i64 (i : Nat)] ∧ m = n - i ∧ H' = H, ⟨n, Shr.of ⟨0, by omega, by simp, by omega, rfl⟩⟩, ?_⟩
  rintro m zs H' ⟨i, hi, rfl, rfl, rfl⟩
  simp
  refine ⟨fun hlt => ?_, fun hge => ?_⟩
  · refine hv.idx (by omega) (by simpa using hlt) fun p hp => ?_
    simp only [hp.ld]
    simp [marks_get hlt]
    rw [i64_in (by omega) (by omega), i64_in (by omega) (by omega)]
    exact ⟨n - (i + 1), by omega, Shr.of ⟨i + 1, by omega, by simp; omega, rfl, rfl⟩⟩
  · have : i = n := by omega
    subst this
    exact Ret.eq h rfl

theorem C_markOwn {rows : List (List V)} {v : V} {k : Int} {H0 Ho H : Heap} {K : V → Heap → Prop} (hv : Own H0 1 rows v Ho) (hs : Abs.sub Ho H) (hr : ∀ r ∈ rows, r.length = 1) (hk : 0 ≤ k) (hkn : k + rows.length ≤ 1000000000000)
    (h : ∀ H' Ho', Own H0 1 (marks k rows.length) v Ho' → Abs.sub Ho' H' → K (.int .i64 (k + rows.length)) H') : ACalls P n_l_markIntS [v, .int .i64 k] H K := by
  rcases hv with ⟨rfl, rfl, rfl⟩ | ⟨o, h1, rfl, rfl⟩ | ⟨o, rfl, h1, rfl, rfl⟩
  · exact C_l_markIntS_nil (by simpa using h H Ho (.inl ⟨rfl, rfl, rfl⟩) hs)
  · exact C_l_markIntS (rows := rows) (hs _ _ (upd_eq _ _ _)) hr rfl hk hkn (h _ (upd H0 o ⟨1, marks k rows.length⟩) (.inr (.inl ⟨o, h1, by simp, rfl⟩)) (by
      have := sub_upd2 (o := o) (x := ⟨1, marks k rows.length⟩) hs
      simpa using this))
  · refine C_l_markIntS (rows := []) (n := 0) (hs _ _ (upd_eq _ _ _)) hr rfl hk hkn (h _ (upd H0 o ⟨1, []⟩) (.inr (.inr ⟨o, rfl, h1, rfl, rfl⟩)) ?_)
    have := sub_upd2 (o := o) (x := ⟨1, marks k 0⟩) hs
    simpa [marks] using this

theorem ints_of {e : TypeId} {x : V} (hf : flat P 8 e = some [.int .i64]) (c : CT P 8 (.slice e) x) : ∃ xs : List Int, x = .ro (xs.map ri) ∧ xs.length ≤ 9223372036854775807 := by
  obtain ⟨rows, rfl, hl, h⟩ := CT_slice hf c
  obtain ⟨xs, rfl⟩ := rows_map (f := ri) (rows := rows) fun row hr => by
    obtain ⟨y, ys, rfl, k0, c⟩ := CTs_cons (h row hr)
    obtain rfl := CTs_nil c
    obtain ⟨n, rfl, _⟩ := CT_int k0
    exact ⟨n, rfl⟩
  exact ⟨xs, rfl, by simp [maxLen] at hl; omega⟩

end Go.Proofs.Ytipdfhjilegkcaa
