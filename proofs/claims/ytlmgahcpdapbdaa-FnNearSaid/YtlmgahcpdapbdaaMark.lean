import Derived.Test.YtlmgahcpdapbdaaEvents
set_option linter.all false
namespace Go.Proofs.Ytlmgahcpdapbdaa
open Go Go.Abs Go.Proofs

def mkNearEvent (k : Int) (n : Nat) : List (List V) := (List.range n).map fun i => enNearEvent (k + 3 * (i : Nat), k + 3 * (i : Nat) + 1, k + 3 * (i : Nat) + 1 + 1)
theorem mkNearEvent_len (k : Int) (n : Nat) : (mkNearEvent k n).length = n := by simp [mkNearEvent]
theorem mkNearEvent_get {k : Int} {n i : Nat} (h : i < n) : (mkNearEvent k n)[i]? = some (enNearEvent (k + 3 * (i : Nat), k + 3 * (i : Nat) + 1, k + 3 * (i : Nat) + 1 + 1)) := by simp [mkNearEvent, h]
theorem C_l_markNearEventS {o n : Nat} {cap : Option Nat} {rows : List (List V)} {k : Int} {H : Heap} {K : V → Heap → Prop} (ho : H o = some ⟨3, rows⟩) (hr : ∀ r ∈ rows, r.length = 3) (hn : rows.length = n) (hk : 0 ≤ k) (hkn : k + 3 * n ≤ 1000000000000)
    (h : K (.int .i64 (k + 3 * n)) (upd H o ⟨3, mkNearEvent k n⟩)) : ACalls P n_l_markNearEventS [.slice o 0 n cap, .int .i64 k] H K := by
  apply W_l_markNearEventS
  unfold F_l_markNearEventS
  simp
  refine ⟨fun m zs H' => ∃ i, i ≤ n ∧ zs = [.int .i64 (k + 3 * (i : Nat)), .int .i64 (i : Nat)] ∧ m = n - i ∧ H' = upd H o ⟨3, (mkNearEvent k n).take i ++ rows.drop i⟩, ⟨n, Shr.of ⟨0, by omega, by simp, by omega, ?_⟩⟩, ?_⟩
  · funext j
    by_cases e : j = o
    · subst e; simp [ho]
    · rw [upd_off e]
  rintro m zs H' ⟨i, hi, rfl, rfl, rfl⟩
  simp
  refine ⟨fun hlt => ?_, fun hge => ?_⟩
  · have hri : i < rows.length := by omega
    have hrow : rows[i].length = 3 := hr _ (List.getElem_mem hri)
    obtain ⟨x0, x1, x2, hx⟩ : ∃ x0 x1 x2, rows[i] = [x0, x1, x2] := by
      match rows[i], hrow with
      | [x0, x1, x2], _ => exact ⟨x0, x1, x2, rfl⟩
    have hg : ((mkNearEvent k n).take i ++ rows.drop i)[i]? = some [x0, x1, x2] := by rw [over_get (by simp [mkNearEvent_len]; omega) (by simp [mkNearEvent_len]; omega)]; simp [hri, hx]
    have hil : i < ((mkNearEvent k n).take i ++ rows.drop i).length := (List.getElem?_eq_some_iff.1 hg).1
    generalize hL : (mkNearEvent k n).take i ++ rows.drop i = L at hg hil
    have e1 : IntKind.i64.wrap (k + 3 * (i : Int) + 1) = k + 3 * (i : Int) + 1 := i64_in (by omega) (by omega)
    have e2 : IntKind.i64.wrap (k + 3 * (i : Int) + 1 + 1) = k + 3 * (i : Int) + 1 + 1 := i64_in (by omega) (by omega)
    have e3 : IntKind.i64.wrap (k + 3 * (i : Int) + 1 + 1 + 1) = k + 3 * (i : Int) + 1 + 1 + 1 := i64_in (by omega) (by omega)
    have e4 : IntKind.i64.wrap ((i : Int) + 1) = (i : Int) + 1 := i64_in (by omega) (by omega)
    rw [aIndex_own (upd_eq _ _ _) rfl (by omega) (by omega)]
    simp [aField, e1, e2, e3, e4]
    rw [aSt_own (upd_eq _ _ _) (row := [x0, x1, x2]) (row' := [.int .i64 (k + 3 * (i : Int)), x1, x2]) (by simpa using hg) (by simp [stz_eq, putCells])]
    simp
    rw [aIndex_own (upd_eq _ _ _) rfl (by omega) (by omega)]
    simp [aField]
    rw [aSt_own (upd_eq _ _ _) (row := [.int .i64 (k + 3 * (i : Int)), x1, x2]) (row' := [.int .i64 (k + 3 * (i : Int)), .int .i64 (k + 3 * (i : Int) + 1), x2]) (by simp [hil]) (by simp [stz_eq, putCells])]
    simp
    rw [aIndex_own (upd_eq _ _ _) rfl (by omega) (by omega)]
    simp [aField]
    rw [aSt_own (upd_eq _ _ _) (row := [.int .i64 (k + 3 * (i : Int)), .int .i64 (k + 3 * (i : Int) + 1), x2]) (row' := enNearEvent (k + 3 * (i : Int), k + 3 * (i : Int) + 1, k + 3 * (i : Int) + 1 + 1)) (by simp [hil]) (by simp [stz_eq, putCells])]
    simp
    refine ⟨n - (i + 1), by omega, Shr.of ⟨i + 1, by omega, by simp; omega, rfl, ?_⟩⟩
    have := over_set (M := mkNearEvent k n) (R := rows) (i := i) (by simp [mkNearEvent_len]; omega) (mkNearEvent_get hlt)
    rw [hL] at this
    rw [this]
  · have : i = n := by omega
    subst this
    refine Ret.eq (v' := .int .i64 (k + 3 * (i : Nat))) ?_ rfl
    have e : (mkNearEvent k i).take i ++ rows.drop i = mkNearEvent k i := by rw [List.take_of_length_le (by simp [mkNearEvent_len]), List.drop_eq_nil_of_le (by omega)]; simp
    rw [e]; exact h
end Go.Proofs.Ytlmgahcpdapbdaa
