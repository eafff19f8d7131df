/-
Contracts of the laws' helpers over slices of structs Edge.
-/
import Derived.Test.YtaippfedjjjpeaaGreatBase
import Derived.Test.YtaippfedjjjpeaaGreatAbs3
set_option linter.all false
namespace Go.Proofs.YtaippfedjjjpeaaGreat
open Go Go.Abs Go.Proofs

/-! #### Edge -/
abbrev TEdge : Type := Int × Int × Int
abbrev enEdge (e : TEdge) : List V := [.int .i64 e.1, .int .i64 e.2.1, .int .i64 e.2.2]
theorem enEdge_len {xs : List TEdge} : ∀ r ∈ xs.map enEdge, r.length = 3 := fun r hr => by obtain ⟨x, _, rfl⟩ := List.mem_map.1 hr; rfl
theorem enEdge_inj {a b : TEdge} : a = b ↔ (a.1 = b.1 ∧ a.2.1 = b.2.1 ∧ a.2.2 = b.2.2) := by
  constructor
  · rintro rfl; simp
  · intro h; obtain ⟨a0, a1, a2⟩ := a; obtain ⟨b0, b1, b2⟩ := b; simp_all
theorem Edges_of {e : TypeId} {x : V} (hf : flat P 8 e = some [.int .i64, .int .i64, .int .i64]) (c : CT P 8 (.slice e) x) : ∃ xs : List TEdge, x = .ro (xs.map enEdge) ∧ xs.length ≤ 9223372036854775807 := by
  obtain ⟨rows, rfl, hl, h⟩ := CT_slice hf c
  obtain ⟨xs, rfl⟩ := rows_map (f := enEdge) (rows := rows) fun row hr => by
    have c := h row hr
    obtain ⟨_, _, rfl, k0, c⟩ := CTs_cons c
    obtain ⟨_, _, rfl, k1, c⟩ := CTs_cons c
    obtain ⟨_, _, rfl, k2, c⟩ := CTs_cons c
    obtain rfl := CTs_nil c
    obtain ⟨m0, rfl, _⟩ := CT_int k0
    obtain ⟨m1, rfl, _⟩ := CT_int k1
    obtain ⟨m2, rfl, _⟩ := CT_int k2
    exact ⟨(m0, m1, m2), rfl⟩
  exact ⟨xs, rfl, by simp [maxLen] at hl; omega⟩
theorem C_l_toEdge {f0 f1 f2 : Int} {H : Heap} {K : V → Heap → Prop} (h : K (.agg [.int .i64 f0, .int .i64 f1, .int .i64 f2]) H) : ACalls P n_l_toEdge [.agg [.int .i64 f0, .int .i64 f1, .int .i64 f2]] H K := by
  apply W_l_toEdge
  unfold F_l_toEdge
  simp [stz_eq, putCells]
  exact Ret.eq h rfl
theorem C_l_eqEdge {f0 f1 f2 g0 g1 g2 : Int} {H : Heap} {K : V → Heap → Prop} (h : K (.bool (decide (f0 = g0 ∧ f1 = g1 ∧ f2 = g2))) H) : ACalls P n_l_eqEdge [.agg [.int .i64 f0, .int .i64 f1, .int .i64 f2], .agg [.int .i64 g0, .int .i64 g1, .int .i64 g2]] H K := by
  apply W_l_eqEdge
  unfold F_l_eqEdge
  simp
  repeat' first
    | exact Ret.eq h (by simp; grind)
    | (refine And.intro ?_ ?_)
    | intro _
theorem C_l_toEdgeS {xs : List TEdge} {v : V} {H : Heap} {K : V → Heap → Prop} (hv : Rd H 3 v (xs.map enEdge)) (hl : xs.length ≤ 2097152) (h : ∀ o, H o = none → K (.slice o 0 xs.length (some xs.length)) (upd H o ⟨3, xs.map enEdge⟩)) :
    ACalls P n_l_toEdgeS [v] H K := by
  apply W_l_toEdgeS
  unfold F_l_toEdgeS
  simp [hv.len]
  refine ⟨by omega, fun o ho => ?_⟩
  refine ⟨fun n ys H' => ∃ i, i ≤ xs.length ∧ ys = [.int .i64 (i : Nat)] ∧ n = xs.length - i ∧ H' = upd H o ⟨3, (xs.map enEdge).take i ++ List.replicate (xs.length - i) [.int .i64 0, .int .i64 0, .int .i64 0]⟩, ⟨xs.length, Shr.of ⟨0, by omega, rfl, by omega, by simp⟩⟩, ?_⟩
  rintro n ys H' ⟨i, hi, rfl, rfl, rfl⟩
  simp
  refine ⟨fun hlt => ?_, fun hge => ?_⟩
  · refine (hv.mono (sub_fresh ho)).idx (by omega) (by simpa using hlt) fun p hp => ?_
    simp only [hp.ld]
    simp [hlt]
    apply C_l_toEdge
    rw [aIndex_own (upd_eq _ _ _) rfl (by omega) (by omega)]
    simp
    rw [aSt_own (upd_eq _ _ _) (row := [.int .i64 0, .int .i64 0, .int .i64 0]) (row' := enEdge xs[i]) (by simpa using fill_get (M := xs.map enEdge) (z := [.int .i64 0, .int .i64 0, .int .i64 0]) (i := i) (by simp) (by simpa using hlt)) (by simp [stz_eq, putCells])]
    simp
    rw [i64_in (by omega) (by omega)]
    refine ⟨xs.length - (i + 1), by omega, Shr.of ⟨i + 1, by omega, by simp, rfl, ?_⟩⟩
    have := fill_set (M := xs.map enEdge) (z := [.int .i64 0, .int .i64 0, .int .i64 0]) (i := i) (n := xs.length) (by simp) (by simpa using hlt)
    simp at this
    rw [this]
  · have : i = xs.length := by omega
    subst this
    have e : (xs.map enEdge).take xs.length ++ List.replicate (xs.length - xs.length) [.int .i64 0, .int .i64 0, .int .i64 0] = xs.map enEdge := by rw [List.take_of_length_le (by simp)]; simp
    rw [e]
    exact Ret.of (h o ho)
theorem C_l_eqEdgeS {xs ys : List TEdge} {v w : V} {H : Heap} {K : V → Heap → Prop} (hv : Rd H 3 v (xs.map enEdge)) (hw : Rd H 3 w (ys.map enEdge)) (hl : xs.length ≤ 2097152) (h : K (.bool (decide (xs = ys))) H) :
    ACalls P n_l_eqEdgeS [v, w] H K := by
  apply W_l_eqEdgeS
  unfold F_l_eqEdgeS
  simp [hv.len, hw.len]
  refine ⟨fun hne => Ret.eq h ?_, fun heq => ?_⟩
  · have : xs ≠ ys := by rintro rfl; exact hne rfl
    simp [this]
  · have heq' : xs.length = ys.length := by omega
    refine ⟨fun n zs H' => ∃ i, i ≤ xs.length ∧ zs = [.int .i64 (i : Nat)] ∧ n = xs.length - i ∧ H' = H ∧ xs.take i = ys.take i, ⟨xs.length, Shr.of ⟨0, by omega, rfl, by omega, rfl, by simp⟩⟩, ?_⟩
    rintro n zs H' ⟨i, hi, rfl, rfl, rfl, ht⟩
    simp
    refine ⟨fun hlt => ⟨H', by simp, ?_⟩, fun hge => ?_⟩
    · refine hv.idx (by omega) (by simpa using hlt) fun p hp => ?_
      simp only [hp.ld]
      simp [hlt]
      refine hw.idx (by omega) (by simp; omega) fun q hq => ?_
      simp only [hq.ld]
      have hlt' : i < ys.length := by omega
      simp [hlt']
      apply C_l_eqEdge
      simp only [← enEdge_inj]
      by_cases he : xs[i] = ys[i]
      · simp [he]
        rw [i64_in (by omega) (by omega)]
        refine ⟨xs.length - (i + 1), by omega, Shr.of ⟨i + 1, by omega, by simp, rfl, rfl, ?_⟩⟩
        rw [List.take_succ_eq_append_getElem hlt, List.take_succ_eq_append_getElem hlt', ht, he]
      · simp [he]
        have : xs ≠ ys := by rintro rfl; exact he rfl
        exact Ret.eq h (by simp [this])
    · have : i = xs.length := by omega
      subst this
      rw [List.take_of_length_le (by omega), List.take_of_length_le (by omega)] at ht
      exact Ret.eq h (by simp [ht])

theorem C_l_szEdgeS {es : List TEdge} {v : V} {left : Int} {H : Heap} {K : V → Heap → Prop} (hv : Rd H 3 v (es.map enEdge)) (h : K (.int .i64 (if IntKind.i64.wrap (left - es.length) < 0 then -1 else IntKind.i64.wrap (left - es.length))) H) : ACalls P n_l_szEdgeS [v, .int .i64 left] H K := by
  apply W_l_szEdgeS
  unfold F_l_szEdgeS
  simp [hv.len]
  exact ⟨fun e => Ret.eq h (by rw [if_pos e]), fun e => Ret.eq h (by rw [if_neg (by omega)])⟩

def mkEdge (k : Int) (n : Nat) : List (List V) := (List.range n).map fun i => enEdge (k + 3 * (i : Nat), k + 3 * (i : Nat) + 1, k + 3 * (i : Nat) + 1 + 1)
theorem mkEdge_len (k : Int) (n : Nat) : (mkEdge k n).length = n := by simp [mkEdge]
theorem mkEdge_row (k : Int) (n : Nat) : ∀ r ∈ mkEdge k n, r.length = 3 := fun r hr => by
  unfold mkEdge at hr
  obtain ⟨i, _, rfl⟩ := List.mem_map.1 hr
  rfl
theorem mkEdge_get {k : Int} {n i : Nat} (h : i < n) : (mkEdge k n)[i]? = some (enEdge (k + 3 * (i : Nat), k + 3 * (i : Nat) + 1, k + 3 * (i : Nat) + 1 + 1)) := by simp [mkEdge, h]
theorem C_l_markEdgeS {o n : Nat} {cap : Option Nat} {rows : List (List V)} {k : Int} {H : Heap} {K : V → Heap → Prop} (ho : H o = some ⟨3, rows⟩) (hr : ∀ r ∈ rows, r.length = 3) (hn : rows.length = n) (hk : 0 ≤ k) (hkn : k + 3 * n ≤ 1000000000000)
    (h : K (.int .i64 (k + 3 * n)) (upd H o ⟨3, mkEdge k n⟩)) : ACalls P n_l_markEdgeS [.slice o 0 n cap, .int .i64 k] H K := by
  apply W_l_markEdgeS
  unfold F_l_markEdgeS
  simp
  refine ⟨fun m zs H' => ∃ i, i ≤ n ∧ zs = [.int .i64 (k + 3 * (i : Nat)), .int .i64 (i : Nat)] ∧ m = n - i ∧ H' = upd H o ⟨3, (mkEdge k n).take i ++ rows.drop i⟩, ⟨n, Shr.of ⟨0, by omega, by simp, by omega, ?_⟩⟩, ?_⟩
  · funext j
    by_cases e : j = o
    · subst e; simp [ho]
    · rw [upd_off e]
  rintro m zs H' ⟨i, hi, rfl, rfl, rfl⟩
  simp
  refine ⟨fun hlt => ?_, fun hge => ?_⟩
  · have hri : i < rows.length := by omega
    have hrow : rows[i].length = 3 := hr _ (List.getElem_mem hri)
    obtain ⟨x0, x1, x2, hx⟩ : ∃ x0 x1 x2, rows[i] = [x0, x1, x2] := by
      match rows[i], hrow with
      | [x0, x1, x2], _ => exact ⟨x0, x1, x2, rfl⟩
    have hg : ((mkEdge k n).take i ++ rows.drop i)[i]? = some [x0, x1, x2] := by rw [over_get (by simp [mkEdge_len]; omega) (by simp [mkEdge_len]; omega)]; simp [hri, hx]
    have hil : i < ((mkEdge k n).take i ++ rows.drop i).length := (List.getElem?_eq_some_iff.1 hg).1
    generalize hL : (mkEdge k n).take i ++ rows.drop i = L at hg hil
    have e1 : IntKind.i64.wrap (k + 3 * (i : Int) + 1) = k + 3 * (i : Int) + 1 := i64_in (by omega) (by omega)
    have e2 : IntKind.i64.wrap (k + 3 * (i : Int) + 1 + 1) = k + 3 * (i : Int) + 1 + 1 := i64_in (by omega) (by omega)
    have e3 : IntKind.i64.wrap (k + 3 * (i : Int) + 1 + 1 + 1) = k + 3 * (i : Int) + 1 + 1 + 1 := i64_in (by omega) (by omega)
    have e0 : IntKind.i64.wrap ((i : Int) + 1) = (i : Int) + 1 := i64_in (by omega) (by omega)
    rw [aIndex_own (upd_eq _ _ _) rfl (by omega) (by omega)]
    simp [aField, e1, e2, e3, e0]
    rw [aSt_own (upd_eq _ _ _) (row := [x0, x1, x2]) (row' := [.int .i64 (k + 3 * (i : Int)), x1, x2]) (by simpa using hg) (by simp [stz_eq, putCells])]
    simp
    rw [aIndex_own (upd_eq _ _ _) rfl (by omega) (by omega)]
    simp [aField]
    rw [aSt_own (upd_eq _ _ _) (row := [.int .i64 (k + 3 * (i : Int)), x1, x2]) (row' := [.int .i64 (k + 3 * (i : Int)), .int .i64 (k + 3 * (i : Int) + 1), x2]) (by simp [hil]) (by simp [stz_eq, putCells])]
    simp
    rw [aIndex_own (upd_eq _ _ _) rfl (by omega) (by omega)]
    simp [aField]
    rw [aSt_own (upd_eq _ _ _) (row := [.int .i64 (k + 3 * (i : Int)), .int .i64 (k + 3 * (i : Int) + 1), x2]) (row' := enEdge (k + 3 * (i : Int), k + 3 * (i : Int) + 1, k + 3 * (i : Int) + 1 + 1)) (by simp [hil]) (by simp [stz_eq, putCells])]
    simp
    refine ⟨n - (i + 1), by omega, Shr.of ⟨i + 1, by omega, by simp; omega, rfl, ?_⟩⟩
    have := over_set (M := mkEdge k n) (R := rows) (i := i) (by simp [mkEdge_len]; omega) (mkEdge_get hlt)
    rw [hL] at this
    rw [this]
  · have : i = n := by omega
    subst this
    refine Ret.eq (v' := .int .i64 (k + 3 * (i : Nat))) ?_ rfl
    have e : (mkEdge k i).take i ++ rows.drop i = mkEdge k i := by rw [List.take_of_length_le (by simp [mkEdge_len]), List.drop_eq_nil_of_le (by omega)]; simp
    rw [e]; exact h
theorem C_l_markEdgeS_nil {k : Int} {H : Heap} {K : V → Heap → Prop} (h : K (.int .i64 k) H) : ACalls P n_l_markEdgeS [.nils, .int .i64 k] H K := by
  apply W_l_markEdgeS
  unfold F_l_markEdgeS
  simp
  refine ⟨fun m zs H' => zs = [.int .i64 k, .int .i64 0] ∧ H' = H, ⟨0, Shr.of ⟨rfl, rfl⟩⟩, ?_⟩
  rintro m zs H' ⟨rfl, rfl⟩
  simp
  exact Ret.eq h rfl
theorem C_markEdgeHeld {rows : List (List V)} {v : V} {k : Int} {H0 Ho H : Heap} {K : V → Heap → Prop} (hv : Held H0 3 rows v Ho) (hs : Abs.sub Ho H) (hr : ∀ r ∈ rows, r.length = 3) (hk : 0 ≤ k) (hkn : k + 3 * rows.length ≤ 1000000000000)
    (h : ∀ H' Ho', Held H0 3 (mkEdge k rows.length) v Ho' → Abs.sub Ho' H' → K (.int .i64 (k + 3 * rows.length)) H') : ACalls P n_l_markEdgeS [v, .int .i64 k] H K := by
  rcases hv with ⟨rfl, rfl, rfl⟩ | ⟨o, cap, h1, rfl, hc, rfl⟩
  · exact C_l_markEdgeS_nil (by simpa using h H Ho (.inl ⟨rfl, rfl, rfl⟩) hs)
  · exact C_l_markEdgeS (rows := rows) (hs _ _ (upd_eq _ _ _)) hr rfl hk hkn (h _ (upd H0 o ⟨3, mkEdge k rows.length⟩) (.inr ⟨o, cap, h1, by simp [mkEdge_len], by simpa [mkEdge_len] using hc, rfl⟩) (by
      have := sub_upd2 (o := o) (x := ⟨3, mkEdge k rows.length⟩) hs
      simpa using this))

end Go.Proofs.YtaippfedjjjpeaaGreat

