/-
Contracts of the laws' helpers over slices of structs Link.
-/
import Derived.Test.YtaippfedjjjpeaaGreatBase
import Derived.Test.YtaippfedjjjpeaaGreatAbs3
set_option linter.all false
namespace Go.Proofs.YtaippfedjjjpeaaGreat
open Go Go.Abs Go.Proofs

/-! #### Link -/
abbrev TLink : Type := Int × Int
abbrev enLink (e : TLink) : List V := [.int .i64 e.1, .int .i64 e.2]
theorem enLink_len {xs : List TLink} : ∀ r ∈ xs.map enLink, r.length = 2 := fun r hr => by obtain ⟨x, _, rfl⟩ := List.mem_map.1 hr; rfl
theorem enLink_inj {a b : TLink} : a = b ↔ (a.1 = b.1 ∧ a.2 = b.2) := by
  constructor
  · rintro rfl; simp
  · intro h; obtain ⟨a0, a1⟩ := a; obtain ⟨b0, b1⟩ := b; simp_all
theorem Links_of {e : TypeId} {dn : Nat} {x : V} (hf : flat P 8 e = some [.int .i64, .int .i64]) (c : CT P (dn + 1) (.slice e) x) : ∃ xs : List TLink, x = .ro (xs.map enLink) ∧ xs.length ≤ 9223372036854775807 := by
  obtain ⟨rows, rfl, hl, h⟩ := CT_slice hf c
  obtain ⟨xs, rfl⟩ := rows_map (f := enLink) (rows := rows) fun row hr => by
    have c := h row hr
    obtain ⟨_, _, rfl, k0, c⟩ := CTs_cons c
    obtain ⟨_, _, rfl, k1, c⟩ := CTs_cons c
    obtain rfl := CTs_nil c
    obtain ⟨m0, rfl, _⟩ := CT_int k0
    obtain ⟨m1, rfl, _⟩ := CT_int k1
    exact ⟨(m0, m1), rfl⟩
  exact ⟨xs, rfl, by simp [maxLen] at hl; omega⟩
theorem C_l_toLink {f0 f1 : Int} {H : Heap} {K : V → Heap → Prop} (h : K (.agg [.int .i64 f0, .int .i64 f1]) H) : ACalls P n_l_toLink [.agg [.int .i64 f0, .int .i64 f1]] H K := by
  apply W_l_toLink
  unfold F_l_toLink
  simp [stz_eq, putCells]
  exact Ret.eq h rfl
theorem C_l_eqLink {f0 f1 g0 g1 : Int} {H : Heap} {K : V → Heap → Prop} (h : K (.bool (decide (f0 = g0 ∧ f1 = g1))) H) : ACalls P n_l_eqLink [.agg [.int .i64 f0, .int .i64 f1], .agg [.int .i64 g0, .int .i64 g1]] H K := by
  apply W_l_eqLink
  unfold F_l_eqLink
  simp
  repeat' first
    | exact Ret.eq h (by simp; grind)
    | (refine And.intro ?_ ?_)
    | intro _
theorem C_l_toLinkS {xs : List TLink} {v : V} {H : Heap} {K : V → Heap → Prop} (hv : Rd H 2 v (xs.map enLink)) (hl : xs.length ≤ 2097152) (h : ∀ o, H o = none → K (.slice o 0 xs.length (some xs.length)) (upd H o ⟨2, xs.map enLink⟩)) :
    ACalls P n_l_toLinkS [v] H K := by
  apply W_l_toLinkS
  unfold F_l_toLinkS
  simp [hv.len]
  refine ⟨by omega, fun o ho => ?_⟩
  refine ⟨fun n ys H' => ∃ i, i ≤ xs.length ∧ ys = [.int .i64 (i : Nat)] ∧ n = xs.length - i ∧ H' = upd H o ⟨2, (xs.map enLink).take i ++ List.replicate (xs.length - i) [.int .i64 0, .int .i64 0]⟩, ⟨xs.length, Shr.of ⟨0, by omega, rfl, by omega, by simp⟩⟩, ?_⟩
  rintro n ys H' ⟨i, hi, rfl, rfl, rfl⟩
  simp
  refine ⟨fun hlt => ?_, fun hge => ?_⟩
  · refine (hv.mono (sub_fresh ho)).idx (by omega) (by simpa using hlt) fun p hp => ?_
    simp only [hp.ld]
    simp [hlt]
    apply C_l_toLink
    rw [aIndex_own (upd_eq _ _ _) rfl (by omega) (by omega)]
    simp
    rw [aSt_own (upd_eq _ _ _) (row := [.int .i64 0, .int .i64 0]) (row' := enLink xs[i]) (by simpa using fill_get (M := xs.map enLink) (z := [.int .i64 0, .int .i64 0]) (i := i) (by simp) (by simpa using hlt)) (by simp [stz_eq, putCells])]
    simp
    rw [i64_in (by omega) (by omega)]
    refine ⟨xs.length - (i + 1), by omega, Shr.of ⟨i + 1, by omega, by simp, rfl, ?_⟩⟩
    have := fill_set (M := xs.map enLink) (z := [.int .i64 0, .int .i64 0]) (i := i) (n := xs.length) (by simp) (by simpa using hlt)
    simp at this
    rw [this]
  · have : i = xs.length := by omega
    subst this
    have e : (xs.map enLink).take xs.length ++ List.replicate (xs.length - xs.length) [.int .i64 0, .int .i64 0] = xs.map enLink := by rw [List.take_of_length_le (by simp)]; simp
    rw [e]
    exact Ret.of (h o ho)
theorem C_l_eqLinkS {xs ys : List TLink} {v w : V} {H : Heap} {K : V → Heap → Prop} (hv : Rd H 2 v (xs.map enLink)) (hw : Rd H 2 w (ys.map enLink)) (hl : xs.length ≤ 2097152) (h : K (.bool (decide (xs = ys))) H) :
    ACalls P n_l_eqLinkS [v, w] H K := by
  apply W_l_eqLinkS
  unfold F_l_eqLinkS
  simp [hv.len, hw.len]
  refine ⟨fun hne => Ret.eq h ?_, fun heq => ?_⟩
  · have : xs ≠ ys := by rintro rfl; exact hne rfl
    simp [this]
  · have heq' : xs.length = ys.length := by omega
    refine ⟨fun n zs H' => ∃ i, i ≤ xs.length ∧ zs = [.int .i64 (i : Nat)] ∧ n = xs.length - i ∧ H' = H ∧ xs.take i = ys.take i, ⟨xs.length, Shr.of ⟨0, by omega, rfl, by omega, rfl, by simp⟩⟩, ?_⟩
    rintro n zs H' ⟨i, hi, rfl, rfl, rfl, ht⟩
    simp
    refine ⟨fun hlt => ⟨H', by simp, ?_⟩, fun hge => ?_⟩
    · refine hv.idx (by omega) (by simpa using hlt) fun p hp => ?_
      simp only [hp.ld]
      simp [hlt]
      refine hw.idx (by omega) (by simp; omega) fun q hq => ?_
      simp only [hq.ld]
      have hlt' : i < ys.length := by omega
      simp [hlt']
      apply C_l_eqLink
      simp only [← enLink_inj]
      by_cases he : xs[i] = ys[i]
      · simp [he]
        rw [i64_in (by omega) (by omega)]
        refine ⟨xs.length - (i + 1), by omega, Shr.of ⟨i + 1, by omega, by simp, rfl, rfl, ?_⟩⟩
        rw [List.take_succ_eq_append_getElem hlt, List.take_succ_eq_append_getElem hlt', ht, he]
      · simp [he]
        have : xs ≠ ys := by rintro rfl; exact he rfl
        exact Ret.eq h (by simp [this])
    · have : i = xs.length := by omega
      subst this
      rw [List.take_of_length_le (by omega), List.take_of_length_le (by omega)] at ht
      exact Ret.eq h (by simp [ht])

theorem C_l_szLinkS {es : List TLink} {v : V} {left : Int} {H : Heap} {K : V → Heap → Prop} (hv : Rd H 2 v (es.map enLink)) (h : K (.int .i64 (if IntKind.i64.wrap (left - es.length) < 0 then -1 else IntKind.i64.wrap (left - es.length))) H) : ACalls P n_l_szLinkS [v, .int .i64 left] H K := by
  apply W_l_szLinkS
  unfold F_l_szLinkS
  simp [hv.len]
  exact ⟨fun e => Ret.eq h (by rw [if_pos e]), fun e => Ret.eq h (by rw [if_neg (by omega)])⟩

def mkLink (k : Int) (n : Nat) : List (List V) := (List.range n).map fun i => enLink (k + 2 * (i : Nat), k + 2 * (i : Nat) + 1)
theorem mkLink_len (k : Int) (n : Nat) : (mkLink k n).length = n := by simp [mkLink]
theorem mkLink_row (k : Int) (n : Nat) : ∀ r ∈ mkLink k n, r.length = 2 := fun r hr => by
  unfold mkLink at hr
  obtain ⟨i, _, rfl⟩ := List.mem_map.1 hr
  rfl
theorem mkLink_get {k : Int} {n i : Nat} (h : i < n) : (mkLink k n)[i]? = some (enLink (k + 2 * (i : Nat), k + 2 * (i : Nat) + 1)) := by simp [mkLink, h]
theorem C_l_markLinkS {o n : Nat} {cap : Option Nat} {rows : List (List V)} {k : Int} {H : Heap} {K : V → Heap → Prop} (ho : H o = some ⟨2, rows⟩) (hr : ∀ r ∈ rows, r.length = 2) (hn : rows.length = n) (hk : 0 ≤ k) (hkn : k + 2 * n ≤ 1000000000000)
    (h : K (.int .i64 (k + 2 * n)) (upd H o ⟨2, mkLink k n⟩)) : ACalls P n_l_markLinkS [.slice o 0 n cap, .int .i64 k] H K := by
  apply W_l_markLinkS
  unfold F_l_markLinkS
  simp
  refine ⟨fun m zs H' => ∃ i, i ≤ n ∧ zs = [.int .i64 (k + 2 * (i : Nat)), .int .i64 (i : Nat)] ∧ m = n - i ∧ H' = upd H o ⟨2, (mkLink k n).take i ++ rows.drop i⟩, ⟨n, Shr.of ⟨0, by omega, by simp, by omega, ?_⟩⟩, ?_⟩
  · funext j
    by_cases e : j = o
    · subst e; simp [ho]
    · rw [upd_off e]
  rintro m zs H' ⟨i, hi, rfl, rfl, rfl⟩
  simp
  refine ⟨fun hlt => ?_, fun hge => ?_⟩
  · have hri : i < rows.length := by omega
    have hrow : rows[i].length = 2 := hr _ (List.getElem_mem hri)
    obtain ⟨x0, x1, hx⟩ : ∃ x0 x1, rows[i] = [x0, x1] := by
      match rows[i], hrow with
      | [x0, x1], _ => exact ⟨x0, x1, rfl⟩
    have hg : ((mkLink k n).take i ++ rows.drop i)[i]? = some [x0, x1] := by rw [over_get (by simp [mkLink_len]; omega) (by simp [mkLink_len]; omega)]; simp [hri, hx]
    have hil : i < ((mkLink k n).take i ++ rows.drop i).length := (List.getElem?_eq_some_iff.1 hg).1
    generalize hL : (mkLink k n).take i ++ rows.drop i = L at hg hil
    have e1 : IntKind.i64.wrap (k + 2 * (i : Int) + 1) = k + 2 * (i : Int) + 1 := i64_in (by omega) (by omega)
    have e2 : IntKind.i64.wrap (k + 2 * (i : Int) + 1 + 1) = k + 2 * (i : Int) + 1 + 1 := i64_in (by omega) (by omega)
    have e0 : IntKind.i64.wrap ((i : Int) + 1) = (i : Int) + 1 := i64_in (by omega) (by omega)
    rw [aIndex_own (upd_eq _ _ _) rfl (by omega) (by omega)]
    simp [aField, e1, e2, e0]
    rw [aSt_own (upd_eq _ _ _) (row := [x0, x1]) (row' := [.int .i64 (k + 2 * (i : Int)), x1]) (by simpa using hg) (by simp [stz_eq, putCells])]
    simp
    rw [aIndex_own (upd_eq _ _ _) rfl (by omega) (by omega)]
    simp [aField]
    rw [aSt_own (upd_eq _ _ _) (row := [.int .i64 (k + 2 * (i : Int)), x1]) (row' := enLink (k + 2 * (i : Int), k + 2 * (i : Int) + 1)) (by simp [hil]) (by simp [stz_eq, putCells])]
    simp
    refine ⟨n - (i + 1), by omega, Shr.of ⟨i + 1, by omega, by simp; omega, rfl, ?_⟩⟩
    have := over_set (M := mkLink k n) (R := rows) (i := i) (by simp [mkLink_len]; omega) (mkLink_get hlt)
    rw [hL] at this
    rw [this]
  · have : i = n := by omega
    subst this
    refine Ret.eq (v' := .int .i64 (k + 2 * (i : Nat))) ?_ rfl
    have e : (mkLink k i).take i ++ rows.drop i = mkLink k i := by rw [List.take_of_length_le (by simp [mkLink_len]), List.drop_eq_nil_of_le (by omega)]; simp
    rw [e]; exact h
theorem C_l_markLinkS_nil {k : Int} {H : Heap} {K : V → Heap → Prop} (h : K (.int .i64 k) H) : ACalls P n_l_markLinkS [.nils, .int .i64 k] H K := by
  apply W_l_markLinkS
  unfold F_l_markLinkS
  simp
  refine ⟨fun m zs H' => zs = [.int .i64 k, .int .i64 0] ∧ H' = H, ⟨0, Shr.of ⟨rfl, rfl⟩⟩, ?_⟩
  rintro m zs H' ⟨rfl, rfl⟩
  simp
  exact Ret.eq h rfl
theorem C_markLinkHeld {rows : List (List V)} {v : V} {k : Int} {H0 Ho H : Heap} {K : V → Heap → Prop} (hv : Held H0 2 rows v Ho) (hs : Abs.sub Ho H) (hr : ∀ r ∈ rows, r.length = 2) (hk : 0 ≤ k) (hkn : k + 2 * rows.length ≤ 1000000000000)
    (h : ∀ H' Ho', Held H0 2 (mkLink k rows.length) v Ho' → Abs.sub Ho' H' → K (.int .i64 (k + 2 * rows.length)) H') : ACalls P n_l_markLinkS [v, .int .i64 k] H K := by
  rcases hv with ⟨rfl, rfl, rfl⟩ | ⟨o, cap, h1, rfl, hc, rfl⟩
  · exact C_l_markLinkS_nil (by simpa using h H Ho (.inl ⟨rfl, rfl, rfl⟩) hs)
  · exact C_l_markLinkS (rows := rows) (hs _ _ (upd_eq _ _ _)) hr rfl hk hkn (h _ (upd H0 o ⟨2, mkLink k rows.length⟩) (.inr ⟨o, cap, h1, by simp [mkLink_len], by simpa [mkLink_len] using hc, rfl⟩) (by
      have := sub_upd2 (o := o) (x := ⟨2, mkLink k rows.length⟩) hs
      simpa using this))

end Go.Proofs.YtaippfedjjjpeaaGreat

