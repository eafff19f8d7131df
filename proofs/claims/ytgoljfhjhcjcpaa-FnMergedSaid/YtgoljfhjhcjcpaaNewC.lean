/-
Contracts: which advertisement is newer, the next one, the same words; for any two.
-/
import Derived.Test.YtgoljfhjhcjcpaaNewP
import Derived.Test.YtgoljfhjhcjcpaaTakeJ
import Derived.Test.YtgoljfhjhcjcpaaLawAid
import Derived.Test.YtgoljfhjhcjcpaaDrwM
set_option linter.all false
namespace Go.Proofs.Ytgoljfhjhcjcpaa
open Go Go.Abs Go.Proofs

def newR (x y : TLsa) : Int := if lsaOk x ∧ lsaOk y ∧ x.origin = y.origin then newerR x y else -2
theorem C_x_Newer {b b' : Bool} {x y : TLsa} {us vs : List V} {H : Heap} {K : V → Heap → Prop} (hu : (lsaT b).rd H x us) (hv : (lsaT b').rd H y vs) (h : K (.int .i64 (newR x y)) H) : ACalls P n_s_Newer [.agg us, .agg vs] H K := by
  by_cases hh : lsaOk x ∧ lsaOk y ∧ x.origin = y.origin
  · unfold newR at h
    rw [if_pos hh] at h
    exact C_s_Newer hu hv hh.1 hh.2.1 hh.2.2 h
  have h : K (.int .i64 (-2)) H := by unfold newR at h; rwa [if_neg hh] at h
  have hu' := hu
  have hv' := hv
  obtain ⟨l, s, rfl, g1, g2⟩ := hu
  have hcu := lsa_cell g1 g2
  obtain ⟨l', s', rfl, g1', g2'⟩ := hv
  have hcv := lsa_cell g1' g2'
  apply W_s_Newer
  unfold F_s_Newer
  simp [hcu, hcv]
  refine C_s_LsaOk hu' ?_
  by_cases hx : lsaOk x
  · simp [hx]
    refine C_s_LsaOk hv' ?_
    by_cases hy : lsaOk y
    · simp [hy]
      exact ⟨fun _ => Ret.of h, fun q => absurd ⟨hx, hy, q⟩ hh⟩
    · simp [hy]
      exact Ret.of h
  · simp [hx]
    exact Ret.of h
theorem C_i_Newer {b b' : Bool} {x y : TLsa} {us vs : List V} {H : Heap} {K : V → Heap → Prop} (hu : (lsaT b).rd H x us) (hv : (lsaT b').rd H y vs) (hl : x.links.length ≤ 1048576 ∧ x.stubs.length ≤ 1048576) (hl' : y.links.length ≤ 1048576 ∧ y.stubs.length ≤ 1048576) (h : K (.int .i64 (newR x y)) H) : ACalls P n_i_Newer [.agg us, .agg vs] H K := by
  have hu' := hu
  have hv' := hv
  obtain ⟨l, s, rfl, g1, g2⟩ := hu
  have hcu := lsa_cell g1 g2
  obtain ⟨l', s', rfl, g1', g2'⟩ := hv
  have hcv := lsa_cell g1' g2'
  apply W_i_Newer
  unfold F_i_Newer
  simp [hcu, hcv]
  unfold newR at h
  refine C_i_LsaOk hu' hl ?_
  by_cases hx : lsaOk x
  · simp [hx]
    refine C_i_LsaOk hv' hl' ?_
    by_cases hy : lsaOk y
    · simp [hy]
      refine ⟨fun q => ?_, fun q => ?_⟩
      · rw [if_neg fun hh => q hh.2.2] at h
        exact Ret.of h
      · rw [if_pos ⟨hx, hy, q⟩] at h
        exact C_i_newer hu' hv' hx hy (Ret.of h)
    · simp [hy]
      rw [if_neg fun hh => hy hh.2.1] at h
      exact Ret.of h
  · simp [hx]
    rw [if_neg fun hh => hx hh.1] at h
    exact Ret.of h
theorem C_i_LsaSum {b : Bool} {a : TLsa} {vs : List V} {H : Heap} {K : V → Heap → Prop} (hv : (lsaT b).rd H a vs) (hl : a.links.length ≤ 1048576 ∧ a.stubs.length ≤ 1048576) (hok : lsaOk a) (h : K (.int .i64 (lsaSum a)) H) : ACalls P n_i_LsaSum [.agg vs] H K := by
  have hv' := hv
  obtain ⟨l, s, rfl, g1, g2⟩ := hv
  have hc := lsa_cell g1 g2
  apply W_i_LsaSum
  unfold F_i_LsaSum
  simp [hc]
  refine C_i_LsaOk hv' hl ?_
  simp [hok]
  exact C_i_Lsa_sum hv' hok (Ret.of h)
/-! #### the same words -/
theorem neq_link (x y z w : Int) : aBin P .neq 65 (.agg [.int .i64 x, .int .i64 y]) (.agg [.int .i64 z, .int .i64 w]) = some (.bool (!((x == z) && ((y == w) && true)))) := by kernel_rfl
theorem neq_stub (x y u z w v : Int) : aBin P .neq 69 (.agg [.int .i64 x, .int .i64 y, .int .i64 u]) (.agg [.int .i64 z, .int .i64 w, .int .i64 v]) = some (.bool (!(((x == z) && ((y == w) && true)) && ((u == v) && true)))) := by kernel_rfl
def InvEq {α : Type} (H : Heap) (xs ys : List α) (m : Nat) (zs : List V) (Hc : Heap) : Prop :=
  ∃ i : Nat, i ≤ xs.length ∧ zs = [.int .i64 (i : Nat)] ∧ m = xs.length - i ∧ Hc = H ∧ ∀ j, j < i → xs[j]? = ys[j]?
theorem lists_eq {α : Type} {xs ys : List α} (hl : xs.length = ys.length) (h : ∀ j, j < xs.length → xs[j]? = ys[j]?) : xs = ys := by
  apply List.ext_getElem?
  intro j
  by_cases e : j < xs.length
  · exact h j e
  · rw [List.getElem?_eq_none (by omega), List.getElem?_eq_none (by omega)]
theorem C_Equal_Link {xs ys : List TLink} {v w : V} {H : Heap} {K : V → Heap → Prop} (hv : Rd H 2 v (xs.map enLink)) (hw : Rd H 2 w (ys.map enLink)) (hl : xs.length ≤ 1048576) (h : K (.bool (decide (xs = ys))) H) : ACalls P n_slices_Equal_i_Link_i_Link [v, w] H K := by
  apply W_slices_Equal_i_Link_i_Link
  unfold F_slices_Equal_i_Link_i_Link
  simp [hv.len, hw.len]
  refine ⟨fun q => Ret.no h fun hh => q (by rw [hh]), fun q => ?_⟩
  refine ⟨InvEq H xs ys, ⟨xs.length, Shr.of ⟨0, by omega, rfl, by omega, rfl, fun j hj => absurd hj (by omega)⟩⟩, ?_⟩
  rintro m zs Hc ⟨i, hi, rfl, rfl, rfl, hok⟩
  simp
  refine ⟨fun hlt => ?_, fun hge => ?_⟩
  · refine ⟨Hc, Abs.sub_refl _, ?_⟩
    have g1 : (xs.map enLink).getD i [] = enLink xs[i] := by simp [hlt]
    have hlt2 : i < ys.length := by omega
    have g2 : (ys.map enLink).getD i [] = enLink ys[i] := by simp [hlt2]
    refine hv.idx (by omega) (by simpa using hlt) fun p hp => ?_
    simp only [Int.toNat_natCast, g1] at hp
    rw [hp.ld]
    simp
    refine hw.idx (by omega) (by simpa using hlt2) fun p hp => ?_
    simp only [Int.toNat_natCast, g2] at hp
    rw [hp.ld]
    simp
    rw [neq_link]
    simp
    refine ⟨fun hne => Ret.no h fun hh => ?_, fun e1 e2 => ?_⟩
    · subst hh; simp at hne
    · rw [i64_in (n := (i : Int) + 1) (by omega) (by omega)]
      exact ⟨xs.length - (i + 1), by omega, Shr.of ⟨i + 1, by omega, by simp, rfl, rfl, fun j hj => by
        by_cases e : j = i
        · subst e; simp [hlt, hlt2, Prod.ext_iff, e1, e2]
        · exact hok j (by omega)⟩⟩
  · exact Ret.yes h (lists_eq (by omega) fun j hj => hok j (by omega))
theorem C_Equal_Stub {xs ys : List TStub} {v w : V} {H : Heap} {K : V → Heap → Prop} (hv : Rd H 3 v (xs.map enStub)) (hw : Rd H 3 w (ys.map enStub)) (hl : xs.length ≤ 1048576) (h : K (.bool (decide (xs = ys))) H) : ACalls P n_slices_Equal_i_Stub_i_Stub [v, w] H K := by
  apply W_slices_Equal_i_Stub_i_Stub
  unfold F_slices_Equal_i_Stub_i_Stub
  simp [hv.len, hw.len]
  refine ⟨fun q => Ret.no h fun hh => q (by rw [hh]), fun q => ?_⟩
  refine ⟨InvEq H xs ys, ⟨xs.length, Shr.of ⟨0, by omega, rfl, by omega, rfl, fun j hj => absurd hj (by omega)⟩⟩, ?_⟩
  rintro m zs Hc ⟨i, hi, rfl, rfl, rfl, hok⟩
  simp
  refine ⟨fun hlt => ?_, fun hge => ?_⟩
  · refine ⟨Hc, Abs.sub_refl _, ?_⟩
    have g1 : (xs.map enStub).getD i [] = enStub xs[i] := by simp [hlt]
    have hlt2 : i < ys.length := by omega
    have g2 : (ys.map enStub).getD i [] = enStub ys[i] := by simp [hlt2]
    refine hv.idx (by omega) (by simpa using hlt) fun p hp => ?_
    simp only [Int.toNat_natCast, g1] at hp
    rw [hp.ld]
    simp
    refine hw.idx (by omega) (by simpa using hlt2) fun p hp => ?_
    simp only [Int.toNat_natCast, g2] at hp
    rw [hp.ld]
    simp
    rw [neq_stub]
    simp
    refine ⟨fun hne => Ret.no h fun hh => ?_, fun e1 e2 e3 => ?_⟩
    · subst hh; simp at hne
    · rw [i64_in (n := (i : Int) + 1) (by omega) (by omega)]
      exact ⟨xs.length - (i + 1), by omega, Shr.of ⟨i + 1, by omega, by simp, rfl, rfl, fun j hj => by
        by_cases e : j = i
        · subst e; simp [hlt, hlt2, Prod.ext_iff, e1, e2, e3]
        · exact hok j (by omega)⟩⟩
  · exact Ret.yes h (lists_eq (by omega) fun j hj => hok j (by omega))
theorem C_i_SameWords {b b' : Bool} {x y : TLsa} {us vs : List V} {H : Heap} {K : V → Heap → Prop} (hu : (lsaT b).rd H x us) (hv : (lsaT b').rd H y vs) (hl : x.links.length ≤ 1048576 ∧ x.stubs.length ≤ 1048576) (hl' : y.links.length ≤ 1048576 ∧ y.stubs.length ≤ 1048576) (h : K (.bool (decide (lsaOk x ∧ lsaOk y ∧ x.origin = y.origin ∧ x.links = y.links ∧ x.stubs = y.stubs))) H) : ACalls P n_i_SameWords [.agg us, .agg vs] H K := by
  have hu' := hu
  have hv' := hv
  obtain ⟨l, s, rfl, g1, g2⟩ := hu
  have hcu := lsa_cell g1 g2
  obtain ⟨l', s', rfl, g1', g2'⟩ := hv
  have hcv := lsa_cell g1' g2'
  apply W_i_SameWords
  unfold F_i_SameWords
  simp [hcu, hcv]
  refine C_i_LsaOk hu' hl ?_
  by_cases hx : lsaOk x
  · simp [hx]
    refine C_i_LsaOk hv' hl' ?_
    by_cases hy : lsaOk y
    · simp [hy]
      refine ⟨fun q => ?_, fun q => ?_⟩
      · refine C_Equal_Link g1.1 g1'.1 hl.1 ?_
        by_cases e : x.links = y.links
        · simp [e]
          refine C_Equal_Stub g2.1 g2'.1 hl.2 ?_
          exact Ret.eq h (by simp [hx, hy, q, e])
        · simp [e]
          exact Ret.no h fun hh => e hh.2.2.2.1
      · exact Ret.no h fun hh => q hh.2.2.1
    · simp [hy]
      exact Ret.no h fun hh => hy hh.2.1
  · simp [hx]
    exact Ret.no h fun hh => hx hh.1
/-! #### the next one -/
theorem C_i_NextLsa {b : Bool} {x : TLsa} {us : List V} {ls : List TLink} {ss : List TStub} {l s : V} {H : Heap} {K : V → Heap → Prop} (hu : (lsaT b).rd H x us) (h1 : Rb false H 2 l (ls.map enLink)) (h2 : Rb false H 3 s (ss.map enStub))
    (hl : x.links.length ≤ 1048576 ∧ x.stubs.length ≤ 1048576) (hl' : ls.length ≤ 1048576 ∧ ss.length ≤ 1048576)
    (hy : lsaOk x → lsaOk (nextL x ls ss) → ∀ vs H', Dp (lsaT false) H (nextL x ls ss) vs H' → K (.tup [.agg vs, .bool true]) H')
    (hn : ¬ (lsaOk x ∧ lsaOk (nextL x ls ss)) → ∀ H', Abs.sub H H' → K (.tup [.agg [.int .i64 0, .int .i64 0, .int .i64 0, .nils, .nils], .bool false]) H') : ACalls P n_i_NextLsa [.agg us, l, s] H K := by
  have hu' := hu
  obtain ⟨l0, s0, rfl, g1, g2⟩ := hu
  have hcu := lsa_cell g1 g2
  apply W_i_NextLsa
  unfold F_i_NextLsa
  simp [hcu, stz_eq, putCells, fillZ]
  refine C_i_LsaOk hu' hl ?_
  by_cases hx : lsaOk x
  · have s1 := hx.2.1
    simp [hx]
    rw [i64_in (n := x.seq + 1) (by omega) (by omega)]
    refine C_Clone_Link h1 (by simpa using hl'.1) fun u H1 d1 => ?_
    refine C_Clone_Stub (h2.mono d1.sub) (by simpa using hl'.2) fun w H2 d2 => ?_
    have c1 := d1.cell
    have c2 := d2.cell
    simp [stz_eq, putCells, c1, c2]
    intro o ho
    have hd : Dp (lsaT false) H (nextL x ls ss) (lsaRow (nextL x ls ss) u w) H2 := Dp.lsa d1 d2
    rw [aSt_at (upd_eq _ _ _)]
    simp [stz_eq, putCells, c1, c2]
    rw [aLd_at (upd_eq _ _ _)]
    simp
    have hs := fun r => sub_fresh (x := ⟨5, [r]⟩) ho
    refine C_i_LsaOk (b := false) (a := nextL x ls ss) ((lsaT false).mono hd.rd (hs _)) hl' ?_
    by_cases hr : lsaOk (nextL x ls ss)
    · simp [hr]
      rw [aLd_at (upd_eq _ _ _)]
      simp [stz_eq, putCells, c1, c2]
      exact Ret.shr (hy hx hr _ _ hd) rfl (hs _)
    · simp [hr]
      exact Ret.shr (hn (fun hh => hr hh.2) _ hd.sub) rfl (hs _)
  · simp [hx]
    exact Ret.of (hn (fun hh => hx hh.1) _ (Abs.sub_refl _))
theorem putB_in {a : TLsa} : ∀ c ∈ putB a, isB c := by
  intro c hc
  unfold putB at hc
  simp only [List.mem_append, List.mem_singleton] at hc
  rcases hc with (hc | hc) | hc
  · exact lsaB_in c hc
  · subst hc; exact mod_in _
  · exact wide_in c hc

end Go.Proofs.Ytgoljfhjhcjcpaa
