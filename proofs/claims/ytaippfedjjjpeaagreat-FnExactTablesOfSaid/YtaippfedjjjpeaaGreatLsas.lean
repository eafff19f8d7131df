/-
Contracts of the laws' helpers over advertisements and databases.
-/
import Derived.Test.YtaippfedjjjpeaaGreatLinks
import Derived.Test.YtaippfedjjjpeaaGreatStubs
import Derived.Test.YtaippfedjjjpeaaGreatAbs3
set_option linter.all false
namespace Go.Proofs.YtaippfedjjjpeaaGreat
open Go Go.Abs Go.Proofs

structure TLsa where
  origin : Int
  seq : Int
  age : Int
  links : List TLink
  stubs : List TStub
theorem TLsa.eq_iff {a b : TLsa} : a = b ↔ a.origin = b.origin ∧ a.seq = b.seq ∧ a.age = b.age ∧ a.links = b.links ∧ a.stubs = b.stubs := by
  constructor
  · rintro rfl; simp
  · intro h; cases a; cases b; simp_all
instance : DecidableEq TLsa := fun a b => decidable_of_iff (a.origin = b.origin ∧ a.seq = b.seq ∧ a.age = b.age ∧ a.links = b.links ∧ a.stubs = b.stubs) TLsa.eq_iff.symm
abbrev lsaRow (a : TLsa) (l s : V) : List V := [.int .i64 a.origin, .int .i64 a.seq, .int .i64 a.age, l, s]
def lsaT (b : Bool) : Ty TLsa where
  n := 5
  rd H a vs := ∃ l s, vs = lsaRow a l s ∧ Rb b H 2 l (a.links.map enLink) ∧ Rb b H 3 s (a.stubs.map enStub)
  own a vs es := ∃ l s, vs = lsaRow a l s ∧ es = [⟨2, a.links.map enLink, l⟩, ⟨3, a.stubs.map enStub, s⟩]
  len := by rintro H a vs ⟨l, s, rfl, _⟩; rfl
  mono := by rintro H H' a vs ⟨l, s, rfl, h1, h2⟩ hs; exact ⟨l, s, rfl, h1.mono hs, h2.mono hs⟩
  ok := by
    rintro a vs es ⟨l, s, rfl, rfl⟩ e he r hr
    simp at he
    rcases he with rfl | rfl
    · exact enLink_len r hr
    · exact enStub_len r hr
  ofOwn := by
    rintro H a vs es ⟨l, s, rfl, rfl⟩ h
    exact ⟨l, s, rfl, (h ⟨2, a.links.map enLink, l⟩ (by simp)).any b, (h ⟨3, a.stubs.map enStub, s⟩ (by simp)).any b⟩
theorem Dp.lsa {b : Bool} {a : TLsa} {l s : V} {H0 H1 H2 : Heap} (h1 : Held H0 2 (a.links.map enLink) l H1) (h2 : Held H1 3 (a.stubs.map enStub) s H2) : Dp (lsaT b) H0 a (lsaRow a l s) H2 :=
  ⟨_, ⟨l, s, rfl, rfl⟩, H1, h1, H2, h2, rfl⟩
theorem lsa_dp {b : Bool} {a : TLsa} {vs : List V} {H0 H2 : Heap} (h : Dp (lsaT b) H0 a vs H2) : ∃ l s H1, vs = lsaRow a l s ∧ Held H0 2 (a.links.map enLink) l H1 ∧ Held H1 3 (a.stubs.map enStub) s H2 := by
  obtain ⟨es, ⟨l, s, rfl, rfl⟩, H1, h1, H2', h2, h3⟩ := h
  cases h3
  exact ⟨l, s, H1, rfl, h1, h2⟩
abbrev dbT (b : Bool) : Ty (List TLsa) := sliceT b (lsaT b)
theorem lsa_cell {b : Bool} {H : Heap} {a : TLsa} {l s : V} (h1 : Rb b H 2 l (a.links.map enLink)) (h2 : Rb b H 3 s (a.stubs.map enStub)) : (cellsOf l = [l] ∧ cellOk l = true ∧ notAny l = true) ∧ (cellsOf s = [s] ∧ cellOk s = true ∧ notAny s = true) := ⟨h1.1.cell, h2.1.cell⟩

def szl (a : TLsa) : Nat := a.links.length + a.stubs.length
theorem C_l_szLsa {b : Bool} {a : TLsa} {vs : List V} {left : Int} {H : Heap} {K : V → Heap → Prop} (hv : (lsaT b).rd H a vs) (h0 : 0 ≤ left) (h1 : left ≤ 1048576) (hm : a.links.length ≤ 9223372036854775807 ∧ a.stubs.length ≤ 9223372036854775807)
    (h : ∀ r : Int, (0 ≤ r → r = left - szl a) → K (.int .i64 r) H) : ACalls P n_l_szLsa [.agg vs, .int .i64 left] H K := by
  obtain ⟨l, s, rfl, h2, h3⟩ := hv
  have hc := lsa_cell h2 h3
  apply W_l_szLsa
  unfold F_l_szLsa
  simp [hc]
  refine C_l_szLinkS h2.1 ?_
  rw [i64_in (by omega) (by omega)]
  split
  · simp
    exact Ret.of (h _ (by omega))
  · simp
    refine ⟨fun hh => absurd hh (by omega), fun _ => ?_⟩
    refine C_l_szStubS h3.1 ?_
    rw [i64_in (by omega) (by omega)]
    split
    · simp
      exact Ret.of (h _ (by omega))
    · simp
      refine ⟨fun hh => absurd hh (by omega), fun _ => Ret.of (h _ (by unfold szl; omega))⟩
theorem C_l_szLsaS {b : Bool} {xs : List TLsa} {w : V} {left : Int} {H : Heap} {K : V → Heap → Prop} (hv : (dbT b).rd H xs [w]) (h0 : 0 ≤ left) (h1 : left ≤ 1048576) (hl : xs.length ≤ 9223372036854775807) (hm : ∀ a ∈ xs, a.links.length ≤ 9223372036854775807 ∧ a.stubs.length ≤ 9223372036854775807)
    (h : ∀ r : Int, (0 ≤ r → r = left - xs.length - sumF szl xs) → K (.int .i64 r) H) : ACalls P n_l_szLsaS [w, .int .i64 left] H K := by
  apply W_l_szLsaS
  unfold F_l_szLsaS
  simp [rdS_len hv]
  rw [i64_in (by omega) (by omega)]
  refine ⟨fun q => Ret.of (h _ (by omega)), fun q => ?_⟩
  refine ⟨fun m ys Hc => ∃ i, i ≤ xs.length ∧ ys = [.int .i64 (left - xs.length - sumF szl (xs.take i)), .int .i64 (i : Nat)] ∧ m = xs.length - i ∧ Hc = H ∧ 0 ≤ left - xs.length - sumF szl (xs.take i), ⟨xs.length, Shr.of ⟨0, by omega, by simp [sumF], by omega, rfl, by simp [sumF]; omega⟩⟩, ?_⟩
  rintro m ys Hc ⟨i, hi, rfl, rfl, rfl, hb⟩
  simp
  refine ⟨fun hlt => ?_, fun hge => ?_⟩
  · refine rdS_idx hv (by omega) (by simpa using hlt) fun p row hp hr => ?_
    obtain ⟨l, s, rfl, h2, h3⟩ := hr
    rw [hp.ld]
    simp
    refine C_l_szLsa (b := b) (a := xs[i]) ⟨l, s, rfl, by simpa using h2, by simpa using h3⟩ hb (by omega) (hm _ (List.getElem_mem hlt)) fun r hr => ?_
    simp
    have hs := sumF_succ (f := szl) hlt
    refine ⟨fun q => Ret.of (h _ (by omega)), fun q => ?_⟩
    have := hr q
    subst this
    rw [i64_in (n := (i : Int) + 1) (by omega) (by omega)]
    refine ⟨xs.length - (i + 1), by omega, Shr.of ⟨i + 1, by omega, ?_, rfl, rfl, by rw [hs]; omega⟩⟩
    rw [hs]
    simp
    omega
  · have : i = xs.length := by omega
    subst this
    rw [List.take_length] at hb ⊢
    exact Ret.of (h _ fun _ => rfl)
theorem C_l_szDb {b : Bool} {xs : List TLsa} {w : V} {left : Int} {H : Heap} {K : V → Heap → Prop} (hv : (dbT b).rd H xs [w]) (h0 : 0 ≤ left) (h1 : left ≤ 1048576) (hl : xs.length ≤ 9223372036854775807) (hm : ∀ a ∈ xs, a.links.length ≤ 9223372036854775807 ∧ a.stubs.length ≤ 9223372036854775807)
    (h : ∀ r : Int, (0 ≤ r → r = left - xs.length - sumF szl xs) → K (.int .i64 r) H) : ACalls P n_l_szDb [.agg [w], .int .i64 left] H K := by
  have hc := rdS_cell hv
  apply W_l_szDb
  unfold F_l_szDb
  simp [hc]
  refine C_l_szLsaS hv h0 h1 hl hm fun r hr => ?_
  simp
  exact ⟨fun q => Ret.of (h _ (by omega)), fun q => Ret.of (h _ hr)⟩

theorem C_l_toLsa {b c : Bool} {a : TLsa} {vs : List V} {H : Heap} {K : V → Heap → Prop} (hv : (lsaT b).rd H a vs) (hl : a.links.length ≤ 2097152 ∧ a.stubs.length ≤ 2097152) (h : ∀ us H', Dp (lsaT c) H a us H' → K (.agg us) H') : ACalls P n_l_toLsa [.agg vs] H K := by
  obtain ⟨l, s, rfl, h2, h3⟩ := hv
  have hc := lsa_cell h2 h3
  apply W_l_toLsa
  unfold F_l_toLsa
  simp [hc, stz_eq, putCells]
  refine C_l_toLinkS h2.1 hl.1 fun o ho => ?_
  simp [stz_eq, putCells]
  have w1 := Held.full (sz := 2) (rows := a.links.map enLink) (n := a.links.length) ho (by simp)
  refine C_l_toStubS (h3.1.mono w1.sub) hl.2 fun o' ho' => ?_
  simp [stz_eq, putCells]
  have w2 := Held.full (sz := 3) (rows := a.stubs.map enStub) (n := a.stubs.length) ho' (by simp)
  exact Ret.of (h _ _ (Dp.lsa w1 w2))
theorem C_l_toLsaS {b c : Bool} {xs : List TLsa} {w : V} {H : Heap} {K : V → Heap → Prop} (hv : (dbT b).rd H xs [w]) (hl : xs.length + sumF szl xs ≤ 1048576) (h : ∀ u H', Dp (dbT c) H xs [u] H' → K u H') : ACalls P n_l_toLsaS [w] H K := by
  apply W_l_toLsaS
  unfold F_l_toLsaS
  simp [rdS_len hv]
  refine ⟨by omega, fun o ho => ?_⟩
  refine ⟨fun m ys Hc => ∃ i, i ≤ xs.length ∧ ys = [.int .i64 (i : Nat)] ∧ m = xs.length - i ∧ Fil (lsaT c) H (xs.take i) xs.length [.int .i64 0, .int .i64 0, .int .i64 0, .nils, .nils] o Hc, ⟨xs.length, Shr.of ⟨0, by omega, rfl, by omega, Fil.start (T := lsaT c) ho⟩⟩, ?_⟩
  rintro m ys Hc ⟨i, hi, rfl, rfl, hf⟩
  simp
  refine ⟨fun hlt => ?_, fun hge => ?_⟩
  · refine rdS_idx ((dbT b).mono hv hf.sub) (by omega) (by simpa using hlt) fun p row hp hr => ?_
    have hr := hr
    simp only [Int.toNat_natCast] at hr
    obtain ⟨l, s, rfl, h2, h3⟩ := hr
    rw [hp.ld]
    simp
    have hz := le_sumF (f := szl) hlt
    have hz' : szl xs[i] = xs[i].links.length + xs[i].stubs.length := rfl
    refine C_l_toLsa (c := c) (a := xs[i]) ⟨l, s, rfl, h2, h3⟩ (by omega) fun us H1 hu => ?_
    have hlen : (xs.take i).length = i := by simp; omega
    refine hf.step (T := lsaT c) hu hlen (by omega) (Abs.sub_refl _) fun p hp => ?_
    obtain ⟨l', s', Hm, rfl, g1, g2⟩ := lsa_dp hu
    have c1 := g1.cell
    have c2 := g2.cell
    refine hp _ _ (by simp [stz_eq, putCells, lsaT, c1, c2]) fun H' H'' q1 q2 => ?_
    rw [i64_in (n := (i : Int) + 1) (by omega) (by omega)]
    refine ⟨xs.length - (i + 1), by omega, H'', q2, i + 1, by omega, by simp, rfl, ?_⟩
    rw [List.take_succ_eq_append_getElem hlt]
    exact q1
  · have : i = xs.length := by omega
    subst this
    rw [List.take_length] at hf
    exact Ret.of (h _ _ (hf.done rfl))
theorem C_l_toDb {b c : Bool} {xs : List TLsa} {w : V} {H : Heap} {K : V → Heap → Prop} (hv : (dbT b).rd H xs [w]) (hl : xs.length + sumF szl xs ≤ 1048576) (h : ∀ u H', Dp (dbT c) H xs [u] H' → K (.agg [u]) H') : ACalls P n_l_toDb [.agg [w]] H K := by
  have hc := rdS_cell hv
  apply W_l_toDb
  unfold F_l_toDb
  simp [hc]
  refine C_l_toLsaS (c := c) hv hl fun u H' hu => ?_
  have hc' := dpS_cell hu
  simp [stz_eq, putCells, hc']
  exact Ret.of (h _ _ hu)

theorem C_l_eqLsa {b c : Bool} {a a' : TLsa} {vs us : List V} {H : Heap} {K : V → Heap → Prop} (hv : (lsaT b).rd H a vs) (hw : (lsaT c).rd H a' us) (hl : a.links.length ≤ 2097152 ∧ a.stubs.length ≤ 2097152) (h : K (.bool (decide (a = a'))) H) : ACalls P n_l_eqLsa [.agg vs, .agg us] H K := by
  obtain ⟨l, s, rfl, h2, h3⟩ := hv
  obtain ⟨l', s', rfl, h2', h3'⟩ := hw
  have hc := lsa_cell h2 h3
  have hc' := lsa_cell h2' h3'
  apply W_l_eqLsa
  unfold F_l_eqLsa
  simp [hc, hc']
  refine ⟨fun q => Ret.no h fun e => q (by rw [e]), fun q1 => ⟨fun q => Ret.no h fun e => q (by rw [e]), fun q2 => ⟨fun q => Ret.no h fun e => q (by rw [e]), fun q3 => ?_⟩⟩⟩
  refine C_l_eqLinkS h2.1 h2'.1 hl.1 ?_
  simp
  refine ⟨fun q => Ret.no h fun e => q (by rw [e]), fun q4 => ?_⟩
  refine C_l_eqStubS h3.1 h3'.1 hl.2 ?_
  simp
  exact ⟨fun q => Ret.no h fun e => q (by rw [e]), fun q5 => Ret.yes h (TLsa.eq_iff.2 ⟨q1, q2, q3, q4, q5⟩)⟩
theorem C_l_eqLsaS {b c : Bool} {xs bs : List TLsa} {v w : V} {H : Heap} {K : V → Heap → Prop} (hv : (dbT b).rd H xs [v]) (hw : (dbT c).rd H bs [w]) (hl : xs.length + sumF szl xs ≤ 1048576) (h : K (.bool (decide (xs = bs))) H) : ACalls P n_l_eqLsaS [v, w] H K := by
  apply W_l_eqLsaS
  unfold F_l_eqLsaS
  simp [rdS_len hv, rdS_len hw]
  refine ⟨fun hne => Ret.no h fun e => hne (by rw [e]), fun heq => ?_⟩
  have heq' : xs.length = bs.length := by omega
  refine ⟨fun m zs H' => ∃ i, i ≤ xs.length ∧ zs = [.int .i64 (i : Nat)] ∧ m = xs.length - i ∧ H' = H ∧ xs.take i = bs.take i, ⟨xs.length, Shr.of ⟨0, by omega, rfl, by omega, rfl, by simp⟩⟩, ?_⟩
  rintro m zs H' ⟨i, hi, rfl, rfl, rfl, ht⟩
  simp
  refine ⟨fun hlt => ⟨_, Abs.sub_refl _, ?_⟩, fun hge => ?_⟩
  · have hlt' : i < bs.length := by omega
    refine rdS_idx hv (by omega) (by simpa using hlt) fun p row hp hr => ?_
    simp only [Int.toNat_natCast] at hr
    obtain ⟨l, s, rfl, h2, h3⟩ := hr
    rw [hp.ld]
    simp
    refine rdS_idx hw (by omega) (by simpa using hlt') fun p' row' hp' hr' => ?_
    simp only [Int.toNat_natCast] at hr'
    obtain ⟨l', s', rfl, h2', h3'⟩ := hr'
    rw [hp'.ld]
    simp
    have hz := le_sumF (f := szl) hlt
    have hz' : szl xs[i] = xs[i].links.length + xs[i].stubs.length := rfl
    refine C_l_eqLsa (b := b) (c := c) (a := xs[i]) (a' := bs[i]) ⟨l, s, rfl, h2, h3⟩ ⟨l', s', rfl, h2', h3'⟩ (by omega) ⟨Abs.sub_refl _, ?_⟩
    simp
    refine ⟨fun hne => Ret.no h fun e => hne (by subst e; rfl), fun he => ?_⟩
    rw [i64_in (by omega) (by omega)]
    refine ⟨xs.length - (i + 1), by omega, Shr.of ⟨i + 1, by omega, by simp, rfl, rfl, ?_⟩⟩
    rw [List.take_succ_eq_append_getElem hlt, List.take_succ_eq_append_getElem hlt', ht, he]
  · have : i = xs.length := by omega
    subst this
    rw [List.take_of_length_le (by omega), List.take_of_length_le (by omega)] at ht
    exact Ret.yes h ht
theorem C_l_eqDb {b c : Bool} {xs bs : List TLsa} {v w : V} {H : Heap} {K : V → Heap → Prop} (hv : (dbT b).rd H xs [v]) (hw : (dbT c).rd H bs [w]) (hl : xs.length + sumF szl xs ≤ 1048576) (h : K (.bool (decide (xs = bs))) H) : ACalls P n_l_eqDb [.agg [v], .agg [w]] H K := by
  have hc := rdS_cell hv
  have hc' := rdS_cell hw
  apply W_l_eqDb
  unfold F_l_eqDb
  simp [hc, hc']
  refine C_l_eqLsaS hv hw hl ?_
  simp
  exact ⟨fun q => Ret.no h q, fun q => Ret.yes h q⟩

end Go.Proofs.YtaippfedjjjpeaaGreat
