/-
Nets: how they lie in memory; contracts of the laws' helpers over them.
-/
import Derived.Test.YtaippfedjjjpeaaGreatGraphF
import Derived.Test.YtaippfedjjjpeaaGreatKindA
import Derived.Test.YtaippfedjjjpeaaGreatMarks
set_option linter.all false
namespace Go.Proofs.YtaippfedjjjpeaaGreat
open Go Go.Abs Go.Proofs

abbrev TMsg : Type := Int × Int × TLsa
def msgT (b : Bool) : Ty TMsg where
  n := 7
  rd H m vs := ∃ r, vs = .int .i64 m.1 :: .int .i64 m.2.1 :: r ∧ (lsaT b).rd H m.2.2 r
  own m vs es := ∃ r, vs = .int .i64 m.1 :: .int .i64 m.2.1 :: r ∧ (lsaT b).own m.2.2 r es
  len := by rintro H m vs ⟨r, rfl, h⟩; have := (lsaT b).len h; simp [this, lsaT]
  mono := by rintro H H' m vs ⟨r, rfl, h⟩ hs; exact ⟨r, rfl, (lsaT b).mono h hs⟩
  ok := by rintro m vs es ⟨r, rfl, h⟩; exact (lsaT b).ok h
  ofOwn := by rintro H m vs es ⟨r, rfl, h⟩ hh; exact ⟨r, rfl, (lsaT b).ofOwn h hh⟩
theorem Dp.msg {b : Bool} {x y : Int} {a : TLsa} {r : List V} {H0 H : Heap} (h : Dp (lsaT b) H0 a r H) : Dp (msgT b) H0 (x, y, a) (.int .i64 x :: .int .i64 y :: r) H := by
  obtain ⟨es, h1, h2⟩ := h
  exact ⟨es, ⟨r, rfl, h1⟩, h2⟩
theorem msg_dp {b : Bool} {m : TMsg} {vs : List V} {H0 H : Heap} (h : Dp (msgT b) H0 m vs H) : ∃ r, vs = .int .i64 m.1 :: .int .i64 m.2.1 :: r ∧ Dp (lsaT b) H0 m.2.2 r H := by
  obtain ⟨es, ⟨r, rfl, h1⟩, h2⟩ := h
  exact ⟨r, rfl, es, h1, h2⟩
abbrev dbsT (b : Bool) : Ty (List (List TLsa)) := sliceT b (dbT b)
abbrev wiresT (b : Bool) : Ty (List TMsg) := sliceT b (msgT b)

structure TNet where
  up : TGraph
  dbs : List (List TLsa)
  wires : List TMsg
  lost : Int
theorem TNet.eq_iff {a b : TNet} : a = b ↔ a.up = b.up ∧ a.dbs = b.dbs ∧ a.wires = b.wires ∧ a.lost = b.lost := by
  constructor
  · rintro rfl; simp
  · intro h; cases a; cases b; simp_all
instance : DecidableEq TNet := fun a b => decidable_of_iff (a.up = b.up ∧ a.dbs = b.dbs ∧ a.wires = b.wires ∧ a.lost = b.lost) TNet.eq_iff.symm
abbrev netRow (a : TNet) (e d w : V) : List V := [.int .i64 a.up.n, e, d, w, .int .i64 a.lost]
def netT (b : Bool) : Ty TNet where
  n := 5
  rd H a vs := ∃ e d w, vs = netRow a e d w ∧ Rb b H 3 e (a.up.es.map enEdge) ∧ (dbsT b).rd H a.dbs [d] ∧ (wiresT b).rd H a.wires [w]
  own a vs es := ∃ e d w E2 E3, vs = netRow a e d w ∧ (dbsT b).own a.dbs [d] E2 ∧ (wiresT b).own a.wires [w] E3 ∧ es = ⟨3, a.up.es.map enEdge, e⟩ :: (E2 ++ E3)
  len := by rintro H a vs ⟨e, d, w, rfl, _⟩; rfl
  mono := by rintro H H' a vs ⟨e, d, w, rfl, h1, h2, h3⟩ hs; exact ⟨e, d, w, rfl, h1.mono hs, (dbsT b).mono h2 hs, (wiresT b).mono h3 hs⟩
  ok := by
    rintro a vs es ⟨e, d, w, E2, E3, rfl, h2, h3, rfl⟩ x hx r hr
    rcases List.mem_cons.1 hx with rfl | hx
    · exact enEdge_len r hr
    · rcases List.mem_append.1 hx with hx | hx
      · exact (dbsT b).ok h2 x hx r hr
      · exact (wiresT b).ok h3 x hx r hr
  ofOwn := by
    rintro H a vs es ⟨e, d, w, E2, E3, rfl, h2, h3, rfl⟩ h
    exact ⟨e, d, w, rfl, (h ⟨3, a.up.es.map enEdge, e⟩ (by simp)).any b, (dbsT b).ofOwn h2 fun x hx => h x (by simp [hx]), (wiresT b).ofOwn h3 fun x hx => h x (by simp [hx])⟩
theorem Dp.net {b : Bool} {a : TNet} {e d w : V} {H0 H1 H2 H3 : Heap} (h1 : Held H0 3 (a.up.es.map enEdge) e H1) (h2 : Dp (dbsT b) H1 a.dbs [d] H2) (h3 : Dp (wiresT b) H2 a.wires [w] H3) : Dp (netT b) H0 a (netRow a e d w) H3 := by
  obtain ⟨E2, g1, g2⟩ := h2
  obtain ⟨E3, g3, g4⟩ := h3
  exact ⟨_, ⟨e, d, w, E2, E3, rfl, g1, g3, rfl⟩, H1, h1, Chain.append.2 ⟨H2, g2, g4⟩⟩
theorem net_dp {b : Bool} {a : TNet} {vs : List V} {H0 H3 : Heap} (h : Dp (netT b) H0 a vs H3) : ∃ e d w H1 H2, vs = netRow a e d w ∧ Held H0 3 (a.up.es.map enEdge) e H1 ∧ Dp (dbsT b) H1 a.dbs [d] H2 ∧ Dp (wiresT b) H2 a.wires [w] H3 := by
  obtain ⟨es, ⟨e, d, w, E2, E3, rfl, h2, h3, rfl⟩, H1, g1, g2⟩ := h
  obtain ⟨H2, g3, g4⟩ := Chain.append.1 g2
  exact ⟨e, d, w, H1, H2, rfl, g1, ⟨E2, h2, g3⟩, ⟨E3, h3, g4⟩⟩
abbrev okV (v : V) : Prop := cellsOf v = [v] ∧ cellOk v = true ∧ notAny v = true
theorem net_cell {b : Bool} {H : Heap} {a : TNet} {e d w : V} (h1 : Rb b H 3 e (a.up.es.map enEdge)) (h2 : (dbsT b).rd H a.dbs [d]) (h3 : (wiresT b).rd H a.wires [w]) : okV e ∧ okV d ∧ okV w := ⟨h1.1.cell, rdS_cell h2, rdS_cell h3⟩

def szd (xs : List TLsa) : Nat := xs.length + sumF szl xs
def szw (m : TMsg) : Nat := szl m.2.2
def szn (a : TNet) : Nat := a.up.es.length + (a.dbs.length + sumF szd a.dbs) + (a.wires.length + sumF szw a.wires)
abbrev bigD (xs : List TLsa) : Prop := xs.length ≤ 9223372036854775807 ∧ ∀ a ∈ xs, a.links.length ≤ 9223372036854775807 ∧ a.stubs.length ≤ 9223372036854775807
abbrev bigM (m : TMsg) : Prop := m.2.2.links.length ≤ 9223372036854775807 ∧ m.2.2.stubs.length ≤ 9223372036854775807
theorem C_l_szDbS {b : Bool} {xs : List (List TLsa)} {w : V} {left : Int} {H : Heap} {K : V → Heap → Prop} (hv : (dbsT b).rd H xs [w]) (h0 : 0 ≤ left) (h1 : left ≤ 1048576) (hl : xs.length ≤ 9223372036854775807) (hm : ∀ a ∈ xs, bigD a)
    (h : ∀ r : Int, (0 ≤ r → r = left - xs.length - sumF szd xs) → K (.int .i64 r) H) : ACalls P n_l_szDbS [w, .int .i64 left] H K := by
  apply W_l_szDbS
  unfold F_l_szDbS
  simp [rdS_len hv]
  rw [i64_in (by omega) (by omega)]
  refine ⟨fun q => Ret.of (h _ (by omega)), fun q => ?_⟩
  refine ⟨fun m ys Hc => ∃ i, i ≤ xs.length ∧ ys = [.int .i64 (left - xs.length - sumF szd (xs.take i)), .int .i64 (i : Nat)] ∧ m = xs.length - i ∧ Hc = H ∧ 0 ≤ left - xs.length - sumF szd (xs.take i), ⟨xs.length, Shr.of ⟨0, by omega, by simp [sumF], by omega, rfl, by simp [sumF]; omega⟩⟩, ?_⟩
  rintro m ys Hc ⟨i, hi, rfl, rfl, rfl, hb⟩
  simp
  refine ⟨fun hlt => ?_, fun hge => ?_⟩
  · refine rdS_idx hv (by omega) (by simpa using hlt) fun p row hp hr => ?_
    simp only [Int.toNat_natCast] at hr
    have hr' := hr
    obtain ⟨u, rows, rfl, _, _⟩ := hr
    have hbd := hm _ (List.getElem_mem hlt)
    rw [hp.ld]
    simp
    refine C_l_szDb hr' hb (by omega) hbd.1 hbd.2 fun r hr => ?_
    simp
    have hs := sumF_succ (f := szd) hlt
    have hs' : szd xs[i] = xs[i].length + sumF szl xs[i] := rfl
    refine ⟨fun q => Ret.of (h _ (by omega)), fun q => ?_⟩
    have := hr q
    subst this
    rw [i64_in (n := (i : Int) + 1) (by omega) (by omega)]
    refine ⟨xs.length - (i + 1), by omega, Shr.of ⟨i + 1, by omega, ?_, rfl, rfl, by rw [hs]; omega⟩⟩
    rw [hs]
    simp
    omega
  · have : i = xs.length := by omega
    subst this
    rw [List.take_length] at hb ⊢
    exact Ret.of (h _ fun _ => rfl)
theorem C_l_szMsgS {b : Bool} {xs : List TMsg} {w : V} {left : Int} {H : Heap} {K : V → Heap → Prop} (hv : (wiresT b).rd H xs [w]) (h0 : 0 ≤ left) (h1 : left ≤ 1048576) (hl : xs.length ≤ 9223372036854775807) (hm : ∀ a ∈ xs, bigM a)
    (h : ∀ r : Int, (0 ≤ r → r = left - xs.length - sumF szw xs) → K (.int .i64 r) H) : ACalls P n_l_szMsgS [w, .int .i64 left] H K := by
  apply W_l_szMsgS
  unfold F_l_szMsgS
  simp [rdS_len hv]
  rw [i64_in (by omega) (by omega)]
  refine ⟨fun q => Ret.of (h _ (by omega)), fun q => ?_⟩
  refine ⟨fun m ys Hc => ∃ i, i ≤ xs.length ∧ ys = [.int .i64 (left - xs.length - sumF szw (xs.take i)), .int .i64 (i : Nat)] ∧ m = xs.length - i ∧ Hc = H ∧ 0 ≤ left - xs.length - sumF szw (xs.take i), ⟨xs.length, Shr.of ⟨0, by omega, by simp [sumF], by omega, rfl, by simp [sumF]; omega⟩⟩, ?_⟩
  rintro m ys Hc ⟨i, hi, rfl, rfl, rfl, hb⟩
  simp
  refine ⟨fun hlt => ?_, fun hge => ?_⟩
  · refine rdS_idx hv (by omega) (by simpa using hlt) fun p row hp hr => ?_
    simp only [Int.toNat_natCast] at hr
    obtain ⟨r, rfl, hr⟩ := hr
    have hr' := hr
    obtain ⟨l, s, rfl, g1, g2⟩ := hr
    have hcc := lsa_cell g1 g2
    rw [hp.ld]
    simp
    apply W_l_szMsg
    unfold F_l_szMsg
    simp [hcc]
    refine C_l_szLsa hr' hb (by omega) (hm _ (List.getElem_mem hlt)) fun r hr => ?_
    simp
    have hs := sumF_succ (f := szw) hlt
    have hs' : szw xs[i] = szl xs[i].2.2 := rfl
    refine ⟨fun q => Ret.of ?_, fun q => Ret.of ?_⟩
    · simp
      exact Ret.of (h _ (by omega))
    have := hr q
    subst this
    simp
    refine ⟨fun hh => absurd hh (by omega), fun _ => ?_⟩
    rw [i64_in (n := (i : Int) + 1) (by omega) (by omega)]
    refine ⟨xs.length - (i + 1), by omega, Shr.of ⟨i + 1, by omega, ?_, rfl, rfl, by rw [hs]; omega⟩⟩
    rw [hs]
    simp
    omega
  · have : i = xs.length := by omega
    subst this
    rw [List.take_length] at hb ⊢
    exact Ret.of (h _ fun _ => rfl)
def hugeNet (a : TNet) : Prop := a.up.es.length ≤ 9223372036854775807 ∧ (a.dbs.length ≤ 9223372036854775807 ∧ ∀ d ∈ a.dbs, bigD d) ∧ a.wires.length ≤ 9223372036854775807 ∧ ∀ m ∈ a.wires, bigM m
theorem C_l_szNet {b : Bool} {a : TNet} {vs : List V} {left : Int} {H : Heap} {K : V → Heap → Prop} (hv : (netT b).rd H a vs) (h0 : 0 ≤ left) (h1 : left ≤ 1048576) (hm : hugeNet a)
    (h : ∀ r : Int, (0 ≤ r → r = left - szn a) → K (.int .i64 r) H) : ACalls P n_l_szNet [.agg vs, .int .i64 left] H K := by
  obtain ⟨e, d, w, rfl, g1, g2, g3⟩ := hv
  have hc := net_cell g1 g2 g3
  have m1 := hm.1
  apply W_l_szNet
  unfold F_l_szNet
  simp [hc]
  refine C_l_szGraph g1.1 ?_
  rw [i64_in (by omega) (by omega)]
  split
  · simp
    exact Ret.of (h _ (by omega))
  simp
  refine ⟨fun hh => absurd hh (by omega), fun _ => ?_⟩
  refine C_l_szDbS g2 (by omega) (by omega) hm.2.1.1 hm.2.1.2 fun r hr => ?_
  simp
  refine ⟨fun q => Ret.of (h _ (by omega)), fun q => ?_⟩
  have hr := hr q
  refine C_l_szMsgS g3 (by omega) (by omega) hm.2.2.1 hm.2.2.2 fun r' hr' => ?_
  simp
  refine ⟨fun q => Ret.of (h _ (by omega)), fun q => Ret.of (h _ fun _ => ?_)⟩
  have hr' := hr' q
  unfold szn
  omega

/-! #### copies -/
theorem C_l_toDbS {b c : Bool} {xs : List (List TLsa)} {w : V} {H : Heap} {K : V → Heap → Prop} (hv : (dbsT b).rd H xs [w]) (hl : xs.length + sumF szd xs ≤ 1048576) (h : ∀ u H', Dp (dbsT c) H xs [u] H' → K u H') : ACalls P n_l_toDbS [w] H K := by
  apply W_l_toDbS
  unfold F_l_toDbS
  simp [rdS_len hv]
  refine ⟨by omega, fun o ho => ?_⟩
  refine ⟨fun m ys Hc => ∃ i, i ≤ xs.length ∧ ys = [.int .i64 (i : Nat)] ∧ m = xs.length - i ∧ Fil (dbT c) H (xs.take i) xs.length [.nils] o Hc, ⟨xs.length, Shr.of ⟨0, by omega, rfl, by omega, Fil.start (T := dbT c) ho⟩⟩, ?_⟩
  rintro m ys Hc ⟨i, hi, rfl, rfl, hf⟩
  simp
  refine ⟨fun hlt => ?_, fun hge => ?_⟩
  · refine rdS_idx ((dbsT b).mono hv hf.sub) (by omega) (by simpa using hlt) fun p row hp hr => ?_
    simp only [Int.toNat_natCast] at hr
    have hr' := hr
    obtain ⟨u, rows, rfl, _, _⟩ := hr
    rw [hp.ld]
    simp
    have hz := le_sumF (f := szd) hlt
    have hz' : szd xs[i] = xs[i].length + sumF szl xs[i] := rfl
    refine C_l_toDb (c := c) hr' (by omega) fun us H1 hu => ?_
    have hlen : (xs.take i).length = i := by simp; omega
    have cu := dpS_cell hu
    refine hf.step (T := dbT c) hu hlen (by omega) (Abs.sub_refl _) fun p hp => ?_
    refine hp _ _ (by simp [stz_eq, putCells, sliceT, cu]) fun H' H'' q1 q2 => ?_
    rw [i64_in (n := (i : Int) + 1) (by omega) (by omega)]
    refine ⟨xs.length - (i + 1), by omega, H'', q2, i + 1, by omega, by simp, rfl, ?_⟩
    rw [List.take_succ_eq_append_getElem hlt]
    exact q1
  · have : i = xs.length := by omega
    subst this
    rw [List.take_length] at hf
    exact Ret.of (h _ _ (hf.done rfl))
theorem C_l_toMsgS {b c : Bool} {xs : List TMsg} {w : V} {H : Heap} {K : V → Heap → Prop} (hv : (wiresT b).rd H xs [w]) (hl : xs.length + sumF szw xs ≤ 1048576) (h : ∀ u H', Dp (wiresT c) H xs [u] H' → K u H') : ACalls P n_l_toMsgS [w] H K := by
  apply W_l_toMsgS
  unfold F_l_toMsgS
  simp [rdS_len hv]
  refine ⟨by omega, fun o ho => ?_⟩
  refine ⟨fun m ys Hc => ∃ i, i ≤ xs.length ∧ ys = [.int .i64 (i : Nat)] ∧ m = xs.length - i ∧ Fil (msgT c) H (xs.take i) xs.length [.int .i64 0, .int .i64 0, .int .i64 0, .int .i64 0, .int .i64 0, .nils, .nils] o Hc, ⟨xs.length, Shr.of ⟨0, by omega, rfl, by omega, Fil.start (T := msgT c) ho⟩⟩, ?_⟩
  rintro m ys Hc ⟨i, hi, rfl, rfl, hf⟩
  simp
  refine ⟨fun hlt => ?_, fun hge => ?_⟩
  · refine rdS_idx ((wiresT b).mono hv hf.sub) (by omega) (by simpa using hlt) fun p row hp hr => ?_
    simp only [Int.toNat_natCast] at hr
    obtain ⟨r, rfl, hr⟩ := hr
    have hr' := hr
    obtain ⟨l, s, rfl, g1, g2⟩ := hr
    have hcc := lsa_cell g1 g2
    rw [hp.ld]
    simp
    have hz := le_sumF (f := szw) hlt
    have hz' : szw xs[i] = xs[i].2.2.links.length + xs[i].2.2.stubs.length := rfl
    apply W_l_toMsg
    unfold F_l_toMsg
    simp [hcc, stz_eq, putCells]
    refine C_l_toLsa (c := c) hr' (by omega) fun us H1 hu => ?_
    obtain ⟨l', s', Hm, rfl, w1, w2⟩ := lsa_dp hu
    have c1 := w1.cell
    have c2 := w2.cell
    simp [stz_eq, putCells, c1, c2]
    refine Ret.of ?_
    have hlen : (xs.take i).length = i := by simp; omega
    refine hf.step (T := msgT c) (Dp.msg (x := xs[i].1) (y := xs[i].2.1) hu) hlen (by omega) (Abs.sub_refl _) fun p hp => ?_
    refine hp _ _ (by simp [stz_eq, putCells, msgT, c1, c2]) fun H' H'' q1 q2 => ?_
    rw [i64_in (n := (i : Int) + 1) (by omega) (by omega)]
    refine ⟨xs.length - (i + 1), by omega, H'', q2, i + 1, by omega, by simp, rfl, ?_⟩
    rw [List.take_succ_eq_append_getElem hlt]
    exact q1
  · have : i = xs.length := by omega
    subst this
    rw [List.take_length] at hf
    exact Ret.of (h _ _ (hf.done rfl))
def bNet (a : TNet) : Prop := szn a ≤ 1048576
theorem C_to_Net {b : Bool} {a : TNet} {vs : List V} {H : Heap} {K : V → Heap → Prop} (hv : (netT b).rd H a vs) (hb : bNet a) (h : ∀ us H', Dp (netT false) H a us H' → K (.agg us) H') : ACalls P n_l_toNet [.agg vs] H K := by
  obtain ⟨e, d, w, rfl, g1, g2, g3⟩ := hv
  have hc := net_cell g1 g2 g3
  unfold bNet szn at hb
  apply W_l_toNet
  unfold F_l_toNet
  simp [hc]
  refine C_l_toGraph g1.1 (by omega) fun u H1 h1 => ?_
  have c1 := h1.cell
  simp [stz_eq, putCells, c1]
  refine C_l_toDbS (c := false) ((dbsT b).mono g2 h1.sub) (by omega) fun u2 H2 h2 => ?_
  have c2 := dpS_cell h2
  simp [stz_eq, putCells, c2]
  refine C_l_toMsgS (c := false) ((wiresT b).mono g3 (sub_trans h1.sub h2.sub)) (by omega) fun u3 H3 h3 => ?_
  have c3 := dpS_cell h3
  simp [stz_eq, putCells, c1, c2, c3]
  exact Ret.of (h _ _ (Dp.net h1 h2 h3))

/-! #### comparisons -/
theorem C_l_eqDbS {b c : Bool} {xs ys : List (List TLsa)} {v w : V} {H : Heap} {K : V → Heap → Prop} (hv : (dbsT b).rd H xs [v]) (hw : (dbsT c).rd H ys [w]) (hl : xs.length + sumF szd xs ≤ 1048576) (h : K (.bool (decide (xs = ys))) H) : ACalls P n_l_eqDbS [v, w] H K := by
  apply W_l_eqDbS
  unfold F_l_eqDbS
  simp [rdS_len hv, rdS_len hw]
  refine ⟨fun hne => Ret.no h fun e => hne (by rw [e]), fun heq => ?_⟩
  have heq' : xs.length = ys.length := by omega
  refine ⟨fun m zs H' => ∃ i, i ≤ xs.length ∧ zs = [.int .i64 (i : Nat)] ∧ m = xs.length - i ∧ H' = H ∧ xs.take i = ys.take i, ⟨xs.length, Shr.of ⟨0, by omega, rfl, by omega, rfl, by simp⟩⟩, ?_⟩
  rintro m zs H' ⟨i, hi, rfl, rfl, rfl, ht⟩
  simp
  refine ⟨fun hlt => ⟨_, Abs.sub_refl _, ?_⟩, fun hge => ?_⟩
  · have hlt' : i < ys.length := by omega
    refine rdS_idx hv (by omega) (by simpa using hlt) fun p row hp hr => ?_
    simp only [Int.toNat_natCast] at hr
    have hr1 := hr
    obtain ⟨u, rows, rfl, _, _⟩ := hr
    rw [hp.ld]
    simp
    refine rdS_idx hw (by omega) (by simpa using hlt') fun p' row' hp' hr' => ?_
    simp only [Int.toNat_natCast] at hr'
    have hr2 := hr'
    obtain ⟨u', rows', rfl, _, _⟩ := hr'
    rw [hp'.ld]
    simp
    have hz := le_sumF (f := szd) hlt
    have hz' : szd xs[i] = xs[i].length + sumF szl xs[i] := rfl
    refine C_l_eqDb hr1 hr2 (by omega) ⟨Abs.sub_refl _, ?_⟩
    simp
    refine ⟨fun hne => Ret.no h fun e => hne (by subst e; rfl), fun he => ?_⟩
    rw [i64_in (by omega) (by omega)]
    refine ⟨xs.length - (i + 1), by omega, Shr.of ⟨i + 1, by omega, by simp, rfl, rfl, ?_⟩⟩
    rw [List.take_succ_eq_append_getElem hlt, List.take_succ_eq_append_getElem hlt', ht, he]
  · have : i = xs.length := by omega
    subst this
    rw [List.take_of_length_le (by omega), List.take_of_length_le (by omega)] at ht
    exact Ret.yes h ht
theorem C_l_eqMsg {b c : Bool} {m m' : TMsg} {vs us : List V} {H : Heap} {K : V → Heap → Prop} (hv : (msgT b).rd H m vs) (hw : (msgT c).rd H m' us) (hl : m.2.2.links.length ≤ 2097152 ∧ m.2.2.stubs.length ≤ 2097152) (h : K (.bool (decide (m = m'))) H) : ACalls P n_l_eqMsg [.agg vs, .agg us] H K := by
  obtain ⟨r, rfl, h1⟩ := hv
  obtain ⟨r', rfl, h2⟩ := hw
  have h1' := h1
  have h2' := h2
  obtain ⟨l, s, rfl, g1, g2⟩ := h1
  obtain ⟨l', s', rfl, g3, g4⟩ := h2
  have hc := lsa_cell g1 g2
  have hc' := lsa_cell g3 g4
  obtain ⟨x, y, a⟩ := m
  obtain ⟨x', y', a'⟩ := m'
  apply W_l_eqMsg
  unfold F_l_eqMsg
  simp [hc, hc']
  refine ⟨fun q => Ret.no h fun e => q (by cases e; rfl), fun q1 => ⟨fun q => Ret.no h fun e => q (by cases e; rfl), fun q2 => ?_⟩⟩
  refine C_l_eqLsa h1' h2' hl ?_
  simp
  exact ⟨fun q => Ret.no h fun e => q (by cases e; rfl), fun q3 => Ret.yes h (by rw [q1, q2, q3])⟩
theorem C_l_eqMsgS {b c : Bool} {xs ys : List TMsg} {v w : V} {H : Heap} {K : V → Heap → Prop} (hv : (wiresT b).rd H xs [v]) (hw : (wiresT c).rd H ys [w]) (hl : xs.length + sumF szw xs ≤ 1048576) (h : K (.bool (decide (xs = ys))) H) : ACalls P n_l_eqMsgS [v, w] H K := by
  apply W_l_eqMsgS
  unfold F_l_eqMsgS
  simp [rdS_len hv, rdS_len hw]
  refine ⟨fun hne => Ret.no h fun e => hne (by rw [e]), fun heq => ?_⟩
  have heq' : xs.length = ys.length := by omega
  refine ⟨fun m zs H' => ∃ i, i ≤ xs.length ∧ zs = [.int .i64 (i : Nat)] ∧ m = xs.length - i ∧ H' = H ∧ xs.take i = ys.take i, ⟨xs.length, Shr.of ⟨0, by omega, rfl, by omega, rfl, by simp⟩⟩, ?_⟩
  rintro m zs H' ⟨i, hi, rfl, rfl, rfl, ht⟩
  simp
  refine ⟨fun hlt => ⟨_, Abs.sub_refl _, ?_⟩, fun hge => ?_⟩
  · have hlt' : i < ys.length := by omega
    refine rdS_idx hv (by omega) (by simpa using hlt) fun p row hp hr => ?_
    simp only [Int.toNat_natCast] at hr
    have hr1 := hr
    obtain ⟨r, rfl, l, s, rfl, _, _⟩ := hr
    rw [hp.ld]
    simp
    refine rdS_idx hw (by omega) (by simpa using hlt') fun p' row' hp' hr' => ?_
    simp only [Int.toNat_natCast] at hr'
    have hr2 := hr'
    obtain ⟨r', rfl, l', s', rfl, _, _⟩ := hr'
    rw [hp'.ld]
    simp
    have hz := le_sumF (f := szw) hlt
    have hz' : szw xs[i] = xs[i].2.2.links.length + xs[i].2.2.stubs.length := rfl
    refine C_l_eqMsg hr1 hr2 (by omega) ⟨Abs.sub_refl _, ?_⟩
    simp
    refine ⟨fun hne => Ret.no h fun e => hne (by subst e; rfl), fun he => ?_⟩
    rw [i64_in (by omega) (by omega)]
    refine ⟨xs.length - (i + 1), by omega, Shr.of ⟨i + 1, by omega, by simp, rfl, rfl, ?_⟩⟩
    rw [List.take_succ_eq_append_getElem hlt, List.take_succ_eq_append_getElem hlt', ht, he]
  · have : i = xs.length := by omega
    subst this
    rw [List.take_of_length_le (by omega), List.take_of_length_le (by omega)] at ht
    exact Ret.yes h ht
theorem C_eq_Net {b c : Bool} {a a' : TNet} {vs us : List V} {H : Heap} {K : V → Heap → Prop} (hv : (netT b).rd H a vs) (hw : (netT c).rd H a' us) (hb : bNet a) (h : K (.bool (decide (a = a'))) H) : ACalls P n_l_eqNet [.agg vs, .agg us] H K := by
  obtain ⟨e, d, w, rfl, g1, g2, g3⟩ := hv
  obtain ⟨e', d', w', rfl, k1, k2, k3⟩ := hw
  have hc := net_cell g1 g2 g3
  have hc' := net_cell k1 k2 k3
  unfold bNet szn at hb
  apply W_l_eqNet
  unfold F_l_eqNet
  simp [hc, hc']
  refine C_l_eqGraph g1.1 k1.1 (by omega) ?_
  have hde : (decide (a.up.n = a'.up.n ∧ a.up.es = a'.up.es)) = decide (a.up = a'.up) := decide_eq_decide.2 TGraph.eq_iff.symm
  rw [hde]
  simp
  refine ⟨fun q => Ret.no h fun e => q (by rw [e]), fun q1 => ?_⟩
  refine C_l_eqDbS g2 k2 (by omega) ?_
  simp
  refine ⟨fun q => Ret.no h fun e => q (by rw [e]), fun q2 => ?_⟩
  refine C_l_eqMsgS g3 k3 (by omega) ?_
  simp
  refine ⟨fun q => Ret.no h fun e => q (by rw [e]), fun q3 => ⟨fun q => Ret.no h fun e => q (by rw [e]), fun q4 => Ret.yes h (TNet.eq_iff.2 ⟨q1, q2, q3, q4⟩)⟩⟩
end Go.Proofs.YtaippfedjjjpeaaGreat
