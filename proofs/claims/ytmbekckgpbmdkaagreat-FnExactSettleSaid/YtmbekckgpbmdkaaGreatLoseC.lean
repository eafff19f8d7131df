/-
Contracts: a message is lost.
-/
import Derived.Test.YtmbekckgpbmdkaaGreatDel
set_option linter.all false
namespace Go.Proofs.YtmbekckgpbmdkaaGreat
open Go Go.Abs Go.Proofs

theorem keep_succ {α : Type} {xs : List α} {i k : Nat} (hi : i < xs.length) : (xs.take (i + 1)).eraseIdx k = if i = k then (xs.take i).eraseIdx k else (xs.take i).eraseIdx k ++ [xs[i]] := by
  rw [List.take_succ_eq_append_getElem hi]
  have hl : (xs.take i).length = i := by simp; omega
  split
  · rename_i e
    subst e
    have e1 : (xs.take i).eraseIdx i = xs.take i := List.eraseIdx_of_length_le (by omega)
    rw [List.eraseIdx_append_of_length_le (by omega), hl, Nat.sub_self, e1]
    simp
  · by_cases h : k < i
    · rw [List.eraseIdx_append_of_lt_length (by omega)]
    · rw [List.eraseIdx_of_length_le (by rw [List.length_append, hl]; simp; omega), List.eraseIdx_of_length_le (by omega)]
theorem sumF_erase {α : Type} {f : α → Nat} {xs : List α} {k : Nat} : sumF f (xs.eraseIdx k) ≤ sumF f xs := by
  rw [List.eraseIdx_eq_take_drop_succ]
  have h : sumF f xs = sumF f (xs.take k) + sumF f (xs.drop k) := by
    unfold sumF
    rw [← List.sum_append, ← List.map_append, List.take_append_drop]
  have h2 : sumF f (xs.take k ++ xs.drop (k + 1)) = sumF f (xs.take k) + sumF f (xs.drop (k + 1)) := by
    unfold sumF
    rw [List.map_append, List.sum_append]
  have h3 : sumF f (xs.drop (k + 1)) ≤ sumF f (xs.drop k) := by
    by_cases hk : k < xs.length
    · rw [List.drop_eq_getElem_cons hk]
      unfold sumF
      simp only [List.map_cons, List.sum_cons]
      omega
    · rw [List.drop_eq_nil_of_le (by omega)]
      simp [sumF]
  omega
abbrev offN (a : TNet) (k : Nat) : TNet := ⟨a.up, a.dbs, a.wires.eraseIdx k, a.lost⟩
theorem offN_sz {a : TNet} {k : Nat} (h : bNet a) : bNet (offN a k) := by
  unfold bNet szn at *
  have h1 : (a.wires.eraseIdx k).length ≤ a.wires.length := List.length_eraseIdx_le ..
  have h2 : sumF szw (a.wires.eraseIdx k) ≤ sumF szw a.wires := sumF_erase
  simp only [offN]
  omega
def loseR (a : TNet) (k : Int) : TNet × Bool := if netOk a ∧ 0 ≤ k ∧ k ≤ (a.wires.length : Int) - 1 then (offN a k.toNat, true) else (a, false)
theorem loseR_sz {a : TNet} {k : Int} (h : bNet a) : bNet (loseR a k).1 := by
  unfold loseR
  split
  · exact offN_sz h
  · exact h

def InvOff (c : Bool) (H : Heap) (a : TNet) (k : Nat) (e0 d0 w0 e d : V) (r : List V) (m : Nat) (ys : List V) (Hc : Heap) : Prop :=
  ∃ (i : Nat) (u : V), i ≤ a.wires.length ∧ ys = [.box (netRow a e0 d0 w0), .box [.int .i64 0, .nils, .nils, .nils, .int .i64 0], .box [.int .i64 0, .int .i64 0, .int .i64 0, .int .i64 0, .int .i64 0, .nils, .nils], .box [.int .i64 a.up.n, e, d, u, .int .i64 a.lost], .box r, .int .i64 (i : Nat)] ∧ m = a.wires.length - i ∧ Dp (wiresT c) H ((a.wires.take i).eraseIdx k) [u] Hc
set_option maxHeartbeats 1000000 in
theorem C_s_l08Off {b c : Bool} {a : TNet} {vs : List V} {k : Nat} {H : Heap} {K : V → Heap → Prop} (hv : (netT b).rd H a vs) (hl : bNet a) (hk : k < a.wires.length)
    (h : ∀ us ms Hm H', Abs.sub H Hm → (msgT c).rd Hm a.wires[k] ms → Dp (netT c) Hm (offN a k) us H' → K (.tup [.agg us, .agg ms]) H') : ACalls P n_s_l08Off [.agg vs, .int .i64 (k : Nat)] H K := by
  have hv' := hv
  obtain ⟨e0, d0, w0, rfl, g1, g2, g3⟩ := hv
  have hc := net_cell g1 g2 g3
  have hl' := hl
  unfold bNet szn at hl
  apply W_s_l08Off
  unfold F_s_l08Off
  simp [hc]
  refine C_s_l08Copy (c := c) hv' hl' fun us H3 hus => ?_
  obtain ⟨e, d, w, H1, H2, rfl, h1, h2, h3⟩ := net_dp hus
  have hcc := And.intro h1.cell (And.intro (dpS_cell h2) (dpS_cell h3))
  obtain ⟨Ha, h3, h2⟩ := h2.swap h3
  obtain ⟨Hb, h3, h1⟩ := Dp.heldOver h1 h3
  simp [stz_eq, putCells, hcc]
  refine rdS_at h3.rd (sub_trans h1.sub h2.sub) (by omega) (by simpa using hk) fun p row hp hr => ?_
  simp only [Int.toNat_natCast] at hr
  have hr' := hr
  obtain ⟨r, rfl, hr⟩ := hr
  obtain ⟨l, s, rfl, q1, q2⟩ := hr
  have hlc := lsa_cell q1 q2
  rw [hp.ld]
  simp [stz_eq, putCells, hcc, hlc]
  refine ⟨InvOff c H3 a k e0 d0 w0 e d _, ⟨a.wires.length, Shr.of ⟨0, .nils, by omega, rfl, by omega, by simpa using dpS_nil⟩⟩, ?_⟩
  rintro m ys Hc ⟨i, u, hi, rfl, rfl, hu⟩
  have cu := dpS_cell hu
  have hsb : Abs.sub H H3 := hus.sub
  simp [hc, rdS_len g3]
  refine ⟨fun hlt => ?_, fun hge => ?_⟩
  · have hkeep := keep_succ (k := k) hlt
    rw [i64_in (n := (i : Int) + 1) (by omega) (by omega)]
    refine ⟨fun hne => ?_, fun heq => ?_⟩
    · rw [if_neg (by omega)] at hkeep
      refine ⟨H3, hu.sub, ?_⟩
      have g3' := (wiresT b).mono g3 hsb
      have hz := le_sumF (f := szw) hlt
      have hz' : szw a.wires[i] = a.wires[i].2.2.links.length + a.wires[i].2.2.stubs.length := rfl
      have hlen : ((a.wires.take i).eraseIdx k).length ≤ i := Nat.le_trans (List.length_eraseIdx_le ..) (by simp; omega)
      refine rdS_idx g3' (by omega) (by simpa using hlt) fun p row hp hr => hp.fld fun q hq => ?_
      simp only [Int.toNat_natCast] at hr
      obtain ⟨r, rfl, hr⟩ := hr
      rw [hq.ld]
      simp
      refine rdS_idx g3' (by omega) (by simpa using hlt) fun p row hp hr2 => hp.fld fun q hq => ?_
      simp only [Int.toNat_natCast] at hr2
      obtain ⟨r2, rfl, hr2⟩ := hr2
      rw [hq.ld]
      simp
      refine rdS_idx g3' (by omega) (by simpa using hlt) fun p row hp hr3 => hp.fld fun q hq => ?_
      simp only [Int.toNat_natCast] at hr3
      obtain ⟨r3, rfl, hr3⟩ := hr3
      rw [hq.ld]
      have hr3' := hr3
      obtain ⟨l, s, rfl, _, _⟩ := hr3
      simp
      refine C_s_l05Copy (b := b) (c := c) ((lsaT b).mono hr3' hu.sub) (by omega) fun us H2 hus => ⟨sub_trans hu.sub hus.sub, ?_⟩
      have hw := Dp.msg (x := a.wires[i].1) (y := a.wires[i].2.1) hus
      obtain ⟨l', s', Hm, rfl, w1, w2⟩ := lsa_dp hus
      have c1 := w1.cell
      have c2 := w2.cell
      simp [bsl_one, fill_msg, c1, c2, cu]
      intro o2 ho2
      refine ⟨sub_trans (sub_trans hu.sub hus.sub) (sub_fresh ho2), ?_⟩
      refine dpS_app (T := msgT c) hu hw (sub_fresh ho2) (by omega) fun v' H' H'' ho' hs' => ⟨sub_trans ho'.sub hs', ?_⟩
      have cv := dpS_cell ho'
      simp [stz_eq, putCells, cv]
      refine ⟨a.wires.length - (i + 1), by omega, H'', hs', i + 1, v', by omega, by simp, rfl, ?_⟩
      rw [hkeep]
      exact ho'
    · rw [if_pos (by omega)] at hkeep
      exact ⟨a.wires.length - (i + 1), by omega, Shr.of ⟨i + 1, u, by omega, by simp, rfl, by rw [hkeep]; exact hu⟩⟩
  · have : i = a.wires.length := by omega
    subst this
    rw [List.take_length] at hu
    simp [stz_eq, putCells, hcc, cu, hlc]
    exact ⟨⟨_, Abs.sub_refl _⟩, Ret.of (h _ _ Hb Hc h3.sub hr' (Dp.net (a := offN a k) h1 h2 hu))⟩
theorem C_i_isMsg {b : Bool} {a : TNet} {vs : List V} {k : Int} {H : Heap} {K : V → Heap → Prop} (hv : (netT b).rd H a vs) (hl : bNet a) (h : K (.bool (decide (netOk a ∧ 0 ≤ k ∧ k ≤ (a.wires.length : Int) - 1))) H) : ACalls P n_i_isMsg [.agg vs, .int .i64 k] H K := by
  have hv' := hv
  obtain ⟨e, d, w, rfl, g1, g2, g3⟩ := hv
  have hc := net_cell g1 g2 g3
  have hl' := hl
  unfold bNet szn at hl
  apply W_i_isMsg
  unfold F_i_isMsg
  simp [hc]
  refine C_i_NetOk hv' hl' ?_
  simp [rdS_len g3]
  refine ⟨fun q => ?_, fun q => ?_⟩
  · rw [i64_in (by omega) (by omega)]
    refine C_i_within ?_
    refine Ret.iff h ?_
    exact ⟨fun hh => ⟨q, hh⟩, fun hh => hh.2⟩
  · exact Ret.no h fun hh => q hh.1
end Go.Proofs.YtmbekckgpbmdkaaGreat
