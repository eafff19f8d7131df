/-
Contracts: copies of advertisements and databases.
-/
import Derived.Test.YtgoljfhjhcjcpaaPref
set_option linter.all false
namespace Go.Proofs.Ytgoljfhjhcjcpaa
open Go Go.Abs Go.Proofs

def InvC1 (H : Heap) (a : TLsa) (l s : V) (m : Nat) (ys : List V) (Hc : Heap) : Prop :=
  ∃ (i : Nat) (u : V), i ≤ a.links.length ∧ ys = [.box (lsaRow a l s), .box [.int .i64 0, .int .i64 0, .int .i64 0, .nils, .nils], .box (lsaRow a u .nils), .int .i64 (i : Nat)] ∧ m = a.links.length - i ∧ Held H 2 ((a.links.take i).map enLink) u Hc
def InvC2 (H : Heap) (a : TLsa) (l s u : V) (m : Nat) (ys : List V) (Hc : Heap) : Prop :=
  ∃ (i : Nat) (t : V), i ≤ a.stubs.length ∧ ys = [.box (lsaRow a l s), .box [.int .i64 0, .int .i64 0, .int .i64 0, .nils, .nils], .box (lsaRow a u t), .int .i64 (i : Nat)] ∧ m = a.stubs.length - i ∧ Held H 3 ((a.stubs.take i).map enStub) t Hc
theorem C_s_l05Copy {b c : Bool} {a : TLsa} {vs : List V} {H : Heap} {K : V → Heap → Prop} (hv : (lsaT b).rd H a vs) (hl : a.links.length ≤ 1048576 ∧ a.stubs.length ≤ 1048576) (h : ∀ us H', Dp (lsaT c) H a us H' → K (.agg us) H') : ACalls P n_s_l05Copy [.agg vs] H K := by
  obtain ⟨l, s, rfl, h2, h3⟩ := hv
  have hc := lsa_cell h2 h3
  have h2 := h2.1
  have h3 := h3.1
  apply W_s_l05Copy
  unfold F_s_l05Copy
  simp [hc, stz_eq, putCells, fillZ]
  refine ⟨InvC1 H a l s, ⟨a.links.length, Shr.of ⟨0, .nils, by omega, rfl, by omega, by simpa using Held.nil⟩⟩, ?_⟩
  rintro m ys Hc ⟨i, u, hi, rfl, rfl, hu⟩
  have cu := hu.cell
  simp [hc, h2.len]
  refine ⟨fun hlt => ?_, fun hge => ?_⟩
  · refine (h2.mono hu.sub).idx (by omega) (by simpa using hlt) fun p hp => ?_
    rw [hp.ld]
    simp [hlt, cu, bsl_one]
    intro o ho
    refine hu.append (sub_fresh ho) (by simp) (by simp; omega) fun v' H' H'' ho' hs' => ?_
    have cv := ho'.cell
    simp [stz_eq, putCells, cv]
    rw [i64_in (by omega) (by omega)]
    refine ⟨a.links.length - (i + 1), by omega, H'', hs', i + 1, v', by omega, by simp, rfl, ?_⟩
    rw [List.take_succ_eq_append_getElem hlt, List.map_append]
    exact ho'
  · have : i = a.links.length := by omega
    subst this
    rw [List.take_length] at hu
    refine ⟨InvC2 Hc a l s u, ⟨a.stubs.length, Shr.of ⟨0, .nils, by omega, rfl, by omega, by simpa using Held.nil⟩⟩, ?_⟩
    rintro m ys Hd ⟨i, t, hi, rfl, rfl, ht⟩
    have ct := ht.cell
    simp [hc, h3.len]
    refine ⟨fun hlt => ?_, fun hge => ?_⟩
    · refine (h3.mono (sub_trans hu.sub ht.sub)).idx (by omega) (by simpa using hlt) fun p hp => ?_
      rw [hp.ld]
      simp [hlt, ct, bsl_one]
      intro o ho
      refine ht.append (sub_fresh ho) (by simp) (by simp; omega) fun v' H' H'' ho' hs' => ?_
      have cv := ho'.cell
      simp [stz_eq, putCells, cv]
      rw [i64_in (by omega) (by omega)]
      refine ⟨a.stubs.length - (i + 1), by omega, H'', hs', i + 1, v', by omega, by simp, rfl, ?_⟩
      rw [List.take_succ_eq_append_getElem hlt, List.map_append]
      exact ho'
    · have : i = a.stubs.length := by omega
      subst this
      rw [List.take_length] at ht
      simp [stz_eq, putCells, cu, ct]
      exact Ret.of (h _ _ (Dp.lsa hu ht))

theorem C_Clone_Link {rows : List (List V)} {v : V} {H : Heap} {K : V → Heap → Prop} (hv : Rb false H 2 v rows) (hl : rows.length ≤ 1048576) (h : ∀ u H', Held H 2 rows u H' → K u H') : ACalls P n_slices_Clone_i_Link_i_Link [v] H K := by
  obtain ⟨hv, hro⟩ := hv
  have hro := hro rfl
  apply W_slices_Clone_i_Link_i_Link
  unfold F_slices_Clone_i_Link_i_Link
  have hn : (v = .nils ∧ rows = []) ∨ ∃ o s n c, v = .slice o s n c := by
    rcases hv.2 with rfl | h | ⟨o, s, cap, ob, rfl, _⟩
    · exact absurd rfl (hro _)
    · exact .inl h
    · exact .inr ⟨_, _, _, _, rfl⟩
  rcases hn with ⟨rfl, rfl⟩ | ⟨o, s, n, c, rfl⟩
  · simp [aBinZ, isNil]
    exact Ret.of (h _ _ Held.nil)
  · simp [aBinZ, isNil, bsl_nil]
    intro o3 ho3
    have h0 := Held.new (sz := 2) ho3
    rw [(hv.mono h0.sub).rows hro]
    simp
    by_cases hr : rows = []
    · subst hr
      simp [appendK]
      exact Ret.of (h _ _ h0)
    · refine h0.append (Abs.sub_refl _) hr (by simp; omega) fun v' H' H'' ho' hs' => ?_
      exact Ret.shr (h v' H'' (by simpa using ho')) rfl hs'
theorem C_Clone_Stub {rows : List (List V)} {v : V} {H : Heap} {K : V → Heap → Prop} (hv : Rb false H 3 v rows) (hl : rows.length ≤ 1048576) (h : ∀ u H', Held H 3 rows u H' → K u H') : ACalls P n_slices_Clone_i_Stub_i_Stub [v] H K := by
  obtain ⟨hv, hro⟩ := hv
  have hro := hro rfl
  apply W_slices_Clone_i_Stub_i_Stub
  unfold F_slices_Clone_i_Stub_i_Stub
  have hn : (v = .nils ∧ rows = []) ∨ ∃ o s n c, v = .slice o s n c := by
    rcases hv.2 with rfl | h | ⟨o, s, cap, ob, rfl, _⟩
    · exact absurd rfl (hro _)
    · exact .inl h
    · exact .inr ⟨_, _, _, _, rfl⟩
  rcases hn with ⟨rfl, rfl⟩ | ⟨o, s, n, c, rfl⟩
  · simp [aBinZ, isNil]
    exact Ret.of (h _ _ Held.nil)
  · simp [aBinZ, isNil, bsl_nil]
    intro o3 ho3
    have h0 := Held.new (sz := 3) ho3
    rw [(hv.mono h0.sub).rows hro]
    simp
    by_cases hr : rows = []
    · subst hr
      simp [appendK]
      exact Ret.of (h _ _ h0)
    · refine h0.append (Abs.sub_refl _) hr (by simp; omega) fun v' H' H'' ho' hs' => ?_
      exact Ret.shr (h v' H'' (by simpa using ho')) rfl hs'
theorem C_i_ownLsa {c : Bool} {a : TLsa} {vs : List V} {H : Heap} {K : V → Heap → Prop} (hv : (lsaT false).rd H a vs) (hl : a.links.length ≤ 1048576 ∧ a.stubs.length ≤ 1048576) (h : ∀ us H', Dp (lsaT c) H a us H' → K (.agg us) H') : ACalls P n_i_ownLsa [.agg vs] H K := by
  obtain ⟨l, s, rfl, h2, h3⟩ := hv
  have hc := lsa_cell h2 h3
  apply W_i_ownLsa
  unfold F_i_ownLsa
  simp [hc]
  refine ⟨_, Abs.sub_refl _, ?_⟩
  refine C_Clone_Link h2 (by simp; omega) fun u H1 hu => ⟨hu.sub, ?_⟩
  refine C_Clone_Stub (h3.mono hu.sub) (by simp; omega) fun t H2 ht => ⟨sub_trans hu.sub ht.sub, ?_⟩
  have cu := hu.cell
  have ct := ht.cell
  simp [stz_eq, putCells, cu, ct]
  exact Ret.of (h _ _ (Dp.lsa hu ht))

def InvD1 (c : Bool) (H : Heap) (xs : List TLsa) (w : V) (m : Nat) (ys : List V) (Hc : Heap) : Prop :=
  ∃ (i : Nat) (u : V), i ≤ xs.length ∧ ys = [.box [w], .box [.nils], .box [u], .int .i64 (i : Nat)] ∧ m = xs.length - i ∧ Dp (dbT c) H (xs.take i) [u] Hc
theorem C_s_l06Copy {b c : Bool} {xs : List TLsa} {w : V} {H : Heap} {K : V → Heap → Prop} (hv : (dbT b).rd H xs [w]) (hl : xs.length + sumF szl xs ≤ 1048576) (h : ∀ u H', Dp (dbT c) H xs [u] H' → K (.agg [u]) H') : ACalls P n_s_l06Copy [.agg [w]] H K := by
  have hc := rdS_cell hv
  apply W_s_l06Copy
  unfold F_s_l06Copy
  simp [hc, stz_eq, putCells, fillZ]
  refine ⟨InvD1 c H xs w, ⟨xs.length, Shr.of ⟨0, .nils, by omega, rfl, by omega, by simpa using dpS_nil⟩⟩, ?_⟩
  rintro m ys Hc ⟨i, u, hi, rfl, rfl, hu⟩
  have cu := dpS_cell hu
  simp [hc, rdS_len hv]
  refine ⟨fun hlt => ?_, fun hge => ?_⟩
  · refine rdS_idx ((dbT b).mono hv hu.sub) (by omega) (by simpa using hlt) fun p row hp hr => ?_
    simp only [Int.toNat_natCast] at hr
    rw [hp.ld]
    have hn := (lsaT b).len hr
    have hz := le_sumF (f := szl) hlt
    have hz' : szl xs[i] = xs[i].links.length + xs[i].stubs.length := rfl
    obtain ⟨l, s, rfl, h2, h3⟩ := hr
    simp [cu]
    refine C_s_l05Copy (b := b) (c := c) (a := xs[i]) ⟨l, s, rfl, h2, h3⟩ (by omega) fun us H1 hus => ?_
    obtain ⟨l', s', Hm, rfl, w1, w2⟩ := lsa_dp hus
    have c1 := w1.cell
    have c2 := w2.cell
    simp [bsl_one, c1, c2]
    intro o ho
    refine dpS_app (T := lsaT c) hu hus (sub_fresh ho) (by simp; omega) fun v' H' H'' ho' hs' => ?_
    have cv := dpS_cell ho'
    simp [stz_eq, putCells, cv]
    rw [i64_in (by omega) (by omega)]
    refine ⟨xs.length - (i + 1), by omega, H'', hs', i + 1, v', by omega, by simp, rfl, ?_⟩
    rw [List.take_succ_eq_append_getElem hlt]
    exact ho'
  · have : i = xs.length := by omega
    subst this
    rw [List.take_length] at hu
    simp [stz_eq, putCells, cu]
    exact Ret.of (h _ _ hu)
def InvD2 (c : Bool) (H : Heap) (xs : List TLsa) (m : Nat) (ys : List V) (Hc : Heap) : Prop :=
  ∃ (i : Nat) (u : V), i ≤ xs.length ∧ ys = [.box [.nils], .box [u], .int .i64 (i : Nat)] ∧ m = xs.length - i ∧ Dp (dbT c) H (xs.take i) [u] Hc
theorem C_i_ownDb {c : Bool} {xs : List TLsa} {w : V} {H : Heap} {K : V → Heap → Prop} (hv : (dbT false).rd H xs [w]) (hl : xs.length + sumF szl xs ≤ 1048576) (h : ∀ u H', Dp (dbT c) H xs [u] H' → K (.agg [u]) H') : ACalls P n_i_ownDb [.agg [w]] H K := by
  have hc := rdS_cell hv
  apply W_i_ownDb
  unfold F_i_ownDb
  simp [hc, stz_eq, putCells, fillZ, rdS_len hv]
  refine ⟨InvD2 c H xs, ⟨xs.length, Shr.of ⟨0, .nils, by omega, rfl, by omega, by simpa using dpS_nil⟩⟩, ?_⟩
  rintro m ys Hc ⟨i, u, hi, rfl, rfl, hu⟩
  have cu := dpS_cell hu
  simp
  refine ⟨fun hlt => ?_, fun hge => ?_⟩
  · refine rdS_idx ((dbT false).mono hv hu.sub) (by omega) (by simpa using hlt) fun p row hp hr => ?_
    simp only [Int.toNat_natCast] at hr
    rw [hp.ld]
    have hz := le_sumF (f := szl) hlt
    have hz' : szl xs[i] = xs[i].links.length + xs[i].stubs.length := rfl
    obtain ⟨l, s, rfl, h2, h3⟩ := hr
    have hc3 := lsa_cell h2 h3
    simp [cu, stz_eq, putCells, hc3]
    refine C_i_ownLsa (c := c) (a := xs[i]) ⟨l, s, rfl, h2, h3⟩ (by omega) fun us H1 hus => ?_
    obtain ⟨l', s', Hm, rfl, w1, w2⟩ := lsa_dp hus
    have c1 := w1.cell
    have c2 := w2.cell
    simp [bsl_one, c1, c2]
    intro o ho
    refine dpS_app (T := lsaT c) hu hus (sub_fresh ho) (by simp; omega) fun v' H' H'' ho' hs' => ?_
    have cv := dpS_cell ho'
    simp [stz_eq, putCells, cv]
    rw [i64_in (by omega) (by omega)]
    refine ⟨xs.length - (i + 1), by omega, H'', hs', i + 1, v', by omega, by simp, rfl, ?_⟩
    rw [List.take_succ_eq_append_getElem hlt]
    exact ho'
  · have : i = xs.length := by omega
    subst this
    rw [List.take_length] at hu
    simp [stz_eq, putCells, cu]
    exact Ret.of (h _ _ hu)
end Go.Proofs.Ytgoljfhjhcjcpaa
