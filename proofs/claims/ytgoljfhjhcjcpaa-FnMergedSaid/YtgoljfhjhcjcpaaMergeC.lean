/-
Contracts: Install and Merge, both sides.
-/
import Derived.Test.YtgoljfhjhcjcpaaInsC
import Derived.Test.YtgoljfhjhcjcpaaKindA
set_option linter.all false
namespace Go.Proofs.Ytgoljfhjhcjcpaa
open Go Go.Abs Go.Proofs

theorem held_box0 {H0 H : Heap} {sz : Nat} {rows : List (List V)} {v : V} {o : Nat} (x : Ob) (h : Held H0 sz rows v H) (ho : H o = none) : Held (upd H0 o x) sz rows v (upd H o x) := by
  rcases h with ⟨h1, h2, rfl⟩ | ⟨p, cap, h1, h2, hc, rfl⟩
  · exact .inl ⟨h1, h2, rfl⟩
  · obtain ⟨hne, _⟩ := upd_none ho
    exact .inr ⟨p, cap, by rw [upd_off (Ne.symm hne)]; exact h1, h2, hc, upd_comm _ _ (Ne.symm hne)⟩
theorem dp_box0 {α : Type} {T : Ty α} {H0 H : Heap} {a : α} {vs : List V} {o : Nat} (x : Ob) (h : Dp T H0 a vs H) (ho : H o = none) : Dp T (upd H0 o x) a vs (upd H o x) := by
  obtain ⟨es, h1, h2⟩ := h
  refine ⟨es, h1, ?_⟩
  have : ∀ {es : List Ent} {H0 H : Heap}, Chain H0 es H → H o = none → Chain (upd H0 o x) es (upd H o x) := by
    intro es
    induction es with
    | nil => intro H0 H h _; cases h; rfl
    | cons e es ih => rintro H0 H ⟨Hm, h1, h2⟩ ho; exact ⟨_, held_box0 x h1 (sub_none h2.sub ho), ih h2 ho⟩
  exact this h2 ho
theorem one_cell {b : Bool} {xs : List TLsa} {us : List V} {H0 H : Heap} (h : Dp (dbT b) H0 xs us H) : ∃ u, us = [u] := by
  obtain ⟨es, ⟨w', rows, ess, e, _⟩, _⟩ := h
  exact ⟨w', e⟩
theorem DB.of {c : Bool} {H0 H : Heap} {o : Nat} {xs : List TLsa} {u : V} (h : Dp (dbT c) H0 xs [u] H) (ho : H o = none) : DB c H0 o [[.nils]] 0 xs (upd H o ⟨1, [[u]]⟩) := ⟨u, sub_none h.sub ho, by simp, by simpa using dp_box0 ⟨1, [[u]]⟩ h ho⟩
theorem DB.open {c : Bool} {H0 H : Heap} {o : Nat} {xs : List TLsa} (h : DB c H0 o [[.nils]] 0 xs H) : ∃ v, H o = some ⟨1, [[v]]⟩ ∧ H0 o = none ∧ (cellsOf v = [v] ∧ cellOk v = true ∧ notAny v = true) ∧ ∃ H', Dp (dbT c) H0 xs [v] H' ∧ Abs.sub H' H := by
  obtain ⟨v, h1, _, h2⟩ := h
  have h3 : Dp (dbT c) (upd H0 o ⟨1, [[v]]⟩) xs [v] H := by simpa using h2
  exact ⟨v, h3.sub _ _ (upd_eq _ _ _), h1, dpS_cell h3, h3.shrink (sub_fresh h1)⟩
theorem installR_bad {xs : List TLsa} {l : TLsa} (h : ¬ (dbOk xs ∧ lsaOk l)) : installR xs l = (xs, 3) := by unfold installR; rw [if_neg h]
set_option maxHeartbeats 2000000 in
theorem C_i_Install {c : Bool} {xs : List TLsa} {w : V} {l : TLsa} {r : List V} {H : Heap} {K : V → Heap → Prop} (hv : (dbT false).rd H xs [w]) (hr : (lsaT false).rd H l r) (hb : xs.length + sumF szl xs ≤ 1048576) (hbl : l.links.length ≤ 1048576 ∧ l.stubs.length ≤ 1048576)
    (h : ∀ u H', Dp (dbT c) H (installR xs l).1 [u] H' → K (.tup [.agg [u], .int .i64 (installR xs l).2]) H') : ACalls P n_i_Install [.agg [w], .agg r] H K := by
  have cw := rdS_cell hv
  have hr' := hr
  obtain ⟨lv, sv, rfl, g1, g2⟩ := hr
  have hcc := lsa_cell g1 g2
  apply W_i_Install
  unfold F_i_Install
  simp [cw, hcc]
  refine C_i_ownDb (c := c) hv hb fun u H3 hu => ?_
  have cu := dpS_cell hu
  intro o ho
  rw [aSt_at (upd_eq H3 o _)]
  simp [stz_eq, putCells, cu]
  have hdb := DB.of hu ho
  have hbox : (upd H3 o ⟨1, [[u]]⟩) o = some ⟨1, [[u]]⟩ := upd_eq _ _ _
  have hs : Abs.sub H (upd H3 o ⟨1, [[u]]⟩) := sub_trans hu.sub (sub_fresh ho)
  have no : ¬ (dbOk xs ∧ lsaOk l) → Ret K (.tup [.agg [u], .int .i64 3]) (upd H3 o ⟨1, [[u]]⟩) := fun q => by
    rw [installR_bad q] at h
    exact Ret.shr (h _ _ hu) rfl (sub_fresh ho)
  refine C_i_DbOk ((dbT false).mono hv hs) hb ?_
  simp [aLd_at hbox, stz_eq, putCells, cu]
  refine ⟨fun q => no fun hh => q hh.1, fun hd => ?_⟩
  refine C_i_LsaOk ((lsaT false).mono hr' hs) hbl ?_
  simp [aLd_at hbox, stz_eq, putCells, cu]
  refine ⟨fun q => no fun hh => q hh.2, fun hl => ?_⟩
  refine C_p_i_Db_install (b' := false) hdb (Abs.sub_refl _) ((lsaT false).mono hr' hs) hd hl fun H' Hn' g3 g4 => ?_
  obtain ⟨v, hbox', _, cv', Hz, q1, q2⟩ := g3.open
  simp [aLd_at (g4 _ _ hbox'), stz_eq, putCells, cv']
  exact Ret.shr (h _ _ q1) rfl (sub_trans q2 g4)

def foldI (a bs : List TLsa) : List TLsa := bs.foldl (fun o l => (installR o l).1) a
def mergeR (a bs : List TLsa) : List TLsa × Bool := if dbOk a ∧ dbOk bs then (foldI a bs, true) else (a, false)
theorem foldI_succ {a bs : List TLsa} {i : Nat} (h : i < bs.length) : foldI a (bs.take (i + 1)) = (installR (foldI a (bs.take i)) bs[i]).1 := by
  unfold foldI
  rw [List.take_succ_eq_append_getElem h, List.foldl_append]
  rfl
theorem foldI_ok : ∀ {bs a : List TLsa}, dbOk a → dbOk (foldI a bs)
  | [], _, h => h
  | l :: bs, a, h => foldI_ok (bs := bs) (install_ok (l := l) h)
theorem mergeR_sz {a bs : List TLsa} (h : bDb a) : bDb (mergeR a bs).1 := by
  unfold mergeR
  split
  · rename_i hh
    have := dbOk_sz (foldI_ok (bs := bs) hh.1)
    unfold bDb
    simp only
    omega
  · exact h
theorem installR_sz {a : List TLsa} {l : TLsa} (h : bDb a) : bDb (installR a l).1 := by
  by_cases hh : dbOk a
  · have := dbOk_sz (install_ok (l := l) hh)
    unfold bDb
    omega
  · rw [installR_bad fun q => hh q.1]; exact h
def InvMe (c : Bool) (H : Heap) (a bs : List TLsa) (w : V) (m : Nat) (ys : List V) (Hc : Heap) : Prop :=
  ∃ (i : Nat) (u : V), i ≤ bs.length ∧ ys = [.box [w], .box [.nils], .box [u], .int .i64 (i : Nat)] ∧ m = bs.length - i ∧ Dp (dbT c) H (foldI a (bs.take i)) [u] Hc
set_option maxHeartbeats 2000000 in
theorem C_s_Merge {b b' c : Bool} {xs bs : List TLsa} {v w : V} {H : Heap} {K : V → Heap → Prop} (hv : (dbT b).rd H xs [v]) (hlx : xs.length + sumF szl xs ≤ 1048576) (hw : (dbT b').rd H bs [w]) (_ : bs.length + sumF szl bs ≤ 1048576)
    (h : ∀ us H', Dp (dbT c) H (mergeR xs bs).1 [us] H' → K (.tup [.agg [us], .bool (mergeR xs bs).2]) H') : ACalls P n_s_Merge [.agg [v], .agg [w]] H K := by
  have cv := rdS_cell hv
  have cw := rdS_cell hw
  apply W_s_Merge
  unfold F_s_Merge
  simp [cv, cw]
  have no : ¬ (dbOk xs ∧ dbOk bs) → ACalls P n_s_l06Copy [.agg [v]] H fun v2 H3 =>
      bnd (stz 1 [.nils] 0 v2) fun c4 => bnd (if 1 ≤ c4.length then some (V.agg (c4.take 1)) else none) fun t5 => Ret K (.tup [t5, .bool false]) H3 := fun q => by
    unfold mergeR at h
    rw [if_neg q] at h
    refine C_s_l06Copy (c := c) hv hlx fun u H1 hu => ?_
    have cu := dpS_cell hu
    simp [stz_eq, putCells, cu]
    exact Ret.of (h _ _ hu)
  refine C_s_DbOk hv ?_
  simp
  refine ⟨fun q => no fun hh => q hh.1, fun h1 => ?_⟩
  refine C_s_DbOk hw ?_
  simp
  refine ⟨fun q => no fun hh => q hh.2, fun h2 => ?_⟩
  unfold mergeR at h
  rw [if_pos ⟨h1, h2⟩] at h
  refine C_s_l06Copy (c := c) hv hlx fun u0 H1 hu0 => ?_
  have c0 := dpS_cell hu0
  simp [stz_eq, putCells, c0]
  have hbl := db_len h2
  refine ⟨InvMe c H xs bs w, ⟨bs.length, Shr.of ⟨0, u0, by omega, rfl, by omega, by simpa [foldI] using hu0⟩⟩, ?_⟩
  rintro m ys Hc ⟨i, u, hi, rfl, rfl, hu⟩
  have cu := dpS_cell hu
  simp [cw, rdS_len hw]
  refine ⟨fun hlt => ?_, fun hge => ?_⟩
  · have hsucc := foldI_succ (a := xs) hlt
    have hok := foldI_ok (bs := bs.take i) h1
    have hsz := dbOk_sz hok
    refine ⟨H, hu.sub, ?_⟩
    refine rdS_idx hw (by omega) (by simpa using hlt) fun p row hp hr => ?_
    simp only [Int.toNat_natCast] at hr
    rw [hp.ld]
    have hr' := hr
    obtain ⟨l1, s1, rfl, _, _⟩ := hr
    simp [cu]
    refine C_s_Install (c := c) hu.rd ((lsaT b').mono hr' hu.sub) (by omega) fun g H2 hg => ?_
    obtain ⟨H2', hg, hs2⟩ := hg.shrink hu.sub
    have cg := dpS_cell hg
    refine ⟨sub_trans hg.sub hs2, ?_⟩
    simp [aExtract, stz_eq, putCells, cg]
    rw [i64_in (n := (i : Int) + 1) (by omega) (by omega)]
    exact ⟨bs.length - (i + 1), by omega, H2', hs2, i + 1, g, by omega, by simp, rfl, by rw [hsucc]; exact hg⟩
  · have : i = bs.length := by omega
    subst this
    rw [List.take_length] at hu
    simp [stz_eq, putCells, cu]
    exact Ret.of (h _ _ hu)
def InvMi (c : Bool) (H : Heap) (o : Nat) (a bs : List TLsa) (m : Nat) (ys : List V) (Hc : Heap) : Prop :=
  ∃ (i : Nat) (Hn' : Heap), i ≤ bs.length ∧ ys = [.box [.nils], .int .i64 (i : Nat)] ∧ m = bs.length - i ∧ DB c H o [[.nils]] 0 (foldI a (bs.take i)) Hn' ∧ Abs.sub Hn' Hc
set_option maxHeartbeats 2000000 in
theorem C_i_Merge {c : Bool} {xs bs : List TLsa} {v w : V} {H : Heap} {K : V → Heap → Prop} (hv : (dbT false).rd H xs [v]) (hlx : xs.length + sumF szl xs ≤ 1048576) (hw : (dbT false).rd H bs [w]) (hlb : bs.length + sumF szl bs ≤ 1048576)
    (h : ∀ us H', Dp (dbT c) H (mergeR xs bs).1 [us] H' → K (.tup [.agg [us], .bool (mergeR xs bs).2]) H') : ACalls P n_i_Merge [.agg [v], .agg [w]] H K := by
  have cv := rdS_cell hv
  have cw := rdS_cell hw
  apply W_i_Merge
  unfold F_i_Merge
  simp [cv, cw]
  refine C_i_ownDb (c := c) hv hlx fun u H3 hu => ?_
  have cu := dpS_cell hu
  intro o ho
  rw [aSt_at (upd_eq H3 o _)]
  simp [stz_eq, putCells, cu]
  have hdb := DB.of hu ho
  have hbox : (upd H3 o ⟨1, [[u]]⟩) o = some ⟨1, [[u]]⟩ := upd_eq _ _ _
  have hs : Abs.sub H (upd H3 o ⟨1, [[u]]⟩) := sub_trans hu.sub (sub_fresh ho)
  have no : ¬ (dbOk xs ∧ dbOk bs) → Ret K (.tup [.agg [u], .bool false]) (upd H3 o ⟨1, [[u]]⟩) := fun q => by
    unfold mergeR at h
    rw [if_neg q] at h
    exact Ret.shr (h _ _ hu) rfl (sub_fresh ho)
  refine C_i_DbOk ((dbT false).mono hv hs) hlx ?_
  simp [aLd_at hbox, stz_eq, putCells, cu]
  refine ⟨fun q => no fun hh => q hh.1, fun h1 => ?_⟩
  refine C_i_DbOk ((dbT false).mono hw hs) hlb ?_
  simp [aLd_at hbox, stz_eq, putCells, cu, rdS_len hw]
  refine ⟨fun q => no fun hh => q hh.2, fun h2 => ?_⟩
  unfold mergeR at h
  rw [if_pos ⟨h1, h2⟩] at h
  have hbl := db_len h2
  refine ⟨InvMi c H o xs bs, ⟨bs.length, Shr.of ⟨0, _, by omega, rfl, by omega, by simpa [foldI] using hdb, Abs.sub_refl _⟩⟩, ?_⟩
  rintro m ys Hc ⟨i, Hn', hi, rfl, rfl, hn', hs'⟩
  simp
  refine ⟨fun hlt => ?_, fun hge => ?_⟩
  · have hsucc := foldI_succ (a := xs) hlt
    have hok := foldI_ok (bs := bs.take i) h1
    have hwc := (dbT false).mono hw (sub_trans hn'.sub hs')
    refine rdS_idx hwc (by omega) (by simpa using hlt) fun p row hp hr => ?_
    simp only [Int.toNat_natCast] at hr
    rw [hp.ld]
    have hr' := hr
    obtain ⟨l1, s1, rfl, g1, g2⟩ := hr
    have hcc := lsa_cell g1 g2
    simp [stz_eq, putCells, hcc]
    refine C_p_i_Db_install (b' := false) hn' hs' hr' hok (h2.1 i hlt) fun H' Hn2 g3 g4 => ?_
    rw [i64_in (n := (i : Int) + 1) (by omega) (by omega)]
    exact ⟨bs.length - (i + 1), by omega, Shr.of ⟨i + 1, Hn2, by omega, by simp, rfl, by rw [hsucc]; exact g3, g4⟩⟩
  · have : i = bs.length := by omega
    subst this
    rw [List.take_length] at hn'
    obtain ⟨v', hbox', _, cv', Hz, q1, q2⟩ := hn'.open
    simp [aLd_at (hs' _ _ hbox'), stz_eq, putCells, cv']
    exact Ret.shr (h _ _ q1) rfl (sub_trans q2 hs')

theorem C_s_InstallL {b b' c : Bool} {xs : List TLsa} {w : V} {l : TLsa} {r : List V} {H : Heap} {K : V → Heap → Prop} (hv : (dbT b).rd H xs [w]) (hb : bDb xs) (hr : (lsaT b').rd H l r) (_ : bLsa l)
    (h : ∀ u H', Dp (dbT c) H (installR xs l).1 [u] H' → K (.tup [.agg [u], .int .i64 (installR xs l).2]) H') : ACalls P n_s_Install [.agg [w], .agg r] H K := C_s_Install hv hr hb h
theorem C_i_InstallL {c : Bool} {xs : List TLsa} {w : V} {l : TLsa} {r : List V} {H : Heap} {K : V → Heap → Prop} (hv : (dbT false).rd H xs [w]) (hb : bDb xs) (hr : (lsaT false).rd H l r) (hbl : bLsa l)
    (h : ∀ u H', Dp (dbT c) H (installR xs l).1 [u] H' → K (.tup [.agg [u], .int .i64 (installR xs l).2]) H') : ACalls P n_i_Install [.agg [w], .agg r] H K := C_i_Install hv hr hb (by unfold bLsa at hbl; omega) h
end Go.Proofs.Ytgoljfhjhcjcpaa
