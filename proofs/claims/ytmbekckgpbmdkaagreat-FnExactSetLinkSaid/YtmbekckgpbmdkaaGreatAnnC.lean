/-
Contracts: a node's own advertisement is made, installed and sent.
-/
import Derived.Test.YtmbekckgpbmdkaaGreatDelivD
import Derived.Test.YtmbekckgpbmdkaaGreatAnnP
set_option linter.all false
namespace Go.Proofs.YtmbekckgpbmdkaaGreat
open Go Go.Abs Go.Proofs

/-- The advertisement as it grows. -/
abbrev annRow (x s : Int) (l v : V) : List V := [.int .i64 x, .int .i64 s, .int .i64 0, l, v]
def JA1 (x s : Int) (v : V) (H : Heap) (ys : List V) (Hc : Heap) : Prop := ys = [.box (annRow x s .nils v)] ∧ Hc = H
def InvAi (x s : Int) (v : V) (es : List TEdge) (H : Heap) (m : Nat) (ys : List V) (Hc : Heap) : Prop :=
  ∃ (i : Nat) (u : V), i ≤ es.length ∧ ys = [.box (annRow x s u v), .int .i64 (i : Nat)] ∧ m = es.length - i ∧ Held H 2 ((linksOf x (es.take i)).map enLink) u Hc
theorem es_rd {c : Bool} {H0 H : Heap} {o : Nat} {a : TNet} {e d w : V} (h : NB c H0 o a e d w H) : Rd H 3 e (a.up.es.map enEdge) := h.rows.1
set_option maxHeartbeats 4000000 in
theorem C_p_i_Net_announce {a : TNet} {x : Int} {o : Nat} {e d w : V} {H0 Hn H : Heap} {K : V → Heap → Prop} (hn : NB false H0 o a e d w Hn) (hs : Abs.sub Hn H) (hok : netOk a) (hx : 0 ≤ x ∧ x < a.up.n)
    (hyes : lsaOk (ownL a x) → ∀ Y e' d' w' H' Hn', Abs.sub H0 Y → NB false Y o (announceN a x) e' d' w' Hn' → Abs.sub Hn' H' → K (.bool true) H')
    (hno : ¬ lsaOk (ownL a x) → ∀ H', Abs.sub Hn H' → K (.bool false) H') : ACalls P n_p_i_Net_announce [.ptr o 0 0, .int .i64 x] H K := by
  have hbH := hs _ _ hn.box
  have nc := hn.cell
  have hn6 := hok.2.1
  have k60 : a.up.es.length ≤ 60 := hok.1.2.1
  have hiff := ownL_ok hok hx
  obtain ⟨hr1, hdb1, hdo1⟩ := db_at hok hx
  obtain ⟨sq, hsq⟩ : ∃ sq, sq = nextSeq (a.dbs.getD x.toNat []) x := ⟨_, rfl⟩
  have hown : ownL a x = ⟨x, sq, 0, linksOf x a.up.es, [(256 * x, 8, 1)]⟩ := by rw [hsq]; rfl
  rw [← hsq] at hiff
  rw [hdb1] at hsq
  apply W_p_i_Net_announce
  unfold F_p_i_Net_announce
  simp [fillZ, bsl_one]
  rw [i64_in (n := 256 * x) (by omega) (by omega)]
  intro o5 ho5
  have hs5 : Abs.sub Hn (upd H o5 ⟨3, [[.int .i64 (256 * x), .int .i64 8, .int .i64 1]]⟩) := sub_trans hs (sub_fresh ho5)
  have hst : Held H 3 ([((256 * x, 8, 1) : TStub)].map enStub) (.slice o5 0 1 (some 1)) (upd H o5 ⟨3, [[.int .i64 (256 * x), .int .i64 8, .int .i64 1]]⟩) := Held.full ho5 rfl
  simp [stz_eq, putCells, aNil, aField_box]
  generalize upd H o5 ⟨3, [[.int .i64 (256 * x), .int .i64 8, .int .i64 1]]⟩ = H5 at *
  have hb5 := hs5 _ _ hn.box
  refine ⟨JA1 x sq (.slice o5 0 1 (some 1)) H5, ?_, ?_⟩
  · obtain ⟨od, cap, Yw, rws, rfl, hrl, hdb, hsy, hbk⟩ := hn.elem hr1
    simp [aLd_at hb5]
    rw [hdb.pt hs5 hx.1 hr1]
    obtain ⟨v1, p1, p2, p3⟩ := hdb.ld
    simp [p3 _ hs5, p2]
    refine C_i_Db_find ((dbT false).mono p1 hs5) hdo1 fun i b1 b2 b3 => ?_
    simp [aExtract]
    unfold nextSeq at hsq
    rcases find_case hdo1 b2 b3 with ⟨hi, ho', hf⟩ | ⟨hf1, hf⟩
    · rw [hf] at hsq
      refine ⟨fun f1 f2 => ?_, fun f => absurd ho' (f hi)⟩
      simp [aLd_at hb5]
      rw [hdb.pt hs5 hx.1 hr1]
      simp [aField_box, p3 _ hs5]
      refine rdS_at p1 hs5 (by omega) (by simpa using hi) fun p row hp hrow => hp.fld fun q hq => ?_
      simp only [Int.toNat_natCast] at hrow
      obtain ⟨la, sa, rfl, _, _⟩ := hrow
      have hlk := (hdo1.1 i hi).2.1
      rw [hq.ld]
      simp
      rw [i64_in (n := a.dbs[x.toNat][i].seq + 1) (by omega) (by omega)]
      exact Shr.of ⟨by rw [hsq]; rfl, rfl⟩
    · rw [hf] at hsq
      exact ⟨fun f1 f2 => absurd ⟨f1, f2⟩ hf1, fun _ => Shr.of ⟨by rw [hsq]; rfl, rfl⟩⟩
  · rintro ys Hc ⟨rfl, rfl⟩
    have hre := hn.rows.1
    simp [aLd_at hb5, nc, hre.len]
    refine ⟨InvAi x sq (.slice o5 0 1 (some 1)) a.up.es Hc, ⟨a.up.es.length, Shr.of ⟨0, .nils, by omega, rfl, by omega, by simpa [linksOf] using Held.nil⟩⟩, ?_⟩
    rintro m ys Hd ⟨i, u, hi, rfl, rfl, hu⟩
    have cu := hu.cell
    have hsd : Abs.sub Hn Hd := sub_trans hs5 hu.sub
    simp
    refine ⟨fun hlt => ?_, fun hge => ?_⟩
    · refine (hre.mono hsd).idx (by omega) (by simpa using hlt) fun p hp => ?_
      rw [hp.ld]
      simp [hlt, cu, bsl_one, stz_eq, putCells]
      rw [i64_in (n := (i : Int) + 1) (by omega) (by omega)]
      refine ⟨fun q => ?_, fun q => ?_⟩
      · intro o7 ho7
        have hll := links_le x (a.up.es.take i)
        simp at hll
        refine hu.append (sub_fresh ho7) (by simp) (by simp; omega) fun v' H' H'' ho' hs' => ?_
        have cv := ho'.cell
        simp [stz_eq, putCells, cv]
        refine ⟨a.up.es.length - (i + 1), by omega, H'', hs', i + 1, v', by omega, by simp, rfl, ?_⟩
        rw [links_yes hlt q, List.map_append]
        exact ho'
      · refine ⟨a.up.es.length - (i + 1), by omega, Shr.of ⟨i + 1, u, by omega, by simp, rfl, ?_⟩⟩
        rw [links_no hlt q]
        exact hu
    · have : i = a.up.es.length := by omega
      subst this
      rw [List.take_length] at hu
      obtain ⟨H1', r1, r2⟩ := Held.swap hst hu
      have hdp : Dp (lsaT false) H (ownL a x) (annRow x sq u (.slice o5 0 1 (some 1))) Hd := by
        have := Dp.lsa (b := false) (a := ownL a x) (l := u) (s := .slice o5 0 1 (some 1)) (by rw [hown]; exact r1) (by rw [hown]; exact r2)
        rw [hown] at this
        rw [hown]
        exact this
      refine ⟨fun q => ?_, fun q => ?_⟩
      · exact Ret.of (hno (fun hh => by have := hiff.1 hh; omega) _ hsd)
      have hlok := hiff.2 (by omega)
      have hyes := hyes hlok
      obtain ⟨Y, Hn1, d1, nb1, s1⟩ := hn.under hs hdp
      obtain ⟨od, cap, Yw, rws, rfl, hrl, hdb, hsy, hbk⟩ := nb1.elem hr1
      refine ⟨Hn1, s1, ?_⟩
      simp [aLd_at nb1.box]
      rw [hdb.pt (Abs.sub_refl _) hx.1 hr1]
      simp [cu]
      refine ⟨noHeap, none_sub _, ?_⟩
      refine C_p_i_Db_install (b' := false) hdb s1 ((lsaT false).mono d1.rd (sub_trans nb1.sub s1)) hdo1 hlok fun H3 Hn3 g1 g2 => ⟨none_sub _, ?_⟩
      have nb2 := hbk _ _ g1
      obtain ⟨Z1, Z2, e5, d5, nw5⟩ := nb2.split
      have hok2 : netOk ⟨a.up, a.dbs.set x.toNat (installR a.dbs[x.toNat] (ownL a x)).1, a.wires, a.lost⟩ := netOk_db hok (install_ok hdo1)
      have k400 := hok2.2.2.2.2.1
      have klost := hok2.2.2.2.2.2.1
      have hre2 : Rb false Z2 3 e (a.up.es.map enEdge) := (e5.rb fun r hr => by
        obtain ⟨x, _, rfl⟩ := List.mem_map.1 hr
        rfl).mono d5.sub
      have hl16 := lsa_small hlok
      have hl16' : (ownL a x).links.length + (ownL a x).stubs.length ≤ 16 := hl16
      refine C_p_i_Net_spread (l := ownL a x) nw5 g2 hre2 (by omega) k400 klost (by simp only; omega) ((lsaT false).mono d1.rd (sub_trans e5.sub d5.sub)) fun H6 Hn6 w5 w6 => ?_
      obtain ⟨w7, nb7⟩ := NB.sends spread_fits e5 d5 w5
      have hnm : announceN a x = spreadN ⟨a.up, a.dbs.set x.toNat (installR a.dbs[x.toNat] (ownL a x)).1, a.wires, a.lost⟩ x (-1) (ownL a x) := by
        unfold announceN
        rw [hdb1]
      rw [← hnm] at nb7
      exact Ret.of (hyes _ _ _ _ _ _ d1.sub nb7 w6)
end Go.Proofs.YtmbekckgpbmdkaaGreat
