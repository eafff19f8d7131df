/-
Contracts: an advertisement is read from bytes, by the reference.
-/
import Derived.Test.YtcmpkkcbdmllpacByteK
set_option linter.all false
namespace Go.Proofs.Ytcmpkkcbdmllpac
open Go Go.Abs Go.Proofs

abbrev zrL : List V := [.int .i64 0, .int .i64 0, .int .i64 0, .nils, .nils]
theorem byte_at {H : Heap} {v : V} {b : List Int} {i : Int} {k : IntKind} {K : V → Prop} (hv : Rd H 1 v (b.map enB)) (h0 : 0 ≤ i) (hi : i.toNat < b.length) (h : K (.int .u8 (nth b i.toNat))) : bnd (aIndex H 1 v (.int k i)) fun t => bnd (aLd false 1 H t) K := by
  have hgd : (b.map enB).getD i.toNat [] = enB (nth b i.toNat) := by simp [hi, nth]
  refine hv.idx h0 (by simp; omega) fun p hp => ?_
  rw [hgd] at hp
  rw [hp.ld]
  exact h
theorem byte_part {H : Heap} {v : V} {b : List Int} {i j : Int} {k k' : IntKind} {K : V → Prop} (hv : Sl H 1 v (b.map enB)) (h0 : 0 ≤ i) (hij : i ≤ j) (hj : j.toNat ≤ b.length) (h : ∀ w, Rd H 1 w (((b.take j.toNat).drop i.toNat).map enB) → K w) : bnd (aSlice H 1 v (some (.int k i)) (some (.int k' j)) none) K := by
  obtain ⟨i, rfl⟩ := Int.eq_ofNat_of_zero_le h0
  obtain ⟨j, rfl⟩ := Int.eq_ofNat_of_zero_le (show 0 ≤ j by omega)
  simp only [Int.toNat_natCast] at *
  obtain ⟨w, h1, h2⟩ := Sl_part (k := k) (k' := k') hv (i := i) (j := j) (by omega) (by simpa using hj)
  rw [h1, bnd_some]
  refine h w ?_
  rw [List.map_drop, List.map_take]
  exact h2
def InvT1 (o s : Int) (b : List Int) (H : Heap) (m : Nat) (ys : List V) (Hc : Heap) : Prop :=
  ∃ (i : Nat) (u : V), i ≤ nL b ∧ 5 + 3 * i ≤ b.length ∧ ys = [.box zrL, .box zrL, .box [.int .i64 o, .int .i64 s, .int .i64 0, u, .nils], .int .i64 ((5 + 3 * i : Nat) : Int), .int .i64 (i : Nat)] ∧ m = nL b - i ∧ Held H 2 ((linksAt b i).map enLink) u Hc
def InvT2 (o s : Int) (b : List Int) (H : Heap) (m : Nat) (ys : List V) (Hc : Heap) : Prop :=
  ∃ (j : Nat) (u w : V) (H1 : Heap), j ≤ nS b ∧ pS b + 1 + 5 * j ≤ b.length ∧ ys = [.box zrL, .box zrL, .box [.int .i64 o, .int .i64 s, .int .i64 0, u, w], .int .i64 ((pS b + 1 + 5 * j : Nat) : Int), .int .i64 (j : Nat)] ∧ m = nS b - j ∧ Held H 2 ((linksAt b (nL b)).map enLink) u H1 ∧ Held H1 3 ((stubsAt b j).map enStub) w Hc
theorem cvB {b : List Int} (hin : ∀ c ∈ b, isB c) (i : Nat) : IntKind.i64.wrap (nth b i) = nth b i := u8_i64 (nth_in hin i)
set_option maxHeartbeats 4000000 in
theorem C_s_TakeLsa {c : Bool} {b : List Int} {v : V} {H : Heap} {K : V → Heap → Prop} (hv : Sl H 1 v (b.map enB)) (hb : bByteS b) (hin : ∀ c ∈ b, isB c)
    (h : ∀ us H', Dp (lsaT c) H (takeR b).1 us H' → K (.tup [.agg us, .bool (takeR b).2]) H') : ACalls P n_s_TakeLsa [v] H K := by
  unfold bByteS at hb
  have hr := hv.1
  have hlen : lenOf v = some b.length := by have := hr.len; simpa using this
  have bad : ¬ goodB b → ∀ Hx, Abs.sub H Hx → Ret K (.tup [.agg zrL, .bool false]) Hx := fun hg Hx hs => by
    have e : takeR b = (zeroL, false) := by unfold takeR; rw [if_neg hg]
    rw [e] at h
    exact Ret.shr (h _ H zero_dp) rfl hs
  apply W_s_TakeLsa
  unfold F_s_TakeLsa
  simp [fillZ, hlen]
  refine C_s_l01In ?_
  simp [stz_eq, putCells]
  refine ⟨fun q => bad (fun hg => by have := good_len hg; omega) _ (Abs.sub_refl _), fun q1 q2 => ?_⟩
  refine ⟨H, Abs.sub_refl _, ?_⟩
  refine byte_at hr (by omega) (by simp; omega) ?_
  simp [cvB hin]
  refine byte_part hv (by omega) (by omega) (by simp; omega) fun w hw => ?_
  refine C_s_l05Read hw (part_in hin _ _) (by simp; omega) ⟨Abs.sub_refl _, ?_⟩
  simp [fillZ, stz_eq, putCells]
  have e13 : readB (List.take 4 b).tail = rdB b 1 3 := by simp [rdB]
  rw [e13]
  generalize hO : nth b 0 = oo
  generalize hS : rdB b 1 3 = ss
  refine ⟨InvT1 oo ss b H, ⟨nL b, Shr.of ⟨0, .nils, by omega, by omega, rfl, by omega, by simpa [linksAt] using Held.nil⟩⟩, ?_⟩
  rintro m ys Hc ⟨i, u, hi, hfit, rfl, rfl, hu⟩
  have cu := hu.cell
  have hsc := hu.sub
  have hn4 := nth_in hin 4
  have hnL : (nL b : Int) = nth b 4 := by unfold nL; unfold isB at hn4; omega
  simp
  refine byte_at (hr.mono hsc) (by omega) (by simp; omega) ?_
  simp [cvB hin]
  refine ⟨fun hlt => ?_, fun hge => ?_⟩
  · have hlt' : i < nL b := by omega
    rw [i64_in (n := (5 : Int) + 3 * (i : Nat) + 3) (by omega) (by omega)]
    refine ⟨fun hbad => bad (fun hg => ?_) _ hsc, fun hok => ?_⟩
    · have := hg.1.2.1
      unfold pS at this
      omega
    · refine ⟨H, hsc, ?_⟩
      have et : ((5 : Int) + 3 * (i : Nat)).toNat = 5 + 3 * i := by omega
      refine byte_at hr (by omega) (by omega) ?_
      rw [et, i64_in (n := (5 : Int) + 3 * (i : Nat) + 1) (by omega) (by omega), i64_in (n := (i : Int) + 1) (by omega) (by omega)]
      simp [cvB hin]
      refine byte_part hv (by omega) (by omega) (by omega) fun w hw => ?_
      have et1 : ((5 : Int) + 3 * (i : Nat) + 1).toNat = 6 + 3 * i := by omega
      have et3 : ((5 : Int) + 3 * (i : Nat) + 3).toNat = 6 + 3 * i + 2 := by omega
      rw [et1, et3] at hw
      refine C_s_l05Read (hw.mono hsc) (part_in hin _ _) (by have := part_len b (6 + 3 * i) 2; omega) ⟨hsc, ?_⟩
      simp [bsl_one]
      intro o7 ho7
      refine ⟨sub_trans hsc (sub_fresh ho7), ?_⟩
      refine hu.append (sub_fresh ho7) (by simp) (by simp [linksAt_len]; omega) fun v' H' H'' ho' hs' => ?_
      have cv := ho'.cell
      refine ⟨sub_trans ho'.sub hs', ?_⟩
      simp [stz_eq, putCells, cv]
      refine ⟨nL b - (i + 1), by omega, H'', hs', i + 1, v', by omega, by omega, by simp; omega, rfl, ?_⟩
      rw [linksAt_succ, List.map_append]
      exact ho'
  · have hi' : i = nL b := by omega
    subst hi'
    have hps : (5 : Int) + 3 * (nL b : Nat) = (pS b : Nat) := by unfold pS; omega
    rw [hps]
    refine ⟨fun hbad => bad (fun hg => ?_) _ hsc, fun hok => ?_⟩
    · have := hg.1.2.1
      omega
    have hpl : pS b < b.length := by omega
    refine byte_at (hr.mono hsc) (by omega) (by simpa using hpl) ?_
    simp [cvB hin]
    rw [i64_in (n := (pS b : Int) + 1) (by omega) (by omega)]
    refine ⟨InvT2 oo ss b H, ⟨nS b, Shr.of ⟨0, u, .nils, Hc, by omega, by omega, by simp, by omega, hu, by simpa [stubsAt] using Held.nil⟩⟩, ?_⟩
    rintro m ys Hd ⟨j, u, w, H1, hj, hfit2, rfl, rfl, hu, hw⟩
    have cu := hu.cell
    have cw := hw.cell
    have hsd : Abs.sub H Hd := sub_trans hu.sub hw.sub
    have hnp := nth_in hin (pS b)
    have hnS : (nS b : Int) = nth b (pS b) := by unfold nS; unfold isB at hnp; omega
    simp
    have es : ((pS b : Int) + 1 + 5 * (j : Nat)) = ((pS b + 1 + 5 * j : Nat) : Int) := by omega
    rw [es]
    generalize hat : pS b + 1 + 5 * j = at_
    refine ⟨fun hlt => ?_, fun hge => ?_⟩
    · have hlt' : j < nS b := by omega
      rw [i64_in (n := (at_ : Int) + 5) (by omega) (by omega)]
      refine ⟨fun hbad => bad (fun hg => ?_) _ hsd, fun hok => ?_⟩
      · have := hg.1.2.2
        unfold pA at this
        omega
      · refine ⟨H, hsd, ?_⟩
        rw [i64_in (n := (at_ : Int) + 2) (by omega) (by omega), i64_in (n := (at_ : Int) + 3) (by omega) (by omega), i64_in (n := (j : Int) + 1) (by omega) (by omega)]
        have e0 : (at_ : Int).toNat = at_ := by omega
        have e2 : ((at_ : Int) + 2).toNat = at_ + 2 := by omega
        have e3 : ((at_ : Int) + 3).toNat = at_ + 3 := by omega
        have e5 : ((at_ : Int) + 5).toNat = at_ + 3 + 2 := by omega
        refine byte_part hv (by omega) (by omega) (by omega) fun w1 hw1 => ?_
        rw [e0, e2] at hw1
        refine byte_at hr (by omega) (by omega) ?_
        rw [e2]
        simp only [aCv_int, cvB hin, bnd_some]
        refine byte_part hv (by omega) (by omega) (by omega) fun w2 hw2 => ?_
        rw [e3, e5] at hw2
        refine C_s_l05Read (hw1.mono hsd) (part_in hin _ _) (by have := part_len b at_ 2; omega) ⟨hsd, ?_⟩
        simp
        refine C_s_l05Read (hw2.mono hsd) (part_in hin _ _) (by have := part_len b (at_ + 3) 2; omega) ⟨hsd, ?_⟩
        simp [bsl_one]
        intro o7 ho7
        refine ⟨sub_trans hsd (sub_fresh ho7), ?_⟩
        refine hw.append (sub_fresh ho7) (by simp) (by simp [stubsAt_len]; omega) fun v' H' H'' ho' hs' => ?_
        have cv := ho'.cell
        refine ⟨sub_trans hu.sub (sub_trans ho'.sub hs'), ?_⟩
        simp [stz_eq, putCells, cv]
        refine ⟨nS b - (j + 1), by omega, H'', hs', j + 1, u, v', H1, by omega, by omega, by simp; omega, rfl, hu, ?_⟩
        rw [stubsAt_succ, List.map_append]
        have : stubAt b (pS b + 1) j = (rdB b at_ 2, nth b (at_ + 2), rdB b (at_ + 3) 2) := by
          unfold stubAt
          rw [hat]
        rw [this]
        exact ho'
    · have hj' : j = nS b := by omega
      subst hj'
      have hpa : at_ = pA b := by unfold pA; omega
      have hfit3 : pA b ≤ b.length := by unfold pA; omega
      rw [hpa]
      rw [i64_in (n := (pA b : Int) + 4) (by omega) (by omega)]
      refine ⟨fun hbad => bad (fun hg => ?_) _ hsd, fun hok4 => ?_⟩
      · have := (good_len hg).2.2
        omega
      have hpl2 : pA b < b.length := by omega
      have hfits : fitsB b := ⟨by omega, hpl, hpl2⟩
      refine byte_at (hr.mono hsd) (by omega) (by simpa using hpl2) ?_
      simp [cvB hin]
      have hls : lsaAt b = ⟨oo, ss, nth b (pA b), linksAt b (nL b), stubsAt b (nS b)⟩ := by
        unfold lsaAt
        rw [hO, hS]
      have hdp : Dp (lsaT c) H (lsaAt b) [.int .i64 oo, .int .i64 ss, .int .i64 (nth b (pA b)), u, w] Hd := by
        have := Dp.lsa (b := c) (a := lsaAt b) (l := u) (s := w) (by rw [hls]; exact hu) (by rw [hls]; exact hw)
        rw [hls] at this
        rw [hls]
        exact this
      simp [stz_eq, putCells]
      refine C_s_LsaOk (b := c) hdp.rd ?_
      simp
      refine ⟨fun hno => bad (fun hg => hno hg.2.1) _ hsd, fun hyes => ?_⟩
      refine C_s_PutLsa (b := c) hdp.rd (fun _ z Hz hz => ?_) fun hno => absurd hyes hno
      try simp
      refine C_s_l01Same (hz.rb enB_len).1 (hr.mono (sub_trans hsd hz.sub)) (by rw [putB_len]; have := hyes.2.2.2.1; have := hyes.2.2.2.2.1; omega) ?_
      simp
      refine ⟨fun hno => bad (fun hg => hno hg.2.2) _ (sub_trans hsd hz.sub), fun hsame => ?_⟩
      have e : takeR b = (lsaAt b, true) := by unfold takeR; rw [if_pos ⟨hfits, hyes, hsame⟩]
      rw [e] at h
      simp [stz_eq, putCells, cu, cw]
      exact Ret.shr (h _ _ hdp) rfl hz.sub
end Go.Proofs.Ytcmpkkcbdmllpac
