/-
Contracts: an advertisement is read from bytes, by the program.
-/
import Derived.Test.YtgoljfhjhcjcpaaTakeI
set_option linter.all false
namespace Go.Proofs.Ytgoljfhjhcjcpaa
open Go Go.Abs Go.Proofs

/-- The first part that is read: links. -/
def InvU1 (o : Nat) (b : List Int) (H : Heap) (m : Nat) (ys : List V) (Hc : Heap) : Prop :=
  ∃ (i : Nat) (bad : Bool) (row : List V) (ls : List TLink) (u : V) (x s n : Int), ys = [.box zrL, .box [.int .i64 x, .int .i64 s, .int .i64 0, u, .nils], .int .i64 n] ∧ m = n.toNat ∧ (n < 256 ∧ -1 ≤ n ∧ ls.length + n.toNat < 256) ∧
    Tk H b (5 + 3 * i) bad row ∧ Held (upd H o ⟨2, [row]⟩) 2 (ls.map enLink) u Hc ∧ (bad = true → ¬ fitsB b) ∧
    (bad = false → x = nth b 0 ∧ s = rdB b 1 3 ∧ i ≤ nL b ∧ n = (nL b : Int) - i ∧ 5 + 3 * i ≤ b.length ∧ ls = linksAt b i)
/-- The second part: stubs. -/
def InvU2 (o : Nat) (b : List Int) (H : Heap) (m : Nat) (ys : List V) (Hc : Heap) : Prop :=
  ∃ (j : Nat) (bad : Bool) (row : List V) (ls : List TLink) (ss : List TStub) (u w : V) (H1 : Heap) (x s n : Int), ys = [.box zrL, .box [.int .i64 x, .int .i64 s, .int .i64 0, u, w], .int .i64 n] ∧ m = n.toNat ∧ (n < 256 ∧ -1 ≤ n ∧ ss.length + n.toNat < 256 ∧ ls.length < 256) ∧
    Tk H b (pS b + 1 + 5 * j) bad row ∧ Held (upd H o ⟨2, [row]⟩) 2 (ls.map enLink) u H1 ∧ Held H1 3 (ss.map enStub) w Hc ∧ (bad = true → ¬ fitsB b) ∧
    (bad = false → x = nth b 0 ∧ s = rdB b 1 3 ∧ j ≤ nS b ∧ n = (nS b : Int) - j ∧ pS b + 1 + 5 * j ≤ b.length ∧ pS b < b.length ∧ ls = linksAt b (nL b) ∧ ss = stubsAt b j)
def JTk (b : List Int) (H : Heap) (ys : List V) (Hc : Heap) : Prop := ys = [.bool (!decide (goodB b))] ∧ Hc = H
theorem rebox {H Hc : Heap} {o sz : Nat} {rows : List (List V)} {u : V} {r r' : List V} (h : Held (upd H o ⟨2, [r]⟩) sz rows u Hc) : Held (upd H o ⟨2, [r']⟩) sz rows u (upd Hc o ⟨2, [r']⟩) := by
  have := h.rebase (o := o) ⟨2, [r']⟩ (by rw [upd_eq]; simp)
  rw [upd_upd] at this
  exact this
theorem rebase2 {H1 Hc : Heap} {o sz : Nat} {rows : List (List V)} {u : V} {x : Ob} (h : Held H1 sz rows u Hc) (ho : H1 o ≠ none) : Held (upd H1 o x) sz rows u (upd Hc o x) := h.rebase x ho
set_option maxHeartbeats 4000000 in
theorem C_i_TakeLsa {c : Bool} {b : List Int} {v : V} {H : Heap} {K : V → Heap → Prop} (hv : Sl H 1 v (b.map enB)) (hb : bByteS b) (hin : ∀ c ∈ b, isB c)
    (h : ∀ us H', Dp (lsaT c) H (takeR b).1 us H' → K (.tup [.agg us, .bool (takeR b).2]) H') : ACalls P n_i_TakeLsa [v] H K := by
  unfold bByteS at hb
  have hr := hv.1
  have cv0 := hr.cell
  have bad0 : ¬ goodB b → ∀ Hx, Abs.sub H Hx → Ret K (.tup [.agg zrL, .bool false]) Hx := fun hg Hx hs => by
    have e : takeR b = (zeroL, false) := by unfold takeR; rw [if_neg hg]
    rw [e] at h
    exact Ret.shr (h _ H zero_dp) rfl hs
  apply W_i_TakeLsa
  unfold F_i_TakeLsa
  simp [fillZ, cv0, stz_eq, putCells]
  intro o ho
  have hs0 : Abs.sub H (upd H o ⟨2, [[v, .bool false]]⟩) := sub_fresh ho
  have hso : ∀ r : List V, Abs.sub H (upd H o ⟨2, [r]⟩) := fun r => sub_fresh ho
  have t0 : Tk H b 0 false [v, .bool false] := ⟨v, rfl, cv0, fun _ => ⟨by omega, by simpa using hv⟩⟩
  refine C_take (c := 1) (upd_eq _ _ _) hs0 t0 hin hb (by omega) fun x1 r1 bad1 t1 g1 k1 e1 => ?_
  rw [upd_upd]
  refine C_take (c := 3) (upd_eq _ _ _) (hso _) t1 hin hb (by omega) fun x2 r2 bad2 t2 g2 k2 e2 => ?_
  rw [upd_upd]
  simp [stz_eq, putCells]
  refine C_take (c := 1) (upd_eq _ _ _) (hso _) t2 hin hb (by omega) fun x3 r3 bad3 t3 g3 k3 e3 => ?_
  rw [upd_upd]
  have hn4 := nth_in hin 4
  have hnL : (nL b : Int) = nth b 4 := by unfold nL; unfold isB at hn4; omega
  have k13 : bad3 = false ↔ 5 ≤ b.length := by
    rw [k3, k2, k1]
    constructor
    · intro hh; omega
    · intro hh; simp; omega
  refine ⟨InvU1 o b H, ⟨x3.toNat, Shr.of ⟨0, bad3, r3, [], .nils, x1, x2, x3, rfl, rfl, by simp; omega, t3, Held.nil, fun hf hg => ?_, fun hf => ?_⟩⟩, ?_⟩
  · have := k13.2 hg.1
    rw [this] at hf
    cases hf
  · have h5 := k13.1 hf
    have hb2 := (k3.1 hf).1
    have hb1 := (k2.1 hb2).1
    refine ⟨?_, ?_, by omega, ?_, by omega, rfl⟩
    · rw [e1 hb1, rdB_one (by omega)]
    · rw [e2 hb2]
    · rw [e3 hf, show 0 + 1 + 3 = 4 from rfl, rdB_one (by omega)]
      omega
  rintro m ys Hc ⟨i, bad, row, ls, u, x, s, n, rfl, rfl, hn, ht, hu, hbt, hbf⟩
  have cu := hu.cell
  have hsc : Abs.sub H Hc := sub_trans (hso row) hu.sub
  have hoc : Hc o = some ⟨2, [row]⟩ := hu.sub _ _ (upd_eq _ _ _)
  have hrow : ∃ sl, row = [sl, .bool bad] := by
    obtain ⟨sl, e, _⟩ := ht
    exact ⟨sl, e⟩
  obtain ⟨sl, hrw⟩ := hrow
  simp [show ∀ off, aField off (.ptr o 0 0) = some (.ptr o 0 (0 + off)) from fun _ => rfl, aNil, aLd_at hoc, hrw]
  have hsx : ∀ r' : List V, Abs.sub H (upd Hc o ⟨2, [r']⟩) := fun r' => sub_trans (hso r') (rebox (r' := r') hu).sub
  refine ⟨fun hn0 => ⟨fun hf => ?_, fun hf => ?_⟩, fun hn0 => ?_⟩
  · obtain ⟨rfl, rfl, hi, hni, hfit, rfl⟩ := hbf hf
    refine C_take (c := 1) hoc hsc ht hin hb (by omega) fun y1 r4 bad4 t4 g4 k4 e4 => ?_
    refine C_take (c := 2) (upd_eq _ _ _) (hsx _) t4 hin hb (by omega) fun y2 r5 bad5 t5 g5 k5 e5 => ?_
    rw [upd_upd]
    simp [bsl_one]
    intro o7 ho7
    refine (rebox (r' := r5) hu).append (sub_fresh ho7) (by simp) (by simp [linksAt_len] at hn ⊢; omega) fun v' H' H'' ho' hs' => ?_
    have cv := ho'.cell
    simp [stz_eq, putCells, cv]
    rw [i64_in (n := n - 1) (by omega) (by omega)]
    have k45 : bad5 = false ↔ 5 + 3 * (i + 1) ≤ b.length := by
      rw [k5, k4]
      constructor
      · intro hh; omega
      · intro hh; exact ⟨⟨hf, by omega⟩, by omega⟩
    have et : 5 + 3 * i + 1 + 2 = 5 + 3 * (i + 1) := by omega
    rw [et] at t5
    refine ⟨(n - 1).toNat, by omega, H'', hs', i + 1, bad5, r5, linksAt b i ++ [(y1, y2)], v', nth b 0, rdB b 1 3, n - 1, rfl, rfl, ?_, t5, by rw [List.map_append]; exact ho', fun hb5 hg => ?_, fun hb5 => ?_⟩
    · simp [linksAt_len] at hn ⊢
      omega
    · have : bad5 = false := by
        rw [k45]
        have := hg.2.1
        unfold pS at this
        omega
      rw [this] at hb5
      cases hb5
    · have h5 := k45.1 hb5
      have hb4 := (k5.1 hb5).1
      refine ⟨rfl, rfl, by omega, by omega, h5, ?_⟩
      rw [linksAt_succ]
      have e : linkAt b i = (y1, y2) := by
        unfold linkAt
        rw [e4 hb4, e5 hb5, rdB_one (by omega), show 5 + 3 * i + 1 = 6 + 3 * i by omega]
      rw [e]
  · have hexit : bad = false → i = nL b := fun hh => by rw [hf] at hh; cases hh
    clear hn0
    have tany : ∀ {p q : Nat} {r : List V}, Tk H b p true r → Tk H b q true r := fun hh => by
      obtain ⟨sl, e, cs, _⟩ := hh
      exact ⟨sl, e, cs, fun hf => by cases hf⟩
    refine C_take (c := 1) hoc hsc ht hin hb (by omega) fun y r6 bad6 t6 g6 k6 e6 => ?_
    have hnp := nth_in hin (pS b)
    have hnS : (nS b : Int) = nth b (pS b) := by unfold nS; unfold isB at hnp; omega
    have good6 : bad6 = false → bad = false ∧ 5 + 3 * i = pS b ∧ pS b < b.length := fun hh => by
      have h1 := k6.1 hh
      have h2 := hexit h1.1
      refine ⟨h1.1, ?_, ?_⟩ <;> unfold pS <;> omega
    have t6' : Tk H b (pS b + 1 + 5 * 0) bad6 r6 := by
      cases hb6 : bad6
      · have := (good6 hb6).2.1
        rw [hb6, this] at t6
        exact t6
      · rw [hb6] at t6
        exact tany t6
    refine ⟨InvU2 o b H, ⟨y.toNat, Shr.of ⟨0, bad6, r6, ls, [], u, .nils, _, x, s, y, rfl, rfl, by simp; omega, t6', rebox hu, Held.nil, fun hb6 hg => ?_, fun hb6 => ?_⟩⟩, ?_⟩
    · have h7 : bad6 = false := by
        rw [k6]
        have hbb : bad = false := by
          cases hq : bad
          · rfl
          · exact absurd hg (hbt hq)
        refine ⟨hbb, ?_⟩
        have := hexit hbb
        have h8 := hg.2.1
        unfold pS at h8
        omega
      rw [h7] at hb6
      cases hb6
    · obtain ⟨g1', g2', g3'⟩ := good6 hb6
      obtain ⟨q1, q2, q3, q4, q5, q6⟩ := hbf g1'
      refine ⟨q1, q2, by omega, ?_, by omega, g3', ?_, rfl⟩
      · rw [e6 hb6, g2', rdB_one g3']
        omega
      · rw [q6, hexit g1']
    clear t6 t6' g6 k6 e6 good6 hsc hoc hrw hsx ht hu hbt hbf hexit hn
    rintro m ys Hd ⟨j, bad, row, ls, ss, u, w, H1, x, s, n, rfl, rfl, hn, ht, hu, hw, hbt, hbf⟩
    have cu := hu.cell
    have cw := hw.cell
    have ho1 := hu.sub _ _ (upd_eq _ _ _)
    have hod : Hd o = some ⟨2, [row]⟩ := hw.sub _ _ ho1
    have hsd : Abs.sub H Hd := sub_trans (hso row) (sub_trans hu.sub hw.sub)
    have hsx : ∀ r' : List V, Abs.sub H (upd Hd o ⟨2, [r']⟩) := fun r' => sub_trans (hso r') (sub_trans (rebox (r' := r') hu).sub (rebase2 hw (by rw [ho1]; simp)).sub)
    obtain ⟨sl, hrw, _⟩ := id ht
    simp [show ∀ off, aField off (.ptr o 0 0) = some (.ptr o 0 (0 + off)) from fun _ => rfl, aNil, aLd_at hod, hrw]
    refine ⟨fun hn0 => ⟨fun hf => ?_, fun hf => ?_⟩, fun hn0 => ?_⟩
    · obtain ⟨rfl, rfl, hj, hnj, hfit, hps, rfl, rfl⟩ := hbf hf
      refine C_take (c := 2) hod hsd ht hin hb (by omega) fun y1 r4 bad4 t4 g4 k4 e4 => ?_
      refine C_take (c := 1) (upd_eq _ _ _) (hsx _) t4 hin hb (by omega) fun y2 r5 bad5 t5 g5 k5 e5 => ?_
      rw [upd_upd]
      simp
      refine C_take (c := 2) (upd_eq _ _ _) (hsx _) t5 hin hb (by omega) fun y3 r6 bad6 t6 g6 k6 e6 => ?_
      rw [upd_upd]
      simp [bsl_one]
      intro o7 ho7
      have hu6 := rebox (r' := r6) hu
      have hw6 := rebase2 (x := ⟨2, [r6]⟩) hw (by rw [ho1]; simp)
      refine hw6.append (sub_fresh ho7) (by simp) (by simp [stubsAt_len] at hn ⊢; omega) fun v' H' H'' ho' hs' => ?_
      have cv := ho'.cell
      simp [stz_eq, putCells, cv]
      rw [i64_in (n := n - 1) (by omega) (by omega)]
      have k456 : bad6 = false ↔ pS b + 1 + 5 * (j + 1) ≤ b.length := by
        rw [k6, k5, k4]
        constructor
        · intro hh; omega
        · intro hh; exact ⟨⟨⟨hf, by omega⟩, by omega⟩, by omega⟩
      have et : pS b + 1 + 5 * j + 2 + 1 + 2 = pS b + 1 + 5 * (j + 1) := by omega
      rw [et] at t6
      refine ⟨(n - 1).toNat, by omega, H'', hs', j + 1, bad6, r6, linksAt b (nL b), stubsAt b j ++ [(y1, y2, y3)], u, v', _, nth b 0, rdB b 1 3, n - 1, rfl, rfl, ?_, t6, hu6, by rw [List.map_append]; exact ho', fun hb5 hg => ?_, fun hb5 => ?_⟩
      · simp [stubsAt_len] at hn ⊢
        omega
      · have : bad6 = false := by
          rw [k456]
          have := hg.2.2
          unfold pA at this
          omega
        rw [this] at hb5
        cases hb5
      · have h5 := k456.1 hb5
        have hb5' := (k6.1 hb5).1
        have hb4 := (k5.1 hb5').1
        refine ⟨rfl, rfl, by omega, by omega, h5, hps, rfl, ?_⟩
        rw [stubsAt_succ]
        have e : stubAt b (pS b + 1) j = (y1, y2, y3) := by
          unfold stubAt
          rw [e4 hb4, e5 hb5', e6 hb5, rdB_one (by omega)]
        rw [e]
    · have hexit : bad = false → j = nS b := fun hh => by rw [hf] at hh; cases hh
      clear hn0
      refine C_take (c := 1) hod hsd ht hin hb (by omega) fun y r6 bad6 t6 g6 k6 e6 => ?_
      simp [stz_eq, putCells]
      obtain ⟨sl6, hrw6, _⟩ := id t6
      have good6 : bad6 = false ↔ fitsB b := by
        rw [k6]
        constructor
        · rintro ⟨hh, hh2⟩
          have h1 := hbf hh
          have h2 := hexit hh
          refine ⟨?_, h1.2.2.2.2.2.1, ?_⟩
          · have := h1.2.2.2.2.2.1
            unfold pS at this
            omega
          · unfold pA
            omega
        · intro hg
          have hbb : bad = false := by
            cases hq : bad
            · rfl
            · exact absurd hg (hbt hq)
          refine ⟨hbb, ?_⟩
          have h2 := hexit hbb
          have h3 := hg.2.2
          unfold pA at h3
          omega
      have hu6 := rebox (r' := r6) hu
      have hw6 := rebase2 (x := ⟨2, [r6]⟩) hw (by rw [ho1]; simp)
      have hsx6 := hsx r6
      have hod6 : (upd Hd o ⟨2, [r6]⟩) o = some ⟨2, [[sl6, .bool bad6]]⟩ := by rw [upd_eq, hrw6]
      generalize upd Hd o (⟨2, [r6]⟩ : Ob) = He at *
      generalize upd H1 o (⟨2, [r6]⟩ : Ob) = H1' at *
      have row_ok : bad6 = false → ∃ q : (lsaAt b).origin = x ∧ (lsaAt b).seq = s ∧ (lsaAt b).age = y, Dp (lsaT c) H (lsaAt b) [.int .i64 x, .int .i64 s, .int .i64 y, u, w] He ∨ True := fun hh => by
        obtain ⟨hh1, hh2⟩ := k6.1 hh
        obtain ⟨q1, q2, q3, q4, q5, q6, q7, q8⟩ := hbf hh1
        have hjj := hexit hh1
        refine ⟨⟨q1.symm, q2.symm, ?_⟩, .inr trivial⟩
        rw [e6 hh, hjj]
        have : pS b + 1 + 5 * nS b = pA b := rfl
        rw [this, rdB_one (by unfold pA; omega)]
        rfl
      have hdp6 : bad6 = false → ∃ Hx, Abs.sub Hx He ∧ Dp (lsaT c) H (lsaAt b) [.int .i64 x, .int .i64 s, .int .i64 y, u, w] Hx ∧ (lsaT false).rd He (lsaAt b) [.int .i64 x, .int .i64 s, .int .i64 y, u, w] := fun hh => by
        obtain ⟨⟨p1, p2, p3⟩, _⟩ := row_ok hh
        obtain ⟨hh1, hh2⟩ := k6.1 hh
        obtain ⟨q1, q2, q3, q4, q5, q6, q7, q8⟩ := hbf hh1
        have hjj := hexit hh1
        have l1 : (lsaAt b).links = ls := q7.symm
        have l2 : (lsaAt b).stubs = ss := by rw [q8, hjj]; rfl
        have d1 := Dp.lsa (b := c) (a := lsaAt b) (l := u) (s := w) (by rw [l1]; exact hu6) (by rw [l2]; exact hw6)
        have d2 := Dp.lsa (b := false) (a := lsaAt b) (l := u) (s := w) (by rw [l1]; exact hu6) (by rw [l2]; exact hw6)
        unfold lsaRow at d1 d2
        rw [p1, p2, p3] at d1 d2
        obtain ⟨Hx, d3, d4⟩ := d1.shrink (hso r6)
        exact ⟨Hx, d4, d3, d2.rd⟩
      refine ⟨JTk b He, ?_, ?_⟩
      · simp [aLd_at hod6]
        refine ⟨fun hb6 => Shr.of ⟨?_, rfl⟩, fun hb6 => ?_⟩
        · have : ¬ goodB b := fun hg => by
            have := good6.2 hg.1
            rw [hb6] at this
            cases this
          simp [this]
        · obtain ⟨Hx, _, _, hrd⟩ := hdp6 hb6
          have hfit := good6.1 hb6
          have hl1 : (lsaAt b).links.length ≤ 1048576 ∧ (lsaAt b).stubs.length ≤ 1048576 := by
            have a1 := nth_in hin 4
            have a2 := nth_in hin (pS b)
            have b1 : (lsaAt b).links.length = nL b := linksAt_len ..
            have b2 : (lsaAt b).stubs.length = nS b := stubsAt_len ..
            rw [b1, b2]
            unfold nL nS
            unfold isB at a1 a2
            omega
          have jfin : ∀ (t : Bool) (Hy : Heap), Abs.sub He Hy → (t = true ↔ ¬ goodB b) → Shr (JTk b He [.bool t]) Hy := fun t Hy hs hg => by
            refine ⟨He, hs, ?_, rfl⟩
            congr 2
            cases t
            · have : goodB b := Classical.byContradiction fun hh => by have := hg.2 hh; cases this
              simp [this]
            · have := hg.1 rfl
              simp [this]
          refine C_i_PutLsa (b := false) hrd hl1 (fun hok z Hz hz => ?_) fun hno => ?_
          · refine C_slices_Equal_byte (hz.rb enB_len).1 (hr.mono (sub_trans hsx6 hz.sub)) (by rw [putB_len]; have := hok.2.2.2.1; have := hok.2.2.2.2.1; omega) ?_
            simp
            refine ⟨fun hne => jfin _ _ hz.sub ⟨fun _ hg => hne hg.2.2, fun _ => rfl⟩, fun heq => ?_⟩
            refine C_i_LsaOk ((lsaT false).mono hrd hz.sub) hl1 ?_
            simp
            exact jfin _ _ hz.sub ⟨fun hh => by simp [hok] at hh, fun hh => absurd ⟨hfit, hok, heq⟩ hh⟩
          · refine C_slices_Equal_byte (xs := []) Rd.nils (hr.mono hsx6) (by simp) ?_
            have hne : ¬ [] = b := fun hh => by have := hfit.1; rw [← hh] at this; simp at this
            simp [hne]
            exact jfin _ _ (Abs.sub_refl _) ⟨fun _ hg => hno hg.2.1, fun _ => rfl⟩
      · rintro ys Hf ⟨rfl, rfl⟩
        simp [stz_eq, putCells, cu, cw]
        refine ⟨fun hg => bad0 hg _ hsx6, fun hg => ?_⟩
        obtain ⟨Hx, d1, d2, _⟩ := hdp6 (good6.2 hg.1)
        have e : takeR b = (lsaAt b, true) := by unfold takeR; rw [if_pos hg]
        rw [e] at h
        exact Ret.shr (h _ _ d2) rfl d1
    · have hexit : bad = false → j = nS b := fun hh => by have := hbf hh; omega
      clear hn0
      refine C_take (c := 1) hod hsd ht hin hb (by omega) fun y r6 bad6 t6 g6 k6 e6 => ?_
      simp [stz_eq, putCells]
      obtain ⟨sl6, hrw6, _⟩ := id t6
      have good6 : bad6 = false ↔ fitsB b := by
        rw [k6]
        constructor
        · rintro ⟨hh, hh2⟩
          have h1 := hbf hh
          have h2 := hexit hh
          refine ⟨?_, h1.2.2.2.2.2.1, ?_⟩
          · have := h1.2.2.2.2.2.1
            unfold pS at this
            omega
          · unfold pA
            omega
        · intro hg
          have hbb : bad = false := by
            cases hq : bad
            · rfl
            · exact absurd hg (hbt hq)
          refine ⟨hbb, ?_⟩
          have h2 := hexit hbb
          have h3 := hg.2.2
          unfold pA at h3
          omega
      have hu6 := rebox (r' := r6) hu
      have hw6 := rebase2 (x := ⟨2, [r6]⟩) hw (by rw [ho1]; simp)
      have hsx6 := hsx r6
      have hod6 : (upd Hd o ⟨2, [r6]⟩) o = some ⟨2, [[sl6, .bool bad6]]⟩ := by rw [upd_eq, hrw6]
      generalize upd Hd o (⟨2, [r6]⟩ : Ob) = He at *
      generalize upd H1 o (⟨2, [r6]⟩ : Ob) = H1' at *
      have row_ok : bad6 = false → ∃ q : (lsaAt b).origin = x ∧ (lsaAt b).seq = s ∧ (lsaAt b).age = y, Dp (lsaT c) H (lsaAt b) [.int .i64 x, .int .i64 s, .int .i64 y, u, w] He ∨ True := fun hh => by
        obtain ⟨hh1, hh2⟩ := k6.1 hh
        obtain ⟨q1, q2, q3, q4, q5, q6, q7, q8⟩ := hbf hh1
        have hjj := hexit hh1
        refine ⟨⟨q1.symm, q2.symm, ?_⟩, .inr trivial⟩
        rw [e6 hh, hjj]
        have : pS b + 1 + 5 * nS b = pA b := rfl
        rw [this, rdB_one (by unfold pA; omega)]
        rfl
      have hdp6 : bad6 = false → ∃ Hx, Abs.sub Hx He ∧ Dp (lsaT c) H (lsaAt b) [.int .i64 x, .int .i64 s, .int .i64 y, u, w] Hx ∧ (lsaT false).rd He (lsaAt b) [.int .i64 x, .int .i64 s, .int .i64 y, u, w] := fun hh => by
        obtain ⟨⟨p1, p2, p3⟩, _⟩ := row_ok hh
        obtain ⟨hh1, hh2⟩ := k6.1 hh
        obtain ⟨q1, q2, q3, q4, q5, q6, q7, q8⟩ := hbf hh1
        have hjj := hexit hh1
        have l1 : (lsaAt b).links = ls := q7.symm
        have l2 : (lsaAt b).stubs = ss := by rw [q8, hjj]; rfl
        have d1 := Dp.lsa (b := c) (a := lsaAt b) (l := u) (s := w) (by rw [l1]; exact hu6) (by rw [l2]; exact hw6)
        have d2 := Dp.lsa (b := false) (a := lsaAt b) (l := u) (s := w) (by rw [l1]; exact hu6) (by rw [l2]; exact hw6)
        unfold lsaRow at d1 d2
        rw [p1, p2, p3] at d1 d2
        obtain ⟨Hx, d3, d4⟩ := d1.shrink (hso r6)
        exact ⟨Hx, d4, d3, d2.rd⟩
      refine ⟨JTk b He, ?_, ?_⟩
      · simp [aLd_at hod6]
        refine ⟨fun hb6 => Shr.of ⟨?_, rfl⟩, fun hb6 => ?_⟩
        · have : ¬ goodB b := fun hg => by
            have := good6.2 hg.1
            rw [hb6] at this
            cases this
          simp [this]
        · obtain ⟨Hx, _, _, hrd⟩ := hdp6 hb6
          have hfit := good6.1 hb6
          have hl1 : (lsaAt b).links.length ≤ 1048576 ∧ (lsaAt b).stubs.length ≤ 1048576 := by
            have a1 := nth_in hin 4
            have a2 := nth_in hin (pS b)
            have b1 : (lsaAt b).links.length = nL b := linksAt_len ..
            have b2 : (lsaAt b).stubs.length = nS b := stubsAt_len ..
            rw [b1, b2]
            unfold nL nS
            unfold isB at a1 a2
            omega
          have jfin : ∀ (t : Bool) (Hy : Heap), Abs.sub He Hy → (t = true ↔ ¬ goodB b) → Shr (JTk b He [.bool t]) Hy := fun t Hy hs hg => by
            refine ⟨He, hs, ?_, rfl⟩
            congr 2
            cases t
            · have : goodB b := Classical.byContradiction fun hh => by have := hg.2 hh; cases this
              simp [this]
            · have := hg.1 rfl
              simp [this]
          refine C_i_PutLsa (b := false) hrd hl1 (fun hok z Hz hz => ?_) fun hno => ?_
          · refine C_slices_Equal_byte (hz.rb enB_len).1 (hr.mono (sub_trans hsx6 hz.sub)) (by rw [putB_len]; have := hok.2.2.2.1; have := hok.2.2.2.2.1; omega) ?_
            simp
            refine ⟨fun hne => jfin _ _ hz.sub ⟨fun _ hg => hne hg.2.2, fun _ => rfl⟩, fun heq => ?_⟩
            refine C_i_LsaOk ((lsaT false).mono hrd hz.sub) hl1 ?_
            simp
            exact jfin _ _ hz.sub ⟨fun hh => by simp [hok] at hh, fun hh => absurd ⟨hfit, hok, heq⟩ hh⟩
          · refine C_slices_Equal_byte (xs := []) Rd.nils (hr.mono hsx6) (by simp) ?_
            have hne : ¬ [] = b := fun hh => by have := hfit.1; rw [← hh] at this; simp at this
            simp [hne]
            exact jfin _ _ (Abs.sub_refl _) ⟨fun _ hg => hno hg.2.1, fun _ => rfl⟩
      · rintro ys Hf ⟨rfl, rfl⟩
        simp [stz_eq, putCells, cu, cw]
        refine ⟨fun hg => bad0 hg _ hsx6, fun hg => ?_⟩
        obtain ⟨Hx, d1, d2, _⟩ := hdp6 (good6.2 hg.1)
        have e : takeR b = (lsaAt b, true) := by unfold takeR; rw [if_pos hg]
        rw [e] at h
        exact Ret.shr (h _ _ d2) rfl d1
  · have hexit : bad = false → i = nL b := fun hh => by have := hbf hh; omega
    clear hn0
    have tany : ∀ {p q : Nat} {r : List V}, Tk H b p true r → Tk H b q true r := fun hh => by
      obtain ⟨sl, e, cs, _⟩ := hh
      exact ⟨sl, e, cs, fun hf => by cases hf⟩
    refine C_take (c := 1) hoc hsc ht hin hb (by omega) fun y r6 bad6 t6 g6 k6 e6 => ?_
    have hnp := nth_in hin (pS b)
    have hnS : (nS b : Int) = nth b (pS b) := by unfold nS; unfold isB at hnp; omega
    have good6 : bad6 = false → bad = false ∧ 5 + 3 * i = pS b ∧ pS b < b.length := fun hh => by
      have h1 := k6.1 hh
      have h2 := hexit h1.1
      refine ⟨h1.1, ?_, ?_⟩ <;> unfold pS <;> omega
    have t6' : Tk H b (pS b + 1 + 5 * 0) bad6 r6 := by
      cases hb6 : bad6
      · have := (good6 hb6).2.1
        rw [hb6, this] at t6
        exact t6
      · rw [hb6] at t6
        exact tany t6
    refine ⟨InvU2 o b H, ⟨y.toNat, Shr.of ⟨0, bad6, r6, ls, [], u, .nils, _, x, s, y, rfl, rfl, by simp; omega, t6', rebox hu, Held.nil, fun hb6 hg => ?_, fun hb6 => ?_⟩⟩, ?_⟩
    · have h7 : bad6 = false := by
        rw [k6]
        have hbb : bad = false := by
          cases hq : bad
          · rfl
          · exact absurd hg (hbt hq)
        refine ⟨hbb, ?_⟩
        have := hexit hbb
        have h8 := hg.2.1
        unfold pS at h8
        omega
      rw [h7] at hb6
      cases hb6
    · obtain ⟨g1', g2', g3'⟩ := good6 hb6
      obtain ⟨q1, q2, q3, q4, q5, q6⟩ := hbf g1'
      refine ⟨q1, q2, by omega, ?_, by omega, g3', ?_, rfl⟩
      · rw [e6 hb6, g2', rdB_one g3']
        omega
      · rw [q6, hexit g1']
    clear t6 t6' g6 k6 e6 good6 hsc hoc hrw hsx ht hu hbt hbf hexit hn
    rintro m ys Hd ⟨j, bad, row, ls, ss, u, w, H1, x, s, n, rfl, rfl, hn, ht, hu, hw, hbt, hbf⟩
    have cu := hu.cell
    have cw := hw.cell
    have ho1 := hu.sub _ _ (upd_eq _ _ _)
    have hod : Hd o = some ⟨2, [row]⟩ := hw.sub _ _ ho1
    have hsd : Abs.sub H Hd := sub_trans (hso row) (sub_trans hu.sub hw.sub)
    have hsx : ∀ r' : List V, Abs.sub H (upd Hd o ⟨2, [r']⟩) := fun r' => sub_trans (hso r') (sub_trans (rebox (r' := r') hu).sub (rebase2 hw (by rw [ho1]; simp)).sub)
    obtain ⟨sl, hrw, _⟩ := id ht
    simp [show ∀ off, aField off (.ptr o 0 0) = some (.ptr o 0 (0 + off)) from fun _ => rfl, aNil, aLd_at hod, hrw]
    refine ⟨fun hn0 => ⟨fun hf => ?_, fun hf => ?_⟩, fun hn0 => ?_⟩
    · obtain ⟨rfl, rfl, hj, hnj, hfit, hps, rfl, rfl⟩ := hbf hf
      refine C_take (c := 2) hod hsd ht hin hb (by omega) fun y1 r4 bad4 t4 g4 k4 e4 => ?_
      refine C_take (c := 1) (upd_eq _ _ _) (hsx _) t4 hin hb (by omega) fun y2 r5 bad5 t5 g5 k5 e5 => ?_
      rw [upd_upd]
      simp
      refine C_take (c := 2) (upd_eq _ _ _) (hsx _) t5 hin hb (by omega) fun y3 r6 bad6 t6 g6 k6 e6 => ?_
      rw [upd_upd]
      simp [bsl_one]
      intro o7 ho7
      have hu6 := rebox (r' := r6) hu
      have hw6 := rebase2 (x := ⟨2, [r6]⟩) hw (by rw [ho1]; simp)
      refine hw6.append (sub_fresh ho7) (by simp) (by simp [stubsAt_len] at hn ⊢; omega) fun v' H' H'' ho' hs' => ?_
      have cv := ho'.cell
      simp [stz_eq, putCells, cv]
      rw [i64_in (n := n - 1) (by omega) (by omega)]
      have k456 : bad6 = false ↔ pS b + 1 + 5 * (j + 1) ≤ b.length := by
        rw [k6, k5, k4]
        constructor
        · intro hh; omega
        · intro hh; exact ⟨⟨⟨hf, by omega⟩, by omega⟩, by omega⟩
      have et : pS b + 1 + 5 * j + 2 + 1 + 2 = pS b + 1 + 5 * (j + 1) := by omega
      rw [et] at t6
      refine ⟨(n - 1).toNat, by omega, H'', hs', j + 1, bad6, r6, linksAt b (nL b), stubsAt b j ++ [(y1, y2, y3)], u, v', _, nth b 0, rdB b 1 3, n - 1, rfl, rfl, ?_, t6, hu6, by rw [List.map_append]; exact ho', fun hb5 hg => ?_, fun hb5 => ?_⟩
      · simp [stubsAt_len] at hn ⊢
        omega
      · have : bad6 = false := by
          rw [k456]
          have := hg.2.2
          unfold pA at this
          omega
        rw [this] at hb5
        cases hb5
      · have h5 := k456.1 hb5
        have hb5' := (k6.1 hb5).1
        have hb4 := (k5.1 hb5').1
        refine ⟨rfl, rfl, by omega, by omega, h5, hps, rfl, ?_⟩
        rw [stubsAt_succ]
        have e : stubAt b (pS b + 1) j = (y1, y2, y3) := by
          unfold stubAt
          rw [e4 hb4, e5 hb5', e6 hb5, rdB_one (by omega)]
        rw [e]
    · have hexit : bad = false → j = nS b := fun hh => by rw [hf] at hh; cases hh
      clear hn0
      refine C_take (c := 1) hod hsd ht hin hb (by omega) fun y r6 bad6 t6 g6 k6 e6 => ?_
      simp [stz_eq, putCells]
      obtain ⟨sl6, hrw6, _⟩ := id t6
      have good6 : bad6 = false ↔ fitsB b := by
        rw [k6]
        constructor
        · rintro ⟨hh, hh2⟩
          have h1 := hbf hh
          have h2 := hexit hh
          refine ⟨?_, h1.2.2.2.2.2.1, ?_⟩
          · have := h1.2.2.2.2.2.1
            unfold pS at this
            omega
          · unfold pA
            omega
        · intro hg
          have hbb : bad = false := by
            cases hq : bad
            · rfl
            · exact absurd hg (hbt hq)
          refine ⟨hbb, ?_⟩
          have h2 := hexit hbb
          have h3 := hg.2.2
          unfold pA at h3
          omega
      have hu6 := rebox (r' := r6) hu
      have hw6 := rebase2 (x := ⟨2, [r6]⟩) hw (by rw [ho1]; simp)
      have hsx6 := hsx r6
      have hod6 : (upd Hd o ⟨2, [r6]⟩) o = some ⟨2, [[sl6, .bool bad6]]⟩ := by rw [upd_eq, hrw6]
      generalize upd Hd o (⟨2, [r6]⟩ : Ob) = He at *
      generalize upd H1 o (⟨2, [r6]⟩ : Ob) = H1' at *
      have row_ok : bad6 = false → ∃ q : (lsaAt b).origin = x ∧ (lsaAt b).seq = s ∧ (lsaAt b).age = y, Dp (lsaT c) H (lsaAt b) [.int .i64 x, .int .i64 s, .int .i64 y, u, w] He ∨ True := fun hh => by
        obtain ⟨hh1, hh2⟩ := k6.1 hh
        obtain ⟨q1, q2, q3, q4, q5, q6, q7, q8⟩ := hbf hh1
        have hjj := hexit hh1
        refine ⟨⟨q1.symm, q2.symm, ?_⟩, .inr trivial⟩
        rw [e6 hh, hjj]
        have : pS b + 1 + 5 * nS b = pA b := rfl
        rw [this, rdB_one (by unfold pA; omega)]
        rfl
      have hdp6 : bad6 = false → ∃ Hx, Abs.sub Hx He ∧ Dp (lsaT c) H (lsaAt b) [.int .i64 x, .int .i64 s, .int .i64 y, u, w] Hx ∧ (lsaT false).rd He (lsaAt b) [.int .i64 x, .int .i64 s, .int .i64 y, u, w] := fun hh => by
        obtain ⟨⟨p1, p2, p3⟩, _⟩ := row_ok hh
        obtain ⟨hh1, hh2⟩ := k6.1 hh
        obtain ⟨q1, q2, q3, q4, q5, q6, q7, q8⟩ := hbf hh1
        have hjj := hexit hh1
        have l1 : (lsaAt b).links = ls := q7.symm
        have l2 : (lsaAt b).stubs = ss := by rw [q8, hjj]; rfl
        have d1 := Dp.lsa (b := c) (a := lsaAt b) (l := u) (s := w) (by rw [l1]; exact hu6) (by rw [l2]; exact hw6)
        have d2 := Dp.lsa (b := false) (a := lsaAt b) (l := u) (s := w) (by rw [l1]; exact hu6) (by rw [l2]; exact hw6)
        unfold lsaRow at d1 d2
        rw [p1, p2, p3] at d1 d2
        obtain ⟨Hx, d3, d4⟩ := d1.shrink (hso r6)
        exact ⟨Hx, d4, d3, d2.rd⟩
      refine ⟨JTk b He, ?_, ?_⟩
      · simp [aLd_at hod6]
        refine ⟨fun hb6 => Shr.of ⟨?_, rfl⟩, fun hb6 => ?_⟩
        · have : ¬ goodB b := fun hg => by
            have := good6.2 hg.1
            rw [hb6] at this
            cases this
          simp [this]
        · obtain ⟨Hx, _, _, hrd⟩ := hdp6 hb6
          have hfit := good6.1 hb6
          have hl1 : (lsaAt b).links.length ≤ 1048576 ∧ (lsaAt b).stubs.length ≤ 1048576 := by
            have a1 := nth_in hin 4
            have a2 := nth_in hin (pS b)
            have b1 : (lsaAt b).links.length = nL b := linksAt_len ..
            have b2 : (lsaAt b).stubs.length = nS b := stubsAt_len ..
            rw [b1, b2]
            unfold nL nS
            unfold isB at a1 a2
            omega
          have jfin : ∀ (t : Bool) (Hy : Heap), Abs.sub He Hy → (t = true ↔ ¬ goodB b) → Shr (JTk b He [.bool t]) Hy := fun t Hy hs hg => by
            refine ⟨He, hs, ?_, rfl⟩
            congr 2
            cases t
            · have : goodB b := Classical.byContradiction fun hh => by have := hg.2 hh; cases this
              simp [this]
            · have := hg.1 rfl
              simp [this]
          refine C_i_PutLsa (b := false) hrd hl1 (fun hok z Hz hz => ?_) fun hno => ?_
          · refine C_slices_Equal_byte (hz.rb enB_len).1 (hr.mono (sub_trans hsx6 hz.sub)) (by rw [putB_len]; have := hok.2.2.2.1; have := hok.2.2.2.2.1; omega) ?_
            simp
            refine ⟨fun hne => jfin _ _ hz.sub ⟨fun _ hg => hne hg.2.2, fun _ => rfl⟩, fun heq => ?_⟩
            refine C_i_LsaOk ((lsaT false).mono hrd hz.sub) hl1 ?_
            simp
            exact jfin _ _ hz.sub ⟨fun hh => by simp [hok] at hh, fun hh => absurd ⟨hfit, hok, heq⟩ hh⟩
          · refine C_slices_Equal_byte (xs := []) Rd.nils (hr.mono hsx6) (by simp) ?_
            have hne : ¬ [] = b := fun hh => by have := hfit.1; rw [← hh] at this; simp at this
            simp [hne]
            exact jfin _ _ (Abs.sub_refl _) ⟨fun _ hg => hno hg.2.1, fun _ => rfl⟩
      · rintro ys Hf ⟨rfl, rfl⟩
        simp [stz_eq, putCells, cu, cw]
        refine ⟨fun hg => bad0 hg _ hsx6, fun hg => ?_⟩
        obtain ⟨Hx, d1, d2, _⟩ := hdp6 (good6.2 hg.1)
        have e : takeR b = (lsaAt b, true) := by unfold takeR; rw [if_pos hg]
        rw [e] at h
        exact Ret.shr (h _ _ d2) rfl d1
    · have hexit : bad = false → j = nS b := fun hh => by have := hbf hh; omega
      clear hn0
      refine C_take (c := 1) hod hsd ht hin hb (by omega) fun y r6 bad6 t6 g6 k6 e6 => ?_
      simp [stz_eq, putCells]
      obtain ⟨sl6, hrw6, _⟩ := id t6
      have good6 : bad6 = false ↔ fitsB b := by
        rw [k6]
        constructor
        · rintro ⟨hh, hh2⟩
          have h1 := hbf hh
          have h2 := hexit hh
          refine ⟨?_, h1.2.2.2.2.2.1, ?_⟩
          · have := h1.2.2.2.2.2.1
            unfold pS at this
            omega
          · unfold pA
            omega
        · intro hg
          have hbb : bad = false := by
            cases hq : bad
            · rfl
            · exact absurd hg (hbt hq)
          refine ⟨hbb, ?_⟩
          have h2 := hexit hbb
          have h3 := hg.2.2
          unfold pA at h3
          omega
      have hu6 := rebox (r' := r6) hu
      have hw6 := rebase2 (x := ⟨2, [r6]⟩) hw (by rw [ho1]; simp)
      have hsx6 := hsx r6
      have hod6 : (upd Hd o ⟨2, [r6]⟩) o = some ⟨2, [[sl6, .bool bad6]]⟩ := by rw [upd_eq, hrw6]
      generalize upd Hd o (⟨2, [r6]⟩ : Ob) = He at *
      generalize upd H1 o (⟨2, [r6]⟩ : Ob) = H1' at *
      have row_ok : bad6 = false → ∃ q : (lsaAt b).origin = x ∧ (lsaAt b).seq = s ∧ (lsaAt b).age = y, Dp (lsaT c) H (lsaAt b) [.int .i64 x, .int .i64 s, .int .i64 y, u, w] He ∨ True := fun hh => by
        obtain ⟨hh1, hh2⟩ := k6.1 hh
        obtain ⟨q1, q2, q3, q4, q5, q6, q7, q8⟩ := hbf hh1
        have hjj := hexit hh1
        refine ⟨⟨q1.symm, q2.symm, ?_⟩, .inr trivial⟩
        rw [e6 hh, hjj]
        have : pS b + 1 + 5 * nS b = pA b := rfl
        rw [this, rdB_one (by unfold pA; omega)]
        rfl
      have hdp6 : bad6 = false → ∃ Hx, Abs.sub Hx He ∧ Dp (lsaT c) H (lsaAt b) [.int .i64 x, .int .i64 s, .int .i64 y, u, w] Hx ∧ (lsaT false).rd He (lsaAt b) [.int .i64 x, .int .i64 s, .int .i64 y, u, w] := fun hh => by
        obtain ⟨⟨p1, p2, p3⟩, _⟩ := row_ok hh
        obtain ⟨hh1, hh2⟩ := k6.1 hh
        obtain ⟨q1, q2, q3, q4, q5, q6, q7, q8⟩ := hbf hh1
        have hjj := hexit hh1
        have l1 : (lsaAt b).links = ls := q7.symm
        have l2 : (lsaAt b).stubs = ss := by rw [q8, hjj]; rfl
        have d1 := Dp.lsa (b := c) (a := lsaAt b) (l := u) (s := w) (by rw [l1]; exact hu6) (by rw [l2]; exact hw6)
        have d2 := Dp.lsa (b := false) (a := lsaAt b) (l := u) (s := w) (by rw [l1]; exact hu6) (by rw [l2]; exact hw6)
        unfold lsaRow at d1 d2
        rw [p1, p2, p3] at d1 d2
        obtain ⟨Hx, d3, d4⟩ := d1.shrink (hso r6)
        exact ⟨Hx, d4, d3, d2.rd⟩
      refine ⟨JTk b He, ?_, ?_⟩
      · simp [aLd_at hod6]
        refine ⟨fun hb6 => Shr.of ⟨?_, rfl⟩, fun hb6 => ?_⟩
        · have : ¬ goodB b := fun hg => by
            have := good6.2 hg.1
            rw [hb6] at this
            cases this
          simp [this]
        · obtain ⟨Hx, _, _, hrd⟩ := hdp6 hb6
          have hfit := good6.1 hb6
          have hl1 : (lsaAt b).links.length ≤ 1048576 ∧ (lsaAt b).stubs.length ≤ 1048576 := by
            have a1 := nth_in hin 4
            have a2 := nth_in hin (pS b)
            have b1 : (lsaAt b).links.length = nL b := linksAt_len ..
            have b2 : (lsaAt b).stubs.length = nS b := stubsAt_len ..
            rw [b1, b2]
            unfold nL nS
            unfold isB at a1 a2
            omega
          have jfin : ∀ (t : Bool) (Hy : Heap), Abs.sub He Hy → (t = true ↔ ¬ goodB b) → Shr (JTk b He [.bool t]) Hy := fun t Hy hs hg => by
            refine ⟨He, hs, ?_, rfl⟩
            congr 2
            cases t
            · have : goodB b := Classical.byContradiction fun hh => by have := hg.2 hh; cases this
              simp [this]
            · have := hg.1 rfl
              simp [this]
          refine C_i_PutLsa (b := false) hrd hl1 (fun hok z Hz hz => ?_) fun hno => ?_
          · refine C_slices_Equal_byte (hz.rb enB_len).1 (hr.mono (sub_trans hsx6 hz.sub)) (by rw [putB_len]; have := hok.2.2.2.1; have := hok.2.2.2.2.1; omega) ?_
            simp
            refine ⟨fun hne => jfin _ _ hz.sub ⟨fun _ hg => hne hg.2.2, fun _ => rfl⟩, fun heq => ?_⟩
            refine C_i_LsaOk ((lsaT false).mono hrd hz.sub) hl1 ?_
            simp
            exact jfin _ _ hz.sub ⟨fun hh => by simp [hok] at hh, fun hh => absurd ⟨hfit, hok, heq⟩ hh⟩
          · refine C_slices_Equal_byte (xs := []) Rd.nils (hr.mono hsx6) (by simp) ?_
            have hne : ¬ [] = b := fun hh => by have := hfit.1; rw [← hh] at this; simp at this
            simp [hne]
            exact jfin _ _ (Abs.sub_refl _) ⟨fun _ hg => hno hg.2.1, fun _ => rfl⟩
      · rintro ys Hf ⟨rfl, rfl⟩
        simp [stz_eq, putCells, cu, cw]
        refine ⟨fun hg => bad0 hg _ hsx6, fun hg => ?_⟩
        obtain ⟨Hx, d1, d2, _⟩ := hdp6 (good6.2 hg.1)
        have e : takeR b = (lsaAt b, true) := by unfold takeR; rw [if_pos hg]
        rw [e] at h
        exact Ret.shr (h _ _ d2) rfl d1
end Go.Proofs.Ytgoljfhjhcjcpaa
