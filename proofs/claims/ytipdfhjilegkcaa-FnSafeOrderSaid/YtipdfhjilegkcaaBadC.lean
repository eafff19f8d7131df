/-
Contracts: how many orders are bad, by the reference.
-/
import Derived.Test.YtipdfhjilegkcaaBadP
set_option linter.all false
namespace Go.Proofs.Ytipdfhjilegkcaa
open Go Go.Abs Go.Proofs

def InvCp (H : Heap) (xs : List Int) (m : Nat) (ys : List V) (Hc : Heap) : Prop :=
  ∃ (i : Nat) (u : V), i ≤ xs.length ∧ ys = [u, .int .i64 (i : Nat)] ∧ m = xs.length - i ∧ Held H 1 ((xs.take i).map ri) u Hc
theorem C_s_l01Copy {v : V} {xs : List Int} {H : Heap} {K : V → Heap → Prop} (hv : Rd H 1 v (xs.map ri)) (hl : xs.length ≤ 1000000) (h : ∀ u H', Held H 1 (xs.map ri) u H' → K u H') : ACalls P n_s_l01Copy [v] H K := by
  apply W_s_l01Copy
  unfold F_s_l01Copy
  simp [bsl_nil]
  intro o ho
  refine ⟨InvCp H xs, ⟨xs.length, Shr.of ⟨0, _, by omega, rfl, by omega, by simpa using Held.new ho⟩⟩, ?_⟩
  rintro m ys Hc ⟨i, u, hi, rfl, rfl, hu⟩
  simp [hv.len]
  refine ⟨fun hlt => ?_, fun hge => ?_⟩
  · refine (hv.mono hu.sub).idx (by omega) (by simpa using hlt) fun p hp => ?_
    simp only [hp.ld]
    simp [hlt, bsl_one]
    intro o2 ho2
    refine hu.append (sub_fresh ho2) (by simp) (by simp; omega) fun v' H' H'' ho' hs' => ?_
    rw [i64_in (by omega) (by omega)]
    refine ⟨xs.length - (i + 1), by omega, H'', hs', i + 1, v', by omega, by simp, rfl, ?_⟩
    have e : (xs.take (i + 1)).map ri = (xs.take i).map ri ++ [[.int .i64 xs[i]]] := by rw [List.take_succ_eq_append_getElem hlt, List.map_append]; rfl
    rw [e]
    exact ho'
  · have : i = xs.length := by omega
    subst this
    rw [List.take_length] at hu
    exact Ret.of (h _ _ hu)

theorem erase_same {l : List Int} {i : Nat} : (l.take (i + 1)).eraseIdx i = (l.take i).eraseIdx i := by
  rw [List.eraseIdx_eq_take_drop_succ, List.eraseIdx_eq_take_drop_succ, List.take_take, List.take_take, List.drop_eq_nil_of_le (by simp; omega), List.drop_eq_nil_of_le (by simp; omega)]
  congr 2; omega
theorem erase_next {l : List Int} {i j : Nat} (hj : j < l.length) (h : j ≠ i) : (l.take (j + 1)).eraseIdx i = (l.take j).eraseIdx i ++ [l[j]] := by
  rw [List.take_succ_eq_append_getElem hj]
  by_cases hi : i < (l.take j).length
  · rw [List.eraseIdx_append_of_lt_length hi]
  · have : j < i := by simp at hi; omega
    rw [List.eraseIdx_of_length_le (by simp; omega), List.eraseIdx_of_length_le (by simp; omega)]

def InvBd (H : Heap) (q : Nat → Int) (n : Nat) (m : Nat) (ys : List V) (Hc : Heap) : Prop :=
  ∃ i : Nat, i ≤ n ∧ ys = [.int .i64 (sumTo q i), .int .i64 (i : Nat)] ∧ m = n - i ∧ Abs.sub H Hc
def InvRe (H : Heap) (l : List Int) (i : Nat) (m : Nat) (ys : List V) (Hc : Heap) : Prop :=
  ∃ (j : Nat) (u : V), j ≤ l.length ∧ ys = [u, .int .i64 (j : Nat)] ∧ m = l.length - j ∧ Held H 1 (((l.take j).eraseIdx i).map ri) u Hc
theorem fact_le : ∀ {r : Nat}, r ≤ 6 → fact r ≤ 720
  | 0, _ => by decide
  | 1, _ => by decide
  | 2, _ => by decide
  | 3, _ => by decide
  | 4, _ => by decide
  | 5, _ => by decide
  | 6, _ => by decide
  | r + 7, h => by omega

set_option maxHeartbeats 2000000 in
theorem C_s_l11Bad {d : Int} {fresh : List Int} (hn : fresh.length ≤ 10) : ∀ (r : Nat) {o f mv lv : V} {mx l : List Int} {b : Bool} {H : Heap} {K : V → Heap → Prop}, l.length = r → r ≤ 6 → (∀ x ∈ l, 0 ≤ x ∧ x < (fresh.length : Int)) → mx.length = fresh.length →
    Rd H 1 f (fresh.map ri) → Rd H 1 mv (mx.map ri) → Rd H 1 lv (l.map ri) → K (.int .i64 (lbad fresh d r mx l b)) H → ACalls P n_s_l11Bad [o, f, mv, lv, .int .i64 d, .bool b] H K := by
  intro r
  induction r with
  | zero =>
    intro o f mv lv mx l b H K hl hr hin hm hf hmv hlv h
    apply W_s_l11Bad
    unfold F_s_l11Bad
    refine ⟨fun ys Hc => ys = [.bool (isBad mx d b)] ∧ Abs.sub H Hc, ?_, ?_⟩
    · simp
      refine ⟨fun hb => ?_, fun hb => Shr.of ⟨by simp [isBad, hb], Abs.sub_refl _⟩⟩
      subst hb
      refine C_s_LoopsIn hmv fun u H1 h1 => ?_
      simp [(h1.rd ri_len).len]
      refine ⟨fun q => Shr.of ⟨by simp [isBad]; omega, h1.sub⟩, fun q => Shr.of ⟨by simp [isBad, q], h1.sub⟩⟩
    · rintro ys Hc ⟨rfl, hs⟩
      simp [hlv.len, hl]
      refine ⟨fun hb => Ret.shr h (by simp [lbad, hb]) hs, fun hb => Ret.shr h (by simp [lbad, hb]) hs⟩
  | succ r ih =>
    intro o f mv lv mx l b H K hl hr hin hm hf hmv hlv h
    apply W_s_l11Bad
    unfold F_s_l11Bad
    refine ⟨fun ys Hc => ys = [.bool (isBad mx d b)] ∧ Abs.sub H Hc, ?_, ?_⟩
    · simp
      refine ⟨fun hb => ?_, fun hb => Shr.of ⟨by simp [isBad, hb], Abs.sub_refl _⟩⟩
      subst hb
      refine C_s_LoopsIn hmv fun u H1 h1 => ?_
      simp [(h1.rd ri_len).len]
      refine ⟨fun q => Shr.of ⟨by simp [isBad]; omega, h1.sub⟩, fun q => Shr.of ⟨by simp [isBad, q], h1.sub⟩⟩
    · rintro ys Hc ⟨rfl, hs⟩
      have hl0 : ¬ l = [] := by rintro rfl; simp at hl
      simp [hlv.len, hl0]
      rw [lbad] at h
      generalize hq : (fun i => lbad fresh d r (mx.set (l.getD i 0).toNat (fresh.getD (l.getD i 0).toNat 0)) (l.eraseIdx i) (isBad mx d b)) = q at h
      have hqb : ∀ i, i < l.length → 0 ≤ q i ∧ q i ≤ 720 := fun i hi => by
        have e : (l.eraseIdx i).length = r := by rw [List.length_eraseIdx_of_lt hi]; omega
        have := lbad_in fresh d r (mx.set (l.getD i 0).toNat (fresh.getD (l.getD i 0).toNat 0)) (l.eraseIdx i) (isBad mx d b) e
        have := fact_le (r := r) (by omega)
        rw [← hq]
        simp only
        omega
      refine ⟨InvBd H q l.length, ⟨l.length, Shr.of ⟨0, by omega, rfl, by omega, hs⟩⟩, ?_⟩
      rintro m ys Hd ⟨i, hi, rfl, rfl, hsd⟩
      simp
      refine ⟨fun hlt => ?_, fun hge => ?_⟩
      · refine C_s_l01Copy (hmv.mono hsd) (by omega) fun u H1 hu => ?_
        have hs1 := sub_trans hsd hu.sub
        have hx := hin _ (List.getElem_mem hlt)
        have hsum := sumTo_in (q := q) (b := 720) (i := i) fun j hj => hqb j (by omega)
        have hqi := hqb i hlt
        refine (hlv.mono hs1).idx (by omega) (by simpa using hlt) fun p hp => ?_
        simp only [hp.ld]
        simp [hlt]
        refine (hlv.mono hs1).idx (by omega) (by simpa using hlt) fun p hp => ?_
        simp only [hp.ld]
        simp [hlt]
        refine (hf.mono hs1).idx hx.1 (by simpa using hx.2) fun p hp => ?_
        rw [hp.ld, getD_ri (by omega)]
        simp
        refine hu.pt (Abs.sub_refl _) hx.1 (by simp; omega) fun p hp => ?_
        refine hp.st (row' := ri (fresh.getD l[i].toNat 0)) (by rw [getD_ri (by omega)]; simp [stz_eq, putCells]) fun H2 H3 h3 hs3 => ?_
        rw [map_set_ri] at h3
        simp [bsl_nil]
        intro o4 ho4
        obtain ⟨Hu, hsu, h3'⟩ := h3.rise hs3
        refine ⟨InvRe H2 l i, ⟨l.length, Shr.of ⟨0, _, by omega, rfl, by omega, by simpa using Held.new ho4⟩⟩, ?_⟩
        rintro m ys He ⟨j, w, hj, rfl, rfl, hw⟩
        simp
        have hse := sub_trans (sub_trans hsd hsu) (sub_trans h3'.sub hw.sub)
        refine ⟨fun hlt2 => ?_, fun hge2 => ?_⟩
        · rw [i64_in (n := (j : Int) + 1) (by omega) (by omega)]
          refine ⟨fun hne => ?_, fun heq => ?_⟩
          · refine (hlv.mono hse).idx (by omega) (by simpa using hlt2) fun p hp => ?_
            simp only [hp.ld]
            simp [hlt2, bsl_one]
            intro o5 ho5
            have hel := List.length_eraseIdx_le (List.take j l) i
            have htl : (List.take j l).length ≤ j := by simp; omega
            refine hw.append (sub_fresh ho5) (by simp) (by simp; omega) fun v' H' H'' ho' hs' => ?_
            refine ⟨l.length - (j + 1), by omega, H'', hs', j + 1, v', by omega, by simp, rfl, ?_⟩
            rw [erase_next hlt2 (by omega), List.map_append]
            exact ho'
          · have heq' : j = i := by omega
            subst heq'
            refine ⟨l.length - (j + 1), by omega, Shr.of ⟨j + 1, w, by omega, by simp, rfl, ?_⟩⟩
            rw [erase_same]
            exact hw
        · have : j = l.length := by omega
          subst this
          rw [List.take_length] at hw
          refine ih (mx := mx.set l[i].toNat (fresh.getD l[i].toNat 0)) (l := l.eraseIdx i) (b := isBad mx d b) (by rw [List.length_eraseIdx_of_lt hlt]; omega) (by omega) (fun x hx => hin x (List.mem_of_mem_eraseIdx hx)) (by simpa using hm) (hf.mono hse) ((h3'.rd ri_len).mono hw.sub) (hw.rd ri_len) ?_
          have e : lbad fresh d r (mx.set l[i].toNat (fresh.getD l[i].toNat 0)) (l.eraseIdx i) (isBad mx d b) = q i := by rw [← hq]; simp [hlt]
          rw [e]
          simp
          rw [i64_in (by omega) (by omega), i64_in (by omega) (by omega)]
          exact ⟨l.length - (i + 1), by omega, Shr.of ⟨i + 1, by omega, by simp [sumTo], rfl, hse⟩⟩
      · have : i = l.length := by omega
        subst this
        exact Ret.shr h rfl hsd

def InvAB (H : Heap) (n : Int) (q : Int → Int) (m : Nat) (ys : List V) (Hc : Heap) : Prop :=
  ∃ (i : Nat) (u w : V) (Hb : Heap), (i : Int) ≤ n ∧ ys = [u, w, .int .i64 (i : Nat)] ∧ m = n.toNat - i ∧ Held H 1 ((tab (fun x => x) i).map ri) u Hb ∧ Held Hb 1 ((tab q i).map ri) w Hc
set_option maxHeartbeats 1000000 in
theorem C_s_CountBad {n m d : Int} {v w : V} {es fs : List TEdge} {H : Heap} {K : V → Heap → Prop} (hv : Rd H 3 v (es.map enEdge)) (hw : Rd H 3 w (fs.map enEdge)) (h : K (.int .i64 (countBad n m es fs d)) H) :
    ACalls P n_s_CountBad [vG n v, vG m w, .int .i64 d] H K := by
  have hc := hv.cell
  have hc' := hw.cell
  apply W_s_CountBad
  unfold F_s_CountBad
  simp [hc, hc']
  refine C_s_l11Fine hv hw ?_
  simp
  refine ⟨fun q => Ret.eq h (by rw [countBad, if_neg (fun hh => q hh.1)]), fun hf => ?_⟩
  refine ⟨fun q => Ret.eq h (by rw [countBad, if_neg (fun hh => by omega)]), fun hle => ?_⟩
  rw [countBad, if_pos ⟨hf, by omega⟩] at h
  obtain ⟨hg, hg', rfl, hd⟩ := hf
  have hn := hg.1
  simp [bsl_nil]
  intro o1 ho1 o2 ho2
  refine ⟨InvAB H n (fun x => hopOf n fs x d), ⟨n.toNat, Shr.of ⟨0, _, _, _, by omega, rfl, by omega, by simpa [tab] using Held.new ho1, by simpa [tab] using Held.new ho2⟩⟩, ?_⟩
  rintro k ys Hc ⟨i, u1, u2, Hb, hi, rfl, rfl, h1, h2⟩
  have hsc := sub_trans h1.sub h2.sub
  simp
  refine ⟨fun hlt => ?_, fun hge => ?_⟩
  · simp [bsl_one]
    intro o3 ho3
    have t1 := tab_len (fun x => x) i
    have t2 := tab_len (fun x => hopOf n fs x d) i
    obtain ⟨Hb2, r2, r1⟩ := h1.swap h2
    refine r1.append (sub_fresh ho3) (by simp) (by simp; omega) fun v' H' H'' ho' hs' => ?_
    obtain ⟨Hb3, r3, r4⟩ := r2.swap ho'
    obtain ⟨Hz, z1, z2⟩ := r4.rise hs'
    have hse := sub_trans (sub_trans r3.sub z1) z2.sub
    refine C_s_HopOf (hw.mono hse) ?_
    rw [if_pos ⟨hg', by omega, hd⟩]
    simp [bsl_one]
    intro o4 ho4
    refine z2.append (sub_fresh ho4) (by simp) (by simp; omega) fun v2 H5 H6 h5 hs6 => ?_
    rw [i64_in (n := (i : Int) + 1) (by omega) (by omega)]
    obtain ⟨Hy, y1, y2⟩ := r3.rise z1
    obtain ⟨Hx, x1, x2⟩ := y2.shrink y1
    refine ⟨n.toNat - (i + 1), by omega, ?_⟩
    obtain ⟨Hw, w1, w2⟩ := h5.shrink x2
    refine ⟨Hw, sub_trans w2 hs6, i + 1, v', v2, Hx, by omega, by simp, rfl, ?_, ?_⟩
    · rw [tab_succ]; simpa using x1
    · rw [tab_succ]; simpa using w1
  · have e : i = n.toNat := by omega
    subst e
    refine C_s_MixedHops (hv.mono hsc) (hw.mono hsc) (ds := []) (by simpa using Rd.nils) fun u H1 hu => ?_
    rw [mixedH, if_pos ⟨⟨hg, hg', rfl, hd⟩, by simp⟩] at hu
    have t1 := tab_len (fun x => x) n.toNat
    have t2 := tab_len (fun x => hopOf n fs x d) n.toNat
    have t3 := tab_len (mixQ n es fs [] d) n.toNat
    refine C_s_l11Bad (fresh := tab (fun x => hopOf n fs x d) n.toNat) (by omega) n.toNat (mx := tab (mixQ n es fs [] d) n.toNat) (l := tab (fun x => x) n.toNat) t1 (by omega) (fun x hx => ?_) (by omega) ((h2.rd ri_len).mono hu.sub) (hu.rd ri_len) ((h1.rd ri_len).mono (sub_trans h2.sub hu.sub)) ?_
    · rw [t2]
      unfold tab at hx
      simp at hx
      obtain ⟨a, ha, rfl⟩ := hx
      omega
    · refine Ret.shr h ?_ (sub_trans hsc hu.sub)
      have := bads_eq (n := n) (es := es) (fs := fs) (d := d) n.toNat [] (by rw [fil_all, t1])
      rw [← this, fil_all]
      rfl

end Go.Proofs.Ytipdfhjilegkcaa
