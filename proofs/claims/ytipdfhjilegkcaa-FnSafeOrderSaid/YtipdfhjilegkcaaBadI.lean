/-
Contracts: how many orders are bad, by the program.
-/
import Derived.Test.YtipdfhjilegkcaaBadC
set_option linter.all false
namespace Go.Proofs.Ytipdfhjilegkcaa
open Go Go.Abs Go.Proofs

def Clipped (w : V) (n : Nat) : Prop := (w = .nils ∧ n = 0) ∨ ∃ o s, w = .slice o s n (some n)
theorem sl_clip {H : Heap} {sz : Nat} {v : V} {rows : List (List V)} (h : Sl H sz v rows) : ∃ w, aSlice H sz v none (some (.int .i64 (rows.length : Nat))) (some (.int .i64 (rows.length : Nat))) = some w ∧ Rd H sz w rows ∧ Clipped w rows.length := by
  obtain ⟨⟨h0, h1⟩, h2, h3⟩ := h
  rcases h1 with rfl | ⟨rfl, rfl⟩ | ⟨o, s, cap, ob, rfl, g2, g3, g4, g5⟩
  · exact absurd rfl (h2 rows)
  · exact ⟨.nils, by simp [aSlice, bound, natOf], ⟨by simp, .inr (.inl ⟨rfl, rfl⟩)⟩, .inl ⟨rfl, rfl⟩⟩
  · refine ⟨.slice o s rows.length (some rows.length), ?_, ⟨h0, .inr (.inr ⟨o, s, _, ob, rfl, g2, g3, g4, g5⟩)⟩, .inr ⟨o, s, rfl⟩⟩
    cases cap with
    | none => simp [aSlice, g2, g3, bound, natOf]
    | some c =>
      have := h3 o s rows.length c rfl
      simp [aSlice, g2, g3, bound, natOf]
      exact this
theorem clip_append {Hb : Heap} {sz by_ : Nat} {w : V} {rows xs : List (List V)} {K : V → Heap → Prop} (hc : Clipped w rows.length) (hr : Rd Hb sz w rows) (hx : xs ≠ []) (hb : (rows.length + xs.length) * by_ ≤ 140737488355328)
    (h : ∀ o', Hb o' = none → K (.slice o' 0 (rows.length + xs.length) none) (upd Hb o' ⟨sz, rows ++ xs⟩)) : appendK Hb sz by_ w xs K := by
  rcases hc with ⟨rfl, h0⟩ | ⟨o, s, rfl⟩
  · have : rows = [] := List.eq_nil_of_length_eq_zero h0
    subst this
    exact ⟨fun e => absurd e hx, fun _ => ⟨by simpa using hb, fun o ho => by simpa using h o ho⟩⟩
  · have hrow := hr.rows (by simp)
    unfold rowsOf at hrow
    unfold appendK
    simp only at hrow ⊢
    split at hrow
    · rename_i ob hob
      split at hrow
      · rename_i hq
        simp only [hob]
        have e : List.take rows.length (List.drop s ob.rows) = rows := by simpa using hrow
        refine ⟨hq.1, hq.2, fun e => absurd e hx, fun _ => ⟨hb, fun hle => ?_, fun _ o' ho' => ?_⟩⟩
        · have := List.length_pos_iff.2 hx; omega
        · rw [e]; exact h o' ho'
      · cases hrow
    · cases hrow

def pw : Nat → Int
  | 0 => 1
  | r + 1 => 6 * pw r
theorem pw_pos : ∀ r, 1 ≤ pw r
  | 0 => by simp [pw]
  | r + 1 => by have := pw_pos r; rw [pw]; omega
theorem bads_pw {n : Int} {es fs : List TEdge} {d : Int} (hn : n ≤ 6) : ∀ (r : Nat) (o : List Int), 0 ≤ bads n es fs d r o ∧ bads n es fs d r o ≤ pw r
  | 0, o => by rw [bads]; split <;> simp [pw]
  | r + 1, o => by
    have hp := pw_pos r
    have := sumTo_in (q := fun x => if (x : Int) ∈ o then 0 else bads n es fs d r (o ++ [(x : Int)])) (b := pw r) (i := n.toNat) fun j _ => by
      by_cases h : (j : Int) ∈ o
      · simp [h]; omega
      · simp only [h, if_false]; exact bads_pw hn r _
    rw [bads, pw]
    refine ⟨this.1, Int.le_trans this.2 ?_⟩
    exact Int.mul_le_mul_of_nonneg_right (by omega) (by omega)

/-- What the counting closure looks at. -/
structure CbEnv (n : Int) (es fs : List TEdge) (d : Int) (B : Heap) (oa ob od oc : Nat) : Prop where
  ex : ∃ u0 u1, B oa = some ⟨1, [[u0]]⟩ ∧ B ob = some ⟨1, [[u1]]⟩ ∧ B od = some ⟨1, [[.int .i64 d]]⟩ ∧ Rd B 1 u0 ((tab (fun x => hopOf n es x d) n.toNat).map ri) ∧ (∀ r, u0 ≠ .ro r) ∧ Rd B 1 u1 ((tab (fun x => hopOf n fs x d) n.toNat).map ri)
  hn : 1 ≤ n ∧ n ≤ 6
  off : B oc = none
theorem CbEnv.mono {n : Int} {es fs : List TEdge} {d : Int} {B B' : Heap} {oa ob od oc : Nat} (h : CbEnv n es fs d B oa ob od oc) (hs : Abs.sub B B') (ho : B' oc = none) : CbEnv n es fs d B' oa ob od oc := by
  obtain ⟨u0, u1, h1, h2, h3, h4, h5, h6⟩ := h.ex
  exact ⟨⟨u0, u1, hs _ _ h1, hs _ _ h2, hs _ _ h3, h4.mono hs, h5, h6.mono hs⟩, h.hn, ho⟩

theorem C_i_CountBad_1 {n d c : Int} {es fs : List TEdge} {B H : Heap} {oa ob od oc : Nat} {z : V} {o : List Int} {K : V → Heap → Prop} (he : CbEnv n es fs d B oa ob od oc) (hs : Abs.sub B H) (hc : H oc = some ⟨1, [ri c]⟩) (hz : Sl B 1 z (o.map ri)) (hl : o.length ≤ 10)
    (hb : 0 ≤ c ∧ c ≤ 1000000) (h : ∀ H', Abs.sub B H' → H' oc = some ⟨1, [ri (c + bads n es fs d 0 o)]⟩ → K (.tup []) H') : ACalls P n_i_CountBad_1 [z, .ptr oa 0 0, .ptr ob 0 0, .ptr od 0 0, .ptr oc 0 0] H K := by
  obtain ⟨u0, u1, h1, h2, h3, h4, h5, h6⟩ := he.ex
  have hn := he.hn
  apply W_i_CountBad_1
  unfold F_i_CountBad_1
  rw [aLd_at (hs _ _ h1), aLd_at (hs _ _ h2), aLd_at (hs _ _ h3)]
  simp
  refine C_i_firstLoop (h4.mono hs) h5 (h6.mono hs) (hz.mono hs) (by omega) hl ?_
  simp
  rw [aLd_at hc]
  simp
  rw [i64_in (n := c + 1) (by omega) (by omega), aSt_at hc]
  simp [stz_eq, putCells]
  refine ⟨fun q => Ret.of (h _ (sub_upd_of hs he.off) ?_), fun q => Ret.of (h _ hs ?_)⟩
  · rw [upd_eq, bads, if_pos q]
  · rw [hc, bads, if_neg (by simp [q])]; simp

def InvPm (B : Heap) (oc : Nat) (c : Int) (q : Nat → Int) (n : Nat) (m : Nat) (ys : List V) (Hc : Heap) : Prop :=
  ∃ i : Nat, i ≤ n ∧ ys = [.int .i64 (i : Nat)] ∧ m = n - i ∧ Abs.sub B Hc ∧ Hc oc = some ⟨1, [ri (c + sumTo q i)]⟩

set_option maxHeartbeats 2000000 in
theorem C_i_permuted {n d : Int} {es fs : List TEdge} {oa ob od oc : Nat} : ∀ (r : Nat) {c : Int} {B H : Heap} {z : V} {o : List Int} {K : V → Heap → Prop}, CbEnv n es fs d B oa ob od oc → Abs.sub B H → H oc = some ⟨1, [ri c]⟩ → Sl B 1 z (o.map ri) → o.length + r = n.toNat →
    (0 ≤ c ∧ c + pw r ≤ 1000000) → (∀ H', Abs.sub B H' → H' oc = some ⟨1, [ri (c + bads n es fs d r o)]⟩ → K (.tup []) H') →
    ACalls P n_i_permuted [z, .int .i64 n, .fn n_i_CountBad_1 [.ptr oa 0 0, .ptr ob 0 0, .ptr od 0 0, .ptr oc 0 0]] H K := by
  intro r
  induction r with
  | zero =>
    intro c B H z o K he hs hc hz hl hb h
    have hn := he.hn
    apply W_i_permuted
    unfold F_i_permuted
    simp [hz.1.len]
    refine ⟨fun _ => ?_, fun q => by omega⟩
    simp only [callK]
    rw [E_i_CountBad_1]
    show ACalls P n_i_CountBad_1 [z, .ptr oa 0 0, .ptr ob 0 0, .ptr od 0 0, .ptr oc 0 0] H _
    exact C_i_CountBad_1 he hs hc hz (by omega) (by simp [pw] at hb; omega) fun H' h1 h2 => Ret.of (h H' h1 h2)
  | succ r ih =>
    intro c B H z o K he hs hc hz hl hb h
    have hn := he.hn
    have hlen0 : ¬ (o.length : Int) = n := by omega
    have hp := pw_pos r
    rw [pw] at hb
    rw [bads] at h
    generalize hq : (fun x : Nat => if (x : Int) ∈ o then 0 else bads n es fs d r (o ++ [(x : Int)])) = q at h
    have hqb : ∀ x, 0 ≤ q x ∧ q x ≤ pw r := fun x => by
      rw [← hq]
      simp only
      split
      · omega
      · exact bads_pw (by omega) r _
    apply W_i_permuted
    unfold F_i_permuted
    simp [hz.1.len]
    refine ⟨?_, ?_⟩
    · intro hh
      clear ih h hqb hq hz he hs hc
      have h2 : False := hlen0 hh
      exfalso
      exact h2
    intro _
    refine ⟨InvPm B oc c q n.toNat, ⟨n.toNat, Shr.of ⟨0, by omega, rfl, by omega, hs, by simpa [sumTo] using hc⟩⟩, ?_⟩
    rintro m ys Hc ⟨i, hi, rfl, rfl, hsc, hcc⟩
    simp
    refine ⟨fun hlt => ?_, fun hge => ?_⟩
    · refine C_slices_Contains (hz.1.mono hsc) (by omega) ?_
      rw [i64_in (n := (i : Int) + 1) (by omega) (by omega)]
      simp
      refine ⟨fun hno => ?_, fun hyes => ?_⟩
      · apply W_slices_Clip_int_int
        unfold F_slices_Clip_int_int
        have hlen : (o.map ri).length = o.length := by simp
        simp only [hz.1.len, bnd_some]
        obtain ⟨w, e1, e2, e3⟩ := sl_clip (hz.mono hsc)
        rw [e1]
        simp only [bnd_some]
        refine Ret.of ?_
        simp [bsl_one]
        intro o3 ho3
        have hs3 := sub_fresh (x := (⟨1, [[.int .i64 (i : Nat)]]⟩ : Ob)) ho3
        refine clip_append e3 (e2.mono hs3) (by simp) (by simp; omega) fun o4 ho4 => ?_
        have ⟨ho4', ho4c⟩ := upd_none ho4
        have hBo4 : B o4 = none := sub_none hsc ho4c
        have hne : oc ≠ o4 := by rintro rfl; rw [hcc] at ho4c; cases ho4c
        have hne3 : oc ≠ o3 := by rintro rfl; rw [hcc] at ho3; cases ho3
        have hsum := sumTo_in (q := q) (b := pw r) (i := i) fun j _ => hqb j
        have hmul : (i : Int) * pw r ≤ 5 * pw r := Int.mul_le_mul_of_nonneg_right (by omega) (by omega)
        have hrows : (o.map ri ++ [[.int .i64 (i : Int)]] : List (List V)) = (o ++ [(i : Int)]).map ri := by simp
        have hlen2 : (o.map ri).length + ([[.int .i64 (i : Int)]] : List (List V)).length = ((o ++ [(i : Int)]).map ri).length := by simp
        have hB' : Abs.sub B (upd B o4 ⟨1, (o ++ [(i : Int)]).map ri⟩) := sub_fresh hBo4
        rw [hrows, hlen2]
        refine ih (B := upd B o4 ⟨1, (o ++ [(i : Int)]).map ri⟩) (c := c + sumTo q i) (o := o ++ [(i : Int)]) (he.mono hB' ?_) ?_ ?_ ?_ (by simp; omega) (by omega) fun H' h1 h2 => ?_
        · rw [upd_off hne]; exact he.off
        · exact sub_upd2 (sub_trans hsc hs3)
        · rw [upd_off hne, upd_off hne3]; exact hcc
        · exact ⟨Rd.own ri_len (upd_eq _ _ _), by simp, by simp⟩
        · refine ⟨n.toNat - (i + 1), by omega, Shr.of ⟨i + 1, by omega, by simp, rfl, sub_trans hB' h1, ?_⟩⟩
          have e : q i = bads n es fs d r (o ++ [(i : Int)]) := by rw [← hq]; simp only [hno, if_false]
          rw [h2, sumTo, e, Int.add_assoc]
      · refine ⟨n.toNat - (i + 1), by omega, Shr.of ⟨i + 1, by omega, by simp, rfl, hsc, ?_⟩⟩
        have e : q i = 0 := by rw [← hq]; simp only [hyes, if_true]
        rw [hcc, sumTo, e, Int.add_zero]
    · have e : i = n.toNat := by omega
      subst e
      exact Ret.of (h Hc hsc hcc)

set_option maxHeartbeats 1000000 in
theorem C_i_CountBad {n m d : Int} {v w : V} {es fs : List TEdge} {H : Heap} {K : V → Heap → Prop} (hv : Rd H 3 v (es.map enEdge)) (hw : Rd H 3 w (fs.map enEdge)) (h : K (.int .i64 (countBad n m es fs d)) H) :
    ACalls P n_i_CountBad [vG n v, vG m w, .int .i64 d] H K := by
  have hc := hv.cell
  have hc' := hw.cell
  apply W_i_CountBad
  unfold F_i_CountBad
  simp [hc, hc']
  intro o1 ho1
  have hs1 : Abs.sub H (upd H o1 ⟨1, [[.int .i64 d]]⟩) := sub_fresh ho1
  generalize hH1 : upd H o1 ⟨1, [[.int .i64 d]]⟩ = H1 at *
  have hd1 : H1 o1 = some ⟨1, [[.int .i64 d]]⟩ := by rw [← hH1, upd_eq]
  rw [aLd_at hd1]
  simp
  refine C_i_areMixed (hv.mono hs1) (hw.mono hs1) ?_
  simp
  refine ⟨fun q => Ret.shr h (by rw [countBad, if_neg (fun hh => q hh.1)]) hs1, fun hf => ?_⟩
  refine ⟨fun q => Ret.shr h (by rw [countBad, if_neg (fun hh => by omega)]) hs1, fun hle => ?_⟩
  rw [countBad, if_pos ⟨hf, by omega⟩] at h
  obtain ⟨hg, hg', rfl, hd⟩ := hf
  have hn := hg.1
  refine ⟨H1, Abs.sub_refl _, ?_⟩
  rw [aLd_at hd1]
  simp
  refine C_i_Graph_hopsFor (hv.mono hs1) hg hd fun u0 H2 h2 => ⟨h2.sub, ?_⟩
  refine C_i_Graph_hopsFor (hw.mono (sub_trans hs1 h2.sub)) hg' hd fun u1 H3 h3 => ⟨sub_trans h2.sub h3.sub, ?_⟩
  have hs3 := sub_trans h2.sub h3.sub
  intro o4 ho4
  have hs4 : Abs.sub H3 (upd H3 o4 ⟨1, [[.nils]]⟩) := sub_fresh ho4
  refine ⟨sub_trans hs3 hs4, ?_⟩
  intro o5 ho5
  have hs5 : Abs.sub (upd H3 o4 ⟨1, [[.nils]]⟩) (upd (upd H3 o4 ⟨1, [[.nils]]⟩) o5 ⟨1, [[.nils]]⟩) := sub_fresh ho5
  obtain ⟨hne, ho5'⟩ := upd_none ho5
  refine ⟨sub_trans hs3 (sub_trans hs4 hs5), ?_⟩
  have hc0 := h2.cell
  have hc1 := h3.cell
  refine ⟨H3, sub_trans hs4 hs5, ?_⟩
  have e4 : upd (upd H3 o4 ⟨1, [[.nils]]⟩) o5 ⟨1, [[.nils]]⟩ o4 = some ⟨1, [[.nils]]⟩ := by rw [upd_off (Ne.symm hne), upd_eq]
  rw [aSt_at e4]
  simp [stz_eq, putCells, hc0]
  rw [upd_comm _ _ hne, upd_twice]
  have e5n0 : upd H3 o4 ⟨1, [[u0]]⟩ o5 = none := by rw [upd_off hne]; exact ho5'
  have hs45 := sub_trans (sub_fresh (x := ⟨1, [[u0]]⟩) ho4) (sub_fresh (x := ⟨1, [[.nils]]⟩) e5n0)
  refine ⟨hs45, ?_⟩
  refine ⟨H3, hs45, ?_⟩
  have e5 : upd (upd H3 o4 ⟨1, [[u0]]⟩) o5 ⟨1, [[.nils]]⟩ o5 = some ⟨1, [[.nils]]⟩ := by rw [upd_eq]
  rw [aSt_at e5]
  simp [stz_eq, putCells, hc1, upd_twice]
  have e5n : upd H3 o4 ⟨1, [[u0]]⟩ o5 = none := by rw [upd_off hne]; exact ho5'
  have hs6 := sub_trans (sub_fresh (x := ⟨1, [[u0]]⟩) ho4) (sub_fresh (x := ⟨1, [[u1]]⟩) e5n)
  refine ⟨hs6, ?_⟩
  generalize hB : upd (upd H3 o4 ⟨1, [[u0]]⟩) o5 ⟨1, [[u1]]⟩ = B at *
  intro o6 ho6
  rw [aSt_at (upd_eq _ _ _)]
  simp [stz_eq, putCells, upd_twice]
  have hb4 : B o4 = some ⟨1, [[u0]]⟩ := by rw [← hB, upd_off (Ne.symm hne), upd_eq]
  have hb5 : B o5 = some ⟨1, [[u1]]⟩ := by rw [← hB, upd_eq]
  have hpw : pw n.toNat ≤ 100000 := by
    have h6 : n.toNat ≤ 6 := by omega
    have mono : ∀ r, r ≤ 6 → pw r ≤ 100000 := by decide
    exact mono _ h6
  refine C_i_permuted (n := n) (d := d) (es := es) (fs := fs) n.toNat (c := 0) (B := B) (o := []) ⟨⟨u0, u1, hb4, hb5, hs6 _ _ (hs3 _ _ hd1), (h2.rd ri_len).mono (sub_trans h3.sub hs6), Held.notro h2, (h3.rd ri_len).mono hs6⟩, by omega, ho6⟩ (sub_fresh ho6) (upd_eq _ _ _) ⟨by simpa using Rd.nils, by simp, by simp⟩ (by simp) (by omega) fun H7 h7 hc7 => ?_
  rw [aLd_at hc7]
  simp
  exact Ret.shr h (by simp) (sub_trans hs1 (sub_trans hs3 (sub_trans hs6 h7)))

end Go.Proofs.Ytipdfhjilegkcaa
