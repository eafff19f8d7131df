/-
Contracts: sorting by insertion, SafeOrder.
-/
import Derived.Test.YtipdfhjilegkcaaOrder
set_option linter.all false
namespace Go.Proofs.Ytipdfhjilegkcaa
open Go Go.Abs Go.Proofs

def InvS1 (H0 : Heap) (u : V) (key : Int → Int) (n : Nat) (m : Nat) (ys : List V) (Hc : Heap) : Prop :=
  ∃ (i : Nat) (L : List Int), 1 ≤ i ∧ i ≤ n ∧ ys = [.int .i64 (i : Nat)] ∧ m = n - i ∧ L.length = i ∧ L.Pairwise (lexlt key) ∧ (∀ x, x ∈ L ↔ 0 ≤ x ∧ x < (i : Int)) ∧ Held H0 1 ((L ++ ((List.range n).drop i).map (fun k : Nat => (k : Int))).map ri) u Hc
def InvS2 (H0 : Heap) (u : V) (key : Int → Int) (n i : Nat) (m : Nat) (ys : List V) (Hc : Heap) : Prop :=
  ∃ xs A B : List Int, ys = [.int .i64 (A.length : Nat)] ∧ m = A.length ∧ Ins key i xs A B (((List.range n).drop (i + 1)).map (fun k : Nat => (k : Int))) ∧ Held H0 1 (xs.map ri) u Hc

theorem range_cut {n i : Nat} (h : i < n) : ((List.range n).drop i).map (fun k : Nat => (k : Int)) = (i : Int) :: ((List.range n).drop (i + 1)).map (fun k : Nat => (k : Int)) := by
  rw [List.drop_eq_getElem_cons (by simpa using h)]
  simp

set_option maxHeartbeats 1000000 in
theorem C_insertionSort {n : Nat} {u f : V} {key : Int → Int} {H0 H : Heap} {K : V → Heap → Prop} (hu : Held H0 1 ((tab (fun x => x) n).map ri) u H) (hn : 1 ≤ n ∧ n ≤ 10) (hkey : ∀ x, 0 ≤ key x ∧ key x ≤ 1000000 ∨ ¬ (0 ≤ x ∧ x < (n : Int)))
    (hf : ∀ Hc, Abs.sub H0 Hc → ∀ x y, (0 ≤ x ∧ x < (n : Int)) → (0 ≤ y ∧ y < (n : Int)) → ∀ K', K' (.int .i64 (key x - key y)) Hc → callK P Hc f [.int .i64 x, .int .i64 y] K')
    (h : ∀ L H', IsOrder n key L → Held H0 1 (L.map ri) u H' → K (.tup []) H') : ACalls P n_slices_insertionSortCmpFunc_int [u, .int .i64 0, .int .i64 (n : Nat), f] H K := by
  apply W_slices_insertionSortCmpFunc_int
  unfold F_slices_insertionSortCmpFunc_int
  simp
  have e0 : tab (fun x => x) n = [(0 : Int)] ++ ((List.range n).drop 1).map (fun k : Nat => (k : Int)) := by
    have := range_cut (n := n) (i := 0) (by omega)
    simp at this ⊢
    unfold tab
    rw [this]
  rw [e0] at hu
  rw [show IntKind.i64.wrap 1 = 1 from i64_in (by omega) (by omega)]
  refine ⟨InvS1 H0 u key n, ⟨n - 1, Shr.of ⟨1, [0], by omega, by omega, by simp, by omega, rfl, by simp, by simp; omega, hu⟩⟩, ?_⟩
  rintro m ys Hc ⟨i, L, h1, hi, rfl, rfl, hlen, hpw, hmem, hc⟩
  simp
  refine ⟨fun hlt => ?_, fun hge => ?_⟩
  · rw [range_cut hlt] at hc
    refine ⟨InvS2 H0 u key n i, ⟨i, Shr.of ⟨_, L, [], by simp [hlen], by omega, ⟨by simp, by simpa using hpw, by simpa using hmem, by simp [hlen], by simp⟩, hc⟩⟩, ?_⟩
    rintro m ys Hd ⟨xs, A, B, rfl, rfl, hins, hd⟩
    refine ⟨_, Abs.sub_refl _, ?_⟩
    simp
    rw [i64_in (n := (i : Int) + 1) (by omega) (by omega)]
    have hxs := hins.1
    have hAB := hins.2.2.2.1
    have rd := hd.rd ri_len
    have fin : ∀ He, Abs.sub Hd He → (∀ A' a, A = A' ++ [a] → ¬ key i < key a) → ∃ n5, n5 < n - i ∧ Shr (InvS1 H0 u key n n5 [.int .i64 ((i : Int) + 1)]) He := fun He hse hk => by
      obtain ⟨g1, g2, g3, g4⟩ := hins.stop hk
      exact ⟨n - (i + 1), by omega, Hd, hse, i + 1, _, by omega, by omega, by simp, rfl, g3, g1, g2, by rw [← g4]; exact hd⟩
    have hlenx : xs.length = n := by
      rw [hxs]
      simp
      omega
    refine ⟨fun hpos => ?_, fun hz => ?_⟩
    · rcases List.eq_nil_or_concat A with rfl | ⟨A', a, rfl⟩
      · simp at hpos
      simp only [List.concat_eq_append] at *
      have hl : (A' ++ [a]).length = A'.length + 1 := by simp
      have hxi : xs.getD (A'.length + 1) 0 = (i : Int) := by rw [hxs]; simp
      have hxa : xs.getD A'.length 0 = a := by rw [hxs]; simp
      have hA : A'.length + 1 < xs.length := by rw [hlenx]; simp at hAB; omega
      have hia : 0 ≤ a ∧ a < (i : Int) := (hins.2.2.1 a).1 (by simp)
      have e1 : IntKind.i64.wrap (A'.length : Int) = (A'.length : Int) := i64_in (by omega) (by omega)
      simp only [hl] at *
      simp
      rw [e1]
      refine rd.idx (by omega) (by simp; omega) fun p hp => ?_
      rw [hp.ld, getD_ri (by omega)]
      simp
      refine rd.idx (by omega) (by simp; omega) fun p hp => ?_
      rw [hp.ld, getD_ri (by omega)]
      simp
      have t1 : ((A'.length : Int) + 1).toNat = A'.length + 1 := by omega
      simp only [t1, ← List.getD_eq_getElem?_getD, hxi, hxa]
      have ki := hkey i
      have ka := hkey a
      refine hf Hd hd.sub i a (by omega) (by omega) _ ⟨Abs.sub_refl _, ?_⟩
      simp
      refine ⟨fun hk => ?_, fun hk => fin _ (Abs.sub_refl _) fun A'' a' e => ?_⟩
      · refine rd.idx (by omega) (by simp; omega) fun p hp => ?_
        rw [hp.ld, getD_ri (by omega)]
        simp
        refine rd.idx (by omega) (by simp; omega) fun p hp => ?_
        rw [hp.ld, getD_ri (by omega)]
        simp
        simp only [t1, ← List.getD_eq_getElem?_getD, hxi, hxa]
        refine hd.pt (Abs.sub_refl _) (by omega) (by simp; omega) fun p hp => ?_
        refine hp.st (row' := ri a) (by rw [getD_ri (by omega)]; simp [stz_eq, putCells]) fun H5 H6 h6 hs6 => ?_
        rw [map_set_ri, t1] at h6
        refine h6.pt hs6 (by omega) (by simp; omega) fun p hp => ?_
        refine hp.st (row' := ri (i : Int)) (by rw [getD_ri (by simp; omega)]; simp [stz_eq, putCells]) fun H7 H8 h8 hs8 => ?_
        rw [map_set_ri] at h8
        simp only [Int.toNat_natCast] at h8
        refine ⟨A'.length, by omega, H8, hs8, _, A', a :: B, rfl, rfl, hins.swap (by omega), h8⟩
      · have := List.append_inj' e rfl
        simp at this
        rw [← this.2]
        omega
    · refine fin _ (Abs.sub_refl _) fun A' a e => ?_
      subst e
      simp at hz
  · have : i = n := by omega
    subst this
    have e : ((List.range i).drop i).map (fun k : Nat => (k : Int)) = [] := by simp
    rw [e, List.append_nil] at hc
    exact Ret.of (h L _ ⟨hpw, hmem⟩ hc)

theorem C_SortStable {n : Nat} {u f : V} {key : Int → Int} {H0 H : Heap} {K : V → Heap → Prop} (hu : Held H0 1 ((tab (fun x => x) n).map ri) u H) (hn : 1 ≤ n ∧ n ≤ 10) (hkey : ∀ x, 0 ≤ key x ∧ key x ≤ 1000000 ∨ ¬ (0 ≤ x ∧ x < (n : Int)))
    (hf : ∀ Hc, Abs.sub H0 Hc → ∀ x y, (0 ≤ x ∧ x < (n : Int)) → (0 ≤ y ∧ y < (n : Int)) → ∀ K', K' (.int .i64 (key x - key y)) Hc → callK P Hc f [.int .i64 x, .int .i64 y] K')
    (h : ∀ L H', IsOrder n key L → Held H0 1 (L.map ri) u H' → K (.tup []) H') : ACalls P n_slices_SortStableFunc_int_int [u, f] H K := by
  apply W_slices_SortStableFunc_int_int
  unfold F_slices_SortStableFunc_int_int
  rw [(hu.rd ri_len).len]
  simp [tab_len]
  apply W_slices_stableCmpFunc_int
  unfold F_slices_stableCmpFunc_int
  refine ⟨fun m ys Hc => ys = [.int .i64 0, .int .i64 20] ∧ Hc = H, 0, Shr.of ⟨rfl, rfl⟩, ?_⟩
  rintro m ys Hc ⟨rfl, rfl⟩
  simp
  refine ⟨fun hh => absurd hh (by omega), fun _ => ?_⟩
  refine C_insertionSort hu hn hkey hf fun L H' hL hh => ?_
  refine ⟨fun m ys Hc => ys = [.int .i64 20] ∧ Hc = H', ⟨0, Shr.of ⟨rfl, rfl⟩⟩, ?_⟩
  rintro m ys Hc ⟨rfl, rfl⟩
  simp
  refine ⟨fun hh => absurd hh (by omega), fun _ => ?_⟩
  exact Ret.of (Ret.of (h L _ hL hh))

noncomputable def safeL (n : Int) (es : List TEdge) (d : Int) : List Int := if graphOk n es ∧ (0 ≤ d ∧ d < n) then ordL n.toNat (fun x => far n es x d) else []

theorem safeL_len {n : Int} {es : List TEdge} (d : Int) : (safeL n es d).length ≤ 1000 := by
  unfold safeL
  split
  · rename_i h
    have := h.1.1
    have := ordL_len n.toNat (fun x => far n es x d)
    omega
  · simp

set_option maxHeartbeats 1000000 in
theorem C_i_SafeOrder {n d : Int} {v : V} {es : List TEdge} {H : Heap} {K : V → Heap → Prop} (hv : Rd H 3 v (es.map enEdge)) (h : ∀ u H', Held H 1 ((safeL n es d).map ri) u H' → K u H') : ACalls P n_i_SafeOrder [vG n v, .int .i64 d] H K := by
  have hc := hv.cell
  apply W_i_SafeOrder
  unfold F_i_SafeOrder
  simp [hc, bsl_nil]
  intro o1 ho1
  have e1 : Abs.sub H (upd H o1 ⟨1, [[.int .i64 d]]⟩) := sub_fresh ho1
  have p1 : (upd H o1 ⟨1, [[.int .i64 d]]⟩) o1 = some ⟨1, [[.int .i64 d]]⟩ := upd_eq _ _ _
  generalize upd H o1 ⟨1, [[.int .i64 d]]⟩ = H1 at *
  have hv1 := hv.mono e1
  refine C_i_GraphOk hv1 ?_
  simp
  refine ⟨fun q => Ret.shr (h .nils H (by rw [safeL, if_neg (fun hh => q hh.1)]; exact Held.nil)) rfl e1, fun hg => ?_⟩
  have hn := hg.1
  rw [aLd_at p1]
  simp
  refine C_i_Graph_isNode hv1 hn ?_
  simp
  refine ⟨fun q => Ret.shr (h .nils H (by rw [safeL, if_neg (fun hh => by omega)]; exact Held.nil)) rfl e1, fun q1 q2 => ?_⟩
  have hd : 0 ≤ d ∧ d < n := ⟨q1, q2⟩
  rw [safeL, if_pos ⟨hg, hd⟩] at h
  refine C_i_Graph_all hv1 hg fun fv H2 h2 hfv => ?_
  intro o14 ho14
  have hfc := rd2_cell hfv
  rw [aSt_at (upd_eq _ _ _)]
  simp [stz_eq, putCells, hfc]
  have e3 : Abs.sub H2 (upd H2 o14 ⟨1, [[fv]]⟩) := sub_fresh ho14
  have p3 : (upd H2 o14 ⟨1, [[fv]]⟩) o14 = some ⟨1, [[fv]]⟩ := upd_eq _ _ _
  have p1' := e3 _ _ (h2 _ _ p1)
  generalize upd H2 o14 ⟨1, [[fv]]⟩ = H3 at *
  have hf3 := hfv.mono e3
  have s3 := sub_trans e1 (sub_trans h2 e3)
  intro o17 ho17
  refine ⟨InvTab H3 n (fun x => x), ⟨n.toNat, Shr.of (InvTab.start (by omega) ho17)⟩, ?_⟩
  rintro m ys Hc ⟨i, u, Hb, hi, rfl, rfl, hsb, hu, _⟩
  simp
  refine ⟨fun hlt => ?_, fun hge => ?_⟩
  · simp [bsl_one]
    intro o3 ho3
    have hl := tab_len (fun x => x) i
    refine hu.append (sub_fresh ho3) (by simp) (by simp; omega) fun v' H' H'' ho' hs' => ?_
    rw [i64_in (n := (i : Int) + 1) (by omega) (by omega)]
    exact ⟨n.toNat - (i + 1), by omega, H'', hs', i + 1, v', Hb, by omega, by simp, rfl, hsb, by rw [tab_succ]; simpa using ho', Held.notro ho'⟩
  · have e : i = n.toNat := by omega
    subst e
    refine C_SortStable (key := fun x => far n es x d) hu (by omega) (fun x => ?_) (fun Hd hsd x y hx hy K' hk => ?_) fun L H' hL hh => ?_
    · exact .inl (far_in hg x hd.1 hd.2)
    · simp only [callK]
      rw [E_i_SafeOrder_1]
      show ACalls P n_i_SafeOrder_1 [.int .i64 x, .int .i64 y, .ptr o14 0 0, .ptr o1 0 0] Hd K'
      apply W_i_SafeOrder_1
      unfold F_i_SafeOrder_1
      have sd := sub_trans hsb hsd
      have a1 := sd _ _ p1'
      have a3 := sd _ _ p3
      refine ⟨_, Abs.sub_refl _, ?_⟩
      simp [aLd_at a1, aLd_at a3]
      have hfd := hf3.mono sd
      refine far_ld hfd hg (by omega) hd ?_
      refine far_ld hfd hg (by omega) hd ?_
      simp
      have f1 := far_in hg x hd.1 hd.2
      have f2 := far_in hg y hd.1 hd.2
      rw [i64_in (by omega) (by omega)]
      exact Ret.of hk
    · rw [ordL_eq hL] at hh
      exact Ret.held hh (sub_trans s3 hsb) h

def InvO1 (H : Heap) (n : Nat) (key : Int → Int) (v0 : V) (ds : List Int) (dv : V) (m : Nat) (ys : List V) (Hc : Heap) : Prop :=
  ∃ (L : List Int) (u : V) (Hb : Heap), Part n key L ∧ ys = [u] ∧ m = n - L.length ∧ Abs.sub H Hb ∧ Rd Hb 1 dv (ds.map ri) ∧ Held Hb 1 (L.map ri) u Hc
def InvO2 (H : Heap) (n : Nat) (key : Int → Int) (L : List Int) (m : Nat) (ys : List V) (Hc : Heap) : Prop :=
  ∃ i : Nat, i ≤ n ∧ ys = [.int .i64 (bst key L i), .int .i64 (i : Nat)] ∧ m = n - i ∧ Hc = H

set_option maxHeartbeats 1000000 in
theorem C_s_SafeOrder {n d : Int} {v : V} {es : List TEdge} {H : Heap} {K : V → Heap → Prop} (hv : Rd H 3 v (es.map enEdge)) (h : ∀ u H', Held H 1 ((safeL n es d).map ri) u H' → K u H') : ACalls P n_s_SafeOrder [vG n v, .int .i64 d] H K := by
  have hc := hv.cell
  apply W_s_SafeOrder
  unfold F_s_SafeOrder
  simp [hc, bsl_nil]
  intro o1 ho1
  have h0 := Held.new (sz := 1) ho1
  have hv1 := hv.mono h0.sub
  refine C_s_GraphOk hv1 ?_
  simp
  refine ⟨fun q => Ret.shr (h .nils H (by rw [safeL, if_neg (fun hh => q hh.1)]; exact Held.nil)) rfl h0.sub, fun hg => ?_⟩
  have hn := hg.1
  refine C_s_l03Node hv1 hn ?_
  simp
  refine ⟨fun q => Ret.shr (h .nils H (by rw [safeL, if_neg (fun hh => by omega)]; exact Held.nil)) rfl h0.sub, fun q1 q2 => ?_⟩
  have hd : 0 ≤ d ∧ d < n := ⟨q1, q2⟩
  rw [safeL, if_pos ⟨hg, hd⟩] at h
  intro o12 ho12
  refine ⟨InvTab (upd H o1 ⟨1, []⟩) n (fun x => far n es x d), ⟨n.toNat, Shr.of (InvTab.start (by omega) ho12)⟩, ?_⟩
  rintro m ys Hc ⟨i, dv, Hb, hi, rfl, rfl, hsb, hu, _⟩
  simp
  refine ⟨fun hlt => ?_, fun hge => ?_⟩
  · have hsc := sub_trans hsb hu.sub
    refine C_s_Distances (hv1.mono hsc) hg (by omega) fun w H1 hw => ?_
    refine dist_ld (hw.rd ri_len) hg hd ?_
    simp [bsl_one]
    intro o3 ho3
    have hl := tab_len (fun x => far n es x d) i
    obtain ⟨Hb', r1, r2⟩ := hu.swap hw
    refine r2.append (sub_fresh ho3) (by simp) (by simp; omega) fun v' H' H'' ho' hs' => ?_
    rw [i64_in (n := (i : Int) + 1) (by omega) (by omega)]
    exact ⟨n.toNat - (i + 1), by omega, H'', hs', i + 1, v', Hb', by omega, by simp, rfl, sub_trans hsb r1.sub, by rw [tab_succ]; simpa using ho', Held.notro ho'⟩
  · have e : i = n.toNat := by omega
    subst e
    obtain ⟨H0', g1, g2⟩ := h0.rise hsb
    obtain ⟨Hm, g3, g4⟩ := g2.swap hu
    refine ⟨InvO1 H n.toNat (fun x => far n es x d) v (tab (fun x => far n es x d) n.toNat) dv, ⟨n.toNat, Shr.of ⟨[], _, Hm, Part.nil, rfl, by simp, sub_trans g1 g3.sub, g3.rd ri_len, by simpa using g4⟩⟩, ?_⟩
    rintro m ys Hd ⟨L, u, Hb2, hp, rfl, rfl, hs2, hdv, hL⟩
    have hlen := hp.len
    simp [(hL.rd ri_len).len]
    refine ⟨fun hlt => ?_, fun hge => ?_⟩
    · refine ⟨InvO2 Hd n.toNat (fun x => far n es x d) L, ⟨n.toNat, Shr.of ⟨0, by omega, by simp [bst], by omega, rfl⟩⟩, ?_⟩
      rintro m ys He ⟨j, hj, rfl, rfl, rfl⟩
      simp
      refine ⟨fun hlt2 => ⟨_, Abs.sub_refl _, ?_⟩, fun hge2 => ?_⟩
      · refine C_s_l01Has (hL.rd ri_len) (by omega) ⟨Abs.sub_refl _, ?_⟩
        simp
        rw [i64_in (n := (j : Int) + 1) (by omega) (by omega)]
        have step : bst (fun x => far n es x d) L (j + 1) = if (j : Int) ∉ L ∧ (bst (fun x => far n es x d) L j < 0 ∨ far n es j d < far n es (bst (fun x => far n es x d) L j) d) then (j : Int) else bst (fun x => far n es x d) L j := rfl
        have bs := bst_spec (key := fun x => far n es x d) (L := L) j
        have yes : ((j : Int) ∉ L ∧ (bst (fun x => far n es x d) L j < 0 ∨ far n es j d < far n es (bst (fun x => far n es x d) L j) d)) → ∃ n44, n44 < n.toNat - j ∧ Shr (InvO2 He n.toNat (fun x => far n es x d) L n44 [.int .i64 (j : Int), .int .i64 ((j : Int) + 1)]) He := fun hy =>
          ⟨n.toNat - (j + 1), by omega, Shr.of ⟨j + 1, by omega, by rw [step, if_pos hy]; simp, rfl, rfl⟩⟩
        have no : ¬ ((j : Int) ∉ L ∧ (bst (fun x => far n es x d) L j < 0 ∨ far n es j d < far n es (bst (fun x => far n es x d) L j) d)) → ∃ n44, n44 < n.toNat - j ∧ Shr (InvO2 He n.toNat (fun x => far n es x d) L n44 [.int .i64 (bst (fun x => far n es x d) L j), .int .i64 ((j : Int) + 1)]) He := fun hy =>
          ⟨n.toNat - (j + 1), by omega, Shr.of ⟨j + 1, by omega, by rw [step, if_neg hy]; simp, rfl, rfl⟩⟩
        have rdv := hdv.mono hL.sub
        have tl := tab_len (fun x => far n es x d) n.toNat
        refine ⟨fun hin => ⟨fun hneg => yes ⟨hin, .inl hneg⟩, fun hpos => ?_⟩, fun hin => no fun hh => hh.1 hin⟩
        generalize hb : bst (fun x => far n es x d) L j = b at *
        have hbr : 0 ≤ b ∧ b < n := by rcases bs with ⟨q, _⟩ | ⟨q, _⟩ <;> omega
        refine rdv.idx (by omega) (by simp [tl]; omega) fun p hp' => ?_
        rw [hp'.ld, getD_ri (by omega), tab_get (by omega)]
        simp
        refine rdv.idx (by omega) (by simp [tl]; omega) fun p hp' => ?_
        rw [hp'.ld, getD_ri (by omega), tab_get (by omega)]
        simp
        refine ⟨fun q => yes ⟨hin, .inr q⟩, fun q => no ?_⟩
        rintro ⟨_, hh | hh⟩ <;> omega
      · have : j = n.toNat := by omega
        subst this
        simp [bsl_one]
        intro o3 ho3
        refine hL.append (sub_fresh ho3) (by simp) (by simp; omega) fun v' H' H'' ho' hs' => ?_
        exact ⟨n.toNat - (L.length + 1), by omega, H'', hs', L ++ [bst (fun x => far n es x d) L n.toNat], v', Hb2, hp.next (by omega), rfl, by simp, hs2, hdv, by simpa using ho'⟩
    · rw [ordL_eq (hp.done (by omega))] at hL
      exact Ret.held hL hs2 h

end Go.Proofs.Ytipdfhjilegkcaa
