/-
Contracts: the preferred way by the reference; walks around.
-/
import Derived.Test.YtipdfhjilegkcaaStepC
import Derived.Test.YtipdfhjilegkcaaStepR
import Derived.Test.YtipdfhjilegkcaaGraphP
set_option linter.all false
namespace Go.Proofs.Ytipdfhjilegkcaa
open Go Go.Abs Go.Proofs

def goodN (n : Int) (es : List TEdge) (t x y : Int) : Prop := y ≠ x ∧ cost n es x y < 1000000 ∧ far n es y t < 1000000 ∧ fw n es t y + 1 + 1 = fw n es t x + 1 ∧ cost n es x y + far n es y t = far n es x t
theorem nxt_firstN {n : Int} {es : List TEdge} (hg : graphOk n es) {t x : Int} (ht : 0 ≤ t ∧ t < n) (hx : x ≠ t) (hf : far n es x t < 1000000) {j : Nat} (hj : j < n.toNat) (hgd : goodN n es t x j) (hno : ∀ i : Nat, i < j → ¬ goodN n es t x i) : nxt n es t x = j := by
  unfold nxt
  rw [hops_eq hg]
  unfold hopsR
  rw [if_neg (fun hh => by rcases hh with hh | hh; exact hx hh; omega)]
  rw [List.find?_filter]
  have key : ∀ y : Int, 0 ≤ y ∧ y < n → (decide (hopX n es x t y = true ∧ decide (fw n es t y = fw n es t x - 1) = true) = true ↔ goodN n es t x y) := fun y hy => by
    unfold hopX goodN
    simp only [decide_eq_true_eq]
    have hfy := far_in hg y ht.1 ht.2
    have hc := cost_cases hg x y
    constructor
    · rintro ⟨⟨h1, h2, h3⟩, h4⟩
      refine ⟨h1, h2, ?_, by omega, h3⟩
      rcases hc with hc | hc <;> omega
    · rintro ⟨h1, h2, h3, h4, h5⟩
      exact ⟨⟨h1, h2, h5⟩, by omega⟩
  have : ((List.range n.toNat).map (fun i : Nat => (i : Int))).find? (fun a => decide (hopX n es x t a = true ∧ decide (fw n es t a = fw n es t x - 1) = true)) = some (j : Int) := by
    rw [List.find?_eq_some_iff_getElem]
    refine ⟨(key _ (by omega)).2 hgd, j, by simpa using hj, by simp, fun i hi => ?_⟩
    have := hno i hi
    rw [← key _ (by omega)] at this
    rw [Bool.not_eq_true', List.getElem_map, List.getElem_range]
    exact Bool.eq_false_iff.2 this
  rw [this]; rfl

def cheapB (n : Int) (es : List TEdge) (a t : Int) : Prop := graphOk n es ∧ (0 ≤ a ∧ a < n) ∧ (0 ≤ t ∧ t < n) ∧ far n es a t < 1000000
instance (n : Int) (es : List TEdge) (a t : Int) : Decidable (cheapB n es a t) := by unfold cheapB; infer_instance
noncomputable def cheapR (n : Int) (es : List TEdge) (a t : Int) : List Int := if cheapB n es a t then cheap n es t a else []
def InvX1 (Hs : Heap) (n t a : Int) (es : List TEdge) (m : Nat) (ys : List V) (Hc : Heap) : Prop :=
  ∃ (k : Nat) (w : V) (Hb : Heap), (k : Int) ≤ fw n es t a ∧ ys = [w, .int .i64 (iter n es t a k)] ∧ m = (fw n es t a).toNat - k ∧ Abs.sub Hs Hb ∧ Held Hb 1 ((wayTo n es t a k).map ri) w Hc
def InvX2 (n t x : Int) (es : List TEdge) (H : Heap) (m : Nat) (ys : List V) (Hc : Heap) : Prop :=
  ∃ j : Nat, j ≤ n.toNat ∧ ys = [.int .i64 x, .int .i64 (j : Nat)] ∧ m = n.toNat - j ∧ Abs.sub H Hc ∧ ∀ i : Nat, i < j → ¬ goodN n es t x i
set_option maxHeartbeats 4000000 in
theorem C_s_CheapestWay {n a t : Int} {v : V} {es : List TEdge} {H : Heap} {K : V → Heap → Prop} (hv : Rd H 3 v (es.map enEdge))
    (h : ∀ u H', Held H 1 ((cheapR n es a t).map ri) u H' → K (.tup [u, .bool (decide (cheapB n es a t))]) H') : ACalls P n_s_CheapestWay [vG n v, .int .i64 a, .int .i64 t] H K := by
  have hc := hv.cell
  have none_ : ∀ Hx, Abs.sub H Hx → ¬ cheapB n es a t → Ret K (.tup [.nils, .bool false]) Hx := fun Hx hs hno => by
    have := h .nils H (by rw [cheapR, if_neg hno]; exact Held.nil)
    rw [decide_eq_false hno] at this
    exact Ret.shr this rfl hs
  apply W_s_CheapestWay
  unfold F_s_CheapestWay
  simp [hc]
  refine C_s_GraphOk hv ?_
  simp
  refine ⟨fun q => none_ H (Abs.sub_refl _) fun hh => q hh.1, fun hg => ?_⟩
  have hn := hg.1
  refine C_s_l03Node hv hn ?_
  simp
  refine ⟨fun q => none_ H (Abs.sub_refl _) fun hh => by have := hh.2.1; omega, fun q1 q2 => ?_⟩
  refine C_s_l03Node hv hn ?_
  simp
  refine ⟨fun q => none_ H (Abs.sub_refl _) fun hh => by have := hh.2.2.1; omega, fun q3 q4 => ?_⟩
  have ha : 0 ≤ a ∧ a < n := ⟨q1, q2⟩
  have ht : 0 ≤ t ∧ t < n := ⟨q3, q4⟩
  refine C_s_l03Steps hv hg ht fun us uw W H1 s1 rs rw' wl hW => ?_
  have sl := tab_len (fun x => if far n es x t < 1000000 then fw n es t x + 1 else 0) n.toNat
  simp
  refine rw'.idx ha.1 (by simp; omega) fun p hp => ?_
  rw [hp.ld, getD_ri (by omega)]
  simp
  simp only [← List.getD_eq_getElem?_getD]
  have hWa := hW a ha
  unfold nd at hWa
  refine ⟨fun q => none_ H1 s1 fun hh => (hWa.1.1 (by omega)) hh.2.2.2, fun q => ?_⟩
  have hlt : far n es a t < 1000000 := by
    apply Classical.byContradiction
    intro hh
    have := hWa.1.2 hh
    omega
  have hB : cheapB n es a t := ⟨hg, ha, ht, hlt⟩
  rw [cheapR, if_pos hB, decide_eq_true hB] at h
  have hfw := (fw_lt hg ht ha).2 hlt
  have hfi := fw_in hg t a
  simp [bsl_one]
  intro o3 ho3
  have h3 : Held H1 1 ((wayTo n es t a 0).map ri) (.slice o3 0 1 (some 1)) (upd H1 o3 ⟨1, [[.int .i64 a]]⟩) := Held.full (rows := (wayTo n es t a 0).map ri) ho3 rfl
  refine ⟨InvX1 H1 n t a es, ⟨(fw n es t a).toNat, Shr.of ⟨0, _, H1, by omega, by simp [iter], by omega, Abs.sub_refl _, h3⟩⟩, ?_⟩
  rintro m ys Hc ⟨k, w, Hb, hk, rfl, rfl, hsb, hw⟩
  obtain ⟨i1, i2⟩ := iter_fw hg ht ha hfw k hk
  have i3 := iter_end hg ht ha hfw k hk
  simp
  refine ⟨fun hne => ?_, fun heq => ?_⟩
  · have hkl : (k : Int) < fw n es t a := by
      by_cases e : (k : Int) = fw n es t a
      · exact absurd (i3.2 e) hne
      · omega
    generalize hx : iter n es t a k = x at *
    have hfx : far n es x t < 1000000 := (fw_lt hg ht i2).1 (by omega)
    have hsp := nxt_spec hg ht hne (by omega : fw n es t x < 1000000)
    have hs1 := sub_trans hsb hw.sub
    refine C_s_Distances (hv.mono (sub_trans s1 hs1)) hg i2 fun ud H2 hd => ?_
    refine dist_ld (hd.rd ri_len) hg ht ?_
    refine ⟨InvX2 n t x es H2, ⟨n.toNat, Shr.of ⟨0, by omega, rfl, by omega, Abs.sub_refl _, fun i hi => by omega⟩⟩, ?_⟩
    rintro m ys Hd ⟨j, hj, rfl, rfl, hs2, hno⟩
    have hsd := sub_trans hs1 (sub_trans hd.sub hs2)
    simp
    rw [i64_in (n := (j : Int) + 1) (by omega) (by omega)]
    refine ⟨fun hlt2 => ?_, fun hge2 => ?_⟩
    · have hjr : 0 ≤ (j : Int) ∧ (j : Int) < n := by omega
      have stay : ∀ Hz, Abs.sub Hd Hz → ¬ goodN n es t x (j : Int) → ∃ n38, n38 < n.toNat - j ∧ Shr (InvX2 n t x es H2 n38 [.int .i64 x, .int .i64 ((j : Int) + 1)]) Hz := fun Hz hz hng =>
        ⟨n.toNat - (j + 1), by omega, Shr.of ⟨j + 1, by omega, by simp, rfl, sub_trans hs2 hz, fun i hi => by
          by_cases e : i = j
          · subst e; exact hng
          · exact hno i (by omega)⟩⟩
      refine C_s_l03Cost (hv.mono (sub_trans s1 hsd)) hg ?_
      have hco := cost_cases hg x (j : Int)
      have hfj := far_in hg (j : Int) ht.1 ht.2
      have hfwj := fw_in hg t (j : Int)
      have hfwx := fw_in hg t x
      simp
      refine ⟨fun c1 => ?_, fun c1 => stay Hd (Abs.sub_refl _) fun hh => hh.1 c1⟩
      refine ⟨fun c2 => ?_, fun c2 => stay Hd (Abs.sub_refl _) fun hh => by have := hh.2.1; omega⟩
      refine (rw'.mono hsd).idx hjr.1 (by simp; omega) fun p hp => ?_
      rw [hp.ld, getD_ri (by omega)]
      simp
      simp only [← List.getD_eq_getElem?_getD]
      have hWj := hW (j : Int) hjr
      unfold nd at hWj
      simp only [Int.toNat_natCast] at hWj
      refine ⟨fun c3 => ?_, fun c3 => stay Hd (Abs.sub_refl _) fun hh => absurd hh.2.2.1 (hWj.1.1 c3)⟩
      have hfl : far n es (j : Int) t < 1000000 := by
        apply Classical.byContradiction
        intro hh
        have := hWj.1.2 hh
        omega
      refine (rs.mono hsd).idx hjr.1 (by simp [sl]; omega) fun p hp => ?_
      rw [hp.ld, getD_ri (by omega), tab_get (by omega), if_pos hfl]
      simp
      refine (rs.mono hsd).idx i2.1 (by simp [sl]; omega) fun p hp => ?_
      rw [hp.ld, getD_ri (by omega), tab_get (by omega), if_pos hfx]
      simp
      rw [i64_in (n := fw n es t (j : Int) + 1 + 1) (by omega) (by omega)]
      refine ⟨fun c4 => ?_, fun c4 => stay Hd (Abs.sub_refl _) fun hh => by have := hh.2.2.2.1; omega⟩
      refine C_s_Distances (hv.mono (sub_trans s1 hsd)) hg hjr fun ue H3 he => ?_
      refine dist_ld (he.rd ri_len) hg ht ?_
      simp
      rw [i64_in (n := cost n es x (j : Int) + far n es (j : Int) t) (by omega) (by omega)]
      refine ⟨fun c5 => ?_, fun c5 => stay H3 he.sub fun hh => c5 hh.2.2.2.2⟩
      have hnx := nxt_firstN hg ht hne hfx (by omega : j < n.toNat) ⟨c1, c2, hfl, by omega, c5⟩ hno
      simp [bsl_one]
      intro o5 ho5
      have hwl := wayTo_len n es t a k
      obtain ⟨Hy, y1, y2⟩ := hw.rise (sub_trans hd.sub (sub_trans hs2 he.sub))
      refine y2.append (sub_fresh ho5) (by simp) (by simp; omega) fun v' H' H'' ho' hs' => ?_
      have e4 : iter n es t a (k + 1) = (j : Int) := by rw [iter, hx, hnx]
      refine ⟨(fw n es t a).toNat - (k + 1), by omega, H'', hs', k + 1, v', Hy, by omega, by rw [e4], rfl, sub_trans hsb y1, ?_⟩
      rw [wayTo, e4, List.map_append]
      exact ho'
    · exfalso
      obtain ⟨e, he, e1, e2, e3, _⟩ := hop_edge hsp.1
      have ho := edge_ok hg he
      rw [e1, e2] at ho
      have hc1 : cost n es x (nxt n es t x) = e.2.2 := by
        have := look_edge hg he
        rw [e1, e2] at this
        rw [cost_look ho.2.2.1]
        exact this
      have hfy : far n es (nxt n es t x) t < 1000000 := (fw_lt hg ht ho.2.1).1 (by omega)
      have hg2 : goodN n es t x (nxt n es t x) := ⟨fun hh => ho.2.2.1 hh.symm, by omega, hfy, by omega, by rw [hc1]; exact e3⟩
      refine hno (nxt n es t x).toNat (by omega) ?_
      rw [Int.toNat_of_nonneg ho.2.1.1]
      exact hg2
  · have e := i3.1 heq
    have hK := h w
    have ek : (fw n es t a).toNat = k := by omega
    rw [cheap, if_pos hlt, ek] at hK
    obtain ⟨Hz, z1, z2⟩ := hw.shrink (sub_trans s1 hsb)
    exact Ret.shr (hK _ z1) rfl z2

/-! #### walks around -/
noncomputable def wB (n : Int) (es : List TEdge) (s f d : Int) : Int := bestA n es s d (altsR n es s f d)
noncomputable def wAround (n : Int) (es : List TEdge) (s f d : Int) : List Int := if wB n es s f d < 0 then [] else s :: cheapR n es (wB n es s f d) d
theorem wB_in {n : Int} {es : List TEdge} {s f d : Int} (h : ¬ wB n es s f d < 0) : around n es [s, f, d] ∧ wB n es s f d ∈ altsR n es s f d := by
  unfold wB at *
  by_cases ha : around n es [s, f, d]
  · refine ⟨ha, ?_⟩
    have key : ∀ (l : List Int) (x : Int), (x < 0 ∨ x ∈ altsR n es s f d) → (∀ y ∈ l, y ∈ altsR n es s f d) → (l.foldl (pickA n es s d) x < 0 ∨ l.foldl (pickA n es s d) x ∈ altsR n es s f d) := by
      intro l
      induction l with
      | nil => exact fun x hx _ => hx
      | cons y l ih =>
        intro x hx hl
        refine ih _ ?_ fun z hz => hl z (List.mem_cons_of_mem _ hz)
        unfold pickA
        split
        · exact .inr (hl y (by simp))
        · exact hx
    rcases key (altsR n es s f d) (-1) (.inl (by omega)) (fun y hy => hy) with q | q
    · exact absurd q h
    · exact q
  · have : altsR n es s f d = [] := by rw [altsR, if_neg ha]
    rw [this] at h
    simp [bestA] at h
theorem wAround_len {n : Int} {es : List TEdge} (s f d : Int) : (wAround n es s f d).length ≤ 1000 := by
  unfold wAround
  split
  · simp
  · unfold cheapR
    split
    · rename_i hB
      have hg := hB.1
      have hn := hg.1
      have := fw_in hg d (wB n es s f d)
      have h2 := (fw_lt hg hB.2.2.1 hB.2.1).2 hB.2.2.2
      unfold cheap
      split
      · rw [List.length_cons, wayTo_len]; omega
      · simp
    · simp
theorem alts_node {n : Int} {es : List TEdge} {s f d x : Int} (h : x ∈ altsR n es s f d) : lfree n es s x d ∧ (0 ≤ x ∧ x < n) ∧ x ≠ f ∧ near n es s f := by
  unfold altsR at h
  split at h
  · unfold alts at h
    split at h
    · rename_i hn
      have hm := mem_fil h
      have := hm.2
      simp only [altQ, decide_eq_true_eq] at this
      exact ⟨this.2, by omega, this.1, hn⟩
    · simp at h
  · simp at h
set_option maxHeartbeats 1000000 in
theorem C_i_WalkAround {n s f d : Int} {v : V} {es : List TEdge} {H : Heap} {K : V → Heap → Prop} (hv : Rd H 3 v (es.map enEdge))
    (h : ∀ u H', Held H 1 ((wAround n es s f d).map ri) u H' → K (.tup [u, .bool (decide (¬ wB n es s f d < 0))]) H') : ACalls P n_i_WalkAround [vG n v, .int .i64 s, .int .i64 f, .int .i64 d] H K := by
  have hc := hv.cell
  have hlen := wAround_len (n := n) (es := es) s f d
  apply W_i_WalkAround
  unfold F_i_WalkAround
  simp [hc]
  refine C_i_BestAlternate hv ?_
  have hwb : bestA n es s d (altsR n es s f d) = wB n es s f d := rfl
  rw [hwb]
  simp
  refine ⟨fun q => ?_, fun q => ?_⟩
  · have := h .nils H (by rw [wAround, if_pos q]; exact Held.nil)
    rw [decide_eq_false (by simpa using q)] at this
    exact Ret.of this
  · obtain ⟨har, hm⟩ := wB_in (by omega : ¬ wB n es s f d < 0)
    have hx := alts_node hm
    have hd := (nodesOk_three har.2.2).2.2
    rw [wAround, if_neg (by omega), decide_eq_true (by omega)] at h
    rw [wAround, if_neg (by omega)] at hlen
    have hB : cheapB n es (wB n es s f d) d := ⟨har.1, hx.2.1, hd, hx.1.2.2.1⟩
    rw [cheapR, if_pos hB] at h hlen
    refine C_i_Graph_cheapest hv har.1 hx.2.1 hd fun u H1 hu => ?_
    simp [bsl_one]
    intro o2 ho2
    have hne : cheap n es d (wB n es s f d) ≠ [] := by
      rw [cheap, if_pos hx.1.2.2.1]
      intro hh
      have := congrArg List.length hh
      rw [wayTo_len] at this
      simp at this
    have h2 : Held H1 1 [[.int .i64 s]] (.slice o2 0 1 (some 1)) (upd H1 o2 ⟨1, [[.int .i64 s]]⟩) := Held.full ho2 rfl
    rw [((hu.rd ri_len).mono h2.sub).rows (Held.notro hu)]
    simp
    refine h2.append (Abs.sub_refl _) (by simpa using hne) (by simp at hlen ⊢; omega) fun v' H' H'' ho' hs' => ?_
    obtain ⟨Hz, z1, z2⟩ := ho'.shrink hu.sub
    exact Ret.shr (h v' Hz (by simpa using z1)) rfl (sub_trans z2 hs')
set_option maxHeartbeats 1000000 in
theorem C_s_WalkAround {n s f d : Int} {v : V} {es : List TEdge} {H : Heap} {K : V → Heap → Prop} (hv : Rd H 3 v (es.map enEdge))
    (h : ∀ u H', Held H 1 ((wAround n es s f d).map ri) u H' → K (.tup [u, .bool (decide (¬ wB n es s f d < 0))]) H') : ACalls P n_s_WalkAround [vG n v, .int .i64 s, .int .i64 f, .int .i64 d] H K := by
  have hc := hv.cell
  have hlen := wAround_len (n := n) (es := es) s f d
  apply W_s_WalkAround
  unfold F_s_WalkAround
  simp [hc]
  refine C_s_BestAlternate hv ?_
  have hwb : bestA n es s d (altsR n es s f d) = wB n es s f d := rfl
  rw [hwb]
  simp
  refine ⟨fun q => ?_, fun q => ?_⟩
  · have := h .nils H (by rw [wAround, if_pos q]; exact Held.nil)
    rw [decide_eq_false (by simpa using q)] at this
    exact Ret.of this
  · obtain ⟨har, hm⟩ := wB_in (by omega : ¬ wB n es s f d < 0)
    have hx := alts_node hm
    have hd := (nodesOk_three har.2.2).2.2
    rw [wAround, if_neg (by omega), decide_eq_true (by omega)] at h
    rw [wAround, if_neg (by omega)] at hlen
    have hB : cheapB n es (wB n es s f d) d := ⟨har.1, hx.2.1, hd, hx.1.2.2.1⟩
    refine C_s_CheapestWay hv fun u H1 hu => ?_
    simp [bsl_one]
    intro o2 ho2
    have hne : cheapR n es (wB n es s f d) d ≠ [] := by
      rw [cheapR, if_pos hB, cheap, if_pos hx.1.2.2.1]
      intro hh
      have := congrArg List.length hh
      rw [wayTo_len] at this
      simp at this
    have h2 : Held H1 1 [[.int .i64 s]] (.slice o2 0 1 (some 1)) (upd H1 o2 ⟨1, [[.int .i64 s]]⟩) := Held.full ho2 rfl
    rw [((hu.rd ri_len).mono h2.sub).rows (Held.notro hu)]
    simp
    refine h2.append (Abs.sub_refl _) (by simpa using hne) (by simp at hlen ⊢; omega) fun v' H' H'' ho' hs' => ?_
    obtain ⟨Hz, z1, z2⟩ := ho'.shrink hu.sub
    exact Ret.shr (h v' Hz (by simpa using z1)) rfl (sub_trans z2 hs')

end Go.Proofs.Ytipdfhjilegkcaa
