/-
Contracts: the fewest nodes of a cheapest way, by the reference.
-/
import Derived.Test.YtipdfhjilegkcaaStepP
import Derived.Test.YtipdfhjilegkcaaGraphH
import Derived.Test.YtipdfhjilegkcaaOrder
set_option linter.all false
namespace Go.Proofs.Ytipdfhjilegkcaa
open Go Go.Abs Go.Proofs

def bsf (key : Int → Int) (L : List Int) : Nat → Int
  | 0 => -1
  | i + 1 => if (i : Int) ∉ L ∧ key i < 1000000 ∧ (bsf key L i < 0 ∨ key i < key (bsf key L i)) then i else bsf key L i
theorem bsf_spec {key : Int → Int} {L : List Int} : ∀ i : Nat, (bsf key L i = -1 ∧ ∀ y : Int, 0 ≤ y → y < i → y ∈ L ∨ 1000000 ≤ key y) ∨
    ((0 ≤ bsf key L i ∧ bsf key L i < i) ∧ bsf key L i ∉ L ∧ key (bsf key L i) < 1000000 ∧ ∀ y : Int, 0 ≤ y → y < i → y ∉ L → key y < 1000000 → key (bsf key L i) ≤ key y)
  | 0 => .inl ⟨rfl, fun y h1 h2 => by omega⟩
  | i + 1 => by
    have ih := bsf_spec (key := key) (L := L) i
    rw [bsf]
    split
    · rename_i hc
      refine .inr ⟨by omega, hc.1, hc.2.1, fun y y0 y1 hy hk => ?_⟩
      by_cases e : y = (i : Int)
      · subst e; omega
      · rcases ih with ⟨h1, h2⟩ | ⟨h1, h2, h3, h4⟩
        · rcases h2 y y0 (by omega) with h | h
          · exact absurd h hy
          · omega
        · have := h4 y y0 (by omega) hy hk
          omega
    · rename_i hc
      rcases ih with ⟨h1, h2⟩ | ⟨h1, h2, h3, h4⟩
      · refine .inl ⟨h1, fun y y0 y1 => ?_⟩
        by_cases e : y = (i : Int)
        · subst e
          by_cases hm : (i : Int) ∈ L
          · exact .inl hm
          · by_cases hk : key i < 1000000
            · exact absurd ⟨hm, hk, .inl (by omega)⟩ hc
            · exact .inr (by omega)
        · exact h2 y y0 (by omega)
      · refine .inr ⟨by omega, h2, h3, fun y y0 y1 hy hk => ?_⟩
        by_cases e : y = (i : Int)
        · subst e
          by_cases hl : key i < key (bsf key L i)
          · exact absurd ⟨hy, hk, .inr hl⟩ hc
          · omega
        · exact h4 y y0 (by omega) hy hk

def tgt (n : Int) (es : List TEdge) (t a y : Int) : Prop := y ≠ a ∧ cost n es a y ≠ 1000000 ∧ far n es y t ≠ 1000000 ∧ cost n es a y + far n es y t = far n es a t
instance (n : Int) (es : List TEdge) (t a y : Int) : Decidable (tgt n es t a y) := by unfold tgt; infer_instance
noncomputable def ms (n : Int) (es : List TEdge) (t a : Int) : Nat → Int
  | 0 => 0
  | j + 1 => if tgt n es t a j ∧ (ms n es t a j = 0 ∨ fw n es t j + 2 < ms n es t a j) then fw n es t j + 2 else ms n es t a j
theorem ms_spec {n : Int} {es : List TEdge} (hg : graphOk n es) {t a : Int} : ∀ j : Nat, (ms n es t a j = 0 ∧ ∀ y : Int, 0 ≤ y → y < j → ¬ tgt n es t a y) ∨ (∃ y : Int, 0 ≤ y ∧ y < j ∧ tgt n es t a y ∧ ms n es t a j = fw n es t y + 2 ∧ ∀ z : Int, 0 ≤ z → z < j → tgt n es t a z → fw n es t y ≤ fw n es t z)
  | 0 => .inl ⟨rfl, fun y h1 h2 => by omega⟩
  | j + 1 => by
    have ih := ms_spec hg (t := t) (a := a) j
    rw [ms]
    split
    · rename_i hc
      refine .inr ⟨j, by omega, by omega, hc.1, rfl, fun z z0 z1 hz => ?_⟩
      by_cases e : z = (j : Int)
      · subst e; omega
      · rcases ih with ⟨h1, h2⟩ | ⟨y, y0, y1, h1, h2, h3⟩
        · exact absurd hz (h2 z z0 (by omega))
        · have := h3 z z0 (by omega) hz
          have := fw_in hg t y
          omega
    · rename_i hc
      rcases ih with ⟨h1, h2⟩ | ⟨y, y0, y1, h1, h2, h3⟩
      · refine .inl ⟨h1, fun z z0 z1 => ?_⟩
        by_cases e : z = (j : Int)
        · subst e; exact fun hz => hc ⟨hz, .inl h1⟩
        · exact h2 z z0 (by omega)
      · refine .inr ⟨y, y0, by omega, h1, h2, fun z z0 z1 hz => ?_⟩
        by_cases e : z = (j : Int)
        · subst e
          by_cases hl : fw n es t j + 2 < ms n es t a j
          · exact absurd ⟨hz, .inr hl⟩ hc
          · omega
        · exact h3 z z0 (by omega) hz
theorem tgt_edge {n : Int} {es : List TEdge} (hg : graphOk n es) {t a y : Int} (ht : 0 ≤ t ∧ t < n) (ha : far n es a t < 1000000) (h : tgt n es t a y) : ∃ e, e ∈ es ∧ e.1 = a ∧ e.2.1 = y ∧ tight n es t e := by
  obtain ⟨h1, h2, h3, h4⟩ := h
  rw [cost_look (fun e => h1 e.symm)] at h2 h4
  obtain ⟨e, he, e1, e2, e3⟩ := look_mem h2
  exact ⟨e, he, e1, e2, by unfold tight; rw [e1, e2, ← e3]; exact ⟨ha, h4⟩⟩
theorem edge_tgt {n : Int} {es : List TEdge} (hg : graphOk n es) {t : Int} {e : TEdge} (he : e ∈ es) (h : tight n es t e) : tgt n es t e.1 e.2.1 := by
  have ho := edge_ok hg he
  have hl := look_edge hg he
  unfold tgt
  rw [cost_look ho.2.2.1, hl]
  have := h.1
  have := h.2
  exact ⟨fun hh => ho.2.2.1 hh.symm, by omega, by omega, h.2⟩
theorem ms_fw {n : Int} {es : List TEdge} (hg : graphOk n es) {t a : Int} (ht : 0 ≤ t ∧ t < n) (ha : 0 ≤ a ∧ a < n) (hne : a ≠ t) (hf : far n es a t < 1000000) : ms n es t a n.toNat = fw n es t a + 1 := by
  have hw := (fw_lt hg ht ha).2 hf
  obtain ⟨e, he, rfl, h2, h3⟩ := fw_next (n := n) (es := es) hne hw
  have ho := (edge_ok hg he).2.1
  rcases ms_spec hg (t := t) (a := e.1) n.toNat with ⟨_, g2⟩ | ⟨y, y0, y1, g1, g2, g3⟩
  · exact absurd (edge_tgt hg he h2) (g2 _ ho.1 (by omega))
  · have l1 := g3 _ ho.1 (by omega) (edge_tgt hg he h2)
    obtain ⟨f, hf', f1, f2, f3⟩ := tgt_edge hg ht hf g1
    have l2 := fw_edge hg hf' f3
    rw [f1, f2] at l2
    omega

def rb (b : Bool) : List V := [.bool b]
def tabB (q : Int → Bool) (i : Nat) : List Bool := (List.range i).map fun x : Nat => q (x : Int)
theorem tabB_len (q : Int → Bool) (i : Nat) : (tabB q i).length = i := by simp [tabB]
theorem tabB_get {q : Int → Bool} {n : Nat} {x : Int} (h : 0 ≤ x ∧ x < n) : ((tabB q n).map rb).getD x.toNat [] = [.bool (q x)] := by
  have h1 : x.toNat < n := by omega
  have e : ((x.toNat : Nat) : Int) = x := by omega
  simp [tabB, h1, e, rb]
theorem tabB_set {L : List Int} {n : Nat} {x : Int} (h : 0 ≤ x ∧ x < n) : (tabB (fun y => decide (y ∈ L)) n).set x.toNat true = tabB (fun y => decide (y ∈ L ++ [x])) n := by
  apply List.ext_getElem?
  intro j
  by_cases hj : x.toNat = j
  · subst hj
    have h1 : x.toNat < n := by omega
    have e : ((x.toNat : Nat) : Int) = x := by omega
    rw [List.getElem?_set_self (by rw [tabB_len]; omega)]
    simp [tabB, h1, e]
  · rw [List.getElem?_set_ne hj]
    by_cases hl : j < n
    · have : ¬ (j : Int) = x := by omega
      simp [tabB, hl, this]
    · rw [List.getElem?_eq_none (by rw [tabB_len]; omega), List.getElem?_eq_none (by rw [tabB_len]; omega)]

structure L3 (Hb : Heap) (oS oW oD : Nat) (S W : List Int) (D : List Bool) (H : Heap) : Prop where
  s : H oS = some ⟨1, S.map ri⟩
  w : H oW = some ⟨1, W.map ri⟩
  d : H oD = some ⟨1, D.map rb⟩
  sub : Abs.sub Hb H
  ns : Hb oS = none
  nw : Hb oW = none
  nd : Hb oD = none
  sw : oS ≠ oW
  sd : oS ≠ oD
  wd : oW ≠ oD
section
variable {Hb H : Heap} {oS oW oD : Nat} {S W : List Int} {D : List Bool}
theorem L3.setS (h : L3 Hb oS oW oD S W D H) (S' : List Int) : L3 Hb oS oW oD S' W D (upd H oS ⟨1, S'.map ri⟩) :=
  ⟨upd_eq _ _ _, by rw [upd_off (Ne.symm h.sw)]; exact h.w, by rw [upd_off (Ne.symm h.sd)]; exact h.d, sub_upd_of h.sub h.ns, h.ns, h.nw, h.nd, h.sw, h.sd, h.wd⟩
theorem L3.setW (h : L3 Hb oS oW oD S W D H) (W' : List Int) : L3 Hb oS oW oD S W' D (upd H oW ⟨1, W'.map ri⟩) :=
  ⟨by rw [upd_off h.sw]; exact h.s, upd_eq _ _ _, by rw [upd_off (Ne.symm h.wd)]; exact h.d, sub_upd_of h.sub h.nw, h.ns, h.nw, h.nd, h.sw, h.sd, h.wd⟩
theorem L3.setD (h : L3 Hb oS oW oD S W D H) (D' : List Bool) : L3 Hb oS oW oD S W D' (upd H oD ⟨1, D'.map rb⟩) :=
  ⟨by rw [upd_off h.sd]; exact h.s, by rw [upd_off h.wd]; exact h.w, upd_eq _ _ _, sub_upd_of h.sub h.nd, h.ns, h.nw, h.nd, h.sw, h.sd, h.wd⟩
end
theorem rb_len {xs : List Bool} : ∀ r ∈ xs.map rb, r.length = 1 := by
  intro r hr
  obtain ⟨b, _, rfl⟩ := List.mem_map.1 hr
  rfl
/-- Reading and writing a number of a slice that stands whole in its object. -/
theorem ld_at {H : Heap} {o n : Nat} {c : Option Nat} {xs : List Int} {i : Int} {K : V → Prop} (h : H o = some ⟨1, xs.map ri⟩) (hn : xs.length = n) (h0 : 0 ≤ i ∧ i < n) (hk : K (.int .i64 (nd xs i))) : bnd (aIndex H 1 (.slice o 0 n c) (.int .i64 i)) fun t => bnd (aLd false 1 H t) K := by
  have r : Rd H 1 (.slice o 0 n c) (xs.map ri) := by
    have := Rd.own (cap := c) (rows := xs.map ri) ri_len h
    simpa [hn] using this
  refine r.idx h0.1 (by simp; omega) fun p hp => ?_
  rw [hp.ld, getD_ri (by omega)]
  exact hk
theorem ldB_at {H : Heap} {o n : Nat} {c : Option Nat} {q : Int → Bool} {i : Int} {K : V → Prop} (h : H o = some ⟨1, (tabB q n).map rb⟩) (h0 : 0 ≤ i ∧ i < n) (hk : K (.bool (q i))) : bnd (aIndex H 1 (.slice o 0 n c) (.int .i64 i)) fun t => bnd (aLd false 1 H t) K := by
  have r : Rd H 1 (.slice o 0 n c) ((tabB q n).map rb) := by
    have := Rd.own (cap := c) (rows := (tabB q n).map rb) rb_len h
    simpa [tabB_len] using this
  refine r.idx h0.1 (by simp [tabB_len]; omega) fun p hp => ?_
  rw [hp.ld, tabB_get h0]
  exact hk
theorem st_at {H : Heap} {o n : Nat} {c : Option Nat} {xs : List Int} {i y : Int} {K : Heap → Prop} (h : H o = some ⟨1, xs.map ri⟩) (hn : xs.length = n) (h0 : 0 ≤ i ∧ i < n) (hk : K (upd H o ⟨1, (xs.set i.toNat y).map ri⟩)) : bnd (aIndex H 1 (.slice o 0 n c) (.int .i64 i)) fun t => bnd (aSt 1 H t (.int .i64 y)) K := by
  rw [aIndex_own h rfl h0.1 (by omega)]
  simp only [bnd_some]
  have hi : i.toNat < xs.length := by omega
  rw [aSt_own h (row := ri xs[i.toNat]) (row' := ri y) (by simp [hi]) (by simp [stz_eq, putCells])]
  simp only [bnd_some, Nat.zero_add]
  rw [map_set_ri]
  exact hk
theorem stB_at {H : Heap} {o n : Nat} {c : Option Nat} {L : List Int} {i : Int} {K : Heap → Prop} (h : H o = some ⟨1, (tabB (fun y => decide (y ∈ L)) n).map rb⟩) (h0 : 0 ≤ i ∧ i < n) (hk : K (upd H o ⟨1, (tabB (fun y => decide (y ∈ L ++ [i])) n).map rb⟩)) : bnd (aIndex H 1 (.slice o 0 n c) (.int .i64 i)) fun t => bnd (aSt 1 H t (.bool true)) K := by
  rw [aIndex_own h rfl h0.1 (by omega)]
  simp only [bnd_some]
  have hi : i.toNat < (tabB (fun y => decide (y ∈ L)) n).length := by rw [tabB_len]; omega
  rw [aSt_own h (row := rb (tabB (fun y => decide (y ∈ L)) n)[i.toNat]) (row' := rb true) (by simp [hi]) (by simp [stz_eq, putCells, rb])]
  simp only [bnd_some, Nat.zero_add]
  have e : (List.map rb (tabB (fun y => decide (y ∈ L)) n)).set i.toNat (rb true) = (tabB (fun y => decide (y ∈ L ++ [i])) n).map rb := by rw [← tabB_set h0, List.map_set]
  rw [e]
  exact hk

def p10 : Nat → Int
  | 0 => 1
  | k + 1 => 10 * p10 k
theorem p10_pos : ∀ k, 1 ≤ p10 k
  | 0 => by simp [p10]
  | k + 1 => by have := p10_pos k; rw [p10]; omega
theorem p10_le : ∀ {k : Nat}, k ≤ 10 → p10 k ≤ 10000000000
  | 0, _ | 1, _ | 2, _ | 3, _ | 4, _ | 5, _ | 6, _ | 7, _ | 8, _ | 9, _ | 10, _ => by decide
  | k + 11, h => by omega
noncomputable def stL (n : Int) (es : List TEdge) (t : Int) (L : List Int) (x : Int) : Int := if x ∈ L then fw n es t x + 1 else 0
structure LOk (n : Int) (es : List TEdge) (t : Int) (L : List Int) (W : List Int) : Prop where
  nodup : L.Pairwise (· ≠ ·)
  mem : ∀ x ∈ L, (0 ≤ x ∧ x < n) ∧ far n es x t < 1000000
  wl : W.length = n.toNat
  yes : ∀ x ∈ L, 1 ≤ nd W x ∧ nd W x ≤ p10 L.length
  no : ∀ x, 0 ≤ x ∧ x < n → x ∉ L → nd W x = 0
theorem LOk.len {n : Int} {es : List TEdge} {t : Int} {L W : List Int} (h : LOk n es t L W) : L.length ≤ n.toNat := by
  apply Classical.byContradiction
  intro hc
  have hd := List.pairwise_iff_getElem.1 h.nodup
  obtain ⟨i, j, h1, h2, h3⟩ := pigeon n.toNat (fun x => (L.getD x 0).toNat) fun j hj => by
    have hj' : j < L.length := by omega
    have := (h.mem _ (List.getElem_mem hj')).1
    simp only [List.getD_eq_getElem?_getD, List.getElem?_eq_getElem hj', Option.getD_some]
    omega
  have hi' : i < L.length := by omega
  have hj' : j < L.length := by omega
  simp only [List.getD_eq_getElem?_getD, List.getElem?_eq_getElem hj', List.getElem?_eq_getElem hi', Option.getD_some] at h3
  have a := (h.mem _ (List.getElem_mem hi')).1
  have b := (h.mem _ (List.getElem_mem hj')).1
  exact hd i j hi' hj' h1 (by omega)
theorem LOk.add {n : Int} {es : List TEdge} {t : Int} {L W : List Int} (h : LOk n es t L W) {a y : Int} (ha : 0 ≤ a ∧ a < n) (hL : a ∉ L) (hf : far n es a t < 1000000) (hy : 1 ≤ y ∧ y ≤ 10 * p10 L.length) : LOk n es t (L ++ [a]) (W.set a.toNat y) := by
  have hset : ∀ x, 0 ≤ x → nd (W.set a.toNat y) x = if a = x then y else nd W x := fun x hx => nd_set (by have := h.wl; omega) hx
  have hp := p10_pos L.length
  refine ⟨List.pairwise_append.2 ⟨h.nodup, by simp, fun x hx z hz => by simp at hz; subst hz; rintro rfl; exact hL hx⟩, fun x hx => ?_, by simpa using h.wl, fun x hx => ?_, fun x hx hn => ?_⟩
  · rcases List.mem_append.1 hx with hx | hx
    · exact h.mem x hx
    · simp at hx; subst hx; exact ⟨ha, hf⟩
  · rw [List.length_append]
    have e : p10 (L.length + [a].length) = 10 * p10 L.length := rfl
    rw [e]
    rcases List.mem_append.1 hx with hx | hx
    · rw [hset x (h.mem x hx).1.1, if_neg (by rintro rfl; exact hL hx)]
      have := h.yes x hx
      omega
    · simp at hx; subst hx
      rw [hset x ha.1, if_pos rfl]
      exact hy
  · simp at hn
    rw [hset x hx.1, if_neg (fun e => hn.2 e.symm)]
    exact h.no x hx hn.1
theorem stL_add {n : Int} {es : List TEdge} {t : Int} {L : List Int} {a : Int} (ha : 0 ≤ a ∧ a < n) : (tab (stL n es t L) n.toNat).set a.toNat (fw n es t a + 1) = tab (stL n es t (L ++ [a])) n.toNat := by
  rw [tab_set (by omega)]
  refine tab_ext fun z z0 z1 => ?_
  unfold stL
  by_cases e : z = a
  · subst e; simp
  · simp [e]

def InvR1 (Hb : Heap) (oS oW oD : Nat) (n t : Int) (es : List TEdge) (v : V) (m : Nat) (ys : List V) (Hc : Heap) : Prop :=
  ∃ (L W : List Int), ys = [.box [.int .i64 n, v], .int .i64 (L.length : Nat)] ∧ m = n.toNat - L.length ∧ LOk n es t L W ∧ L3 Hb oS oW oD (tab (stL n es t L) n.toNat) W (tabB (fun y => decide (y ∈ L)) n.toNat) Hc
def InvR2 (n t : Int) (es : List TEdge) (L : List Int) (H : Heap) (m : Nat) (ys : List V) (Hc : Heap) : Prop :=
  ∃ i : Nat, i ≤ n.toNat ∧ ys = [.int .i64 (bsf (fun x => far n es x t) L i), .int .i64 (i : Nat)] ∧ m = n.toNat - i ∧ Hc = H
def InvR3 (Hb : Heap) (oS oW oD : Nat) (n t a : Int) (es : List TEdge) (v : V) (L W : List Int) (m : Nat) (ys : List V) (Hc : Heap) : Prop :=
  ∃ (j : Nat) (w : Int), j ≤ n.toNat ∧ ys = [.box [.int .i64 n, v], .int .i64 (j : Nat)] ∧ m = n.toNat - j ∧ (0 ≤ w ∧ w ≤ j * p10 L.length) ∧ (ms n es t a j ≠ 0 → 1 ≤ w) ∧
    L3 Hb oS oW oD ((tab (stL n es t L) n.toNat).set a.toNat (ms n es t a j)) (W.set a.toNat w) (tabB (fun y => decide (y ∈ L ++ [a])) n.toNat) Hc
set_option maxHeartbeats 4000000 in
theorem C_s_l03Steps {n t : Int} {v : V} {es : List TEdge} {H : Heap} {K : V → Heap → Prop} (hv : Rd H 3 v (es.map enEdge)) (hg : graphOk n es) (ht : 0 ≤ t ∧ t < n)
    (h : ∀ u w W H', Abs.sub H H' → Rd H' 1 u ((tab (fun x => if far n es x t < 1000000 then fw n es t x + 1 else 0) n.toNat).map ri) → Rd H' 1 w (W.map ri) → W.length = n.toNat → (∀ x, 0 ≤ x ∧ x < n → (nd W x ≤ 0 ↔ ¬ far n es x t < 1000000) ∧ 0 ≤ nd W x) → K (.tup [u, w]) H') : ACalls P n_s_l03Steps [vG n v, .int .i64 t] H K := by
  have hc := hv.cell
  have hn := hg.1
  have hl := hg.2.1
  apply W_s_l03Steps
  unfold F_s_l03Steps
  simp [hc, bsl_nil]
  intro o1 ho1
  refine ⟨InvTab H n (fun x => far n es x t), ⟨n.toNat, Shr.of (InvTab.start (by omega) ho1)⟩, ?_⟩
  rintro m ys Hc ⟨i, dv, Hb0, hi, rfl, rfl, hsb, hu, _⟩
  simp
  refine ⟨fun hlt => ?_, fun hge => ?_⟩
  · have hsc := sub_trans hsb hu.sub
    refine C_s_Distances (hv.mono hsc) hg (by omega) fun w H1 hw => ?_
    refine dist_ld (hw.rd ri_len) hg ht ?_
    simp [bsl_one]
    intro o3 ho3
    have hl := tab_len (fun x => far n es x t) i
    obtain ⟨Hb', r1, r2⟩ := hu.swap hw
    refine r2.append (sub_fresh ho3) (by simp) (by simp; omega) fun v' H' H'' ho' hs' => ?_
    rw [i64_in (n := (i : Int) + 1) (by omega) (by omega)]
    exact ⟨n.toNat - (i + 1), by omega, H'', hs', i + 1, v', Hb', by omega, by simp, rfl, sub_trans hsb r1.sub, by rw [tab_succ]; simpa using ho', Held.notro ho'⟩
  have e0 : i = n.toNat := by omega
  subst e0
  have hn0 : 0 ≤ n := by omega
  have hsc := sub_trans hsb hu.sub
  have rbk := hu.rd ri_len
  have bkl := tab_len (fun x => far n es x t) n.toNat
  simp [hn0]
  refine ⟨by omega, fun oS hoS => ⟨by omega, fun oW hoW => ⟨by omega, fun oD hoD => ?_⟩⟩⟩
  obtain ⟨neW, hoW'⟩ := upd_none hoW
  obtain ⟨neD, hoD1⟩ := upd_none hoD
  obtain ⟨neD2, hoD'⟩ := upd_none hoD1
  have rep0 : List.replicate n.toNat [V.int .i64 0] = (tab (stL n es t []) n.toNat).map ri := by
    have : tab (stL n es t []) n.toNat = List.replicate n.toNat 0 := by simp [tab, stL, List.map_const']
    rw [this]; simp
  have rep1 : List.replicate n.toNat [V.int .i64 0] = (List.replicate n.toNat (0 : Int)).map ri := by simp
  have rep2 : List.replicate n.toNat [V.bool false] = (tabB (fun y => decide (y ∈ ([] : List Int))) n.toNat).map rb := by
    have : tabB (fun y => decide (y ∈ ([] : List Int))) n.toNat = List.replicate n.toNat false := by simp [tabB, List.map_const']
    rw [this]; simp [rb]
  have l0 : L3 Hc oS oW oD (tab (stL n es t []) n.toNat) (List.replicate n.toNat (0 : Int)) (tabB (fun y => decide (y ∈ ([] : List Int))) n.toNat) (upd (upd (upd Hc oS ⟨1, List.replicate n.toNat [V.int .i64 0]⟩) oW ⟨1, List.replicate n.toNat [V.int .i64 0]⟩) oD ⟨1, List.replicate n.toNat [V.bool false]⟩) := by
    refine ⟨?_, ?_, ?_, sub_trans (sub_fresh hoS) (sub_trans (sub_fresh hoW) (sub_fresh hoD)), hoS, hoW', hoD', Ne.symm neW, Ne.symm neD2, Ne.symm neD⟩
    · rw [upd_off (Ne.symm neD2), upd_off (Ne.symm neW), upd_eq, rep0]
    · rw [upd_off (Ne.symm neD), upd_eq, rep1]
    · rw [upd_eq, rep2]
  have fin : ∀ (L W : List Int) (Hx : Heap), LOk n es t L W → L3 Hc oS oW oD (tab (stL n es t L) n.toNat) W (tabB (fun y => decide (y ∈ L)) n.toNat) Hx → (∀ y, 0 ≤ y ∧ y < n → far n es y t < 1000000 → y ∈ L) → Ret K (.tup [.slice oS 0 n.toNat (some n.toNat), .slice oW 0 n.toNat (some n.toNat)]) Hx := fun L W Hx hL h3 hall => by
    have e : tab (stL n es t L) n.toNat = tab (fun x => if far n es x t < 1000000 then fw n es t x + 1 else 0) n.toNat := tab_ext fun x x0 x1 => by
      unfold stL
      by_cases hx : far n es x t < 1000000
      · rw [if_pos hx, if_pos (hall x (by omega) hx)]
      · rw [if_neg hx, if_neg fun hh => hx (hL.mem x hh).2]
    refine Ret.of (h _ _ W Hx (sub_trans hsc h3.sub) ?_ ?_ hL.wl fun x hx => ?_)
    · have := Rd.own (cap := some n.toNat) (rows := (tab (stL n es t L) n.toNat).map ri) ri_len h3.s
      rw [← e]
      simpa [tab_len] using this
    · have := Rd.own (cap := some n.toNat) (rows := W.map ri) ri_len h3.w
      simpa [hL.wl] using this
    · by_cases hm : x ∈ L
      · have := hL.yes x hm
        have := (hL.mem x hm).2
        omega
      · have := hL.no x hx hm
        have := mt (hall x hx) hm
        omega
  refine ⟨InvR1 Hc oS oW oD n t es v, ⟨n.toNat, Shr.of ⟨[], _, rfl, by simp, ⟨by simp, by simp, by simp, by simp, fun x hx _ => by
    unfold nd; rw [List.getD_eq_getElem?_getD, List.getElem?_replicate, if_pos (by omega)]; rfl⟩, l0⟩⟩, ?_⟩
  rintro m ys Hd ⟨L, W, rfl, rfl, hL, h3⟩
  have hLl := hL.len
  simp
  refine ⟨fun hlt => ?_, fun hge => ?_⟩
  · refine ⟨InvR2 n t es L Hd, ⟨n.toNat, Shr.of ⟨0, by omega, by simp [bsf], by omega, rfl⟩⟩, ?_⟩
    rintro m ys He ⟨i, hi, rfl, rfl, rfl⟩
    have bs := bsf_spec (key := fun x => far n es x t) (L := L) i
    have rb' := rbk.mono h3.sub
    simp
    rw [i64_in (n := (i : Int) + 1) (by omega) (by omega)]
    refine ⟨fun hlt2 => ⟨He, Abs.sub_refl _, ?_⟩, fun hge2 => ?_⟩
    · refine ldB_at h3.d (by omega) ?_
      have step : bsf (fun x => far n es x t) L (i + 1) = if (i : Int) ∉ L ∧ far n es i t < 1000000 ∧ (bsf (fun x => far n es x t) L i < 0 ∨ far n es i t < far n es (bsf (fun x => far n es x t) L i) t) then (i : Int) else bsf (fun x => far n es x t) L i := rfl
      have yes : ((i : Int) ∉ L ∧ far n es i t < 1000000 ∧ (bsf (fun x => far n es x t) L i < 0 ∨ far n es i t < far n es (bsf (fun x => far n es x t) L i) t)) → ∃ n45, n45 < n.toNat - i ∧ Shr (InvR2 n t es L He n45 [.int .i64 (i : Int), .int .i64 ((i : Int) + 1)]) He := fun hy =>
        ⟨n.toNat - (i + 1), by omega, Shr.of ⟨i + 1, by omega, by rw [step, if_pos hy]; simp, rfl, rfl⟩⟩
      have no : ¬ ((i : Int) ∉ L ∧ far n es i t < 1000000 ∧ (bsf (fun x => far n es x t) L i < 0 ∨ far n es i t < far n es (bsf (fun x => far n es x t) L i) t)) → ∃ n45, n45 < n.toNat - i ∧ Shr (InvR2 n t es L He n45 [.int .i64 (bsf (fun x => far n es x t) L i), .int .i64 ((i : Int) + 1)]) He := fun hy =>
        ⟨n.toNat - (i + 1), by omega, Shr.of ⟨i + 1, by omega, by rw [step, if_neg hy]; simp, rfl, rfl⟩⟩
      simp
      refine ⟨fun hin => ?_, fun hin => no fun hh => hh.1 hin⟩
      refine rb'.idx (by omega) (by simp [bkl]; omega) fun p hp => ?_
      rw [hp.ld, getD_ri (by omega), tab_get (by omega)]
      simp
      refine ⟨fun hfar => ⟨fun hneg => yes ⟨hin, hfar, .inl hneg⟩, fun hpos => ?_⟩, fun hfar => no fun hh => by omega⟩
      generalize hb : bsf (fun x => far n es x t) L i = b at *
      have hbr : 0 ≤ b ∧ b < n := by rcases bs with ⟨q, _⟩ | ⟨q, _⟩ <;> omega
      refine rb'.idx (by omega) (by simp [bkl]; omega) fun p hp => ?_
      rw [hp.ld, getD_ri (by omega), tab_get (by omega)]
      simp
      refine rb'.idx (by omega) (by simp [bkl]; omega) fun p hp => ?_
      rw [hp.ld, getD_ri (by omega), tab_get (by omega)]
      simp
      refine ⟨fun q => yes ⟨hin, hfar, .inr q⟩, fun q => no ?_⟩
      rintro ⟨_, _, hh | hh⟩ <;> omega
    · have e : i = n.toNat := by omega
      subst e
      generalize hb : bsf (fun x => far n es x t) L n.toNat = b at *
      refine ⟨fun hneg => ?_, fun hpos => ?_⟩
      · rcases bs with ⟨_, q⟩ | ⟨q, _⟩
        · exact fin L W He hL h3 fun y hy hfy => by
            rcases q y hy.1 (by omega) with q | q
            · exact q
            · omega
        · omega
      · rcases bs with ⟨q, _⟩ | ⟨q1, q2, q3, q4⟩
        · omega
        have hbr : 0 ≤ b ∧ b < n := by omega
        have hbr' : 0 ≤ b ∧ b < (n.toNat : Int) := by omega
        have sl := tab_len (stL n es t L) n.toNat
        have hp10 := p10_pos L.length
        have hp10u := p10_le (k := L.length) (by omega)
        refine stB_at h3.d hbr' ?_
        have h4 := h3.setD (tabB (fun y => decide (y ∈ L ++ [b])) n.toNat)
        generalize hH : upd He oD ⟨1, (tabB (fun y => decide (y ∈ L ++ [b])) n.toNat).map rb⟩ = Hf at *
        rw [i64_in (n := (L.length : Int) + 1) (by omega) (by omega)]
        refine ⟨fun hbt => ?_, fun hbt => ?_⟩
        · refine st_at h4.s sl hbr' ?_
          refine st_at (h4.setS _).w hL.wl hbr' ?_
          have h5 := (h4.setS ((tab (stL n es t L) n.toNat).set b.toNat 1)).setW (W.set b.toNat 1)
          have e1 : (1 : Int) = fw n es t b + 1 := by rw [hbt, fw_t]; rfl
          have e2 : (tab (stL n es t L) n.toNat).set b.toNat 1 = tab (stL n es t (L ++ [b])) n.toNat := by
            rw [← stL_add hbr, ← e1]
          rw [e2] at h5 ⊢
          exact ⟨n.toNat - (L.length + 1), by omega, Shr.of ⟨L ++ [b], _, by simp, by simp, hL.add hbr q2 q3 (by omega), h5⟩⟩
        · have hfar := far_in hg b ht.1 ht.2
          have hw0 := hL.no b hbr q2
          have eS : (tab (stL n es t L) n.toNat).set b.toNat (ms n es t b 0) = tab (stL n es t L) n.toNat := by
            rw [tab_set hbr']
            refine tab_ext fun z z0 z1 => ?_
            by_cases e : z = b
            · subst e; simp [ms, stL, q2]
            · simp [e]
          have eW : W.set b.toNat 0 = W := by
            have hbl : b.toNat < W.length := by have := hL.wl; omega
            have : W[b.toNat] = 0 := by unfold nd at hw0; simpa [hbl] using hw0
            apply List.ext_getElem?
            intro j
            by_cases hj : b.toNat = j
            · subst hj; rw [List.getElem?_set_self hbl, List.getElem?_eq_getElem hbl, this]
            · rw [List.getElem?_set_ne hj]
          refine ⟨InvR3 Hc oS oW oD n t b es v L W, ⟨n.toNat, Shr.of ⟨0, 0, by omega, rfl, by omega, by omega, fun hh => absurd rfl hh, by rw [eS, eW]; exact h4⟩⟩, ?_⟩
          rintro m ys Hg ⟨j, w, hj, rfl, rfl, hw, hmw, h6⟩
          have rg := rbk.mono h6.sub
          simp
          rw [i64_in (n := (j : Int) + 1) (by omega) (by omega)]
          refine ⟨fun hlt3 => ?_, fun hge3 => ?_⟩
          · refine C_s_l03Cost (hv.mono (sub_trans hsc h6.sub)) hg ?_
            have hco := cost_cases hg b (j : Int)
            have hfj := far_in hg (j : Int) ht.1 ht.2
            have mstep : ms n es t b (j + 1) = if tgt n es t b j ∧ (ms n es t b j = 0 ∨ fw n es t j + 2 < ms n es t b j) then fw n es t j + 2 else ms n es t b j := rfl
            have skip : ¬ tgt n es t b (j : Int) → ∃ n83, n83 < n.toNat - j ∧ Shr (InvR3 Hc oS oW oD n t b es v L W n83 [.box [.int .i64 n, v], .int .i64 ((j : Int) + 1)]) Hg := fun hno => by
              refine ⟨n.toNat - (j + 1), by omega, Shr.of ⟨j + 1, w, by omega, by simp, rfl, ?_, ?_, ?_⟩⟩
              · have : ((j + 1 : Nat) : Int) * p10 L.length = j * p10 L.length + p10 L.length := by rw [Int.natCast_add, Int.add_mul]; simp
                omega
              · rw [mstep, if_neg fun hh => hno hh.1]; exact hmw
              · rw [mstep, if_neg fun hh => hno hh.1]; exact h6
            refine ⟨Hg, Abs.sub_refl _, ?_⟩
            simp
            refine ⟨fun c1 => skip fun hh => hh.1 c1, fun c1 => ?_⟩
            refine ⟨fun c2 => skip fun hh => hh.2.1 c2, fun c2 => ?_⟩
            refine rg.idx (by omega) (by simp [bkl]; omega) fun p hp => ?_
            rw [hp.ld, getD_ri (by omega), tab_get (by omega)]
            simp
            refine ⟨fun c3 => skip fun hh => hh.2.2.1 c3, fun c3 => ?_⟩
            refine rg.idx (by omega) (by simp [bkl]; omega) fun p hp => ?_
            rw [hp.ld, getD_ri (by omega), tab_get (by omega)]
            simp
            refine rg.idx (by omega) (by simp [bkl]; omega) fun p hp => ?_
            rw [hp.ld, getD_ri (by omega), tab_get (by omega)]
            simp
            rw [i64_in (n := cost n es b (j : Int) + far n es (j : Int) t) (by omega) (by omega)]
            refine ⟨fun c4 => skip fun hh => c4 hh.2.2.2, fun c4 => ?_⟩
            have htg : tgt n es t b (j : Int) := ⟨c1, c2, c3, c4⟩
            have hjL : (j : Int) ∈ L := by
              apply Classical.byContradiction
              intro hno
              have hlt' : far n es (j : Int) t < far n es b t := by
                obtain ⟨e, he, e1, e2, e3⟩ := tgt_edge hg ht q3 htg
                have := tight_lt hg he e3
                rw [e1, e2] at this
                exact this
              have := q4 (j : Int) (by omega) (by omega) hno (by omega)
              omega
            have hWj := hL.yes _ hjL
            have hfwj := fw_in hg t (j : Int)
            have hjr : 0 ≤ (j : Int) ∧ (j : Int) < (n.toNat : Int) := by omega
            have wl' : (W.set b.toNat w).length = n.toNat := by simpa using hL.wl
            have ndb : nd (W.set b.toNat w) b = w := by rw [nd_set (by have := hL.wl; omega) hbr.1, if_pos rfl]
            have ndj : nd (W.set b.toNat w) (j : Int) = nd W (j : Int) := by rw [nd_set (by have := hL.wl; omega) (by omega), if_neg (Ne.symm c1)]
            refine ld_at h6.w wl' hbr' ?_
            refine ld_at h6.w wl' hjr ?_
            rw [ndb, ndj]
            have hbd : (j : Int) * p10 L.length ≤ 10 * p10 L.length := Int.mul_le_mul_of_nonneg_right (by omega) (by omega)
            simp only [aBinN_add, bnd_some]
            rw [i64_in (n := w + nd W (j : Int)) (by omega) (by omega)]
            refine st_at h6.w wl' hbr' ?_
            rw [List.set_set]
            have h7 := h6.setW (W.set b.toNat (w + nd W (j : Int)))
            generalize hH7 : upd Hg oW ⟨1, (W.set b.toNat (w + nd W (j : Int))).map ri⟩ = Hh at *
            have sl' : ((tab (stL n es t L) n.toNat).set b.toNat (ms n es t b j)).length = n.toNat := by simp [sl]
            have sdb : nd ((tab (stL n es t L) n.toNat).set b.toNat (ms n es t b j)) b = ms n es t b j := by rw [nd_set (by omega) hbr.1, if_pos rfl]
            have sdj : nd ((tab (stL n es t L) n.toNat).set b.toNat (ms n es t b j)) (j : Int) = fw n es t (j : Int) + 1 := by
              rw [nd_set (by omega) (by omega), if_neg (Ne.symm c1)]
              unfold nd
              rw [tab_get hjr]
              unfold stL
              rw [if_pos hjL]
            have hmsr : 0 ≤ ms n es t b j ∧ ms n es t b j ≤ 1000002 := by
              rcases ms_spec hg (t := t) (a := b) j with ⟨e, _⟩ | ⟨y, _, _, _, e, _⟩
              · omega
              · have := fw_in hg t y; omega
            have next : ∀ (s : Int) (Hi : Heap), ms n es t b (j + 1) = s → L3 Hc oS oW oD ((tab (stL n es t L) n.toNat).set b.toNat s) (W.set b.toNat (w + nd W (j : Int))) (tabB (fun y => decide (y ∈ L ++ [b])) n.toNat) Hi → ∃ n83, n83 < n.toNat - j ∧ Shr (InvR3 Hc oS oW oD n t b es v L W n83 [.box [.int .i64 n, v], .int .i64 ((j : Int) + 1)]) Hi := fun s Hi hs hi3 => by
              refine ⟨n.toNat - (j + 1), by omega, Shr.of ⟨j + 1, w + nd W (j : Int), by omega, by simp, rfl, ?_, fun _ => by omega, by rw [hs]; exact hi3⟩⟩
              have : ((j + 1 : Nat) : Int) * p10 L.length = j * p10 L.length + p10 L.length := by rw [Int.natCast_add, Int.add_mul]; simp
              omega
            refine ⟨Hh, Abs.sub_refl _, ?_⟩
            refine ld_at h7.s sl' hbr' ?_
            rw [sdb]
            have e12 : fw n es t (j : Int) + 1 + 1 = fw n es t (j : Int) + 2 := by omega
            simp
            refine ⟨fun d1 => ?_, fun d1 => ?_⟩
            · refine ld_at h7.s sl' hjr ?_
              rw [sdj]
              simp only [aBinN_add, bnd_some]
              rw [i64_in (n := fw n es t (j : Int) + 1 + 1) (by omega) (by omega)]
              refine st_at h7.s sl' hbr' ?_
              rw [List.set_set]
              exact next _ _ (by rw [mstep, if_pos ⟨htg, .inl d1⟩, e12]) (h7.setS _)
            · refine ld_at h7.s sl' hjr ?_
              rw [sdj]
              simp only [aBinN_add, bnd_some]
              rw [i64_in (n := fw n es t (j : Int) + 1 + 1) (by omega) (by omega)]
              refine ld_at h7.s sl' hbr' ?_
              rw [sdb]
              simp
              refine ⟨fun d2 => ?_, fun d2 => ?_⟩
              · refine ld_at h7.s sl' hjr ?_
                rw [sdj]
                simp only [aBinN_add, bnd_some]
                rw [i64_in (n := fw n es t (j : Int) + 1 + 1) (by omega) (by omega)]
                refine st_at h7.s sl' hbr' ?_
                rw [List.set_set]
                exact next _ _ (by rw [mstep, if_pos ⟨htg, .inr (by omega)⟩, e12]) (h7.setS _)
              · exact next _ _ (by rw [mstep, if_neg fun hh => by rcases hh.2 with hh | hh <;> omega]) h7
          · have e : j = n.toNat := by omega
            subst e
            have hms := ms_fw hg ht hbr hbt q3
            have hfwb := fw_in hg t b
            rw [hms, stL_add hbr] at h6
            have hw1 := hmw (by omega)
            have hbd : (n.toNat : Int) * p10 L.length ≤ 10 * p10 L.length := Int.mul_le_mul_of_nonneg_right (by omega) (by omega)
            exact ⟨n.toNat - (L.length + 1), by omega, Shr.of ⟨L ++ [b], _, by simp, by simp, hL.add hbr q2 q3 (by omega), h6⟩⟩
  · have hfull := full_of hL.nodup (fun x hx => by have := (hL.mem x hx).1; omega) (n := n.toNat) (by omega)
    exact fin L W Hd hL h3 fun y hy _ => hfull y hy.1 (by omega)

end Go.Proofs.Ytipdfhjilegkcaa
