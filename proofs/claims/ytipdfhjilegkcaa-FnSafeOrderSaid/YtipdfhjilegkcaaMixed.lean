/-
Contracts: mixed hops, first loops.
-/
import Derived.Test.YtipdfhjilegkcaaGraphR
import Derived.Test.YtipdfhjilegkcaaLoopsIn
set_option linter.all false
namespace Go.Proofs.Ytipdfhjilegkcaa
open Go Go.Abs Go.Proofs

def fine (n m : Int) (es fs : List TEdge) (d : Int) : Prop := graphOk n es ∧ graphOk m fs ∧ n = m ∧ (0 ≤ d ∧ d < n)
instance (n m : Int) (es fs : List TEdge) (d : Int) : Decidable (fine n m es fs d) := by unfold fine; infer_instance

theorem C_s_l11Fine {n m d : Int} {v w : V} {es fs : List TEdge} {H : Heap} {K : V → Heap → Prop} (hv : Rd H 3 v (es.map enEdge)) (hw : Rd H 3 w (fs.map enEdge)) (h : K (.bool (decide (fine n m es fs d))) H) : ACalls P n_s_l11Fine [vG n v, vG m w, .int .i64 d] H K := by
  have hc := hv.cell
  have hc' := hw.cell
  apply W_s_l11Fine
  unfold F_s_l11Fine
  simp [hc, hc']
  refine C_s_GraphOk hv ?_
  simp
  refine ⟨fun hg => ?_, fun q => Ret.no h fun hh => q hh.1⟩
  refine C_s_GraphOk hw ?_
  simp
  refine ⟨fun hg' => ⟨fun e => ?_, fun q => Ret.no h fun hh => q hh.2.2.1⟩, fun q => Ret.no h fun hh => q hh.2.1⟩
  refine C_s_l03Node hv hg.1 ?_
  exact Ret.iff h ⟨fun hh => ⟨hg, hg', e, hh⟩, fun hh => hh.2.2.2⟩
theorem C_i_areMixed {n m d : Int} {v w : V} {es fs : List TEdge} {H : Heap} {K : V → Heap → Prop} (hv : Rd H 3 v (es.map enEdge)) (hw : Rd H 3 w (fs.map enEdge)) (h : K (.bool (decide (fine n m es fs d))) H) : ACalls P n_i_areMixed [vG n v, vG m w, .int .i64 d] H K := by
  have hc := hv.cell
  have hc' := hw.cell
  apply W_i_areMixed
  unfold F_i_areMixed
  simp [hc, hc']
  refine C_i_GraphOk hv ?_
  simp
  refine ⟨fun hg => ?_, fun q => Ret.no h fun hh => q hh.1⟩
  refine C_i_GraphOk hw ?_
  simp
  refine ⟨fun hg' => ⟨fun e => ?_, fun q => Ret.no h fun hh => q hh.2.2.1⟩, fun q => Ret.no h fun hh => q hh.2.1⟩
  refine C_i_Graph_isNode hv hg.1 ?_
  exact Ret.iff h ⟨fun hh => ⟨hg, hg', e, hh⟩, fun hh => hh.2.2.2⟩

/-! #### rows of numbers by place -/
def tab (q : Int → Int) (i : Nat) : List Int := (List.range i).map fun x : Nat => q (x : Int)
theorem tab_len (q : Int → Int) (i : Nat) : (tab q i).length = i := by simp [tab]
theorem tab_succ (q : Int → Int) (i : Nat) : tab q (i + 1) = tab q i ++ [q (i : Int)] := by simp [tab, List.range_succ]
theorem tab_get {q : Int → Int} {n : Nat} {x : Int} (h : 0 ≤ x ∧ x < n) : (tab q n).getD x.toNat 0 = q x := by
  have h1 : x.toNat < n := by omega
  have e : ((x.toNat : Nat) : Int) = x := by omega
  simp [tab, h1, e]
theorem tab_ext {q r : Int → Int} {n : Nat} (h : ∀ x : Int, 0 ≤ x → x < n → q x = r x) : tab q n = tab r n := by
  unfold tab
  refine List.map_congr_left fun x hx => ?_
  rw [List.mem_range] at hx
  exact h _ (by omega) (by omega)
theorem tab_set {q : Int → Int} {n : Nat} {x : Int} {y : Int} (h : 0 ≤ x ∧ x < n) : (tab q n).set x.toNat y = tab (fun z => if z = x then y else q z) n := by
  apply List.ext_getElem?
  intro j
  by_cases hj : x.toNat = j
  · subst hj
    have h1 : x.toNat < n := by omega
    have e : ((x.toNat : Nat) : Int) = x := by omega
    rw [List.getElem?_set_self (by rw [tab_len]; omega)]
    simp [tab, h1, e]
  · rw [List.getElem?_set_ne hj]
    by_cases hl : j < n
    · have : ¬ (j : Int) = x := by omega
      simp [tab, hl, this]
    · rw [List.getElem?_eq_none (by rw [tab_len]; omega), List.getElem?_eq_none (by rw [tab_len]; omega)]

def InvTab (H : Heap) (n : Int) (q : Int → Int) (m : Nat) (ys : List V) (Hc : Heap) : Prop :=
  ∃ (i : Nat) (u : V) (Hb : Heap), (i : Int) ≤ n ∧ ys = [u, .int .i64 (i : Nat)] ∧ m = n.toNat - i ∧ Abs.sub H Hb ∧ Held Hb 1 ((tab q i).map ri) u Hc ∧ ∀ r, u ≠ .ro r
theorem InvTab.start {H : Heap} {n : Int} {q : Int → Int} {o : Nat} (hn : 0 ≤ n) (ho : H o = none) : InvTab H n q n.toNat [.slice o 0 0 (some 0), .int .i64 0] (upd H o ⟨1, []⟩) := ⟨0, _, H, by omega, rfl, by omega, Abs.sub_refl _, by simpa [tab] using Held.new ho, by simp⟩
theorem Held.notro {H0 H : Heap} {sz : Nat} {rows : List (List V)} {v : V} (h : Held H0 sz rows v H) : ∀ r, v ≠ .ro r := by
  rcases h with ⟨rfl, _⟩ | ⟨o, cap, _, rfl, _⟩ <;> simp

theorem C_i_Graph_hopsFor {n d : Int} {v : V} {es : List TEdge} {H : Heap} {K : V → Heap → Prop} (hv : Rd H 3 v (es.map enEdge)) (hg : graphOk n es) (hd : 0 ≤ d ∧ d < n) (h : ∀ u H', Held H 1 ((tab (fun x => hopOf n es x d) n.toNat).map ri) u H' → K u H') : ACalls P n_i_Graph_hopsFor [vG n v, .int .i64 d] H K := by
  have hc := hv.cell
  have hn := hg.1
  apply W_i_Graph_hopsFor
  unfold F_i_Graph_hopsFor
  simp [hc, bsl_nil]
  refine C_i_Graph_all hv hg fun fv H0 h0 hfv => ?_
  intro o ho
  refine ⟨InvTab H0 n (fun x => hopOf n es x d), ⟨n.toNat, Shr.of (InvTab.start (by omega) ho)⟩, ?_⟩
  rintro m ys Hc ⟨i, u, Hb, hi, rfl, rfl, hsb, hu, _⟩
  simp
  refine ⟨fun hlt => ?_, fun hge => ?_⟩
  · have hsc := sub_trans hsb hu.sub
    refine C_i_Graph_hopOf (hv.mono (sub_trans h0 hsc)) hg (by omega) hd (hfv.mono hsc) ?_
    simp [bsl_one]
    intro o3 ho3
    have hl := tab_len (fun x => hopOf n es x d) i
    refine hu.append (sub_fresh ho3) (by simp) (by simp; omega) fun v' H' H'' ho' hs' => ?_
    rw [i64_in (n := (i : Int) + 1) (by omega) (by omega)]
    exact ⟨n.toNat - (i + 1), by omega, H'', hs', i + 1, v', Hb, by omega, by simp, rfl, hsb, by rw [tab_succ]; simpa using ho', Held.notro ho'⟩
  · have e : i = n.toNat := by omega
    subst e
    exact Ret.held hu (sub_trans h0 hsb) h

def mixQ (n : Int) (es fs : List TEdge) (ds : List Int) (d x : Int) : Int := if x ∈ ds then hopOf n fs x d else hopOf n es x d
def mixedH (n m : Int) (es fs : List TEdge) (ds : List Int) (d : Int) : List Int := if fine n m es fs d ∧ ds.length ≤ 300 then tab (mixQ n es fs ds d) n.toNat else []
theorem mixedH_len {n m : Int} {es fs : List TEdge} (ds : List Int) (d : Int) : (mixedH n m es fs ds d).length ≤ 10 := by
  unfold mixedH
  split
  · rename_i h
    have := h.1.1.1
    rw [tab_len]; omega
  · simp

theorem C_s_MixedHops {n m d : Int} {v w z : V} {es fs : List TEdge} {ds : List Int} {H : Heap} {K : V → Heap → Prop} (hv : Rd H 3 v (es.map enEdge)) (hw : Rd H 3 w (fs.map enEdge)) (hz : Rd H 1 z (ds.map ri)) (h : ∀ u H', Held H 1 ((mixedH n m es fs ds d).map ri) u H' → K u H') :
    ACalls P n_s_MixedHops [vG n v, vG m w, z, .int .i64 d] H K := by
  have hc := hv.cell
  have hc' := hw.cell
  apply W_s_MixedHops
  unfold F_s_MixedHops
  simp [hc, hc', bsl_nil]
  intro o ho
  have hs : Abs.sub H (upd H o ⟨1, []⟩) := sub_fresh ho
  refine C_s_l11Fine (hv.mono hs) (hw.mono hs) ?_
  simp
  refine ⟨fun q => Ret.shr (h .nils H (by rw [mixedH, if_neg (fun hh => q hh.1)]; exact Held.nil)) rfl hs, fun hf => ?_⟩
  simp [hz.len]
  refine ⟨fun q => Ret.shr (h .nils H (by rw [mixedH, if_neg (fun hh => by omega)]; exact Held.nil)) rfl hs, fun hl => ?_⟩
  rw [mixedH, if_pos ⟨hf, by omega⟩] at h
  obtain ⟨hg, hg', rfl, hd⟩ := hf
  have hn := hg.1
  refine ⟨InvTab H n (mixQ n es fs ds d), ⟨n.toNat, Shr.of (InvTab.start (by omega) ho)⟩, ?_⟩
  rintro m ys Hc ⟨i, u, Hb, hi, rfl, rfl, hsb, hu, _⟩
  simp
  refine ⟨fun hlt => ?_, fun hge => ?_⟩
  · have hsc := sub_trans hsb hu.sub
    have hlen := tab_len (mixQ n es fs ds d) i
    refine C_s_l01Has (hz.mono hsc) (by omega) ?_
    simp
    rw [i64_in (n := (i : Int) + 1) (by omega) (by omega)]
    refine ⟨fun q => ?_, fun q => ?_⟩
    · refine C_s_HopOf (hw.mono hsc) ?_
      rw [if_pos ⟨hg', by omega, hd⟩]
      simp [bsl_one]
      intro o3 ho3
      refine hu.append (sub_fresh ho3) (by simp) (by simp; omega) fun v' H' H'' ho' hs' => ?_
      refine ⟨n.toNat - (i + 1), by omega, H'', hs', i + 1, v', Hb, by omega, by simp, rfl, hsb, ?_, Held.notro ho'⟩
      rw [tab_succ, mixQ, if_pos q]; simpa using ho'
    · refine C_s_HopOf (hv.mono hsc) ?_
      rw [if_pos ⟨hg, by omega, hd⟩]
      simp [bsl_one]
      intro o3 ho3
      refine hu.append (sub_fresh ho3) (by simp) (by simp; omega) fun v' H' H'' ho' hs' => ?_
      refine ⟨n.toNat - (i + 1), by omega, H'', hs', i + 1, v', Hb, by omega, by simp, rfl, hsb, ?_, Held.notro ho'⟩
      rw [tab_succ, mixQ, if_neg q]; simpa using ho'
  · have e : i = n.toNat := by omega
    subst e
    exact Ret.held hu hsb h

theorem C_slices_Clone {rows : List (List V)} {v : V} {H : Heap} {K : V → Heap → Prop} (hv : Rd H 1 v rows) (hro : ∀ r, v ≠ .ro r) (hl : rows.length ≤ 1000000) (h : ∀ u H', Held H 1 rows u H' → K u H') : ACalls P n_slices_Clone_int_int [v] H K := by
  apply W_slices_Clone_int_int
  unfold F_slices_Clone_int_int
  have hn : (v = .nils ∧ rows = []) ∨ ∃ o s n c, v = .slice o s n c := by
    rcases hv.2 with rfl | h | ⟨o, s, cap, ob, rfl, _⟩
    · exact absurd rfl (hro _)
    · exact .inl h
    · exact .inr ⟨_, _, _, _, rfl⟩
  rcases hn with ⟨rfl, rfl⟩ | ⟨o, s, n, c, rfl⟩
  · simp [aBinZ, isNil]
    exact Ret.of (h _ _ Held.nil)
  · simp [aBinZ, isNil, bsl_nil]
    intro o3 ho3
    have h0 := Held.new (sz := 1) ho3
    rw [(hv.mono h0.sub).rows hro]
    simp
    by_cases hr : rows = []
    · subst hr
      simp [appendK]
      exact Ret.of (h _ _ h0)
    · refine h0.append (Abs.sub_refl _) hr (by simp; omega) fun v' H' H'' ho' hs' => ?_
      exact Ret.shr (h v' H'' (by simpa using ho')) rfl hs'

def mixL (n : Nat) (nx : Int → Int) (old : Int → Int) (ds : List Int) (x : Int) : Int := if x ∈ ds then nx x else old x
theorem C_i_mixed {n : Nat} {u0 u1 z : V} {old nx : Int → Int} {ds : List Int} {H : Heap} {K : V → Heap → Prop} (h0 : Rd H 1 u0 ((tab old n).map ri)) (hro : ∀ r, u0 ≠ .ro r) (h1 : Rd H 1 u1 ((tab nx n).map ri)) (hz : Rd H 1 z (ds.map ri)) (hn : 1 ≤ n ∧ n ≤ 10) (hl : ds.length ≤ 300)
    (h : ∀ u H', Held H 1 ((tab (fun x => if x ∈ ds then nx x else old x) n).map ri) u H' → K u H') : ACalls P n_i_mixed [u0, u1, z] H K := by
  apply W_i_mixed
  unfold F_i_mixed
  have l0 := tab_len old n
  have l1 := tab_len nx n
  refine C_slices_Clone h0 hro (by simp; omega) fun u H' hu => ?_
  simp [hz.len]
  refine ⟨fun m ys Hc => ∃ i, i ≤ ds.length ∧ ys = [.int .i64 (i : Nat)] ∧ m = ds.length - i ∧ Held H 1 ((tab (fun x => if x ∈ ds.take i then nx x else old x) n).map ri) u Hc, ⟨ds.length, Shr.of ⟨0, by omega, by simp, by omega, by simpa using hu⟩⟩, ?_⟩
  rintro m ys Hc ⟨i, hi, rfl, rfl, hc⟩
  simp
  refine ⟨fun hlt => ?_, fun hge => ?_⟩
  · have l2 := tab_len (fun x => if x ∈ ds.take i then nx x else old x) n
    have step : ∀ x, (x ∈ ds.take (i + 1)) ↔ (x = ds[i] ∨ x ∈ ds.take i) := fun x => by
      rw [List.take_succ_eq_append_getElem hlt, List.mem_append]
      simp
      exact Or.comm
    refine (hz.mono hc.sub).idx (by omega) (by simpa using hlt) fun p hp => ?_
    simp only [hp.ld]
    simp [hlt]
    rw [(hc.rd ri_len).len]
    simp [l2]
    rw [i64_in (n := (n : Int) - 1) (by omega) (by omega), i64_in (n := (i : Int) + 1) (by omega) (by omega)]
    apply C_i_within
    simp
    refine ⟨fun q1 q2 => ?_, fun q => ?_⟩
    · refine (h1.mono hc.sub).idx q1 (by simp [l1]; omega) fun p hp => ?_
      rw [hp.ld, getD_ri (by omega), tab_get ⟨q1, by omega⟩]
      simp
      refine hc.pt (Abs.sub_refl _) q1 (by simp [l2]; omega) fun p hp => ?_
      refine hp.st (row' := ri (nx ds[i])) (by rw [getD_ri (by omega)]; simp [stz_eq, putCells]) fun H5 H6 h6 hs6 => ?_
      rw [map_set_ri, tab_set ⟨q1, by omega⟩] at h6
      refine ⟨ds.length - (i + 1), by omega, H6, hs6, i + 1, by omega, by simp, rfl, ?_⟩
      have e : tab (fun x => if x ∈ ds.take (i + 1) then nx x else old x) n = tab (fun z => if z = ds[i] then nx ds[i] else if z ∈ ds.take i then nx z else old z) n := tab_ext fun x _ _ => by
        by_cases e1 : x = ds[i]
        · rw [if_pos ((step x).2 (.inl e1)), if_pos e1, e1]
        · rw [if_neg e1]
          by_cases e2 : x ∈ ds.take i
          · rw [if_pos ((step x).2 (.inr e2)), if_pos e2]
          · rw [if_neg (fun hh => ((step x).1 hh).elim e1 e2), if_neg e2]
      rw [e]; exact h6
    · refine ⟨ds.length - (i + 1), by omega, Shr.of ⟨i + 1, by omega, by simp, rfl, ?_⟩⟩
      have e : tab (fun x => if x ∈ ds.take (i + 1) then nx x else old x) n = tab (fun x => if x ∈ ds.take i then nx x else old x) n := tab_ext fun x x0 x1 => by
        by_cases e2 : x ∈ ds.take i
        · rw [if_pos ((step x).2 (.inr e2)), if_pos e2]
        · rw [if_neg (fun hh => ((step x).1 hh).elim (fun e1 => by omega) e2), if_neg e2]
      rw [e]; exact hc
  · have : i = ds.length := by omega
    subst this
    rw [List.take_length] at hc
    exact Ret.of (h _ _ hc)

end Go.Proofs.Ytipdfhjilegkcaa
