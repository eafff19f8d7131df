/-
Contracts of the laws' helpers over tables.
-/
import Derived.Test.YtcmpkkcbdmllpaaRoutes
import Derived.Test.YtcmpkkcbdmllpaaInts
import Derived.Test.YtcmpkkcbdmllpaaHeldLaw
import Derived.Test.YtcmpkkcbdmllpaaAbsV
set_option linter.all false
namespace Go.Proofs.Ytcmpkkcbdmllpaa
open Go Go.Abs Go.Proofs

abbrev rowsR (t : List TRoute) : List (List V) := t.map enRoute
/-- What reads tables. -/
def Tabs (H : Heap) (v : V) (ts : List (List TRoute)) : Prop := Rd2 H 3 v (ts.map rowsR)
theorem Tabs.mono {H H' : Heap} {v : V} {ts : List (List TRoute)} (h : Tabs H v ts) (hs : Abs.sub H H') : Tabs H' v ts := Rd2.mono h hs
theorem Tabs.len {H : Heap} {v : V} {ts : List (List TRoute)} (h : Tabs H v ts) : lenOf v = some ts.length := by rw [Rd2.len h]; simp
/-- One of the tables. -/
theorem Tabs.idx {H : Heap} {v : V} {ts : List (List TRoute)} {k : IntKind} {i : Nat} {K : V → Prop} (h : Tabs H v ts) (hi : i < ts.length) (hk : ∀ p w, (∀ b, aLd b 1 H p = partOf b 1 [w] 0) → Rd H 3 w (rowsR ts[i]) → aField 0 p = some p → K p) :
    bnd (aIndex H 1 v (.int k (i : Nat))) K := by
  obtain ⟨ws, g1, g2, g3⟩ := h
  have hiw : i < ws.length := by rw [g1]; simpa using hi
  refine g2.idx (by omega) (by simp; omega) fun p hp => hk p (ws.getD i .any) (fun b => ?_) ?_ ?_
  · rw [hp.ld]
    simp [hiw]
  · have := g3 i (by simpa using hi)
    simpa [hi] using this
  · rcases hp with rfl | ⟨o, r, ob, rfl, _⟩ <;> simp [aField]

def inners (ts : List (List TRoute)) (ws : List V) : List Ent := List.zipWith (fun t w => ⟨3, rowsR t, w⟩) ts ws
def TabC (H0 : Heap) (ts : List (List TRoute)) (u : V) (H : Heap) : Prop := ∃ ws : List V, ws.length = ts.length ∧ Chain H0 (inners ts ws ++ [⟨1, ws.map fun w => [w], u⟩]) H
theorem TabC.sub {H0 H : Heap} {ts : List (List TRoute)} {u : V} (h : TabC H0 ts u H) : Abs.sub H0 H := by
  obtain ⟨ws, _, h⟩ := h
  exact h.sub
theorem inner_mem {ts : List (List TRoute)} {ws : List V} {i : Nat} (hi : i < ts.length) (hw : ws.length = ts.length) : (⟨3, rowsR (ts.getD i []), ws.getD i .any⟩ : Ent) ∈ inners ts ws := by
  unfold inners
  rw [List.mem_iff_getElem]
  refine ⟨i, by simp; omega, ?_⟩
  have : i < ws.length := by omega
  simp [hi, this]
theorem TabC.rd {H0 H : Heap} {ts : List (List TRoute)} {u : V} (h : TabC H0 ts u H) : Tabs H u ts := by
  obtain ⟨ws, h1, h2⟩ := h
  refine ⟨ws, by simpa using h1, ?_, fun i hi => ?_⟩
  · exact h2.rd (e := ⟨1, ws.map fun w => [w], u⟩) (by simp) (by simp)
  · simp at hi
    have := h2.rd (List.mem_append_left _ (inner_mem hi h1)) enRoute_len
    rw [show (ts.map rowsR).getD i [] = rowsR (ts.getD i []) by simp [hi]]
    exact this
theorem TabC.under {H0 H H' : Heap} {ts : List (List TRoute)} {u v : V} {sz : Nat} {rows : List (List V)} (h : TabC H0 ts u H) (h' : Held H sz rows v H') : ∃ Hm, Held H0 sz rows v Hm ∧ TabC Hm ts u H' := by
  obtain ⟨ws, h1, h2⟩ := h
  obtain ⟨Hm, a, b⟩ := h2.under h'
  exact ⟨Hm, a, ws, h1, b⟩
theorem TabC.over {H0 H H' : Heap} {ts : List (List TRoute)} {u v : V} {sz : Nat} {rows : List (List V)} (h : Held H0 sz rows v H) (h' : TabC H ts u H') : ∃ Hm, TabC H0 ts u Hm ∧ Held Hm sz rows v H' := by
  obtain ⟨ws, h1, h2⟩ := h'
  obtain ⟨Hm, a, b⟩ := (Chain.one (e := ⟨sz, rows, v⟩)).2 h |>.swap h2
  exact ⟨Hm, ⟨ws, h1, a⟩, Chain.one.1 b⟩
theorem TabC.swap {H0 H H' : Heap} {ts ss : List (List TRoute)} {u v : V} (h : TabC H0 ts u H) (h' : TabC H ss v H') : ∃ Hm, TabC H0 ss v Hm ∧ TabC Hm ts u H' := by
  obtain ⟨ws, h1, h2⟩ := h
  obtain ⟨xs, g1, g2⟩ := h'
  obtain ⟨Hm, a, b⟩ := h2.swap g2
  exact ⟨Hm, ⟨xs, g1, a⟩, ws, h1, b⟩
theorem TabC.cell {H0 H : Heap} {ts : List (List TRoute)} {u : V} (h : TabC H0 ts u H) : cellsOf u = [u] ∧ cellOk u = true := by
  obtain ⟨ws, h1, h2⟩ := h
  have := h2.rd (e := ⟨1, ws.map fun w => [w], u⟩) (by simp) (by simp)
  exact ⟨this.cell.1, this.cell.2.1⟩

def tot (ts : List (List TRoute)) : Nat := (ts.map List.length).sum
theorem tot_succ {ts : List (List TRoute)} {i : Nat} (h : i < ts.length) : tot (ts.take (i + 1)) = tot (ts.take i) + ts[i].length := by
  unfold tot
  rw [List.take_succ_eq_append_getElem h, List.map_append, List.sum_append]
  simp only [List.map_cons, List.map_nil, List.sum_cons, List.sum_nil, Nat.add_zero]
theorem tot_le {ts : List (List TRoute)} (i : Nat) : tot (ts.take i) ≤ tot ts := by
  have : tot ts = tot (ts.take i) + tot (ts.drop i) := by
    unfold tot
    rw [← List.sum_append, ← List.map_append, List.take_append_drop]
  omega
theorem len_le_tot {ts : List (List TRoute)} {i : Nat} (h : i < ts.length) : ts[i].length ≤ tot ts := by
  have := tot_succ h
  have := tot_le (ts := ts) (i + 1)
  omega

theorem C_l_szTable {t : List TRoute} {w : V} {left : Int} {H : Heap} {K : V → Heap → Prop} (hv : Rd H 3 w (rowsR t)) (h : K (.int .i64 (if IntKind.i64.wrap (left - t.length) < 0 then -1 else IntKind.i64.wrap (left - t.length))) H) : ACalls P n_l_szTable [.agg [w], .int .i64 left] H K := by
  have hc := hv.cell
  apply W_l_szTable
  unfold F_l_szTable
  simp [hc]
  refine C_l_szRouteS hv ?_
  simp
  generalize IntKind.i64.wrap (left - t.length) = d at *
  by_cases e : d < 0
  · simp only [if_pos e] at h ⊢
    exact ⟨fun _ => Ret.of h, fun hh => absurd hh (by omega)⟩
  · simp only [if_neg e] at h ⊢
    exact ⟨fun hh => absurd hh (by omega), fun _ => Ret.of h⟩
theorem C_l_szTableS {ts : List (List TRoute)} {v : V} {H : Heap} {K : V → Heap → Prop} (hv : Tabs H v ts) (hl : ts.length ≤ 9223372036854775807) (hl2 : ∀ t ∈ ts, t.length ≤ 9223372036854775807)
    (h : ∀ r : Int, (0 ≤ r → ts.length + tot ts ≤ 1048576) → K (.int .i64 r) H) : ACalls P n_l_szTableS [v, .int .i64 1048576] H K := by
  apply W_l_szTableS
  unfold F_l_szTableS
  simp [hv.len]
  rw [i64_in (by omega) (by omega)]
  refine ⟨fun q => Ret.of (h _ (by omega)), fun q => ?_⟩
  refine ⟨fun m ys Hc => ∃ i, i ≤ ts.length ∧ ys = [.int .i64 ((1048576 : Int) - ts.length - tot (ts.take i)), .int .i64 (i : Nat)] ∧ m = ts.length - i ∧ Hc = H ∧ ts.length + tot (ts.take i) ≤ 1048576, ⟨ts.length, Shr.of ⟨0, by omega, by simp [tot], by omega, rfl, by simp [tot]; omega⟩⟩, ?_⟩
  rintro m ys Hc ⟨i, hi, rfl, rfl, rfl, hb⟩
  simp
  refine ⟨fun hlt => ?_, fun hge => ?_⟩
  · refine hv.idx hlt fun p w hp hw _ => ?_
    rw [hp]
    simp
    have := hl2 _ (List.getElem_mem hlt)
    refine C_l_szTable hw ?_
    rw [i64_in (by omega) (by omega)]
    have hs := tot_succ hlt
    split
    · rename_i hn
      simp
      exact Ret.of (h _ (by omega))
    · rename_i hn
      simp
      refine ⟨fun hh => absurd hh (by omega), fun _ => ?_⟩
      rw [i64_in (n := (i : Int) + 1) (by omega) (by omega)]
      refine ⟨ts.length - (i + 1), by omega, Shr.of ⟨i + 1, by omega, ?_, rfl, rfl, by omega⟩⟩
      rw [hs]
      simp
      omega
  · have : i = ts.length := by omega
    subst this
    rw [List.take_length] at hb ⊢
    exact Ret.of (h _ fun _ => hb)

theorem C_l_toTable {t : List TRoute} {w : V} {H : Heap} {K : V → Heap → Prop} (hv : Rd H 3 w (rowsR t)) (hl : t.length ≤ 2097152) (h : ∀ u H', Held H 3 (rowsR t) u H' → K (.agg [u]) H') : ACalls P n_l_toTable [.agg [w]] H K := by
  have hc := hv.cell
  apply W_l_toTable
  unfold F_l_toTable
  simp [hc]
  refine C_l_toRouteS hv hl fun o ho => ?_
  simp [stz_eq, putCells]
  exact Ret.of (h _ _ (Held.full ho (by simp)))

theorem zip_take {ts : List (List TRoute)} {ws : List V} {i : Nat} (h : i < ts.length) (hw : ws.length = i) (w : V) : inners (ts.take (i + 1)) (ws ++ [w]) = inners (ts.take i) ws ++ [⟨3, rowsR ts[i], w⟩] := by
  unfold inners
  rw [List.take_succ_eq_append_getElem h, List.zipWith_append (by simp; omega)]
  simp

def InvT1 (H : Heap) (ts : List (List TRoute)) (o : Nat) (m : Nat) (ys : List V) (Hc : Heap) : Prop :=
  ∃ (i : Nat) (ws : List V) (Hb : Heap), i ≤ ts.length ∧ ys = [.int .i64 (i : Nat)] ∧ m = ts.length - i ∧ ws.length = i ∧ Chain H (inners (ts.take i) ws) Hb ∧ Held Hb 1 (ws.map (fun w => [w]) ++ List.replicate (ts.length - i) [.nils]) (.slice o 0 ts.length (some ts.length)) Hc
theorem C_l_toTableS {ts : List (List TRoute)} {v : V} {H : Heap} {K : V → Heap → Prop} (hv : Tabs H v ts) (hl : ts.length + tot ts ≤ 1048576) (h : ∀ u H', TabC H ts u H' → K u H') : ACalls P n_l_toTableS [v] H K := by
  apply W_l_toTableS
  unfold F_l_toTableS
  simp [hv.len]
  refine ⟨by omega, fun o ho => ?_⟩
  refine ⟨InvT1 H ts o, ⟨ts.length, Shr.of ⟨0, [], H, by omega, by simp, by omega, rfl, rfl, Held.full ho (by simp)⟩⟩, ?_⟩
  rintro m ys Hc ⟨i, ws, Hb, hi, rfl, rfl, hws, hch, hu⟩
  simp
  have hsc := sub_trans hch.sub hu.sub
  refine ⟨fun hlt => ?_, fun hge => ?_⟩
  · refine (hv.mono hsc).idx hlt fun p w hp hw _ => ?_
    rw [hp]
    simp
    have := len_le_tot hlt
    refine C_l_toTable hw (by omega) fun x H1 hx => ?_
    have hxc := hx.cell
    obtain ⟨Hb', q1, q2⟩ := hu.swap hx
    refine q2.pt (Abs.sub_refl _) (by omega) (by simp; omega) fun p hp => ?_
    have hg : (ws.map (fun w => [w]) ++ List.replicate (ts.length - i) [V.nils]).getD i [] = [.nils] := by
      rw [List.getD_eq_getElem?_getD, List.getElem?_append_right (by simp; omega)]
      have h0 : 0 < ts.length - i := by omega
      simp [hws, List.getElem?_replicate, h0]
    refine hp.st (row' := [x]) (by
      simp only [Int.toNat_natCast]
      rw [hg]
      simp [stz_eq, putCells, hxc]) fun H2 H3 h3 hs3 => ?_
    rw [i64_in (n := (i : Int) + 1) (by omega) (by omega)]
    refine ⟨ts.length - (i + 1), by omega, H3, hs3, i + 1, ws ++ [x], Hb', by omega, by simp, rfl, by simp [hws], ?_, ?_⟩
    · rw [zip_take hlt hws]
      exact hch.push q1
    · have e : (ws.map (fun w => [w]) ++ List.replicate (ts.length - i) [V.nils]).set i [x] = (ws ++ [x]).map (fun w => [w]) ++ List.replicate (ts.length - (i + 1)) [V.nils] := by
        rw [List.set_append_right _ _ (by simp; omega)]
        simp [hws]
        rw [show ts.length - i = (ts.length - (i + 1)) + 1 by omega, List.replicate_succ]
        simp
      simp only [Int.toNat_natCast] at h3
      rw [← e]; exact h3
  · have : i = ts.length := by omega
    subst this
    simp at hu
    rw [List.take_length] at hch
    exact Ret.of (h _ _ ⟨ws, hws, hch.push hu⟩)

theorem C_l_eqTable {t s : List TRoute} {v w : V} {H : Heap} {K : V → Heap → Prop} (hv : Rd H 3 v (rowsR t)) (hw : Rd H 3 w (rowsR s)) (hl : t.length ≤ 2097152) (h : K (.bool (decide (t = s))) H) : ACalls P n_l_eqTable [.agg [v], .agg [w]] H K := by
  have hc := hv.cell
  have hc' := hw.cell
  apply W_l_eqTable
  unfold F_l_eqTable
  simp [hc, hc']
  refine C_l_eqRouteS hv hw hl ?_
  simp
  exact ⟨fun q => Ret.no h q, fun q => Ret.yes h q⟩
theorem C_l_eqTableS {ts us : List (List TRoute)} {v w : V} {H : Heap} {K : V → Heap → Prop} (hv : Tabs H v ts) (hw : Tabs H w us) (hl : ts.length + tot ts ≤ 1048576) (h : K (.bool (decide (ts = us))) H) : ACalls P n_l_eqTableS [v, w] H K := by
  apply W_l_eqTableS
  unfold F_l_eqTableS
  simp [hv.len, hw.len]
  refine ⟨fun hne => Ret.no h fun e => hne (by rw [e]), fun heq => ?_⟩
  have heq' : ts.length = us.length := by omega
  refine ⟨fun m zs H' => ∃ i, i ≤ ts.length ∧ zs = [.int .i64 (i : Nat)] ∧ m = ts.length - i ∧ H' = H ∧ ts.take i = us.take i, ⟨ts.length, Shr.of ⟨0, by omega, rfl, by omega, rfl, by simp⟩⟩, ?_⟩
  rintro m zs H' ⟨i, hi, rfl, rfl, rfl, ht⟩
  simp
  refine ⟨fun hlt => ⟨_, Abs.sub_refl _, ?_⟩, fun hge => ?_⟩
  · have hlt' : i < us.length := by omega
    refine hv.idx hlt fun p a hp ha _ => ?_
    rw [hp]
    simp
    refine hw.idx hlt' fun p b hp hb _ => ?_
    rw [hp]
    simp
    have := len_le_tot hlt
    refine C_l_eqTable ha hb (by omega) ⟨Abs.sub_refl _, ?_⟩
    simp
    refine ⟨fun hne => Ret.no h fun e => hne (by subst e; rfl), fun he => ?_⟩
    rw [i64_in (by omega) (by omega)]
    refine ⟨ts.length - (i + 1), by omega, Shr.of ⟨i + 1, by omega, by simp, rfl, rfl, ?_⟩⟩
    rw [List.take_succ_eq_append_getElem hlt, List.take_succ_eq_append_getElem hlt', ht, he]
  · have : i = ts.length := by omega
    subst this
    rw [List.take_of_length_le (by omega), List.take_of_length_le (by omega)] at ht
    exact Ret.yes h ht

def mkR (k : Int) (n : Nat) : List TRoute := (List.range n).map fun i => (k + 3 * (i : Nat), k + 3 * (i : Nat) + 1, k + 3 * (i : Nat) + 1 + 1)
theorem mkRoute_eq (k : Int) (n : Nat) : mkRoute k n = rowsR (mkR k n) := by unfold mkRoute mkR rowsR; rw [List.map_map]; rfl
theorem mkR_len (k : Int) (n : Nat) : (mkR k n).length = n := by simp [mkR]
theorem zip_cut {α β γ : Type} (f : α → β → γ) : ∀ {xs : List α} {ys : List β} {i : Nat} (h : i < xs.length) (h' : i < ys.length), List.zipWith f xs ys = List.zipWith f (xs.take i) (ys.take i) ++ f xs[i] ys[i] :: List.zipWith f (xs.drop (i + 1)) (ys.drop (i + 1))
  | x :: xs, y :: ys, 0, _, _ => by simp
  | x :: xs, y :: ys, i + 1, h, h' => by
    have := zip_cut f (xs := xs) (ys := ys) (i := i) (by simpa using h) (by simpa using h')
    simp
    exact this
  | [], _, _, h, _ => by simp at h
  | _ :: _, [], _, _, h => by simp at h
theorem inners_cut {ts : List (List TRoute)} {ws : List V} {i : Nat} (h : i < ts.length) (hw : ws.length = ts.length) : inners ts ws = inners (ts.take i) (ws.take i) ++ ⟨3, rowsR ts[i], ws.getD i .any⟩ :: inners (ts.drop (i + 1)) (ws.drop (i + 1)) := by
  have hi : i < ws.length := by omega
  unfold inners
  rw [zip_cut _ h hi]
  simp [hi]
theorem inners_set {ts : List (List TRoute)} {ws : List V} {i : Nat} (h : i < ts.length) (hw : ws.length = ts.length) (r : List TRoute) : inners (ts.set i r) ws = inners (ts.take i) (ws.take i) ++ ⟨3, rowsR r, ws.getD i .any⟩ :: inners (ts.drop (i + 1)) (ws.drop (i + 1)) := by
  have := inners_cut (ts := ts.set i r) (ws := ws) (i := i) (by simpa using h) (by simpa using hw)
  rw [this, List.take_set_of_le (Nat.le_refl _), List.drop_set_of_lt (by omega)]
  simp

def InvT2 (H0 : Heap) (ts : List (List TRoute)) (u : V) (m : Nat) (ys : List V) (Hc : Heap) : Prop :=
  ∃ (i : Nat) (ts' : List (List TRoute)) (Ho' : Heap), i ≤ ts.length ∧ ys = [.int .i64 (1 + 3 * (tot (ts.take i) : Int)), .int .i64 (i : Nat)] ∧ m = ts.length - i ∧ ts'.length = ts.length ∧ (∀ j, i ≤ j → ts'.getD j [] = ts.getD j []) ∧ TabC H0 ts' u Ho' ∧ Abs.sub Ho' Hc
theorem C_l_markTableS {ts : List (List TRoute)} {u : V} {H0 Ho H : Heap} {K : V → Heap → Prop} (hu : TabC H0 ts u Ho) (hs : Abs.sub Ho H) (hl : ts.length + tot ts ≤ 1048576)
    (h : ∀ (k : Int) ts' H' Ho', 0 ≤ k → TabC H0 ts' u Ho' → Abs.sub Ho' H' → K (.int .i64 k) H') : ACalls P n_l_markTableS [u, .int .i64 1] H K := by
  apply W_l_markTableS
  unfold F_l_markTableS
  refine ⟨InvT2 H0 ts u, ts.length, Shr.of ⟨0, ts, Ho, by omega, by simp [tot], by omega, rfl, fun _ _ => rfl, hu, hs⟩, ?_⟩
  rintro m ys Hc ⟨i, ts', Ho', hi, rfl, rfl, hlen, hsame, hc, hsub⟩
  have hlu : lenOf u = some ts.length := by rw [hc.rd.len, hlen]
  simp [hlu]
  refine ⟨fun hlt => ?_, fun hge => ?_⟩
  · have hlt' : i < ts'.length := by omega
    have e0 := hsame i (Nat.le_refl _)
    have e0' : ts'[i] = ts[i] := by simpa [hlt, hlt'] using e0
    obtain ⟨ws, hws, hch⟩ := hc
    have hiw : i < ws.length := by omega
    have rdu := hch.rd (e := ⟨1, ws.map fun w => [w], u⟩) (by simp) (by simp)
    refine (rdu.mono hsub).idx (by omega) (by simp; omega) fun p hp => ?_
    refine hp.fld fun p' hp' => ?_
    simp only [hp'.ld]
    simp [hiw]
    rw [inners_cut hlt' hws, List.append_assoc] at hch
    obtain ⟨Hm, g1, g2⟩ := hch.top
    have hlen2 := len_le_tot hlt
    have hts := tot_succ hlt
    have htl := tot_le (ts := ts) (i + 1)
    have htl' := tot_le (ts := ts) i
    rw [show ws.getD i .any = ws[i] by simp [hiw]] at g2
    refine C_markRouteHeld g2 hsub enRoute_len (by omega) (by simp [e0']; omega) fun H' Ho2 h2 hs2 => ?_
    simp [e0'] at h2 ⊢
    rw [i64_in (n := (i : Int) + 1) (by omega) (by omega)]
    rw [mkRoute_eq] at h2
    have hb := g1.back (e := ⟨3, rowsR (mkR (1 + 3 * (tot (ts.take i) : Int)) ts[i].length), ws[i]⟩) h2
    refine ⟨ts.length - (i + 1), by omega, Shr.of ⟨i + 1, ts'.set i (mkR (1 + 3 * (tot (ts.take i) : Int)) ts[i].length), Ho2, by omega, ?_, rfl, by simpa using hlen, fun j hj => ?_, ⟨ws, by simpa using hws, ?_⟩, hs2⟩⟩
    · rw [hts]; simp; omega
    · have hne : i ≠ j := by omega
      rw [List.getD_eq_getElem?_getD, List.getElem?_set_ne hne, ← List.getD_eq_getElem?_getD]
      exact hsame j (by omega)
    · rw [inners_set hlt' hws, List.append_assoc, show ws.getD i .any = ws[i] by simp [hiw]]
      simpa using hb
  · have : i = ts.length := by omega
    subst this
    exact Ret.of (h _ _ _ _ (by omega) hc hsub)

theorem rows_split : ∀ {rows : List (List V)}, (∀ row ∈ rows, ∃ t : List TRoute, row = [.ro (rowsR t)] ∧ t.length ≤ 9223372036854775807) → ∃ ts : List (List TRoute), rows = ts.map (fun t => [V.ro (rowsR t)]) ∧ ∀ t ∈ ts, t.length ≤ 9223372036854775807
  | [], _ => ⟨[], rfl, by simp⟩
  | r :: rows, each => by
    obtain ⟨t, rfl, ht⟩ := each r (by simp)
    obtain ⟨ts, h1, h2⟩ := rows_split fun row hm => each row (List.mem_cons_of_mem _ hm)
    exact ⟨t :: ts, by simp [h1], fun x hx => by
      rcases List.mem_cons.1 hx with rfl | hx
      · exact ht
      · exact h2 x hx⟩
theorem tables_of {e f : TypeId} {x : List V} (c : CTs P 8 [.slice e] x) (hf : flat P 8 e = some [.slice f]) (hf2 : flat P 8 f = some [.int .i64, .int .i64, .int .i64]) : ∃ (ws : List V) (ts : List (List TRoute)), x = [.ro (ws.map fun w => [w])] ∧ (∀ H, Tabs H (.ro (ws.map fun w => [w])) ts) ∧ ts.length ≤ 9223372036854775807 ∧ ∀ t ∈ ts, t.length ≤ 9223372036854775807 := by
  obtain ⟨_, _, rfl, k0, c⟩ := CTs_cons c
  obtain rfl := CTs_nil c
  obtain ⟨rows, rfl, hl, hr⟩ := CT_slice hf k0
  have each : ∀ row ∈ rows, ∃ t : List TRoute, row = [.ro (rowsR t)] ∧ t.length ≤ 9223372036854775807 := fun row hm => by
    obtain ⟨y, ys, rfl, k1, c⟩ := CTs_cons (hr row hm)
    obtain rfl := CTs_nil c
    obtain ⟨t, rfl, ht⟩ := Routes_of hf2 k1
    exact ⟨t, rfl, ht⟩
  obtain ⟨ts, hts⟩ := rows_split each
  obtain ⟨rfl, ht⟩ := hts
  refine ⟨ts.map fun t => .ro (rowsR t), ts, by simp, fun H => ⟨ts.map fun t => .ro (rowsR t), by simp, ?_, fun i hi => ?_⟩, by simp [maxLen] at hl; omega, ht⟩
  · exact Rd.ro (by simp)
  · simp at hi
    simp [hi]
    exact Rd.ro enRoute_len

end Go.Proofs.Ytcmpkkcbdmllpaa
