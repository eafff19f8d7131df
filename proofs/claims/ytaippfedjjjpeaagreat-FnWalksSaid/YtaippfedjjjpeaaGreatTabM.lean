/-
Contracts of the laws' helpers over tables.
-/
import Derived.Test.YtaippfedjjjpeaaGreatRtM
import Derived.Test.YtaippfedjjjpeaaGreatInts
import Derived.Test.YtaippfedjjjpeaaGreatHeldLaw
import Derived.Test.YtaippfedjjjpeaaGreatAbs3
import Derived.Test.YtaippfedjjjpeaaGreatPutR
import Derived.Test.YtaippfedjjjpeaaGreatLsaM
import Derived.Test.YtaippfedjjjpeaaGreatW1
import Derived.Test.YtaippfedjjjpeaaGreatGrhM
set_option linter.all false
namespace Go.Proofs.YtaippfedjjjpeaaGreat
open Go Go.Abs Go.Proofs

abbrev rowsR (t : List TRoute) : List (List V) := t.map enRoute
/-- What reads tables. -/
def Tabs (H : Heap) (v : V) (ts : List (List TRoute)) : Prop := Rd2 H 3 v (ts.map rowsR)
theorem Tabs.mono {H H' : Heap} {v : V} {ts : List (List TRoute)} (h : Tabs H v ts) (hs : Abs.sub H H') : Tabs H' v ts := Rd2.mono h hs
theorem Tabs.len {H : Heap} {v : V} {ts : List (List TRoute)} (h : Tabs H v ts) : lenOf v = some ts.length := by rw [Rd2.len h]; simp
/-- One of the tables. -/
theorem Tabs.idx {H : Heap} {v : V} {ts : List (List TRoute)} {k : IntKind} {i : Nat} {K : V → Prop} (h : Tabs H v ts) (hi : i < ts.length) (hk : ∀ p w, (∀ b, aLd b 1 H p = partOf b 1 [w] 0) → Rd H 3 w (rowsR ts[i]) → aField 0 p = some p → K p) :
    bnd (aIndex H 1 v (.int k (i : Nat))) K := by
  obtain ⟨ws, g1, g2, g3⟩ := h
  have hiw : i < ws.length := by rw [g1]; simpa using hi
  refine g2.idx (by omega) (by simp; omega) fun p hp => hk p (ws.getD i .any) (fun b => ?_) ?_ ?_
  · rw [hp.ld]
    simp [hiw]
  · have := g3 i (by simpa using hi)
    simpa [hi] using this
  · rcases hp with rfl | ⟨o, r, ob, rfl, _⟩ <;> simp [aField]

def inners (ts : List (List TRoute)) (ws : List V) : List Ent := List.zipWith (fun t w => ⟨3, rowsR t, w⟩) ts ws
def TabC (H0 : Heap) (ts : List (List TRoute)) (u : V) (H : Heap) : Prop := ∃ ws : List V, ws.length = ts.length ∧ Chain H0 (inners ts ws ++ [⟨1, ws.map fun w => [w], u⟩]) H
theorem TabC.sub {H0 H : Heap} {ts : List (List TRoute)} {u : V} (h : TabC H0 ts u H) : Abs.sub H0 H := by
  obtain ⟨ws, _, h⟩ := h
  exact h.sub
theorem inner_mem {ts : List (List TRoute)} {ws : List V} {i : Nat} (hi : i < ts.length) (hw : ws.length = ts.length) : (⟨3, rowsR (ts.getD i []), ws.getD i .any⟩ : Ent) ∈ inners ts ws := by
  unfold inners
  rw [List.mem_iff_getElem]
  refine ⟨i, by simp; omega, ?_⟩
  have : i < ws.length := by omega
  simp [hi, this]
theorem TabC.rd {H0 H : Heap} {ts : List (List TRoute)} {u : V} (h : TabC H0 ts u H) : Tabs H u ts := by
  obtain ⟨ws, h1, h2⟩ := h
  refine ⟨ws, by simpa using h1, ?_, fun i hi => ?_⟩
  · exact h2.rd (e := ⟨1, ws.map fun w => [w], u⟩) (by simp) (by simp)
  · simp at hi
    have := h2.rd (List.mem_append_left _ (inner_mem hi h1)) enRoute_len
    rw [show (ts.map rowsR).getD i [] = rowsR (ts.getD i []) by simp [hi]]
    exact this
theorem TabC.under {H0 H H' : Heap} {ts : List (List TRoute)} {u v : V} {sz : Nat} {rows : List (List V)} (h : TabC H0 ts u H) (h' : Held H sz rows v H') : ∃ Hm, Held H0 sz rows v Hm ∧ TabC Hm ts u H' := by
  obtain ⟨ws, h1, h2⟩ := h
  obtain ⟨Hm, a, b⟩ := h2.under h'
  exact ⟨Hm, a, ws, h1, b⟩
theorem TabC.over {H0 H H' : Heap} {ts : List (List TRoute)} {u v : V} {sz : Nat} {rows : List (List V)} (h : Held H0 sz rows v H) (h' : TabC H ts u H') : ∃ Hm, TabC H0 ts u Hm ∧ Held Hm sz rows v H' := by
  obtain ⟨ws, h1, h2⟩ := h'
  obtain ⟨Hm, a, b⟩ := (Chain.one (e := ⟨sz, rows, v⟩)).2 h |>.swap h2
  exact ⟨Hm, ⟨ws, h1, a⟩, Chain.one.1 b⟩
theorem TabC.swap {H0 H H' : Heap} {ts ss : List (List TRoute)} {u v : V} (h : TabC H0 ts u H) (h' : TabC H ss v H') : ∃ Hm, TabC H0 ss v Hm ∧ TabC Hm ts u H' := by
  obtain ⟨ws, h1, h2⟩ := h
  obtain ⟨xs, g1, g2⟩ := h'
  obtain ⟨Hm, a, b⟩ := h2.swap g2
  exact ⟨Hm, ⟨xs, g1, a⟩, ws, h1, b⟩
theorem TabC.cell {H0 H : Heap} {ts : List (List TRoute)} {u : V} (h : TabC H0 ts u H) : cellsOf u = [u] ∧ cellOk u = true := by
  obtain ⟨ws, h1, h2⟩ := h
  have := h2.rd (e := ⟨1, ws.map fun w => [w], u⟩) (by simp) (by simp)
  exact ⟨this.cell.1, this.cell.2.1⟩

def tot (ts : List (List TRoute)) : Nat := (ts.map List.length).sum
theorem tot_succ {ts : List (List TRoute)} {i : Nat} (h : i < ts.length) : tot (ts.take (i + 1)) = tot (ts.take i) + ts[i].length := by
  unfold tot
  rw [List.take_succ_eq_append_getElem h, List.map_append, List.sum_append]
  simp only [List.map_cons, List.map_nil, List.sum_cons, List.sum_nil, Nat.add_zero]
theorem tot_le {ts : List (List TRoute)} (i : Nat) : tot (ts.take i) ≤ tot ts := by
  have : tot ts = tot (ts.take i) + tot (ts.drop i) := by
    unfold tot
    rw [← List.sum_append, ← List.map_append, List.take_append_drop]
  omega
theorem len_le_tot {ts : List (List TRoute)} {i : Nat} (h : i < ts.length) : ts[i].length ≤ tot ts := by
  have := tot_succ h
  have := tot_le (ts := ts) (i + 1)
  omega

theorem zip_take {ts : List (List TRoute)} {ws : List V} {i : Nat} (h : i < ts.length) (hw : ws.length = i) (w : V) : inners (ts.take (i + 1)) (ws ++ [w]) = inners (ts.take i) ws ++ [⟨3, rowsR ts[i], w⟩] := by
  unfold inners
  rw [List.take_succ_eq_append_getElem h, List.zipWith_append (by simp; omega)]
  simp

def InvT1 (H : Heap) (ts : List (List TRoute)) (o : Nat) (m : Nat) (ys : List V) (Hc : Heap) : Prop :=
  ∃ (i : Nat) (ws : List V) (Hb : Heap), i ≤ ts.length ∧ ys = [.int .i64 (i : Nat)] ∧ m = ts.length - i ∧ ws.length = i ∧ Chain H (inners (ts.take i) ws) Hb ∧ Held Hb 1 (ws.map (fun w => [w]) ++ List.replicate (ts.length - i) [.nils]) (.slice o 0 ts.length (some ts.length)) Hc
def mkR (k : Int) (n : Nat) : List TRoute := (List.range n).map fun i => (k + 3 * (i : Nat), k + 3 * (i : Nat) + 1, k + 3 * (i : Nat) + 1 + 1)
theorem mkRoute_eq (k : Int) (n : Nat) : mkRoute k n = rowsR (mkR k n) := by unfold mkRoute mkR rowsR; rw [List.map_map]; rfl
theorem mkR_len (k : Int) (n : Nat) : (mkR k n).length = n := by simp [mkR]
theorem zip_cut {α β γ : Type} (f : α → β → γ) : ∀ {xs : List α} {ys : List β} {i : Nat} (h : i < xs.length) (h' : i < ys.length), List.zipWith f xs ys = List.zipWith f (xs.take i) (ys.take i) ++ f xs[i] ys[i] :: List.zipWith f (xs.drop (i + 1)) (ys.drop (i + 1))
  | x :: xs, y :: ys, 0, _, _ => by simp
  | x :: xs, y :: ys, i + 1, h, h' => by
    have := zip_cut f (xs := xs) (ys := ys) (i := i) (by simpa using h) (by simpa using h')
    simp
    exact this
  | [], _, _, h, _ => by simp at h
  | _ :: _, [], _, _, h => by simp at h
theorem inners_cut {ts : List (List TRoute)} {ws : List V} {i : Nat} (h : i < ts.length) (hw : ws.length = ts.length) : inners ts ws = inners (ts.take i) (ws.take i) ++ ⟨3, rowsR ts[i], ws.getD i .any⟩ :: inners (ts.drop (i + 1)) (ws.drop (i + 1)) := by
  have hi : i < ws.length := by omega
  unfold inners
  rw [zip_cut _ h hi]
  simp [hi]
theorem inners_set {ts : List (List TRoute)} {ws : List V} {i : Nat} (h : i < ts.length) (hw : ws.length = ts.length) (r : List TRoute) : inners (ts.set i r) ws = inners (ts.take i) (ws.take i) ++ ⟨3, rowsR r, ws.getD i .any⟩ :: inners (ts.drop (i + 1)) (ws.drop (i + 1)) := by
  have := inners_cut (ts := ts.set i r) (ws := ws) (i := i) (by simpa using h) (by simpa using hw)
  rw [this, List.take_set_of_le (Nat.le_refl _), List.drop_set_of_lt (by omega)]
  simp

def InvT2 (H0 : Heap) (ts : List (List TRoute)) (u : V) (m : Nat) (ys : List V) (Hc : Heap) : Prop :=
  ∃ (i : Nat) (ts' : List (List TRoute)) (Ho' : Heap), i ≤ ts.length ∧ ys = [.int .i64 (1 + 3 * (tot (ts.take i) : Int)), .int .i64 (i : Nat)] ∧ m = ts.length - i ∧ ts'.length = ts.length ∧ (∀ j, i ≤ j → ts'.getD j [] = ts.getD j []) ∧ TabC H0 ts' u Ho' ∧ Abs.sub Ho' Hc
theorem rows_split : ∀ {rows : List (List V)}, (∀ row ∈ rows, ∃ t : List TRoute, row = [.ro (rowsR t)] ∧ t.length ≤ 9223372036854775807) → ∃ ts : List (List TRoute), rows = ts.map (fun t => [V.ro (rowsR t)]) ∧ ∀ t ∈ ts, t.length ≤ 9223372036854775807
  | [], _ => ⟨[], rfl, by simp⟩
  | r :: rows, each => by
    obtain ⟨t, rfl, ht⟩ := each r (by simp)
    obtain ⟨ts, h1, h2⟩ := rows_split fun row hm => each row (List.mem_cons_of_mem _ hm)
    exact ⟨t :: ts, by simp [h1], fun x hx => by
      rcases List.mem_cons.1 hx with rfl | hx
      · exact ht
      · exact h2 x hx⟩
theorem tables_of {e f : TypeId} {x : List V} (c : CTs P 8 [.slice e] x) (hf : flat P 8 e = some [.slice f]) (hf2 : flat P 8 f = some [.int .i64, .int .i64, .int .i64]) : ∃ (ws : List V) (ts : List (List TRoute)), x = [.ro (ws.map fun w => [w])] ∧ (∀ H, Tabs H (.ro (ws.map fun w => [w])) ts) ∧ ts.length ≤ 9223372036854775807 ∧ ∀ t ∈ ts, t.length ≤ 9223372036854775807 := by
  obtain ⟨_, _, rfl, k0, c⟩ := CTs_cons c
  obtain rfl := CTs_nil c
  obtain ⟨rows, rfl, hl, hr⟩ := CT_slice hf k0
  have each : ∀ row ∈ rows, ∃ t : List TRoute, row = [.ro (rowsR t)] ∧ t.length ≤ 9223372036854775807 := fun row hm => by
    obtain ⟨y, ys, rfl, k1, c⟩ := CTs_cons (hr row hm)
    obtain rfl := CTs_nil c
    obtain ⟨t, rfl, ht⟩ := Routes_of hf2 k1
    exact ⟨t, rfl, ht⟩
  obtain ⟨ts, hts⟩ := rows_split each
  obtain ⟨rfl, ht⟩ := hts
  refine ⟨ts.map fun t => .ro (rowsR t), ts, by simp, fun H => ⟨ts.map fun t => .ro (rowsR t), by simp, ?_, fun i hi => ?_⟩, by simp [maxLen] at hl; omega, ht⟩
  · exact Rd.ro (by simp)
  · simp at hi
    simp [hi]
    exact Rd.ro enRoute_len

end Go.Proofs.YtaippfedjjjpeaaGreat
/-
Contracts: prefixes, tables, the best route.
-/
namespace Go.Proofs.YtaippfedjjjpeaaGreat
open Go Go.Abs Go.Proofs

def hasA (net len a : Int) : Prop := net ≤ a ∧ a ≤ net + psz len - 1
instance (net len a : Int) : Decidable (hasA net len a) := by unfold hasA; infer_instance
theorem C_s_HasAddr {net len a : Int} {H : Heap} {K : V → Heap → Prop} (hp : prefOk net len) (h : K (.bool (decide (hasA net len a))) H) : ACalls P n_s_HasAddr [.agg [.int .i64 net, .int .i64 len], .int .i64 a] H K := by
  have hz := psz_in hp.1
  have ha := hp.2.1
  unfold addrOk at ha
  apply W_s_HasAddr
  unfold F_s_HasAddr
  simp
  refine ⟨_, Abs.sub_refl _, ?_⟩
  apply C_s_PrefixOk
  simp [hp]
  refine C_s_l01Size2 hp.1 ?_
  simp
  rw [i64_in (n := net + psz len) (by omega) (by omega), i64_in (n := net + psz len - 1) (by omega) (by omega)]
  apply C_s_l01In
  exact ⟨Abs.sub_refl _, Ret.iff h Iff.rfl⟩
theorem C_i_Prefix_has {net len a : Int} {H : Heap} {K : V → Heap → Prop} (hp : prefOk net len) (h : K (.bool (decide (hasA net len a))) H) : ACalls P n_i_Prefix_has [.agg [.int .i64 net, .int .i64 len], .int .i64 a] H K := by
  have hz := psz_in hp.1
  have ha := hp.2.1
  unfold addrOk at ha
  apply W_i_Prefix_has
  unfold F_i_Prefix_has
  simp
  refine ⟨_, Abs.sub_refl _, ?_⟩
  refine C_i_Prefix_size hp.1 ?_
  simp
  rw [i64_in (n := net + psz len) (by omega) (by omega), i64_in (n := net + psz len - 1) (by omega) (by omega)]
  apply C_i_within
  exact ⟨Abs.sub_refl _, Ret.iff h Iff.rfl⟩

/-! #### tables -/
theorem C_i_isRoute {r : TRoute} {H : Heap} {K : V → Heap → Prop} (h : K (.bool (decide (prefOk r.1 r.2.1 ∧ (0 ≤ r.2.2 ∧ r.2.2 ≤ 999)))) H) : ACalls P n_i_isRoute [.agg (enRoute r)] H K := by
  apply W_i_isRoute
  unfold F_i_isRoute
  simp
  apply C_i_PrefixOk
  simp
  refine ⟨fun q => ?_, fun q => Ret.no h fun hh => q hh.1⟩
  apply C_i_within
  exact Ret.iff h ⟨fun hh => ⟨q, hh⟩, fun hh => hh.2⟩

def InvTr (t : List TRoute) (H : Heap) (m : Nat) (ys : List V) (Hc : Heap) : Prop :=
  ∃ i, i ≤ t.length ∧ ys = [.int .i64 (i : Nat)] ∧ m = t.length - i ∧ Hc = H ∧ ∀ j, j < i → rtOk t j
def InvTi (w : V) (t : List TRoute) (H : Heap) (m : Nat) (ys : List V) (Hc : Heap) : Prop :=
  ∃ i, i ≤ t.length ∧ ys = [.box [w], .int .i64 (i : Nat)] ∧ m = t.length - i ∧ Hc = H ∧ ∀ j, j < i → rtOk t j
set_option maxHeartbeats 1000000 in
theorem C_i_TableOk {t : List TRoute} {w : V} {H : Heap} {K : V → Heap → Prop} (hv : Rd H 3 w (rowsR t)) (hl : t.length ≤ 1048576) (h : K (.bool (decide (tabOk t))) H) : ACalls P n_i_TableOk [.agg [w]] H K := by
  have hc := hv.cell
  apply W_i_TableOk
  unfold F_i_TableOk
  simp [hc, hv.len]
  refine ⟨InvTi w t H, ⟨t.length, Shr.of ⟨0, by omega, by simp, by omega, rfl, fun j hj => absurd hj (by omega)⟩⟩, ?_⟩
  rintro m ys Hc ⟨i, hi, rfl, rfl, rfl, hok⟩
  simp
  refine ⟨fun hlt => ?_, fun hge => ?_⟩
  · have he := rt_get hlt
    rw [i64_in (n := (i : Int) + 1) (by omega) (by omega)]
    refine hv.idx (by omega) (by simpa using hlt) fun p hp => ?_
    simp only [hp.ld]
    simp [hlt, stz_eq, putCells]
    refine ⟨_, Abs.sub_refl _, ?_⟩
    refine C_i_isRoute (r := t[i]) ?_
    simp
    by_cases q1 : prefOk t[i].1 t[i].2.1 ∧ (0 ≤ t[i].2.2 ∧ t[i].2.2 ≤ 999)
    · have next : (0 < i → ahead (rt t (i - 1)) (rt t i)) → ∃ n7, n7 < t.length - i ∧ Shr (InvTi w t Hc n7 [.box [w], .int .i64 ((i : Int) + 1)]) Hc := fun hl =>
        ⟨t.length - (i + 1), by omega, Shr.of ⟨i + 1, by omega, by simp, rfl, rfl, fun j hj => by
          by_cases e : j = i
          · subst e
            refine ⟨?_, ?_, hl⟩ <;> rw [he]
            · exact q1.1
            · exact q1.2
          · exact hok j (by omega)⟩⟩
      refine ⟨fun q => ?_, fun _ _ _ => ⟨fun q4 => ?_, fun q4 => next fun hh => absurd hh (by omega)⟩⟩
      · exact absurd q1 (fun hh => by
          rcases q with q | q | q
          · exact q hh.1
          · omega
          · omega)
      have hlt' : i - 1 < t.length := by omega
      have he' := rt_get hlt'
      have e1 : ((i : Int) - 1).toNat = i - 1 := by omega
      have ok' := hok (i - 1) (by omega)
      have b1 := ok'.1.1
      have b2 := ok'.1.2.1
      have b3 := q1.1.1
      have b4 := q1.1.2.1
      rw [he'] at b1 b2
      unfold addrOk at b2 b4
      rw [i64_in (n := (i : Int) - 1) (by omega) (by omega)]
      refine hv.idx (by omega) (by simp; omega) fun p' hp' => ?_
      refine hp'.fld fun p1 hp1 => ?_
      simp only [hp1.ld, e1]
      simp [hlt']
      refine C_i_comparePrefixes (a := t[i - 1]) (b := t[i]) ?_
      simp
      by_cases q9 : t[i - 1].1 = t[i].1
      · rw [if_pos q9, i64_in (by omega) (by omega)]
        refine ⟨fun q => Ret.no h (tabOk_no hlt fun ho => ?_), fun q => next fun _ => ?_⟩
        · have := ho.2.2 (by omega); rw [he, he'] at this; unfold ahead at this; omega
        · rw [he, he']; unfold ahead; omega
      · rw [if_neg q9, i64_in (by omega) (by omega)]
        refine ⟨fun q => Ret.no h (tabOk_no hlt fun ho => ?_), fun q => next fun _ => ?_⟩
        · have := ho.2.2 (by omega); rw [he, he'] at this; unfold ahead at this; omega
        · rw [he, he']; unfold ahead; omega
    · refine ⟨fun q => Ret.no h (tabOk_no hlt fun ho => q1 ?_), fun a b c => absurd ⟨a, b, c⟩ q1⟩
      have h1 := ho.1
      have h2 := ho.2.1
      rw [he] at h1 h2
      exact ⟨h1, h2⟩
  · have : i = t.length := by omega
    subst this
    simp [hv.len]
    exact Ret.iff h ⟨fun hh => ⟨by omega, hok⟩, fun hh => by have := hh.1; omega⟩

/-! #### the best route -/
def bestStep (a : Int) (o : Bool × TRoute) (r : TRoute) : Bool × TRoute := if hasA r.1 r.2.1 a ∧ (o.1 = false ∨ o.2.2.1 < r.2.1) then (true, r) else o
def bestOf (a : Int) (t : List TRoute) : Bool × TRoute := t.foldl (bestStep a) (false, (0, 0, 0))
theorem bestOf_succ {a : Int} {t : List TRoute} {i : Nat} (h : i < t.length) : bestOf a (t.take (i + 1)) = bestStep a (bestOf a (t.take i)) t[i] := by
  unfold bestOf
  rw [List.take_succ_eq_append_getElem h, List.foldl_append]
  rfl
def InvB1 (w : V) (t : List TRoute) (a : Int) (H : Heap) (m : Nat) (ys : List V) (Hc : Heap) : Prop :=
  ∃ i, i ≤ t.length ∧ ys = [.box [w], .box [.int .i64 0, .int .i64 0, .int .i64 0], .box (enRoute (bestOf a (t.take i)).2), .bool (bestOf a (t.take i)).1, .int .i64 (i : Nat)] ∧ m = t.length - i ∧ Hc = H
def InvTb2 (t : List TRoute) (a : Int) (H : Heap) (m : Nat) (ys : List V) (Hc : Heap) : Prop :=
  ∃ i, i ≤ t.length ∧ ys = [.box [.int .i64 0, .int .i64 0, .int .i64 0], .box (enRoute (bestOf a (t.take i)).2), .bool (bestOf a (t.take i)).1, .int .i64 (i : Nat)] ∧ m = t.length - i ∧ Hc = H
set_option maxHeartbeats 1000000 in
theorem C_i_best {t : List TRoute} {w : V} {a : Int} {H : Heap} {K : V → Heap → Prop} (hv : Rd H 3 w (rowsR t)) (ht : tabOk t) (h : K (.tup [.agg (enRoute (bestOf a t).2), .bool (bestOf a t).1]) H) : ACalls P n_i_best [w, .int .i64 a] H K := by
  have hl := ht.1
  apply W_i_best
  unfold F_i_best
  simp [hv.len, fillZ, stz_eq, putCells]
  refine ⟨InvTb2 t a H, ⟨t.length, Shr.of ⟨0, by omega, by simp [bestOf], by omega, rfl⟩⟩, ?_⟩
  rintro m ys Hc ⟨i, hi, rfl, rfl, rfl⟩
  simp
  refine ⟨fun hlt => ?_, fun hge => ?_⟩
  · have he := rt_get hlt
    have hp := (ht.2 i hlt).1
    rw [he] at hp
    have step := bestOf_succ (a := a) hlt
    rw [i64_in (n := (i : Int) + 1) (by omega) (by omega)]
    refine hv.idx (by omega) (by simpa using hlt) fun p hp' => ?_
    simp only [hp'.ld]
    simp [hlt, stz_eq, putCells]
    refine C_i_Prefix_has hp ?_
    simp
    have yes : hasA t[i].1 t[i].2.1 a ∧ ((bestOf a (t.take i)).1 = false ∨ (bestOf a (t.take i)).2.2.1 < t[i].2.1) → ∃ n16, n16 < t.length - i ∧ Shr (InvTb2 t a Hc n16 [.box [.int .i64 0, .int .i64 0, .int .i64 0], .box (enRoute t[i]), .bool true, .int .i64 ((i : Int) + 1)]) Hc := fun hy =>
      ⟨t.length - (i + 1), by omega, Shr.of ⟨i + 1, by omega, by rw [step, bestStep, if_pos hy]; simp, rfl, rfl⟩⟩
    have no : ¬ (hasA t[i].1 t[i].2.1 a ∧ ((bestOf a (t.take i)).1 = false ∨ (bestOf a (t.take i)).2.2.1 < t[i].2.1)) → ∃ n16, n16 < t.length - i ∧ Shr (InvTb2 t a Hc n16 [.box [.int .i64 0, .int .i64 0, .int .i64 0], .box (enRoute (bestOf a (t.take i)).2), .bool (bestOf a (t.take i)).1, .int .i64 ((i : Int) + 1)]) Hc := fun hn =>
      ⟨t.length - (i + 1), by omega, Shr.of ⟨i + 1, by omega, by rw [step, bestStep, if_neg hn]; simp, rfl, rfl⟩⟩
    refine ⟨fun q1 => ?_, fun q1 => no fun hh => q1 hh.1⟩
    cases hb : (bestOf a (t.take i)).1 with
    | false =>
      simp [stz_eq, putCells]
      exact yes ⟨q1, .inl hb⟩
    | true =>
      simp [stz_eq, putCells]
      refine ⟨fun q2 => yes ⟨q1, .inr q2⟩, fun q2 => ?_⟩
      have := no fun hh => by rcases hh.2 with hh | hh; rw [hb] at hh; cases hh; omega
      rwa [hb] at this
  · have : i = t.length := by omega
    subst this
    rw [List.take_length]
    simp [stz_eq, putCells]
    exact Ret.of h

end Go.Proofs.YtaippfedjjjpeaaGreat
/-
Contracts: walks over tables.
-/
namespace Go.Proofs.YtaippfedjjjpeaaGreat
open Go Go.Abs Go.Proofs

def tb (ts : List (List TRoute)) (i : Nat) : List TRoute := ts.getD i []
def fineT (ts : List (List TRoute)) (f a : Int) : Prop := (1 ≤ (ts.length : Int) ∧ (ts.length : Int) ≤ 10) ∧ (0 ≤ f ∧ f < ts.length) ∧ addrOk a ∧ ∀ i, i < ts.length → tabOk (tb ts i)
instance (ts : List (List TRoute)) (f a : Int) : Decidable (fineT ts f a) := by unfold fineT; infer_instance
theorem tb_get {ts : List (List TRoute)} {i : Nat} (h : i < ts.length) : tb ts i = ts[i] := by simp [tb, h]

def InvTf (ts : List (List TRoute)) (H : Heap) (m : Nat) (ys : List V) (Hc : Heap) : Prop :=
  ∃ i, i ≤ ts.length ∧ ys = [.int .i64 (i : Nat)] ∧ m = ts.length - i ∧ Hc = H ∧ ∀ j, j < i → tabOk (tb ts j)
def InvTi3 (len : Nat) (q : Nat → Bool) (H : Heap) (m : Nat) (ys : List V) (Hc : Heap) : Prop :=
  ∃ i, i ≤ len ∧ ys = [.int .i64 (i : Nat)] ∧ m = len - i ∧ Hc = H ∧ ∀ j, j < i → q j = false
theorem C_ContainsFunc_Table {ts : List (List TRoute)} {v f : V} {q : Nat → Bool} {H : Heap} {K : V → Heap → Prop} (hv : Tabs H v ts) (hl : ts.length ≤ 1048576) (hf : ∀ i (hi : i < ts.length) w, Rd H 3 w (rowsR ts[i]) → ∀ K', K' (.bool (q i)) H → callK P H f [.agg [w]] K')
    (h : K (.bool (decide (∃ i, i < ts.length ∧ q i = true))) H) : ACalls P n_slices_ContainsFunc_i_Table_i_Table [v, f] H K := by
  apply W_slices_ContainsFunc_i_Table_i_Table
  unfold F_slices_ContainsFunc_i_Table_i_Table
  apply W_slices_IndexFunc_i_Table_i_Table
  unfold F_slices_IndexFunc_i_Table_i_Table
  simp [hv.len]
  refine ⟨InvTi3 ts.length q H, ⟨ts.length, Shr.of ⟨0, by omega, by simp, by omega, rfl, fun j hj => absurd hj (by omega)⟩⟩, ?_⟩
  rintro m ys Hc ⟨i, hi, rfl, rfl, rfl, hok⟩
  simp
  refine ⟨fun hlt => ?_, fun hge => ?_⟩
  · refine hv.idx hlt fun p w hp hw _ => ?_
    rw [hp]
    simp
    refine hf i hlt w hw _ ?_
    cases hq : q i
    · simp
      rw [i64_in (n := (i : Int) + 1) (by omega) (by omega)]
      exact ⟨ts.length - (i + 1), by omega, Shr.of ⟨i + 1, by omega, by simp, rfl, rfl, fun j hj => by
        by_cases e : j = i
        · subst e; exact hq
        · exact hok j (by omega)⟩⟩
    · simp
      refine Ret.of ?_
      simp
      exact Ret.eq h (by simp; exact ⟨i, hlt, hq⟩)
  · have : i = ts.length := by omega
    subst this
    refine Ret.of ?_
    simp
    exact Ret.eq h (by simp; exact fun j hj => by simp [hok j hj])
theorem C_i_areTables {ts : List (List TRoute)} {v : V} {f a : Int} {H : Heap} {K : V → Heap → Prop} (hv : Tabs H v ts) (hl : ts.length + tot ts ≤ 1048576) (h : K (.bool (decide (fineT ts f a))) H) : ACalls P n_i_areTables [v, .int .i64 f, .int .i64 a] H K := by
  apply W_i_areTables
  unfold F_i_areTables
  simp [hv.len]
  apply C_i_within
  simp
  refine ⟨fun q1 q2 => ?_, fun q => Ret.no h fun hh => by have := hh.1; omega⟩
  rw [i64_in (by omega) (by omega)]
  apply C_i_within
  simp
  refine ⟨fun q3 q4 => ?_, fun q => Ret.no h fun hh => by have := hh.2.1; omega⟩
  apply C_i_isAddr
  simp
  refine ⟨fun q5 => ?_, fun q => Ret.no h fun hh => q hh.2.2.1⟩
  refine C_ContainsFunc_Table (q := fun i => !decide (tabOk (tb ts i))) hv (by omega) (fun i hi w hw K' hk => ?_) ?_
  · simp only [callK]
    rw [E_i_areTables_1]
    show ACalls P n_i_areTables_1 [.agg [w]] H K'
    apply W_i_areTables_1
    unfold F_i_areTables_1
    have hc := hw.cell
    simp [hc]
    have := len_le_tot hi
    refine C_i_TableOk hw (by omega) ?_
    simp
    refine Ret.eq hk ?_
    simp [tb_get hi]
  · simp only [aNot, bnd_some]
    refine Ret.eq h ?_
    by_cases hf : fineT ts f a
    · rw [decide_eq_true hf, decide_eq_false, Bool.not_false]
      rintro ⟨i, hi, hh⟩
      simp only [Bool.not_eq_true', decide_eq_false_iff_not] at hh
      exact hh (hf.2.2.2 i hi)
    · rw [decide_eq_false hf, decide_eq_true, Bool.not_true]
      apply Classical.byContradiction
      intro hh
      refine hf ⟨by omega, by omega, q5, fun i hi => ?_⟩
      apply Classical.byContradiction
      intro h2
      exact hh ⟨i, hi, by simp only [Bool.not_eq_true', decide_eq_false_iff_not]; exact h2⟩

/-! #### walking -/
def hopT (a : Int) (t : List TRoute) : Int := if (bestOf a t).1 = true then (bestOf a t).2.2.2 else -1
theorem best_mem {a : Int} {t : List TRoute} : ∀ {i : Nat}, i ≤ t.length → (bestOf a (t.take i)).1 = true → (bestOf a (t.take i)).2 ∈ t
  | 0, _, h => by simp [bestOf] at h
  | i + 1, hi, h => by
    rw [bestOf_succ (by omega)] at h ⊢
    unfold bestStep at h ⊢
    split at h
    · rename_i hc
      rw [if_pos hc]
      exact List.getElem_mem (by omega)
    · rename_i hc
      rw [if_neg hc]
      exact best_mem (by omega) h
theorem hopT_in {a : Int} {t : List TRoute} (ht : tabOk t) : -1 ≤ hopT a t ∧ hopT a t ≤ 999 ∧ ((bestOf a t).1 = true → 0 ≤ hopT a t) := by
  unfold hopT
  by_cases h : (bestOf a t).1 = true
  · have := best_mem (a := a) (t := t) (Nat.le_refl t.length) (by rw [List.take_length]; exact h)
    rw [List.take_length] at this
    obtain ⟨i, hi, e⟩ := List.getElem_of_mem this
    have hr := (ht.2 i hi).2.1
    rw [rt_get hi, e] at hr
    rw [if_pos h]
    exact ⟨by omega, by omega, fun _ => by omega⟩
  · rw [if_neg h]
    exact ⟨by omega, by omega, fun hh => absurd hh h⟩
def walkP (ts : List (List TRoute)) (a : Int) : Nat → Int → List Int → List Int × Int
  | ttl, f, way =>
    if hopT a (tb ts f.toNat) < 0 ∨ (ts.length : Int) < hopT a (tb ts f.toNat) then (way, 1)
    else if hopT a (tb ts f.toNat) = 0 then (way, 0)
    else match ttl with
      | 0 => (way, 2)
      | t + 1 => walkP ts a t (hopT a (tb ts f.toNat) - 1) (way ++ [hopT a (tb ts f.toNat) - 1])
def walk (ts : List (List TRoute)) (f a ttl : Int) : List Int × Int := walkP ts a ttl.toNat f [f]
theorem walkP_none {ts : List (List TRoute)} {a : Int} {n : Nat} {f : Int} {way : List Int} (h : hopT a (tb ts f.toNat) < 0 ∨ (ts.length : Int) < hopT a (tb ts f.toNat)) : walkP ts a n f way = (way, 1) := by unfold walkP; rw [if_pos h]
theorem walkP_home {ts : List (List TRoute)} {a : Int} {n : Nat} {f : Int} {way : List Int} (h : hopT a (tb ts f.toNat) = 0) : walkP ts a n f way = (way, 0) := by unfold walkP; rw [if_neg (by omega), if_pos h]
theorem walkP_loop {ts : List (List TRoute)} {a : Int} {f : Int} {way : List Int} (h : ¬ (hopT a (tb ts f.toNat) < 0 ∨ (ts.length : Int) < hopT a (tb ts f.toNat))) (h0 : hopT a (tb ts f.toNat) ≠ 0) : walkP ts a 0 f way = (way, 2) := by unfold walkP; rw [if_neg h, if_neg h0]
theorem walkP_go {ts : List (List TRoute)} {a : Int} {n : Nat} {f : Int} {way : List Int} (h : ¬ (hopT a (tb ts f.toNat) < 0 ∨ (ts.length : Int) < hopT a (tb ts f.toNat))) (h0 : hopT a (tb ts f.toNat) ≠ 0) : walkP ts a (n + 1) f way = walkP ts a n (hopT a (tb ts f.toNat) - 1) (way ++ [hopT a (tb ts f.toNat) - 1]) := by
  rw [walkP, if_neg h, if_neg h0]
theorem walkP_len {ts : List (List TRoute)} {a : Int} : ∀ {n : Nat} {f : Int} {way : List Int}, (walkP ts a n f way).1.length ≤ way.length + n
  | n, f, way => by
    unfold walkP
    split
    · simp
    · split
      · simp
      · cases n with
        | zero => simp
        | succ n =>
          have := walkP_len (ts := ts) (a := a) (n := n) (f := hopT a (tb ts f.toNat) - 1) (way := way ++ [hopT a (tb ts f.toNat) - 1])
          simp at this ⊢
          omega

def InvWs (H : Heap) (ts : List (List TRoute)) (a : Int) (r : List Int × Int) (m : Nat) (ys : List V) (Hc : Heap) : Prop :=
  ∃ (n : Nat) (f : Int) (way : List Int) (u : V), n ≤ 16 ∧ (0 ≤ f ∧ f < ts.length) ∧ ys = [.int .i64 (n : Nat), u, .int .i64 f] ∧ m = n ∧ way.length + n ≤ 17 ∧ walkP ts a n f way = r ∧ Held H 1 (way.map ri) u Hc

def InvWi (H : Heap) (ts : List (List TRoute)) (a : Int) (r : List Int × Int) (m : Nat) (ys : List V) (Hc : Heap) : Prop :=
  ∃ (n : Nat) (f : Int) (way : List Int) (u : V), n ≤ 16 ∧ (0 ≤ f ∧ f < ts.length) ∧ ys = [.int .i64 f, .int .i64 (n : Nat), u] ∧ m = n ∧ way.length + n ≤ 17 ∧ walkP ts a n f way = r ∧ Held H 1 (way.map ri) u Hc

theorem C_i_walk {ts : List (List TRoute)} {v : V} {f a ttl : Int} {H : Heap} {K : V → Heap → Prop} (hv : Tabs H v ts) (hf : fineT ts f a) (ht : 0 ≤ ttl ∧ ttl ≤ 16)
    (h : ∀ u H', Held H 1 ((walk ts f a ttl).1.map ri) u H' → K (.tup [u, .int .i64 (walk ts f a ttl).2]) H') : ACalls P n_i_walk [v, .int .i64 f, .int .i64 a, .int .i64 ttl] H K := by
  apply W_i_walk
  unfold F_i_walk
  simp [bsl_one]
  intro o ho
  refine ⟨InvWi H ts a (walk ts f a ttl), ⟨ttl.toNat, Shr.of ⟨ttl.toNat, f, [f], .slice o 0 1 (some 1), by omega, hf.2.1, by simp; omega, rfl, by simp; omega, rfl, Held.full ho (by simp)⟩⟩, ?_⟩
  rintro m ys Hc ⟨n, at_, way, u, hn, hat, rfl, rfl, hwl, hw, hu⟩
  have hat' : at_.toNat < ts.length := by omega
  have hok := hf.2.2.2 _ hat'
  have hh := hopT_in (a := a) hok
  have he : at_ = ((at_.toNat : Nat) : Int) := by omega
  simp
  have hvc := hv.mono hu.sub
  rw [he]
  refine hvc.idx hat' fun p w hp hw' hfld => ?_
  rw [hfld]
  simp
  rw [hp]
  simp
  rw [← tb_get hat'] at hw'
  refine C_i_best hw' hok ?_
  simp [stz_eq, putCells, hv.len]
  refine ⟨fun q => ?_, fun hb => ?_⟩
  · have e1 : hopT a (tb ts at_.toNat) = -1 := by rw [hopT, if_neg (by rw [q]; simp)]
    rw [walkP_none (.inl (by omega))] at hw
    rw [← hw] at h
    exact Ret.of (h _ _ hu)
  have e1 : (bestOf a (tb ts at_.toNat)).2.2.2 = hopT a (tb ts at_.toNat) := by rw [hopT, if_pos hb]
  have h0 := hh.2.2 hb
  rw [e1]
  refine ⟨fun q => ?_, fun q1 => ⟨fun q => ?_, fun q2 => ⟨fun q => ?_, fun q3 => ?_⟩⟩⟩
  · rw [walkP_none (.inr q)] at hw
    rw [← hw] at h
    exact Ret.of (h _ _ hu)
  · rw [walkP_home q] at hw
    rw [← hw] at h
    exact Ret.of (h _ _ hu)
  · subst q
    rw [walkP_loop (by omega) q2] at hw
    rw [← hw] at h
    exact Ret.of (h _ _ hu)
  obtain ⟨n', rfl⟩ : ∃ n', m = n' + 1 := ⟨m - 1, by omega⟩
  rw [walkP_go (by omega) q2] at hw
  rw [i64_in (n := hopT a (tb ts at_.toNat) - 1) (by omega) (by omega)]
  simp [bsl_one]
  intro o3 ho3
  refine hu.append (sub_fresh ho3) (by simp) (by simp; omega) fun v' H' H'' ho' hs' => ?_
  refine ⟨n', by omega, H'', hs', n', hopT a (tb ts at_.toNat) - 1, way ++ [hopT a (tb ts at_.toNat) - 1], v', by omega, by omega, ?_, rfl, by simp; omega, hw, by simpa using ho'⟩
  simp
  rw [i64_in (by omega) (by omega)]

end Go.Proofs.YtaippfedjjjpeaaGreat
/-
Numbers that pass a test, in order.
-/
namespace Go.Proofs.YtaippfedjjjpeaaGreat
open Go Go.Abs Go.Proofs

end Go.Proofs.YtaippfedjjjpeaaGreat
/-
Contracts: which nodes a walk ends at.
-/
namespace Go.Proofs.YtaippfedjjjpeaaGreat
open Go Go.Abs Go.Proofs

def endQ (ts : List (List TRoute)) (a ttl code x : Int) : Bool := decide ((walk ts x a ttl).2 = code)
def nodesW (ts : List (List TRoute)) (a ttl code : Int) : List Int := if fineT ts 0 a then fil (endQ ts a ttl code) ts.length else []
theorem nodesW_len {ts : List (List TRoute)} (a ttl code : Int) : (nodesW ts a ttl code).length ≤ 10 := by
  unfold nodesW
  split
  · rename_i h
    have := h.1
    have := fil_len (endQ ts a ttl code) ts.length
    omega
  · simp
theorem fine_at {ts : List (List TRoute)} {a x : Int} (h : fineT ts 0 a) (hx : 0 ≤ x ∧ x < ts.length) : fineT ts x a := ⟨h.1, hx, h.2.2⟩
theorem walk_len {ts : List (List TRoute)} {f a ttl : Int} (h : 0 ≤ ttl ∧ ttl ≤ 16) : (walk ts f a ttl).1.length ≤ 17 := by
  have := walkP_len (ts := ts) (a := a) (n := ttl.toNat) (f := f) (way := [f])
  simp at this
  unfold walk
  omega

theorem C_i_nodesWith {ts : List (List TRoute)} {v : V} {a ttl code : Int} {H : Heap} {K : V → Heap → Prop} (hv : Tabs H v ts) (hl : ts.length + tot ts ≤ 1048576) (ht : 0 ≤ ttl ∧ ttl ≤ 16) (h : ∀ u H', Held H 1 ((nodesW ts a ttl code).map ri) u H' → K u H') : ACalls P n_i_nodesWith [v, .int .i64 a, .int .i64 ttl, .int .i64 code] H K := by
  apply W_i_nodesWith
  unfold F_i_nodesWith
  refine C_i_areTables hv hl ?_
  simp
  refine ⟨fun q => Ret.of (h .nils H (by rw [nodesW, if_neg q]; exact Held.nil)), fun hf => ?_⟩
  rw [nodesW, if_pos hf] at h
  have hn := hf.1
  simp [bsl_nil, hv.len]
  intro o ho
  refine ⟨InvFil H ts.length (endQ ts a ttl code), ⟨ts.length, Shr.of (InvFil.start (by omega) ho)⟩, ?_⟩
  rintro m ys Hc ⟨i, u, Hb, hi, rfl, rfl, hsb, hu⟩
  simp
  refine ⟨fun hlt => ?_, fun hge => ?_⟩
  · have hfx := fine_at (x := (i : Int)) hf (by omega)
    have hlen := fil_len (endQ ts a ttl code) i
    refine C_i_walk (hv.mono (sub_trans hsb hu.sub)) hfx ht fun w H1 hw => ?_
    simp
    rw [i64_in (n := (i : Int) + 1) (by omega) (by omega)]
    obtain ⟨Hb', r1, r2⟩ := hu.swap hw
    refine ⟨fun q => ?_, fun q => ?_⟩
    · simp [bsl_one]
      intro o3 ho3
      refine r2.append (sub_fresh ho3) (by simp) (by simp; omega) fun v' H' H'' ho' hs' => ?_
      refine ⟨ts.length - (i + 1), by omega, H'', hs', i + 1, v', Hb', by omega, by simp, by omega, sub_trans hsb r1.sub, ?_⟩
      rw [fil_yes (decide_eq_true q)]
      simpa using ho'
    · refine ⟨ts.length - (i + 1), by omega, Hc, hw.sub, i + 1, u, Hb, by omega, by simp, by omega, hsb, ?_⟩
      rw [fil_no (decide_eq_false q)]
      exact hu
  · have e : i = ts.length := by omega
    subst e
    exact Ret.held hu hsb h

def countHome (ts : List (List TRoute)) (a : Int) : Int := if fineT ts 0 a then (nodesW ts a 16 0).length else -1
theorem C_i_CountHome {ts : List (List TRoute)} {v : V} {a : Int} {H : Heap} {K : V → Heap → Prop} (hv : Tabs H v ts) (hl : ts.length + tot ts ≤ 1048576) (h : K (.int .i64 (countHome ts a)) H) : ACalls P n_i_CountHome [v, .int .i64 a] H K := by
  apply W_i_CountHome
  unfold F_i_CountHome
  refine C_i_areTables hv hl ?_
  simp
  refine ⟨fun q => Ret.eq h (by rw [countHome, if_neg q]), fun hf => ?_⟩
  refine C_i_nodesWith hv hl (by omega) fun u H' hu => ?_
  simp [(hu.rd ri_len).len]
  exact Ret.shr h (by rw [countHome, if_pos hf]) hu.sub
theorem C_i_LoopsAt {ts : List (List TRoute)} {v : V} {a : Int} {H : Heap} {K : V → Heap → Prop} (hv : Tabs H v ts) (hl : ts.length + tot ts ≤ 1048576) (h : ∀ u H', Held H 1 ((nodesW ts a 16 2).map ri) u H' → K u H') : ACalls P n_i_LoopsAt [v, .int .i64 a] H K := by
  apply W_i_LoopsAt
  unfold F_i_LoopsAt
  exact C_i_nodesWith hv hl (by omega) fun u H' hu => Ret.of (h _ _ hu)
theorem C_i_Sinks {ts : List (List TRoute)} {v : V} {a : Int} {H : Heap} {K : V → Heap → Prop} (hv : Tabs H v ts) (hl : ts.length + tot ts ≤ 1048576) (h : ∀ u H', Held H 1 ((nodesW ts a 0 0).map ri) u H' → K u H') : ACalls P n_i_Sinks [v, .int .i64 a] H K := by
  apply W_i_Sinks
  unfold F_i_Sinks
  exact C_i_nodesWith hv hl (by omega) fun u H' hu => Ret.of (h _ _ hu)
theorem end_zero {ts : List (List TRoute)} {a x : Int} (hx : 0 ≤ x ∧ x < ts.length) : endQ ts a 0 0 x = decide (hopT a (tb ts x.toNat) = 0) := by
  unfold endQ walk
  by_cases h0 : hopT a (tb ts x.toNat) = 0
  · rw [show (0 : Int).toNat = 0 from rfl, walkP_home h0, decide_eq_true h0]; rfl
  · rw [decide_eq_false h0]
    by_cases h1 : hopT a (tb ts x.toNat) < 0 ∨ (ts.length : Int) < hopT a (tb ts x.toNat)
    · rw [show (0 : Int).toNat = 0 from rfl, walkP_none h1]; rfl
    · rw [show (0 : Int).toNat = 0 from rfl, walkP_loop h1 h0]; rfl
theorem C_i_Walk {ts : List (List TRoute)} {v : V} {f a ttl : Int} {H : Heap} {K : V → Heap → Prop} (hv : Tabs H v ts) (hl : ts.length + tot ts ≤ 1048576) (hno : ¬ (fineT ts f a ∧ (0 ≤ ttl ∧ ttl ≤ 16)) → K (.tup [.nils, .int .i64 3]) H)
    (h : fineT ts f a → (0 ≤ ttl ∧ ttl ≤ 16) → ∀ u H', Held H 1 ((walk ts f a ttl).1.map ri) u H' → K (.tup [u, .int .i64 (walk ts f a ttl).2]) H') : ACalls P n_i_Walk [v, .int .i64 f, .int .i64 a, .int .i64 ttl] H K := by
  apply W_i_Walk
  unfold F_i_Walk
  refine C_i_areTables hv hl ?_
  simp
  refine ⟨fun q => Ret.of (hno fun hh => q hh.1), fun hf => ?_⟩
  apply C_i_within
  simp
  refine ⟨fun q => Ret.of (hno fun hh => by omega), fun q1 q2 => ?_⟩
  refine C_i_walk hv hf ⟨q1, q2⟩ fun u H' hu => ?_
  simp
  exact Ret.of (h hf ⟨q1, q2⟩ _ _ hu)

end Go.Proofs.YtaippfedjjjpeaaGreat
