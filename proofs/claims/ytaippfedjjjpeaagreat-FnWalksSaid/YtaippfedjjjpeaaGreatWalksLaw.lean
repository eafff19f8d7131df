/-
The law FnWalks.
-/
import Derived.Test.YtaippfedjjjpeaaGreatWalM
import Derived.Test.YtaippfedjjjpeaaGreatTblK
import Derived.Test.YtaippfedjjjpeaaGreatDrawP
import Derived.Test.YtaippfedjjjpeaaGreatLawAid
set_option linter.all false
namespace Go.Proofs.YtaippfedjjjpeaaGreat
open Go Go.Abs Go.Proofs

theorem tabs_of {b : Bool} {H : Heap} {ts : List (List TRoute)} {v : V} (h : (tablesT b).rd H ts [v]) : Tabs H v ts := by
  obtain ⟨w', rows, e, h1, h2⟩ := h
  cases e
  have hl := h2.len
  have each : ∀ i (hi : i < ts.length) (hr : i < rows.length), ∃ x, rows[i] = [x] ∧ Rd H 3 x (ts[i].map enRoute) := fun i hi hr => by
    have := h2.get hi hr
    obtain ⟨x, rs, e, q1, q2⟩ := id this
    rw [e] at this
    exact ⟨x, e, (flat_rd.1 this).1⟩
  refine ⟨rows.map (fun r => r.headD .any), by simp [hl], ?_, fun i hi => ?_⟩
  · have : (rows.map (fun r => r.headD .any)).map (fun w => [w]) = rows := by
      rw [List.map_map]
      refine List.ext_getElem (by simp) fun i h1 h2 => ?_
      obtain ⟨x, e, _⟩ := each i (by omega) h2
      simp [e]
    rw [this]
    exact h1.1
  · simp at hi
    have hr : i < rows.length := by omega
    obtain ⟨x, e, q⟩ := each i hi hr
    simpa [hi, hr, e] using q
theorem pfxR_tbl {xs : List TLsa} {x : Int} (h : (graphR xs).2 = true) (hx : 0 ≤ x ∧ x ≤ 9) : pfxR xs x = (tbl xs x, true) := by
  unfold pfxR
  rw [if_pos ⟨h, hx⟩]
  rfl
theorem tbls_succ (xs : List TLsa) (n : Nat) : tbls xs (n + 1) = tbls xs n ++ [tbl xs (n : Nat)] := by
  unfold tbls
  rw [List.range_succ, List.map_append]
  rfl
theorem tot_small : ∀ {ts : List (List TRoute)}, (∀ t ∈ ts, t.length ≤ 1000) → tot ts ≤ 1000 * ts.length
  | [], _ => by simp [tot]
  | t :: ts, h => by
    have h1 := tot_small (ts := ts) fun x hx => h x (by simp [hx])
    have h2 := h t (by simp)
    unfold tot at *
    simp only [List.map_cons, List.sum_cons, List.length_cons]
    omega
theorem tbls_tot {xs : List TLsa} (h : (graphR xs).2 = true) : (tbls xs 10).length + tot (tbls xs 10) ≤ 1048576 := by
  have tl := tbls_len xs 10
  have := tot_small (ts := tbls xs 10) fun t ht => by
    unfold tbls at ht
    obtain ⟨i, hi, rfl⟩ := List.mem_map.1 ht
    have hi := List.mem_range.1 hi
    have sz := pfxR_sz (xs := xs) (f := (i : Nat))
    rw [pfxR_tbl h (by omega)] at sz
    exact sz
  omega
def ows (a : Int) (qs : List (Int × TStub)) : List Int := (qs.filter (own a)).map (·.1)
theorem ows_snoc (a : Int) (qs : List (Int × TStub)) (q : Int × TStub) : ows a (qs ++ [q]) = if own a q = true then ows a qs ++ [q.1] else ows a qs := by
  unfold ows
  rw [List.filter_append]
  by_cases e : own a q = true
  · simp [e]
  · simp [e]
theorem ows_len (a : Int) (qs : List (Int × TStub)) : (ows a qs).length ≤ qs.length := by
  unfold ows
  have := List.length_filter_le (own a) qs
  simpa using this
theorem ows_one {a : Int} {qs : List (Int × TStub)} (h : (ows a qs).length = 1) : ∃ q0, qs.filter (own a) = [q0] ∧ ows a qs = [q0.1] := by
  unfold ows at *
  rw [List.length_map] at h
  obtain ⟨q0, e⟩ := List.length_eq_one_iff.1 h
  exact ⟨q0, e, by rw [e]; rfl⟩
theorem prs_small {xs : List TLsa} (hd : dbOk xs) : (prs xs).length ≤ 100 := by
  rw [prs_len]
  exact (pAll_ok hd).1
theorem prs_part {xs : List TLsa} {j m : Nat} (hj : j < xs.length) (hm : m ≤ xs[j].stubs.length) : (prs (xs.take j) ++ (xs[j].stubs.take m).map fun s => (xs[j].origin, s)).length ≤ (prs xs).length := by
  have e : prs xs = prs (xs.take (j + 1)) ++ prs (xs.drop (j + 1)) := by
    unfold prs
    rw [← List.flatMap_append, List.take_append_drop]
  rw [e, prs_succ hj]
  simp
  omega
theorem C_i_WalkCost {n : Int} {v w : V} {es : List TEdge} {ws : List Int} {H : Heap} {K : V → Heap → Prop} (hv : Rd H 3 v (es.map enEdge)) (hw : Rd H 1 w (ws.map ri)) (h : K (.int .i64 (wayCost n es ws)) H) : ACalls P n_i_WalkCost [vG n v, w] H K := by
  have hc := hv.cell
  apply W_i_WalkCost
  unfold F_i_WalkCost
  simp [hc]
  exact C_i_WayCost hv hw (Ret.of h)

def InvK1 (H : Heap) (xs : List TLsa) (u g : V) (m : Nat) (ys : List V) (Hc : Heap) : Prop :=
  ∃ (i : Nat) (v : V), i ≤ 10 ∧ ys = [.box [u], .box [.int .i64 10, g], v, .int .i64 (i : Nat)] ∧ m = 10 - i ∧ Dp (tablesT false) H (tbls xs i) [v] Hc
def InvK2 (H : Heap) (n : Nat) (m : Nat) (ys : List V) (Hc : Heap) : Prop :=
  ∃ i : Nat, i ≤ n ∧ ys = [.int .i64 (i : Nat)] ∧ m = n - i ∧ Hc = H
def InvK3 (H : Heap) (xs : List TLsa) (a : Int) (m : Nat) (ys : List V) (Hc : Heap) : Prop :=
  ∃ (j : Nat) (u : V), j ≤ xs.length ∧ ys = [u, .int .i64 (j : Nat)] ∧ m = xs.length - j ∧ Held H 1 ((ows a (prs (xs.take j))).map ri) u Hc
def InvK4 (H : Heap) (xs : List TLsa) (a : Int) (j : Nat) (b : TLsa) (m : Nat) (ys : List V) (Hc : Heap) : Prop :=
  ∃ (k : Nat) (u : V), k ≤ b.stubs.length ∧ ys = [u, .int .i64 (k : Nat)] ∧ m = b.stubs.length - k ∧ Held H 1 ((ows a (prs (xs.take j) ++ (b.stubs.take k).map fun s => (b.origin, s))).map ri) u Hc
def reach (es : List TEdge) (o : Int) (x : Int) : Bool := decide (far 10 es x o ≠ 1000000)
def InvK5 (H : Heap) (es : List TEdge) (o : Int) (m : Nat) (ys : List V) (Hc : Heap) : Prop :=
  ∃ x : Nat, x ≤ 10 ∧ ys = [.int .i64 ((fil (reach es o) x).length : Nat), .int .i64 (x : Nat)] ∧ m = 10 - x ∧ Hc = H
set_option maxHeartbeats 8000000 in
theorem C_l_FnWalks {v : V} {bs : List (List V)} {H : Heap} {K : V → Heap → Prop} (hv : Rd H 1 v bs) (hb : Bs bs) (hl : bs.length ≤ 9223372036854775807) (hcell : cellsOf v = [v] ∧ cellOk v = true ∧ notAny v = true) (h : ∀ H', K (.bool true) H') : ACalls P n_l_FnWalks [v] H K := by
  apply W_l_FnWalks
  unfold F_l_FnWalks
  refine C_l_big hv.len ?_
  simp
  refine ⟨fun _ => Ret.of (h _), fun _ => ?_⟩
  refine C_w_DrawPrefixesOf hv hb hl hcell fun xs u f H1 hs1 hf hr => ?_
  have cu := rdS_cell hr
  have sz := fits_sz hf (by omega)
  simp [stz_eq, putCells, cu]
  refine C_s_GraphOf (c := false) hr sz fun us H2 h2 => ?_
  obtain ⟨g, rfl, hg1⟩ := graph_dp h2
  have cg := hg1.cell
  have hr2 := (dbT false).mono hr h2.sub
  have r1 := hg1.rd enEdge_len
  clear h2 hg1
  simp [stz_eq, putCells, cu, cg]
  refine ⟨fun _ => Ret.of (h _), fun hy => ?_⟩
  obtain ⟨hd, hg⟩ := graph_db hy
  have e : graphR xs = (⟨10, edgesOf xs xs⟩, true) := graph_yes ⟨hd, (graphOf_ok hd).1 hg⟩
  have lx := db_len hd
  have lp := prs_small hd
  rw [e] at r1 ⊢
  simp at r1
  simp [bsl_nil]
  intro o16 ho16
  refine ⟨InvK1 H2 xs u g, ⟨10, Shr.of ⟨0, .slice o16 0 0 (some 0), by omega, rfl, by omega, dpS_new ho16⟩⟩, ?_⟩
  rintro m ys Ht ⟨i, tv, hi, rfl, rfl, ht⟩
  have hrt := (dbT false).mono hr2 ht.sub
  simp
  refine ⟨fun hlt => ?_, fun hge => ?_⟩
  · refine C_i_TableFor hrt sz fun t H3 h3 => ?_
    have ct := dpS_cell h3
    have lt := rdS_len h3.rd
    simp [stz_eq, putCells, cu, ct]
    refine C_s_TableFor ((dbT false).mono hrt h3.sub) sz fun t2 H4 h4 => ?_
    have ct2 := dpS_cell h4
    have lt2 := rdS_len h4.rd
    simp only [pfxR_tbl hy (show 0 ≤ ((i : Nat) : Int) ∧ ((i : Nat) : Int) ≤ 9 by omega)] at h3 h4 lt lt2 ⊢
    simp [stz_eq, putCells, cu, ct, ct2, lt, lt2, bsl_one]
    intro o45 ho45
    refine dpS_app ht h3 (sub_trans h4.sub (sub_fresh ho45)) (by rw [tbls_len]; omega) fun v' H' H'' q1 q2 => ?_
    rw [i64_in (n := (i : Int) + 1) (by omega) (by omega)]
    rw [← tbls_succ] at q1
    exact ⟨10 - (i + 1), by omega, H'', q2, i + 1, v', by omega, by simp, rfl, q1⟩
  have : i = 10 := by omega
  subst this
  have tb := tabs_of ht.rd
  have tt := tbls_tot hy
  have rg := r1.mono ht.sub
  refine ⟨InvK2 Ht xs.length, ⟨xs.length, Shr.of ⟨0, by omega, rfl, by omega, rfl⟩⟩, ?_⟩
  rintro m ys Hc ⟨i, hi, rfl, rfl, rfl⟩
  simp [rdS_len hrt]
  refine ⟨fun hlt => ?_, fun hge => Ret.of (h _)⟩
  have lsi : lsaOk xs[i] := hd.1 i hlt
  refine ⟨InvK2 Hc xs[i].stubs.length, ⟨xs[i].stubs.length, Shr.of ⟨0, by omega, rfl, by omega, rfl⟩⟩, ?_⟩
  rintro m ys Hc ⟨k, hk, rfl, rfl, rfl⟩
  simp
  refine rdS_idx hrt (by omega) (by simpa using hlt) fun p row hp hrw => ?_
  simp only [Int.toNat_natCast] at hrw
  obtain ⟨l1, s1, rfl, g1, g2⟩ := hrw
  refine hp.fld fun q hq => ?_
  rw [hq.ld]
  simp [g2.1.len]
  refine ⟨fun hlk => ?_, fun hge => ?_⟩
  · refine rdS_idx hrt (by omega) (by simpa using hlt) fun p row hp hrw => ?_
    simp only [Int.toNat_natCast] at hrw
    obtain ⟨l1, s1, rfl, g1, g2⟩ := hrw
    refine hp.fld fun q hq => ?_
    rw [hq.ld]
    simp
    have hgk : (xs[i].stubs.map enStub).getD k [] = enStub xs[i].stubs[k] := by simp [hlk]
    refine g2.1.idx (by omega) (by simpa using hlk) fun q hp => ?_
    simp only [Int.toNat_natCast, hgk] at hp
    refine hp.fld fun q hp => ?_
    refine hp.fld fun q hp => ?_
    rw [hp.ld]
    simp [enStub, bsl_nil]
    have pa : addrOk xs[i].stubs[k].1 := by
      have := (lsi.2.2.2.2.2.2 k hlk).1
      rw [show rt xs[i].stubs k = xs[i].stubs[k] by simp [rt, hlk]] at this
      exact this.2.1
    generalize xs[i].stubs[k].1 = a at pa
    clear hp hgk g1 g2 hq
    intro o80 ho80
    refine ⟨InvK3 Hc xs a, ⟨xs.length, Shr.of ⟨0, .slice o80 0 0 (some 0), by omega, rfl, by omega, by simpa [prs, ows] using Held.new ho80⟩⟩, ?_⟩
    rintro m ys Hd ⟨j, ou, hj, rfl, rfl, hou⟩
    simp
    refine ⟨fun hlj => ?_, fun hgj => ?_⟩
    · have lsj : lsaOk xs[j] := hd.1 j hlj
      have lsj5 := lsj.2.2.2.2.1
      refine ⟨InvK4 Hc xs a j xs[j], ⟨xs[j].stubs.length, Shr.of ⟨0, ou, by omega, rfl, by omega, by simpa using hou⟩⟩, ?_⟩
      rintro m ys He ⟨mm, ov, hm, rfl, rfl, hov⟩
      have hre := (dbT false).mono hrt hov.sub
      have psz := prs_part hlj hm
      have osz := ows_len a (prs (xs.take j) ++ (xs[j].stubs.take mm).map fun s => (xs[j].origin, s))
      simp
      refine rdS_idx hre (by omega) (by simpa using hlj) fun p row hp hrw => ?_
      simp only [Int.toNat_natCast] at hrw
      obtain ⟨l2, s2, rfl, _, g4⟩ := hrw
      refine hp.fld fun q hq => ?_
      rw [hq.ld]
      simp [g4.1.len]
      refine ⟨fun hlm => ?_, fun hgm => ?_⟩
      · have hgk : (xs[j].stubs.map enStub).getD mm [] = enStub xs[j].stubs[mm] := by simp [hlm]
        have pj := (lsj.2.2.2.2.2.2 mm hlm).1
        rw [show rt xs[j].stubs mm = xs[j].stubs[mm] by simp [rt, hlm]] at pj
        rw [i64_in (n := (mm : Int) + 1) (by omega) (by omega)]
        refine rdS_idx hre (by omega) (by simpa using hlj) fun p row hp hrw => ?_
        simp only [Int.toNat_natCast] at hrw
        obtain ⟨l2, s2, rfl, _, g4⟩ := hrw
        refine hp.fld fun q hq => ?_
        rw [hq.ld]
        simp
        refine g4.1.idx (by omega) (by simpa using hlm) fun q hp => ?_
        simp only [Int.toNat_natCast, hgk] at hp
        refine hp.fld fun q hp => ?_
        rw [hp.ld]
        simp [enStub]
        have nx : ows a (prs (xs.take j) ++ (xs[j].stubs.take (mm + 1)).map fun s => (xs[j].origin, s)) = if own a (xs[j].origin, xs[j].stubs[mm]) = true then ows a (prs (xs.take j) ++ (xs[j].stubs.take mm).map fun s => (xs[j].origin, s)) ++ [xs[j].origin] else ows a (prs (xs.take j) ++ (xs[j].stubs.take mm).map fun s => (xs[j].origin, s)) := by
          rw [List.take_succ_eq_append_getElem hlm, List.map_append, ← List.append_assoc]
          exact ows_snoc ..
        refine C_s_HasAddr pj ?_
        simp
        refine ⟨fun hA => ?_, fun hA => ?_⟩
        · rw [if_pos (by unfold own; simpa using hA)] at nx
          refine rdS_idx hre (by omega) (by simpa using hlj) fun p row hp hrw => ?_
          simp only [Int.toNat_natCast] at hrw
          obtain ⟨l2, s2, rfl, _, g4⟩ := hrw
          refine hp.fld fun q hq => ?_
          rw [hq.ld]
          simp [bsl_one]
          intro o116 ho116
          refine hov.append (sub_fresh ho116) (by simp) (by simp only [List.length_map, List.length_cons, List.length_nil]; omega) fun v' H' H'' q1 q2 => ?_
          exact ⟨xs[j].stubs.length - (mm + 1), by omega, H'', q2, mm + 1, v', by omega, by simp, rfl, by rw [nx, List.map_append]; exact q1⟩
        · rw [if_neg (by unfold own; simpa using hA)] at nx
          exact ⟨xs[j].stubs.length - (mm + 1), by omega, Shr.of ⟨mm + 1, ov, by omega, by simp, rfl, by rw [nx]; exact hov⟩⟩
      · have : mm = xs[j].stubs.length := by omega
        subst this
        rw [List.take_length, ← prs_succ hlj] at hov
        rw [i64_in (n := (j : Int) + 1) (by omega) (by omega)]
        exact ⟨xs.length - (j + 1), by omega, Shr.of ⟨j + 1, ov, by omega, by simp, rfl, hov⟩⟩
    · have : j = xs.length := by omega
      subst this
      rw [List.take_length] at hou
      have lo := (hou.rd ri_len).len
      have osz := ows_len a (prs xs)
      have lsi5 := lsi.2.2.2.2.1
      simp at lo
      simp [lo]
      rw [i64_in (n := (k : Int) + 1) (by omega) (by omega)]
      refine ⟨fun hne => ⟨xs[i].stubs.length - (k + 1), by omega, Hc, hou.sub, k + 1, by omega, by simp, rfl, rfl⟩, fun h1 => ?_⟩
      have h1' : (ows a (prs xs)).length = 1 := by omega
      obtain ⟨q0, ho, eo⟩ := ows_one h1'
      rw [eo] at hou
      have hh := (prs_cost hd q0 (own_in ho).1).1
      have tb1 := Tabs.mono tb hou.sub
      refine (hou.rd ri_len).idx (by omega) (by simp) fun p hp => ?_
      rw [hp.ld]
      simp [ri]
      refine C_i_LoopsAt tb1 tt fun lv H3 hlv => ?_
      rw [no_loops hd hg ho] at hlv
      have ll := (hlv.rd ri_len).len
      simp at ll
      simp [ll]
      refine C_i_Sinks (Tabs.mono tb1 hlv.sub) tt fun sv H4 hsv => ?_
      rw [the_sink hd hg pa ho] at hsv
      simp [bsl_one]
      intro o135 ho135
      have sH : Abs.sub Hc (upd H4 o135 ⟨1, [[.int .i64 q0.1]]⟩) := sub_trans hou.sub (sub_trans hlv.sub (sub_trans hsv.sub (sub_fresh ho135)))
      refine C_l_same (xs := [q0.1]) (ys := [q0.1]) ((hsv.rd ri_len).mono (sub_fresh ho135)) ((Held.full (n := 1) (rows := [ri q0.1]) ho135 rfl).rd (by simp [ri])) (by simp) ?_
      simp
      refine ⟨InvK5 Hc (edgesOf xs xs) q0.1, ⟨10, ⟨Hc, sH, 0, by omega, by simp [fil], by omega, rfl⟩⟩, ?_⟩
      rintro m ys Hx ⟨x, hx, rfl, rfl, rfl⟩
      have fl := fil_len (reach (edgesOf xs xs) q0.1) x
      simp
      refine ⟨fun hlx => ?_, fun hgx => ?_⟩
      · rw [i64_in (n := (x : Int) + 1) (by omega) (by omega)]
        refine C_s_Distances rg hg (by omega) fun dv H5 hdv => ?_
        refine dist_ld (hdv.rd ri_len) hg hh ?_
        refine C_i_Walk2 (Tabs.mono tb hdv.sub) tt fun wv H6 hwv => ?_
        have fx := fine_tbls (x := (x : Nat)) hd hg pa (by omega)
        have ew : walkRes (tbls xs 10) (x : Nat) a 16 = walk (tbls xs 10) (x : Nat) a 16 := by unfold walkRes; rw [if_pos ⟨fx, by omega⟩]
        rw [ew] at hwv ⊢
        obtain ⟨w1, w2⟩ := walk_at (x := (x : Nat)) hd hg ho (by omega)
        have wl := walk_len (ts := tbls xs 10) (f := (x : Nat)) (a := a) (ttl := 16) (by omega)
        have sx := sub_trans hdv.sub hwv.sub
        simp
        refine ⟨fun e0 => ?_, fun e0 => ?_⟩
        · have e1 := w1 e0
          simp [e1]
          have fn := fil_no (q := reach (edgesOf xs xs) q0.1) (i := x) (by unfold reach; simp [e0])
          exact ⟨10 - (x + 1), by omega, Hx, sx, x + 1, by omega, by rw [fn]; simp, rfl, rfl⟩
        · obtain ⟨e1, e2, e3, e4⟩ := w2 e0
          have fy := fil_yes (q := reach (edgesOf xs xs) q0.1) (i := x) (by unfold reach; simp [e0])
          generalize walk (tbls xs 10) (x : Nat) a 16 = wk at *
          have lw := (hwv.rd ri_len).len
          have wp : 0 < wk.1.length := List.length_pos_iff.2 e2
          simp at lw
          simp [e1, lw]
          refine ⟨fun q => absurd q e2, fun _ => ?_⟩
          rw [i64_in (n := (wk.1.length : Int) - 1) (by omega) (by omega)]
          refine (hwv.rd ri_len).idx (by omega) (by simp; omega) fun p hp => ?_
          rw [hp.ld, getD_ri (by omega), show ((wk.1.length : Int) - 1).toNat = wk.1.length - 1 by omega, e3]
          simp [ri]
          refine C_i_WalkCost (rg.mono sx) (hwv.rd ri_len) ?_
          rw [e4]
          simp
          rw [i64_in (n := ((fil (reach (edgesOf xs xs) q0.1) x).length : Int) + 1) (by omega) (by omega)]
          exact ⟨10 - (x + 1), by omega, Hx, sx, x + 1, by omega, by rw [fy]; simp, rfl, rfl⟩
      · have : x = 10 := by omega
        subst this
        refine C_i_CountHome tb tt ?_
        have hc : countHome (tbls xs 10) a = ((fil (reach (edgesOf xs xs) q0.1) 10).length : Nat) := home_count hd hg pa ho
        rw [hc]
        simp
        exact ⟨xs[i].stubs.length - (k + 1), by omega, Shr.of ⟨k + 1, by omega, by simp, rfl, rfl⟩⟩
  · have : k = xs[i].stubs.length := by omega
    subst this
    rw [i64_in (n := (i : Int) + 1) (by omega) (by omega)]
    exact ⟨xs.length - (i + 1), by omega, Shr.of ⟨i + 1, by omega, by simp, rfl, rfl⟩⟩

end Go.Proofs.YtaippfedjjjpeaaGreat
