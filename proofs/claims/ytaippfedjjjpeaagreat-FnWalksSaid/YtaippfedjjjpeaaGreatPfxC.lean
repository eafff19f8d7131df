/-
Contract: the routes to a database's prefixes, as the program finds them.
-/
import Derived.Test.YtaippfedjjjpeaaGreatHopP
import Derived.Test.YtaippfedjjjpeaaGreatGraphOfC
import Derived.Test.YtaippfedjjjpeaaGreatGrhM
set_option linter.all false
namespace Go.Proofs.YtaippfedjjjpeaaGreat
open Go Go.Abs Go.Proofs

def hopsA (es : List TEdge) (f : Int) (L : List Int) : List Int := L.flatMap fun o => hops 10 es f o
def hopP (es : List TEdge) (f : Int) (L : List Int) : Int := if f ∈ L then 0 else 1 + minL (hopsA es f L)
def oneR (xs : List TLsa) (es : List TEdge) (f : Int) (p : Int × Int) : Option TStub :=
  if (nearF p (far 10 es f) (prs xs)).1 = [] then none else some (p.1, p.2, hopP es f (nearF p (far 10 es f) (prs xs)).1)
def rtsR (xs : List TLsa) (es : List TEdge) (f : Int) (ps : List (Int × Int)) : List TStub := ps.filterMap (oneR xs es f)
theorem rts_succ {xs : List TLsa} {es : List TEdge} {f : Int} {ps : List (Int × Int)} {i : Nat} (h : i < ps.length) : rtsR xs es f (ps.take (i + 1)) = rtsR xs es f (ps.take i) ++ (oneR xs es f ps[i]).toList := by
  unfold rtsR
  rw [List.take_succ_eq_append_getElem h, List.filterMap_append]
  congr 1
theorem rts_len (xs : List TLsa) (es : List TEdge) (f : Int) (ps : List (Int × Int)) : (rtsR xs es f ps).length ≤ ps.length := List.length_filterMap_le ..
/-- Who is near is reached. -/
theorem near_in {p : Int × Int} {ds : Int → Int} : ∀ {qs : List (Int × TStub)} {t : List Int × Int}, (∀ o ∈ t.1, ds o ≠ 1000000 ∧ ∃ q ∈ ([] : List (Int × TStub)), q.1 = o) ∨ True → ∀ o ∈ (qs.foldl (stepN p ds) t).1, o ∈ t.1 ∨ (ds o ≠ 1000000 ∧ ∃ q ∈ qs, q.1 = o)
  | [], t, _, o, ho => .inl ho
  | q :: qs, t, _, o, ho => by
    rcases near_in (qs := qs) (t := stepN p ds t q) (.inr trivial) o ho with h | ⟨h1, r, h2, h3⟩
    · unfold stepN at h
      split at h
      · exact .inl h
      · rename_i hn
        have hd : ds q.1 ≠ 1000000 := fun e => hn (.inr (.inl e))
        split at h
        · have : o = q.1 := by simpa using h
          subst this
          exact .inr ⟨hd, q, by simp, rfl⟩
        · rcases List.mem_append.1 h with h | h
          · exact .inl h
          · have : o = q.1 := by simpa using h
            subst this
            exact .inr ⟨hd, q, by simp, rfl⟩
    · exact .inr ⟨h1, r, List.mem_cons_of_mem _ h2, h3⟩
theorem near_ok {xs : List TLsa} {p : Int × Int} {ds : Int → Int} (hd : dbOk xs) : ∀ o ∈ (nearF p ds (prs xs)).1, ds o ≠ 1000000 ∧ 0 ≤ o ∧ o < 10 := fun o ho => by
  rcases near_in (t := ([], 1000000)) (.inr trivial) o ho with h | ⟨h1, q, h2, rfl⟩
  · simp at h
  · refine ⟨h1, ?_⟩
    unfold prs at h2
    obtain ⟨a, ha, h2⟩ := List.mem_flatMap.1 h2
    obtain ⟨s, _, rfl⟩ := List.mem_map.1 h2
    obtain ⟨i, hi, rfl⟩ := List.mem_iff_getElem.1 ha
    have := (hd.1 i hi).1
    simp only
    omega

def InvPf (H : Heap) (xs : List TLsa) (es : List TEdge) (f : Int) (ps : List (Int × Int)) (w g : V) (m : Nat) (ys : List V) (Hc : Heap) : Prop :=
  ∃ (i : Nat) (u : V) (Hb : Heap), i ≤ ps.length ∧ ys = [.box [w], .box [.int .i64 10, g], u, .int .i64 (i : Nat)] ∧ m = ps.length - i ∧ Abs.sub H Hb ∧ Held Hb 3 ((rtsR xs es f (ps.take i)).map enStub) u Hc
def InvPg (Hb : Heap) (es : List TEdge) (f : Int) (L : List Int) (m : Nat) (ys : List V) (Hc : Heap) : Prop :=
  ∃ (j : Nat) (u : V) (He : Heap), j ≤ L.length ∧ ys = [u, .int .i64 (j : Nat)] ∧ m = L.length - j ∧ Abs.sub Hb He ∧ Held He 1 ((hopsA es f (L.take j)).map ri) u Hc
theorem hopsA_len {es : List TEdge} {f : Int} : ∀ (L : List Int), (hopsA es f L).length ≤ es.length * L.length
  | [] => by simp [hopsA]
  | o :: L => by
    have ih := hopsA_len (es := es) (f := f) L
    have := hops_len 10 es f o
    unfold hopsA at ih ⊢
    simp only [List.flatMap_cons, List.length_append, List.length_cons, Nat.mul_add, Nat.mul_one]
    omega
set_option maxHeartbeats 4000000 in
theorem C_iw_PrefixesOf {xs : List TLsa} {w : V} {f : Int} {H : Heap} {K : V → Heap → Prop} (hv : (dbT false).rd H xs [w]) (hl : xs.length + sumF szl xs ≤ 1048576)
    (hn : ¬ ((graphR xs).2 = true ∧ 0 ≤ f ∧ f ≤ 9) → ∀ H', Abs.sub H H' → K (.tup [.nils, .bool false]) H')
    (hy : (graphR xs).2 = true → 0 ≤ f ∧ f ≤ 9 → ∀ (L : List (Int × Int)) u H' Hb, L.Perm (pAll xs) → (∀ i j, i < j → (h2 : j < L.length) → ∀ h1 : i < L.length, ¬ ltP L[j] L[i]) → Abs.sub H Hb → Held Hb 3 ((rtsR xs (edgesOf xs xs) f (dd L L.length)).map enStub) u H' → K (.tup [u, .bool true]) H') : ACalls P n_i_PrefixesOf [.agg [w], .int .i64 f] H K := by
  have cw := rdS_cell hv
  apply W_i_PrefixesOf
  unfold F_i_PrefixesOf
  simp [cw]
  refine C_i_GraphOf (c := false) hv hl fun us H1 h1 => ?_
  by_cases hok : dbOk xs ∧ (edgesOf xs xs).length ≤ 60
  rotate_left
  · have e := graph_no hok
    have r1 := h1.rd
    rw [e] at r1 hn ⊢
    obtain ⟨g, rfl, k1⟩ := r1
    simp [stz_eq, putCells, k1.1.cell]
    exact Ret.of (hn (by simp) _ h1.sub)
  have e := graph_yes hok
  have r1 := h1.rd
  rw [e] at r1 hn hy ⊢
  obtain ⟨g, rfl, k1⟩ := r1
  have cg := k1.1.cell
  simp [stz_eq, putCells, cg]
  have hg : graphOk 10 (edgesOf xs xs) := (graphOf_ok hok.1).2 hok.2
  have hd := hok.1
  generalize edgesOf xs xs = es at *
  refine C_i_within ?_
  by_cases hf : 0 ≤ f ∧ f ≤ 9
  rotate_left
  · simp [hf]
    exact Ret.of (hn (by simp [hf]) _ h1.sub)
  simp [hf]
  have hfn : 0 ≤ f ∧ f < 10 := by omega
  refine C_i_Graph_all k1.1 hg fun d H2 s2 hdd => ?_
  have hb0 : bsl 3 0 [V.int .i64 0, .int .i64 0, .int .i64 0] [] = some [] := rfl
  simp [hb0]
  intro o15 ho15
  have hv2 := (dbT false).mono hv (sub_trans h1.sub s2)
  refine ACalls.mono (ACalls.frame (q := o15) (ob := ⟨3, []⟩) (C_i_stubsOf (K := fun u H' => ∃ L : List (Int × Int), Abs.sub H2 H' ∧ L.Perm (pAll xs) ∧ (∀ i j, i < j → (h2 : j < L.length) → ∀ h1 : i < L.length, ¬ ltP L[j] L[i]) ∧ Rd H' 2 u ((dd L L.length).map enP)) hv2 hd fun u H' L a b c e => ⟨L, a, b, c, e⟩) ho15) ?_
  rintro sv H3 ⟨Hs, hq, rfl, L, ss, perm, srt, hr⟩
  have hlen : (dd L L.length).length ≤ 60 := by
    have q1 := dd_len L L.length
    have q2 := perm.length_eq
    have q3 := pAll_len (xs := xs) fun a ha => by
      obtain ⟨k, hk, rfl⟩ := List.mem_iff_getElem.1 ha
      exact (hd.1 k hk).2.2.2.2.1
    have q4 := db_len hd
    omega
  have hy := fun u H' Hb => hy rfl hf L u H' Hb perm srt
  generalize dd L L.length = ps at *
  have s0 := sub_trans h1.sub (sub_trans s2 ss)
  have hv3 := (dbT false).mono hv s0
  have hgr : Rd Hs 3 g (es.map enEdge) := k1.1.mono (sub_trans s2 ss)
  have hds := hdd.mono ss
  have hln : lenOf sv = some ps.length := by have := hr.len; simpa using this
  simp [hln]
  refine ⟨InvPf Hs xs es f ps w g, ⟨ps.length, Shr.of ⟨0, .slice o15 0 0 (some 0), Hs, by omega, rfl, by omega, Abs.sub_refl _, by simpa [rtsR] using Held.new hq⟩⟩, ?_⟩
  rintro m ys Hc ⟨i, u, Hb, hi, rfl, rfl, hsb, hu⟩
  have hsc := sub_trans hsb hu.sub
  simp [cg]
  rw [i64_in (n := (i : Int) + 1) (by omega) (by omega)]
  refine ⟨fun hlt => ?_, fun hge => ?_⟩
  rotate_left
  · have : i = ps.length := by omega
    subst this
    rw [List.take_length] at hu
    exact Ret.of (hy u Hc Hb (sub_trans s0 hsb) hu)
  have hgd : (ps.map enP).getD i [] = enP ps[i] := by simp [hlt]
  refine (hr.mono hsc).idx (by omega) (by simpa using hlt) fun p hp => ?_
  simp only [Int.toNat_natCast, hgd] at hp
  rw [hp.ld]
  simp [stz_eq, putCells, enP]
  refine ⟨Hc, Abs.sub_refl _, ?_⟩
  refine (hds.mono hsc).idx hfn.1 (by rw [allD_len]; omega) fun p dv hp2 hw => ?_
  rw [hp2]
  simp
  rw [allD_get hfn] at hw
  refine C_i_nearest (p := ps[i]) (f := f) ((dbT false).mono hv3 hsc) hd hg hw fun nv H4 Hb2 sb2 h35 => ?_
  have s4 := sub_trans sb2 h35.sub
  refine ⟨s4, ?_⟩
  have nin := near_ok (xs := xs) (p := ps[i]) (ds := far 10 es f) hd
  have one : oneR xs es f ps[i] = if (nearF ps[i] (far 10 es f) (prs xs)).1 = [] then none else some (ps[i].1, ps[i].2, hopP es f (nearF ps[i] (far 10 es f) (prs xs)).1) := rfl
  have nle : (nearF ps[i] (far 10 es f) (prs xs)).1.length ≤ 60 := by
    have q1 := nearF_len ps[i] (far 10 es f) (prs xs) ([], 1000000)
    have q2 := prs_len xs
    have q3 := pAll_len (xs := xs) fun a ha => by
      obtain ⟨k, hk, rfl⟩ := List.mem_iff_getElem.1 ha
      exact (hd.1 k hk).2.2.2.2.1
    have q4 := db_len hd
    unfold nearF
    simp only [List.length_nil] at q1
    omega
  generalize (nearF ps[i] (far 10 es f) (prs xs)).1 = N at *
  have r35 : Rd H4 1 nv (N.map ri) := h35.rd ri_len
  have n35 : lenOf nv = some N.length := by have := r35.len; simpa using this
  have succ := rts_succ (xs := xs) (es := es) (f := f) hlt
  simp [n35]
  have rl := rts_len xs es f (ps.take i)
  have rl : (rtsR xs es f (ps.take i)).length ≤ 60 := by simp at rl; omega
  refine ⟨fun q0 => ?_, fun q0 => ?_⟩
  · rw [if_pos q0] at one
    rw [one] at succ
    obtain ⟨Hb', r1, r2⟩ := hu.rise s4
    exact ⟨ps.length - (i + 1), by omega, Shr.of ⟨i + 1, u, Hb', by omega, by simp, rfl, sub_trans hsb r1, by rw [succ]; simpa using r2⟩⟩
  rw [if_neg q0] at one
  have put : ∀ (hop : Int) (Hx : Heap), Abs.sub H4 Hx → hop = hopP es f N → ∀ o7, Hx o7 = none → appendK (upd Hx o7 ⟨3, [[.int .i64 ps[i].1, .int .i64 ps[i].2, .int .i64 hop]]⟩) 3 24 u [[.int .i64 ps[i].1, .int .i64 ps[i].2, .int .i64 hop]] fun v72 H73 => ∃ n23, n23 < ps.length - i ∧ Shr (InvPf Hs xs es f ps w g n23 [.box [w], .box [.int .i64 10, g], v72, .int .i64 ((i : Int) + 1)]) H73 := fun hop Hx hx he o7 ho7 => by
    obtain ⟨Hb', r1, r2⟩ := hu.rise (sub_trans s4 hx)
    refine r2.append (sub_fresh ho7) (by simp) (by simp; omega) fun v' H' H'' ho' hs' => ?_
    refine ⟨ps.length - (i + 1), by omega, H'', hs', i + 1, v', Hb', by omega, by simp, rfl, sub_trans hsb r1, ?_⟩
    rw [succ, one, List.map_append, he] at *
    exact ho'
  simp [fillZ, stz_eq, putCells]
  refine C_slices_Contains r35 (by omega) ?_
  simp
  refine ⟨fun hm => ?_, fun hm => ?_⟩
  rotate_left
  · simp [bsl_one]
    intro o7 ho7
    exact put 0 H4 (Abs.sub_refl _) (by unfold hopP; rw [if_pos hm]) o7 ho7
  simp [bsl_nil]
  intro o47 ho47
  have hE : ∀ o ∈ N, hops 10 es f o ≠ [] := fun o ho => by
    obtain ⟨k1', k2'⟩ := nin o ho
    exact hops_ne hg hfn k2' (fun q => hm (q ▸ ho)) k1'
  have hlE := hg.2.1
  have hA : ∀ L' : List Int, L'.length ≤ 60 → (hopsA es f L').length ≤ 3600 := fun L' hl' => by
    have q1 := hopsA_len (es := es) (f := f) L'
    have q2 : es.length * L'.length ≤ 60 * 60 := Nat.mul_le_mul hlE hl'
    omega
  refine ⟨InvPg H4 es f N, ⟨N.length, Shr.of ⟨0, .slice o47 0 0 (some 0), H4, by omega, rfl, by omega, Abs.sub_refl _, by simpa [hopsA] using Held.new ho47⟩⟩, ?_⟩
  rintro m ys He ⟨j, u2, Hf, hj, rfl, rfl, hsf, hu2⟩
  have hse := sub_trans hsf hu2.sub
  simp
  rw [i64_in (n := (j : Int) + 1) (by omega) (by omega)]
  refine ⟨fun hlt2 => ?_, fun hge2 => ?_⟩
  · have hgd2 : (N.map ri).getD j [] = ri N[j] := by simp [hlt2]
    refine (r35.mono hse).idx (by omega) (by simpa using hlt2) fun p hp => ?_
    simp only [Int.toNat_natCast, hgd2] at hp
    rw [hp.ld]
    simp [ri]
    have nj := nin N[j] (List.getElem_mem hlt2)
    have sse := sub_trans hsc (sub_trans s4 hse)
    refine C_i_Graph_hopsTo (hgr.mono sse) hg hfn nj.2 (hds.mono sse) fun v59 H60 h59 => ?_
    have hro := (h59.sl ri_len).2.1
    rw [(h59.rd ri_len).rows hro]
    simp
    obtain ⟨Hg, t1, t2⟩ := hu2.swap h59
    have la := hA (N.take j) (by simp; omega)
    have lh := hops_len 10 es f N[j]
    refine t2.append (Abs.sub_refl _) (by simpa using hE N[j] (List.getElem_mem hlt2)) (by simp; omega) fun v' H' H'' ho' hs' => ?_
    refine ⟨N.length - (j + 1), by omega, H'', hs', j + 1, v', Hg, by omega, by simp, rfl, sub_trans hsf t1.sub, ?_⟩
    have ea : hopsA es f (N.take (j + 1)) = hopsA es f (N.take j) ++ hops 10 es f N[j] := by
      unfold hopsA
      rw [List.take_succ_eq_append_getElem hlt2, List.flatMap_append]
      simp
    rw [ea, List.map_append]
    exact ho'
  · have : j = N.length := by omega
    subst this
    rw [List.take_length] at hu2
    have neA : hopsA es f N ≠ [] := by
      cases N with
      | nil => exact absurd rfl q0
      | cons o N' =>
        have := hE o (by simp)
        unfold hopsA
        simp [this]
    refine C_slices_Min (hu2.rd ri_len) neA (by have := hA N nle; omega) ?_
    have mi := (minL_spec neA).1
    have mb : 0 ≤ minL (hopsA es f N) ∧ minL (hopsA es f N) < 10 := by
      unfold hopsA at mi
      obtain ⟨o, _, ho⟩ := List.mem_flatMap.1 mi
      exact hops_in hg ho
    simp
    rw [i64_in (n := 1 + minL (hopsA es f N)) (by omega) (by omega)]
    try simp [bsl_one]
    intro o7 ho7
    exact put _ He hse (by unfold hopP; rw [if_neg hm]) o7 ho7

end Go.Proofs.YtaippfedjjjpeaaGreat
