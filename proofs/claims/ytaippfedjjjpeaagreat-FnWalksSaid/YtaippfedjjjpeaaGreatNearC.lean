/-
Contract: the nearest origins of a prefix.
-/
import Derived.Test.YtaippfedjjjpeaaGreatStbC
import Derived.Test.YtaippfedjjjpeaaGreatGraphM
set_option linter.all false
namespace Go.Proofs.YtaippfedjjjpeaaGreat
open Go Go.Abs Go.Proofs

def stepN (p : Int × Int) (ds : Int → Int) (t : List Int × Int) (q : Int × TStub) : List Int × Int :=
  if pfx q.2 ≠ p ∨ ds q.1 = 1000000 ∨ t.2 < ds q.1 + q.2.2.2 then t
  else if ds q.1 + q.2.2.2 < t.2 then ([q.1], ds q.1 + q.2.2.2) else (t.1 ++ [q.1], t.2)
def prs (xs : List TLsa) : List (Int × TStub) := xs.flatMap fun a => a.stubs.map fun s => (a.origin, s)
def nearF (p : Int × Int) (ds : Int → Int) (qs : List (Int × TStub)) : List Int × Int := qs.foldl (stepN p ds) ([], 1000000)
theorem prs_succ {xs : List TLsa} {i : Nat} (h : i < xs.length) : prs (xs.take (i + 1)) = prs (xs.take i) ++ xs[i].stubs.map fun s => (xs[i].origin, s) := by
  unfold prs
  rw [List.take_succ_eq_append_getElem h, List.flatMap_append]
  simp
theorem nearF_snoc (p : Int × Int) (ds : Int → Int) (qs : List (Int × TStub)) (q : Int × TStub) : nearF p ds (qs ++ [q]) = stepN p ds (nearF p ds qs) q := by
  unfold nearF
  rw [List.foldl_append]
  rfl
theorem prs_len : ∀ (xs : List TLsa), (prs xs).length = (pAll xs).length
  | [] => rfl
  | a :: xs => by
    have ih := prs_len xs
    unfold prs pAll at ih ⊢
    simp only [List.flatMap_cons, List.length_append, List.length_map]
    rw [ih]
theorem nearF_len (p : Int × Int) (ds : Int → Int) : ∀ (qs : List (Int × TStub)) (t : List Int × Int), (qs.foldl (stepN p ds) t).1.length ≤ t.1.length + qs.length
  | [], t => by simp
  | q :: qs, t => by
    have ih := nearF_len p ds qs (stepN p ds t q)
    have : (stepN p ds t q).1.length ≤ t.1.length + 1 := by
      unfold stepN
      split
      · omega
      · split <;> simp
    simp only [List.foldl_cons, List.length_cons]
    omega
theorem nearF_best (p : Int × Int) (ds : Int → Int) : ∀ (qs : List (Int × TStub)) (t : List Int × Int), (∀ q ∈ qs, 0 ≤ ds q.1 + q.2.2.2) → 0 ≤ t.2 ∧ t.2 ≤ 1000000 → 0 ≤ (qs.foldl (stepN p ds) t).2 ∧ (qs.foldl (stepN p ds) t).2 ≤ 1000000
  | [], t, _, h => h
  | q :: qs, t, hq, h => by
    refine nearF_best p ds qs _ (fun r hr => hq r (List.mem_cons_of_mem _ hr)) ?_
    have := hq q (by simp)
    unfold stepN
    split
    · exact h
    · split
      · simp only; omega
      · exact h
def InvNr1 (H : Heap) (p : Int × Int) (ds : Int → Int) (xs : List TLsa) (m : Nat) (ys : List V) (Hc : Heap) : Prop :=
  ∃ (i : Nat) (u : V) (Hb : Heap), i ≤ xs.length ∧ ys = [.box (enP p), u, .int .i64 (nearF p ds (prs (xs.take i))).2, .int .i64 (i : Nat)] ∧ m = xs.length - i ∧ Abs.sub H Hb ∧ Held Hb 1 ((nearF p ds (prs (xs.take i))).1.map ri) u Hc
def InvNr2 (H : Heap) (p : Int × Int) (ds : Int → Int) (xs : List TLsa) (i : Nat) (a : TLsa) (l s : V) (m : Nat) (ys : List V) (Hc : Heap) : Prop :=
  ∃ (j : Nat) (u : V) (Hb : Heap) (t : List Int × Int), j ≤ a.stubs.length ∧ ys = [.box (enP p), u, .int .i64 t.2, .box (lsaRow a l s), .int .i64 (j : Nat)] ∧ m = a.stubs.length - j ∧ Abs.sub H Hb ∧ t = nearF p ds (prs (xs.take i) ++ (a.stubs.take j).map fun s => (a.origin, s)) ∧ Held Hb 1 (t.1.map ri) u Hc
set_option maxHeartbeats 4000000 in
theorem C_i_nearest {b : Bool} {xs : List TLsa} {w d : V} {p : Int × Int} {f : Int} {es : List TEdge} {H : Heap} {K : V → Heap → Prop} (hv : (dbT b).rd H xs [w]) (hd : dbOk xs) (hg : graphOk 10 es) (hds : Rd H 1 d ((dist 10 es f).map ri))
    (h : ∀ u H' Hb, Abs.sub H Hb → Held Hb 1 ((nearF p (far 10 es f) (prs xs)).1.map ri) u H' → K u H') : ACalls P n_i_Db_nearest [.agg [w], .agg (enP p), d] H K := by
  have cw := rdS_cell hv
  have ln := rdS_len hv
  have hxl := db_len hd
  apply W_i_Db_nearest
  unfold F_i_Db_nearest
  simp [bsl_nil, cw, ln, enP]
  intro o ho
  refine ⟨InvNr1 H p (far 10 es f) xs, ⟨xs.length, Shr.of ⟨0, .slice o 0 0 (some 0), H, by omega, rfl, by omega, Abs.sub_refl _, by simpa [prs, nearF] using Held.new ho⟩⟩, ?_⟩
  rintro m ys Hc ⟨i, u, Hb, hi, rfl, rfl, hsb, hu⟩
  have hsc := sub_trans hsb hu.sub
  simp
  refine ⟨fun hlt => ?_, fun hge => ?_⟩
  · refine rdS_at hv hsc (by omega) (by simpa using hlt) fun q row hp hrw => ?_
    simp only [Int.toNat_natCast] at hrw
    obtain ⟨l1, s1, rfl, g1, g2⟩ := hrw
    have cc := lsa_cell g1 g2
    have h6 := (hd.1 i hlt).2.2.2.2.1
    rw [hp.ld]
    simp [stz_eq, putCells, cc, g2.1.len]
    rw [i64_in (n := (i : Int) + 1) (by omega) (by omega)]
    refine ⟨InvNr2 H p (far 10 es f) xs i xs[i] l1 s1, ⟨xs[i].stubs.length, Shr.of ⟨0, u, Hb, _, by omega, rfl, by omega, hsb, by simp, hu⟩⟩, ?_⟩
    rintro m ys Hd ⟨j, u2, Hb2, t, hj, rfl, rfl, hsb2, ht, hu2⟩
    have hsd := sub_trans hsb2 hu2.sub
    have ok := hd.1 i hlt
    have og := ok.1
    simp
    rw [i64_in (n := (j : Int) + 1) (by omega) (by omega)]
    refine ⟨fun hlt2 => ?_, fun hge2 => ?_⟩
    · have hgd : (xs[i].stubs.map enStub).getD j [] = enStub xs[i].stubs[j] := by simp [hlt2]
      refine (g2.1.mono hsd).idx (by omega) (by simpa using hlt2) fun q hp => ?_
      simp only [Int.toNat_natCast, hgd] at hp
      rw [hp.ld]
      simp [stz_eq, putCells]
      refine ⟨Hd, Abs.sub_refl _, ?_⟩
      have st := (ok.2.2.2.2.2.2 j hlt2).2.1
      rw [show rt xs[i].stubs j = xs[i].stubs[j] by simp [rt, hlt2]] at st
      have fi := far_in (n := 10) hg f (b := xs[i].origin) og.1 (by omega)
      have hts : t.1.length ≤ 60 + j := by
        have q1 := nearF_len p (far 10 es f) (prs (xs.take i) ++ (xs[i].stubs.take j).map fun s => (xs[i].origin, s)) ([], 1000000)
        have q2 := prs_len (xs.take i)
        have q3 := pAll_len (xs := xs.take i) fun a ha => by
          obtain ⟨k, hk, rfl⟩ := List.mem_iff_getElem.1 (List.mem_of_mem_take ha)
          exact (hd.1 k hk).2.2.2.2.1
        rw [ht]
        unfold nearF
        simp only [List.length_append, List.length_map, List.length_take, List.length_nil] at q1 q3
        omega
      have fin : ∀ (t' : List Int × Int) (u' : V) (Hb' H1 H' : Heap), stepN p (far 10 es f) t (xs[i].origin, xs[i].stubs[j]) = t' → Abs.sub H Hb' → Held Hb' 1 (t'.1.map ri) u' H1 → Abs.sub H1 H' → ∃ n20, n20 < xs[i].stubs.length - j ∧ Shr (InvNr2 H p (far 10 es f) xs i xs[i] l1 s1 n20 [.box (enP p), u', .int .i64 t'.2, .box (lsaRow xs[i] l1 s1), .int .i64 ((j : Int) + 1)]) H' := fun t' u' Hb' H1 H' e1 e2 e3 e4 =>
        ⟨xs[i].stubs.length - (j + 1), by omega, H1, e4, j + 1, u', Hb', t', by omega, by simp, rfl, e2, by
          rw [← e1, ht, List.take_succ_eq_append_getElem hlt2, List.map_append, ← List.append_assoc]
          exact (nearF_snoc ..).symm, e3⟩
      have step : stepN p (far 10 es f) t (xs[i].origin, xs[i].stubs[j]) = if pfx xs[i].stubs[j] ≠ p ∨ far 10 es f xs[i].origin = 1000000 ∨ t.2 < far 10 es f xs[i].origin + xs[i].stubs[j].2.2 then t else if far 10 es f xs[i].origin + xs[i].stubs[j].2.2 < t.2 then ([xs[i].origin], far 10 es f xs[i].origin + xs[i].stubs[j].2.2) else (t.1 ++ [xs[i].origin], t.2) := rfl
      refine dist_ld (hds.mono hsd) hg (by omega) ?_
      simp [enP]
      rw [i64_in (n := far 10 es f xs[i].origin + xs[i].stubs[j].2.2) (by omega) (by omega), neq_pref]
      simp
      refine ⟨fun a1 => ?_, fun a1 a2 => ?_⟩
      · refine fin t u2 Hb2 Hd Hd ?_ hsb2 hu2 (Abs.sub_refl _)
        rw [step, if_pos]
        refine .inl fun q => ?_
        rw [← q] at a1
        simp [pfx] at a1
      have ep : pfx xs[i].stubs[j] = p := Prod.ext a1 a2
      refine dist_ld (hds.mono hsd) hg (by omega) ?_
      simp
      refine ⟨fun b1 => ?_, fun b1 => ⟨fun b2 => ?_, fun b2 => ⟨fun b3 => ?_, fun b3 => ?_⟩⟩⟩
      · exact fin t u2 Hb2 Hd Hd (by rw [step, if_pos (.inr (.inl b1))]) hsb2 hu2 (Abs.sub_refl _)
      · exact fin t u2 Hb2 Hd Hd (by rw [step, if_pos (.inr (.inr b2))]) hsb2 hu2 (Abs.sub_refl _)
      · simp [bsl_one]
        intro o7 ho7
        refine (Held.nil (H := Hd) (sz := 1)).append (sub_fresh ho7) (by simp) (by simp) fun v' H' H'' ho' hs' => ?_
        exact fin ([xs[i].origin], far 10 es f xs[i].origin + xs[i].stubs[j].2.2) v' Hd H'' H' (by rw [step, if_neg (by simp [ep, b1]; omega), if_pos b3]) hsd (by simpa using ho') hs'
      · simp [bsl_one]
        intro o7 ho7
        refine hu2.append (sub_fresh ho7) (by simp) (by simp; omega) fun v' H' H'' ho' hs' => ?_
        exact fin (t.1 ++ [xs[i].origin], t.2) v' Hb2 H'' H' (by rw [step, if_neg (by simp [ep, b1]; omega), if_neg (by omega)]) hsb2 (by simpa using ho') hs'
    · have : j = xs[i].stubs.length := by omega
      subst this
      rw [List.take_length, ← prs_succ hlt] at ht
      subst ht
      exact ⟨xs.length - (i + 1), by omega, Shr.of ⟨i + 1, u2, Hb2, by omega, by simp, rfl, hsb2, hu2⟩⟩
  · have : i = xs.length := by omega
    subst this
    rw [List.take_length] at hu
    exact Ret.of (h u Hc Hb hsb hu)

end Go.Proofs.YtaippfedjjjpeaaGreat
