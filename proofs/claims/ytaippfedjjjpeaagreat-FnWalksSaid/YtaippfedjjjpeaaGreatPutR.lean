/-
Contracts: a route is put into a table, by the reference.
-/
import Derived.Test.YtaippfedjjjpeaaGreatTabS
set_option linter.all false
namespace Go.Proofs.YtaippfedjjjpeaaGreat
open Go Go.Abs Go.Proofs

def sameP (r x : TStub) : Bool := decide (x.1 = r.1 ∧ x.2.1 = r.2.1)
def lessR (r : TStub) (t : List TStub) : List TStub := t.filter fun x => !sameP r x
def insR (r : TStub) : List TStub → List TStub
  | [] => [r]
  | x :: xs => if ahead r x then r :: x :: xs else x :: insR r xs
theorem insR_len (r : TStub) : ∀ t, (insR r t).length = t.length + 1
  | [] => rfl
  | x :: xs => by
    rw [insR]
    split
    · simp
    · rw [List.length_cons, insR_len r xs, List.length_cons]
def putT (t : List TStub) (r : TStub) : List TStub × Bool := if tabOk t then (if tabOk (insR r (lessR r t)) then (insR r (lessR r t), true) else (t, false)) else (t, false)
theorem lessR_len (r : TStub) (t : List TStub) : (lessR r t).length ≤ t.length := List.length_filter_le _ _
theorem putT_len (t : List TStub) (r : TStub) : (putT t r).1.length ≤ t.length + 1 := by
  unfold putT
  split
  · split
    · have := lessR_len r t
      rw [insR_len]; omega
    · simp
  · simp

def InvCt (r : List V) (t : List TStub) (H : Heap) (m : Nat) (ys : List V) (Hc : Heap) : Prop :=
  ∃ (i : Nat) (u : V), i ≤ t.length ∧ ys = [.box r, .box [.nils], .box [u], .int .i64 (i : Nat)] ∧ m = t.length - i ∧ Held H 3 ((t.take i).map enStub) u Hc
set_option maxHeartbeats 1000000 in
theorem C_s_l02Copy {t : List TStub} {v : V} {H : Heap} {K : V → Heap → Prop} (hv : Rd H 3 v (t.map enStub)) (hl : t.length ≤ 1048576) (h : ∀ u H', Held H 3 (t.map enStub) u H' → K (.agg [u]) H') : ACalls P n_s_l02Copy [.agg [v]] H K := by
  have hc := hv.cell
  apply W_s_l02Copy
  unfold F_s_l02Copy
  simp [hc, stz_eq, putCells, fillZ]
  refine ⟨InvCt [v] t H, ⟨t.length, Shr.of ⟨0, .nils, by omega, rfl, by omega, by simpa using Held.nil⟩⟩, ?_⟩
  rintro m ys Hc ⟨i, u, hi, rfl, rfl, hu⟩
  have cu := hu.cell
  simp [hc, hv.len]
  refine ⟨fun hlt => ?_, fun hge => ?_⟩
  · have hgd : (t.map enStub).getD i [] = enStub t[i] := by simp [hlt]
    refine (hv.mono hu.sub).idx (by omega) (by simpa using hlt) fun p hpp => ?_
    simp only [Int.toNat_natCast, hgd] at hpp
    rw [hpp.ld]
    simp [bsl_one]
    intro o7 ho7
    refine hu.append (sub_fresh ho7) (by simp) (by simp; omega) fun v' H' H'' ho' hs' => ?_
    have cv := ho'.cell
    simp [stz_eq, putCells, cv]
    rw [i64_in (n := (i : Int) + 1) (by omega) (by omega)]
    refine ⟨t.length - (i + 1), by omega, H'', hs', i + 1, v', by omega, by simp, rfl, ?_⟩
    rw [List.take_succ_eq_append_getElem hlt, List.map_append]
    exact ho'
  · have : i = t.length := by omega
    subst this
    rw [List.take_length] at hu
    simp [cu, stz_eq, putCells]
    exact Ret.of (h _ _ hu)

def InvLe (r p : List V) (k : TStub) (t : List TStub) (H : Heap) (m : Nat) (ys : List V) (Hc : Heap) : Prop :=
  ∃ (i : Nat) (u : V), i ≤ t.length ∧ ys = [.box r, .box p, .box [.nils], .box [u], .int .i64 (i : Nat)] ∧ m = t.length - i ∧ Held H 3 ((lessR k (t.take i)).map enStub) u Hc
theorem less_yes {k : TStub} {t : List TStub} {i : Nat} (hi : i < t.length) (h : sameP k t[i] = false) : lessR k (t.take (i + 1)) = lessR k (t.take i) ++ [t[i]] := by
  unfold lessR; rw [List.take_succ_eq_append_getElem hi, List.filter_append]; simp [h]
theorem less_no {k : TStub} {t : List TStub} {i : Nat} (hi : i < t.length) (h : sameP k t[i] = true) : lessR k (t.take (i + 1)) = lessR k (t.take i) := by
  unfold lessR; rw [List.take_succ_eq_append_getElem hi, List.filter_append]; simp [h]
set_option maxHeartbeats 1000000 in
theorem C_s_l02Less {t : List TStub} {k : TStub} {v : V} {H : Heap} {K : V → Heap → Prop} (hv : Rd H 3 v (t.map enStub)) (hl : t.length ≤ 1048576) (h : ∀ u H', Held H 3 ((lessR k t).map enStub) u H' → K (.agg [u]) H') : ACalls P n_s_l02Less [.agg [v], .agg [.int .i64 k.1, .int .i64 k.2.1]] H K := by
  have hc := hv.cell
  apply W_s_l02Less
  unfold F_s_l02Less
  simp [hc, stz_eq, putCells, fillZ]
  refine ⟨InvLe [v] [.int .i64 k.1, .int .i64 k.2.1] k t H, ⟨t.length, Shr.of ⟨0, .nils, by omega, rfl, by omega, by simpa [lessR] using Held.nil⟩⟩, ?_⟩
  rintro m ys Hc ⟨i, u, hi, rfl, rfl, hu⟩
  have cu := hu.cell
  simp [hc, hv.len]
  rw [i64_in (n := (i : Int) + 1) (by omega) (by omega)]
  refine ⟨fun hlt => ⟨Hc, Abs.sub_refl _, ?_⟩, fun hge => ?_⟩
  · have hgd : (t.map enStub).getD i [] = enStub t[i] := by simp [hlt]
    have hll := lessR_len k (t.take i)
    have htl : (t.take i).length ≤ i := by simp; omega
    refine (hv.mono hu.sub).idx (by omega) (by simpa using hlt) fun p hpp => ?_
    simp only [Int.toNat_natCast, hgd] at hpp
    refine hpp.fld fun p1 hp1 => ?_
    rw [hp1.ld]
    simp [Q_neq_Prefix]
    have key : ∀ b : Bool, sameP k t[i] = b → (b = true ↔ (t[i].1 = k.1 ∧ t[i].2.1 = k.2.1)) := fun b hb => by rw [← hb]; unfold sameP; simp
    refine ⟨fun q => ?_, fun q1 q2 => ?_⟩
    · refine (hv.mono hu.sub).idx (by omega) (by simpa using hlt) fun p hpp => ?_
      simp only [Int.toNat_natCast, hgd] at hpp
      rw [hpp.ld]
      simp [bsl_one]
      intro o7 ho7
      refine hu.append (sub_fresh ho7) (by simp) (by rw [List.length_map]; simp only [List.length_cons, List.length_nil]; omega) fun v' H' H'' ho' hs' => ?_
      have cv := ho'.cell
      simp [stz_eq, putCells, cv]
      refine ⟨t.length - (i + 1), by omega, H'', hs', i + 1, v', by omega, by simp, rfl, ?_⟩
      have : sameP k t[i] = false := by
        cases hb : sameP k t[i] with
        | false => rfl
        | true => have := (key _ hb).1 rfl; exact (q.elim (fun q => absurd this.1 q) (fun q => absurd this.2 q))
      rw [less_yes hlt this, List.map_append]
      exact ho'
    · refine ⟨t.length - (i + 1), by omega, Shr.of ⟨i + 1, u, by omega, by simp, rfl, ?_⟩⟩
      have : sameP k t[i] = true := (key _ rfl).2 ⟨q1, q2⟩
      rw [less_no hlt this]
      exact hu
  · have : i = t.length := by omega
    subst this
    rw [List.take_length] at hu
    simp [cu, stz_eq, putCells]
    exact Ret.of (h _ _ hu)

def InvPr (v : V) (k : TStub) (w : V) (old : List TStub) (H : Heap) (m : Nat) (ys : List V) (Hc : Heap) : Prop :=
  ∃ (i : Nat) (u : V) (out : List TStub) (b : Bool), i ≤ old.length ∧ ys = [.box [v], .box (enStub k), .box [.nils], .box [w], .box [u], .bool b, .int .i64 (i : Nat)] ∧ m = old.length - i ∧ out.length ≤ i + 1 ∧
    out ++ (if b = true then old.drop i else insR k (old.drop i)) = insR k old ∧ Held H 3 (out.map enStub) u Hc
theorem ins_step {k x : TStub} {out rest all : List TStub} (h : out ++ insR k (x :: rest) = all) : (ahead k x → out ++ [k] ++ [x] ++ rest = all) ∧ (¬ ahead k x → out ++ [x] ++ insR k rest = all) := by
  rw [insR] at h
  constructor
  · intro ha; rw [if_pos ha] at h; simpa using h
  · intro ha; rw [if_neg ha] at h; simpa using h
set_option maxHeartbeats 4000000 in
theorem C_s_PutRoute {t : List TStub} {k : TStub} {v : V} {H : Heap} {K : V → Heap → Prop} (hv : Rd H 3 v (t.map enStub)) (hl : t.length ≤ 1048576)
    (h : ∀ u H', Held H 3 ((putT t k).1.map enStub) u H' → K (.tup [.agg [u], .bool (putT t k).2]) H') : ACalls P n_s_PutRoute [.agg [v], .agg (enStub k)] H K := by
  have hc := hv.cell
  have stay : ∀ Hx, Abs.sub H Hx → putT t k = (t, false) → ACalls P n_s_l02Copy [.agg [v]] Hx fun v6 H7 => bnd (stz 1 [.nils] 0 v6) fun c8 => bnd (partOf true 1 c8 0) fun t9 => Ret K (.tup [t9, (.bool false)]) H7 := fun Hx hs he => by
    refine C_s_l02Copy (hv.mono hs) hl fun u H1 h1 => ?_
    have c1 := h1.cell
    simp [stz_eq, putCells, c1]
    rw [he] at h
    obtain ⟨Hz, z1, z2⟩ := h1.shrink hs
    exact Ret.shr (h u Hz z1) rfl z2
  apply W_s_PutRoute
  unfold F_s_PutRoute
  simp [hc, stz_eq, putCells, fillZ] at stay ⊢
  refine C_s_TableOk hv ?_
  simp
  refine ⟨fun q => stay H (Abs.sub_refl _) (by unfold putT; rw [if_neg q]), fun hok => ?_⟩
  refine C_s_l02Less hv hl fun w H1 h1 => ?_
  have c1 := h1.cell
  have hll := lessR_len k t
  simp [stz_eq, putCells, c1]
  have hrd1 := h1.rd enStub_len
  generalize hold : lessR k t = old at *
  refine ⟨InvPr v k w old H1, ⟨old.length, Shr.of ⟨0, .nils, [], false, by omega, rfl, by omega, by simp, by simp, Held.nil⟩⟩, ?_⟩
  rintro m ys Hc ⟨i, u, out, b, hi, rfl, rfl, hlen, hinv, hu⟩
  have cu := hu.cell
  have rdo := hrd1.mono hu.sub
  simp [rdo.len]
  rw [i64_in (n := (i : Int) + 1) (by omega) (by omega)]
  refine ⟨fun hlt => ⟨Hc, Abs.sub_refl _, ?_⟩, fun hge => ?_⟩
  · have hgd : (old.map enStub).getD i [] = enStub old[i] := by simp [hlt]
    have hdr : old.drop i = old[i] :: old.drop (i + 1) := List.drop_eq_getElem_cons hlt
    have put1 : ∀ (Hd : Heap) (u' : V) (out' : List TStub) (b' : Bool), Held H1 3 (out'.map enStub) u' Hd → out'.length ≤ i + 1 → (out' ++ [old[i]] ++ (if b' = true then old.drop (i + 1) else insR k (old.drop (i + 1))) = insR k old) → 
        bnd (aIndex Hd 3 w (.int .i64 (i : Nat))) fun t45 => bnd (aLd true 3 Hd t45) fun t46 => bnd (bsl 3 1 [(.int .i64 0), (.int .i64 0), (.int .i64 0)] [(0, t46)]) fun r47 => ∀ o48, Hd o48 = none →
          bnd (rowsOf (upd Hd o48 ⟨3, r47⟩) 3 (.slice o48 0 1 (some 1))) fun r51 => appendK (upd Hd o48 ⟨3, r47⟩) 3 24 u' r51 fun v49 H50 => bnd (stz 1 [u'] 0 v49) fun c52 =>
            ∃ n20, n20 < old.length - i ∧ Shr (InvPr v k w old H1 n20 [.box [v], .box (enStub k), .box [.nils], .box [w], .box c52, .bool b', .int .i64 ((i : Int) + 1)]) H50 := fun Hd u' out' b' hu' hl' hi' => by
      refine (hrd1.mono hu'.sub).idx (by omega) (by simpa using hlt) fun p hpp => ?_
      simp only [Int.toNat_natCast, hgd] at hpp
      rw [hpp.ld]
      simp [bsl_one]
      intro o7 ho7
      refine hu'.append (sub_fresh ho7) (by simp) (by rw [List.length_map]; simp only [List.length_cons, List.length_nil]; omega) fun v' H' H'' ho' hs' => ?_
      have cv := ho'.cell
      simp [stz_eq, putCells, cv]
      exact ⟨old.length - (i + 1), by omega, H'', hs', i + 1, v', out' ++ [old[i]], b', by omega, by simp, rfl, by simp; omega, hi', by rw [List.map_append]; exact ho'⟩
    refine ⟨fun hb => ?_, fun hb => ?_⟩
    · subst hb
      rw [if_neg (by simp), hdr] at hinv
      obtain ⟨s1, s2⟩ := ins_step hinv
      refine rdo.idx (by omega) (by simpa using hlt) fun p hpp => ?_
      simp only [Int.toNat_natCast, hgd] at hpp
      refine hpp.fld fun p1 hp1 => ?_
      rw [hp1.ld]
      simp
      refine C_s_l02Ahead (a := k) (b := old[i]) ⟨Abs.sub_refl _, ?_⟩
      simp [bsl_one]
      refine ⟨fun ha => ?_, fun ha => ?_⟩
      · intro o7 ho7
        have hlen' : out.length ≤ i := by
          have e1 := congrArg List.length hinv
          simp [insR_len] at e1
          omega
        refine hu.append (sub_fresh ho7) (by simp) (by rw [List.length_map]; simp only [List.length_cons, List.length_nil]; omega) fun v' H' H'' ho' hs' => ?_
        have cv := ho'.cell
        simp [stz_eq, putCells, cv]
        obtain ⟨Hx, x1, x2⟩ := ho'.rise hs'
        have := put1 H'' v' (out ++ [k]) true (by rw [List.map_append]; exact ho') (by simp; omega) (by simpa using s1 ha)
        simp [bsl_one] at this
        refine (hrd1.mono (sub_trans ho'.sub hs')).idx (by omega) (by simpa using hlt) fun p hpp => ?_
        simp only [Int.toNat_natCast, hgd] at hpp
        rw [hpp.ld]
        simp [bsl_one]
        intro o8 ho8
        refine ho'.append (sub_trans hs' (sub_fresh ho8)) (by simp) (by simp; omega) fun v2 H2' H2'' ho2 hs2 => ?_
        have cv2 := ho2.cell
        simp [stz_eq, putCells, cv2]
        refine ⟨old.length - (i + 1), by omega, H2'', hs2, i + 1, v2, out ++ [k] ++ [old[i]], true, by omega, by simp, rfl, by simp; omega, by simpa using s1 ha, by simpa using ho2⟩
      · have := put1 Hc u out false hu hlen (by simpa using s2 ha)
        simpa [bsl_one, cu] using this
    · subst hb
      rw [if_pos rfl, hdr] at hinv
      have := put1 Hc u out true hu hlen (by simpa using hinv)
      simpa [bsl_one, cu] using this
  · have e : i = old.length := by omega
    subst e
    rw [List.drop_length] at hinv
    have done : ∀ (Hy Hd : Heap) (u' : V) (out' : List TStub), Abs.sub H1 Hy → Held Hy 3 (out'.map enStub) u' Hd → out' = insR k old → ACalls P n_s_TableOk [.agg [u']] Hd fun v86 H87 =>
        bnd (aNot v86) fun t88 => cnd t88
        (ACalls P n_s_l02Copy [.agg [v]] H87 fun v90 H91 => bnd (stz 1 [.nils] 0 v90) fun c92 => bnd (partOf true 1 c92 0) fun t93 => Ret K (.tup [t93, (.bool false)]) H91)
        (bnd (stz 1 [.nils] 0 (.agg [u'])) fun c95 => bnd (partOf true 1 c95 0) fun t96 => Ret K (.tup [t96, (.bool true)]) H87) := fun Hy Hd u' out' hy hu' he => by
      subst he
      have cu' := hu'.cell
      refine C_s_TableOk (hu'.rd enStub_len) ?_
      simp [stz_eq, putCells, cu']
      refine ⟨fun q => stay Hd (sub_trans h1.sub (sub_trans hy hu'.sub)) (by unfold putT; rw [if_pos hok, hold, if_neg q]), fun q => ?_⟩
      have hp : putT t k = (insR k old, true) := by unfold putT; rw [if_pos hok, hold, if_pos q]
      rw [hp] at h
      obtain ⟨Hz, z1, z2⟩ := hu'.shrink (sub_trans h1.sub hy)
      exact Ret.shr (h u' Hz z1) rfl z2
    simp [bsl_one, cu]
    refine ⟨fun hb => ?_, fun hb => ?_⟩
    · subst hb
      rw [if_neg (by simp)] at hinv
      intro o7 ho7
      refine hu.append (sub_fresh ho7) (by simp) (by rw [List.length_map]; simp only [List.length_cons, List.length_nil]; omega) fun v' H' H'' ho' hs' => ?_
      have cv := ho'.cell
      simp [stz_eq, putCells, cv]
      obtain ⟨Hx, x1, x2⟩ := ho'.rise hs'
      have := done Hx H' v' (out ++ [k]) x1 (by rw [List.map_append]; exact x2) (by simpa [insR] using hinv)
      simpa [stz_eq, putCells, cv] using this
    · subst hb
      rw [if_pos rfl, List.append_nil] at hinv
      have := done H1 Hc u out (Abs.sub_refl _) hu hinv
      simpa [stz_eq, putCells, cu] using this

end Go.Proofs.YtaippfedjjjpeaaGreat
