/-
Contracts: an advertisement is installed (the reference's way); offers.
-/
import Derived.Test.YtgoljfhjhcjcpaaInstF
set_option linter.all false
namespace Go.Proofs.Ytgoljfhjhcjcpaa
open Go Go.Abs Go.Proofs

def offerR (xs : List TLsa) (l : TLsa) : Int :=
  if (findR xs l.origin).2 then (if newerR l (findR xs l.origin).1 = 1 then 0 else if newerR l (findR xs l.origin).1 = 0 then 1 else 2) else if l.age = 60 then 1 else 0
def stepP (l : TLsa) (o : List TLsa × Bool) (x : TLsa) : List TLsa × Bool :=
  let o1 := if o.2 = false ∧ l.origin ≤ x.origin then (o.1 ++ [l], true) else o
  if x.origin ≠ l.origin then (o1.1 ++ [x], o1.2) else o1
def foldP (l : TLsa) (xs : List TLsa) : List TLsa × Bool := xs.foldl (stepP l) ([], false)
def putL (l : TLsa) (xs : List TLsa) : List TLsa := if (foldP l xs).2 then (foldP l xs).1 else (foldP l xs).1 ++ [l]
def installR (xs : List TLsa) (l : TLsa) : List TLsa × Int := if dbOk xs ∧ lsaOk l then (if offerR xs l = 0 then (putL l xs, 0) else (xs, offerR xs l)) else (xs, 3)
theorem foldP_succ {l : TLsa} {xs : List TLsa} {i : Nat} (h : i < xs.length) : foldP l (xs.take (i + 1)) = stepP l (foldP l (xs.take i)) xs[i] := by
  unfold foldP
  rw [List.take_succ_eq_append_getElem h, List.foldl_append]
  rfl
theorem foldP_len (l : TLsa) : ∀ (xs : List TLsa), (foldP l xs).1.length ≤ 2 * xs.length := by
  have : ∀ (xs : List TLsa) (o : List TLsa × Bool), (xs.foldl (stepP l) o).1.length ≤ o.1.length + 2 * xs.length := by
    intro xs
    induction xs with
    | nil => intro o; simp
    | cons x xs ih =>
      intro o
      have h1 := ih (stepP l o x)
      have h2 : (stepP l o x).1.length ≤ o.1.length + 2 := by
        unfold stepP
        simp only
        split <;> split <;> simp
      simp only [List.foldl_cons, List.length_cons]
      omega
  intro xs
  have := this xs ([], false)
  unfold foldP
  simpa using this
theorem sign_in (z : Int) : signI z = -1 ∨ signI z = 0 ∨ signI z = 1 := by
  unfold signI
  repeat' split
  all_goals simp
theorem newer_in (x y : TLsa) : newerR x y = -1 ∨ newerR x y = 0 ∨ newerR x y = 1 := by
  unfold newerR
  repeat' split
  all_goals first | exact sign_in _ | simp

def InvI (c : Bool) (H : Heap) (xs : List TLsa) (w : V) (l : TLsa) (r : List V) (m : Nat) (ys : List V) (Hc : Heap) : Prop :=
  ∃ (i : Nat) (u : V), i ≤ xs.length ∧ ys = [.box [w], .box r, .box [.nils], .box [u], .bool (foldP l (xs.take i)).2, .int .i64 (i : Nat)] ∧ m = xs.length - i ∧ Dp (dbT c) H (foldP l (xs.take i)).1 [u] Hc
def mid1 (l : TLsa) (o : List TLsa × Bool) (x : TLsa) : List TLsa × Bool := if o.2 = false ∧ l.origin ≤ x.origin then (o.1 ++ [l], true) else o
theorem step_mid (l : TLsa) (o : List TLsa × Bool) (x : TLsa) : stepP l o x = if x.origin ≠ l.origin then ((mid1 l o x).1 ++ [x], (mid1 l o x).2) else mid1 l o x := rfl
def JI (c : Bool) (H : Heap) (w : V) (r : List V) (o : List TLsa × Bool) (ys : List V) (Hc : Heap) : Prop :=
  ∃ u, ys = [.box [w], .box r, .box [.nils], .box [u], .bool o.2] ∧ Dp (dbT c) H o.1 [u] Hc
set_option maxHeartbeats 2000000 in
theorem inst_rest {b b' c : Bool} {xs : List TLsa} {w : V} {l : TLsa} {r : List V} {H : Heap} {K : V → Heap → Prop} (hv : (dbT b).rd H xs [w]) (hr : (lsaT b').rd H l r) (hd : dbOk xs) (hl : lsaOk l)
    (h : ∀ u H', Dp (dbT c) H (putL l xs) [u] H' → K (.tup [.agg [u], .int .i64 0]) H') : restsInstall_0 K [.box [w], .box r, .box [.nils]] H := by
  have hxl := db_len hd
  have cw := rdS_cell hv
  have hr' := hr
  obtain ⟨lv, sv, rfl, g1, g2⟩ := hr
  have hcc := lsa_cell g1 g2
  have hl4 := hl.2.2.2.1
  have hl5 := hl.2.2.2.2.1
  unfold restsInstall_0
  simp [fillZ, stz_eq, putCells]
  refine ⟨InvI c H xs w l (lsaRow l lv sv), ⟨xs.length, Shr.of ⟨0, .nils, by omega, rfl, by omega, dpS_nil⟩⟩, ?_⟩
  rintro m ys Hc ⟨i, u, hi, rfl, rfl, hu⟩
  have cu := dpS_cell hu
  have hlen := foldP_len l (xs.take i)
  have hlen : (foldP l (xs.take i)).1.length ≤ 20 := by simp at hlen; omega
  simp [cw, rdS_len hv]
  refine ⟨fun hlt => ?_, fun hge => ?_⟩
  · have hsucc := foldP_succ (l := l) hlt
    rw [step_mid] at hsucc
    have hx := hd.1 i hlt
    have hxl4 := hx.2.2.2.1
    have hxl5 := hx.2.2.2.2.1
    generalize hfo : foldP l (xs.take i) = o at *
    obtain ⟨ob, op⟩ := o
    simp only at hu hlen ⊢
    refine ⟨JI c H w (lsaRow l lv sv) (mid1 l (ob, op) xs[i]), ?_, ?_⟩
    · refine ⟨H, hu.sub, ?_⟩
      have stay : ¬ (op = false ∧ l.origin ≤ xs[i].origin) → Shr (JI c H w (lsaRow l lv sv) (mid1 l (ob, op) xs[i]) [.box [w], .box (lsaRow l lv sv), .box [.nils], .box [u], .bool op]) Hc := fun hn => by
        refine Shr.of ⟨u, ?_, ?_⟩
        · rw [mid1, if_neg hn]
        · rw [mid1, if_neg hn]; exact hu
      cases op with
      | true =>
        simp
        exact stay (by simp)
      | false =>
        simp
        refine rdS_idx hv (by omega) (by simpa using hlt) fun p row hp hrw => hp.fld fun q hq => ?_
        simp only [Int.toNat_natCast] at hrw
        obtain ⟨l1, s1, rfl, _, _⟩ := hrw
        rw [hq.ld]
        simp
        refine ⟨fun hle => ?_, fun hgt => ?_⟩
        · have _ := hle
          refine C_s_l05Copy (b := b') (c := c) ((lsaT b').mono hr' hu.sub) (by omega) fun us H2 hus => ?_
          have hus' := hus
          obtain ⟨l', s', Hm, rfl, w1, w2⟩ := lsa_dp hus
          have c1 := w1.cell
          have c2 := w2.cell
          simp [bsl_one, c1, c2]
          intro o2 ho2
          refine dpS_app (T := lsaT c) hu hus' (sub_fresh ho2) (by omega) fun v' H' H'' ho' hs' => ?_
          have cv := dpS_cell ho'
          simp [stz_eq, putCells, cv]
          refine ⟨H'', hs', v', ?_, ?_⟩
          · rw [mid1, if_pos ⟨rfl, hle⟩]
          · rw [mid1, if_pos ⟨rfl, hle⟩]; exact ho'
        · exact stay (by simp; omega)
    · rintro ys Hd ⟨u, rfl, hu⟩
      have cu := dpS_cell hu
      have hml : (mid1 l (ob, op) xs[i]).1.length ≤ 21 := by
        unfold mid1
        split
        · simp; omega
        · simp; omega
      generalize mid1 l (ob, op) xs[i] = o1 at *
      refine ⟨H, hu.sub, ?_⟩
      simp [cw]
      refine rdS_idx hv (by omega) (by simpa using hlt) fun p row hp hrw => hp.fld fun q hq => ?_
      simp only [Int.toNat_natCast] at hrw
      obtain ⟨l1, s1, rfl, _, _⟩ := hrw
      rw [hq.ld]
      simp
      rw [i64_in (n := (i : Int) + 1) (by omega) (by omega)]
      refine ⟨fun hne => ?_, fun heq => ?_⟩
      · rw [if_pos hne] at hsucc
        refine rdS_idx ((dbT b).mono hv hu.sub) (by omega) (by simpa using hlt) fun p row hp hrw => ?_
        simp only [Int.toNat_natCast] at hrw
        rw [hp.ld]
        have hrw' := hrw
        obtain ⟨l2, s2, rfl, _, _⟩ := hrw
        simp
        refine C_s_l05Copy (b := b) (c := c) hrw' (by omega) fun us H2 hus => ?_
        have hus' := hus
        obtain ⟨l', s', Hm, rfl, w1, w2⟩ := lsa_dp hus
        have c1 := w1.cell
        have c2 := w2.cell
        simp [bsl_one, c1, c2]
        intro o2 ho2
        refine dpS_app (T := lsaT c) hu hus' (sub_fresh ho2) (by omega) fun v' H' H'' ho' hs' => ?_
        have cv := dpS_cell ho'
        simp [stz_eq, putCells, cv]
        refine ⟨xs.length - (i + 1), by omega, H'', hs', i + 1, v', by omega, ?_, rfl, ?_⟩
        · rw [hsucc]; simp
        · rw [hsucc]; exact ho'
      · rw [if_neg (by simpa using heq)] at hsucc
        refine ⟨xs.length - (i + 1), by omega, Shr.of ⟨i + 1, u, by omega, ?_, rfl, ?_⟩⟩
        · rw [hsucc]; simp
        · rw [hsucc]; exact hu
  · have : i = xs.length := by omega
    subst this
    rw [List.take_length] at hu hlen ⊢
    unfold putL at h
    refine ⟨fun hf => ?_, fun ht => ?_⟩
    · rw [if_neg (by simp [hf])] at h
      refine C_s_l05Copy (b := b') (c := c) ((lsaT b').mono hr' hu.sub) (by omega) fun us H2 hus => ?_
      have hus' := hus
      obtain ⟨l', s', Hm, rfl, w1, w2⟩ := lsa_dp hus
      have c1 := w1.cell
      have c2 := w2.cell
      simp [bsl_one, c1, c2]
      intro o2 ho2
      refine dpS_app (T := lsaT c) hu hus' (sub_fresh ho2) (by omega) fun v' H' H'' ho' hs' => ?_
      have cv := dpS_cell ho'
      simp [stz_eq, putCells, cv]
      exact Ret.shr (h _ _ ho') rfl hs'
    · rw [if_pos (by simpa using ht)] at h
      simp [stz_eq, putCells, cu]
      exact Ret.of (h _ _ hu)
end Go.Proofs.Ytgoljfhjhcjcpaa
