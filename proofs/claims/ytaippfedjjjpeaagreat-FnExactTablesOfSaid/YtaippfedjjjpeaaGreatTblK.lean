/-
Contracts of the laws' helpers over tables; the table of a node.
-/
import Derived.Test.YtaippfedjjjpeaaGreatPfxX
import Derived.Test.YtaippfedjjjpeaaGreatNetM
set_option linter.all false
namespace Go.Proofs.YtaippfedjjjpeaaGreat
open Go Go.Abs Go.Proofs

theorem C_eq_Table {b c : Bool} {xs ys : List TRoute} {v w : V} {H : Heap} {K : V → Heap → Prop} (hv : (routesT b).rd H xs [v]) (hw : (routesT c).rd H ys [w]) (hb : bRouteS xs) (h : K (.bool (decide (xs = ys))) H) : ACalls P n_l_eqTable [.agg [v], .agg [w]] H K := by
  have hc := rdS_cell hv
  have hc' := rdS_cell hw
  apply W_l_eqTable
  unfold F_l_eqTable
  simp [hc, hc']
  refine C_eq_RouteS hv hw hb ?_
  simp
  exact ⟨fun q => Ret.no h q, fun q => Ret.yes h q⟩
theorem C_mark_Table {xs : List TRoute} {u : V} {k : Int} {H0 Ho H : Heap} {K : V → Heap → Prop} (hu : Dp (routesT false) H0 xs [u] Ho) (hs : Abs.sub Ho H) (hb : bRouteS xs) (hk : 0 ≤ k ∧ k ≤ 1000000000)
    (h : ∀ H' Ho', Dp (routesT false) H0 (mkRr k xs.length) [u] Ho' → Abs.sub Ho' H' → K (.int .i64 (k + 3 * xs.length)) H') : ACalls P n_l_markTable [.agg [u], .int .i64 k] H K := by
  have hc := dpS_cell hu
  apply W_l_markTable
  unfold F_l_markTable
  simp [hc]
  exact C_mark_RouteS hu hs hb hk fun H' Ho' h1 h2 => Ret.of (h H' Ho' h1 h2)
theorem C_held_Table {b : Bool} {xs : List TRoute} {u : V} {k : Int} {H : Heap} {K : V → Heap → Prop} (hv : (routesT b).rd H (mkRr k xs.length) [u]) (hb : bRouteS xs) (hk : 0 ≤ k ∧ k ≤ 1000000000) (h : K (.int .i64 (k + 3 * xs.length)) H) : ACalls P n_l_heldTable [.agg [u], .int .i64 k] H K := by
  have hc := rdS_cell hv
  apply W_l_heldTable
  unfold F_l_heldTable
  simp [hc]
  refine C_held_RouteS hv hb hk ?_
  simp
  exact ⟨fun q => absurd q (by omega), fun _ => Ret.of h⟩
theorem sB_Table {xs : List TRoute} (h : bRouteS xs) : xs.length ≤ 10000000 := sB_RouteS h

theorem C_i_TableFor {xs : List TLsa} {w : V} {f : Int} {H : Heap} {K : V → Heap → Prop} (hv : (dbT false).rd H xs [w]) (hl : bDb xs)
    (h : ∀ u H', Dp (routesT false) H (pfxR xs f).1 [u] H' → K (.tup [.agg [u], .bool (pfxR xs f).2]) H') : ACalls P n_i_TableFor [.agg [w], .int .i64 f] H K := by
  have cw := rdS_cell hv
  refine acalls_shr ?_
  apply W_i_TableFor
  unfold F_i_TableFor
  simp [cw]
  refine C_i_PrefixesOf hv hl fun u H1 h1 => ?_
  have cu := dpS_cell h1
  by_cases q : (pfxR xs f).2 = true
  · simp [stz_eq, putCells, fillZ, cu, q]
    have := h u H1 h1
    rw [q] at this
    exact Ret.of ⟨H1, Abs.sub_refl _, this⟩
  · have q : (pfxR xs f).2 = false := by simpa using q
    have e : (pfxR xs f).1 = [] := by
      unfold pfxR at q ⊢
      split
      · rename_i c; rw [if_pos c] at q; simp at q
      · rfl
    rw [e, q] at h
    simp [stz_eq, putCells, fillZ, q]
    exact Ret.of ⟨H, h1.sub, h .nils H dpS_nil⟩
theorem C_s_TableFor {b : Bool} {xs : List TLsa} {w : V} {f : Int} {H : Heap} {K : V → Heap → Prop} (hv : (dbT b).rd H xs [w]) (hl : bDb xs)
    (h : ∀ u H', Dp (routesT false) H (pfxR xs f).1 [u] H' → K (.tup [.agg [u], .bool (pfxR xs f).2]) H') : ACalls P n_s_TableFor [.agg [w], .int .i64 f] H K := by
  have cw := rdS_cell hv
  refine acalls_shr ?_
  apply W_s_TableFor
  unfold F_s_TableFor
  simp [cw]
  refine C_s_PrefixesOf hv hl fun u H1 h1 => ?_
  have cu := dpS_cell h1
  by_cases q : (pfxR xs f).2 = true
  · simp [stz_eq, putCells, fillZ, cu, q]
    have := h u H1 h1
    rw [q] at this
    exact Ret.of ⟨H1, Abs.sub_refl _, this⟩
  · have q : (pfxR xs f).2 = false := by simpa using q
    have e : (pfxR xs f).1 = [] := by
      unfold pfxR at q ⊢
      split
      · rename_i c; rw [if_pos c] at q; simp at q
      · rfl
    rw [e, q] at h
    simp [stz_eq, putCells, fillZ, q]
    exact Ret.of ⟨H, h1.sub, h .nils H dpS_nil⟩

/-! #### tables -/
abbrev tablesT (b : Bool) : Ty (List (List TRoute)) := sliceT b (routesT b)
def bTableS (xs : List (List TRoute)) : Prop := xs.length ≤ 100 ∧ ∀ t ∈ xs, t.length ≤ 1000
def szT (t : List TRoute) : Nat := 3 * t.length
abbrev mkTS : Int → List (List TRoute) → List (List TRoute) := mkG (fun k t => mkRr k t.length) szT
theorem sB_TableS {xs : List (List TRoute)} (h : bTableS xs) : sumF szT xs ≤ 10000000 := by
  have : ∀ ys : List (List TRoute), (∀ t ∈ ys, t.length ≤ 1000) → sumF szT ys ≤ 3000 * ys.length := by
    intro ys
    induction ys with
    | nil => intro _; simp [sumF]
    | cons t ys ih =>
      intro hh
      have h1 := ih fun x hx => hh x (by simp [hx])
      have h2 := hh t (by simp)
      unfold sumF szT at *
      simp only [List.map_cons, List.sum_cons, List.length_cons]
      omega
  have := this xs h.2
  have := h.1
  omega
theorem C_eq_TableS {b c : Bool} {xs ys : List (List TRoute)} {v w : V} {H : Heap} {K : V → Heap → Prop} (hv : (tablesT b).rd H xs [v]) (hw : (tablesT c).rd H ys [w]) (hb : bTableS xs) (h : K (.bool (decide (xs = ys))) H) : ACalls P n_l_eqTableS [v, w] H K := by
  have hl := hb.1
  apply W_l_eqTableS
  unfold F_l_eqTableS
  simp [rdS_len hv, rdS_len hw]
  refine ⟨fun hne => Ret.no h fun e => hne (by rw [e]), fun heq => ?_⟩
  have heq' : xs.length = ys.length := by omega
  refine ⟨fun m zs H' => ∃ i, i ≤ xs.length ∧ zs = [.int .i64 (i : Nat)] ∧ m = xs.length - i ∧ H' = H ∧ xs.take i = ys.take i, ⟨xs.length, Shr.of ⟨0, by omega, rfl, by omega, rfl, by simp⟩⟩, ?_⟩
  rintro m zs H' ⟨i, hi, rfl, rfl, rfl, ht⟩
  simp
  refine ⟨fun hlt => ⟨_, Abs.sub_refl _, ?_⟩, fun hge => ?_⟩
  · have hlt' : i < ys.length := by omega
    refine rdS_idx hv (by omega) (by simpa using hlt) fun p row hp hr => ?_
    simp only [Int.toNat_natCast] at hr
    have hr1 := hr
    obtain ⟨u, rows, rfl, _, _⟩ := hr
    rw [hp.ld]
    simp
    refine rdS_idx hw (by omega) (by simpa using hlt') fun p' row' hp' hr' => ?_
    simp only [Int.toNat_natCast] at hr'
    have hr2 := hr'
    obtain ⟨u', rows', rfl, _, _⟩ := hr'
    rw [hp'.ld]
    simp
    refine C_eq_Table hr1 hr2 (hb.2 _ (List.getElem_mem hlt)) ⟨Abs.sub_refl _, ?_⟩
    simp
    refine ⟨fun hne => Ret.no h fun e => hne (by subst e; rfl), fun he => ?_⟩
    rw [i64_in (by omega) (by omega)]
    refine ⟨xs.length - (i + 1), by omega, Shr.of ⟨i + 1, by omega, by simp, rfl, rfl, ?_⟩⟩
    rw [List.take_succ_eq_append_getElem hlt, List.take_succ_eq_append_getElem hlt', ht, he]
  · have : i = xs.length := by omega
    subst this
    rw [List.take_of_length_le (by omega), List.take_of_length_le (by omega)] at ht
    exact Ret.yes h ht
def InvMT (H0 : Heap) (xs : List (List TRoute)) (k : Int) (u : V) (m : Nat) (ys : List V) (Hc : Heap) : Prop :=
  ∃ (i : Nat) (Ho' : Heap), i ≤ xs.length ∧ ys = [.int .i64 (k + sumF szT (xs.take i)), .int .i64 (i : Nat)] ∧ m = xs.length - i ∧ Dp (tablesT false) H0 (curG (fun k t => mkRr k t.length) szT k xs i) [u] Ho' ∧ Abs.sub Ho' Hc
theorem C_mark_TableS {xs : List (List TRoute)} {u : V} {k : Int} {H0 Ho H : Heap} {K : V → Heap → Prop} (hu : Dp (tablesT false) H0 xs [u] Ho) (hs : Abs.sub Ho H) (hb : bTableS xs) (hk : 0 ≤ k ∧ k ≤ 100000000)
    (h : ∀ H' Ho', Dp (tablesT false) H0 (mkTS k xs) [u] Ho' → Abs.sub Ho' H' → K (.int .i64 (k + sumF szT xs)) H') : ACalls P n_l_markTableS [u, .int .i64 k] H K := by
  have hkn := sB_TableS hb
  have hl := hb.1
  apply W_l_markTableS
  unfold F_l_markTableS
  refine ⟨InvMT H0 xs k u, xs.length, Shr.of ⟨0, Ho, by omega, by simp [sumF], by omega, by simpa [curG] using hu, hs⟩, ?_⟩
  rintro m ys Hc ⟨i, Ho', hi, rfl, rfl, hc, hsub⟩
  have hlu : lenOf u = some xs.length := by rw [rdS_len hc.rd, curG_len hi]
  simp [hlu]
  refine ⟨fun hlt => ?_, fun hge => ?_⟩
  · have hsum := sumF_succ (f := szT) hlt
    have hle : sumF szT (xs.take (i + 1)) ≤ sumF szT xs := sumF_le (i + 1)
    have hz : szT xs[i] = 3 * xs[i].length := rfl
    have ha := curG_get (mk := fun k t => mkRr k t.length) (sz := szT) (k := k) hlt
    have hll : bRouteS xs[i] := hb.2 _ (List.getElem_mem hlt)
    generalize hc0 : curG (fun k t => mkRr k t.length) szT k xs i = C at hc ha
    obtain ⟨hCi, hCe⟩ := List.getElem?_eq_some_iff.1 ha
    have e0 : IntKind.i64.wrap ((i : Int) + 1) = (i : Int) + 1 := i64_in (by omega) (by omega)
    obtain ⟨rows, r, Hm, g1, g2, g3, g4, g5, g6⟩ := dpS_elem hc hCi
    rw [hCe] at g4
    have g4' := g4
    obtain ⟨es, ⟨x, rs, ess, rfl, _⟩, _⟩ := g4
    have cx := dpS_cell g4'
    refine (g1.mono hsub).idx (by omega) (by simp; omega) fun p hp => ?_
    have hg : rows.getD (i : Int).toNat [] = [x] := by
      rw [List.getD_eq_getElem?_getD]
      simp only [Int.toNat_natCast]
      rw [g3]; rfl
    rw [hg] at hp
    refine hp.fld fun q hq => ?_
    rw [hq.ld]
    simp [cx]
    refine C_mark_RouteS g4' hsub hll (by omega) fun H' Ho2 h2 hs2 => ?_
    simp only [e0]
    have h3 := g6 _ _ h2
    rw [← hc0, curG_set (mk := fun k t => mkRr k t.length) (sz := szT) hlt] at h3
    refine ⟨xs.length - (i + 1), by omega, Shr.of ⟨i + 1, Ho2, by omega, ?_, rfl, h3, hs2⟩⟩
    rw [hsum, hz]
    simp
    omega
  · have : i = xs.length := by omega
    subst this
    rw [List.take_length] at *
    rw [curG_done] at hc
    exact Ret.of (h _ _ hc hsub)
theorem C_held_TableS {b : Bool} {xs : List (List TRoute)} {u : V} {k : Int} {H : Heap} {K : V → Heap → Prop} (hv : (tablesT b).rd H (mkTS k xs) [u]) (hb : bTableS xs) (hk : 0 ≤ k ∧ k ≤ 100000000) (h : K (.int .i64 (k + sumF szT xs)) H) : ACalls P n_l_heldTableS [u, .int .i64 k] H K := by
  have hkn := sB_TableS hb
  have hl := hb.1
  apply W_l_heldTableS
  unfold F_l_heldTableS
  refine ⟨fun m ys Hc => ∃ i, i ≤ xs.length ∧ ys = [.int .i64 (k + sumF szT (xs.take i)), .int .i64 (i : Nat)] ∧ m = xs.length - i ∧ Hc = H, xs.length, Shr.of ⟨0, by omega, by simp [sumF], by omega, rfl⟩, ?_⟩
  rintro m ys Hc ⟨i, hi, rfl, rfl, rfl⟩
  have hlu : lenOf u = some xs.length := by rw [rdS_len hv, mkG_len]
  simp [hlu]
  refine ⟨fun hlt => ?_, fun hge => ?_⟩
  · have hsum := sumF_succ (f := szT) hlt
    have hle : sumF szT (xs.take (i + 1)) ≤ sumF szT xs := sumF_le (i + 1)
    have hz : szT xs[i] = 3 * xs[i].length := rfl
    have hll : bRouteS xs[i] := hb.2 _ (List.getElem_mem hlt)
    have hg := mkG_get (mk := fun k t => mkRr k t.length) (sz := szT) (k := k) hlt
    obtain ⟨hi', hg⟩ := List.getElem?_eq_some_iff.1 hg
    have e0 : IntKind.i64.wrap ((i : Int) + 1) = (i : Int) + 1 := i64_in (by omega) (by omega)
    refine rdS_idx hv (by omega) (by simpa using hlt) fun p row hp hr => ?_
    simp only [Int.toNat_natCast, hg] at hr
    have hr' := hr
    obtain ⟨x, rs, rfl, _⟩ := hr
    have cx := rdS_cell hr'
    refine hp.fld fun q hq => ?_
    rw [hq.ld]
    simp [cx]
    refine C_held_RouteS hr' hll (by omega) ?_
    simp [e0]
    refine ⟨fun hh => absurd hh (by omega), fun _ => ?_⟩
    refine ⟨xs.length - (i + 1), by omega, Shr.of ⟨i + 1, by omega, ?_, rfl, rfl⟩⟩
    rw [hsum, hz]
    simp
    omega
  · have : i = xs.length := by omega
    subst this
    rw [List.take_length]
    exact Ret.of h

end Go.Proofs.YtaippfedjjjpeaaGreat
