/-
Contracts of the laws' helpers over routes.
-/
import Derived.Test.YtaippfedjjjpeaaGreatRoutes
import Derived.Test.YtaippfedjjjpeaaGreatKindA
set_option linter.all false
namespace Go.Proofs.YtaippfedjjjpeaaGreat
open Go Go.Abs Go.Proofs


theorem C_l_heldRouteS {n : Nat} {v : V} {k : Int} {H : Heap} {K : V → Heap → Prop} (hv : Rd H 3 v (mkRoute k n)) (hk : 0 ≤ k) (hkn : k + 3 * n ≤ 1000000000000) (h : K (.int .i64 (k + 3 * n)) H) : ACalls P n_l_heldRouteS [v, .int .i64 k] H K := by
  have hl := hv.len
  rw [mkRoute_len] at hl
  apply W_l_heldRouteS
  unfold F_l_heldRouteS
  refine ⟨fun mm zs H' => ∃ i, i ≤ n ∧ zs = [.int .i64 (k + 3 * (i : Nat)), .int .i64 (i : Nat)] ∧ mm = n - i ∧ H' = H, n, Shr.of ⟨0, by omega, by simp, by omega, rfl⟩, ?_⟩
  rintro mm zs H' ⟨i, hi, rfl, rfl, rfl⟩
  simp [hl]
  refine ⟨fun hlt => ?_, fun hge => ?_⟩
  · have hrow : (mkRoute k n).getD i [] = enRoute (k + 3 * (i : Int), k + 3 * (i : Int) + 1, k + 3 * (i : Int) + 1 + 1) := by rw [List.getD_eq_getElem?_getD, mkRoute_get hlt]; rfl
    have e1 : IntKind.i64.wrap (k + 3 * (i : Int) + 1) = k + 3 * (i : Int) + 1 := i64_in (by omega) (by omega)
    have e2 : IntKind.i64.wrap (k + 3 * (i : Int) + 1 + 1) = k + 3 * (i : Int) + 1 + 1 := i64_in (by omega) (by omega)
    have e3 : IntKind.i64.wrap (k + 3 * (i : Int) + 1 + 1 + 1) = k + 3 * (i : Int) + 1 + 1 + 1 := i64_in (by omega) (by omega)
    have e0 : IntKind.i64.wrap ((i : Int) + 1) = (i : Int) + 1 := i64_in (by omega) (by omega)
    refine hv.idx (by omega) (by rw [mkRoute_len]; omega) fun p0 hp0 => ?_
    simp only [Int.toNat_natCast, hrow] at hp0
    refine hp0.fld fun q00 hq00 => ?_
    refine hq00.fld fun q01 hq01 => ?_
    rw [hq01.ld]
    simp [e1, e0]
    refine hv.idx (by omega) (by rw [mkRoute_len]; omega) fun p1 hp1 => ?_
    simp only [Int.toNat_natCast, hrow] at hp1
    refine hp1.fld fun q10 hq10 => ?_
    refine hq10.fld fun q11 hq11 => ?_
    rw [hq11.ld]
    simp [e2, e0]
    refine hv.idx (by omega) (by rw [mkRoute_len]; omega) fun p2 hp2 => ?_
    simp only [Int.toNat_natCast, hrow] at hp2
    refine hp2.fld fun q20 hq20 => ?_
    rw [hq20.ld]
    simp [e3, e0]
    exact ⟨n - (i + 1), by omega, Shr.of ⟨i + 1, by omega, by simp; omega, rfl, rfl⟩⟩
  · have : i = n := by omega
    subst this
    exact Ret.of h

abbrev routesT (b : Bool) : Ty (List TRoute) := sliceT b (flatT 3 enRoute (fun _ => rfl))
def bRouteS (xs : List TRoute) : Prop := xs.length ≤ 1000
theorem sB_RouteS {xs : List TRoute} (h : bRouteS xs) : xs.length ≤ 10000000 := by unfold bRouteS at h; omega
def mkRr (k : Int) (n : Nat) : List TRoute := (List.range n).map fun i => (k + 3 * (i : Nat), k + 3 * (i : Nat) + 1, k + 3 * (i : Nat) + 1 + 1)
@[simp] theorem mkRr_len (k : Int) (n : Nat) : (mkRr k n).length = n := by simp [mkRr]
theorem mkRr_eq (k : Int) (n : Nat) : mkRoute k n = (mkRr k n).map enRoute := by unfold mkRoute mkRr; rw [List.map_map]; rfl
theorem C_eq_RouteS {b c : Bool} {xs ys : List TRoute} {v w : V} {H : Heap} {K : V → Heap → Prop} (hv : (routesT b).rd H xs [v]) (hw : (routesT c).rd H ys [w]) (hb : bRouteS xs) (h : K (.bool (decide (xs = ys))) H) : ACalls P n_l_eqRouteS [v, w] H K :=
  C_l_eqRouteS (flat_rd.1 hv).1 (flat_rd.1 hw).1 (by unfold bRouteS at hb; omega) h
theorem C_mark_RouteS {xs : List TRoute} {u : V} {k : Int} {H0 Ho H : Heap} {K : V → Heap → Prop} (hu : Dp (routesT false) H0 xs [u] Ho) (hs : Abs.sub Ho H) (hb : bRouteS xs) (hk : 0 ≤ k ∧ k ≤ 1000000000)
    (h : ∀ H' Ho', Dp (routesT false) H0 (mkRr k xs.length) [u] Ho' → Abs.sub Ho' H' → K (.int .i64 (k + 3 * xs.length)) H') : ACalls P n_l_markRouteS [u, .int .i64 k] H K := by
  unfold bRouteS at hb
  refine C_markRouteHeld (flat_dp.1 hu) hs enRoute_len hk.1 (by simp; omega) fun H' Ho' h1 h2 => ?_
  simp at h1 ⊢
  rw [mkRr_eq] at h1
  exact h H' Ho' (flat_dp.2 h1) h2
theorem C_held_RouteS {b : Bool} {xs : List TRoute} {u : V} {k : Int} {H : Heap} {K : V → Heap → Prop} (hv : (routesT b).rd H (mkRr k xs.length) [u]) (hb : bRouteS xs) (hk : 0 ≤ k ∧ k ≤ 1000000000) (h : K (.int .i64 (k + 3 * xs.length)) H) : ACalls P n_l_heldRouteS [u, .int .i64 k] H K := by
  unfold bRouteS at hb
  have := (flat_rd.1 hv).1
  rw [← mkRr_eq] at this
  exact C_l_heldRouteS this hk.1 (by omega) h

end Go.Proofs.YtaippfedjjjpeaaGreat
