/-
Contracts of the laws' helpers over slices of structs Route.
-/
import Derived.Test.YtaippfedjjjpeaaGreatBase
import Derived.Test.YtaippfedjjjpeaaGreatAbs3
import Derived.Test.YtaippfedjjjpeaaGreatKindA
import Derived.Test.YtaippfedjjjpeaaGreatRefM
set_option linter.all false
namespace Go.Proofs.YtaippfedjjjpeaaGreat
open Go Go.Abs Go.Proofs

/-! #### Route -/
abbrev TRoute : Type := Int × Int × Int
abbrev enRoute (e : TRoute) : List V := [.int .i64 e.1, .int .i64 e.2.1, .int .i64 e.2.2]
theorem enRoute_len {xs : List TRoute} : ∀ r ∈ xs.map enRoute, r.length = 3 := fun r hr => by obtain ⟨x, _, rfl⟩ := List.mem_map.1 hr; rfl
theorem enRoute_inj {a b : TRoute} : a = b ↔ (a.1 = b.1 ∧ a.2.1 = b.2.1 ∧ a.2.2 = b.2.2) := by
  constructor
  · rintro rfl; simp
  · intro h; obtain ⟨a0, a1, a2⟩ := a; obtain ⟨b0, b1, b2⟩ := b; simp_all
theorem Routes_of {e : TypeId} {dn : Nat} {x : V} (hf : flat P 8 e = some [.int .i64, .int .i64, .int .i64]) (c : CT P (dn + 1) (.slice e) x) : ∃ xs : List TRoute, x = .ro (xs.map enRoute) ∧ xs.length ≤ 9223372036854775807 := by
  obtain ⟨rows, rfl, hl, h⟩ := CT_slice hf c
  obtain ⟨xs, rfl⟩ := rows_map (f := enRoute) (rows := rows) fun row hr => by
    have c := h row hr
    obtain ⟨_, _, rfl, k0, c⟩ := CTs_cons c
    obtain ⟨_, _, rfl, k1, c⟩ := CTs_cons c
    obtain ⟨_, _, rfl, k2, c⟩ := CTs_cons c
    obtain rfl := CTs_nil c
    obtain ⟨m0, rfl, _⟩ := CT_int k0
    obtain ⟨m1, rfl, _⟩ := CT_int k1
    obtain ⟨m2, rfl, _⟩ := CT_int k2
    exact ⟨(m0, m1, m2), rfl⟩
  exact ⟨xs, rfl, by simp [maxLen] at hl; omega⟩
def mkRoute (k : Int) (n : Nat) : List (List V) := (List.range n).map fun i => enRoute (k + 3 * (i : Nat), k + 3 * (i : Nat) + 1, k + 3 * (i : Nat) + 1 + 1)
theorem mkRoute_len (k : Int) (n : Nat) : (mkRoute k n).length = n := by simp [mkRoute]
theorem mkRoute_row (k : Int) (n : Nat) : ∀ r ∈ mkRoute k n, r.length = 3 := fun r hr => by
  unfold mkRoute at hr
  obtain ⟨i, _, rfl⟩ := List.mem_map.1 hr
  rfl
theorem mkRoute_get {k : Int} {n i : Nat} (h : i < n) : (mkRoute k n)[i]? = some (enRoute (k + 3 * (i : Nat), k + 3 * (i : Nat) + 1, k + 3 * (i : Nat) + 1 + 1)) := by simp [mkRoute, h]
end Go.Proofs.YtaippfedjjjpeaaGreat

/-
Contracts of the laws' helpers over routes.
-/
namespace Go.Proofs.YtaippfedjjjpeaaGreat
open Go Go.Abs Go.Proofs


abbrev routesT (b : Bool) : Ty (List TRoute) := sliceT b (flatT 3 enRoute (fun _ => rfl))
def bRouteS (xs : List TRoute) : Prop := xs.length ≤ 1000
theorem sB_RouteS {xs : List TRoute} (h : bRouteS xs) : xs.length ≤ 10000000 := by unfold bRouteS at h; omega
def mkRr (k : Int) (n : Nat) : List TRoute := (List.range n).map fun i => (k + 3 * (i : Nat), k + 3 * (i : Nat) + 1, k + 3 * (i : Nat) + 1 + 1)
@[simp] theorem mkRr_len (k : Int) (n : Nat) : (mkRr k n).length = n := by simp [mkRr]
theorem mkRr_eq (k : Int) (n : Nat) : mkRoute k n = (mkRr k n).map enRoute := by unfold mkRoute mkRr; rw [List.map_map]; rfl
end Go.Proofs.YtaippfedjjjpeaaGreat
/-
Contracts: the routes to a database's prefixes, both sides alike.
-/
namespace Go.Proofs.YtaippfedjjjpeaaGreat
open Go Go.Abs Go.Proofs

theorem acalls_shr {f : FuncId} {args : List V} {H : Heap} {K : V → Heap → Prop} (h : ACalls P f args H fun v H' => ∃ H'', Abs.sub H'' H' ∧ K v H'') : ACalls P f args H K := by
  refine ⟨fun w0 base F ι G w cargs hrel hsub hF hdis hargs => ?_⟩
  refine Calls.mono (h.run w0 base F ι G w cargs hrel hsub hF hdis hargs) ?_
  rintro e w' ⟨v, cv, ι', G', H', h1, h2, h3, h4, h5, h6, h7, H'', h8, h9⟩
  exact ⟨v, cv, ι', G', H'', h1, h2, h3, h4, sub_trans h8 h5, h6, fun o x ho => h7 o x (h8 o x ho), h9⟩
theorem tab_tb {ps : List (Int × Int)} (hl : ps.length ≤ 100) (hp : ∀ p ∈ ps, prefOk p.1 p.2) : Tb ps (tabF ps) := by
  have key : ∀ i, i ≤ ps.length → Tb (ps.take i) (tabF (ps.take i)) := by
    intro i
    induction i with
    | zero => intro _; exact ⟨by simp [tabF], by simp [tabF], by simp [tabF], by simp [tabF]⟩
    | succ i ih =>
      intro hi
      have et : ps.take (i + 1) = ps.take i ++ [ps[i]] := List.take_succ_eq_append_getElem (by omega)
      have := tb_put (ih (by omega)) (hp ps[i] (List.getElem_mem _)) (by simp; omega)
      rw [et]
      have e2 : tabF (ps.take i ++ [ps[i]]) = (putT (tabF (ps.take i)) (zr ps[i])).1 := by unfold tabF; rw [List.foldl_append]; rfl
      rw [e2]
      exact this
  have := key ps.length (Nat.le_refl _)
  rwa [List.take_length] at this
theorem tb_same {ps : List (Int × Int)} {t t' : List TStub} (h : Tb ps t) (h' : Tb ps t') : t.map pfx = t'.map pfx := by
  have pw : ∀ {t : List TStub}, Tb ps t → (t.map pfx).Pairwise ltP := fun h => by
    rw [List.pairwise_map]
    exact h.pw.imp fun q => by unfold ahead at q; unfold ltP pfx; exact q
  exact sortP_eq (pw h) (pw h') fun k => by rw [h.mem, h'.mem]
def pfxR (xs : List TLsa) (f : Int) : List TRoute × Bool := if (graphR xs).2 = true ∧ 0 ≤ f ∧ f ≤ 9 then (rtsR xs (edgesOf xs xs) f ((tabF (pAll xs)).map pfx), true) else ([], false)
theorem graph_db {xs : List TLsa} (h : (graphR xs).2 = true) : dbOk xs ∧ graphOk 10 (edgesOf xs xs) := by
  by_cases hok : dbOk xs ∧ (edgesOf xs xs).length ≤ 60
  · exact ⟨hok.1, (graphOf_ok hok.1).2 hok.2⟩
  · rw [graph_no hok] at h; simp at h
theorem pAll_ok {xs : List TLsa} (hd : dbOk xs) : (pAll xs).length ≤ 100 ∧ ∀ p ∈ pAll xs, prefOk p.1 p.2 := by
  refine ⟨?_, fun p hp => ?_⟩
  · have := pAll_len (xs := xs) fun a ha => by
      obtain ⟨i, hi, rfl⟩ := List.mem_iff_getElem.1 ha
      exact (hd.1 i hi).2.2.2.2.1
    have := db_len hd
    omega
  · unfold pAll at hp
    obtain ⟨a, ha, hp⟩ := List.mem_flatMap.1 hp
    obtain ⟨s, hs, rfl⟩ := List.mem_map.1 hp
    obtain ⟨i, hi, rfl⟩ := List.mem_iff_getElem.1 ha
    obtain ⟨j, hj, rfl⟩ := List.mem_iff_getElem.1 hs
    have := (hd.1 i hi).2.2.2.2.2.2 j hj
    unfold stOk at this
    rw [show rt xs[i].stubs j = xs[i].stubs[j] by simp [rt, hj]] at this
    exact this.1
theorem pfxR_sz {xs : List TLsa} {f : Int} : bRouteS (pfxR xs f).1 := by
  unfold pfxR bRouteS
  split
  · rename_i hh
    obtain ⟨hd, _⟩ := graph_db hh.1
    obtain ⟨p1, p2⟩ := pAll_ok hd
    have := (tab_tb p1 p2).len
    have := rts_len xs (edgesOf xs xs) f ((tabF (pAll xs)).map pfx)
    simp at this ⊢
    omega
  · simp
theorem C_i_PrefixesOf {xs : List TLsa} {w : V} {f : Int} {H : Heap} {K : V → Heap → Prop} (hv : (dbT false).rd H xs [w]) (hl : bDb xs)
    (h : ∀ u H', Dp (routesT false) H (pfxR xs f).1 [u] H' → K (.tup [u, .bool (pfxR xs f).2]) H') : ACalls P n_i_PrefixesOf [.agg [w], .int .i64 f] H K := by
  refine acalls_shr (C_iw_PrefixesOf hv hl (fun hno H' hs => ⟨H, hs, ?_⟩) fun hy hf L u H' Hb perm srt hs hh => ?_)
  · have e : pfxR xs f = ([], false) := by unfold pfxR; rw [if_neg hno]
    rw [e] at h
    exact h .nils H (flat_dp.2 Held.nil)
  · have e : pfxR xs f = (rtsR xs (edgesOf xs xs) f ((tabF (pAll xs)).map pfx), true) := by unfold pfxR; rw [if_pos ⟨hy, hf⟩]
    rw [e] at h
    obtain ⟨hd, hg⟩ := graph_db hy
    obtain ⟨p1, p2⟩ := pAll_ok hd
    rw [← tab_sorted (tab_tb p1 p2) perm srt] at hh
    obtain ⟨H'', q1, q2⟩ := hh.shrink hs
    exact ⟨H'', q2, h u H'' (flat_dp.2 q1)⟩
theorem rts_map {xs : List TLsa} {es : List TEdge} {f : Int} {T : List TStub} (h : ∀ p, oneS xs es f p = oneR xs es f p) : rtsS xs es f T = rtsR xs es f (T.map pfx) := by
  unfold rtsS rtsR
  rw [List.filterMap_map]
  congr 1
  funext r
  exact h _
theorem C_s_PrefixesOf {b : Bool} {xs : List TLsa} {w : V} {f : Int} {H : Heap} {K : V → Heap → Prop} (hv : (dbT b).rd H xs [w]) (hl : bDb xs)
    (h : ∀ u H', Dp (routesT false) H (pfxR xs f).1 [u] H' → K (.tup [u, .bool (pfxR xs f).2]) H') : ACalls P n_s_PrefixesOf [.agg [w], .int .i64 f] H K := by
  refine acalls_shr (C_sw_PrefixesOf hv hl (fun hno H' hs => ⟨H, hs, ?_⟩) fun hy hf T u H' Hb hT hs hh => ?_)
  · have e : pfxR xs f = ([], false) := by unfold pfxR; rw [if_neg hno]
    rw [e] at h
    exact h .nils H (flat_dp.2 Held.nil)
  · have e : pfxR xs f = (rtsR xs (edgesOf xs xs) f ((tabF (pAll xs)).map pfx), true) := by unfold pfxR; rw [if_pos ⟨hy, hf⟩]
    rw [e] at h
    obtain ⟨hd, hg⟩ := graph_db hy
    obtain ⟨p1, p2⟩ := pAll_ok hd
    rw [rts_map (one_same hd hg (by omega)), tb_same hT (tab_tb p1 p2)] at hh
    obtain ⟨H'', q1, q2⟩ := hh.shrink hs
    exact ⟨H'', q2, h u H'' (flat_dp.2 q1)⟩

end Go.Proofs.YtaippfedjjjpeaaGreat
