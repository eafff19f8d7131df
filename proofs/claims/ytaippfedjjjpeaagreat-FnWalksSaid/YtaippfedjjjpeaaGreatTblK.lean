/-
Contracts of the laws' helpers over tables; the table of a node.
-/
import Derived.Test.YtaippfedjjjpeaaGreatRtM
import Derived.Test.YtaippfedjjjpeaaGreatNetM
set_option linter.all false
namespace Go.Proofs.YtaippfedjjjpeaaGreat
open Go Go.Abs Go.Proofs

theorem sB_Table {xs : List TRoute} (h : bRouteS xs) : xs.length ≤ 10000000 := sB_RouteS h

theorem C_i_TableFor {xs : List TLsa} {w : V} {f : Int} {H : Heap} {K : V → Heap → Prop} (hv : (dbT false).rd H xs [w]) (hl : bDb xs)
    (h : ∀ u H', Dp (routesT false) H (pfxR xs f).1 [u] H' → K (.tup [.agg [u], .bool (pfxR xs f).2]) H') : ACalls P n_i_TableFor [.agg [w], .int .i64 f] H K := by
  have cw := rdS_cell hv
  refine acalls_shr ?_
  apply W_i_TableFor
  unfold F_i_TableFor
  simp [cw]
  refine C_i_PrefixesOf hv hl fun u H1 h1 => ?_
  have cu := dpS_cell h1
  by_cases q : (pfxR xs f).2 = true
  · simp [stz_eq, putCells, fillZ, cu, q]
    have := h u H1 h1
    rw [q] at this
    exact Ret.of ⟨H1, Abs.sub_refl _, this⟩
  · have q : (pfxR xs f).2 = false := by simpa using q
    have e : (pfxR xs f).1 = [] := by
      unfold pfxR at q ⊢
      split
      · rename_i c; rw [if_pos c] at q; simp at q
      · rfl
    rw [e, q] at h
    simp [stz_eq, putCells, fillZ, q]
    exact Ret.of ⟨H, h1.sub, h .nils H dpS_nil⟩
theorem C_s_TableFor {b : Bool} {xs : List TLsa} {w : V} {f : Int} {H : Heap} {K : V → Heap → Prop} (hv : (dbT b).rd H xs [w]) (hl : bDb xs)
    (h : ∀ u H', Dp (routesT false) H (pfxR xs f).1 [u] H' → K (.tup [.agg [u], .bool (pfxR xs f).2]) H') : ACalls P n_s_TableFor [.agg [w], .int .i64 f] H K := by
  have cw := rdS_cell hv
  refine acalls_shr ?_
  apply W_s_TableFor
  unfold F_s_TableFor
  simp [cw]
  refine C_s_PrefixesOf hv hl fun u H1 h1 => ?_
  have cu := dpS_cell h1
  by_cases q : (pfxR xs f).2 = true
  · simp [stz_eq, putCells, fillZ, cu, q]
    have := h u H1 h1
    rw [q] at this
    exact Ret.of ⟨H1, Abs.sub_refl _, this⟩
  · have q : (pfxR xs f).2 = false := by simpa using q
    have e : (pfxR xs f).1 = [] := by
      unfold pfxR at q ⊢
      split
      · rename_i c; rw [if_pos c] at q; simp at q
      · rfl
    rw [e, q] at h
    simp [stz_eq, putCells, fillZ, q]
    exact Ret.of ⟨H, h1.sub, h .nils H dpS_nil⟩

/-! #### tables -/
abbrev tablesT (b : Bool) : Ty (List (List TRoute)) := sliceT b (routesT b)
def bTableS (xs : List (List TRoute)) : Prop := xs.length ≤ 100 ∧ ∀ t ∈ xs, t.length ≤ 1000
def szT (t : List TRoute) : Nat := 3 * t.length
abbrev mkTS : Int → List (List TRoute) → List (List TRoute) := mkG (fun k t => mkRr k t.length) szT
theorem sB_TableS {xs : List (List TRoute)} (h : bTableS xs) : sumF szT xs ≤ 10000000 := by
  have : ∀ ys : List (List TRoute), (∀ t ∈ ys, t.length ≤ 1000) → sumF szT ys ≤ 3000 * ys.length := by
    intro ys
    induction ys with
    | nil => intro _; simp [sumF]
    | cons t ys ih =>
      intro hh
      have h1 := ih fun x hx => hh x (by simp [hx])
      have h2 := hh t (by simp)
      unfold sumF szT at *
      simp only [List.map_cons, List.sum_cons, List.length_cons]
      omega
  have := this xs h.2
  have := h.1
  omega
def InvMT (H0 : Heap) (xs : List (List TRoute)) (k : Int) (u : V) (m : Nat) (ys : List V) (Hc : Heap) : Prop :=
  ∃ (i : Nat) (Ho' : Heap), i ≤ xs.length ∧ ys = [.int .i64 (k + sumF szT (xs.take i)), .int .i64 (i : Nat)] ∧ m = xs.length - i ∧ Dp (tablesT false) H0 (curG (fun k t => mkRr k t.length) szT k xs i) [u] Ho' ∧ Abs.sub Ho' Hc
end Go.Proofs.YtaippfedjjjpeaaGreat
