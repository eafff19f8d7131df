/-
The comparison of two prefixes, walked in the model.
-/
import Derived.Test.YtaippfedjjjpeaaGreatProg
import Derived.Shelf.SlSortCmp.InsertionK
import Derived.Shelf.Lay
import Derived.KernelRfl
set_option linter.all false
namespace Go.Proofs
open Go.Shelf Go.RowKit Go.Lib Go.Sort

abbrev YpT : Type := Fin 65536 × Fin 65536
def ypI (x : YpT) : Int × Int := (((x.1 : Nat) : Int), ((x.2 : Nat) : Int))
def ypC (x : YpT) : List Value := [.int .i64 (ypI x).1, .int .i64 (ypI x).2]
def ypF (x y : YpT) : Int := if (ypI x).1 ≠ (ypI y).1 then (ypI x).1 - (ypI y).1 else (ypI x).2 - (ypI y).2
theorem yp_in (x : YpT) : (0 ≤ (ypI x).1 ∧ (ypI x).1 < 65536) ∧ 0 ≤ (ypI x).2 ∧ (ypI x).2 < 65536 := by
  have := x.1.isLt
  have := x.2.isLt
  unfold ypI
  simp only
  omega
theorem yp_wrap {n : Int} (h : -65536 < n ∧ n < 65536) : wrap64 n = n := by
  unfold wrap64
  omega
theorem yp_swo : SWO (ltOf ypF) where
  irrefl x := by unfold ltOf ypF; simp
  trans x y z h1 h2 := by
    unfold ltOf ypF at *
    simp only [decide_eq_true_eq] at *
    split at h1 <;> split at h2 <;> split <;> omega
  ntrans x y z h1 h2 := by
    unfold ltOf ypF at *
    simp only [decide_eq_false_iff_not] at *
    split at h1 <;> split at h2 <;> split <;> omega
set_option maxHeartbeats 1000000 in
theorem yp_cmp (x y : YpT) (W : World) : Calls Tryz.prog 95 #[.agg #[.int .i64 (ypI x).1, .int .i64 (ypI x).2], .agg #[.int .i64 (ypI y).1, .int .i64 (ypI y).2]] W fun e w' => e = .returned (.int .i64 (ypF x y)) ∧ ∃ q os', w' = grow (W.drewN q) os' := by
  go_enter Tryz.func95, Tryz.ntmps95
  have i1 := yp_in x
  have i2 := yp_in y
  go_wp2
  all_goals go_ret
  all_goals rename_i hne
  all_goals refine ⟨?_, 0, _, by rw [alloc_eq_grow, alloc_eq_grow, grow_grow]; rfl⟩
  all_goals first
    | (have e : (ypI x).1 ≠ (ypI y).1 := by simpa using hne
       show Ending.returned (Value.int .i64 ((ypI x).1 - (ypI y).1)) = _
       unfold ypF
       rw [if_pos e])
    | (have e : (ypI x).1 = (ypI y).1 := by simpa using hne
       show Ending.returned (Value.int .i64 ((ypI x).2 - (ypI y).2)) = _
       unfold ypF
       rw [if_neg (by simp [e])])
end Go.Proofs
