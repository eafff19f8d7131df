/-
The shallow forms of the functions; printed by a program.
-/
import Derived.Test.YtgojmjelgngimaaAbsO
import Derived.Test.YtgojmjelgngimaaProg
import Derived.KernelRfl
set_option linter.all false
namespace Go.Proofs.Ytgojmjelgngimaa
open Go Go.Abs Go.Proofs
set_option maxRecDepth 100000
noncomputable abbrev P : Program := Try.prog
abbrev n_gosem_cut_init : FuncId := 2
abbrev n_l_FnExactNearOk : FuncId := 3
abbrev n_l_FnExactDeadAt : FuncId := 4
abbrev n_l_FnExactLoopsIn : FuncId := 5
abbrev n_l_FnExactStepNear : FuncId := 6
abbrev n_l_FnExactWalkCost : FuncId := 7
abbrev n_l_FnExactChanges : FuncId := 8
abbrev n_s_NearOk : FuncId := 9
abbrev n_l_toNear : FuncId := 10
abbrev n_i_NearOk : FuncId := 11
abbrev n_s_DeadAt : FuncId := 12
abbrev n_i_DeadAt : FuncId := 13
abbrev n_s_LoopsIn : FuncId := 14
abbrev n_l_toIntS : FuncId := 15
abbrev n_i_LoopsIn : FuncId := 16
abbrev n_l_eqIntS : FuncId := 17
abbrev n_l_markIntS : FuncId := 18
abbrev n_l_heldIntS : FuncId := 19
abbrev n_s_StepNear : FuncId := 20
abbrev n_l_toNearEvent : FuncId := 21
abbrev n_i_StepNear : FuncId := 22
abbrev n_l_eqNear : FuncId := 23
abbrev n_l_szGraph : FuncId := 24
abbrev n_s_WalkCost : FuncId := 25
abbrev n_l_toGraph : FuncId := 26
abbrev n_i_WalkCost : FuncId := 27
abbrev n_l_eqGraph : FuncId := 28
abbrev n_l_szNearEventS : FuncId := 29
abbrev n_s_Changes : FuncId := 30
abbrev n_l_toNearEventS : FuncId := 31
abbrev n_i_Changes : FuncId := 32
abbrev n_l_eqNearEventS : FuncId := 33
abbrev n_s_l01In : FuncId := 34
abbrev n_i_within : FuncId := 35
abbrev n_i_Near_greeted : FuncId := 36
abbrev n_i_Near_described : FuncId := 37
abbrev n_l_szEdgeS : FuncId := 38
abbrev n_s_WayCost : FuncId := 39
abbrev n_l_toEdgeS : FuncId := 40
abbrev n_i_WayCost : FuncId := 41
abbrev n_l_eqEdgeS : FuncId := 42
abbrev n_s_PlayNear : FuncId := 43
abbrev n_i_played : FuncId := 44
abbrev n_i_Changes_1 : FuncId := 45
abbrev n_l_eqNearEvent : FuncId := 46
abbrev n_s_GraphOk : FuncId := 47
abbrev n_s_l03Node : FuncId := 48
abbrev n_s_l03Cost : FuncId := 49
abbrev n_l_toEdge : FuncId := 50
abbrev n_i_GraphOk : FuncId := 51
abbrev n_i_Graph_isNode : FuncId := 52
abbrev n_i_Graph_cost : FuncId := 53
abbrev n_l_eqEdge : FuncId := 54
abbrev n_i_compareEdges : FuncId := 55
def F_l_FnExactNearOk (R : V → Heap → Prop) (a0 : V) (H : Heap) : Prop :=
  boxK a0 (bnd (partOf true 3 (cellsOf a0) 0) fun t1 =>
  ACalls P n_l_toNear [t1] H fun v2 H3 =>
  ACalls P n_s_NearOk [v2] H3 fun v4 H5 =>
  bnd (partOf true 3 (cellsOf a0) 0) fun t6 =>
  ACalls P n_l_toNear [t6] H5 fun v7 H8 =>
  ACalls P n_i_NearOk [v7] H8 fun v9 H10 =>
  bnd (aBinB .neq v9 v4) fun t11 =>
  cnd t11
  (Ret R (.bool false) H10)
  (Ret R (.bool true) H10))
theorem W_l_FnExactNearOk {R : V → Heap → Prop} {a0 : V} {H : Heap} (h : F_l_FnExactNearOk R a0 H) : ACalls P n_l_FnExactNearOk [a0] H R :=
  acalls_of_form (g := ⟨[1], []⟩) (x := (.seq .leaf (.seq .leaf (.seq .leaf (.seq (.seq .leaf (.cond (.seq .leaf .leaf) .leaf)) (.seq .leaf .leaf)))))) Try.func3 (by kernel_rfl) (by kernel_rfl) (by kernel_rfl) (by kernel_rfl : F_l_FnExactNearOk R a0 H = _) h
def F_l_FnExactDeadAt (R : V → Heap → Prop) (a0 : V) (H : Heap) : Prop :=
  boxK a0 (bnd (partOf true 3 (cellsOf a0) 0) fun t1 =>
  ACalls P n_l_toNear [t1] H fun v2 H3 =>
  ACalls P n_s_DeadAt [v2] H3 fun v4 H5 =>
  bnd (partOf true 3 (cellsOf a0) 0) fun t6 =>
  ACalls P n_l_toNear [t6] H5 fun v7 H8 =>
  ACalls P n_i_DeadAt [v7] H8 fun v9 H10 =>
  bnd (aBinN .neq v9 v4) fun t11 =>
  cnd t11
  (Ret R (.bool false) H10)
  (Ret R (.bool true) H10))
theorem W_l_FnExactDeadAt {R : V → Heap → Prop} {a0 : V} {H : Heap} (h : F_l_FnExactDeadAt R a0 H) : ACalls P n_l_FnExactDeadAt [a0] H R :=
  acalls_of_form (g := ⟨[1], []⟩) (x := (.seq .leaf (.seq .leaf (.seq .leaf (.seq (.seq .leaf (.cond (.seq .leaf .leaf) .leaf)) (.seq .leaf .leaf)))))) Try.func4 (by kernel_rfl) (by kernel_rfl) (by kernel_rfl) (by kernel_rfl : F_l_FnExactDeadAt R a0 H = _) h
def F_s_NearOk (R : V → Heap → Prop) (a0 : V) (H : Heap) : Prop :=
  boxK a0 (bnd (partOf false 1 (cellsOf a0) 0) fun t1 =>
  ACalls P n_s_l01In [t1, (.int .i64 0), (.int .i64 4)] H fun v2 H3 =>
  bnd (aNot v2) fun t4 =>
  gd t4 false
  (bnd (partOf false 1 (cellsOf a0) 1) fun t5 =>
  ACalls P n_s_l01In [t5, (.int .i64 0), (.int .i64 1000000)] H3 fun v6 H7 =>
  bnd (aNot v6) fun t8 =>
  cnd t8
  (Ret R (.bool false) H7)
  (bnd (partOf false 1 (cellsOf a0) 0) fun t9 =>
  bnd (aBinN .eql t9 (.int .i64 3)) fun t10 =>
  cnd t10
  (bnd (partOf false 1 (cellsOf a0) 2) fun t11 =>
  ACalls P n_s_l01In [t11, (.int .i64 1), (.int .i64 10)] H7 fun v12 H13 =>
  Ret R v12 H13)
  (bnd (partOf false 1 (cellsOf a0) 2) fun t14 =>
  bnd (aBinN .eql t14 (.int .i64 0)) fun t15 =>
  Ret R t15 H7)))
  (Ret R (.bool false) H3))
theorem W_s_NearOk {R : V → Heap → Prop} {a0 : V} {H : Heap} (h : F_s_NearOk R a0 H) : ACalls P n_s_NearOk [a0] H R :=
  acalls_of_form (g := ⟨[1], [3, 8, 13, 16, 19]⟩) (x := (.seq .leaf (.seq (.seq .leaf (.cond (.seq .leaf .leaf) .leaf)) (.seq (.seq .leaf (.cond (.seq .leaf .leaf) .leaf)) (.seq .leaf .leaf))))) Try.func9 (by kernel_rfl) (by kernel_rfl) (by kernel_rfl) (by kernel_rfl : F_s_NearOk R a0 H = _) h
def F_l_toNear (R : V → Heap → Prop) (a0 : V) (H : Heap) : Prop :=
  boxK a0 (bnd (partOf false 1 (cellsOf a0) 0) fun t1 =>
  bnd (stz 1 [(.int .i64 0), (.int .i64 0), (.int .i64 0)] 0 t1) fun c2 =>
  bnd (partOf false 1 (cellsOf a0) 1) fun t3 =>
  bnd (stz 1 c2 1 t3) fun c4 =>
  bnd (partOf false 1 (cellsOf a0) 2) fun t5 =>
  bnd (stz 1 c4 2 t5) fun c6 =>
  bnd (partOf true 3 c6 0) fun t7 =>
  bnd (stz 3 [(.int .i64 0), (.int .i64 0), (.int .i64 0)] 0 t7) fun c8 =>
  bnd (partOf true 3 c8 0) fun t9 =>
  Ret R t9 H)
theorem W_l_toNear {R : V → Heap → Prop} {a0 : V} {H : Heap} (h : F_l_toNear R a0 H) : ACalls P n_l_toNear [a0] H R :=
  acalls_of_form (g := ⟨[1, 2, 3], [4, 6, 7, 9, 10, 12]⟩) (x := (.seq .leaf (.seq .leaf (.seq .leaf (.seq .leaf (.seq .leaf (.seq .leaf .leaf))))))) Try.func10 (by kernel_rfl) (by kernel_rfl) (by kernel_rfl) (by kernel_rfl : F_l_toNear R a0 H = _) h
def F_i_NearOk (R : V → Heap → Prop) (a0 : V) (H : Heap) : Prop :=
  boxK a0 (bnd (partOf false 1 (cellsOf a0) 0) fun t1 =>
  ACalls P n_i_within [t1, (.int .i64 0), (.int .i64 4)] H fun v2 H3 =>
  bnd (aNot v2) fun t4 =>
  gd t4 false
  (bnd (partOf false 1 (cellsOf a0) 1) fun t5 =>
  ACalls P n_i_within [t5, (.int .i64 0), (.int .i64 1000000)] H3 fun v6 H7 =>
  bnd (aNot v6) fun t8 =>
  cnd t8
  (Ret R (.bool false) H7)
  (bnd (partOf false 1 (cellsOf a0) 0) fun t9 =>
  bnd (aBinN .eql t9 (.int .i64 3)) fun t10 =>
  cnd t10
  (bnd (partOf false 1 (cellsOf a0) 2) fun t11 =>
  ACalls P n_i_within [t11, (.int .i64 1), (.int .i64 10)] H7 fun v12 H13 =>
  Ret R v12 H13)
  (bnd (partOf false 1 (cellsOf a0) 2) fun t14 =>
  bnd (aBinN .eql t14 (.int .i64 0)) fun t15 =>
  Ret R t15 H7)))
  (Ret R (.bool false) H3))
theorem W_i_NearOk {R : V → Heap → Prop} {a0 : V} {H : Heap} (h : F_i_NearOk R a0 H) : ACalls P n_i_NearOk [a0] H R :=
  acalls_of_form (g := ⟨[1], [3, 8, 13, 16, 19]⟩) (x := (.seq .leaf (.seq (.seq .leaf (.cond (.seq .leaf .leaf) .leaf)) (.seq (.seq .leaf (.cond (.seq .leaf .leaf) .leaf)) (.seq .leaf .leaf))))) Try.func11 (by kernel_rfl) (by kernel_rfl) (by kernel_rfl) (by kernel_rfl : F_i_NearOk R a0 H = _) h
def F_s_DeadAt (R : V → Heap → Prop) (a0 : V) (H : Heap) : Prop :=
  boxK a0 (bnd (partOf true 3 (cellsOf a0) 0) fun t1 =>
  ACalls P n_s_NearOk [t1] H fun v2 H3 =>
  bnd (aNot v2) fun t4 =>
  gd t4 false
  (bnd (partOf false 1 (cellsOf a0) 0) fun t5 =>
  bnd (aBinN .eql t5 (.int .i64 0)) fun t6 =>
  gd t6 false
  (bnd (partOf false 1 (cellsOf a0) 1) fun t7 =>
  bnd (aBinN .add t7 (.int .i64 4)) fun t8 =>
  bnd (aBinN .gtr t8 (.int .i64 1000000)) fun t9 =>
  cnd t9
  (Ret R (.int .i64 (-1)) H3)
  (bnd (partOf false 1 (cellsOf a0) 1) fun t10 =>
  bnd (aBinN .add t10 (.int .i64 4)) fun t11 =>
  Ret R t11 H3))
  (Ret R (.int .i64 (-1)) H3))
  (Ret R (.int .i64 (-1)) H3))
theorem W_s_DeadAt {R : V → Heap → Prop} {a0 : V} {H : Heap} (h : F_s_DeadAt R a0 H) : ACalls P n_s_DeadAt [a0] H R :=
  acalls_of_form (g := ⟨[1], [7, 12, 17]⟩) (x := (.seq .leaf (.seq (.seq .leaf (.cond (.seq .leaf .leaf) .leaf)) (.seq .leaf .leaf)))) Try.func12 (by kernel_rfl) (by kernel_rfl) (by kernel_rfl) (by kernel_rfl : F_s_DeadAt R a0 H = _) h
def F_i_DeadAt (R : V → Heap → Prop) (a0 : V) (H : Heap) : Prop :=
  boxK a0 (bnd (partOf true 3 (cellsOf a0) 0) fun t1 =>
  ACalls P n_i_NearOk [t1] H fun v2 H3 =>
  bnd (aNot v2) fun t4 =>
  gd t4 false
  (bnd (partOf false 1 (cellsOf a0) 0) fun t5 =>
  bnd (aBinN .eql t5 (.int .i64 0)) fun t6 =>
  gd t6 false
  (bnd (partOf false 1 (cellsOf a0) 1) fun t7 =>
  bnd (aBinN .add t7 (.int .i64 4)) fun t8 =>
  bnd (aBinN .gtr t8 (.int .i64 1000000)) fun t9 =>
  cnd t9
  (Ret R (.int .i64 (-1)) H3)
  (bnd (partOf false 1 (cellsOf a0) 1) fun t10 =>
  bnd (aBinN .add t10 (.int .i64 4)) fun t11 =>
  Ret R t11 H3))
  (Ret R (.int .i64 (-1)) H3))
  (Ret R (.int .i64 (-1)) H3))
theorem W_i_DeadAt {R : V → Heap → Prop} {a0 : V} {H : Heap} (h : F_i_DeadAt R a0 H) : ACalls P n_i_DeadAt [a0] H R :=
  acalls_of_form (g := ⟨[1], [7, 12, 17]⟩) (x := (.seq .leaf (.seq (.seq .leaf (.cond (.seq .leaf .leaf) .leaf)) (.seq .leaf .leaf)))) Try.func13 (by kernel_rfl) (by kernel_rfl) (by kernel_rfl) (by kernel_rfl : F_i_DeadAt R a0 H = _) h
def F_s_l01In (R : V → Heap → Prop) (a0 a1 a2 : V) (H : Heap) : Prop :=
  bnd (aBinN .leq a1 a0) fun t1 =>
  gd t1 true
  (bnd (aBinN .leq a0 a2) fun t2 =>
  Ret R t2 H)
  (Ret R (.bool false) H)
theorem W_s_l01In {R : V → Heap → Prop} {a0 a1 a2 : V} {H : Heap} (h : F_s_l01In R a0 a1 a2 H) : ACalls P n_s_l01In [a0, a1, a2] H R :=
  acalls_of_form (g := ⟨[], []⟩) (x := (.seq .leaf (.seq .leaf .leaf))) Try.func34 (by kernel_rfl) (by kernel_rfl) (by kernel_rfl) (by kernel_rfl : F_s_l01In R a0 a1 a2 H = _) h
def F_i_within (R : V → Heap → Prop) (a0 a1 a2 : V) (H : Heap) : Prop :=
  bnd (aBinN .geq a0 a1) fun t1 =>
  gd t1 true
  (bnd (aBinN .leq a0 a2) fun t2 =>
  Ret R t2 H)
  (Ret R (.bool false) H)
theorem W_i_within {R : V → Heap → Prop} {a0 a1 a2 : V} {H : Heap} (h : F_i_within R a0 a1 a2 H) : ACalls P n_i_within [a0, a1, a2] H R :=
  acalls_of_form (g := ⟨[], []⟩) (x := (.seq .leaf (.seq .leaf .leaf))) Try.func35 (by kernel_rfl) (by kernel_rfl) (by kernel_rfl) (by kernel_rfl : F_i_within R a0 a1 a2 H = _) h
end Go.Proofs.Ytgojmjelgngimaa
