/-
The shallow forms of the functions; printed by a program.
-/
import Derived.Test.YtgojmjelgngimaaAbsO
import Derived.Test.YtgojmjelgngimaaProg
import Derived.KernelRfl
set_option linter.all false
namespace Go.Proofs.Ytgojmjelgngimaa
open Go Go.Abs Go.Proofs
set_option maxRecDepth 100000
noncomputable abbrev P : Program := Try.prog
abbrev n_gosem_cut_init : FuncId := 2
abbrev n_l_FnExactNearOk : FuncId := 3
abbrev n_l_FnExactDeadAt : FuncId := 4
abbrev n_l_FnExactLoopsIn : FuncId := 5
abbrev n_l_FnExactStepNear : FuncId := 6
abbrev n_l_FnExactWalkCost : FuncId := 7
abbrev n_l_FnExactChanges : FuncId := 8
abbrev n_s_NearOk : FuncId := 9
abbrev n_l_toNear : FuncId := 10
abbrev n_i_NearOk : FuncId := 11
abbrev n_s_DeadAt : FuncId := 12
abbrev n_i_DeadAt : FuncId := 13
abbrev n_s_LoopsIn : FuncId := 14
abbrev n_l_toIntS : FuncId := 15
abbrev n_i_LoopsIn : FuncId := 16
abbrev n_l_eqIntS : FuncId := 17
abbrev n_l_markIntS : FuncId := 18
abbrev n_l_heldIntS : FuncId := 19
abbrev n_s_StepNear : FuncId := 20
abbrev n_l_toNearEvent : FuncId := 21
abbrev n_i_StepNear : FuncId := 22
abbrev n_l_eqNear : FuncId := 23
abbrev n_l_szGraph : FuncId := 24
abbrev n_s_WalkCost : FuncId := 25
abbrev n_l_toGraph : FuncId := 26
abbrev n_i_WalkCost : FuncId := 27
abbrev n_l_eqGraph : FuncId := 28
abbrev n_l_szNearEventS : FuncId := 29
abbrev n_s_Changes : FuncId := 30
abbrev n_l_toNearEventS : FuncId := 31
abbrev n_i_Changes : FuncId := 32
abbrev n_l_eqNearEventS : FuncId := 33
abbrev n_s_l01In : FuncId := 34
abbrev n_i_within : FuncId := 35
abbrev n_i_Near_greeted : FuncId := 36
abbrev n_i_Near_described : FuncId := 37
abbrev n_l_szEdgeS : FuncId := 38
abbrev n_s_WayCost : FuncId := 39
abbrev n_l_toEdgeS : FuncId := 40
abbrev n_i_WayCost : FuncId := 41
abbrev n_l_eqEdgeS : FuncId := 42
abbrev n_s_PlayNear : FuncId := 43
abbrev n_i_played : FuncId := 44
abbrev n_i_Changes_1 : FuncId := 45
abbrev n_l_eqNearEvent : FuncId := 46
abbrev n_s_GraphOk : FuncId := 47
abbrev n_s_l03Node : FuncId := 48
abbrev n_s_l03Cost : FuncId := 49
abbrev n_l_toEdge : FuncId := 50
abbrev n_i_GraphOk : FuncId := 51
abbrev n_i_Graph_isNode : FuncId := 52
abbrev n_i_Graph_cost : FuncId := 53
abbrev n_l_eqEdge : FuncId := 54
abbrev n_i_compareEdges : FuncId := 55
def F_l_FnExactNearOk (R : V → Heap → Prop) (a0 : V) (H : Heap) : Prop :=
  boxK a0 (bnd (partOf true 3 (cellsOf a0) 0) fun t1 =>
  ACalls P n_l_toNear [t1] H fun v2 H3 =>
  ACalls P n_s_NearOk [v2] H3 fun v4 H5 =>
  bnd (partOf true 3 (cellsOf a0) 0) fun t6 =>
  ACalls P n_l_toNear [t6] H5 fun v7 H8 =>
  ACalls P n_i_NearOk [v7] H8 fun v9 H10 =>
  bnd (aBinB .neq v9 v4) fun t11 =>
  cnd t11
  (Ret R (.bool false) H10)
  (Ret R (.bool true) H10))
theorem W_l_FnExactNearOk {R : V → Heap → Prop} {a0 : V} {H : Heap} (h : F_l_FnExactNearOk R a0 H) : ACalls P n_l_FnExactNearOk [a0] H R :=
  acalls_of_form (g := ⟨[1], []⟩) (x := (.seq .leaf (.seq .leaf (.seq .leaf (.seq (.seq .leaf (.cond (.seq .leaf .leaf) .leaf)) (.seq .leaf .leaf)))))) Try.func3 (by kernel_rfl) (by kernel_rfl) (by kernel_rfl) (by kernel_rfl : F_l_FnExactNearOk R a0 H = _) h
def F_l_FnExactDeadAt (R : V → Heap → Prop) (a0 : V) (H : Heap) : Prop :=
  boxK a0 (bnd (partOf true 3 (cellsOf a0) 0) fun t1 =>
  ACalls P n_l_toNear [t1] H fun v2 H3 =>
  ACalls P n_s_DeadAt [v2] H3 fun v4 H5 =>
  bnd (partOf true 3 (cellsOf a0) 0) fun t6 =>
  ACalls P n_l_toNear [t6] H5 fun v7 H8 =>
  ACalls P n_i_DeadAt [v7] H8 fun v9 H10 =>
  bnd (aBinN .neq v9 v4) fun t11 =>
  cnd t11
  (Ret R (.bool false) H10)
  (Ret R (.bool true) H10))
theorem W_l_FnExactDeadAt {R : V → Heap → Prop} {a0 : V} {H : Heap} (h : F_l_FnExactDeadAt R a0 H) : ACalls P n_l_FnExactDeadAt [a0] H R :=
  acalls_of_form (g := ⟨[1], []⟩) (x := (.seq .leaf (.seq .leaf (.seq .leaf (.seq (.seq .leaf (.cond (.seq .leaf .leaf) .leaf)) (.seq .leaf .leaf)))))) Try.func4 (by kernel_rfl) (by kernel_rfl) (by kernel_rfl) (by kernel_rfl : F_l_FnExactDeadAt R a0 H = _) h
def F_l_FnExactLoopsIn (R : V → Heap → Prop) (a0 a1 : V) (H : Heap) : Prop :=
  bnd (lenOf a0) fun n1 =>
  bnd (aBinN .gtr (.int .i64 (n1 : Nat)) (.int .i64 1048576)) fun t2 =>
  cnd t2
  (Ret R (.bool true) H)
  (ACalls P n_l_toIntS [a0] H fun v3 H4 =>
  ACalls P n_s_LoopsIn [v3, a1] H4 fun v5 H6 =>
  ACalls P n_l_toIntS [a0] H6 fun v7 H8 =>
  ACalls P n_i_LoopsIn [v7, a1] H8 fun v9 H10 =>
  ACalls P n_l_eqIntS [v9, v5] H10 fun v11 H12 =>
  bnd (aNot v11) fun t13 =>
  cnd t13
  (Ret R (.bool false) H12)
  (ACalls P n_l_toIntS [a0] H12 fun v14 H15 =>
  ACalls P n_l_eqIntS [v7, v14] H15 fun v16 H17 =>
  bnd (aNot v16) fun t18 =>
  cnd t18
  (Ret R (.bool false) H17)
  (ACalls P n_l_markIntS [v7, (.int .i64 1)] H17 fun v19 H20 =>
  bnd (aBinN .lss v19 (.int .i64 0)) fun t21 =>
  gd t21 false
  (ACalls P n_l_eqIntS [v9, v5] H20 fun v22 H23 =>
  bnd (aNot v22) fun t24 =>
  cnd t24
  (Ret R (.bool false) H23)
  (ACalls P n_l_markIntS [v9, (.int .i64 1)] H23 fun v25 H26 =>
  ACalls P n_l_heldIntS [v9, (.int .i64 1)] H26 fun v27 H28 =>
  bnd (aBinN .lss v27 (.int .i64 0)) fun t29 =>
  cnd t29
  (Ret R (.bool false) H28)
  (bnd (aBinN .neq v27 v25) fun t30 =>
  cnd t30
  (Ret R (.bool false) H28)
  (ACalls P n_l_toIntS [a0] H28 fun v31 H32 =>
  ACalls P n_i_LoopsIn [v31, a1] H32 fun v33 H34 =>
  ACalls P n_l_eqIntS [v33, v5] H34 fun v35 H36 =>
  bnd (aNot v35) fun t37 =>
  cnd t37
  (Ret R (.bool false) H36)
  (ACalls P n_l_heldIntS [v9, (.int .i64 1)] H36 fun v38 H39 =>
  bnd (aBinN .lss v38 (.int .i64 0)) fun t40 =>
  cnd t40
  (Ret R (.bool false) H39)
  (bnd (aBinN .neq v38 v25) fun t41 =>
  cnd t41
  (Ret R (.bool false) H39)
  (Ret R (.bool true) H39)))))))
  (Ret R (.bool false) H20))))
theorem W_l_FnExactLoopsIn {R : V → Heap → Prop} {a0 a1 : V} {H : Heap} (h : F_l_FnExactLoopsIn R a0 a1 H) : ACalls P n_l_FnExactLoopsIn [a0, a1] H R :=
  acalls_of_form (g := ⟨[], []⟩) (x := (.seq .leaf (.seq (.seq .leaf (.cond (.seq .leaf .leaf) .leaf)) (.seq .leaf (.seq .leaf (.seq .leaf (.seq (.seq .leaf (.cond (.seq .leaf .leaf) .leaf)) (.seq (.seq .leaf (.cond (.seq .leaf .leaf) .leaf)) (.seq .leaf (.seq .leaf (.seq (.seq .leaf (.cond (.seq .leaf .leaf) .leaf)) (.seq .leaf (.seq .leaf (.seq .leaf (.seq .leaf (.seq (.seq .leaf (.cond (.seq .leaf .leaf) .leaf)) (.seq (.seq .leaf (.cond (.seq .leaf .leaf) .leaf)) (.seq .leaf (.seq (.seq .leaf (.cond (.seq .leaf .leaf) .leaf)) (.seq .leaf (.seq .leaf (.seq (.seq .leaf (.cond (.seq .leaf .leaf) .leaf)) (.seq (.seq .leaf (.cond (.seq .leaf .leaf) .leaf)) (.seq .leaf .leaf)))))))))))))))))))))))) Try.func5 (by kernel_rfl) (by kernel_rfl) (by kernel_rfl) (by kernel_rfl : F_l_FnExactLoopsIn R a0 a1 H = _) h
def F_l_FnExactStepNear (R : V → Heap → Prop) (a0 a1 : V) (H : Heap) : Prop :=
  boxK a0 (boxK a1 (∃ S1, Abs.sub S1 H ∧
  bnd (partOf true 3 (cellsOf a0) 0) fun t2 =>
  bnd (partOf true 3 (cellsOf a1) 0) fun t3 =>
  ACalls P n_l_toNear [t2] H fun v4 H5 =>
  Abs.sub S1 H5 ∧
  ACalls P n_l_toNearEvent [t3] H5 fun v6 H7 =>
  Abs.sub S1 H7 ∧
  ACalls P n_s_StepNear [v4, v6] H7 fun v8 H9 =>
  Abs.sub S1 H9 ∧
  bnd (aExtract 0 v8) fun t10 =>
  bnd (aExtract 1 v8) fun t11 =>
  bnd (stz 3 [(.int .i64 0), (.int .i64 0), (.int .i64 0)] 0 t10) fun c12 =>
  ∃ S13, Abs.sub S13 H9 ∧
  bnd (partOf true 3 (cellsOf a0) 0) fun t14 =>
  bnd (partOf true 3 (cellsOf a1) 0) fun t15 =>
  ACalls P n_l_toNear [t14] H9 fun v16 H17 =>
  Abs.sub S13 H17 ∧
  ACalls P n_l_toNearEvent [t15] H17 fun v18 H19 =>
  Abs.sub S13 H19 ∧
  ACalls P n_i_StepNear [v16, v18] H19 fun v20 H21 =>
  Abs.sub S13 H21 ∧
  bnd (aExtract 0 v20) fun t22 =>
  bnd (aExtract 1 v20) fun t23 =>
  bnd (stz 3 [(.int .i64 0), (.int .i64 0), (.int .i64 0)] 0 t22) fun c24 =>
  bnd (partOf true 3 c24 0) fun t25 =>
  bnd (partOf true 3 c12 0) fun t26 =>
  ACalls P n_l_eqNear [t25, t26] H21 fun v27 H28 =>
  bnd (aNot v27) fun t29 =>
  gd t29 false
  (bnd (aBinN .neq t23 t11) fun t30 =>
  cnd t30
  (Ret R (.bool false) H28)
  (Ret R (.bool true) H28))
  (Ret R (.bool false) H28)))
theorem W_l_FnExactStepNear {R : V → Heap → Prop} {a0 a1 : V} {H : Heap} (h : F_l_FnExactStepNear R a0 a1 H) : ACalls P n_l_FnExactStepNear [a0, a1] H R :=
  acalls_of_form (g := ⟨[2, 3, 5, 7], []⟩) (x := (.seq .leaf (.seq (.draw [0, 2, 8, 1, 3, 4, 5, 6, 7, 9, 10]) (.seq (.draw [0, 2, 8, 1, 3, 4, 5, 6, 7, 9, 10]) (.seq (.seq .leaf (.cond (.seq .leaf .leaf) .leaf)) (.seq .leaf .leaf)))))) Try.func6 (by kernel_rfl) (by kernel_rfl) (by kernel_rfl) (by kernel_rfl : F_l_FnExactStepNear R a0 a1 H = _) h
def F_l_FnExactWalkCost (R : V → Heap → Prop) (a0 a1 : V) (H : Heap) : Prop :=
  boxK a0 (bnd (lenOf a1) fun n1 =>
  bnd (aBinN .gtr (.int .i64 (n1 : Nat)) (.int .i64 1048576)) fun t2 =>
  cnd t2
  (Ret R (.bool true) H)
  (bnd (partOf true 2 (cellsOf a0) 0) fun t3 =>
  ACalls P n_l_szGraph [t3, (.int .i64 1048576)] H fun v4 H5 =>
  bnd (aBinN .lss v4 (.int .i64 0)) fun t6 =>
  cnd t6
  (Ret R (.bool true) H5)
  (bnd (partOf true 2 (cellsOf a0) 0) fun t7 =>
  ACalls P n_l_toGraph [t7] H5 fun v8 H9 =>
  ACalls P n_l_toIntS [a1] H9 fun v10 H11 =>
  ACalls P n_s_WalkCost [v8, v10] H11 fun v12 H13 =>
  bnd (partOf true 2 (cellsOf a0) 0) fun t14 =>
  ACalls P n_l_toGraph [t14] H13 fun v15 H16 =>
  bnd (stz 2 [(.int .i64 0), .nils] 0 v15) fun c17 =>
  ACalls P n_l_toIntS [a1] H16 fun v18 H19 =>
  bnd (partOf true 2 c17 0) fun t20 =>
  ACalls P n_i_WalkCost [t20, v18] H19 fun v21 H22 =>
  bnd (aBinN .neq v21 v12) fun t23 =>
  cnd t23
  (Ret R (.bool false) H22)
  (∃ S24, Abs.sub S24 H22 ∧
  bnd (partOf true 2 c17 0) fun t25 =>
  bnd (partOf true 2 (cellsOf a0) 0) fun t26 =>
  ACalls P n_l_toGraph [t26] H22 fun v27 H28 =>
  Abs.sub S24 H28 ∧
  ACalls P n_l_eqGraph [t25, v27] H28 fun v29 H30 =>
  Abs.sub S24 H30 ∧
  bnd (aNot v29) fun t31 =>
  cnd t31
  (Ret R (.bool false) H30)
  (ACalls P n_l_toIntS [a1] H30 fun v32 H33 =>
  ACalls P n_l_eqIntS [v18, v32] H33 fun v34 H35 =>
  bnd (aNot v34) fun t36 =>
  cnd t36
  (Ret R (.bool false) H35)
  (Ret R (.bool true) H35))))))
theorem W_l_FnExactWalkCost {R : V → Heap → Prop} {a0 a1 : V} {H : Heap} (h : F_l_FnExactWalkCost R a0 a1 H) : ACalls P n_l_FnExactWalkCost [a0, a1] H R :=
  acalls_of_form (g := ⟨[2, 7], []⟩) (x := (.seq .leaf (.seq (.seq .leaf (.cond (.seq .leaf .leaf) .leaf)) (.seq .leaf (.seq .leaf (.seq (.seq .leaf (.cond (.seq .leaf .leaf) .leaf)) (.seq .leaf (.seq .leaf (.seq .leaf (.seq .leaf (.seq (.seq .leaf (.cond (.seq .leaf .leaf) .leaf)) (.seq (.seq (.draw [0, 1, 2, 3, 4]) (.cond (.seq .leaf .leaf) .leaf)) (.seq (.seq .leaf (.cond (.seq .leaf .leaf) .leaf)) (.seq .leaf .leaf)))))))))))))) Try.func7 (by kernel_rfl) (by kernel_rfl) (by kernel_rfl) (by kernel_rfl : F_l_FnExactWalkCost R a0 a1 H = _) h
def F_l_FnExactChanges (R : V → Heap → Prop) (a0 : V) (H : Heap) : Prop :=
  ACalls P n_l_szNearEventS [a0, (.int .i64 1048576)] H fun v1 H2 =>
  bnd (aBinN .lss v1 (.int .i64 0)) fun t3 =>
  cnd t3
  (Ret R (.bool true) H2)
  (ACalls P n_l_toNearEventS [a0] H2 fun v4 H5 =>
  ACalls P n_s_Changes [v4] H5 fun v6 H7 =>
  ACalls P n_l_toNearEventS [a0] H7 fun v8 H9 =>
  ACalls P n_i_Changes [v8] H9 fun v10 H11 =>
  bnd (aBinN .neq v10 v6) fun t12 =>
  cnd t12
  (Ret R (.bool false) H11)
  (ACalls P n_l_toNearEventS [a0] H11 fun v13 H14 =>
  ACalls P n_l_eqNearEventS [v8, v13] H14 fun v15 H16 =>
  bnd (aNot v15) fun t17 =>
  cnd t17
  (Ret R (.bool false) H16)
  (Ret R (.bool true) H16)))
theorem W_l_FnExactChanges {R : V → Heap → Prop} {a0 : V} {H : Heap} (h : F_l_FnExactChanges R a0 H) : ACalls P n_l_FnExactChanges [a0] H R :=
  acalls_of_form (g := ⟨[], []⟩) (x := (.seq .leaf (.seq .leaf (.seq .leaf (.seq (.seq .leaf (.cond (.seq .leaf .leaf) .leaf)) (.seq .leaf (.seq .leaf (.seq .leaf (.seq (.seq .leaf (.cond (.seq .leaf .leaf) .leaf)) (.seq (.seq .leaf (.cond (.seq .leaf .leaf) .leaf)) (.seq .leaf .leaf))))))))))) Try.func8 (by kernel_rfl) (by kernel_rfl) (by kernel_rfl) (by kernel_rfl : F_l_FnExactChanges R a0 H = _) h
def F_s_NearOk (R : V → Heap → Prop) (a0 : V) (H : Heap) : Prop :=
  boxK a0 (bnd (partOf false 1 (cellsOf a0) 0) fun t1 =>
  ACalls P n_s_l01In [t1, (.int .i64 0), (.int .i64 4)] H fun v2 H3 =>
  bnd (aNot v2) fun t4 =>
  gd t4 false
  (bnd (partOf false 1 (cellsOf a0) 1) fun t5 =>
  ACalls P n_s_l01In [t5, (.int .i64 0), (.int .i64 1000000)] H3 fun v6 H7 =>
  bnd (aNot v6) fun t8 =>
  cnd t8
  (Ret R (.bool false) H7)
  (bnd (partOf false 1 (cellsOf a0) 0) fun t9 =>
  bnd (aBinN .eql t9 (.int .i64 3)) fun t10 =>
  cnd t10
  (bnd (partOf false 1 (cellsOf a0) 2) fun t11 =>
  ACalls P n_s_l01In [t11, (.int .i64 1), (.int .i64 10)] H7 fun v12 H13 =>
  Ret R v12 H13)
  (bnd (partOf false 1 (cellsOf a0) 2) fun t14 =>
  bnd (aBinN .eql t14 (.int .i64 0)) fun t15 =>
  Ret R t15 H7)))
  (Ret R (.bool false) H3))
theorem W_s_NearOk {R : V → Heap → Prop} {a0 : V} {H : Heap} (h : F_s_NearOk R a0 H) : ACalls P n_s_NearOk [a0] H R :=
  acalls_of_form (g := ⟨[1], [3, 8, 13, 16, 19]⟩) (x := (.seq .leaf (.seq (.seq .leaf (.cond (.seq .leaf .leaf) .leaf)) (.seq (.seq .leaf (.cond (.seq .leaf .leaf) .leaf)) (.seq .leaf .leaf))))) Try.func9 (by kernel_rfl) (by kernel_rfl) (by kernel_rfl) (by kernel_rfl : F_s_NearOk R a0 H = _) h
def F_l_toNear (R : V → Heap → Prop) (a0 : V) (H : Heap) : Prop :=
  boxK a0 (bnd (partOf false 1 (cellsOf a0) 0) fun t1 =>
  bnd (stz 1 [(.int .i64 0), (.int .i64 0), (.int .i64 0)] 0 t1) fun c2 =>
  bnd (partOf false 1 (cellsOf a0) 1) fun t3 =>
  bnd (stz 1 c2 1 t3) fun c4 =>
  bnd (partOf false 1 (cellsOf a0) 2) fun t5 =>
  bnd (stz 1 c4 2 t5) fun c6 =>
  bnd (partOf true 3 c6 0) fun t7 =>
  bnd (stz 3 [(.int .i64 0), (.int .i64 0), (.int .i64 0)] 0 t7) fun c8 =>
  bnd (partOf true 3 c8 0) fun t9 =>
  Ret R t9 H)
theorem W_l_toNear {R : V → Heap → Prop} {a0 : V} {H : Heap} (h : F_l_toNear R a0 H) : ACalls P n_l_toNear [a0] H R :=
  acalls_of_form (g := ⟨[1, 2, 3], [4, 6, 7, 9, 10, 12]⟩) (x := (.seq .leaf (.seq .leaf (.seq .leaf (.seq .leaf (.seq .leaf (.seq .leaf .leaf))))))) Try.func10 (by kernel_rfl) (by kernel_rfl) (by kernel_rfl) (by kernel_rfl : F_l_toNear R a0 H = _) h
def F_i_NearOk (R : V → Heap → Prop) (a0 : V) (H : Heap) : Prop :=
  boxK a0 (bnd (partOf false 1 (cellsOf a0) 0) fun t1 =>
  ACalls P n_i_within [t1, (.int .i64 0), (.int .i64 4)] H fun v2 H3 =>
  bnd (aNot v2) fun t4 =>
  gd t4 false
  (bnd (partOf false 1 (cellsOf a0) 1) fun t5 =>
  ACalls P n_i_within [t5, (.int .i64 0), (.int .i64 1000000)] H3 fun v6 H7 =>
  bnd (aNot v6) fun t8 =>
  cnd t8
  (Ret R (.bool false) H7)
  (bnd (partOf false 1 (cellsOf a0) 0) fun t9 =>
  bnd (aBinN .eql t9 (.int .i64 3)) fun t10 =>
  cnd t10
  (bnd (partOf false 1 (cellsOf a0) 2) fun t11 =>
  ACalls P n_i_within [t11, (.int .i64 1), (.int .i64 10)] H7 fun v12 H13 =>
  Ret R v12 H13)
  (bnd (partOf false 1 (cellsOf a0) 2) fun t14 =>
  bnd (aBinN .eql t14 (.int .i64 0)) fun t15 =>
  Ret R t15 H7)))
  (Ret R (.bool false) H3))
theorem W_i_NearOk {R : V → Heap → Prop} {a0 : V} {H : Heap} (h : F_i_NearOk R a0 H) : ACalls P n_i_NearOk [a0] H R :=
  acalls_of_form (g := ⟨[1], [3, 8, 13, 16, 19]⟩) (x := (.seq .leaf (.seq (.seq .leaf (.cond (.seq .leaf .leaf) .leaf)) (.seq (.seq .leaf (.cond (.seq .leaf .leaf) .leaf)) (.seq .leaf .leaf))))) Try.func11 (by kernel_rfl) (by kernel_rfl) (by kernel_rfl) (by kernel_rfl : F_i_NearOk R a0 H = _) h
def F_s_DeadAt (R : V → Heap → Prop) (a0 : V) (H : Heap) : Prop :=
  boxK a0 (bnd (partOf true 3 (cellsOf a0) 0) fun t1 =>
  ACalls P n_s_NearOk [t1] H fun v2 H3 =>
  bnd (aNot v2) fun t4 =>
  gd t4 false
  (bnd (partOf false 1 (cellsOf a0) 0) fun t5 =>
  bnd (aBinN .eql t5 (.int .i64 0)) fun t6 =>
  gd t6 false
  (bnd (partOf false 1 (cellsOf a0) 1) fun t7 =>
  bnd (aBinN .add t7 (.int .i64 4)) fun t8 =>
  bnd (aBinN .gtr t8 (.int .i64 1000000)) fun t9 =>
  cnd t9
  (Ret R (.int .i64 (-1)) H3)
  (bnd (partOf false 1 (cellsOf a0) 1) fun t10 =>
  bnd (aBinN .add t10 (.int .i64 4)) fun t11 =>
  Ret R t11 H3))
  (Ret R (.int .i64 (-1)) H3))
  (Ret R (.int .i64 (-1)) H3))
theorem W_s_DeadAt {R : V → Heap → Prop} {a0 : V} {H : Heap} (h : F_s_DeadAt R a0 H) : ACalls P n_s_DeadAt [a0] H R :=
  acalls_of_form (g := ⟨[1], [7, 12, 17]⟩) (x := (.seq .leaf (.seq (.seq .leaf (.cond (.seq .leaf .leaf) .leaf)) (.seq .leaf .leaf)))) Try.func12 (by kernel_rfl) (by kernel_rfl) (by kernel_rfl) (by kernel_rfl : F_s_DeadAt R a0 H = _) h
def F_i_DeadAt (R : V → Heap → Prop) (a0 : V) (H : Heap) : Prop :=
  boxK a0 (bnd (partOf true 3 (cellsOf a0) 0) fun t1 =>
  ACalls P n_i_NearOk [t1] H fun v2 H3 =>
  bnd (aNot v2) fun t4 =>
  gd t4 false
  (bnd (partOf false 1 (cellsOf a0) 0) fun t5 =>
  bnd (aBinN .eql t5 (.int .i64 0)) fun t6 =>
  gd t6 false
  (bnd (partOf false 1 (cellsOf a0) 1) fun t7 =>
  bnd (aBinN .add t7 (.int .i64 4)) fun t8 =>
  bnd (aBinN .gtr t8 (.int .i64 1000000)) fun t9 =>
  cnd t9
  (Ret R (.int .i64 (-1)) H3)
  (bnd (partOf false 1 (cellsOf a0) 1) fun t10 =>
  bnd (aBinN .add t10 (.int .i64 4)) fun t11 =>
  Ret R t11 H3))
  (Ret R (.int .i64 (-1)) H3))
  (Ret R (.int .i64 (-1)) H3))
theorem W_i_DeadAt {R : V → Heap → Prop} {a0 : V} {H : Heap} (h : F_i_DeadAt R a0 H) : ACalls P n_i_DeadAt [a0] H R :=
  acalls_of_form (g := ⟨[1], [7, 12, 17]⟩) (x := (.seq .leaf (.seq (.seq .leaf (.cond (.seq .leaf .leaf) .leaf)) (.seq .leaf .leaf)))) Try.func13 (by kernel_rfl) (by kernel_rfl) (by kernel_rfl) (by kernel_rfl : F_i_DeadAt R a0 H = _) h
def F_s_LoopsIn (R : V → Heap → Prop) (a0 a1 : V) (H : Heap) : Prop :=
  bnd (bsl 1 0 [(.int .i64 0)] []) fun r1 =>
  ∀ o2, H o2 = none →
  bnd (lenOf a0) fun n3 =>
  bnd (aBinN .gtr (.int .i64 (n3 : Nat)) (.int .i64 10)) fun t4 =>
  cnd t4
  (Ret R .nils (upd H o2 ⟨1, r1⟩))
  (∃ (I5 : Nat → List V → Heap → Prop) (n6 : Nat), Shr (I5 n6 [(.slice o2 0 0 (some 0)), (.int .i64 0)]) (upd H o2 ⟨1, r1⟩) ∧
  ∀ n7 xs9 H10, I5 n7 xs9 H10 →
  bnd (lenOf a0) fun n11 =>
  bnd (aBinN .lss (xs9.tail.headD .any) (.int .i64 (n11 : Nat))) fun t12 =>
  cnd t12
  (∃ (I13 : Nat → List V → Heap → Prop) (n14 : Nat), Shr (I13 n14 [(xs9.tail.headD .any), (.int .i64 0)]) H10 ∧
  ∀ n15 xs17 H18, I13 n15 xs17 H18 →
  bnd (lenOf a0) fun n19 =>
  bnd (aBinN .leq (xs17.tail.headD .any) (.int .i64 (n19 : Nat))) fun t20 =>
  gd t20 true
  (bnd (aBinN .neq (xs17.headD .any) a1) fun t21 =>
  gd t21 true
  (bnd (lenOf a0) fun n22 =>
  bnd (aBinN .sub (.int .i64 (n22 : Nat)) (.int .i64 1)) fun t23 =>
  ACalls P n_s_l01In [(xs17.headD .any), (.int .i64 0), t23] H18 fun v24 H25 =>
  cnd v24
  (bnd (aIndex H25 1 a0 (xs17.headD .any)) fun t26 =>
  bnd (aLd false 1 H25 t26) fun t27 =>
  bnd (aBinN .add (xs17.tail.headD .any) (.int .i64 1)) fun t28 =>
  ∃ n16, n16 < n15 ∧ Shr (I13 n16 [t27, t28]) H25)
  (bnd (aBinN .neq (xs17.headD .any) a1) fun t29 =>
  gd t29 true
  (bnd (lenOf a0) fun n30 =>
  bnd (aBinN .sub (.int .i64 (n30 : Nat)) (.int .i64 1)) fun t31 =>
  ACalls P n_s_l01In [(xs17.headD .any), (.int .i64 0), t31] H25 fun v32 H33 =>
  cnd v32
  (bnd (bsl 1 1 [(.int .i64 0)] [(0, (xs9.tail.headD .any))]) fun r34 =>
  ∀ o35, H33 o35 = none →
  bnd (rowsOf (upd H33 o35 ⟨1, r34⟩) 1 (.slice o35 0 1 (some 1))) fun r38 =>
  appendK (upd H33 o35 ⟨1, r34⟩) 1 8 (xs9.headD .any) r38 fun v36 H37 =>
  bnd (aBinN .add (xs9.tail.headD .any) (.int .i64 1)) fun t39 =>
  ∃ n8, n8 < n7 ∧ Shr (I5 n8 [v36, t39]) H37)
  (bnd (aBinN .add (xs9.tail.headD .any) (.int .i64 1)) fun t40 =>
  ∃ n8, n8 < n7 ∧ Shr (I5 n8 [(xs9.headD .any), t40]) H33))
  (bnd (aBinN .add (xs9.tail.headD .any) (.int .i64 1)) fun t41 =>
  ∃ n8, n8 < n7 ∧ Shr (I5 n8 [(xs9.headD .any), t41]) H25)))
  (bnd (aBinN .neq (xs17.headD .any) a1) fun t42 =>
  gd t42 true
  (bnd (lenOf a0) fun n43 =>
  bnd (aBinN .sub (.int .i64 (n43 : Nat)) (.int .i64 1)) fun t44 =>
  ACalls P n_s_l01In [(xs17.headD .any), (.int .i64 0), t44] H18 fun v45 H46 =>
  cnd v45
  (bnd (bsl 1 1 [(.int .i64 0)] [(0, (xs9.tail.headD .any))]) fun r47 =>
  ∀ o48, H46 o48 = none →
  bnd (rowsOf (upd H46 o48 ⟨1, r47⟩) 1 (.slice o48 0 1 (some 1))) fun r51 =>
  appendK (upd H46 o48 ⟨1, r47⟩) 1 8 (xs9.headD .any) r51 fun v49 H50 =>
  bnd (aBinN .add (xs9.tail.headD .any) (.int .i64 1)) fun t52 =>
  ∃ n8, n8 < n7 ∧ Shr (I5 n8 [v49, t52]) H50)
  (bnd (aBinN .add (xs9.tail.headD .any) (.int .i64 1)) fun t53 =>
  ∃ n8, n8 < n7 ∧ Shr (I5 n8 [(xs9.headD .any), t53]) H46))
  (bnd (aBinN .add (xs9.tail.headD .any) (.int .i64 1)) fun t54 =>
  ∃ n8, n8 < n7 ∧ Shr (I5 n8 [(xs9.headD .any), t54]) H18)))
  (bnd (aBinN .neq (xs17.headD .any) a1) fun t55 =>
  gd t55 true
  (bnd (lenOf a0) fun n56 =>
  bnd (aBinN .sub (.int .i64 (n56 : Nat)) (.int .i64 1)) fun t57 =>
  ACalls P n_s_l01In [(xs17.headD .any), (.int .i64 0), t57] H18 fun v58 H59 =>
  cnd v58
  (bnd (bsl 1 1 [(.int .i64 0)] [(0, (xs9.tail.headD .any))]) fun r60 =>
  ∀ o61, H59 o61 = none →
  bnd (rowsOf (upd H59 o61 ⟨1, r60⟩) 1 (.slice o61 0 1 (some 1))) fun r64 =>
  appendK (upd H59 o61 ⟨1, r60⟩) 1 8 (xs9.headD .any) r64 fun v62 H63 =>
  bnd (aBinN .add (xs9.tail.headD .any) (.int .i64 1)) fun t65 =>
  ∃ n8, n8 < n7 ∧ Shr (I5 n8 [v62, t65]) H63)
  (bnd (aBinN .add (xs9.tail.headD .any) (.int .i64 1)) fun t66 =>
  ∃ n8, n8 < n7 ∧ Shr (I5 n8 [(xs9.headD .any), t66]) H59))
  (bnd (aBinN .add (xs9.tail.headD .any) (.int .i64 1)) fun t67 =>
  ∃ n8, n8 < n7 ∧ Shr (I5 n8 [(xs9.headD .any), t67]) H18)))
  (Ret R (xs9.headD .any) H10))
theorem W_s_LoopsIn {R : V → Heap → Prop} {a0 a1 : V} {H : Heap} (h : F_s_LoopsIn R a0 a1 H) : ACalls P n_s_LoopsIn [a0, a1] H R :=
  acalls_of_form (g := ⟨[], []⟩) (x := (.seq .leaf (.seq .leaf (.seq (.seq .leaf (.cond (.seq .leaf .leaf) .leaf)) (.seq (.seq .leaf (.block (.loop [5, 6] (.seq (.seq .leaf (.cond .leaf .leaf)) (.seq (.block (.seq .leaf (.seq (.seq .leaf (.block (.loop [7, 8] (.seq (.seq .leaf (.cond .leaf .leaf)) (.seq (.block .leaf) .leaf))))) (.seq .leaf (.cond .leaf .leaf))))) .leaf))))) (.seq .leaf .leaf)))))) Try.func14 (by kernel_rfl) (by kernel_rfl) (by kernel_rfl) (by kernel_rfl : F_s_LoopsIn R a0 a1 H = _) h
def F_l_toIntS (R : V → Heap → Prop) (a0 : V) (H : Heap) : Prop :=
  bnd (lenOf a0) fun n1 =>
  bnd (natOf (.int .i64 (n1 : Nat))) fun n2 =>
  bnd (natOf (.int .i64 (n1 : Nat))) fun n3 =>
  (n2 ≤ n3 ∧ n3 ≤ 140737488355328 ∧ 8 * n3 ≤ 281474976710656 ∧ 1 = 1 ∧ 0 < 1) ∧
  ∀ o4, H o4 = none →
  ∃ (I5 : Nat → List V → Heap → Prop) (n6 : Nat), Shr (I5 n6 [(.int .i64 0)]) (upd H o4 ⟨1, List.replicate n3 [(.int .i64 0)]⟩) ∧
  ∀ n7 xs9 H10, I5 n7 xs9 H10 →
  bnd (lenOf a0) fun n11 =>
  bnd (aBinN .lss (xs9.headD .any) (.int .i64 (n11 : Nat))) fun t12 =>
  cnd t12
  (bnd (aIndex H10 1 a0 (xs9.headD .any)) fun t13 =>
  bnd (aLd false 1 H10 t13) fun t14 =>
  bnd (aIndex H10 1 (.slice o4 0 n2 (some n3)) (xs9.headD .any)) fun t15 =>
  bnd (aSt 1 H10 t15 t14) fun H16 =>
  bnd (aBinN .add (xs9.headD .any) (.int .i64 1)) fun t17 =>
  ∃ n8, n8 < n7 ∧ Shr (I5 n8 [t17]) H16)
  (Ret R (.slice o4 0 n2 (some n3)) H10)
theorem W_l_toIntS {R : V → Heap → Prop} {a0 : V} {H : Heap} (h : F_l_toIntS R a0 H) : ACalls P n_l_toIntS [a0] H R :=
  acalls_of_form (g := ⟨[], []⟩) (x := (.seq .leaf (.seq .leaf (.seq (.seq .leaf (.block (.loop [4] (.seq (.seq .leaf (.cond .leaf .leaf)) (.seq (.block .leaf) .leaf))))) (.seq .leaf .leaf))))) Try.func15 (by kernel_rfl) (by kernel_rfl) (by kernel_rfl) (by kernel_rfl : F_l_toIntS R a0 H = _) h
def F_i_LoopsIn (R : V → Heap → Prop) (a0 a1 : V) (H : Heap) : Prop :=
  bnd (lenOf a0) fun n1 =>
  bnd (aBinN .gtr (.int .i64 (n1 : Nat)) (.int .i64 10)) fun t2 =>
  cnd t2
  (Ret R .nils H)
  (bnd (bsl 1 0 [(.int .i64 0)] []) fun r3 =>
  ∀ o4, H o4 = none →
  bnd (lenOf a0) fun n5 =>
  ∃ (I6 : Nat → List V → Heap → Prop) (n7 : Nat), Shr (I6 n7 [(.slice o4 0 0 (some 0)), (.int .i64 0)]) (upd H o4 ⟨1, r3⟩) ∧
  ∀ n8 xs10 H11, I6 n8 xs10 H11 →
  bnd (aBinN .lss (xs10.tail.headD .any) (.int .i64 (n5 : Nat))) fun t12 =>
  cnd t12
  (bnd (lenOf a0) fun n13 =>
  ∃ (I14 : Nat → List V → Heap → Prop) (n15 : Nat), Shr (I14 n15 [(xs10.tail.headD .any), (.int .i64 0)]) H11 ∧
  ∀ n16 xs18 H19, I14 n16 xs18 H19 →
  bnd (aBinN .lss (xs18.tail.headD .any) (.int .i64 (n13 : Nat))) fun t20 =>
  cnd t20
  (bnd (aBinN .eql (xs18.headD .any) a1) fun t21 =>
  gd t21 false
  (bnd (lenOf a0) fun n22 =>
  bnd (aBinN .sub (.int .i64 (n22 : Nat)) (.int .i64 1)) fun t23 =>
  ACalls P n_i_within [(xs18.headD .any), (.int .i64 0), t23] H19 fun v24 H25 =>
  bnd (aNot v24) fun t26 =>
  cnd t26
  (bnd (aBinN .neq (xs18.headD .any) a1) fun t27 =>
  gd t27 true
  (bnd (lenOf a0) fun n28 =>
  bnd (aBinN .sub (.int .i64 (n28 : Nat)) (.int .i64 1)) fun t29 =>
  ACalls P n_i_within [(xs18.headD .any), (.int .i64 0), t29] H25 fun v30 H31 =>
  cnd v30
  (bnd (bsl 1 1 [(.int .i64 0)] [(0, (xs10.tail.headD .any))]) fun r32 =>
  ∀ o33, H31 o33 = none →
  bnd (rowsOf (upd H31 o33 ⟨1, r32⟩) 1 (.slice o33 0 1 (some 1))) fun r36 =>
  appendK (upd H31 o33 ⟨1, r32⟩) 1 8 (xs10.headD .any) r36 fun v34 H35 =>
  bnd (aBinN .add (xs10.tail.headD .any) (.int .i64 1)) fun t37 =>
  ∃ n9, n9 < n8 ∧ Shr (I6 n9 [v34, t37]) H35)
  (bnd (aBinN .add (xs10.tail.headD .any) (.int .i64 1)) fun t38 =>
  ∃ n9, n9 < n8 ∧ Shr (I6 n9 [(xs10.headD .any), t38]) H31))
  (bnd (aBinN .add (xs10.tail.headD .any) (.int .i64 1)) fun t39 =>
  ∃ n9, n9 < n8 ∧ Shr (I6 n9 [(xs10.headD .any), t39]) H25))
  (bnd (aIndex H25 1 a0 (xs18.headD .any)) fun t40 =>
  bnd (aLd false 1 H25 t40) fun t41 =>
  bnd (aBinN .add (xs18.tail.headD .any) (.int .i64 1)) fun t42 =>
  ∃ n17, n17 < n16 ∧ Shr (I14 n17 [t41, t42]) H25))
  (bnd (aBinN .neq (xs18.headD .any) a1) fun t43 =>
  gd t43 true
  (bnd (lenOf a0) fun n44 =>
  bnd (aBinN .sub (.int .i64 (n44 : Nat)) (.int .i64 1)) fun t45 =>
  ACalls P n_i_within [(xs18.headD .any), (.int .i64 0), t45] H19 fun v46 H47 =>
  cnd v46
  (bnd (bsl 1 1 [(.int .i64 0)] [(0, (xs10.tail.headD .any))]) fun r48 =>
  ∀ o49, H47 o49 = none →
  bnd (rowsOf (upd H47 o49 ⟨1, r48⟩) 1 (.slice o49 0 1 (some 1))) fun r52 =>
  appendK (upd H47 o49 ⟨1, r48⟩) 1 8 (xs10.headD .any) r52 fun v50 H51 =>
  bnd (aBinN .add (xs10.tail.headD .any) (.int .i64 1)) fun t53 =>
  ∃ n9, n9 < n8 ∧ Shr (I6 n9 [v50, t53]) H51)
  (bnd (aBinN .add (xs10.tail.headD .any) (.int .i64 1)) fun t54 =>
  ∃ n9, n9 < n8 ∧ Shr (I6 n9 [(xs10.headD .any), t54]) H47))
  (bnd (aBinN .add (xs10.tail.headD .any) (.int .i64 1)) fun t55 =>
  ∃ n9, n9 < n8 ∧ Shr (I6 n9 [(xs10.headD .any), t55]) H19)))
  (bnd (aBinN .neq (xs18.headD .any) a1) fun t56 =>
  gd t56 true
  (bnd (lenOf a0) fun n57 =>
  bnd (aBinN .sub (.int .i64 (n57 : Nat)) (.int .i64 1)) fun t58 =>
  ACalls P n_i_within [(xs18.headD .any), (.int .i64 0), t58] H19 fun v59 H60 =>
  cnd v59
  (bnd (bsl 1 1 [(.int .i64 0)] [(0, (xs10.tail.headD .any))]) fun r61 =>
  ∀ o62, H60 o62 = none →
  bnd (rowsOf (upd H60 o62 ⟨1, r61⟩) 1 (.slice o62 0 1 (some 1))) fun r65 =>
  appendK (upd H60 o62 ⟨1, r61⟩) 1 8 (xs10.headD .any) r65 fun v63 H64 =>
  bnd (aBinN .add (xs10.tail.headD .any) (.int .i64 1)) fun t66 =>
  ∃ n9, n9 < n8 ∧ Shr (I6 n9 [v63, t66]) H64)
  (bnd (aBinN .add (xs10.tail.headD .any) (.int .i64 1)) fun t67 =>
  ∃ n9, n9 < n8 ∧ Shr (I6 n9 [(xs10.headD .any), t67]) H60))
  (bnd (aBinN .add (xs10.tail.headD .any) (.int .i64 1)) fun t68 =>
  ∃ n9, n9 < n8 ∧ Shr (I6 n9 [(xs10.headD .any), t68]) H19)))
  (Ret R (xs10.headD .any) H11))
theorem W_i_LoopsIn {R : V → Heap → Prop} {a0 a1 : V} {H : Heap} (h : F_i_LoopsIn R a0 a1 H) : ACalls P n_i_LoopsIn [a0, a1] H R :=
  acalls_of_form (g := ⟨[], []⟩) (x := (.seq .leaf (.seq (.seq .leaf (.cond (.seq .leaf .leaf) .leaf)) (.seq .leaf (.seq (.seq .leaf (.block (.loop [5, 14] (.seq .leaf (.seq (.cond .leaf .leaf) (.seq (.block (.seq .leaf (.seq .leaf (.seq (.seq .leaf (.block (.loop [7, 20] (.seq .leaf (.seq (.cond .leaf .leaf) (.seq (.block (.seq (.seq .leaf (.cond .leaf .leaf)) .leaf)) .leaf)))))) (.seq .leaf (.cond .leaf .leaf)))))) .leaf)))))) (.seq .leaf .leaf)))))) Try.func16 (by kernel_rfl) (by kernel_rfl) (by kernel_rfl) (by kernel_rfl : F_i_LoopsIn R a0 a1 H = _) h
def F_l_eqIntS (R : V → Heap → Prop) (a0 a1 : V) (H : Heap) : Prop :=
  bnd (lenOf a0) fun n1 =>
  bnd (lenOf a1) fun n2 =>
  bnd (aBinN .neq (.int .i64 (n1 : Nat)) (.int .i64 (n2 : Nat))) fun t3 =>
  cnd t3
  (Ret R (.bool false) H)
  (∃ (I4 : Nat → List V → Heap → Prop) (n5 : Nat), Shr (I4 n5 [(.int .i64 0)]) H ∧
  ∀ n6 xs8 H9, I4 n6 xs8 H9 →
  bnd (lenOf a0) fun n10 =>
  bnd (aBinN .lss (xs8.headD .any) (.int .i64 (n10 : Nat))) fun t11 =>
  cnd t11
  (∃ S12, Abs.sub S12 H9 ∧
  bnd (aIndex S12 1 a0 (xs8.headD .any)) fun t13 =>
  bnd (aLd false 1 S12 t13) fun t14 =>
  bnd (aIndex S12 1 a1 (xs8.headD .any)) fun t15 =>
  bnd (aLd false 1 S12 t15) fun t16 =>
  bnd (aBinN .neq t14 t16) fun t17 =>
  cnd t17
  (Ret R (.bool false) H9)
  (bnd (aBinN .add (xs8.headD .any) (.int .i64 1)) fun t18 =>
  ∃ n7, n7 < n6 ∧ Shr (I4 n7 [t18]) H9))
  (Ret R (.bool true) H9))
theorem W_l_eqIntS {R : V → Heap → Prop} {a0 a1 : V} {H : Heap} (h : F_l_eqIntS R a0 a1 H) : ACalls P n_l_eqIntS [a0, a1] H R :=
  acalls_of_form (g := ⟨[], []⟩) (x := (.seq .leaf (.seq (.seq .leaf (.cond (.seq .leaf .leaf) .leaf)) (.seq (.seq .leaf (.block (.loop [5] (.seq (.seq .leaf (.cond .leaf .leaf)) (.seq (.block (.seq (.draw [0, 1, 2, 3, 4, 5, 6, 7, 8]) (.cond (.seq .leaf .leaf) .leaf))) .leaf))))) (.seq .leaf .leaf))))) Try.func17 (by kernel_rfl) (by kernel_rfl) (by kernel_rfl) (by kernel_rfl : F_l_eqIntS R a0 a1 H = _) h
def F_l_markIntS (R : V → Heap → Prop) (a0 a1 : V) (H : Heap) : Prop :=
  ∃ (I1 : Nat → List V → Heap → Prop) (n2 : Nat), Shr (I1 n2 [a1, (.int .i64 0)]) H ∧
  ∀ n3 xs5 H6, I1 n3 xs5 H6 →
  bnd (lenOf a0) fun n7 =>
  bnd (aBinN .lss (xs5.tail.headD .any) (.int .i64 (n7 : Nat))) fun t8 =>
  cnd t8
  (bnd (aIndex H6 1 a0 (xs5.tail.headD .any)) fun t9 =>
  bnd (aSt 1 H6 t9 (xs5.headD .any)) fun H10 =>
  bnd (aBinN .add (xs5.headD .any) (.int .i64 1)) fun t11 =>
  bnd (aBinN .add (xs5.tail.headD .any) (.int .i64 1)) fun t12 =>
  ∃ n4, n4 < n3 ∧ Shr (I1 n4 [t11, t12]) H10)
  (Ret R (xs5.headD .any) H6)
theorem W_l_markIntS {R : V → Heap → Prop} {a0 a1 : V} {H : Heap} (h : F_l_markIntS R a0 a1 H) : ACalls P n_l_markIntS [a0, a1] H R :=
  acalls_of_form (g := ⟨[], []⟩) (x := (.seq .leaf (.seq (.seq .leaf (.block (.loop [1, 5] (.seq (.seq .leaf (.cond .leaf .leaf)) (.seq (.block (.seq .leaf .leaf)) .leaf))))) (.seq .leaf .leaf)))) Try.func18 (by kernel_rfl) (by kernel_rfl) (by kernel_rfl) (by kernel_rfl : F_l_markIntS R a0 a1 H = _) h
def F_l_heldIntS (R : V → Heap → Prop) (a0 a1 : V) (H : Heap) : Prop :=
  ∃ (I1 : Nat → List V → Heap → Prop) (n2 : Nat), Shr (I1 n2 [a1, (.int .i64 0)]) H ∧
  ∀ n3 xs5 H6, I1 n3 xs5 H6 →
  bnd (lenOf a0) fun n7 =>
  bnd (aBinN .lss (xs5.tail.headD .any) (.int .i64 (n7 : Nat))) fun t8 =>
  cnd t8
  (bnd (aIndex H6 1 a0 (xs5.tail.headD .any)) fun t9 =>
  bnd (aLd false 1 H6 t9) fun t10 =>
  bnd (aBinN .neq t10 (xs5.headD .any)) fun t11 =>
  cnd t11
  (Ret R (.int .i64 (-1)) H6)
  (bnd (aBinN .add (xs5.headD .any) (.int .i64 1)) fun t12 =>
  bnd (aBinN .add (xs5.tail.headD .any) (.int .i64 1)) fun t13 =>
  ∃ n4, n4 < n3 ∧ Shr (I1 n4 [t12, t13]) H6))
  (Ret R (xs5.headD .any) H6)
theorem W_l_heldIntS {R : V → Heap → Prop} {a0 a1 : V} {H : Heap} (h : F_l_heldIntS R a0 a1 H) : ACalls P n_l_heldIntS [a0, a1] H R :=
  acalls_of_form (g := ⟨[], []⟩) (x := (.seq .leaf (.seq (.seq .leaf (.block (.loop [1, 5] (.seq (.seq .leaf (.cond .leaf .leaf)) (.seq (.block (.seq (.seq .leaf (.cond (.seq .leaf .leaf) .leaf)) .leaf)) .leaf))))) (.seq .leaf .leaf)))) Try.func19 (by kernel_rfl) (by kernel_rfl) (by kernel_rfl) (by kernel_rfl : F_l_heldIntS R a0 a1 H = _) h
def F_s_StepNear (R : V → Heap → Prop) (a0 a1 : V) (H : Heap) : Prop :=
  boxK a0 (boxK a1 (bnd (partOf true 3 (cellsOf a0) 0) fun t1 =>
  ACalls P n_s_NearOk [t1] H fun v2 H3 =>
  bnd (aNot v2) fun t4 =>
  gd t4 false
  (bnd (partOf false 1 (cellsOf a1) 0) fun t5 =>
  ACalls P n_s_l01In [t5, (.int .i64 0), (.int .i64 5)] H3 fun v6 H7 =>
  bnd (aNot v6) fun t8 =>
  gd t8 false
  (bnd (partOf false 1 (cellsOf a1) 1) fun t9 =>
  bnd (partOf false 1 (cellsOf a0) 1) fun t10 =>
  ACalls P n_s_l01In [t9, t10, (.int .i64 1000000)] H7 fun v11 H12 =>
  bnd (aNot v11) fun t13 =>
  cnd t13
  (bnd (partOf true 3 (cellsOf a0) 0) fun t14 =>
  bnd (stz 3 [(.int .i64 0), (.int .i64 0), (.int .i64 0)] 0 t14) fun c15 =>
  bnd (partOf true 3 c15 0) fun t16 =>
  Ret R (.tup [t16, (.int .i64 0)]) H12)
  (bnd (partOf true 3 (cellsOf a0) 0) fun t17 =>
  bnd (stz 3 [(.int .i64 0), (.int .i64 0), (.int .i64 0)] 0 t17) fun c18 =>
  bnd (partOf false 1 (cellsOf a1) 0) fun t19 =>
  bnd (aBinN .eql t19 (.int .i64 0)) fun t20 =>
  cnd t20
  (bnd (partOf false 1 (cellsOf a1) 1) fun t21 =>
  bnd (stz 1 c18 1 t21) fun c22 =>
  bnd (partOf false 1 (cellsOf a0) 0) fun t23 =>
  bnd (aBinN .neq t23 (.int .i64 1)) fun t24 =>
  cnd t24
  (bnd (stz 1 c22 0 (.int .i64 1)) fun c25 =>
  bnd (stz 1 c25 2 (.int .i64 0)) fun c26 =>
  bnd (partOf false 1 c26 0) fun t27 =>
  bnd (partOf false 1 (cellsOf a0) 0) fun t28 =>
  bnd (aBinN .neq t27 t28) fun t29 =>
  cnd t29
  (bnd (partOf true 3 c26 0) fun t30 =>
  bnd (stz 3 [(.int .i64 0), (.int .i64 0), (.int .i64 0)] 0 t30) fun c31 =>
  bnd (partOf true 3 c31 0) fun t32 =>
  Ret R (.tup [t32, (.int .i64 1)]) H12)
  (bnd (partOf true 3 c26 0) fun t33 =>
  bnd (stz 3 [(.int .i64 0), (.int .i64 0), (.int .i64 0)] 0 t33) fun c34 =>
  bnd (partOf true 3 c34 0) fun t35 =>
  Ret R (.tup [t35, (.int .i64 0)]) H12))
  (bnd (partOf false 1 c22 0) fun t36 =>
  bnd (partOf false 1 (cellsOf a0) 0) fun t37 =>
  bnd (aBinN .neq t36 t37) fun t38 =>
  cnd t38
  (bnd (partOf true 3 c22 0) fun t39 =>
  bnd (stz 3 [(.int .i64 0), (.int .i64 0), (.int .i64 0)] 0 t39) fun c40 =>
  bnd (partOf true 3 c40 0) fun t41 =>
  Ret R (.tup [t41, (.int .i64 1)]) H12)
  (bnd (partOf true 3 c22 0) fun t42 =>
  bnd (stz 3 [(.int .i64 0), (.int .i64 0), (.int .i64 0)] 0 t42) fun c43 =>
  bnd (partOf true 3 c43 0) fun t44 =>
  Ret R (.tup [t44, (.int .i64 0)]) H12)))
  (bnd (aBinN .eql t19 (.int .i64 1)) fun t45 =>
  cnd t45
  (bnd (partOf false 1 (cellsOf a1) 1) fun t46 =>
  bnd (stz 1 c18 1 t46) fun c47 =>
  bnd (partOf false 1 (cellsOf a0) 0) fun t48 =>
  bnd (aBinN .lss t48 (.int .i64 2)) fun t49 =>
  cnd t49
  (bnd (stz 1 c47 0 (.int .i64 2)) fun c50 =>
  bnd (partOf false 1 c50 0) fun t51 =>
  bnd (partOf false 1 (cellsOf a0) 0) fun t52 =>
  bnd (aBinN .neq t51 t52) fun t53 =>
  cnd t53
  (bnd (partOf true 3 c50 0) fun t54 =>
  bnd (stz 3 [(.int .i64 0), (.int .i64 0), (.int .i64 0)] 0 t54) fun c55 =>
  bnd (partOf true 3 c55 0) fun t56 =>
  Ret R (.tup [t56, (.int .i64 1)]) H12)
  (bnd (partOf true 3 c50 0) fun t57 =>
  bnd (stz 3 [(.int .i64 0), (.int .i64 0), (.int .i64 0)] 0 t57) fun c58 =>
  bnd (partOf true 3 c58 0) fun t59 =>
  Ret R (.tup [t59, (.int .i64 0)]) H12))
  (bnd (partOf false 1 c47 0) fun t60 =>
  bnd (partOf false 1 (cellsOf a0) 0) fun t61 =>
  bnd (aBinN .neq t60 t61) fun t62 =>
  cnd t62
  (bnd (partOf true 3 c47 0) fun t63 =>
  bnd (stz 3 [(.int .i64 0), (.int .i64 0), (.int .i64 0)] 0 t63) fun c64 =>
  bnd (partOf true 3 c64 0) fun t65 =>
  Ret R (.tup [t65, (.int .i64 1)]) H12)
  (bnd (partOf true 3 c47 0) fun t66 =>
  bnd (stz 3 [(.int .i64 0), (.int .i64 0), (.int .i64 0)] 0 t66) fun c67 =>
  bnd (partOf true 3 c67 0) fun t68 =>
  Ret R (.tup [t68, (.int .i64 0)]) H12)))
  (bnd (aBinN .eql t19 (.int .i64 2)) fun t69 =>
  cnd t69
  (bnd (partOf false 1 (cellsOf a0) 0) fun t70 =>
  bnd (aBinN .eql t70 (.int .i64 2)) fun t71 =>
  gd t71 true
  (bnd (partOf false 1 (cellsOf a1) 2) fun t72 =>
  bnd (aBinN .eql t72 (.int .i64 0)) fun t73 =>
  cnd t73
  (bnd (stz 1 c18 0 (.int .i64 4)) fun c74 =>
  bnd (partOf false 1 (cellsOf a0) 0) fun t75 =>
  bnd (aBinN .eql t75 (.int .i64 2)) fun t76 =>
  gd t76 true
  (bnd (partOf false 1 (cellsOf a1) 2) fun t77 =>
  ACalls P n_s_l01In [t77, (.int .i64 1), (.int .i64 10)] H12 fun v78 H79 =>
  cnd v78
  (bnd (stz 1 c74 0 (.int .i64 3)) fun c80 =>
  bnd (partOf false 1 (cellsOf a1) 2) fun t81 =>
  bnd (stz 1 c80 2 t81) fun c82 =>
  bnd (partOf false 1 c82 0) fun t83 =>
  bnd (partOf false 1 (cellsOf a0) 0) fun t84 =>
  bnd (aBinN .neq t83 t84) fun t85 =>
  cnd t85
  (bnd (partOf true 3 c82 0) fun t86 =>
  bnd (stz 3 [(.int .i64 0), (.int .i64 0), (.int .i64 0)] 0 t86) fun c87 =>
  bnd (partOf true 3 c87 0) fun t88 =>
  Ret R (.tup [t88, (.int .i64 1)]) H79)
  (bnd (partOf true 3 c82 0) fun t89 =>
  bnd (stz 3 [(.int .i64 0), (.int .i64 0), (.int .i64 0)] 0 t89) fun c90 =>
  bnd (partOf true 3 c90 0) fun t91 =>
  Ret R (.tup [t91, (.int .i64 0)]) H79))
  (bnd (partOf false 1 c74 0) fun t92 =>
  bnd (partOf false 1 (cellsOf a0) 0) fun t93 =>
  bnd (aBinN .neq t92 t93) fun t94 =>
  cnd t94
  (bnd (partOf true 3 c74 0) fun t95 =>
  bnd (stz 3 [(.int .i64 0), (.int .i64 0), (.int .i64 0)] 0 t95) fun c96 =>
  bnd (partOf true 3 c96 0) fun t97 =>
  Ret R (.tup [t97, (.int .i64 1)]) H79)
  (bnd (partOf true 3 c74 0) fun t98 =>
  bnd (stz 3 [(.int .i64 0), (.int .i64 0), (.int .i64 0)] 0 t98) fun c99 =>
  bnd (partOf true 3 c99 0) fun t100 =>
  Ret R (.tup [t100, (.int .i64 0)]) H79)))
  (bnd (partOf false 1 c74 0) fun t101 =>
  bnd (partOf false 1 (cellsOf a0) 0) fun t102 =>
  bnd (aBinN .neq t101 t102) fun t103 =>
  cnd t103
  (bnd (partOf true 3 c74 0) fun t104 =>
  bnd (stz 3 [(.int .i64 0), (.int .i64 0), (.int .i64 0)] 0 t104) fun c105 =>
  bnd (partOf true 3 c105 0) fun t106 =>
  Ret R (.tup [t106, (.int .i64 1)]) H12)
  (bnd (partOf true 3 c74 0) fun t107 =>
  bnd (stz 3 [(.int .i64 0), (.int .i64 0), (.int .i64 0)] 0 t107) fun c108 =>
  bnd (partOf true 3 c108 0) fun t109 =>
  Ret R (.tup [t109, (.int .i64 0)]) H12)))
  (bnd (partOf false 1 (cellsOf a0) 0) fun t110 =>
  bnd (aBinN .eql t110 (.int .i64 2)) fun t111 =>
  gd t111 true
  (bnd (partOf false 1 (cellsOf a1) 2) fun t112 =>
  ACalls P n_s_l01In [t112, (.int .i64 1), (.int .i64 10)] H12 fun v113 H114 =>
  cnd v113
  (bnd (stz 1 c18 0 (.int .i64 3)) fun c115 =>
  bnd (partOf false 1 (cellsOf a1) 2) fun t116 =>
  bnd (stz 1 c115 2 t116) fun c117 =>
  bnd (partOf false 1 c117 0) fun t118 =>
  bnd (partOf false 1 (cellsOf a0) 0) fun t119 =>
  bnd (aBinN .neq t118 t119) fun t120 =>
  cnd t120
  (bnd (partOf true 3 c117 0) fun t121 =>
  bnd (stz 3 [(.int .i64 0), (.int .i64 0), (.int .i64 0)] 0 t121) fun c122 =>
  bnd (partOf true 3 c122 0) fun t123 =>
  Ret R (.tup [t123, (.int .i64 1)]) H114)
  (bnd (partOf true 3 c117 0) fun t124 =>
  bnd (stz 3 [(.int .i64 0), (.int .i64 0), (.int .i64 0)] 0 t124) fun c125 =>
  bnd (partOf true 3 c125 0) fun t126 =>
  Ret R (.tup [t126, (.int .i64 0)]) H114))
  (bnd (partOf false 1 c18 0) fun t127 =>
  bnd (partOf false 1 (cellsOf a0) 0) fun t128 =>
  bnd (aBinN .neq t127 t128) fun t129 =>
  cnd t129
  (bnd (partOf true 3 c18 0) fun t130 =>
  bnd (stz 3 [(.int .i64 0), (.int .i64 0), (.int .i64 0)] 0 t130) fun c131 =>
  bnd (partOf true 3 c131 0) fun t132 =>
  Ret R (.tup [t132, (.int .i64 1)]) H114)
  (bnd (partOf true 3 c18 0) fun t133 =>
  bnd (stz 3 [(.int .i64 0), (.int .i64 0), (.int .i64 0)] 0 t133) fun c134 =>
  bnd (partOf true 3 c134 0) fun t135 =>
  Ret R (.tup [t135, (.int .i64 0)]) H114)))
  (bnd (partOf false 1 c18 0) fun t136 =>
  bnd (partOf false 1 (cellsOf a0) 0) fun t137 =>
  bnd (aBinN .neq t136 t137) fun t138 =>
  cnd t138
  (bnd (partOf true 3 c18 0) fun t139 =>
  bnd (stz 3 [(.int .i64 0), (.int .i64 0), (.int .i64 0)] 0 t139) fun c140 =>
  bnd (partOf true 3 c140 0) fun t141 =>
  Ret R (.tup [t141, (.int .i64 1)]) H12)
  (bnd (partOf true 3 c18 0) fun t142 =>
  bnd (stz 3 [(.int .i64 0), (.int .i64 0), (.int .i64 0)] 0 t142) fun c143 =>
  bnd (partOf true 3 c143 0) fun t144 =>
  Ret R (.tup [t144, (.int .i64 0)]) H12))))
  (bnd (partOf false 1 (cellsOf a0) 0) fun t145 =>
  bnd (aBinN .eql t145 (.int .i64 2)) fun t146 =>
  gd t146 true
  (bnd (partOf false 1 (cellsOf a1) 2) fun t147 =>
  ACalls P n_s_l01In [t147, (.int .i64 1), (.int .i64 10)] H12 fun v148 H149 =>
  cnd v148
  (bnd (stz 1 c18 0 (.int .i64 3)) fun c150 =>
  bnd (partOf false 1 (cellsOf a1) 2) fun t151 =>
  bnd (stz 1 c150 2 t151) fun c152 =>
  bnd (partOf false 1 c152 0) fun t153 =>
  bnd (partOf false 1 (cellsOf a0) 0) fun t154 =>
  bnd (aBinN .neq t153 t154) fun t155 =>
  cnd t155
  (bnd (partOf true 3 c152 0) fun t156 =>
  bnd (stz 3 [(.int .i64 0), (.int .i64 0), (.int .i64 0)] 0 t156) fun c157 =>
  bnd (partOf true 3 c157 0) fun t158 =>
  Ret R (.tup [t158, (.int .i64 1)]) H149)
  (bnd (partOf true 3 c152 0) fun t159 =>
  bnd (stz 3 [(.int .i64 0), (.int .i64 0), (.int .i64 0)] 0 t159) fun c160 =>
  bnd (partOf true 3 c160 0) fun t161 =>
  Ret R (.tup [t161, (.int .i64 0)]) H149))
  (bnd (partOf false 1 c18 0) fun t162 =>
  bnd (partOf false 1 (cellsOf a0) 0) fun t163 =>
  bnd (aBinN .neq t162 t163) fun t164 =>
  cnd t164
  (bnd (partOf true 3 c18 0) fun t165 =>
  bnd (stz 3 [(.int .i64 0), (.int .i64 0), (.int .i64 0)] 0 t165) fun c166 =>
  bnd (partOf true 3 c166 0) fun t167 =>
  Ret R (.tup [t167, (.int .i64 1)]) H149)
  (bnd (partOf true 3 c18 0) fun t168 =>
  bnd (stz 3 [(.int .i64 0), (.int .i64 0), (.int .i64 0)] 0 t168) fun c169 =>
  bnd (partOf true 3 c169 0) fun t170 =>
  Ret R (.tup [t170, (.int .i64 0)]) H149)))
  (bnd (partOf false 1 c18 0) fun t171 =>
  bnd (partOf false 1 (cellsOf a0) 0) fun t172 =>
  bnd (aBinN .neq t171 t172) fun t173 =>
  cnd t173
  (bnd (partOf true 3 c18 0) fun t174 =>
  bnd (stz 3 [(.int .i64 0), (.int .i64 0), (.int .i64 0)] 0 t174) fun c175 =>
  bnd (partOf true 3 c175 0) fun t176 =>
  Ret R (.tup [t176, (.int .i64 1)]) H12)
  (bnd (partOf true 3 c18 0) fun t177 =>
  bnd (stz 3 [(.int .i64 0), (.int .i64 0), (.int .i64 0)] 0 t177) fun c178 =>
  bnd (partOf true 3 c178 0) fun t179 =>
  Ret R (.tup [t179, (.int .i64 0)]) H12))))
  (bnd (aBinN .eql t19 (.int .i64 3)) fun t180 =>
  cnd t180
  (bnd (partOf false 1 (cellsOf a0) 0) fun t181 =>
  bnd (aBinN .eql t181 (.int .i64 3)) fun t182 =>
  cnd t182
  (bnd (partOf false 1 (cellsOf a0) 2) fun t183 =>
  bnd (aBinN .sub t183 (.int .i64 1)) fun t184 =>
  bnd (stz 1 c18 2 t184) fun c185 =>
  bnd (partOf false 1 c185 2) fun t186 =>
  bnd (aBinN .eql t186 (.int .i64 0)) fun t187 =>
  cnd t187
  (bnd (stz 1 c185 0 (.int .i64 4)) fun c188 =>
  bnd (partOf false 1 c188 0) fun t189 =>
  bnd (partOf false 1 (cellsOf a0) 0) fun t190 =>
  bnd (aBinN .neq t189 t190) fun t191 =>
  cnd t191
  (bnd (partOf true 3 c188 0) fun t192 =>
  bnd (stz 3 [(.int .i64 0), (.int .i64 0), (.int .i64 0)] 0 t192) fun c193 =>
  bnd (partOf true 3 c193 0) fun t194 =>
  Ret R (.tup [t194, (.int .i64 1)]) H12)
  (bnd (partOf true 3 c188 0) fun t195 =>
  bnd (stz 3 [(.int .i64 0), (.int .i64 0), (.int .i64 0)] 0 t195) fun c196 =>
  bnd (partOf true 3 c196 0) fun t197 =>
  Ret R (.tup [t197, (.int .i64 0)]) H12))
  (bnd (partOf false 1 c185 0) fun t198 =>
  bnd (partOf false 1 (cellsOf a0) 0) fun t199 =>
  bnd (aBinN .neq t198 t199) fun t200 =>
  cnd t200
  (bnd (partOf true 3 c185 0) fun t201 =>
  bnd (stz 3 [(.int .i64 0), (.int .i64 0), (.int .i64 0)] 0 t201) fun c202 =>
  bnd (partOf true 3 c202 0) fun t203 =>
  Ret R (.tup [t203, (.int .i64 1)]) H12)
  (bnd (partOf true 3 c185 0) fun t204 =>
  bnd (stz 3 [(.int .i64 0), (.int .i64 0), (.int .i64 0)] 0 t204) fun c205 =>
  bnd (partOf true 3 c205 0) fun t206 =>
  Ret R (.tup [t206, (.int .i64 0)]) H12)))
  (bnd (partOf false 1 c18 0) fun t207 =>
  bnd (partOf false 1 (cellsOf a0) 0) fun t208 =>
  bnd (aBinN .neq t207 t208) fun t209 =>
  cnd t209
  (bnd (partOf true 3 c18 0) fun t210 =>
  bnd (stz 3 [(.int .i64 0), (.int .i64 0), (.int .i64 0)] 0 t210) fun c211 =>
  bnd (partOf true 3 c211 0) fun t212 =>
  Ret R (.tup [t212, (.int .i64 1)]) H12)
  (bnd (partOf true 3 c18 0) fun t213 =>
  bnd (stz 3 [(.int .i64 0), (.int .i64 0), (.int .i64 0)] 0 t213) fun c214 =>
  bnd (partOf true 3 c214 0) fun t215 =>
  Ret R (.tup [t215, (.int .i64 0)]) H12)))
  (bnd (aBinN .eql t19 (.int .i64 4)) fun t216 =>
  cnd t216
  (bnd (partOf false 1 (cellsOf a0) 0) fun t217 =>
  bnd (aBinN .neq t217 (.int .i64 0)) fun t218 =>
  gd t218 true
  (bnd (partOf false 1 (cellsOf a1) 1) fun t219 =>
  bnd (partOf false 1 (cellsOf a0) 1) fun t220 =>
  bnd (aBinN .sub t219 t220) fun t221 =>
  bnd (aBinN .geq t221 (.int .i64 4)) fun t222 =>
  cnd t222
  (bnd (stz 1 c18 0 (.int .i64 0)) fun c223 =>
  bnd (stz 1 c223 2 (.int .i64 0)) fun c224 =>
  bnd (partOf false 1 c224 0) fun t225 =>
  bnd (partOf false 1 (cellsOf a0) 0) fun t226 =>
  bnd (aBinN .neq t225 t226) fun t227 =>
  cnd t227
  (bnd (partOf true 3 c224 0) fun t228 =>
  bnd (stz 3 [(.int .i64 0), (.int .i64 0), (.int .i64 0)] 0 t228) fun c229 =>
  bnd (partOf true 3 c229 0) fun t230 =>
  Ret R (.tup [t230, (.int .i64 1)]) H12)
  (bnd (partOf true 3 c224 0) fun t231 =>
  bnd (stz 3 [(.int .i64 0), (.int .i64 0), (.int .i64 0)] 0 t231) fun c232 =>
  bnd (partOf true 3 c232 0) fun t233 =>
  Ret R (.tup [t233, (.int .i64 0)]) H12))
  (bnd (partOf false 1 c18 0) fun t234 =>
  bnd (partOf false 1 (cellsOf a0) 0) fun t235 =>
  bnd (aBinN .neq t234 t235) fun t236 =>
  cnd t236
  (bnd (partOf true 3 c18 0) fun t237 =>
  bnd (stz 3 [(.int .i64 0), (.int .i64 0), (.int .i64 0)] 0 t237) fun c238 =>
  bnd (partOf true 3 c238 0) fun t239 =>
  Ret R (.tup [t239, (.int .i64 1)]) H12)
  (bnd (partOf true 3 c18 0) fun t240 =>
  bnd (stz 3 [(.int .i64 0), (.int .i64 0), (.int .i64 0)] 0 t240) fun c241 =>
  bnd (partOf true 3 c241 0) fun t242 =>
  Ret R (.tup [t242, (.int .i64 0)]) H12)))
  (bnd (partOf false 1 c18 0) fun t243 =>
  bnd (partOf false 1 (cellsOf a0) 0) fun t244 =>
  bnd (aBinN .neq t243 t244) fun t245 =>
  cnd t245
  (bnd (partOf true 3 c18 0) fun t246 =>
  bnd (stz 3 [(.int .i64 0), (.int .i64 0), (.int .i64 0)] 0 t246) fun c247 =>
  bnd (partOf true 3 c247 0) fun t248 =>
  Ret R (.tup [t248, (.int .i64 1)]) H12)
  (bnd (partOf true 3 c18 0) fun t249 =>
  bnd (stz 3 [(.int .i64 0), (.int .i64 0), (.int .i64 0)] 0 t249) fun c250 =>
  bnd (partOf true 3 c250 0) fun t251 =>
  Ret R (.tup [t251, (.int .i64 0)]) H12)))
  (bnd (aBinN .eql t19 (.int .i64 5)) fun t252 =>
  cnd t252
  (bnd (stz 1 c18 0 (.int .i64 0)) fun c253 =>
  bnd (stz 1 c253 2 (.int .i64 0)) fun c254 =>
  bnd (partOf false 1 c254 0) fun t255 =>
  bnd (partOf false 1 (cellsOf a0) 0) fun t256 =>
  bnd (aBinN .neq t255 t256) fun t257 =>
  cnd t257
  (bnd (partOf true 3 c254 0) fun t258 =>
  bnd (stz 3 [(.int .i64 0), (.int .i64 0), (.int .i64 0)] 0 t258) fun c259 =>
  bnd (partOf true 3 c259 0) fun t260 =>
  Ret R (.tup [t260, (.int .i64 1)]) H12)
  (bnd (partOf true 3 c254 0) fun t261 =>
  bnd (stz 3 [(.int .i64 0), (.int .i64 0), (.int .i64 0)] 0 t261) fun c262 =>
  bnd (partOf true 3 c262 0) fun t263 =>
  Ret R (.tup [t263, (.int .i64 0)]) H12))
  (bnd (partOf false 1 c18 0) fun t264 =>
  bnd (partOf false 1 (cellsOf a0) 0) fun t265 =>
  bnd (aBinN .neq t264 t265) fun t266 =>
  cnd t266
  (bnd (partOf true 3 c18 0) fun t267 =>
  bnd (stz 3 [(.int .i64 0), (.int .i64 0), (.int .i64 0)] 0 t267) fun c268 =>
  bnd (partOf true 3 c268 0) fun t269 =>
  Ret R (.tup [t269, (.int .i64 1)]) H12)
  (bnd (partOf true 3 c18 0) fun t270 =>
  bnd (stz 3 [(.int .i64 0), (.int .i64 0), (.int .i64 0)] 0 t270) fun c271 =>
  bnd (partOf true 3 c271 0) fun t272 =>
  Ret R (.tup [t272, (.int .i64 0)]) H12)))))))))
  (bnd (partOf true 3 (cellsOf a0) 0) fun t273 =>
  bnd (stz 3 [(.int .i64 0), (.int .i64 0), (.int .i64 0)] 0 t273) fun c274 =>
  bnd (partOf true 3 c274 0) fun t275 =>
  Ret R (.tup [t275, (.int .i64 0)]) H7))
  (bnd (partOf true 3 (cellsOf a0) 0) fun t276 =>
  bnd (stz 3 [(.int .i64 0), (.int .i64 0), (.int .i64 0)] 0 t276) fun c277 =>
  bnd (partOf true 3 c277 0) fun t278 =>
  Ret R (.tup [t278, (.int .i64 0)]) H3)))
theorem W_s_StepNear {R : V → Heap → Prop} {a0 a1 : V} {H : Heap} (h : F_s_StepNear R a0 a1 H) : ACalls P n_s_StepNear [a0, a1] H R :=
  acalls_of_form (g := ⟨[2, 3, 4, 6], [11, 17, 19, 26, 30, 32, 33, 36, 37, 40, 42, 43, 46, 49, 53, 57, 58, 62, 66, 67, 69, 72, 75, 78, 79, 82, 85, 89, 91, 96, 97, 100, 101, 102, 104]⟩) (x := (.seq .leaf (.seq (.seq .leaf (.cond (.seq .leaf .leaf) .leaf)) (.seq .leaf (.seq (.seq .leaf (.block (.seq .leaf (.cond (.seq .leaf (.seq .leaf (.cond (.seq .leaf .leaf) .leaf))) (.seq .leaf (.cond (.seq .leaf (.seq .leaf (.cond .leaf .leaf))) (.seq .leaf (.cond (.seq (.seq .leaf (.cond .leaf .leaf)) (.seq .leaf (.cond (.seq .leaf .leaf) .leaf))) (.seq .leaf (.cond (.seq .leaf (.cond (.seq .leaf (.seq .leaf (.cond .leaf .leaf))) .leaf)) (.seq .leaf (.cond (.seq .leaf (.cond (.seq .leaf .leaf) .leaf)) (.seq .leaf (.cond (.seq .leaf .leaf) .leaf)))))))))))))) (.seq (.seq .leaf (.cond (.seq .leaf .leaf) .leaf)) (.seq .leaf .leaf))))))) Try.func20 (by kernel_rfl) (by kernel_rfl) (by kernel_rfl) (by kernel_rfl : F_s_StepNear R a0 a1 H = _) h
def F_l_toNearEvent (R : V → Heap → Prop) (a0 : V) (H : Heap) : Prop :=
  boxK a0 (bnd (partOf false 1 (cellsOf a0) 0) fun t1 =>
  bnd (stz 1 [(.int .i64 0), (.int .i64 0), (.int .i64 0)] 0 t1) fun c2 =>
  bnd (partOf false 1 (cellsOf a0) 1) fun t3 =>
  bnd (stz 1 c2 1 t3) fun c4 =>
  bnd (partOf false 1 (cellsOf a0) 2) fun t5 =>
  bnd (stz 1 c4 2 t5) fun c6 =>
  bnd (partOf true 3 c6 0) fun t7 =>
  bnd (stz 3 [(.int .i64 0), (.int .i64 0), (.int .i64 0)] 0 t7) fun c8 =>
  bnd (partOf true 3 c8 0) fun t9 =>
  Ret R t9 H)
theorem W_l_toNearEvent {R : V → Heap → Prop} {a0 : V} {H : Heap} (h : F_l_toNearEvent R a0 H) : ACalls P n_l_toNearEvent [a0] H R :=
  acalls_of_form (g := ⟨[1, 2, 3], [4, 6, 7, 9, 10, 12]⟩) (x := (.seq .leaf (.seq .leaf (.seq .leaf (.seq .leaf (.seq .leaf (.seq .leaf .leaf))))))) Try.func21 (by kernel_rfl) (by kernel_rfl) (by kernel_rfl) (by kernel_rfl : F_l_toNearEvent R a0 H = _) h
def F_i_StepNear (R : V → Heap → Prop) (a0 a1 : V) (H : Heap) : Prop :=
  boxK a0 (boxK a1 (bnd (partOf true 3 (cellsOf a0) 0) fun t1 =>
  ACalls P n_i_NearOk [t1] H fun v2 H3 =>
  bnd (aNot v2) fun t4 =>
  gd t4 false
  (bnd (partOf false 1 (cellsOf a1) 0) fun t5 =>
  ACalls P n_i_within [t5, (.int .i64 0), (.int .i64 5)] H3 fun v6 H7 =>
  bnd (aNot v6) fun t8 =>
  gd t8 false
  (bnd (partOf false 1 (cellsOf a1) 1) fun t9 =>
  bnd (partOf false 1 (cellsOf a0) 1) fun t10 =>
  ACalls P n_i_within [t9, t10, (.int .i64 1000000)] H7 fun v11 H12 =>
  bnd (aNot v11) fun t13 =>
  cnd t13
  (bnd (partOf true 3 (cellsOf a0) 0) fun t14 =>
  bnd (stz 3 [(.int .i64 0), (.int .i64 0), (.int .i64 0)] 0 t14) fun c15 =>
  bnd (partOf true 3 c15 0) fun t16 =>
  Ret R (.tup [t16, (.int .i64 0)]) H12)
  (bnd (partOf true 3 (cellsOf a0) 0) fun t17 =>
  bnd (stz 3 [(.int .i64 0), (.int .i64 0), (.int .i64 0)] 0 t17) fun c18 =>
  bnd (partOf false 1 (cellsOf a1) 0) fun t19 =>
  ∃ J20 : List V → Heap → Prop,
  (bnd (aBinN .eql t19 (.int .i64 0)) fun t23 =>
  cnd t23
  (Shr (J20 [t23]) H12)
  (bnd (aBinN .eql t19 (.int .i64 1)) fun t24 =>
  Shr (J20 [t24]) H12)) ∧
  ∀ xs21 H22, J20 xs21 H22 →
  cnd (xs21.headD .any)
  (bnd (partOf true 3 (cellsOf a0) 0) fun t25 =>
  bnd (partOf false 1 (cellsOf a1) 1) fun t26 =>
  bnd (partOf false 1 (cellsOf a1) 0) fun t27 =>
  bnd (aBinN .eql t27 (.int .i64 1)) fun t28 =>
  ACalls P n_i_Near_greeted [t25, t26, t28] H22 fun v29 H30 =>
  bnd (stz 3 c18 0 v29) fun c31 =>
  bnd (partOf false 1 c31 0) fun t32 =>
  bnd (partOf false 1 (cellsOf a0) 0) fun t33 =>
  bnd (aBinN .neq t32 t33) fun t34 =>
  cnd t34
  (bnd (partOf true 3 c31 0) fun t35 =>
  bnd (stz 3 [(.int .i64 0), (.int .i64 0), (.int .i64 0)] 0 t35) fun c36 =>
  bnd (partOf true 3 c36 0) fun t37 =>
  Ret R (.tup [t37, (.int .i64 1)]) H30)
  (bnd (partOf true 3 c31 0) fun t38 =>
  bnd (stz 3 [(.int .i64 0), (.int .i64 0), (.int .i64 0)] 0 t38) fun c39 =>
  bnd (partOf true 3 c39 0) fun t40 =>
  Ret R (.tup [t40, (.int .i64 0)]) H30))
  (bnd (aBinN .eql t19 (.int .i64 2)) fun t41 =>
  cnd t41
  (bnd (partOf true 3 (cellsOf a0) 0) fun t42 =>
  bnd (partOf false 1 (cellsOf a1) 2) fun t43 =>
  ACalls P n_i_Near_described [t42, t43] H22 fun v44 H45 =>
  bnd (stz 3 c18 0 v44) fun c46 =>
  bnd (partOf false 1 c46 0) fun t47 =>
  bnd (partOf false 1 (cellsOf a0) 0) fun t48 =>
  bnd (aBinN .neq t47 t48) fun t49 =>
  cnd t49
  (bnd (partOf true 3 c46 0) fun t50 =>
  bnd (stz 3 [(.int .i64 0), (.int .i64 0), (.int .i64 0)] 0 t50) fun c51 =>
  bnd (partOf true 3 c51 0) fun t52 =>
  Ret R (.tup [t52, (.int .i64 1)]) H45)
  (bnd (partOf true 3 c46 0) fun t53 =>
  bnd (stz 3 [(.int .i64 0), (.int .i64 0), (.int .i64 0)] 0 t53) fun c54 =>
  bnd (partOf true 3 c54 0) fun t55 =>
  Ret R (.tup [t55, (.int .i64 0)]) H45))
  (bnd (aBinN .eql t19 (.int .i64 3)) fun t56 =>
  cnd t56
  (bnd (partOf false 1 (cellsOf a0) 0) fun t57 =>
  bnd (aBinN .eql t57 (.int .i64 3)) fun t58 =>
  cnd t58
  (bnd (partOf false 1 c18 2) fun t59 =>
  bnd (aBinN .sub t59 (.int .i64 1)) fun t60 =>
  bnd (stz 1 c18 2 t60) fun c61 =>
  bnd (partOf false 1 c61 2) fun t62 =>
  bnd (aBinN .eql t62 (.int .i64 0)) fun t63 =>
  cnd t63
  (bnd (stz 1 c61 0 (.int .i64 4)) fun c64 =>
  bnd (partOf false 1 c64 0) fun t65 =>
  bnd (partOf false 1 (cellsOf a0) 0) fun t66 =>
  bnd (aBinN .neq t65 t66) fun t67 =>
  cnd t67
  (bnd (partOf true 3 c64 0) fun t68 =>
  bnd (stz 3 [(.int .i64 0), (.int .i64 0), (.int .i64 0)] 0 t68) fun c69 =>
  bnd (partOf true 3 c69 0) fun t70 =>
  Ret R (.tup [t70, (.int .i64 1)]) H22)
  (bnd (partOf true 3 c64 0) fun t71 =>
  bnd (stz 3 [(.int .i64 0), (.int .i64 0), (.int .i64 0)] 0 t71) fun c72 =>
  bnd (partOf true 3 c72 0) fun t73 =>
  Ret R (.tup [t73, (.int .i64 0)]) H22))
  (bnd (partOf false 1 c61 0) fun t74 =>
  bnd (partOf false 1 (cellsOf a0) 0) fun t75 =>
  bnd (aBinN .neq t74 t75) fun t76 =>
  cnd t76
  (bnd (partOf true 3 c61 0) fun t77 =>
  bnd (stz 3 [(.int .i64 0), (.int .i64 0), (.int .i64 0)] 0 t77) fun c78 =>
  bnd (partOf true 3 c78 0) fun t79 =>
  Ret R (.tup [t79, (.int .i64 1)]) H22)
  (bnd (partOf true 3 c61 0) fun t80 =>
  bnd (stz 3 [(.int .i64 0), (.int .i64 0), (.int .i64 0)] 0 t80) fun c81 =>
  bnd (partOf true 3 c81 0) fun t82 =>
  Ret R (.tup [t82, (.int .i64 0)]) H22)))
  (bnd (partOf false 1 c18 0) fun t83 =>
  bnd (partOf false 1 (cellsOf a0) 0) fun t84 =>
  bnd (aBinN .neq t83 t84) fun t85 =>
  cnd t85
  (bnd (partOf true 3 c18 0) fun t86 =>
  bnd (stz 3 [(.int .i64 0), (.int .i64 0), (.int .i64 0)] 0 t86) fun c87 =>
  bnd (partOf true 3 c87 0) fun t88 =>
  Ret R (.tup [t88, (.int .i64 1)]) H22)
  (bnd (partOf true 3 c18 0) fun t89 =>
  bnd (stz 3 [(.int .i64 0), (.int .i64 0), (.int .i64 0)] 0 t89) fun c90 =>
  bnd (partOf true 3 c90 0) fun t91 =>
  Ret R (.tup [t91, (.int .i64 0)]) H22)))
  (bnd (aBinN .eql t19 (.int .i64 4)) fun t92 =>
  cnd t92
  (bnd (partOf false 1 (cellsOf a0) 0) fun t93 =>
  bnd (aBinN .neq t93 (.int .i64 0)) fun t94 =>
  gd t94 true
  (bnd (partOf false 1 (cellsOf a1) 1) fun t95 =>
  bnd (partOf false 1 (cellsOf a0) 1) fun t96 =>
  bnd (aBinN .sub t95 t96) fun t97 =>
  bnd (aBinN .geq t97 (.int .i64 4)) fun t98 =>
  cnd t98
  (bnd (stz 1 c18 0 (.int .i64 0)) fun c99 =>
  bnd (stz 1 c99 2 (.int .i64 0)) fun c100 =>
  bnd (partOf false 1 c100 0) fun t101 =>
  bnd (partOf false 1 (cellsOf a0) 0) fun t102 =>
  bnd (aBinN .neq t101 t102) fun t103 =>
  cnd t103
  (bnd (partOf true 3 c100 0) fun t104 =>
  bnd (stz 3 [(.int .i64 0), (.int .i64 0), (.int .i64 0)] 0 t104) fun c105 =>
  bnd (partOf true 3 c105 0) fun t106 =>
  Ret R (.tup [t106, (.int .i64 1)]) H22)
  (bnd (partOf true 3 c100 0) fun t107 =>
  bnd (stz 3 [(.int .i64 0), (.int .i64 0), (.int .i64 0)] 0 t107) fun c108 =>
  bnd (partOf true 3 c108 0) fun t109 =>
  Ret R (.tup [t109, (.int .i64 0)]) H22))
  (bnd (partOf false 1 c18 0) fun t110 =>
  bnd (partOf false 1 (cellsOf a0) 0) fun t111 =>
  bnd (aBinN .neq t110 t111) fun t112 =>
  cnd t112
  (bnd (partOf true 3 c18 0) fun t113 =>
  bnd (stz 3 [(.int .i64 0), (.int .i64 0), (.int .i64 0)] 0 t113) fun c114 =>
  bnd (partOf true 3 c114 0) fun t115 =>
  Ret R (.tup [t115, (.int .i64 1)]) H22)
  (bnd (partOf true 3 c18 0) fun t116 =>
  bnd (stz 3 [(.int .i64 0), (.int .i64 0), (.int .i64 0)] 0 t116) fun c117 =>
  bnd (partOf true 3 c117 0) fun t118 =>
  Ret R (.tup [t118, (.int .i64 0)]) H22)))
  (bnd (partOf false 1 c18 0) fun t119 =>
  bnd (partOf false 1 (cellsOf a0) 0) fun t120 =>
  bnd (aBinN .neq t119 t120) fun t121 =>
  cnd t121
  (bnd (partOf true 3 c18 0) fun t122 =>
  bnd (stz 3 [(.int .i64 0), (.int .i64 0), (.int .i64 0)] 0 t122) fun c123 =>
  bnd (partOf true 3 c123 0) fun t124 =>
  Ret R (.tup [t124, (.int .i64 1)]) H22)
  (bnd (partOf true 3 c18 0) fun t125 =>
  bnd (stz 3 [(.int .i64 0), (.int .i64 0), (.int .i64 0)] 0 t125) fun c126 =>
  bnd (partOf true 3 c126 0) fun t127 =>
  Ret R (.tup [t127, (.int .i64 0)]) H22)))
  (bnd (aBinN .eql t19 (.int .i64 5)) fun t128 =>
  cnd t128
  (bnd (stz 1 c18 0 (.int .i64 0)) fun c129 =>
  bnd (stz 1 c129 2 (.int .i64 0)) fun c130 =>
  bnd (partOf false 1 c130 0) fun t131 =>
  bnd (partOf false 1 (cellsOf a0) 0) fun t132 =>
  bnd (aBinN .neq t131 t132) fun t133 =>
  cnd t133
  (bnd (partOf true 3 c130 0) fun t134 =>
  bnd (stz 3 [(.int .i64 0), (.int .i64 0), (.int .i64 0)] 0 t134) fun c135 =>
  bnd (partOf true 3 c135 0) fun t136 =>
  Ret R (.tup [t136, (.int .i64 1)]) H22)
  (bnd (partOf true 3 c130 0) fun t137 =>
  bnd (stz 3 [(.int .i64 0), (.int .i64 0), (.int .i64 0)] 0 t137) fun c138 =>
  bnd (partOf true 3 c138 0) fun t139 =>
  Ret R (.tup [t139, (.int .i64 0)]) H22))
  (bnd (partOf false 1 c18 0) fun t140 =>
  bnd (partOf false 1 (cellsOf a0) 0) fun t141 =>
  bnd (aBinN .neq t140 t141) fun t142 =>
  cnd t142
  (bnd (partOf true 3 c18 0) fun t143 =>
  bnd (stz 3 [(.int .i64 0), (.int .i64 0), (.int .i64 0)] 0 t143) fun c144 =>
  bnd (partOf true 3 c144 0) fun t145 =>
  Ret R (.tup [t145, (.int .i64 1)]) H22)
  (bnd (partOf true 3 c18 0) fun t146 =>
  bnd (stz 3 [(.int .i64 0), (.int .i64 0), (.int .i64 0)] 0 t146) fun c147 =>
  bnd (partOf true 3 c147 0) fun t148 =>
  Ret R (.tup [t148, (.int .i64 0)]) H22))))))))
  (bnd (partOf true 3 (cellsOf a0) 0) fun t149 =>
  bnd (stz 3 [(.int .i64 0), (.int .i64 0), (.int .i64 0)] 0 t149) fun c150 =>
  bnd (partOf true 3 c150 0) fun t151 =>
  Ret R (.tup [t151, (.int .i64 0)]) H7))
  (bnd (partOf true 3 (cellsOf a0) 0) fun t152 =>
  bnd (stz 3 [(.int .i64 0), (.int .i64 0), (.int .i64 0)] 0 t152) fun c153 =>
  bnd (partOf true 3 c153 0) fun t154 =>
  Ret R (.tup [t154, (.int .i64 0)]) H3)))
theorem W_i_StepNear {R : V → Heap → Prop} {a0 a1 : V} {H : Heap} (h : F_i_StepNear R a0 a1 H) : ACalls P n_i_StepNear [a0, a1] H R :=
  acalls_of_form (g := ⟨[2, 3, 4, 6], [11, 17, 19, 26, 32, 34, 41, 46, 49, 52, 53, 56, 59, 63, 65, 70, 71, 74, 75, 76, 78]⟩) (x := (.seq .leaf (.seq (.seq .leaf (.cond (.seq .leaf .leaf) .leaf)) (.seq .leaf (.seq (.seq .leaf (.block (.seqc (.seq .leaf (.cond .leaf .leaf)) (.cond .leaf (.seq .leaf (.cond .leaf (.seq .leaf (.cond (.seq .leaf (.cond (.seq .leaf (.seq .leaf (.cond .leaf .leaf))) .leaf)) (.seq .leaf (.cond (.seq .leaf (.cond .leaf .leaf)) (.seq .leaf (.cond .leaf .leaf))))))))) [28]))) (.seq (.seq .leaf (.cond (.seq .leaf .leaf) .leaf)) (.seq .leaf .leaf))))))) Try.func22 (by kernel_rfl) (by kernel_rfl) (by kernel_rfl) (by kernel_rfl : F_i_StepNear R a0 a1 H = _) h
def F_l_eqNear (R : V → Heap → Prop) (a0 a1 : V) (H : Heap) : Prop :=
  boxK a0 (boxK a1 (bnd (partOf false 1 (cellsOf a0) 0) fun t1 =>
  bnd (partOf false 1 (cellsOf a1) 0) fun t2 =>
  bnd (aBinN .neq t1 t2) fun t3 =>
  cnd t3
  (Ret R (.bool false) H)
  (bnd (partOf false 1 (cellsOf a0) 1) fun t4 =>
  bnd (partOf false 1 (cellsOf a1) 1) fun t5 =>
  bnd (aBinN .neq t4 t5) fun t6 =>
  cnd t6
  (Ret R (.bool false) H)
  (bnd (partOf false 1 (cellsOf a0) 2) fun t7 =>
  bnd (partOf false 1 (cellsOf a1) 2) fun t8 =>
  bnd (aBinN .neq t7 t8) fun t9 =>
  cnd t9
  (Ret R (.bool false) H)
  (Ret R (.bool true) H)))))
theorem W_l_eqNear {R : V → Heap → Prop} {a0 a1 : V} {H : Heap} (h : F_l_eqNear R a0 a1 H) : ACalls P n_l_eqNear [a0, a1] H R :=
  acalls_of_form (g := ⟨[2, 3], [5, 7, 10, 12, 15, 17]⟩) (x := (.seq .leaf (.seq (.seq .leaf (.cond (.seq .leaf .leaf) .leaf)) (.seq (.seq .leaf (.cond (.seq .leaf .leaf) .leaf)) (.seq (.seq .leaf (.cond (.seq .leaf .leaf) .leaf)) (.seq .leaf .leaf)))))) Try.func23 (by kernel_rfl) (by kernel_rfl) (by kernel_rfl) (by kernel_rfl : F_l_eqNear R a0 a1 H = _) h
def F_l_szGraph (R : V → Heap → Prop) (a0 a1 : V) (H : Heap) : Prop :=
  boxK a0 (bnd (partOf false 1 (cellsOf a0) 1) fun t1 =>
  ACalls P n_l_szEdgeS [t1, a1] H fun v2 H3 =>
  bnd (aBinN .lss v2 (.int .i64 0)) fun t4 =>
  cnd t4
  (Ret R (.int .i64 (-1)) H3)
  (Ret R v2 H3))
theorem W_l_szGraph {R : V → Heap → Prop} {a0 a1 : V} {H : Heap} (h : F_l_szGraph R a0 a1 H) : ACalls P n_l_szGraph [a0, a1] H R :=
  acalls_of_form (g := ⟨[2], [5]⟩) (x := (.seq .leaf (.seq .leaf (.seq (.seq .leaf (.cond (.seq .leaf .leaf) .leaf)) (.seq .leaf .leaf))))) Try.func24 (by kernel_rfl) (by kernel_rfl) (by kernel_rfl) (by kernel_rfl : F_l_szGraph R a0 a1 H = _) h
def F_s_WalkCost (R : V → Heap → Prop) (a0 a1 : V) (H : Heap) : Prop :=
  boxK a0 (bnd (partOf true 2 (cellsOf a0) 0) fun t1 =>
  ACalls P n_s_WayCost [t1, a1] H fun v2 H3 =>
  Ret R v2 H3)
theorem W_s_WalkCost {R : V → Heap → Prop} {a0 a1 : V} {H : Heap} (h : F_s_WalkCost R a0 a1 H) : ACalls P n_s_WalkCost [a0, a1] H R :=
  acalls_of_form (g := ⟨[2], []⟩) (x := (.seq .leaf (.seq .leaf .leaf))) Try.func25 (by kernel_rfl) (by kernel_rfl) (by kernel_rfl) (by kernel_rfl : F_s_WalkCost R a0 a1 H = _) h
def F_l_toGraph (R : V → Heap → Prop) (a0 : V) (H : Heap) : Prop :=
  boxK a0 (bnd (partOf false 1 (cellsOf a0) 0) fun t1 =>
  bnd (stz 1 [(.int .i64 0), .nils] 0 t1) fun c2 =>
  bnd (partOf false 1 (cellsOf a0) 1) fun t3 =>
  ACalls P n_l_toEdgeS [t3] H fun v4 H5 =>
  bnd (stz 1 c2 1 v4) fun c6 =>
  bnd (partOf true 2 c6 0) fun t7 =>
  bnd (stz 2 [(.int .i64 0), .nils] 0 t7) fun c8 =>
  bnd (partOf true 2 c8 0) fun t9 =>
  Ret R t9 H5)
theorem W_l_toGraph {R : V → Heap → Prop} {a0 : V} {H : Heap} (h : F_l_toGraph R a0 H) : ACalls P n_l_toGraph [a0] H R :=
  acalls_of_form (g := ⟨[1, 2, 3], [4, 6, 7, 10]⟩) (x := (.seq .leaf (.seq .leaf (.seq .leaf (.seq .leaf (.seq .leaf .leaf)))))) Try.func26 (by kernel_rfl) (by kernel_rfl) (by kernel_rfl) (by kernel_rfl : F_l_toGraph R a0 H = _) h
def F_i_WalkCost (R : V → Heap → Prop) (a0 a1 : V) (H : Heap) : Prop :=
  boxK a0 (bnd (partOf true 2 (cellsOf a0) 0) fun t1 =>
  ACalls P n_i_WayCost [t1, a1] H fun v2 H3 =>
  Ret R v2 H3)
theorem W_i_WalkCost {R : V → Heap → Prop} {a0 a1 : V} {H : Heap} (h : F_i_WalkCost R a0 a1 H) : ACalls P n_i_WalkCost [a0, a1] H R :=
  acalls_of_form (g := ⟨[2], []⟩) (x := (.seq .leaf (.seq .leaf .leaf))) Try.func27 (by kernel_rfl) (by kernel_rfl) (by kernel_rfl) (by kernel_rfl : F_i_WalkCost R a0 a1 H = _) h
def F_l_eqGraph (R : V → Heap → Prop) (a0 a1 : V) (H : Heap) : Prop :=
  boxK a0 (boxK a1 (bnd (partOf false 1 (cellsOf a0) 0) fun t1 =>
  bnd (partOf false 1 (cellsOf a1) 0) fun t2 =>
  bnd (aBinN .neq t1 t2) fun t3 =>
  cnd t3
  (Ret R (.bool false) H)
  (bnd (partOf false 1 (cellsOf a0) 1) fun t4 =>
  bnd (partOf false 1 (cellsOf a1) 1) fun t5 =>
  ACalls P n_l_eqEdgeS [t4, t5] H fun v6 H7 =>
  bnd (aNot v6) fun t8 =>
  cnd t8
  (Ret R (.bool false) H7)
  (Ret R (.bool true) H7))))
theorem W_l_eqGraph {R : V → Heap → Prop} {a0 a1 : V} {H : Heap} (h : F_l_eqGraph R a0 a1 H) : ACalls P n_l_eqGraph [a0, a1] H R :=
  acalls_of_form (g := ⟨[2, 3], [5, 7, 10, 12]⟩) (x := (.seq .leaf (.seq (.seq .leaf (.cond (.seq .leaf .leaf) .leaf)) (.seq (.seq .leaf (.cond (.seq .leaf .leaf) .leaf)) (.seq .leaf .leaf))))) Try.func28 (by kernel_rfl) (by kernel_rfl) (by kernel_rfl) (by kernel_rfl : F_l_eqGraph R a0 a1 H = _) h
def F_l_szNearEventS (R : V → Heap → Prop) (a0 a1 : V) (H : Heap) : Prop :=
  bnd (lenOf a0) fun n1 =>
  bnd (aBinN .sub a1 (.int .i64 (n1 : Nat))) fun t2 =>
  bnd (aBinN .lss t2 (.int .i64 0)) fun t3 =>
  cnd t3
  (Ret R (.int .i64 (-1)) H)
  (Ret R t2 H)
theorem W_l_szNearEventS {R : V → Heap → Prop} {a0 a1 : V} {H : Heap} (h : F_l_szNearEventS R a0 a1 H) : ACalls P n_l_szNearEventS [a0, a1] H R :=
  acalls_of_form (g := ⟨[], []⟩) (x := (.seq .leaf (.seq .leaf (.seq (.seq .leaf (.cond (.seq .leaf .leaf) .leaf)) (.seq .leaf .leaf))))) Try.func29 (by kernel_rfl) (by kernel_rfl) (by kernel_rfl) (by kernel_rfl : F_l_szNearEventS R a0 a1 H = _) h
def F_s_Changes (R : V → Heap → Prop) (a0 : V) (H : Heap) : Prop :=
  bnd (lenOf a0) fun n1 =>
  bnd (aBinN .gtr (.int .i64 (n1 : Nat)) (.int .i64 300)) fun t2 =>
  cnd t2
  (Ret R (.int .i64 (-1)) H)
  (ACalls P n_s_PlayNear [a0] H fun v3 H4 =>
  bnd (aExtract 0 v3) fun t5 =>
  bnd (aExtract 1 v3) fun t6 =>
  bnd (stz 3 [(.int .i64 0), (.int .i64 0), (.int .i64 0)] 0 t5) fun c7 =>
  ∃ (I8 : Nat → List V → Heap → Prop) (n9 : Nat), Shr (I8 n9 [(.int .i64 0), (.int .i64 0)]) H4 ∧
  ∀ n10 xs12 H13, I8 n10 xs12 H13 →
  bnd (lenOf t6) fun n14 =>
  bnd (aBinN .lss (xs12.tail.headD .any) (.int .i64 (n14 : Nat))) fun t15 =>
  cnd t15
  (bnd (aIndex H13 1 t6 (xs12.tail.headD .any)) fun t16 =>
  bnd (aLd false 1 H13 t16) fun t17 =>
  bnd (aBinN .add (xs12.headD .any) t17) fun t18 =>
  bnd (aBinN .add (xs12.tail.headD .any) (.int .i64 1)) fun t19 =>
  ∃ n11, n11 < n10 ∧ Shr (I8 n11 [t18, t19]) H13)
  (Ret R (xs12.headD .any) H13))
theorem W_s_Changes {R : V → Heap → Prop} {a0 : V} {H : Heap} (h : F_s_Changes R a0 H) : ACalls P n_s_Changes [a0] H R :=
  acalls_of_form (g := ⟨[3], []⟩) (x := (.seq .leaf (.seq (.seq .leaf (.cond (.seq .leaf .leaf) .leaf)) (.seq .leaf (.seq .leaf (.seq (.seq .leaf (.block (.loop [5, 6] (.seq (.seq .leaf (.cond .leaf .leaf)) (.seq (.block .leaf) .leaf))))) (.seq .leaf .leaf))))))) Try.func30 (by kernel_rfl) (by kernel_rfl) (by kernel_rfl) (by kernel_rfl : F_s_Changes R a0 H = _) h
def F_l_toNearEventS (R : V → Heap → Prop) (a0 : V) (H : Heap) : Prop :=
  bnd (lenOf a0) fun n1 =>
  bnd (natOf (.int .i64 (n1 : Nat))) fun n2 =>
  bnd (natOf (.int .i64 (n1 : Nat))) fun n3 =>
  (n2 ≤ n3 ∧ n3 ≤ 140737488355328 ∧ 24 * n3 ≤ 281474976710656 ∧ 3 = 3 ∧ 0 < 3) ∧
  ∀ o4, H o4 = none →
  ∃ (I5 : Nat → List V → Heap → Prop) (n6 : Nat), Shr (I5 n6 [(.int .i64 0)]) (upd H o4 ⟨3, List.replicate n3 [(.int .i64 0), (.int .i64 0), (.int .i64 0)]⟩) ∧
  ∀ n7 xs9 H10, I5 n7 xs9 H10 →
  bnd (lenOf a0) fun n11 =>
  bnd (aBinN .lss (xs9.headD .any) (.int .i64 (n11 : Nat))) fun t12 =>
  cnd t12
  (bnd (aIndex H10 3 a0 (xs9.headD .any)) fun t13 =>
  bnd (aLd true 3 H10 t13) fun t14 =>
  ACalls P n_l_toNearEvent [t14] H10 fun v15 H16 =>
  bnd (aIndex H16 3 (.slice o4 0 n2 (some n3)) (xs9.headD .any)) fun t17 =>
  bnd (aSt 3 H16 t17 v15) fun H18 =>
  bnd (aBinN .add (xs9.headD .any) (.int .i64 1)) fun t19 =>
  ∃ n8, n8 < n7 ∧ Shr (I5 n8 [t19]) H18)
  (Ret R (.slice o4 0 n2 (some n3)) H10)
theorem W_l_toNearEventS {R : V → Heap → Prop} {a0 : V} {H : Heap} (h : F_l_toNearEventS R a0 H) : ACalls P n_l_toNearEventS [a0] H R :=
  acalls_of_form (g := ⟨[], []⟩) (x := (.seq .leaf (.seq .leaf (.seq (.seq .leaf (.block (.loop [4] (.seq (.seq .leaf (.cond .leaf .leaf)) (.seq (.block .leaf) .leaf))))) (.seq .leaf .leaf))))) Try.func31 (by kernel_rfl) (by kernel_rfl) (by kernel_rfl) (by kernel_rfl : F_l_toNearEventS R a0 H = _) h
def F_i_Changes (R : V → Heap → Prop) (a0 : V) (H : Heap) : Prop :=
  bnd (lenOf a0) fun n1 =>
  bnd (aBinN .gtr (.int .i64 (n1 : Nat)) (.int .i64 300)) fun t2 =>
  cnd t2
  (Ret R (.int .i64 (-1)) H)
  (∀ o3, H o3 = none →
  bnd (aSt 1 (upd H o3 ⟨1, [[(.int .i64 0)]]⟩) (.ptr o3 0 0) (.int .i64 0)) fun H4 =>
  ACalls P n_i_played [a0, (.fn n_i_Changes_1 [(.ptr o3 0 0)])] H4 fun v5 H6 =>
  bnd (aLd false 1 H6 (.ptr o3 0 0)) fun t7 =>
  Ret R t7 H6)
theorem W_i_Changes {R : V → Heap → Prop} {a0 : V} {H : Heap} (h : F_i_Changes R a0 H) : ACalls P n_i_Changes [a0] H R :=
  acalls_of_form (g := ⟨[], []⟩) (x := (.seq .leaf (.seq (.seq .leaf (.cond (.seq .leaf .leaf) .leaf)) (.seq .leaf (.seq .leaf (.seq .leaf .leaf)))))) Try.func32 (by kernel_rfl) (by kernel_rfl) (by kernel_rfl) (by kernel_rfl : F_i_Changes R a0 H = _) h
def F_l_eqNearEventS (R : V → Heap → Prop) (a0 a1 : V) (H : Heap) : Prop :=
  bnd (lenOf a0) fun n1 =>
  bnd (lenOf a1) fun n2 =>
  bnd (aBinN .neq (.int .i64 (n1 : Nat)) (.int .i64 (n2 : Nat))) fun t3 =>
  cnd t3
  (Ret R (.bool false) H)
  (∃ (I4 : Nat → List V → Heap → Prop) (n5 : Nat), Shr (I4 n5 [(.int .i64 0)]) H ∧
  ∀ n6 xs8 H9, I4 n6 xs8 H9 →
  bnd (lenOf a0) fun n10 =>
  bnd (aBinN .lss (xs8.headD .any) (.int .i64 (n10 : Nat))) fun t11 =>
  cnd t11
  (∃ S12, Abs.sub S12 H9 ∧
  bnd (aIndex S12 3 a0 (xs8.headD .any)) fun t13 =>
  bnd (aLd true 3 S12 t13) fun t14 =>
  bnd (aIndex S12 3 a1 (xs8.headD .any)) fun t15 =>
  bnd (aLd true 3 S12 t15) fun t16 =>
  ACalls P n_l_eqNearEvent [t14, t16] H9 fun v17 H18 =>
  Abs.sub S12 H18 ∧
  bnd (aNot v17) fun t19 =>
  cnd t19
  (Ret R (.bool false) H18)
  (bnd (aBinN .add (xs8.headD .any) (.int .i64 1)) fun t20 =>
  ∃ n7, n7 < n6 ∧ Shr (I4 n7 [t20]) H18))
  (Ret R (.bool true) H9))
theorem W_l_eqNearEventS {R : V → Heap → Prop} {a0 a1 : V} {H : Heap} (h : F_l_eqNearEventS R a0 a1 H) : ACalls P n_l_eqNearEventS [a0, a1] H R :=
  acalls_of_form (g := ⟨[], []⟩) (x := (.seq .leaf (.seq (.seq .leaf (.cond (.seq .leaf .leaf) .leaf)) (.seq (.seq .leaf (.block (.loop [5] (.seq (.seq .leaf (.cond .leaf .leaf)) (.seq (.block (.seq (.draw [0, 1, 2, 3, 4, 5, 6, 7, 8, 9]) (.cond (.seq .leaf .leaf) .leaf))) .leaf))))) (.seq .leaf .leaf))))) Try.func33 (by kernel_rfl) (by kernel_rfl) (by kernel_rfl) (by kernel_rfl : F_l_eqNearEventS R a0 a1 H = _) h
def F_s_l01In (R : V → Heap → Prop) (a0 a1 a2 : V) (H : Heap) : Prop :=
  bnd (aBinN .leq a1 a0) fun t1 =>
  gd t1 true
  (bnd (aBinN .leq a0 a2) fun t2 =>
  Ret R t2 H)
  (Ret R (.bool false) H)
theorem W_s_l01In {R : V → Heap → Prop} {a0 a1 a2 : V} {H : Heap} (h : F_s_l01In R a0 a1 a2 H) : ACalls P n_s_l01In [a0, a1, a2] H R :=
  acalls_of_form (g := ⟨[], []⟩) (x := (.seq .leaf (.seq .leaf .leaf))) Try.func34 (by kernel_rfl) (by kernel_rfl) (by kernel_rfl) (by kernel_rfl : F_s_l01In R a0 a1 a2 H = _) h
def F_i_within (R : V → Heap → Prop) (a0 a1 a2 : V) (H : Heap) : Prop :=
  bnd (aBinN .geq a0 a1) fun t1 =>
  gd t1 true
  (bnd (aBinN .leq a0 a2) fun t2 =>
  Ret R t2 H)
  (Ret R (.bool false) H)
theorem W_i_within {R : V → Heap → Prop} {a0 a1 a2 : V} {H : Heap} (h : F_i_within R a0 a1 a2 H) : ACalls P n_i_within [a0, a1, a2] H R :=
  acalls_of_form (g := ⟨[], []⟩) (x := (.seq .leaf (.seq .leaf .leaf))) Try.func35 (by kernel_rfl) (by kernel_rfl) (by kernel_rfl) (by kernel_rfl : F_i_within R a0 a1 a2 H = _) h
def F_i_Near_greeted (R : V → Heap → Prop) (a0 a1 a2 : V) (H : Heap) : Prop :=
  boxK a0 (bnd (stz 1 (cellsOf a0) 1 a1) fun c1 =>
  bnd (aNot a2) fun t2 =>
  cnd t2
  (bnd (stz 1 c1 0 (.int .i64 1)) fun c3 =>
  bnd (stz 1 c3 2 (.int .i64 0)) fun c4 =>
  bnd (partOf true 3 c4 0) fun t5 =>
  bnd (stz 3 [(.int .i64 0), (.int .i64 0), (.int .i64 0)] 0 t5) fun c6 =>
  bnd (partOf true 3 c6 0) fun t7 =>
  Ret R t7 H)
  (bnd (partOf false 1 c1 0) fun t8 =>
  bnd (aBinN .leq t8 (.int .i64 1)) fun t9 =>
  cnd t9
  (bnd (stz 1 c1 0 (.int .i64 2)) fun c10 =>
  bnd (partOf true 3 c10 0) fun t11 =>
  bnd (stz 3 [(.int .i64 0), (.int .i64 0), (.int .i64 0)] 0 t11) fun c12 =>
  bnd (partOf true 3 c12 0) fun t13 =>
  Ret R t13 H)
  (bnd (partOf true 3 c1 0) fun t14 =>
  bnd (stz 3 [(.int .i64 0), (.int .i64 0), (.int .i64 0)] 0 t14) fun c15 =>
  bnd (partOf true 3 c15 0) fun t16 =>
  Ret R t16 H)))
theorem W_i_Near_greeted {R : V → Heap → Prop} {a0 a1 a2 : V} {H : Heap} (h : F_i_Near_greeted R a0 a1 a2 H) : ACalls P n_i_Near_greeted [a0, a1, a2] H R :=
  acalls_of_form (g := ⟨[3, 6], [8, 12, 13, 15, 18]⟩) (x := (.seq .leaf (.seq .leaf (.seq (.block (.seq .leaf (.cond .leaf (.seq .leaf (.cond .leaf .leaf))))) (.seq .leaf .leaf))))) Try.func36 (by kernel_rfl) (by kernel_rfl) (by kernel_rfl) (by kernel_rfl : F_i_Near_greeted R a0 a1 a2 H = _) h
def F_i_Near_described (R : V → Heap → Prop) (a0 a1 : V) (H : Heap) : Prop :=
  boxK a0 (bnd (partOf false 1 (cellsOf a0) 0) fun t1 =>
  bnd (aBinN .neq t1 (.int .i64 2)) fun t2 =>
  cnd t2
  (bnd (partOf true 3 (cellsOf a0) 0) fun t3 =>
  bnd (stz 3 [(.int .i64 0), (.int .i64 0), (.int .i64 0)] 0 t3) fun c4 =>
  bnd (partOf true 3 c4 0) fun t5 =>
  Ret R t5 H)
  (bnd (aBinN .eql a1 (.int .i64 0)) fun t6 =>
  cnd t6
  (bnd (stz 1 (cellsOf a0) 0 (.int .i64 4)) fun c7 =>
  bnd (partOf true 3 c7 0) fun t8 =>
  bnd (stz 3 [(.int .i64 0), (.int .i64 0), (.int .i64 0)] 0 t8) fun c9 =>
  bnd (partOf true 3 c9 0) fun t10 =>
  Ret R t10 H)
  (ACalls P n_i_within [a1, (.int .i64 1), (.int .i64 10)] H fun v11 H12 =>
  cnd v11
  (bnd (stz 1 (cellsOf a0) 0 (.int .i64 3)) fun c13 =>
  bnd (stz 1 c13 2 a1) fun c14 =>
  bnd (partOf true 3 c14 0) fun t15 =>
  bnd (stz 3 [(.int .i64 0), (.int .i64 0), (.int .i64 0)] 0 t15) fun c16 =>
  bnd (partOf true 3 c16 0) fun t17 =>
  Ret R t17 H12)
  (bnd (partOf true 3 (cellsOf a0) 0) fun t18 =>
  bnd (stz 3 [(.int .i64 0), (.int .i64 0), (.int .i64 0)] 0 t18) fun c19 =>
  bnd (partOf true 3 c19 0) fun t20 =>
  Ret R t20 H12))))
theorem W_i_Near_described {R : V → Heap → Prop} {a0 a1 : V} {H : Heap} (h : F_i_Near_described R a0 a1 H) : ACalls P n_i_Near_described [a0, a1] H R :=
  acalls_of_form (g := ⟨[2, 4], [6, 12, 17, 18]⟩) (x := (.seq .leaf (.seq (.block (.seq .leaf (.cond .leaf (.seq .leaf (.cond .leaf (.seq .leaf (.cond .leaf .leaf))))))) (.seq .leaf .leaf)))) Try.func37 (by kernel_rfl) (by kernel_rfl) (by kernel_rfl) (by kernel_rfl : F_i_Near_described R a0 a1 H = _) h
def F_l_szEdgeS (R : V → Heap → Prop) (a0 a1 : V) (H : Heap) : Prop :=
  bnd (lenOf a0) fun n1 =>
  bnd (aBinN .sub a1 (.int .i64 (n1 : Nat))) fun t2 =>
  bnd (aBinN .lss t2 (.int .i64 0)) fun t3 =>
  cnd t3
  (Ret R (.int .i64 (-1)) H)
  (Ret R t2 H)
theorem W_l_szEdgeS {R : V → Heap → Prop} {a0 a1 : V} {H : Heap} (h : F_l_szEdgeS R a0 a1 H) : ACalls P n_l_szEdgeS [a0, a1] H R :=
  acalls_of_form (g := ⟨[], []⟩) (x := (.seq .leaf (.seq .leaf (.seq (.seq .leaf (.cond (.seq .leaf .leaf) .leaf)) (.seq .leaf .leaf))))) Try.func38 (by kernel_rfl) (by kernel_rfl) (by kernel_rfl) (by kernel_rfl : F_l_szEdgeS R a0 a1 H = _) h
def F_s_WayCost (R : V → Heap → Prop) (a0 a1 : V) (H : Heap) : Prop :=
  boxK a0 (bnd (partOf true 2 (cellsOf a0) 0) fun t1 =>
  ACalls P n_s_GraphOk [t1] H fun v2 H3 =>
  bnd (aNot v2) fun t4 =>
  gd t4 false
  (bnd (lenOf a1) fun n5 =>
  bnd (aBinN .eql (.int .i64 (n5 : Nat)) (.int .i64 0)) fun t6 =>
  gd t6 false
  (bnd (lenOf a1) fun n7 =>
  bnd (aBinN .gtr (.int .i64 (n7 : Nat)) (.int .i64 300)) fun t8 =>
  cnd t8
  (Ret R (.int .i64 (-1)) H3)
  (∃ (I9 : Nat → List V → Heap → Prop) (n10 : Nat), Shr (I9 n10 [(.int .i64 0), (.int .i64 0)]) H3 ∧
  ∀ n11 xs13 H14, I9 n11 xs13 H14 →
  bnd (lenOf a1) fun n15 =>
  bnd (aBinN .lss (xs13.tail.headD .any) (.int .i64 (n15 : Nat))) fun t16 =>
  cnd t16
  (∃ S17, Abs.sub S17 H14 ∧
  bnd (partOf true 2 (cellsOf a0) 0) fun t18 =>
  bnd (aIndex S17 1 a1 (xs13.tail.headD .any)) fun t19 =>
  bnd (aLd false 1 S17 t19) fun t20 =>
  ACalls P n_s_l03Node [t18, t20] H14 fun v21 H22 =>
  Abs.sub S17 H22 ∧
  bnd (aNot v21) fun t23 =>
  cnd t23
  (Ret R (.int .i64 (-1)) H22)
  (bnd (aBinN .gtr (xs13.tail.headD .any) (.int .i64 0)) fun t24 =>
  cnd t24
  (∃ S25, Abs.sub S25 H22 ∧
  bnd (partOf true 2 (cellsOf a0) 0) fun t26 =>
  bnd (aBinN .sub (xs13.tail.headD .any) (.int .i64 1)) fun t27 =>
  bnd (aIndex S25 1 a1 t27) fun t28 =>
  bnd (aLd false 1 S25 t28) fun t29 =>
  bnd (aIndex S25 1 a1 (xs13.tail.headD .any)) fun t30 =>
  bnd (aLd false 1 S25 t30) fun t31 =>
  ACalls P n_s_l03Cost [t26, t29, t31] H22 fun v32 H33 =>
  Abs.sub S25 H33 ∧
  ∃ S34, Abs.sub S34 H33 ∧
  bnd (aIndex S34 1 a1 (xs13.tail.headD .any)) fun t35 =>
  bnd (aLd false 1 S34 t35) fun t36 =>
  bnd (aBinN .sub (xs13.tail.headD .any) (.int .i64 1)) fun t37 =>
  bnd (aIndex S34 1 a1 t37) fun t38 =>
  bnd (aLd false 1 S34 t38) fun t39 =>
  bnd (aBinN .eql t36 t39) fun t40 =>
  gd t40 false
  (bnd (aBinN .eql v32 (.int .i64 1000000)) fun t41 =>
  cnd t41
  (Ret R (.int .i64 (-1)) H33)
  (bnd (aBinN .add (xs13.headD .any) v32) fun t42 =>
  bnd (aBinN .add (xs13.tail.headD .any) (.int .i64 1)) fun t43 =>
  ∃ n12, n12 < n11 ∧ Shr (I9 n12 [t42, t43]) H33))
  (Ret R (.int .i64 (-1)) H33))
  (bnd (aBinN .add (xs13.tail.headD .any) (.int .i64 1)) fun t44 =>
  ∃ n12, n12 < n11 ∧ Shr (I9 n12 [(xs13.headD .any), t44]) H22)))
  (Ret R (xs13.headD .any) H14)))
  (Ret R (.int .i64 (-1)) H3))
  (Ret R (.int .i64 (-1)) H3))
theorem W_s_WayCost {R : V → Heap → Prop} {a0 a1 : V} {H : Heap} (h : F_s_WayCost R a0 a1 H) : ACalls P n_s_WayCost [a0, a1] H R :=
  acalls_of_form (g := ⟨[2], []⟩) (x := (.seq .leaf (.seq (.seq .leaf (.cond (.seq .leaf .leaf) .leaf)) (.seq .leaf (.seq (.seq .leaf (.block (.loop [5, 6] (.seq (.seq .leaf (.cond .leaf .leaf)) (.seq (.block (.seq (.seq (.draw [0, 1, 2, 3, 4, 5, 6]) (.cond (.seq .leaf .leaf) .leaf)) (.seq .leaf (.cond (.seq (.draw [0, 1, 2, 3, 4, 5, 6, 7, 8, 9, 10, 11]) (.seq (.seq (.draw [0, 1, 2, 3, 4, 5, 6, 7, 8, 9, 10, 11, 12, 13]) (.cond (.seq .leaf .leaf) .leaf)) .leaf)) .leaf)))) .leaf))))) (.seq .leaf .leaf)))))) Try.func39 (by kernel_rfl) (by kernel_rfl) (by kernel_rfl) (by kernel_rfl : F_s_WayCost R a0 a1 H = _) h
def F_l_toEdgeS (R : V → Heap → Prop) (a0 : V) (H : Heap) : Prop :=
  bnd (lenOf a0) fun n1 =>
  bnd (natOf (.int .i64 (n1 : Nat))) fun n2 =>
  bnd (natOf (.int .i64 (n1 : Nat))) fun n3 =>
  (n2 ≤ n3 ∧ n3 ≤ 140737488355328 ∧ 24 * n3 ≤ 281474976710656 ∧ 3 = 3 ∧ 0 < 3) ∧
  ∀ o4, H o4 = none →
  ∃ (I5 : Nat → List V → Heap → Prop) (n6 : Nat), Shr (I5 n6 [(.int .i64 0)]) (upd H o4 ⟨3, List.replicate n3 [(.int .i64 0), (.int .i64 0), (.int .i64 0)]⟩) ∧
  ∀ n7 xs9 H10, I5 n7 xs9 H10 →
  bnd (lenOf a0) fun n11 =>
  bnd (aBinN .lss (xs9.headD .any) (.int .i64 (n11 : Nat))) fun t12 =>
  cnd t12
  (bnd (aIndex H10 3 a0 (xs9.headD .any)) fun t13 =>
  bnd (aLd true 3 H10 t13) fun t14 =>
  ACalls P n_l_toEdge [t14] H10 fun v15 H16 =>
  bnd (aIndex H16 3 (.slice o4 0 n2 (some n3)) (xs9.headD .any)) fun t17 =>
  bnd (aSt 3 H16 t17 v15) fun H18 =>
  bnd (aBinN .add (xs9.headD .any) (.int .i64 1)) fun t19 =>
  ∃ n8, n8 < n7 ∧ Shr (I5 n8 [t19]) H18)
  (Ret R (.slice o4 0 n2 (some n3)) H10)
theorem W_l_toEdgeS {R : V → Heap → Prop} {a0 : V} {H : Heap} (h : F_l_toEdgeS R a0 H) : ACalls P n_l_toEdgeS [a0] H R :=
  acalls_of_form (g := ⟨[], []⟩) (x := (.seq .leaf (.seq .leaf (.seq (.seq .leaf (.block (.loop [4] (.seq (.seq .leaf (.cond .leaf .leaf)) (.seq (.block .leaf) .leaf))))) (.seq .leaf .leaf))))) Try.func40 (by kernel_rfl) (by kernel_rfl) (by kernel_rfl) (by kernel_rfl : F_l_toEdgeS R a0 H = _) h
def F_i_WayCost (R : V → Heap → Prop) (a0 a1 : V) (H : Heap) : Prop :=
  boxK a0 (∃ S1, Abs.sub S1 H ∧
  bnd (partOf true 2 (cellsOf a0) 0) fun t2 =>
  ACalls P n_i_GraphOk [t2] H fun v3 H4 =>
  Abs.sub S1 H4 ∧
  bnd (aNot v3) fun t5 =>
  gd t5 false
  (bnd (lenOf a1) fun n6 =>
  ACalls P n_i_within [(.int .i64 (n6 : Nat)), (.int .i64 1), (.int .i64 300)] H4 fun v7 H8 =>
  Abs.sub S1 H8 ∧
  bnd (aNot v7) fun t9 =>
  gd t9 false
  (bnd (partOf true 2 (cellsOf a0) 0) fun t10 =>
  bnd (aIndex S1 1 a1 (.int .i64 0)) fun t11 =>
  bnd (aLd false 1 S1 t11) fun t12 =>
  ACalls P n_i_Graph_isNode [t10, t12] H8 fun v13 H14 =>
  Abs.sub S1 H14 ∧
  bnd (aNot v13) fun t15 =>
  cnd t15
  (Ret R (.int .i64 (-1)) H14)
  (∃ (I16 : Nat → List V → Heap → Prop) (n17 : Nat), Shr (I16 n17 [(.int .i64 0), (.int .i64 1)]) H14 ∧
  ∀ n18 xs20 H21, I16 n18 xs20 H21 →
  bnd (lenOf a1) fun n22 =>
  bnd (aBinN .lss (xs20.tail.headD .any) (.int .i64 (n22 : Nat))) fun t23 =>
  cnd t23
  (∃ S24, Abs.sub S24 H21 ∧
  bnd (partOf true 2 (cellsOf a0) 0) fun t25 =>
  bnd (aBinN .sub (xs20.tail.headD .any) (.int .i64 1)) fun t26 =>
  bnd (aIndex S24 1 a1 t26) fun t27 =>
  bnd (aLd false 1 S24 t27) fun t28 =>
  bnd (aIndex S24 1 a1 (xs20.tail.headD .any)) fun t29 =>
  bnd (aLd false 1 S24 t29) fun t30 =>
  ACalls P n_i_Graph_cost [t25, t28, t30] H21 fun v31 H32 =>
  Abs.sub S24 H32 ∧
  ∃ S33, Abs.sub S33 H32 ∧
  bnd (aBinN .eql v31 (.int .i64 1000000)) fun t34 =>
  gd t34 false
  (bnd (aIndex S33 1 a1 (xs20.tail.headD .any)) fun t35 =>
  bnd (aLd false 1 S33 t35) fun t36 =>
  bnd (aBinN .sub (xs20.tail.headD .any) (.int .i64 1)) fun t37 =>
  bnd (aIndex S33 1 a1 t37) fun t38 =>
  bnd (aLd false 1 S33 t38) fun t39 =>
  bnd (aBinN .eql t36 t39) fun t40 =>
  cnd t40
  (Ret R (.int .i64 (-1)) H32)
  (bnd (aBinN .add (xs20.headD .any) v31) fun t41 =>
  bnd (aBinN .add (xs20.tail.headD .any) (.int .i64 1)) fun t42 =>
  ∃ n19, n19 < n18 ∧ Shr (I16 n19 [t41, t42]) H32))
  (Ret R (.int .i64 (-1)) H32))
  (Ret R (xs20.headD .any) H21)))
  (Ret R (.int .i64 (-1)) H8))
  (Ret R (.int .i64 (-1)) H4))
theorem W_i_WayCost {R : V → Heap → Prop} {a0 a1 : V} {H : Heap} (h : F_i_WayCost R a0 a1 H) : ACalls P n_i_WayCost [a0, a1] H R :=
  acalls_of_form (g := ⟨[2], []⟩) (x := (.seq .leaf (.seq (.seq (.draw [0, 1, 2, 3, 4, 5, 6, 7, 8, 9, 10, 11, 12, 13, 14, 15, 16]) (.cond (.seq .leaf .leaf) .leaf)) (.seq .leaf (.seq (.seq .leaf (.block (.loop [5, 6] (.seq (.seq .leaf (.cond .leaf .leaf)) (.seq (.block (.seq (.draw [0, 1, 2, 3, 4, 5, 6, 7, 8, 9, 10, 11]) (.seq (.seq (.draw [0, 1, 2, 3, 4, 5, 6, 7, 8, 9, 10, 11, 12, 13]) (.cond (.seq .leaf .leaf) .leaf)) .leaf))) .leaf))))) (.seq .leaf .leaf)))))) Try.func41 (by kernel_rfl) (by kernel_rfl) (by kernel_rfl) (by kernel_rfl : F_i_WayCost R a0 a1 H = _) h
def F_l_eqEdgeS (R : V → Heap → Prop) (a0 a1 : V) (H : Heap) : Prop :=
  bnd (lenOf a0) fun n1 =>
  bnd (lenOf a1) fun n2 =>
  bnd (aBinN .neq (.int .i64 (n1 : Nat)) (.int .i64 (n2 : Nat))) fun t3 =>
  cnd t3
  (Ret R (.bool false) H)
  (∃ (I4 : Nat → List V → Heap → Prop) (n5 : Nat), Shr (I4 n5 [(.int .i64 0)]) H ∧
  ∀ n6 xs8 H9, I4 n6 xs8 H9 →
  bnd (lenOf a0) fun n10 =>
  bnd (aBinN .lss (xs8.headD .any) (.int .i64 (n10 : Nat))) fun t11 =>
  cnd t11
  (∃ S12, Abs.sub S12 H9 ∧
  bnd (aIndex S12 3 a0 (xs8.headD .any)) fun t13 =>
  bnd (aLd true 3 S12 t13) fun t14 =>
  bnd (aIndex S12 3 a1 (xs8.headD .any)) fun t15 =>
  bnd (aLd true 3 S12 t15) fun t16 =>
  ACalls P n_l_eqEdge [t14, t16] H9 fun v17 H18 =>
  Abs.sub S12 H18 ∧
  bnd (aNot v17) fun t19 =>
  cnd t19
  (Ret R (.bool false) H18)
  (bnd (aBinN .add (xs8.headD .any) (.int .i64 1)) fun t20 =>
  ∃ n7, n7 < n6 ∧ Shr (I4 n7 [t20]) H18))
  (Ret R (.bool true) H9))
theorem W_l_eqEdgeS {R : V → Heap → Prop} {a0 a1 : V} {H : Heap} (h : F_l_eqEdgeS R a0 a1 H) : ACalls P n_l_eqEdgeS [a0, a1] H R :=
  acalls_of_form (g := ⟨[], []⟩) (x := (.seq .leaf (.seq (.seq .leaf (.cond (.seq .leaf .leaf) .leaf)) (.seq (.seq .leaf (.block (.loop [5] (.seq (.seq .leaf (.cond .leaf .leaf)) (.seq (.block (.seq (.draw [0, 1, 2, 3, 4, 5, 6, 7, 8, 9]) (.cond (.seq .leaf .leaf) .leaf))) .leaf))))) (.seq .leaf .leaf))))) Try.func42 (by kernel_rfl) (by kernel_rfl) (by kernel_rfl) (by kernel_rfl : F_l_eqEdgeS R a0 a1 H = _) h
def F_s_PlayNear (R : V → Heap → Prop) (a0 : V) (H : Heap) : Prop :=
  bnd (lenOf a0) fun n1 =>
  bnd (aBinN .gtr (.int .i64 (n1 : Nat)) (.int .i64 300)) fun t2 =>
  cnd t2
  (bnd (fillZ [(.int .i64 0), (.int .i64 0), (.int .i64 0)] []) fun c3 =>
  bnd (stz 3 [(.int .i64 0), (.int .i64 0), (.int .i64 0)] 0 (.agg c3)) fun c4 =>
  bnd (partOf true 3 c4 0) fun t5 =>
  Ret R (.tup [t5, .nils]) H)
  (bnd (fillZ [(.int .i64 0), (.int .i64 0), (.int .i64 0)] []) fun c6 =>
  bnd (stz 3 [(.int .i64 0), (.int .i64 0), (.int .i64 0)] 0 (.agg c6)) fun c7 =>
  bnd (bsl 1 0 [(.int .i64 0)] []) fun r8 =>
  ∀ o9, H o9 = none →
  ∃ (I10 : Nat → List V → Heap → Prop) (n11 : Nat), Shr (I10 n11 [(.box [(.int .i64 0), (.int .i64 0), (.int .i64 0)]), (.box c7), (.slice o9 0 0 (some 0)), (.int .i64 0)]) (upd H o9 ⟨1, r8⟩) ∧
  ∀ n12 xs14 H15, I10 n12 xs14 H15 →
  bnd (lenOf a0) fun n16 =>
  bnd (aBinN .lss (xs14.tail.tail.tail.headD .any) (.int .i64 (n16 : Nat))) fun t17 =>
  cnd t17
  (∃ S18, Abs.sub S18 H15 ∧
  bnd (partOf true 3 (bc (xs14.tail.headD .any)) 0) fun t19 =>
  bnd (aIndex S18 3 a0 (xs14.tail.tail.tail.headD .any)) fun t20 =>
  bnd (aLd true 3 S18 t20) fun t21 =>
  ACalls P n_s_StepNear [t19, t21] H15 fun v22 H23 =>
  Abs.sub S18 H23 ∧
  bnd (aExtract 0 v22) fun t24 =>
  bnd (aExtract 1 v22) fun t25 =>
  bnd (stz 3 [(.int .i64 0), (.int .i64 0), (.int .i64 0)] 0 t24) fun c26 =>
  bnd (partOf true 3 c26 0) fun t27 =>
  bnd (stz 3 (bc (xs14.tail.headD .any)) 0 t27) fun c28 =>
  bnd (bsl 1 1 [(.int .i64 0)] [(0, t25)]) fun r29 =>
  ∀ o30, H23 o30 = none →
  bnd (rowsOf (upd H23 o30 ⟨1, r29⟩) 1 (.slice o30 0 1 (some 1))) fun r33 =>
  appendK (upd H23 o30 ⟨1, r29⟩) 1 8 (xs14.tail.tail.headD .any) r33 fun v31 H32 =>
  bnd (aBinN .add (xs14.tail.tail.tail.headD .any) (.int .i64 1)) fun t34 =>
  ∃ n13, n13 < n12 ∧ Shr (I10 n13 [(.box (bc (xs14.headD .any))), (.box c28), v31, t34]) H32)
  (bnd (partOf true 3 (bc (xs14.tail.headD .any)) 0) fun t35 =>
  bnd (stz 3 (bc (xs14.headD .any)) 0 t35) fun c36 =>
  bnd (partOf true 3 c36 0) fun t37 =>
  Ret R (.tup [t37, (xs14.tail.tail.headD .any)]) H15))
theorem W_s_PlayNear {R : V → Heap → Prop} {a0 : V} {H : Heap} (h : F_s_PlayNear R a0 H) : ACalls P n_s_PlayNear [a0] H R :=
  acalls_of_form (g := ⟨[2, 4, 7], []⟩) (x := (.seq .leaf (.seq (.seq .leaf (.cond (.seq .leaf .leaf) .leaf)) (.seq .leaf (.seq .leaf (.seq (.seq .leaf (.block (.loop [2, 4, 5, 6] (.seq (.seq .leaf (.cond .leaf .leaf)) (.seq (.block (.seq (.draw [0, 1, 2, 3, 4, 9, 5, 6, 7, 8, 10, 11]) (.seq .leaf .leaf))) .leaf))))) (.seq .leaf .leaf))))))) Try.func43 (by kernel_rfl) (by kernel_rfl) (by kernel_rfl) (by kernel_rfl : F_s_PlayNear R a0 H = _) h
def F_i_played (R : V → Heap → Prop) (a0 a1 : V) (H : Heap) : Prop :=
  bnd (fillZ [(.int .i64 0), (.int .i64 0), (.int .i64 0)] []) fun c1 =>
  bnd (stz 3 [(.int .i64 0), (.int .i64 0), (.int .i64 0)] 0 (.agg c1)) fun c2 =>
  bnd (lenOf a0) fun n3 =>
  ∃ (I4 : Nat → List V → Heap → Prop) (n5 : Nat), Shr (I4 n5 [(.box [(.int .i64 0), (.int .i64 0), (.int .i64 0)]), (.box c2), (.int .i64 0)]) H ∧
  ∀ n6 xs8 H9, I4 n6 xs8 H9 →
  bnd (aBinN .lss (xs8.tail.tail.headD .any) (.int .i64 (n3 : Nat))) fun t10 =>
  cnd t10
  (bnd (aIndex H9 3 a0 (xs8.tail.tail.headD .any)) fun t11 =>
  bnd (aLd true 3 H9 t11) fun t12 =>
  bnd (stz 3 [(.int .i64 0), (.int .i64 0), (.int .i64 0)] 0 t12) fun c13 =>
  bnd (partOf true 3 (bc (xs8.tail.headD .any)) 0) fun t14 =>
  bnd (partOf true 3 c13 0) fun t15 =>
  ACalls P n_i_StepNear [t14, t15] H9 fun v16 H17 =>
  bnd (aExtract 0 v16) fun t18 =>
  bnd (aExtract 1 v16) fun t19 =>
  bnd (stz 3 [(.int .i64 0), (.int .i64 0), (.int .i64 0)] 0 t18) fun c20 =>
  bnd (partOf true 3 (bc (xs8.tail.headD .any)) 0) fun t21 =>
  bnd (partOf true 3 c20 0) fun t22 =>
  callK P H17 a1 [(xs8.tail.tail.headD .any), t21, t22, t19] fun v23 H24 =>
  bnd (partOf true 3 c20 0) fun t25 =>
  bnd (stz 3 (bc (xs8.tail.headD .any)) 0 t25) fun c26 =>
  bnd (aBinN .add (xs8.tail.tail.headD .any) (.int .i64 1)) fun t27 =>
  ∃ n7, n7 < n6 ∧ Shr (I4 n7 [(.box (bc (xs8.headD .any))), (.box c26), t27]) H24)
  (bnd (partOf true 3 (bc (xs8.tail.headD .any)) 0) fun t28 =>
  bnd (stz 3 (bc (xs8.headD .any)) 0 t28) fun c29 =>
  bnd (partOf true 3 c29 0) fun t30 =>
  Ret R t30 H9)
theorem W_i_played {R : V → Heap → Prop} {a0 a1 : V} {H : Heap} (h : F_i_played R a0 a1 H) : ACalls P n_i_played [a0, a1] H R :=
  acalls_of_form (g := ⟨[4, 5, 7, 8], []⟩) (x := (.seq .leaf (.seq .leaf (.seq (.seq .leaf (.block (.loop [4, 5, 13] (.seq .leaf (.seq (.cond .leaf .leaf) (.seq (.block (.seq .leaf (.seq .leaf (.seq .leaf .leaf)))) .leaf)))))) (.seq .leaf .leaf))))) Try.func44 (by kernel_rfl) (by kernel_rfl) (by kernel_rfl) (by kernel_rfl : F_i_played R a0 a1 H = _) h
def F_i_Changes_1 (R : V → Heap → Prop) (a0 a1 a2 a3 a4 : V) (H : Heap) : Prop :=
  boxK a1 (boxK a2 (bnd (aLd false 1 H a4) fun t1 =>
  bnd (aBinN .add t1 a3) fun t2 =>
  bnd (aSt 1 H a4 t2) fun H3 =>
  Ret R (.tup []) H3))
theorem W_i_Changes_1 {R : V → Heap → Prop} {a0 a1 a2 a3 a4 : V} {H : Heap} (h : F_i_Changes_1 R a0 a1 a2 a3 a4 H) : ACalls P n_i_Changes_1 [a0, a1, a2, a3, a4] H R :=
  acalls_of_form (g := ⟨[6, 7], []⟩) (x := (.seq .leaf .leaf)) Try.func45 (by kernel_rfl) (by kernel_rfl) (by kernel_rfl) (by kernel_rfl : F_i_Changes_1 R a0 a1 a2 a3 a4 H = _) h
theorem E_i_Changes_1 : enterable P n_i_Changes_1 = true := by kernel_rfl
def F_l_eqNearEvent (R : V → Heap → Prop) (a0 a1 : V) (H : Heap) : Prop :=
  boxK a0 (boxK a1 (bnd (partOf false 1 (cellsOf a0) 0) fun t1 =>
  bnd (partOf false 1 (cellsOf a1) 0) fun t2 =>
  bnd (aBinN .neq t1 t2) fun t3 =>
  cnd t3
  (Ret R (.bool false) H)
  (bnd (partOf false 1 (cellsOf a0) 1) fun t4 =>
  bnd (partOf false 1 (cellsOf a1) 1) fun t5 =>
  bnd (aBinN .neq t4 t5) fun t6 =>
  cnd t6
  (Ret R (.bool false) H)
  (bnd (partOf false 1 (cellsOf a0) 2) fun t7 =>
  bnd (partOf false 1 (cellsOf a1) 2) fun t8 =>
  bnd (aBinN .neq t7 t8) fun t9 =>
  cnd t9
  (Ret R (.bool false) H)
  (Ret R (.bool true) H)))))
theorem W_l_eqNearEvent {R : V → Heap → Prop} {a0 a1 : V} {H : Heap} (h : F_l_eqNearEvent R a0 a1 H) : ACalls P n_l_eqNearEvent [a0, a1] H R :=
  acalls_of_form (g := ⟨[2, 3], [5, 7, 10, 12, 15, 17]⟩) (x := (.seq .leaf (.seq (.seq .leaf (.cond (.seq .leaf .leaf) .leaf)) (.seq (.seq .leaf (.cond (.seq .leaf .leaf) .leaf)) (.seq (.seq .leaf (.cond (.seq .leaf .leaf) .leaf)) (.seq .leaf .leaf)))))) Try.func46 (by kernel_rfl) (by kernel_rfl) (by kernel_rfl) (by kernel_rfl : F_l_eqNearEvent R a0 a1 H = _) h
def F_s_GraphOk (R : V → Heap → Prop) (a0 : V) (H : Heap) : Prop :=
  boxK a0 (bnd (partOf false 1 (cellsOf a0) 0) fun t1 =>
  ACalls P n_s_l01In [t1, (.int .i64 1), (.int .i64 10)] H fun v2 H3 =>
  bnd (aNot v2) fun t4 =>
  gd t4 false
  (bnd (partOf false 1 (cellsOf a0) 1) fun t5 =>
  bnd (lenOf t5) fun n6 =>
  bnd (aBinN .gtr (.int .i64 (n6 : Nat)) (.int .i64 60)) fun t7 =>
  cnd t7
  (Ret R (.bool false) H3)
  (∃ (I8 : Nat → List V → Heap → Prop) (n9 : Nat), Shr (I8 n9 [(.box (cellsOf a0)), (.int .i64 0)]) H3 ∧
  ∀ n10 xs12 H13, I8 n10 xs12 H13 →
  bnd (partOf false 1 (bc (xs12.headD .any)) 1) fun t14 =>
  bnd (lenOf t14) fun n15 =>
  bnd (aBinN .lss (xs12.tail.headD .any) (.int .i64 (n15 : Nat))) fun t16 =>
  cnd t16
  (bnd (partOf false 1 (bc (xs12.headD .any)) 1) fun t17 =>
  bnd (aIndex H13 3 t17 (xs12.tail.headD .any)) fun t18 =>
  bnd (aLd true 3 H13 t18) fun t19 =>
  bnd (stz 3 [(.int .i64 0), (.int .i64 0), (.int .i64 0)] 0 t19) fun c20 =>
  bnd (partOf true 2 (bc (xs12.headD .any)) 0) fun t21 =>
  bnd (partOf false 1 c20 0) fun t22 =>
  ACalls P n_s_l03Node [t21, t22] H13 fun v23 H24 =>
  bnd (aNot v23) fun t25 =>
  gd t25 false
  (bnd (partOf true 2 (bc (xs12.headD .any)) 0) fun t26 =>
  bnd (partOf false 1 c20 1) fun t27 =>
  ACalls P n_s_l03Node [t26, t27] H24 fun v28 H29 =>
  bnd (aNot v28) fun t30 =>
  gd t30 false
  (bnd (partOf false 1 c20 0) fun t31 =>
  bnd (partOf false 1 c20 1) fun t32 =>
  bnd (aBinN .eql t31 t32) fun t33 =>
  gd t33 false
  (bnd (partOf false 1 c20 2) fun t34 =>
  ACalls P n_s_l01In [t34, (.int .i64 1), (.int .i64 1000)] H29 fun v35 H36 =>
  bnd (aNot v35) fun t37 =>
  cnd t37
  (Ret R (.bool false) H36)
  (bnd (aBinN .gtr (xs12.tail.headD .any) (.int .i64 0)) fun t38 =>
  cnd t38
  (bnd (partOf false 1 (bc (xs12.headD .any)) 1) fun t39 =>
  bnd (aBinN .sub (xs12.tail.headD .any) (.int .i64 1)) fun t40 =>
  bnd (aIndex H36 3 t39 t40) fun t41 =>
  bnd (aLd true 3 H36 t41) fun t42 =>
  bnd (stz 3 [(.int .i64 0), (.int .i64 0), (.int .i64 0)] 0 t42) fun c43 =>
  bnd (partOf false 1 c43 0) fun t44 =>
  bnd (partOf false 1 c20 0) fun t45 =>
  bnd (aBinN .gtr t44 t45) fun t46 =>
  gd t46 false
  (bnd (partOf false 1 c43 0) fun t47 =>
  bnd (partOf false 1 c20 0) fun t48 =>
  bnd (aBinN .eql t47 t48) fun t49 =>
  gd t49 true
  (bnd (partOf false 1 c43 1) fun t50 =>
  bnd (partOf false 1 c20 1) fun t51 =>
  bnd (aBinN .geq t50 t51) fun t52 =>
  cnd t52
  (Ret R (.bool false) H36)
  (bnd (aBinN .add (xs12.tail.headD .any) (.int .i64 1)) fun t53 =>
  ∃ n11, n11 < n10 ∧ Shr (I8 n11 [(.box (bc (xs12.headD .any))), t53]) H36))
  (bnd (aBinN .add (xs12.tail.headD .any) (.int .i64 1)) fun t54 =>
  ∃ n11, n11 < n10 ∧ Shr (I8 n11 [(.box (bc (xs12.headD .any))), t54]) H36))
  (gd .any true
  (bnd (partOf false 1 c43 1) fun t55 =>
  bnd (partOf false 1 c20 1) fun t56 =>
  bnd (aBinN .geq t55 t56) fun t57 =>
  Ret R (.bool false) H36)
  (Ret R (.bool false) H36)))
  (bnd (aBinN .add (xs12.tail.headD .any) (.int .i64 1)) fun t58 =>
  ∃ n11, n11 < n10 ∧ Shr (I8 n11 [(.box (bc (xs12.headD .any))), t58]) H36)))
  (Ret R (.bool false) H29))
  (Ret R (.bool false) H29))
  (Ret R (.bool false) H24))
  (Ret R (.bool true) H13)))
  (Ret R (.bool false) H3))
theorem W_s_GraphOk {R : V → Heap → Prop} {a0 : V} {H : Heap} (h : F_s_GraphOk R a0 H) : ACalls P n_s_GraphOk [a0] H R :=
  acalls_of_form (g := ⟨[1, 4, 5], [6, 11, 17, 23, 29, 35, 41, 43, 48, 55, 61, 63, 67, 69, 73, 75]⟩) (x := (.seq .leaf (.seq (.seq .leaf (.cond (.seq .leaf .leaf) .leaf)) (.seq (.seq .leaf (.block (.loop [1, 3] (.seq (.seq .leaf (.cond .leaf .leaf)) (.seq (.block (.seq .leaf (.seq (.seq .leaf (.cond (.seq .leaf .leaf) .leaf)) (.seq .leaf (.cond (.seq .leaf (.seq .leaf (.cond (.seq .leaf .leaf) .leaf))) .leaf))))) .leaf))))) (.seq .leaf .leaf))))) Try.func47 (by kernel_rfl) (by kernel_rfl) (by kernel_rfl) (by kernel_rfl : F_s_GraphOk R a0 H = _) h
def F_s_l03Node (R : V → Heap → Prop) (a0 a1 : V) (H : Heap) : Prop :=
  boxK a0 (bnd (partOf false 1 (cellsOf a0) 0) fun t1 =>
  bnd (aBinN .sub t1 (.int .i64 1)) fun t2 =>
  ACalls P n_s_l01In [a1, (.int .i64 0), t2] H fun v3 H4 =>
  Ret R v3 H4)
theorem W_s_l03Node {R : V → Heap → Prop} {a0 a1 : V} {H : Heap} (h : F_s_l03Node R a0 a1 H) : ACalls P n_s_l03Node [a0, a1] H R :=
  acalls_of_form (g := ⟨[2], [6]⟩) (x := (.seq .leaf (.seq .leaf .leaf))) Try.func48 (by kernel_rfl) (by kernel_rfl) (by kernel_rfl) (by kernel_rfl : F_s_l03Node R a0 a1 H = _) h
def F_s_l03Cost (R : V → Heap → Prop) (a0 a1 a2 : V) (H : Heap) : Prop :=
  boxK a0 (bnd (partOf true 2 (cellsOf a0) 0) fun t1 =>
  ACalls P n_s_l03Node [t1, a1] H fun v2 H3 =>
  bnd (aNot v2) fun t4 =>
  gd t4 false
  (bnd (partOf true 2 (cellsOf a0) 0) fun t5 =>
  ACalls P n_s_l03Node [t5, a2] H3 fun v6 H7 =>
  bnd (aNot v6) fun t8 =>
  cnd t8
  (Ret R (.int .i64 1000000) H7)
  (bnd (aBinN .eql a1 a2) fun t9 =>
  cnd t9
  (Ret R (.int .i64 0) H7)
  (∃ (I10 : Nat → List V → Heap → Prop) (n11 : Nat), Shr (I10 n11 [(.int .i64 0)]) H7 ∧
  ∀ n12 xs14 H15, I10 n12 xs14 H15 →
  bnd (partOf false 1 (cellsOf a0) 1) fun t16 =>
  bnd (lenOf t16) fun n17 =>
  bnd (aBinN .lss (xs14.headD .any) (.int .i64 (n17 : Nat))) fun t18 =>
  cnd t18
  (bnd (partOf false 1 (cellsOf a0) 1) fun t19 =>
  bnd (aIndex H15 3 t19 (xs14.headD .any)) fun t20 =>
  bnd (aField 0 t20) fun t21 =>
  bnd (aLd false 1 H15 t21) fun t22 =>
  bnd (aBinN .eql t22 a1) fun t23 =>
  gd t23 true
  (bnd (partOf false 1 (cellsOf a0) 1) fun t24 =>
  bnd (aIndex H15 3 t24 (xs14.headD .any)) fun t25 =>
  bnd (aField 1 t25) fun t26 =>
  bnd (aLd false 1 H15 t26) fun t27 =>
  bnd (aBinN .eql t27 a2) fun t28 =>
  cnd t28
  (bnd (partOf false 1 (cellsOf a0) 1) fun t29 =>
  bnd (aIndex H15 3 t29 (xs14.headD .any)) fun t30 =>
  bnd (aField 2 t30) fun t31 =>
  bnd (aLd false 1 H15 t31) fun t32 =>
  Ret R t32 H15)
  (bnd (aBinN .add (xs14.headD .any) (.int .i64 1)) fun t33 =>
  ∃ n13, n13 < n12 ∧ Shr (I10 n13 [t33]) H15))
  (bnd (aBinN .add (xs14.headD .any) (.int .i64 1)) fun t34 =>
  ∃ n13, n13 < n12 ∧ Shr (I10 n13 [t34]) H15))
  (Ret R (.int .i64 1000000) H15))))
  (Ret R (.int .i64 1000000) H3))
theorem W_s_l03Cost {R : V → Heap → Prop} {a0 a1 a2 : V} {H : Heap} (h : F_s_l03Cost R a0 a1 a2 H) : ACalls P n_s_l03Cost [a0, a1, a2] H R :=
  acalls_of_form (g := ⟨[3], [22, 28, 37, 46]⟩) (x := (.seq .leaf (.seq (.seq .leaf (.cond (.seq .leaf .leaf) .leaf)) (.seq (.seq .leaf (.cond (.seq .leaf .leaf) .leaf)) (.seq (.seq .leaf (.block (.loop [7] (.seq (.seq .leaf (.cond .leaf .leaf)) (.seq (.block (.seq .leaf (.cond (.seq .leaf .leaf) .leaf))) .leaf))))) (.seq .leaf .leaf)))))) Try.func49 (by kernel_rfl) (by kernel_rfl) (by kernel_rfl) (by kernel_rfl : F_s_l03Cost R a0 a1 a2 H = _) h
def F_l_toEdge (R : V → Heap → Prop) (a0 : V) (H : Heap) : Prop :=
  boxK a0 (bnd (partOf false 1 (cellsOf a0) 0) fun t1 =>
  bnd (stz 1 [(.int .i64 0), (.int .i64 0), (.int .i64 0)] 0 t1) fun c2 =>
  bnd (partOf false 1 (cellsOf a0) 1) fun t3 =>
  bnd (stz 1 c2 1 t3) fun c4 =>
  bnd (partOf false 1 (cellsOf a0) 2) fun t5 =>
  bnd (stz 1 c4 2 t5) fun c6 =>
  bnd (partOf true 3 c6 0) fun t7 =>
  bnd (stz 3 [(.int .i64 0), (.int .i64 0), (.int .i64 0)] 0 t7) fun c8 =>
  bnd (partOf true 3 c8 0) fun t9 =>
  Ret R t9 H)
theorem W_l_toEdge {R : V → Heap → Prop} {a0 : V} {H : Heap} (h : F_l_toEdge R a0 H) : ACalls P n_l_toEdge [a0] H R :=
  acalls_of_form (g := ⟨[1, 2, 3], [4, 6, 7, 9, 10, 12]⟩) (x := (.seq .leaf (.seq .leaf (.seq .leaf (.seq .leaf (.seq .leaf (.seq .leaf .leaf))))))) Try.func50 (by kernel_rfl) (by kernel_rfl) (by kernel_rfl) (by kernel_rfl : F_l_toEdge R a0 H = _) h
def F_i_GraphOk (R : V → Heap → Prop) (a0 : V) (H : Heap) : Prop :=
  boxK a0 (bnd (partOf false 1 (cellsOf a0) 0) fun t1 =>
  ACalls P n_i_within [t1, (.int .i64 1), (.int .i64 10)] H fun v2 H3 =>
  bnd (aNot v2) fun t4 =>
  gd t4 false
  (bnd (partOf false 1 (cellsOf a0) 1) fun t5 =>
  bnd (lenOf t5) fun n6 =>
  bnd (aBinN .gtr (.int .i64 (n6 : Nat)) (.int .i64 60)) fun t7 =>
  cnd t7
  (Ret R (.bool false) H3)
  (bnd (partOf false 1 (cellsOf a0) 1) fun t8 =>
  bnd (lenOf t8) fun n9 =>
  ∃ (I10 : Nat → List V → Heap → Prop) (n11 : Nat), Shr (I10 n11 [(.box (cellsOf a0)), (.int .i64 0)]) H3 ∧
  ∀ n12 xs14 H15, I10 n12 xs14 H15 →
  bnd (aBinN .lss (xs14.tail.headD .any) (.int .i64 (n9 : Nat))) fun t16 =>
  cnd t16
  (bnd (aIndex H15 3 t8 (xs14.tail.headD .any)) fun t17 =>
  bnd (aLd true 3 H15 t17) fun t18 =>
  bnd (stz 3 [(.int .i64 0), (.int .i64 0), (.int .i64 0)] 0 t18) fun c19 =>
  ∃ S20, Abs.sub S20 H15 ∧
  bnd (partOf true 2 (bc (xs14.headD .any)) 0) fun t21 =>
  bnd (partOf false 1 c19 0) fun t22 =>
  ACalls P n_i_Graph_isNode [t21, t22] H15 fun v23 H24 =>
  Abs.sub S20 H24 ∧
  bnd (aNot v23) fun t25 =>
  gd t25 false
  (bnd (partOf true 2 (bc (xs14.headD .any)) 0) fun t26 =>
  bnd (partOf false 1 c19 1) fun t27 =>
  ACalls P n_i_Graph_isNode [t26, t27] H24 fun v28 H29 =>
  Abs.sub S20 H29 ∧
  bnd (aNot v28) fun t30 =>
  gd t30 false
  (bnd (partOf false 1 c19 0) fun t31 =>
  bnd (partOf false 1 c19 1) fun t32 =>
  bnd (aBinN .eql t31 t32) fun t33 =>
  gd t33 false
  (bnd (partOf false 1 c19 2) fun t34 =>
  ACalls P n_i_within [t34, (.int .i64 1), (.int .i64 1000)] H29 fun v35 H36 =>
  Abs.sub S20 H36 ∧
  bnd (aNot v35) fun t37 =>
  gd t37 false
  (bnd (aBinN .gtr (xs14.tail.headD .any) (.int .i64 0)) fun t38 =>
  gd t38 true
  (bnd (partOf false 1 (bc (xs14.headD .any)) 1) fun t39 =>
  bnd (aBinN .sub (xs14.tail.headD .any) (.int .i64 1)) fun t40 =>
  bnd (aIndex S20 3 t39 t40) fun t41 =>
  bnd (aLd true 3 S20 t41) fun t42 =>
  bnd (partOf true 3 c19 0) fun t43 =>
  ACalls P n_i_compareEdges [t42, t43] H36 fun v44 H45 =>
  Abs.sub S20 H45 ∧
  bnd (aBinN .geq v44 (.int .i64 0)) fun t46 =>
  cnd t46
  (Ret R (.bool false) H45)
  (bnd (aBinN .add (xs14.tail.headD .any) (.int .i64 1)) fun t47 =>
  ∃ n13, n13 < n12 ∧ Shr (I10 n13 [(.box (bc (xs14.headD .any))), t47]) H45))
  (bnd (aBinN .add (xs14.tail.headD .any) (.int .i64 1)) fun t48 =>
  ∃ n13, n13 < n12 ∧ Shr (I10 n13 [(.box (bc (xs14.headD .any))), t48]) H36))
  (gd .any true
  (bnd (partOf false 1 (bc (xs14.headD .any)) 1) fun t49 =>
  bnd (aBinN .sub (xs14.tail.headD .any) (.int .i64 1)) fun t50 =>
  bnd (aIndex S20 3 t49 t50) fun t51 =>
  bnd (aLd true 3 S20 t51) fun t52 =>
  bnd (partOf true 3 c19 0) fun t53 =>
  ACalls P n_i_compareEdges [t52, t53] H36 fun v54 H55 =>
  Abs.sub S20 H55 ∧
  bnd (aBinN .geq v54 (.int .i64 0)) fun t56 =>
  Ret R (.bool false) H55)
  (Ret R (.bool false) H36)))
  (gd .any true
  (bnd (partOf false 1 (bc (xs14.headD .any)) 1) fun t57 =>
  bnd (aBinN .sub (xs14.tail.headD .any) (.int .i64 1)) fun t58 =>
  bnd (aIndex S20 3 t57 t58) fun t59 =>
  bnd (aLd true 3 S20 t59) fun t60 =>
  bnd (partOf true 3 c19 0) fun t61 =>
  ACalls P n_i_compareEdges [t60, t61] H29 fun v62 H63 =>
  Abs.sub S20 H63 ∧
  bnd (aBinN .geq v62 (.int .i64 0)) fun t64 =>
  Ret R (.bool false) H63)
  (Ret R (.bool false) H29)))
  (gd .any true
  (bnd (partOf false 1 (bc (xs14.headD .any)) 1) fun t65 =>
  bnd (aBinN .sub (xs14.tail.headD .any) (.int .i64 1)) fun t66 =>
  bnd (aIndex S20 3 t65 t66) fun t67 =>
  bnd (aLd true 3 S20 t67) fun t68 =>
  bnd (partOf true 3 c19 0) fun t69 =>
  ACalls P n_i_compareEdges [t68, t69] H29 fun v70 H71 =>
  Abs.sub S20 H71 ∧
  bnd (aBinN .geq v70 (.int .i64 0)) fun t72 =>
  Ret R (.bool false) H71)
  (Ret R (.bool false) H29)))
  (gd .any true
  (bnd (partOf false 1 (bc (xs14.headD .any)) 1) fun t73 =>
  bnd (aBinN .sub (xs14.tail.headD .any) (.int .i64 1)) fun t74 =>
  bnd (aIndex S20 3 t73 t74) fun t75 =>
  bnd (aLd true 3 S20 t75) fun t76 =>
  bnd (partOf true 3 c19 0) fun t77 =>
  ACalls P n_i_compareEdges [t76, t77] H24 fun v78 H79 =>
  Abs.sub S20 H79 ∧
  bnd (aBinN .geq v78 (.int .i64 0)) fun t80 =>
  Ret R (.bool false) H79)
  (Ret R (.bool false) H24)))
  (Ret R (.bool true) H15)))
  (Ret R (.bool false) H3))
theorem W_i_GraphOk {R : V → Heap → Prop} {a0 : V} {H : Heap} (h : F_i_GraphOk R a0 H) : ACalls P n_i_GraphOk [a0] H R :=
  acalls_of_form (g := ⟨[1, 4], [5, 10, 15, 24, 30, 36, 38, 43, 52]⟩) (x := (.seq .leaf (.seq (.seq .leaf (.cond (.seq .leaf .leaf) .leaf)) (.seq (.seq .leaf (.block (.loop [1, 18] (.seq .leaf (.seq (.cond .leaf .leaf) (.seq (.block (.seq .leaf (.seq (.draw [0, 1, 2, 3, 4, 5, 6, 7, 8, 9, 10, 11, 12, 13, 14, 15, 16, 17, 18, 19, 20, 21, 22, 23, 24, 25, 26, 27, 28, 29, 30, 31, 32, 33, 34, 35, 36, 37, 38, 39]) (.cond (.seq .leaf .leaf) .leaf)))) .leaf)))))) (.seq .leaf .leaf))))) Try.func51 (by kernel_rfl) (by kernel_rfl) (by kernel_rfl) (by kernel_rfl : F_i_GraphOk R a0 H = _) h
def F_i_Graph_isNode (R : V → Heap → Prop) (a0 a1 : V) (H : Heap) : Prop :=
  boxK a0 (bnd (partOf false 1 (cellsOf a0) 0) fun t1 =>
  bnd (aBinN .sub t1 (.int .i64 1)) fun t2 =>
  ACalls P n_i_within [a1, (.int .i64 0), t2] H fun v3 H4 =>
  Ret R v3 H4)
theorem W_i_Graph_isNode {R : V → Heap → Prop} {a0 a1 : V} {H : Heap} (h : F_i_Graph_isNode R a0 a1 H) : ACalls P n_i_Graph_isNode [a0, a1] H R :=
  acalls_of_form (g := ⟨[2], [6]⟩) (x := (.seq .leaf (.seq .leaf .leaf))) Try.func52 (by kernel_rfl) (by kernel_rfl) (by kernel_rfl) (by kernel_rfl : F_i_Graph_isNode R a0 a1 H = _) h
def F_i_Graph_cost (R : V → Heap → Prop) (a0 a1 a2 : V) (H : Heap) : Prop :=
  boxK a0 (bnd (aBinN .eql a1 a2) fun t1 =>
  gd t1 true
  (bnd (partOf true 2 (cellsOf a0) 0) fun t2 =>
  ACalls P n_i_Graph_isNode [t2, a1] H fun v3 H4 =>
  cnd v3
  (Ret R (.int .i64 0) H4)
  (bnd (partOf false 1 (cellsOf a0) 1) fun t5 =>
  bnd (lenOf t5) fun n6 =>
  ∃ (I7 : Nat → List V → Heap → Prop) (n8 : Nat), Shr (I7 n8 [(.int .i64 0)]) H4 ∧
  ∀ n9 xs11 H12, I7 n9 xs11 H12 →
  bnd (aBinN .lss (xs11.headD .any) (.int .i64 (n6 : Nat))) fun t13 =>
  cnd t13
  (bnd (aIndex H12 3 t5 (xs11.headD .any)) fun t14 =>
  bnd (aLd true 3 H12 t14) fun t15 =>
  bnd (stz 3 [(.int .i64 0), (.int .i64 0), (.int .i64 0)] 0 t15) fun c16 =>
  bnd (partOf false 1 c16 0) fun t17 =>
  bnd (aBinN .eql t17 a1) fun t18 =>
  gd t18 true
  (bnd (partOf false 1 c16 1) fun t19 =>
  bnd (aBinN .eql t19 a2) fun t20 =>
  cnd t20
  (bnd (partOf false 1 c16 2) fun t21 =>
  Ret R t21 H12)
  (bnd (aBinN .add (xs11.headD .any) (.int .i64 1)) fun t22 =>
  ∃ n10, n10 < n9 ∧ Shr (I7 n10 [t22]) H12))
  (bnd (aBinN .add (xs11.headD .any) (.int .i64 1)) fun t23 =>
  ∃ n10, n10 < n9 ∧ Shr (I7 n10 [t23]) H12))
  (Ret R (.int .i64 1000000) H12)))
  (bnd (partOf false 1 (cellsOf a0) 1) fun t24 =>
  bnd (lenOf t24) fun n25 =>
  ∃ (I26 : Nat → List V → Heap → Prop) (n27 : Nat), Shr (I26 n27 [(.int .i64 0)]) H ∧
  ∀ n28 xs30 H31, I26 n28 xs30 H31 →
  bnd (aBinN .lss (xs30.headD .any) (.int .i64 (n25 : Nat))) fun t32 =>
  cnd t32
  (bnd (aIndex H31 3 t24 (xs30.headD .any)) fun t33 =>
  bnd (aLd true 3 H31 t33) fun t34 =>
  bnd (stz 3 [(.int .i64 0), (.int .i64 0), (.int .i64 0)] 0 t34) fun c35 =>
  bnd (partOf false 1 c35 0) fun t36 =>
  bnd (aBinN .eql t36 a1) fun t37 =>
  gd t37 true
  (bnd (partOf false 1 c35 1) fun t38 =>
  bnd (aBinN .eql t38 a2) fun t39 =>
  cnd t39
  (bnd (partOf false 1 c35 2) fun t40 =>
  Ret R t40 H31)
  (bnd (aBinN .add (xs30.headD .any) (.int .i64 1)) fun t41 =>
  ∃ n29, n29 < n28 ∧ Shr (I26 n29 [t41]) H31))
  (bnd (aBinN .add (xs30.headD .any) (.int .i64 1)) fun t42 =>
  ∃ n29, n29 < n28 ∧ Shr (I26 n29 [t42]) H31))
  (Ret R (.int .i64 1000000) H31)))
theorem W_i_Graph_cost {R : V → Heap → Prop} {a0 a1 a2 : V} {H : Heap} (h : F_i_Graph_cost R a0 a1 a2 H) : ACalls P n_i_Graph_cost [a0, a1, a2] H R :=
  acalls_of_form (g := ⟨[3, 8], [17, 24, 29, 34]⟩) (x := (.seq .leaf (.seq (.seq .leaf (.cond (.seq .leaf .leaf) .leaf)) (.seq (.seq .leaf (.block (.loop [20] (.seq .leaf (.seq (.cond .leaf .leaf) (.seq (.block (.seq .leaf (.seq .leaf (.cond (.seq .leaf .leaf) .leaf)))) .leaf)))))) (.seq .leaf .leaf))))) Try.func53 (by kernel_rfl) (by kernel_rfl) (by kernel_rfl) (by kernel_rfl : F_i_Graph_cost R a0 a1 a2 H = _) h
def F_l_eqEdge (R : V → Heap → Prop) (a0 a1 : V) (H : Heap) : Prop :=
  boxK a0 (boxK a1 (bnd (partOf false 1 (cellsOf a0) 0) fun t1 =>
  bnd (partOf false 1 (cellsOf a1) 0) fun t2 =>
  bnd (aBinN .neq t1 t2) fun t3 =>
  cnd t3
  (Ret R (.bool false) H)
  (bnd (partOf false 1 (cellsOf a0) 1) fun t4 =>
  bnd (partOf false 1 (cellsOf a1) 1) fun t5 =>
  bnd (aBinN .neq t4 t5) fun t6 =>
  cnd t6
  (Ret R (.bool false) H)
  (bnd (partOf false 1 (cellsOf a0) 2) fun t7 =>
  bnd (partOf false 1 (cellsOf a1) 2) fun t8 =>
  bnd (aBinN .neq t7 t8) fun t9 =>
  cnd t9
  (Ret R (.bool false) H)
  (Ret R (.bool true) H)))))
theorem W_l_eqEdge {R : V → Heap → Prop} {a0 a1 : V} {H : Heap} (h : F_l_eqEdge R a0 a1 H) : ACalls P n_l_eqEdge [a0, a1] H R :=
  acalls_of_form (g := ⟨[2, 3], [5, 7, 10, 12, 15, 17]⟩) (x := (.seq .leaf (.seq (.seq .leaf (.cond (.seq .leaf .leaf) .leaf)) (.seq (.seq .leaf (.cond (.seq .leaf .leaf) .leaf)) (.seq (.seq .leaf (.cond (.seq .leaf .leaf) .leaf)) (.seq .leaf .leaf)))))) Try.func54 (by kernel_rfl) (by kernel_rfl) (by kernel_rfl) (by kernel_rfl : F_l_eqEdge R a0 a1 H = _) h
def F_i_compareEdges (R : V → Heap → Prop) (a0 a1 : V) (H : Heap) : Prop :=
  boxK a0 (boxK a1 (bnd (partOf false 1 (cellsOf a0) 0) fun t1 =>
  bnd (partOf false 1 (cellsOf a1) 0) fun t2 =>
  bnd (aBinN .neq t1 t2) fun t3 =>
  cnd t3
  (bnd (partOf false 1 (cellsOf a0) 0) fun t4 =>
  bnd (partOf false 1 (cellsOf a1) 0) fun t5 =>
  bnd (aBinN .sub t4 t5) fun t6 =>
  Ret R t6 H)
  (bnd (partOf false 1 (cellsOf a0) 1) fun t7 =>
  bnd (partOf false 1 (cellsOf a1) 1) fun t8 =>
  bnd (aBinN .sub t7 t8) fun t9 =>
  Ret R t9 H)))
theorem W_i_compareEdges {R : V → Heap → Prop} {a0 a1 : V} {H : Heap} (h : F_i_compareEdges R a0 a1 H) : ACalls P n_i_compareEdges [a0, a1] H R :=
  acalls_of_form (g := ⟨[2, 3], [5, 7, 10, 12, 15, 17]⟩) (x := (.seq .leaf (.seq (.seq .leaf (.cond (.seq .leaf .leaf) .leaf)) (.seq .leaf .leaf)))) Try.func55 (by kernel_rfl) (by kernel_rfl) (by kernel_rfl) (by kernel_rfl : F_i_compareEdges R a0 a1 H = _) h
end Go.Proofs.Ytgojmjelgngimaa
