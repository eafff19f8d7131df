/-
The shallow forms of the functions; printed by a program.
-/
import Derived.Test.YtipdfhjilegkcaaAbs3
import Derived.Test.YtipdfhjilegkcaaProg
import Derived.KernelRfl
set_option linter.all false
namespace Go.Proofs.Ytipdfhjilegkcaa
open Go Go.Abs Go.Proofs
set_option maxRecDepth 100000
noncomputable abbrev P : Program := Try.prog
abbrev n_gosem_cut_init : FuncId := 2
abbrev n_l_FnSafeOrder : FuncId := 3
abbrev n_l_FnExactCountBad : FuncId := 4
abbrev n_l_FnRemote : FuncId := 5
abbrev n_l_FnExactWalkAround : FuncId := 6
abbrev n_l_FnAround : FuncId := 7
abbrev n_l_big : FuncId := 8
abbrev n_s_DrawCountBad : FuncId := 9
abbrev n_s_SafeOrder : FuncId := 10
abbrev n_l_same : FuncId := 11
abbrev n_i_SafeOrder : FuncId := 12
abbrev n_i_CountBad : FuncId := 13
abbrev n_s_CountBad : FuncId := 14
abbrev n_s_FirstLoop : FuncId := 15
abbrev n_i_FirstLoop : FuncId := 16
abbrev n_l_szGraph : FuncId := 17
abbrev n_l_toGraph : FuncId := 18
abbrev n_l_eqGraph : FuncId := 19
abbrev n_s_DrawRemote : FuncId := 20
abbrev n_i_Remote : FuncId := 21
abbrev n_s_Remote : FuncId := 22
abbrev n_s_Without : FuncId := 23
abbrev n_s_Distances : FuncId := 24
abbrev n_s_Alternates : FuncId := 25
abbrev n_i_NodeSafe : FuncId := 26
abbrev n_s_NodeSafe : FuncId := 27
abbrev n_i_OnWay : FuncId := 28
abbrev n_s_WalkAround : FuncId := 29
abbrev n_i_WalkAround : FuncId := 30
abbrev n_l_eqIntS : FuncId := 31
abbrev n_l_markGraph : FuncId := 32
abbrev n_l_markIntS : FuncId := 33
abbrev n_l_heldIntS : FuncId := 34
abbrev n_s_DrawWalkAround : FuncId := 35
abbrev n_i_Alternates : FuncId := 36
abbrev n_i_BestAlternate : FuncId := 37
abbrev n_i_LoopFree : FuncId := 38
abbrev n_i_WayCost : FuncId := 39
abbrev n_s_l01New : FuncId := 40
abbrev n_s_l11DrawTwo : FuncId := 41
abbrev n_s_l03DrawNode : FuncId := 42
abbrev n_s_GraphOk : FuncId := 43
abbrev n_s_l03Node : FuncId := 44
abbrev n_s_l01Has : FuncId := 45
abbrev n_i_GraphOk : FuncId := 46
abbrev n_i_Graph_isNode : FuncId := 47
abbrev n_i_Graph_all : FuncId := 48
abbrev n_slices_SortStableFunc_int_int : FuncId := 49
abbrev n_i_SafeOrder_1 : FuncId := 50
abbrev n_i_areMixed : FuncId := 51
abbrev n_i_Graph_hopsFor : FuncId := 52
abbrev n_i_permuted : FuncId := 53
abbrev n_i_CountBad_1 : FuncId := 54
abbrev n_i_firstLoop : FuncId := 55
abbrev n_s_l11Fine : FuncId := 56
abbrev n_s_HopOf : FuncId := 57
abbrev n_s_MixedHops : FuncId := 58
abbrev n_s_l11Bad : FuncId := 59
abbrev n_s_LoopsIn : FuncId := 60
abbrev n_l_szEdgeS : FuncId := 61
abbrev n_l_toEdgeS : FuncId := 62
abbrev n_l_eqEdgeS : FuncId := 63
abbrev n_s_DrawLoopFree : FuncId := 64
abbrev n_i_isAround : FuncId := 65
abbrev n_i_Graph_isNear : FuncId := 66
abbrev n_i_Graph_uses : FuncId := 67
abbrev n_s_l10Good : FuncId := 68
abbrev n_s_l10Near : FuncId := 69
abbrev n_s_l10Dist : FuncId := 70
abbrev n_s_l10Over : FuncId := 71
abbrev n_s_l03Copy : FuncId := 72
abbrev n_s_LoopFree : FuncId := 73
abbrev n_slices_Contains_int_int : FuncId := 74
abbrev n_i_Graph_alternates : FuncId := 75
abbrev n_i_onWay : FuncId := 76
abbrev n_s_BestAlternate : FuncId := 77
abbrev n_s_CheapestWay : FuncId := 78
abbrev n_i_Graph_cheapest : FuncId := 79
abbrev n_l_markEdgeS : FuncId := 80
abbrev n_i_Graph_bestAlternate : FuncId := 81
abbrev n_i_Graph_loopFree : FuncId := 82
abbrev n_i_within : FuncId := 83
abbrev n_i_Graph_cost : FuncId := 84
abbrev n_s_l10DrawGraph : FuncId := 85
abbrev n_s_l01Below : FuncId := 86
abbrev n_s_l01Once : FuncId := 87
abbrev n_s_l03Put : FuncId := 88
abbrev n_s_l01PickInt : FuncId := 89
abbrev n_s_l01In : FuncId := 90
abbrev n_i_compareEdges : FuncId := 91
abbrev n_i_Graph_distances : FuncId := 92
abbrev n_slices_stableCmpFunc_int : FuncId := 93
abbrev n_i_Graph_hopOf : FuncId := 94
abbrev n_slices_Clip_int_int : FuncId := 95
abbrev n_i_LoopsIn : FuncId := 96
abbrev n_i_mixed : FuncId := 97
abbrev n_s_HopsTo : FuncId := 98
abbrev n_s_l01Copy : FuncId := 99
abbrev n_l_toEdge : FuncId := 100
abbrev n_l_eqEdge : FuncId := 101
abbrev n_s_l10DrawNear : FuncId := 102
abbrev n_slices_ContainsFunc_i_Edge_i_Edge : FuncId := 103
abbrev n_i_isAround_1 : FuncId := 104
abbrev n_i_Graph_isBoth : FuncId := 105
abbrev n_slices_ContainsFunc_int_int : FuncId := 106
abbrev n_i_isAround_2 : FuncId := 107
abbrev n_i_Graph_uses_1 : FuncId := 108
abbrev n_s_l03Cost : FuncId := 109
abbrev n_slices_Index_int_int : FuncId := 110
abbrev n_s_l03Steps : FuncId := 111
abbrev n_i_Graph_steps : FuncId := 112
abbrev n_s_l01Size : FuncId := 113
abbrev n_s_l03Bend : FuncId := 114
abbrev n_s_l01Byte : FuncId := 115
abbrev n_slices_Repeat_int_int : FuncId := 116
abbrev n_slices_insertionSortCmpFunc_int : FuncId := 117
abbrev n_slices_symMergeCmpFunc_int : FuncId := 118
abbrev n_i_Graph_hopsTo : FuncId := 119
abbrev n_slices_Clone_int_int : FuncId := 120
abbrev n_slices_IndexFunc_i_Edge_i_Edge : FuncId := 121
abbrev n_slices_IndexFunc_int_int : FuncId := 122
abbrev n_math_bits_Mul : FuncId := 123
abbrev n_slices_rotateCmpFunc_int : FuncId := 124
abbrev n_math_bits_Mul32 : FuncId := 125
abbrev n_math_bits_Mul64 : FuncId := 126
abbrev n_slices_swapRangeCmpFunc_int : FuncId := 127
def F_l_FnRemote (R : V → Heap → Prop) (a0 : V) (H : Heap) : Prop :=
  ACalls P n_l_big [a0] H fun v1 H2 =>
  cnd v1
  (Ret R (.bool true) H2)
  (ACalls P n_s_DrawRemote [a0] H2 fun v3 H4 =>
  bnd (aExtract 0 v3) fun t5 =>
  bnd (aExtract 1 v3) fun t6 =>
  bnd (aExtract 2 v3) fun t7 =>
  bnd (aExtract 3 v3) fun t8 =>
  bnd (stz 2 [(.int .i64 0), .nils] 0 t5) fun c9 =>
  bnd (partOf true 2 c9 0) fun t10 =>
  ACalls P n_i_Remote [t10, t6, t7, t8] H4 fun v11 H12 =>
  bnd (partOf true 2 c9 0) fun t13 =>
  ACalls P n_s_Remote [t13, t6, t7, t8] H12 fun v14 H15 =>
  ACalls P n_l_same [v11, v14] H15 fun v16 H17 =>
  bnd (aNot v16) fun t18 =>
  cnd t18
  (Ret R (.bool false) H17)
  (bnd (partOf true 2 c9 0) fun t19 =>
  ACalls P n_s_Without [t19, t6, t7] H17 fun v20 H21 =>
  bnd (aExtract 0 v20) fun t22 =>
  bnd (aExtract 1 v20) fun t23 =>
  bnd (stz 2 [(.int .i64 0), .nils] 0 t22) fun c24 =>
  ∃ (I25 : Nat → List V → Heap → Prop) (n26 : Nat), Shr (I25 n26 [(.int .i64 0)]) H21 ∧
  ∀ n27 xs29 H30, I25 n27 xs29 H30 →
  bnd (lenOf v11) fun n31 =>
  bnd (aBinN .lss (xs29.headD .any) (.int .i64 (n31 : Nat))) fun t32 =>
  cnd t32
  (∃ S33, Abs.sub S33 H30 ∧
  bnd (partOf true 2 c24 0) fun t34 =>
  bnd (aIndex S33 1 v11 (xs29.headD .any)) fun t35 =>
  bnd (aLd false 1 S33 t35) fun t36 =>
  bnd (partOf true 2 c9 0) fun t37 =>
  bnd (aIndex S33 1 v11 (xs29.headD .any)) fun t38 =>
  bnd (aLd false 1 S33 t38) fun t39 =>
  ACalls P n_s_Distances [t34, t6] H30 fun v40 H41 =>
  Abs.sub S33 H41 ∧
  ∃ S42, Abs.sub S33 S42 ∧ Abs.sub S42 H41 ∧
  bnd (aIndex S42 1 v40 t36) fun t43 =>
  bnd (aLd false 1 S42 t43) fun t44 =>
  ACalls P n_s_Distances [t37, t6] H41 fun v45 H46 =>
  Abs.sub S42 H46 ∧
  ∃ S47, Abs.sub S42 S47 ∧ Abs.sub S47 H46 ∧
  bnd (aIndex S47 1 v45 t39) fun t48 =>
  bnd (aLd false 1 S47 t48) fun t49 =>
  bnd (aBinN .neq t44 t49) fun t50 =>
  gd t50 false
  (bnd (partOf true 2 c24 0) fun t51 =>
  bnd (aIndex S47 1 v11 (xs29.headD .any)) fun t52 =>
  bnd (aLd false 1 S47 t52) fun t53 =>
  bnd (partOf true 2 c9 0) fun t54 =>
  bnd (aIndex S47 1 v11 (xs29.headD .any)) fun t55 =>
  bnd (aLd false 1 S47 t55) fun t56 =>
  ACalls P n_s_Distances [t51, t53] H46 fun v57 H58 =>
  Abs.sub S47 H58 ∧
  ∃ S59, Abs.sub S47 S59 ∧ Abs.sub S59 H58 ∧
  bnd (aIndex S59 1 v57 t8) fun t60 =>
  bnd (aLd false 1 S59 t60) fun t61 =>
  ACalls P n_s_Distances [t54, t56] H58 fun v62 H63 =>
  Abs.sub S59 H63 ∧
  ∃ S64, Abs.sub S59 S64 ∧ Abs.sub S64 H63 ∧
  bnd (aIndex S64 1 v62 t8) fun t65 =>
  bnd (aLd false 1 S64 t65) fun t66 =>
  bnd (aBinN .neq t61 t66) fun t67 =>
  cnd t67
  (Ret R (.bool false) H63)
  (bnd (aBinN .add (xs29.headD .any) (.int .i64 1)) fun t68 =>
  ∃ n28, n28 < n27 ∧ Shr (I25 n28 [t68]) H63))
  (∃ S69, Abs.sub S47 S69 ∧ Abs.sub S69 H46 ∧
  ∃ S70, Abs.sub S69 S70 ∧ Abs.sub S70 H46 ∧
  Ret R (.bool false) H46))
  (bnd (partOf true 2 c9 0) fun t71 =>
  ACalls P n_s_Alternates [t71, t6, t7, t8] H30 fun v72 H73 =>
  ∃ (I74 : Nat → List V → Heap → Prop) (n75 : Nat), Shr (I74 n75 [(.int .i64 0)]) H73 ∧
  ∀ n76 xs78 H79, I74 n76 xs78 H79 →
  bnd (lenOf v72) fun n80 =>
  bnd (aBinN .lss (xs78.headD .any) (.int .i64 (n80 : Nat))) fun t81 =>
  cnd t81
  (∃ S82, Abs.sub S82 H79 ∧
  bnd (partOf true 2 c9 0) fun t83 =>
  bnd (aIndex S82 1 v72 (xs78.headD .any)) fun t84 =>
  bnd (aLd false 1 S82 t84) fun t85 =>
  ACalls P n_i_NodeSafe [t83, t6, t85, t7, t8] H79 fun v86 H87 =>
  Abs.sub S82 H87 ∧
  ∃ S88, Abs.sub S82 S88 ∧ Abs.sub S88 H87 ∧
  ∃ S89, Abs.sub S89 H87 ∧
  bnd (partOf true 2 c9 0) fun t90 =>
  bnd (aIndex S89 1 v72 (xs78.headD .any)) fun t91 =>
  bnd (aLd false 1 S89 t91) fun t92 =>
  ACalls P n_s_NodeSafe [t90, t6, t92, t7, t8] H87 fun v93 H94 =>
  Abs.sub S89 H94 ∧
  ∃ S95, Abs.sub S89 S95 ∧ Abs.sub S95 H94 ∧
  bnd (aBinB .neq v86 v93) fun t96 =>
  gd t96 false
  (gd3 v86 true
  (bnd (partOf true 2 c9 0) fun t97 =>
  bnd (aIndex S95 1 v72 (xs78.headD .any)) fun t98 =>
  bnd (aLd false 1 S95 t98) fun t99 =>
  ACalls P n_i_OnWay [t97, t99, t8, t7] H94 fun v100 H101 =>
  Abs.sub S95 H101 ∧
  ∃ S102, Abs.sub S95 S102 ∧ Abs.sub S102 H101 ∧
  cnd v100
  (Ret R (.bool false) H101)
  (bnd (aBinN .add (xs78.headD .any) (.int .i64 1)) fun t103 =>
  ∃ n77, n77 < n76 ∧ Shr (I74 n77 [t103]) H101))
  (∃ S104, Abs.sub S95 S104 ∧ Abs.sub S104 H94 ∧
  bnd (aBinN .add (xs78.headD .any) (.int .i64 1)) fun t105 =>
  ∃ n77, n77 < n76 ∧ Shr (I74 n77 [t105]) H94)
  (∃ S106, Abs.sub S95 S106 ∧ Abs.sub S106 H94 ∧
  bnd (aPick (.tup []) (.tup []) (.bool false)) fun t107 =>
  cnd t107
  (Ret R (.bool false) H94)
  (bnd (aBinN .add (xs78.headD .any) (.int .i64 1)) fun t108 =>
  ∃ n77, n77 < n76 ∧ Shr (I74 n77 [t108]) H94)))
  (∃ S109, Abs.sub S95 S109 ∧ Abs.sub S109 H94 ∧
  Ret R (.bool false) H94))
  (Ret R (.bool true) H79))))
theorem W_l_FnRemote {R : V → Heap → Prop} {a0 : V} {H : Heap} (h : F_l_FnRemote R a0 H) : ACalls P n_l_FnRemote [a0] H R :=
  acalls_of_form (g := ⟨[3, 8], []⟩) (x := (.seq .leaf (.seq (.seq .leaf (.cond (.seq .leaf .leaf) .leaf)) (.seq .leaf (.seq .leaf (.seq (.seq .leaf (.cond (.seq .leaf .leaf) .leaf)) (.seq .leaf (.seq (.seq .leaf (.block (.loop [10] (.seq (.seq .leaf (.cond .leaf .leaf)) (.seq (.block (.seq (.drawg [0, 1, 3, 4, 5, 6, 9, 10, 12, 13, 14, 15, 2, 7, 8, 11, 16, 17, 18, 19, 20, 21, 22, 23, 24, 26, 29, 30, 31, 32, 33, 35, 25, 27, 28, 34, 36, 37, 38, 39]) (.cond (.seq .leaf .leaf) .leaf))) .leaf))))) (.seq .leaf (.seq (.seq .leaf (.block (.loop [12] (.seq (.seq .leaf (.cond .leaf .leaf)) (.seq (.block (.seq (.drawg [0, 1, 2, 3, 4, 5, 6, 7, 8, 9]) (.seq (.drawg [0, 1, 2, 3, 4, 5, 6, 7, 8, 9, 10, 11, 12, 13, 14, 15, 16, 17, 18, 19, 20, 21, 22, 23]) (.cond (.seq .leaf .leaf) .leaf)))) .leaf))))) (.seq .leaf .leaf))))))))))) Try.func5 (by kernel_rfl) (by kernel_rfl) (by kernel_rfl) (by kernel_rfl : F_l_FnRemote R a0 H = _) h
def F_l_FnExactWalkAround (R : V → Heap → Prop) (a0 a1 a2 a3 : V) (H : Heap) : Prop :=
  boxK a0 (bnd (partOf true 2 (cellsOf a0) 0) fun t1 =>
  ACalls P n_l_szGraph [t1, (.int .i64 1048576)] H fun v2 H3 =>
  bnd (aBinN .lss v2 (.int .i64 0)) fun t4 =>
  cnd t4
  (Ret R (.bool true) H3)
  (bnd (partOf true 2 (cellsOf a0) 0) fun t5 =>
  ACalls P n_l_toGraph [t5] H3 fun v6 H7 =>
  ACalls P n_s_WalkAround [v6, a1, a2, a3] H7 fun v8 H9 =>
  bnd (aExtract 0 v8) fun t10 =>
  bnd (aExtract 1 v8) fun t11 =>
  bnd (partOf true 2 (cellsOf a0) 0) fun t12 =>
  ACalls P n_l_toGraph [t12] H9 fun v13 H14 =>
  bnd (stz 2 [(.int .i64 0), .nils] 0 v13) fun c15 =>
  bnd (partOf true 2 c15 0) fun t16 =>
  ACalls P n_i_WalkAround [t16, a1, a2, a3] H14 fun v17 H18 =>
  bnd (aExtract 0 v17) fun t19 =>
  bnd (aExtract 1 v17) fun t20 =>
  ACalls P n_l_eqIntS [t19, t10] H18 fun v21 H22 =>
  bnd (aNot v21) fun t23 =>
  gd t23 false
  (bnd (aBinB .neq t20 t11) fun t24 =>
  cnd t24
  (Ret R (.bool false) H22)
  (∃ S25, Abs.sub S25 H22 ∧
  bnd (partOf true 2 c15 0) fun t26 =>
  bnd (partOf true 2 (cellsOf a0) 0) fun t27 =>
  ACalls P n_l_toGraph [t27] H22 fun v28 H29 =>
  Abs.sub S25 H29 ∧
  ACalls P n_l_eqGraph [t26, v28] H29 fun v30 H31 =>
  Abs.sub S25 H31 ∧
  bnd (aNot v30) fun t32 =>
  cnd t32
  (Ret R (.bool false) H31)
  (bnd (partOf true 2 c15 0) fun t33 =>
  ACalls P n_l_markGraph [t33, (.int .i64 1)] H31 fun v34 H35 =>
  bnd (aBinN .lss v34 (.int .i64 0)) fun t36 =>
  gd t36 false
  (ACalls P n_l_eqIntS [t19, t10] H35 fun v37 H38 =>
  bnd (aNot v37) fun t39 =>
  gd t39 false
  (bnd (aBinB .neq t20 t11) fun t40 =>
  cnd t40
  (Ret R (.bool false) H38)
  (ACalls P n_l_markIntS [t19, (.int .i64 1)] H38 fun v41 H42 =>
  ACalls P n_l_heldIntS [t19, (.int .i64 1)] H42 fun v43 H44 =>
  bnd (aBinN .lss v43 (.int .i64 0)) fun t45 =>
  cnd t45
  (Ret R (.bool false) H44)
  (bnd (aBinN .neq v43 v41) fun t46 =>
  cnd t46
  (Ret R (.bool false) H44)
  (bnd (partOf true 2 (cellsOf a0) 0) fun t47 =>
  ACalls P n_l_toGraph [t47] H44 fun v48 H49 =>
  ACalls P n_i_WalkAround [v48, a1, a2, a3] H49 fun v50 H51 =>
  bnd (aExtract 0 v50) fun t52 =>
  bnd (aExtract 1 v50) fun t53 =>
  ACalls P n_l_eqIntS [t52, t10] H51 fun v54 H55 =>
  bnd (aNot v54) fun t56 =>
  gd t56 false
  (bnd (aBinB .neq t53 t11) fun t57 =>
  cnd t57
  (Ret R (.bool false) H55)
  (ACalls P n_l_heldIntS [t19, (.int .i64 1)] H55 fun v58 H59 =>
  bnd (aBinN .lss v58 (.int .i64 0)) fun t60 =>
  cnd t60
  (Ret R (.bool false) H59)
  (bnd (aBinN .neq v58 v41) fun t61 =>
  cnd t61
  (Ret R (.bool false) H59)
  (Ret R (.bool true) H59))))
  (Ret R (.bool false) H55)))))
  (Ret R (.bool false) H38))
  (Ret R (.bool false) H35))))
  (Ret R (.bool false) H22)))
theorem W_l_FnExactWalkAround {R : V → Heap → Prop} {a0 a1 a2 a3 : V} {H : Heap} (h : F_l_FnExactWalkAround R a0 a1 a2 a3 H) : ACalls P n_l_FnExactWalkAround [a0, a1, a2, a3] H R :=
  acalls_of_form (g := ⟨[4, 12], []⟩) (x := (.seq .leaf (.seq .leaf (.seq .leaf (.seq (.seq .leaf (.cond (.seq .leaf .leaf) .leaf)) (.seq .leaf (.seq .leaf (.seq .leaf (.seq (.seq .leaf (.cond (.seq .leaf .leaf) .leaf)) (.seq (.seq (.draw [0, 1, 2, 3, 4]) (.cond (.seq .leaf .leaf) .leaf)) (.seq .leaf (.seq .leaf (.seq (.seq .leaf (.cond (.seq .leaf .leaf) .leaf)) (.seq .leaf (.seq .leaf (.seq .leaf (.seq .leaf (.seq (.seq .leaf (.cond (.seq .leaf .leaf) .leaf)) (.seq (.seq .leaf (.cond (.seq .leaf .leaf) .leaf)) (.seq .leaf (.seq (.seq .leaf (.cond (.seq .leaf .leaf) .leaf)) (.seq .leaf (.seq .leaf (.seq (.seq .leaf (.cond (.seq .leaf .leaf) .leaf)) (.seq (.seq .leaf (.cond (.seq .leaf .leaf) .leaf)) (.seq .leaf .leaf)))))))))))))))))))))))))) Try.func6 (by kernel_rfl) (by kernel_rfl) (by kernel_rfl) (by kernel_rfl : F_l_FnExactWalkAround R a0 a1 a2 a3 H = _) h
def F_l_FnAround (R : V → Heap → Prop) (a0 : V) (H : Heap) : Prop :=
  ACalls P n_l_big [a0] H fun v1 H2 =>
  cnd v1
  (Ret R (.bool true) H2)
  (ACalls P n_s_DrawWalkAround [a0] H2 fun v3 H4 =>
  bnd (aExtract 0 v3) fun t5 =>
  bnd (aExtract 1 v3) fun t6 =>
  bnd (aExtract 2 v3) fun t7 =>
  bnd (aExtract 3 v3) fun t8 =>
  bnd (stz 2 [(.int .i64 0), .nils] 0 t5) fun c9 =>
  bnd (partOf true 2 c9 0) fun t10 =>
  ACalls P n_s_WalkAround [t10, t6, t7, t8] H4 fun v11 H12 =>
  bnd (aExtract 0 v11) fun t13 =>
  bnd (aExtract 1 v11) fun t14 =>
  bnd (partOf true 2 c9 0) fun t15 =>
  ACalls P n_i_WalkAround [t15, t6, t7, t8] H12 fun v16 H17 =>
  bnd (aExtract 0 v16) fun t18 =>
  bnd (aExtract 1 v16) fun t19 =>
  ∃ S20, Abs.sub S20 H17 ∧
  bnd (aBinB .neq t19 t14) fun t21 =>
  gd t21 false
  (ACalls P n_l_same [t18, t13] H17 fun v22 H23 =>
  Abs.sub S20 H23 ∧
  ∃ S24, Abs.sub S20 S24 ∧ Abs.sub S24 H23 ∧
  bnd (aNot v22) fun t25 =>
  gd t25 false
  (bnd (partOf true 2 c9 0) fun t26 =>
  bnd (partOf true 2 c9 0) fun t27 =>
  ACalls P n_i_Alternates [t26, t6, t7, t8] H23 fun v28 H29 =>
  Abs.sub S24 H29 ∧
  ∃ S30, Abs.sub S24 S30 ∧ Abs.sub S30 H29 ∧
  ACalls P n_s_Alternates [t27, t6, t7, t8] H29 fun v31 H32 =>
  Abs.sub S30 H32 ∧
  ∃ S33, Abs.sub S30 S33 ∧ Abs.sub S33 H32 ∧
  ACalls P n_l_same [v28, v31] H32 fun v34 H35 =>
  Abs.sub S33 H35 ∧
  ∃ S36, Abs.sub S33 S36 ∧ Abs.sub S36 H35 ∧
  bnd (aNot v34) fun t37 =>
  cnd t37
  (Ret R (.bool false) H35)
  (bnd (aNot t14) fun t38 =>
  cnd t38
  (bnd (partOf true 2 c9 0) fun t39 =>
  ACalls P n_i_BestAlternate [t39, t6, t7, t8] H35 fun v40 H41 =>
  bnd (aBinN .eql v40 (.int .i64 (-1))) fun t42 =>
  Ret R t42 H41)
  (∃ S43, Abs.sub S43 H35 ∧
  bnd (aIndex S43 1 t18 (.int .i64 0)) fun t44 =>
  bnd (aLd false 1 S43 t44) fun t45 =>
  bnd (aBinN .neq t45 t6) fun t46 =>
  gd t46 false
  (bnd (aIndex S43 1 t18 (.int .i64 1)) fun t47 =>
  bnd (aLd false 1 S43 t47) fun t48 =>
  bnd (aBinN .eql t48 t7) fun t49 =>
  gd t49 false
  (bnd (lenOf t18) fun n50 =>
  bnd (aBinN .sub (.int .i64 (n50 : Nat)) (.int .i64 1)) fun t51 =>
  bnd (aIndex S43 1 t18 t51) fun t52 =>
  bnd (aLd false 1 S43 t52) fun t53 =>
  bnd (aBinN .neq t53 t8) fun t54 =>
  gd t54 false
  (bnd (aIndex S43 1 t18 (.int .i64 1)) fun t55 =>
  bnd (aLd false 1 S43 t55) fun t56 =>
  bnd (partOf true 2 c9 0) fun t57 =>
  ACalls P n_i_BestAlternate [t57, t6, t7, t8] H35 fun v58 H59 =>
  Abs.sub S43 H59 ∧
  ∃ S60, Abs.sub S43 S60 ∧ Abs.sub S60 H59 ∧
  bnd (aBinN .neq t56 v58) fun t61 =>
  gd t61 false
  (bnd (partOf true 2 c9 0) fun t62 =>
  bnd (aIndex S60 1 t18 (.int .i64 1)) fun t63 =>
  bnd (aLd false 1 S60 t63) fun t64 =>
  ACalls P n_i_LoopFree [t62, t6, t64, t8] H59 fun v65 H66 =>
  Abs.sub S60 H66 ∧
  ∃ S67, Abs.sub S60 S67 ∧ Abs.sub S67 H66 ∧
  bnd (aNot v65) fun t68 =>
  cnd t68
  (Ret R (.bool false) H66)
  (∃ (I69 : Nat → List V → Heap → Prop) (n70 : Nat), Shr (I69 n70 [(.int .i64 1)]) H66 ∧
  ∀ n71 xs73 H74, I69 n71 xs73 H74 →
  bnd (lenOf t18) fun n75 =>
  bnd (aBinN .lss (xs73.headD .any) (.int .i64 (n75 : Nat))) fun t76 =>
  cnd t76
  (bnd (aIndex H74 1 t18 (xs73.headD .any)) fun t77 =>
  bnd (aLd false 1 H74 t77) fun t78 =>
  bnd (aBinN .eql t78 t6) fun t79 =>
  cnd t79
  (Ret R (.bool false) H74)
  (bnd (aBinN .add (xs73.headD .any) (.int .i64 1)) fun t80 =>
  ∃ n72, n72 < n71 ∧ Shr (I69 n72 [t80]) H74))
  (bnd (partOf true 2 c9 0) fun t81 =>
  ACalls P n_s_Without [t81, t6, t7] H74 fun v82 H83 =>
  bnd (aExtract 0 v82) fun t84 =>
  bnd (aExtract 1 v82) fun t85 =>
  bnd (stz 2 [(.int .i64 0), .nils] 0 t84) fun c86 =>
  ∃ S87, Abs.sub S87 H83 ∧
  bnd (partOf true 2 c86 0) fun t88 =>
  bnd (partOf true 2 c9 0) fun t89 =>
  ACalls P n_i_WayCost [t88, t18] H83 fun v90 H91 =>
  Abs.sub S87 H91 ∧
  ∃ S92, Abs.sub S87 S92 ∧ Abs.sub S92 H91 ∧
  ACalls P n_i_WayCost [t89, t18] H91 fun v93 H94 =>
  Abs.sub S92 H94 ∧
  ∃ S95, Abs.sub S92 S95 ∧ Abs.sub S95 H94 ∧
  bnd (aBinN .eql v90 v93) fun t96 =>
  gd t96 true
  (bnd (partOf true 2 c9 0) fun t97 =>
  ACalls P n_i_WayCost [t97, t18] H94 fun v98 H99 =>
  Abs.sub S95 H99 ∧
  ∃ S100, Abs.sub S95 S100 ∧ Abs.sub S100 H99 ∧
  bnd (aBinN .gtr v98 (.int .i64 0)) fun t101 =>
  Ret R t101 H99)
  (∃ S102, Abs.sub S95 S102 ∧ Abs.sub S102 H94 ∧
  Ret R (.bool false) H94))))
  (∃ S103, Abs.sub S60 S103 ∧ Abs.sub S103 H59 ∧
  Ret R (.bool false) H59))
  (∃ S104, Abs.sub S43 S104 ∧ Abs.sub S104 H35 ∧
  ∃ S105, Abs.sub S104 S105 ∧ Abs.sub S105 H35 ∧
  Ret R (.bool false) H35))
  (∃ S106, Abs.sub S43 S106 ∧ Abs.sub S106 H35 ∧
  ∃ S107, Abs.sub S106 S107 ∧ Abs.sub S107 H35 ∧
  Ret R (.bool false) H35))
  (∃ S108, Abs.sub S43 S108 ∧ Abs.sub S108 H35 ∧
  ∃ S109, Abs.sub S108 S109 ∧ Abs.sub S109 H35 ∧
  Ret R (.bool false) H35))))
  (∃ S110, Abs.sub S24 S110 ∧ Abs.sub S110 H23 ∧
  ∃ S111, Abs.sub S110 S111 ∧ Abs.sub S111 H23 ∧
  ∃ S112, Abs.sub S111 S112 ∧ Abs.sub S112 H23 ∧
  Ret R (.bool false) H23))
  (∃ S113, Abs.sub S20 S113 ∧ Abs.sub S113 H17 ∧
  ∃ S114, Abs.sub S113 S114 ∧ Abs.sub S114 H17 ∧
  ∃ S115, Abs.sub S114 S115 ∧ Abs.sub S115 H17 ∧
  ∃ S116, Abs.sub S115 S116 ∧ Abs.sub S116 H17 ∧
  Ret R (.bool false) H17))
theorem W_l_FnAround {R : V → Heap → Prop} {a0 : V} {H : Heap} (h : F_l_FnAround R a0 H) : ACalls P n_l_FnAround [a0] H R :=
  acalls_of_form (g := ⟨[3, 12], []⟩) (x := (.seq .leaf (.seq (.seq .leaf (.cond (.seq .leaf .leaf) .leaf)) (.seq .leaf (.seq .leaf (.seq .leaf (.seq (.seq (.drawg [0, 1, 2, 3, 4, 5, 6, 7, 8, 9, 10, 11, 12, 13, 15, 16, 17, 18, 14, 19, 20, 21, 22]) (.cond (.seq .leaf .leaf) .leaf)) (.seq (.seq .leaf (.cond (.seq .leaf .leaf) .leaf)) (.seq (.seq (.drawg [0, 1, 2, 3, 4, 5, 6, 7, 8, 9, 10, 11, 12, 13, 14, 15, 16, 17, 18, 19, 20, 21, 22, 23, 24, 25, 26, 27, 28, 29, 30, 31, 32, 33, 34, 35, 36, 37, 38, 39, 40, 41, 42]) (.cond (.seq .leaf .leaf) .leaf)) (.seq (.seq .leaf (.block (.loop [11] (.seq (.seq .leaf (.cond .leaf .leaf)) (.seq (.block (.seq .leaf (.cond (.seq .leaf .leaf) .leaf))) .leaf))))) (.seq .leaf (.seq (.drawg [0, 1, 3, 4, 2, 5, 6, 7, 8, 9, 10, 11, 12, 13]) .leaf)))))))))))) Try.func7 (by kernel_rfl) (by kernel_rfl) (by kernel_rfl) (by kernel_rfl : F_l_FnAround R a0 H = _) h
def F_l_big (R : V → Heap → Prop) (a0 : V) (H : Heap) : Prop :=
  bnd (lenOf a0) fun n1 =>
  bnd (aBinN .gtr (.int .i64 (n1 : Nat)) (.int .i64 1048576)) fun t2 =>
  Ret R t2 H
theorem W_l_big {R : V → Heap → Prop} {a0 : V} {H : Heap} (h : F_l_big R a0 H) : ACalls P n_l_big [a0] H R :=
  acalls_of_form (g := ⟨[], []⟩) (x := (.seq .leaf (.seq .leaf .leaf))) Try.func8 (by kernel_rfl) (by kernel_rfl) (by kernel_rfl) (by kernel_rfl : F_l_big R a0 H = _) h
def F_l_same (R : V → Heap → Prop) (a0 a1 : V) (H : Heap) : Prop :=
  bnd (lenOf a0) fun n1 =>
  bnd (lenOf a1) fun n2 =>
  bnd (aBinN .neq (.int .i64 (n1 : Nat)) (.int .i64 (n2 : Nat))) fun t3 =>
  cnd t3
  (Ret R (.bool false) H)
  (∃ (I4 : Nat → List V → Heap → Prop) (n5 : Nat), Shr (I4 n5 [(.int .i64 0)]) H ∧
  ∀ n6 xs8 H9, I4 n6 xs8 H9 →
  bnd (lenOf a0) fun n10 =>
  bnd (aBinN .lss (xs8.headD .any) (.int .i64 (n10 : Nat))) fun t11 =>
  cnd t11
  (∃ S12, Abs.sub S12 H9 ∧
  bnd (aIndex S12 1 a0 (xs8.headD .any)) fun t13 =>
  bnd (aLd false 1 S12 t13) fun t14 =>
  bnd (aIndex S12 1 a1 (xs8.headD .any)) fun t15 =>
  bnd (aLd false 1 S12 t15) fun t16 =>
  bnd (aBinN .neq t14 t16) fun t17 =>
  cnd t17
  (Ret R (.bool false) H9)
  (bnd (aBinN .add (xs8.headD .any) (.int .i64 1)) fun t18 =>
  ∃ n7, n7 < n6 ∧ Shr (I4 n7 [t18]) H9))
  (Ret R (.bool true) H9))
theorem W_l_same {R : V → Heap → Prop} {a0 a1 : V} {H : Heap} (h : F_l_same R a0 a1 H) : ACalls P n_l_same [a0, a1] H R :=
  acalls_of_form (g := ⟨[], []⟩) (x := (.seq .leaf (.seq (.seq .leaf (.cond (.seq .leaf .leaf) .leaf)) (.seq (.seq .leaf (.block (.loop [5] (.seq (.seq .leaf (.cond .leaf .leaf)) (.seq (.block (.seq (.draw [0, 1, 2, 3, 4, 5, 6, 7, 8]) (.cond (.seq .leaf .leaf) .leaf))) .leaf))))) (.seq .leaf .leaf))))) Try.func11 (by kernel_rfl) (by kernel_rfl) (by kernel_rfl) (by kernel_rfl : F_l_same R a0 a1 H = _) h
def F_l_szGraph (R : V → Heap → Prop) (a0 a1 : V) (H : Heap) : Prop :=
  boxK a0 (bnd (partOf false 1 (cellsOf a0) 1) fun t1 =>
  ACalls P n_l_szEdgeS [t1, a1] H fun v2 H3 =>
  bnd (aBinN .lss v2 (.int .i64 0)) fun t4 =>
  cnd t4
  (Ret R (.int .i64 (-1)) H3)
  (Ret R v2 H3))
theorem W_l_szGraph {R : V → Heap → Prop} {a0 a1 : V} {H : Heap} (h : F_l_szGraph R a0 a1 H) : ACalls P n_l_szGraph [a0, a1] H R :=
  acalls_of_form (g := ⟨[2], [5]⟩) (x := (.seq .leaf (.seq .leaf (.seq (.seq .leaf (.cond (.seq .leaf .leaf) .leaf)) (.seq .leaf .leaf))))) Try.func17 (by kernel_rfl) (by kernel_rfl) (by kernel_rfl) (by kernel_rfl : F_l_szGraph R a0 a1 H = _) h
def F_l_toGraph (R : V → Heap → Prop) (a0 : V) (H : Heap) : Prop :=
  boxK a0 (bnd (partOf false 1 (cellsOf a0) 0) fun t1 =>
  bnd (stz 1 [(.int .i64 0), .nils] 0 t1) fun c2 =>
  bnd (partOf false 1 (cellsOf a0) 1) fun t3 =>
  ACalls P n_l_toEdgeS [t3] H fun v4 H5 =>
  bnd (stz 1 c2 1 v4) fun c6 =>
  bnd (partOf true 2 c6 0) fun t7 =>
  bnd (stz 2 [(.int .i64 0), .nils] 0 t7) fun c8 =>
  bnd (partOf true 2 c8 0) fun t9 =>
  Ret R t9 H5)
theorem W_l_toGraph {R : V → Heap → Prop} {a0 : V} {H : Heap} (h : F_l_toGraph R a0 H) : ACalls P n_l_toGraph [a0] H R :=
  acalls_of_form (g := ⟨[1, 2, 3], [4, 6, 7, 10]⟩) (x := (.seq .leaf (.seq .leaf (.seq .leaf (.seq .leaf (.seq .leaf .leaf)))))) Try.func18 (by kernel_rfl) (by kernel_rfl) (by kernel_rfl) (by kernel_rfl : F_l_toGraph R a0 H = _) h
def F_l_eqGraph (R : V → Heap → Prop) (a0 a1 : V) (H : Heap) : Prop :=
  boxK a0 (boxK a1 (bnd (partOf false 1 (cellsOf a0) 0) fun t1 =>
  bnd (partOf false 1 (cellsOf a1) 0) fun t2 =>
  bnd (aBinN .neq t1 t2) fun t3 =>
  cnd t3
  (Ret R (.bool false) H)
  (bnd (partOf false 1 (cellsOf a0) 1) fun t4 =>
  bnd (partOf false 1 (cellsOf a1) 1) fun t5 =>
  ACalls P n_l_eqEdgeS [t4, t5] H fun v6 H7 =>
  bnd (aNot v6) fun t8 =>
  cnd t8
  (Ret R (.bool false) H7)
  (Ret R (.bool true) H7))))
theorem W_l_eqGraph {R : V → Heap → Prop} {a0 a1 : V} {H : Heap} (h : F_l_eqGraph R a0 a1 H) : ACalls P n_l_eqGraph [a0, a1] H R :=
  acalls_of_form (g := ⟨[2, 3], [5, 7, 10, 12]⟩) (x := (.seq .leaf (.seq (.seq .leaf (.cond (.seq .leaf .leaf) .leaf)) (.seq (.seq .leaf (.cond (.seq .leaf .leaf) .leaf)) (.seq .leaf .leaf))))) Try.func19 (by kernel_rfl) (by kernel_rfl) (by kernel_rfl) (by kernel_rfl : F_l_eqGraph R a0 a1 H = _) h
def F_s_DrawRemote (R : V → Heap → Prop) (a0 : V) (H : Heap) : Prop :=
  ACalls P n_s_DrawLoopFree [a0] H fun v1 H2 =>
  bnd (aExtract 0 v1) fun t3 =>
  bnd (aExtract 1 v1) fun t4 =>
  bnd (aExtract 2 v1) fun t5 =>
  bnd (aExtract 3 v1) fun t6 =>
  bnd (stz 2 [(.int .i64 0), .nils] 0 t3) fun c7 =>
  bnd (partOf true 2 c7 0) fun t8 =>
  Ret R (.tup [t8, t4, t5, t6]) H2
theorem W_s_DrawRemote {R : V → Heap → Prop} {a0 : V} {H : Heap} (h : F_s_DrawRemote R a0 H) : ACalls P n_s_DrawRemote [a0] H R :=
  acalls_of_form (g := ⟨[2], []⟩) (x := (.seq .leaf (.seq .leaf .leaf))) Try.func20 (by kernel_rfl) (by kernel_rfl) (by kernel_rfl) (by kernel_rfl : F_s_DrawRemote R a0 H = _) h
def F_i_Remote (R : V → Heap → Prop) (a0 a1 a2 a3 : V) (H : Heap) : Prop :=
  boxK a0 (bnd (partOf true 2 (cellsOf a0) 0) fun t1 =>
  bnd (bsl 1 3 [(.int .i64 0)] [(0, a1), (1, a2), (2, a3)]) fun r2 =>
  ∀ o3, H o3 = none →
  ACalls P n_i_isAround [t1, (.slice o3 0 3 (some 3))] (upd H o3 ⟨1, r2⟩) fun v4 H5 =>
  bnd (aNot v4) fun t6 =>
  gd t6 false
  (bnd (partOf true 2 (cellsOf a0) 0) fun t7 =>
  ACalls P n_i_Graph_isNear [t7, a1, a2] H5 fun v8 H9 =>
  bnd (aNot v8) fun t10 =>
  gd t10 false
  (bnd (aBinN .eql a1 a3) fun t11 =>
  cnd t11
  (Ret R .nils H9)
  (bnd (partOf true 2 (cellsOf a0) 0) fun t12 =>
  ACalls P n_i_Graph_all [t12] H9 fun v13 H14 =>
  bnd (bsl 1 0 [(.int .i64 0)] []) fun r15 =>
  ∀ o16, H14 o16 = none →
  bnd (partOf false 1 (cellsOf a0) 0) fun t17 =>
  ∃ (I18 : Nat → List V → Heap → Prop) (n19 : Nat), Shr (I18 n19 [(.slice o16 0 0 (some 0)), (.int .i64 0)]) (upd H14 o16 ⟨1, r15⟩) ∧
  ∀ n20 xs22 H23, I18 n20 xs22 H23 →
  bnd (aBinN .lss (xs22.tail.headD .any) t17) fun t24 =>
  cnd t24
  (bnd (aBinN .neq (xs22.tail.headD .any) a1) fun t25 =>
  gd t25 true
  (bnd (aBinN .neq (xs22.tail.headD .any) a2) fun t26 =>
  gd t26 true
  (bnd (aIndex H23 1 v13 a1) fun t27 =>
  bnd (aLd false 1 H23 t27) fun t28 =>
  bnd (aIndex H23 1 t28 (xs22.tail.headD .any)) fun t29 =>
  bnd (aLd false 1 H23 t29) fun t30 =>
  bnd (aBinN .lss t30 (.int .i64 1000000)) fun t31 =>
  gd t31 true
  (bnd (aIndex H23 1 v13 (xs22.tail.headD .any)) fun t32 =>
  bnd (aLd false 1 H23 t32) fun t33 =>
  bnd (aIndex H23 1 t33 a3) fun t34 =>
  bnd (aLd false 1 H23 t34) fun t35 =>
  bnd (aBinN .lss t35 (.int .i64 1000000)) fun t36 =>
  gd t36 true
  (bnd (partOf true 2 (cellsOf a0) 0) fun t37 =>
  ACalls P n_i_Graph_uses [t37, a1, (xs22.tail.headD .any), a1, a2, v13] H23 fun v38 H39 =>
  bnd (aNot v38) fun t40 =>
  gd t40 true
  (bnd (partOf true 2 (cellsOf a0) 0) fun t41 =>
  ACalls P n_i_Graph_uses [t41, (xs22.tail.headD .any), a3, a1, a2, v13] H39 fun v42 H43 =>
  bnd (aNot v42) fun t44 =>
  cnd t44
  (bnd (bsl 1 1 [(.int .i64 0)] [(0, (xs22.tail.headD .any))]) fun r45 =>
  ∀ o46, H43 o46 = none →
  bnd (rowsOf (upd H43 o46 ⟨1, r45⟩) 1 (.slice o46 0 1 (some 1))) fun r49 =>
  appendK (upd H43 o46 ⟨1, r45⟩) 1 8 (xs22.headD .any) r49 fun v47 H48 =>
  bnd (aBinN .add (xs22.tail.headD .any) (.int .i64 1)) fun t50 =>
  ∃ n21, n21 < n20 ∧ Shr (I18 n21 [v47, t50]) H48)
  (bnd (aBinN .add (xs22.tail.headD .any) (.int .i64 1)) fun t51 =>
  ∃ n21, n21 < n20 ∧ Shr (I18 n21 [(xs22.headD .any), t51]) H43))
  (bnd (aBinN .add (xs22.tail.headD .any) (.int .i64 1)) fun t52 =>
  ∃ n21, n21 < n20 ∧ Shr (I18 n21 [(xs22.headD .any), t52]) H39))
  (bnd (aBinN .add (xs22.tail.headD .any) (.int .i64 1)) fun t53 =>
  ∃ n21, n21 < n20 ∧ Shr (I18 n21 [(xs22.headD .any), t53]) H23))
  (bnd (aBinN .add (xs22.tail.headD .any) (.int .i64 1)) fun t54 =>
  ∃ n21, n21 < n20 ∧ Shr (I18 n21 [(xs22.headD .any), t54]) H23))
  (bnd (aBinN .add (xs22.tail.headD .any) (.int .i64 1)) fun t55 =>
  ∃ n21, n21 < n20 ∧ Shr (I18 n21 [(xs22.headD .any), t55]) H23))
  (bnd (aBinN .add (xs22.tail.headD .any) (.int .i64 1)) fun t56 =>
  ∃ n21, n21 < n20 ∧ Shr (I18 n21 [(xs22.headD .any), t56]) H23))
  (Ret R (xs22.headD .any) H23)))
  (Ret R .nils H9))
  (Ret R .nils H5))
theorem W_i_Remote {R : V → Heap → Prop} {a0 a1 a2 a3 : V} {H : Heap} (h : F_i_Remote R a0 a1 a2 a3 H) : ACalls P n_i_Remote [a0, a1, a2, a3] H R :=
  acalls_of_form (g := ⟨[4], [34]⟩) (x := (.seq .leaf (.seq (.seq .leaf (.cond (.seq .leaf .leaf) .leaf)) (.seq .leaf (.seq .leaf (.seq (.seq .leaf (.block (.loop [10, 36] (.seq .leaf (.seq (.cond .leaf .leaf) (.seq (.block (.seq .leaf (.seq .leaf (.cond .leaf .leaf)))) .leaf)))))) (.seq .leaf .leaf))))))) Try.func21 (by kernel_rfl) (by kernel_rfl) (by kernel_rfl) (by kernel_rfl : F_i_Remote R a0 a1 a2 a3 H = _) h
def F_s_Remote (R : V → Heap → Prop) (a0 a1 a2 a3 : V) (H : Heap) : Prop :=
  boxK a0 (bnd (bsl 1 0 [(.int .i64 0)] []) fun r1 =>
  ∀ o2, H o2 = none →
  bnd (partOf true 2 (cellsOf a0) 0) fun t3 =>
  bnd (bsl 1 3 [(.int .i64 0)] [(0, a1), (1, a2), (2, a3)]) fun r4 =>
  ∀ o5, (upd H o2 ⟨1, r1⟩) o5 = none →
  ACalls P n_s_l10Good [t3, (.slice o5 0 3 (some 3))] (upd (upd H o2 ⟨1, r1⟩) o5 ⟨1, r4⟩) fun v6 H7 =>
  bnd (aNot v6) fun t8 =>
  gd t8 false
  (bnd (partOf true 2 (cellsOf a0) 0) fun t9 =>
  ACalls P n_s_l10Near [t9, a1, a2] H7 fun v10 H11 =>
  bnd (aNot v10) fun t12 =>
  gd t12 false
  (bnd (aBinN .eql a1 a3) fun t13 =>
  cnd t13
  (Ret R .nils H11)
  (∃ (I14 : Nat → List V → Heap → Prop) (n15 : Nat), Shr (I14 n15 [(.slice o2 0 0 (some 0)), (.int .i64 0)]) H11 ∧
  ∀ n16 xs18 H19, I14 n16 xs18 H19 →
  bnd (partOf false 1 (cellsOf a0) 0) fun t20 =>
  bnd (aBinN .lss (xs18.tail.headD .any) t20) fun t21 =>
  cnd t21
  (bnd (aBinN .eql (xs18.tail.headD .any) a1) fun t22 =>
  gd t22 false
  (bnd (aBinN .eql (xs18.tail.headD .any) a2) fun t23 =>
  gd t23 false
  (bnd (partOf true 2 (cellsOf a0) 0) fun t24 =>
  ACalls P n_s_l10Dist [t24, a1, (xs18.tail.headD .any)] H19 fun v25 H26 =>
  bnd (aBinN .eql v25 (.int .i64 1000000)) fun t27 =>
  gd t27 false
  (bnd (partOf true 2 (cellsOf a0) 0) fun t28 =>
  ACalls P n_s_l10Dist [t28, (xs18.tail.headD .any), a3] H26 fun v29 H30 =>
  bnd (aBinN .eql v29 (.int .i64 1000000)) fun t31 =>
  cnd t31
  (bnd (aBinN .add (xs18.tail.headD .any) (.int .i64 1)) fun t32 =>
  ∃ n17, n17 < n16 ∧ Shr (I14 n17 [(xs18.headD .any), t32]) H30)
  (bnd (partOf true 2 (cellsOf a0) 0) fun t33 =>
  ACalls P n_s_l10Over [t33, a1, (xs18.tail.headD .any), a1, a2] H30 fun v34 H35 =>
  bnd (aNot v34) fun t36 =>
  gd t36 true
  (bnd (partOf true 2 (cellsOf a0) 0) fun t37 =>
  ACalls P n_s_l10Over [t37, (xs18.tail.headD .any), a3, a1, a2] H35 fun v38 H39 =>
  bnd (aNot v38) fun t40 =>
  cnd t40
  (bnd (bsl 1 1 [(.int .i64 0)] [(0, (xs18.tail.headD .any))]) fun r41 =>
  ∀ o42, H39 o42 = none →
  bnd (rowsOf (upd H39 o42 ⟨1, r41⟩) 1 (.slice o42 0 1 (some 1))) fun r45 =>
  appendK (upd H39 o42 ⟨1, r41⟩) 1 8 (xs18.headD .any) r45 fun v43 H44 =>
  bnd (aBinN .add (xs18.tail.headD .any) (.int .i64 1)) fun t46 =>
  ∃ n17, n17 < n16 ∧ Shr (I14 n17 [v43, t46]) H44)
  (bnd (aBinN .add (xs18.tail.headD .any) (.int .i64 1)) fun t47 =>
  ∃ n17, n17 < n16 ∧ Shr (I14 n17 [(xs18.headD .any), t47]) H39))
  (bnd (aBinN .add (xs18.tail.headD .any) (.int .i64 1)) fun t48 =>
  ∃ n17, n17 < n16 ∧ Shr (I14 n17 [(xs18.headD .any), t48]) H35)))
  (bnd (aBinN .add (xs18.tail.headD .any) (.int .i64 1)) fun t49 =>
  ∃ n17, n17 < n16 ∧ Shr (I14 n17 [(xs18.headD .any), t49]) H26))
  (bnd (aBinN .add (xs18.tail.headD .any) (.int .i64 1)) fun t50 =>
  ∃ n17, n17 < n16 ∧ Shr (I14 n17 [(xs18.headD .any), t50]) H19))
  (bnd (aBinN .add (xs18.tail.headD .any) (.int .i64 1)) fun t51 =>
  ∃ n17, n17 < n16 ∧ Shr (I14 n17 [(xs18.headD .any), t51]) H19))
  (Ret R (xs18.headD .any) H19)))
  (Ret R .nils H11))
  (Ret R .nils H7))
theorem W_s_Remote {R : V → Heap → Prop} {a0 a1 a2 a3 : V} {H : Heap} (h : F_s_Remote R a0 a1 a2 a3 H) : ACalls P n_s_Remote [a0, a1, a2, a3] H R :=
  acalls_of_form (g := ⟨[4], [32]⟩) (x := (.seq .leaf (.seq .leaf (.seq (.seq .leaf (.cond (.seq .leaf .leaf) .leaf)) (.seq (.seq .leaf (.block (.loop [9, 10] (.seq (.seq .leaf (.cond .leaf .leaf)) (.seq (.block (.seq (.seq .leaf (.cond .leaf .leaf)) (.seq .leaf (.cond .leaf .leaf)))) .leaf))))) (.seq .leaf .leaf)))))) Try.func22 (by kernel_rfl) (by kernel_rfl) (by kernel_rfl) (by kernel_rfl : F_s_Remote R a0 a1 a2 a3 H = _) h
def F_s_Without (R : V → Heap → Prop) (a0 a1 a2 : V) (H : Heap) : Prop :=
  boxK a0 (bnd (partOf false 1 (cellsOf a0) 0) fun t1 =>
  bnd (fillZ [(.int .i64 0), .nils] [(0, 1, t1)]) fun c2 =>
  bnd (stz 2 [(.int .i64 0), .nils] 0 (.agg c2)) fun c3 =>
  ∃ (I4 : Nat → List V → Heap → Prop) (n5 : Nat), Shr (I4 n5 [(.box (cellsOf a0)), (.box [(.int .i64 0), .nils]), (.box c3), (.int .i64 0)]) H ∧
  ∀ n6 xs8 H9, I4 n6 xs8 H9 →
  bnd (partOf false 1 (bc (xs8.headD .any)) 1) fun t10 =>
  bnd (lenOf t10) fun n11 =>
  bnd (aBinN .lss (xs8.tail.tail.tail.headD .any) (.int .i64 (n11 : Nat))) fun t12 =>
  cnd t12
  (bnd (partOf false 1 (bc (xs8.headD .any)) 1) fun t13 =>
  bnd (aIndex H9 3 t13 (xs8.tail.tail.tail.headD .any)) fun t14 =>
  bnd (aLd true 3 H9 t14) fun t15 =>
  bnd (stz 3 [(.int .i64 0), (.int .i64 0), (.int .i64 0)] 0 t15) fun c16 =>
  ∃ J17 : List V → Heap → Prop,
  (bnd (partOf false 1 c16 0) fun t20 =>
  bnd (aBinN .eql t20 a1) fun t21 =>
  gd t21 true
  (bnd (partOf false 1 c16 1) fun t22 =>
  bnd (aBinN .eql t22 a2) fun t23 =>
  bnd (aNot t23) fun t24 =>
  gd t24 true
  (bnd (partOf false 1 c16 0) fun t25 =>
  bnd (aBinN .eql t25 a2) fun t26 =>
  gd3 t26 true
  (bnd (partOf false 1 c16 1) fun t27 =>
  bnd (aBinN .eql t27 a1) fun t28 =>
  bnd (aNot t28) fun t29 =>
  Shr (J17 [t29]) H9)
  (bnd (aNot (.bool false)) fun t30 =>
  Shr (J17 [t30]) H9)
  (bnd (aPick (.tup []) (.tup []) (.bool false)) fun t31 =>
  bnd (aNot t31) fun t32 =>
  Shr (J17 [t32]) H9))
  (Shr (J17 [(.bool false)]) H9))
  (bnd (aNot (.bool false)) fun t33 =>
  gd t33 true
  (bnd (partOf false 1 c16 0) fun t34 =>
  bnd (aBinN .eql t34 a2) fun t35 =>
  gd3 t35 true
  (bnd (partOf false 1 c16 1) fun t36 =>
  bnd (aBinN .eql t36 a1) fun t37 =>
  bnd (aNot t37) fun t38 =>
  Shr (J17 [t38]) H9)
  (bnd (aNot (.bool false)) fun t39 =>
  Shr (J17 [t39]) H9)
  (bnd (aPick (.tup []) (.tup []) (.bool false)) fun t40 =>
  bnd (aNot t40) fun t41 =>
  Shr (J17 [t41]) H9))
  (Shr (J17 [(.bool false)]) H9))) ∧
  ∀ xs18 H19, J17 xs18 H19 →
  cnd (xs18.headD .any)
  (bnd (partOf false 1 (bc (xs8.tail.tail.headD .any)) 1) fun t42 =>
  bnd (partOf true 3 c16 0) fun t43 =>
  bnd (bsl 3 1 [(.int .i64 0), (.int .i64 0), (.int .i64 0)] [(0, t43)]) fun r44 =>
  ∀ o45, H19 o45 = none →
  bnd (rowsOf (upd H19 o45 ⟨3, r44⟩) 3 (.slice o45 0 1 (some 1))) fun r48 =>
  appendK (upd H19 o45 ⟨3, r44⟩) 3 24 t42 r48 fun v46 H47 =>
  bnd (stz 1 (bc (xs8.tail.tail.headD .any)) 1 v46) fun c49 =>
  bnd (aBinN .add (xs8.tail.tail.tail.headD .any) (.int .i64 1)) fun t50 =>
  ∃ n7, n7 < n6 ∧ Shr (I4 n7 [(.box (bc (xs8.headD .any))), (.box (bc (xs8.tail.headD .any))), (.box c49), t50]) H47)
  (bnd (aBinN .add (xs8.tail.tail.tail.headD .any) (.int .i64 1)) fun t51 =>
  ∃ n7, n7 < n6 ∧ Shr (I4 n7 [(.box (bc (xs8.headD .any))), (.box (bc (xs8.tail.headD .any))), (.box (bc (xs8.tail.tail.headD .any))), t51]) H19))
  (bnd (partOf true 2 (bc (xs8.headD .any)) 0) fun t52 =>
  ACalls P n_s_GraphOk [t52] H9 fun v53 H54 =>
  bnd (aNot v53) fun t55 =>
  gd t55 false
  (bnd (partOf false 1 (bc (xs8.tail.tail.headD .any)) 1) fun t56 =>
  bnd (lenOf t56) fun n57 =>
  bnd (partOf false 1 (bc (xs8.headD .any)) 1) fun t58 =>
  bnd (lenOf t58) fun n59 =>
  bnd (aBinN .eql (.int .i64 (n57 : Nat)) (.int .i64 (n59 : Nat))) fun t60 =>
  cnd t60
  (bnd (partOf true 2 (bc (xs8.headD .any)) 0) fun t61 =>
  ACalls P n_s_l03Copy [t61] H54 fun v62 H63 =>
  bnd (stz 2 (bc (xs8.tail.headD .any)) 0 v62) fun c64 =>
  bnd (partOf true 2 c64 0) fun t65 =>
  Ret R (.tup [t65, (.bool false)]) H63)
  (bnd (partOf true 2 (bc (xs8.tail.tail.headD .any)) 0) fun t66 =>
  bnd (stz 2 (bc (xs8.tail.headD .any)) 0 t66) fun c67 =>
  bnd (partOf true 2 c67 0) fun t68 =>
  Ret R (.tup [t68, (.bool true)]) H54))
  (bnd (partOf true 2 (bc (xs8.headD .any)) 0) fun t69 =>
  ACalls P n_s_l03Copy [t69] H54 fun v70 H71 =>
  bnd (stz 2 (bc (xs8.tail.headD .any)) 0 v70) fun c72 =>
  bnd (partOf true 2 c72 0) fun t73 =>
  Ret R (.tup [t73, (.bool false)]) H71)))
theorem W_s_Without {R : V → Heap → Prop} {a0 a1 a2 : V} {H : Heap} (h : F_s_Without R a0 a1 a2 H) : ACalls P n_s_Without [a0, a1, a2] H R :=
  acalls_of_form (g := ⟨[3, 6, 8, 10], [11, 15, 21, 26, 31, 38, 43, 50, 55, 60, 63]⟩) (x := (.seq .leaf (.seq .leaf (.seq (.seq .leaf (.block (.loop [3, 6, 8, 9] (.seq (.seq .leaf (.cond .leaf .leaf)) (.seq (.block (.seq .leaf (.seqc .leaf (.cond .leaf .leaf) [49]))) .leaf))))) (.seq (.seq .leaf (.cond (.seq .leaf .leaf) .leaf)) (.seq .leaf .leaf)))))) Try.func23 (by kernel_rfl) (by kernel_rfl) (by kernel_rfl) (by kernel_rfl : F_s_Without R a0 a1 a2 H = _) h
def F_s_Distances (R : V → Heap → Prop) (a0 a1 : V) (H : Heap) : Prop :=
  boxK a0 (bnd (partOf true 2 (cellsOf a0) 0) fun t1 =>
  ACalls P n_s_GraphOk [t1] H fun v2 H3 =>
  bnd (aNot v2) fun t4 =>
  gd t4 false
  (bnd (partOf true 2 (cellsOf a0) 0) fun t5 =>
  ACalls P n_s_l03Node [t5, a1] H3 fun v6 H7 =>
  bnd (aNot v6) fun t8 =>
  cnd t8
  (Ret R .nils H7)
  (bnd (bsl 1 0 [(.int .i64 0)] []) fun r9 =>
  ∀ o10, H7 o10 = none →
  ∃ (I11 : Nat → List V → Heap → Prop) (n12 : Nat), Shr (I11 n12 [(.slice o10 0 0 (some 0)), (.int .i64 0)]) (upd H7 o10 ⟨1, r9⟩) ∧
  ∀ n13 xs15 H16, I11 n13 xs15 H16 →
  bnd (partOf false 1 (cellsOf a0) 0) fun t17 =>
  bnd (aBinN .lss (xs15.tail.headD .any) t17) fun t18 =>
  cnd t18
  (bnd (bsl 1 1 [(.int .i64 0)] [(0, (.int .i64 1000000))]) fun r19 =>
  ∀ o20, H16 o20 = none →
  bnd (rowsOf (upd H16 o20 ⟨1, r19⟩) 1 (.slice o20 0 1 (some 1))) fun r23 =>
  appendK (upd H16 o20 ⟨1, r19⟩) 1 8 (xs15.headD .any) r23 fun v21 H22 =>
  bnd (aBinN .add (xs15.tail.headD .any) (.int .i64 1)) fun t24 =>
  ∃ n14, n14 < n13 ∧ Shr (I11 n14 [v21, t24]) H22)
  (bnd (aIndex H16 1 (xs15.headD .any) a1) fun t25 =>
  bnd (aSt 1 H16 t25 (.int .i64 0)) fun H26 =>
  ∃ (I27 : Nat → List V → Heap → Prop) (n28 : Nat), Shr (I27 n28 [(.box (cellsOf a0)), (.int .i64 0)]) H26 ∧
  ∀ n29 xs31 H32, I27 n29 xs31 H32 →
  bnd (partOf false 1 (bc (xs31.headD .any)) 0) fun t33 =>
  bnd (aBinN .lss (xs31.tail.headD .any) t33) fun t34 =>
  cnd t34
  (∃ (I35 : Nat → List V → Heap → Prop) (n36 : Nat), Shr (I35 n36 [(.box (bc (xs31.headD .any))), (.int .i64 0)]) H32 ∧
  ∀ n37 xs39 H40, I35 n37 xs39 H40 →
  bnd (partOf false 1 (bc (xs39.headD .any)) 1) fun t41 =>
  bnd (lenOf t41) fun n42 =>
  bnd (aBinN .lss (xs39.tail.headD .any) (.int .i64 (n42 : Nat))) fun t43 =>
  cnd t43
  (bnd (partOf false 1 (bc (xs39.headD .any)) 1) fun t44 =>
  bnd (aIndex H40 3 t44 (xs39.tail.headD .any)) fun t45 =>
  bnd (aLd true 3 H40 t45) fun t46 =>
  bnd (stz 3 [(.int .i64 0), (.int .i64 0), (.int .i64 0)] 0 t46) fun c47 =>
  ∃ S48, Abs.sub S48 H40 ∧
  bnd (partOf false 1 c47 0) fun t49 =>
  bnd (aIndex S48 1 (xs15.headD .any) t49) fun t50 =>
  bnd (aLd false 1 S48 t50) fun t51 =>
  bnd (aBinN .lss t51 (.int .i64 1000000)) fun t52 =>
  gd t52 true
  (bnd (partOf false 1 c47 0) fun t53 =>
  bnd (aIndex S48 1 (xs15.headD .any) t53) fun t54 =>
  bnd (aLd false 1 S48 t54) fun t55 =>
  bnd (partOf false 1 c47 2) fun t56 =>
  bnd (aBinN .add t55 t56) fun t57 =>
  bnd (partOf false 1 c47 1) fun t58 =>
  bnd (aIndex S48 1 (xs15.headD .any) t58) fun t59 =>
  bnd (aLd false 1 S48 t59) fun t60 =>
  bnd (aBinN .lss t57 t60) fun t61 =>
  cnd t61
  (bnd (partOf false 1 c47 1) fun t62 =>
  bnd (partOf false 1 c47 0) fun t63 =>
  bnd (aIndex H40 1 (xs15.headD .any) t63) fun t64 =>
  bnd (aLd false 1 H40 t64) fun t65 =>
  bnd (partOf false 1 c47 2) fun t66 =>
  bnd (aBinN .add t65 t66) fun t67 =>
  bnd (aIndex H40 1 (xs15.headD .any) t62) fun t68 =>
  bnd (aSt 1 H40 t68 t67) fun H69 =>
  bnd (aBinN .add (xs39.tail.headD .any) (.int .i64 1)) fun t70 =>
  ∃ n38, n38 < n37 ∧ Shr (I35 n38 [(.box (bc (xs39.headD .any))), t70]) H69)
  (bnd (aBinN .add (xs39.tail.headD .any) (.int .i64 1)) fun t71 =>
  ∃ n38, n38 < n37 ∧ Shr (I35 n38 [(.box (bc (xs39.headD .any))), t71]) H40))
  (bnd (aBinN .add (xs39.tail.headD .any) (.int .i64 1)) fun t72 =>
  ∃ n38, n38 < n37 ∧ Shr (I35 n38 [(.box (bc (xs39.headD .any))), t72]) H40))
  (bnd (aBinN .add (xs31.tail.headD .any) (.int .i64 1)) fun t73 =>
  ∃ n30, n30 < n29 ∧ Shr (I27 n30 [(.box (bc (xs39.headD .any))), t73]) H40))
  (Ret R (xs15.headD .any) H32))))
  (Ret R .nils H3))
theorem W_s_Distances {R : V → Heap → Prop} {a0 a1 : V} {H : Heap} (h : F_s_Distances R a0 a1 H) : ACalls P n_s_Distances [a0, a1] H R :=
  acalls_of_form (g := ⟨[2, 9], [21, 33, 39, 45, 51, 58, 62, 66, 73, 76, 80]⟩) (x := (.seq .leaf (.seq (.seq .leaf (.cond (.seq .leaf .leaf) .leaf)) (.seq .leaf (.seq (.seq .leaf (.block (.loop [5, 6] (.seq (.seq .leaf (.cond .leaf .leaf)) (.seq (.block .leaf) .leaf))))) (.seq .leaf (.seq (.seq .leaf (.block (.loop [2, 7] (.seq (.seq .leaf (.cond .leaf .leaf)) (.seq (.block (.seq .leaf (.block (.loop [2, 8] (.seq (.seq .leaf (.cond .leaf .leaf)) (.seq (.block (.seq .leaf (.seq (.draw [0, 1, 2, 3, 4, 5, 6, 7, 8, 9, 10, 11, 12, 13, 14, 15, 16, 17, 18, 19, 20, 21]) (.cond (.drawh [0, 1, 2, 3, 4, 5, 6, 7, 8, 9, 10, 11, 12]) .leaf)))) .leaf)))))) .leaf))))) (.seq .leaf .leaf)))))))) Try.func24 (by kernel_rfl) (by kernel_rfl) (by kernel_rfl) (by kernel_rfl : F_s_Distances R a0 a1 H = _) h
def F_s_Alternates (R : V → Heap → Prop) (a0 a1 a2 a3 : V) (H : Heap) : Prop :=
  boxK a0 (bnd (bsl 1 0 [(.int .i64 0)] []) fun r1 =>
  ∀ o2, H o2 = none →
  bnd (partOf true 2 (cellsOf a0) 0) fun t3 =>
  bnd (bsl 1 3 [(.int .i64 0)] [(0, a1), (1, a2), (2, a3)]) fun r4 =>
  ∀ o5, (upd H o2 ⟨1, r1⟩) o5 = none →
  ACalls P n_s_l10Good [t3, (.slice o5 0 3 (some 3))] (upd (upd H o2 ⟨1, r1⟩) o5 ⟨1, r4⟩) fun v6 H7 =>
  bnd (aNot v6) fun t8 =>
  gd t8 false
  (bnd (partOf true 2 (cellsOf a0) 0) fun t9 =>
  ACalls P n_s_l10Near [t9, a1, a2] H7 fun v10 H11 =>
  bnd (aNot v10) fun t12 =>
  cnd t12
  (Ret R .nils H11)
  (∃ (I13 : Nat → List V → Heap → Prop) (n14 : Nat), Shr (I13 n14 [(.slice o2 0 0 (some 0)), (.int .i64 0)]) H11 ∧
  ∀ n15 xs17 H18, I13 n15 xs17 H18 →
  bnd (partOf false 1 (cellsOf a0) 0) fun t19 =>
  bnd (aBinN .lss (xs17.tail.headD .any) t19) fun t20 =>
  cnd t20
  (bnd (aBinN .neq (xs17.tail.headD .any) a2) fun t21 =>
  gd t21 true
  (bnd (partOf true 2 (cellsOf a0) 0) fun t22 =>
  ACalls P n_s_LoopFree [t22, a1, (xs17.tail.headD .any), a3] H18 fun v23 H24 =>
  cnd v23
  (bnd (bsl 1 1 [(.int .i64 0)] [(0, (xs17.tail.headD .any))]) fun r25 =>
  ∀ o26, H24 o26 = none →
  bnd (rowsOf (upd H24 o26 ⟨1, r25⟩) 1 (.slice o26 0 1 (some 1))) fun r29 =>
  appendK (upd H24 o26 ⟨1, r25⟩) 1 8 (xs17.headD .any) r29 fun v27 H28 =>
  bnd (aBinN .add (xs17.tail.headD .any) (.int .i64 1)) fun t30 =>
  ∃ n16, n16 < n15 ∧ Shr (I13 n16 [v27, t30]) H28)
  (bnd (aBinN .add (xs17.tail.headD .any) (.int .i64 1)) fun t31 =>
  ∃ n16, n16 < n15 ∧ Shr (I13 n16 [(xs17.headD .any), t31]) H24))
  (bnd (aBinN .add (xs17.tail.headD .any) (.int .i64 1)) fun t32 =>
  ∃ n16, n16 < n15 ∧ Shr (I13 n16 [(xs17.headD .any), t32]) H18))
  (Ret R (xs17.headD .any) H18)))
  (Ret R .nils H7))
theorem W_s_Alternates {R : V → Heap → Prop} {a0 a1 a2 a3 : V} {H : Heap} (h : F_s_Alternates R a0 a1 a2 a3 H) : ACalls P n_s_Alternates [a0, a1, a2, a3] H R :=
  acalls_of_form (g := ⟨[4], [27]⟩) (x := (.seq .leaf (.seq .leaf (.seq (.seq .leaf (.cond (.seq .leaf .leaf) .leaf)) (.seq (.seq .leaf (.block (.loop [9, 10] (.seq (.seq .leaf (.cond .leaf .leaf)) (.seq (.block (.seq .leaf (.cond .leaf .leaf))) .leaf))))) (.seq .leaf .leaf)))))) Try.func25 (by kernel_rfl) (by kernel_rfl) (by kernel_rfl) (by kernel_rfl : F_s_Alternates R a0 a1 a2 a3 H = _) h
def F_i_NodeSafe (R : V → Heap → Prop) (a0 a1 a2 a3 a4 : V) (H : Heap) : Prop :=
  boxK a0 (bnd (partOf true 2 (cellsOf a0) 0) fun t1 =>
  bnd (bsl 1 4 [(.int .i64 0)] [(0, a1), (1, a2), (2, a3), (3, a4)]) fun r2 =>
  ∀ o3, H o3 = none →
  ACalls P n_i_isAround [t1, (.slice o3 0 4 (some 4))] (upd H o3 ⟨1, r2⟩) fun v4 H5 =>
  bnd (aNot v4) fun t6 =>
  gd t6 false
  (bnd (aBinN .eql a3 a4) fun t7 =>
  cnd t7
  (Ret R (.bool false) H5)
  (bnd (partOf true 2 (cellsOf a0) 0) fun t8 =>
  ACalls P n_i_Graph_all [t8] H5 fun v9 H10 =>
  ∃ S11, Abs.sub S11 H10 ∧
  bnd (partOf true 2 (cellsOf a0) 0) fun t12 =>
  ACalls P n_i_Graph_alternates [t12, a1, a3, a4, v9] H10 fun v13 H14 =>
  Abs.sub S11 H14 ∧
  ACalls P n_slices_Contains_int_int [v13, a2] H14 fun v15 H16 =>
  Abs.sub S11 H16 ∧
  gd v15 true
  (bnd (aIndex S11 1 v9 a2) fun t17 =>
  bnd (aLd false 1 S11 t17) fun t18 =>
  bnd (aIndex S11 1 t18 a4) fun t19 =>
  bnd (aLd false 1 S11 t19) fun t20 =>
  bnd (aIndex S11 1 v9 a2) fun t21 =>
  bnd (aLd false 1 S11 t21) fun t22 =>
  bnd (aIndex S11 1 t22 a3) fun t23 =>
  bnd (aLd false 1 S11 t23) fun t24 =>
  bnd (aIndex S11 1 v9 a3) fun t25 =>
  bnd (aLd false 1 S11 t25) fun t26 =>
  bnd (aIndex S11 1 t26 a4) fun t27 =>
  bnd (aLd false 1 S11 t27) fun t28 =>
  bnd (aBinN .add t24 t28) fun t29 =>
  bnd (aBinN .lss t20 t29) fun t30 =>
  Ret R t30 H16)
  (Ret R (.bool false) H16)))
  (Ret R (.bool false) H5))
theorem W_i_NodeSafe {R : V → Heap → Prop} {a0 a1 a2 a3 a4 : V} {H : Heap} (h : F_i_NodeSafe R a0 a1 a2 a3 a4 H) : ACalls P n_i_NodeSafe [a0, a1, a2, a3, a4] H R :=
  acalls_of_form (g := ⟨[5], []⟩) (x := (.seq .leaf (.seq (.seq .leaf (.cond (.seq .leaf .leaf) .leaf)) (.seq .leaf (.seq (.draw [0, 1, 2, 3, 4, 6, 5, 7, 8, 9, 10, 11, 12, 13, 14, 15, 16, 17, 18, 19, 20, 21, 22, 23, 24, 25, 26, 27, 28, 29, 30, 31, 32, 33]) .leaf))))) Try.func26 (by kernel_rfl) (by kernel_rfl) (by kernel_rfl) (by kernel_rfl : F_i_NodeSafe R a0 a1 a2 a3 a4 H = _) h
def F_s_NodeSafe (R : V → Heap → Prop) (a0 a1 a2 a3 a4 : V) (H : Heap) : Prop :=
  boxK a0 (bnd (aBinN .eql a3 a4) fun t1 =>
  gd t1 false
  (bnd (partOf true 2 (cellsOf a0) 0) fun t2 =>
  ACalls P n_s_Alternates [t2, a1, a3, a4] H fun v3 H4 =>
  ACalls P n_s_l01Has [v3, a2] H4 fun v5 H6 =>
  bnd (aNot v5) fun t7 =>
  cnd t7
  (Ret R (.bool false) H6)
  (∃ S8, Abs.sub S8 H6 ∧
  bnd (partOf true 2 (cellsOf a0) 0) fun t9 =>
  bnd (partOf true 2 (cellsOf a0) 0) fun t10 =>
  bnd (partOf true 2 (cellsOf a0) 0) fun t11 =>
  ACalls P n_s_l10Dist [t9, a2, a4] H6 fun v12 H13 =>
  Abs.sub S8 H13 ∧
  ACalls P n_s_l10Dist [t10, a2, a3] H13 fun v14 H15 =>
  Abs.sub S8 H15 ∧
  ACalls P n_s_l10Dist [t11, a3, a4] H15 fun v16 H17 =>
  Abs.sub S8 H17 ∧
  bnd (aBinN .add v14 v16) fun t18 =>
  bnd (aBinN .lss v12 t18) fun t19 =>
  Ret R t19 H17))
  (Ret R (.bool false) H))
theorem W_s_NodeSafe {R : V → Heap → Prop} {a0 a1 a2 a3 a4 : V} {H : Heap} (h : F_s_NodeSafe R a0 a1 a2 a3 a4 H) : ACalls P n_s_NodeSafe [a0, a1, a2, a3, a4] H R :=
  acalls_of_form (g := ⟨[5], []⟩) (x := (.seq .leaf (.seq (.seq .leaf (.cond (.seq .leaf .leaf) .leaf)) (.seq (.draw [0, 1, 2, 4, 5, 6, 8, 9, 10, 3, 7, 11, 12, 13, 14]) .leaf)))) Try.func27 (by kernel_rfl) (by kernel_rfl) (by kernel_rfl) (by kernel_rfl : F_s_NodeSafe R a0 a1 a2 a3 a4 H = _) h
def F_i_OnWay (R : V → Heap → Prop) (a0 a1 a2 a3 : V) (H : Heap) : Prop :=
  boxK a0 (bnd (partOf true 2 (cellsOf a0) 0) fun t1 =>
  ACalls P n_i_GraphOk [t1] H fun v2 H3 =>
  gd v2 true
  (bnd (partOf true 2 (cellsOf a0) 0) fun t4 =>
  ACalls P n_i_Graph_isNode [t4, a1] H3 fun v5 H6 =>
  gd v5 true
  (bnd (partOf true 2 (cellsOf a0) 0) fun t7 =>
  ACalls P n_i_Graph_isNode [t7, a2] H6 fun v8 H9 =>
  gd v8 true
  (bnd (partOf true 2 (cellsOf a0) 0) fun t10 =>
  ACalls P n_i_Graph_isNode [t10, a3] H9 fun v11 H12 =>
  gd v11 true
  (bnd (partOf true 2 (cellsOf a0) 0) fun t13 =>
  ACalls P n_i_Graph_all [t13] H12 fun v14 H15 =>
  ACalls P n_i_onWay [v14, a1, a2, a3] H15 fun v16 H17 =>
  Ret R v16 H17)
  (Ret R (.bool false) H12))
  (Ret R (.bool false) H9))
  (Ret R (.bool false) H6))
  (Ret R (.bool false) H3))
theorem W_i_OnWay {R : V → Heap → Prop} {a0 a1 a2 a3 : V} {H : Heap} (h : F_i_OnWay R a0 a1 a2 a3 H) : ACalls P n_i_OnWay [a0, a1, a2, a3] H R :=
  acalls_of_form (g := ⟨[4], []⟩) (x := (.seq .leaf (.seq .leaf .leaf))) Try.func28 (by kernel_rfl) (by kernel_rfl) (by kernel_rfl) (by kernel_rfl : F_i_OnWay R a0 a1 a2 a3 H = _) h
def F_s_WalkAround (R : V → Heap → Prop) (a0 a1 a2 a3 : V) (H : Heap) : Prop :=
  boxK a0 (bnd (partOf true 2 (cellsOf a0) 0) fun t1 =>
  ACalls P n_s_BestAlternate [t1, a1, a2, a3] H fun v2 H3 =>
  bnd (aBinN .lss v2 (.int .i64 0)) fun t4 =>
  cnd t4
  (Ret R (.tup [.nils, (.bool false)]) H3)
  (bnd (partOf true 2 (cellsOf a0) 0) fun t5 =>
  ACalls P n_s_CheapestWay [t5, v2, a3] H3 fun v6 H7 =>
  bnd (aExtract 0 v6) fun t8 =>
  bnd (aExtract 1 v6) fun t9 =>
  bnd (bsl 1 1 [(.int .i64 0)] [(0, a1)]) fun r10 =>
  ∀ o11, H7 o11 = none →
  bnd (rowsOf (upd H7 o11 ⟨1, r10⟩) 1 t8) fun r14 =>
  appendK (upd H7 o11 ⟨1, r10⟩) 1 8 (.slice o11 0 1 (some 1)) r14 fun v12 H13 =>
  Ret R (.tup [v12, (.bool true)]) H13))
theorem W_s_WalkAround {R : V → Heap → Prop} {a0 a1 a2 a3 : V} {H : Heap} (h : F_s_WalkAround R a0 a1 a2 a3 H) : ACalls P n_s_WalkAround [a0, a1, a2, a3] H R :=
  acalls_of_form (g := ⟨[4], []⟩) (x := (.seq .leaf (.seq .leaf (.seq (.seq .leaf (.cond (.seq .leaf .leaf) .leaf)) (.seq .leaf (.seq .leaf .leaf)))))) Try.func29 (by kernel_rfl) (by kernel_rfl) (by kernel_rfl) (by kernel_rfl : F_s_WalkAround R a0 a1 a2 a3 H = _) h
def F_i_WalkAround (R : V → Heap → Prop) (a0 a1 a2 a3 : V) (H : Heap) : Prop :=
  boxK a0 (bnd (partOf true 2 (cellsOf a0) 0) fun t1 =>
  ACalls P n_i_BestAlternate [t1, a1, a2, a3] H fun v2 H3 =>
  bnd (aBinN .lss v2 (.int .i64 0)) fun t4 =>
  cnd t4
  (Ret R (.tup [.nils, (.bool false)]) H3)
  (bnd (partOf true 2 (cellsOf a0) 0) fun t5 =>
  ACalls P n_i_Graph_cheapest [t5, v2, a3] H3 fun v6 H7 =>
  bnd (aExtract 0 v6) fun t8 =>
  bnd (aExtract 1 v6) fun t9 =>
  bnd (bsl 1 1 [(.int .i64 0)] [(0, a1)]) fun r10 =>
  ∀ o11, H7 o11 = none →
  bnd (rowsOf (upd H7 o11 ⟨1, r10⟩) 1 t8) fun r14 =>
  appendK (upd H7 o11 ⟨1, r10⟩) 1 8 (.slice o11 0 1 (some 1)) r14 fun v12 H13 =>
  Ret R (.tup [v12, (.bool true)]) H13))
theorem W_i_WalkAround {R : V → Heap → Prop} {a0 a1 a2 a3 : V} {H : Heap} (h : F_i_WalkAround R a0 a1 a2 a3 H) : ACalls P n_i_WalkAround [a0, a1, a2, a3] H R :=
  acalls_of_form (g := ⟨[4], []⟩) (x := (.seq .leaf (.seq .leaf (.seq (.seq .leaf (.cond (.seq .leaf .leaf) .leaf)) (.seq .leaf (.seq .leaf .leaf)))))) Try.func30 (by kernel_rfl) (by kernel_rfl) (by kernel_rfl) (by kernel_rfl : F_i_WalkAround R a0 a1 a2 a3 H = _) h
def F_l_eqIntS (R : V → Heap → Prop) (a0 a1 : V) (H : Heap) : Prop :=
  bnd (lenOf a0) fun n1 =>
  bnd (lenOf a1) fun n2 =>
  bnd (aBinN .neq (.int .i64 (n1 : Nat)) (.int .i64 (n2 : Nat))) fun t3 =>
  cnd t3
  (Ret R (.bool false) H)
  (∃ (I4 : Nat → List V → Heap → Prop) (n5 : Nat), Shr (I4 n5 [(.int .i64 0)]) H ∧
  ∀ n6 xs8 H9, I4 n6 xs8 H9 →
  bnd (lenOf a0) fun n10 =>
  bnd (aBinN .lss (xs8.headD .any) (.int .i64 (n10 : Nat))) fun t11 =>
  cnd t11
  (∃ S12, Abs.sub S12 H9 ∧
  bnd (aIndex S12 1 a0 (xs8.headD .any)) fun t13 =>
  bnd (aLd false 1 S12 t13) fun t14 =>
  bnd (aIndex S12 1 a1 (xs8.headD .any)) fun t15 =>
  bnd (aLd false 1 S12 t15) fun t16 =>
  bnd (aBinN .neq t14 t16) fun t17 =>
  cnd t17
  (Ret R (.bool false) H9)
  (bnd (aBinN .add (xs8.headD .any) (.int .i64 1)) fun t18 =>
  ∃ n7, n7 < n6 ∧ Shr (I4 n7 [t18]) H9))
  (Ret R (.bool true) H9))
theorem W_l_eqIntS {R : V → Heap → Prop} {a0 a1 : V} {H : Heap} (h : F_l_eqIntS R a0 a1 H) : ACalls P n_l_eqIntS [a0, a1] H R :=
  acalls_of_form (g := ⟨[], []⟩) (x := (.seq .leaf (.seq (.seq .leaf (.cond (.seq .leaf .leaf) .leaf)) (.seq (.seq .leaf (.block (.loop [5] (.seq (.seq .leaf (.cond .leaf .leaf)) (.seq (.block (.seq (.draw [0, 1, 2, 3, 4, 5, 6, 7, 8]) (.cond (.seq .leaf .leaf) .leaf))) .leaf))))) (.seq .leaf .leaf))))) Try.func31 (by kernel_rfl) (by kernel_rfl) (by kernel_rfl) (by kernel_rfl : F_l_eqIntS R a0 a1 H = _) h
def F_l_markGraph (R : V → Heap → Prop) (a0 a1 : V) (H : Heap) : Prop :=
  boxK a0 (bnd (partOf false 1 (cellsOf a0) 1) fun t1 =>
  ACalls P n_l_markEdgeS [t1, a1] H fun v2 H3 =>
  Ret R v2 H3)
theorem W_l_markGraph {R : V → Heap → Prop} {a0 a1 : V} {H : Heap} (h : F_l_markGraph R a0 a1 H) : ACalls P n_l_markGraph [a0, a1] H R :=
  acalls_of_form (g := ⟨[2], [5]⟩) (x := (.seq .leaf (.seq .leaf (.seq .leaf .leaf)))) Try.func32 (by kernel_rfl) (by kernel_rfl) (by kernel_rfl) (by kernel_rfl : F_l_markGraph R a0 a1 H = _) h
def F_l_markIntS (R : V → Heap → Prop) (a0 a1 : V) (H : Heap) : Prop :=
  ∃ (I1 : Nat → List V → Heap → Prop) (n2 : Nat), Shr (I1 n2 [a1, (.int .i64 0)]) H ∧
  ∀ n3 xs5 H6, I1 n3 xs5 H6 →
  bnd (lenOf a0) fun n7 =>
  bnd (aBinN .lss (xs5.tail.headD .any) (.int .i64 (n7 : Nat))) fun t8 =>
  cnd t8
  (bnd (aIndex H6 1 a0 (xs5.tail.headD .any)) fun t9 =>
  bnd (aSt 1 H6 t9 (xs5.headD .any)) fun H10 =>
  bnd (aBinN .add (xs5.headD .any) (.int .i64 1)) fun t11 =>
  bnd (aBinN .add (xs5.tail.headD .any) (.int .i64 1)) fun t12 =>
  ∃ n4, n4 < n3 ∧ Shr (I1 n4 [t11, t12]) H10)
  (Ret R (xs5.headD .any) H6)
theorem W_l_markIntS {R : V → Heap → Prop} {a0 a1 : V} {H : Heap} (h : F_l_markIntS R a0 a1 H) : ACalls P n_l_markIntS [a0, a1] H R :=
  acalls_of_form (g := ⟨[], []⟩) (x := (.seq .leaf (.seq (.seq .leaf (.block (.loop [1, 5] (.seq (.seq .leaf (.cond .leaf .leaf)) (.seq (.block (.seq .leaf .leaf)) .leaf))))) (.seq .leaf .leaf)))) Try.func33 (by kernel_rfl) (by kernel_rfl) (by kernel_rfl) (by kernel_rfl : F_l_markIntS R a0 a1 H = _) h
def F_l_heldIntS (R : V → Heap → Prop) (a0 a1 : V) (H : Heap) : Prop :=
  ∃ (I1 : Nat → List V → Heap → Prop) (n2 : Nat), Shr (I1 n2 [a1, (.int .i64 0)]) H ∧
  ∀ n3 xs5 H6, I1 n3 xs5 H6 →
  bnd (lenOf a0) fun n7 =>
  bnd (aBinN .lss (xs5.tail.headD .any) (.int .i64 (n7 : Nat))) fun t8 =>
  cnd t8
  (bnd (aIndex H6 1 a0 (xs5.tail.headD .any)) fun t9 =>
  bnd (aLd false 1 H6 t9) fun t10 =>
  bnd (aBinN .neq t10 (xs5.headD .any)) fun t11 =>
  cnd t11
  (Ret R (.int .i64 (-1)) H6)
  (bnd (aBinN .add (xs5.headD .any) (.int .i64 1)) fun t12 =>
  bnd (aBinN .add (xs5.tail.headD .any) (.int .i64 1)) fun t13 =>
  ∃ n4, n4 < n3 ∧ Shr (I1 n4 [t12, t13]) H6))
  (Ret R (xs5.headD .any) H6)
theorem W_l_heldIntS {R : V → Heap → Prop} {a0 a1 : V} {H : Heap} (h : F_l_heldIntS R a0 a1 H) : ACalls P n_l_heldIntS [a0, a1] H R :=
  acalls_of_form (g := ⟨[], []⟩) (x := (.seq .leaf (.seq (.seq .leaf (.block (.loop [1, 5] (.seq (.seq .leaf (.cond .leaf .leaf)) (.seq (.block (.seq (.seq .leaf (.cond (.seq .leaf .leaf) .leaf)) .leaf)) .leaf))))) (.seq .leaf .leaf)))) Try.func34 (by kernel_rfl) (by kernel_rfl) (by kernel_rfl) (by kernel_rfl : F_l_heldIntS R a0 a1 H = _) h
def F_s_DrawWalkAround (R : V → Heap → Prop) (a0 : V) (H : Heap) : Prop :=
  ACalls P n_s_DrawLoopFree [a0] H fun v1 H2 =>
  bnd (aExtract 0 v1) fun t3 =>
  bnd (aExtract 1 v1) fun t4 =>
  bnd (aExtract 2 v1) fun t5 =>
  bnd (aExtract 3 v1) fun t6 =>
  bnd (stz 2 [(.int .i64 0), .nils] 0 t3) fun c7 =>
  bnd (partOf true 2 c7 0) fun t8 =>
  Ret R (.tup [t8, t4, t5, t6]) H2
theorem W_s_DrawWalkAround {R : V → Heap → Prop} {a0 : V} {H : Heap} (h : F_s_DrawWalkAround R a0 H) : ACalls P n_s_DrawWalkAround [a0] H R :=
  acalls_of_form (g := ⟨[2], []⟩) (x := (.seq .leaf (.seq .leaf .leaf))) Try.func35 (by kernel_rfl) (by kernel_rfl) (by kernel_rfl) (by kernel_rfl : F_s_DrawWalkAround R a0 H = _) h
def F_i_Alternates (R : V → Heap → Prop) (a0 a1 a2 a3 : V) (H : Heap) : Prop :=
  boxK a0 (bnd (partOf true 2 (cellsOf a0) 0) fun t1 =>
  bnd (bsl 1 3 [(.int .i64 0)] [(0, a1), (1, a2), (2, a3)]) fun r2 =>
  ∀ o3, H o3 = none →
  ACalls P n_i_isAround [t1, (.slice o3 0 3 (some 3))] (upd H o3 ⟨1, r2⟩) fun v4 H5 =>
  bnd (aNot v4) fun t6 =>
  cnd t6
  (Ret R .nils H5)
  (∃ S7, Abs.sub S7 H5 ∧
  bnd (partOf true 2 (cellsOf a0) 0) fun t8 =>
  bnd (partOf true 2 (cellsOf a0) 0) fun t9 =>
  ACalls P n_i_Graph_all [t9] H5 fun v10 H11 =>
  Abs.sub S7 H11 ∧
  ACalls P n_i_Graph_alternates [t8, a1, a2, a3, v10] H11 fun v12 H13 =>
  Abs.sub S7 H13 ∧
  Ret R v12 H13))
theorem W_i_Alternates {R : V → Heap → Prop} {a0 a1 a2 a3 : V} {H : Heap} (h : F_i_Alternates R a0 a1 a2 a3 H) : ACalls P n_i_Alternates [a0, a1, a2, a3] H R :=
  acalls_of_form (g := ⟨[4], []⟩) (x := (.seq .leaf (.seq (.seq .leaf (.cond (.seq .leaf .leaf) .leaf)) (.seq (.draw [0, 1, 2, 3, 4, 5, 6, 7]) .leaf)))) Try.func36 (by kernel_rfl) (by kernel_rfl) (by kernel_rfl) (by kernel_rfl : F_i_Alternates R a0 a1 a2 a3 H = _) h
def F_i_BestAlternate (R : V → Heap → Prop) (a0 a1 a2 a3 : V) (H : Heap) : Prop :=
  boxK a0 (bnd (partOf true 2 (cellsOf a0) 0) fun t1 =>
  bnd (bsl 1 3 [(.int .i64 0)] [(0, a1), (1, a2), (2, a3)]) fun r2 =>
  ∀ o3, H o3 = none →
  ACalls P n_i_isAround [t1, (.slice o3 0 3 (some 3))] (upd H o3 ⟨1, r2⟩) fun v4 H5 =>
  bnd (aNot v4) fun t6 =>
  cnd t6
  (Ret R (.int .i64 (-1)) H5)
  (∃ S7, Abs.sub S7 H5 ∧
  bnd (partOf true 2 (cellsOf a0) 0) fun t8 =>
  bnd (partOf true 2 (cellsOf a0) 0) fun t9 =>
  ACalls P n_i_Graph_all [t9] H5 fun v10 H11 =>
  Abs.sub S7 H11 ∧
  ACalls P n_i_Graph_bestAlternate [t8, a1, a2, a3, v10] H11 fun v12 H13 =>
  Abs.sub S7 H13 ∧
  Ret R v12 H13))
theorem W_i_BestAlternate {R : V → Heap → Prop} {a0 a1 a2 a3 : V} {H : Heap} (h : F_i_BestAlternate R a0 a1 a2 a3 H) : ACalls P n_i_BestAlternate [a0, a1, a2, a3] H R :=
  acalls_of_form (g := ⟨[4], []⟩) (x := (.seq .leaf (.seq (.seq .leaf (.cond (.seq .leaf .leaf) .leaf)) (.seq (.draw [0, 1, 2, 3, 4, 5, 6, 7]) .leaf)))) Try.func37 (by kernel_rfl) (by kernel_rfl) (by kernel_rfl) (by kernel_rfl : F_i_BestAlternate R a0 a1 a2 a3 H = _) h
def F_i_LoopFree (R : V → Heap → Prop) (a0 a1 a2 a3 : V) (H : Heap) : Prop :=
  boxK a0 (∃ S1, Abs.sub S1 H ∧
  bnd (partOf true 2 (cellsOf a0) 0) fun t2 =>
  bnd (bsl 1 3 [(.int .i64 0)] [(0, a1), (1, a2), (2, a3)]) fun r3 =>
  ∀ o4, H o4 = none →
  Abs.sub S1 (upd H o4 ⟨1, r3⟩) ∧
  ACalls P n_i_isAround [t2, (.slice o4 0 3 (some 3))] (upd H o4 ⟨1, r3⟩) fun v5 H6 =>
  Abs.sub S1 H6 ∧
  gd v5 true
  (bnd (partOf true 2 (cellsOf a0) 0) fun t7 =>
  bnd (partOf true 2 (cellsOf a0) 0) fun t8 =>
  ACalls P n_i_Graph_all [t8] H6 fun v9 H10 =>
  Abs.sub S1 H10 ∧
  ACalls P n_i_Graph_loopFree [t7, a1, a2, a3, v9] H10 fun v11 H12 =>
  Abs.sub S1 H12 ∧
  Ret R v11 H12)
  (Ret R (.bool false) H6))
theorem W_i_LoopFree {R : V → Heap → Prop} {a0 a1 a2 a3 : V} {H : Heap} (h : F_i_LoopFree R a0 a1 a2 a3 H) : ACalls P n_i_LoopFree [a0, a1, a2, a3] H R :=
  acalls_of_form (g := ⟨[4], []⟩) (x := (.seq .leaf (.seq (.draw [0, 1, 2, 3, 4, 5, 6, 7, 8, 9, 10, 11, 12, 13, 14, 15]) .leaf))) Try.func38 (by kernel_rfl) (by kernel_rfl) (by kernel_rfl) (by kernel_rfl : F_i_LoopFree R a0 a1 a2 a3 H = _) h
def F_i_WayCost (R : V → Heap → Prop) (a0 a1 : V) (H : Heap) : Prop :=
  boxK a0 (∃ S1, Abs.sub S1 H ∧
  bnd (partOf true 2 (cellsOf a0) 0) fun t2 =>
  ACalls P n_i_GraphOk [t2] H fun v3 H4 =>
  Abs.sub S1 H4 ∧
  bnd (aNot v3) fun t5 =>
  gd t5 false
  (bnd (lenOf a1) fun n6 =>
  ACalls P n_i_within [(.int .i64 (n6 : Nat)), (.int .i64 1), (.int .i64 300)] H4 fun v7 H8 =>
  Abs.sub S1 H8 ∧
  bnd (aNot v7) fun t9 =>
  gd t9 false
  (bnd (partOf true 2 (cellsOf a0) 0) fun t10 =>
  bnd (aIndex S1 1 a1 (.int .i64 0)) fun t11 =>
  bnd (aLd false 1 S1 t11) fun t12 =>
  ACalls P n_i_Graph_isNode [t10, t12] H8 fun v13 H14 =>
  Abs.sub S1 H14 ∧
  bnd (aNot v13) fun t15 =>
  cnd t15
  (Ret R (.int .i64 (-1)) H14)
  (∃ (I16 : Nat → List V → Heap → Prop) (n17 : Nat), Shr (I16 n17 [(.int .i64 0), (.int .i64 1)]) H14 ∧
  ∀ n18 xs20 H21, I16 n18 xs20 H21 →
  bnd (lenOf a1) fun n22 =>
  bnd (aBinN .lss (xs20.tail.headD .any) (.int .i64 (n22 : Nat))) fun t23 =>
  cnd t23
  (∃ S24, Abs.sub S24 H21 ∧
  bnd (partOf true 2 (cellsOf a0) 0) fun t25 =>
  bnd (aBinN .sub (xs20.tail.headD .any) (.int .i64 1)) fun t26 =>
  bnd (aIndex S24 1 a1 t26) fun t27 =>
  bnd (aLd false 1 S24 t27) fun t28 =>
  bnd (aIndex S24 1 a1 (xs20.tail.headD .any)) fun t29 =>
  bnd (aLd false 1 S24 t29) fun t30 =>
  ACalls P n_i_Graph_cost [t25, t28, t30] H21 fun v31 H32 =>
  Abs.sub S24 H32 ∧
  ∃ S33, Abs.sub S33 H32 ∧
  bnd (aBinN .eql v31 (.int .i64 1000000)) fun t34 =>
  gd t34 false
  (bnd (aIndex S33 1 a1 (xs20.tail.headD .any)) fun t35 =>
  bnd (aLd false 1 S33 t35) fun t36 =>
  bnd (aBinN .sub (xs20.tail.headD .any) (.int .i64 1)) fun t37 =>
  bnd (aIndex S33 1 a1 t37) fun t38 =>
  bnd (aLd false 1 S33 t38) fun t39 =>
  bnd (aBinN .eql t36 t39) fun t40 =>
  cnd t40
  (Ret R (.int .i64 (-1)) H32)
  (bnd (aBinN .add (xs20.headD .any) v31) fun t41 =>
  bnd (aBinN .add (xs20.tail.headD .any) (.int .i64 1)) fun t42 =>
  ∃ n19, n19 < n18 ∧ Shr (I16 n19 [t41, t42]) H32))
  (Ret R (.int .i64 (-1)) H32))
  (Ret R (xs20.headD .any) H21)))
  (Ret R (.int .i64 (-1)) H8))
  (Ret R (.int .i64 (-1)) H4))
theorem W_i_WayCost {R : V → Heap → Prop} {a0 a1 : V} {H : Heap} (h : F_i_WayCost R a0 a1 H) : ACalls P n_i_WayCost [a0, a1] H R :=
  acalls_of_form (g := ⟨[2], []⟩) (x := (.seq .leaf (.seq (.seq (.draw [0, 1, 2, 3, 4, 5, 6, 7, 8, 9, 10, 11, 12, 13, 14, 15, 16]) (.cond (.seq .leaf .leaf) .leaf)) (.seq .leaf (.seq (.seq .leaf (.block (.loop [5, 6] (.seq (.seq .leaf (.cond .leaf .leaf)) (.seq (.block (.seq (.draw [0, 1, 2, 3, 4, 5, 6, 7, 8, 9, 10, 11]) (.seq (.seq (.draw [0, 1, 2, 3, 4, 5, 6, 7, 8, 9, 10, 11, 12, 13]) (.cond (.seq .leaf .leaf) .leaf)) .leaf))) .leaf))))) (.seq .leaf .leaf)))))) Try.func39 (by kernel_rfl) (by kernel_rfl) (by kernel_rfl) (by kernel_rfl : F_i_WayCost R a0 a1 H = _) h
def F_s_l01New (R : V → Heap → Prop) (a0 : V) (H : Heap) : Prop :=
  bnd (lenOf a0) fun n1 =>
  bnd (aBinN .add (.int .i64 681681) (.int .i64 (n1 : Nat))) fun t2 =>
  ∃ (I3 : Nat → List V → Heap → Prop) (n4 : Nat), Shr (I3 n4 [t2, (.int .i64 0)]) H ∧
  ∀ n5 xs7 H8, I3 n5 xs7 H8 →
  bnd (lenOf a0) fun n9 =>
  bnd (aBinN .lss (xs7.tail.headD .any) (.int .i64 (n9 : Nat))) fun t10 =>
  gd t10 true
  (bnd (aBinN .lss (xs7.tail.headD .any) (.int .i64 4000)) fun t11 =>
  cnd t11
  (bnd (aBinN .mul (xs7.headD .any) (.int .i64 149)) fun t12 =>
  bnd (aIndex H8 1 a0 (xs7.tail.headD .any)) fun t13 =>
  bnd (aLd false 1 H8 t13) fun t14 =>
  bnd (aCv .i64 t14) fun t15 =>
  bnd (aBinN .add t12 t15) fun t16 =>
  bnd (aBinN .add t16 (.int .i64 11)) fun t17 =>
  bnd (aBinN .and t17 (.int .i64 1073741823)) fun t18 =>
  bnd (aBinN .add (xs7.tail.headD .any) (.int .i64 1)) fun t19 =>
  ∃ n6, n6 < n5 ∧ Shr (I3 n6 [t18, t19]) H8)
  (bnd (fillZ [.nils, (.int .i64 0), (.int .i64 0)] [(0, 1, a0), (2, 1, (xs7.headD .any))]) fun c20 =>
  boxK (.agg c20) (∀ o21, H8 o21 = none →
  Ret R (.ptr o21 0 0) (upd H8 o21 ⟨(c20).length, [c20]⟩))))
  (bnd (fillZ [.nils, (.int .i64 0), (.int .i64 0)] [(0, 1, a0), (2, 1, (xs7.headD .any))]) fun c22 =>
  boxK (.agg c22) (∀ o23, H8 o23 = none →
  Ret R (.ptr o23 0 0) (upd H8 o23 ⟨(c22).length, [c22]⟩)))
theorem W_s_l01New {R : V → Heap → Prop} {a0 : V} {H : Heap} (h : F_s_l01New R a0 H) : ACalls P n_s_l01New [a0] H R :=
  acalls_of_form (g := ⟨[], []⟩) (x := (.seq .leaf (.seq .leaf (.seq (.seq .leaf (.block (.loop [3, 4] (.seq (.seq .leaf (.cond .leaf .leaf)) (.seq (.block .leaf) .leaf))))) (.seq .leaf .leaf))))) Try.func40 (by kernel_rfl) (by kernel_rfl) (by kernel_rfl) (by kernel_rfl : F_s_l01New R a0 H = _) h
def F_s_l03DrawNode (R : V → Heap → Prop) (a0 a1 : V) (H : Heap) : Prop :=
  boxK a1 (bnd (partOf false 1 (cellsOf a1) 0) fun t1 =>
  bnd (aBinN .gtr t1 (.int .i64 0)) fun t2 =>
  gd t2 true
  (ACalls P n_s_l01Once [a0, (.int .i64 15)] H fun v3 H4 =>
  bnd (aNot v3) fun t5 =>
  cnd t5
  (bnd (partOf false 1 (cellsOf a1) 0) fun t6 =>
  ACalls P n_s_l01Below [a0, t6] H4 fun v7 H8 =>
  Ret R v7 H8)
  (bnd (partOf false 1 (cellsOf a1) 0) fun t9 =>
  bnd (bsl 1 3 [(.int .i64 0)] [(0, (.int .i64 (-1))), (1, t9), (2, (.int .i64 0))]) fun r10 =>
  ∀ o11, H4 o11 = none →
  ACalls P n_s_l01PickInt [a0, (.slice o11 0 3 (some 3))] (upd H4 o11 ⟨1, r10⟩) fun v12 H13 =>
  Ret R v12 H13))
  (bnd (partOf false 1 (cellsOf a1) 0) fun t14 =>
  bnd (bsl 1 3 [(.int .i64 0)] [(0, (.int .i64 (-1))), (1, t14), (2, (.int .i64 0))]) fun r15 =>
  ∀ o16, H o16 = none →
  ACalls P n_s_l01PickInt [a0, (.slice o16 0 3 (some 3))] (upd H o16 ⟨1, r15⟩) fun v17 H18 =>
  Ret R v17 H18))
theorem W_s_l03DrawNode {R : V → Heap → Prop} {a0 a1 : V} {H : Heap} (h : F_s_l03DrawNode R a0 a1 H) : ACalls P n_s_l03DrawNode [a0, a1] H R :=
  acalls_of_form (g := ⟨[3], [5, 14, 18]⟩) (x := (.seq .leaf (.seq (.seq .leaf (.cond (.seq .leaf .leaf) .leaf)) (.seq .leaf .leaf)))) Try.func42 (by kernel_rfl) (by kernel_rfl) (by kernel_rfl) (by kernel_rfl : F_s_l03DrawNode R a0 a1 H = _) h
def F_s_GraphOk (R : V → Heap → Prop) (a0 : V) (H : Heap) : Prop :=
  boxK a0 (bnd (partOf false 1 (cellsOf a0) 0) fun t1 =>
  ACalls P n_s_l01In [t1, (.int .i64 1), (.int .i64 10)] H fun v2 H3 =>
  bnd (aNot v2) fun t4 =>
  gd t4 false
  (bnd (partOf false 1 (cellsOf a0) 1) fun t5 =>
  bnd (lenOf t5) fun n6 =>
  bnd (aBinN .gtr (.int .i64 (n6 : Nat)) (.int .i64 60)) fun t7 =>
  cnd t7
  (Ret R (.bool false) H3)
  (∃ (I8 : Nat → List V → Heap → Prop) (n9 : Nat), Shr (I8 n9 [(.box (cellsOf a0)), (.int .i64 0)]) H3 ∧
  ∀ n10 xs12 H13, I8 n10 xs12 H13 →
  bnd (partOf false 1 (bc (xs12.headD .any)) 1) fun t14 =>
  bnd (lenOf t14) fun n15 =>
  bnd (aBinN .lss (xs12.tail.headD .any) (.int .i64 (n15 : Nat))) fun t16 =>
  cnd t16
  (bnd (partOf false 1 (bc (xs12.headD .any)) 1) fun t17 =>
  bnd (aIndex H13 3 t17 (xs12.tail.headD .any)) fun t18 =>
  bnd (aLd true 3 H13 t18) fun t19 =>
  bnd (stz 3 [(.int .i64 0), (.int .i64 0), (.int .i64 0)] 0 t19) fun c20 =>
  bnd (partOf true 2 (bc (xs12.headD .any)) 0) fun t21 =>
  bnd (partOf false 1 c20 0) fun t22 =>
  ACalls P n_s_l03Node [t21, t22] H13 fun v23 H24 =>
  bnd (aNot v23) fun t25 =>
  gd t25 false
  (bnd (partOf true 2 (bc (xs12.headD .any)) 0) fun t26 =>
  bnd (partOf false 1 c20 1) fun t27 =>
  ACalls P n_s_l03Node [t26, t27] H24 fun v28 H29 =>
  bnd (aNot v28) fun t30 =>
  gd t30 false
  (bnd (partOf false 1 c20 0) fun t31 =>
  bnd (partOf false 1 c20 1) fun t32 =>
  bnd (aBinN .eql t31 t32) fun t33 =>
  gd t33 false
  (bnd (partOf false 1 c20 2) fun t34 =>
  ACalls P n_s_l01In [t34, (.int .i64 1), (.int .i64 1000)] H29 fun v35 H36 =>
  bnd (aNot v35) fun t37 =>
  cnd t37
  (Ret R (.bool false) H36)
  (bnd (aBinN .gtr (xs12.tail.headD .any) (.int .i64 0)) fun t38 =>
  cnd t38
  (bnd (partOf false 1 (bc (xs12.headD .any)) 1) fun t39 =>
  bnd (aBinN .sub (xs12.tail.headD .any) (.int .i64 1)) fun t40 =>
  bnd (aIndex H36 3 t39 t40) fun t41 =>
  bnd (aLd true 3 H36 t41) fun t42 =>
  bnd (stz 3 [(.int .i64 0), (.int .i64 0), (.int .i64 0)] 0 t42) fun c43 =>
  bnd (partOf false 1 c43 0) fun t44 =>
  bnd (partOf false 1 c20 0) fun t45 =>
  bnd (aBinN .gtr t44 t45) fun t46 =>
  gd t46 false
  (bnd (partOf false 1 c43 0) fun t47 =>
  bnd (partOf false 1 c20 0) fun t48 =>
  bnd (aBinN .eql t47 t48) fun t49 =>
  gd3 t49 true
  (bnd (partOf false 1 c43 1) fun t50 =>
  bnd (partOf false 1 c20 1) fun t51 =>
  bnd (aBinN .geq t50 t51) fun t52 =>
  cnd t52
  (Ret R (.bool false) H36)
  (bnd (aBinN .add (xs12.tail.headD .any) (.int .i64 1)) fun t53 =>
  ∃ n11, n11 < n10 ∧ Shr (I8 n11 [(.box (bc (xs12.headD .any))), t53]) H36))
  (bnd (aBinN .add (xs12.tail.headD .any) (.int .i64 1)) fun t54 =>
  ∃ n11, n11 < n10 ∧ Shr (I8 n11 [(.box (bc (xs12.headD .any))), t54]) H36)
  (bnd (aPick (.tup []) (.tup []) (.bool false)) fun t55 =>
  cnd t55
  (Ret R (.bool false) H36)
  (bnd (aBinN .add (xs12.tail.headD .any) (.int .i64 1)) fun t56 =>
  ∃ n11, n11 < n10 ∧ Shr (I8 n11 [(.box (bc (xs12.headD .any))), t56]) H36)))
  (Ret R (.bool false) H36))
  (bnd (aBinN .add (xs12.tail.headD .any) (.int .i64 1)) fun t57 =>
  ∃ n11, n11 < n10 ∧ Shr (I8 n11 [(.box (bc (xs12.headD .any))), t57]) H36)))
  (Ret R (.bool false) H29))
  (Ret R (.bool false) H29))
  (Ret R (.bool false) H24))
  (Ret R (.bool true) H13)))
  (Ret R (.bool false) H3))
theorem W_s_GraphOk {R : V → Heap → Prop} {a0 : V} {H : Heap} (h : F_s_GraphOk R a0 H) : ACalls P n_s_GraphOk [a0] H R :=
  acalls_of_form (g := ⟨[1, 4, 5], [6, 11, 17, 23, 29, 35, 41, 43, 48, 55, 61, 63, 67, 69, 73, 75]⟩) (x := (.seq .leaf (.seq (.seq .leaf (.cond (.seq .leaf .leaf) .leaf)) (.seq (.seq .leaf (.block (.loop [1, 3] (.seq (.seq .leaf (.cond .leaf .leaf)) (.seq (.block (.seq .leaf (.seq (.seq .leaf (.cond (.seq .leaf .leaf) .leaf)) (.seq .leaf (.cond (.seq .leaf (.seq .leaf (.cond (.seq .leaf .leaf) .leaf))) .leaf))))) .leaf))))) (.seq .leaf .leaf))))) Try.func43 (by kernel_rfl) (by kernel_rfl) (by kernel_rfl) (by kernel_rfl : F_s_GraphOk R a0 H = _) h
def F_s_l03Node (R : V → Heap → Prop) (a0 a1 : V) (H : Heap) : Prop :=
  boxK a0 (bnd (partOf false 1 (cellsOf a0) 0) fun t1 =>
  bnd (aBinN .sub t1 (.int .i64 1)) fun t2 =>
  ACalls P n_s_l01In [a1, (.int .i64 0), t2] H fun v3 H4 =>
  Ret R v3 H4)
theorem W_s_l03Node {R : V → Heap → Prop} {a0 a1 : V} {H : Heap} (h : F_s_l03Node R a0 a1 H) : ACalls P n_s_l03Node [a0, a1] H R :=
  acalls_of_form (g := ⟨[2], [6]⟩) (x := (.seq .leaf (.seq .leaf .leaf))) Try.func44 (by kernel_rfl) (by kernel_rfl) (by kernel_rfl) (by kernel_rfl : F_s_l03Node R a0 a1 H = _) h
def F_s_l01Has (R : V → Heap → Prop) (a0 a1 : V) (H : Heap) : Prop :=
  ∃ (I1 : Nat → List V → Heap → Prop) (n2 : Nat), Shr (I1 n2 [(.int .i64 0)]) H ∧
  ∀ n3 xs5 H6, I1 n3 xs5 H6 →
  bnd (lenOf a0) fun n7 =>
  bnd (aBinN .lss (xs5.headD .any) (.int .i64 (n7 : Nat))) fun t8 =>
  cnd t8
  (bnd (aIndex H6 1 a0 (xs5.headD .any)) fun t9 =>
  bnd (aLd false 1 H6 t9) fun t10 =>
  bnd (aBinN .eql t10 a1) fun t11 =>
  cnd t11
  (Ret R (.bool true) H6)
  (bnd (aBinN .add (xs5.headD .any) (.int .i64 1)) fun t12 =>
  ∃ n4, n4 < n3 ∧ Shr (I1 n4 [t12]) H6))
  (Ret R (.bool false) H6)
theorem W_s_l01Has {R : V → Heap → Prop} {a0 a1 : V} {H : Heap} (h : F_s_l01Has R a0 a1 H) : ACalls P n_s_l01Has [a0, a1] H R :=
  acalls_of_form (g := ⟨[], []⟩) (x := (.seq .leaf (.seq (.seq .leaf (.block (.loop [5] (.seq (.seq .leaf (.cond .leaf .leaf)) (.seq (.block (.seq .leaf (.cond (.seq .leaf .leaf) .leaf))) .leaf))))) (.seq .leaf .leaf)))) Try.func45 (by kernel_rfl) (by kernel_rfl) (by kernel_rfl) (by kernel_rfl : F_s_l01Has R a0 a1 H = _) h
def F_i_GraphOk (R : V → Heap → Prop) (a0 : V) (H : Heap) : Prop :=
  boxK a0 (bnd (partOf false 1 (cellsOf a0) 0) fun t1 =>
  ACalls P n_i_within [t1, (.int .i64 1), (.int .i64 10)] H fun v2 H3 =>
  bnd (aNot v2) fun t4 =>
  gd t4 false
  (bnd (partOf false 1 (cellsOf a0) 1) fun t5 =>
  bnd (lenOf t5) fun n6 =>
  bnd (aBinN .gtr (.int .i64 (n6 : Nat)) (.int .i64 60)) fun t7 =>
  cnd t7
  (Ret R (.bool false) H3)
  (bnd (partOf false 1 (cellsOf a0) 1) fun t8 =>
  bnd (lenOf t8) fun n9 =>
  ∃ (I10 : Nat → List V → Heap → Prop) (n11 : Nat), Shr (I10 n11 [(.box (cellsOf a0)), (.int .i64 0)]) H3 ∧
  ∀ n12 xs14 H15, I10 n12 xs14 H15 →
  bnd (aBinN .lss (xs14.tail.headD .any) (.int .i64 (n9 : Nat))) fun t16 =>
  cnd t16
  (bnd (aIndex H15 3 t8 (xs14.tail.headD .any)) fun t17 =>
  bnd (aLd true 3 H15 t17) fun t18 =>
  bnd (stz 3 [(.int .i64 0), (.int .i64 0), (.int .i64 0)] 0 t18) fun c19 =>
  ∃ S20, Abs.sub S20 H15 ∧
  bnd (partOf true 2 (bc (xs14.headD .any)) 0) fun t21 =>
  bnd (partOf false 1 c19 0) fun t22 =>
  ACalls P n_i_Graph_isNode [t21, t22] H15 fun v23 H24 =>
  Abs.sub S20 H24 ∧
  bnd (aNot v23) fun t25 =>
  gd t25 false
  (bnd (partOf true 2 (bc (xs14.headD .any)) 0) fun t26 =>
  bnd (partOf false 1 c19 1) fun t27 =>
  ACalls P n_i_Graph_isNode [t26, t27] H24 fun v28 H29 =>
  Abs.sub S20 H29 ∧
  bnd (aNot v28) fun t30 =>
  gd t30 false
  (bnd (partOf false 1 c19 0) fun t31 =>
  bnd (partOf false 1 c19 1) fun t32 =>
  bnd (aBinN .eql t31 t32) fun t33 =>
  gd t33 false
  (bnd (partOf false 1 c19 2) fun t34 =>
  ACalls P n_i_within [t34, (.int .i64 1), (.int .i64 1000)] H29 fun v35 H36 =>
  Abs.sub S20 H36 ∧
  bnd (aNot v35) fun t37 =>
  gd t37 false
  (bnd (aBinN .gtr (xs14.tail.headD .any) (.int .i64 0)) fun t38 =>
  gd3 t38 true
  (bnd (partOf false 1 (bc (xs14.headD .any)) 1) fun t39 =>
  bnd (aBinN .sub (xs14.tail.headD .any) (.int .i64 1)) fun t40 =>
  bnd (aIndex S20 3 t39 t40) fun t41 =>
  bnd (aLd true 3 S20 t41) fun t42 =>
  bnd (partOf true 3 c19 0) fun t43 =>
  ACalls P n_i_compareEdges [t42, t43] H36 fun v44 H45 =>
  Abs.sub S20 H45 ∧
  bnd (aBinN .geq v44 (.int .i64 0)) fun t46 =>
  cnd t46
  (Ret R (.bool false) H45)
  (bnd (aBinN .add (xs14.tail.headD .any) (.int .i64 1)) fun t47 =>
  ∃ n13, n13 < n12 ∧ Shr (I10 n13 [(.box (bc (xs14.headD .any))), t47]) H45))
  (bnd (aBinN .add (xs14.tail.headD .any) (.int .i64 1)) fun t48 =>
  ∃ n13, n13 < n12 ∧ Shr (I10 n13 [(.box (bc (xs14.headD .any))), t48]) H36)
  (bnd (aPick (.tup []) (.tup []) (.bool false)) fun t49 =>
  cnd t49
  (Ret R (.bool false) H36)
  (bnd (aBinN .add (xs14.tail.headD .any) (.int .i64 1)) fun t50 =>
  ∃ n13, n13 < n12 ∧ Shr (I10 n13 [(.box (bc (xs14.headD .any))), t50]) H36)))
  (Ret R (.bool false) H36))
  (Ret R (.bool false) H29))
  (Ret R (.bool false) H29))
  (Ret R (.bool false) H24))
  (Ret R (.bool true) H15)))
  (Ret R (.bool false) H3))
theorem W_i_GraphOk {R : V → Heap → Prop} {a0 : V} {H : Heap} (h : F_i_GraphOk R a0 H) : ACalls P n_i_GraphOk [a0] H R :=
  acalls_of_form (g := ⟨[1, 4], [5, 10, 15, 24, 30, 36, 38, 43, 52]⟩) (x := (.seq .leaf (.seq (.seq .leaf (.cond (.seq .leaf .leaf) .leaf)) (.seq (.seq .leaf (.block (.loop [1, 18] (.seq .leaf (.seq (.cond .leaf .leaf) (.seq (.block (.seq .leaf (.seq (.draw [0, 1, 2, 3, 4, 5, 6, 7, 8, 9, 10, 11, 12, 13, 14, 15, 16, 17, 18, 19, 20, 21, 22, 23, 24, 25, 26, 27, 28, 29, 30, 31, 32, 33, 34, 35, 36, 37, 38, 39]) (.cond (.seq .leaf .leaf) .leaf)))) .leaf)))))) (.seq .leaf .leaf))))) Try.func46 (by kernel_rfl) (by kernel_rfl) (by kernel_rfl) (by kernel_rfl : F_i_GraphOk R a0 H = _) h
def F_i_Graph_isNode (R : V → Heap → Prop) (a0 a1 : V) (H : Heap) : Prop :=
  boxK a0 (bnd (partOf false 1 (cellsOf a0) 0) fun t1 =>
  bnd (aBinN .sub t1 (.int .i64 1)) fun t2 =>
  ACalls P n_i_within [a1, (.int .i64 0), t2] H fun v3 H4 =>
  Ret R v3 H4)
theorem W_i_Graph_isNode {R : V → Heap → Prop} {a0 a1 : V} {H : Heap} (h : F_i_Graph_isNode R a0 a1 H) : ACalls P n_i_Graph_isNode [a0, a1] H R :=
  acalls_of_form (g := ⟨[2], [6]⟩) (x := (.seq .leaf (.seq .leaf .leaf))) Try.func47 (by kernel_rfl) (by kernel_rfl) (by kernel_rfl) (by kernel_rfl : F_i_Graph_isNode R a0 a1 H = _) h
def F_i_Graph_all (R : V → Heap → Prop) (a0 : V) (H : Heap) : Prop :=
  boxK a0 (bnd (bsl 1 0 [.nils] []) fun r1 =>
  ∀ o2, H o2 = none →
  bnd (partOf false 1 (cellsOf a0) 0) fun t3 =>
  ∃ (I4 : Nat → List V → Heap → Prop) (n5 : Nat), Shr (I4 n5 [(.slice o2 0 0 (some 0)), (.int .i64 0)]) (upd H o2 ⟨1, r1⟩) ∧
  ∀ n6 xs8 H9, I4 n6 xs8 H9 →
  bnd (aBinN .lss (xs8.tail.headD .any) t3) fun t10 =>
  cnd t10
  (bnd (partOf true 2 (cellsOf a0) 0) fun t11 =>
  ACalls P n_i_Graph_distances [t11, (xs8.tail.headD .any)] H9 fun v12 H13 =>
  bnd (bsl 1 1 [.nils] [(0, v12)]) fun r14 =>
  ∀ o15, H13 o15 = none →
  bnd (rowsOf (upd H13 o15 ⟨1, r14⟩) 1 (.slice o15 0 1 (some 1))) fun r18 =>
  appendK (upd H13 o15 ⟨1, r14⟩) 1 24 (xs8.headD .any) r18 fun v16 H17 =>
  bnd (aBinN .add (xs8.tail.headD .any) (.int .i64 1)) fun t19 =>
  ∃ n7, n7 < n6 ∧ Shr (I4 n7 [v16, t19]) H17)
  (Ret R (xs8.headD .any) H9))
theorem W_i_Graph_all {R : V → Heap → Prop} {a0 : V} {H : Heap} (h : F_i_Graph_all R a0 H) : ACalls P n_i_Graph_all [a0] H R :=
  acalls_of_form (g := ⟨[1], [6]⟩) (x := (.seq .leaf (.seq .leaf (.seq (.seq .leaf (.block (.loop [3, 8] (.seq .leaf (.seq (.cond .leaf .leaf) (.seq (.block (.seq .leaf .leaf)) .leaf)))))) (.seq .leaf .leaf))))) Try.func48 (by kernel_rfl) (by kernel_rfl) (by kernel_rfl) (by kernel_rfl : F_i_Graph_all R a0 H = _) h
def F_l_szEdgeS (R : V → Heap → Prop) (a0 a1 : V) (H : Heap) : Prop :=
  bnd (lenOf a0) fun n1 =>
  bnd (aBinN .sub a1 (.int .i64 (n1 : Nat))) fun t2 =>
  bnd (aBinN .lss t2 (.int .i64 0)) fun t3 =>
  cnd t3
  (Ret R (.int .i64 (-1)) H)
  (Ret R t2 H)
theorem W_l_szEdgeS {R : V → Heap → Prop} {a0 a1 : V} {H : Heap} (h : F_l_szEdgeS R a0 a1 H) : ACalls P n_l_szEdgeS [a0, a1] H R :=
  acalls_of_form (g := ⟨[], []⟩) (x := (.seq .leaf (.seq .leaf (.seq (.seq .leaf (.cond (.seq .leaf .leaf) .leaf)) (.seq .leaf .leaf))))) Try.func61 (by kernel_rfl) (by kernel_rfl) (by kernel_rfl) (by kernel_rfl : F_l_szEdgeS R a0 a1 H = _) h
def F_l_toEdgeS (R : V → Heap → Prop) (a0 : V) (H : Heap) : Prop :=
  bnd (lenOf a0) fun n1 =>
  bnd (natOf (.int .i64 (n1 : Nat))) fun n2 =>
  bnd (natOf (.int .i64 (n1 : Nat))) fun n3 =>
  (n2 ≤ n3 ∧ n3 ≤ 140737488355328 ∧ 24 * n3 ≤ 281474976710656 ∧ 3 = 3 ∧ 0 < 3) ∧
  ∀ o4, H o4 = none →
  ∃ (I5 : Nat → List V → Heap → Prop) (n6 : Nat), Shr (I5 n6 [(.int .i64 0)]) (upd H o4 ⟨3, List.replicate n3 [(.int .i64 0), (.int .i64 0), (.int .i64 0)]⟩) ∧
  ∀ n7 xs9 H10, I5 n7 xs9 H10 →
  bnd (lenOf a0) fun n11 =>
  bnd (aBinN .lss (xs9.headD .any) (.int .i64 (n11 : Nat))) fun t12 =>
  cnd t12
  (bnd (aIndex H10 3 a0 (xs9.headD .any)) fun t13 =>
  bnd (aLd true 3 H10 t13) fun t14 =>
  ACalls P n_l_toEdge [t14] H10 fun v15 H16 =>
  bnd (aIndex H16 3 (.slice o4 0 n2 (some n3)) (xs9.headD .any)) fun t17 =>
  bnd (aSt 3 H16 t17 v15) fun H18 =>
  bnd (aBinN .add (xs9.headD .any) (.int .i64 1)) fun t19 =>
  ∃ n8, n8 < n7 ∧ Shr (I5 n8 [t19]) H18)
  (Ret R (.slice o4 0 n2 (some n3)) H10)
theorem W_l_toEdgeS {R : V → Heap → Prop} {a0 : V} {H : Heap} (h : F_l_toEdgeS R a0 H) : ACalls P n_l_toEdgeS [a0] H R :=
  acalls_of_form (g := ⟨[], []⟩) (x := (.seq .leaf (.seq .leaf (.seq (.seq .leaf (.block (.loop [4] (.seq (.seq .leaf (.cond .leaf .leaf)) (.seq (.block .leaf) .leaf))))) (.seq .leaf .leaf))))) Try.func62 (by kernel_rfl) (by kernel_rfl) (by kernel_rfl) (by kernel_rfl : F_l_toEdgeS R a0 H = _) h
def F_l_eqEdgeS (R : V → Heap → Prop) (a0 a1 : V) (H : Heap) : Prop :=
  bnd (lenOf a0) fun n1 =>
  bnd (lenOf a1) fun n2 =>
  bnd (aBinN .neq (.int .i64 (n1 : Nat)) (.int .i64 (n2 : Nat))) fun t3 =>
  cnd t3
  (Ret R (.bool false) H)
  (∃ (I4 : Nat → List V → Heap → Prop) (n5 : Nat), Shr (I4 n5 [(.int .i64 0)]) H ∧
  ∀ n6 xs8 H9, I4 n6 xs8 H9 →
  bnd (lenOf a0) fun n10 =>
  bnd (aBinN .lss (xs8.headD .any) (.int .i64 (n10 : Nat))) fun t11 =>
  cnd t11
  (∃ S12, Abs.sub S12 H9 ∧
  bnd (aIndex S12 3 a0 (xs8.headD .any)) fun t13 =>
  bnd (aLd true 3 S12 t13) fun t14 =>
  bnd (aIndex S12 3 a1 (xs8.headD .any)) fun t15 =>
  bnd (aLd true 3 S12 t15) fun t16 =>
  ACalls P n_l_eqEdge [t14, t16] H9 fun v17 H18 =>
  Abs.sub S12 H18 ∧
  bnd (aNot v17) fun t19 =>
  cnd t19
  (Ret R (.bool false) H18)
  (bnd (aBinN .add (xs8.headD .any) (.int .i64 1)) fun t20 =>
  ∃ n7, n7 < n6 ∧ Shr (I4 n7 [t20]) H18))
  (Ret R (.bool true) H9))
theorem W_l_eqEdgeS {R : V → Heap → Prop} {a0 a1 : V} {H : Heap} (h : F_l_eqEdgeS R a0 a1 H) : ACalls P n_l_eqEdgeS [a0, a1] H R :=
  acalls_of_form (g := ⟨[], []⟩) (x := (.seq .leaf (.seq (.seq .leaf (.cond (.seq .leaf .leaf) .leaf)) (.seq (.seq .leaf (.block (.loop [5] (.seq (.seq .leaf (.cond .leaf .leaf)) (.seq (.block (.seq (.draw [0, 1, 2, 3, 4, 5, 6, 7, 8, 9]) (.cond (.seq .leaf .leaf) .leaf))) .leaf))))) (.seq .leaf .leaf))))) Try.func63 (by kernel_rfl) (by kernel_rfl) (by kernel_rfl) (by kernel_rfl : F_l_eqEdgeS R a0 a1 H = _) h
def F_s_DrawLoopFree (R : V → Heap → Prop) (a0 : V) (H : Heap) : Prop :=
  ACalls P n_s_l01New [a0] H fun v1 H2 =>
  ACalls P n_s_l10DrawGraph [v1, a0] H2 fun v3 H4 =>
  bnd (stz 2 [(.int .i64 0), .nils] 0 v3) fun c5 =>
  bnd (partOf true 2 c5 0) fun t6 =>
  ACalls P n_s_l10DrawNear [v1, t6] H4 fun v7 H8 =>
  bnd (aExtract 0 v7) fun t9 =>
  bnd (aExtract 1 v7) fun t10 =>
  ∃ S11, Abs.sub S11 H8 ∧
  bnd (partOf true 2 c5 0) fun t12 =>
  bnd (partOf true 2 c5 0) fun t13 =>
  ACalls P n_s_l03DrawNode [v1, t13] H8 fun v14 H15 =>
  Abs.sub S11 H15 ∧
  bnd (stz 2 [(.int .i64 0), .nils] 0 t12) fun c16 =>
  bnd (partOf true 2 c16 0) fun t17 =>
  Ret R (.tup [t17, t9, t10, v14]) H15
theorem W_s_DrawLoopFree {R : V → Heap → Prop} {a0 : V} {H : Heap} (h : F_s_DrawLoopFree R a0 H) : ACalls P n_s_DrawLoopFree [a0] H R :=
  acalls_of_form (g := ⟨[2, 7], []⟩) (x := (.seq .leaf (.seq .leaf (.seq .leaf (.seq .leaf (.seq (.draw [0, 1, 2, 3, 4, 5, 6, 7, 8, 9]) .leaf)))))) Try.func64 (by kernel_rfl) (by kernel_rfl) (by kernel_rfl) (by kernel_rfl : F_s_DrawLoopFree R a0 H = _) h
def F_i_isAround (R : V → Heap → Prop) (a0 a1 : V) (H : Heap) : Prop :=
  boxK a0 (∀ o1, H o1 = none →
  bnd (aLd true 2 (upd H o1 ⟨((cellsOf a0)).length, [(cellsOf a0)]⟩) (.ptr o1 0 0)) fun t2 =>
  ACalls P n_i_GraphOk [t2] (upd H o1 ⟨((cellsOf a0)).length, [(cellsOf a0)]⟩) fun v3 H4 =>
  gd v3 true
  (bnd (aField 1 (.ptr o1 0 0)) fun t5 =>
  bnd (aLd false 1 H4 t5) fun t6 =>
  ACalls P n_slices_ContainsFunc_i_Edge_i_Edge [t6, (.fn n_i_isAround_1 [(.ptr o1 0 0)])] H4 fun v7 H8 =>
  bnd (aNot v7) fun t9 =>
  gd t9 true
  (ACalls P n_slices_ContainsFunc_int_int [a1, (.fn n_i_isAround_2 [(.ptr o1 0 0)])] H8 fun v10 H11 =>
  bnd (aNot v10) fun t12 =>
  Ret R t12 H11)
  (Ret R (.bool false) H8))
  (Ret R (.bool false) H4))
theorem W_i_isAround {R : V → Heap → Prop} {a0 a1 : V} {H : Heap} (h : F_i_isAround R a0 a1 H) : ACalls P n_i_isAround [a0, a1] H R :=
  acalls_of_form (g := ⟨[], []⟩) (x := (.seq .leaf (.seq .leaf .leaf))) Try.func65 (by kernel_rfl) (by kernel_rfl) (by kernel_rfl) (by kernel_rfl : F_i_isAround R a0 a1 H = _) h
def F_i_Graph_isNear (R : V → Heap → Prop) (a0 a1 a2 : V) (H : Heap) : Prop :=
  boxK a0 (bnd (aBinN .neq a1 a2) fun t1 =>
  gd t1 true
  (bnd (partOf true 2 (cellsOf a0) 0) fun t2 =>
  ACalls P n_i_Graph_cost [t2, a1, a2] H fun v3 H4 =>
  bnd (aBinN .lss v3 (.int .i64 1000000)) fun t5 =>
  Ret R t5 H4)
  (Ret R (.bool false) H))
theorem W_i_Graph_isNear {R : V → Heap → Prop} {a0 a1 a2 : V} {H : Heap} (h : F_i_Graph_isNear R a0 a1 a2 H) : ACalls P n_i_Graph_isNear [a0, a1, a2] H R :=
  acalls_of_form (g := ⟨[3], []⟩) (x := (.seq .leaf (.seq .leaf .leaf))) Try.func66 (by kernel_rfl) (by kernel_rfl) (by kernel_rfl) (by kernel_rfl : F_i_Graph_isNear R a0 a1 a2 H = _) h
def F_i_Graph_uses (R : V → Heap → Prop) (a0 a1 a2 a3 a4 a5 : V) (H : Heap) : Prop :=
  boxK a0 (∀ o1, H o1 = none →
  boxK a1 (∀ o2, (upd H o1 ⟨((cellsOf a0)).length, [(cellsOf a0)]⟩) o2 = none →
  boxK a2 (∀ o3, (upd (upd H o1 ⟨((cellsOf a0)).length, [(cellsOf a0)]⟩) o2 ⟨((cellsOf a1)).length, [(cellsOf a1)]⟩) o3 = none →
  boxK a5 (∀ o4, (upd (upd (upd H o1 ⟨((cellsOf a0)).length, [(cellsOf a0)]⟩) o2 ⟨((cellsOf a1)).length, [(cellsOf a1)]⟩) o3 ⟨((cellsOf a2)).length, [(cellsOf a2)]⟩) o4 = none →
  ACalls P n_i_Graph_uses_1 [a3, a4, (.ptr o1 0 0), (.ptr o4 0 0), (.ptr o2 0 0), (.ptr o3 0 0)] (upd (upd (upd (upd H o1 ⟨((cellsOf a0)).length, [(cellsOf a0)]⟩) o2 ⟨((cellsOf a1)).length, [(cellsOf a1)]⟩) o3 ⟨((cellsOf a2)).length, [(cellsOf a2)]⟩) o4 ⟨((cellsOf a5)).length, [(cellsOf a5)]⟩) fun v5 H6 =>
  gd v5 false
  (ACalls P n_i_Graph_uses_1 [a4, a3, (.ptr o1 0 0), (.ptr o4 0 0), (.ptr o2 0 0), (.ptr o3 0 0)] H6 fun v7 H8 =>
  Ret R v7 H8)
  (Ret R (.bool true) H6)))))
theorem W_i_Graph_uses {R : V → Heap → Prop} {a0 a1 a2 a3 a4 a5 : V} {H : Heap} (h : F_i_Graph_uses R a0 a1 a2 a3 a4 a5 H) : ACalls P n_i_Graph_uses [a0, a1, a2, a3, a4, a5] H R :=
  acalls_of_form (g := ⟨[], []⟩) (x := (.seq .leaf (.seq .leaf (.seq .leaf .leaf)))) Try.func67 (by kernel_rfl) (by kernel_rfl) (by kernel_rfl) (by kernel_rfl : F_i_Graph_uses R a0 a1 a2 a3 a4 a5 H = _) h
def F_s_l10Good (R : V → Heap → Prop) (a0 a1 : V) (H : Heap) : Prop :=
  boxK a0 (bnd (partOf true 2 (cellsOf a0) 0) fun t1 =>
  ACalls P n_s_GraphOk [t1] H fun v2 H3 =>
  bnd (aNot v2) fun t4 =>
  cnd t4
  (Ret R (.bool false) H3)
  (∃ (I5 : Nat → List V → Heap → Prop) (n6 : Nat), Shr (I5 n6 [(.int .i64 0)]) H3 ∧
  ∀ n7 xs9 H10, I5 n7 xs9 H10 →
  bnd (partOf false 1 (cellsOf a0) 1) fun t11 =>
  bnd (lenOf t11) fun n12 =>
  bnd (aBinN .lss (xs9.headD .any) (.int .i64 (n12 : Nat))) fun t13 =>
  cnd t13
  (∃ S14, Abs.sub S14 H10 ∧
  bnd (partOf true 2 (cellsOf a0) 0) fun t15 =>
  bnd (partOf false 1 (cellsOf a0) 1) fun t16 =>
  bnd (aIndex S14 3 t16 (xs9.headD .any)) fun t17 =>
  bnd (aField 1 t17) fun t18 =>
  bnd (aLd false 1 S14 t18) fun t19 =>
  bnd (partOf false 1 (cellsOf a0) 1) fun t20 =>
  bnd (aIndex S14 3 t20 (xs9.headD .any)) fun t21 =>
  bnd (aField 0 t21) fun t22 =>
  bnd (aLd false 1 S14 t22) fun t23 =>
  ACalls P n_s_l03Cost [t15, t19, t23] H10 fun v24 H25 =>
  Abs.sub S14 H25 ∧
  bnd (aBinN .eql v24 (.int .i64 1000000)) fun t26 =>
  cnd t26
  (Ret R (.bool false) H25)
  (bnd (aBinN .add (xs9.headD .any) (.int .i64 1)) fun t27 =>
  ∃ n8, n8 < n7 ∧ Shr (I5 n8 [t27]) H25))
  (∃ (I28 : Nat → List V → Heap → Prop) (n29 : Nat), Shr (I28 n29 [(.int .i64 0)]) H10 ∧
  ∀ n30 xs32 H33, I28 n30 xs32 H33 →
  bnd (lenOf a1) fun n34 =>
  bnd (aBinN .lss (xs32.headD .any) (.int .i64 (n34 : Nat))) fun t35 =>
  cnd t35
  (∃ S36, Abs.sub S36 H33 ∧
  bnd (partOf true 2 (cellsOf a0) 0) fun t37 =>
  bnd (aIndex S36 1 a1 (xs32.headD .any)) fun t38 =>
  bnd (aLd false 1 S36 t38) fun t39 =>
  ACalls P n_s_l03Node [t37, t39] H33 fun v40 H41 =>
  Abs.sub S36 H41 ∧
  bnd (aNot v40) fun t42 =>
  cnd t42
  (Ret R (.bool false) H41)
  (bnd (aBinN .add (xs32.headD .any) (.int .i64 1)) fun t43 =>
  ∃ n31, n31 < n30 ∧ Shr (I28 n31 [t43]) H41))
  (Ret R (.bool true) H33))))
theorem W_s_l10Good {R : V → Heap → Prop} {a0 a1 : V} {H : Heap} (h : F_s_l10Good R a0 a1 H) : ACalls P n_s_l10Good [a0, a1] H R :=
  acalls_of_form (g := ⟨[2], [11, 18, 24]⟩) (x := (.seq .leaf (.seq (.seq .leaf (.cond (.seq .leaf .leaf) .leaf)) (.seq (.seq .leaf (.block (.loop [5] (.seq (.seq .leaf (.cond .leaf .leaf)) (.seq (.block (.seq (.draw [0, 1, 2, 3, 4, 5, 6, 7, 8, 9, 10, 11, 12, 13, 14]) (.cond (.seq .leaf .leaf) .leaf))) .leaf))))) (.seq (.seq .leaf (.block (.loop [6] (.seq (.seq .leaf (.cond .leaf .leaf)) (.seq (.block (.seq (.draw [0, 1, 2, 3, 4, 5, 6]) (.cond (.seq .leaf .leaf) .leaf))) .leaf))))) (.seq .leaf .leaf)))))) Try.func68 (by kernel_rfl) (by kernel_rfl) (by kernel_rfl) (by kernel_rfl : F_s_l10Good R a0 a1 H = _) h
def F_s_l10Near (R : V → Heap → Prop) (a0 a1 a2 : V) (H : Heap) : Prop :=
  boxK a0 (bnd (aBinN .neq a1 a2) fun t1 =>
  gd t1 true
  (bnd (partOf true 2 (cellsOf a0) 0) fun t2 =>
  ACalls P n_s_l03Cost [t2, a1, a2] H fun v3 H4 =>
  bnd (aBinN .lss v3 (.int .i64 1000000)) fun t5 =>
  Ret R t5 H4)
  (Ret R (.bool false) H))
theorem W_s_l10Near {R : V → Heap → Prop} {a0 a1 a2 : V} {H : Heap} (h : F_s_l10Near R a0 a1 a2 H) : ACalls P n_s_l10Near [a0, a1, a2] H R :=
  acalls_of_form (g := ⟨[3], []⟩) (x := (.seq .leaf (.seq .leaf .leaf))) Try.func69 (by kernel_rfl) (by kernel_rfl) (by kernel_rfl) (by kernel_rfl : F_s_l10Near R a0 a1 a2 H = _) h
def F_s_l10Dist (R : V → Heap → Prop) (a0 a1 a2 : V) (H : Heap) : Prop :=
  boxK a0 (bnd (partOf true 2 (cellsOf a0) 0) fun t1 =>
  ACalls P n_s_Distances [t1, a1] H fun v2 H3 =>
  bnd (aIndex H3 1 v2 a2) fun t4 =>
  bnd (aLd false 1 H3 t4) fun t5 =>
  Ret R t5 H3)
theorem W_s_l10Dist {R : V → Heap → Prop} {a0 a1 a2 : V} {H : Heap} (h : F_s_l10Dist R a0 a1 a2 H) : ACalls P n_s_l10Dist [a0, a1, a2] H R :=
  acalls_of_form (g := ⟨[3], []⟩) (x := (.seq .leaf (.seq .leaf .leaf))) Try.func70 (by kernel_rfl) (by kernel_rfl) (by kernel_rfl) (by kernel_rfl : F_s_l10Dist R a0 a1 a2 H = _) h
def F_s_l10Over (R : V → Heap → Prop) (a0 a1 a2 a3 a4 : V) (H : Heap) : Prop :=
  boxK a0 (bnd (partOf true 2 (cellsOf a0) 0) fun t1 =>
  ACalls P n_s_l10Dist [t1, a1, a2] H fun v2 H3 =>
  ∃ S4, Abs.sub S4 H3 ∧
  bnd (partOf true 2 (cellsOf a0) 0) fun t5 =>
  bnd (partOf true 2 (cellsOf a0) 0) fun t6 =>
  bnd (partOf true 2 (cellsOf a0) 0) fun t7 =>
  ACalls P n_s_l10Dist [t5, a1, a3] H3 fun v8 H9 =>
  Abs.sub S4 H9 ∧
  ACalls P n_s_l03Cost [t6, a3, a4] H9 fun v10 H11 =>
  Abs.sub S4 H11 ∧
  bnd (aBinN .add v8 v10) fun t12 =>
  ACalls P n_s_l10Dist [t7, a4, a2] H11 fun v13 H14 =>
  Abs.sub S4 H14 ∧
  bnd (aBinN .add t12 v13) fun t15 =>
  bnd (aBinN .eql t15 v2) fun t16 =>
  gd t16 false
  (bnd (partOf true 2 (cellsOf a0) 0) fun t17 =>
  bnd (partOf true 2 (cellsOf a0) 0) fun t18 =>
  bnd (partOf true 2 (cellsOf a0) 0) fun t19 =>
  ACalls P n_s_l10Dist [t17, a1, a4] H14 fun v20 H21 =>
  Abs.sub S4 H21 ∧
  ACalls P n_s_l03Cost [t18, a4, a3] H21 fun v22 H23 =>
  Abs.sub S4 H23 ∧
  bnd (aBinN .add v20 v22) fun t24 =>
  ACalls P n_s_l10Dist [t19, a3, a2] H23 fun v25 H26 =>
  Abs.sub S4 H26 ∧
  bnd (aBinN .add t24 v25) fun t27 =>
  bnd (aBinN .eql t27 v2) fun t28 =>
  Ret R t28 H26)
  (Ret R (.bool true) H14))
theorem W_s_l10Over {R : V → Heap → Prop} {a0 a1 a2 a3 a4 : V} {H : Heap} (h : F_s_l10Over R a0 a1 a2 a3 a4 H) : ACalls P n_s_l10Over [a0, a1, a2, a3, a4] H R :=
  acalls_of_form (g := ⟨[5], []⟩) (x := (.seq .leaf (.seq .leaf (.seq (.draw [0, 1, 2, 4, 5, 6, 9, 10, 11, 14, 3, 7, 8, 12, 13, 15, 16, 17, 18, 19, 21, 22, 23, 26, 27, 28, 31, 20, 24, 25, 29, 30, 32, 33, 34]) .leaf)))) Try.func71 (by kernel_rfl) (by kernel_rfl) (by kernel_rfl) (by kernel_rfl : F_s_l10Over R a0 a1 a2 a3 a4 H = _) h
def F_s_l03Copy (R : V → Heap → Prop) (a0 : V) (H : Heap) : Prop :=
  boxK a0 (bnd (partOf false 1 (cellsOf a0) 0) fun t1 =>
  bnd (fillZ [(.int .i64 0), .nils] [(0, 1, t1)]) fun c2 =>
  bnd (stz 2 [(.int .i64 0), .nils] 0 (.agg c2)) fun c3 =>
  ∃ (I4 : Nat → List V → Heap → Prop) (n5 : Nat), Shr (I4 n5 [(.box (cellsOf a0)), (.box [(.int .i64 0), .nils]), (.box c3), (.int .i64 0)]) H ∧
  ∀ n6 xs8 H9, I4 n6 xs8 H9 →
  bnd (partOf false 1 (bc (xs8.headD .any)) 1) fun t10 =>
  bnd (lenOf t10) fun n11 =>
  bnd (aBinN .lss (xs8.tail.tail.tail.headD .any) (.int .i64 (n11 : Nat))) fun t12 =>
  cnd t12
  (bnd (partOf false 1 (bc (xs8.tail.tail.headD .any)) 1) fun t13 =>
  bnd (partOf false 1 (bc (xs8.headD .any)) 1) fun t14 =>
  bnd (aIndex H9 3 t14 (xs8.tail.tail.tail.headD .any)) fun t15 =>
  bnd (aLd true 3 H9 t15) fun t16 =>
  bnd (bsl 3 1 [(.int .i64 0), (.int .i64 0), (.int .i64 0)] [(0, t16)]) fun r17 =>
  ∀ o18, H9 o18 = none →
  bnd (rowsOf (upd H9 o18 ⟨3, r17⟩) 3 (.slice o18 0 1 (some 1))) fun r21 =>
  appendK (upd H9 o18 ⟨3, r17⟩) 3 24 t13 r21 fun v19 H20 =>
  bnd (stz 1 (bc (xs8.tail.tail.headD .any)) 1 v19) fun c22 =>
  bnd (aBinN .add (xs8.tail.tail.tail.headD .any) (.int .i64 1)) fun t23 =>
  ∃ n7, n7 < n6 ∧ Shr (I4 n7 [(.box (bc (xs8.headD .any))), (.box (bc (xs8.tail.headD .any))), (.box c22), t23]) H20)
  (bnd (partOf true 2 (bc (xs8.tail.tail.headD .any)) 0) fun t24 =>
  bnd (stz 2 (bc (xs8.tail.headD .any)) 0 t24) fun c25 =>
  bnd (partOf true 2 c25 0) fun t26 =>
  Ret R t26 H9))
theorem W_s_l03Copy {R : V → Heap → Prop} {a0 : V} {H : Heap} (h : F_s_l03Copy R a0 H) : ACalls P n_s_l03Copy [a0] H R :=
  acalls_of_form (g := ⟨[1, 2, 3], [5, 9, 15, 17, 24]⟩) (x := (.seq .leaf (.seq .leaf (.seq (.seq .leaf (.block (.loop [1, 2, 3, 4] (.seq (.seq .leaf (.cond .leaf .leaf)) (.seq (.block (.drawh [0, 1, 2, 3, 4, 5, 6, 7, 8, 9, 10])) .leaf))))) (.seq .leaf .leaf))))) Try.func72 (by kernel_rfl) (by kernel_rfl) (by kernel_rfl) (by kernel_rfl : F_s_l03Copy R a0 H = _) h
def F_s_LoopFree (R : V → Heap → Prop) (a0 a1 a2 a3 : V) (H : Heap) : Prop :=
  boxK a0 (bnd (partOf true 2 (cellsOf a0) 0) fun t1 =>
  bnd (bsl 1 3 [(.int .i64 0)] [(0, a1), (1, a2), (2, a3)]) fun r2 =>
  ∀ o3, H o3 = none →
  ACalls P n_s_l10Good [t1, (.slice o3 0 3 (some 3))] (upd H o3 ⟨1, r2⟩) fun v4 H5 =>
  bnd (aNot v4) fun t6 =>
  gd t6 false
  (bnd (aBinN .eql a1 a3) fun t7 =>
  gd t7 false
  (bnd (partOf true 2 (cellsOf a0) 0) fun t8 =>
  ACalls P n_s_l10Near [t8, a1, a2] H5 fun v9 H10 =>
  bnd (aNot v9) fun t11 =>
  cnd t11
  (Ret R (.bool false) H10)
  (bnd (partOf true 2 (cellsOf a0) 0) fun t12 =>
  ACalls P n_s_l10Dist [t12, a2, a3] H10 fun v13 H14 =>
  bnd (partOf true 2 (cellsOf a0) 0) fun t15 =>
  ACalls P n_s_l10Dist [t15, a2, a1] H14 fun v16 H17 =>
  bnd (partOf true 2 (cellsOf a0) 0) fun t18 =>
  ACalls P n_s_l10Dist [t18, a1, a3] H17 fun v19 H20 =>
  bnd (aBinN .lss v13 (.int .i64 1000000)) fun t21 =>
  gd t21 true
  (bnd (aBinN .lss v16 (.int .i64 1000000)) fun t22 =>
  gd t22 true
  (bnd (aBinN .lss v19 (.int .i64 1000000)) fun t23 =>
  gd t23 true
  (bnd (aBinN .add v16 v19) fun t24 =>
  bnd (aBinN .lss v13 t24) fun t25 =>
  Ret R t25 H20)
  (Ret R (.bool false) H20))
  (Ret R (.bool false) H20))
  (Ret R (.bool false) H20)))
  (Ret R (.bool false) H5))
  (Ret R (.bool false) H5))
theorem W_s_LoopFree {R : V → Heap → Prop} {a0 a1 a2 a3 : V} {H : Heap} (h : F_s_LoopFree R a0 a1 a2 a3 H) : ACalls P n_s_LoopFree [a0, a1, a2, a3] H R :=
  acalls_of_form (g := ⟨[4], []⟩) (x := (.seq .leaf (.seq (.seq .leaf (.cond (.seq .leaf .leaf) .leaf)) (.seq .leaf (.seq .leaf (.seq .leaf (.seq .leaf .leaf))))))) Try.func73 (by kernel_rfl) (by kernel_rfl) (by kernel_rfl) (by kernel_rfl : F_s_LoopFree R a0 a1 a2 a3 H = _) h
def F_slices_Contains_int_int (R : V → Heap → Prop) (a0 a1 : V) (H : Heap) : Prop :=
  ACalls P n_slices_Index_int_int [a0, a1] H fun v1 H2 =>
  bnd (aBinN .geq v1 (.int .i64 0)) fun t3 =>
  Ret R t3 H2
theorem W_slices_Contains_int_int {R : V → Heap → Prop} {a0 a1 : V} {H : Heap} (h : F_slices_Contains_int_int R a0 a1 H) : ACalls P n_slices_Contains_int_int [a0, a1] H R :=
  acalls_of_form (g := ⟨[], []⟩) (x := (.seq .leaf (.seq .leaf .leaf))) Try.func74 (by kernel_rfl) (by kernel_rfl) (by kernel_rfl) (by kernel_rfl : F_slices_Contains_int_int R a0 a1 H = _) h
def F_i_Graph_alternates (R : V → Heap → Prop) (a0 a1 a2 a3 a4 : V) (H : Heap) : Prop :=
  boxK a0 (bnd (bsl 1 0 [(.int .i64 0)] []) fun r1 =>
  ∀ o2, H o2 = none →
  bnd (partOf true 2 (cellsOf a0) 0) fun t3 =>
  ACalls P n_i_Graph_isNear [t3, a1, a2] (upd H o2 ⟨1, r1⟩) fun v4 H5 =>
  bnd (aNot v4) fun t6 =>
  cnd t6
  (Ret R (.slice o2 0 0 (some 0)) H5)
  (bnd (partOf false 1 (cellsOf a0) 0) fun t7 =>
  ∃ (I8 : Nat → List V → Heap → Prop) (n9 : Nat), Shr (I8 n9 [(.slice o2 0 0 (some 0)), (.int .i64 0)]) H5 ∧
  ∀ n10 xs12 H13, I8 n10 xs12 H13 →
  bnd (aBinN .lss (xs12.tail.headD .any) t7) fun t14 =>
  cnd t14
  (bnd (aBinN .neq (xs12.tail.headD .any) a2) fun t15 =>
  gd t15 true
  (bnd (partOf true 2 (cellsOf a0) 0) fun t16 =>
  ACalls P n_i_Graph_loopFree [t16, a1, (xs12.tail.headD .any), a3, a4] H13 fun v17 H18 =>
  cnd v17
  (bnd (bsl 1 1 [(.int .i64 0)] [(0, (xs12.tail.headD .any))]) fun r19 =>
  ∀ o20, H18 o20 = none →
  bnd (rowsOf (upd H18 o20 ⟨1, r19⟩) 1 (.slice o20 0 1 (some 1))) fun r23 =>
  appendK (upd H18 o20 ⟨1, r19⟩) 1 8 (xs12.headD .any) r23 fun v21 H22 =>
  bnd (aBinN .add (xs12.tail.headD .any) (.int .i64 1)) fun t24 =>
  ∃ n11, n11 < n10 ∧ Shr (I8 n11 [v21, t24]) H22)
  (bnd (aBinN .add (xs12.tail.headD .any) (.int .i64 1)) fun t25 =>
  ∃ n11, n11 < n10 ∧ Shr (I8 n11 [(xs12.headD .any), t25]) H18))
  (bnd (aBinN .add (xs12.tail.headD .any) (.int .i64 1)) fun t26 =>
  ∃ n11, n11 < n10 ∧ Shr (I8 n11 [(xs12.headD .any), t26]) H13))
  (Ret R (xs12.headD .any) H13)))
theorem W_i_Graph_alternates {R : V → Heap → Prop} {a0 a1 a2 a3 a4 : V} {H : Heap} (h : F_i_Graph_alternates R a0 a1 a2 a3 a4 H) : ACalls P n_i_Graph_alternates [a0, a1, a2, a3, a4] H R :=
  acalls_of_form (g := ⟨[5], [20]⟩) (x := (.seq .leaf (.seq .leaf (.seq (.seq .leaf (.cond (.seq .leaf .leaf) .leaf)) (.seq (.seq .leaf (.block (.loop [11, 22] (.seq .leaf (.seq (.cond .leaf .leaf) (.seq (.block (.seq .leaf (.seq .leaf (.cond .leaf .leaf)))) .leaf)))))) (.seq .leaf .leaf)))))) Try.func75 (by kernel_rfl) (by kernel_rfl) (by kernel_rfl) (by kernel_rfl : F_i_Graph_alternates R a0 a1 a2 a3 a4 H = _) h
def F_i_onWay (R : V → Heap → Prop) (a0 a1 a2 a3 : V) (H : Heap) : Prop :=
  ∃ S1, Abs.sub S1 H ∧
  bnd (aIndex S1 1 a0 a1) fun t2 =>
  bnd (aLd false 1 S1 t2) fun t3 =>
  bnd (aIndex S1 1 t3 a2) fun t4 =>
  bnd (aLd false 1 S1 t4) fun t5 =>
  bnd (aBinN .lss t5 (.int .i64 1000000)) fun t6 =>
  gd t6 true
  (bnd (aIndex S1 1 a0 a1) fun t7 =>
  bnd (aLd false 1 S1 t7) fun t8 =>
  bnd (aIndex S1 1 t8 a3) fun t9 =>
  bnd (aLd false 1 S1 t9) fun t10 =>
  bnd (aIndex S1 1 a0 a3) fun t11 =>
  bnd (aLd false 1 S1 t11) fun t12 =>
  bnd (aIndex S1 1 t12 a2) fun t13 =>
  bnd (aLd false 1 S1 t13) fun t14 =>
  bnd (aBinN .add t10 t14) fun t15 =>
  bnd (aIndex S1 1 a0 a1) fun t16 =>
  bnd (aLd false 1 S1 t16) fun t17 =>
  bnd (aIndex S1 1 t17 a2) fun t18 =>
  bnd (aLd false 1 S1 t18) fun t19 =>
  bnd (aBinN .eql t15 t19) fun t20 =>
  Ret R t20 H)
  (Ret R (.bool false) H)
theorem W_i_onWay {R : V → Heap → Prop} {a0 a1 a2 a3 : V} {H : Heap} (h : F_i_onWay R a0 a1 a2 a3 H) : ACalls P n_i_onWay [a0, a1, a2, a3] H R :=
  acalls_of_form (g := ⟨[], []⟩) (x := (.seq .leaf (.seq (.draw [0, 1, 2, 3, 4, 5, 6, 7, 8, 9, 10, 11, 12, 13, 14, 15, 16, 17, 18, 19, 20, 21, 22, 23, 24, 25, 26, 27, 28, 29, 30, 31, 32, 33]) .leaf))) Try.func76 (by kernel_rfl) (by kernel_rfl) (by kernel_rfl) (by kernel_rfl : F_i_onWay R a0 a1 a2 a3 H = _) h
def F_s_BestAlternate (R : V → Heap → Prop) (a0 a1 a2 a3 : V) (H : Heap) : Prop :=
  boxK a0 (bnd (partOf true 2 (cellsOf a0) 0) fun t1 =>
  ACalls P n_s_Alternates [t1, a1, a2, a3] H fun v2 H3 =>
  ∃ (I4 : Nat → List V → Heap → Prop) (n5 : Nat), Shr (I4 n5 [(.int .i64 (-1)), (.int .i64 0), (.int .i64 0)]) H3 ∧
  ∀ n6 xs8 H9, I4 n6 xs8 H9 →
  bnd (lenOf v2) fun n10 =>
  bnd (aBinN .lss (xs8.tail.tail.headD .any) (.int .i64 (n10 : Nat))) fun t11 =>
  cnd t11
  (∃ S12, Abs.sub S12 H9 ∧
  bnd (partOf true 2 (cellsOf a0) 0) fun t13 =>
  bnd (aIndex S12 1 v2 (xs8.tail.tail.headD .any)) fun t14 =>
  bnd (aLd false 1 S12 t14) fun t15 =>
  bnd (partOf true 2 (cellsOf a0) 0) fun t16 =>
  bnd (aIndex S12 1 v2 (xs8.tail.tail.headD .any)) fun t17 =>
  bnd (aLd false 1 S12 t17) fun t18 =>
  ACalls P n_s_l03Cost [t13, a1, t15] H9 fun v19 H20 =>
  Abs.sub S12 H20 ∧
  ACalls P n_s_l10Dist [t16, t18, a3] H20 fun v21 H22 =>
  Abs.sub S12 H22 ∧
  bnd (aBinN .add v19 v21) fun t23 =>
  bnd (aBinN .lss (xs8.headD .any) (.int .i64 0)) fun t24 =>
  gd t24 false
  (bnd (aBinN .lss t23 (xs8.tail.headD .any)) fun t25 =>
  cnd t25
  (bnd (aIndex H22 1 v2 (xs8.tail.tail.headD .any)) fun t26 =>
  bnd (aLd false 1 H22 t26) fun t27 =>
  bnd (aBinN .add (xs8.tail.tail.headD .any) (.int .i64 1)) fun t28 =>
  ∃ n7, n7 < n6 ∧ Shr (I4 n7 [t27, t23, t28]) H22)
  (bnd (aBinN .add (xs8.tail.tail.headD .any) (.int .i64 1)) fun t29 =>
  ∃ n7, n7 < n6 ∧ Shr (I4 n7 [(xs8.headD .any), (xs8.tail.headD .any), t29]) H22))
  (bnd (aIndex H22 1 v2 (xs8.tail.tail.headD .any)) fun t30 =>
  bnd (aLd false 1 H22 t30) fun t31 =>
  bnd (aBinN .add (xs8.tail.tail.headD .any) (.int .i64 1)) fun t32 =>
  ∃ n7, n7 < n6 ∧ Shr (I4 n7 [t31, t23, t32]) H22))
  (Ret R (xs8.headD .any) H9))
theorem W_s_BestAlternate {R : V → Heap → Prop} {a0 a1 a2 a3 : V} {H : Heap} (h : F_s_BestAlternate R a0 a1 a2 a3 H) : ACalls P n_s_BestAlternate [a0, a1, a2, a3] H R :=
  acalls_of_form (g := ⟨[4], []⟩) (x := (.seq .leaf (.seq .leaf (.seq .leaf (.seq .leaf (.seq (.seq .leaf (.block (.loop [10, 11, 12] (.seq (.seq .leaf (.cond .leaf .leaf)) (.seq (.block (.seq (.draw [0, 1, 2, 3, 4, 5, 7, 8, 9, 10, 11, 12, 6, 13, 14, 15]) (.seq .leaf (.cond (.seq .leaf .leaf) .leaf)))) .leaf))))) (.seq .leaf .leaf))))))) Try.func77 (by kernel_rfl) (by kernel_rfl) (by kernel_rfl) (by kernel_rfl : F_s_BestAlternate R a0 a1 a2 a3 H = _) h
def F_s_CheapestWay (R : V → Heap → Prop) (a0 a1 a2 : V) (H : Heap) : Prop :=
  boxK a0 (bnd (partOf true 2 (cellsOf a0) 0) fun t1 =>
  ACalls P n_s_GraphOk [t1] H fun v2 H3 =>
  bnd (aNot v2) fun t4 =>
  gd t4 false
  (bnd (partOf true 2 (cellsOf a0) 0) fun t5 =>
  ACalls P n_s_l03Node [t5, a1] H3 fun v6 H7 =>
  bnd (aNot v6) fun t8 =>
  gd t8 false
  (bnd (partOf true 2 (cellsOf a0) 0) fun t9 =>
  ACalls P n_s_l03Node [t9, a2] H7 fun v10 H11 =>
  bnd (aNot v10) fun t12 =>
  cnd t12
  (Ret R (.tup [.nils, (.bool false)]) H11)
  (bnd (partOf true 2 (cellsOf a0) 0) fun t13 =>
  ACalls P n_s_l03Steps [t13, a2] H11 fun v14 H15 =>
  bnd (aExtract 0 v14) fun t16 =>
  bnd (aExtract 1 v14) fun t17 =>
  bnd (aIndex H15 1 t17 a1) fun t18 =>
  bnd (aLd false 1 H15 t18) fun t19 =>
  bnd (aBinN .eql t19 (.int .i64 0)) fun t20 =>
  cnd t20
  (Ret R (.tup [.nils, (.bool false)]) H15)
  (bnd (bsl 1 1 [(.int .i64 0)] [(0, a1)]) fun r21 =>
  ∀ o22, H15 o22 = none →
  ∃ (I23 : Nat → List V → Heap → Prop) (n24 : Nat), Shr (I23 n24 [(.slice o22 0 1 (some 1)), a1]) (upd H15 o22 ⟨1, r21⟩) ∧
  ∀ n25 xs27 H28, I23 n25 xs27 H28 →
  bnd (aBinN .neq (xs27.tail.headD .any) a2) fun t29 =>
  cnd t29
  (bnd (partOf true 2 (cellsOf a0) 0) fun t30 =>
  ACalls P n_s_Distances [t30, (xs27.tail.headD .any)] H28 fun v31 H32 =>
  bnd (aIndex H32 1 v31 a2) fun t33 =>
  bnd (aLd false 1 H32 t33) fun t34 =>
  ∃ (I35 : Nat → List V → Heap → Prop) (n36 : Nat), Shr (I35 n36 [(xs27.tail.headD .any), (.int .i64 0)]) H32 ∧
  ∀ n37 xs39 H40, I35 n37 xs39 H40 →
  bnd (partOf false 1 (cellsOf a0) 0) fun t41 =>
  bnd (aBinN .lss (xs39.tail.headD .any) t41) fun t42 =>
  cnd t42
  (bnd (partOf true 2 (cellsOf a0) 0) fun t43 =>
  ACalls P n_s_l03Cost [t43, (xs39.headD .any), (xs39.tail.headD .any)] H40 fun v44 H45 =>
  bnd (aBinN .neq (xs39.tail.headD .any) (xs39.headD .any)) fun t46 =>
  gd t46 true
  (bnd (aBinN .lss v44 (.int .i64 1000000)) fun t47 =>
  gd t47 true
  (bnd (aIndex H45 1 t17 (xs39.tail.headD .any)) fun t48 =>
  bnd (aLd false 1 H45 t48) fun t49 =>
  bnd (aBinN .gtr t49 (.int .i64 0)) fun t50 =>
  gd t50 true
  (bnd (aIndex H45 1 t16 (xs39.tail.headD .any)) fun t51 =>
  bnd (aLd false 1 H45 t51) fun t52 =>
  bnd (aBinN .add t52 (.int .i64 1)) fun t53 =>
  bnd (aIndex H45 1 t16 (xs39.headD .any)) fun t54 =>
  bnd (aLd false 1 H45 t54) fun t55 =>
  bnd (aBinN .eql t53 t55) fun t56 =>
  gd t56 true
  (bnd (partOf true 2 (cellsOf a0) 0) fun t57 =>
  ACalls P n_s_Distances [t57, (xs39.tail.headD .any)] H45 fun v58 H59 =>
  bnd (aIndex H59 1 v58 a2) fun t60 =>
  bnd (aLd false 1 H59 t60) fun t61 =>
  bnd (aBinN .add v44 t61) fun t62 =>
  bnd (aBinN .eql t62 t34) fun t63 =>
  cnd t63
  (bnd (bsl 1 1 [(.int .i64 0)] [(0, (xs39.tail.headD .any))]) fun r64 =>
  ∀ o65, H59 o65 = none →
  bnd (rowsOf (upd H59 o65 ⟨1, r64⟩) 1 (.slice o65 0 1 (some 1))) fun r68 =>
  appendK (upd H59 o65 ⟨1, r64⟩) 1 8 (xs27.headD .any) r68 fun v66 H67 =>
  ∃ n26, n26 < n25 ∧ Shr (I23 n26 [v66, (xs39.tail.headD .any)]) H67)
  (bnd (aBinN .add (xs39.tail.headD .any) (.int .i64 1)) fun t69 =>
  ∃ n38, n38 < n37 ∧ Shr (I35 n38 [(xs39.headD .any), t69]) H59))
  (bnd (aBinN .add (xs39.tail.headD .any) (.int .i64 1)) fun t70 =>
  ∃ n38, n38 < n37 ∧ Shr (I35 n38 [(xs39.headD .any), t70]) H45))
  (bnd (aBinN .add (xs39.tail.headD .any) (.int .i64 1)) fun t71 =>
  ∃ n38, n38 < n37 ∧ Shr (I35 n38 [(xs39.headD .any), t71]) H45))
  (bnd (aBinN .add (xs39.tail.headD .any) (.int .i64 1)) fun t72 =>
  ∃ n38, n38 < n37 ∧ Shr (I35 n38 [(xs39.headD .any), t72]) H45))
  (bnd (aBinN .add (xs39.tail.headD .any) (.int .i64 1)) fun t73 =>
  ∃ n38, n38 < n37 ∧ Shr (I35 n38 [(xs39.headD .any), t73]) H45))
  (bnd (bsl 1 1 [(.int .i64 0)] [(0, (xs39.headD .any))]) fun r74 =>
  ∀ o75, H40 o75 = none →
  bnd (rowsOf (upd H40 o75 ⟨1, r74⟩) 1 (.slice o75 0 1 (some 1))) fun r78 =>
  appendK (upd H40 o75 ⟨1, r74⟩) 1 8 (xs27.headD .any) r78 fun v76 H77 =>
  ∃ n26, n26 < n25 ∧ Shr (I23 n26 [v76, (xs39.headD .any)]) H77))
  (Ret R (.tup [(xs27.headD .any), (.bool true)]) H28))))
  (Ret R (.tup [.nils, (.bool false)]) H7))
  (Ret R (.tup [.nils, (.bool false)]) H3))
theorem W_s_CheapestWay {R : V → Heap → Prop} {a0 a1 a2 : V} {H : Heap} (h : F_s_CheapestWay R a0 a1 a2 H) : ACalls P n_s_CheapestWay [a0, a1, a2] H R :=
  acalls_of_form (g := ⟨[3], [54]⟩) (x := (.seq .leaf (.seq (.seq .leaf (.cond (.seq .leaf .leaf) .leaf)) (.seq .leaf (.seq (.seq .leaf (.cond (.seq .leaf .leaf) .leaf)) (.seq .leaf (.seq .leaf (.seq (.block (.loop [10, 11] (.seq (.seq .leaf (.cond .leaf .leaf)) (.block (.seq .leaf (.seq (.seq .leaf (.block (.loop [11, 13] (.seq (.seq .leaf (.cond .leaf .leaf)) (.seq (.block (.seq .leaf (.seq (.drawh [0, 1, 2, 3, 4, 5, 6, 7, 8, 9, 10, 11, 12, 13, 14, 15, 16, 17, 18, 19, 20, 21, 22, 23, 24, 25, 26, 27, 28, 29, 31, 35, 30, 32, 33, 34, 36, 37]) (.cond (.seq .leaf .leaf) .leaf)))) .leaf))))) .leaf)))))) (.seq .leaf .leaf))))))))) Try.func78 (by kernel_rfl) (by kernel_rfl) (by kernel_rfl) (by kernel_rfl : F_s_CheapestWay R a0 a1 a2 H = _) h
def F_i_Graph_cheapest (R : V → Heap → Prop) (a0 a1 a2 : V) (H : Heap) : Prop :=
  boxK a0 (bnd (partOf true 2 (cellsOf a0) 0) fun t1 =>
  ACalls P n_i_Graph_all [t1] H fun v2 H3 =>
  bnd (aIndex H3 1 v2 a1) fun t4 =>
  bnd (aLd false 1 H3 t4) fun t5 =>
  bnd (aIndex H3 1 t5 a2) fun t6 =>
  bnd (aLd false 1 H3 t6) fun t7 =>
  bnd (aBinN .eql t7 (.int .i64 1000000)) fun t8 =>
  cnd t8
  (Ret R (.tup [.nils, (.bool false)]) H3)
  (bnd (partOf true 2 (cellsOf a0) 0) fun t9 =>
  ACalls P n_i_Graph_steps [t9, a2, v2] H3 fun v10 H11 =>
  bnd (bsl 1 1 [(.int .i64 0)] [(0, a1)]) fun r12 =>
  ∀ o13, H11 o13 = none →
  ∃ (I14 : Nat → List V → Heap → Prop) (n15 : Nat), Shr (I14 n15 [(.box (cellsOf a0)), (.slice o13 0 1 (some 1)), a1]) (upd H11 o13 ⟨1, r12⟩) ∧
  ∀ n16 xs18 H19, I14 n16 xs18 H19 →
  bnd (aBinN .neq (xs18.tail.tail.headD .any) a2) fun t20 =>
  cnd t20
  (bnd (partOf false 1 (bc (xs18.headD .any)) 1) fun t21 =>
  bnd (lenOf t21) fun n22 =>
  ∃ (I23 : Nat → List V → Heap → Prop) (n24 : Nat), Shr (I23 n24 [(.box (bc (xs18.headD .any))), (xs18.tail.tail.headD .any), (.int .i64 0)]) H19 ∧
  ∀ n25 xs27 H28, I23 n25 xs27 H28 →
  bnd (aBinN .lss (xs27.tail.tail.headD .any) (.int .i64 (n22 : Nat))) fun t29 =>
  cnd t29
  (bnd (aIndex H28 3 t21 (xs27.tail.tail.headD .any)) fun t30 =>
  bnd (aLd true 3 H28 t30) fun t31 =>
  bnd (stz 3 [(.int .i64 0), (.int .i64 0), (.int .i64 0)] 0 t31) fun c32 =>
  ∃ S33, Abs.sub S33 H28 ∧
  bnd (partOf false 1 c32 0) fun t34 =>
  bnd (aBinN .eql t34 (xs27.tail.headD .any)) fun t35 =>
  gd t35 true
  (bnd (partOf false 1 c32 2) fun t36 =>
  bnd (partOf false 1 c32 1) fun t37 =>
  bnd (aIndex S33 1 v2 t37) fun t38 =>
  bnd (aLd false 1 S33 t38) fun t39 =>
  bnd (aIndex S33 1 t39 a2) fun t40 =>
  bnd (aLd false 1 S33 t40) fun t41 =>
  bnd (aBinN .add t36 t41) fun t42 =>
  bnd (aIndex S33 1 v2 (xs27.tail.headD .any)) fun t43 =>
  bnd (aLd false 1 S33 t43) fun t44 =>
  bnd (aIndex S33 1 t44 a2) fun t45 =>
  bnd (aLd false 1 S33 t45) fun t46 =>
  bnd (aBinN .eql t42 t46) fun t47 =>
  gd t47 true
  (bnd (partOf false 1 c32 1) fun t48 =>
  bnd (aIndex S33 1 v10 t48) fun t49 =>
  bnd (aLd false 1 S33 t49) fun t50 =>
  bnd (aIndex S33 1 v10 (xs27.tail.headD .any)) fun t51 =>
  bnd (aLd false 1 S33 t51) fun t52 =>
  bnd (aBinN .sub t52 (.int .i64 1)) fun t53 =>
  bnd (aBinN .eql t50 t53) fun t54 =>
  cnd t54
  (bnd (partOf false 1 c32 1) fun t55 =>
  bnd (bsl 1 1 [(.int .i64 0)] [(0, t55)]) fun r56 =>
  ∀ o57, H28 o57 = none →
  bnd (rowsOf (upd H28 o57 ⟨1, r56⟩) 1 (.slice o57 0 1 (some 1))) fun r60 =>
  appendK (upd H28 o57 ⟨1, r56⟩) 1 8 (xs18.tail.headD .any) r60 fun v58 H59 =>
  ∃ n17, n17 < n16 ∧ Shr (I14 n17 [(.box (bc (xs27.headD .any))), v58, t55]) H59)
  (bnd (aBinN .add (xs27.tail.tail.headD .any) (.int .i64 1)) fun t61 =>
  ∃ n26, n26 < n25 ∧ Shr (I23 n26 [(.box (bc (xs27.headD .any))), (xs27.tail.headD .any), t61]) H28))
  (bnd (aBinN .add (xs27.tail.tail.headD .any) (.int .i64 1)) fun t62 =>
  ∃ n26, n26 < n25 ∧ Shr (I23 n26 [(.box (bc (xs27.headD .any))), (xs27.tail.headD .any), t62]) H28))
  (bnd (aBinN .add (xs27.tail.tail.headD .any) (.int .i64 1)) fun t63 =>
  ∃ n26, n26 < n25 ∧ Shr (I23 n26 [(.box (bc (xs27.headD .any))), (xs27.tail.headD .any), t63]) H28))
  (bnd (bsl 1 1 [(.int .i64 0)] [(0, (xs27.tail.headD .any))]) fun r64 =>
  ∀ o65, H28 o65 = none →
  bnd (rowsOf (upd H28 o65 ⟨1, r64⟩) 1 (.slice o65 0 1 (some 1))) fun r68 =>
  appendK (upd H28 o65 ⟨1, r64⟩) 1 8 (xs18.tail.headD .any) r68 fun v66 H67 =>
  ∃ n17, n17 < n16 ∧ Shr (I14 n17 [(.box (bc (xs27.headD .any))), v66, (xs27.tail.headD .any)]) H67))
  (Ret R (.tup [(xs18.tail.headD .any), (.bool true)]) H19)))
theorem W_i_Graph_cheapest {R : V → Heap → Prop} {a0 a1 a2 : V} {H : Heap} (h : F_i_Graph_cheapest R a0 a1 a2 H) : ACalls P n_i_Graph_cheapest [a0, a1, a2] H R :=
  acalls_of_form (g := ⟨[3, 13], [34, 41, 46, 49, 68, 79]⟩) (x := (.seq .leaf (.seq .leaf (.seq (.seq .leaf (.cond (.seq .leaf .leaf) .leaf)) (.seq .leaf (.seq .leaf (.seq (.seq .leaf (.block (.loop [3, 10, 11] (.seq (.seq .leaf (.cond .leaf .leaf)) (.block (.seq (.seq .leaf (.block (.loop [3, 11, 37] (.seq .leaf (.seq (.cond .leaf .leaf) (.seq (.block (.seq .leaf (.seq (.draw [0, 1, 2, 3, 4, 5, 6, 7, 8, 9, 10, 11, 12, 13, 14, 15, 16, 17, 18, 19, 20, 21, 22, 23, 24, 25, 26, 27, 28, 29, 30, 31, 32, 33, 34, 35, 36, 37]) (.cond (.seq .leaf .leaf) .leaf)))) .leaf)))))) .leaf)))))) (.seq .leaf .leaf)))))))) Try.func79 (by kernel_rfl) (by kernel_rfl) (by kernel_rfl) (by kernel_rfl : F_i_Graph_cheapest R a0 a1 a2 H = _) h
def F_l_markEdgeS (R : V → Heap → Prop) (a0 a1 : V) (H : Heap) : Prop :=
  ∃ (I1 : Nat → List V → Heap → Prop) (n2 : Nat), Shr (I1 n2 [a1, (.int .i64 0)]) H ∧
  ∀ n3 xs5 H6, I1 n3 xs5 H6 →
  bnd (lenOf a0) fun n7 =>
  bnd (aBinN .lss (xs5.tail.headD .any) (.int .i64 (n7 : Nat))) fun t8 =>
  cnd t8
  (bnd (aIndex H6 3 a0 (xs5.tail.headD .any)) fun t9 =>
  bnd (aField 0 t9) fun t10 =>
  bnd (aSt 1 H6 t10 (xs5.headD .any)) fun H11 =>
  bnd (aBinN .add (xs5.headD .any) (.int .i64 1)) fun t12 =>
  bnd (aIndex H11 3 a0 (xs5.tail.headD .any)) fun t13 =>
  bnd (aField 1 t13) fun t14 =>
  bnd (aSt 1 H11 t14 t12) fun H15 =>
  bnd (aBinN .add t12 (.int .i64 1)) fun t16 =>
  bnd (aIndex H15 3 a0 (xs5.tail.headD .any)) fun t17 =>
  bnd (aField 2 t17) fun t18 =>
  bnd (aSt 1 H15 t18 t16) fun H19 =>
  bnd (aBinN .add t16 (.int .i64 1)) fun t20 =>
  bnd (aBinN .add (xs5.tail.headD .any) (.int .i64 1)) fun t21 =>
  ∃ n4, n4 < n3 ∧ Shr (I1 n4 [t20, t21]) H19)
  (Ret R (xs5.headD .any) H6)
theorem W_l_markEdgeS {R : V → Heap → Prop} {a0 a1 : V} {H : Heap} (h : F_l_markEdgeS R a0 a1 H) : ACalls P n_l_markEdgeS [a0, a1] H R :=
  acalls_of_form (g := ⟨[], []⟩) (x := (.seq .leaf (.seq (.seq .leaf (.block (.loop [1, 5] (.seq (.seq .leaf (.cond .leaf .leaf)) (.seq (.block (.seq .leaf (.seq .leaf (.seq .leaf (.seq .leaf (.seq .leaf .leaf)))))) .leaf))))) (.seq .leaf .leaf)))) Try.func80 (by kernel_rfl) (by kernel_rfl) (by kernel_rfl) (by kernel_rfl : F_l_markEdgeS R a0 a1 H = _) h
def F_i_Graph_bestAlternate (R : V → Heap → Prop) (a0 a1 a2 a3 a4 : V) (H : Heap) : Prop :=
  boxK a0 (bnd (partOf true 2 (cellsOf a0) 0) fun t1 =>
  ACalls P n_i_Graph_alternates [t1, a1, a2, a3, a4] H fun v2 H3 =>
  bnd (lenOf v2) fun n4 =>
  ∃ (I5 : Nat → List V → Heap → Prop) (n6 : Nat), Shr (I5 n6 [(.int .i64 (-1)), (.int .i64 0)]) H3 ∧
  ∀ n7 xs9 H10, I5 n7 xs9 H10 →
  bnd (aBinN .lss (xs9.tail.headD .any) (.int .i64 (n4 : Nat))) fun t11 =>
  cnd t11
  (bnd (aIndex H10 1 v2 (xs9.tail.headD .any)) fun t12 =>
  bnd (aLd false 1 H10 t12) fun t13 =>
  ∃ S14, Abs.sub S14 H10 ∧
  bnd (aBinN .lss (xs9.headD .any) (.int .i64 0)) fun t15 =>
  gd t15 false
  (bnd (partOf true 2 (cellsOf a0) 0) fun t16 =>
  bnd (aIndex S14 1 a4 t13) fun t17 =>
  bnd (aLd false 1 S14 t17) fun t18 =>
  bnd (aIndex S14 1 t18 a3) fun t19 =>
  bnd (aLd false 1 S14 t19) fun t20 =>
  bnd (partOf true 2 (cellsOf a0) 0) fun t21 =>
  bnd (aIndex S14 1 a4 (xs9.headD .any)) fun t22 =>
  bnd (aLd false 1 S14 t22) fun t23 =>
  bnd (aIndex S14 1 t23 a3) fun t24 =>
  bnd (aLd false 1 S14 t24) fun t25 =>
  ACalls P n_i_Graph_cost [t16, a1, t13] H10 fun v26 H27 =>
  Abs.sub S14 H27 ∧
  bnd (aBinN .add v26 t20) fun t28 =>
  ACalls P n_i_Graph_cost [t21, a1, (xs9.headD .any)] H27 fun v29 H30 =>
  Abs.sub S14 H30 ∧
  bnd (aBinN .add v29 t25) fun t31 =>
  bnd (aBinN .lss t28 t31) fun t32 =>
  cnd t32
  (bnd (aBinN .add (xs9.tail.headD .any) (.int .i64 1)) fun t33 =>
  ∃ n8, n8 < n7 ∧ Shr (I5 n8 [t13, t33]) H30)
  (bnd (aBinN .add (xs9.tail.headD .any) (.int .i64 1)) fun t34 =>
  ∃ n8, n8 < n7 ∧ Shr (I5 n8 [(xs9.headD .any), t34]) H30))
  (bnd (aBinN .add (xs9.tail.headD .any) (.int .i64 1)) fun t35 =>
  ∃ n8, n8 < n7 ∧ Shr (I5 n8 [t13, t35]) H10))
  (Ret R (xs9.headD .any) H10))
theorem W_i_Graph_bestAlternate {R : V → Heap → Prop} {a0 a1 a2 a3 a4 : V} {H : Heap} (h : F_i_Graph_bestAlternate R a0 a1 a2 a3 a4 H) : ACalls P n_i_Graph_bestAlternate [a0, a1, a2, a3, a4] H R :=
  acalls_of_form (g := ⟨[5], []⟩) (x := (.seq .leaf (.seq .leaf (.seq (.seq .leaf (.block (.loop [11, 21] (.seq .leaf (.seq (.cond .leaf .leaf) (.seq (.block (.seq .leaf (.seq (.draw [0, 1, 2, 3, 4, 5, 7, 8, 9, 10, 11, 12, 13, 15, 16, 17, 19, 20, 21, 22, 23, 24, 25, 6, 14, 18, 26, 27, 28]) (.cond .leaf .leaf)))) .leaf)))))) (.seq .leaf .leaf))))) Try.func81 (by kernel_rfl) (by kernel_rfl) (by kernel_rfl) (by kernel_rfl : F_i_Graph_bestAlternate R a0 a1 a2 a3 a4 H = _) h
def F_i_Graph_loopFree (R : V → Heap → Prop) (a0 a1 a2 a3 a4 : V) (H : Heap) : Prop :=
  boxK a0 (bnd (partOf true 2 (cellsOf a0) 0) fun t1 =>
  ACalls P n_i_Graph_isNear [t1, a1, a2] H fun v2 H3 =>
  bnd (aNot v2) fun t4 =>
  gd t4 false
  (bnd (aBinN .eql a1 a3) fun t5 =>
  gd t5 false
  (bnd (aIndex H3 1 a4 a2) fun t6 =>
  bnd (aLd false 1 H3 t6) fun t7 =>
  bnd (aIndex H3 1 t7 a3) fun t8 =>
  bnd (aLd false 1 H3 t8) fun t9 =>
  bnd (aBinN .eql t9 (.int .i64 1000000)) fun t10 =>
  gd t10 false
  (bnd (aIndex H3 1 a4 a2) fun t11 =>
  bnd (aLd false 1 H3 t11) fun t12 =>
  bnd (aIndex H3 1 t12 a1) fun t13 =>
  bnd (aLd false 1 H3 t13) fun t14 =>
  bnd (aBinN .eql t14 (.int .i64 1000000)) fun t15 =>
  gd t15 false
  (bnd (aIndex H3 1 a4 a1) fun t16 =>
  bnd (aLd false 1 H3 t16) fun t17 =>
  bnd (aIndex H3 1 t17 a3) fun t18 =>
  bnd (aLd false 1 H3 t18) fun t19 =>
  bnd (aBinN .eql t19 (.int .i64 1000000)) fun t20 =>
  cnd t20
  (Ret R (.bool false) H3)
  (∃ S21, Abs.sub S21 H3 ∧
  bnd (aIndex S21 1 a4 a2) fun t22 =>
  bnd (aLd false 1 S21 t22) fun t23 =>
  bnd (aIndex S21 1 t23 a3) fun t24 =>
  bnd (aLd false 1 S21 t24) fun t25 =>
  bnd (aIndex S21 1 a4 a2) fun t26 =>
  bnd (aLd false 1 S21 t26) fun t27 =>
  bnd (aIndex S21 1 t27 a1) fun t28 =>
  bnd (aLd false 1 S21 t28) fun t29 =>
  bnd (aIndex S21 1 a4 a1) fun t30 =>
  bnd (aLd false 1 S21 t30) fun t31 =>
  bnd (aIndex S21 1 t31 a3) fun t32 =>
  bnd (aLd false 1 S21 t32) fun t33 =>
  bnd (aBinN .add t29 t33) fun t34 =>
  bnd (aBinN .lss t25 t34) fun t35 =>
  Ret R t35 H3))
  (Ret R (.bool false) H3))
  (Ret R (.bool false) H3))
  (Ret R (.bool false) H3))
  (Ret R (.bool false) H3))
theorem W_i_Graph_loopFree {R : V → Heap → Prop} {a0 a1 a2 a3 a4 : V} {H : Heap} (h : F_i_Graph_loopFree R a0 a1 a2 a3 a4 H) : ACalls P n_i_Graph_loopFree [a0, a1, a2, a3, a4] H R :=
  acalls_of_form (g := ⟨[5], []⟩) (x := (.seq .leaf (.seq (.seq .leaf (.cond (.seq .leaf .leaf) .leaf)) (.seq (.draw [0, 1, 2, 3, 4, 5, 6, 7, 8, 9, 10, 11, 12, 13, 14, 15, 16, 17, 18, 19, 20, 21, 22, 23]) .leaf)))) Try.func82 (by kernel_rfl) (by kernel_rfl) (by kernel_rfl) (by kernel_rfl : F_i_Graph_loopFree R a0 a1 a2 a3 a4 H = _) h
def F_i_within (R : V → Heap → Prop) (a0 a1 a2 : V) (H : Heap) : Prop :=
  bnd (aBinN .geq a0 a1) fun t1 =>
  gd t1 true
  (bnd (aBinN .leq a0 a2) fun t2 =>
  Ret R t2 H)
  (Ret R (.bool false) H)
theorem W_i_within {R : V → Heap → Prop} {a0 a1 a2 : V} {H : Heap} (h : F_i_within R a0 a1 a2 H) : ACalls P n_i_within [a0, a1, a2] H R :=
  acalls_of_form (g := ⟨[], []⟩) (x := (.seq .leaf (.seq .leaf .leaf))) Try.func83 (by kernel_rfl) (by kernel_rfl) (by kernel_rfl) (by kernel_rfl : F_i_within R a0 a1 a2 H = _) h
def F_i_Graph_cost (R : V → Heap → Prop) (a0 a1 a2 : V) (H : Heap) : Prop :=
  boxK a0 (bnd (aBinN .eql a1 a2) fun t1 =>
  gd t1 true
  (bnd (partOf true 2 (cellsOf a0) 0) fun t2 =>
  ACalls P n_i_Graph_isNode [t2, a1] H fun v3 H4 =>
  cnd v3
  (Ret R (.int .i64 0) H4)
  (bnd (partOf false 1 (cellsOf a0) 1) fun t5 =>
  bnd (lenOf t5) fun n6 =>
  ∃ (I7 : Nat → List V → Heap → Prop) (n8 : Nat), Shr (I7 n8 [(.int .i64 0)]) H4 ∧
  ∀ n9 xs11 H12, I7 n9 xs11 H12 →
  bnd (aBinN .lss (xs11.headD .any) (.int .i64 (n6 : Nat))) fun t13 =>
  cnd t13
  (bnd (aIndex H12 3 t5 (xs11.headD .any)) fun t14 =>
  bnd (aLd true 3 H12 t14) fun t15 =>
  bnd (stz 3 [(.int .i64 0), (.int .i64 0), (.int .i64 0)] 0 t15) fun c16 =>
  bnd (partOf false 1 c16 0) fun t17 =>
  bnd (aBinN .eql t17 a1) fun t18 =>
  gd t18 true
  (bnd (partOf false 1 c16 1) fun t19 =>
  bnd (aBinN .eql t19 a2) fun t20 =>
  cnd t20
  (bnd (partOf false 1 c16 2) fun t21 =>
  Ret R t21 H12)
  (bnd (aBinN .add (xs11.headD .any) (.int .i64 1)) fun t22 =>
  ∃ n10, n10 < n9 ∧ Shr (I7 n10 [t22]) H12))
  (bnd (aBinN .add (xs11.headD .any) (.int .i64 1)) fun t23 =>
  ∃ n10, n10 < n9 ∧ Shr (I7 n10 [t23]) H12))
  (Ret R (.int .i64 1000000) H12)))
  (bnd (partOf false 1 (cellsOf a0) 1) fun t24 =>
  bnd (lenOf t24) fun n25 =>
  ∃ (I26 : Nat → List V → Heap → Prop) (n27 : Nat), Shr (I26 n27 [(.int .i64 0)]) H ∧
  ∀ n28 xs30 H31, I26 n28 xs30 H31 →
  bnd (aBinN .lss (xs30.headD .any) (.int .i64 (n25 : Nat))) fun t32 =>
  cnd t32
  (bnd (aIndex H31 3 t24 (xs30.headD .any)) fun t33 =>
  bnd (aLd true 3 H31 t33) fun t34 =>
  bnd (stz 3 [(.int .i64 0), (.int .i64 0), (.int .i64 0)] 0 t34) fun c35 =>
  bnd (partOf false 1 c35 0) fun t36 =>
  bnd (aBinN .eql t36 a1) fun t37 =>
  gd t37 true
  (bnd (partOf false 1 c35 1) fun t38 =>
  bnd (aBinN .eql t38 a2) fun t39 =>
  cnd t39
  (bnd (partOf false 1 c35 2) fun t40 =>
  Ret R t40 H31)
  (bnd (aBinN .add (xs30.headD .any) (.int .i64 1)) fun t41 =>
  ∃ n29, n29 < n28 ∧ Shr (I26 n29 [t41]) H31))
  (bnd (aBinN .add (xs30.headD .any) (.int .i64 1)) fun t42 =>
  ∃ n29, n29 < n28 ∧ Shr (I26 n29 [t42]) H31))
  (Ret R (.int .i64 1000000) H31)))
theorem W_i_Graph_cost {R : V → Heap → Prop} {a0 a1 a2 : V} {H : Heap} (h : F_i_Graph_cost R a0 a1 a2 H) : ACalls P n_i_Graph_cost [a0, a1, a2] H R :=
  acalls_of_form (g := ⟨[3, 8], [17, 24, 29, 34]⟩) (x := (.seq .leaf (.seq (.seq .leaf (.cond (.seq .leaf .leaf) .leaf)) (.seq (.seq .leaf (.block (.loop [20] (.seq .leaf (.seq (.cond .leaf .leaf) (.seq (.block (.seq .leaf (.seq .leaf (.cond (.seq .leaf .leaf) .leaf)))) .leaf)))))) (.seq .leaf .leaf))))) Try.func84 (by kernel_rfl) (by kernel_rfl) (by kernel_rfl) (by kernel_rfl : F_i_Graph_cost R a0 a1 a2 H = _) h
def F_s_l10DrawGraph (R : V → Heap → Prop) (a0 a1 : V) (H : Heap) : Prop :=
  ACalls P n_s_l01Size [a1, (.int .i64 7)] H fun v1 H2 =>
  ACalls P n_s_l01Below [a0, v1] H2 fun v3 H4 =>
  bnd (aBinN .add (.int .i64 2) v3) fun t5 =>
  bnd (fillZ [(.int .i64 0), .nils] [(0, 1, t5)]) fun c6 =>
  bnd (stz 2 [(.int .i64 0), .nils] 0 (.agg c6)) fun c7 =>
  ∃ (I8 : Nat → List V → Heap → Prop) (n9 : Nat), Shr (I8 n9 [(.box [(.int .i64 0), .nils]), (.box c7), (.int .i64 0)]) H4 ∧
  ∀ n10 xs12 H13, I8 n10 xs12 H13 →
  bnd (aBinN .add t5 (.int .i64 1)) fun t14 =>
  ACalls P n_s_l01Below [a0, t14] H13 fun v15 H16 =>
  bnd (aBinN .add t5 v15) fun t17 =>
  bnd (aBinN .lss (xs12.tail.tail.headD .any) t17) fun t18 =>
  cnd t18
  (ACalls P n_s_l01Below [a0, t5] H16 fun v19 H20 =>
  ACalls P n_s_l01Below [a0, t5] H20 fun v21 H22 =>
  bnd (aBinN .sub t5 (.int .i64 1)) fun t23 =>
  bnd (aBinN .lss (xs12.tail.tail.headD .any) t23) fun t24 =>
  cnd t24
  (bnd (aBinN .add (xs12.tail.tail.headD .any) (.int .i64 1)) fun t25 =>
  bnd (aBinN .eql (xs12.tail.tail.headD .any) t25) fun t26 =>
  cnd t26
  (bnd (aBinN .add (xs12.tail.tail.headD .any) (.int .i64 1)) fun t27 =>
  ∃ n11, n11 < n10 ∧ Shr (I8 n11 [(.box (bc (xs12.headD .any))), (.box (bc (xs12.tail.headD .any))), t27]) H22)
  (ACalls P n_s_l01Below [a0, (.int .i64 9)] H22 fun v28 H29 =>
  bnd (aBinN .add (.int .i64 1) v28) fun t30 =>
  bnd (bsl 1 5 [(.int .i64 0)] [(0, (.int .i64 1)), (1, (.int .i64 1)), (2, (.int .i64 2)), (3, (.int .i64 3)), (4, t30)]) fun r31 =>
  ∀ o32, H29 o32 = none →
  ACalls P n_s_l01PickInt [a0, (.slice o32 0 5 (some 5))] (upd H29 o32 ⟨1, r31⟩) fun v33 H34 =>
  bnd (partOf false 1 (bc (xs12.tail.headD .any)) 1) fun t35 =>
  bnd (fillZ [(.int .i64 0), (.int .i64 0), (.int .i64 0)] [(0, 1, (xs12.tail.tail.headD .any)), (1, 1, t25), (2, 1, v33)]) fun c36 =>
  ACalls P n_s_l03Put [t35, (.agg c36)] H34 fun v37 H38 =>
  bnd (stz 1 (bc (xs12.tail.headD .any)) 1 v37) fun c39 =>
  ACalls P n_s_l01Once [a0, (.int .i64 6)] H38 fun v40 H41 =>
  cnd v40
  (ACalls P n_s_l01Below [a0, (.int .i64 5)] H41 fun v42 H43 =>
  bnd (aBinN .add (.int .i64 1) v42) fun t44 =>
  bnd (partOf false 1 c39 1) fun t45 =>
  bnd (fillZ [(.int .i64 0), (.int .i64 0), (.int .i64 0)] [(0, 1, t25), (1, 1, (xs12.tail.tail.headD .any)), (2, 1, t44)]) fun c46 =>
  ACalls P n_s_l03Put [t45, (.agg c46)] H43 fun v47 H48 =>
  bnd (stz 1 c39 1 v47) fun c49 =>
  bnd (aBinN .add (xs12.tail.tail.headD .any) (.int .i64 1)) fun t50 =>
  ∃ n11, n11 < n10 ∧ Shr (I8 n11 [(.box (bc (xs12.headD .any))), (.box c49), t50]) H48)
  (bnd (partOf false 1 c39 1) fun t51 =>
  bnd (fillZ [(.int .i64 0), (.int .i64 0), (.int .i64 0)] [(0, 1, t25), (1, 1, (xs12.tail.tail.headD .any)), (2, 1, v33)]) fun c52 =>
  ACalls P n_s_l03Put [t51, (.agg c52)] H41 fun v53 H54 =>
  bnd (stz 1 c39 1 v53) fun c55 =>
  bnd (aBinN .add (xs12.tail.tail.headD .any) (.int .i64 1)) fun t56 =>
  ∃ n11, n11 < n10 ∧ Shr (I8 n11 [(.box (bc (xs12.headD .any))), (.box c55), t56]) H54)))
  (bnd (aBinN .eql v19 v21) fun t57 =>
  cnd t57
  (bnd (aBinN .add (xs12.tail.tail.headD .any) (.int .i64 1)) fun t58 =>
  ∃ n11, n11 < n10 ∧ Shr (I8 n11 [(.box (bc (xs12.headD .any))), (.box (bc (xs12.tail.headD .any))), t58]) H22)
  (ACalls P n_s_l01Below [a0, (.int .i64 9)] H22 fun v59 H60 =>
  bnd (aBinN .add (.int .i64 1) v59) fun t61 =>
  bnd (bsl 1 5 [(.int .i64 0)] [(0, (.int .i64 1)), (1, (.int .i64 1)), (2, (.int .i64 2)), (3, (.int .i64 3)), (4, t61)]) fun r62 =>
  ∀ o63, H60 o63 = none →
  ACalls P n_s_l01PickInt [a0, (.slice o63 0 5 (some 5))] (upd H60 o63 ⟨1, r62⟩) fun v64 H65 =>
  bnd (partOf false 1 (bc (xs12.tail.headD .any)) 1) fun t66 =>
  bnd (fillZ [(.int .i64 0), (.int .i64 0), (.int .i64 0)] [(0, 1, v19), (1, 1, v21), (2, 1, v64)]) fun c67 =>
  ACalls P n_s_l03Put [t66, (.agg c67)] H65 fun v68 H69 =>
  bnd (stz 1 (bc (xs12.tail.headD .any)) 1 v68) fun c70 =>
  ACalls P n_s_l01Once [a0, (.int .i64 6)] H69 fun v71 H72 =>
  cnd v71
  (ACalls P n_s_l01Below [a0, (.int .i64 5)] H72 fun v73 H74 =>
  bnd (aBinN .add (.int .i64 1) v73) fun t75 =>
  bnd (partOf false 1 c70 1) fun t76 =>
  bnd (fillZ [(.int .i64 0), (.int .i64 0), (.int .i64 0)] [(0, 1, v21), (1, 1, v19), (2, 1, t75)]) fun c77 =>
  ACalls P n_s_l03Put [t76, (.agg c77)] H74 fun v78 H79 =>
  bnd (stz 1 c70 1 v78) fun c80 =>
  bnd (aBinN .add (xs12.tail.tail.headD .any) (.int .i64 1)) fun t81 =>
  ∃ n11, n11 < n10 ∧ Shr (I8 n11 [(.box (bc (xs12.headD .any))), (.box c80), t81]) H79)
  (bnd (partOf false 1 c70 1) fun t82 =>
  bnd (fillZ [(.int .i64 0), (.int .i64 0), (.int .i64 0)] [(0, 1, v21), (1, 1, v19), (2, 1, v64)]) fun c83 =>
  ACalls P n_s_l03Put [t82, (.agg c83)] H72 fun v84 H85 =>
  bnd (stz 1 c70 1 v84) fun c86 =>
  bnd (aBinN .add (xs12.tail.tail.headD .any) (.int .i64 1)) fun t87 =>
  ∃ n11, n11 < n10 ∧ Shr (I8 n11 [(.box (bc (xs12.headD .any))), (.box c86), t87]) H85))))
  (ACalls P n_s_l01Once [a0, (.int .i64 15)] H16 fun v88 H89 =>
  cnd v88
  (bnd (partOf true 2 (bc (xs12.tail.headD .any)) 0) fun t90 =>
  ACalls P n_s_l03Bend [a0, t90] H89 fun v91 H92 =>
  bnd (stz 2 (bc (xs12.tail.headD .any)) 0 v91) fun c93 =>
  ACalls P n_s_l01Once [a0, (.int .i64 20)] H92 fun v94 H95 =>
  gd v94 true
  (bnd (partOf false 1 c93 1) fun t96 =>
  bnd (lenOf t96) fun n97 =>
  bnd (aBinN .gtr (.int .i64 (n97 : Nat)) (.int .i64 0)) fun t98 =>
  cnd t98
  (bnd (partOf false 1 c93 1) fun t99 =>
  bnd (aSlice H95 3 t99 (some (.int .i64 1)) none none) fun t100 =>
  bnd (stz 1 c93 1 t100) fun c101 =>
  bnd (partOf true 2 c101 0) fun t102 =>
  bnd (stz 2 (bc (xs12.headD .any)) 0 t102) fun c103 =>
  bnd (partOf true 2 c103 0) fun t104 =>
  Ret R t104 H95)
  (bnd (partOf true 2 c93 0) fun t105 =>
  bnd (stz 2 (bc (xs12.headD .any)) 0 t105) fun c106 =>
  bnd (partOf true 2 c106 0) fun t107 =>
  Ret R t107 H95))
  (bnd (partOf true 2 c93 0) fun t108 =>
  bnd (stz 2 (bc (xs12.headD .any)) 0 t108) fun c109 =>
  bnd (partOf true 2 c109 0) fun t110 =>
  Ret R t110 H95))
  (ACalls P n_s_l01Once [a0, (.int .i64 20)] H89 fun v111 H112 =>
  gd v111 true
  (bnd (partOf false 1 (bc (xs12.tail.headD .any)) 1) fun t113 =>
  bnd (lenOf t113) fun n114 =>
  bnd (aBinN .gtr (.int .i64 (n114 : Nat)) (.int .i64 0)) fun t115 =>
  cnd t115
  (bnd (partOf false 1 (bc (xs12.tail.headD .any)) 1) fun t116 =>
  bnd (aSlice H112 3 t116 (some (.int .i64 1)) none none) fun t117 =>
  bnd (stz 1 (bc (xs12.tail.headD .any)) 1 t117) fun c118 =>
  bnd (partOf true 2 c118 0) fun t119 =>
  bnd (stz 2 (bc (xs12.headD .any)) 0 t119) fun c120 =>
  bnd (partOf true 2 c120 0) fun t121 =>
  Ret R t121 H112)
  (bnd (partOf true 2 (bc (xs12.tail.headD .any)) 0) fun t122 =>
  bnd (stz 2 (bc (xs12.headD .any)) 0 t122) fun c123 =>
  bnd (partOf true 2 c123 0) fun t124 =>
  Ret R t124 H112))
  (bnd (partOf true 2 (bc (xs12.tail.headD .any)) 0) fun t125 =>
  bnd (stz 2 (bc (xs12.headD .any)) 0 t125) fun c126 =>
  bnd (partOf true 2 c126 0) fun t127 =>
  Ret R t127 H112)))
theorem W_s_l10DrawGraph {R : V → Heap → Prop} {a0 a1 : V} {H : Heap} (h : F_s_l10DrawGraph R a0 a1 H) : ACalls P n_s_l10DrawGraph [a0, a1] H R :=
  acalls_of_form (g := ⟨[4, 6], [50, 57, 63, 70, 79, 84, 87]⟩) (x := (.seq .leaf (.seq .leaf (.seq .leaf (.seq (.seq .leaf (.block (.loop [4, 6, 7] (.seq (.seq .leaf (.cond .leaf .leaf)) (.seq (.block (.seq .leaf (.seq .leaf (.seq (.seq .leaf (.cond (.seq .leaf .leaf) .leaf)) (.seq (.seq .leaf (.cond .leaf .leaf)) (.seq .leaf (.seq .leaf (.seq (.seq .leaf (.cond .leaf .leaf)) .leaf)))))))) .leaf))))) (.seq (.seq .leaf (.cond .leaf .leaf)) (.seq (.seq .leaf (.cond .leaf .leaf)) (.seq .leaf .leaf)))))))) Try.func85 (by kernel_rfl) (by kernel_rfl) (by kernel_rfl) (by kernel_rfl : F_s_l10DrawGraph R a0 a1 H = _) h
def F_s_l01Below (R : V → Heap → Prop) (a0 a1 : V) (H : Heap) : Prop :=
  bnd (aBinN .leq a1 (.int .i64 0)) fun t1 =>
  cnd t1
  (Ret R (.int .i64 0) H)
  (bnd (aBinN .leq a1 (.int .i64 256)) fun t2 =>
  cnd t2
  (ACalls P n_s_l01Byte [a0] H fun v3 H4 =>
  bnd (aBinN .rem v3 a1) fun t5 =>
  Ret R t5 H4)
  (ACalls P n_s_l01Byte [a0] H fun v6 H7 =>
  ACalls P n_s_l01Byte [a0] H7 fun v8 H9 =>
  ACalls P n_s_l01Byte [a0] H9 fun v10 H11 =>
  bnd (aBinN .mul v6 (.int .i64 65536)) fun t12 =>
  bnd (aBinN .mul v8 (.int .i64 256)) fun t13 =>
  bnd (aBinN .add t12 t13) fun t14 =>
  bnd (aBinN .add t14 v10) fun t15 =>
  bnd (aBinN .rem t15 a1) fun t16 =>
  Ret R t16 H11))
theorem W_s_l01Below {R : V → Heap → Prop} {a0 a1 : V} {H : Heap} (h : F_s_l01Below R a0 a1 H) : ACalls P n_s_l01Below [a0, a1] H R :=
  acalls_of_form (g := ⟨[], []⟩) (x := (.seq .leaf (.seq (.seq .leaf (.cond (.seq .leaf .leaf) .leaf)) (.seq (.seq .leaf (.cond (.seq .leaf .leaf) .leaf)) (.seq .leaf (.seq .leaf (.seq .leaf (.seq .leaf .leaf)))))))) Try.func86 (by kernel_rfl) (by kernel_rfl) (by kernel_rfl) (by kernel_rfl : F_s_l01Below R a0 a1 H = _) h
def F_s_l01Once (R : V → Heap → Prop) (a0 a1 : V) (H : Heap) : Prop :=
  ACalls P n_s_l01Below [a0, a1] H fun v1 H2 =>
  bnd (aBinN .eql v1 (.int .i64 0)) fun t3 =>
  Ret R t3 H2
theorem W_s_l01Once {R : V → Heap → Prop} {a0 a1 : V} {H : Heap} (h : F_s_l01Once R a0 a1 H) : ACalls P n_s_l01Once [a0, a1] H R :=
  acalls_of_form (g := ⟨[], []⟩) (x := (.seq .leaf (.seq .leaf .leaf))) Try.func87 (by kernel_rfl) (by kernel_rfl) (by kernel_rfl) (by kernel_rfl : F_s_l01Once R a0 a1 H = _) h
def F_s_l03Put (R : V → Heap → Prop) (a0 a1 : V) (H : Heap) : Prop :=
  boxK a1 (bnd (bsl 3 0 [(.int .i64 0), (.int .i64 0), (.int .i64 0)] []) fun r1 =>
  ∀ o2, H o2 = none →
  ∃ (I3 : Nat → List V → Heap → Prop) (n4 : Nat), Shr (I3 n4 [(.box (cellsOf a1)), (.slice o2 0 0 (some 0)), (.bool false), (.int .i64 0)]) (upd H o2 ⟨3, r1⟩) ∧
  ∀ n5 xs7 H8, I3 n5 xs7 H8 →
  bnd (lenOf a0) fun n9 =>
  bnd (aBinN .lss (xs7.tail.tail.tail.headD .any) (.int .i64 (n9 : Nat))) fun t10 =>
  cnd t10
  (bnd (aIndex H8 3 a0 (xs7.tail.tail.tail.headD .any)) fun t11 =>
  bnd (aLd true 3 H8 t11) fun t12 =>
  bnd (stz 3 [(.int .i64 0), (.int .i64 0), (.int .i64 0)] 0 t12) fun c13 =>
  ∃ J14 : List V → Heap → Prop,
  (∃ J17 : List V → Heap → Prop,
  (bnd (aNot (xs7.tail.tail.headD .any)) fun t20 =>
  gd t20 true
  (bnd (partOf false 1 (bc (xs7.headD .any)) 0) fun t21 =>
  bnd (partOf false 1 c13 0) fun t22 =>
  bnd (aBinN .lss t21 t22) fun t23 =>
  gd3 t23 false
  (bnd (partOf false 1 (bc (xs7.headD .any)) 0) fun t24 =>
  bnd (partOf false 1 c13 0) fun t25 =>
  bnd (aBinN .eql t24 t25) fun t26 =>
  gd3 t26 true
  (bnd (partOf false 1 (bc (xs7.headD .any)) 1) fun t27 =>
  bnd (partOf false 1 c13 1) fun t28 =>
  bnd (aBinN .leq t27 t28) fun t29 =>
  Shr (J17 [t29]) H8)
  (Shr (J17 [(.bool false)]) H8)
  (bnd (aPick (.tup []) (.tup []) (.bool false)) fun t30 =>
  Shr (J17 [t30]) H8))
  (Shr (J17 [(.bool true)]) H8)
  (bnd (aPick (.tup []) (.bool true) (.tup [])) fun t31 =>
  Shr (J17 [t31]) H8))
  (Shr (J17 [(.bool false)]) H8)) ∧
  ∀ xs18 H19, J17 xs18 H19 →
  cnd (xs18.headD .any)
  (bnd (partOf true 3 (bc (xs7.headD .any)) 0) fun t32 =>
  bnd (bsl 3 1 [(.int .i64 0), (.int .i64 0), (.int .i64 0)] [(0, t32)]) fun r33 =>
  ∀ o34, H19 o34 = none →
  bnd (rowsOf (upd H19 o34 ⟨3, r33⟩) 3 (.slice o34 0 1 (some 1))) fun r37 =>
  appendK (upd H19 o34 ⟨3, r33⟩) 3 24 (xs7.tail.headD .any) r37 fun v35 H36 =>
  Shr (J14 [v35, (.bool true)]) H36)
  (Shr (J14 [(xs7.tail.headD .any), (xs7.tail.tail.headD .any)]) H19)) ∧
  ∀ xs15 H16, J14 xs15 H16 →
  bnd (partOf false 1 c13 0) fun t38 =>
  bnd (partOf false 1 (bc (xs7.headD .any)) 0) fun t39 =>
  bnd (aBinN .neq t38 t39) fun t40 =>
  gd t40 false
  (bnd (partOf false 1 c13 1) fun t41 =>
  bnd (partOf false 1 (bc (xs7.headD .any)) 1) fun t42 =>
  bnd (aBinN .neq t41 t42) fun t43 =>
  cnd t43
  (bnd (partOf true 3 c13 0) fun t44 =>
  bnd (bsl 3 1 [(.int .i64 0), (.int .i64 0), (.int .i64 0)] [(0, t44)]) fun r45 =>
  ∀ o46, H16 o46 = none →
  bnd (rowsOf (upd H16 o46 ⟨3, r45⟩) 3 (.slice o46 0 1 (some 1))) fun r49 =>
  appendK (upd H16 o46 ⟨3, r45⟩) 3 24 (xs15.headD .any) r49 fun v47 H48 =>
  bnd (aBinN .add (xs7.tail.tail.tail.headD .any) (.int .i64 1)) fun t50 =>
  ∃ n6, n6 < n5 ∧ Shr (I3 n6 [(.box (bc (xs7.headD .any))), v47, (xs15.tail.headD .any), t50]) H48)
  (bnd (aBinN .add (xs7.tail.tail.tail.headD .any) (.int .i64 1)) fun t51 =>
  ∃ n6, n6 < n5 ∧ Shr (I3 n6 [(.box (bc (xs7.headD .any))), (xs15.headD .any), (xs15.tail.headD .any), t51]) H16))
  (bnd (partOf true 3 c13 0) fun t52 =>
  bnd (bsl 3 1 [(.int .i64 0), (.int .i64 0), (.int .i64 0)] [(0, t52)]) fun r53 =>
  ∀ o54, H16 o54 = none →
  bnd (rowsOf (upd H16 o54 ⟨3, r53⟩) 3 (.slice o54 0 1 (some 1))) fun r57 =>
  appendK (upd H16 o54 ⟨3, r53⟩) 3 24 (xs15.headD .any) r57 fun v55 H56 =>
  bnd (aBinN .add (xs7.tail.tail.tail.headD .any) (.int .i64 1)) fun t58 =>
  ∃ n6, n6 < n5 ∧ Shr (I3 n6 [(.box (bc (xs7.headD .any))), v55, (xs15.tail.headD .any), t58]) H56))
  (bnd (aNot (xs7.tail.tail.headD .any)) fun t59 =>
  cnd t59
  (bnd (partOf true 3 (bc (xs7.headD .any)) 0) fun t60 =>
  bnd (bsl 3 1 [(.int .i64 0), (.int .i64 0), (.int .i64 0)] [(0, t60)]) fun r61 =>
  ∀ o62, H8 o62 = none →
  bnd (rowsOf (upd H8 o62 ⟨3, r61⟩) 3 (.slice o62 0 1 (some 1))) fun r65 =>
  appendK (upd H8 o62 ⟨3, r61⟩) 3 24 (xs7.tail.headD .any) r65 fun v63 H64 =>
  Ret R v63 H64)
  (Ret R (xs7.tail.headD .any) H8)))
theorem W_s_l03Put {R : V → Heap → Prop} {a0 a1 : V} {H : Heap} (h : F_s_l03Put R a0 a1 H) : ACalls P n_s_l03Put [a0, a1] H R :=
  acalls_of_form (g := ⟨[3, 8], [23, 25, 29, 31, 35, 37, 47, 49, 53, 55]⟩) (x := (.seq .leaf (.seq .leaf (.seq .leaf (.seq (.seq .leaf (.block (.loop [3, 5, 6, 7] (.seq (.seq .leaf (.cond .leaf .leaf)) (.seq (.block (.seq .leaf (.seqc (.seqc .leaf (.cond (.seq .leaf .leaf) .leaf) [42]) (.seq .leaf (.cond .leaf .leaf)) [5, 6]))) .leaf))))) (.seq (.seq .leaf (.cond .leaf .leaf)) (.seq .leaf .leaf))))))) Try.func88 (by kernel_rfl) (by kernel_rfl) (by kernel_rfl) (by kernel_rfl : F_s_l03Put R a0 a1 H = _) h
def F_s_l01PickInt (R : V → Heap → Prop) (a0 a1 : V) (H : Heap) : Prop :=
  bnd (lenOf a1) fun n1 =>
  ACalls P n_s_l01Below [a0, (.int .i64 (n1 : Nat))] H fun v2 H3 =>
  bnd (aIndex H3 1 a1 v2) fun t4 =>
  bnd (aLd false 1 H3 t4) fun t5 =>
  Ret R t5 H3
theorem W_s_l01PickInt {R : V → Heap → Prop} {a0 a1 : V} {H : Heap} (h : F_s_l01PickInt R a0 a1 H) : ACalls P n_s_l01PickInt [a0, a1] H R :=
  acalls_of_form (g := ⟨[], []⟩) (x := (.seq .leaf (.seq .leaf .leaf))) Try.func89 (by kernel_rfl) (by kernel_rfl) (by kernel_rfl) (by kernel_rfl : F_s_l01PickInt R a0 a1 H = _) h
def F_s_l01In (R : V → Heap → Prop) (a0 a1 a2 : V) (H : Heap) : Prop :=
  bnd (aBinN .leq a1 a0) fun t1 =>
  gd t1 true
  (bnd (aBinN .leq a0 a2) fun t2 =>
  Ret R t2 H)
  (Ret R (.bool false) H)
theorem W_s_l01In {R : V → Heap → Prop} {a0 a1 a2 : V} {H : Heap} (h : F_s_l01In R a0 a1 a2 H) : ACalls P n_s_l01In [a0, a1, a2] H R :=
  acalls_of_form (g := ⟨[], []⟩) (x := (.seq .leaf (.seq .leaf .leaf))) Try.func90 (by kernel_rfl) (by kernel_rfl) (by kernel_rfl) (by kernel_rfl : F_s_l01In R a0 a1 a2 H = _) h
def F_i_compareEdges (R : V → Heap → Prop) (a0 a1 : V) (H : Heap) : Prop :=
  boxK a0 (boxK a1 (bnd (partOf false 1 (cellsOf a0) 0) fun t1 =>
  bnd (partOf false 1 (cellsOf a1) 0) fun t2 =>
  bnd (aBinN .neq t1 t2) fun t3 =>
  cnd t3
  (bnd (partOf false 1 (cellsOf a0) 0) fun t4 =>
  bnd (partOf false 1 (cellsOf a1) 0) fun t5 =>
  bnd (aBinN .sub t4 t5) fun t6 =>
  Ret R t6 H)
  (bnd (partOf false 1 (cellsOf a0) 1) fun t7 =>
  bnd (partOf false 1 (cellsOf a1) 1) fun t8 =>
  bnd (aBinN .sub t7 t8) fun t9 =>
  Ret R t9 H)))
theorem W_i_compareEdges {R : V → Heap → Prop} {a0 a1 : V} {H : Heap} (h : F_i_compareEdges R a0 a1 H) : ACalls P n_i_compareEdges [a0, a1] H R :=
  acalls_of_form (g := ⟨[2, 3], [5, 7, 10, 12, 15, 17]⟩) (x := (.seq .leaf (.seq (.seq .leaf (.cond (.seq .leaf .leaf) .leaf)) (.seq .leaf .leaf)))) Try.func91 (by kernel_rfl) (by kernel_rfl) (by kernel_rfl) (by kernel_rfl : F_i_compareEdges R a0 a1 H = _) h
def F_i_Graph_distances (R : V → Heap → Prop) (a0 a1 : V) (H : Heap) : Prop :=
  boxK a0 (bnd (bsl 1 1 [(.int .i64 0)] [(0, (.int .i64 1000000))]) fun r1 =>
  ∀ o2, H o2 = none →
  bnd (partOf false 1 (cellsOf a0) 0) fun t3 =>
  ACalls P n_slices_Repeat_int_int [(.slice o2 0 1 (some 1)), t3] (upd H o2 ⟨1, r1⟩) fun v4 H5 =>
  bnd (aIndex H5 1 v4 a1) fun t6 =>
  bnd (aSt 1 H5 t6 (.int .i64 0)) fun H7 =>
  bnd (partOf false 1 (cellsOf a0) 0) fun t8 =>
  ∃ (I9 : Nat → List V → Heap → Prop) (n10 : Nat), Shr (I9 n10 [(.box (cellsOf a0)), (.int .i64 0)]) H7 ∧
  ∀ n11 xs13 H14, I9 n11 xs13 H14 →
  bnd (aBinN .lss (xs13.tail.headD .any) t8) fun t15 =>
  cnd t15
  (bnd (partOf false 1 (bc (xs13.headD .any)) 1) fun t16 =>
  bnd (lenOf t16) fun n17 =>
  ∃ (I18 : Nat → List V → Heap → Prop) (n19 : Nat), Shr (I18 n19 [(.box (bc (xs13.headD .any))), (.int .i64 0)]) H14 ∧
  ∀ n20 xs22 H23, I18 n20 xs22 H23 →
  bnd (aBinN .lss (xs22.tail.headD .any) (.int .i64 (n17 : Nat))) fun t24 =>
  cnd t24
  (bnd (aIndex H23 3 t16 (xs22.tail.headD .any)) fun t25 =>
  bnd (aLd true 3 H23 t25) fun t26 =>
  bnd (stz 3 [(.int .i64 0), (.int .i64 0), (.int .i64 0)] 0 t26) fun c27 =>
  bnd (partOf false 1 c27 0) fun t28 =>
  bnd (aIndex H23 1 v4 t28) fun t29 =>
  bnd (aLd false 1 H23 t29) fun t30 =>
  bnd (aBinN .lss t30 (.int .i64 1000000)) fun t31 =>
  cnd t31
  (bnd (partOf false 1 c27 1) fun t32 =>
  bnd (partOf false 1 c27 1) fun t33 =>
  bnd (aIndex H23 1 v4 t33) fun t34 =>
  bnd (aLd false 1 H23 t34) fun t35 =>
  bnd (partOf false 1 c27 0) fun t36 =>
  bnd (aIndex H23 1 v4 t36) fun t37 =>
  bnd (aLd false 1 H23 t37) fun t38 =>
  bnd (partOf false 1 c27 2) fun t39 =>
  bnd (aBinN .add t38 t39) fun t40 =>
  bnd (aMins false t35 [t40]) fun t43 =>
  bnd (aIndex H23 1 v4 t32) fun t44 =>
  bnd (aSt 1 H23 t44 t43) fun H45 =>
  bnd (aBinN .add (xs22.tail.headD .any) (.int .i64 1)) fun t46 =>
  ∃ n21, n21 < n20 ∧ Shr (I18 n21 [(.box (bc (xs22.headD .any))), t46]) H45)
  (bnd (aBinN .add (xs22.tail.headD .any) (.int .i64 1)) fun t47 =>
  ∃ n21, n21 < n20 ∧ Shr (I18 n21 [(.box (bc (xs22.headD .any))), t47]) H23))
  (bnd (aBinN .add (xs13.tail.headD .any) (.int .i64 1)) fun t48 =>
  ∃ n12, n12 < n11 ∧ Shr (I9 n12 [(.box (bc (xs22.headD .any))), t48]) H23))
  (Ret R v4 H14))
theorem W_i_Graph_distances {R : V → Heap → Prop} {a0 a1 : V} {H : Heap} (h : F_i_Graph_distances R a0 a1 H) : ACalls P n_i_Graph_distances [a0, a1] H R :=
  acalls_of_form (g := ⟨[2, 7], [9, 15, 19, 27, 33, 36, 41, 45]⟩) (x := (.seq .leaf (.seq .leaf (.seq .leaf (.seq (.seq .leaf (.block (.loop [2, 17] (.seq .leaf (.seq (.cond .leaf .leaf) (.seq (.block (.seq .leaf (.block (.loop [2, 22] (.seq .leaf (.seq (.cond .leaf .leaf) (.seq (.block (.seq .leaf (.seq .leaf (.cond (.drawh [0, 1, 2, 3, 4, 5, 6, 7, 8, 9, 10, 11, 12, 13, 14, 15, 16, 17, 18]) .leaf)))) .leaf))))))) .leaf)))))) (.seq .leaf .leaf)))))) Try.func92 (by kernel_rfl) (by kernel_rfl) (by kernel_rfl) (by kernel_rfl : F_i_Graph_distances R a0 a1 H = _) h
def F_l_toEdge (R : V → Heap → Prop) (a0 : V) (H : Heap) : Prop :=
  boxK a0 (bnd (partOf false 1 (cellsOf a0) 0) fun t1 =>
  bnd (stz 1 [(.int .i64 0), (.int .i64 0), (.int .i64 0)] 0 t1) fun c2 =>
  bnd (partOf false 1 (cellsOf a0) 1) fun t3 =>
  bnd (stz 1 c2 1 t3) fun c4 =>
  bnd (partOf false 1 (cellsOf a0) 2) fun t5 =>
  bnd (stz 1 c4 2 t5) fun c6 =>
  bnd (partOf true 3 c6 0) fun t7 =>
  bnd (stz 3 [(.int .i64 0), (.int .i64 0), (.int .i64 0)] 0 t7) fun c8 =>
  bnd (partOf true 3 c8 0) fun t9 =>
  Ret R t9 H)
theorem W_l_toEdge {R : V → Heap → Prop} {a0 : V} {H : Heap} (h : F_l_toEdge R a0 H) : ACalls P n_l_toEdge [a0] H R :=
  acalls_of_form (g := ⟨[1, 2, 3], [4, 6, 7, 9, 10, 12]⟩) (x := (.seq .leaf (.seq .leaf (.seq .leaf (.seq .leaf (.seq .leaf (.seq .leaf .leaf))))))) Try.func100 (by kernel_rfl) (by kernel_rfl) (by kernel_rfl) (by kernel_rfl : F_l_toEdge R a0 H = _) h
def F_l_eqEdge (R : V → Heap → Prop) (a0 a1 : V) (H : Heap) : Prop :=
  boxK a0 (boxK a1 (bnd (partOf false 1 (cellsOf a0) 0) fun t1 =>
  bnd (partOf false 1 (cellsOf a1) 0) fun t2 =>
  bnd (aBinN .neq t1 t2) fun t3 =>
  cnd t3
  (Ret R (.bool false) H)
  (bnd (partOf false 1 (cellsOf a0) 1) fun t4 =>
  bnd (partOf false 1 (cellsOf a1) 1) fun t5 =>
  bnd (aBinN .neq t4 t5) fun t6 =>
  cnd t6
  (Ret R (.bool false) H)
  (bnd (partOf false 1 (cellsOf a0) 2) fun t7 =>
  bnd (partOf false 1 (cellsOf a1) 2) fun t8 =>
  bnd (aBinN .neq t7 t8) fun t9 =>
  cnd t9
  (Ret R (.bool false) H)
  (Ret R (.bool true) H)))))
theorem W_l_eqEdge {R : V → Heap → Prop} {a0 a1 : V} {H : Heap} (h : F_l_eqEdge R a0 a1 H) : ACalls P n_l_eqEdge [a0, a1] H R :=
  acalls_of_form (g := ⟨[2, 3], [5, 7, 10, 12, 15, 17]⟩) (x := (.seq .leaf (.seq (.seq .leaf (.cond (.seq .leaf .leaf) .leaf)) (.seq (.seq .leaf (.cond (.seq .leaf .leaf) .leaf)) (.seq (.seq .leaf (.cond (.seq .leaf .leaf) .leaf)) (.seq .leaf .leaf)))))) Try.func101 (by kernel_rfl) (by kernel_rfl) (by kernel_rfl) (by kernel_rfl : F_l_eqEdge R a0 a1 H = _) h
def F_s_l10DrawNear (R : V → Heap → Prop) (a0 a1 : V) (H : Heap) : Prop :=
  boxK a1 (bnd (partOf false 1 (cellsOf a1) 1) fun t1 =>
  bnd (lenOf t1) fun n2 =>
  bnd (aBinN .gtr (.int .i64 (n2 : Nat)) (.int .i64 0)) fun t3 =>
  gd t3 true
  (ACalls P n_s_l01Once [a0, (.int .i64 6)] H fun v4 H5 =>
  bnd (aNot v4) fun t6 =>
  cnd t6
  (bnd (partOf false 1 (cellsOf a1) 1) fun t7 =>
  bnd (partOf false 1 (cellsOf a1) 1) fun t8 =>
  bnd (lenOf t8) fun n9 =>
  ACalls P n_s_l01Below [a0, (.int .i64 (n9 : Nat))] H5 fun v10 H11 =>
  bnd (aIndex H11 3 t7 v10) fun t12 =>
  bnd (aLd true 3 H11 t12) fun t13 =>
  ∀ o14, H11 o14 = none →
  bnd (aSt 3 (upd H11 o14 ⟨3, [[(.int .i64 0), (.int .i64 0), (.int .i64 0)]]⟩) (.ptr o14 0 0) t13) fun H15 =>
  ∃ S16, Abs.sub S16 H15 ∧
  bnd (aField 0 (.ptr o14 0 0)) fun t17 =>
  bnd (aLd false 1 S16 t17) fun t18 =>
  bnd (aField 1 (.ptr o14 0 0)) fun t19 =>
  bnd (aLd false 1 S16 t19) fun t20 =>
  Ret R (.tup [t18, t20]) H15)
  (∃ S21, Abs.sub S21 H5 ∧
  bnd (partOf true 2 (cellsOf a1) 0) fun t22 =>
  bnd (partOf true 2 (cellsOf a1) 0) fun t23 =>
  ACalls P n_s_l03DrawNode [a0, t22] H5 fun v24 H25 =>
  Abs.sub S21 H25 ∧
  ACalls P n_s_l03DrawNode [a0, t23] H25 fun v26 H27 =>
  Abs.sub S21 H27 ∧
  Ret R (.tup [v24, v26]) H27))
  (∃ S28, Abs.sub S28 H ∧
  bnd (partOf true 2 (cellsOf a1) 0) fun t29 =>
  bnd (partOf true 2 (cellsOf a1) 0) fun t30 =>
  ACalls P n_s_l03DrawNode [a0, t29] H fun v31 H32 =>
  Abs.sub S28 H32 ∧
  ACalls P n_s_l03DrawNode [a0, t30] H32 fun v33 H34 =>
  Abs.sub S28 H34 ∧
  Ret R (.tup [v31, v33]) H34))
theorem W_s_l10DrawNear {R : V → Heap → Prop} {a0 a1 : V} {H : Heap} (h : F_s_l10DrawNear R a0 a1 H) : ACalls P n_s_l10DrawNear [a0, a1] H R :=
  acalls_of_form (g := ⟨[3], [7, 16, 19]⟩) (x := (.seq .leaf (.seq (.seq .leaf (.cond (.seq (.drawh [0, 1, 2, 3, 4, 5, 6, 7, 8, 9, 10]) (.seq (.draw [0, 1, 2, 3, 4, 5]) .leaf)) .leaf)) (.seq (.draw [0, 1, 3, 4, 2, 5, 6, 7]) .leaf)))) Try.func102 (by kernel_rfl) (by kernel_rfl) (by kernel_rfl) (by kernel_rfl : F_s_l10DrawNear R a0 a1 H = _) h
def F_slices_ContainsFunc_i_Edge_i_Edge (R : V → Heap → Prop) (a0 a1 : V) (H : Heap) : Prop :=
  ACalls P n_slices_IndexFunc_i_Edge_i_Edge [a0, a1] H fun v1 H2 =>
  bnd (aBinN .geq v1 (.int .i64 0)) fun t3 =>
  Ret R t3 H2
theorem W_slices_ContainsFunc_i_Edge_i_Edge {R : V → Heap → Prop} {a0 a1 : V} {H : Heap} (h : F_slices_ContainsFunc_i_Edge_i_Edge R a0 a1 H) : ACalls P n_slices_ContainsFunc_i_Edge_i_Edge [a0, a1] H R :=
  acalls_of_form (g := ⟨[], []⟩) (x := (.seq .leaf (.seq .leaf .leaf))) Try.func103 (by kernel_rfl) (by kernel_rfl) (by kernel_rfl) (by kernel_rfl : F_slices_ContainsFunc_i_Edge_i_Edge R a0 a1 H = _) h
def F_i_isAround_1 (R : V → Heap → Prop) (a0 a1 : V) (H : Heap) : Prop :=
  boxK a0 (bnd (aLd true 2 H a1) fun t1 =>
  bnd (partOf true 3 (cellsOf a0) 0) fun t2 =>
  ACalls P n_i_Graph_isBoth [t1, t2] H fun v3 H4 =>
  bnd (aNot v3) fun t5 =>
  Ret R t5 H4)
theorem W_i_isAround_1 {R : V → Heap → Prop} {a0 a1 : V} {H : Heap} (h : F_i_isAround_1 R a0 a1 H) : ACalls P n_i_isAround_1 [a0, a1] H R :=
  acalls_of_form (g := ⟨[2], []⟩) (x := (.seq .leaf (.seq .leaf .leaf))) Try.func104 (by kernel_rfl) (by kernel_rfl) (by kernel_rfl) (by kernel_rfl : F_i_isAround_1 R a0 a1 H = _) h
theorem E_i_isAround_1 : enterable P n_i_isAround_1 = true := by kernel_rfl
def F_i_Graph_isBoth (R : V → Heap → Prop) (a0 a1 : V) (H : Heap) : Prop :=
  boxK a0 (boxK a1 (bnd (partOf true 2 (cellsOf a0) 0) fun t1 =>
  bnd (partOf false 1 (cellsOf a1) 1) fun t2 =>
  bnd (partOf false 1 (cellsOf a1) 0) fun t3 =>
  ACalls P n_i_Graph_cost [t1, t2, t3] H fun v4 H5 =>
  bnd (aBinN .lss v4 (.int .i64 1000000)) fun t6 =>
  Ret R t6 H5))
theorem W_i_Graph_isBoth {R : V → Heap → Prop} {a0 a1 : V} {H : Heap} (h : F_i_Graph_isBoth R a0 a1 H) : ACalls P n_i_Graph_isBoth [a0, a1] H R :=
  acalls_of_form (g := ⟨[2, 3], [6, 8]⟩) (x := (.seq .leaf (.seq .leaf .leaf))) Try.func105 (by kernel_rfl) (by kernel_rfl) (by kernel_rfl) (by kernel_rfl : F_i_Graph_isBoth R a0 a1 H = _) h
def F_slices_ContainsFunc_int_int (R : V → Heap → Prop) (a0 a1 : V) (H : Heap) : Prop :=
  ACalls P n_slices_IndexFunc_int_int [a0, a1] H fun v1 H2 =>
  bnd (aBinN .geq v1 (.int .i64 0)) fun t3 =>
  Ret R t3 H2
theorem W_slices_ContainsFunc_int_int {R : V → Heap → Prop} {a0 a1 : V} {H : Heap} (h : F_slices_ContainsFunc_int_int R a0 a1 H) : ACalls P n_slices_ContainsFunc_int_int [a0, a1] H R :=
  acalls_of_form (g := ⟨[], []⟩) (x := (.seq .leaf (.seq .leaf .leaf))) Try.func106 (by kernel_rfl) (by kernel_rfl) (by kernel_rfl) (by kernel_rfl : F_slices_ContainsFunc_int_int R a0 a1 H = _) h
def F_i_isAround_2 (R : V → Heap → Prop) (a0 a1 : V) (H : Heap) : Prop :=
  bnd (aLd true 2 H a1) fun t1 =>
  ACalls P n_i_Graph_isNode [t1, a0] H fun v2 H3 =>
  bnd (aNot v2) fun t4 =>
  Ret R t4 H3
theorem W_i_isAround_2 {R : V → Heap → Prop} {a0 a1 : V} {H : Heap} (h : F_i_isAround_2 R a0 a1 H) : ACalls P n_i_isAround_2 [a0, a1] H R :=
  acalls_of_form (g := ⟨[], []⟩) (x := (.seq .leaf (.seq .leaf .leaf))) Try.func107 (by kernel_rfl) (by kernel_rfl) (by kernel_rfl) (by kernel_rfl : F_i_isAround_2 R a0 a1 H = _) h
theorem E_i_isAround_2 : enterable P n_i_isAround_2 = true := by kernel_rfl
def F_i_Graph_uses_1 (R : V → Heap → Prop) (a0 a1 a2 a3 a4 a5 : V) (H : Heap) : Prop :=
  ∃ S1, Abs.sub S1 H ∧
  bnd (aLd true 2 S1 a2) fun t2 =>
  ACalls P n_i_Graph_isNear [t2, a0, a1] H fun v3 H4 =>
  Abs.sub S1 H4 ∧
  gd v3 true
  (bnd (aLd false 1 S1 a3) fun t5 =>
  bnd (aLd false 1 S1 a4) fun t6 =>
  bnd (aIndex S1 1 t5 t6) fun t7 =>
  bnd (aLd false 1 S1 t7) fun t8 =>
  bnd (aIndex S1 1 t8 a0) fun t9 =>
  bnd (aLd false 1 S1 t9) fun t10 =>
  bnd (aLd true 2 S1 a2) fun t11 =>
  bnd (aLd false 1 S1 a3) fun t12 =>
  bnd (aIndex S1 1 t12 a1) fun t13 =>
  bnd (aLd false 1 S1 t13) fun t14 =>
  bnd (aLd false 1 S1 a5) fun t15 =>
  bnd (aIndex S1 1 t14 t15) fun t16 =>
  bnd (aLd false 1 S1 t16) fun t17 =>
  bnd (aLd false 1 S1 a3) fun t18 =>
  bnd (aLd false 1 S1 a4) fun t19 =>
  bnd (aIndex S1 1 t18 t19) fun t20 =>
  bnd (aLd false 1 S1 t20) fun t21 =>
  bnd (aLd false 1 S1 a5) fun t22 =>
  bnd (aIndex S1 1 t21 t22) fun t23 =>
  bnd (aLd false 1 S1 t23) fun t24 =>
  ACalls P n_i_Graph_cost [t11, a0, a1] H4 fun v25 H26 =>
  Abs.sub S1 H26 ∧
  bnd (aBinN .add t10 v25) fun t27 =>
  bnd (aBinN .add t27 t17) fun t28 =>
  bnd (aBinN .eql t28 t24) fun t29 =>
  Ret R t29 H26)
  (Ret R (.bool false) H4)
theorem W_i_Graph_uses_1 {R : V → Heap → Prop} {a0 a1 a2 a3 a4 a5 : V} {H : Heap} (h : F_i_Graph_uses_1 R a0 a1 a2 a3 a4 a5 H) : ACalls P n_i_Graph_uses_1 [a0, a1, a2, a3, a4, a5] H R :=
  acalls_of_form (g := ⟨[], []⟩) (x := (.seq .leaf (.seq (.draw [0, 1, 2, 3, 4, 5, 6, 7, 8, 9, 10, 11, 12, 13, 14, 17, 18, 19, 20, 21, 22, 23, 25, 26, 27, 28, 29, 30, 31, 15, 16, 24, 32, 33, 34]) .leaf))) Try.func108 (by kernel_rfl) (by kernel_rfl) (by kernel_rfl) (by kernel_rfl : F_i_Graph_uses_1 R a0 a1 a2 a3 a4 a5 H = _) h
theorem E_i_Graph_uses_1 : enterable P n_i_Graph_uses_1 = true := by kernel_rfl
def F_s_l03Cost (R : V → Heap → Prop) (a0 a1 a2 : V) (H : Heap) : Prop :=
  boxK a0 (bnd (partOf true 2 (cellsOf a0) 0) fun t1 =>
  ACalls P n_s_l03Node [t1, a1] H fun v2 H3 =>
  bnd (aNot v2) fun t4 =>
  gd t4 false
  (bnd (partOf true 2 (cellsOf a0) 0) fun t5 =>
  ACalls P n_s_l03Node [t5, a2] H3 fun v6 H7 =>
  bnd (aNot v6) fun t8 =>
  cnd t8
  (Ret R (.int .i64 1000000) H7)
  (bnd (aBinN .eql a1 a2) fun t9 =>
  cnd t9
  (Ret R (.int .i64 0) H7)
  (∃ (I10 : Nat → List V → Heap → Prop) (n11 : Nat), Shr (I10 n11 [(.int .i64 0)]) H7 ∧
  ∀ n12 xs14 H15, I10 n12 xs14 H15 →
  bnd (partOf false 1 (cellsOf a0) 1) fun t16 =>
  bnd (lenOf t16) fun n17 =>
  bnd (aBinN .lss (xs14.headD .any) (.int .i64 (n17 : Nat))) fun t18 =>
  cnd t18
  (bnd (partOf false 1 (cellsOf a0) 1) fun t19 =>
  bnd (aIndex H15 3 t19 (xs14.headD .any)) fun t20 =>
  bnd (aField 0 t20) fun t21 =>
  bnd (aLd false 1 H15 t21) fun t22 =>
  bnd (aBinN .eql t22 a1) fun t23 =>
  gd t23 true
  (bnd (partOf false 1 (cellsOf a0) 1) fun t24 =>
  bnd (aIndex H15 3 t24 (xs14.headD .any)) fun t25 =>
  bnd (aField 1 t25) fun t26 =>
  bnd (aLd false 1 H15 t26) fun t27 =>
  bnd (aBinN .eql t27 a2) fun t28 =>
  cnd t28
  (bnd (partOf false 1 (cellsOf a0) 1) fun t29 =>
  bnd (aIndex H15 3 t29 (xs14.headD .any)) fun t30 =>
  bnd (aField 2 t30) fun t31 =>
  bnd (aLd false 1 H15 t31) fun t32 =>
  Ret R t32 H15)
  (bnd (aBinN .add (xs14.headD .any) (.int .i64 1)) fun t33 =>
  ∃ n13, n13 < n12 ∧ Shr (I10 n13 [t33]) H15))
  (bnd (aBinN .add (xs14.headD .any) (.int .i64 1)) fun t34 =>
  ∃ n13, n13 < n12 ∧ Shr (I10 n13 [t34]) H15))
  (Ret R (.int .i64 1000000) H15))))
  (Ret R (.int .i64 1000000) H3))
theorem W_s_l03Cost {R : V → Heap → Prop} {a0 a1 a2 : V} {H : Heap} (h : F_s_l03Cost R a0 a1 a2 H) : ACalls P n_s_l03Cost [a0, a1, a2] H R :=
  acalls_of_form (g := ⟨[3], [22, 28, 37, 46]⟩) (x := (.seq .leaf (.seq (.seq .leaf (.cond (.seq .leaf .leaf) .leaf)) (.seq (.seq .leaf (.cond (.seq .leaf .leaf) .leaf)) (.seq (.seq .leaf (.block (.loop [7] (.seq (.seq .leaf (.cond .leaf .leaf)) (.seq (.block (.seq .leaf (.cond (.seq .leaf .leaf) .leaf))) .leaf))))) (.seq .leaf .leaf)))))) Try.func109 (by kernel_rfl) (by kernel_rfl) (by kernel_rfl) (by kernel_rfl : F_s_l03Cost R a0 a1 a2 H = _) h
def F_slices_Index_int_int (R : V → Heap → Prop) (a0 a1 : V) (H : Heap) : Prop :=
  bnd (lenOf a0) fun n1 =>
  ∃ (I2 : Nat → List V → Heap → Prop) (n3 : Nat), Shr (I2 n3 [(.int .i64 0)]) H ∧
  ∀ n4 xs6 H7, I2 n4 xs6 H7 →
  bnd (aBinN .lss (xs6.headD .any) (.int .i64 (n1 : Nat))) fun t8 =>
  cnd t8
  (bnd (aIndex H7 1 a0 (xs6.headD .any)) fun t9 =>
  bnd (aLd false 1 H7 t9) fun t10 =>
  bnd (aBinN .eql a1 t10) fun t11 =>
  cnd t11
  (Ret R (xs6.headD .any) H7)
  (bnd (aBinN .add (xs6.headD .any) (.int .i64 1)) fun t12 =>
  ∃ n5, n5 < n4 ∧ Shr (I2 n5 [t12]) H7))
  (Ret R (.int .i64 (-1)) H7)
theorem W_slices_Index_int_int {R : V → Heap → Prop} {a0 a1 : V} {H : Heap} (h : F_slices_Index_int_int R a0 a1 H) : ACalls P n_slices_Index_int_int [a0, a1] H R :=
  acalls_of_form (g := ⟨[], []⟩) (x := (.seq .leaf (.seq (.seq .leaf (.block (.loop [8] (.seq .leaf (.seq (.cond .leaf .leaf) (.seq (.block (.seq .leaf (.seq .leaf (.cond (.seq .leaf .leaf) .leaf)))) .leaf)))))) (.seq .leaf .leaf)))) Try.func110 (by kernel_rfl) (by kernel_rfl) (by kernel_rfl) (by kernel_rfl : F_slices_Index_int_int R a0 a1 H = _) h
def F_s_l03Steps (R : V → Heap → Prop) (a0 a1 : V) (H : Heap) : Prop :=
  boxK a0 (bnd (bsl 1 0 [(.int .i64 0)] []) fun r1 =>
  ∀ o2, H o2 = none →
  ∃ (I3 : Nat → List V → Heap → Prop) (n4 : Nat), Shr (I3 n4 [(.slice o2 0 0 (some 0)), (.int .i64 0)]) (upd H o2 ⟨1, r1⟩) ∧
  ∀ n5 xs7 H8, I3 n5 xs7 H8 →
  bnd (partOf false 1 (cellsOf a0) 0) fun t9 =>
  bnd (aBinN .lss (xs7.tail.headD .any) t9) fun t10 =>
  cnd t10
  (bnd (partOf true 2 (cellsOf a0) 0) fun t11 =>
  ACalls P n_s_Distances [t11, (xs7.tail.headD .any)] H8 fun v12 H13 =>
  bnd (aIndex H13 1 v12 a1) fun t14 =>
  bnd (aLd false 1 H13 t14) fun t15 =>
  bnd (bsl 1 1 [(.int .i64 0)] [(0, t15)]) fun r16 =>
  ∀ o17, H13 o17 = none →
  bnd (rowsOf (upd H13 o17 ⟨1, r16⟩) 1 (.slice o17 0 1 (some 1))) fun r20 =>
  appendK (upd H13 o17 ⟨1, r16⟩) 1 8 (xs7.headD .any) r20 fun v18 H19 =>
  bnd (aBinN .add (xs7.tail.headD .any) (.int .i64 1)) fun t21 =>
  ∃ n6, n6 < n5 ∧ Shr (I3 n6 [v18, t21]) H19)
  (bnd (partOf false 1 (cellsOf a0) 0) fun t22 =>
  bnd (natOf t22) fun n23 =>
  bnd (natOf t22) fun n24 =>
  (n23 ≤ n24 ∧ n24 ≤ 140737488355328 ∧ 8 * n24 ≤ 281474976710656 ∧ 1 = 1 ∧ 0 < 1) ∧
  ∀ o25, H8 o25 = none →
  bnd (partOf false 1 (cellsOf a0) 0) fun t26 =>
  bnd (natOf t26) fun n27 =>
  bnd (natOf t26) fun n28 =>
  (n27 ≤ n28 ∧ n28 ≤ 140737488355328 ∧ 8 * n28 ≤ 281474976710656 ∧ 1 = 1 ∧ 0 < 1) ∧
  ∀ o29, (upd H8 o25 ⟨1, List.replicate n24 [(.int .i64 0)]⟩) o29 = none →
  bnd (partOf false 1 (cellsOf a0) 0) fun t30 =>
  bnd (natOf t30) fun n31 =>
  bnd (natOf t30) fun n32 =>
  (n31 ≤ n32 ∧ n32 ≤ 140737488355328 ∧ 1 * n32 ≤ 281474976710656 ∧ 1 = 1 ∧ 0 < 1) ∧
  ∀ o33, (upd (upd H8 o25 ⟨1, List.replicate n24 [(.int .i64 0)]⟩) o29 ⟨1, List.replicate n28 [(.int .i64 0)]⟩) o33 = none →
  ∃ (I34 : Nat → List V → Heap → Prop) (n35 : Nat), Shr (I34 n35 [(.box (cellsOf a0)), (.int .i64 0)]) (upd (upd (upd H8 o25 ⟨1, List.replicate n24 [(.int .i64 0)]⟩) o29 ⟨1, List.replicate n28 [(.int .i64 0)]⟩) o33 ⟨1, List.replicate n32 [(.bool false)]⟩) ∧
  ∀ n36 xs38 H39, I34 n36 xs38 H39 →
  bnd (partOf false 1 (bc (xs38.headD .any)) 0) fun t40 =>
  bnd (aBinN .lss (xs38.tail.headD .any) t40) fun t41 =>
  cnd t41
  (∃ (I42 : Nat → List V → Heap → Prop) (n43 : Nat), Shr (I42 n43 [(.int .i64 (-1)), (.int .i64 0)]) H39 ∧
  ∀ n44 xs46 H47, I42 n44 xs46 H47 →
  bnd (partOf false 1 (bc (xs38.headD .any)) 0) fun t48 =>
  bnd (aBinN .lss (xs46.tail.headD .any) t48) fun t49 =>
  cnd t49
  (∃ S50, Abs.sub S50 H47 ∧
  bnd (aIndex S50 1 (.slice o33 0 n31 (some n32)) (xs46.tail.headD .any)) fun t51 =>
  bnd (aLd false 1 S50 t51) fun t52 =>
  bnd (aNot t52) fun t53 =>
  gd t53 true
  (bnd (aIndex S50 1 (xs7.headD .any) (xs46.tail.headD .any)) fun t54 =>
  bnd (aLd false 1 S50 t54) fun t55 =>
  bnd (aBinN .lss t55 (.int .i64 1000000)) fun t56 =>
  gd t56 true
  (bnd (aBinN .lss (xs46.headD .any) (.int .i64 0)) fun t57 =>
  gd3 t57 false
  (bnd (aIndex S50 1 (xs7.headD .any) (xs46.tail.headD .any)) fun t58 =>
  bnd (aLd false 1 S50 t58) fun t59 =>
  bnd (aIndex S50 1 (xs7.headD .any) (xs46.headD .any)) fun t60 =>
  bnd (aLd false 1 S50 t60) fun t61 =>
  bnd (aBinN .lss t59 t61) fun t62 =>
  cnd t62
  (bnd (aBinN .add (xs46.tail.headD .any) (.int .i64 1)) fun t63 =>
  ∃ n45, n45 < n44 ∧ Shr (I42 n45 [(xs46.tail.headD .any), t63]) H47)
  (bnd (aBinN .add (xs46.tail.headD .any) (.int .i64 1)) fun t64 =>
  ∃ n45, n45 < n44 ∧ Shr (I42 n45 [(xs46.headD .any), t64]) H47))
  (bnd (aBinN .add (xs46.tail.headD .any) (.int .i64 1)) fun t65 =>
  ∃ n45, n45 < n44 ∧ Shr (I42 n45 [(xs46.tail.headD .any), t65]) H47)
  (bnd (aPick (.tup []) (.bool true) (.tup [])) fun t66 =>
  cnd t66
  (bnd (aBinN .add (xs46.tail.headD .any) (.int .i64 1)) fun t67 =>
  ∃ n45, n45 < n44 ∧ Shr (I42 n45 [(xs46.tail.headD .any), t67]) H47)
  (bnd (aBinN .add (xs46.tail.headD .any) (.int .i64 1)) fun t68 =>
  ∃ n45, n45 < n44 ∧ Shr (I42 n45 [(xs46.headD .any), t68]) H47)))
  (bnd (aBinN .add (xs46.tail.headD .any) (.int .i64 1)) fun t69 =>
  ∃ n45, n45 < n44 ∧ Shr (I42 n45 [(xs46.headD .any), t69]) H47))
  (bnd (aBinN .add (xs46.tail.headD .any) (.int .i64 1)) fun t70 =>
  ∃ n45, n45 < n44 ∧ Shr (I42 n45 [(xs46.headD .any), t70]) H47))
  (bnd (aBinN .lss (xs46.headD .any) (.int .i64 0)) fun t71 =>
  cnd t71
  (Ret R (.tup [(.slice o25 0 n23 (some n24)), (.slice o29 0 n27 (some n28))]) H47)
  (bnd (aIndex H47 1 (.slice o33 0 n31 (some n32)) (xs46.headD .any)) fun t72 =>
  bnd (aSt 1 H47 t72 (.bool true)) fun H73 =>
  bnd (aBinN .eql (xs46.headD .any) a1) fun t74 =>
  cnd t74
  (bnd (aIndex H73 1 (.slice o25 0 n23 (some n24)) (xs46.headD .any)) fun t75 =>
  bnd (aSt 1 H73 t75 (.int .i64 1)) fun H76 =>
  bnd (aIndex H76 1 (.slice o29 0 n27 (some n28)) (xs46.headD .any)) fun t77 =>
  bnd (aSt 1 H76 t77 (.int .i64 1)) fun H78 =>
  bnd (aBinN .add (xs38.tail.headD .any) (.int .i64 1)) fun t79 =>
  ∃ n37, n37 < n36 ∧ Shr (I34 n37 [(.box (bc (xs38.headD .any))), t79]) H78)
  (∃ (I80 : Nat → List V → Heap → Prop) (n81 : Nat), Shr (I80 n81 [(.box (bc (xs38.headD .any))), (.int .i64 0)]) H73 ∧
  ∀ n82 xs84 H85, I80 n82 xs84 H85 →
  bnd (partOf false 1 (bc (xs84.headD .any)) 0) fun t86 =>
  bnd (aBinN .lss (xs84.tail.headD .any) t86) fun t87 =>
  cnd t87
  (bnd (partOf true 2 (bc (xs84.headD .any)) 0) fun t88 =>
  ACalls P n_s_l03Cost [t88, (xs46.headD .any), (xs84.tail.headD .any)] H85 fun v89 H90 =>
  ∃ S91, Abs.sub S91 H90 ∧
  bnd (aBinN .eql (xs84.tail.headD .any) (xs46.headD .any)) fun t92 =>
  gd t92 false
  (bnd (aBinN .eql v89 (.int .i64 1000000)) fun t93 =>
  gd t93 false
  (bnd (aIndex S91 1 (xs7.headD .any) (xs84.tail.headD .any)) fun t94 =>
  bnd (aLd false 1 S91 t94) fun t95 =>
  bnd (aBinN .eql t95 (.int .i64 1000000)) fun t96 =>
  gd t96 false
  (bnd (aIndex S91 1 (xs7.headD .any) (xs84.tail.headD .any)) fun t97 =>
  bnd (aLd false 1 S91 t97) fun t98 =>
  bnd (aBinN .add v89 t98) fun t99 =>
  bnd (aIndex S91 1 (xs7.headD .any) (xs46.headD .any)) fun t100 =>
  bnd (aLd false 1 S91 t100) fun t101 =>
  bnd (aBinN .neq t99 t101) fun t102 =>
  cnd t102
  (bnd (aBinN .add (xs84.tail.headD .any) (.int .i64 1)) fun t103 =>
  ∃ n83, n83 < n82 ∧ Shr (I80 n83 [(.box (bc (xs84.headD .any))), t103]) H90)
  (bnd (aIndex H90 1 (.slice o29 0 n27 (some n28)) (xs46.headD .any)) fun t104 =>
  bnd (aLd false 1 H90 t104) fun t105 =>
  bnd (aIndex H90 1 (.slice o29 0 n27 (some n28)) (xs84.tail.headD .any)) fun t106 =>
  bnd (aLd false 1 H90 t106) fun t107 =>
  bnd (aBinN .add t105 t107) fun t108 =>
  bnd (aIndex H90 1 (.slice o29 0 n27 (some n28)) (xs46.headD .any)) fun t109 =>
  bnd (aSt 1 H90 t109 t108) fun H110 =>
  ∃ S111, Abs.sub S111 H110 ∧
  bnd (aIndex S111 1 (.slice o25 0 n23 (some n24)) (xs46.headD .any)) fun t112 =>
  bnd (aLd false 1 S111 t112) fun t113 =>
  bnd (aBinN .eql t113 (.int .i64 0)) fun t114 =>
  gd t114 false
  (bnd (aIndex S111 1 (.slice o25 0 n23 (some n24)) (xs84.tail.headD .any)) fun t115 =>
  bnd (aLd false 1 S111 t115) fun t116 =>
  bnd (aBinN .add t116 (.int .i64 1)) fun t117 =>
  bnd (aIndex S111 1 (.slice o25 0 n23 (some n24)) (xs46.headD .any)) fun t118 =>
  bnd (aLd false 1 S111 t118) fun t119 =>
  bnd (aBinN .lss t117 t119) fun t120 =>
  cnd t120
  (bnd (aIndex H110 1 (.slice o25 0 n23 (some n24)) (xs84.tail.headD .any)) fun t121 =>
  bnd (aLd false 1 H110 t121) fun t122 =>
  bnd (aBinN .add t122 (.int .i64 1)) fun t123 =>
  bnd (aIndex H110 1 (.slice o25 0 n23 (some n24)) (xs46.headD .any)) fun t124 =>
  bnd (aSt 1 H110 t124 t123) fun H125 =>
  bnd (aBinN .add (xs84.tail.headD .any) (.int .i64 1)) fun t126 =>
  ∃ n83, n83 < n82 ∧ Shr (I80 n83 [(.box (bc (xs84.headD .any))), t126]) H125)
  (bnd (aBinN .add (xs84.tail.headD .any) (.int .i64 1)) fun t127 =>
  ∃ n83, n83 < n82 ∧ Shr (I80 n83 [(.box (bc (xs84.headD .any))), t127]) H110))
  (bnd (aIndex H110 1 (.slice o25 0 n23 (some n24)) (xs84.tail.headD .any)) fun t128 =>
  bnd (aLd false 1 H110 t128) fun t129 =>
  bnd (aBinN .add t129 (.int .i64 1)) fun t130 =>
  bnd (aIndex H110 1 (.slice o25 0 n23 (some n24)) (xs46.headD .any)) fun t131 =>
  bnd (aSt 1 H110 t131 t130) fun H132 =>
  bnd (aBinN .add (xs84.tail.headD .any) (.int .i64 1)) fun t133 =>
  ∃ n83, n83 < n82 ∧ Shr (I80 n83 [(.box (bc (xs84.headD .any))), t133]) H132)))
  (bnd (aBinN .add (xs84.tail.headD .any) (.int .i64 1)) fun t134 =>
  ∃ n83, n83 < n82 ∧ Shr (I80 n83 [(.box (bc (xs84.headD .any))), t134]) H90))
  (bnd (aBinN .add (xs84.tail.headD .any) (.int .i64 1)) fun t135 =>
  ∃ n83, n83 < n82 ∧ Shr (I80 n83 [(.box (bc (xs84.headD .any))), t135]) H90))
  (bnd (aBinN .add (xs84.tail.headD .any) (.int .i64 1)) fun t136 =>
  ∃ n83, n83 < n82 ∧ Shr (I80 n83 [(.box (bc (xs84.headD .any))), t136]) H90))
  (bnd (aBinN .add (xs38.tail.headD .any) (.int .i64 1)) fun t137 =>
  ∃ n37, n37 < n36 ∧ Shr (I34 n37 [(.box (bc (xs84.headD .any))), t137]) H85)))))
  (Ret R (.tup [(.slice o25 0 n23 (some n24)), (.slice o29 0 n27 (some n28))]) H39)))
theorem W_s_l03Steps {R : V → Heap → Prop} {a0 a1 : V} {H : Heap} (h : F_s_l03Steps R a0 a1 H) : ACalls P n_s_l03Steps [a0, a1] H R :=
  acalls_of_form (g := ⟨[2], [18, 32, 35, 38, 42, 48, 96]⟩) (x := (.seq .leaf (.seq .leaf (.seq (.seq .leaf (.block (.loop [6, 7] (.seq (.seq .leaf (.cond .leaf .leaf)) (.seq (.block .leaf) .leaf))))) (.seq .leaf (.seq .leaf (.seq .leaf (.seq (.seq .leaf (.block (.loop [2, 11] (.seq (.seq .leaf (.cond .leaf .leaf)) (.seq (.block (.seq .leaf (.seq (.seq .leaf (.block (.loop [12, 13] (.seq (.seq .leaf (.cond .leaf .leaf)) (.seq (.block (.seq (.draw [0, 1, 2, 3, 4, 5, 6, 7, 8, 9, 10, 11, 12, 13, 14, 15, 16, 17, 18, 19, 20, 21, 22, 23, 24, 25, 26]) (.cond .leaf .leaf))) .leaf))))) (.seq (.seq .leaf (.cond .leaf .leaf)) (.seq .leaf (.seq (.seq .leaf (.cond (.seq .leaf (.seq .leaf .leaf)) .leaf)) (.seq .leaf (.block (.loop [2, 14] (.seq (.seq .leaf (.cond .leaf .leaf)) (.seq (.block (.seq .leaf (.seq (.seq (.draw [0, 1, 2, 3, 4, 5, 6, 7, 8, 9, 10, 11, 12, 13, 14, 15, 16, 17, 18, 19, 20, 21, 22, 23, 24, 25, 26]) (.cond .leaf .leaf)) (.seq (.drawh [0, 1, 2, 3, 4, 5, 6, 7, 8, 9, 10, 11, 12]) (.seq (.draw [0, 1, 2, 3, 4, 5, 6, 7, 8, 9, 10, 11, 12, 13, 14, 15, 16]) (.cond .leaf .leaf)))))) .leaf))))))))))) .leaf))))) (.seq .leaf .leaf))))))))) Try.func111 (by kernel_rfl) (by kernel_rfl) (by kernel_rfl) (by kernel_rfl : F_s_l03Steps R a0 a1 H = _) h
def F_i_Graph_steps (R : V → Heap → Prop) (a0 a1 a2 : V) (H : Heap) : Prop :=
  boxK a0 (bnd (bsl 1 1 [(.int .i64 0)] [(0, (.int .i64 1000000))]) fun r1 =>
  ∀ o2, H o2 = none →
  bnd (partOf false 1 (cellsOf a0) 0) fun t3 =>
  ACalls P n_slices_Repeat_int_int [(.slice o2 0 1 (some 1)), t3] (upd H o2 ⟨1, r1⟩) fun v4 H5 =>
  bnd (aIndex H5 1 v4 a1) fun t6 =>
  bnd (aSt 1 H5 t6 (.int .i64 0)) fun H7 =>
  bnd (partOf false 1 (cellsOf a0) 0) fun t8 =>
  ∃ (I9 : Nat → List V → Heap → Prop) (n10 : Nat), Shr (I9 n10 [(.box (cellsOf a0)), (.int .i64 0)]) H7 ∧
  ∀ n11 xs13 H14, I9 n11 xs13 H14 →
  bnd (aBinN .lss (xs13.tail.headD .any) t8) fun t15 =>
  cnd t15
  (bnd (partOf false 1 (bc (xs13.headD .any)) 1) fun t16 =>
  bnd (lenOf t16) fun n17 =>
  ∃ (I18 : Nat → List V → Heap → Prop) (n19 : Nat), Shr (I18 n19 [(.box (bc (xs13.headD .any))), (.int .i64 0)]) H14 ∧
  ∀ n20 xs22 H23, I18 n20 xs22 H23 →
  bnd (aBinN .lss (xs22.tail.headD .any) (.int .i64 (n17 : Nat))) fun t24 =>
  cnd t24
  (bnd (aIndex H23 3 t16 (xs22.tail.headD .any)) fun t25 =>
  bnd (aLd true 3 H23 t25) fun t26 =>
  bnd (stz 3 [(.int .i64 0), (.int .i64 0), (.int .i64 0)] 0 t26) fun c27 =>
  ∃ S28, Abs.sub S28 H23 ∧
  bnd (partOf false 1 c27 0) fun t29 =>
  bnd (aIndex S28 1 a2 t29) fun t30 =>
  bnd (aLd false 1 S28 t30) fun t31 =>
  bnd (aIndex S28 1 t31 a1) fun t32 =>
  bnd (aLd false 1 S28 t32) fun t33 =>
  bnd (aBinN .lss t33 (.int .i64 1000000)) fun t34 =>
  gd t34 true
  (bnd (partOf false 1 c27 2) fun t35 =>
  bnd (partOf false 1 c27 1) fun t36 =>
  bnd (aIndex S28 1 a2 t36) fun t37 =>
  bnd (aLd false 1 S28 t37) fun t38 =>
  bnd (aIndex S28 1 t38 a1) fun t39 =>
  bnd (aLd false 1 S28 t39) fun t40 =>
  bnd (aBinN .add t35 t40) fun t41 =>
  bnd (partOf false 1 c27 0) fun t42 =>
  bnd (aIndex S28 1 a2 t42) fun t43 =>
  bnd (aLd false 1 S28 t43) fun t44 =>
  bnd (aIndex S28 1 t44 a1) fun t45 =>
  bnd (aLd false 1 S28 t45) fun t46 =>
  bnd (aBinN .eql t41 t46) fun t47 =>
  cnd t47
  (bnd (partOf false 1 c27 0) fun t48 =>
  bnd (partOf false 1 c27 0) fun t49 =>
  bnd (aIndex H23 1 v4 t49) fun t50 =>
  bnd (aLd false 1 H23 t50) fun t51 =>
  bnd (partOf false 1 c27 1) fun t52 =>
  bnd (aIndex H23 1 v4 t52) fun t53 =>
  bnd (aLd false 1 H23 t53) fun t54 =>
  bnd (aBinN .add t54 (.int .i64 1)) fun t55 =>
  bnd (aMins false t51 [t55]) fun t58 =>
  bnd (aIndex H23 1 v4 t48) fun t59 =>
  bnd (aSt 1 H23 t59 t58) fun H60 =>
  bnd (aBinN .add (xs22.tail.headD .any) (.int .i64 1)) fun t61 =>
  ∃ n21, n21 < n20 ∧ Shr (I18 n21 [(.box (bc (xs22.headD .any))), t61]) H60)
  (bnd (aBinN .add (xs22.tail.headD .any) (.int .i64 1)) fun t62 =>
  ∃ n21, n21 < n20 ∧ Shr (I18 n21 [(.box (bc (xs22.headD .any))), t62]) H23))
  (bnd (aBinN .add (xs22.tail.headD .any) (.int .i64 1)) fun t63 =>
  ∃ n21, n21 < n20 ∧ Shr (I18 n21 [(.box (bc (xs22.headD .any))), t63]) H23))
  (bnd (aBinN .add (xs13.tail.headD .any) (.int .i64 1)) fun t64 =>
  ∃ n12, n12 < n11 ∧ Shr (I9 n12 [(.box (bc (xs22.headD .any))), t64]) H23))
  (Ret R v4 H14))
theorem W_i_Graph_steps {R : V → Heap → Prop} {a0 a1 a2 : V} {H : Heap} (h : F_i_Graph_steps R a0 a1 a2 H) : ACalls P n_i_Graph_steps [a0, a1, a2] H R :=
  acalls_of_form (g := ⟨[3, 9], [11, 17, 21, 29, 38, 41, 50, 60, 63, 68]⟩) (x := (.seq .leaf (.seq .leaf (.seq .leaf (.seq (.seq .leaf (.block (.loop [3, 19] (.seq .leaf (.seq (.cond .leaf .leaf) (.seq (.block (.seq .leaf (.block (.loop [3, 24] (.seq .leaf (.seq (.cond .leaf .leaf) (.seq (.block (.seq .leaf (.seq (.draw [0, 1, 2, 3, 4, 5, 6, 7, 8, 9, 10, 11, 12, 13, 14, 15, 16, 17, 18, 19, 20, 21, 22, 23, 24, 25, 26, 27, 28, 29, 30]) (.cond (.drawh [0, 1, 2, 3, 4, 5, 6, 7, 8, 9, 10, 11, 12, 13, 14, 15, 16]) .leaf)))) .leaf))))))) .leaf)))))) (.seq .leaf .leaf)))))) Try.func112 (by kernel_rfl) (by kernel_rfl) (by kernel_rfl) (by kernel_rfl : F_i_Graph_steps R a0 a1 a2 H = _) h
def F_s_l01Size (R : V → Heap → Prop) (a0 a1 : V) (H : Heap) : Prop :=
  bnd (lenOf a0) fun n1 =>
  bnd (aBinN .quo (.int .i64 (n1 : Nat)) (.int .i64 16)) fun t2 =>
  bnd (aBinN .add (.int .i64 2) t2) fun t3 =>
  bnd (aBinN .gtr t3 a1) fun t4 =>
  cnd t4
  (Ret R a1 H)
  (Ret R t3 H)
theorem W_s_l01Size {R : V → Heap → Prop} {a0 a1 : V} {H : Heap} (h : F_s_l01Size R a0 a1 H) : ACalls P n_s_l01Size [a0, a1] H R :=
  acalls_of_form (g := ⟨[], []⟩) (x := (.seq .leaf (.seq .leaf (.seq (.seq .leaf (.cond (.seq .leaf .leaf) .leaf)) (.seq .leaf .leaf))))) Try.func113 (by kernel_rfl) (by kernel_rfl) (by kernel_rfl) (by kernel_rfl : F_s_l01Size R a0 a1 H = _) h
def F_s_l03Bend (R : V → Heap → Prop) (a0 a1 : V) (H : Heap) : Prop :=
  boxK a1 (ACalls P n_s_l01Below [a0, (.int .i64 4)] H fun v1 H2 =>
  bnd (aBinN .eql v1 (.int .i64 0)) fun t3 =>
  cnd t3
  (bnd (partOf false 1 (cellsOf a1) 0) fun t4 =>
  bnd (aBinN .sub t4 (.int .i64 1)) fun t5 =>
  bnd (bsl 1 4 [(.int .i64 0)] [(0, (.int .i64 0)), (1, (.int .i64 1)), (2, (.int .i64 11)), (3, t5)]) fun r6 =>
  ∀ o7, H2 o7 = none →
  ACalls P n_s_l01PickInt [a0, (.slice o7 0 4 (some 4))] (upd H2 o7 ⟨1, r6⟩) fun v8 H9 =>
  bnd (stz 1 (cellsOf a1) 0 v8) fun c10 =>
  bnd (partOf true 2 c10 0) fun t11 =>
  bnd (stz 2 [(.int .i64 0), .nils] 0 t11) fun c12 =>
  bnd (partOf true 2 c12 0) fun t13 =>
  Ret R t13 H9)
  (bnd (aBinN .eql v1 (.int .i64 1)) fun t14 =>
  cnd t14
  (bnd (partOf false 1 (cellsOf a1) 1) fun t15 =>
  bnd (lenOf t15) fun n16 =>
  bnd (aBinN .gtr (.int .i64 (n16 : Nat)) (.int .i64 0)) fun t17 =>
  cnd t17
  (bnd (partOf false 1 (cellsOf a1) 1) fun t18 =>
  bnd (partOf false 1 (cellsOf a1) 1) fun t19 =>
  bnd (lenOf t19) fun n20 =>
  ACalls P n_s_l01Below [a0, (.int .i64 (n20 : Nat))] H2 fun v21 H22 =>
  bnd (bsl 1 3 [(.int .i64 0)] [(0, (.int .i64 0)), (1, (.int .i64 1000)), (2, (.int .i64 1001))]) fun r23 =>
  ∀ o24, H22 o24 = none →
  ACalls P n_s_l01PickInt [a0, (.slice o24 0 3 (some 3))] (upd H22 o24 ⟨1, r23⟩) fun v25 H26 =>
  bnd (aIndex H26 3 t18 v21) fun t27 =>
  bnd (aField 2 t27) fun t28 =>
  bnd (aSt 1 H26 t28 v25) fun H29 =>
  bnd (partOf true 2 (cellsOf a1) 0) fun t30 =>
  bnd (stz 2 [(.int .i64 0), .nils] 0 t30) fun c31 =>
  bnd (partOf true 2 c31 0) fun t32 =>
  Ret R t32 H29)
  (bnd (partOf true 2 (cellsOf a1) 0) fun t33 =>
  bnd (stz 2 [(.int .i64 0), .nils] 0 t33) fun c34 =>
  bnd (partOf true 2 c34 0) fun t35 =>
  Ret R t35 H2))
  (bnd (aBinN .eql v1 (.int .i64 2)) fun t36 =>
  cnd t36
  (bnd (partOf false 1 (cellsOf a1) 1) fun t37 =>
  bnd (lenOf t37) fun n38 =>
  bnd (aBinN .gtr (.int .i64 (n38 : Nat)) (.int .i64 0)) fun t39 =>
  cnd t39
  (bnd (partOf false 1 (cellsOf a1) 1) fun t40 =>
  bnd (partOf false 1 (cellsOf a1) 1) fun t41 =>
  bnd (aIndex H2 3 t41 (.int .i64 0)) fun t42 =>
  bnd (aLd true 3 H2 t42) fun t43 =>
  bnd (bsl 3 1 [(.int .i64 0), (.int .i64 0), (.int .i64 0)] [(0, t43)]) fun r44 =>
  ∀ o45, H2 o45 = none →
  bnd (rowsOf (upd H2 o45 ⟨3, r44⟩) 3 (.slice o45 0 1 (some 1))) fun r48 =>
  appendK (upd H2 o45 ⟨3, r44⟩) 3 24 t40 r48 fun v46 H47 =>
  bnd (stz 1 (cellsOf a1) 1 v46) fun c49 =>
  bnd (partOf true 2 c49 0) fun t50 =>
  bnd (stz 2 [(.int .i64 0), .nils] 0 t50) fun c51 =>
  bnd (partOf true 2 c51 0) fun t52 =>
  Ret R t52 H47)
  (bnd (partOf true 2 (cellsOf a1) 0) fun t53 =>
  bnd (stz 2 [(.int .i64 0), .nils] 0 t53) fun c54 =>
  bnd (partOf true 2 c54 0) fun t55 =>
  Ret R t55 H2))
  (bnd (aBinN .eql v1 (.int .i64 3)) fun t56 =>
  cnd t56
  (bnd (partOf false 1 (cellsOf a1) 1) fun t57 =>
  bnd (lenOf t57) fun n58 =>
  bnd (aBinN .gtr (.int .i64 (n58 : Nat)) (.int .i64 0)) fun t59 =>
  cnd t59
  (bnd (partOf false 1 (cellsOf a1) 1) fun t60 =>
  bnd (lenOf t60) fun n61 =>
  ACalls P n_s_l01Below [a0, (.int .i64 (n61 : Nat))] H2 fun v62 H63 =>
  bnd (partOf false 1 (cellsOf a1) 1) fun t64 =>
  bnd (partOf false 1 (cellsOf a1) 1) fun t65 =>
  bnd (aIndex H63 3 t65 v62) fun t66 =>
  bnd (aField 0 t66) fun t67 =>
  bnd (aLd false 1 H63 t67) fun t68 =>
  bnd (aIndex H63 3 t64 v62) fun t69 =>
  bnd (aField 1 t69) fun t70 =>
  bnd (aSt 1 H63 t70 t68) fun H71 =>
  bnd (partOf true 2 (cellsOf a1) 0) fun t72 =>
  bnd (stz 2 [(.int .i64 0), .nils] 0 t72) fun c73 =>
  bnd (partOf true 2 c73 0) fun t74 =>
  Ret R t74 H71)
  (bnd (partOf true 2 (cellsOf a1) 0) fun t75 =>
  bnd (stz 2 [(.int .i64 0), .nils] 0 t75) fun c76 =>
  bnd (partOf true 2 c76 0) fun t77 =>
  Ret R t77 H2))
  (bnd (partOf true 2 (cellsOf a1) 0) fun t78 =>
  bnd (stz 2 [(.int .i64 0), .nils] 0 t78) fun c79 =>
  bnd (partOf true 2 c79 0) fun t80 =>
  Ret R t80 H2)))))
theorem W_s_l03Bend {R : V → Heap → Prop} {a0 a1 : V} {H : Heap} (h : F_s_l03Bend R a0 a1 H) : ACalls P n_s_l03Bend [a0, a1] H R :=
  acalls_of_form (g := ⟨[3, 4], [11, 16, 19, 23, 26, 37, 41, 43, 49, 52, 57, 61, 64]⟩) (x := (.seq .leaf (.seq (.seq .leaf (.block (.seq .leaf (.cond .leaf (.seq .leaf (.cond (.seq .leaf (.cond (.drawh [0, 1, 2, 3, 4, 5, 7, 6, 8, 9, 10, 11, 12]) .leaf)) (.seq .leaf (.cond (.seq .leaf (.cond (.drawh [0, 1, 2, 3, 4, 5, 6, 7, 8, 9]) .leaf)) (.seq .leaf (.cond (.seq .leaf (.cond (.seq .leaf (.drawh [0, 1, 2, 3, 4, 5, 6, 7, 8, 9, 10, 11])) .leaf)) .leaf)))))))))) (.seq .leaf .leaf)))) Try.func114 (by kernel_rfl) (by kernel_rfl) (by kernel_rfl) (by kernel_rfl : F_s_l03Bend R a0 a1 H = _) h
def F_s_l01Byte (R : V → Heap → Prop) (a0 : V) (H : Heap) : Prop :=
  bnd (aNil a0) fun t1 =>
  bnd (aField 2 t1) fun t2 =>
  bnd (aLd false 1 H t2) fun t3 =>
  bnd (aBinN .mul t3 (.int .i64 6364136223846793005)) fun t4 =>
  bnd (aBinN .add t4 (.int .i64 1442695040888963407)) fun t5 =>
  bnd (aNil a0) fun t6 =>
  bnd (aField 2 t6) fun t7 =>
  bnd (aSt 1 H t7 t5) fun H8 =>
  ∃ S9, Abs.sub S9 H8 ∧
  bnd (aNil a0) fun t10 =>
  bnd (aField 2 t10) fun t11 =>
  bnd (aLd false 1 S9 t11) fun t12 =>
  bnd (aBinN .shr t12 (.int .u64 33)) fun t13 =>
  bnd (aNil a0) fun t14 =>
  bnd (aField 2 t14) fun t15 =>
  bnd (aLd false 1 S9 t15) fun t16 =>
  bnd (aBinN .shr t16 (.int .u64 45)) fun t17 =>
  bnd (aBinN .xor t13 t17) fun t18 =>
  bnd (aBinN .and t18 (.int .i64 255)) fun t19 =>
  ∃ S20, Abs.sub S20 H8 ∧
  bnd (aNil a0) fun t21 =>
  bnd (aField 1 t21) fun t22 =>
  bnd (aLd false 1 S20 t22) fun t23 =>
  bnd (aNil a0) fun t24 =>
  bnd (aField 0 t24) fun t25 =>
  bnd (aLd false 1 S20 t25) fun t26 =>
  bnd (lenOf t26) fun n27 =>
  bnd (aBinN .lss t23 (.int .i64 (n27 : Nat))) fun t28 =>
  cnd t28
  (∃ S29, Abs.sub S29 H8 ∧
  bnd (aNil a0) fun t30 =>
  bnd (aField 0 t30) fun t31 =>
  bnd (aLd false 1 S29 t31) fun t32 =>
  bnd (aNil a0) fun t33 =>
  bnd (aField 1 t33) fun t34 =>
  bnd (aLd false 1 S29 t34) fun t35 =>
  bnd (aIndex S29 1 t32 t35) fun t36 =>
  bnd (aLd false 1 S29 t36) fun t37 =>
  bnd (aCv .i64 t37) fun t38 =>
  bnd (aBinN .add t19 t38) fun t39 =>
  bnd (aBinN .and t39 (.int .i64 255)) fun t40 =>
  bnd (aNil a0) fun t41 =>
  bnd (aField 1 t41) fun t42 =>
  bnd (aLd false 1 H8 t42) fun t43 =>
  bnd (aBinN .add t43 (.int .i64 1)) fun t44 =>
  bnd (aNil a0) fun t45 =>
  bnd (aField 1 t45) fun t46 =>
  bnd (aSt 1 H8 t46 t44) fun H47 =>
  Ret R t40 H47)
  (Ret R t19 H8)
theorem W_s_l01Byte {R : V → Heap → Prop} {a0 : V} {H : Heap} (h : F_s_l01Byte R a0 H) : ACalls P n_s_l01Byte [a0] H R :=
  acalls_of_form (g := ⟨[], []⟩) (x := (.seq .leaf (.seq .leaf (.seq (.draw [0, 1, 2, 3, 4, 5, 6, 7, 8, 9, 10, 11, 12]) (.seq (.seq (.draw [0, 1, 2, 3, 4, 5, 6, 7, 8, 9]) (.cond (.seq (.draw [0, 1, 2, 3, 4, 5, 6, 7, 8, 9, 10, 11, 12, 13, 14]) .leaf) .leaf)) (.seq .leaf .leaf)))))) Try.func115 (by kernel_rfl) (by kernel_rfl) (by kernel_rfl) (by kernel_rfl : F_s_l01Byte R a0 H = _) h
def F_slices_Repeat_int_int (R : V → Heap → Prop) (a0 a1 : V) (H : Heap) : Prop :=
  bnd (aBinN .lss a1 (.int .i64 0)) fun t1 =>
  cnd t1
  (False)
  (bnd (lenOf a0) fun n2 =>
  bnd (aCv .u64 (.int .i64 (n2 : Nat))) fun t3 =>
  bnd (aCv .u64 a1) fun t4 =>
  ACalls P n_math_bits_Mul [t3, t4] H fun v5 H6 =>
  bnd (aExtract 0 v5) fun t7 =>
  bnd (aExtract 1 v5) fun t8 =>
  bnd (aBinN .gtr t7 (.int .u64 0)) fun t9 =>
  gd t9 false
  (bnd (aBinN .gtr t8 (.int .u64 9223372036854775807)) fun t10 =>
  cnd t10
  (False)
  (bnd (aCv .i64 t8) fun t11 =>
  bnd (natOf t11) fun n12 =>
  bnd (natOf t11) fun n13 =>
  (n12 ≤ n13 ∧ n13 ≤ 140737488355328 ∧ 8 * n13 ≤ 281474976710656 ∧ 1 = 1 ∧ 0 < 1) ∧
  ∀ o14, H6 o14 = none →
  bnd (rowsOf (upd H6 o14 ⟨1, List.replicate n13 [(.int .i64 0)]⟩) 1 a0) fun r17 =>
  copyK (upd H6 o14 ⟨1, List.replicate n13 [(.int .i64 0)]⟩) 1 (.slice o14 0 n12 (some n13)) r17 fun v15 H16 =>
  ∃ (I18 : Nat → List V → Heap → Prop) (n19 : Nat), Shr (I18 n19 [v15]) H16 ∧
  ∀ n20 xs22 H23, I18 n20 xs22 H23 →
  bnd (aBinN .lss (xs22.headD .any) (.int .i64 (n12 : Nat))) fun t24 =>
  cnd t24
  (bnd (aSlice H23 1 (.slice o14 0 n12 (some n13)) (some (xs22.headD .any)) none none) fun t25 =>
  bnd (aSlice H23 1 (.slice o14 0 n12 (some n13)) none (some (xs22.headD .any)) none) fun t26 =>
  bnd (rowsOf H23 1 t26) fun r29 =>
  copyK H23 1 t25 r29 fun v27 H28 =>
  bnd (aBinN .add (xs22.headD .any) v27) fun t30 =>
  ∃ n21, n21 < n20 ∧ Shr (I18 n21 [t30]) H28)
  (Ret R (.slice o14 0 n12 (some n13)) H23)))
  (False))
theorem W_slices_Repeat_int_int {R : V → Heap → Prop} {a0 a1 : V} {H : Heap} (h : F_slices_Repeat_int_int R a0 a1 H) : ACalls P n_slices_Repeat_int_int [a0, a1] H R :=
  acalls_of_form (g := ⟨[], []⟩) (x := (.seq .leaf (.seq (.seq .leaf (.cond .leaf .leaf)) (.seq .leaf (.seq (.seq .leaf (.cond .leaf .leaf)) (.seq .leaf (.seq .leaf (.seq (.block (.loop [8] (.seq (.seq .leaf (.cond .leaf .leaf)) (.block (.drawh [0, 1, 2, 3, 4, 5, 6, 7, 8, 9]))))) (.seq .leaf .leaf))))))))) Try.func116 (by kernel_rfl) (by kernel_rfl) (by kernel_rfl) (by kernel_rfl : F_slices_Repeat_int_int R a0 a1 H = _) h
def F_slices_IndexFunc_i_Edge_i_Edge (R : V → Heap → Prop) (a0 a1 : V) (H : Heap) : Prop :=
  bnd (lenOf a0) fun n1 =>
  ∃ (I2 : Nat → List V → Heap → Prop) (n3 : Nat), Shr (I2 n3 [(.int .i64 0)]) H ∧
  ∀ n4 xs6 H7, I2 n4 xs6 H7 →
  bnd (aBinN .lss (xs6.headD .any) (.int .i64 (n1 : Nat))) fun t8 =>
  cnd t8
  (bnd (aIndex H7 3 a0 (xs6.headD .any)) fun t9 =>
  bnd (aLd true 3 H7 t9) fun t10 =>
  callK P H7 a1 [t10] fun v11 H12 =>
  cnd v11
  (Ret R (xs6.headD .any) H12)
  (bnd (aBinN .add (xs6.headD .any) (.int .i64 1)) fun t13 =>
  ∃ n5, n5 < n4 ∧ Shr (I2 n5 [t13]) H12))
  (Ret R (.int .i64 (-1)) H7)
theorem W_slices_IndexFunc_i_Edge_i_Edge {R : V → Heap → Prop} {a0 a1 : V} {H : Heap} (h : F_slices_IndexFunc_i_Edge_i_Edge R a0 a1 H) : ACalls P n_slices_IndexFunc_i_Edge_i_Edge [a0, a1] H R :=
  acalls_of_form (g := ⟨[], []⟩) (x := (.seq .leaf (.seq (.seq .leaf (.block (.loop [8] (.seq .leaf (.seq (.cond .leaf .leaf) (.seq (.block (.seq .leaf (.seq .leaf (.cond (.seq .leaf .leaf) .leaf)))) .leaf)))))) (.seq .leaf .leaf)))) Try.func121 (by kernel_rfl) (by kernel_rfl) (by kernel_rfl) (by kernel_rfl : F_slices_IndexFunc_i_Edge_i_Edge R a0 a1 H = _) h
def F_slices_IndexFunc_int_int (R : V → Heap → Prop) (a0 a1 : V) (H : Heap) : Prop :=
  bnd (lenOf a0) fun n1 =>
  ∃ (I2 : Nat → List V → Heap → Prop) (n3 : Nat), Shr (I2 n3 [(.int .i64 0)]) H ∧
  ∀ n4 xs6 H7, I2 n4 xs6 H7 →
  bnd (aBinN .lss (xs6.headD .any) (.int .i64 (n1 : Nat))) fun t8 =>
  cnd t8
  (bnd (aIndex H7 1 a0 (xs6.headD .any)) fun t9 =>
  bnd (aLd false 1 H7 t9) fun t10 =>
  callK P H7 a1 [t10] fun v11 H12 =>
  cnd v11
  (Ret R (xs6.headD .any) H12)
  (bnd (aBinN .add (xs6.headD .any) (.int .i64 1)) fun t13 =>
  ∃ n5, n5 < n4 ∧ Shr (I2 n5 [t13]) H12))
  (Ret R (.int .i64 (-1)) H7)
theorem W_slices_IndexFunc_int_int {R : V → Heap → Prop} {a0 a1 : V} {H : Heap} (h : F_slices_IndexFunc_int_int R a0 a1 H) : ACalls P n_slices_IndexFunc_int_int [a0, a1] H R :=
  acalls_of_form (g := ⟨[], []⟩) (x := (.seq .leaf (.seq (.seq .leaf (.block (.loop [8] (.seq .leaf (.seq (.cond .leaf .leaf) (.seq (.block (.seq .leaf (.seq .leaf (.cond (.seq .leaf .leaf) .leaf)))) .leaf)))))) (.seq .leaf .leaf)))) Try.func122 (by kernel_rfl) (by kernel_rfl) (by kernel_rfl) (by kernel_rfl : F_slices_IndexFunc_int_int R a0 a1 H = _) h
def F_math_bits_Mul (R : V → Heap → Prop) (a0 a1 : V) (H : Heap) : Prop :=
  ACalls P n_math_bits_Mul64 [a0, a1] H fun v1 H2 =>
  bnd (aExtract 0 v1) fun t3 =>
  bnd (aExtract 1 v1) fun t4 =>
  Ret R (.tup [t3, t4]) H2
theorem W_math_bits_Mul {R : V → Heap → Prop} {a0 a1 : V} {H : Heap} (h : F_math_bits_Mul R a0 a1 H) : ACalls P n_math_bits_Mul [a0, a1] H R :=
  acalls_of_form (g := ⟨[], []⟩) (x := (.seq .leaf (.seq (.cond (.seq .leaf (.seq .leaf .leaf)) .leaf) (.seq .leaf (.seq .leaf .leaf))))) Try.func123 (by kernel_rfl) (by kernel_rfl) (by kernel_rfl) (by kernel_rfl : F_math_bits_Mul R a0 a1 H = _) h
def F_math_bits_Mul32 (R : V → Heap → Prop) (a0 a1 : V) (H : Heap) : Prop :=
  bnd (aCv .u64 a0) fun t1 =>
  bnd (aCv .u64 a1) fun t2 =>
  bnd (aBinN .mul t1 t2) fun t3 =>
  bnd (aBinN .shr t3 (.int .u64 32)) fun t4 =>
  bnd (aCv .u32 t4) fun t5 =>
  bnd (aCv .u32 t3) fun t6 =>
  Ret R (.tup [t5, t6]) H
theorem W_math_bits_Mul32 {R : V → Heap → Prop} {a0 a1 : V} {H : Heap} (h : F_math_bits_Mul32 R a0 a1 H) : ACalls P n_math_bits_Mul32 [a0, a1] H R :=
  acalls_of_form (g := ⟨[], []⟩) (x := (.seq .leaf (.seq .leaf (.seq .leaf .leaf)))) Try.func125 (by kernel_rfl) (by kernel_rfl) (by kernel_rfl) (by kernel_rfl : F_math_bits_Mul32 R a0 a1 H = _) h
def F_math_bits_Mul64 (R : V → Heap → Prop) (a0 a1 : V) (H : Heap) : Prop :=
  bnd (aBinN .and a0 (.int .u64 4294967295)) fun t1 =>
  bnd (aBinN .shr a0 (.int .u64 32)) fun t2 =>
  bnd (aBinN .and a1 (.int .u64 4294967295)) fun t3 =>
  bnd (aBinN .shr a1 (.int .u64 32)) fun t4 =>
  bnd (aBinN .mul t1 t3) fun t5 =>
  bnd (aBinN .mul t2 t3) fun t6 =>
  bnd (aBinN .shr t5 (.int .u64 32)) fun t7 =>
  bnd (aBinN .add t6 t7) fun t8 =>
  bnd (aBinN .and t8 (.int .u64 4294967295)) fun t9 =>
  bnd (aBinN .shr t8 (.int .u64 32)) fun t10 =>
  bnd (aBinN .mul t1 t4) fun t11 =>
  bnd (aBinN .add t9 t11) fun t12 =>
  bnd (aBinN .mul t2 t4) fun t13 =>
  bnd (aBinN .add t13 t10) fun t14 =>
  bnd (aBinN .shr t12 (.int .u64 32)) fun t15 =>
  bnd (aBinN .add t14 t15) fun t16 =>
  bnd (aBinN .mul a0 a1) fun t17 =>
  Ret R (.tup [t16, t17]) H
theorem W_math_bits_Mul64 {R : V → Heap → Prop} {a0 a1 : V} {H : Heap} (h : F_math_bits_Mul64 R a0 a1 H) : ACalls P n_math_bits_Mul64 [a0, a1] H R :=
  acalls_of_form (g := ⟨[], []⟩) (x := (.seq .leaf (.seq .leaf (.seq .leaf (.seq .leaf (.seq .leaf (.seq .leaf (.seq .leaf (.seq .leaf (.seq .leaf (.seq .leaf (.seq .leaf (.seq .leaf .leaf))))))))))))) Try.func126 (by kernel_rfl) (by kernel_rfl) (by kernel_rfl) (by kernel_rfl : F_math_bits_Mul64 R a0 a1 H = _) h
end Go.Proofs.Ytipdfhjilegkcaa
