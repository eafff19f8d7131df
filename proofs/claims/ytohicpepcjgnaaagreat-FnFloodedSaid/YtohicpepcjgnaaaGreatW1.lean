/-
The shallow forms of the functions; printed by a program.
-/
import Derived.Test.YtohicpepcjgnaaaGreatAbs3
import Derived.Test.YtohicpepcjgnaaaGreatProg
import Derived.KernelRfl
set_option linter.all false
namespace Go.Proofs.YtohicpepcjgnaaaGreat
open Go Go.Abs Go.Proofs
set_option maxRecDepth 100000
noncomputable abbrev P : Program := Tryz.prog
abbrev n_gosem_cut_init : FuncId := 2
abbrev n_l_FnFlooded : FuncId := 3
abbrev n_l_FnDelivered : FuncId := 4
abbrev n_l_big : FuncId := 5
abbrev n_l_lived : FuncId := 6
abbrev n_i_Settle : FuncId := 7
abbrev n_s_NetOk : FuncId := 8
abbrev n_i_Agree : FuncId := 9
abbrev n_s_Agree : FuncId := 10
abbrev n_s_DrawDeliver : FuncId := 11
abbrev n_s_Deliver : FuncId := 12
abbrev n_i_Deliver : FuncId := 13
abbrev n_i_FindLsa : FuncId := 14
abbrev n_i_CostOf : FuncId := 15
abbrev n_i_Newer : FuncId := 16
abbrev n_i_Lose : FuncId := 17
abbrev n_i_Double : FuncId := 18
abbrev n_i_DbSum : FuncId := 19
abbrev n_s_DbSum : FuncId := 20
abbrev n_l_at : FuncId := 21
abbrev n_i_NewNet : FuncId := 22
abbrev n_i_SetLink : FuncId := 23
abbrev n_i_Announce : FuncId := 24
abbrev n_i_ownNet : FuncId := 25
abbrev n_i_NetOk : FuncId := 26
abbrev n_p_i_Net_deliver : FuncId := 27
abbrev n_s_GraphOk : FuncId := 28
abbrev n_s_l08Pairs : FuncId := 29
abbrev n_s_l01In : FuncId := 30
abbrev n_s_DbOk : FuncId := 31
abbrev n_s_l03Node : FuncId := 32
abbrev n_s_LsaOk : FuncId := 33
abbrev n_i_Graph_all : FuncId := 34
abbrev n_i_Db_sum : FuncId := 35
abbrev n_s_Distances : FuncId := 36
abbrev n_s_l08Draw : FuncId := 37
abbrev n_s_l08DrawPlace : FuncId := 38
abbrev n_s_l08Copy : FuncId := 39
abbrev n_s_l08Off : FuncId := 40
abbrev n_s_l03Cost : FuncId := 41
abbrev n_s_Install : FuncId := 42
abbrev n_s_l08Spread : FuncId := 43
abbrev n_s_FindLsa : FuncId := 44
abbrev n_s_l08Send : FuncId := 45
abbrev n_i_isMsg : FuncId := 46
abbrev n_i_DbOk : FuncId := 47
abbrev n_i_Db_find : FuncId := 48
abbrev n_i_ownLsa : FuncId := 49
abbrev n_i_GraphOk : FuncId := 50
abbrev n_i_Graph_cost : FuncId := 51
abbrev n_i_LsaOk : FuncId := 52
abbrev n_i_newer : FuncId := 53
abbrev n_slices_Delete_i_Msg_i_Msg : FuncId := 54
abbrev n_p_i_Net_send : FuncId := 55
abbrev n_s_LsaSum : FuncId := 56
abbrev n_i_within : FuncId := 57
abbrev n_i_Graph_isNode : FuncId := 58
abbrev n_i_Graph_setEdge : FuncId := 59
abbrev n_p_i_Net_announce : FuncId := 60
abbrev n_p_i_Net_tell : FuncId := 61
abbrev n_i_ownGraph : FuncId := 62
abbrev n_i_ownDb : FuncId := 63
abbrev n_i_isNetwork : FuncId := 64
abbrev n_slices_ContainsFunc_i_Db_i_Db : FuncId := 65
abbrev n_i_NetOk_1 : FuncId := 66
abbrev n_slices_ContainsFunc_i_Msg_i_Msg : FuncId := 67
abbrev n_i_NetOk_2 : FuncId := 68
abbrev n_p_i_Db_install : FuncId := 69
abbrev n_p_i_Net_spread : FuncId := 70
abbrev n_s_PrefixOk : FuncId := 71
abbrev n_s_l02Ahead : FuncId := 72
abbrev n_i_Graph_distances : FuncId := 73
abbrev n_i_Lsa_sum : FuncId := 74
abbrev n_s_l01New : FuncId := 75
abbrev n_s_l08DrawNet : FuncId := 76
abbrev n_s_l01Below : FuncId := 77
abbrev n_s_l01Size : FuncId := 78
abbrev n_s_l01Once : FuncId := 79
abbrev n_s_l08Bend : FuncId := 80
abbrev n_s_l01PickInt : FuncId := 81
abbrev n_s_l03Copy : FuncId := 82
abbrev n_s_l06Copy : FuncId := 83
abbrev n_s_l05Copy : FuncId := 84
abbrev n_s_Newer : FuncId := 85
abbrev n_slices_BinarySearchFunc_i_Lsa_i_Lsa_int : FuncId := 86
abbrev n_i_Db_find_1 : FuncId := 87
abbrev n_cmp_Compare_int : FuncId := 88
abbrev n_slices_Clone_i_Link_i_Link : FuncId := 89
abbrev n_slices_Clone_i_Stub_i_Stub : FuncId := 90
abbrev n_i_compareEdges : FuncId := 91
abbrev n_i_areLinks : FuncId := 92
abbrev n_i_areStubs : FuncId := 93
abbrev n_cmp_Or_int : FuncId := 94
abbrev n_i_newer_1 : FuncId := 95
abbrev n_s_LsaBytes : FuncId := 96
abbrev n_slices_DeleteFunc_i_Edge_i_Edge : FuncId := 97
abbrev n_i_Graph_setEdge_1 : FuncId := 98
abbrev n_slices_BinarySearchFunc_i_Edge_i_Edge_i_Edge : FuncId := 99
abbrev n_slices_Insert_i_Edge_i_Edge : FuncId := 100
abbrev n_slices_Clone_i_Edge_i_Edge : FuncId := 101
abbrev n_slices_ContainsFunc_i_Edge_i_Edge : FuncId := 102
abbrev n_i_isNetwork_1 : FuncId := 103
abbrev n_slices_IndexFunc_i_Db_i_Db : FuncId := 104
abbrev n_slices_IndexFunc_i_Msg_i_Msg : FuncId := 105
abbrev n_i_Db_offer : FuncId := 106
abbrev n_slices_Insert_i_Lsa_i_Lsa : FuncId := 107
abbrev n_s_l01Addr : FuncId := 108
abbrev n_s_l01Size2 : FuncId := 109
abbrev n_slices_Repeat_int_int : FuncId := 110
abbrev n_i_Lsa_bytes : FuncId := 111
abbrev n_s_NewNet : FuncId := 112
abbrev n_s_SetLink : FuncId := 113
abbrev n_s_Lose : FuncId := 114
abbrev n_s_Announce : FuncId := 115
abbrev n_s_l01Byte : FuncId := 116
abbrev n_s_l05DrawLsa : FuncId := 117
abbrev n_s_l05Bend : FuncId := 118
abbrev n_s_l05Sign : FuncId := 119
abbrev n_cmp_isNaN_int : FuncId := 120
abbrev n_i_PrefixOk : FuncId := 121
abbrev n_i_comparePrefixes : FuncId := 122
abbrev n_s_l01Join : FuncId := 123
abbrev n_s_l05Wide : FuncId := 124
abbrev n_slices_IndexFunc_i_Edge_i_Edge : FuncId := 125
abbrev n_slices_overlaps_i_Edge : FuncId := 126
abbrev n_slices_rotateRight_i_Edge : FuncId := 127
abbrev n_slices_overlaps_i_Lsa : FuncId := 128
abbrev n_slices_rotateRight_i_Lsa : FuncId := 129
abbrev n_math_bits_Mul : FuncId := 130
abbrev n_i_big : FuncId := 131
abbrev n_s_Without : FuncId := 132
abbrev n_s_l03Put : FuncId := 133
abbrev n_s_l08Tell : FuncId := 134
abbrev n_s_l05DrawLinks : FuncId := 135
abbrev n_s_l05DrawStubs : FuncId := 136
abbrev n_s_l01DrawPrefix : FuncId := 137
abbrev n_i_isAddr : FuncId := 138
abbrev n_i_Prefix_size : FuncId := 139
abbrev n_s_l01Bytes : FuncId := 140
abbrev n_slices_rotateLeft_i_Edge : FuncId := 141
abbrev n_slices_rotateLeft_i_Lsa : FuncId := 142
abbrev n_math_bits_Mul32 : FuncId := 143
abbrev n_math_bits_Mul64 : FuncId := 144
abbrev n_s_PutRoute : FuncId := 145
abbrev n_slices_Reverse_i_Edge_i_Edge : FuncId := 146
abbrev n_slices_Reverse_i_Lsa_i_Lsa : FuncId := 147
abbrev n_s_TableOk : FuncId := 148
abbrev n_s_l02Copy : FuncId := 149
abbrev n_s_l02Less : FuncId := 150
def F_l_FnFlooded (R : V → Heap → Prop) (a0 : V) (H : Heap) : Prop :=
  ACalls P n_l_big [a0] H fun v1 H2 =>
  cnd v1
  (Ret R (.bool true) H2)
  (ACalls P n_l_lived [a0, (.bool false)] H2 fun v3 H4 =>
  bnd (stz 5 [(.int .i64 0), .nils, .nils, .nils, (.int .i64 0)] 0 v3) fun c5 =>
  bnd (partOf true 5 c5 0) fun t6 =>
  ACalls P n_i_Settle [t6] H4 fun v7 H8 =>
  bnd (aExtract 0 v7) fun t9 =>
  bnd (aExtract 1 v7) fun t10 =>
  bnd (stz 5 [(.int .i64 0), .nils, .nils, .nils, (.int .i64 0)] 0 t9) fun c11 =>
  bnd (aBinN .lss t10 (.int .i64 0)) fun t12 =>
  gd t12 false
  (bnd (partOf true 5 c11 0) fun t13 =>
  ACalls P n_s_NetOk [t13] H8 fun v14 H15 =>
  bnd (aNot v14) fun t16 =>
  cnd t16
  (Ret R (.bool false) H15)
  (bnd (partOf false 1 c11 4) fun t17 =>
  bnd (aBinN .gtr t17 (.int .i64 0)) fun t18 =>
  gd t18 false
  (bnd (aBinN .geq t10 (.int .i64 5000)) fun t19 =>
  gd t19 false
  (bnd (partOf false 1 c11 3) fun t20 =>
  bnd (lenOf t20) fun n21 =>
  bnd (aBinN .eql (.int .i64 (n21 : Nat)) (.int .i64 0)) fun t22 =>
  gd3 t22 true
  (bnd (partOf true 5 c11 0) fun t23 =>
  ACalls P n_i_Agree [t23] H15 fun v24 H25 =>
  gd3 v24 true
  (bnd (partOf true 5 c11 0) fun t26 =>
  ACalls P n_s_Agree [t26] H25 fun v27 H28 =>
  Ret R v27 H28)
  (Ret R (.bool false) H25)
  (bnd (aPick (.tup []) (.tup []) (.bool false)) fun t29 =>
  Ret R t29 H25))
  (Ret R (.bool false) H15)
  (bnd (aPick (.tup []) (.tup []) (.bool false)) fun t30 =>
  gd3 t30 true
  (bnd (partOf true 5 c11 0) fun t31 =>
  ACalls P n_s_Agree [t31] H15 fun v32 H33 =>
  Ret R v32 H33)
  (Ret R (.bool false) H15)
  (bnd (aPick (.tup []) (.tup []) (.bool false)) fun t34 =>
  Ret R t34 H15)))
  (Ret R (.bool true) H15))
  (Ret R (.bool true) H15)))
  (Ret R (.bool false) H8))
theorem W_l_FnFlooded {R : V → Heap → Prop} {a0 : V} {H : Heap} (h : F_l_FnFlooded R a0 H) : ACalls P n_l_FnFlooded [a0] H R :=
  acalls_of_form (g := ⟨[3, 4], [22, 30]⟩) (x := (.seq .leaf (.seq (.seq .leaf (.cond (.seq .leaf .leaf) .leaf)) (.seq .leaf (.seq .leaf (.seq (.seq .leaf (.cond (.seq .leaf .leaf) .leaf)) (.seq .leaf .leaf))))))) Tryz.func3 (by kernel_rfl) (by kernel_rfl) (by kernel_rfl) (by kernel_rfl : F_l_FnFlooded R a0 H = _) h
def F_l_big (R : V → Heap → Prop) (a0 : V) (H : Heap) : Prop :=
  bnd (lenOf a0) fun n1 =>
  bnd (aBinN .gtr (.int .i64 (n1 : Nat)) (.int .i64 1048576)) fun t2 =>
  Ret R t2 H
theorem W_l_big {R : V → Heap → Prop} {a0 : V} {H : Heap} (h : F_l_big R a0 H) : ACalls P n_l_big [a0] H R :=
  acalls_of_form (g := ⟨[], []⟩) (x := (.seq .leaf (.seq .leaf .leaf))) Tryz.func5 (by kernel_rfl) (by kernel_rfl) (by kernel_rfl) (by kernel_rfl : F_l_big R a0 H = _) h
def F_l_lived (R : V → Heap → Prop) (a0 a1 : V) (H : Heap) : Prop :=
  ACalls P n_l_at [a0, (.int .i64 0)] H fun v1 H2 =>
  bnd (aBinN .rem v1 (.int .i64 4)) fun t3 =>
  bnd (aBinN .add (.int .i64 2) t3) fun t4 =>
  ACalls P n_i_NewNet [t4] H2 fun v5 H6 =>
  bnd (aExtract 0 v5) fun t7 =>
  bnd (aExtract 1 v5) fun t8 =>
  bnd (stz 5 [(.int .i64 0), .nils, .nils, .nils, (.int .i64 0)] 0 t7) fun c9 =>
  bnd (lenOf a0) fun n10 =>
  ∃ J11 : List V → Heap → Prop,
  (bnd (aBinN .gtr (.int .i64 (n10 : Nat)) (.int .i64 24)) fun t14 =>
  cnd t14
  (Shr (J11 [(.int .i64 24)]) H6)
  (Shr (J11 [(.int .i64 (n10 : Nat))]) H6)) ∧
  ∀ xs12 H13, J11 xs12 H13 →
  ∃ (I15 : Nat → List V → Heap → Prop) (n16 : Nat), Shr (I15 n16 [(.box [(.int .i64 0), .nils, .nils, .nils, (.int .i64 0)]), (.box c9), (.int .i64 1)]) H13 ∧
  ∀ n17 xs19 H20, I15 n17 xs19 H20 →
  bnd (aBinN .lss (xs19.tail.tail.headD .any) (xs12.headD .any)) fun t21 =>
  cnd t21
  (ACalls P n_l_at [a0, (xs19.tail.tail.headD .any)] H20 fun v22 H23 =>
  bnd (aBinN .rem v22 (.int .i64 7)) fun t24 =>
  ∃ J25 : List V → Heap → Prop,
  (bnd (aBinN .eql t24 (.int .i64 0)) fun t28 =>
  cnd t28
  (Shr (J25 [t28]) H23)
  (bnd (aBinN .eql t24 (.int .i64 1)) fun t29 =>
  cnd t29
  (Shr (J25 [t29]) H23)
  (bnd (aBinN .eql t24 (.int .i64 2)) fun t30 =>
  Shr (J25 [t30]) H23))) ∧
  ∀ xs26 H27, J25 xs26 H27 →
  cnd (xs26.headD .any)
  (bnd (aBinN .rem v22 t4) fun t31 =>
  ∃ S32, Abs.sub S32 H27 ∧
  bnd (partOf true 5 (bc (xs19.tail.headD .any)) 0) fun t33 =>
  bnd (aBinN .add t31 (.int .i64 1)) fun t34 =>
  bnd (aBinN .quo v22 (.int .i64 7)) fun t35 =>
  bnd (aBinN .sub t4 (.int .i64 1)) fun t36 =>
  bnd (aBinN .rem t35 t36) fun t37 =>
  bnd (aBinN .add t34 t37) fun t38 =>
  bnd (aBinN .rem t38 t4) fun t39 =>
  bnd (aBinN .rem v22 (.int .i64 4)) fun t40 =>
  ACalls P n_i_SetLink [t33, t31, t39, t40] H27 fun v41 H42 =>
  Abs.sub S32 H42 ∧
  bnd (aExtract 0 v41) fun t43 =>
  bnd (aExtract 1 v41) fun t44 =>
  bnd (stz 5 (bc (xs19.tail.headD .any)) 0 t43) fun c45 =>
  bnd (aBinN .add (xs19.tail.tail.headD .any) (.int .i64 1)) fun t46 =>
  ∃ n18, n18 < n17 ∧ Shr (I15 n18 [(.box (bc (xs19.headD .any))), (.box c45), t46]) H42)
  (bnd (aBinN .eql t24 (.int .i64 3)) fun t47 =>
  cnd t47
  (∃ S48, Abs.sub S48 H27 ∧
  bnd (partOf true 5 (bc (xs19.tail.headD .any)) 0) fun t49 =>
  bnd (aBinN .rem v22 t4) fun t50 =>
  ACalls P n_i_Announce [t49, t50] H27 fun v51 H52 =>
  Abs.sub S48 H52 ∧
  bnd (aExtract 0 v51) fun t53 =>
  bnd (aExtract 1 v51) fun t54 =>
  bnd (stz 5 (bc (xs19.tail.headD .any)) 0 t53) fun c55 =>
  bnd (aBinN .add (xs19.tail.tail.headD .any) (.int .i64 1)) fun t56 =>
  ∃ n18, n18 < n17 ∧ Shr (I15 n18 [(.box (bc (xs19.headD .any))), (.box c55), t56]) H52)
  (bnd (aBinN .eql t24 (.int .i64 4)) fun t57 =>
  cnd t57
  (gd a1 true
  (bnd (partOf false 1 (bc (xs19.tail.headD .any)) 3) fun t58 =>
  bnd (lenOf t58) fun n59 =>
  bnd (aBinN .gtr (.int .i64 (n59 : Nat)) (.int .i64 0)) fun t60 =>
  cnd t60
  (∃ S61, Abs.sub S61 H27 ∧
  bnd (partOf true 5 (bc (xs19.tail.headD .any)) 0) fun t62 =>
  bnd (partOf false 1 (bc (xs19.tail.headD .any)) 3) fun t63 =>
  bnd (lenOf t63) fun n64 =>
  bnd (aBinN .rem v22 (.int .i64 (n64 : Nat))) fun t65 =>
  ACalls P n_i_Lose [t62, t65] H27 fun v66 H67 =>
  Abs.sub S61 H67 ∧
  bnd (aExtract 0 v66) fun t68 =>
  bnd (aExtract 1 v66) fun t69 =>
  bnd (stz 5 (bc (xs19.tail.headD .any)) 0 t68) fun c70 =>
  bnd (aBinN .add (xs19.tail.tail.headD .any) (.int .i64 1)) fun t71 =>
  ∃ n18, n18 < n17 ∧ Shr (I15 n18 [(.box (bc (xs19.headD .any))), (.box c70), t71]) H67)
  (bnd (aBinN .add (xs19.tail.tail.headD .any) (.int .i64 1)) fun t72 =>
  ∃ n18, n18 < n17 ∧ Shr (I15 n18 [(.box (bc (xs19.headD .any))), (.box (bc (xs19.tail.headD .any))), t72]) H27))
  (bnd (aBinN .add (xs19.tail.tail.headD .any) (.int .i64 1)) fun t73 =>
  ∃ n18, n18 < n17 ∧ Shr (I15 n18 [(.box (bc (xs19.headD .any))), (.box (bc (xs19.tail.headD .any))), t73]) H27))
  (bnd (aBinN .eql t24 (.int .i64 5)) fun t74 =>
  cnd t74
  (bnd (partOf false 1 (bc (xs19.tail.headD .any)) 3) fun t75 =>
  bnd (lenOf t75) fun n76 =>
  bnd (aBinN .gtr (.int .i64 (n76 : Nat)) (.int .i64 0)) fun t77 =>
  gd t77 true
  (bnd (partOf false 1 (bc (xs19.tail.headD .any)) 3) fun t78 =>
  bnd (lenOf t78) fun n79 =>
  bnd (aBinN .lss (.int .i64 (n79 : Nat)) (.int .i64 300)) fun t80 =>
  cnd t80
  (∃ S81, Abs.sub S81 H27 ∧
  bnd (partOf true 5 (bc (xs19.tail.headD .any)) 0) fun t82 =>
  bnd (partOf false 1 (bc (xs19.tail.headD .any)) 3) fun t83 =>
  bnd (lenOf t83) fun n84 =>
  bnd (aBinN .rem v22 (.int .i64 (n84 : Nat))) fun t85 =>
  ACalls P n_i_Double [t82, t85] H27 fun v86 H87 =>
  Abs.sub S81 H87 ∧
  bnd (aExtract 0 v86) fun t88 =>
  bnd (aExtract 1 v86) fun t89 =>
  bnd (stz 5 (bc (xs19.tail.headD .any)) 0 t88) fun c90 =>
  bnd (aBinN .add (xs19.tail.tail.headD .any) (.int .i64 1)) fun t91 =>
  ∃ n18, n18 < n17 ∧ Shr (I15 n18 [(.box (bc (xs19.headD .any))), (.box c90), t91]) H87)
  (bnd (aBinN .add (xs19.tail.tail.headD .any) (.int .i64 1)) fun t92 =>
  ∃ n18, n18 < n17 ∧ Shr (I15 n18 [(.box (bc (xs19.headD .any))), (.box (bc (xs19.tail.headD .any))), t92]) H27))
  (bnd (aBinN .add (xs19.tail.tail.headD .any) (.int .i64 1)) fun t93 =>
  ∃ n18, n18 < n17 ∧ Shr (I15 n18 [(.box (bc (xs19.headD .any))), (.box (bc (xs19.tail.headD .any))), t93]) H27))
  (bnd (aBinN .eql t24 (.int .i64 6)) fun t94 =>
  cnd t94
  (∃ (I95 : Nat → List V → Heap → Prop) (n96 : Nat), Shr (I95 n96 [(.box (bc (xs19.headD .any))), (.box (bc (xs19.tail.headD .any))), (.int .i64 0)]) H27 ∧
  ∀ n97 xs99 H100, I95 n97 xs99 H100 →
  bnd (aBinN .lss (xs99.tail.tail.headD .any) (.int .i64 5)) fun t101 =>
  gd t101 true
  (bnd (partOf false 1 (bc (xs99.tail.headD .any)) 3) fun t102 =>
  bnd (lenOf t102) fun n103 =>
  bnd (aBinN .gtr (.int .i64 (n103 : Nat)) (.int .i64 0)) fun t104 =>
  cnd t104
  (∃ S105, Abs.sub S105 H100 ∧
  bnd (partOf true 5 (bc (xs99.tail.headD .any)) 0) fun t106 =>
  bnd (aBinN .add v22 (xs99.tail.tail.headD .any)) fun t107 =>
  bnd (partOf false 1 (bc (xs99.tail.headD .any)) 3) fun t108 =>
  bnd (lenOf t108) fun n109 =>
  bnd (aBinN .rem t107 (.int .i64 (n109 : Nat))) fun t110 =>
  ACalls P n_i_Deliver [t106, t110] H100 fun v111 H112 =>
  Abs.sub S105 H112 ∧
  bnd (aExtract 0 v111) fun t113 =>
  bnd (aExtract 1 v111) fun t114 =>
  bnd (stz 5 (bc (xs99.tail.headD .any)) 0 t113) fun c115 =>
  bnd (aBinN .add (xs99.tail.tail.headD .any) (.int .i64 1)) fun t116 =>
  ∃ n98, n98 < n97 ∧ Shr (I95 n98 [(.box (bc (xs99.headD .any))), (.box c115), t116]) H112)
  (bnd (aBinN .add (xs19.tail.tail.headD .any) (.int .i64 1)) fun t117 =>
  ∃ n18, n18 < n17 ∧ Shr (I15 n18 [(.box (bc (xs99.headD .any))), (.box (bc (xs99.tail.headD .any))), t117]) H100))
  (bnd (aBinN .add (xs19.tail.tail.headD .any) (.int .i64 1)) fun t118 =>
  ∃ n18, n18 < n17 ∧ Shr (I15 n18 [(.box (bc (xs99.headD .any))), (.box (bc (xs99.tail.headD .any))), t118]) H100))
  (bnd (aBinN .add (xs19.tail.tail.headD .any) (.int .i64 1)) fun t119 =>
  ∃ n18, n18 < n17 ∧ Shr (I15 n18 [(.box (bc (xs19.headD .any))), (.box (bc (xs19.tail.headD .any))), t119]) H27))))))
  (bnd (partOf true 5 (bc (xs19.tail.headD .any)) 0) fun t120 =>
  bnd (stz 5 (bc (xs19.headD .any)) 0 t120) fun c121 =>
  bnd (partOf true 5 c121 0) fun t122 =>
  Ret R t122 H20)
theorem W_l_lived {R : V → Heap → Prop} {a0 a1 : V} {H : Heap} (h : F_l_lived R a0 a1 H) : ACalls P n_l_lived [a0, a1] H R :=
  acalls_of_form (g := ⟨[4, 6], [75, 83, 92, 97, 105, 117, 129]⟩) (x := (.seq .leaf (.seq .leaf (.seq .leaf (.seq .leaf (.seqc (.seq .leaf (.cond .leaf .leaf)) (.seq (.seq .leaf (.block (.loop [4, 6, 9] (.seq (.seq .leaf (.cond .leaf .leaf)) (.seq (.block (.seq .leaf (.seq .leaf (.block (.seqc (.seq .leaf (.cond .leaf (.seq .leaf (.cond .leaf .leaf)))) (.cond (.seq .leaf (.draw [0, 1, 2, 3, 4, 5, 6, 7, 8, 9, 10, 11, 12, 13, 14, 15, 16, 17, 18])) (.seq .leaf (.cond (.draw [0, 1, 2, 3, 4, 5, 6, 7, 8]) (.seq .leaf (.cond (.seq .leaf (.cond (.draw [0, 1, 2, 3, 4, 5, 6, 7, 8, 9, 10]) .leaf)) (.seq .leaf (.cond (.seq .leaf (.cond (.draw [0, 1, 2, 3, 4, 5, 6, 7, 8, 9, 10]) .leaf)) (.seq .leaf (.cond (.seq .leaf (.block (.loop [4, 6, 12] (.seq (.seq .leaf (.cond .leaf .leaf)) (.seq (.block (.draw [0, 1, 2, 3, 4, 5, 6, 7, 8, 9, 10, 11, 12])) .leaf))))) .leaf))))))))) [36]))))) .leaf))))) (.seq .leaf .leaf)) [8])))))) Tryz.func6 (by kernel_rfl) (by kernel_rfl) (by kernel_rfl) (by kernel_rfl : F_l_lived R a0 a1 H = _) h
def F_i_Settle (R : V → Heap → Prop) (a0 : V) (H : Heap) : Prop :=
  boxK a0 (bnd (partOf true 5 (cellsOf a0) 0) fun t1 =>
  ACalls P n_i_ownNet [t1] H fun v2 H3 =>
  ∀ o4, H3 o4 = none →
  bnd (aSt 5 (upd H3 o4 ⟨5, [[(.int .i64 0), .nils, .nils, .nils, (.int .i64 0)]]⟩) (.ptr o4 0 0) v2) fun H5 =>
  bnd (partOf true 5 (cellsOf a0) 0) fun t6 =>
  ACalls P n_i_NetOk [t6] H5 fun v7 H8 =>
  bnd (aNot v7) fun t9 =>
  cnd t9
  (bnd (aLd true 5 H8 (.ptr o4 0 0)) fun t10 =>
  bnd (stz 5 [(.int .i64 0), .nils, .nils, .nils, (.int .i64 0)] 0 t10) fun c11 =>
  bnd (partOf true 5 c11 0) fun t12 =>
  Ret R (.tup [t12, (.int .i64 (-1))]) H8)
  (∃ (I13 : Nat → List V → Heap → Prop) (n14 : Nat), Shr (I13 n14 [(.int .i64 0)]) H8 ∧
  ∀ n15 xs17 H18, I13 n15 xs17 H18 →
  bnd (aField 3 (.ptr o4 0 0)) fun t19 =>
  bnd (aLd false 1 H18 t19) fun t20 =>
  bnd (lenOf t20) fun n21 =>
  bnd (aBinN .gtr (.int .i64 (n21 : Nat)) (.int .i64 0)) fun t22 =>
  gd t22 true
  (bnd (aBinN .lss (xs17.headD .any) (.int .i64 5000)) fun t23 =>
  cnd t23
  (ACalls P n_p_i_Net_deliver [(.ptr o4 0 0), (.int .i64 0)] H18 fun v24 H25 =>
  bnd (aBinN .add (xs17.headD .any) (.int .i64 1)) fun t26 =>
  ∃ n16, n16 < n15 ∧ Shr (I13 n16 [t26]) H25)
  (bnd (aLd true 5 H18 (.ptr o4 0 0)) fun t27 =>
  ACalls P n_i_ownNet [t27] H18 fun v28 H29 =>
  bnd (stz 5 [(.int .i64 0), .nils, .nils, .nils, (.int .i64 0)] 0 v28) fun c30 =>
  bnd (partOf true 5 c30 0) fun t31 =>
  Ret R (.tup [t31, (xs17.headD .any)]) H29))
  (bnd (aLd true 5 H18 (.ptr o4 0 0)) fun t32 =>
  ACalls P n_i_ownNet [t32] H18 fun v33 H34 =>
  bnd (stz 5 [(.int .i64 0), .nils, .nils, .nils, (.int .i64 0)] 0 v33) fun c35 =>
  bnd (partOf true 5 c35 0) fun t36 =>
  Ret R (.tup [t36, (xs17.headD .any)]) H34)))
theorem W_i_Settle {R : V → Heap → Prop} {a0 : V} {H : Heap} (h : F_i_Settle R a0 H) : ACalls P n_i_Settle [a0] H R :=
  acalls_of_form (g := ⟨[1, 2], []⟩) (x := (.seq .leaf (.seq .leaf (.seq (.seq .leaf (.cond (.seq .leaf .leaf) .leaf)) (.seq .leaf (.seq (.block (.loop [5] (.seq (.seq .leaf (.cond .leaf .leaf)) (.block (.seq .leaf .leaf))))) (.seq .leaf .leaf))))))) Tryz.func7 (by kernel_rfl) (by kernel_rfl) (by kernel_rfl) (by kernel_rfl : F_i_Settle R a0 H = _) h
def F_s_NetOk (R : V → Heap → Prop) (a0 : V) (H : Heap) : Prop :=
  boxK a0 (bnd (partOf true 2 (cellsOf a0) 0) fun t1 =>
  ACalls P n_s_GraphOk [t1] H fun v2 H3 =>
  bnd (aNot v2) fun t4 =>
  gd t4 false
  (bnd (partOf false 1 (cellsOf a0) 0) fun t5 =>
  bnd (aBinN .gtr t5 (.int .i64 6)) fun t6 =>
  gd t6 false
  (bnd (partOf true 2 (cellsOf a0) 0) fun t7 =>
  ACalls P n_s_l08Pairs [t7] H3 fun v8 H9 =>
  bnd (aNot v8) fun t10 =>
  gd t10 false
  (bnd (partOf false 1 (cellsOf a0) 2) fun t11 =>
  bnd (lenOf t11) fun n12 =>
  bnd (partOf false 1 (cellsOf a0) 0) fun t13 =>
  bnd (aBinN .neq (.int .i64 (n12 : Nat)) t13) fun t14 =>
  gd t14 false
  (bnd (partOf false 1 (cellsOf a0) 3) fun t15 =>
  bnd (lenOf t15) fun n16 =>
  bnd (aBinN .gtr (.int .i64 (n16 : Nat)) (.int .i64 400)) fun t17 =>
  gd t17 false
  (bnd (partOf false 1 (cellsOf a0) 4) fun t18 =>
  ACalls P n_s_l01In [t18, (.int .i64 0), (.int .i64 1000000)] H9 fun v19 H20 =>
  bnd (aNot v19) fun t21 =>
  cnd t21
  (Ret R (.bool false) H20)
  (∃ (I22 : Nat → List V → Heap → Prop) (n23 : Nat), Shr (I22 n23 [(.int .i64 0)]) H20 ∧
  ∀ n24 xs26 H27, I22 n24 xs26 H27 →
  bnd (partOf false 1 (cellsOf a0) 2) fun t28 =>
  bnd (lenOf t28) fun n29 =>
  bnd (aBinN .lss (xs26.headD .any) (.int .i64 (n29 : Nat))) fun t30 =>
  cnd t30
  (bnd (partOf false 1 (cellsOf a0) 2) fun t31 =>
  bnd (aIndex H27 1 t31 (xs26.headD .any)) fun t32 =>
  bnd (aLd true 1 H27 t32) fun t33 =>
  ACalls P n_s_DbOk [t33] H27 fun v34 H35 =>
  bnd (aNot v34) fun t36 =>
  cnd t36
  (Ret R (.bool false) H35)
  (bnd (aBinN .add (xs26.headD .any) (.int .i64 1)) fun t37 =>
  ∃ n25, n25 < n24 ∧ Shr (I22 n25 [t37]) H35))
  (∃ (I38 : Nat → List V → Heap → Prop) (n39 : Nat), Shr (I38 n39 [(.box (cellsOf a0)), (.int .i64 0)]) H27 ∧
  ∀ n40 xs42 H43, I38 n40 xs42 H43 →
  bnd (partOf false 1 (bc (xs42.headD .any)) 3) fun t44 =>
  bnd (lenOf t44) fun n45 =>
  bnd (aBinN .lss (xs42.tail.headD .any) (.int .i64 (n45 : Nat))) fun t46 =>
  cnd t46
  (bnd (partOf false 1 (bc (xs42.headD .any)) 3) fun t47 =>
  bnd (aIndex H43 7 t47 (xs42.tail.headD .any)) fun t48 =>
  bnd (aLd true 7 H43 t48) fun t49 =>
  bnd (stz 7 [(.int .i64 0), (.int .i64 0), (.int .i64 0), (.int .i64 0), (.int .i64 0), .nils, .nils] 0 t49) fun c50 =>
  bnd (partOf true 2 (bc (xs42.headD .any)) 0) fun t51 =>
  bnd (partOf false 1 c50 0) fun t52 =>
  ACalls P n_s_l03Node [t51, t52] H43 fun v53 H54 =>
  bnd (aNot v53) fun t55 =>
  gd t55 false
  (bnd (partOf true 2 (bc (xs42.headD .any)) 0) fun t56 =>
  bnd (partOf false 1 c50 1) fun t57 =>
  ACalls P n_s_l03Node [t56, t57] H54 fun v58 H59 =>
  bnd (aNot v58) fun t60 =>
  gd t60 false
  (bnd (partOf false 1 c50 0) fun t61 =>
  bnd (partOf false 1 c50 1) fun t62 =>
  bnd (aBinN .eql t61 t62) fun t63 =>
  gd t63 false
  (bnd (partOf true 5 c50 2) fun t64 =>
  ACalls P n_s_LsaOk [t64] H59 fun v65 H66 =>
  bnd (aNot v65) fun t67 =>
  cnd t67
  (Ret R (.bool false) H66)
  (bnd (aBinN .add (xs42.tail.headD .any) (.int .i64 1)) fun t68 =>
  ∃ n41, n41 < n40 ∧ Shr (I38 n41 [(.box (bc (xs42.headD .any))), t68]) H66))
  (Ret R (.bool false) H59))
  (Ret R (.bool false) H59))
  (Ret R (.bool false) H54))
  (Ret R (.bool true) H43))))
  (Ret R (.bool false) H9))
  (Ret R (.bool false) H9))
  (Ret R (.bool false) H9))
  (Ret R (.bool false) H3))
  (Ret R (.bool false) H3))
theorem W_s_NetOk {R : V → Heap → Prop} {a0 : V} {H : Heap} (h : F_s_NetOk R a0 H) : ACalls P n_s_NetOk [a0] H R :=
  acalls_of_form (g := ⟨[1, 5], [6, 11, 12, 17, 23, 26, 27, 32, 38, 44, 50, 58, 64, 69, 71, 76, 78, 84, 86, 91]⟩) (x := (.seq .leaf (.seq (.seq .leaf (.cond (.seq .leaf .leaf) .leaf)) (.seq (.seq .leaf (.block (.loop [3] (.seq (.seq .leaf (.cond .leaf .leaf)) (.seq (.block (.seq .leaf (.cond (.seq .leaf .leaf) .leaf))) .leaf))))) (.seq (.seq .leaf (.block (.loop [1, 4] (.seq (.seq .leaf (.cond .leaf .leaf)) (.seq (.block (.seq .leaf (.seq .leaf (.cond (.seq .leaf .leaf) .leaf)))) .leaf))))) (.seq .leaf .leaf)))))) Tryz.func8 (by kernel_rfl) (by kernel_rfl) (by kernel_rfl) (by kernel_rfl : F_s_NetOk R a0 H = _) h
def F_i_Agree (R : V → Heap → Prop) (a0 : V) (H : Heap) : Prop :=
  boxK a0 (bnd (partOf true 5 (cellsOf a0) 0) fun t1 =>
  ACalls P n_i_NetOk [t1] H fun v2 H3 =>
  bnd (aNot v2) fun t4 =>
  cnd t4
  (Ret R (.bool false) H3)
  (bnd (partOf true 2 (cellsOf a0) 0) fun t5 =>
  ACalls P n_i_Graph_all [t5] H3 fun v6 H7 =>
  bnd (partOf false 1 (cellsOf a0) 2) fun t8 =>
  bnd (lenOf t8) fun n9 =>
  ∃ (I10 : Nat → List V → Heap → Prop) (n11 : Nat), Shr (I10 n11 [(.int .i64 0)]) H7 ∧
  ∀ n12 xs14 H15, I10 n12 xs14 H15 →
  bnd (aBinN .lss (xs14.headD .any) (.int .i64 (n9 : Nat))) fun t16 =>
  cnd t16
  (∃ (I17 : Nat → List V → Heap → Prop) (n18 : Nat), Shr (I17 n18 [(.int .i64 0)]) H15 ∧
  ∀ n19 xs21 H22, I17 n19 xs21 H22 →
  bnd (aBinN .lss (xs21.headD .any) (xs14.headD .any)) fun t23 =>
  cnd t23
  (∃ S24, Abs.sub S24 H22 ∧
  bnd (aIndex S24 1 v6 (xs14.headD .any)) fun t25 =>
  bnd (aLd false 1 S24 t25) fun t26 =>
  bnd (aIndex S24 1 t26 (xs21.headD .any)) fun t27 =>
  bnd (aLd false 1 S24 t27) fun t28 =>
  bnd (aBinN .lss t28 (.int .i64 1000000)) fun t29 =>
  gd t29 true
  (bnd (partOf false 1 (cellsOf a0) 2) fun t30 =>
  bnd (aIndex S24 1 t30 (xs14.headD .any)) fun t31 =>
  bnd (aLd true 1 S24 t31) fun t32 =>
  bnd (partOf false 1 (cellsOf a0) 2) fun t33 =>
  bnd (aIndex S24 1 t33 (xs21.headD .any)) fun t34 =>
  bnd (aLd true 1 S24 t34) fun t35 =>
  ACalls P n_i_Db_sum [t32] H22 fun v36 H37 =>
  Abs.sub S24 H37 ∧
  ACalls P n_i_Db_sum [t35] H37 fun v38 H39 =>
  Abs.sub S24 H39 ∧
  bnd (aBinN .neq v36 v38) fun t40 =>
  gd3 t40 false
  (bnd (partOf false 1 (cellsOf a0) 2) fun t41 =>
  bnd (aIndex S24 1 t41 (xs14.headD .any)) fun t42 =>
  bnd (aField 0 t42) fun t43 =>
  bnd (aLd false 1 S24 t43) fun t44 =>
  bnd (lenOf t44) fun n45 =>
  bnd (partOf false 1 (cellsOf a0) 2) fun t46 =>
  bnd (aIndex S24 1 t46 (xs21.headD .any)) fun t47 =>
  bnd (aField 0 t47) fun t48 =>
  bnd (aLd false 1 S24 t48) fun t49 =>
  bnd (lenOf t49) fun n50 =>
  bnd (aBinN .neq (.int .i64 (n45 : Nat)) (.int .i64 (n50 : Nat))) fun t51 =>
  cnd t51
  (Ret R (.bool false) H39)
  (bnd (aBinN .add (xs21.headD .any) (.int .i64 1)) fun t52 =>
  ∃ n20, n20 < n19 ∧ Shr (I17 n20 [t52]) H39))
  (Ret R (.bool false) H39)
  (bnd (aPick (.tup []) (.bool true) (.tup [])) fun t53 =>
  cnd t53
  (Ret R (.bool false) H39)
  (bnd (aBinN .add (xs21.headD .any) (.int .i64 1)) fun t54 =>
  ∃ n20, n20 < n19 ∧ Shr (I17 n20 [t54]) H39)))
  (bnd (aBinN .add (xs21.headD .any) (.int .i64 1)) fun t55 =>
  ∃ n20, n20 < n19 ∧ Shr (I17 n20 [t55]) H22))
  (bnd (aBinN .add (xs14.headD .any) (.int .i64 1)) fun t56 =>
  ∃ n13, n13 < n12 ∧ Shr (I10 n13 [t56]) H22))
  (Ret R (.bool true) H15)))
theorem W_i_Agree {R : V → Heap → Prop} {a0 : V} {H : Heap} (h : F_i_Agree R a0 H) : ACalls P n_i_Agree [a0] H R :=
  acalls_of_form (g := ⟨[1], [9, 12, 31, 37, 45, 52]⟩) (x := (.seq .leaf (.seq (.seq .leaf (.cond (.seq .leaf .leaf) .leaf)) (.seq .leaf (.seq (.seq .leaf (.block (.loop [15] (.seq .leaf (.seq (.cond .leaf .leaf) (.seq (.block (.seq .leaf (.seq .leaf (.block (.loop [19] (.seq .leaf (.seq (.cond .leaf .leaf) (.seq (.block (.seq .leaf (.seq (.draw [0, 1, 2, 3, 4, 5, 6, 7, 8, 9, 10, 11, 12, 13, 15, 16, 17, 18, 19, 14, 20, 21, 22, 23, 24, 25, 26, 27, 28, 29, 30, 31, 32, 33, 34, 35, 36, 37, 38, 39]) (.cond (.seq .leaf .leaf) .leaf)))) .leaf)))))))) .leaf)))))) (.seq .leaf .leaf)))))) Tryz.func9 (by kernel_rfl) (by kernel_rfl) (by kernel_rfl) (by kernel_rfl : F_i_Agree R a0 H = _) h
def F_s_Agree (R : V → Heap → Prop) (a0 : V) (H : Heap) : Prop :=
  boxK a0 (bnd (partOf true 5 (cellsOf a0) 0) fun t1 =>
  ACalls P n_s_NetOk [t1] H fun v2 H3 =>
  bnd (aNot v2) fun t4 =>
  cnd t4
  (Ret R (.bool false) H3)
  (∃ (I5 : Nat → List V → Heap → Prop) (n6 : Nat), Shr (I5 n6 [(.int .i64 0)]) H3 ∧
  ∀ n7 xs9 H10, I5 n7 xs9 H10 →
  bnd (partOf false 1 (cellsOf a0) 0) fun t11 =>
  bnd (aBinN .lss (xs9.headD .any) t11) fun t12 =>
  cnd t12
  (bnd (partOf true 2 (cellsOf a0) 0) fun t13 =>
  ACalls P n_s_Distances [t13, (xs9.headD .any)] H10 fun v14 H15 =>
  ∃ (I16 : Nat → List V → Heap → Prop) (n17 : Nat), Shr (I16 n17 [(.int .i64 0)]) H15 ∧
  ∀ n18 xs20 H21, I16 n18 xs20 H21 →
  bnd (partOf false 1 (cellsOf a0) 0) fun t22 =>
  bnd (aBinN .lss (xs20.headD .any) t22) fun t23 =>
  cnd t23
  (∃ S24, Abs.sub S24 H21 ∧
  bnd (aIndex S24 1 v14 (xs20.headD .any)) fun t25 =>
  bnd (aLd false 1 S24 t25) fun t26 =>
  bnd (aBinN .lss t26 (.int .i64 1000000)) fun t27 =>
  gd t27 true
  (bnd (partOf false 1 (cellsOf a0) 2) fun t28 =>
  bnd (aIndex S24 1 t28 (xs9.headD .any)) fun t29 =>
  bnd (aLd true 1 S24 t29) fun t30 =>
  bnd (partOf false 1 (cellsOf a0) 2) fun t31 =>
  bnd (aIndex S24 1 t31 (xs20.headD .any)) fun t32 =>
  bnd (aLd true 1 S24 t32) fun t33 =>
  ACalls P n_s_DbSum [t30] H21 fun v34 H35 =>
  Abs.sub S24 H35 ∧
  ACalls P n_s_DbSum [t33] H35 fun v36 H37 =>
  Abs.sub S24 H37 ∧
  bnd (aBinN .neq v34 v36) fun t38 =>
  gd3 t38 false
  (bnd (partOf false 1 (cellsOf a0) 2) fun t39 =>
  bnd (aIndex S24 1 t39 (xs9.headD .any)) fun t40 =>
  bnd (aField 0 t40) fun t41 =>
  bnd (aLd false 1 S24 t41) fun t42 =>
  bnd (lenOf t42) fun n43 =>
  bnd (partOf false 1 (cellsOf a0) 2) fun t44 =>
  bnd (aIndex S24 1 t44 (xs20.headD .any)) fun t45 =>
  bnd (aField 0 t45) fun t46 =>
  bnd (aLd false 1 S24 t46) fun t47 =>
  bnd (lenOf t47) fun n48 =>
  bnd (aBinN .neq (.int .i64 (n43 : Nat)) (.int .i64 (n48 : Nat))) fun t49 =>
  cnd t49
  (Ret R (.bool false) H37)
  (bnd (aBinN .add (xs20.headD .any) (.int .i64 1)) fun t50 =>
  ∃ n19, n19 < n18 ∧ Shr (I16 n19 [t50]) H37))
  (Ret R (.bool false) H37)
  (bnd (aPick (.tup []) (.bool true) (.tup [])) fun t51 =>
  cnd t51
  (Ret R (.bool false) H37)
  (bnd (aBinN .add (xs20.headD .any) (.int .i64 1)) fun t52 =>
  ∃ n19, n19 < n18 ∧ Shr (I16 n19 [t52]) H37)))
  (bnd (aBinN .add (xs20.headD .any) (.int .i64 1)) fun t53 =>
  ∃ n19, n19 < n18 ∧ Shr (I16 n19 [t53]) H21))
  (bnd (aBinN .add (xs9.headD .any) (.int .i64 1)) fun t54 =>
  ∃ n8, n8 < n7 ∧ Shr (I5 n8 [t54]) H21))
  (Ret R (.bool true) H10)))
theorem W_s_Agree {R : V → Heap → Prop} {a0 : V} {H : Heap} (h : F_s_Agree R a0 H) : ACalls P n_s_Agree [a0] H R :=
  acalls_of_form (g := ⟨[1], [10, 11, 16, 21, 22, 33, 39, 47, 54]⟩) (x := (.seq .leaf (.seq (.seq .leaf (.cond (.seq .leaf .leaf) .leaf)) (.seq (.seq .leaf (.block (.loop [3] (.seq (.seq .leaf (.cond .leaf .leaf)) (.seq (.block (.seq .leaf (.seq .leaf (.block (.loop [5] (.seq (.seq .leaf (.cond .leaf .leaf)) (.seq (.block (.seq (.draw [0, 1, 2, 3, 4, 5, 6, 7, 8, 9, 10, 12, 13, 14, 15, 16, 11, 17, 18, 19, 20, 21, 22, 23, 24, 25, 26, 27, 28, 29, 30, 31, 32, 33, 34, 35, 36]) (.cond (.seq .leaf .leaf) .leaf))) .leaf))))))) .leaf))))) (.seq .leaf .leaf))))) Tryz.func10 (by kernel_rfl) (by kernel_rfl) (by kernel_rfl) (by kernel_rfl : F_s_Agree R a0 H = _) h
def F_i_Deliver (R : V → Heap → Prop) (a0 a1 : V) (H : Heap) : Prop :=
  boxK a0 (bnd (partOf true 5 (cellsOf a0) 0) fun t1 =>
  ACalls P n_i_ownNet [t1] H fun v2 H3 =>
  ∀ o4, H3 o4 = none →
  bnd (aSt 5 (upd H3 o4 ⟨5, [[(.int .i64 0), .nils, .nils, .nils, (.int .i64 0)]]⟩) (.ptr o4 0 0) v2) fun H5 =>
  bnd (partOf true 5 (cellsOf a0) 0) fun t6 =>
  ACalls P n_i_isMsg [t6, a1] H5 fun v7 H8 =>
  bnd (aNot v7) fun t9 =>
  cnd t9
  (bnd (aLd true 5 H8 (.ptr o4 0 0)) fun t10 =>
  bnd (stz 5 [(.int .i64 0), .nils, .nils, .nils, (.int .i64 0)] 0 t10) fun c11 =>
  bnd (partOf true 5 c11 0) fun t12 =>
  Ret R (.tup [t12, (.bool false)]) H8)
  (ACalls P n_p_i_Net_deliver [(.ptr o4 0 0), a1] H8 fun v13 H14 =>
  bnd (aLd true 5 H14 (.ptr o4 0 0)) fun t15 =>
  ACalls P n_i_ownNet [t15] H14 fun v16 H17 =>
  bnd (stz 5 [(.int .i64 0), .nils, .nils, .nils, (.int .i64 0)] 0 v16) fun c18 =>
  bnd (partOf true 5 c18 0) fun t19 =>
  Ret R (.tup [t19, (.bool true)]) H17))
theorem W_i_Deliver {R : V → Heap → Prop} {a0 a1 : V} {H : Heap} (h : F_i_Deliver R a0 a1 H) : ACalls P n_i_Deliver [a0, a1] H R :=
  acalls_of_form (g := ⟨[2, 4], []⟩) (x := (.seq .leaf (.seq .leaf (.seq (.seq .leaf (.cond (.seq .leaf .leaf) .leaf)) (.seq .leaf (.seq .leaf .leaf)))))) Tryz.func13 (by kernel_rfl) (by kernel_rfl) (by kernel_rfl) (by kernel_rfl : F_i_Deliver R a0 a1 H = _) h
def F_i_Lose (R : V → Heap → Prop) (a0 a1 : V) (H : Heap) : Prop :=
  boxK a0 (bnd (partOf true 5 (cellsOf a0) 0) fun t1 =>
  ACalls P n_i_ownNet [t1] H fun v2 H3 =>
  bnd (stz 5 [(.int .i64 0), .nils, .nils, .nils, (.int .i64 0)] 0 v2) fun c4 =>
  bnd (partOf true 5 (cellsOf a0) 0) fun t5 =>
  ACalls P n_i_isMsg [t5, a1] H3 fun v6 H7 =>
  bnd (aNot v6) fun t8 =>
  cnd t8
  (bnd (partOf true 5 c4 0) fun t9 =>
  bnd (stz 5 [(.int .i64 0), .nils, .nils, .nils, (.int .i64 0)] 0 t9) fun c10 =>
  bnd (partOf true 5 c10 0) fun t11 =>
  Ret R (.tup [t11, (.bool false)]) H7)
  (bnd (partOf false 1 c4 3) fun t12 =>
  bnd (aBinN .add a1 (.int .i64 1)) fun t13 =>
  ACalls P n_slices_Delete_i_Msg_i_Msg [t12, a1, t13] H7 fun v14 H15 =>
  bnd (stz 1 c4 3 v14) fun c16 =>
  bnd (partOf true 5 c16 0) fun t17 =>
  bnd (stz 5 [(.int .i64 0), .nils, .nils, .nils, (.int .i64 0)] 0 t17) fun c18 =>
  bnd (partOf true 5 c18 0) fun t19 =>
  Ret R (.tup [t19, (.bool true)]) H15))
theorem W_i_Lose {R : V → Heap → Prop} {a0 a1 : V} {H : Heap} (h : F_i_Lose R a0 a1 H) : ACalls P n_i_Lose [a0, a1] H R :=
  acalls_of_form (g := ⟨[2, 4, 6], [14, 20]⟩) (x := (.seq .leaf (.seq .leaf (.seq (.seq .leaf (.cond (.seq .leaf .leaf) .leaf)) (.seq .leaf (.seq .leaf .leaf)))))) Tryz.func17 (by kernel_rfl) (by kernel_rfl) (by kernel_rfl) (by kernel_rfl : F_i_Lose R a0 a1 H = _) h
def F_i_Double (R : V → Heap → Prop) (a0 a1 : V) (H : Heap) : Prop :=
  boxK a0 (bnd (partOf true 5 (cellsOf a0) 0) fun t1 =>
  ACalls P n_i_ownNet [t1] H fun v2 H3 =>
  ∀ o4, H3 o4 = none →
  bnd (aSt 5 (upd H3 o4 ⟨5, [[(.int .i64 0), .nils, .nils, .nils, (.int .i64 0)]]⟩) (.ptr o4 0 0) v2) fun H5 =>
  bnd (partOf true 5 (cellsOf a0) 0) fun t6 =>
  ACalls P n_i_isMsg [t6, a1] H5 fun v7 H8 =>
  bnd (aNot v7) fun t9 =>
  cnd t9
  (bnd (aLd true 5 H8 (.ptr o4 0 0)) fun t10 =>
  bnd (stz 5 [(.int .i64 0), .nils, .nils, .nils, (.int .i64 0)] 0 t10) fun c11 =>
  bnd (partOf true 5 c11 0) fun t12 =>
  Ret R (.tup [t12, (.bool false)]) H8)
  (bnd (aField 3 (.ptr o4 0 0)) fun t13 =>
  bnd (aLd false 1 H8 t13) fun t14 =>
  bnd (aIndex H8 7 t14 a1) fun t15 =>
  bnd (aLd true 7 H8 t15) fun t16 =>
  bnd (stz 7 [(.int .i64 0), (.int .i64 0), (.int .i64 0), (.int .i64 0), (.int .i64 0), .nils, .nils] 0 t16) fun c17 =>
  bnd (partOf false 1 c17 0) fun t18 =>
  bnd (partOf false 1 c17 1) fun t19 =>
  bnd (partOf true 5 c17 2) fun t20 =>
  ACalls P n_p_i_Net_send [(.ptr o4 0 0), t18, t19, t20] H8 fun v21 H22 =>
  bnd (aLd true 5 H22 (.ptr o4 0 0)) fun t23 =>
  bnd (stz 5 [(.int .i64 0), .nils, .nils, .nils, (.int .i64 0)] 0 t23) fun c24 =>
  bnd (partOf true 5 c24 0) fun t25 =>
  Ret R (.tup [t25, (.bool true)]) H22))
theorem W_i_Double {R : V → Heap → Prop} {a0 a1 : V} {H : Heap} (h : F_i_Double R a0 a1 H) : ACalls P n_i_Double [a0, a1] H R :=
  acalls_of_form (g := ⟨[2, 4, 7], [20, 22, 24]⟩) (x := (.seq .leaf (.seq .leaf (.seq (.seq .leaf (.cond (.seq .leaf .leaf) .leaf)) (.seq .leaf (.seq .leaf (.seq .leaf .leaf))))))) Tryz.func18 (by kernel_rfl) (by kernel_rfl) (by kernel_rfl) (by kernel_rfl : F_i_Double R a0 a1 H = _) h
def F_s_DbSum (R : V → Heap → Prop) (a0 : V) (H : Heap) : Prop :=
  boxK a0 (bnd (partOf true 1 (cellsOf a0) 0) fun t1 =>
  ACalls P n_s_DbOk [t1] H fun v2 H3 =>
  bnd (aNot v2) fun t4 =>
  cnd t4
  (Ret R (.int .i64 (-1)) H3)
  (∃ (I5 : Nat → List V → Heap → Prop) (n6 : Nat), Shr (I5 n6 [(.int .i64 1), (.int .i64 0)]) H3 ∧
  ∀ n7 xs9 H10, I5 n7 xs9 H10 →
  bnd (partOf false 1 (cellsOf a0) 0) fun t11 =>
  bnd (lenOf t11) fun n12 =>
  bnd (aBinN .lss (xs9.tail.headD .any) (.int .i64 (n12 : Nat))) fun t13 =>
  cnd t13
  (bnd (aBinN .mul (.int .i64 31) (xs9.headD .any)) fun t14 =>
  bnd (partOf false 1 (cellsOf a0) 0) fun t15 =>
  bnd (aIndex H10 5 t15 (xs9.tail.headD .any)) fun t16 =>
  bnd (aLd true 5 H10 t16) fun t17 =>
  ACalls P n_s_LsaSum [t17] H10 fun v18 H19 =>
  bnd (aBinN .add t14 v18) fun t20 =>
  bnd (aBinN .rem t20 (.int .i64 1000003)) fun t21 =>
  bnd (aBinN .add (xs9.tail.headD .any) (.int .i64 1)) fun t22 =>
  ∃ n8, n8 < n7 ∧ Shr (I5 n8 [t21, t22]) H19)
  (Ret R (xs9.headD .any) H10)))
theorem W_s_DbSum {R : V → Heap → Prop} {a0 : V} {H : Heap} (h : F_s_DbSum R a0 H) : ACalls P n_s_DbSum [a0] H R :=
  acalls_of_form (g := ⟨[1], [9, 17]⟩) (x := (.seq .leaf (.seq (.seq .leaf (.cond (.seq .leaf .leaf) .leaf)) (.seq .leaf (.seq (.seq .leaf (.block (.loop [3, 4] (.seq (.seq .leaf (.cond .leaf .leaf)) (.seq (.block .leaf) .leaf))))) (.seq .leaf .leaf)))))) Tryz.func20 (by kernel_rfl) (by kernel_rfl) (by kernel_rfl) (by kernel_rfl : F_s_DbSum R a0 H = _) h
def F_l_at (R : V → Heap → Prop) (a0 a1 : V) (H : Heap) : Prop :=
  bnd (lenOf a0) fun n1 =>
  bnd (aBinN .lss a1 (.int .i64 (n1 : Nat))) fun t2 =>
  cnd t2
  (bnd (aIndex H 1 a0 a1) fun t3 =>
  bnd (aLd false 1 H t3) fun t4 =>
  bnd (aCv .i64 t4) fun t5 =>
  Ret R t5 H)
  (bnd (aBinN .mul a1 (.int .i64 13)) fun t6 =>
  bnd (lenOf a0) fun n7 =>
  bnd (aBinN .mul (.int .i64 (n7 : Nat)) (.int .i64 5)) fun t8 =>
  bnd (aBinN .add t6 t8) fun t9 =>
  bnd (aBinN .rem t9 (.int .i64 256)) fun t10 =>
  Ret R t10 H)
theorem W_l_at {R : V → Heap → Prop} {a0 a1 : V} {H : Heap} (h : F_l_at R a0 a1 H) : ACalls P n_l_at [a0, a1] H R :=
  acalls_of_form (g := ⟨[], []⟩) (x := (.seq .leaf (.seq (.seq .leaf (.cond (.seq .leaf .leaf) .leaf)) (.seq .leaf .leaf)))) Tryz.func21 (by kernel_rfl) (by kernel_rfl) (by kernel_rfl) (by kernel_rfl : F_l_at R a0 a1 H = _) h
def F_i_NewNet (R : V → Heap → Prop) (a0 : V) (H : Heap) : Prop :=
  ACalls P n_i_within [a0, (.int .i64 1), (.int .i64 6)] H fun v1 H2 =>
  bnd (aNot v1) fun t3 =>
  cnd t3
  (bnd (fillZ [(.int .i64 0), .nils, .nils, .nils, (.int .i64 0)] []) fun c4 =>
  bnd (stz 5 [(.int .i64 0), .nils, .nils, .nils, (.int .i64 0)] 0 (.agg c4)) fun c5 =>
  bnd (partOf true 5 c5 0) fun t6 =>
  Ret R (.tup [t6, (.bool false)]) H2)
  (bnd (fillZ [(.int .i64 0), .nils] [(0, 1, a0)]) fun c7 =>
  bnd (natOf a0) fun n8 =>
  bnd (natOf a0) fun n9 =>
  (n8 ≤ n9 ∧ n9 ≤ 140737488355328 ∧ 24 * n9 ≤ 281474976710656 ∧ 1 = 1 ∧ 0 < 1) ∧
  ∀ o10, H2 o10 = none →
  bnd (fillZ [(.int .i64 0), .nils, .nils, .nils, (.int .i64 0)] [(0, 2, (.agg c7)), (2, 1, (.slice o10 0 n8 (some n9)))]) fun c11 =>
  bnd (stz 5 [(.int .i64 0), .nils, .nils, .nils, (.int .i64 0)] 0 (.agg c11)) fun c12 =>
  bnd (partOf true 5 c12 0) fun t13 =>
  Ret R (.tup [t13, (.bool true)]) (upd H2 o10 ⟨1, List.replicate n9 [.nils]⟩))
theorem W_i_NewNet {R : V → Heap → Prop} {a0 : V} {H : Heap} (h : F_i_NewNet R a0 H) : ACalls P n_i_NewNet [a0] H R :=
  acalls_of_form (g := ⟨[2], []⟩) (x := (.seq .leaf (.seq (.seq .leaf (.cond (.seq .leaf .leaf) .leaf)) (.seq .leaf .leaf)))) Tryz.func22 (by kernel_rfl) (by kernel_rfl) (by kernel_rfl) (by kernel_rfl : F_i_NewNet R a0 H = _) h
def F_i_SetLink (R : V → Heap → Prop) (a0 a1 a2 a3 : V) (H : Heap) : Prop :=
  boxK a0 (bnd (partOf true 5 (cellsOf a0) 0) fun t1 =>
  ACalls P n_i_NetOk [t1] H fun v2 H3 =>
  bnd (aNot v2) fun t4 =>
  gd t4 false
  (bnd (partOf true 2 (cellsOf a0) 0) fun t5 =>
  ACalls P n_i_Graph_isNode [t5, a1] H3 fun v6 H7 =>
  bnd (aNot v6) fun t8 =>
  gd t8 false
  (bnd (partOf true 2 (cellsOf a0) 0) fun t9 =>
  ACalls P n_i_Graph_isNode [t9, a2] H7 fun v10 H11 =>
  bnd (aNot v10) fun t12 =>
  gd t12 false
  (bnd (aBinN .eql a1 a2) fun t13 =>
  gd t13 false
  (ACalls P n_i_within [a3, (.int .i64 0), (.int .i64 1000)] H11 fun v14 H15 =>
  bnd (aNot v14) fun t16 =>
  gd t16 false
  (bnd (aBinN .eql a3 (.int .i64 0)) fun t17 =>
  gd3 t17 true
  (bnd (partOf true 2 (cellsOf a0) 0) fun t18 =>
  ACalls P n_i_Graph_cost [t18, a1, a2] H15 fun v19 H20 =>
  bnd (aBinN .eql v19 (.int .i64 1000000)) fun t21 =>
  cnd t21
  (bnd (partOf true 5 (cellsOf a0) 0) fun t22 =>
  ACalls P n_i_ownNet [t22] H20 fun v23 H24 =>
  bnd (stz 5 [(.int .i64 0), .nils, .nils, .nils, (.int .i64 0)] 0 v23) fun c25 =>
  bnd (partOf true 5 c25 0) fun t26 =>
  Ret R (.tup [t26, (.bool false)]) H24)
  (bnd (partOf true 5 (cellsOf a0) 0) fun t27 =>
  ACalls P n_i_ownNet [t27] H20 fun v28 H29 =>
  ∀ o30, H29 o30 = none →
  bnd (aSt 5 (upd H29 o30 ⟨5, [[(.int .i64 0), .nils, .nils, .nils, (.int .i64 0)]]⟩) (.ptr o30 0 0) v28) fun H31 =>
  bnd (aField 0 (.ptr o30 0 0)) fun t32 =>
  bnd (aLd true 2 H31 t32) fun t33 =>
  ACalls P n_i_Graph_setEdge [t33, a1, a2, a3] H31 fun v34 H35 =>
  ACalls P n_i_Graph_setEdge [v34, a2, a1, a3] H35 fun v36 H37 =>
  bnd (aField 0 (.ptr o30 0 0)) fun t38 =>
  bnd (aSt 2 H37 t38 v36) fun H39 =>
  bnd (aMins false a1 [a2]) fun t42 =>
  bnd (aMins true a1 [a2]) fun t45 =>
  ACalls P n_p_i_Net_announce [(.ptr o30 0 0), t42] H39 fun v46 H47 =>
  bnd (aNot v46) fun t48 =>
  gd t48 false
  (ACalls P n_p_i_Net_announce [(.ptr o30 0 0), t45] H47 fun v49 H50 =>
  bnd (aNot v49) fun t51 =>
  cnd t51
  (bnd (partOf true 5 (cellsOf a0) 0) fun t52 =>
  ACalls P n_i_ownNet [t52] H50 fun v53 H54 =>
  bnd (stz 5 [(.int .i64 0), .nils, .nils, .nils, (.int .i64 0)] 0 v53) fun c55 =>
  bnd (partOf true 5 c55 0) fun t56 =>
  Ret R (.tup [t56, (.bool false)]) H54)
  (bnd (aBinN .gtr a3 (.int .i64 0)) fun t57 =>
  cnd t57
  (ACalls P n_p_i_Net_tell [(.ptr o30 0 0), t42, t45] H50 fun v58 H59 =>
  ACalls P n_p_i_Net_tell [(.ptr o30 0 0), t45, t42] H59 fun v60 H61 =>
  bnd (aLd true 5 H61 (.ptr o30 0 0)) fun t62 =>
  bnd (stz 5 [(.int .i64 0), .nils, .nils, .nils, (.int .i64 0)] 0 t62) fun c63 =>
  bnd (partOf true 5 c63 0) fun t64 =>
  Ret R (.tup [t64, (.bool true)]) H61)
  (bnd (aLd true 5 H50 (.ptr o30 0 0)) fun t65 =>
  bnd (stz 5 [(.int .i64 0), .nils, .nils, .nils, (.int .i64 0)] 0 t65) fun c66 =>
  bnd (partOf true 5 c66 0) fun t67 =>
  Ret R (.tup [t67, (.bool true)]) H50)))
  (bnd (partOf true 5 (cellsOf a0) 0) fun t68 =>
  ACalls P n_i_ownNet [t68] H47 fun v69 H70 =>
  bnd (stz 5 [(.int .i64 0), .nils, .nils, .nils, (.int .i64 0)] 0 v69) fun c71 =>
  bnd (partOf true 5 c71 0) fun t72 =>
  Ret R (.tup [t72, (.bool false)]) H70)))
  (bnd (partOf true 5 (cellsOf a0) 0) fun t73 =>
  ACalls P n_i_ownNet [t73] H15 fun v74 H75 =>
  ∀ o76, H75 o76 = none →
  bnd (aSt 5 (upd H75 o76 ⟨5, [[(.int .i64 0), .nils, .nils, .nils, (.int .i64 0)]]⟩) (.ptr o76 0 0) v74) fun H77 =>
  bnd (aField 0 (.ptr o76 0 0)) fun t78 =>
  bnd (aLd true 2 H77 t78) fun t79 =>
  ACalls P n_i_Graph_setEdge [t79, a1, a2, a3] H77 fun v80 H81 =>
  ACalls P n_i_Graph_setEdge [v80, a2, a1, a3] H81 fun v82 H83 =>
  bnd (aField 0 (.ptr o76 0 0)) fun t84 =>
  bnd (aSt 2 H83 t84 v82) fun H85 =>
  bnd (aMins false a1 [a2]) fun t88 =>
  bnd (aMins true a1 [a2]) fun t91 =>
  ACalls P n_p_i_Net_announce [(.ptr o76 0 0), t88] H85 fun v92 H93 =>
  bnd (aNot v92) fun t94 =>
  gd t94 false
  (ACalls P n_p_i_Net_announce [(.ptr o76 0 0), t91] H93 fun v95 H96 =>
  bnd (aNot v95) fun t97 =>
  cnd t97
  (bnd (partOf true 5 (cellsOf a0) 0) fun t98 =>
  ACalls P n_i_ownNet [t98] H96 fun v99 H100 =>
  bnd (stz 5 [(.int .i64 0), .nils, .nils, .nils, (.int .i64 0)] 0 v99) fun c101 =>
  bnd (partOf true 5 c101 0) fun t102 =>
  Ret R (.tup [t102, (.bool false)]) H100)
  (bnd (aBinN .gtr a3 (.int .i64 0)) fun t103 =>
  cnd t103
  (ACalls P n_p_i_Net_tell [(.ptr o76 0 0), t88, t91] H96 fun v104 H105 =>
  ACalls P n_p_i_Net_tell [(.ptr o76 0 0), t91, t88] H105 fun v106 H107 =>
  bnd (aLd true 5 H107 (.ptr o76 0 0)) fun t108 =>
  bnd (stz 5 [(.int .i64 0), .nils, .nils, .nils, (.int .i64 0)] 0 t108) fun c109 =>
  bnd (partOf true 5 c109 0) fun t110 =>
  Ret R (.tup [t110, (.bool true)]) H107)
  (bnd (aLd true 5 H96 (.ptr o76 0 0)) fun t111 =>
  bnd (stz 5 [(.int .i64 0), .nils, .nils, .nils, (.int .i64 0)] 0 t111) fun c112 =>
  bnd (partOf true 5 c112 0) fun t113 =>
  Ret R (.tup [t113, (.bool true)]) H96)))
  (bnd (partOf true 5 (cellsOf a0) 0) fun t114 =>
  ACalls P n_i_ownNet [t114] H93 fun v115 H116 =>
  bnd (stz 5 [(.int .i64 0), .nils, .nils, .nils, (.int .i64 0)] 0 v115) fun c117 =>
  bnd (partOf true 5 c117 0) fun t118 =>
  Ret R (.tup [t118, (.bool false)]) H116))
  (bnd (aPick (.tup []) (.tup []) (.bool false)) fun t119 =>
  cnd t119
  (bnd (partOf true 5 (cellsOf a0) 0) fun t120 =>
  ACalls P n_i_ownNet [t120] H15 fun v121 H122 =>
  bnd (stz 5 [(.int .i64 0), .nils, .nils, .nils, (.int .i64 0)] 0 v121) fun c123 =>
  bnd (partOf true 5 c123 0) fun t124 =>
  Ret R (.tup [t124, (.bool false)]) H122)
  (bnd (partOf true 5 (cellsOf a0) 0) fun t125 =>
  ACalls P n_i_ownNet [t125] H15 fun v126 H127 =>
  ∀ o128, H127 o128 = none →
  bnd (aSt 5 (upd H127 o128 ⟨5, [[(.int .i64 0), .nils, .nils, .nils, (.int .i64 0)]]⟩) (.ptr o128 0 0) v126) fun H129 =>
  bnd (aField 0 (.ptr o128 0 0)) fun t130 =>
  bnd (aLd true 2 H129 t130) fun t131 =>
  ACalls P n_i_Graph_setEdge [t131, a1, a2, a3] H129 fun v132 H133 =>
  ACalls P n_i_Graph_setEdge [v132, a2, a1, a3] H133 fun v134 H135 =>
  bnd (aField 0 (.ptr o128 0 0)) fun t136 =>
  bnd (aSt 2 H135 t136 v134) fun H137 =>
  bnd (aMins false a1 [a2]) fun t140 =>
  bnd (aMins true a1 [a2]) fun t143 =>
  ACalls P n_p_i_Net_announce [(.ptr o128 0 0), t140] H137 fun v144 H145 =>
  bnd (aNot v144) fun t146 =>
  gd t146 false
  (ACalls P n_p_i_Net_announce [(.ptr o128 0 0), t143] H145 fun v147 H148 =>
  bnd (aNot v147) fun t149 =>
  cnd t149
  (bnd (partOf true 5 (cellsOf a0) 0) fun t150 =>
  ACalls P n_i_ownNet [t150] H148 fun v151 H152 =>
  bnd (stz 5 [(.int .i64 0), .nils, .nils, .nils, (.int .i64 0)] 0 v151) fun c153 =>
  bnd (partOf true 5 c153 0) fun t154 =>
  Ret R (.tup [t154, (.bool false)]) H152)
  (bnd (aBinN .gtr a3 (.int .i64 0)) fun t155 =>
  cnd t155
  (ACalls P n_p_i_Net_tell [(.ptr o128 0 0), t140, t143] H148 fun v156 H157 =>
  ACalls P n_p_i_Net_tell [(.ptr o128 0 0), t143, t140] H157 fun v158 H159 =>
  bnd (aLd true 5 H159 (.ptr o128 0 0)) fun t160 =>
  bnd (stz 5 [(.int .i64 0), .nils, .nils, .nils, (.int .i64 0)] 0 t160) fun c161 =>
  bnd (partOf true 5 c161 0) fun t162 =>
  Ret R (.tup [t162, (.bool true)]) H159)
  (bnd (aLd true 5 H148 (.ptr o128 0 0)) fun t163 =>
  bnd (stz 5 [(.int .i64 0), .nils, .nils, .nils, (.int .i64 0)] 0 t163) fun c164 =>
  bnd (partOf true 5 c164 0) fun t165 =>
  Ret R (.tup [t165, (.bool true)]) H148)))
  (bnd (partOf true 5 (cellsOf a0) 0) fun t166 =>
  ACalls P n_i_ownNet [t166] H145 fun v167 H168 =>
  bnd (stz 5 [(.int .i64 0), .nils, .nils, .nils, (.int .i64 0)] 0 v167) fun c169 =>
  bnd (partOf true 5 c169 0) fun t170 =>
  Ret R (.tup [t170, (.bool false)]) H168))))
  (bnd (partOf true 5 (cellsOf a0) 0) fun t171 =>
  ACalls P n_i_ownNet [t171] H15 fun v172 H173 =>
  bnd (stz 5 [(.int .i64 0), .nils, .nils, .nils, (.int .i64 0)] 0 v172) fun c174 =>
  bnd (partOf true 5 c174 0) fun t175 =>
  Ret R (.tup [t175, (.bool false)]) H173))
  (bnd (partOf true 5 (cellsOf a0) 0) fun t176 =>
  ACalls P n_i_ownNet [t176] H11 fun v177 H178 =>
  bnd (stz 5 [(.int .i64 0), .nils, .nils, .nils, (.int .i64 0)] 0 v177) fun c179 =>
  bnd (partOf true 5 c179 0) fun t180 =>
  Ret R (.tup [t180, (.bool false)]) H178))
  (bnd (partOf true 5 (cellsOf a0) 0) fun t181 =>
  ACalls P n_i_ownNet [t181] H11 fun v182 H183 =>
  bnd (stz 5 [(.int .i64 0), .nils, .nils, .nils, (.int .i64 0)] 0 v182) fun c184 =>
  bnd (partOf true 5 c184 0) fun t185 =>
  Ret R (.tup [t185, (.bool false)]) H183))
  (bnd (partOf true 5 (cellsOf a0) 0) fun t186 =>
  ACalls P n_i_ownNet [t186] H7 fun v187 H188 =>
  bnd (stz 5 [(.int .i64 0), .nils, .nils, .nils, (.int .i64 0)] 0 v187) fun c189 =>
  bnd (partOf true 5 c189 0) fun t190 =>
  Ret R (.tup [t190, (.bool false)]) H188))
  (bnd (partOf true 5 (cellsOf a0) 0) fun t191 =>
  ACalls P n_i_ownNet [t191] H3 fun v192 H193 =>
  bnd (stz 5 [(.int .i64 0), .nils, .nils, .nils, (.int .i64 0)] 0 v192) fun c194 =>
  bnd (partOf true 5 c194 0) fun t195 =>
  Ret R (.tup [t195, (.bool false)]) H193))
theorem W_i_SetLink {R : V → Heap → Prop} {a0 a1 a2 a3 : V} {H : Heap} (h : F_i_SetLink R a0 a1 a2 a3 H) : ACalls P n_i_SetLink [a0, a1, a2, a3] H R :=
  acalls_of_form (g := ⟨[4, 8], [17, 24, 44]⟩) (x := (.seq .leaf (.seq (.seq .leaf (.cond (.seq .leaf .leaf) .leaf)) (.seq .leaf (.seq .leaf (.seq .leaf (.seq (.seq .leaf (.cond (.seq .leaf .leaf) .leaf)) (.seq (.seq .leaf (.cond (.seq .leaf .leaf) .leaf)) (.seq .leaf .leaf))))))))) Tryz.func23 (by kernel_rfl) (by kernel_rfl) (by kernel_rfl) (by kernel_rfl : F_i_SetLink R a0 a1 a2 a3 H = _) h
def F_i_Announce (R : V → Heap → Prop) (a0 a1 : V) (H : Heap) : Prop :=
  boxK a0 (bnd (partOf true 5 (cellsOf a0) 0) fun t1 =>
  ACalls P n_i_ownNet [t1] H fun v2 H3 =>
  ∀ o4, H3 o4 = none →
  bnd (aSt 5 (upd H3 o4 ⟨5, [[(.int .i64 0), .nils, .nils, .nils, (.int .i64 0)]]⟩) (.ptr o4 0 0) v2) fun H5 =>
  bnd (partOf true 5 (cellsOf a0) 0) fun t6 =>
  ACalls P n_i_NetOk [t6] H5 fun v7 H8 =>
  bnd (aNot v7) fun t9 =>
  gd t9 false
  (bnd (partOf true 2 (cellsOf a0) 0) fun t10 =>
  ACalls P n_i_Graph_isNode [t10, a1] H8 fun v11 H12 =>
  bnd (aNot v11) fun t13 =>
  gd t13 false
  (ACalls P n_p_i_Net_announce [(.ptr o4 0 0), a1] H12 fun v14 H15 =>
  bnd (aNot v14) fun t16 =>
  cnd t16
  (bnd (partOf true 5 (cellsOf a0) 0) fun t17 =>
  ACalls P n_i_ownNet [t17] H15 fun v18 H19 =>
  bnd (stz 5 [(.int .i64 0), .nils, .nils, .nils, (.int .i64 0)] 0 v18) fun c20 =>
  bnd (partOf true 5 c20 0) fun t21 =>
  Ret R (.tup [t21, (.bool false)]) H19)
  (bnd (aLd true 5 H15 (.ptr o4 0 0)) fun t22 =>
  bnd (stz 5 [(.int .i64 0), .nils, .nils, .nils, (.int .i64 0)] 0 t22) fun c23 =>
  bnd (partOf true 5 c23 0) fun t24 =>
  Ret R (.tup [t24, (.bool true)]) H15))
  (bnd (partOf true 5 (cellsOf a0) 0) fun t25 =>
  ACalls P n_i_ownNet [t25] H12 fun v26 H27 =>
  bnd (stz 5 [(.int .i64 0), .nils, .nils, .nils, (.int .i64 0)] 0 v26) fun c28 =>
  bnd (partOf true 5 c28 0) fun t29 =>
  Ret R (.tup [t29, (.bool false)]) H27))
  (bnd (partOf true 5 (cellsOf a0) 0) fun t30 =>
  ACalls P n_i_ownNet [t30] H8 fun v31 H32 =>
  bnd (stz 5 [(.int .i64 0), .nils, .nils, .nils, (.int .i64 0)] 0 v31) fun c33 =>
  bnd (partOf true 5 c33 0) fun t34 =>
  Ret R (.tup [t34, (.bool false)]) H32))
theorem W_i_Announce {R : V → Heap → Prop} {a0 a1 : V} {H : Heap} (h : F_i_Announce R a0 a1 H) : ACalls P n_i_Announce [a0, a1] H R :=
  acalls_of_form (g := ⟨[2, 4], [13]⟩) (x := (.seq .leaf (.seq .leaf (.seq (.seq .leaf (.cond (.seq .leaf .leaf) .leaf)) (.seq .leaf .leaf))))) Tryz.func24 (by kernel_rfl) (by kernel_rfl) (by kernel_rfl) (by kernel_rfl : F_i_Announce R a0 a1 H = _) h
def F_i_ownNet (R : V → Heap → Prop) (a0 : V) (H : Heap) : Prop :=
  boxK a0 (∀ o1, H o1 = none →
  ∃ S2, Abs.sub S2 (upd H o1 ⟨((cellsOf a0)).length, [(cellsOf a0)]⟩) ∧
  bnd (aField 0 (.ptr o1 0 0)) fun t3 =>
  bnd (aLd true 2 S2 t3) fun t4 =>
  bnd (aField 4 (.ptr o1 0 0)) fun t5 =>
  bnd (aLd false 1 S2 t5) fun t6 =>
  ACalls P n_i_ownGraph [t4] (upd H o1 ⟨((cellsOf a0)).length, [(cellsOf a0)]⟩) fun v7 H8 =>
  Abs.sub S2 H8 ∧
  bnd (fillZ [(.int .i64 0), .nils, .nils, .nils, (.int .i64 0)] [(0, 2, v7), (4, 1, t6)]) fun c9 =>
  bnd (stz 5 [(.int .i64 0), .nils, .nils, .nils, (.int .i64 0)] 0 (.agg c9)) fun c10 =>
  bnd (aField 2 (.ptr o1 0 0)) fun t11 =>
  bnd (aLd false 1 H8 t11) fun t12 =>
  bnd (lenOf t12) fun n13 =>
  ∃ (I14 : Nat → List V → Heap → Prop) (n15 : Nat), Shr (I14 n15 [(.box [(.int .i64 0), .nils, .nils, .nils, (.int .i64 0)]), (.box c10), (.int .i64 0)]) H8 ∧
  ∀ n16 xs18 H19, I14 n16 xs18 H19 →
  bnd (aBinN .lss (xs18.tail.tail.headD .any) (.int .i64 (n13 : Nat))) fun t20 =>
  cnd t20
  (bnd (aIndex H19 1 t12 (xs18.tail.tail.headD .any)) fun t21 =>
  bnd (aLd true 1 H19 t21) fun t22 =>
  bnd (stz 1 [.nils] 0 t22) fun c23 =>
  bnd (partOf false 1 (bc (xs18.tail.headD .any)) 2) fun t24 =>
  bnd (partOf true 1 c23 0) fun t25 =>
  ACalls P n_i_ownDb [t25] H19 fun v26 H27 =>
  bnd (bsl 1 1 [.nils] [(0, v26)]) fun r28 =>
  ∀ o29, H27 o29 = none →
  bnd (rowsOf (upd H27 o29 ⟨1, r28⟩) 1 (.slice o29 0 1 (some 1))) fun r32 =>
  appendK (upd H27 o29 ⟨1, r28⟩) 1 24 t24 r32 fun v30 H31 =>
  bnd (stz 1 (bc (xs18.tail.headD .any)) 2 v30) fun c33 =>
  bnd (aBinN .add (xs18.tail.tail.headD .any) (.int .i64 1)) fun t34 =>
  ∃ n17, n17 < n16 ∧ Shr (I14 n17 [(.box (bc (xs18.headD .any))), (.box c33), t34]) H31)
  (bnd (aField 3 (.ptr o1 0 0)) fun t35 =>
  bnd (aLd false 1 H19 t35) fun t36 =>
  bnd (lenOf t36) fun n37 =>
  ∃ (I38 : Nat → List V → Heap → Prop) (n39 : Nat), Shr (I38 n39 [(.box (bc (xs18.headD .any))), (.box (bc (xs18.tail.headD .any))), (.int .i64 0)]) H19 ∧
  ∀ n40 xs42 H43, I38 n40 xs42 H43 →
  bnd (aBinN .lss (xs42.tail.tail.headD .any) (.int .i64 (n37 : Nat))) fun t44 =>
  cnd t44
  (bnd (aIndex H43 7 t36 (xs42.tail.tail.headD .any)) fun t45 =>
  bnd (aLd true 7 H43 t45) fun t46 =>
  bnd (stz 7 [(.int .i64 0), (.int .i64 0), (.int .i64 0), (.int .i64 0), (.int .i64 0), .nils, .nils] 0 t46) fun c47 =>
  bnd (partOf false 1 (bc (xs42.tail.headD .any)) 3) fun t48 =>
  bnd (partOf false 1 c47 0) fun t49 =>
  bnd (partOf false 1 c47 1) fun t50 =>
  bnd (partOf true 5 c47 2) fun t51 =>
  ACalls P n_i_ownLsa [t51] H43 fun v52 H53 =>
  bnd (fillZ [(.int .i64 0), (.int .i64 0), (.int .i64 0), (.int .i64 0), (.int .i64 0), .nils, .nils] [(0, 1, t49), (1, 1, t50), (2, 5, v52)]) fun c54 =>
  bnd (bsl 7 1 [(.int .i64 0), (.int .i64 0), (.int .i64 0), (.int .i64 0), (.int .i64 0), .nils, .nils] [(0, (.agg c54))]) fun r55 =>
  ∀ o56, H53 o56 = none →
  bnd (rowsOf (upd H53 o56 ⟨7, r55⟩) 7 (.slice o56 0 1 (some 1))) fun r59 =>
  appendK (upd H53 o56 ⟨7, r55⟩) 7 88 t48 r59 fun v57 H58 =>
  bnd (stz 1 (bc (xs42.tail.headD .any)) 3 v57) fun c60 =>
  bnd (aBinN .add (xs42.tail.tail.headD .any) (.int .i64 1)) fun t61 =>
  ∃ n41, n41 < n40 ∧ Shr (I38 n41 [(.box (bc (xs42.headD .any))), (.box c60), t61]) H58)
  (bnd (partOf true 5 (bc (xs42.tail.headD .any)) 0) fun t62 =>
  bnd (stz 5 (bc (xs42.headD .any)) 0 t62) fun c63 =>
  bnd (partOf true 5 c63 0) fun t64 =>
  Ret R t64 H43)))
theorem W_i_ownNet {R : V → Heap → Prop} {a0 : V} {H : Heap} (h : F_i_ownNet R a0 H) : ACalls P n_i_ownNet [a0] H R :=
  acalls_of_form (g := ⟨[2, 3, 5, 7], [21, 27, 36, 38, 40, 42, 48]⟩) (x := (.seq .leaf (.seq (.draw [0, 1, 3, 4, 6, 2, 5, 7]) (.seq (.seq .leaf (.block (.loop [2, 3, 17] (.seq .leaf (.seq (.cond .leaf .leaf) (.seq (.block (.seq .leaf (.drawh [0, 1, 2, 3, 4, 5, 6, 7]))) .leaf)))))) (.seq (.seq .leaf (.block (.loop [2, 3, 32] (.seq .leaf (.seq (.cond .leaf .leaf) (.seq (.block (.seq .leaf (.drawh [0, 1, 2, 3, 4, 5, 6, 7, 8, 9, 10, 11, 12, 13]))) .leaf)))))) (.seq .leaf .leaf)))))) Tryz.func25 (by kernel_rfl) (by kernel_rfl) (by kernel_rfl) (by kernel_rfl : F_i_ownNet R a0 H = _) h
def F_i_NetOk (R : V → Heap → Prop) (a0 : V) (H : Heap) : Prop :=
  boxK a0 (∀ o1, H o1 = none →
  bnd (aField 0 (.ptr o1 0 0)) fun t2 =>
  bnd (aLd true 2 (upd H o1 ⟨((cellsOf a0)).length, [(cellsOf a0)]⟩) t2) fun t3 =>
  ACalls P n_i_isNetwork [t3] (upd H o1 ⟨((cellsOf a0)).length, [(cellsOf a0)]⟩) fun v4 H5 =>
  bnd (aNot v4) fun t6 =>
  gd t6 false
  (bnd (aField 2 (.ptr o1 0 0)) fun t7 =>
  bnd (aLd false 1 H5 t7) fun t8 =>
  bnd (lenOf t8) fun n9 =>
  bnd (aField 0 (.ptr o1 0 0)) fun t10 =>
  bnd (aField 0 t10) fun t11 =>
  bnd (aLd false 1 H5 t11) fun t12 =>
  bnd (aBinN .neq (.int .i64 (n9 : Nat)) t12) fun t13 =>
  gd t13 false
  (bnd (aField 3 (.ptr o1 0 0)) fun t14 =>
  bnd (aLd false 1 H5 t14) fun t15 =>
  bnd (lenOf t15) fun n16 =>
  bnd (aBinN .gtr (.int .i64 (n16 : Nat)) (.int .i64 400)) fun t17 =>
  gd t17 false
  (bnd (aField 4 (.ptr o1 0 0)) fun t18 =>
  bnd (aLd false 1 H5 t18) fun t19 =>
  ACalls P n_i_within [t19, (.int .i64 0), (.int .i64 1000000)] H5 fun v20 H21 =>
  bnd (aNot v20) fun t22 =>
  cnd t22
  (Ret R (.bool false) H21)
  (bnd (aField 2 (.ptr o1 0 0)) fun t23 =>
  bnd (aLd false 1 H21 t23) fun t24 =>
  ACalls P n_slices_ContainsFunc_i_Db_i_Db [t24, (.fn n_i_NetOk_1 [])] H21 fun v25 H26 =>
  cnd v25
  (Ret R (.bool false) H26)
  (bnd (aField 3 (.ptr o1 0 0)) fun t27 =>
  bnd (aLd false 1 H26 t27) fun t28 =>
  ACalls P n_slices_ContainsFunc_i_Msg_i_Msg [t28, (.fn n_i_NetOk_2 [(.ptr o1 0 0)])] H26 fun v29 H30 =>
  bnd (aNot v29) fun t31 =>
  Ret R t31 H30)))
  (Ret R (.bool false) H5))
  (Ret R (.bool false) H5))
  (Ret R (.bool false) H5))
theorem W_i_NetOk {R : V → Heap → Prop} {a0 : V} {H : Heap} (h : F_i_NetOk R a0 H) : ACalls P n_i_NetOk [a0] H R :=
  acalls_of_form (g := ⟨[], []⟩) (x := (.seq .leaf (.seq (.seq .leaf (.cond (.seq .leaf .leaf) .leaf)) (.seq (.seq .leaf (.cond (.seq .leaf .leaf) .leaf)) (.seq .leaf .leaf))))) Tryz.func26 (by kernel_rfl) (by kernel_rfl) (by kernel_rfl) (by kernel_rfl : F_i_NetOk R a0 H = _) h
def F_p_i_Net_deliver (R : V → Heap → Prop) (a0 a1 : V) (H : Heap) : Prop :=
  bnd (aNil a0) fun t1 =>
  bnd (aField 3 t1) fun t2 =>
  bnd (aLd false 1 H t2) fun t3 =>
  bnd (aIndex H 7 t3 a1) fun t4 =>
  bnd (aLd true 7 H t4) fun t5 =>
  bnd (stz 7 [(.int .i64 0), (.int .i64 0), (.int .i64 0), (.int .i64 0), (.int .i64 0), .nils, .nils] 0 t5) fun c6 =>
  bnd (aNil a0) fun t7 =>
  bnd (aField 3 t7) fun t8 =>
  bnd (aLd false 1 H t8) fun t9 =>
  bnd (aBinN .add a1 (.int .i64 1)) fun t10 =>
  ACalls P n_slices_Delete_i_Msg_i_Msg [t9, a1, t10] H fun v11 H12 =>
  bnd (aNil a0) fun t13 =>
  bnd (aField 3 t13) fun t14 =>
  bnd (aSt 1 H12 t14 v11) fun H15 =>
  ∃ S16, Abs.sub S16 H15 ∧
  bnd (aNil a0) fun t17 =>
  bnd (aField 0 t17) fun t18 =>
  bnd (aLd true 2 S16 t18) fun t19 =>
  bnd (partOf false 1 c6 0) fun t20 =>
  bnd (partOf false 1 c6 1) fun t21 =>
  ACalls P n_i_Graph_cost [t19, t20, t21] H15 fun v22 H23 =>
  Abs.sub S16 H23 ∧
  bnd (aBinN .eql v22 (.int .i64 1000000)) fun t24 =>
  cnd t24
  (Ret R (.tup []) H23)
  (∃ S25, Abs.sub S25 H23 ∧
  bnd (aNil a0) fun t26 =>
  bnd (aField 2 t26) fun t27 =>
  bnd (aLd false 1 S25 t27) fun t28 =>
  bnd (partOf false 1 c6 1) fun t29 =>
  bnd (aIndex S25 1 t28 t29) fun t30 =>
  bnd (partOf true 5 c6 2) fun t31 =>
  ACalls P n_p_i_Db_install [t30, t31] H23 fun v32 H33 =>
  bnd (aBinN .neq v32 (.int .i64 0)) fun t34 =>
  gd t34 true
  (bnd (aBinN .neq v32 (.int .i64 2)) fun t35 =>
  cnd t35
  (Ret R (.tup []) H33)
  (∃ S36, Abs.sub S36 H33 ∧
  bnd (aNil t30) fun t37 =>
  bnd (aLd true 1 S36 t37) fun t38 =>
  bnd (partOf false 1 c6 2) fun t39 =>
  ACalls P n_i_Db_find [t38, t39] H33 fun v40 H41 =>
  Abs.sub S36 H41 ∧
  bnd (aExtract 0 v40) fun t42 =>
  bnd (aExtract 1 v40) fun t43 =>
  bnd (aNil t30) fun t44 =>
  bnd (aField 0 t44) fun t45 =>
  bnd (aLd false 1 H41 t45) fun t46 =>
  bnd (aIndex H41 5 t46 t42) fun t47 =>
  bnd (aLd true 5 H41 t47) fun t48 =>
  ACalls P n_i_ownLsa [t48] H41 fun v49 H50 =>
  bnd (stz 5 [(.int .i64 0), (.int .i64 0), (.int .i64 0), .nils, .nils] 0 v49) fun c51 =>
  bnd (aBinN .eql v32 (.int .i64 0)) fun t52 =>
  cnd t52
  (bnd (partOf false 1 c6 1) fun t53 =>
  bnd (partOf false 1 c6 0) fun t54 =>
  bnd (partOf true 5 c51 0) fun t55 =>
  ACalls P n_p_i_Net_spread [a0, t53, t54, t55] H50 fun v56 H57 =>
  Ret R (.tup []) H57)
  (bnd (partOf false 1 c6 1) fun t58 =>
  bnd (partOf false 1 c6 0) fun t59 =>
  bnd (partOf true 5 c51 0) fun t60 =>
  ACalls P n_p_i_Net_send [a0, t58, t59, t60] H50 fun v61 H62 =>
  Ret R (.tup []) H62)))
  (∃ S63, Abs.sub S63 H33 ∧
  bnd (aNil t30) fun t64 =>
  bnd (aLd true 1 S63 t64) fun t65 =>
  bnd (partOf false 1 c6 2) fun t66 =>
  ACalls P n_i_Db_find [t65, t66] H33 fun v67 H68 =>
  Abs.sub S63 H68 ∧
  bnd (aExtract 0 v67) fun t69 =>
  bnd (aExtract 1 v67) fun t70 =>
  bnd (aNil t30) fun t71 =>
  bnd (aField 0 t71) fun t72 =>
  bnd (aLd false 1 H68 t72) fun t73 =>
  bnd (aIndex H68 5 t73 t69) fun t74 =>
  bnd (aLd true 5 H68 t74) fun t75 =>
  ACalls P n_i_ownLsa [t75] H68 fun v76 H77 =>
  bnd (stz 5 [(.int .i64 0), (.int .i64 0), (.int .i64 0), .nils, .nils] 0 v76) fun c78 =>
  bnd (aBinN .eql v32 (.int .i64 0)) fun t79 =>
  cnd t79
  (bnd (partOf false 1 c6 1) fun t80 =>
  bnd (partOf false 1 c6 0) fun t81 =>
  bnd (partOf true 5 c78 0) fun t82 =>
  ACalls P n_p_i_Net_spread [a0, t80, t81, t82] H77 fun v83 H84 =>
  Ret R (.tup []) H84)
  (bnd (partOf false 1 c6 1) fun t85 =>
  bnd (partOf false 1 c6 0) fun t86 =>
  bnd (partOf true 5 c78 0) fun t87 =>
  ACalls P n_p_i_Net_send [a0, t85, t86, t87] H77 fun v88 H89 =>
  Ret R (.tup []) H89)))
theorem W_p_i_Net_deliver {R : V → Heap → Prop} {a0 a1 : V} {H : Heap} (h : F_p_i_Net_deliver R a0 a1 H) : ACalls P n_p_i_Net_deliver [a0, a1] H R :=
  acalls_of_form (g := ⟨[4, 9], [32, 34, 42, 46, 59, 60, 76, 78, 83, 85]⟩) (x := (.seq .leaf (.seq .leaf (.seq (.seq (.draw [0, 1, 2, 3, 4, 5, 6, 7, 8, 9]) (.cond .leaf .leaf)) (.seq (.draw [0, 1, 2, 3, 4, 5, 6, 7]) (.seq .leaf (.seq (.seq .leaf (.cond .leaf .leaf)) (.seq (.draw [0, 1, 2, 3, 4, 5, 6, 7, 8, 9, 10, 11]) (.seq .leaf (.seq .leaf (.cond .leaf .leaf))))))))))) Tryz.func27 (by kernel_rfl) (by kernel_rfl) (by kernel_rfl) (by kernel_rfl : F_p_i_Net_deliver R a0 a1 H = _) h
def F_s_GraphOk (R : V → Heap → Prop) (a0 : V) (H : Heap) : Prop :=
  boxK a0 (bnd (partOf false 1 (cellsOf a0) 0) fun t1 =>
  ACalls P n_s_l01In [t1, (.int .i64 1), (.int .i64 10)] H fun v2 H3 =>
  bnd (aNot v2) fun t4 =>
  gd t4 false
  (bnd (partOf false 1 (cellsOf a0) 1) fun t5 =>
  bnd (lenOf t5) fun n6 =>
  bnd (aBinN .gtr (.int .i64 (n6 : Nat)) (.int .i64 60)) fun t7 =>
  cnd t7
  (Ret R (.bool false) H3)
  (∃ (I8 : Nat → List V → Heap → Prop) (n9 : Nat), Shr (I8 n9 [(.box (cellsOf a0)), (.int .i64 0)]) H3 ∧
  ∀ n10 xs12 H13, I8 n10 xs12 H13 →
  bnd (partOf false 1 (bc (xs12.headD .any)) 1) fun t14 =>
  bnd (lenOf t14) fun n15 =>
  bnd (aBinN .lss (xs12.tail.headD .any) (.int .i64 (n15 : Nat))) fun t16 =>
  cnd t16
  (bnd (partOf false 1 (bc (xs12.headD .any)) 1) fun t17 =>
  bnd (aIndex H13 3 t17 (xs12.tail.headD .any)) fun t18 =>
  bnd (aLd true 3 H13 t18) fun t19 =>
  bnd (stz 3 [(.int .i64 0), (.int .i64 0), (.int .i64 0)] 0 t19) fun c20 =>
  bnd (partOf true 2 (bc (xs12.headD .any)) 0) fun t21 =>
  bnd (partOf false 1 c20 0) fun t22 =>
  ACalls P n_s_l03Node [t21, t22] H13 fun v23 H24 =>
  bnd (aNot v23) fun t25 =>
  gd t25 false
  (bnd (partOf true 2 (bc (xs12.headD .any)) 0) fun t26 =>
  bnd (partOf false 1 c20 1) fun t27 =>
  ACalls P n_s_l03Node [t26, t27] H24 fun v28 H29 =>
  bnd (aNot v28) fun t30 =>
  gd t30 false
  (bnd (partOf false 1 c20 0) fun t31 =>
  bnd (partOf false 1 c20 1) fun t32 =>
  bnd (aBinN .eql t31 t32) fun t33 =>
  gd t33 false
  (bnd (partOf false 1 c20 2) fun t34 =>
  ACalls P n_s_l01In [t34, (.int .i64 1), (.int .i64 1000)] H29 fun v35 H36 =>
  bnd (aNot v35) fun t37 =>
  cnd t37
  (Ret R (.bool false) H36)
  (bnd (aBinN .gtr (xs12.tail.headD .any) (.int .i64 0)) fun t38 =>
  cnd t38
  (bnd (partOf false 1 (bc (xs12.headD .any)) 1) fun t39 =>
  bnd (aBinN .sub (xs12.tail.headD .any) (.int .i64 1)) fun t40 =>
  bnd (aIndex H36 3 t39 t40) fun t41 =>
  bnd (aLd true 3 H36 t41) fun t42 =>
  bnd (stz 3 [(.int .i64 0), (.int .i64 0), (.int .i64 0)] 0 t42) fun c43 =>
  bnd (partOf false 1 c43 0) fun t44 =>
  bnd (partOf false 1 c20 0) fun t45 =>
  bnd (aBinN .gtr t44 t45) fun t46 =>
  gd t46 false
  (bnd (partOf false 1 c43 0) fun t47 =>
  bnd (partOf false 1 c20 0) fun t48 =>
  bnd (aBinN .eql t47 t48) fun t49 =>
  gd3 t49 true
  (bnd (partOf false 1 c43 1) fun t50 =>
  bnd (partOf false 1 c20 1) fun t51 =>
  bnd (aBinN .geq t50 t51) fun t52 =>
  cnd t52
  (Ret R (.bool false) H36)
  (bnd (aBinN .add (xs12.tail.headD .any) (.int .i64 1)) fun t53 =>
  ∃ n11, n11 < n10 ∧ Shr (I8 n11 [(.box (bc (xs12.headD .any))), t53]) H36))
  (bnd (aBinN .add (xs12.tail.headD .any) (.int .i64 1)) fun t54 =>
  ∃ n11, n11 < n10 ∧ Shr (I8 n11 [(.box (bc (xs12.headD .any))), t54]) H36)
  (bnd (aPick (.tup []) (.tup []) (.bool false)) fun t55 =>
  cnd t55
  (Ret R (.bool false) H36)
  (bnd (aBinN .add (xs12.tail.headD .any) (.int .i64 1)) fun t56 =>
  ∃ n11, n11 < n10 ∧ Shr (I8 n11 [(.box (bc (xs12.headD .any))), t56]) H36)))
  (Ret R (.bool false) H36))
  (bnd (aBinN .add (xs12.tail.headD .any) (.int .i64 1)) fun t57 =>
  ∃ n11, n11 < n10 ∧ Shr (I8 n11 [(.box (bc (xs12.headD .any))), t57]) H36)))
  (Ret R (.bool false) H29))
  (Ret R (.bool false) H29))
  (Ret R (.bool false) H24))
  (Ret R (.bool true) H13)))
  (Ret R (.bool false) H3))
theorem W_s_GraphOk {R : V → Heap → Prop} {a0 : V} {H : Heap} (h : F_s_GraphOk R a0 H) : ACalls P n_s_GraphOk [a0] H R :=
  acalls_of_form (g := ⟨[1, 4, 5], [6, 11, 17, 23, 29, 35, 41, 43, 48, 55, 61, 63, 67, 69, 73, 75]⟩) (x := (.seq .leaf (.seq (.seq .leaf (.cond (.seq .leaf .leaf) .leaf)) (.seq (.seq .leaf (.block (.loop [1, 3] (.seq (.seq .leaf (.cond .leaf .leaf)) (.seq (.block (.seq .leaf (.seq (.seq .leaf (.cond (.seq .leaf .leaf) .leaf)) (.seq .leaf (.cond (.seq .leaf (.seq .leaf (.cond (.seq .leaf .leaf) .leaf))) .leaf))))) .leaf))))) (.seq .leaf .leaf))))) Tryz.func28 (by kernel_rfl) (by kernel_rfl) (by kernel_rfl) (by kernel_rfl : F_s_GraphOk R a0 H = _) h
def F_s_l08Pairs (R : V → Heap → Prop) (a0 : V) (H : Heap) : Prop :=
  boxK a0 (∃ (I1 : Nat → List V → Heap → Prop) (n2 : Nat), Shr (I1 n2 [(.int .i64 0)]) H ∧
  ∀ n3 xs5 H6, I1 n3 xs5 H6 →
  bnd (partOf false 1 (cellsOf a0) 1) fun t7 =>
  bnd (lenOf t7) fun n8 =>
  bnd (aBinN .lss (xs5.headD .any) (.int .i64 (n8 : Nat))) fun t9 =>
  cnd t9
  (∃ S10, Abs.sub S10 H6 ∧
  bnd (partOf true 2 (cellsOf a0) 0) fun t11 =>
  bnd (partOf false 1 (cellsOf a0) 1) fun t12 =>
  bnd (aIndex S10 3 t12 (xs5.headD .any)) fun t13 =>
  bnd (aField 1 t13) fun t14 =>
  bnd (aLd false 1 S10 t14) fun t15 =>
  bnd (partOf false 1 (cellsOf a0) 1) fun t16 =>
  bnd (aIndex S10 3 t16 (xs5.headD .any)) fun t17 =>
  bnd (aField 0 t17) fun t18 =>
  bnd (aLd false 1 S10 t18) fun t19 =>
  bnd (partOf false 1 (cellsOf a0) 1) fun t20 =>
  bnd (aIndex S10 3 t20 (xs5.headD .any)) fun t21 =>
  bnd (aField 2 t21) fun t22 =>
  bnd (aLd false 1 S10 t22) fun t23 =>
  ACalls P n_s_l03Cost [t11, t15, t19] H6 fun v24 H25 =>
  Abs.sub S10 H25 ∧
  bnd (aBinN .neq v24 t23) fun t26 =>
  cnd t26
  (Ret R (.bool false) H25)
  (bnd (aBinN .add (xs5.headD .any) (.int .i64 1)) fun t27 =>
  ∃ n4, n4 < n3 ∧ Shr (I1 n4 [t27]) H25))
  (Ret R (.bool true) H6))
theorem W_s_l08Pairs {R : V → Heap → Prop} {a0 : V} {H : Heap} (h : F_s_l08Pairs R a0 H) : ACalls P n_s_l08Pairs [a0] H R :=
  acalls_of_form (g := ⟨[1], [5, 12, 18, 25]⟩) (x := (.seq .leaf (.seq (.seq .leaf (.block (.loop [3] (.seq (.seq .leaf (.cond .leaf .leaf)) (.seq (.block (.seq (.draw [0, 1, 2, 3, 4, 5, 6, 7, 8, 9, 10, 11, 12, 14, 15, 16, 17, 18, 19, 13, 20]) (.cond (.seq .leaf .leaf) .leaf))) .leaf))))) (.seq .leaf .leaf)))) Tryz.func29 (by kernel_rfl) (by kernel_rfl) (by kernel_rfl) (by kernel_rfl : F_s_l08Pairs R a0 H = _) h
def F_s_l01In (R : V → Heap → Prop) (a0 a1 a2 : V) (H : Heap) : Prop :=
  bnd (aBinN .leq a1 a0) fun t1 =>
  gd t1 true
  (bnd (aBinN .leq a0 a2) fun t2 =>
  Ret R t2 H)
  (Ret R (.bool false) H)
theorem W_s_l01In {R : V → Heap → Prop} {a0 a1 a2 : V} {H : Heap} (h : F_s_l01In R a0 a1 a2 H) : ACalls P n_s_l01In [a0, a1, a2] H R :=
  acalls_of_form (g := ⟨[], []⟩) (x := (.seq .leaf (.seq .leaf .leaf))) Tryz.func30 (by kernel_rfl) (by kernel_rfl) (by kernel_rfl) (by kernel_rfl : F_s_l01In R a0 a1 a2 H = _) h
def F_s_DbOk (R : V → Heap → Prop) (a0 : V) (H : Heap) : Prop :=
  boxK a0 (bnd (partOf false 1 (cellsOf a0) 0) fun t1 =>
  bnd (lenOf t1) fun n2 =>
  bnd (aBinN .gtr (.int .i64 (n2 : Nat)) (.int .i64 10)) fun t3 =>
  cnd t3
  (Ret R (.bool false) H)
  (∃ (I4 : Nat → List V → Heap → Prop) (n5 : Nat), Shr (I4 n5 [(.int .i64 0)]) H ∧
  ∀ n6 xs8 H9, I4 n6 xs8 H9 →
  bnd (partOf false 1 (cellsOf a0) 0) fun t10 =>
  bnd (lenOf t10) fun n11 =>
  bnd (aBinN .lss (xs8.headD .any) (.int .i64 (n11 : Nat))) fun t12 =>
  cnd t12
  (∃ S13, Abs.sub S13 H9 ∧
  bnd (partOf false 1 (cellsOf a0) 0) fun t14 =>
  bnd (aIndex S13 5 t14 (xs8.headD .any)) fun t15 =>
  bnd (aLd true 5 S13 t15) fun t16 =>
  ACalls P n_s_LsaOk [t16] H9 fun v17 H18 =>
  Abs.sub S13 H18 ∧
  bnd (aNot v17) fun t19 =>
  gd t19 false
  (bnd (aBinN .gtr (xs8.headD .any) (.int .i64 0)) fun t20 =>
  gd3 t20 true
  (bnd (partOf false 1 (cellsOf a0) 0) fun t21 =>
  bnd (aBinN .sub (xs8.headD .any) (.int .i64 1)) fun t22 =>
  bnd (aIndex S13 5 t21 t22) fun t23 =>
  bnd (aField 0 t23) fun t24 =>
  bnd (aLd false 1 S13 t24) fun t25 =>
  bnd (partOf false 1 (cellsOf a0) 0) fun t26 =>
  bnd (aIndex S13 5 t26 (xs8.headD .any)) fun t27 =>
  bnd (aField 0 t27) fun t28 =>
  bnd (aLd false 1 S13 t28) fun t29 =>
  bnd (aBinN .geq t25 t29) fun t30 =>
  cnd t30
  (Ret R (.bool false) H18)
  (bnd (aBinN .add (xs8.headD .any) (.int .i64 1)) fun t31 =>
  ∃ n7, n7 < n6 ∧ Shr (I4 n7 [t31]) H18))
  (bnd (aBinN .add (xs8.headD .any) (.int .i64 1)) fun t32 =>
  ∃ n7, n7 < n6 ∧ Shr (I4 n7 [t32]) H18)
  (bnd (aPick (.tup []) (.tup []) (.bool false)) fun t33 =>
  cnd t33
  (Ret R (.bool false) H18)
  (bnd (aBinN .add (xs8.headD .any) (.int .i64 1)) fun t34 =>
  ∃ n7, n7 < n6 ∧ Shr (I4 n7 [t34]) H18)))
  (Ret R (.bool false) H18))
  (Ret R (.bool true) H9)))
theorem W_s_DbOk {R : V → Heap → Prop} {a0 : V} {H : Heap} (h : F_s_DbOk R a0 H) : ACalls P n_s_DbOk [a0] H R :=
  acalls_of_form (g := ⟨[1], [4, 9, 15, 26, 33]⟩) (x := (.seq .leaf (.seq (.seq .leaf (.cond (.seq .leaf .leaf) .leaf)) (.seq (.seq .leaf (.block (.loop [3] (.seq (.seq .leaf (.cond .leaf .leaf)) (.seq (.block (.seq (.draw [0, 1, 2, 3, 4, 5, 6, 7, 8, 9, 10, 11, 12, 13, 14, 15, 16, 17, 18, 19, 20, 21, 22, 23, 24, 25, 26]) (.cond (.seq .leaf .leaf) .leaf))) .leaf))))) (.seq .leaf .leaf))))) Tryz.func31 (by kernel_rfl) (by kernel_rfl) (by kernel_rfl) (by kernel_rfl : F_s_DbOk R a0 H = _) h
def F_s_l03Node (R : V → Heap → Prop) (a0 a1 : V) (H : Heap) : Prop :=
  boxK a0 (bnd (partOf false 1 (cellsOf a0) 0) fun t1 =>
  bnd (aBinN .sub t1 (.int .i64 1)) fun t2 =>
  ACalls P n_s_l01In [a1, (.int .i64 0), t2] H fun v3 H4 =>
  Ret R v3 H4)
theorem W_s_l03Node {R : V → Heap → Prop} {a0 a1 : V} {H : Heap} (h : F_s_l03Node R a0 a1 H) : ACalls P n_s_l03Node [a0, a1] H R :=
  acalls_of_form (g := ⟨[2], [6]⟩) (x := (.seq .leaf (.seq .leaf .leaf))) Tryz.func32 (by kernel_rfl) (by kernel_rfl) (by kernel_rfl) (by kernel_rfl : F_s_l03Node R a0 a1 H = _) h
def F_s_LsaOk (R : V → Heap → Prop) (a0 : V) (H : Heap) : Prop :=
  boxK a0 (bnd (partOf false 1 (cellsOf a0) 0) fun t1 =>
  ACalls P n_s_l01In [t1, (.int .i64 0), (.int .i64 9)] H fun v2 H3 =>
  bnd (aNot v2) fun t4 =>
  gd t4 false
  (bnd (partOf false 1 (cellsOf a0) 1) fun t5 =>
  ACalls P n_s_l01In [t5, (.int .i64 1), (.int .i64 1000000)] H3 fun v6 H7 =>
  bnd (aNot v6) fun t8 =>
  gd t8 false
  (bnd (partOf false 1 (cellsOf a0) 2) fun t9 =>
  ACalls P n_s_l01In [t9, (.int .i64 0), (.int .i64 60)] H7 fun v10 H11 =>
  bnd (aNot v10) fun t12 =>
  gd t12 false
  (bnd (partOf false 1 (cellsOf a0) 3) fun t13 =>
  bnd (lenOf t13) fun n14 =>
  bnd (aBinN .gtr (.int .i64 (n14 : Nat)) (.int .i64 10)) fun t15 =>
  gd t15 false
  (bnd (partOf false 1 (cellsOf a0) 4) fun t16 =>
  bnd (lenOf t16) fun n17 =>
  bnd (aBinN .gtr (.int .i64 (n17 : Nat)) (.int .i64 6)) fun t18 =>
  cnd t18
  (Ret R (.bool false) H11)
  (∃ (I19 : Nat → List V → Heap → Prop) (n20 : Nat), Shr (I19 n20 [(.box (cellsOf a0)), (.int .i64 0)]) H11 ∧
  ∀ n21 xs23 H24, I19 n21 xs23 H24 →
  bnd (partOf false 1 (bc (xs23.headD .any)) 3) fun t25 =>
  bnd (lenOf t25) fun n26 =>
  bnd (aBinN .lss (xs23.tail.headD .any) (.int .i64 (n26 : Nat))) fun t27 =>
  cnd t27
  (bnd (partOf false 1 (bc (xs23.headD .any)) 3) fun t28 =>
  bnd (aIndex H24 2 t28 (xs23.tail.headD .any)) fun t29 =>
  bnd (aLd true 2 H24 t29) fun t30 =>
  bnd (stz 2 [(.int .i64 0), (.int .i64 0)] 0 t30) fun c31 =>
  ∃ S32, Abs.sub S32 H24 ∧
  bnd (partOf false 1 c31 0) fun t33 =>
  ACalls P n_s_l01In [t33, (.int .i64 0), (.int .i64 9)] H24 fun v34 H35 =>
  Abs.sub S32 H35 ∧
  bnd (aNot v34) fun t36 =>
  gd t36 false
  (bnd (partOf false 1 c31 0) fun t37 =>
  bnd (partOf false 1 (bc (xs23.headD .any)) 0) fun t38 =>
  bnd (aBinN .eql t37 t38) fun t39 =>
  gd t39 false
  (bnd (partOf false 1 c31 1) fun t40 =>
  ACalls P n_s_l01In [t40, (.int .i64 1), (.int .i64 1000)] H35 fun v41 H42 =>
  Abs.sub S32 H42 ∧
  bnd (aNot v41) fun t43 =>
  gd t43 false
  (bnd (aBinN .gtr (xs23.tail.headD .any) (.int .i64 0)) fun t44 =>
  gd3 t44 true
  (bnd (partOf false 1 (bc (xs23.headD .any)) 3) fun t45 =>
  bnd (aBinN .sub (xs23.tail.headD .any) (.int .i64 1)) fun t46 =>
  bnd (aIndex S32 2 t45 t46) fun t47 =>
  bnd (aField 0 t47) fun t48 =>
  bnd (aLd false 1 S32 t48) fun t49 =>
  bnd (partOf false 1 c31 0) fun t50 =>
  bnd (aBinN .geq t49 t50) fun t51 =>
  cnd t51
  (Ret R (.bool false) H42)
  (bnd (aBinN .add (xs23.tail.headD .any) (.int .i64 1)) fun t52 =>
  ∃ n22, n22 < n21 ∧ Shr (I19 n22 [(.box (bc (xs23.headD .any))), t52]) H42))
  (bnd (aBinN .add (xs23.tail.headD .any) (.int .i64 1)) fun t53 =>
  ∃ n22, n22 < n21 ∧ Shr (I19 n22 [(.box (bc (xs23.headD .any))), t53]) H42)
  (bnd (aPick (.tup []) (.tup []) (.bool false)) fun t54 =>
  cnd t54
  (Ret R (.bool false) H42)
  (bnd (aBinN .add (xs23.tail.headD .any) (.int .i64 1)) fun t55 =>
  ∃ n22, n22 < n21 ∧ Shr (I19 n22 [(.box (bc (xs23.headD .any))), t55]) H42)))
  (Ret R (.bool false) H42))
  (Ret R (.bool false) H35))
  (Ret R (.bool false) H35))
  (∃ (I56 : Nat → List V → Heap → Prop) (n57 : Nat), Shr (I56 n57 [(.box (bc (xs23.headD .any))), (.int .i64 0)]) H24 ∧
  ∀ n58 xs60 H61, I56 n58 xs60 H61 →
  bnd (partOf false 1 (bc (xs60.headD .any)) 4) fun t62 =>
  bnd (lenOf t62) fun n63 =>
  bnd (aBinN .lss (xs60.tail.headD .any) (.int .i64 (n63 : Nat))) fun t64 =>
  cnd t64
  (bnd (partOf false 1 (bc (xs60.headD .any)) 4) fun t65 =>
  bnd (aIndex H61 3 t65 (xs60.tail.headD .any)) fun t66 =>
  bnd (aLd true 3 H61 t66) fun t67 =>
  bnd (stz 3 [(.int .i64 0), (.int .i64 0), (.int .i64 0)] 0 t67) fun c68 =>
  ∃ S69, Abs.sub S69 H61 ∧
  bnd (partOf true 2 c68 0) fun t70 =>
  ACalls P n_s_PrefixOk [t70] H61 fun v71 H72 =>
  Abs.sub S69 H72 ∧
  bnd (aNot v71) fun t73 =>
  gd t73 false
  (bnd (partOf false 1 c68 2) fun t74 =>
  ACalls P n_s_l01In [t74, (.int .i64 1), (.int .i64 1000)] H72 fun v75 H76 =>
  Abs.sub S69 H76 ∧
  bnd (aNot v75) fun t77 =>
  gd t77 false
  (bnd (aBinN .gtr (xs60.tail.headD .any) (.int .i64 0)) fun t78 =>
  gd3 t78 true
  (bnd (partOf false 1 (bc (xs60.headD .any)) 4) fun t79 =>
  bnd (aBinN .sub (xs60.tail.headD .any) (.int .i64 1)) fun t80 =>
  bnd (aIndex S69 3 t79 t80) fun t81 =>
  bnd (aField 0 t81) fun t82 =>
  bnd (aLd true 2 S69 t82) fun t83 =>
  bnd (partOf true 2 c68 0) fun t84 =>
  ACalls P n_s_l02Ahead [t83, t84] H76 fun v85 H86 =>
  Abs.sub S69 H86 ∧
  bnd (aNot v85) fun t87 =>
  cnd t87
  (Ret R (.bool false) H86)
  (bnd (aBinN .add (xs60.tail.headD .any) (.int .i64 1)) fun t88 =>
  ∃ n59, n59 < n58 ∧ Shr (I56 n59 [(.box (bc (xs60.headD .any))), t88]) H86))
  (bnd (aBinN .add (xs60.tail.headD .any) (.int .i64 1)) fun t89 =>
  ∃ n59, n59 < n58 ∧ Shr (I56 n59 [(.box (bc (xs60.headD .any))), t89]) H76)
  (bnd (aPick (.tup []) (.tup []) (.bool false)) fun t90 =>
  cnd t90
  (Ret R (.bool false) H76)
  (bnd (aBinN .add (xs60.tail.headD .any) (.int .i64 1)) fun t91 =>
  ∃ n59, n59 < n58 ∧ Shr (I56 n59 [(.box (bc (xs60.headD .any))), t91]) H76)))
  (Ret R (.bool false) H76))
  (Ret R (.bool false) H72))
  (Ret R (.bool true) H61))))
  (Ret R (.bool false) H11))
  (Ret R (.bool false) H11))
  (Ret R (.bool false) H7))
  (Ret R (.bool false) H3))
theorem W_s_LsaOk {R : V → Heap → Prop} {a0 : V} {H : Heap} (h : F_s_LsaOk R a0 H) : ACalls P n_s_LsaOk [a0] H R :=
  acalls_of_form (g := ⟨[1, 4, 6], [7, 12, 18, 24, 30, 36, 42, 47, 52, 54, 59, 68, 75, 81, 87, 92, 97, 106, 113]⟩) (x := (.seq .leaf (.seq (.seq .leaf (.cond (.seq .leaf .leaf) .leaf)) (.seq (.seq .leaf (.block (.loop [1, 3] (.seq (.seq .leaf (.cond .leaf .leaf)) (.seq (.block (.seq .leaf (.seq (.draw [0, 1, 2, 3, 4, 5, 6, 7, 8, 9, 10, 11, 12, 13, 14, 15, 16, 17, 18, 19, 20, 21, 22, 23, 24, 25, 26, 27, 28, 29, 30, 31, 32]) (.cond (.seq .leaf .leaf) .leaf)))) .leaf))))) (.seq (.seq .leaf (.block (.loop [1, 5] (.seq (.seq .leaf (.cond .leaf .leaf)) (.seq (.block (.seq .leaf (.seq (.draw [0, 1, 2, 3, 4, 5, 6, 7, 8, 9, 10, 11, 12, 13, 14, 15, 16, 17, 18, 19, 20, 21, 22, 23, 24, 25, 26]) (.cond (.seq .leaf .leaf) .leaf)))) .leaf))))) (.seq .leaf .leaf)))))) Tryz.func33 (by kernel_rfl) (by kernel_rfl) (by kernel_rfl) (by kernel_rfl : F_s_LsaOk R a0 H = _) h
def F_i_Graph_all (R : V → Heap → Prop) (a0 : V) (H : Heap) : Prop :=
  boxK a0 (bnd (bsl 1 0 [.nils] []) fun r1 =>
  ∀ o2, H o2 = none →
  bnd (partOf false 1 (cellsOf a0) 0) fun t3 =>
  ∃ (I4 : Nat → List V → Heap → Prop) (n5 : Nat), Shr (I4 n5 [(.slice o2 0 0 (some 0)), (.int .i64 0)]) (upd H o2 ⟨1, r1⟩) ∧
  ∀ n6 xs8 H9, I4 n6 xs8 H9 →
  bnd (aBinN .lss (xs8.tail.headD .any) t3) fun t10 =>
  cnd t10
  (bnd (partOf true 2 (cellsOf a0) 0) fun t11 =>
  ACalls P n_i_Graph_distances [t11, (xs8.tail.headD .any)] H9 fun v12 H13 =>
  bnd (bsl 1 1 [.nils] [(0, v12)]) fun r14 =>
  ∀ o15, H13 o15 = none →
  bnd (rowsOf (upd H13 o15 ⟨1, r14⟩) 1 (.slice o15 0 1 (some 1))) fun r18 =>
  appendK (upd H13 o15 ⟨1, r14⟩) 1 24 (xs8.headD .any) r18 fun v16 H17 =>
  bnd (aBinN .add (xs8.tail.headD .any) (.int .i64 1)) fun t19 =>
  ∃ n7, n7 < n6 ∧ Shr (I4 n7 [v16, t19]) H17)
  (Ret R (xs8.headD .any) H9))
theorem W_i_Graph_all {R : V → Heap → Prop} {a0 : V} {H : Heap} (h : F_i_Graph_all R a0 H) : ACalls P n_i_Graph_all [a0] H R :=
  acalls_of_form (g := ⟨[1], [6]⟩) (x := (.seq .leaf (.seq .leaf (.seq (.seq .leaf (.block (.loop [3, 8] (.seq .leaf (.seq (.cond .leaf .leaf) (.seq (.block (.seq .leaf .leaf)) .leaf)))))) (.seq .leaf .leaf))))) Tryz.func34 (by kernel_rfl) (by kernel_rfl) (by kernel_rfl) (by kernel_rfl : F_i_Graph_all R a0 H = _) h
def F_i_Db_sum (R : V → Heap → Prop) (a0 : V) (H : Heap) : Prop :=
  boxK a0 (bnd (partOf false 1 (cellsOf a0) 0) fun t1 =>
  bnd (lenOf t1) fun n2 =>
  ∃ (I3 : Nat → List V → Heap → Prop) (n4 : Nat), Shr (I3 n4 [(.int .i64 1), (.int .i64 0)]) H ∧
  ∀ n5 xs7 H8, I3 n5 xs7 H8 →
  bnd (aBinN .lss (xs7.tail.headD .any) (.int .i64 (n2 : Nat))) fun t9 =>
  cnd t9
  (bnd (aIndex H8 5 t1 (xs7.tail.headD .any)) fun t10 =>
  bnd (aLd true 5 H8 t10) fun t11 =>
  bnd (stz 5 [(.int .i64 0), (.int .i64 0), (.int .i64 0), .nils, .nils] 0 t11) fun c12 =>
  bnd (aBinN .mul (.int .i64 31) (xs7.headD .any)) fun t13 =>
  bnd (partOf true 5 c12 0) fun t14 =>
  ACalls P n_i_Lsa_sum [t14] H8 fun v15 H16 =>
  bnd (aBinN .add t13 v15) fun t17 =>
  bnd (aBinN .rem t17 (.int .i64 1000003)) fun t18 =>
  bnd (aBinN .add (xs7.tail.headD .any) (.int .i64 1)) fun t19 =>
  ∃ n6, n6 < n5 ∧ Shr (I3 n6 [t18, t19]) H16)
  (Ret R (xs7.headD .any) H8))
theorem W_i_Db_sum {R : V → Heap → Prop} {a0 : V} {H : Heap} (h : F_i_Db_sum R a0 H) : ACalls P n_i_Db_sum [a0] H R :=
  acalls_of_form (g := ⟨[1, 5], [6]⟩) (x := (.seq .leaf (.seq .leaf (.seq (.seq .leaf (.block (.loop [3, 9] (.seq .leaf (.seq (.cond .leaf .leaf) (.seq (.block (.seq .leaf .leaf)) .leaf)))))) (.seq .leaf .leaf))))) Tryz.func35 (by kernel_rfl) (by kernel_rfl) (by kernel_rfl) (by kernel_rfl : F_i_Db_sum R a0 H = _) h
def F_s_Distances (R : V → Heap → Prop) (a0 a1 : V) (H : Heap) : Prop :=
  boxK a0 (bnd (partOf true 2 (cellsOf a0) 0) fun t1 =>
  ACalls P n_s_GraphOk [t1] H fun v2 H3 =>
  bnd (aNot v2) fun t4 =>
  gd t4 false
  (bnd (partOf true 2 (cellsOf a0) 0) fun t5 =>
  ACalls P n_s_l03Node [t5, a1] H3 fun v6 H7 =>
  bnd (aNot v6) fun t8 =>
  cnd t8
  (Ret R .nils H7)
  (bnd (bsl 1 0 [(.int .i64 0)] []) fun r9 =>
  ∀ o10, H7 o10 = none →
  ∃ (I11 : Nat → List V → Heap → Prop) (n12 : Nat), Shr (I11 n12 [(.slice o10 0 0 (some 0)), (.int .i64 0)]) (upd H7 o10 ⟨1, r9⟩) ∧
  ∀ n13 xs15 H16, I11 n13 xs15 H16 →
  bnd (partOf false 1 (cellsOf a0) 0) fun t17 =>
  bnd (aBinN .lss (xs15.tail.headD .any) t17) fun t18 =>
  cnd t18
  (bnd (bsl 1 1 [(.int .i64 0)] [(0, (.int .i64 1000000))]) fun r19 =>
  ∀ o20, H16 o20 = none →
  bnd (rowsOf (upd H16 o20 ⟨1, r19⟩) 1 (.slice o20 0 1 (some 1))) fun r23 =>
  appendK (upd H16 o20 ⟨1, r19⟩) 1 8 (xs15.headD .any) r23 fun v21 H22 =>
  bnd (aBinN .add (xs15.tail.headD .any) (.int .i64 1)) fun t24 =>
  ∃ n14, n14 < n13 ∧ Shr (I11 n14 [v21, t24]) H22)
  (bnd (aIndex H16 1 (xs15.headD .any) a1) fun t25 =>
  bnd (aSt 1 H16 t25 (.int .i64 0)) fun H26 =>
  ∃ (I27 : Nat → List V → Heap → Prop) (n28 : Nat), Shr (I27 n28 [(.box (cellsOf a0)), (.int .i64 0)]) H26 ∧
  ∀ n29 xs31 H32, I27 n29 xs31 H32 →
  bnd (partOf false 1 (bc (xs31.headD .any)) 0) fun t33 =>
  bnd (aBinN .lss (xs31.tail.headD .any) t33) fun t34 =>
  cnd t34
  (∃ (I35 : Nat → List V → Heap → Prop) (n36 : Nat), Shr (I35 n36 [(.box (bc (xs31.headD .any))), (.int .i64 0)]) H32 ∧
  ∀ n37 xs39 H40, I35 n37 xs39 H40 →
  bnd (partOf false 1 (bc (xs39.headD .any)) 1) fun t41 =>
  bnd (lenOf t41) fun n42 =>
  bnd (aBinN .lss (xs39.tail.headD .any) (.int .i64 (n42 : Nat))) fun t43 =>
  cnd t43
  (bnd (partOf false 1 (bc (xs39.headD .any)) 1) fun t44 =>
  bnd (aIndex H40 3 t44 (xs39.tail.headD .any)) fun t45 =>
  bnd (aLd true 3 H40 t45) fun t46 =>
  bnd (stz 3 [(.int .i64 0), (.int .i64 0), (.int .i64 0)] 0 t46) fun c47 =>
  ∃ S48, Abs.sub S48 H40 ∧
  bnd (partOf false 1 c47 0) fun t49 =>
  bnd (aIndex S48 1 (xs15.headD .any) t49) fun t50 =>
  bnd (aLd false 1 S48 t50) fun t51 =>
  bnd (aBinN .lss t51 (.int .i64 1000000)) fun t52 =>
  gd t52 true
  (bnd (partOf false 1 c47 0) fun t53 =>
  bnd (aIndex S48 1 (xs15.headD .any) t53) fun t54 =>
  bnd (aLd false 1 S48 t54) fun t55 =>
  bnd (partOf false 1 c47 2) fun t56 =>
  bnd (aBinN .add t55 t56) fun t57 =>
  bnd (partOf false 1 c47 1) fun t58 =>
  bnd (aIndex S48 1 (xs15.headD .any) t58) fun t59 =>
  bnd (aLd false 1 S48 t59) fun t60 =>
  bnd (aBinN .lss t57 t60) fun t61 =>
  cnd t61
  (bnd (partOf false 1 c47 1) fun t62 =>
  bnd (partOf false 1 c47 0) fun t63 =>
  bnd (aIndex H40 1 (xs15.headD .any) t63) fun t64 =>
  bnd (aLd false 1 H40 t64) fun t65 =>
  bnd (partOf false 1 c47 2) fun t66 =>
  bnd (aBinN .add t65 t66) fun t67 =>
  bnd (aIndex H40 1 (xs15.headD .any) t62) fun t68 =>
  bnd (aSt 1 H40 t68 t67) fun H69 =>
  bnd (aBinN .add (xs39.tail.headD .any) (.int .i64 1)) fun t70 =>
  ∃ n38, n38 < n37 ∧ Shr (I35 n38 [(.box (bc (xs39.headD .any))), t70]) H69)
  (bnd (aBinN .add (xs39.tail.headD .any) (.int .i64 1)) fun t71 =>
  ∃ n38, n38 < n37 ∧ Shr (I35 n38 [(.box (bc (xs39.headD .any))), t71]) H40))
  (bnd (aBinN .add (xs39.tail.headD .any) (.int .i64 1)) fun t72 =>
  ∃ n38, n38 < n37 ∧ Shr (I35 n38 [(.box (bc (xs39.headD .any))), t72]) H40))
  (bnd (aBinN .add (xs31.tail.headD .any) (.int .i64 1)) fun t73 =>
  ∃ n30, n30 < n29 ∧ Shr (I27 n30 [(.box (bc (xs39.headD .any))), t73]) H40))
  (Ret R (xs15.headD .any) H32))))
  (Ret R .nils H3))
theorem W_s_Distances {R : V → Heap → Prop} {a0 a1 : V} {H : Heap} (h : F_s_Distances R a0 a1 H) : ACalls P n_s_Distances [a0, a1] H R :=
  acalls_of_form (g := ⟨[2, 9], [21, 33, 39, 45, 51, 58, 62, 66, 73, 76, 80]⟩) (x := (.seq .leaf (.seq (.seq .leaf (.cond (.seq .leaf .leaf) .leaf)) (.seq .leaf (.seq (.seq .leaf (.block (.loop [5, 6] (.seq (.seq .leaf (.cond .leaf .leaf)) (.seq (.block .leaf) .leaf))))) (.seq .leaf (.seq (.seq .leaf (.block (.loop [2, 7] (.seq (.seq .leaf (.cond .leaf .leaf)) (.seq (.block (.seq .leaf (.block (.loop [2, 8] (.seq (.seq .leaf (.cond .leaf .leaf)) (.seq (.block (.seq .leaf (.seq (.draw [0, 1, 2, 3, 4, 5, 6, 7, 8, 9, 10, 11, 12, 13, 14, 15, 16, 17, 18, 19, 20, 21]) (.cond (.drawh [0, 1, 2, 3, 4, 5, 6, 7, 8, 9, 10, 11, 12]) .leaf)))) .leaf)))))) .leaf))))) (.seq .leaf .leaf)))))))) Tryz.func36 (by kernel_rfl) (by kernel_rfl) (by kernel_rfl) (by kernel_rfl : F_s_Distances R a0 a1 H = _) h
def F_s_l03Cost (R : V → Heap → Prop) (a0 a1 a2 : V) (H : Heap) : Prop :=
  boxK a0 (bnd (partOf true 2 (cellsOf a0) 0) fun t1 =>
  ACalls P n_s_l03Node [t1, a1] H fun v2 H3 =>
  bnd (aNot v2) fun t4 =>
  gd t4 false
  (bnd (partOf true 2 (cellsOf a0) 0) fun t5 =>
  ACalls P n_s_l03Node [t5, a2] H3 fun v6 H7 =>
  bnd (aNot v6) fun t8 =>
  cnd t8
  (Ret R (.int .i64 1000000) H7)
  (bnd (aBinN .eql a1 a2) fun t9 =>
  cnd t9
  (Ret R (.int .i64 0) H7)
  (∃ (I10 : Nat → List V → Heap → Prop) (n11 : Nat), Shr (I10 n11 [(.int .i64 0)]) H7 ∧
  ∀ n12 xs14 H15, I10 n12 xs14 H15 →
  bnd (partOf false 1 (cellsOf a0) 1) fun t16 =>
  bnd (lenOf t16) fun n17 =>
  bnd (aBinN .lss (xs14.headD .any) (.int .i64 (n17 : Nat))) fun t18 =>
  cnd t18
  (bnd (partOf false 1 (cellsOf a0) 1) fun t19 =>
  bnd (aIndex H15 3 t19 (xs14.headD .any)) fun t20 =>
  bnd (aField 0 t20) fun t21 =>
  bnd (aLd false 1 H15 t21) fun t22 =>
  bnd (aBinN .eql t22 a1) fun t23 =>
  gd t23 true
  (bnd (partOf false 1 (cellsOf a0) 1) fun t24 =>
  bnd (aIndex H15 3 t24 (xs14.headD .any)) fun t25 =>
  bnd (aField 1 t25) fun t26 =>
  bnd (aLd false 1 H15 t26) fun t27 =>
  bnd (aBinN .eql t27 a2) fun t28 =>
  cnd t28
  (bnd (partOf false 1 (cellsOf a0) 1) fun t29 =>
  bnd (aIndex H15 3 t29 (xs14.headD .any)) fun t30 =>
  bnd (aField 2 t30) fun t31 =>
  bnd (aLd false 1 H15 t31) fun t32 =>
  Ret R t32 H15)
  (bnd (aBinN .add (xs14.headD .any) (.int .i64 1)) fun t33 =>
  ∃ n13, n13 < n12 ∧ Shr (I10 n13 [t33]) H15))
  (bnd (aBinN .add (xs14.headD .any) (.int .i64 1)) fun t34 =>
  ∃ n13, n13 < n12 ∧ Shr (I10 n13 [t34]) H15))
  (Ret R (.int .i64 1000000) H15))))
  (Ret R (.int .i64 1000000) H3))
theorem W_s_l03Cost {R : V → Heap → Prop} {a0 a1 a2 : V} {H : Heap} (h : F_s_l03Cost R a0 a1 a2 H) : ACalls P n_s_l03Cost [a0, a1, a2] H R :=
  acalls_of_form (g := ⟨[3], [22, 28, 37, 46]⟩) (x := (.seq .leaf (.seq (.seq .leaf (.cond (.seq .leaf .leaf) .leaf)) (.seq (.seq .leaf (.cond (.seq .leaf .leaf) .leaf)) (.seq (.seq .leaf (.block (.loop [7] (.seq (.seq .leaf (.cond .leaf .leaf)) (.seq (.block (.seq .leaf (.cond (.seq .leaf .leaf) .leaf))) .leaf))))) (.seq .leaf .leaf)))))) Tryz.func41 (by kernel_rfl) (by kernel_rfl) (by kernel_rfl) (by kernel_rfl : F_s_l03Cost R a0 a1 a2 H = _) h
def F_i_isMsg (R : V → Heap → Prop) (a0 a1 : V) (H : Heap) : Prop :=
  boxK a0 (bnd (partOf true 5 (cellsOf a0) 0) fun t1 =>
  ACalls P n_i_NetOk [t1] H fun v2 H3 =>
  gd v2 true
  (bnd (partOf false 1 (cellsOf a0) 3) fun t4 =>
  bnd (lenOf t4) fun n5 =>
  bnd (aBinN .sub (.int .i64 (n5 : Nat)) (.int .i64 1)) fun t6 =>
  ACalls P n_i_within [a1, (.int .i64 0), t6] H3 fun v7 H8 =>
  Ret R v7 H8)
  (Ret R (.bool false) H3))
theorem W_i_isMsg {R : V → Heap → Prop} {a0 a1 : V} {H : Heap} (h : F_i_isMsg R a0 a1 H) : ACalls P n_i_isMsg [a0, a1] H R :=
  acalls_of_form (g := ⟨[2], [9]⟩) (x := (.seq .leaf (.seq .leaf .leaf))) Tryz.func46 (by kernel_rfl) (by kernel_rfl) (by kernel_rfl) (by kernel_rfl : F_i_isMsg R a0 a1 H = _) h
def F_i_DbOk (R : V → Heap → Prop) (a0 : V) (H : Heap) : Prop :=
  boxK a0 (bnd (partOf false 1 (cellsOf a0) 0) fun t1 =>
  bnd (lenOf t1) fun n2 =>
  ∃ (I3 : Nat → List V → Heap → Prop) (n4 : Nat), Shr (I3 n4 [(.box (cellsOf a0)), (.int .i64 0)]) H ∧
  ∀ n5 xs7 H8, I3 n5 xs7 H8 →
  bnd (aBinN .lss (xs7.tail.headD .any) (.int .i64 (n2 : Nat))) fun t9 =>
  cnd t9
  (bnd (aIndex H8 5 t1 (xs7.tail.headD .any)) fun t10 =>
  bnd (aLd true 5 H8 t10) fun t11 =>
  bnd (stz 5 [(.int .i64 0), (.int .i64 0), (.int .i64 0), .nils, .nils] 0 t11) fun c12 =>
  ∃ S13, Abs.sub S13 H8 ∧
  bnd (partOf true 5 c12 0) fun t14 =>
  ACalls P n_i_LsaOk [t14] H8 fun v15 H16 =>
  Abs.sub S13 H16 ∧
  bnd (aNot v15) fun t17 =>
  gd t17 false
  (bnd (aBinN .gtr (xs7.tail.headD .any) (.int .i64 0)) fun t18 =>
  gd3 t18 true
  (bnd (partOf false 1 c12 0) fun t19 =>
  bnd (partOf false 1 (bc (xs7.headD .any)) 0) fun t20 =>
  bnd (aBinN .sub (xs7.tail.headD .any) (.int .i64 1)) fun t21 =>
  bnd (aIndex S13 5 t20 t21) fun t22 =>
  bnd (aField 0 t22) fun t23 =>
  bnd (aLd false 1 S13 t23) fun t24 =>
  bnd (aBinN .leq t19 t24) fun t25 =>
  cnd t25
  (Ret R (.bool false) H16)
  (bnd (aBinN .add (xs7.tail.headD .any) (.int .i64 1)) fun t26 =>
  ∃ n6, n6 < n5 ∧ Shr (I3 n6 [(.box (bc (xs7.headD .any))), t26]) H16))
  (bnd (aBinN .add (xs7.tail.headD .any) (.int .i64 1)) fun t27 =>
  ∃ n6, n6 < n5 ∧ Shr (I3 n6 [(.box (bc (xs7.headD .any))), t27]) H16)
  (bnd (aPick (.tup []) (.tup []) (.bool false)) fun t28 =>
  cnd t28
  (Ret R (.bool false) H16)
  (bnd (aBinN .add (xs7.tail.headD .any) (.int .i64 1)) fun t29 =>
  ∃ n6, n6 < n5 ∧ Shr (I3 n6 [(.box (bc (xs7.headD .any))), t29]) H16)))
  (Ret R (.bool false) H16))
  (Ret R (.bool true) H8))
theorem W_i_DbOk {R : V → Heap → Prop} {a0 : V} {H : Heap} (h : F_i_DbOk R a0 H) : ACalls P n_i_DbOk [a0] H R :=
  acalls_of_form (g := ⟨[1, 4], [5, 20, 22]⟩) (x := (.seq .leaf (.seq (.seq .leaf (.block (.loop [1, 8] (.seq .leaf (.seq (.cond .leaf .leaf) (.seq (.block (.seq .leaf (.seq (.draw [0, 1, 2, 3, 4, 5, 6, 7, 8, 9, 10, 11, 12, 13, 14, 15, 16, 17, 18]) (.cond (.seq .leaf .leaf) .leaf)))) .leaf)))))) (.seq .leaf .leaf)))) Tryz.func47 (by kernel_rfl) (by kernel_rfl) (by kernel_rfl) (by kernel_rfl : F_i_DbOk R a0 H = _) h
def F_i_Db_find (R : V → Heap → Prop) (a0 a1 : V) (H : Heap) : Prop :=
  boxK a0 (bnd (partOf false 1 (cellsOf a0) 0) fun t1 =>
  ACalls P n_slices_BinarySearchFunc_i_Lsa_i_Lsa_int [t1, a1, (.fn n_i_Db_find_1 [])] H fun v2 H3 =>
  bnd (aExtract 0 v2) fun t4 =>
  bnd (aExtract 1 v2) fun t5 =>
  Ret R (.tup [t4, t5]) H3)
theorem W_i_Db_find {R : V → Heap → Prop} {a0 a1 : V} {H : Heap} (h : F_i_Db_find R a0 a1 H) : ACalls P n_i_Db_find [a0, a1] H R :=
  acalls_of_form (g := ⟨[2], [6]⟩) (x := (.seq .leaf (.seq .leaf .leaf))) Tryz.func48 (by kernel_rfl) (by kernel_rfl) (by kernel_rfl) (by kernel_rfl : F_i_Db_find R a0 a1 H = _) h
def F_i_ownLsa (R : V → Heap → Prop) (a0 : V) (H : Heap) : Prop :=
  boxK a0 (∃ S1, Abs.sub S1 H ∧
  bnd (partOf false 1 (cellsOf a0) 3) fun t2 =>
  bnd (partOf false 1 (cellsOf a0) 4) fun t3 =>
  ACalls P n_slices_Clone_i_Link_i_Link [t2] H fun v4 H5 =>
  Abs.sub S1 H5 ∧
  ACalls P n_slices_Clone_i_Stub_i_Stub [t3] H5 fun v6 H7 =>
  Abs.sub S1 H7 ∧
  bnd (stz 1 (cellsOf a0) 3 v4) fun c8 =>
  bnd (stz 1 c8 4 v6) fun c9 =>
  bnd (partOf true 5 c9 0) fun t10 =>
  bnd (stz 5 [(.int .i64 0), (.int .i64 0), (.int .i64 0), .nils, .nils] 0 t10) fun c11 =>
  bnd (partOf true 5 c11 0) fun t12 =>
  Ret R t12 H7)
theorem W_i_ownLsa {R : V → Heap → Prop} {a0 : V} {H : Heap} (h : F_i_ownLsa R a0 H) : ACalls P n_i_ownLsa [a0] H R :=
  acalls_of_form (g := ⟨[1, 2], [3, 6, 9, 10]⟩) (x := (.seq .leaf (.seq (.draw [0, 1, 3, 4, 2, 6, 5, 7, 8, 9]) (.seq .leaf .leaf)))) Tryz.func49 (by kernel_rfl) (by kernel_rfl) (by kernel_rfl) (by kernel_rfl : F_i_ownLsa R a0 H = _) h
def F_i_GraphOk (R : V → Heap → Prop) (a0 : V) (H : Heap) : Prop :=
  boxK a0 (bnd (partOf false 1 (cellsOf a0) 0) fun t1 =>
  ACalls P n_i_within [t1, (.int .i64 1), (.int .i64 10)] H fun v2 H3 =>
  bnd (aNot v2) fun t4 =>
  gd t4 false
  (bnd (partOf false 1 (cellsOf a0) 1) fun t5 =>
  bnd (lenOf t5) fun n6 =>
  bnd (aBinN .gtr (.int .i64 (n6 : Nat)) (.int .i64 60)) fun t7 =>
  cnd t7
  (Ret R (.bool false) H3)
  (bnd (partOf false 1 (cellsOf a0) 1) fun t8 =>
  bnd (lenOf t8) fun n9 =>
  ∃ (I10 : Nat → List V → Heap → Prop) (n11 : Nat), Shr (I10 n11 [(.box (cellsOf a0)), (.int .i64 0)]) H3 ∧
  ∀ n12 xs14 H15, I10 n12 xs14 H15 →
  bnd (aBinN .lss (xs14.tail.headD .any) (.int .i64 (n9 : Nat))) fun t16 =>
  cnd t16
  (bnd (aIndex H15 3 t8 (xs14.tail.headD .any)) fun t17 =>
  bnd (aLd true 3 H15 t17) fun t18 =>
  bnd (stz 3 [(.int .i64 0), (.int .i64 0), (.int .i64 0)] 0 t18) fun c19 =>
  ∃ S20, Abs.sub S20 H15 ∧
  bnd (partOf true 2 (bc (xs14.headD .any)) 0) fun t21 =>
  bnd (partOf false 1 c19 0) fun t22 =>
  ACalls P n_i_Graph_isNode [t21, t22] H15 fun v23 H24 =>
  Abs.sub S20 H24 ∧
  bnd (aNot v23) fun t25 =>
  gd t25 false
  (bnd (partOf true 2 (bc (xs14.headD .any)) 0) fun t26 =>
  bnd (partOf false 1 c19 1) fun t27 =>
  ACalls P n_i_Graph_isNode [t26, t27] H24 fun v28 H29 =>
  Abs.sub S20 H29 ∧
  bnd (aNot v28) fun t30 =>
  gd t30 false
  (bnd (partOf false 1 c19 0) fun t31 =>
  bnd (partOf false 1 c19 1) fun t32 =>
  bnd (aBinN .eql t31 t32) fun t33 =>
  gd t33 false
  (bnd (partOf false 1 c19 2) fun t34 =>
  ACalls P n_i_within [t34, (.int .i64 1), (.int .i64 1000)] H29 fun v35 H36 =>
  Abs.sub S20 H36 ∧
  bnd (aNot v35) fun t37 =>
  gd t37 false
  (bnd (aBinN .gtr (xs14.tail.headD .any) (.int .i64 0)) fun t38 =>
  gd3 t38 true
  (bnd (partOf false 1 (bc (xs14.headD .any)) 1) fun t39 =>
  bnd (aBinN .sub (xs14.tail.headD .any) (.int .i64 1)) fun t40 =>
  bnd (aIndex S20 3 t39 t40) fun t41 =>
  bnd (aLd true 3 S20 t41) fun t42 =>
  bnd (partOf true 3 c19 0) fun t43 =>
  ACalls P n_i_compareEdges [t42, t43] H36 fun v44 H45 =>
  Abs.sub S20 H45 ∧
  bnd (aBinN .geq v44 (.int .i64 0)) fun t46 =>
  cnd t46
  (Ret R (.bool false) H45)
  (bnd (aBinN .add (xs14.tail.headD .any) (.int .i64 1)) fun t47 =>
  ∃ n13, n13 < n12 ∧ Shr (I10 n13 [(.box (bc (xs14.headD .any))), t47]) H45))
  (bnd (aBinN .add (xs14.tail.headD .any) (.int .i64 1)) fun t48 =>
  ∃ n13, n13 < n12 ∧ Shr (I10 n13 [(.box (bc (xs14.headD .any))), t48]) H36)
  (bnd (aPick (.tup []) (.tup []) (.bool false)) fun t49 =>
  cnd t49
  (Ret R (.bool false) H36)
  (bnd (aBinN .add (xs14.tail.headD .any) (.int .i64 1)) fun t50 =>
  ∃ n13, n13 < n12 ∧ Shr (I10 n13 [(.box (bc (xs14.headD .any))), t50]) H36)))
  (Ret R (.bool false) H36))
  (Ret R (.bool false) H29))
  (Ret R (.bool false) H29))
  (Ret R (.bool false) H24))
  (Ret R (.bool true) H15)))
  (Ret R (.bool false) H3))
theorem W_i_GraphOk {R : V → Heap → Prop} {a0 : V} {H : Heap} (h : F_i_GraphOk R a0 H) : ACalls P n_i_GraphOk [a0] H R :=
  acalls_of_form (g := ⟨[1, 4], [5, 10, 15, 24, 30, 36, 38, 43, 52]⟩) (x := (.seq .leaf (.seq (.seq .leaf (.cond (.seq .leaf .leaf) .leaf)) (.seq (.seq .leaf (.block (.loop [1, 18] (.seq .leaf (.seq (.cond .leaf .leaf) (.seq (.block (.seq .leaf (.seq (.draw [0, 1, 2, 3, 4, 5, 6, 7, 8, 9, 10, 11, 12, 13, 14, 15, 16, 17, 18, 19, 20, 21, 22, 23, 24, 25, 26, 27, 28, 29, 30, 31, 32, 33, 34, 35, 36, 37, 38, 39]) (.cond (.seq .leaf .leaf) .leaf)))) .leaf)))))) (.seq .leaf .leaf))))) Tryz.func50 (by kernel_rfl) (by kernel_rfl) (by kernel_rfl) (by kernel_rfl : F_i_GraphOk R a0 H = _) h
def F_i_Graph_cost (R : V → Heap → Prop) (a0 a1 a2 : V) (H : Heap) : Prop :=
  boxK a0 (bnd (aBinN .eql a1 a2) fun t1 =>
  gd t1 true
  (bnd (partOf true 2 (cellsOf a0) 0) fun t2 =>
  ACalls P n_i_Graph_isNode [t2, a1] H fun v3 H4 =>
  cnd v3
  (Ret R (.int .i64 0) H4)
  (bnd (partOf false 1 (cellsOf a0) 1) fun t5 =>
  bnd (lenOf t5) fun n6 =>
  ∃ (I7 : Nat → List V → Heap → Prop) (n8 : Nat), Shr (I7 n8 [(.int .i64 0)]) H4 ∧
  ∀ n9 xs11 H12, I7 n9 xs11 H12 →
  bnd (aBinN .lss (xs11.headD .any) (.int .i64 (n6 : Nat))) fun t13 =>
  cnd t13
  (bnd (aIndex H12 3 t5 (xs11.headD .any)) fun t14 =>
  bnd (aLd true 3 H12 t14) fun t15 =>
  bnd (stz 3 [(.int .i64 0), (.int .i64 0), (.int .i64 0)] 0 t15) fun c16 =>
  bnd (partOf false 1 c16 0) fun t17 =>
  bnd (aBinN .eql t17 a1) fun t18 =>
  gd t18 true
  (bnd (partOf false 1 c16 1) fun t19 =>
  bnd (aBinN .eql t19 a2) fun t20 =>
  cnd t20
  (bnd (partOf false 1 c16 2) fun t21 =>
  Ret R t21 H12)
  (bnd (aBinN .add (xs11.headD .any) (.int .i64 1)) fun t22 =>
  ∃ n10, n10 < n9 ∧ Shr (I7 n10 [t22]) H12))
  (bnd (aBinN .add (xs11.headD .any) (.int .i64 1)) fun t23 =>
  ∃ n10, n10 < n9 ∧ Shr (I7 n10 [t23]) H12))
  (Ret R (.int .i64 1000000) H12)))
  (bnd (partOf false 1 (cellsOf a0) 1) fun t24 =>
  bnd (lenOf t24) fun n25 =>
  ∃ (I26 : Nat → List V → Heap → Prop) (n27 : Nat), Shr (I26 n27 [(.int .i64 0)]) H ∧
  ∀ n28 xs30 H31, I26 n28 xs30 H31 →
  bnd (aBinN .lss (xs30.headD .any) (.int .i64 (n25 : Nat))) fun t32 =>
  cnd t32
  (bnd (aIndex H31 3 t24 (xs30.headD .any)) fun t33 =>
  bnd (aLd true 3 H31 t33) fun t34 =>
  bnd (stz 3 [(.int .i64 0), (.int .i64 0), (.int .i64 0)] 0 t34) fun c35 =>
  bnd (partOf false 1 c35 0) fun t36 =>
  bnd (aBinN .eql t36 a1) fun t37 =>
  gd t37 true
  (bnd (partOf false 1 c35 1) fun t38 =>
  bnd (aBinN .eql t38 a2) fun t39 =>
  cnd t39
  (bnd (partOf false 1 c35 2) fun t40 =>
  Ret R t40 H31)
  (bnd (aBinN .add (xs30.headD .any) (.int .i64 1)) fun t41 =>
  ∃ n29, n29 < n28 ∧ Shr (I26 n29 [t41]) H31))
  (bnd (aBinN .add (xs30.headD .any) (.int .i64 1)) fun t42 =>
  ∃ n29, n29 < n28 ∧ Shr (I26 n29 [t42]) H31))
  (Ret R (.int .i64 1000000) H31)))
theorem W_i_Graph_cost {R : V → Heap → Prop} {a0 a1 a2 : V} {H : Heap} (h : F_i_Graph_cost R a0 a1 a2 H) : ACalls P n_i_Graph_cost [a0, a1, a2] H R :=
  acalls_of_form (g := ⟨[3, 8], [17, 24, 29, 34]⟩) (x := (.seq .leaf (.seq (.seq .leaf (.cond (.seq .leaf .leaf) .leaf)) (.seq (.seq .leaf (.block (.loop [20] (.seq .leaf (.seq (.cond .leaf .leaf) (.seq (.block (.seq .leaf (.seq .leaf (.cond (.seq .leaf .leaf) .leaf)))) .leaf)))))) (.seq .leaf .leaf))))) Tryz.func51 (by kernel_rfl) (by kernel_rfl) (by kernel_rfl) (by kernel_rfl : F_i_Graph_cost R a0 a1 a2 H = _) h
def F_i_LsaOk (R : V → Heap → Prop) (a0 : V) (H : Heap) : Prop :=
  boxK a0 (bnd (partOf false 1 (cellsOf a0) 0) fun t1 =>
  ACalls P n_i_within [t1, (.int .i64 0), (.int .i64 9)] H fun v2 H3 =>
  gd v2 true
  (bnd (partOf false 1 (cellsOf a0) 1) fun t4 =>
  ACalls P n_i_within [t4, (.int .i64 1), (.int .i64 1000000)] H3 fun v5 H6 =>
  gd v5 true
  (bnd (partOf false 1 (cellsOf a0) 2) fun t7 =>
  ACalls P n_i_within [t7, (.int .i64 0), (.int .i64 60)] H6 fun v8 H9 =>
  gd v8 true
  (bnd (partOf false 1 (cellsOf a0) 0) fun t10 =>
  bnd (partOf false 1 (cellsOf a0) 3) fun t11 =>
  ACalls P n_i_areLinks [t10, t11] H9 fun v12 H13 =>
  gd v12 true
  (bnd (partOf false 1 (cellsOf a0) 4) fun t14 =>
  ACalls P n_i_areStubs [t14] H13 fun v15 H16 =>
  Ret R v15 H16)
  (Ret R (.bool false) H13))
  (Ret R (.bool false) H9))
  (Ret R (.bool false) H6))
  (Ret R (.bool false) H3))
theorem W_i_LsaOk {R : V → Heap → Prop} {a0 : V} {H : Heap} (h : F_i_LsaOk R a0 H) : ACalls P n_i_LsaOk [a0] H R :=
  acalls_of_form (g := ⟨[1], [3, 7, 12, 17, 19, 24]⟩) (x := (.seq .leaf (.seq .leaf .leaf))) Tryz.func52 (by kernel_rfl) (by kernel_rfl) (by kernel_rfl) (by kernel_rfl : F_i_LsaOk R a0 H = _) h
def F_i_newer (R : V → Heap → Prop) (a0 a1 : V) (H : Heap) : Prop :=
  boxK a0 (boxK a1 (∃ S1, Abs.sub S1 H ∧
  bnd (partOf false 1 (cellsOf a0) 1) fun t2 =>
  bnd (partOf false 1 (cellsOf a1) 1) fun t3 =>
  bnd (partOf true 5 (cellsOf a0) 0) fun t4 =>
  bnd (partOf true 5 (cellsOf a1) 0) fun t5 =>
  ACalls P n_cmp_Compare_int [t2, t3] H fun v6 H7 =>
  Abs.sub S1 H7 ∧
  ACalls P n_i_Lsa_sum [t4] H7 fun v8 H9 =>
  Abs.sub S1 H9 ∧
  ACalls P n_i_Lsa_sum [t5] H9 fun v10 H11 =>
  Abs.sub S1 H11 ∧
  ACalls P n_cmp_Compare_int [v8, v10] H11 fun v12 H13 =>
  Abs.sub S1 H13 ∧
  bnd (bsl 1 2 [(.int .i64 0)] [(0, v6), (1, v12)]) fun r14 =>
  ∀ o15, H13 o15 = none →
  Abs.sub S1 (upd H13 o15 ⟨1, r14⟩) ∧
  ACalls P n_cmp_Or_int [(.slice o15 0 2 (some 2))] (upd H13 o15 ⟨1, r14⟩) fun v16 H17 =>
  Abs.sub S1 H17 ∧
  bnd (aBinN .neq v16 (.int .i64 0)) fun t18 =>
  cnd t18
  (Ret R v16 H17)
  (∃ S19, Abs.sub S19 H17 ∧
  bnd (partOf true 5 (cellsOf a0) 0) fun t20 =>
  bnd (partOf true 5 (cellsOf a1) 0) fun t21 =>
  ACalls P n_i_newer_1 [t20] H17 fun v22 H23 =>
  Abs.sub S19 H23 ∧
  ACalls P n_i_newer_1 [t21] H23 fun v24 H25 =>
  Abs.sub S19 H25 ∧
  bnd (aBinB .neq v22 v24) fun t26 =>
  cnd t26
  (bnd (partOf true 5 (cellsOf a0) 0) fun t27 =>
  ACalls P n_i_newer_1 [t27] H25 fun v28 H29 =>
  cnd v28
  (Ret R (.int .i64 1) H29)
  (Ret R (.int .i64 (-1)) H29))
  (bnd (partOf false 1 (cellsOf a0) 2) fun t30 =>
  bnd (partOf false 1 (cellsOf a1) 2) fun t31 =>
  bnd (aBinN .sub t30 t31) fun t32 =>
  bnd (aBinN .gtr t32 (.int .i64 10)) fun t33 =>
  cnd t33
  (Ret R (.int .i64 (-1)) H25)
  (bnd (partOf false 1 (cellsOf a1) 2) fun t34 =>
  bnd (partOf false 1 (cellsOf a0) 2) fun t35 =>
  bnd (aBinN .sub t34 t35) fun t36 =>
  bnd (aBinN .gtr t36 (.int .i64 10)) fun t37 =>
  cnd t37
  (Ret R (.int .i64 1) H25)
  (Ret R (.int .i64 0) H25))))))
theorem W_i_newer {R : V → Heap → Prop} {a0 a1 : V} {H : Heap} (h : F_i_newer R a0 a1 H) : ACalls P n_i_newer [a0, a1] H R :=
  acalls_of_form (g := ⟨[2, 3], [7, 9, 34, 36, 41, 43]⟩) (x := (.seq .leaf (.seq (.seq (.draw [0, 1, 2, 3, 5, 7, 4, 6, 8, 9, 10, 11, 12]) (.seq .leaf (.cond (.seq .leaf .leaf) .leaf))) (.seq .leaf (.seq (.block (.seq (.draw [0, 1, 3, 4, 2, 5, 6, 7]) (.cond (.seq (.seq .leaf (.cond (.seq .leaf .leaf) .leaf)) (.seq .leaf .leaf)) (.seq .leaf (.cond (.seq .leaf .leaf) (.seq .leaf (.cond (.seq .leaf .leaf) .leaf))))))) (.seq .leaf .leaf)))))) Tryz.func53 (by kernel_rfl) (by kernel_rfl) (by kernel_rfl) (by kernel_rfl : F_i_newer R a0 a1 H = _) h
def F_slices_Delete_i_Msg_i_Msg (R : V → Heap → Prop) (a0 a1 a2 : V) (H : Heap) : Prop :=
  bnd (lenOf a0) fun n1 =>
  bnd (aSlice H 7 a0 (some a1) (some a2) (some (.int .i64 (n1 : Nat)))) fun t2 =>
  bnd (aBinN .eql a1 a2) fun t3 =>
  cnd t3
  (Ret R a0 H)
  (bnd (lenOf a0) fun n4 =>
  bnd (aSlice H 7 a0 none (some a1) none) fun t5 =>
  bnd (aSlice H 7 a0 (some a2) none none) fun t6 =>
  bnd (rowsOf H 7 t6) fun r9 =>
  appendK H 7 88 t5 r9 fun v7 H8 =>
  bnd (lenOf v7) fun n10 =>
  bnd (aSlice H8 7 v7 (some (.int .i64 (n10 : Nat))) (some (.int .i64 (n4 : Nat))) none) fun t11 =>
  clearK H8 7 [(.int .i64 0), (.int .i64 0), (.int .i64 0), (.int .i64 0), (.int .i64 0), .nils, .nils] t11 fun v12 H13 =>
  Ret R v7 H13)
theorem W_slices_Delete_i_Msg_i_Msg {R : V → Heap → Prop} {a0 a1 a2 : V} {H : Heap} (h : F_slices_Delete_i_Msg_i_Msg R a0 a1 a2 H) : ACalls P n_slices_Delete_i_Msg_i_Msg [a0, a1, a2] H R :=
  acalls_of_form (g := ⟨[], []⟩) (x := (.seq .leaf (.seq .leaf (.seq (.seq .leaf (.cond (.seq .leaf .leaf) .leaf)) (.seq .leaf (.seq (.drawh [0, 1, 2, 3, 4, 5, 6, 7]) (.seq .leaf (.seq .leaf .leaf)))))))) Tryz.func54 (by kernel_rfl) (by kernel_rfl) (by kernel_rfl) (by kernel_rfl : F_slices_Delete_i_Msg_i_Msg R a0 a1 a2 H = _) h
def F_p_i_Net_send (R : V → Heap → Prop) (a0 a1 a2 a3 : V) (H : Heap) : Prop :=
  boxK a3 (bnd (aNil a0) fun t1 =>
  bnd (aField 3 t1) fun t2 =>
  bnd (aLd false 1 H t2) fun t3 =>
  bnd (lenOf t3) fun n4 =>
  bnd (aBinN .lss (.int .i64 (n4 : Nat)) (.int .i64 400)) fun t5 =>
  cnd t5
  (∃ S6, Abs.sub S6 H ∧
  bnd (aNil a0) fun t7 =>
  bnd (aField 3 t7) fun t8 =>
  bnd (aLd false 1 S6 t8) fun t9 =>
  bnd (partOf true 5 (cellsOf a3) 0) fun t10 =>
  ACalls P n_i_ownLsa [t10] H fun v11 H12 =>
  Abs.sub S6 H12 ∧
  bnd (fillZ [(.int .i64 0), (.int .i64 0), (.int .i64 0), (.int .i64 0), (.int .i64 0), .nils, .nils] [(0, 1, a1), (1, 1, a2), (2, 5, v11)]) fun c13 =>
  bnd (bsl 7 1 [(.int .i64 0), (.int .i64 0), (.int .i64 0), (.int .i64 0), (.int .i64 0), .nils, .nils] [(0, (.agg c13))]) fun r14 =>
  ∀ o15, H12 o15 = none →
  Abs.sub S6 (upd H12 o15 ⟨7, r14⟩) ∧
  bnd (rowsOf (upd H12 o15 ⟨7, r14⟩) 7 (.slice o15 0 1 (some 1))) fun r18 =>
  appendK (upd H12 o15 ⟨7, r14⟩) 7 88 t9 r18 fun v16 H17 =>
  Abs.sub S6 H17 ∧
  bnd (aNil a0) fun t19 =>
  bnd (aField 3 t19) fun t20 =>
  ∃ S21, Abs.sub S21 H17 ∧
  bnd (aSt 1 H17 t20 v16) fun H22 =>
  Abs.sub S21 H22 ∧
  Ret R (.tup []) H22)
  (bnd (aNil a0) fun t23 =>
  bnd (aField 4 t23) fun t24 =>
  bnd (aLd false 1 H t24) fun t25 =>
  bnd (aBinN .add t25 (.int .i64 1)) fun t26 =>
  bnd (aMins false (.int .i64 1000000) [t26]) fun t29 =>
  bnd (aNil a0) fun t30 =>
  bnd (aField 4 t30) fun t31 =>
  bnd (aSt 1 H t31 t29) fun H32 =>
  Ret R (.tup []) H32))
theorem W_p_i_Net_send {R : V → Heap → Prop} {a0 a1 a2 a3 : V} {H : Heap} (h : F_p_i_Net_send R a0 a1 a2 a3 H) : ACalls P n_p_i_Net_send [a0, a1, a2, a3] H R :=
  acalls_of_form (g := ⟨[7], []⟩) (x := (.seq .leaf (.seq .leaf (.cond (.drawp [[0, 1, 2, 3, 4, 5, 6, 7, 8, 9, 10, 11, 12, 13], [14]]) .leaf)))) Tryz.func55 (by kernel_rfl) (by kernel_rfl) (by kernel_rfl) (by kernel_rfl : F_p_i_Net_send R a0 a1 a2 a3 H = _) h
def F_s_LsaSum (R : V → Heap → Prop) (a0 : V) (H : Heap) : Prop :=
  boxK a0 (bnd (partOf true 5 (cellsOf a0) 0) fun t1 =>
  ACalls P n_s_LsaOk [t1] H fun v2 H3 =>
  bnd (aNot v2) fun t4 =>
  cnd t4
  (Ret R (.int .i64 (-1)) H3)
  (bnd (partOf true 5 (cellsOf a0) 0) fun t5 =>
  ACalls P n_s_LsaBytes [t5] H3 fun v6 H7 =>
  ∃ (I8 : Nat → List V → Heap → Prop) (n9 : Nat), Shr (I8 n9 [(.int .i64 1), (.int .i64 0)]) H7 ∧
  ∀ n10 xs12 H13, I8 n10 xs12 H13 →
  bnd (lenOf v6) fun n14 =>
  bnd (aBinN .lss (xs12.tail.headD .any) (.int .i64 (n14 : Nat))) fun t15 =>
  cnd t15
  (bnd (aBinN .mul (.int .i64 257) (xs12.headD .any)) fun t16 =>
  bnd (aIndex H13 1 v6 (xs12.tail.headD .any)) fun t17 =>
  bnd (aLd false 1 H13 t17) fun t18 =>
  bnd (aCv .i64 t18) fun t19 =>
  bnd (aBinN .add t16 t19) fun t20 =>
  bnd (aBinN .add t20 (.int .i64 1)) fun t21 =>
  bnd (aBinN .rem t21 (.int .i64 1000003)) fun t22 =>
  bnd (aBinN .add (xs12.tail.headD .any) (.int .i64 1)) fun t23 =>
  ∃ n11, n11 < n10 ∧ Shr (I8 n11 [t22, t23]) H13)
  (Ret R (xs12.headD .any) H13)))
theorem W_s_LsaSum {R : V → Heap → Prop} {a0 : V} {H : Heap} (h : F_s_LsaSum R a0 H) : ACalls P n_s_LsaSum [a0] H R :=
  acalls_of_form (g := ⟨[1], []⟩) (x := (.seq .leaf (.seq (.seq .leaf (.cond (.seq .leaf .leaf) .leaf)) (.seq .leaf (.seq .leaf (.seq (.seq .leaf (.block (.loop [3, 5] (.seq (.seq .leaf (.cond .leaf .leaf)) (.seq (.block .leaf) .leaf))))) (.seq .leaf .leaf))))))) Tryz.func56 (by kernel_rfl) (by kernel_rfl) (by kernel_rfl) (by kernel_rfl : F_s_LsaSum R a0 H = _) h
def F_i_within (R : V → Heap → Prop) (a0 a1 a2 : V) (H : Heap) : Prop :=
  bnd (aBinN .geq a0 a1) fun t1 =>
  gd t1 true
  (bnd (aBinN .leq a0 a2) fun t2 =>
  Ret R t2 H)
  (Ret R (.bool false) H)
theorem W_i_within {R : V → Heap → Prop} {a0 a1 a2 : V} {H : Heap} (h : F_i_within R a0 a1 a2 H) : ACalls P n_i_within [a0, a1, a2] H R :=
  acalls_of_form (g := ⟨[], []⟩) (x := (.seq .leaf (.seq .leaf .leaf))) Tryz.func57 (by kernel_rfl) (by kernel_rfl) (by kernel_rfl) (by kernel_rfl : F_i_within R a0 a1 a2 H = _) h
def F_i_Graph_isNode (R : V → Heap → Prop) (a0 a1 : V) (H : Heap) : Prop :=
  boxK a0 (bnd (partOf false 1 (cellsOf a0) 0) fun t1 =>
  bnd (aBinN .sub t1 (.int .i64 1)) fun t2 =>
  ACalls P n_i_within [a1, (.int .i64 0), t2] H fun v3 H4 =>
  Ret R v3 H4)
theorem W_i_Graph_isNode {R : V → Heap → Prop} {a0 a1 : V} {H : Heap} (h : F_i_Graph_isNode R a0 a1 H) : ACalls P n_i_Graph_isNode [a0, a1] H R :=
  acalls_of_form (g := ⟨[2], [6]⟩) (x := (.seq .leaf (.seq .leaf .leaf))) Tryz.func58 (by kernel_rfl) (by kernel_rfl) (by kernel_rfl) (by kernel_rfl : F_i_Graph_isNode R a0 a1 H = _) h
def F_i_Graph_setEdge (R : V → Heap → Prop) (a0 a1 a2 a3 : V) (H : Heap) : Prop :=
  boxK a0 (boxK a1 (∀ o1, H o1 = none →
  boxK a2 (∀ o2, (upd H o1 ⟨((cellsOf a1)).length, [(cellsOf a1)]⟩) o2 = none →
  bnd (partOf true 2 (cellsOf a0) 0) fun t3 =>
  ACalls P n_i_ownGraph [t3] (upd (upd H o1 ⟨((cellsOf a1)).length, [(cellsOf a1)]⟩) o2 ⟨((cellsOf a2)).length, [(cellsOf a2)]⟩) fun v4 H5 =>
  bnd (stz 2 [(.int .i64 0), .nils] 0 v4) fun c6 =>
  bnd (partOf false 1 c6 1) fun t7 =>
  ACalls P n_slices_DeleteFunc_i_Edge_i_Edge [t7, (.fn n_i_Graph_setEdge_1 [(.ptr o1 0 0), (.ptr o2 0 0)])] H5 fun v8 H9 =>
  bnd (stz 1 c6 1 v8) fun c10 =>
  bnd (aBinN .gtr a3 (.int .i64 0)) fun t11 =>
  cnd t11
  (bnd (aLd false 1 H9 (.ptr o1 0 0)) fun t12 =>
  bnd (aLd false 1 H9 (.ptr o2 0 0)) fun t13 =>
  bnd (fillZ [(.int .i64 0), (.int .i64 0), (.int .i64 0)] [(0, 1, t12), (1, 1, t13), (2, 1, a3)]) fun c14 =>
  bnd (stz 3 [(.int .i64 0), (.int .i64 0), (.int .i64 0)] 0 (.agg c14)) fun c15 =>
  bnd (partOf false 1 c10 1) fun t16 =>
  bnd (partOf true 3 c15 0) fun t17 =>
  ACalls P n_slices_BinarySearchFunc_i_Edge_i_Edge_i_Edge [t16, t17, (.fn n_i_compareEdges [])] H9 fun v18 H19 =>
  bnd (aExtract 0 v18) fun t20 =>
  bnd (aExtract 1 v18) fun t21 =>
  bnd (partOf false 1 c10 1) fun t22 =>
  bnd (partOf true 3 c15 0) fun t23 =>
  bnd (bsl 3 1 [(.int .i64 0), (.int .i64 0), (.int .i64 0)] [(0, t23)]) fun r24 =>
  ∀ o25, H19 o25 = none →
  ACalls P n_slices_Insert_i_Edge_i_Edge [t22, t20, (.slice o25 0 1 (some 1))] (upd H19 o25 ⟨3, r24⟩) fun v26 H27 =>
  bnd (stz 1 c10 1 v26) fun c28 =>
  bnd (partOf true 2 c28 0) fun t29 =>
  bnd (stz 2 [(.int .i64 0), .nils] 0 t29) fun c30 =>
  bnd (partOf true 2 c30 0) fun t31 =>
  Ret R t31 H27)
  (bnd (partOf true 2 c10 0) fun t32 =>
  bnd (stz 2 [(.int .i64 0), .nils] 0 t32) fun c33 =>
  bnd (partOf true 2 c33 0) fun t34 =>
  Ret R t34 H9))))
theorem W_i_Graph_setEdge {R : V → Heap → Prop} {a0 a1 a2 a3 : V} {H : Heap} (h : F_i_Graph_setEdge R a0 a1 a2 a3 H) : ACalls P n_i_Graph_setEdge [a0, a1, a2, a3] H R :=
  acalls_of_form (g := ⟨[4, 8, 9, 10], [15, 19, 27, 33, 39]⟩) (x := (.seq .leaf (.seq .leaf (.seq .leaf (.seq (.seq .leaf (.cond (.seq .leaf (.seq .leaf .leaf)) .leaf)) (.seq .leaf .leaf)))))) Tryz.func59 (by kernel_rfl) (by kernel_rfl) (by kernel_rfl) (by kernel_rfl : F_i_Graph_setEdge R a0 a1 a2 a3 H = _) h
def F_p_i_Net_announce (R : V → Heap → Prop) (a0 a1 : V) (H : Heap) : Prop :=
  bnd (aBinN .mul (.int .i64 256) a1) fun t1 =>
  bnd (fillZ [(.int .i64 0), (.int .i64 0)] [(0, 1, t1), (1, 1, (.int .i64 8))]) fun c2 =>
  bnd (fillZ [(.int .i64 0), (.int .i64 0), (.int .i64 0)] [(0, 2, (.agg c2)), (2, 1, (.int .i64 1))]) fun c3 =>
  bnd (bsl 3 1 [(.int .i64 0), (.int .i64 0), (.int .i64 0)] [(0, (.agg c3))]) fun r4 =>
  ∀ o5, H o5 = none →
  bnd (fillZ [(.int .i64 0), (.int .i64 0), (.int .i64 0), .nils, .nils] [(0, 1, a1), (1, 1, (.int .i64 1)), (4, 1, (.slice o5 0 1 (some 1)))]) fun c6 =>
  bnd (stz 5 [(.int .i64 0), (.int .i64 0), (.int .i64 0), .nils, .nils] 0 (.agg c6)) fun c7 =>
  ∃ J8 : List V → Heap → Prop,
  (bnd (aNil a0) fun t11 =>
  bnd (aField 2 t11) fun t12 =>
  bnd (aLd false 1 (upd H o5 ⟨3, r4⟩) t12) fun t13 =>
  bnd (aIndex (upd H o5 ⟨3, r4⟩) 1 t13 a1) fun t14 =>
  bnd (aLd true 1 (upd H o5 ⟨3, r4⟩) t14) fun t15 =>
  ACalls P n_i_Db_find [t15, a1] (upd H o5 ⟨3, r4⟩) fun v16 H17 =>
  bnd (aExtract 0 v16) fun t18 =>
  bnd (aExtract 1 v16) fun t19 =>
  cnd t19
  (bnd (aNil a0) fun t20 =>
  bnd (aField 2 t20) fun t21 =>
  bnd (aLd false 1 H17 t21) fun t22 =>
  bnd (aIndex H17 1 t22 a1) fun t23 =>
  bnd (aField 0 t23) fun t24 =>
  bnd (aLd false 1 H17 t24) fun t25 =>
  bnd (aIndex H17 5 t25 t18) fun t26 =>
  bnd (aField 1 t26) fun t27 =>
  bnd (aLd false 1 H17 t27) fun t28 =>
  bnd (aBinN .add t28 (.int .i64 1)) fun t29 =>
  bnd (stz 1 c7 1 t29) fun c30 =>
  Shr (J8 [(.box c30)]) H17)
  (Shr (J8 [(.box c7)]) H17)) ∧
  ∀ xs9 H10, J8 xs9 H10 →
  bnd (aNil a0) fun t31 =>
  bnd (aField 0 t31) fun t32 =>
  bnd (aField 1 t32) fun t33 =>
  bnd (aLd false 1 H10 t33) fun t34 =>
  bnd (lenOf t34) fun n35 =>
  ∃ (I36 : Nat → List V → Heap → Prop) (n37 : Nat), Shr (I36 n37 [(.box (bc (xs9.headD .any))), (.int .i64 0)]) H10 ∧
  ∀ n38 xs40 H41, I36 n38 xs40 H41 →
  bnd (aBinN .lss (xs40.tail.headD .any) (.int .i64 (n35 : Nat))) fun t42 =>
  cnd t42
  (bnd (aIndex H41 3 t34 (xs40.tail.headD .any)) fun t43 =>
  bnd (aLd true 3 H41 t43) fun t44 =>
  bnd (stz 3 [(.int .i64 0), (.int .i64 0), (.int .i64 0)] 0 t44) fun c45 =>
  bnd (partOf false 1 c45 0) fun t46 =>
  bnd (aBinN .eql t46 a1) fun t47 =>
  cnd t47
  (bnd (partOf false 1 (bc (xs40.headD .any)) 3) fun t48 =>
  bnd (partOf false 1 c45 1) fun t49 =>
  bnd (partOf false 1 c45 2) fun t50 =>
  bnd (fillZ [(.int .i64 0), (.int .i64 0)] [(0, 1, t49), (1, 1, t50)]) fun c51 =>
  bnd (bsl 2 1 [(.int .i64 0), (.int .i64 0)] [(0, (.agg c51))]) fun r52 =>
  ∀ o53, H41 o53 = none →
  bnd (rowsOf (upd H41 o53 ⟨2, r52⟩) 2 (.slice o53 0 1 (some 1))) fun r56 =>
  appendK (upd H41 o53 ⟨2, r52⟩) 2 16 t48 r56 fun v54 H55 =>
  bnd (stz 1 (bc (xs40.headD .any)) 3 v54) fun c57 =>
  bnd (aBinN .add (xs40.tail.headD .any) (.int .i64 1)) fun t58 =>
  ∃ n39, n39 < n38 ∧ Shr (I36 n39 [(.box c57), t58]) H55)
  (bnd (aBinN .add (xs40.tail.headD .any) (.int .i64 1)) fun t59 =>
  ∃ n39, n39 < n38 ∧ Shr (I36 n39 [(.box (bc (xs40.headD .any))), t59]) H41))
  (bnd (partOf false 1 (bc (xs40.headD .any)) 1) fun t60 =>
  bnd (aBinN .gtr t60 (.int .i64 1000000)) fun t61 =>
  cnd t61
  (Ret R (.bool false) H41)
  (∃ S62, Abs.sub S62 H41 ∧
  bnd (aNil a0) fun t63 =>
  bnd (aField 2 t63) fun t64 =>
  bnd (aLd false 1 S62 t64) fun t65 =>
  bnd (aIndex S62 1 t65 a1) fun t66 =>
  bnd (partOf true 5 (bc (xs40.headD .any)) 0) fun t67 =>
  ∃ S68, Abs.sub S68 H41 ∧
  ACalls P n_p_i_Db_install [t66, t67] H41 fun v69 H70 =>
  Abs.sub S68 H70 ∧
  bnd (partOf true 5 (bc (xs40.headD .any)) 0) fun t71 =>
  ACalls P n_p_i_Net_spread [a0, a1, (.int .i64 (-1)), t71] H70 fun v72 H73 =>
  Ret R (.bool true) H73))
theorem W_p_i_Net_announce {R : V → Heap → Prop} {a0 a1 : V} {H : Heap} (h : F_p_i_Net_announce R a0 a1 H) : ACalls P n_p_i_Net_announce [a0, a1] H R :=
  acalls_of_form (g := ⟨[5, 9], [43, 54, 58, 60, 62, 67, 69]⟩) (x := (.seq .leaf (.seq .leaf (.seqc (.seq .leaf (.seq .leaf (.cond .leaf .leaf))) (.seq (.seq .leaf (.block (.loop [5, 50] (.seq .leaf (.seq (.cond .leaf .leaf) (.seq (.block (.seq .leaf (.seq .leaf (.cond .leaf .leaf)))) .leaf)))))) (.seq (.seq .leaf (.cond (.seq .leaf .leaf) .leaf)) (.seq (.drawp [[0, 1, 2, 3, 4, 5, 6], [7]]) (.seq .leaf (.seq .leaf .leaf))))) [5])))) Tryz.func60 (by kernel_rfl) (by kernel_rfl) (by kernel_rfl) (by kernel_rfl : F_p_i_Net_announce R a0 a1 H = _) h
def F_p_i_Net_tell (R : V → Heap → Prop) (a0 a1 a2 : V) (H : Heap) : Prop :=
  bnd (aNil a0) fun t1 =>
  bnd (aField 2 t1) fun t2 =>
  bnd (aLd false 1 H t2) fun t3 =>
  bnd (aIndex H 1 t3 a1) fun t4 =>
  bnd (aField 0 t4) fun t5 =>
  bnd (aLd false 1 H t5) fun t6 =>
  bnd (lenOf t6) fun n7 =>
  ∃ (I8 : Nat → List V → Heap → Prop) (n9 : Nat), Shr (I8 n9 [(.int .i64 0)]) H ∧
  ∀ n10 xs12 H13, I8 n10 xs12 H13 →
  bnd (aBinN .lss (xs12.headD .any) (.int .i64 (n7 : Nat))) fun t14 =>
  cnd t14
  (bnd (aIndex H13 5 t6 (xs12.headD .any)) fun t15 =>
  bnd (aLd true 5 H13 t15) fun t16 =>
  bnd (stz 5 [(.int .i64 0), (.int .i64 0), (.int .i64 0), .nils, .nils] 0 t16) fun c17 =>
  bnd (partOf true 5 c17 0) fun t18 =>
  ACalls P n_p_i_Net_send [a0, a1, a2, t18] H13 fun v19 H20 =>
  bnd (aBinN .add (xs12.headD .any) (.int .i64 1)) fun t21 =>
  ∃ n11, n11 < n10 ∧ Shr (I8 n11 [t21]) H20)
  (Ret R (.tup []) H13)
theorem W_p_i_Net_tell {R : V → Heap → Prop} {a0 a1 a2 : V} {H : Heap} (h : F_p_i_Net_tell R a0 a1 a2 H) : ACalls P n_p_i_Net_tell [a0, a1, a2] H R :=
  acalls_of_form (g := ⟨[7], []⟩) (x := (.seq .leaf (.block (.loop [17] (.seq .leaf (.seq (.cond .leaf .leaf) (.seq (.block (.seq .leaf .leaf)) .leaf))))))) Tryz.func61 (by kernel_rfl) (by kernel_rfl) (by kernel_rfl) (by kernel_rfl : F_p_i_Net_tell R a0 a1 a2 H = _) h
def F_i_ownGraph (R : V → Heap → Prop) (a0 : V) (H : Heap) : Prop :=
  boxK a0 (∃ S1, Abs.sub S1 H ∧
  bnd (partOf false 1 (cellsOf a0) 0) fun t2 =>
  bnd (partOf false 1 (cellsOf a0) 1) fun t3 =>
  ACalls P n_slices_Clone_i_Edge_i_Edge [t3] H fun v4 H5 =>
  Abs.sub S1 H5 ∧
  bnd (fillZ [(.int .i64 0), .nils] [(0, 1, t2), (1, 1, v4)]) fun c6 =>
  bnd (stz 2 [(.int .i64 0), .nils] 0 (.agg c6)) fun c7 =>
  bnd (partOf true 2 c7 0) fun t8 =>
  Ret R t8 H5)
theorem W_i_ownGraph {R : V → Heap → Prop} {a0 : V} {H : Heap} (h : F_i_ownGraph R a0 H) : ACalls P n_i_ownGraph [a0] H R :=
  acalls_of_form (g := ⟨[1, 2], [3, 5]⟩) (x := (.seq .leaf (.seq (.draw [0, 1, 2, 3, 4, 5, 6]) .leaf))) Tryz.func62 (by kernel_rfl) (by kernel_rfl) (by kernel_rfl) (by kernel_rfl : F_i_ownGraph R a0 H = _) h
def F_i_ownDb (R : V → Heap → Prop) (a0 : V) (H : Heap) : Prop :=
  boxK a0 (bnd (fillZ [.nils] []) fun c1 =>
  bnd (stz 1 [.nils] 0 (.agg c1)) fun c2 =>
  bnd (partOf false 1 (cellsOf a0) 0) fun t3 =>
  bnd (lenOf t3) fun n4 =>
  ∃ (I5 : Nat → List V → Heap → Prop) (n6 : Nat), Shr (I5 n6 [(.box [.nils]), (.box c2), (.int .i64 0)]) H ∧
  ∀ n7 xs9 H10, I5 n7 xs9 H10 →
  bnd (aBinN .lss (xs9.tail.tail.headD .any) (.int .i64 (n4 : Nat))) fun t11 =>
  cnd t11
  (bnd (aIndex H10 5 t3 (xs9.tail.tail.headD .any)) fun t12 =>
  bnd (aLd true 5 H10 t12) fun t13 =>
  bnd (stz 5 [(.int .i64 0), (.int .i64 0), (.int .i64 0), .nils, .nils] 0 t13) fun c14 =>
  bnd (partOf false 1 (bc (xs9.tail.headD .any)) 0) fun t15 =>
  bnd (partOf true 5 c14 0) fun t16 =>
  ACalls P n_i_ownLsa [t16] H10 fun v17 H18 =>
  bnd (bsl 5 1 [(.int .i64 0), (.int .i64 0), (.int .i64 0), .nils, .nils] [(0, v17)]) fun r19 =>
  ∀ o20, H18 o20 = none →
  bnd (rowsOf (upd H18 o20 ⟨5, r19⟩) 5 (.slice o20 0 1 (some 1))) fun r23 =>
  appendK (upd H18 o20 ⟨5, r19⟩) 5 72 t15 r23 fun v21 H22 =>
  bnd (stz 1 (bc (xs9.tail.headD .any)) 0 v21) fun c24 =>
  bnd (aBinN .add (xs9.tail.tail.headD .any) (.int .i64 1)) fun t25 =>
  ∃ n8, n8 < n7 ∧ Shr (I5 n8 [(.box (bc (xs9.headD .any))), (.box c24), t25]) H22)
  (bnd (partOf true 1 (bc (xs9.tail.headD .any)) 0) fun t26 =>
  bnd (stz 1 (bc (xs9.headD .any)) 0 t26) fun c27 =>
  bnd (partOf true 1 c27 0) fun t28 =>
  Ret R t28 H10))
theorem W_i_ownDb {R : V → Heap → Prop} {a0 : V} {H : Heap} (h : F_i_ownDb R a0 H) : ACalls P n_i_ownDb [a0] H R :=
  acalls_of_form (g := ⟨[1, 2, 3, 5], [7, 14, 20]⟩) (x := (.seq .leaf (.seq .leaf (.seq (.seq .leaf (.block (.loop [2, 3, 10] (.seq .leaf (.seq (.cond .leaf .leaf) (.seq (.block (.seq .leaf (.drawh [0, 1, 2, 3, 4, 5, 6, 7]))) .leaf)))))) (.seq .leaf .leaf))))) Tryz.func63 (by kernel_rfl) (by kernel_rfl) (by kernel_rfl) (by kernel_rfl : F_i_ownDb R a0 H = _) h
def F_i_isNetwork (R : V → Heap → Prop) (a0 : V) (H : Heap) : Prop :=
  boxK a0 (∀ o1, H o1 = none →
  bnd (aLd true 2 (upd H o1 ⟨((cellsOf a0)).length, [(cellsOf a0)]⟩) (.ptr o1 0 0)) fun t2 =>
  ACalls P n_i_GraphOk [t2] (upd H o1 ⟨((cellsOf a0)).length, [(cellsOf a0)]⟩) fun v3 H4 =>
  gd v3 true
  (bnd (aField 0 (.ptr o1 0 0)) fun t5 =>
  bnd (aLd false 1 H4 t5) fun t6 =>
  bnd (aBinN .leq t6 (.int .i64 6)) fun t7 =>
  gd t7 true
  (bnd (aField 1 (.ptr o1 0 0)) fun t8 =>
  bnd (aLd false 1 H4 t8) fun t9 =>
  ACalls P n_slices_ContainsFunc_i_Edge_i_Edge [t9, (.fn n_i_isNetwork_1 [(.ptr o1 0 0)])] H4 fun v10 H11 =>
  bnd (aNot v10) fun t12 =>
  Ret R t12 H11)
  (Ret R (.bool false) H4))
  (Ret R (.bool false) H4))
theorem W_i_isNetwork {R : V → Heap → Prop} {a0 : V} {H : Heap} (h : F_i_isNetwork R a0 H) : ACalls P n_i_isNetwork [a0] H R :=
  acalls_of_form (g := ⟨[], []⟩) (x := (.seq .leaf (.seq .leaf .leaf))) Tryz.func64 (by kernel_rfl) (by kernel_rfl) (by kernel_rfl) (by kernel_rfl : F_i_isNetwork R a0 H = _) h
def F_slices_ContainsFunc_i_Db_i_Db (R : V → Heap → Prop) (a0 a1 : V) (H : Heap) : Prop :=
  ACalls P n_slices_IndexFunc_i_Db_i_Db [a0, a1] H fun v1 H2 =>
  bnd (aBinN .geq v1 (.int .i64 0)) fun t3 =>
  Ret R t3 H2
theorem W_slices_ContainsFunc_i_Db_i_Db {R : V → Heap → Prop} {a0 a1 : V} {H : Heap} (h : F_slices_ContainsFunc_i_Db_i_Db R a0 a1 H) : ACalls P n_slices_ContainsFunc_i_Db_i_Db [a0, a1] H R :=
  acalls_of_form (g := ⟨[], []⟩) (x := (.seq .leaf (.seq .leaf .leaf))) Tryz.func65 (by kernel_rfl) (by kernel_rfl) (by kernel_rfl) (by kernel_rfl : F_slices_ContainsFunc_i_Db_i_Db R a0 a1 H = _) h
def F_i_NetOk_1 (R : V → Heap → Prop) (a0 : V) (H : Heap) : Prop :=
  boxK a0 (bnd (partOf true 1 (cellsOf a0) 0) fun t1 =>
  ACalls P n_i_DbOk [t1] H fun v2 H3 =>
  bnd (aNot v2) fun t4 =>
  Ret R t4 H3)
theorem W_i_NetOk_1 {R : V → Heap → Prop} {a0 : V} {H : Heap} (h : F_i_NetOk_1 R a0 H) : ACalls P n_i_NetOk_1 [a0] H R :=
  acalls_of_form (g := ⟨[1], []⟩) (x := (.seq .leaf (.seq .leaf .leaf))) Tryz.func66 (by kernel_rfl) (by kernel_rfl) (by kernel_rfl) (by kernel_rfl : F_i_NetOk_1 R a0 H = _) h
theorem E_i_NetOk_1 : enterable P n_i_NetOk_1 = true := by kernel_rfl
def F_slices_ContainsFunc_i_Msg_i_Msg (R : V → Heap → Prop) (a0 a1 : V) (H : Heap) : Prop :=
  ACalls P n_slices_IndexFunc_i_Msg_i_Msg [a0, a1] H fun v1 H2 =>
  bnd (aBinN .geq v1 (.int .i64 0)) fun t3 =>
  Ret R t3 H2
theorem W_slices_ContainsFunc_i_Msg_i_Msg {R : V → Heap → Prop} {a0 a1 : V} {H : Heap} (h : F_slices_ContainsFunc_i_Msg_i_Msg R a0 a1 H) : ACalls P n_slices_ContainsFunc_i_Msg_i_Msg [a0, a1] H R :=
  acalls_of_form (g := ⟨[], []⟩) (x := (.seq .leaf (.seq .leaf .leaf))) Tryz.func67 (by kernel_rfl) (by kernel_rfl) (by kernel_rfl) (by kernel_rfl : F_slices_ContainsFunc_i_Msg_i_Msg R a0 a1 H = _) h
def F_i_NetOk_2 (R : V → Heap → Prop) (a0 a1 : V) (H : Heap) : Prop :=
  boxK a0 (bnd (aField 0 a1) fun t1 =>
  bnd (aLd true 2 H t1) fun t2 =>
  bnd (partOf false 1 (cellsOf a0) 0) fun t3 =>
  ACalls P n_i_Graph_isNode [t2, t3] H fun v4 H5 =>
  bnd (aNot v4) fun t6 =>
  gd t6 false
  (bnd (aField 0 a1) fun t7 =>
  bnd (aLd true 2 H5 t7) fun t8 =>
  bnd (partOf false 1 (cellsOf a0) 1) fun t9 =>
  ACalls P n_i_Graph_isNode [t8, t9] H5 fun v10 H11 =>
  bnd (aNot v10) fun t12 =>
  gd t12 false
  (bnd (partOf false 1 (cellsOf a0) 0) fun t13 =>
  bnd (partOf false 1 (cellsOf a0) 1) fun t14 =>
  bnd (aBinN .eql t13 t14) fun t15 =>
  gd t15 false
  (bnd (partOf true 5 (cellsOf a0) 2) fun t16 =>
  ACalls P n_i_LsaOk [t16] H11 fun v17 H18 =>
  bnd (aNot v17) fun t19 =>
  Ret R t19 H18)
  (Ret R (.bool true) H11))
  (Ret R (.bool true) H11))
  (Ret R (.bool true) H5))
theorem W_i_NetOk_2 {R : V → Heap → Prop} {a0 a1 : V} {H : Heap} (h : F_i_NetOk_2 R a0 a1 H) : ACalls P n_i_NetOk_2 [a0, a1] H R :=
  acalls_of_form (g := ⟨[2], [6, 13, 19, 21, 26]⟩) (x := (.seq .leaf (.seq .leaf .leaf))) Tryz.func68 (by kernel_rfl) (by kernel_rfl) (by kernel_rfl) (by kernel_rfl : F_i_NetOk_2 R a0 a1 H = _) h
theorem E_i_NetOk_2 : enterable P n_i_NetOk_2 = true := by kernel_rfl
def F_p_i_Db_install (R : V → Heap → Prop) (a0 a1 : V) (H : Heap) : Prop :=
  boxK a1 (∃ S1, Abs.sub S1 H ∧
  bnd (aNil a0) fun t2 =>
  bnd (aLd true 1 S1 t2) fun t3 =>
  bnd (partOf true 5 (cellsOf a1) 0) fun t4 =>
  ACalls P n_i_Db_offer [t3, t4] H fun v5 H6 =>
  Abs.sub S1 H6 ∧
  bnd (aBinN .eql v5 (.int .i64 0)) fun t7 =>
  cnd t7
  (∃ S8, Abs.sub S8 H6 ∧
  bnd (aNil a0) fun t9 =>
  bnd (aLd true 1 S8 t9) fun t10 =>
  bnd (partOf false 1 (cellsOf a1) 0) fun t11 =>
  ACalls P n_i_Db_find [t10, t11] H6 fun v12 H13 =>
  Abs.sub S8 H13 ∧
  bnd (aExtract 0 v12) fun t14 =>
  bnd (aExtract 1 v12) fun t15 =>
  cnd t15
  (∃ S16, Abs.sub S16 H13 ∧
  bnd (aNil a0) fun t17 =>
  bnd (aField 0 t17) fun t18 =>
  bnd (aLd false 1 S16 t18) fun t19 =>
  bnd (partOf true 5 (cellsOf a1) 0) fun t20 =>
  ACalls P n_i_ownLsa [t20] H13 fun v21 H22 =>
  Abs.sub S16 H22 ∧
  bnd (aIndex S16 5 t19 t14) fun t23 =>
  ∃ S24, Abs.sub S24 H22 ∧
  bnd (aSt 5 H22 t23 v21) fun H25 =>
  Abs.sub S24 H25 ∧
  Ret R v5 H25)
  (∃ S26, Abs.sub S26 H13 ∧
  bnd (aNil a0) fun t27 =>
  bnd (aField 0 t27) fun t28 =>
  bnd (aLd false 1 S26 t28) fun t29 =>
  bnd (partOf true 5 (cellsOf a1) 0) fun t30 =>
  ACalls P n_i_ownLsa [t30] H13 fun v31 H32 =>
  Abs.sub S26 H32 ∧
  bnd (bsl 5 1 [(.int .i64 0), (.int .i64 0), (.int .i64 0), .nils, .nils] [(0, v31)]) fun r33 =>
  ∀ o34, H32 o34 = none →
  Abs.sub S26 (upd H32 o34 ⟨5, r33⟩) ∧
  ACalls P n_slices_Insert_i_Lsa_i_Lsa [t29, t14, (.slice o34 0 1 (some 1))] (upd H32 o34 ⟨5, r33⟩) fun v35 H36 =>
  Abs.sub S26 H36 ∧
  bnd (aNil a0) fun t37 =>
  bnd (aField 0 t37) fun t38 =>
  ∃ S39, Abs.sub S39 H36 ∧
  bnd (aSt 1 H36 t38 v35) fun H40 =>
  Abs.sub S39 H40 ∧
  Ret R v5 H40))
  (Ret R v5 H6))
theorem W_p_i_Db_install {R : V → Heap → Prop} {a0 a1 : V} {H : Heap} (h : F_p_i_Db_install R a0 a1 H) : ACalls P n_p_i_Db_install [a0, a1] H R :=
  acalls_of_form (g := ⟨[3], [19]⟩) (x := (.seq .leaf (.seq (.draw [0, 1, 2, 3, 4, 5]) (.seq (.seq .leaf (.cond (.seq (.draw [0, 1, 2, 3, 4, 5, 6, 7, 8, 9, 10]) (.seq .leaf (.cond (.drawp [[0, 1, 2, 3, 4, 5, 6, 7], [8]]) (.drawp [[0, 1, 2, 3, 4, 5, 6, 7, 8, 9, 10, 11], [12]])))) .leaf)) (.seq .leaf .leaf))))) Tryz.func69 (by kernel_rfl) (by kernel_rfl) (by kernel_rfl) (by kernel_rfl : F_p_i_Db_install R a0 a1 H = _) h
def F_p_i_Net_spread (R : V → Heap → Prop) (a0 a1 a2 a3 : V) (H : Heap) : Prop :=
  boxK a3 (bnd (aNil a0) fun t1 =>
  bnd (aField 0 t1) fun t2 =>
  bnd (aField 1 t2) fun t3 =>
  bnd (aLd false 1 H t3) fun t4 =>
  bnd (lenOf t4) fun n5 =>
  ∃ (I6 : Nat → List V → Heap → Prop) (n7 : Nat), Shr (I6 n7 [(.box (cellsOf a3)), (.int .i64 0)]) H ∧
  ∀ n8 xs10 H11, I6 n8 xs10 H11 →
  bnd (aBinN .lss (xs10.tail.headD .any) (.int .i64 (n5 : Nat))) fun t12 =>
  cnd t12
  (bnd (aIndex H11 3 t4 (xs10.tail.headD .any)) fun t13 =>
  bnd (aLd true 3 H11 t13) fun t14 =>
  bnd (stz 3 [(.int .i64 0), (.int .i64 0), (.int .i64 0)] 0 t14) fun c15 =>
  bnd (partOf false 1 c15 0) fun t16 =>
  bnd (aBinN .eql t16 a1) fun t17 =>
  gd t17 true
  (bnd (partOf false 1 c15 1) fun t18 =>
  bnd (aBinN .neq t18 a2) fun t19 =>
  cnd t19
  (bnd (partOf false 1 c15 1) fun t20 =>
  bnd (partOf true 5 (bc (xs10.headD .any)) 0) fun t21 =>
  ACalls P n_p_i_Net_send [a0, a1, t20, t21] H11 fun v22 H23 =>
  bnd (aBinN .add (xs10.tail.headD .any) (.int .i64 1)) fun t24 =>
  ∃ n9, n9 < n8 ∧ Shr (I6 n9 [(.box (bc (xs10.headD .any))), t24]) H23)
  (bnd (aBinN .add (xs10.tail.headD .any) (.int .i64 1)) fun t25 =>
  ∃ n9, n9 < n8 ∧ Shr (I6 n9 [(.box (bc (xs10.headD .any))), t25]) H11))
  (bnd (aBinN .add (xs10.tail.headD .any) (.int .i64 1)) fun t26 =>
  ∃ n9, n9 < n8 ∧ Shr (I6 n9 [(.box (bc (xs10.headD .any))), t26]) H11))
  (Ret R (.tup []) H11))
theorem W_p_i_Net_spread {R : V → Heap → Prop} {a0 a1 a2 a3 : V} {H : Heap} (h : F_p_i_Net_spread R a0 a1 a2 a3 H) : ACalls P n_p_i_Net_spread [a0, a1, a2, a3] H R :=
  acalls_of_form (g := ⟨[7, 9], [20, 25, 32]⟩) (x := (.seq .leaf (.seq .leaf (.block (.loop [7, 16] (.seq .leaf (.seq (.cond .leaf .leaf) (.seq (.block (.seq .leaf (.seq .leaf (.cond .leaf .leaf)))) .leaf)))))))) Tryz.func70 (by kernel_rfl) (by kernel_rfl) (by kernel_rfl) (by kernel_rfl : F_p_i_Net_spread R a0 a1 a2 a3 H = _) h
def F_s_PrefixOk (R : V → Heap → Prop) (a0 : V) (H : Heap) : Prop :=
  boxK a0 (∃ S1, Abs.sub S1 H ∧
  bnd (partOf false 1 (cellsOf a0) 1) fun t2 =>
  ACalls P n_s_l01In [t2, (.int .i64 0), (.int .i64 16)] H fun v3 H4 =>
  Abs.sub S1 H4 ∧
  gd v3 true
  (bnd (partOf false 1 (cellsOf a0) 0) fun t5 =>
  ACalls P n_s_l01Addr [t5] H4 fun v6 H7 =>
  Abs.sub S1 H7 ∧
  gd v6 true
  (bnd (partOf false 1 (cellsOf a0) 0) fun t8 =>
  bnd (partOf false 1 (cellsOf a0) 1) fun t9 =>
  ACalls P n_s_l01Size2 [t9] H7 fun v10 H11 =>
  Abs.sub S1 H11 ∧
  bnd (aBinN .rem t8 v10) fun t12 =>
  bnd (aBinN .eql t12 (.int .i64 0)) fun t13 =>
  Ret R t13 H11)
  (Ret R (.bool false) H7))
  (Ret R (.bool false) H4))
theorem W_s_PrefixOk {R : V → Heap → Prop} {a0 : V} {H : Heap} (h : F_s_PrefixOk R a0 H) : ACalls P n_s_PrefixOk [a0] H R :=
  acalls_of_form (g := ⟨[1], [3, 7, 12, 14]⟩) (x := (.seq .leaf (.seq (.draw [0, 1, 2, 3, 4, 5, 6, 7, 8, 9, 10, 11, 12, 13, 14, 15, 16, 17]) .leaf))) Tryz.func71 (by kernel_rfl) (by kernel_rfl) (by kernel_rfl) (by kernel_rfl : F_s_PrefixOk R a0 H = _) h
def F_s_l02Ahead (R : V → Heap → Prop) (a0 a1 : V) (H : Heap) : Prop :=
  boxK a0 (boxK a1 (bnd (partOf false 1 (cellsOf a0) 0) fun t1 =>
  bnd (partOf false 1 (cellsOf a1) 0) fun t2 =>
  bnd (aBinN .lss t1 t2) fun t3 =>
  gd t3 false
  (bnd (partOf false 1 (cellsOf a0) 0) fun t4 =>
  bnd (partOf false 1 (cellsOf a1) 0) fun t5 =>
  bnd (aBinN .eql t4 t5) fun t6 =>
  gd3 t6 true
  (bnd (partOf false 1 (cellsOf a0) 1) fun t7 =>
  bnd (partOf false 1 (cellsOf a1) 1) fun t8 =>
  bnd (aBinN .lss t7 t8) fun t9 =>
  Ret R t9 H)
  (Ret R (.bool false) H)
  (bnd (aPick (.tup []) (.tup []) (.bool false)) fun t10 =>
  Ret R t10 H))
  (Ret R (.bool true) H)))
theorem W_s_l02Ahead {R : V → Heap → Prop} {a0 a1 : V} {H : Heap} (h : F_s_l02Ahead R a0 a1 H) : ACalls P n_s_l02Ahead [a0, a1] H R :=
  acalls_of_form (g := ⟨[2, 3], [5, 7, 11, 13, 17, 19]⟩) (x := (.seq .leaf (.seq .leaf .leaf))) Tryz.func72 (by kernel_rfl) (by kernel_rfl) (by kernel_rfl) (by kernel_rfl : F_s_l02Ahead R a0 a1 H = _) h
def F_i_Graph_distances (R : V → Heap → Prop) (a0 a1 : V) (H : Heap) : Prop :=
  boxK a0 (bnd (bsl 1 1 [(.int .i64 0)] [(0, (.int .i64 1000000))]) fun r1 =>
  ∀ o2, H o2 = none →
  bnd (partOf false 1 (cellsOf a0) 0) fun t3 =>
  ACalls P n_slices_Repeat_int_int [(.slice o2 0 1 (some 1)), t3] (upd H o2 ⟨1, r1⟩) fun v4 H5 =>
  bnd (aIndex H5 1 v4 a1) fun t6 =>
  bnd (aSt 1 H5 t6 (.int .i64 0)) fun H7 =>
  bnd (partOf false 1 (cellsOf a0) 0) fun t8 =>
  ∃ (I9 : Nat → List V → Heap → Prop) (n10 : Nat), Shr (I9 n10 [(.box (cellsOf a0)), (.int .i64 0)]) H7 ∧
  ∀ n11 xs13 H14, I9 n11 xs13 H14 →
  bnd (aBinN .lss (xs13.tail.headD .any) t8) fun t15 =>
  cnd t15
  (bnd (partOf false 1 (bc (xs13.headD .any)) 1) fun t16 =>
  bnd (lenOf t16) fun n17 =>
  ∃ (I18 : Nat → List V → Heap → Prop) (n19 : Nat), Shr (I18 n19 [(.box (bc (xs13.headD .any))), (.int .i64 0)]) H14 ∧
  ∀ n20 xs22 H23, I18 n20 xs22 H23 →
  bnd (aBinN .lss (xs22.tail.headD .any) (.int .i64 (n17 : Nat))) fun t24 =>
  cnd t24
  (bnd (aIndex H23 3 t16 (xs22.tail.headD .any)) fun t25 =>
  bnd (aLd true 3 H23 t25) fun t26 =>
  bnd (stz 3 [(.int .i64 0), (.int .i64 0), (.int .i64 0)] 0 t26) fun c27 =>
  bnd (partOf false 1 c27 0) fun t28 =>
  bnd (aIndex H23 1 v4 t28) fun t29 =>
  bnd (aLd false 1 H23 t29) fun t30 =>
  bnd (aBinN .lss t30 (.int .i64 1000000)) fun t31 =>
  cnd t31
  (bnd (partOf false 1 c27 1) fun t32 =>
  bnd (partOf false 1 c27 1) fun t33 =>
  bnd (aIndex H23 1 v4 t33) fun t34 =>
  bnd (aLd false 1 H23 t34) fun t35 =>
  bnd (partOf false 1 c27 0) fun t36 =>
  bnd (aIndex H23 1 v4 t36) fun t37 =>
  bnd (aLd false 1 H23 t37) fun t38 =>
  bnd (partOf false 1 c27 2) fun t39 =>
  bnd (aBinN .add t38 t39) fun t40 =>
  bnd (aMins false t35 [t40]) fun t43 =>
  bnd (aIndex H23 1 v4 t32) fun t44 =>
  bnd (aSt 1 H23 t44 t43) fun H45 =>
  bnd (aBinN .add (xs22.tail.headD .any) (.int .i64 1)) fun t46 =>
  ∃ n21, n21 < n20 ∧ Shr (I18 n21 [(.box (bc (xs22.headD .any))), t46]) H45)
  (bnd (aBinN .add (xs22.tail.headD .any) (.int .i64 1)) fun t47 =>
  ∃ n21, n21 < n20 ∧ Shr (I18 n21 [(.box (bc (xs22.headD .any))), t47]) H23))
  (bnd (aBinN .add (xs13.tail.headD .any) (.int .i64 1)) fun t48 =>
  ∃ n12, n12 < n11 ∧ Shr (I9 n12 [(.box (bc (xs22.headD .any))), t48]) H23))
  (Ret R v4 H14))
theorem W_i_Graph_distances {R : V → Heap → Prop} {a0 a1 : V} {H : Heap} (h : F_i_Graph_distances R a0 a1 H) : ACalls P n_i_Graph_distances [a0, a1] H R :=
  acalls_of_form (g := ⟨[2, 7], [9, 15, 19, 27, 33, 36, 41, 45]⟩) (x := (.seq .leaf (.seq .leaf (.seq .leaf (.seq (.seq .leaf (.block (.loop [2, 17] (.seq .leaf (.seq (.cond .leaf .leaf) (.seq (.block (.seq .leaf (.block (.loop [2, 22] (.seq .leaf (.seq (.cond .leaf .leaf) (.seq (.block (.seq .leaf (.seq .leaf (.cond (.drawh [0, 1, 2, 3, 4, 5, 6, 7, 8, 9, 10, 11, 12, 13, 14, 15, 16, 17, 18]) .leaf)))) .leaf))))))) .leaf)))))) (.seq .leaf .leaf)))))) Tryz.func73 (by kernel_rfl) (by kernel_rfl) (by kernel_rfl) (by kernel_rfl : F_i_Graph_distances R a0 a1 H = _) h
def F_i_Lsa_sum (R : V → Heap → Prop) (a0 : V) (H : Heap) : Prop :=
  boxK a0 (bnd (partOf true 5 (cellsOf a0) 0) fun t1 =>
  ACalls P n_i_Lsa_bytes [t1] H fun v2 H3 =>
  bnd (lenOf v2) fun n4 =>
  ∃ (I5 : Nat → List V → Heap → Prop) (n6 : Nat), Shr (I5 n6 [(.int .i64 1), (.int .i64 0)]) H3 ∧
  ∀ n7 xs9 H10, I5 n7 xs9 H10 →
  bnd (aBinN .lss (xs9.tail.headD .any) (.int .i64 (n4 : Nat))) fun t11 =>
  cnd t11
  (bnd (aIndex H10 1 v2 (xs9.tail.headD .any)) fun t12 =>
  bnd (aLd false 1 H10 t12) fun t13 =>
  bnd (aBinN .mul (.int .i64 257) (xs9.headD .any)) fun t14 =>
  bnd (aCv .i64 t13) fun t15 =>
  bnd (aBinN .add t14 t15) fun t16 =>
  bnd (aBinN .add t16 (.int .i64 1)) fun t17 =>
  bnd (aBinN .rem t17 (.int .i64 1000003)) fun t18 =>
  bnd (aBinN .add (xs9.tail.headD .any) (.int .i64 1)) fun t19 =>
  ∃ n8, n8 < n7 ∧ Shr (I5 n8 [t18, t19]) H10)
  (Ret R (xs9.headD .any) H10))
theorem W_i_Lsa_sum {R : V → Heap → Prop} {a0 : V} {H : Heap} (h : F_i_Lsa_sum R a0 H) : ACalls P n_i_Lsa_sum [a0] H R :=
  acalls_of_form (g := ⟨[1], []⟩) (x := (.seq .leaf (.seq .leaf (.seq (.seq .leaf (.block (.loop [3, 9] (.seq .leaf (.seq (.cond .leaf .leaf) (.seq (.block (.seq .leaf .leaf)) .leaf)))))) (.seq .leaf .leaf))))) Tryz.func74 (by kernel_rfl) (by kernel_rfl) (by kernel_rfl) (by kernel_rfl : F_i_Lsa_sum R a0 H = _) h
def F_slices_BinarySearchFunc_i_Lsa_i_Lsa_int (R : V → Heap → Prop) (a0 a1 a2 : V) (H : Heap) : Prop :=
  bnd (lenOf a0) fun n1 =>
  ∃ (I2 : Nat → List V → Heap → Prop) (n3 : Nat), Shr (I2 n3 [(.int .i64 0), (.int .i64 (n1 : Nat))]) H ∧
  ∀ n4 xs6 H7, I2 n4 xs6 H7 →
  bnd (aBinN .lss (xs6.headD .any) (xs6.tail.headD .any)) fun t8 =>
  cnd t8
  (bnd (aBinN .add (xs6.headD .any) (xs6.tail.headD .any)) fun t9 =>
  bnd (aCv .u64 t9) fun t10 =>
  bnd (aBinN .shr t10 (.int .u64 1)) fun t11 =>
  bnd (aCv .i64 t11) fun t12 =>
  bnd (aIndex H7 5 a0 t12) fun t13 =>
  bnd (aLd true 5 H7 t13) fun t14 =>
  callK P H7 a2 [t14, a1] fun v15 H16 =>
  bnd (aBinN .lss v15 (.int .i64 0)) fun t17 =>
  cnd t17
  (bnd (aBinN .add t12 (.int .i64 1)) fun t18 =>
  ∃ n5, n5 < n4 ∧ Shr (I2 n5 [t18, (xs6.tail.headD .any)]) H16)
  (∃ n5, n5 < n4 ∧ Shr (I2 n5 [(xs6.headD .any), t12]) H16))
  (bnd (aBinN .lss (xs6.headD .any) (.int .i64 (n1 : Nat))) fun t19 =>
  gd t19 true
  (bnd (aIndex H7 5 a0 (xs6.headD .any)) fun t20 =>
  bnd (aLd true 5 H7 t20) fun t21 =>
  callK P H7 a2 [t21, a1] fun v22 H23 =>
  bnd (aBinN .eql v22 (.int .i64 0)) fun t24 =>
  Ret R (.tup [(xs6.headD .any), t24]) H23)
  (Ret R (.tup [(xs6.headD .any), (.bool false)]) H7))
theorem W_slices_BinarySearchFunc_i_Lsa_i_Lsa_int {R : V → Heap → Prop} {a0 a1 a2 : V} {H : Heap} (h : F_slices_BinarySearchFunc_i_Lsa_i_Lsa_int R a0 a1 a2 H) : ACalls P n_slices_BinarySearchFunc_i_Lsa_i_Lsa_int [a0, a1, a2] H R :=
  acalls_of_form (g := ⟨[], []⟩) (x := (.seq .leaf (.seq .leaf (.seq .leaf (.seq (.block (.loop [9, 10] (.seq (.seq .leaf (.cond .leaf .leaf)) (.block (.seq .leaf (.seq .leaf (.cond .leaf .leaf))))))) (.seq .leaf .leaf)))))) Tryz.func86 (by kernel_rfl) (by kernel_rfl) (by kernel_rfl) (by kernel_rfl : F_slices_BinarySearchFunc_i_Lsa_i_Lsa_int R a0 a1 a2 H = _) h
def F_i_Db_find_1 (R : V → Heap → Prop) (a0 a1 : V) (H : Heap) : Prop :=
  boxK a0 (bnd (partOf false 1 (cellsOf a0) 0) fun t1 =>
  ACalls P n_cmp_Compare_int [t1, a1] H fun v2 H3 =>
  Ret R v2 H3)
theorem W_i_Db_find_1 {R : V → Heap → Prop} {a0 a1 : V} {H : Heap} (h : F_i_Db_find_1 R a0 a1 H) : ACalls P n_i_Db_find_1 [a0, a1] H R :=
  acalls_of_form (g := ⟨[2], [5]⟩) (x := (.seq .leaf (.seq .leaf .leaf))) Tryz.func87 (by kernel_rfl) (by kernel_rfl) (by kernel_rfl) (by kernel_rfl : F_i_Db_find_1 R a0 a1 H = _) h
theorem E_i_Db_find_1 : enterable P n_i_Db_find_1 = true := by kernel_rfl
def F_cmp_Compare_int (R : V → Heap → Prop) (a0 a1 : V) (H : Heap) : Prop :=
  ACalls P n_cmp_isNaN_int [a0] H fun v1 H2 =>
  ACalls P n_cmp_isNaN_int [a1] H2 fun v3 H4 =>
  cnd v1
  (cnd v3
  (Ret R (.int .i64 0) H4)
  (Ret R (.int .i64 (-1)) H4))
  (cnd v3
  (Ret R (.int .i64 1) H4)
  (bnd (aBinN .lss a0 a1) fun t5 =>
  cnd t5
  (Ret R (.int .i64 (-1)) H4)
  (bnd (aBinN .gtr a0 a1) fun t6 =>
  cnd t6
  (Ret R (.int .i64 1) H4)
  (Ret R (.int .i64 0) H4))))
theorem W_cmp_Compare_int {R : V → Heap → Prop} {a0 a1 : V} {H : Heap} (h : F_cmp_Compare_int R a0 a1 H) : ACalls P n_cmp_Compare_int [a0, a1] H R :=
  acalls_of_form (g := ⟨[], []⟩) (x := (.seq .leaf (.seq .leaf (.seq .leaf (.seq (.seq .leaf (.cond (.seq (.seq .leaf (.cond (.seq .leaf .leaf) .leaf)) (.seq .leaf .leaf)) .leaf)) (.seq (.seq .leaf (.cond (.seq .leaf .leaf) .leaf)) (.seq (.seq .leaf (.cond (.seq .leaf .leaf) .leaf)) (.seq (.seq .leaf (.cond (.seq .leaf .leaf) .leaf)) (.seq .leaf .leaf))))))))) Tryz.func88 (by kernel_rfl) (by kernel_rfl) (by kernel_rfl) (by kernel_rfl : F_cmp_Compare_int R a0 a1 H = _) h
def F_slices_Clone_i_Link_i_Link (R : V → Heap → Prop) (a0 : V) (H : Heap) : Prop :=
  bnd (aBinZ .eql a0 .nils) fun t1 =>
  cnd t1
  (Ret R .nils H)
  (bnd (bsl 2 0 [(.int .i64 0), (.int .i64 0)] []) fun r2 =>
  ∀ o3, H o3 = none →
  bnd (rowsOf (upd H o3 ⟨2, r2⟩) 2 a0) fun r6 =>
  appendK (upd H o3 ⟨2, r2⟩) 2 16 (.slice o3 0 0 (some 0)) r6 fun v4 H5 =>
  Ret R v4 H5)
theorem W_slices_Clone_i_Link_i_Link {R : V → Heap → Prop} {a0 : V} {H : Heap} (h : F_slices_Clone_i_Link_i_Link R a0 H) : ACalls P n_slices_Clone_i_Link_i_Link [a0] H R :=
  acalls_of_form (g := ⟨[], []⟩) (x := (.seq .leaf (.seq (.seq .leaf (.cond (.seq .leaf .leaf) .leaf)) (.seq .leaf .leaf)))) Tryz.func89 (by kernel_rfl) (by kernel_rfl) (by kernel_rfl) (by kernel_rfl : F_slices_Clone_i_Link_i_Link R a0 H = _) h
def F_slices_Clone_i_Stub_i_Stub (R : V → Heap → Prop) (a0 : V) (H : Heap) : Prop :=
  bnd (aBinZ .eql a0 .nils) fun t1 =>
  cnd t1
  (Ret R .nils H)
  (bnd (bsl 3 0 [(.int .i64 0), (.int .i64 0), (.int .i64 0)] []) fun r2 =>
  ∀ o3, H o3 = none →
  bnd (rowsOf (upd H o3 ⟨3, r2⟩) 3 a0) fun r6 =>
  appendK (upd H o3 ⟨3, r2⟩) 3 24 (.slice o3 0 0 (some 0)) r6 fun v4 H5 =>
  Ret R v4 H5)
theorem W_slices_Clone_i_Stub_i_Stub {R : V → Heap → Prop} {a0 : V} {H : Heap} (h : F_slices_Clone_i_Stub_i_Stub R a0 H) : ACalls P n_slices_Clone_i_Stub_i_Stub [a0] H R :=
  acalls_of_form (g := ⟨[], []⟩) (x := (.seq .leaf (.seq (.seq .leaf (.cond (.seq .leaf .leaf) .leaf)) (.seq .leaf .leaf)))) Tryz.func90 (by kernel_rfl) (by kernel_rfl) (by kernel_rfl) (by kernel_rfl : F_slices_Clone_i_Stub_i_Stub R a0 H = _) h
def F_i_compareEdges (R : V → Heap → Prop) (a0 a1 : V) (H : Heap) : Prop :=
  boxK a0 (boxK a1 (bnd (partOf false 1 (cellsOf a0) 0) fun t1 =>
  bnd (partOf false 1 (cellsOf a1) 0) fun t2 =>
  bnd (aBinN .neq t1 t2) fun t3 =>
  cnd t3
  (bnd (partOf false 1 (cellsOf a0) 0) fun t4 =>
  bnd (partOf false 1 (cellsOf a1) 0) fun t5 =>
  bnd (aBinN .sub t4 t5) fun t6 =>
  Ret R t6 H)
  (bnd (partOf false 1 (cellsOf a0) 1) fun t7 =>
  bnd (partOf false 1 (cellsOf a1) 1) fun t8 =>
  bnd (aBinN .sub t7 t8) fun t9 =>
  Ret R t9 H)))
theorem W_i_compareEdges {R : V → Heap → Prop} {a0 a1 : V} {H : Heap} (h : F_i_compareEdges R a0 a1 H) : ACalls P n_i_compareEdges [a0, a1] H R :=
  acalls_of_form (g := ⟨[2, 3], [5, 7, 10, 12, 15, 17]⟩) (x := (.seq .leaf (.seq (.seq .leaf (.cond (.seq .leaf .leaf) .leaf)) (.seq .leaf .leaf)))) Tryz.func91 (by kernel_rfl) (by kernel_rfl) (by kernel_rfl) (by kernel_rfl : F_i_compareEdges R a0 a1 H = _) h
def F_i_areLinks (R : V → Heap → Prop) (a0 a1 : V) (H : Heap) : Prop :=
  bnd (lenOf a1) fun n1 =>
  ∃ (I2 : Nat → List V → Heap → Prop) (n3 : Nat), Shr (I2 n3 [(.int .i64 0)]) H ∧
  ∀ n4 xs6 H7, I2 n4 xs6 H7 →
  bnd (aBinN .lss (xs6.headD .any) (.int .i64 (n1 : Nat))) fun t8 =>
  cnd t8
  (bnd (aIndex H7 2 a1 (xs6.headD .any)) fun t9 =>
  bnd (aLd true 2 H7 t9) fun t10 =>
  bnd (stz 2 [(.int .i64 0), (.int .i64 0)] 0 t10) fun c11 =>
  ∃ S12, Abs.sub S12 H7 ∧
  bnd (partOf false 1 c11 0) fun t13 =>
  ACalls P n_i_within [t13, (.int .i64 0), (.int .i64 9)] H7 fun v14 H15 =>
  Abs.sub S12 H15 ∧
  bnd (aNot v14) fun t16 =>
  gd t16 false
  (bnd (partOf false 1 c11 1) fun t17 =>
  ACalls P n_i_within [t17, (.int .i64 1), (.int .i64 1000)] H15 fun v18 H19 =>
  Abs.sub S12 H19 ∧
  bnd (aNot v18) fun t20 =>
  gd t20 false
  (bnd (partOf false 1 c11 0) fun t21 =>
  bnd (aBinN .eql t21 a0) fun t22 =>
  gd t22 false
  (bnd (aBinN .gtr (xs6.headD .any) (.int .i64 0)) fun t23 =>
  gd3 t23 true
  (bnd (partOf false 1 c11 0) fun t24 =>
  bnd (aBinN .sub (xs6.headD .any) (.int .i64 1)) fun t25 =>
  bnd (aIndex S12 2 a1 t25) fun t26 =>
  bnd (aField 0 t26) fun t27 =>
  bnd (aLd false 1 S12 t27) fun t28 =>
  bnd (aBinN .leq t24 t28) fun t29 =>
  cnd t29
  (Ret R (.bool false) H19)
  (bnd (aBinN .add (xs6.headD .any) (.int .i64 1)) fun t30 =>
  ∃ n5, n5 < n4 ∧ Shr (I2 n5 [t30]) H19))
  (bnd (aBinN .add (xs6.headD .any) (.int .i64 1)) fun t31 =>
  ∃ n5, n5 < n4 ∧ Shr (I2 n5 [t31]) H19)
  (bnd (aPick (.tup []) (.tup []) (.bool false)) fun t32 =>
  cnd t32
  (Ret R (.bool false) H19)
  (bnd (aBinN .add (xs6.headD .any) (.int .i64 1)) fun t33 =>
  ∃ n5, n5 < n4 ∧ Shr (I2 n5 [t33]) H19)))
  (Ret R (.bool false) H19))
  (Ret R (.bool false) H19))
  (Ret R (.bool false) H15))
  (Ret R (.bool true) H7)
theorem W_i_areLinks {R : V → Heap → Prop} {a0 a1 : V} {H : Heap} (h : F_i_areLinks R a0 a1 H) : ACalls P n_i_areLinks [a0, a1] H R :=
  acalls_of_form (g := ⟨[6], [14, 19, 25, 34]⟩) (x := (.seq .leaf (.seq (.seq .leaf (.block (.loop [9] (.seq .leaf (.seq (.cond .leaf .leaf) (.seq (.block (.seq .leaf (.seq (.draw [0, 1, 2, 3, 4, 5, 6, 7, 8, 9, 10, 11, 12, 13, 14, 15, 16, 17, 18, 19, 20, 21, 22, 23, 24, 25, 26, 27, 28, 29, 30]) (.cond (.seq .leaf .leaf) .leaf)))) .leaf)))))) (.seq .leaf .leaf)))) Tryz.func92 (by kernel_rfl) (by kernel_rfl) (by kernel_rfl) (by kernel_rfl : F_i_areLinks R a0 a1 H = _) h
def F_i_areStubs (R : V → Heap → Prop) (a0 : V) (H : Heap) : Prop :=
  bnd (lenOf a0) fun n1 =>
  ∃ (I2 : Nat → List V → Heap → Prop) (n3 : Nat), Shr (I2 n3 [(.int .i64 0)]) H ∧
  ∀ n4 xs6 H7, I2 n4 xs6 H7 →
  bnd (aBinN .lss (xs6.headD .any) (.int .i64 (n1 : Nat))) fun t8 =>
  cnd t8
  (bnd (aIndex H7 3 a0 (xs6.headD .any)) fun t9 =>
  bnd (aLd true 3 H7 t9) fun t10 =>
  bnd (stz 3 [(.int .i64 0), (.int .i64 0), (.int .i64 0)] 0 t10) fun c11 =>
  ∃ S12, Abs.sub S12 H7 ∧
  bnd (partOf true 2 c11 0) fun t13 =>
  ACalls P n_i_PrefixOk [t13] H7 fun v14 H15 =>
  Abs.sub S12 H15 ∧
  bnd (aNot v14) fun t16 =>
  gd t16 false
  (bnd (partOf false 1 c11 2) fun t17 =>
  ACalls P n_i_within [t17, (.int .i64 1), (.int .i64 1000)] H15 fun v18 H19 =>
  Abs.sub S12 H19 ∧
  bnd (aNot v18) fun t20 =>
  gd t20 false
  (bnd (aBinN .gtr (xs6.headD .any) (.int .i64 0)) fun t21 =>
  gd3 t21 true
  (bnd (aBinN .sub (xs6.headD .any) (.int .i64 1)) fun t22 =>
  bnd (aIndex S12 3 a0 t22) fun t23 =>
  bnd (aField 0 t23) fun t24 =>
  bnd (aLd true 2 S12 t24) fun t25 =>
  bnd (partOf true 2 c11 0) fun t26 =>
  ACalls P n_i_comparePrefixes [t25, t26] H19 fun v27 H28 =>
  Abs.sub S12 H28 ∧
  bnd (aBinN .geq v27 (.int .i64 0)) fun t29 =>
  cnd t29
  (Ret R (.bool false) H28)
  (bnd (aBinN .add (xs6.headD .any) (.int .i64 1)) fun t30 =>
  ∃ n5, n5 < n4 ∧ Shr (I2 n5 [t30]) H28))
  (bnd (aBinN .add (xs6.headD .any) (.int .i64 1)) fun t31 =>
  ∃ n5, n5 < n4 ∧ Shr (I2 n5 [t31]) H19)
  (bnd (aPick (.tup []) (.tup []) (.bool false)) fun t32 =>
  cnd t32
  (Ret R (.bool false) H19)
  (bnd (aBinN .add (xs6.headD .any) (.int .i64 1)) fun t33 =>
  ∃ n5, n5 < n4 ∧ Shr (I2 n5 [t33]) H19)))
  (Ret R (.bool false) H19))
  (Ret R (.bool false) H15))
  (bnd (lenOf a0) fun n34 =>
  bnd (aBinN .leq (.int .i64 (n34 : Nat)) (.int .i64 6)) fun t35 =>
  Ret R t35 H7)
theorem W_i_areStubs {R : V → Heap → Prop} {a0 : V} {H : Heap} (h : F_i_areStubs R a0 H) : ACalls P n_i_areStubs [a0] H R :=
  acalls_of_form (g := ⟨[4], [12, 17, 32]⟩) (x := (.seq .leaf (.seq (.seq .leaf (.block (.loop [7] (.seq .leaf (.seq (.cond .leaf .leaf) (.seq (.block (.seq .leaf (.seq (.draw [0, 1, 2, 3, 4, 5, 6, 7, 8, 9, 10, 11, 12, 13, 14, 15, 16, 17, 18, 19, 20, 21, 22, 23, 24, 25]) (.cond (.seq .leaf .leaf) .leaf)))) .leaf)))))) (.seq .leaf .leaf)))) Tryz.func93 (by kernel_rfl) (by kernel_rfl) (by kernel_rfl) (by kernel_rfl : F_i_areStubs R a0 H = _) h
def F_cmp_Or_int (R : V → Heap → Prop) (a0 : V) (H : Heap) : Prop :=
  bnd (lenOf a0) fun n1 =>
  ∃ (I2 : Nat → List V → Heap → Prop) (n3 : Nat), Shr (I2 n3 [(.int .i64 0)]) H ∧
  ∀ n4 xs6 H7, I2 n4 xs6 H7 →
  bnd (aBinN .lss (xs6.headD .any) (.int .i64 (n1 : Nat))) fun t8 =>
  cnd t8
  (bnd (aIndex H7 1 a0 (xs6.headD .any)) fun t9 =>
  bnd (aLd false 1 H7 t9) fun t10 =>
  bnd (aBinN .neq t10 (.int .i64 0)) fun t11 =>
  cnd t11
  (Ret R t10 H7)
  (bnd (aBinN .add (xs6.headD .any) (.int .i64 1)) fun t12 =>
  ∃ n5, n5 < n4 ∧ Shr (I2 n5 [t12]) H7))
  (Ret R (.int .i64 0) H7)
theorem W_cmp_Or_int {R : V → Heap → Prop} {a0 : V} {H : Heap} (h : F_cmp_Or_int R a0 H) : ACalls P n_cmp_Or_int [a0] H R :=
  acalls_of_form (g := ⟨[], []⟩) (x := (.seq .leaf (.seq .leaf (.seq (.seq .leaf (.block (.loop [8] (.seq .leaf (.seq (.cond .leaf .leaf) (.seq (.block (.seq .leaf (.seq .leaf (.cond (.seq .leaf .leaf) .leaf)))) .leaf)))))) (.seq .leaf .leaf))))) Tryz.func94 (by kernel_rfl) (by kernel_rfl) (by kernel_rfl) (by kernel_rfl : F_cmp_Or_int R a0 H = _) h
def F_i_newer_1 (R : V → Heap → Prop) (a0 : V) (H : Heap) : Prop :=
  boxK a0 (bnd (partOf false 1 (cellsOf a0) 2) fun t1 =>
  bnd (aBinN .eql t1 (.int .i64 60)) fun t2 =>
  Ret R t2 H)
theorem W_i_newer_1 {R : V → Heap → Prop} {a0 : V} {H : Heap} (h : F_i_newer_1 R a0 H) : ACalls P n_i_newer_1 [a0] H R :=
  acalls_of_form (g := ⟨[1], [3]⟩) (x := (.seq .leaf (.seq .leaf .leaf))) Tryz.func95 (by kernel_rfl) (by kernel_rfl) (by kernel_rfl) (by kernel_rfl : F_i_newer_1 R a0 H = _) h
theorem E_i_newer_1 : enterable P n_i_newer_1 = true := by kernel_rfl
def F_s_LsaBytes (R : V → Heap → Prop) (a0 : V) (H : Heap) : Prop :=
  boxK a0 (bnd (partOf true 5 (cellsOf a0) 0) fun t1 =>
  ACalls P n_s_LsaOk [t1] H fun v2 H3 =>
  bnd (aNot v2) fun t4 =>
  cnd t4
  (Ret R .nils H3)
  (∃ S5, Abs.sub S5 H3 ∧
  bnd (partOf false 1 (cellsOf a0) 0) fun t6 =>
  bnd (aCv .u8 t6) fun t7 =>
  bnd (partOf false 1 (cellsOf a0) 1) fun t8 =>
  ACalls P n_s_l05Wide [t8, (.int .i64 3)] H3 fun v9 H10 =>
  Abs.sub S5 H10 ∧
  bnd (bsl 1 1 [(.int .u8 0)] [(0, t7)]) fun r11 =>
  ∀ o12, H10 o12 = none →
  Abs.sub S5 (upd H10 o12 ⟨1, r11⟩) ∧
  ACalls P n_s_l01Join [(.slice o12 0 1 (some 1)), v9] (upd H10 o12 ⟨1, r11⟩) fun v13 H14 =>
  Abs.sub S5 H14 ∧
  bnd (partOf false 1 (cellsOf a0) 3) fun t15 =>
  bnd (lenOf t15) fun n16 =>
  bnd (aCv .u8 (.int .i64 (n16 : Nat))) fun t17 =>
  bnd (bsl 1 1 [(.int .u8 0)] [(0, t17)]) fun r18 =>
  ∀ o19, H14 o19 = none →
  bnd (rowsOf (upd H14 o19 ⟨1, r18⟩) 1 (.slice o19 0 1 (some 1))) fun r22 =>
  appendK (upd H14 o19 ⟨1, r18⟩) 1 1 v13 r22 fun v20 H21 =>
  ∃ (I23 : Nat → List V → Heap → Prop) (n24 : Nat), Shr (I23 n24 [v20, (.int .i64 0)]) H21 ∧
  ∀ n25 xs27 H28, I23 n25 xs27 H28 →
  bnd (partOf false 1 (cellsOf a0) 3) fun t29 =>
  bnd (lenOf t29) fun n30 =>
  bnd (aBinN .lss (xs27.tail.headD .any) (.int .i64 (n30 : Nat))) fun t31 =>
  cnd t31
  (∃ S32, Abs.sub S32 H28 ∧
  bnd (partOf false 1 (cellsOf a0) 3) fun t33 =>
  bnd (aIndex S32 2 t33 (xs27.tail.headD .any)) fun t34 =>
  bnd (aField 0 t34) fun t35 =>
  bnd (aLd false 1 S32 t35) fun t36 =>
  bnd (aCv .u8 t36) fun t37 =>
  bnd (partOf false 1 (cellsOf a0) 3) fun t38 =>
  bnd (aIndex S32 2 t38 (xs27.tail.headD .any)) fun t39 =>
  bnd (aField 1 t39) fun t40 =>
  bnd (aLd false 1 S32 t40) fun t41 =>
  bnd (bsl 1 1 [(.int .u8 0)] [(0, t37)]) fun r42 =>
  ∀ o43, H28 o43 = none →
  Abs.sub S32 (upd H28 o43 ⟨1, r42⟩) ∧
  bnd (rowsOf (upd H28 o43 ⟨1, r42⟩) 1 (.slice o43 0 1 (some 1))) fun r46 =>
  appendK (upd H28 o43 ⟨1, r42⟩) 1 1 (xs27.headD .any) r46 fun v44 H45 =>
  Abs.sub S32 H45 ∧
  ACalls P n_s_l05Wide [t41, (.int .i64 2)] H45 fun v47 H48 =>
  Abs.sub S32 H48 ∧
  ACalls P n_s_l01Join [v44, v47] H48 fun v49 H50 =>
  Abs.sub S32 H50 ∧
  bnd (aBinN .add (xs27.tail.headD .any) (.int .i64 1)) fun t51 =>
  ∃ n26, n26 < n25 ∧ Shr (I23 n26 [v49, t51]) H50)
  (bnd (partOf false 1 (cellsOf a0) 4) fun t52 =>
  bnd (lenOf t52) fun n53 =>
  bnd (aCv .u8 (.int .i64 (n53 : Nat))) fun t54 =>
  bnd (bsl 1 1 [(.int .u8 0)] [(0, t54)]) fun r55 =>
  ∀ o56, H28 o56 = none →
  bnd (rowsOf (upd H28 o56 ⟨1, r55⟩) 1 (.slice o56 0 1 (some 1))) fun r59 =>
  appendK (upd H28 o56 ⟨1, r55⟩) 1 1 (xs27.headD .any) r59 fun v57 H58 =>
  ∃ (I60 : Nat → List V → Heap → Prop) (n61 : Nat), Shr (I60 n61 [(.box (cellsOf a0)), v57, (.int .i64 0)]) H58 ∧
  ∀ n62 xs64 H65, I60 n62 xs64 H65 →
  bnd (partOf false 1 (bc (xs64.headD .any)) 4) fun t66 =>
  bnd (lenOf t66) fun n67 =>
  bnd (aBinN .lss (xs64.tail.tail.headD .any) (.int .i64 (n67 : Nat))) fun t68 =>
  cnd t68
  (bnd (partOf false 1 (bc (xs64.headD .any)) 4) fun t69 =>
  bnd (aIndex H65 3 t69 (xs64.tail.tail.headD .any)) fun t70 =>
  bnd (aLd true 3 H65 t70) fun t71 =>
  bnd (stz 3 [(.int .i64 0), (.int .i64 0), (.int .i64 0)] 0 t71) fun c72 =>
  ∃ S73, Abs.sub S73 H65 ∧
  bnd (partOf false 1 c72 0) fun t74 =>
  bnd (partOf false 1 c72 1) fun t75 =>
  bnd (aCv .u8 t75) fun t76 =>
  bnd (partOf false 1 c72 2) fun t77 =>
  ACalls P n_s_l05Wide [t74, (.int .i64 2)] H65 fun v78 H79 =>
  Abs.sub S73 H79 ∧
  ACalls P n_s_l01Join [(xs64.tail.headD .any), v78] H79 fun v80 H81 =>
  Abs.sub S73 H81 ∧
  bnd (bsl 1 1 [(.int .u8 0)] [(0, t76)]) fun r82 =>
  ∀ o83, H81 o83 = none →
  Abs.sub S73 (upd H81 o83 ⟨1, r82⟩) ∧
  bnd (rowsOf (upd H81 o83 ⟨1, r82⟩) 1 (.slice o83 0 1 (some 1))) fun r86 =>
  appendK (upd H81 o83 ⟨1, r82⟩) 1 1 v80 r86 fun v84 H85 =>
  Abs.sub S73 H85 ∧
  ACalls P n_s_l05Wide [t77, (.int .i64 2)] H85 fun v87 H88 =>
  Abs.sub S73 H88 ∧
  ACalls P n_s_l01Join [v84, v87] H88 fun v89 H90 =>
  Abs.sub S73 H90 ∧
  bnd (aBinN .add (xs64.tail.tail.headD .any) (.int .i64 1)) fun t91 =>
  ∃ n63, n63 < n62 ∧ Shr (I60 n63 [(.box (bc (xs64.headD .any))), v89, t91]) H90)
  (Ret R (xs64.tail.headD .any) H65))))
theorem W_s_LsaBytes {R : V → Heap → Prop} {a0 : V} {H : Heap} (h : F_s_LsaBytes R a0 H) : ACalls P n_s_LsaBytes [a0] H R :=
  acalls_of_form (g := ⟨[1, 6], [10, 14, 19, 26, 33, 42, 51, 58, 64, 70, 71, 75, 76, 81]⟩) (x := (.seq .leaf (.seq (.seq .leaf (.cond (.seq .leaf .leaf) .leaf)) (.seq (.drawp [[0, 1, 2, 4, 5, 6, 3, 7, 8]]) (.seq .leaf (.seq (.seq .leaf (.block (.loop [3, 4] (.seq (.seq .leaf (.cond .leaf .leaf)) (.seq (.block (.draw [0, 1, 2, 3, 4, 5, 6, 7, 10, 11, 12, 13, 14, 15, 8, 9, 16, 17, 18])) .leaf))))) (.seq .leaf (.seq (.seq .leaf (.block (.loop [1, 3, 5] (.seq (.seq .leaf (.cond .leaf .leaf)) (.seq (.block (.seq .leaf (.drawp [[0, 1, 2, 3, 6, 7, 8, 9, 12, 13, 4, 5, 10, 11, 14, 15, 16]]))) .leaf))))) (.seq .leaf .leaf))))))))) Tryz.func96 (by kernel_rfl) (by kernel_rfl) (by kernel_rfl) (by kernel_rfl : F_s_LsaBytes R a0 H = _) h
def F_slices_DeleteFunc_i_Edge_i_Edge (R : V → Heap → Prop) (a0 a1 : V) (H : Heap) : Prop :=
  ACalls P n_slices_IndexFunc_i_Edge_i_Edge [a0, a1] H fun v1 H2 =>
  bnd (aBinN .eql v1 (.int .i64 (-1))) fun t3 =>
  cnd t3
  (Ret R a0 H2)
  (bnd (aBinN .add v1 (.int .i64 1)) fun t4 =>
  ∃ (I5 : Nat → List V → Heap → Prop) (n6 : Nat), Shr (I5 n6 [v1, t4]) H2 ∧
  ∀ n7 xs9 H10, I5 n7 xs9 H10 →
  bnd (lenOf a0) fun n11 =>
  bnd (aBinN .lss (xs9.tail.headD .any) (.int .i64 (n11 : Nat))) fun t12 =>
  cnd t12
  (bnd (aIndex H10 3 a0 (xs9.tail.headD .any)) fun t13 =>
  bnd (aLd true 3 H10 t13) fun t14 =>
  bnd (stz 3 [(.int .i64 0), (.int .i64 0), (.int .i64 0)] 0 t14) fun c15 =>
  bnd (partOf true 3 c15 0) fun t16 =>
  callK P H10 a1 [t16] fun v17 H18 =>
  bnd (aNot v17) fun t19 =>
  cnd t19
  (bnd (partOf true 3 c15 0) fun t20 =>
  bnd (aIndex H18 3 a0 (xs9.headD .any)) fun t21 =>
  bnd (aSt 3 H18 t21 t20) fun H22 =>
  bnd (aBinN .add (xs9.headD .any) (.int .i64 1)) fun t23 =>
  bnd (aBinN .add (xs9.tail.headD .any) (.int .i64 1)) fun t24 =>
  ∃ n8, n8 < n7 ∧ Shr (I5 n8 [t23, t24]) H22)
  (bnd (aBinN .add (xs9.tail.headD .any) (.int .i64 1)) fun t25 =>
  ∃ n8, n8 < n7 ∧ Shr (I5 n8 [(xs9.headD .any), t25]) H18))
  (bnd (aSlice H10 3 a0 (some (xs9.headD .any)) none none) fun t26 =>
  clearK H10 3 [(.int .i64 0), (.int .i64 0), (.int .i64 0)] t26 fun v27 H28 =>
  bnd (aSlice H28 3 a0 none (some (xs9.headD .any)) none) fun t29 =>
  Ret R t29 H28))
theorem W_slices_DeleteFunc_i_Edge_i_Edge {R : V → Heap → Prop} {a0 a1 : V} {H : Heap} (h : F_slices_DeleteFunc_i_Edge_i_Edge R a0 a1 H) : ACalls P n_slices_DeleteFunc_i_Edge_i_Edge [a0, a1] H R :=
  acalls_of_form (g := ⟨[7], []⟩) (x := (.seq .leaf (.seq .leaf (.seq (.seq .leaf (.cond (.seq .leaf .leaf) .leaf)) (.seq (.seq .leaf (.block (.loop [5, 6] (.seq (.seq .leaf (.cond .leaf .leaf)) (.seq (.block (.seq .leaf (.seq .leaf (.cond (.seq .leaf .leaf) .leaf)))) .leaf))))) (.seq .leaf (.seq .leaf .leaf))))))) Tryz.func97 (by kernel_rfl) (by kernel_rfl) (by kernel_rfl) (by kernel_rfl : F_slices_DeleteFunc_i_Edge_i_Edge R a0 a1 H = _) h
def F_i_Graph_setEdge_1 (R : V → Heap → Prop) (a0 a1 a2 : V) (H : Heap) : Prop :=
  boxK a0 (bnd (partOf false 1 (cellsOf a0) 0) fun t1 =>
  bnd (aLd false 1 H a1) fun t2 =>
  bnd (aBinN .eql t1 t2) fun t3 =>
  gd t3 true
  (bnd (partOf false 1 (cellsOf a0) 1) fun t4 =>
  bnd (aLd false 1 H a2) fun t5 =>
  bnd (aBinN .eql t4 t5) fun t6 =>
  Ret R t6 H)
  (Ret R (.bool false) H))
theorem W_i_Graph_setEdge_1 {R : V → Heap → Prop} {a0 a1 a2 : V} {H : Heap} (h : F_i_Graph_setEdge_1 R a0 a1 a2 H) : ACalls P n_i_Graph_setEdge_1 [a0, a1, a2] H R :=
  acalls_of_form (g := ⟨[3], [5, 10]⟩) (x := (.seq .leaf (.seq .leaf .leaf))) Tryz.func98 (by kernel_rfl) (by kernel_rfl) (by kernel_rfl) (by kernel_rfl : F_i_Graph_setEdge_1 R a0 a1 a2 H = _) h
theorem E_i_Graph_setEdge_1 : enterable P n_i_Graph_setEdge_1 = true := by kernel_rfl
def F_slices_BinarySearchFunc_i_Edge_i_Edge_i_Edge (R : V → Heap → Prop) (a0 a1 a2 : V) (H : Heap) : Prop :=
  boxK a1 (bnd (lenOf a0) fun n1 =>
  ∃ (I2 : Nat → List V → Heap → Prop) (n3 : Nat), Shr (I2 n3 [(.int .i64 0), (.int .i64 (n1 : Nat))]) H ∧
  ∀ n4 xs6 H7, I2 n4 xs6 H7 →
  bnd (aBinN .lss (xs6.headD .any) (xs6.tail.headD .any)) fun t8 =>
  cnd t8
  (bnd (aBinN .add (xs6.headD .any) (xs6.tail.headD .any)) fun t9 =>
  bnd (aCv .u64 t9) fun t10 =>
  bnd (aBinN .shr t10 (.int .u64 1)) fun t11 =>
  bnd (aCv .i64 t11) fun t12 =>
  ∃ S13, Abs.sub S13 H7 ∧
  bnd (aIndex S13 3 a0 t12) fun t14 =>
  bnd (aLd true 3 S13 t14) fun t15 =>
  bnd (partOf true 3 (cellsOf a1) 0) fun t16 =>
  callK P H7 a2 [t15, t16] fun v17 H18 =>
  Abs.sub S13 H18 ∧
  bnd (aBinN .lss v17 (.int .i64 0)) fun t19 =>
  cnd t19
  (bnd (aBinN .add t12 (.int .i64 1)) fun t20 =>
  ∃ n5, n5 < n4 ∧ Shr (I2 n5 [t20, (xs6.tail.headD .any)]) H18)
  (∃ n5, n5 < n4 ∧ Shr (I2 n5 [(xs6.headD .any), t12]) H18))
  (∃ S21, Abs.sub S21 H7 ∧
  bnd (aBinN .lss (xs6.headD .any) (.int .i64 (n1 : Nat))) fun t22 =>
  gd t22 true
  (bnd (aIndex S21 3 a0 (xs6.headD .any)) fun t23 =>
  bnd (aLd true 3 S21 t23) fun t24 =>
  bnd (partOf true 3 (cellsOf a1) 0) fun t25 =>
  callK P H7 a2 [t24, t25] fun v26 H27 =>
  Abs.sub S21 H27 ∧
  bnd (aBinN .eql v26 (.int .i64 0)) fun t28 =>
  Ret R (.tup [(xs6.headD .any), t28]) H27)
  (Ret R (.tup [(xs6.headD .any), (.bool false)]) H7)))
theorem W_slices_BinarySearchFunc_i_Edge_i_Edge_i_Edge {R : V → Heap → Prop} {a0 a1 a2 : V} {H : Heap} (h : F_slices_BinarySearchFunc_i_Edge_i_Edge_i_Edge R a0 a1 a2 H) : ACalls P n_slices_BinarySearchFunc_i_Edge_i_Edge_i_Edge [a0, a1, a2] H R :=
  acalls_of_form (g := ⟨[4], []⟩) (x := (.seq .leaf (.seq .leaf (.seq .leaf (.seq (.block (.loop [9, 10] (.seq (.seq .leaf (.cond .leaf .leaf)) (.block (.seq .leaf (.seq (.draw [0, 1, 2, 3, 4, 5, 6, 7]) (.cond .leaf .leaf))))))) (.seq (.draw [0, 1, 2, 3, 4, 5, 6, 7, 8, 9, 10, 11, 12, 13, 14, 15]) .leaf)))))) Tryz.func99 (by kernel_rfl) (by kernel_rfl) (by kernel_rfl) (by kernel_rfl : F_slices_BinarySearchFunc_i_Edge_i_Edge_i_Edge R a0 a1 a2 H = _) h
def F_slices_Insert_i_Edge_i_Edge (R : V → Heap → Prop) (a0 a1 a2 : V) (H : Heap) : Prop :=
  bnd (aSlice H 3 a0 (some a1) none none) fun t1 =>
  bnd (lenOf a2) fun n2 =>
  bnd (aBinN .eql (.int .i64 (n2 : Nat)) (.int .i64 0)) fun t3 =>
  cnd t3
  (Ret R a0 H)
  (bnd (lenOf a0) fun n4 =>
  bnd (aBinN .eql a1 (.int .i64 (n4 : Nat))) fun t5 =>
  cnd t5
  (bnd (rowsOf H 3 a2) fun r8 =>
  appendK H 3 24 a0 r8 fun v6 H7 =>
  Ret R v6 H7)
  (bnd (aBinN .add (.int .i64 (n4 : Nat)) (.int .i64 (n2 : Nat))) fun t9 =>
  capK H a0 fun v10 H11 =>
  bnd (aBinN .gtr t9 v10) fun t12 =>
  cnd t12
  (bnd (aSlice H11 3 a0 none (some a1) none) fun t13 =>
  bnd (aBinN .add (.int .i64 (n4 : Nat)) (.int .i64 (n2 : Nat))) fun t14 =>
  bnd (aBinN .sub t14 a1) fun t15 =>
  growZ H11 3 24 [(.int .i64 0), (.int .i64 0), (.int .i64 0)] t13 t15 fun v16 H17 =>
  bnd (aSlice H17 3 v16 (some a1) none none) fun t19 =>
  bnd (rowsOf H17 3 a2) fun r22 =>
  copyK H17 3 t19 r22 fun v20 H21 =>
  bnd (aBinN .add a1 (.int .i64 (n2 : Nat))) fun t23 =>
  bnd (aSlice H21 3 v16 (some t23) none none) fun t24 =>
  bnd (aSlice H21 3 a0 (some a1) none none) fun t25 =>
  bnd (rowsOf H21 3 t25) fun r28 =>
  copyK H21 3 t24 r28 fun v26 H27 =>
  Ret R v16 H27)
  (bnd (aBinN .add (.int .i64 (n4 : Nat)) (.int .i64 (n2 : Nat))) fun t29 =>
  bnd (aSlice H11 3 a0 none (some t29) none) fun t30 =>
  bnd (aBinN .add a1 (.int .i64 (n2 : Nat))) fun t31 =>
  bnd (aSlice H11 3 t30 (some t31) none none) fun t32 =>
  extK P H11 n_slices_overlaps_i_Edge [a2, t32] fun v33 H34 =>
  bnd (aNot v33) fun t35 =>
  cnd t35
  (bnd (aBinN .add a1 (.int .i64 (n2 : Nat))) fun t36 =>
  bnd (aSlice H34 3 t30 (some t36) none none) fun t37 =>
  bnd (aSlice H34 3 t30 (some a1) none none) fun t38 =>
  bnd (rowsOf H34 3 t38) fun r41 =>
  copyK H34 3 t37 r41 fun v39 H40 =>
  bnd (aSlice H40 3 t30 (some a1) none none) fun t42 =>
  bnd (rowsOf H40 3 a2) fun r45 =>
  copyK H40 3 t42 r45 fun v43 H44 =>
  Ret R t30 H44)
  (bnd (aSlice H34 3 t30 (some (.int .i64 (n4 : Nat))) none none) fun t46 =>
  bnd (rowsOf H34 3 a2) fun r49 =>
  copyK H34 3 t46 r49 fun v47 H48 =>
  bnd (aSlice H48 3 t30 (some a1) none none) fun t50 =>
  ACalls P n_slices_rotateRight_i_Edge [t50, (.int .i64 (n2 : Nat))] H48 fun v51 H52 =>
  Ret R t30 H52))))
theorem W_slices_Insert_i_Edge_i_Edge {R : V → Heap → Prop} {a0 a1 a2 : V} {H : Heap} (h : F_slices_Insert_i_Edge_i_Edge R a0 a1 a2 H) : ACalls P n_slices_Insert_i_Edge_i_Edge [a0, a1, a2] H R :=
  acalls_of_form (g := ⟨[], []⟩) (x := (.seq .leaf (.seq .leaf (.seq .leaf (.seq (.seq .leaf (.cond (.seq .leaf .leaf) .leaf)) (.seq .leaf (.seq (.seq .leaf (.cond (.seq .leaf .leaf) .leaf)) (.seq (.seq .leaf (.cond (.seq .leaf (.seq .leaf (.seq (.drawh [0, 1, 2, 3, 4, 5, 6, 7, 8]) (.seq .leaf .leaf)))) .leaf)) (.seq .leaf (.seq (.seq .leaf (.cond (.seq (.drawh [0, 1, 2, 3, 4, 5, 6, 7, 8]) (.seq .leaf (.seq .leaf .leaf))) .leaf)) (.seq .leaf (.seq .leaf (.seq .leaf .leaf))))))))))))) Tryz.func100 (by kernel_rfl) (by kernel_rfl) (by kernel_rfl) (by kernel_rfl : F_slices_Insert_i_Edge_i_Edge R a0 a1 a2 H = _) h
def F_slices_Clone_i_Edge_i_Edge (R : V → Heap → Prop) (a0 : V) (H : Heap) : Prop :=
  bnd (aBinZ .eql a0 .nils) fun t1 =>
  cnd t1
  (Ret R .nils H)
  (bnd (bsl 3 0 [(.int .i64 0), (.int .i64 0), (.int .i64 0)] []) fun r2 =>
  ∀ o3, H o3 = none →
  bnd (rowsOf (upd H o3 ⟨3, r2⟩) 3 a0) fun r6 =>
  appendK (upd H o3 ⟨3, r2⟩) 3 24 (.slice o3 0 0 (some 0)) r6 fun v4 H5 =>
  Ret R v4 H5)
theorem W_slices_Clone_i_Edge_i_Edge {R : V → Heap → Prop} {a0 : V} {H : Heap} (h : F_slices_Clone_i_Edge_i_Edge R a0 H) : ACalls P n_slices_Clone_i_Edge_i_Edge [a0] H R :=
  acalls_of_form (g := ⟨[], []⟩) (x := (.seq .leaf (.seq (.seq .leaf (.cond (.seq .leaf .leaf) .leaf)) (.seq .leaf .leaf)))) Tryz.func101 (by kernel_rfl) (by kernel_rfl) (by kernel_rfl) (by kernel_rfl : F_slices_Clone_i_Edge_i_Edge R a0 H = _) h
def F_slices_ContainsFunc_i_Edge_i_Edge (R : V → Heap → Prop) (a0 a1 : V) (H : Heap) : Prop :=
  ACalls P n_slices_IndexFunc_i_Edge_i_Edge [a0, a1] H fun v1 H2 =>
  bnd (aBinN .geq v1 (.int .i64 0)) fun t3 =>
  Ret R t3 H2
theorem W_slices_ContainsFunc_i_Edge_i_Edge {R : V → Heap → Prop} {a0 a1 : V} {H : Heap} (h : F_slices_ContainsFunc_i_Edge_i_Edge R a0 a1 H) : ACalls P n_slices_ContainsFunc_i_Edge_i_Edge [a0, a1] H R :=
  acalls_of_form (g := ⟨[], []⟩) (x := (.seq .leaf (.seq .leaf .leaf))) Tryz.func102 (by kernel_rfl) (by kernel_rfl) (by kernel_rfl) (by kernel_rfl : F_slices_ContainsFunc_i_Edge_i_Edge R a0 a1 H = _) h
def F_i_isNetwork_1 (R : V → Heap → Prop) (a0 a1 : V) (H : Heap) : Prop :=
  boxK a0 (∃ S1, Abs.sub S1 H ∧
  bnd (aLd true 2 S1 a1) fun t2 =>
  bnd (partOf false 1 (cellsOf a0) 1) fun t3 =>
  bnd (partOf false 1 (cellsOf a0) 0) fun t4 =>
  bnd (partOf false 1 (cellsOf a0) 2) fun t5 =>
  ACalls P n_i_Graph_cost [t2, t3, t4] H fun v6 H7 =>
  Abs.sub S1 H7 ∧
  bnd (aBinN .neq v6 t5) fun t8 =>
  Ret R t8 H7)
theorem W_i_isNetwork_1 {R : V → Heap → Prop} {a0 a1 : V} {H : Heap} (h : F_i_isNetwork_1 R a0 a1 H) : ACalls P n_i_isNetwork_1 [a0, a1] H R :=
  acalls_of_form (g := ⟨[2], [5, 7, 10]⟩) (x := (.seq .leaf (.seq (.draw [0, 1, 2, 3, 4, 6, 7, 5, 8, 9]) .leaf))) Tryz.func103 (by kernel_rfl) (by kernel_rfl) (by kernel_rfl) (by kernel_rfl : F_i_isNetwork_1 R a0 a1 H = _) h
theorem E_i_isNetwork_1 : enterable P n_i_isNetwork_1 = true := by kernel_rfl
def F_slices_IndexFunc_i_Db_i_Db (R : V → Heap → Prop) (a0 a1 : V) (H : Heap) : Prop :=
  bnd (lenOf a0) fun n1 =>
  ∃ (I2 : Nat → List V → Heap → Prop) (n3 : Nat), Shr (I2 n3 [(.int .i64 0)]) H ∧
  ∀ n4 xs6 H7, I2 n4 xs6 H7 →
  bnd (aBinN .lss (xs6.headD .any) (.int .i64 (n1 : Nat))) fun t8 =>
  cnd t8
  (bnd (aIndex H7 1 a0 (xs6.headD .any)) fun t9 =>
  bnd (aLd true 1 H7 t9) fun t10 =>
  callK P H7 a1 [t10] fun v11 H12 =>
  cnd v11
  (Ret R (xs6.headD .any) H12)
  (bnd (aBinN .add (xs6.headD .any) (.int .i64 1)) fun t13 =>
  ∃ n5, n5 < n4 ∧ Shr (I2 n5 [t13]) H12))
  (Ret R (.int .i64 (-1)) H7)
theorem W_slices_IndexFunc_i_Db_i_Db {R : V → Heap → Prop} {a0 a1 : V} {H : Heap} (h : F_slices_IndexFunc_i_Db_i_Db R a0 a1 H) : ACalls P n_slices_IndexFunc_i_Db_i_Db [a0, a1] H R :=
  acalls_of_form (g := ⟨[], []⟩) (x := (.seq .leaf (.seq (.seq .leaf (.block (.loop [8] (.seq .leaf (.seq (.cond .leaf .leaf) (.seq (.block (.seq .leaf (.seq .leaf (.cond (.seq .leaf .leaf) .leaf)))) .leaf)))))) (.seq .leaf .leaf)))) Tryz.func104 (by kernel_rfl) (by kernel_rfl) (by kernel_rfl) (by kernel_rfl : F_slices_IndexFunc_i_Db_i_Db R a0 a1 H = _) h
def F_slices_IndexFunc_i_Msg_i_Msg (R : V → Heap → Prop) (a0 a1 : V) (H : Heap) : Prop :=
  bnd (lenOf a0) fun n1 =>
  ∃ (I2 : Nat → List V → Heap → Prop) (n3 : Nat), Shr (I2 n3 [(.int .i64 0)]) H ∧
  ∀ n4 xs6 H7, I2 n4 xs6 H7 →
  bnd (aBinN .lss (xs6.headD .any) (.int .i64 (n1 : Nat))) fun t8 =>
  cnd t8
  (bnd (aIndex H7 7 a0 (xs6.headD .any)) fun t9 =>
  bnd (aLd true 7 H7 t9) fun t10 =>
  callK P H7 a1 [t10] fun v11 H12 =>
  cnd v11
  (Ret R (xs6.headD .any) H12)
  (bnd (aBinN .add (xs6.headD .any) (.int .i64 1)) fun t13 =>
  ∃ n5, n5 < n4 ∧ Shr (I2 n5 [t13]) H12))
  (Ret R (.int .i64 (-1)) H7)
theorem W_slices_IndexFunc_i_Msg_i_Msg {R : V → Heap → Prop} {a0 a1 : V} {H : Heap} (h : F_slices_IndexFunc_i_Msg_i_Msg R a0 a1 H) : ACalls P n_slices_IndexFunc_i_Msg_i_Msg [a0, a1] H R :=
  acalls_of_form (g := ⟨[], []⟩) (x := (.seq .leaf (.seq (.seq .leaf (.block (.loop [8] (.seq .leaf (.seq (.cond .leaf .leaf) (.seq (.block (.seq .leaf (.seq .leaf (.cond (.seq .leaf .leaf) .leaf)))) .leaf)))))) (.seq .leaf .leaf)))) Tryz.func105 (by kernel_rfl) (by kernel_rfl) (by kernel_rfl) (by kernel_rfl : F_slices_IndexFunc_i_Msg_i_Msg R a0 a1 H = _) h
def F_i_Db_offer (R : V → Heap → Prop) (a0 a1 : V) (H : Heap) : Prop :=
  boxK a0 (boxK a1 (bnd (partOf true 1 (cellsOf a0) 0) fun t1 =>
  bnd (partOf false 1 (cellsOf a1) 0) fun t2 =>
  ACalls P n_i_Db_find [t1, t2] H fun v3 H4 =>
  bnd (aExtract 0 v3) fun t5 =>
  bnd (aExtract 1 v3) fun t6 =>
  bnd (aNot t6) fun t7 =>
  cnd t7
  (bnd (partOf false 1 (cellsOf a1) 2) fun t8 =>
  bnd (aBinN .eql t8 (.int .i64 60)) fun t9 =>
  cnd t9
  (Ret R (.int .i64 1) H4)
  (Ret R (.int .i64 0) H4))
  (∃ S10, Abs.sub S10 H4 ∧
  bnd (partOf true 5 (cellsOf a1) 0) fun t11 =>
  bnd (partOf false 1 (cellsOf a0) 0) fun t12 =>
  bnd (aIndex S10 5 t12 t5) fun t13 =>
  bnd (aLd true 5 S10 t13) fun t14 =>
  ACalls P n_i_newer [t11, t14] H4 fun v15 H16 =>
  Abs.sub S10 H16 ∧
  bnd (aBinN .eql v15 (.int .i64 1)) fun t17 =>
  cnd t17
  (Ret R (.int .i64 0) H16)
  (bnd (aBinN .eql v15 (.int .i64 0)) fun t18 =>
  cnd t18
  (Ret R (.int .i64 1) H16)
  (Ret R (.int .i64 2) H16)))))
theorem W_i_Db_offer {R : V → Heap → Prop} {a0 a1 : V} {H : Heap} (h : F_i_Db_offer R a0 a1 H) : ACalls P n_i_Db_offer [a0, a1] H R :=
  acalls_of_form (g := ⟨[2, 3], [9, 16, 20]⟩) (x := (.seq .leaf (.seq .leaf (.seq (.seq .leaf (.cond (.seq (.seq .leaf (.cond (.seq .leaf .leaf) .leaf)) (.seq .leaf .leaf)) .leaf)) (.seq (.seq (.draw [0, 1, 2, 3, 4, 5, 6]) (.block (.seq .leaf (.cond (.seq .leaf .leaf) (.seq .leaf (.cond (.seq .leaf .leaf) .leaf)))))) (.seq .leaf .leaf)))))) Tryz.func106 (by kernel_rfl) (by kernel_rfl) (by kernel_rfl) (by kernel_rfl : F_i_Db_offer R a0 a1 H = _) h
def F_slices_Insert_i_Lsa_i_Lsa (R : V → Heap → Prop) (a0 a1 a2 : V) (H : Heap) : Prop :=
  bnd (aSlice H 5 a0 (some a1) none none) fun t1 =>
  bnd (lenOf a2) fun n2 =>
  bnd (aBinN .eql (.int .i64 (n2 : Nat)) (.int .i64 0)) fun t3 =>
  cnd t3
  (Ret R a0 H)
  (bnd (lenOf a0) fun n4 =>
  bnd (aBinN .eql a1 (.int .i64 (n4 : Nat))) fun t5 =>
  cnd t5
  (bnd (rowsOf H 5 a2) fun r8 =>
  appendK H 5 72 a0 r8 fun v6 H7 =>
  Ret R v6 H7)
  (bnd (aBinN .add (.int .i64 (n4 : Nat)) (.int .i64 (n2 : Nat))) fun t9 =>
  capK H a0 fun v10 H11 =>
  bnd (aBinN .gtr t9 v10) fun t12 =>
  cnd t12
  (bnd (aSlice H11 5 a0 none (some a1) none) fun t13 =>
  bnd (aBinN .add (.int .i64 (n4 : Nat)) (.int .i64 (n2 : Nat))) fun t14 =>
  bnd (aBinN .sub t14 a1) fun t15 =>
  growZ H11 5 72 [(.int .i64 0), (.int .i64 0), (.int .i64 0), .nils, .nils] t13 t15 fun v16 H17 =>
  bnd (aSlice H17 5 v16 (some a1) none none) fun t19 =>
  bnd (rowsOf H17 5 a2) fun r22 =>
  copyK H17 5 t19 r22 fun v20 H21 =>
  bnd (aBinN .add a1 (.int .i64 (n2 : Nat))) fun t23 =>
  bnd (aSlice H21 5 v16 (some t23) none none) fun t24 =>
  bnd (aSlice H21 5 a0 (some a1) none none) fun t25 =>
  bnd (rowsOf H21 5 t25) fun r28 =>
  copyK H21 5 t24 r28 fun v26 H27 =>
  Ret R v16 H27)
  (bnd (aBinN .add (.int .i64 (n4 : Nat)) (.int .i64 (n2 : Nat))) fun t29 =>
  bnd (aSlice H11 5 a0 none (some t29) none) fun t30 =>
  bnd (aBinN .add a1 (.int .i64 (n2 : Nat))) fun t31 =>
  bnd (aSlice H11 5 t30 (some t31) none none) fun t32 =>
  extK P H11 n_slices_overlaps_i_Lsa [a2, t32] fun v33 H34 =>
  bnd (aNot v33) fun t35 =>
  cnd t35
  (bnd (aBinN .add a1 (.int .i64 (n2 : Nat))) fun t36 =>
  bnd (aSlice H34 5 t30 (some t36) none none) fun t37 =>
  bnd (aSlice H34 5 t30 (some a1) none none) fun t38 =>
  bnd (rowsOf H34 5 t38) fun r41 =>
  copyK H34 5 t37 r41 fun v39 H40 =>
  bnd (aSlice H40 5 t30 (some a1) none none) fun t42 =>
  bnd (rowsOf H40 5 a2) fun r45 =>
  copyK H40 5 t42 r45 fun v43 H44 =>
  Ret R t30 H44)
  (bnd (aSlice H34 5 t30 (some (.int .i64 (n4 : Nat))) none none) fun t46 =>
  bnd (rowsOf H34 5 a2) fun r49 =>
  copyK H34 5 t46 r49 fun v47 H48 =>
  bnd (aSlice H48 5 t30 (some a1) none none) fun t50 =>
  ACalls P n_slices_rotateRight_i_Lsa [t50, (.int .i64 (n2 : Nat))] H48 fun v51 H52 =>
  Ret R t30 H52))))
theorem W_slices_Insert_i_Lsa_i_Lsa {R : V → Heap → Prop} {a0 a1 a2 : V} {H : Heap} (h : F_slices_Insert_i_Lsa_i_Lsa R a0 a1 a2 H) : ACalls P n_slices_Insert_i_Lsa_i_Lsa [a0, a1, a2] H R :=
  acalls_of_form (g := ⟨[], []⟩) (x := (.seq .leaf (.seq .leaf (.seq .leaf (.seq (.seq .leaf (.cond (.seq .leaf .leaf) .leaf)) (.seq .leaf (.seq (.seq .leaf (.cond (.seq .leaf .leaf) .leaf)) (.seq (.seq .leaf (.cond (.seq .leaf (.seq .leaf (.seq (.drawh [0, 1, 2, 3, 4, 5, 6, 7, 8]) (.seq .leaf .leaf)))) .leaf)) (.seq .leaf (.seq (.seq .leaf (.cond (.seq (.drawh [0, 1, 2, 3, 4, 5, 6, 7, 8]) (.seq .leaf (.seq .leaf .leaf))) .leaf)) (.seq .leaf (.seq .leaf (.seq .leaf .leaf))))))))))))) Tryz.func107 (by kernel_rfl) (by kernel_rfl) (by kernel_rfl) (by kernel_rfl : F_slices_Insert_i_Lsa_i_Lsa R a0 a1 a2 H = _) h
def F_s_l01Addr (R : V → Heap → Prop) (a0 : V) (H : Heap) : Prop :=
  ACalls P n_s_l01In [a0, (.int .i64 0), (.int .i64 65535)] H fun v1 H2 =>
  Ret R v1 H2
theorem W_s_l01Addr {R : V → Heap → Prop} {a0 : V} {H : Heap} (h : F_s_l01Addr R a0 H) : ACalls P n_s_l01Addr [a0] H R :=
  acalls_of_form (g := ⟨[], []⟩) (x := (.seq .leaf (.seq .leaf .leaf))) Tryz.func108 (by kernel_rfl) (by kernel_rfl) (by kernel_rfl) (by kernel_rfl : F_s_l01Addr R a0 H = _) h
def F_s_l01Size2 (R : V → Heap → Prop) (a0 : V) (H : Heap) : Prop :=
  bnd (aBinN .sub (.int .i64 16) a0) fun t1 =>
  bnd (aCv .u64 t1) fun t2 =>
  bnd (aBinN .shl (.int .i64 1) t2) fun t3 =>
  Ret R t3 H
theorem W_s_l01Size2 {R : V → Heap → Prop} {a0 : V} {H : Heap} (h : F_s_l01Size2 R a0 H) : ACalls P n_s_l01Size2 [a0] H R :=
  acalls_of_form (g := ⟨[], []⟩) (x := (.seq .leaf (.seq .leaf .leaf))) Tryz.func109 (by kernel_rfl) (by kernel_rfl) (by kernel_rfl) (by kernel_rfl : F_s_l01Size2 R a0 H = _) h
def F_slices_Repeat_int_int (R : V → Heap → Prop) (a0 a1 : V) (H : Heap) : Prop :=
  bnd (aBinN .lss a1 (.int .i64 0)) fun t1 =>
  cnd t1
  (False)
  (bnd (lenOf a0) fun n2 =>
  bnd (aCv .u64 (.int .i64 (n2 : Nat))) fun t3 =>
  bnd (aCv .u64 a1) fun t4 =>
  ACalls P n_math_bits_Mul [t3, t4] H fun v5 H6 =>
  bnd (aExtract 0 v5) fun t7 =>
  bnd (aExtract 1 v5) fun t8 =>
  bnd (aBinN .gtr t7 (.int .u64 0)) fun t9 =>
  gd t9 false
  (bnd (aBinN .gtr t8 (.int .u64 9223372036854775807)) fun t10 =>
  cnd t10
  (False)
  (bnd (aCv .i64 t8) fun t11 =>
  bnd (natOf t11) fun n12 =>
  bnd (natOf t11) fun n13 =>
  (n12 ≤ n13 ∧ n13 ≤ 140737488355328 ∧ 8 * n13 ≤ 281474976710656 ∧ 1 = 1 ∧ 0 < 1) ∧
  ∀ o14, H6 o14 = none →
  bnd (rowsOf (upd H6 o14 ⟨1, List.replicate n13 [(.int .i64 0)]⟩) 1 a0) fun r17 =>
  copyK (upd H6 o14 ⟨1, List.replicate n13 [(.int .i64 0)]⟩) 1 (.slice o14 0 n12 (some n13)) r17 fun v15 H16 =>
  ∃ (I18 : Nat → List V → Heap → Prop) (n19 : Nat), Shr (I18 n19 [v15]) H16 ∧
  ∀ n20 xs22 H23, I18 n20 xs22 H23 →
  bnd (aBinN .lss (xs22.headD .any) (.int .i64 (n12 : Nat))) fun t24 =>
  cnd t24
  (bnd (aSlice H23 1 (.slice o14 0 n12 (some n13)) (some (xs22.headD .any)) none none) fun t25 =>
  bnd (aSlice H23 1 (.slice o14 0 n12 (some n13)) none (some (xs22.headD .any)) none) fun t26 =>
  bnd (rowsOf H23 1 t26) fun r29 =>
  copyK H23 1 t25 r29 fun v27 H28 =>
  bnd (aBinN .add (xs22.headD .any) v27) fun t30 =>
  ∃ n21, n21 < n20 ∧ Shr (I18 n21 [t30]) H28)
  (Ret R (.slice o14 0 n12 (some n13)) H23)))
  (False))
theorem W_slices_Repeat_int_int {R : V → Heap → Prop} {a0 a1 : V} {H : Heap} (h : F_slices_Repeat_int_int R a0 a1 H) : ACalls P n_slices_Repeat_int_int [a0, a1] H R :=
  acalls_of_form (g := ⟨[], []⟩) (x := (.seq .leaf (.seq (.seq .leaf (.cond .leaf .leaf)) (.seq .leaf (.seq (.seq .leaf (.cond .leaf .leaf)) (.seq .leaf (.seq .leaf (.seq (.block (.loop [8] (.seq (.seq .leaf (.cond .leaf .leaf)) (.block (.drawh [0, 1, 2, 3, 4, 5, 6, 7, 8, 9]))))) (.seq .leaf .leaf))))))))) Tryz.func110 (by kernel_rfl) (by kernel_rfl) (by kernel_rfl) (by kernel_rfl : F_slices_Repeat_int_int R a0 a1 H = _) h
def F_i_Lsa_bytes (R : V → Heap → Prop) (a0 : V) (H : Heap) : Prop :=
  boxK a0 (bnd (partOf false 1 (cellsOf a0) 0) fun t1 =>
  bnd (aCv .u8 t1) fun t2 =>
  bnd (bsl 1 1 [(.int .u8 0)] [(0, t2)]) fun r3 =>
  ∀ o4, H o4 = none →
  bnd (partOf false 1 (cellsOf a0) 1) fun t5 =>
  ACalls P n_i_big [(.slice o4 0 1 (some 1)), t5, (.int .i64 3)] (upd H o4 ⟨1, r3⟩) fun v6 H7 =>
  bnd (partOf false 1 (cellsOf a0) 3) fun t8 =>
  bnd (lenOf t8) fun n9 =>
  bnd (aCv .u8 (.int .i64 (n9 : Nat))) fun t10 =>
  bnd (bsl 1 1 [(.int .u8 0)] [(0, t10)]) fun r11 =>
  ∀ o12, H7 o12 = none →
  bnd (rowsOf (upd H7 o12 ⟨1, r11⟩) 1 (.slice o12 0 1 (some 1))) fun r15 =>
  appendK (upd H7 o12 ⟨1, r11⟩) 1 1 v6 r15 fun v13 H14 =>
  bnd (partOf false 1 (cellsOf a0) 3) fun t16 =>
  bnd (lenOf t16) fun n17 =>
  ∃ (I18 : Nat → List V → Heap → Prop) (n19 : Nat), Shr (I18 n19 [(.box (cellsOf a0)), v13, (.int .i64 0)]) H14 ∧
  ∀ n20 xs22 H23, I18 n20 xs22 H23 →
  bnd (aBinN .lss (xs22.tail.tail.headD .any) (.int .i64 (n17 : Nat))) fun t24 =>
  cnd t24
  (bnd (aIndex H23 2 t16 (xs22.tail.tail.headD .any)) fun t25 =>
  bnd (aLd true 2 H23 t25) fun t26 =>
  bnd (stz 2 [(.int .i64 0), (.int .i64 0)] 0 t26) fun c27 =>
  bnd (partOf false 1 c27 0) fun t28 =>
  bnd (aCv .u8 t28) fun t29 =>
  bnd (partOf false 1 c27 1) fun t30 =>
  bnd (bsl 1 1 [(.int .u8 0)] [(0, t29)]) fun r31 =>
  ∀ o32, H23 o32 = none →
  bnd (rowsOf (upd H23 o32 ⟨1, r31⟩) 1 (.slice o32 0 1 (some 1))) fun r35 =>
  appendK (upd H23 o32 ⟨1, r31⟩) 1 1 (xs22.tail.headD .any) r35 fun v33 H34 =>
  ACalls P n_i_big [v33, t30, (.int .i64 2)] H34 fun v36 H37 =>
  bnd (aBinN .add (xs22.tail.tail.headD .any) (.int .i64 1)) fun t38 =>
  ∃ n21, n21 < n20 ∧ Shr (I18 n21 [(.box (bc (xs22.headD .any))), v36, t38]) H37)
  (bnd (partOf false 1 (bc (xs22.headD .any)) 4) fun t39 =>
  bnd (lenOf t39) fun n40 =>
  bnd (aCv .u8 (.int .i64 (n40 : Nat))) fun t41 =>
  bnd (bsl 1 1 [(.int .u8 0)] [(0, t41)]) fun r42 =>
  ∀ o43, H23 o43 = none →
  bnd (rowsOf (upd H23 o43 ⟨1, r42⟩) 1 (.slice o43 0 1 (some 1))) fun r46 =>
  appendK (upd H23 o43 ⟨1, r42⟩) 1 1 (xs22.tail.headD .any) r46 fun v44 H45 =>
  bnd (partOf false 1 (bc (xs22.headD .any)) 4) fun t47 =>
  bnd (lenOf t47) fun n48 =>
  ∃ (I49 : Nat → List V → Heap → Prop) (n50 : Nat), Shr (I49 n50 [v44, (.int .i64 0)]) H45 ∧
  ∀ n51 xs53 H54, I49 n51 xs53 H54 →
  bnd (aBinN .lss (xs53.tail.headD .any) (.int .i64 (n48 : Nat))) fun t55 =>
  cnd t55
  (bnd (aIndex H54 3 t47 (xs53.tail.headD .any)) fun t56 =>
  bnd (aLd true 3 H54 t56) fun t57 =>
  bnd (stz 3 [(.int .i64 0), (.int .i64 0), (.int .i64 0)] 0 t57) fun c58 =>
  bnd (partOf false 1 c58 0) fun t59 =>
  ACalls P n_i_big [(xs53.headD .any), t59, (.int .i64 2)] H54 fun v60 H61 =>
  bnd (partOf false 1 c58 1) fun t62 =>
  bnd (aCv .u8 t62) fun t63 =>
  bnd (partOf false 1 c58 2) fun t64 =>
  bnd (bsl 1 1 [(.int .u8 0)] [(0, t63)]) fun r65 =>
  ∀ o66, H61 o66 = none →
  bnd (rowsOf (upd H61 o66 ⟨1, r65⟩) 1 (.slice o66 0 1 (some 1))) fun r69 =>
  appendK (upd H61 o66 ⟨1, r65⟩) 1 1 v60 r69 fun v67 H68 =>
  ACalls P n_i_big [v67, t64, (.int .i64 2)] H68 fun v70 H71 =>
  bnd (aBinN .add (xs53.tail.headD .any) (.int .i64 1)) fun t72 =>
  ∃ n52, n52 < n51 ∧ Shr (I49 n52 [v70, t72]) H71)
  (Ret R (xs53.headD .any) H54)))
theorem W_i_Lsa_bytes {R : V → Heap → Prop} {a0 : V} {H : Heap} (h : F_i_Lsa_bytes R a0 H) : ACalls P n_i_Lsa_bytes [a0] H R :=
  acalls_of_form (g := ⟨[1, 5, 7], [8, 12, 16, 22, 30, 35, 40, 46, 54, 55, 59, 60, 65]⟩) (x := (.seq .leaf (.seq .leaf (.seq .leaf (.seq (.seq .leaf (.block (.loop [1, 3, 25] (.seq .leaf (.seq (.cond .leaf .leaf) (.seq (.block (.seq .leaf (.drawh [0, 1, 2, 3, 6, 7, 4, 5, 8, 9]))) .leaf)))))) (.seq .leaf (.seq (.seq .leaf (.block (.loop [3, 49] (.seq .leaf (.seq (.cond .leaf .leaf) (.seq (.block (.seq .leaf (.seq .leaf (.drawh [0, 1, 2, 3, 4, 7, 8, 5, 6, 9, 10])))) .leaf)))))) (.seq .leaf .leaf)))))))) Tryz.func111 (by kernel_rfl) (by kernel_rfl) (by kernel_rfl) (by kernel_rfl : F_i_Lsa_bytes R a0 H = _) h
def F_cmp_isNaN_int (R : V → Heap → Prop) (a0 : V) (H : Heap) : Prop :=
  bnd (aBinN .neq a0 a0) fun t1 =>
  Ret R t1 H
theorem W_cmp_isNaN_int {R : V → Heap → Prop} {a0 : V} {H : Heap} (h : F_cmp_isNaN_int R a0 H) : ACalls P n_cmp_isNaN_int [a0] H R :=
  acalls_of_form (g := ⟨[], []⟩) (x := (.seq .leaf (.seq .leaf .leaf))) Tryz.func120 (by kernel_rfl) (by kernel_rfl) (by kernel_rfl) (by kernel_rfl : F_cmp_isNaN_int R a0 H = _) h
def F_i_PrefixOk (R : V → Heap → Prop) (a0 : V) (H : Heap) : Prop :=
  boxK a0 (∃ S1, Abs.sub S1 H ∧
  bnd (partOf false 1 (cellsOf a0) 1) fun t2 =>
  ACalls P n_i_within [t2, (.int .i64 0), (.int .i64 16)] H fun v3 H4 =>
  Abs.sub S1 H4 ∧
  gd v3 true
  (bnd (partOf false 1 (cellsOf a0) 0) fun t5 =>
  ACalls P n_i_isAddr [t5] H4 fun v6 H7 =>
  Abs.sub S1 H7 ∧
  gd v6 true
  (bnd (partOf false 1 (cellsOf a0) 0) fun t8 =>
  bnd (partOf true 2 (cellsOf a0) 0) fun t9 =>
  ACalls P n_i_Prefix_size [t9] H7 fun v10 H11 =>
  Abs.sub S1 H11 ∧
  bnd (aBinN .rem t8 v10) fun t12 =>
  bnd (aBinN .eql t12 (.int .i64 0)) fun t13 =>
  Ret R t13 H11)
  (Ret R (.bool false) H7))
  (Ret R (.bool false) H4))
theorem W_i_PrefixOk {R : V → Heap → Prop} {a0 : V} {H : Heap} (h : F_i_PrefixOk R a0 H) : ACalls P n_i_PrefixOk [a0] H R :=
  acalls_of_form (g := ⟨[1], [3, 7, 12]⟩) (x := (.seq .leaf (.seq (.draw [0, 1, 2, 3, 4, 5, 6, 7, 8, 9, 10, 11, 12, 13, 14, 15, 16]) .leaf))) Tryz.func121 (by kernel_rfl) (by kernel_rfl) (by kernel_rfl) (by kernel_rfl : F_i_PrefixOk R a0 H = _) h
def F_i_comparePrefixes (R : V → Heap → Prop) (a0 a1 : V) (H : Heap) : Prop :=
  boxK a0 (boxK a1 (bnd (partOf false 1 (cellsOf a0) 0) fun t1 =>
  bnd (partOf false 1 (cellsOf a1) 0) fun t2 =>
  bnd (aBinN .neq t1 t2) fun t3 =>
  cnd t3
  (bnd (partOf false 1 (cellsOf a0) 0) fun t4 =>
  bnd (partOf false 1 (cellsOf a1) 0) fun t5 =>
  bnd (aBinN .sub t4 t5) fun t6 =>
  Ret R t6 H)
  (bnd (partOf false 1 (cellsOf a0) 1) fun t7 =>
  bnd (partOf false 1 (cellsOf a1) 1) fun t8 =>
  bnd (aBinN .sub t7 t8) fun t9 =>
  Ret R t9 H)))
theorem W_i_comparePrefixes {R : V → Heap → Prop} {a0 a1 : V} {H : Heap} (h : F_i_comparePrefixes R a0 a1 H) : ACalls P n_i_comparePrefixes [a0, a1] H R :=
  acalls_of_form (g := ⟨[2, 3], [5, 7, 10, 12, 15, 17]⟩) (x := (.seq .leaf (.seq (.seq .leaf (.cond (.seq .leaf .leaf) .leaf)) (.seq .leaf .leaf)))) Tryz.func122 (by kernel_rfl) (by kernel_rfl) (by kernel_rfl) (by kernel_rfl : F_i_comparePrefixes R a0 a1 H = _) h
def F_s_l01Join (R : V → Heap → Prop) (a0 a1 : V) (H : Heap) : Prop :=
  ACalls P n_s_l01Bytes [a0] H fun v1 H2 =>
  ∃ (I3 : Nat → List V → Heap → Prop) (n4 : Nat), Shr (I3 n4 [v1, (.int .i64 0)]) H2 ∧
  ∀ n5 xs7 H8, I3 n5 xs7 H8 →
  bnd (lenOf a1) fun n9 =>
  bnd (aBinN .lss (xs7.tail.headD .any) (.int .i64 (n9 : Nat))) fun t10 =>
  cnd t10
  (bnd (aIndex H8 1 a1 (xs7.tail.headD .any)) fun t11 =>
  bnd (aLd false 1 H8 t11) fun t12 =>
  bnd (bsl 1 1 [(.int .u8 0)] [(0, t12)]) fun r13 =>
  ∀ o14, H8 o14 = none →
  bnd (rowsOf (upd H8 o14 ⟨1, r13⟩) 1 (.slice o14 0 1 (some 1))) fun r17 =>
  appendK (upd H8 o14 ⟨1, r13⟩) 1 1 (xs7.headD .any) r17 fun v15 H16 =>
  bnd (aBinN .add (xs7.tail.headD .any) (.int .i64 1)) fun t18 =>
  ∃ n6, n6 < n5 ∧ Shr (I3 n6 [v15, t18]) H16)
  (Ret R (xs7.headD .any) H8)
theorem W_s_l01Join {R : V → Heap → Prop} {a0 a1 : V} {H : Heap} (h : F_s_l01Join R a0 a1 H) : ACalls P n_s_l01Join [a0, a1] H R :=
  acalls_of_form (g := ⟨[], []⟩) (x := (.seq .leaf (.seq .leaf (.seq (.seq .leaf (.block (.loop [5, 6] (.seq (.seq .leaf (.cond .leaf .leaf)) (.seq (.block .leaf) .leaf))))) (.seq .leaf .leaf))))) Tryz.func123 (by kernel_rfl) (by kernel_rfl) (by kernel_rfl) (by kernel_rfl : F_s_l01Join R a0 a1 H = _) h
def F_s_l05Wide (R : V → Heap → Prop) (a0 a1 : V) (H : Heap) : Prop :=
  bnd (bsl 1 0 [(.int .u8 0)] []) fun r1 =>
  ∀ o2, H o2 = none →
  bnd (aBinN .sub a1 (.int .i64 1)) fun t3 =>
  ∃ (I4 : Nat → List V → Heap → Prop) (n5 : Nat), Shr (I4 n5 [(.slice o2 0 0 (some 0)), t3]) (upd H o2 ⟨1, r1⟩) ∧
  ∀ n6 xs8 H9, I4 n6 xs8 H9 →
  bnd (aBinN .geq (xs8.tail.headD .any) (.int .i64 0)) fun t10 =>
  cnd t10
  (bnd (aBinN .mul (.int .i64 8) (xs8.tail.headD .any)) fun t11 =>
  bnd (aCv .u64 t11) fun t12 =>
  bnd (aBinN .shr a0 t12) fun t13 =>
  bnd (aBinN .and t13 (.int .i64 255)) fun t14 =>
  bnd (aCv .u8 t14) fun t15 =>
  bnd (bsl 1 1 [(.int .u8 0)] [(0, t15)]) fun r16 =>
  ∀ o17, H9 o17 = none →
  bnd (rowsOf (upd H9 o17 ⟨1, r16⟩) 1 (.slice o17 0 1 (some 1))) fun r20 =>
  appendK (upd H9 o17 ⟨1, r16⟩) 1 1 (xs8.headD .any) r20 fun v18 H19 =>
  bnd (aBinN .sub (xs8.tail.headD .any) (.int .i64 1)) fun t21 =>
  ∃ n7, n7 < n6 ∧ Shr (I4 n7 [v18, t21]) H19)
  (Ret R (xs8.headD .any) H9)
theorem W_s_l05Wide {R : V → Heap → Prop} {a0 a1 : V} {H : Heap} (h : F_s_l05Wide R a0 a1 H) : ACalls P n_s_l05Wide [a0, a1] H R :=
  acalls_of_form (g := ⟨[], []⟩) (x := (.seq .leaf (.seq .leaf (.seq (.seq .leaf (.block (.loop [5, 6] (.seq (.seq .leaf (.cond .leaf .leaf)) (.seq (.block .leaf) .leaf))))) (.seq .leaf .leaf))))) Tryz.func124 (by kernel_rfl) (by kernel_rfl) (by kernel_rfl) (by kernel_rfl : F_s_l05Wide R a0 a1 H = _) h
def F_slices_IndexFunc_i_Edge_i_Edge (R : V → Heap → Prop) (a0 a1 : V) (H : Heap) : Prop :=
  bnd (lenOf a0) fun n1 =>
  ∃ (I2 : Nat → List V → Heap → Prop) (n3 : Nat), Shr (I2 n3 [(.int .i64 0)]) H ∧
  ∀ n4 xs6 H7, I2 n4 xs6 H7 →
  bnd (aBinN .lss (xs6.headD .any) (.int .i64 (n1 : Nat))) fun t8 =>
  cnd t8
  (bnd (aIndex H7 3 a0 (xs6.headD .any)) fun t9 =>
  bnd (aLd true 3 H7 t9) fun t10 =>
  callK P H7 a1 [t10] fun v11 H12 =>
  cnd v11
  (Ret R (xs6.headD .any) H12)
  (bnd (aBinN .add (xs6.headD .any) (.int .i64 1)) fun t13 =>
  ∃ n5, n5 < n4 ∧ Shr (I2 n5 [t13]) H12))
  (Ret R (.int .i64 (-1)) H7)
theorem W_slices_IndexFunc_i_Edge_i_Edge {R : V → Heap → Prop} {a0 a1 : V} {H : Heap} (h : F_slices_IndexFunc_i_Edge_i_Edge R a0 a1 H) : ACalls P n_slices_IndexFunc_i_Edge_i_Edge [a0, a1] H R :=
  acalls_of_form (g := ⟨[], []⟩) (x := (.seq .leaf (.seq (.seq .leaf (.block (.loop [8] (.seq .leaf (.seq (.cond .leaf .leaf) (.seq (.block (.seq .leaf (.seq .leaf (.cond (.seq .leaf .leaf) .leaf)))) .leaf)))))) (.seq .leaf .leaf)))) Tryz.func125 (by kernel_rfl) (by kernel_rfl) (by kernel_rfl) (by kernel_rfl : F_slices_IndexFunc_i_Edge_i_Edge R a0 a1 H = _) h
def F_slices_rotateRight_i_Edge (R : V → Heap → Prop) (a0 a1 : V) (H : Heap) : Prop :=
  bnd (lenOf a0) fun n1 =>
  bnd (aBinN .sub (.int .i64 (n1 : Nat)) a1) fun t2 =>
  ACalls P n_slices_rotateLeft_i_Edge [a0, t2] H fun v3 H4 =>
  Ret R (.tup []) H4
theorem W_slices_rotateRight_i_Edge {R : V → Heap → Prop} {a0 a1 : V} {H : Heap} (h : F_slices_rotateRight_i_Edge R a0 a1 H) : ACalls P n_slices_rotateRight_i_Edge [a0, a1] H R :=
  acalls_of_form (g := ⟨[], []⟩) (x := .leaf) Tryz.func127 (by kernel_rfl) (by kernel_rfl) (by kernel_rfl) (by kernel_rfl : F_slices_rotateRight_i_Edge R a0 a1 H = _) h
def F_slices_rotateRight_i_Lsa (R : V → Heap → Prop) (a0 a1 : V) (H : Heap) : Prop :=
  bnd (lenOf a0) fun n1 =>
  bnd (aBinN .sub (.int .i64 (n1 : Nat)) a1) fun t2 =>
  ACalls P n_slices_rotateLeft_i_Lsa [a0, t2] H fun v3 H4 =>
  Ret R (.tup []) H4
theorem W_slices_rotateRight_i_Lsa {R : V → Heap → Prop} {a0 a1 : V} {H : Heap} (h : F_slices_rotateRight_i_Lsa R a0 a1 H) : ACalls P n_slices_rotateRight_i_Lsa [a0, a1] H R :=
  acalls_of_form (g := ⟨[], []⟩) (x := .leaf) Tryz.func129 (by kernel_rfl) (by kernel_rfl) (by kernel_rfl) (by kernel_rfl : F_slices_rotateRight_i_Lsa R a0 a1 H = _) h
def F_math_bits_Mul (R : V → Heap → Prop) (a0 a1 : V) (H : Heap) : Prop :=
  ACalls P n_math_bits_Mul64 [a0, a1] H fun v1 H2 =>
  bnd (aExtract 0 v1) fun t3 =>
  bnd (aExtract 1 v1) fun t4 =>
  Ret R (.tup [t3, t4]) H2
theorem W_math_bits_Mul {R : V → Heap → Prop} {a0 a1 : V} {H : Heap} (h : F_math_bits_Mul R a0 a1 H) : ACalls P n_math_bits_Mul [a0, a1] H R :=
  acalls_of_form (g := ⟨[], []⟩) (x := (.seq .leaf (.seq (.cond (.seq .leaf (.seq .leaf .leaf)) .leaf) (.seq .leaf (.seq .leaf .leaf))))) Tryz.func130 (by kernel_rfl) (by kernel_rfl) (by kernel_rfl) (by kernel_rfl : F_math_bits_Mul R a0 a1 H = _) h
def F_i_big (R : V → Heap → Prop) (a0 a1 a2 : V) (H : Heap) : Prop :=
  bnd (aBinN .sub a2 (.int .i64 1)) fun t1 =>
  ∃ (I2 : Nat → List V → Heap → Prop) (n3 : Nat), Shr (I2 n3 [a0, t1]) H ∧
  ∀ n4 xs6 H7, I2 n4 xs6 H7 →
  bnd (aBinN .geq (xs6.tail.headD .any) (.int .i64 0)) fun t8 =>
  cnd t8
  (bnd (aBinN .mul (.int .i64 8) (xs6.tail.headD .any)) fun t9 =>
  bnd (aBinN .shr a1 t9) fun t10 =>
  bnd (aCv .u8 t10) fun t11 =>
  bnd (bsl 1 1 [(.int .u8 0)] [(0, t11)]) fun r12 =>
  ∀ o13, H7 o13 = none →
  bnd (rowsOf (upd H7 o13 ⟨1, r12⟩) 1 (.slice o13 0 1 (some 1))) fun r16 =>
  appendK (upd H7 o13 ⟨1, r12⟩) 1 1 (xs6.headD .any) r16 fun v14 H15 =>
  bnd (aBinN .sub (xs6.tail.headD .any) (.int .i64 1)) fun t17 =>
  ∃ n5, n5 < n4 ∧ Shr (I2 n5 [v14, t17]) H15)
  (Ret R (xs6.headD .any) H7)
theorem W_i_big {R : V → Heap → Prop} {a0 a1 a2 : V} {H : Heap} (h : F_i_big R a0 a1 a2 H) : ACalls P n_i_big [a0, a1, a2] H R :=
  acalls_of_form (g := ⟨[], []⟩) (x := (.seq .leaf (.seq (.seq .leaf (.block (.loop [0, 7] (.seq (.seq .leaf (.cond .leaf .leaf)) (.seq (.block .leaf) .leaf))))) (.seq .leaf .leaf)))) Tryz.func131 (by kernel_rfl) (by kernel_rfl) (by kernel_rfl) (by kernel_rfl : F_i_big R a0 a1 a2 H = _) h
def F_i_isAddr (R : V → Heap → Prop) (a0 : V) (H : Heap) : Prop :=
  ACalls P n_i_within [a0, (.int .i64 0), (.int .i64 65535)] H fun v1 H2 =>
  Ret R v1 H2
theorem W_i_isAddr {R : V → Heap → Prop} {a0 : V} {H : Heap} (h : F_i_isAddr R a0 H) : ACalls P n_i_isAddr [a0] H R :=
  acalls_of_form (g := ⟨[], []⟩) (x := (.seq .leaf (.seq .leaf .leaf))) Tryz.func138 (by kernel_rfl) (by kernel_rfl) (by kernel_rfl) (by kernel_rfl : F_i_isAddr R a0 H = _) h
def F_i_Prefix_size (R : V → Heap → Prop) (a0 : V) (H : Heap) : Prop :=
  boxK a0 (bnd (partOf false 1 (cellsOf a0) 1) fun t1 =>
  bnd (aBinN .sub (.int .i64 16) t1) fun t2 =>
  bnd (aBinN .shl (.int .i64 1) t2) fun t3 =>
  Ret R t3 H)
theorem W_i_Prefix_size {R : V → Heap → Prop} {a0 : V} {H : Heap} (h : F_i_Prefix_size R a0 H) : ACalls P n_i_Prefix_size [a0] H R :=
  acalls_of_form (g := ⟨[1], [3]⟩) (x := (.seq .leaf (.seq .leaf .leaf))) Tryz.func139 (by kernel_rfl) (by kernel_rfl) (by kernel_rfl) (by kernel_rfl : F_i_Prefix_size R a0 H = _) h
def F_s_l01Bytes (R : V → Heap → Prop) (a0 : V) (H : Heap) : Prop :=
  bnd (bsl 1 0 [(.int .u8 0)] []) fun r1 =>
  ∀ o2, H o2 = none →
  ∃ (I3 : Nat → List V → Heap → Prop) (n4 : Nat), Shr (I3 n4 [(.slice o2 0 0 (some 0)), (.int .i64 0)]) (upd H o2 ⟨1, r1⟩) ∧
  ∀ n5 xs7 H8, I3 n5 xs7 H8 →
  bnd (lenOf a0) fun n9 =>
  bnd (aBinN .lss (xs7.tail.headD .any) (.int .i64 (n9 : Nat))) fun t10 =>
  cnd t10
  (bnd (aIndex H8 1 a0 (xs7.tail.headD .any)) fun t11 =>
  bnd (aLd false 1 H8 t11) fun t12 =>
  bnd (bsl 1 1 [(.int .u8 0)] [(0, t12)]) fun r13 =>
  ∀ o14, H8 o14 = none →
  bnd (rowsOf (upd H8 o14 ⟨1, r13⟩) 1 (.slice o14 0 1 (some 1))) fun r17 =>
  appendK (upd H8 o14 ⟨1, r13⟩) 1 1 (xs7.headD .any) r17 fun v15 H16 =>
  bnd (aBinN .add (xs7.tail.headD .any) (.int .i64 1)) fun t18 =>
  ∃ n6, n6 < n5 ∧ Shr (I3 n6 [v15, t18]) H16)
  (Ret R (xs7.headD .any) H8)
theorem W_s_l01Bytes {R : V → Heap → Prop} {a0 : V} {H : Heap} (h : F_s_l01Bytes R a0 H) : ACalls P n_s_l01Bytes [a0] H R :=
  acalls_of_form (g := ⟨[], []⟩) (x := (.seq .leaf (.seq .leaf (.seq (.seq .leaf (.block (.loop [3, 4] (.seq (.seq .leaf (.cond .leaf .leaf)) (.seq (.block .leaf) .leaf))))) (.seq .leaf .leaf))))) Tryz.func140 (by kernel_rfl) (by kernel_rfl) (by kernel_rfl) (by kernel_rfl : F_s_l01Bytes R a0 H = _) h
def F_slices_rotateLeft_i_Edge (R : V → Heap → Prop) (a0 a1 : V) (H : Heap) : Prop :=
  bnd (aSlice H 3 a0 none (some a1) none) fun t1 =>
  ACalls P n_slices_Reverse_i_Edge_i_Edge [t1] H fun v2 H3 =>
  bnd (aSlice H3 3 a0 (some a1) none none) fun t4 =>
  ACalls P n_slices_Reverse_i_Edge_i_Edge [t4] H3 fun v5 H6 =>
  ACalls P n_slices_Reverse_i_Edge_i_Edge [a0] H6 fun v7 H8 =>
  Ret R (.tup []) H8
theorem W_slices_rotateLeft_i_Edge {R : V → Heap → Prop} {a0 a1 : V} {H : Heap} (h : F_slices_rotateLeft_i_Edge R a0 a1 H) : ACalls P n_slices_rotateLeft_i_Edge [a0, a1] H R :=
  acalls_of_form (g := ⟨[], []⟩) (x := (.seq .leaf (.seq .leaf .leaf))) Tryz.func141 (by kernel_rfl) (by kernel_rfl) (by kernel_rfl) (by kernel_rfl : F_slices_rotateLeft_i_Edge R a0 a1 H = _) h
def F_slices_rotateLeft_i_Lsa (R : V → Heap → Prop) (a0 a1 : V) (H : Heap) : Prop :=
  bnd (aSlice H 5 a0 none (some a1) none) fun t1 =>
  ACalls P n_slices_Reverse_i_Lsa_i_Lsa [t1] H fun v2 H3 =>
  bnd (aSlice H3 5 a0 (some a1) none none) fun t4 =>
  ACalls P n_slices_Reverse_i_Lsa_i_Lsa [t4] H3 fun v5 H6 =>
  ACalls P n_slices_Reverse_i_Lsa_i_Lsa [a0] H6 fun v7 H8 =>
  Ret R (.tup []) H8
theorem W_slices_rotateLeft_i_Lsa {R : V → Heap → Prop} {a0 a1 : V} {H : Heap} (h : F_slices_rotateLeft_i_Lsa R a0 a1 H) : ACalls P n_slices_rotateLeft_i_Lsa [a0, a1] H R :=
  acalls_of_form (g := ⟨[], []⟩) (x := (.seq .leaf (.seq .leaf .leaf))) Tryz.func142 (by kernel_rfl) (by kernel_rfl) (by kernel_rfl) (by kernel_rfl : F_slices_rotateLeft_i_Lsa R a0 a1 H = _) h
def F_math_bits_Mul32 (R : V → Heap → Prop) (a0 a1 : V) (H : Heap) : Prop :=
  bnd (aCv .u64 a0) fun t1 =>
  bnd (aCv .u64 a1) fun t2 =>
  bnd (aBinN .mul t1 t2) fun t3 =>
  bnd (aBinN .shr t3 (.int .u64 32)) fun t4 =>
  bnd (aCv .u32 t4) fun t5 =>
  bnd (aCv .u32 t3) fun t6 =>
  Ret R (.tup [t5, t6]) H
theorem W_math_bits_Mul32 {R : V → Heap → Prop} {a0 a1 : V} {H : Heap} (h : F_math_bits_Mul32 R a0 a1 H) : ACalls P n_math_bits_Mul32 [a0, a1] H R :=
  acalls_of_form (g := ⟨[], []⟩) (x := (.seq .leaf (.seq .leaf (.seq .leaf .leaf)))) Tryz.func143 (by kernel_rfl) (by kernel_rfl) (by kernel_rfl) (by kernel_rfl : F_math_bits_Mul32 R a0 a1 H = _) h
def F_math_bits_Mul64 (R : V → Heap → Prop) (a0 a1 : V) (H : Heap) : Prop :=
  bnd (aBinN .and a0 (.int .u64 4294967295)) fun t1 =>
  bnd (aBinN .shr a0 (.int .u64 32)) fun t2 =>
  bnd (aBinN .and a1 (.int .u64 4294967295)) fun t3 =>
  bnd (aBinN .shr a1 (.int .u64 32)) fun t4 =>
  bnd (aBinN .mul t1 t3) fun t5 =>
  bnd (aBinN .mul t2 t3) fun t6 =>
  bnd (aBinN .shr t5 (.int .u64 32)) fun t7 =>
  bnd (aBinN .add t6 t7) fun t8 =>
  bnd (aBinN .and t8 (.int .u64 4294967295)) fun t9 =>
  bnd (aBinN .shr t8 (.int .u64 32)) fun t10 =>
  bnd (aBinN .mul t1 t4) fun t11 =>
  bnd (aBinN .add t9 t11) fun t12 =>
  bnd (aBinN .mul t2 t4) fun t13 =>
  bnd (aBinN .add t13 t10) fun t14 =>
  bnd (aBinN .shr t12 (.int .u64 32)) fun t15 =>
  bnd (aBinN .add t14 t15) fun t16 =>
  bnd (aBinN .mul a0 a1) fun t17 =>
  Ret R (.tup [t16, t17]) H
theorem W_math_bits_Mul64 {R : V → Heap → Prop} {a0 a1 : V} {H : Heap} (h : F_math_bits_Mul64 R a0 a1 H) : ACalls P n_math_bits_Mul64 [a0, a1] H R :=
  acalls_of_form (g := ⟨[], []⟩) (x := (.seq .leaf (.seq .leaf (.seq .leaf (.seq .leaf (.seq .leaf (.seq .leaf (.seq .leaf (.seq .leaf (.seq .leaf (.seq .leaf (.seq .leaf (.seq .leaf .leaf))))))))))))) Tryz.func144 (by kernel_rfl) (by kernel_rfl) (by kernel_rfl) (by kernel_rfl : F_math_bits_Mul64 R a0 a1 H = _) h
def F_slices_Reverse_i_Edge_i_Edge (R : V → Heap → Prop) (a0 : V) (H : Heap) : Prop :=
  bnd (lenOf a0) fun n1 =>
  bnd (aBinN .sub (.int .i64 (n1 : Nat)) (.int .i64 1)) fun t2 =>
  ∃ (I3 : Nat → List V → Heap → Prop) (n4 : Nat), Shr (I3 n4 [(.int .i64 0), t2]) H ∧
  ∀ n5 xs7 H8, I3 n5 xs7 H8 →
  bnd (aBinN .lss (xs7.headD .any) (xs7.tail.headD .any)) fun t9 =>
  cnd t9
  (bnd (aIndex H8 3 a0 (xs7.tail.headD .any)) fun t10 =>
  bnd (aLd true 3 H8 t10) fun t11 =>
  bnd (aIndex H8 3 a0 (xs7.headD .any)) fun t12 =>
  bnd (aLd true 3 H8 t12) fun t13 =>
  bnd (aIndex H8 3 a0 (xs7.headD .any)) fun t14 =>
  bnd (aSt 3 H8 t14 t11) fun H15 =>
  bnd (aIndex H15 3 a0 (xs7.tail.headD .any)) fun t16 =>
  bnd (aSt 3 H15 t16 t13) fun H17 =>
  bnd (aBinN .add (xs7.headD .any) (.int .i64 1)) fun t18 =>
  bnd (aBinN .sub (xs7.tail.headD .any) (.int .i64 1)) fun t19 =>
  ∃ n6, n6 < n5 ∧ Shr (I3 n6 [t18, t19]) H17)
  (Ret R (.tup []) H8)
theorem W_slices_Reverse_i_Edge_i_Edge {R : V → Heap → Prop} {a0 : V} {H : Heap} (h : F_slices_Reverse_i_Edge_i_Edge R a0 H) : ACalls P n_slices_Reverse_i_Edge_i_Edge [a0] H R :=
  acalls_of_form (g := ⟨[], []⟩) (x := (.seq .leaf (.block (.loop [2, 3] (.seq (.seq .leaf (.cond .leaf .leaf)) (.seq (.block (.drawh [0, 1, 2, 3, 4, 5, 6, 7, 8, 9, 10, 11, 12, 13, 14, 15])) .leaf)))))) Tryz.func146 (by kernel_rfl) (by kernel_rfl) (by kernel_rfl) (by kernel_rfl : F_slices_Reverse_i_Edge_i_Edge R a0 H = _) h
def F_slices_Reverse_i_Lsa_i_Lsa (R : V → Heap → Prop) (a0 : V) (H : Heap) : Prop :=
  bnd (lenOf a0) fun n1 =>
  bnd (aBinN .sub (.int .i64 (n1 : Nat)) (.int .i64 1)) fun t2 =>
  ∃ (I3 : Nat → List V → Heap → Prop) (n4 : Nat), Shr (I3 n4 [(.int .i64 0), t2]) H ∧
  ∀ n5 xs7 H8, I3 n5 xs7 H8 →
  bnd (aBinN .lss (xs7.headD .any) (xs7.tail.headD .any)) fun t9 =>
  cnd t9
  (bnd (aIndex H8 5 a0 (xs7.tail.headD .any)) fun t10 =>
  bnd (aLd true 5 H8 t10) fun t11 =>
  bnd (aIndex H8 5 a0 (xs7.headD .any)) fun t12 =>
  bnd (aLd true 5 H8 t12) fun t13 =>
  bnd (aIndex H8 5 a0 (xs7.headD .any)) fun t14 =>
  bnd (aSt 5 H8 t14 t11) fun H15 =>
  bnd (aIndex H15 5 a0 (xs7.tail.headD .any)) fun t16 =>
  bnd (aSt 5 H15 t16 t13) fun H17 =>
  bnd (aBinN .add (xs7.headD .any) (.int .i64 1)) fun t18 =>
  bnd (aBinN .sub (xs7.tail.headD .any) (.int .i64 1)) fun t19 =>
  ∃ n6, n6 < n5 ∧ Shr (I3 n6 [t18, t19]) H17)
  (Ret R (.tup []) H8)
theorem W_slices_Reverse_i_Lsa_i_Lsa {R : V → Heap → Prop} {a0 : V} {H : Heap} (h : F_slices_Reverse_i_Lsa_i_Lsa R a0 H) : ACalls P n_slices_Reverse_i_Lsa_i_Lsa [a0] H R :=
  acalls_of_form (g := ⟨[], []⟩) (x := (.seq .leaf (.block (.loop [2, 3] (.seq (.seq .leaf (.cond .leaf .leaf)) (.seq (.block (.drawh [0, 1, 2, 3, 4, 5, 6, 7, 8, 9, 10, 11, 12, 13, 14, 15])) .leaf)))))) Tryz.func147 (by kernel_rfl) (by kernel_rfl) (by kernel_rfl) (by kernel_rfl : F_slices_Reverse_i_Lsa_i_Lsa R a0 H = _) h
theorem X_slices_overlaps_i_Edge : ovE P n_slices_overlaps_i_Edge := ⟨Tryz.f126, 24, 4, 95, 3, Tryz.func126, by kernel_rfl, by kernel_rfl, by kernel_rfl, by kernel_rfl, by kernel_rfl, by kernel_rfl⟩
theorem X_slices_overlaps_i_Lsa : ovE P n_slices_overlaps_i_Lsa := ⟨Tryz.f128, 46, 4, 41, 5, Tryz.func128, by kernel_rfl, by kernel_rfl, by kernel_rfl, by kernel_rfl, by kernel_rfl, by kernel_rfl⟩
end Go.Proofs.YtohicpepcjgnaaaGreat
