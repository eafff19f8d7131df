/-
The shallow forms of the functions; printed by a program.
-/
import Derived.Test.YtohicpepcjgnaaaGreatAbs3
import Derived.Test.YtohicpepcjgnaaaGreatProg
import Derived.KernelRfl
set_option linter.all false
namespace Go.Proofs.YtohicpepcjgnaaaGreat
open Go Go.Abs Go.Proofs
set_option maxRecDepth 100000
noncomputable abbrev P : Program := Tryz.prog
abbrev n_gosem_cut_init : FuncId := 2
abbrev n_l_FnFlooded : FuncId := 3
abbrev n_l_FnDelivered : FuncId := 4
abbrev n_l_big : FuncId := 5
abbrev n_l_lived : FuncId := 6
abbrev n_i_Settle : FuncId := 7
abbrev n_s_NetOk : FuncId := 8
abbrev n_i_Agree : FuncId := 9
abbrev n_s_Agree : FuncId := 10
abbrev n_s_DrawDeliver : FuncId := 11
abbrev n_s_Deliver : FuncId := 12
abbrev n_i_Deliver : FuncId := 13
abbrev n_i_FindLsa : FuncId := 14
abbrev n_i_CostOf : FuncId := 15
abbrev n_i_Newer : FuncId := 16
abbrev n_i_Lose : FuncId := 17
abbrev n_i_Double : FuncId := 18
abbrev n_i_DbSum : FuncId := 19
abbrev n_s_DbSum : FuncId := 20
abbrev n_l_at : FuncId := 21
abbrev n_i_NewNet : FuncId := 22
abbrev n_i_SetLink : FuncId := 23
abbrev n_i_Announce : FuncId := 24
abbrev n_i_ownNet : FuncId := 25
abbrev n_i_NetOk : FuncId := 26
abbrev n_p_i_Net_deliver : FuncId := 27
abbrev n_s_GraphOk : FuncId := 28
abbrev n_s_l08Pairs : FuncId := 29
abbrev n_s_l01In : FuncId := 30
abbrev n_s_DbOk : FuncId := 31
abbrev n_s_l03Node : FuncId := 32
abbrev n_s_LsaOk : FuncId := 33
abbrev n_i_Graph_all : FuncId := 34
abbrev n_i_Db_sum : FuncId := 35
abbrev n_s_Distances : FuncId := 36
abbrev n_s_l08Draw : FuncId := 37
abbrev n_s_l08DrawPlace : FuncId := 38
abbrev n_s_l08Copy : FuncId := 39
abbrev n_s_l08Off : FuncId := 40
abbrev n_s_l03Cost : FuncId := 41
abbrev n_s_Install : FuncId := 42
abbrev n_s_l08Spread : FuncId := 43
abbrev n_s_FindLsa : FuncId := 44
abbrev n_s_l08Send : FuncId := 45
abbrev n_i_isMsg : FuncId := 46
abbrev n_i_DbOk : FuncId := 47
abbrev n_i_Db_find : FuncId := 48
abbrev n_i_ownLsa : FuncId := 49
abbrev n_i_GraphOk : FuncId := 50
abbrev n_i_Graph_cost : FuncId := 51
abbrev n_i_LsaOk : FuncId := 52
abbrev n_i_newer : FuncId := 53
abbrev n_slices_Delete_i_Msg_i_Msg : FuncId := 54
abbrev n_p_i_Net_send : FuncId := 55
abbrev n_s_LsaSum : FuncId := 56
abbrev n_i_within : FuncId := 57
abbrev n_i_Graph_isNode : FuncId := 58
abbrev n_i_Graph_setEdge : FuncId := 59
abbrev n_p_i_Net_announce : FuncId := 60
abbrev n_p_i_Net_tell : FuncId := 61
abbrev n_i_ownGraph : FuncId := 62
abbrev n_i_ownDb : FuncId := 63
abbrev n_i_isNetwork : FuncId := 64
abbrev n_slices_ContainsFunc_i_Db_i_Db : FuncId := 65
abbrev n_i_NetOk_1 : FuncId := 66
abbrev n_slices_ContainsFunc_i_Msg_i_Msg : FuncId := 67
abbrev n_i_NetOk_2 : FuncId := 68
abbrev n_p_i_Db_install : FuncId := 69
abbrev n_p_i_Net_spread : FuncId := 70
abbrev n_s_PrefixOk : FuncId := 71
abbrev n_s_l02Ahead : FuncId := 72
abbrev n_i_Graph_distances : FuncId := 73
abbrev n_i_Lsa_sum : FuncId := 74
abbrev n_s_l01New : FuncId := 75
abbrev n_s_l08DrawNet : FuncId := 76
abbrev n_s_l01Below : FuncId := 77
abbrev n_s_l01Size : FuncId := 78
abbrev n_s_l01Once : FuncId := 79
abbrev n_s_l08Bend : FuncId := 80
abbrev n_s_l01PickInt : FuncId := 81
abbrev n_s_l03Copy : FuncId := 82
abbrev n_s_l06Copy : FuncId := 83
abbrev n_s_l05Copy : FuncId := 84
abbrev n_s_Newer : FuncId := 85
abbrev n_slices_BinarySearchFunc_i_Lsa_i_Lsa_int : FuncId := 86
abbrev n_i_Db_find_1 : FuncId := 87
abbrev n_cmp_Compare_int : FuncId := 88
abbrev n_slices_Clone_i_Link_i_Link : FuncId := 89
abbrev n_slices_Clone_i_Stub_i_Stub : FuncId := 90
abbrev n_i_compareEdges : FuncId := 91
abbrev n_i_areLinks : FuncId := 92
abbrev n_i_areStubs : FuncId := 93
abbrev n_cmp_Or_int : FuncId := 94
abbrev n_i_newer_1 : FuncId := 95
abbrev n_s_LsaBytes : FuncId := 96
abbrev n_slices_DeleteFunc_i_Edge_i_Edge : FuncId := 97
abbrev n_i_Graph_setEdge_1 : FuncId := 98
abbrev n_slices_BinarySearchFunc_i_Edge_i_Edge_i_Edge : FuncId := 99
abbrev n_slices_Insert_i_Edge_i_Edge : FuncId := 100
abbrev n_slices_Clone_i_Edge_i_Edge : FuncId := 101
abbrev n_slices_ContainsFunc_i_Edge_i_Edge : FuncId := 102
abbrev n_i_isNetwork_1 : FuncId := 103
abbrev n_slices_IndexFunc_i_Db_i_Db : FuncId := 104
abbrev n_slices_IndexFunc_i_Msg_i_Msg : FuncId := 105
abbrev n_i_Db_offer : FuncId := 106
abbrev n_slices_Insert_i_Lsa_i_Lsa : FuncId := 107
abbrev n_s_l01Addr : FuncId := 108
abbrev n_s_l01Size2 : FuncId := 109
abbrev n_slices_Repeat_int_int : FuncId := 110
abbrev n_i_Lsa_bytes : FuncId := 111
abbrev n_s_NewNet : FuncId := 112
abbrev n_s_SetLink : FuncId := 113
abbrev n_s_Lose : FuncId := 114
abbrev n_s_Announce : FuncId := 115
abbrev n_s_l01Byte : FuncId := 116
abbrev n_s_l05DrawLsa : FuncId := 117
abbrev n_s_l05Bend : FuncId := 118
abbrev n_s_l05Sign : FuncId := 119
abbrev n_cmp_isNaN_int : FuncId := 120
abbrev n_i_PrefixOk : FuncId := 121
abbrev n_i_comparePrefixes : FuncId := 122
abbrev n_s_l01Join : FuncId := 123
abbrev n_s_l05Wide : FuncId := 124
abbrev n_slices_IndexFunc_i_Edge_i_Edge : FuncId := 125
abbrev n_slices_overlaps_i_Edge : FuncId := 126
abbrev n_slices_rotateRight_i_Edge : FuncId := 127
abbrev n_slices_overlaps_i_Lsa : FuncId := 128
abbrev n_slices_rotateRight_i_Lsa : FuncId := 129
abbrev n_math_bits_Mul : FuncId := 130
abbrev n_i_big : FuncId := 131
abbrev n_s_Without : FuncId := 132
abbrev n_s_l03Put : FuncId := 133
abbrev n_s_l08Tell : FuncId := 134
abbrev n_s_l05DrawLinks : FuncId := 135
abbrev n_s_l05DrawStubs : FuncId := 136
abbrev n_s_l01DrawPrefix : FuncId := 137
abbrev n_i_isAddr : FuncId := 138
abbrev n_i_Prefix_size : FuncId := 139
abbrev n_s_l01Bytes : FuncId := 140
abbrev n_slices_rotateLeft_i_Edge : FuncId := 141
abbrev n_slices_rotateLeft_i_Lsa : FuncId := 142
abbrev n_math_bits_Mul32 : FuncId := 143
abbrev n_math_bits_Mul64 : FuncId := 144
abbrev n_s_PutRoute : FuncId := 145
abbrev n_slices_Reverse_i_Edge_i_Edge : FuncId := 146
abbrev n_slices_Reverse_i_Lsa_i_Lsa : FuncId := 147
abbrev n_s_TableOk : FuncId := 148
abbrev n_s_l02Copy : FuncId := 149
abbrev n_s_l02Less : FuncId := 150
def F_l_FnDelivered (R : V → Heap → Prop) (a0 : V) (H : Heap) : Prop :=
  ACalls P n_l_big [a0] H fun v1 H2 =>
  cnd v1
  (Ret R (.bool true) H2)
  (ACalls P n_s_DrawDeliver [a0] H2 fun v3 H4 =>
  bnd (aExtract 0 v3) fun t5 =>
  bnd (aExtract 1 v3) fun t6 =>
  bnd (stz 5 [(.int .i64 0), .nils, .nils, .nils, (.int .i64 0)] 0 t5) fun c7 =>
  bnd (partOf true 5 c7 0) fun t8 =>
  ACalls P n_s_Deliver [t8, t6] H4 fun v9 H10 =>
  bnd (aExtract 0 v9) fun t11 =>
  bnd (aExtract 1 v9) fun t12 =>
  bnd (stz 5 [(.int .i64 0), .nils, .nils, .nils, (.int .i64 0)] 0 t11) fun c13 =>
  bnd (partOf true 5 c7 0) fun t14 =>
  ACalls P n_i_Deliver [t14, t6] H10 fun v15 H16 =>
  bnd (aExtract 0 v15) fun t17 =>
  bnd (aExtract 1 v15) fun t18 =>
  bnd (stz 5 [(.int .i64 0), .nils, .nils, .nils, (.int .i64 0)] 0 t17) fun c19 =>
  ∃ J20 : List V → Heap → Prop,
  (bnd (aBinB .neq t18 t12) fun t23 =>
  gd t23 false
  (bnd (partOf false 1 c19 3) fun t24 =>
  bnd (lenOf t24) fun n25 =>
  bnd (partOf false 1 c13 3) fun t26 =>
  bnd (lenOf t26) fun n27 =>
  bnd (aBinN .neq (.int .i64 (n25 : Nat)) (.int .i64 (n27 : Nat))) fun t28 =>
  cnd t28
  (Ret R (.bool false) H16)
  (Shr (J20 []) H16))
  (Ret R (.bool false) H16)) ∧
  ∀ xs21 H22, J20 xs21 H22 →
  bnd (aNot t12) fun t29 =>
  cnd t29
  (Ret R (.bool true) H22)
  (bnd (partOf false 1 c7 3) fun t30 =>
  bnd (aIndex H22 7 t30 t6) fun t31 =>
  bnd (aLd true 7 H22 t31) fun t32 =>
  bnd (stz 7 [(.int .i64 0), (.int .i64 0), (.int .i64 0), (.int .i64 0), (.int .i64 0), .nils, .nils] 0 t32) fun c33 =>
  bnd (partOf false 1 c19 2) fun t34 =>
  bnd (partOf false 1 c33 1) fun t35 =>
  bnd (aIndex H22 1 t34 t35) fun t36 =>
  bnd (aLd true 1 H22 t36) fun t37 =>
  bnd (partOf false 1 c33 2) fun t38 =>
  ACalls P n_i_FindLsa [t37, t38] H22 fun v39 H40 =>
  bnd (aExtract 0 v39) fun t41 =>
  bnd (aExtract 1 v39) fun t42 =>
  ∀ o43, H40 o43 = none →
  bnd (aSt 5 (upd H40 o43 ⟨5, [[(.int .i64 0), (.int .i64 0), (.int .i64 0), .nils, .nils]]⟩) (.ptr o43 0 0) t41) fun H44 =>
  ∃ J45 : List V → Heap → Prop,
  (bnd (partOf true 2 c7 0) fun t48 =>
  bnd (partOf false 1 c33 0) fun t49 =>
  bnd (partOf false 1 c33 1) fun t50 =>
  ACalls P n_i_CostOf [t48, t49, t50] H44 fun v51 H52 =>
  bnd (aBinN .lss v51 (.int .i64 1000000)) fun t53 =>
  gd t53 true
  (bnd (partOf false 1 c33 4) fun t54 =>
  bnd (aBinN .lss t54 (.int .i64 60)) fun t55 =>
  gd t55 true
  (bnd (aNot t42) fun t56 =>
  gd3 t56 false
  (bnd (partOf true 5 c33 2) fun t57 =>
  bnd (aLd true 5 H52 (.ptr o43 0 0)) fun t58 =>
  ACalls P n_i_Newer [t57, t58] H52 fun v59 H60 =>
  bnd (aBinN .eql v59 (.int .i64 1)) fun t61 =>
  cnd t61
  (Ret R (.bool false) H60)
  (Shr (J45 []) H60))
  (Ret R (.bool false) H52)
  (bnd (aPick (.tup []) (.bool true) (.tup [])) fun t62 =>
  cnd t62
  (Ret R (.bool false) H52)
  (Shr (J45 []) H52)))
  (Shr (J45 []) H52))
  (Shr (J45 []) H52)) ∧
  ∀ xs46 H47, J45 xs46 H47 →
  bnd (partOf true 5 c7 0) fun t63 =>
  ACalls P n_i_Lose [t63, t6] H47 fun v64 H65 =>
  bnd (aExtract 0 v64) fun t66 =>
  bnd (aExtract 1 v64) fun t67 =>
  bnd (stz 5 [(.int .i64 0), .nils, .nils, .nils, (.int .i64 0)] 0 t66) fun c68 =>
  bnd (partOf true 5 c7 0) fun t69 =>
  ACalls P n_i_Double [t69, t6] H65 fun v70 H71 =>
  bnd (aExtract 0 v70) fun t72 =>
  bnd (aExtract 1 v70) fun t73 =>
  bnd (stz 5 [(.int .i64 0), .nils, .nils, .nils, (.int .i64 0)] 0 t72) fun c74 =>
  ∃ J75 : List V → Heap → Prop,
  (bnd (aNot t67) fun t78 =>
  gd t78 false
  (bnd (aNot t73) fun t79 =>
  gd t79 false
  (bnd (partOf false 1 c68 2) fun t80 =>
  bnd (lenOf t80) fun n81 =>
  bnd (partOf false 1 c7 2) fun t82 =>
  bnd (lenOf t82) fun n83 =>
  bnd (aBinN .neq (.int .i64 (n81 : Nat)) (.int .i64 (n83 : Nat))) fun t84 =>
  gd t84 false
  (bnd (partOf false 1 c68 3) fun t85 =>
  bnd (lenOf t85) fun n86 =>
  bnd (partOf false 1 c7 3) fun t87 =>
  bnd (lenOf t87) fun n88 =>
  bnd (aBinN .sub (.int .i64 (n88 : Nat)) (.int .i64 1)) fun t89 =>
  bnd (aBinN .neq (.int .i64 (n86 : Nat)) t89) fun t90 =>
  gd t90 false
  (bnd (partOf false 1 c74 4) fun t91 =>
  bnd (partOf false 1 c7 4) fun t92 =>
  bnd (aBinN .eql t91 t92) fun t93 =>
  gd3 t93 true
  (bnd (partOf false 1 c74 3) fun t94 =>
  bnd (lenOf t94) fun n95 =>
  bnd (partOf false 1 c7 3) fun t96 =>
  bnd (lenOf t96) fun n97 =>
  bnd (aBinN .add (.int .i64 (n97 : Nat)) (.int .i64 1)) fun t98 =>
  bnd (aBinN .neq (.int .i64 (n95 : Nat)) t98) fun t99 =>
  cnd t99
  (Ret R (.bool false) H71)
  (Shr (J75 []) H71))
  (Shr (J75 []) H71)
  (bnd (aPick (.tup []) (.tup []) (.bool false)) fun t100 =>
  cnd t100
  (Ret R (.bool false) H71)
  (Shr (J75 []) H71)))
  (Ret R (.bool false) H71))
  (Ret R (.bool false) H71))
  (Ret R (.bool false) H71))
  (Ret R (.bool false) H71)) ∧
  ∀ xs76 H77, J75 xs76 H77 →
  ∃ (I101 : Nat → List V → Heap → Prop) (n102 : Nat), Shr (I101 n102 [(.int .i64 0)]) H77 ∧
  ∀ n103 xs105 H106, I101 n103 xs105 H106 →
  bnd (partOf false 1 c7 2) fun t107 =>
  bnd (lenOf t107) fun n108 =>
  bnd (aBinN .lss (xs105.headD .any) (.int .i64 (n108 : Nat))) fun t109 =>
  cnd t109
  (∃ S110, Abs.sub S110 H106 ∧
  bnd (partOf false 1 c68 2) fun t111 =>
  bnd (aIndex S110 1 t111 (xs105.headD .any)) fun t112 =>
  bnd (aLd true 1 S110 t112) fun t113 =>
  bnd (partOf false 1 c7 2) fun t114 =>
  bnd (aIndex S110 1 t114 (xs105.headD .any)) fun t115 =>
  bnd (aLd true 1 S110 t115) fun t116 =>
  ACalls P n_i_DbSum [t113] H106 fun v117 H118 =>
  Abs.sub S110 H118 ∧
  ACalls P n_s_DbSum [t116] H118 fun v119 H120 =>
  Abs.sub S110 H120 ∧
  bnd (aBinN .neq v117 v119) fun t121 =>
  cnd t121
  (Ret R (.bool false) H120)
  (bnd (aBinN .add (xs105.headD .any) (.int .i64 1)) fun t122 =>
  ∃ n104, n104 < n103 ∧ Shr (I101 n104 [t122]) H120))
  (Ret R (.bool true) H106)))
theorem W_l_FnDelivered {R : V → Heap → Prop} {a0 : V} {H : Heap} (h : F_l_FnDelivered R a0 H) : ACalls P n_l_FnDelivered [a0] H R :=
  acalls_of_form (g := ⟨[3, 5, 7, 9, 12, 14], [40, 43, 50, 56, 58, 62, 63, 68, 70, 72, 77, 78, 86, 112, 115, 121, 124, 131, 133, 137, 140, 148, 154, 160]⟩) (x := (.seq .leaf (.seq (.seq .leaf (.cond (.seq .leaf .leaf) .leaf)) (.seq .leaf (.seq .leaf (.seq .leaf (.seqc (.seq .leaf (.cond (.seq .leaf .leaf) .leaf)) (.seq (.seq .leaf (.cond (.seq .leaf .leaf) .leaf)) (.seq .leaf (.seq (.drawh [0, 1, 2, 3, 4, 5, 6, 7, 8, 9, 10, 11, 12, 13, 14, 15]) (.seqc (.seq .leaf (.cond (.seq .leaf .leaf) .leaf)) (.seq .leaf (.seq .leaf (.seqc (.seq .leaf (.cond (.seq .leaf .leaf) .leaf)) (.seq (.seq .leaf (.block (.loop [16] (.seq (.seq .leaf (.cond .leaf .leaf)) (.seq (.block (.seq (.draw [0, 1, 2, 3, 4, 6, 7, 8, 9, 10, 5, 11, 12]) (.cond (.seq .leaf .leaf) .leaf))) .leaf))))) (.seq .leaf .leaf)) []))) [])))) []))))))) Tryz.func4 (by kernel_rfl) (by kernel_rfl) (by kernel_rfl) (by kernel_rfl : F_l_FnDelivered R a0 H = _) h
def F_l_big (R : V → Heap → Prop) (a0 : V) (H : Heap) : Prop :=
  bnd (lenOf a0) fun n1 =>
  bnd (aBinN .gtr (.int .i64 (n1 : Nat)) (.int .i64 1048576)) fun t2 =>
  Ret R t2 H
theorem W_l_big {R : V → Heap → Prop} {a0 : V} {H : Heap} (h : F_l_big R a0 H) : ACalls P n_l_big [a0] H R :=
  acalls_of_form (g := ⟨[], []⟩) (x := (.seq .leaf (.seq .leaf .leaf))) Tryz.func5 (by kernel_rfl) (by kernel_rfl) (by kernel_rfl) (by kernel_rfl : F_l_big R a0 H = _) h
def F_s_NetOk (R : V → Heap → Prop) (a0 : V) (H : Heap) : Prop :=
  boxK a0 (bnd (partOf true 2 (cellsOf a0) 0) fun t1 =>
  ACalls P n_s_GraphOk [t1] H fun v2 H3 =>
  bnd (aNot v2) fun t4 =>
  gd t4 false
  (bnd (partOf false 1 (cellsOf a0) 0) fun t5 =>
  bnd (aBinN .gtr t5 (.int .i64 6)) fun t6 =>
  gd t6 false
  (bnd (partOf true 2 (cellsOf a0) 0) fun t7 =>
  ACalls P n_s_l08Pairs [t7] H3 fun v8 H9 =>
  bnd (aNot v8) fun t10 =>
  gd t10 false
  (bnd (partOf false 1 (cellsOf a0) 2) fun t11 =>
  bnd (lenOf t11) fun n12 =>
  bnd (partOf false 1 (cellsOf a0) 0) fun t13 =>
  bnd (aBinN .neq (.int .i64 (n12 : Nat)) t13) fun t14 =>
  gd t14 false
  (bnd (partOf false 1 (cellsOf a0) 3) fun t15 =>
  bnd (lenOf t15) fun n16 =>
  bnd (aBinN .gtr (.int .i64 (n16 : Nat)) (.int .i64 400)) fun t17 =>
  gd t17 false
  (bnd (partOf false 1 (cellsOf a0) 4) fun t18 =>
  ACalls P n_s_l01In [t18, (.int .i64 0), (.int .i64 1000000)] H9 fun v19 H20 =>
  bnd (aNot v19) fun t21 =>
  cnd t21
  (Ret R (.bool false) H20)
  (∃ (I22 : Nat → List V → Heap → Prop) (n23 : Nat), Shr (I22 n23 [(.int .i64 0)]) H20 ∧
  ∀ n24 xs26 H27, I22 n24 xs26 H27 →
  bnd (partOf false 1 (cellsOf a0) 2) fun t28 =>
  bnd (lenOf t28) fun n29 =>
  bnd (aBinN .lss (xs26.headD .any) (.int .i64 (n29 : Nat))) fun t30 =>
  cnd t30
  (bnd (partOf false 1 (cellsOf a0) 2) fun t31 =>
  bnd (aIndex H27 1 t31 (xs26.headD .any)) fun t32 =>
  bnd (aLd true 1 H27 t32) fun t33 =>
  ACalls P n_s_DbOk [t33] H27 fun v34 H35 =>
  bnd (aNot v34) fun t36 =>
  cnd t36
  (Ret R (.bool false) H35)
  (bnd (aBinN .add (xs26.headD .any) (.int .i64 1)) fun t37 =>
  ∃ n25, n25 < n24 ∧ Shr (I22 n25 [t37]) H35))
  (∃ (I38 : Nat → List V → Heap → Prop) (n39 : Nat), Shr (I38 n39 [(.box (cellsOf a0)), (.int .i64 0)]) H27 ∧
  ∀ n40 xs42 H43, I38 n40 xs42 H43 →
  bnd (partOf false 1 (bc (xs42.headD .any)) 3) fun t44 =>
  bnd (lenOf t44) fun n45 =>
  bnd (aBinN .lss (xs42.tail.headD .any) (.int .i64 (n45 : Nat))) fun t46 =>
  cnd t46
  (bnd (partOf false 1 (bc (xs42.headD .any)) 3) fun t47 =>
  bnd (aIndex H43 7 t47 (xs42.tail.headD .any)) fun t48 =>
  bnd (aLd true 7 H43 t48) fun t49 =>
  bnd (stz 7 [(.int .i64 0), (.int .i64 0), (.int .i64 0), (.int .i64 0), (.int .i64 0), .nils, .nils] 0 t49) fun c50 =>
  bnd (partOf true 2 (bc (xs42.headD .any)) 0) fun t51 =>
  bnd (partOf false 1 c50 0) fun t52 =>
  ACalls P n_s_l03Node [t51, t52] H43 fun v53 H54 =>
  bnd (aNot v53) fun t55 =>
  gd t55 false
  (bnd (partOf true 2 (bc (xs42.headD .any)) 0) fun t56 =>
  bnd (partOf false 1 c50 1) fun t57 =>
  ACalls P n_s_l03Node [t56, t57] H54 fun v58 H59 =>
  bnd (aNot v58) fun t60 =>
  gd t60 false
  (bnd (partOf false 1 c50 0) fun t61 =>
  bnd (partOf false 1 c50 1) fun t62 =>
  bnd (aBinN .eql t61 t62) fun t63 =>
  gd t63 false
  (bnd (partOf true 5 c50 2) fun t64 =>
  ACalls P n_s_LsaOk [t64] H59 fun v65 H66 =>
  bnd (aNot v65) fun t67 =>
  cnd t67
  (Ret R (.bool false) H66)
  (bnd (aBinN .add (xs42.tail.headD .any) (.int .i64 1)) fun t68 =>
  ∃ n41, n41 < n40 ∧ Shr (I38 n41 [(.box (bc (xs42.headD .any))), t68]) H66))
  (Ret R (.bool false) H59))
  (Ret R (.bool false) H59))
  (Ret R (.bool false) H54))
  (Ret R (.bool true) H43))))
  (Ret R (.bool false) H9))
  (Ret R (.bool false) H9))
  (Ret R (.bool false) H9))
  (Ret R (.bool false) H3))
  (Ret R (.bool false) H3))
theorem W_s_NetOk {R : V → Heap → Prop} {a0 : V} {H : Heap} (h : F_s_NetOk R a0 H) : ACalls P n_s_NetOk [a0] H R :=
  acalls_of_form (g := ⟨[1, 5], [6, 11, 12, 17, 23, 26, 27, 32, 38, 44, 50, 58, 64, 69, 71, 76, 78, 84, 86, 91]⟩) (x := (.seq .leaf (.seq (.seq .leaf (.cond (.seq .leaf .leaf) .leaf)) (.seq (.seq .leaf (.block (.loop [3] (.seq (.seq .leaf (.cond .leaf .leaf)) (.seq (.block (.seq .leaf (.cond (.seq .leaf .leaf) .leaf))) .leaf))))) (.seq (.seq .leaf (.block (.loop [1, 4] (.seq (.seq .leaf (.cond .leaf .leaf)) (.seq (.block (.seq .leaf (.seq .leaf (.cond (.seq .leaf .leaf) .leaf)))) .leaf))))) (.seq .leaf .leaf)))))) Tryz.func8 (by kernel_rfl) (by kernel_rfl) (by kernel_rfl) (by kernel_rfl : F_s_NetOk R a0 H = _) h
def F_s_DrawDeliver (R : V → Heap → Prop) (a0 : V) (H : Heap) : Prop :=
  ACalls P n_s_l08Draw [a0] H fun v1 H2 =>
  bnd (aExtract 0 v1) fun t3 =>
  bnd (aExtract 1 v1) fun t4 =>
  bnd (stz 5 [(.int .i64 0), .nils, .nils, .nils, (.int .i64 0)] 0 t4) fun c5 =>
  ∃ S6, Abs.sub S6 H2 ∧
  bnd (partOf true 5 c5 0) fun t7 =>
  bnd (partOf true 5 c5 0) fun t8 =>
  ACalls P n_s_l08DrawPlace [t3, t8] H2 fun v9 H10 =>
  Abs.sub S6 H10 ∧
  bnd (stz 5 [(.int .i64 0), .nils, .nils, .nils, (.int .i64 0)] 0 t7) fun c11 =>
  bnd (partOf true 5 c11 0) fun t12 =>
  Ret R (.tup [t12, v9]) H10
theorem W_s_DrawDeliver {R : V → Heap → Prop} {a0 : V} {H : Heap} (h : F_s_DrawDeliver R a0 H) : ACalls P n_s_DrawDeliver [a0] H R :=
  acalls_of_form (g := ⟨[2, 5], []⟩) (x := (.seq .leaf (.seq .leaf (.seq (.draw [0, 1, 2, 3, 4, 5]) .leaf)))) Tryz.func11 (by kernel_rfl) (by kernel_rfl) (by kernel_rfl) (by kernel_rfl : F_s_DrawDeliver R a0 H = _) h
def F_s_Deliver (R : V → Heap → Prop) (a0 a1 : V) (H : Heap) : Prop :=
  boxK a0 (bnd (partOf true 5 (cellsOf a0) 0) fun t1 =>
  ACalls P n_s_NetOk [t1] H fun v2 H3 =>
  bnd (aNot v2) fun t4 =>
  gd t4 false
  (bnd (partOf false 1 (cellsOf a0) 3) fun t5 =>
  bnd (lenOf t5) fun n6 =>
  bnd (aBinN .sub (.int .i64 (n6 : Nat)) (.int .i64 1)) fun t7 =>
  ACalls P n_s_l01In [a1, (.int .i64 0), t7] H3 fun v8 H9 =>
  bnd (aNot v8) fun t10 =>
  cnd t10
  (bnd (partOf true 5 (cellsOf a0) 0) fun t11 =>
  ACalls P n_s_l08Copy [t11] H9 fun v12 H13 =>
  bnd (stz 5 [(.int .i64 0), .nils, .nils, .nils, (.int .i64 0)] 0 v12) fun c14 =>
  bnd (partOf true 5 c14 0) fun t15 =>
  Ret R (.tup [t15, (.bool false)]) H13)
  (bnd (partOf true 5 (cellsOf a0) 0) fun t16 =>
  ACalls P n_s_l08Off [t16, a1] H9 fun v17 H18 =>
  bnd (aExtract 0 v17) fun t19 =>
  bnd (aExtract 1 v17) fun t20 =>
  ∀ o21, H18 o21 = none →
  bnd (aSt 5 (upd H18 o21 ⟨5, [[(.int .i64 0), .nils, .nils, .nils, (.int .i64 0)]]⟩) (.ptr o21 0 0) t19) fun H22 =>
  bnd (stz 7 [(.int .i64 0), (.int .i64 0), (.int .i64 0), (.int .i64 0), (.int .i64 0), .nils, .nils] 0 t20) fun c23 =>
  bnd (aField 0 (.ptr o21 0 0)) fun t24 =>
  bnd (aLd true 2 H22 t24) fun t25 =>
  bnd (partOf false 1 c23 0) fun t26 =>
  bnd (partOf false 1 c23 1) fun t27 =>
  ACalls P n_s_l03Cost [t25, t26, t27] H22 fun v28 H29 =>
  bnd (aBinN .eql v28 (.int .i64 1000000)) fun t30 =>
  cnd t30
  (bnd (aLd true 5 H29 (.ptr o21 0 0)) fun t31 =>
  bnd (stz 5 [(.int .i64 0), .nils, .nils, .nils, (.int .i64 0)] 0 t31) fun c32 =>
  bnd (partOf true 5 c32 0) fun t33 =>
  Ret R (.tup [t33, (.bool true)]) H29)
  (bnd (aField 2 (.ptr o21 0 0)) fun t34 =>
  bnd (aLd false 1 H29 t34) fun t35 =>
  bnd (partOf false 1 c23 1) fun t36 =>
  bnd (aIndex H29 1 t35 t36) fun t37 =>
  bnd (aLd true 1 H29 t37) fun t38 =>
  bnd (partOf true 5 c23 2) fun t39 =>
  ACalls P n_s_Install [t38, t39] H29 fun v40 H41 =>
  bnd (aExtract 0 v40) fun t42 =>
  bnd (aExtract 1 v40) fun t43 =>
  ∀ o44, H41 o44 = none →
  bnd (aSt 1 (upd H41 o44 ⟨1, [[.nils]]⟩) (.ptr o44 0 0) t42) fun H45 =>
  bnd (aField 2 (.ptr o21 0 0)) fun t46 =>
  bnd (aLd false 1 H45 t46) fun t47 =>
  bnd (partOf false 1 c23 1) fun t48 =>
  bnd (aLd true 1 H45 (.ptr o44 0 0)) fun t49 =>
  bnd (aIndex H45 1 t47 t48) fun t50 =>
  bnd (aSt 1 H45 t50 t49) fun H51 =>
  bnd (aBinN .eql t43 (.int .i64 0)) fun t52 =>
  cnd t52
  (bnd (partOf false 1 c23 1) fun t53 =>
  bnd (partOf false 1 c23 0) fun t54 =>
  bnd (partOf true 5 c23 2) fun t55 =>
  ACalls P n_s_l08Spread [(.ptr o21 0 0), t53, t54, t55] H51 fun v56 H57 =>
  bnd (aLd true 5 H57 (.ptr o21 0 0)) fun t58 =>
  bnd (stz 5 [(.int .i64 0), .nils, .nils, .nils, (.int .i64 0)] 0 t58) fun c59 =>
  bnd (partOf true 5 c59 0) fun t60 =>
  Ret R (.tup [t60, (.bool true)]) H57)
  (bnd (aBinN .eql t43 (.int .i64 2)) fun t61 =>
  cnd t61
  (bnd (aLd true 1 H51 (.ptr o44 0 0)) fun t62 =>
  bnd (partOf false 1 c23 2) fun t63 =>
  ACalls P n_s_FindLsa [t62, t63] H51 fun v64 H65 =>
  bnd (aExtract 0 v64) fun t66 =>
  bnd (aExtract 1 v64) fun t67 =>
  bnd (stz 5 [(.int .i64 0), (.int .i64 0), (.int .i64 0), .nils, .nils] 0 t66) fun c68 =>
  bnd (partOf false 1 c23 1) fun t69 =>
  bnd (partOf false 1 c23 0) fun t70 =>
  bnd (partOf true 5 c68 0) fun t71 =>
  ACalls P n_s_l08Send [(.ptr o21 0 0), t69, t70, t71] H65 fun v72 H73 =>
  bnd (aLd true 5 H73 (.ptr o21 0 0)) fun t74 =>
  bnd (stz 5 [(.int .i64 0), .nils, .nils, .nils, (.int .i64 0)] 0 t74) fun c75 =>
  bnd (partOf true 5 c75 0) fun t76 =>
  Ret R (.tup [t76, (.bool true)]) H73)
  (bnd (aLd true 5 H51 (.ptr o21 0 0)) fun t77 =>
  bnd (stz 5 [(.int .i64 0), .nils, .nils, .nils, (.int .i64 0)] 0 t77) fun c78 =>
  bnd (partOf true 5 c78 0) fun t79 =>
  Ret R (.tup [t79, (.bool true)]) H51)))))
  (bnd (partOf true 5 (cellsOf a0) 0) fun t80 =>
  ACalls P n_s_l08Copy [t80] H3 fun v81 H82 =>
  bnd (stz 5 [(.int .i64 0), .nils, .nils, .nils, (.int .i64 0)] 0 v81) fun c83 =>
  bnd (partOf true 5 c83 0) fun t84 =>
  Ret R (.tup [t84, (.bool false)]) H82))
theorem W_s_Deliver {R : V → Heap → Prop} {a0 a1 : V} {H : Heap} (h : F_s_Deliver R a0 a1 H) : ACalls P n_s_Deliver [a0, a1] H R :=
  acalls_of_form (g := ⟨[2, 4, 7, 10], [17, 34, 36, 44, 48, 55, 62, 64, 66, 73, 74, 79, 81]⟩) (x := (.seq .leaf (.seq (.seq .leaf (.cond (.seq .leaf .leaf) .leaf)) (.seq .leaf (.seq (.seq .leaf (.cond (.seq .leaf .leaf) .leaf)) (.seq (.drawh [0, 1, 2, 3, 4, 5, 6, 7, 8, 9, 10, 11, 12, 13, 14]) (.seq .leaf (.seq (.seq .leaf (.block (.seq .leaf (.cond .leaf (.seq .leaf (.cond (.seq .leaf .leaf) .leaf)))))) (.seq .leaf .leaf))))))))) Tryz.func12 (by kernel_rfl) (by kernel_rfl) (by kernel_rfl) (by kernel_rfl : F_s_Deliver R a0 a1 H = _) h
def F_i_Deliver (R : V → Heap → Prop) (a0 a1 : V) (H : Heap) : Prop :=
  boxK a0 (bnd (partOf true 5 (cellsOf a0) 0) fun t1 =>
  ACalls P n_i_ownNet [t1] H fun v2 H3 =>
  ∀ o4, H3 o4 = none →
  bnd (aSt 5 (upd H3 o4 ⟨5, [[(.int .i64 0), .nils, .nils, .nils, (.int .i64 0)]]⟩) (.ptr o4 0 0) v2) fun H5 =>
  bnd (partOf true 5 (cellsOf a0) 0) fun t6 =>
  ACalls P n_i_isMsg [t6, a1] H5 fun v7 H8 =>
  bnd (aNot v7) fun t9 =>
  cnd t9
  (bnd (aLd true 5 H8 (.ptr o4 0 0)) fun t10 =>
  bnd (stz 5 [(.int .i64 0), .nils, .nils, .nils, (.int .i64 0)] 0 t10) fun c11 =>
  bnd (partOf true 5 c11 0) fun t12 =>
  Ret R (.tup [t12, (.bool false)]) H8)
  (ACalls P n_p_i_Net_deliver [(.ptr o4 0 0), a1] H8 fun v13 H14 =>
  bnd (aLd true 5 H14 (.ptr o4 0 0)) fun t15 =>
  ACalls P n_i_ownNet [t15] H14 fun v16 H17 =>
  bnd (stz 5 [(.int .i64 0), .nils, .nils, .nils, (.int .i64 0)] 0 v16) fun c18 =>
  bnd (partOf true 5 c18 0) fun t19 =>
  Ret R (.tup [t19, (.bool true)]) H17))
theorem W_i_Deliver {R : V → Heap → Prop} {a0 a1 : V} {H : Heap} (h : F_i_Deliver R a0 a1 H) : ACalls P n_i_Deliver [a0, a1] H R :=
  acalls_of_form (g := ⟨[2, 4], []⟩) (x := (.seq .leaf (.seq .leaf (.seq (.seq .leaf (.cond (.seq .leaf .leaf) .leaf)) (.seq .leaf (.seq .leaf .leaf)))))) Tryz.func13 (by kernel_rfl) (by kernel_rfl) (by kernel_rfl) (by kernel_rfl : F_i_Deliver R a0 a1 H = _) h
def F_i_FindLsa (R : V → Heap → Prop) (a0 a1 : V) (H : Heap) : Prop :=
  boxK a0 (bnd (partOf true 1 (cellsOf a0) 0) fun t1 =>
  ACalls P n_i_DbOk [t1] H fun v2 H3 =>
  bnd (aNot v2) fun t4 =>
  cnd t4
  (bnd (fillZ [(.int .i64 0), (.int .i64 0), (.int .i64 0), .nils, .nils] []) fun c5 =>
  bnd (stz 5 [(.int .i64 0), (.int .i64 0), (.int .i64 0), .nils, .nils] 0 (.agg c5)) fun c6 =>
  bnd (partOf true 5 c6 0) fun t7 =>
  Ret R (.tup [t7, (.bool false)]) H3)
  (bnd (partOf true 1 (cellsOf a0) 0) fun t8 =>
  ACalls P n_i_Db_find [t8, a1] H3 fun v9 H10 =>
  bnd (aExtract 0 v9) fun t11 =>
  bnd (aExtract 1 v9) fun t12 =>
  bnd (aNot t12) fun t13 =>
  cnd t13
  (bnd (fillZ [(.int .i64 0), (.int .i64 0), (.int .i64 0), .nils, .nils] []) fun c14 =>
  bnd (stz 5 [(.int .i64 0), (.int .i64 0), (.int .i64 0), .nils, .nils] 0 (.agg c14)) fun c15 =>
  bnd (partOf true 5 c15 0) fun t16 =>
  Ret R (.tup [t16, (.bool false)]) H10)
  (bnd (partOf false 1 (cellsOf a0) 0) fun t17 =>
  bnd (aIndex H10 5 t17 t11) fun t18 =>
  bnd (aLd true 5 H10 t18) fun t19 =>
  ACalls P n_i_ownLsa [t19] H10 fun v20 H21 =>
  bnd (stz 5 [(.int .i64 0), (.int .i64 0), (.int .i64 0), .nils, .nils] 0 v20) fun c22 =>
  bnd (partOf true 5 c22 0) fun t23 =>
  Ret R (.tup [t23, (.bool true)]) H21)))
theorem W_i_FindLsa {R : V → Heap → Prop} {a0 a1 : V} {H : Heap} (h : F_i_FindLsa R a0 a1 H) : ACalls P n_i_FindLsa [a0, a1] H R :=
  acalls_of_form (g := ⟨[2, 4], [21]⟩) (x := (.seq .leaf (.seq (.seq .leaf (.cond (.seq .leaf .leaf) .leaf)) (.seq .leaf (.seq (.seq .leaf (.cond (.seq .leaf .leaf) .leaf)) (.seq .leaf .leaf)))))) Tryz.func14 (by kernel_rfl) (by kernel_rfl) (by kernel_rfl) (by kernel_rfl : F_i_FindLsa R a0 a1 H = _) h
def F_i_CostOf (R : V → Heap → Prop) (a0 a1 a2 : V) (H : Heap) : Prop :=
  boxK a0 (bnd (partOf true 2 (cellsOf a0) 0) fun t1 =>
  ACalls P n_i_GraphOk [t1] H fun v2 H3 =>
  bnd (aNot v2) fun t4 =>
  cnd t4
  (Ret R (.int .i64 (-1)) H3)
  (bnd (partOf true 2 (cellsOf a0) 0) fun t5 =>
  ACalls P n_i_Graph_cost [t5, a1, a2] H3 fun v6 H7 =>
  Ret R v6 H7))
theorem W_i_CostOf {R : V → Heap → Prop} {a0 a1 a2 : V} {H : Heap} (h : F_i_CostOf R a0 a1 a2 H) : ACalls P n_i_CostOf [a0, a1, a2] H R :=
  acalls_of_form (g := ⟨[3], []⟩) (x := (.seq .leaf (.seq (.seq .leaf (.cond (.seq .leaf .leaf) .leaf)) (.seq .leaf .leaf)))) Tryz.func15 (by kernel_rfl) (by kernel_rfl) (by kernel_rfl) (by kernel_rfl : F_i_CostOf R a0 a1 a2 H = _) h
def F_i_Newer (R : V → Heap → Prop) (a0 a1 : V) (H : Heap) : Prop :=
  boxK a0 (boxK a1 (bnd (partOf true 5 (cellsOf a0) 0) fun t1 =>
  ACalls P n_i_LsaOk [t1] H fun v2 H3 =>
  bnd (aNot v2) fun t4 =>
  gd t4 false
  (bnd (partOf true 5 (cellsOf a1) 0) fun t5 =>
  ACalls P n_i_LsaOk [t5] H3 fun v6 H7 =>
  bnd (aNot v6) fun t8 =>
  gd t8 false
  (bnd (partOf false 1 (cellsOf a0) 0) fun t9 =>
  bnd (partOf false 1 (cellsOf a1) 0) fun t10 =>
  bnd (aBinN .neq t9 t10) fun t11 =>
  cnd t11
  (Ret R (.int .i64 (-2)) H7)
  (bnd (partOf true 5 (cellsOf a0) 0) fun t12 =>
  bnd (partOf true 5 (cellsOf a1) 0) fun t13 =>
  ACalls P n_i_newer [t12, t13] H7 fun v14 H15 =>
  Ret R v14 H15))
  (Ret R (.int .i64 (-2)) H7))
  (Ret R (.int .i64 (-2)) H3)))
theorem W_i_Newer {R : V → Heap → Prop} {a0 a1 : V} {H : Heap} (h : F_i_Newer R a0 a1 H) : ACalls P n_i_Newer [a0, a1] H R :=
  acalls_of_form (g := ⟨[2, 3], [14, 16]⟩) (x := (.seq .leaf (.seq (.seq .leaf (.cond (.seq .leaf .leaf) .leaf)) (.seq .leaf .leaf)))) Tryz.func16 (by kernel_rfl) (by kernel_rfl) (by kernel_rfl) (by kernel_rfl : F_i_Newer R a0 a1 H = _) h
def F_i_Lose (R : V → Heap → Prop) (a0 a1 : V) (H : Heap) : Prop :=
  boxK a0 (bnd (partOf true 5 (cellsOf a0) 0) fun t1 =>
  ACalls P n_i_ownNet [t1] H fun v2 H3 =>
  bnd (stz 5 [(.int .i64 0), .nils, .nils, .nils, (.int .i64 0)] 0 v2) fun c4 =>
  bnd (partOf true 5 (cellsOf a0) 0) fun t5 =>
  ACalls P n_i_isMsg [t5, a1] H3 fun v6 H7 =>
  bnd (aNot v6) fun t8 =>
  cnd t8
  (bnd (partOf true 5 c4 0) fun t9 =>
  bnd (stz 5 [(.int .i64 0), .nils, .nils, .nils, (.int .i64 0)] 0 t9) fun c10 =>
  bnd (partOf true 5 c10 0) fun t11 =>
  Ret R (.tup [t11, (.bool false)]) H7)
  (bnd (partOf false 1 c4 3) fun t12 =>
  bnd (aBinN .add a1 (.int .i64 1)) fun t13 =>
  ACalls P n_slices_Delete_i_Msg_i_Msg [t12, a1, t13] H7 fun v14 H15 =>
  bnd (stz 1 c4 3 v14) fun c16 =>
  bnd (partOf true 5 c16 0) fun t17 =>
  bnd (stz 5 [(.int .i64 0), .nils, .nils, .nils, (.int .i64 0)] 0 t17) fun c18 =>
  bnd (partOf true 5 c18 0) fun t19 =>
  Ret R (.tup [t19, (.bool true)]) H15))
theorem W_i_Lose {R : V → Heap → Prop} {a0 a1 : V} {H : Heap} (h : F_i_Lose R a0 a1 H) : ACalls P n_i_Lose [a0, a1] H R :=
  acalls_of_form (g := ⟨[2, 4, 6], [14, 20]⟩) (x := (.seq .leaf (.seq .leaf (.seq (.seq .leaf (.cond (.seq .leaf .leaf) .leaf)) (.seq .leaf (.seq .leaf .leaf)))))) Tryz.func17 (by kernel_rfl) (by kernel_rfl) (by kernel_rfl) (by kernel_rfl : F_i_Lose R a0 a1 H = _) h
def F_i_Double (R : V → Heap → Prop) (a0 a1 : V) (H : Heap) : Prop :=
  boxK a0 (bnd (partOf true 5 (cellsOf a0) 0) fun t1 =>
  ACalls P n_i_ownNet [t1] H fun v2 H3 =>
  ∀ o4, H3 o4 = none →
  bnd (aSt 5 (upd H3 o4 ⟨5, [[(.int .i64 0), .nils, .nils, .nils, (.int .i64 0)]]⟩) (.ptr o4 0 0) v2) fun H5 =>
  bnd (partOf true 5 (cellsOf a0) 0) fun t6 =>
  ACalls P n_i_isMsg [t6, a1] H5 fun v7 H8 =>
  bnd (aNot v7) fun t9 =>
  cnd t9
  (bnd (aLd true 5 H8 (.ptr o4 0 0)) fun t10 =>
  bnd (stz 5 [(.int .i64 0), .nils, .nils, .nils, (.int .i64 0)] 0 t10) fun c11 =>
  bnd (partOf true 5 c11 0) fun t12 =>
  Ret R (.tup [t12, (.bool false)]) H8)
  (bnd (aField 3 (.ptr o4 0 0)) fun t13 =>
  bnd (aLd false 1 H8 t13) fun t14 =>
  bnd (aIndex H8 7 t14 a1) fun t15 =>
  bnd (aLd true 7 H8 t15) fun t16 =>
  bnd (stz 7 [(.int .i64 0), (.int .i64 0), (.int .i64 0), (.int .i64 0), (.int .i64 0), .nils, .nils] 0 t16) fun c17 =>
  bnd (partOf false 1 c17 0) fun t18 =>
  bnd (partOf false 1 c17 1) fun t19 =>
  bnd (partOf true 5 c17 2) fun t20 =>
  ACalls P n_p_i_Net_send [(.ptr o4 0 0), t18, t19, t20] H8 fun v21 H22 =>
  bnd (aLd true 5 H22 (.ptr o4 0 0)) fun t23 =>
  bnd (stz 5 [(.int .i64 0), .nils, .nils, .nils, (.int .i64 0)] 0 t23) fun c24 =>
  bnd (partOf true 5 c24 0) fun t25 =>
  Ret R (.tup [t25, (.bool true)]) H22))
theorem W_i_Double {R : V → Heap → Prop} {a0 a1 : V} {H : Heap} (h : F_i_Double R a0 a1 H) : ACalls P n_i_Double [a0, a1] H R :=
  acalls_of_form (g := ⟨[2, 4, 7], [20, 22, 24]⟩) (x := (.seq .leaf (.seq .leaf (.seq (.seq .leaf (.cond (.seq .leaf .leaf) .leaf)) (.seq .leaf (.seq .leaf (.seq .leaf .leaf))))))) Tryz.func18 (by kernel_rfl) (by kernel_rfl) (by kernel_rfl) (by kernel_rfl : F_i_Double R a0 a1 H = _) h
def F_i_DbSum (R : V → Heap → Prop) (a0 : V) (H : Heap) : Prop :=
  boxK a0 (bnd (partOf true 1 (cellsOf a0) 0) fun t1 =>
  ACalls P n_i_DbOk [t1] H fun v2 H3 =>
  bnd (aNot v2) fun t4 =>
  cnd t4
  (Ret R (.int .i64 (-1)) H3)
  (bnd (partOf true 1 (cellsOf a0) 0) fun t5 =>
  ACalls P n_i_Db_sum [t5] H3 fun v6 H7 =>
  Ret R v6 H7))
theorem W_i_DbSum {R : V → Heap → Prop} {a0 : V} {H : Heap} (h : F_i_DbSum R a0 H) : ACalls P n_i_DbSum [a0] H R :=
  acalls_of_form (g := ⟨[1], []⟩) (x := (.seq .leaf (.seq (.seq .leaf (.cond (.seq .leaf .leaf) .leaf)) (.seq .leaf .leaf)))) Tryz.func19 (by kernel_rfl) (by kernel_rfl) (by kernel_rfl) (by kernel_rfl : F_i_DbSum R a0 H = _) h
def F_s_DbSum (R : V → Heap → Prop) (a0 : V) (H : Heap) : Prop :=
  boxK a0 (bnd (partOf true 1 (cellsOf a0) 0) fun t1 =>
  ACalls P n_s_DbOk [t1] H fun v2 H3 =>
  bnd (aNot v2) fun t4 =>
  cnd t4
  (Ret R (.int .i64 (-1)) H3)
  (∃ (I5 : Nat → List V → Heap → Prop) (n6 : Nat), Shr (I5 n6 [(.int .i64 1), (.int .i64 0)]) H3 ∧
  ∀ n7 xs9 H10, I5 n7 xs9 H10 →
  bnd (partOf false 1 (cellsOf a0) 0) fun t11 =>
  bnd (lenOf t11) fun n12 =>
  bnd (aBinN .lss (xs9.tail.headD .any) (.int .i64 (n12 : Nat))) fun t13 =>
  cnd t13
  (bnd (aBinN .mul (.int .i64 31) (xs9.headD .any)) fun t14 =>
  bnd (partOf false 1 (cellsOf a0) 0) fun t15 =>
  bnd (aIndex H10 5 t15 (xs9.tail.headD .any)) fun t16 =>
  bnd (aLd true 5 H10 t16) fun t17 =>
  ACalls P n_s_LsaSum [t17] H10 fun v18 H19 =>
  bnd (aBinN .add t14 v18) fun t20 =>
  bnd (aBinN .rem t20 (.int .i64 1000003)) fun t21 =>
  bnd (aBinN .add (xs9.tail.headD .any) (.int .i64 1)) fun t22 =>
  ∃ n8, n8 < n7 ∧ Shr (I5 n8 [t21, t22]) H19)
  (Ret R (xs9.headD .any) H10)))
theorem W_s_DbSum {R : V → Heap → Prop} {a0 : V} {H : Heap} (h : F_s_DbSum R a0 H) : ACalls P n_s_DbSum [a0] H R :=
  acalls_of_form (g := ⟨[1], [9, 17]⟩) (x := (.seq .leaf (.seq (.seq .leaf (.cond (.seq .leaf .leaf) .leaf)) (.seq .leaf (.seq (.seq .leaf (.block (.loop [3, 4] (.seq (.seq .leaf (.cond .leaf .leaf)) (.seq (.block .leaf) .leaf))))) (.seq .leaf .leaf)))))) Tryz.func20 (by kernel_rfl) (by kernel_rfl) (by kernel_rfl) (by kernel_rfl : F_s_DbSum R a0 H = _) h
def F_i_ownNet (R : V → Heap → Prop) (a0 : V) (H : Heap) : Prop :=
  boxK a0 (∀ o1, H o1 = none →
  ∃ S2, Abs.sub S2 (upd H o1 ⟨((cellsOf a0)).length, [(cellsOf a0)]⟩) ∧
  bnd (aField 0 (.ptr o1 0 0)) fun t3 =>
  bnd (aLd true 2 S2 t3) fun t4 =>
  bnd (aField 4 (.ptr o1 0 0)) fun t5 =>
  bnd (aLd false 1 S2 t5) fun t6 =>
  ACalls P n_i_ownGraph [t4] (upd H o1 ⟨((cellsOf a0)).length, [(cellsOf a0)]⟩) fun v7 H8 =>
  Abs.sub S2 H8 ∧
  bnd (fillZ [(.int .i64 0), .nils, .nils, .nils, (.int .i64 0)] [(0, 2, v7), (4, 1, t6)]) fun c9 =>
  bnd (stz 5 [(.int .i64 0), .nils, .nils, .nils, (.int .i64 0)] 0 (.agg c9)) fun c10 =>
  bnd (aField 2 (.ptr o1 0 0)) fun t11 =>
  bnd (aLd false 1 H8 t11) fun t12 =>
  bnd (lenOf t12) fun n13 =>
  ∃ (I14 : Nat → List V → Heap → Prop) (n15 : Nat), Shr (I14 n15 [(.box [(.int .i64 0), .nils, .nils, .nils, (.int .i64 0)]), (.box c10), (.int .i64 0)]) H8 ∧
  ∀ n16 xs18 H19, I14 n16 xs18 H19 →
  bnd (aBinN .lss (xs18.tail.tail.headD .any) (.int .i64 (n13 : Nat))) fun t20 =>
  cnd t20
  (bnd (aIndex H19 1 t12 (xs18.tail.tail.headD .any)) fun t21 =>
  bnd (aLd true 1 H19 t21) fun t22 =>
  bnd (stz 1 [.nils] 0 t22) fun c23 =>
  bnd (partOf false 1 (bc (xs18.tail.headD .any)) 2) fun t24 =>
  bnd (partOf true 1 c23 0) fun t25 =>
  ACalls P n_i_ownDb [t25] H19 fun v26 H27 =>
  bnd (bsl 1 1 [.nils] [(0, v26)]) fun r28 =>
  ∀ o29, H27 o29 = none →
  bnd (rowsOf (upd H27 o29 ⟨1, r28⟩) 1 (.slice o29 0 1 (some 1))) fun r32 =>
  appendK (upd H27 o29 ⟨1, r28⟩) 1 24 t24 r32 fun v30 H31 =>
  bnd (stz 1 (bc (xs18.tail.headD .any)) 2 v30) fun c33 =>
  bnd (aBinN .add (xs18.tail.tail.headD .any) (.int .i64 1)) fun t34 =>
  ∃ n17, n17 < n16 ∧ Shr (I14 n17 [(.box (bc (xs18.headD .any))), (.box c33), t34]) H31)
  (bnd (aField 3 (.ptr o1 0 0)) fun t35 =>
  bnd (aLd false 1 H19 t35) fun t36 =>
  bnd (lenOf t36) fun n37 =>
  ∃ (I38 : Nat → List V → Heap → Prop) (n39 : Nat), Shr (I38 n39 [(.box (bc (xs18.headD .any))), (.box (bc (xs18.tail.headD .any))), (.int .i64 0)]) H19 ∧
  ∀ n40 xs42 H43, I38 n40 xs42 H43 →
  bnd (aBinN .lss (xs42.tail.tail.headD .any) (.int .i64 (n37 : Nat))) fun t44 =>
  cnd t44
  (bnd (aIndex H43 7 t36 (xs42.tail.tail.headD .any)) fun t45 =>
  bnd (aLd true 7 H43 t45) fun t46 =>
  bnd (stz 7 [(.int .i64 0), (.int .i64 0), (.int .i64 0), (.int .i64 0), (.int .i64 0), .nils, .nils] 0 t46) fun c47 =>
  bnd (partOf false 1 (bc (xs42.tail.headD .any)) 3) fun t48 =>
  bnd (partOf false 1 c47 0) fun t49 =>
  bnd (partOf false 1 c47 1) fun t50 =>
  bnd (partOf true 5 c47 2) fun t51 =>
  ACalls P n_i_ownLsa [t51] H43 fun v52 H53 =>
  bnd (fillZ [(.int .i64 0), (.int .i64 0), (.int .i64 0), (.int .i64 0), (.int .i64 0), .nils, .nils] [(0, 1, t49), (1, 1, t50), (2, 5, v52)]) fun c54 =>
  bnd (bsl 7 1 [(.int .i64 0), (.int .i64 0), (.int .i64 0), (.int .i64 0), (.int .i64 0), .nils, .nils] [(0, (.agg c54))]) fun r55 =>
  ∀ o56, H53 o56 = none →
  bnd (rowsOf (upd H53 o56 ⟨7, r55⟩) 7 (.slice o56 0 1 (some 1))) fun r59 =>
  appendK (upd H53 o56 ⟨7, r55⟩) 7 88 t48 r59 fun v57 H58 =>
  bnd (stz 1 (bc (xs42.tail.headD .any)) 3 v57) fun c60 =>
  bnd (aBinN .add (xs42.tail.tail.headD .any) (.int .i64 1)) fun t61 =>
  ∃ n41, n41 < n40 ∧ Shr (I38 n41 [(.box (bc (xs42.headD .any))), (.box c60), t61]) H58)
  (bnd (partOf true 5 (bc (xs42.tail.headD .any)) 0) fun t62 =>
  bnd (stz 5 (bc (xs42.headD .any)) 0 t62) fun c63 =>
  bnd (partOf true 5 c63 0) fun t64 =>
  Ret R t64 H43)))
theorem W_i_ownNet {R : V → Heap → Prop} {a0 : V} {H : Heap} (h : F_i_ownNet R a0 H) : ACalls P n_i_ownNet [a0] H R :=
  acalls_of_form (g := ⟨[2, 3, 5, 7], [21, 27, 36, 38, 40, 42, 48]⟩) (x := (.seq .leaf (.seq (.draw [0, 1, 3, 4, 6, 2, 5, 7]) (.seq (.seq .leaf (.block (.loop [2, 3, 17] (.seq .leaf (.seq (.cond .leaf .leaf) (.seq (.block (.seq .leaf (.drawh [0, 1, 2, 3, 4, 5, 6, 7]))) .leaf)))))) (.seq (.seq .leaf (.block (.loop [2, 3, 32] (.seq .leaf (.seq (.cond .leaf .leaf) (.seq (.block (.seq .leaf (.drawh [0, 1, 2, 3, 4, 5, 6, 7, 8, 9, 10, 11, 12, 13]))) .leaf)))))) (.seq .leaf .leaf)))))) Tryz.func25 (by kernel_rfl) (by kernel_rfl) (by kernel_rfl) (by kernel_rfl : F_i_ownNet R a0 H = _) h
def F_i_NetOk (R : V → Heap → Prop) (a0 : V) (H : Heap) : Prop :=
  boxK a0 (∀ o1, H o1 = none →
  bnd (aField 0 (.ptr o1 0 0)) fun t2 =>
  bnd (aLd true 2 (upd H o1 ⟨((cellsOf a0)).length, [(cellsOf a0)]⟩) t2) fun t3 =>
  ACalls P n_i_isNetwork [t3] (upd H o1 ⟨((cellsOf a0)).length, [(cellsOf a0)]⟩) fun v4 H5 =>
  bnd (aNot v4) fun t6 =>
  gd t6 false
  (bnd (aField 2 (.ptr o1 0 0)) fun t7 =>
  bnd (aLd false 1 H5 t7) fun t8 =>
  bnd (lenOf t8) fun n9 =>
  bnd (aField 0 (.ptr o1 0 0)) fun t10 =>
  bnd (aField 0 t10) fun t11 =>
  bnd (aLd false 1 H5 t11) fun t12 =>
  bnd (aBinN .neq (.int .i64 (n9 : Nat)) t12) fun t13 =>
  gd t13 false
  (bnd (aField 3 (.ptr o1 0 0)) fun t14 =>
  bnd (aLd false 1 H5 t14) fun t15 =>
  bnd (lenOf t15) fun n16 =>
  bnd (aBinN .gtr (.int .i64 (n16 : Nat)) (.int .i64 400)) fun t17 =>
  gd t17 false
  (bnd (aField 4 (.ptr o1 0 0)) fun t18 =>
  bnd (aLd false 1 H5 t18) fun t19 =>
  ACalls P n_i_within [t19, (.int .i64 0), (.int .i64 1000000)] H5 fun v20 H21 =>
  bnd (aNot v20) fun t22 =>
  cnd t22
  (Ret R (.bool false) H21)
  (bnd (aField 2 (.ptr o1 0 0)) fun t23 =>
  bnd (aLd false 1 H21 t23) fun t24 =>
  ACalls P n_slices_ContainsFunc_i_Db_i_Db [t24, (.fn n_i_NetOk_1 [])] H21 fun v25 H26 =>
  cnd v25
  (Ret R (.bool false) H26)
  (bnd (aField 3 (.ptr o1 0 0)) fun t27 =>
  bnd (aLd false 1 H26 t27) fun t28 =>
  ACalls P n_slices_ContainsFunc_i_Msg_i_Msg [t28, (.fn n_i_NetOk_2 [(.ptr o1 0 0)])] H26 fun v29 H30 =>
  bnd (aNot v29) fun t31 =>
  Ret R t31 H30)))
  (Ret R (.bool false) H5))
  (Ret R (.bool false) H5))
  (Ret R (.bool false) H5))
theorem W_i_NetOk {R : V → Heap → Prop} {a0 : V} {H : Heap} (h : F_i_NetOk R a0 H) : ACalls P n_i_NetOk [a0] H R :=
  acalls_of_form (g := ⟨[], []⟩) (x := (.seq .leaf (.seq (.seq .leaf (.cond (.seq .leaf .leaf) .leaf)) (.seq (.seq .leaf (.cond (.seq .leaf .leaf) .leaf)) (.seq .leaf .leaf))))) Tryz.func26 (by kernel_rfl) (by kernel_rfl) (by kernel_rfl) (by kernel_rfl : F_i_NetOk R a0 H = _) h
def F_p_i_Net_deliver (R : V → Heap → Prop) (a0 a1 : V) (H : Heap) : Prop :=
  bnd (aNil a0) fun t1 =>
  bnd (aField 3 t1) fun t2 =>
  bnd (aLd false 1 H t2) fun t3 =>
  bnd (aIndex H 7 t3 a1) fun t4 =>
  bnd (aLd true 7 H t4) fun t5 =>
  bnd (stz 7 [(.int .i64 0), (.int .i64 0), (.int .i64 0), (.int .i64 0), (.int .i64 0), .nils, .nils] 0 t5) fun c6 =>
  bnd (aNil a0) fun t7 =>
  bnd (aField 3 t7) fun t8 =>
  bnd (aLd false 1 H t8) fun t9 =>
  bnd (aBinN .add a1 (.int .i64 1)) fun t10 =>
  ACalls P n_slices_Delete_i_Msg_i_Msg [t9, a1, t10] H fun v11 H12 =>
  bnd (aNil a0) fun t13 =>
  bnd (aField 3 t13) fun t14 =>
  bnd (aSt 1 H12 t14 v11) fun H15 =>
  ∃ S16, Abs.sub S16 H15 ∧
  bnd (aNil a0) fun t17 =>
  bnd (aField 0 t17) fun t18 =>
  bnd (aLd true 2 S16 t18) fun t19 =>
  bnd (partOf false 1 c6 0) fun t20 =>
  bnd (partOf false 1 c6 1) fun t21 =>
  ACalls P n_i_Graph_cost [t19, t20, t21] H15 fun v22 H23 =>
  Abs.sub S16 H23 ∧
  bnd (aBinN .eql v22 (.int .i64 1000000)) fun t24 =>
  cnd t24
  (Ret R (.tup []) H23)
  (∃ S25, Abs.sub S25 H23 ∧
  bnd (aNil a0) fun t26 =>
  bnd (aField 2 t26) fun t27 =>
  bnd (aLd false 1 S25 t27) fun t28 =>
  bnd (partOf false 1 c6 1) fun t29 =>
  bnd (aIndex S25 1 t28 t29) fun t30 =>
  bnd (partOf true 5 c6 2) fun t31 =>
  ACalls P n_p_i_Db_install [t30, t31] H23 fun v32 H33 =>
  bnd (aBinN .neq v32 (.int .i64 0)) fun t34 =>
  gd t34 true
  (bnd (aBinN .neq v32 (.int .i64 2)) fun t35 =>
  cnd t35
  (Ret R (.tup []) H33)
  (∃ S36, Abs.sub S36 H33 ∧
  bnd (aNil t30) fun t37 =>
  bnd (aLd true 1 S36 t37) fun t38 =>
  bnd (partOf false 1 c6 2) fun t39 =>
  ACalls P n_i_Db_find [t38, t39] H33 fun v40 H41 =>
  Abs.sub S36 H41 ∧
  bnd (aExtract 0 v40) fun t42 =>
  bnd (aExtract 1 v40) fun t43 =>
  bnd (aNil t30) fun t44 =>
  bnd (aField 0 t44) fun t45 =>
  bnd (aLd false 1 H41 t45) fun t46 =>
  bnd (aIndex H41 5 t46 t42) fun t47 =>
  bnd (aLd true 5 H41 t47) fun t48 =>
  ACalls P n_i_ownLsa [t48] H41 fun v49 H50 =>
  bnd (stz 5 [(.int .i64 0), (.int .i64 0), (.int .i64 0), .nils, .nils] 0 v49) fun c51 =>
  bnd (aBinN .eql v32 (.int .i64 0)) fun t52 =>
  cnd t52
  (bnd (partOf false 1 c6 1) fun t53 =>
  bnd (partOf false 1 c6 0) fun t54 =>
  bnd (partOf true 5 c51 0) fun t55 =>
  ACalls P n_p_i_Net_spread [a0, t53, t54, t55] H50 fun v56 H57 =>
  Ret R (.tup []) H57)
  (bnd (partOf false 1 c6 1) fun t58 =>
  bnd (partOf false 1 c6 0) fun t59 =>
  bnd (partOf true 5 c51 0) fun t60 =>
  ACalls P n_p_i_Net_send [a0, t58, t59, t60] H50 fun v61 H62 =>
  Ret R (.tup []) H62)))
  (∃ S63, Abs.sub S63 H33 ∧
  bnd (aNil t30) fun t64 =>
  bnd (aLd true 1 S63 t64) fun t65 =>
  bnd (partOf false 1 c6 2) fun t66 =>
  ACalls P n_i_Db_find [t65, t66] H33 fun v67 H68 =>
  Abs.sub S63 H68 ∧
  bnd (aExtract 0 v67) fun t69 =>
  bnd (aExtract 1 v67) fun t70 =>
  bnd (aNil t30) fun t71 =>
  bnd (aField 0 t71) fun t72 =>
  bnd (aLd false 1 H68 t72) fun t73 =>
  bnd (aIndex H68 5 t73 t69) fun t74 =>
  bnd (aLd true 5 H68 t74) fun t75 =>
  ACalls P n_i_ownLsa [t75] H68 fun v76 H77 =>
  bnd (stz 5 [(.int .i64 0), (.int .i64 0), (.int .i64 0), .nils, .nils] 0 v76) fun c78 =>
  bnd (aBinN .eql v32 (.int .i64 0)) fun t79 =>
  cnd t79
  (bnd (partOf false 1 c6 1) fun t80 =>
  bnd (partOf false 1 c6 0) fun t81 =>
  bnd (partOf true 5 c78 0) fun t82 =>
  ACalls P n_p_i_Net_spread [a0, t80, t81, t82] H77 fun v83 H84 =>
  Ret R (.tup []) H84)
  (bnd (partOf false 1 c6 1) fun t85 =>
  bnd (partOf false 1 c6 0) fun t86 =>
  bnd (partOf true 5 c78 0) fun t87 =>
  ACalls P n_p_i_Net_send [a0, t85, t86, t87] H77 fun v88 H89 =>
  Ret R (.tup []) H89)))
theorem W_p_i_Net_deliver {R : V → Heap → Prop} {a0 a1 : V} {H : Heap} (h : F_p_i_Net_deliver R a0 a1 H) : ACalls P n_p_i_Net_deliver [a0, a1] H R :=
  acalls_of_form (g := ⟨[4, 9], [32, 34, 42, 46, 59, 60, 76, 78, 83, 85]⟩) (x := (.seq .leaf (.seq .leaf (.seq (.seq (.draw [0, 1, 2, 3, 4, 5, 6, 7, 8, 9]) (.cond .leaf .leaf)) (.seq (.draw [0, 1, 2, 3, 4, 5, 6, 7]) (.seq .leaf (.seq (.seq .leaf (.cond .leaf .leaf)) (.seq (.draw [0, 1, 2, 3, 4, 5, 6, 7, 8, 9, 10, 11]) (.seq .leaf (.seq .leaf (.cond .leaf .leaf))))))))))) Tryz.func27 (by kernel_rfl) (by kernel_rfl) (by kernel_rfl) (by kernel_rfl : F_p_i_Net_deliver R a0 a1 H = _) h
def F_s_GraphOk (R : V → Heap → Prop) (a0 : V) (H : Heap) : Prop :=
  boxK a0 (bnd (partOf false 1 (cellsOf a0) 0) fun t1 =>
  ACalls P n_s_l01In [t1, (.int .i64 1), (.int .i64 10)] H fun v2 H3 =>
  bnd (aNot v2) fun t4 =>
  gd t4 false
  (bnd (partOf false 1 (cellsOf a0) 1) fun t5 =>
  bnd (lenOf t5) fun n6 =>
  bnd (aBinN .gtr (.int .i64 (n6 : Nat)) (.int .i64 60)) fun t7 =>
  cnd t7
  (Ret R (.bool false) H3)
  (∃ (I8 : Nat → List V → Heap → Prop) (n9 : Nat), Shr (I8 n9 [(.box (cellsOf a0)), (.int .i64 0)]) H3 ∧
  ∀ n10 xs12 H13, I8 n10 xs12 H13 →
  bnd (partOf false 1 (bc (xs12.headD .any)) 1) fun t14 =>
  bnd (lenOf t14) fun n15 =>
  bnd (aBinN .lss (xs12.tail.headD .any) (.int .i64 (n15 : Nat))) fun t16 =>
  cnd t16
  (bnd (partOf false 1 (bc (xs12.headD .any)) 1) fun t17 =>
  bnd (aIndex H13 3 t17 (xs12.tail.headD .any)) fun t18 =>
  bnd (aLd true 3 H13 t18) fun t19 =>
  bnd (stz 3 [(.int .i64 0), (.int .i64 0), (.int .i64 0)] 0 t19) fun c20 =>
  bnd (partOf true 2 (bc (xs12.headD .any)) 0) fun t21 =>
  bnd (partOf false 1 c20 0) fun t22 =>
  ACalls P n_s_l03Node [t21, t22] H13 fun v23 H24 =>
  bnd (aNot v23) fun t25 =>
  gd t25 false
  (bnd (partOf true 2 (bc (xs12.headD .any)) 0) fun t26 =>
  bnd (partOf false 1 c20 1) fun t27 =>
  ACalls P n_s_l03Node [t26, t27] H24 fun v28 H29 =>
  bnd (aNot v28) fun t30 =>
  gd t30 false
  (bnd (partOf false 1 c20 0) fun t31 =>
  bnd (partOf false 1 c20 1) fun t32 =>
  bnd (aBinN .eql t31 t32) fun t33 =>
  gd t33 false
  (bnd (partOf false 1 c20 2) fun t34 =>
  ACalls P n_s_l01In [t34, (.int .i64 1), (.int .i64 1000)] H29 fun v35 H36 =>
  bnd (aNot v35) fun t37 =>
  cnd t37
  (Ret R (.bool false) H36)
  (bnd (aBinN .gtr (xs12.tail.headD .any) (.int .i64 0)) fun t38 =>
  cnd t38
  (bnd (partOf false 1 (bc (xs12.headD .any)) 1) fun t39 =>
  bnd (aBinN .sub (xs12.tail.headD .any) (.int .i64 1)) fun t40 =>
  bnd (aIndex H36 3 t39 t40) fun t41 =>
  bnd (aLd true 3 H36 t41) fun t42 =>
  bnd (stz 3 [(.int .i64 0), (.int .i64 0), (.int .i64 0)] 0 t42) fun c43 =>
  bnd (partOf false 1 c43 0) fun t44 =>
  bnd (partOf false 1 c20 0) fun t45 =>
  bnd (aBinN .gtr t44 t45) fun t46 =>
  gd t46 false
  (bnd (partOf false 1 c43 0) fun t47 =>
  bnd (partOf false 1 c20 0) fun t48 =>
  bnd (aBinN .eql t47 t48) fun t49 =>
  gd3 t49 true
  (bnd (partOf false 1 c43 1) fun t50 =>
  bnd (partOf false 1 c20 1) fun t51 =>
  bnd (aBinN .geq t50 t51) fun t52 =>
  cnd t52
  (Ret R (.bool false) H36)
  (bnd (aBinN .add (xs12.tail.headD .any) (.int .i64 1)) fun t53 =>
  ∃ n11, n11 < n10 ∧ Shr (I8 n11 [(.box (bc (xs12.headD .any))), t53]) H36))
  (bnd (aBinN .add (xs12.tail.headD .any) (.int .i64 1)) fun t54 =>
  ∃ n11, n11 < n10 ∧ Shr (I8 n11 [(.box (bc (xs12.headD .any))), t54]) H36)
  (bnd (aPick (.tup []) (.tup []) (.bool false)) fun t55 =>
  cnd t55
  (Ret R (.bool false) H36)
  (bnd (aBinN .add (xs12.tail.headD .any) (.int .i64 1)) fun t56 =>
  ∃ n11, n11 < n10 ∧ Shr (I8 n11 [(.box (bc (xs12.headD .any))), t56]) H36)))
  (Ret R (.bool false) H36))
  (bnd (aBinN .add (xs12.tail.headD .any) (.int .i64 1)) fun t57 =>
  ∃ n11, n11 < n10 ∧ Shr (I8 n11 [(.box (bc (xs12.headD .any))), t57]) H36)))
  (Ret R (.bool false) H29))
  (Ret R (.bool false) H29))
  (Ret R (.bool false) H24))
  (Ret R (.bool true) H13)))
  (Ret R (.bool false) H3))
theorem W_s_GraphOk {R : V → Heap → Prop} {a0 : V} {H : Heap} (h : F_s_GraphOk R a0 H) : ACalls P n_s_GraphOk [a0] H R :=
  acalls_of_form (g := ⟨[1, 4, 5], [6, 11, 17, 23, 29, 35, 41, 43, 48, 55, 61, 63, 67, 69, 73, 75]⟩) (x := (.seq .leaf (.seq (.seq .leaf (.cond (.seq .leaf .leaf) .leaf)) (.seq (.seq .leaf (.block (.loop [1, 3] (.seq (.seq .leaf (.cond .leaf .leaf)) (.seq (.block (.seq .leaf (.seq (.seq .leaf (.cond (.seq .leaf .leaf) .leaf)) (.seq .leaf (.cond (.seq .leaf (.seq .leaf (.cond (.seq .leaf .leaf) .leaf))) .leaf))))) .leaf))))) (.seq .leaf .leaf))))) Tryz.func28 (by kernel_rfl) (by kernel_rfl) (by kernel_rfl) (by kernel_rfl : F_s_GraphOk R a0 H = _) h
def F_s_l08Pairs (R : V → Heap → Prop) (a0 : V) (H : Heap) : Prop :=
  boxK a0 (∃ (I1 : Nat → List V → Heap → Prop) (n2 : Nat), Shr (I1 n2 [(.int .i64 0)]) H ∧
  ∀ n3 xs5 H6, I1 n3 xs5 H6 →
  bnd (partOf false 1 (cellsOf a0) 1) fun t7 =>
  bnd (lenOf t7) fun n8 =>
  bnd (aBinN .lss (xs5.headD .any) (.int .i64 (n8 : Nat))) fun t9 =>
  cnd t9
  (∃ S10, Abs.sub S10 H6 ∧
  bnd (partOf true 2 (cellsOf a0) 0) fun t11 =>
  bnd (partOf false 1 (cellsOf a0) 1) fun t12 =>
  bnd (aIndex S10 3 t12 (xs5.headD .any)) fun t13 =>
  bnd (aField 1 t13) fun t14 =>
  bnd (aLd false 1 S10 t14) fun t15 =>
  bnd (partOf false 1 (cellsOf a0) 1) fun t16 =>
  bnd (aIndex S10 3 t16 (xs5.headD .any)) fun t17 =>
  bnd (aField 0 t17) fun t18 =>
  bnd (aLd false 1 S10 t18) fun t19 =>
  bnd (partOf false 1 (cellsOf a0) 1) fun t20 =>
  bnd (aIndex S10 3 t20 (xs5.headD .any)) fun t21 =>
  bnd (aField 2 t21) fun t22 =>
  bnd (aLd false 1 S10 t22) fun t23 =>
  ACalls P n_s_l03Cost [t11, t15, t19] H6 fun v24 H25 =>
  Abs.sub S10 H25 ∧
  bnd (aBinN .neq v24 t23) fun t26 =>
  cnd t26
  (Ret R (.bool false) H25)
  (bnd (aBinN .add (xs5.headD .any) (.int .i64 1)) fun t27 =>
  ∃ n4, n4 < n3 ∧ Shr (I1 n4 [t27]) H25))
  (Ret R (.bool true) H6))
theorem W_s_l08Pairs {R : V → Heap → Prop} {a0 : V} {H : Heap} (h : F_s_l08Pairs R a0 H) : ACalls P n_s_l08Pairs [a0] H R :=
  acalls_of_form (g := ⟨[1], [5, 12, 18, 25]⟩) (x := (.seq .leaf (.seq (.seq .leaf (.block (.loop [3] (.seq (.seq .leaf (.cond .leaf .leaf)) (.seq (.block (.seq (.draw [0, 1, 2, 3, 4, 5, 6, 7, 8, 9, 10, 11, 12, 14, 15, 16, 17, 18, 19, 13, 20]) (.cond (.seq .leaf .leaf) .leaf))) .leaf))))) (.seq .leaf .leaf)))) Tryz.func29 (by kernel_rfl) (by kernel_rfl) (by kernel_rfl) (by kernel_rfl : F_s_l08Pairs R a0 H = _) h
def F_s_l01In (R : V → Heap → Prop) (a0 a1 a2 : V) (H : Heap) : Prop :=
  bnd (aBinN .leq a1 a0) fun t1 =>
  gd t1 true
  (bnd (aBinN .leq a0 a2) fun t2 =>
  Ret R t2 H)
  (Ret R (.bool false) H)
theorem W_s_l01In {R : V → Heap → Prop} {a0 a1 a2 : V} {H : Heap} (h : F_s_l01In R a0 a1 a2 H) : ACalls P n_s_l01In [a0, a1, a2] H R :=
  acalls_of_form (g := ⟨[], []⟩) (x := (.seq .leaf (.seq .leaf .leaf))) Tryz.func30 (by kernel_rfl) (by kernel_rfl) (by kernel_rfl) (by kernel_rfl : F_s_l01In R a0 a1 a2 H = _) h
def F_s_DbOk (R : V → Heap → Prop) (a0 : V) (H : Heap) : Prop :=
  boxK a0 (bnd (partOf false 1 (cellsOf a0) 0) fun t1 =>
  bnd (lenOf t1) fun n2 =>
  bnd (aBinN .gtr (.int .i64 (n2 : Nat)) (.int .i64 10)) fun t3 =>
  cnd t3
  (Ret R (.bool false) H)
  (∃ (I4 : Nat → List V → Heap → Prop) (n5 : Nat), Shr (I4 n5 [(.int .i64 0)]) H ∧
  ∀ n6 xs8 H9, I4 n6 xs8 H9 →
  bnd (partOf false 1 (cellsOf a0) 0) fun t10 =>
  bnd (lenOf t10) fun n11 =>
  bnd (aBinN .lss (xs8.headD .any) (.int .i64 (n11 : Nat))) fun t12 =>
  cnd t12
  (∃ S13, Abs.sub S13 H9 ∧
  bnd (partOf false 1 (cellsOf a0) 0) fun t14 =>
  bnd (aIndex S13 5 t14 (xs8.headD .any)) fun t15 =>
  bnd (aLd true 5 S13 t15) fun t16 =>
  ACalls P n_s_LsaOk [t16] H9 fun v17 H18 =>
  Abs.sub S13 H18 ∧
  bnd (aNot v17) fun t19 =>
  gd t19 false
  (bnd (aBinN .gtr (xs8.headD .any) (.int .i64 0)) fun t20 =>
  gd3 t20 true
  (bnd (partOf false 1 (cellsOf a0) 0) fun t21 =>
  bnd (aBinN .sub (xs8.headD .any) (.int .i64 1)) fun t22 =>
  bnd (aIndex S13 5 t21 t22) fun t23 =>
  bnd (aField 0 t23) fun t24 =>
  bnd (aLd false 1 S13 t24) fun t25 =>
  bnd (partOf false 1 (cellsOf a0) 0) fun t26 =>
  bnd (aIndex S13 5 t26 (xs8.headD .any)) fun t27 =>
  bnd (aField 0 t27) fun t28 =>
  bnd (aLd false 1 S13 t28) fun t29 =>
  bnd (aBinN .geq t25 t29) fun t30 =>
  cnd t30
  (Ret R (.bool false) H18)
  (bnd (aBinN .add (xs8.headD .any) (.int .i64 1)) fun t31 =>
  ∃ n7, n7 < n6 ∧ Shr (I4 n7 [t31]) H18))
  (bnd (aBinN .add (xs8.headD .any) (.int .i64 1)) fun t32 =>
  ∃ n7, n7 < n6 ∧ Shr (I4 n7 [t32]) H18)
  (bnd (aPick (.tup []) (.tup []) (.bool false)) fun t33 =>
  cnd t33
  (Ret R (.bool false) H18)
  (bnd (aBinN .add (xs8.headD .any) (.int .i64 1)) fun t34 =>
  ∃ n7, n7 < n6 ∧ Shr (I4 n7 [t34]) H18)))
  (Ret R (.bool false) H18))
  (Ret R (.bool true) H9)))
theorem W_s_DbOk {R : V → Heap → Prop} {a0 : V} {H : Heap} (h : F_s_DbOk R a0 H) : ACalls P n_s_DbOk [a0] H R :=
  acalls_of_form (g := ⟨[1], [4, 9, 15, 26, 33]⟩) (x := (.seq .leaf (.seq (.seq .leaf (.cond (.seq .leaf .leaf) .leaf)) (.seq (.seq .leaf (.block (.loop [3] (.seq (.seq .leaf (.cond .leaf .leaf)) (.seq (.block (.seq (.draw [0, 1, 2, 3, 4, 5, 6, 7, 8, 9, 10, 11, 12, 13, 14, 15, 16, 17, 18, 19, 20, 21, 22, 23, 24, 25, 26]) (.cond (.seq .leaf .leaf) .leaf))) .leaf))))) (.seq .leaf .leaf))))) Tryz.func31 (by kernel_rfl) (by kernel_rfl) (by kernel_rfl) (by kernel_rfl : F_s_DbOk R a0 H = _) h
def F_s_l03Node (R : V → Heap → Prop) (a0 a1 : V) (H : Heap) : Prop :=
  boxK a0 (bnd (partOf false 1 (cellsOf a0) 0) fun t1 =>
  bnd (aBinN .sub t1 (.int .i64 1)) fun t2 =>
  ACalls P n_s_l01In [a1, (.int .i64 0), t2] H fun v3 H4 =>
  Ret R v3 H4)
theorem W_s_l03Node {R : V → Heap → Prop} {a0 a1 : V} {H : Heap} (h : F_s_l03Node R a0 a1 H) : ACalls P n_s_l03Node [a0, a1] H R :=
  acalls_of_form (g := ⟨[2], [6]⟩) (x := (.seq .leaf (.seq .leaf .leaf))) Tryz.func32 (by kernel_rfl) (by kernel_rfl) (by kernel_rfl) (by kernel_rfl : F_s_l03Node R a0 a1 H = _) h
def F_s_LsaOk (R : V → Heap → Prop) (a0 : V) (H : Heap) : Prop :=
  boxK a0 (bnd (partOf false 1 (cellsOf a0) 0) fun t1 =>
  ACalls P n_s_l01In [t1, (.int .i64 0), (.int .i64 9)] H fun v2 H3 =>
  bnd (aNot v2) fun t4 =>
  gd t4 false
  (bnd (partOf false 1 (cellsOf a0) 1) fun t5 =>
  ACalls P n_s_l01In [t5, (.int .i64 1), (.int .i64 1000000)] H3 fun v6 H7 =>
  bnd (aNot v6) fun t8 =>
  gd t8 false
  (bnd (partOf false 1 (cellsOf a0) 2) fun t9 =>
  ACalls P n_s_l01In [t9, (.int .i64 0), (.int .i64 60)] H7 fun v10 H11 =>
  bnd (aNot v10) fun t12 =>
  gd t12 false
  (bnd (partOf false 1 (cellsOf a0) 3) fun t13 =>
  bnd (lenOf t13) fun n14 =>
  bnd (aBinN .gtr (.int .i64 (n14 : Nat)) (.int .i64 10)) fun t15 =>
  gd t15 false
  (bnd (partOf false 1 (cellsOf a0) 4) fun t16 =>
  bnd (lenOf t16) fun n17 =>
  bnd (aBinN .gtr (.int .i64 (n17 : Nat)) (.int .i64 6)) fun t18 =>
  cnd t18
  (Ret R (.bool false) H11)
  (∃ (I19 : Nat → List V → Heap → Prop) (n20 : Nat), Shr (I19 n20 [(.box (cellsOf a0)), (.int .i64 0)]) H11 ∧
  ∀ n21 xs23 H24, I19 n21 xs23 H24 →
  bnd (partOf false 1 (bc (xs23.headD .any)) 3) fun t25 =>
  bnd (lenOf t25) fun n26 =>
  bnd (aBinN .lss (xs23.tail.headD .any) (.int .i64 (n26 : Nat))) fun t27 =>
  cnd t27
  (bnd (partOf false 1 (bc (xs23.headD .any)) 3) fun t28 =>
  bnd (aIndex H24 2 t28 (xs23.tail.headD .any)) fun t29 =>
  bnd (aLd true 2 H24 t29) fun t30 =>
  bnd (stz 2 [(.int .i64 0), (.int .i64 0)] 0 t30) fun c31 =>
  ∃ S32, Abs.sub S32 H24 ∧
  bnd (partOf false 1 c31 0) fun t33 =>
  ACalls P n_s_l01In [t33, (.int .i64 0), (.int .i64 9)] H24 fun v34 H35 =>
  Abs.sub S32 H35 ∧
  bnd (aNot v34) fun t36 =>
  gd t36 false
  (bnd (partOf false 1 c31 0) fun t37 =>
  bnd (partOf false 1 (bc (xs23.headD .any)) 0) fun t38 =>
  bnd (aBinN .eql t37 t38) fun t39 =>
  gd t39 false
  (bnd (partOf false 1 c31 1) fun t40 =>
  ACalls P n_s_l01In [t40, (.int .i64 1), (.int .i64 1000)] H35 fun v41 H42 =>
  Abs.sub S32 H42 ∧
  bnd (aNot v41) fun t43 =>
  gd t43 false
  (bnd (aBinN .gtr (xs23.tail.headD .any) (.int .i64 0)) fun t44 =>
  gd3 t44 true
  (bnd (partOf false 1 (bc (xs23.headD .any)) 3) fun t45 =>
  bnd (aBinN .sub (xs23.tail.headD .any) (.int .i64 1)) fun t46 =>
  bnd (aIndex S32 2 t45 t46) fun t47 =>
  bnd (aField 0 t47) fun t48 =>
  bnd (aLd false 1 S32 t48) fun t49 =>
  bnd (partOf false 1 c31 0) fun t50 =>
  bnd (aBinN .geq t49 t50) fun t51 =>
  cnd t51
  (Ret R (.bool false) H42)
  (bnd (aBinN .add (xs23.tail.headD .any) (.int .i64 1)) fun t52 =>
  ∃ n22, n22 < n21 ∧ Shr (I19 n22 [(.box (bc (xs23.headD .any))), t52]) H42))
  (bnd (aBinN .add (xs23.tail.headD .any) (.int .i64 1)) fun t53 =>
  ∃ n22, n22 < n21 ∧ Shr (I19 n22 [(.box (bc (xs23.headD .any))), t53]) H42)
  (bnd (aPick (.tup []) (.tup []) (.bool false)) fun t54 =>
  cnd t54
  (Ret R (.bool false) H42)
  (bnd (aBinN .add (xs23.tail.headD .any) (.int .i64 1)) fun t55 =>
  ∃ n22, n22 < n21 ∧ Shr (I19 n22 [(.box (bc (xs23.headD .any))), t55]) H42)))
  (Ret R (.bool false) H42))
  (Ret R (.bool false) H35))
  (Ret R (.bool false) H35))
  (∃ (I56 : Nat → List V → Heap → Prop) (n57 : Nat), Shr (I56 n57 [(.box (bc (xs23.headD .any))), (.int .i64 0)]) H24 ∧
  ∀ n58 xs60 H61, I56 n58 xs60 H61 →
  bnd (partOf false 1 (bc (xs60.headD .any)) 4) fun t62 =>
  bnd (lenOf t62) fun n63 =>
  bnd (aBinN .lss (xs60.tail.headD .any) (.int .i64 (n63 : Nat))) fun t64 =>
  cnd t64
  (bnd (partOf false 1 (bc (xs60.headD .any)) 4) fun t65 =>
  bnd (aIndex H61 3 t65 (xs60.tail.headD .any)) fun t66 =>
  bnd (aLd true 3 H61 t66) fun t67 =>
  bnd (stz 3 [(.int .i64 0), (.int .i64 0), (.int .i64 0)] 0 t67) fun c68 =>
  ∃ S69, Abs.sub S69 H61 ∧
  bnd (partOf true 2 c68 0) fun t70 =>
  ACalls P n_s_PrefixOk [t70] H61 fun v71 H72 =>
  Abs.sub S69 H72 ∧
  bnd (aNot v71) fun t73 =>
  gd t73 false
  (bnd (partOf false 1 c68 2) fun t74 =>
  ACalls P n_s_l01In [t74, (.int .i64 1), (.int .i64 1000)] H72 fun v75 H76 =>
  Abs.sub S69 H76 ∧
  bnd (aNot v75) fun t77 =>
  gd t77 false
  (bnd (aBinN .gtr (xs60.tail.headD .any) (.int .i64 0)) fun t78 =>
  gd3 t78 true
  (bnd (partOf false 1 (bc (xs60.headD .any)) 4) fun t79 =>
  bnd (aBinN .sub (xs60.tail.headD .any) (.int .i64 1)) fun t80 =>
  bnd (aIndex S69 3 t79 t80) fun t81 =>
  bnd (aField 0 t81) fun t82 =>
  bnd (aLd true 2 S69 t82) fun t83 =>
  bnd (partOf true 2 c68 0) fun t84 =>
  ACalls P n_s_l02Ahead [t83, t84] H76 fun v85 H86 =>
  Abs.sub S69 H86 ∧
  bnd (aNot v85) fun t87 =>
  cnd t87
  (Ret R (.bool false) H86)
  (bnd (aBinN .add (xs60.tail.headD .any) (.int .i64 1)) fun t88 =>
  ∃ n59, n59 < n58 ∧ Shr (I56 n59 [(.box (bc (xs60.headD .any))), t88]) H86))
  (bnd (aBinN .add (xs60.tail.headD .any) (.int .i64 1)) fun t89 =>
  ∃ n59, n59 < n58 ∧ Shr (I56 n59 [(.box (bc (xs60.headD .any))), t89]) H76)
  (bnd (aPick (.tup []) (.tup []) (.bool false)) fun t90 =>
  cnd t90
  (Ret R (.bool false) H76)
  (bnd (aBinN .add (xs60.tail.headD .any) (.int .i64 1)) fun t91 =>
  ∃ n59, n59 < n58 ∧ Shr (I56 n59 [(.box (bc (xs60.headD .any))), t91]) H76)))
  (Ret R (.bool false) H76))
  (Ret R (.bool false) H72))
  (Ret R (.bool true) H61))))
  (Ret R (.bool false) H11))
  (Ret R (.bool false) H11))
  (Ret R (.bool false) H7))
  (Ret R (.bool false) H3))
theorem W_s_LsaOk {R : V → Heap → Prop} {a0 : V} {H : Heap} (h : F_s_LsaOk R a0 H) : ACalls P n_s_LsaOk [a0] H R :=
  acalls_of_form (g := ⟨[1, 4, 6], [7, 12, 18, 24, 30, 36, 42, 47, 52, 54, 59, 68, 75, 81, 87, 92, 97, 106, 113]⟩) (x := (.seq .leaf (.seq (.seq .leaf (.cond (.seq .leaf .leaf) .leaf)) (.seq (.seq .leaf (.block (.loop [1, 3] (.seq (.seq .leaf (.cond .leaf .leaf)) (.seq (.block (.seq .leaf (.seq (.draw [0, 1, 2, 3, 4, 5, 6, 7, 8, 9, 10, 11, 12, 13, 14, 15, 16, 17, 18, 19, 20, 21, 22, 23, 24, 25, 26, 27, 28, 29, 30, 31, 32]) (.cond (.seq .leaf .leaf) .leaf)))) .leaf))))) (.seq (.seq .leaf (.block (.loop [1, 5] (.seq (.seq .leaf (.cond .leaf .leaf)) (.seq (.block (.seq .leaf (.seq (.draw [0, 1, 2, 3, 4, 5, 6, 7, 8, 9, 10, 11, 12, 13, 14, 15, 16, 17, 18, 19, 20, 21, 22, 23, 24, 25, 26]) (.cond (.seq .leaf .leaf) .leaf)))) .leaf))))) (.seq .leaf .leaf)))))) Tryz.func33 (by kernel_rfl) (by kernel_rfl) (by kernel_rfl) (by kernel_rfl : F_s_LsaOk R a0 H = _) h
def F_i_Db_sum (R : V → Heap → Prop) (a0 : V) (H : Heap) : Prop :=
  boxK a0 (bnd (partOf false 1 (cellsOf a0) 0) fun t1 =>
  bnd (lenOf t1) fun n2 =>
  ∃ (I3 : Nat → List V → Heap → Prop) (n4 : Nat), Shr (I3 n4 [(.int .i64 1), (.int .i64 0)]) H ∧
  ∀ n5 xs7 H8, I3 n5 xs7 H8 →
  bnd (aBinN .lss (xs7.tail.headD .any) (.int .i64 (n2 : Nat))) fun t9 =>
  cnd t9
  (bnd (aIndex H8 5 t1 (xs7.tail.headD .any)) fun t10 =>
  bnd (aLd true 5 H8 t10) fun t11 =>
  bnd (stz 5 [(.int .i64 0), (.int .i64 0), (.int .i64 0), .nils, .nils] 0 t11) fun c12 =>
  bnd (aBinN .mul (.int .i64 31) (xs7.headD .any)) fun t13 =>
  bnd (partOf true 5 c12 0) fun t14 =>
  ACalls P n_i_Lsa_sum [t14] H8 fun v15 H16 =>
  bnd (aBinN .add t13 v15) fun t17 =>
  bnd (aBinN .rem t17 (.int .i64 1000003)) fun t18 =>
  bnd (aBinN .add (xs7.tail.headD .any) (.int .i64 1)) fun t19 =>
  ∃ n6, n6 < n5 ∧ Shr (I3 n6 [t18, t19]) H16)
  (Ret R (xs7.headD .any) H8))
theorem W_i_Db_sum {R : V → Heap → Prop} {a0 : V} {H : Heap} (h : F_i_Db_sum R a0 H) : ACalls P n_i_Db_sum [a0] H R :=
  acalls_of_form (g := ⟨[1, 5], [6]⟩) (x := (.seq .leaf (.seq .leaf (.seq (.seq .leaf (.block (.loop [3, 9] (.seq .leaf (.seq (.cond .leaf .leaf) (.seq (.block (.seq .leaf .leaf)) .leaf)))))) (.seq .leaf .leaf))))) Tryz.func35 (by kernel_rfl) (by kernel_rfl) (by kernel_rfl) (by kernel_rfl : F_i_Db_sum R a0 H = _) h
def F_s_l08Draw (R : V → Heap → Prop) (a0 : V) (H : Heap) : Prop :=
  ACalls P n_s_l01New [a0] H fun v1 H2 =>
  ACalls P n_s_l01Size [a0, (.int .i64 5)] H2 fun v3 H4 =>
  ACalls P n_s_l01Below [v1, v3] H4 fun v5 H6 =>
  bnd (aBinN .add (.int .i64 1) v5) fun t7 =>
  ACalls P n_s_l01Size [a0, (.int .i64 30)] H6 fun v8 H9 =>
  ACalls P n_s_l01Below [v1, v8] H9 fun v10 H11 =>
  ACalls P n_s_l08DrawNet [v1, t7, v10] H11 fun v12 H13 =>
  bnd (stz 5 [(.int .i64 0), .nils, .nils, .nils, (.int .i64 0)] 0 v12) fun c14 =>
  ACalls P n_s_l01Once [v1, (.int .i64 15)] H13 fun v15 H16 =>
  cnd v15
  (bnd (partOf true 5 c14 0) fun t17 =>
  ACalls P n_s_l08Bend [v1, t17] H16 fun v18 H19 =>
  bnd (stz 5 c14 0 v18) fun c20 =>
  ∃ S21, Abs.sub S21 H19 ∧
  bnd (partOf true 5 c20 0) fun t22 =>
  bnd (stz 5 [(.int .i64 0), .nils, .nils, .nils, (.int .i64 0)] 0 t22) fun c23 =>
  bnd (partOf true 5 c23 0) fun t24 =>
  Ret R (.tup [v1, t24]) H19)
  (∃ S25, Abs.sub S25 H16 ∧
  bnd (partOf true 5 c14 0) fun t26 =>
  bnd (stz 5 [(.int .i64 0), .nils, .nils, .nils, (.int .i64 0)] 0 t26) fun c27 =>
  bnd (partOf true 5 c27 0) fun t28 =>
  Ret R (.tup [v1, t28]) H16)
theorem W_s_l08Draw {R : V → Heap → Prop} {a0 : V} {H : Heap} (h : F_s_l08Draw R a0 H) : ACalls P n_s_l08Draw [a0] H R :=
  acalls_of_form (g := ⟨[3, 5], []⟩) (x := (.seq .leaf (.seq .leaf (.seq .leaf (.seq (.seq .leaf (.cond .leaf .leaf)) (.seq (.draw [0, 1, 2, 3]) .leaf)))))) Tryz.func37 (by kernel_rfl) (by kernel_rfl) (by kernel_rfl) (by kernel_rfl : F_s_l08Draw R a0 H = _) h
def F_s_l08DrawPlace (R : V → Heap → Prop) (a0 a1 : V) (H : Heap) : Prop :=
  boxK a1 (bnd (partOf false 1 (cellsOf a1) 3) fun t1 =>
  bnd (lenOf t1) fun n2 =>
  bnd (aBinN .gtr (.int .i64 (n2 : Nat)) (.int .i64 0)) fun t3 =>
  gd t3 true
  (ACalls P n_s_l01Once [a0, (.int .i64 10)] H fun v4 H5 =>
  bnd (aNot v4) fun t6 =>
  cnd t6
  (bnd (partOf false 1 (cellsOf a1) 3) fun t7 =>
  bnd (lenOf t7) fun n8 =>
  ACalls P n_s_l01Below [a0, (.int .i64 (n8 : Nat))] H5 fun v9 H10 =>
  Ret R v9 H10)
  (bnd (partOf false 1 (cellsOf a1) 3) fun t11 =>
  bnd (lenOf t11) fun n12 =>
  bnd (bsl 1 3 [(.int .i64 0)] [(0, (.int .i64 (-1))), (1, (.int .i64 0)), (2, (.int .i64 (n12 : Nat)))]) fun r13 =>
  ∀ o14, H5 o14 = none →
  ACalls P n_s_l01PickInt [a0, (.slice o14 0 3 (some 3))] (upd H5 o14 ⟨1, r13⟩) fun v15 H16 =>
  Ret R v15 H16))
  (bnd (partOf false 1 (cellsOf a1) 3) fun t17 =>
  bnd (lenOf t17) fun n18 =>
  bnd (bsl 1 3 [(.int .i64 0)] [(0, (.int .i64 (-1))), (1, (.int .i64 0)), (2, (.int .i64 (n18 : Nat)))]) fun r19 =>
  ∀ o20, H o20 = none →
  ACalls P n_s_l01PickInt [a0, (.slice o20 0 3 (some 3))] (upd H o20 ⟨1, r19⟩) fun v21 H22 =>
  Ret R v21 H22))
theorem W_s_l08DrawPlace {R : V → Heap → Prop} {a0 a1 : V} {H : Heap} (h : F_s_l08DrawPlace R a0 a1 H) : ACalls P n_s_l08DrawPlace [a0, a1] H R :=
  acalls_of_form (g := ⟨[3], [5, 15, 20]⟩) (x := (.seq .leaf (.seq (.seq .leaf (.cond (.seq .leaf .leaf) .leaf)) (.seq .leaf .leaf)))) Tryz.func38 (by kernel_rfl) (by kernel_rfl) (by kernel_rfl) (by kernel_rfl : F_s_l08DrawPlace R a0 a1 H = _) h
def F_s_l08Copy (R : V → Heap → Prop) (a0 : V) (H : Heap) : Prop :=
  boxK a0 (∀ o1, H o1 = none →
  ∃ S2, Abs.sub S2 (upd H o1 ⟨((cellsOf a0)).length, [(cellsOf a0)]⟩) ∧
  bnd (aField 0 (.ptr o1 0 0)) fun t3 =>
  bnd (aLd true 2 S2 t3) fun t4 =>
  bnd (aField 4 (.ptr o1 0 0)) fun t5 =>
  bnd (aLd false 1 S2 t5) fun t6 =>
  ACalls P n_s_l03Copy [t4] (upd H o1 ⟨((cellsOf a0)).length, [(cellsOf a0)]⟩) fun v7 H8 =>
  Abs.sub S2 H8 ∧
  bnd (fillZ [(.int .i64 0), .nils, .nils, .nils, (.int .i64 0)] [(0, 2, v7), (4, 1, t6)]) fun c9 =>
  bnd (stz 5 [(.int .i64 0), .nils, .nils, .nils, (.int .i64 0)] 0 (.agg c9)) fun c10 =>
  ∃ (I11 : Nat → List V → Heap → Prop) (n12 : Nat), Shr (I11 n12 [(.box [(.int .i64 0), .nils, .nils, .nils, (.int .i64 0)]), (.box c10), (.int .i64 0)]) H8 ∧
  ∀ n13 xs15 H16, I11 n13 xs15 H16 →
  bnd (aField 2 (.ptr o1 0 0)) fun t17 =>
  bnd (aLd false 1 H16 t17) fun t18 =>
  bnd (lenOf t18) fun n19 =>
  bnd (aBinN .lss (xs15.tail.tail.headD .any) (.int .i64 (n19 : Nat))) fun t20 =>
  cnd t20
  (bnd (partOf false 1 (bc (xs15.tail.headD .any)) 2) fun t21 =>
  bnd (aField 2 (.ptr o1 0 0)) fun t22 =>
  bnd (aLd false 1 H16 t22) fun t23 =>
  bnd (aIndex H16 1 t23 (xs15.tail.tail.headD .any)) fun t24 =>
  bnd (aLd true 1 H16 t24) fun t25 =>
  ACalls P n_s_l06Copy [t25] H16 fun v26 H27 =>
  bnd (bsl 1 1 [.nils] [(0, v26)]) fun r28 =>
  ∀ o29, H27 o29 = none →
  bnd (rowsOf (upd H27 o29 ⟨1, r28⟩) 1 (.slice o29 0 1 (some 1))) fun r32 =>
  appendK (upd H27 o29 ⟨1, r28⟩) 1 24 t21 r32 fun v30 H31 =>
  bnd (stz 1 (bc (xs15.tail.headD .any)) 2 v30) fun c33 =>
  bnd (aBinN .add (xs15.tail.tail.headD .any) (.int .i64 1)) fun t34 =>
  ∃ n14, n14 < n13 ∧ Shr (I11 n14 [(.box (bc (xs15.headD .any))), (.box c33), t34]) H31)
  (∃ (I35 : Nat → List V → Heap → Prop) (n36 : Nat), Shr (I35 n36 [(.box (bc (xs15.headD .any))), (.box (bc (xs15.tail.headD .any))), (.int .i64 0)]) H16 ∧
  ∀ n37 xs39 H40, I35 n37 xs39 H40 →
  bnd (aField 3 (.ptr o1 0 0)) fun t41 =>
  bnd (aLd false 1 H40 t41) fun t42 =>
  bnd (lenOf t42) fun n43 =>
  bnd (aBinN .lss (xs39.tail.tail.headD .any) (.int .i64 (n43 : Nat))) fun t44 =>
  cnd t44
  (∃ S45, Abs.sub S45 H40 ∧
  bnd (partOf false 1 (bc (xs39.tail.headD .any)) 3) fun t46 =>
  bnd (aField 3 (.ptr o1 0 0)) fun t47 =>
  bnd (aLd false 1 S45 t47) fun t48 =>
  bnd (aIndex S45 7 t48 (xs39.tail.tail.headD .any)) fun t49 =>
  bnd (aField 0 t49) fun t50 =>
  bnd (aLd false 1 S45 t50) fun t51 =>
  bnd (aField 3 (.ptr o1 0 0)) fun t52 =>
  bnd (aLd false 1 S45 t52) fun t53 =>
  bnd (aIndex S45 7 t53 (xs39.tail.tail.headD .any)) fun t54 =>
  bnd (aField 1 t54) fun t55 =>
  bnd (aLd false 1 S45 t55) fun t56 =>
  bnd (aField 3 (.ptr o1 0 0)) fun t57 =>
  bnd (aLd false 1 S45 t57) fun t58 =>
  bnd (aIndex S45 7 t58 (xs39.tail.tail.headD .any)) fun t59 =>
  bnd (aField 2 t59) fun t60 =>
  bnd (aLd true 5 S45 t60) fun t61 =>
  ACalls P n_s_l05Copy [t61] H40 fun v62 H63 =>
  Abs.sub S45 H63 ∧
  bnd (fillZ [(.int .i64 0), (.int .i64 0), (.int .i64 0), (.int .i64 0), (.int .i64 0), .nils, .nils] [(0, 1, t51), (1, 1, t56), (2, 5, v62)]) fun c64 =>
  bnd (bsl 7 1 [(.int .i64 0), (.int .i64 0), (.int .i64 0), (.int .i64 0), (.int .i64 0), .nils, .nils] [(0, (.agg c64))]) fun r65 =>
  ∀ o66, H63 o66 = none →
  Abs.sub S45 (upd H63 o66 ⟨7, r65⟩) ∧
  bnd (rowsOf (upd H63 o66 ⟨7, r65⟩) 7 (.slice o66 0 1 (some 1))) fun r69 =>
  appendK (upd H63 o66 ⟨7, r65⟩) 7 88 t46 r69 fun v67 H68 =>
  Abs.sub S45 H68 ∧
  bnd (stz 1 (bc (xs39.tail.headD .any)) 3 v67) fun c70 =>
  bnd (aBinN .add (xs39.tail.tail.headD .any) (.int .i64 1)) fun t71 =>
  ∃ n38, n38 < n37 ∧ Shr (I35 n38 [(.box (bc (xs39.headD .any))), (.box c70), t71]) H68)
  (bnd (partOf true 5 (bc (xs39.tail.headD .any)) 0) fun t72 =>
  bnd (stz 5 (bc (xs39.headD .any)) 0 t72) fun c73 =>
  bnd (partOf true 5 c73 0) fun t74 =>
  Ret R t74 H40)))
theorem W_s_l08Copy {R : V → Heap → Prop} {a0 : V} {H : Heap} (h : F_s_l08Copy R a0 H) : ACalls P n_s_l08Copy [a0] H R :=
  acalls_of_form (g := ⟨[2, 3], [19, 29, 37, 61]⟩) (x := (.seq .leaf (.seq (.draw [0, 1, 3, 4, 6, 2, 5, 7]) (.seq (.seq .leaf (.block (.loop [2, 3, 4] (.seq (.seq .leaf (.cond .leaf .leaf)) (.seq (.block (.drawh [0, 1, 2, 3, 4, 5, 6, 7, 8, 9, 10, 11])) .leaf))))) (.seq (.seq .leaf (.block (.loop [2, 3, 5] (.seq (.seq .leaf (.cond .leaf .leaf)) (.seq (.block (.draw [0, 1, 2, 3, 4, 5, 6, 7, 8, 9, 10, 11, 12, 13, 14, 15, 16, 17, 18, 19, 20, 21, 22, 23, 24, 25])) .leaf))))) (.seq .leaf .leaf)))))) Tryz.func39 (by kernel_rfl) (by kernel_rfl) (by kernel_rfl) (by kernel_rfl : F_s_l08Copy R a0 H = _) h
def F_s_l08Off (R : V → Heap → Prop) (a0 a1 : V) (H : Heap) : Prop :=
  boxK a0 (bnd (partOf true 5 (cellsOf a0) 0) fun t1 =>
  ACalls P n_s_l08Copy [t1] H fun v2 H3 =>
  bnd (stz 5 [(.int .i64 0), .nils, .nils, .nils, (.int .i64 0)] 0 v2) fun c4 =>
  bnd (partOf false 1 c4 3) fun t5 =>
  bnd (aIndex H3 7 t5 a1) fun t6 =>
  bnd (aLd true 7 H3 t6) fun t7 =>
  bnd (stz 7 [(.int .i64 0), (.int .i64 0), (.int .i64 0), (.int .i64 0), (.int .i64 0), .nils, .nils] 0 t7) fun c8 =>
  bnd (stz 1 c4 3 .nils) fun c9 =>
  ∃ (I10 : Nat → List V → Heap → Prop) (n11 : Nat), Shr (I10 n11 [(.box (cellsOf a0)), (.box [(.int .i64 0), .nils, .nils, .nils, (.int .i64 0)]), (.box [(.int .i64 0), (.int .i64 0), (.int .i64 0), (.int .i64 0), (.int .i64 0), .nils, .nils]), (.box c9), (.box c8), (.int .i64 0)]) H3 ∧
  ∀ n12 xs14 H15, I10 n12 xs14 H15 →
  bnd (partOf false 1 (bc (xs14.headD .any)) 3) fun t16 =>
  bnd (lenOf t16) fun n17 =>
  bnd (aBinN .lss (xs14.tail.tail.tail.tail.tail.headD .any) (.int .i64 (n17 : Nat))) fun t18 =>
  cnd t18
  (bnd (aBinN .neq (xs14.tail.tail.tail.tail.tail.headD .any) a1) fun t19 =>
  cnd t19
  (∃ S20, Abs.sub S20 H15 ∧
  bnd (partOf false 1 (bc (xs14.tail.tail.tail.headD .any)) 3) fun t21 =>
  bnd (partOf false 1 (bc (xs14.headD .any)) 3) fun t22 =>
  bnd (aIndex S20 7 t22 (xs14.tail.tail.tail.tail.tail.headD .any)) fun t23 =>
  bnd (aField 0 t23) fun t24 =>
  bnd (aLd false 1 S20 t24) fun t25 =>
  bnd (partOf false 1 (bc (xs14.headD .any)) 3) fun t26 =>
  bnd (aIndex S20 7 t26 (xs14.tail.tail.tail.tail.tail.headD .any)) fun t27 =>
  bnd (aField 1 t27) fun t28 =>
  bnd (aLd false 1 S20 t28) fun t29 =>
  bnd (partOf false 1 (bc (xs14.headD .any)) 3) fun t30 =>
  bnd (aIndex S20 7 t30 (xs14.tail.tail.tail.tail.tail.headD .any)) fun t31 =>
  bnd (aField 2 t31) fun t32 =>
  bnd (aLd true 5 S20 t32) fun t33 =>
  ACalls P n_s_l05Copy [t33] H15 fun v34 H35 =>
  Abs.sub S20 H35 ∧
  bnd (fillZ [(.int .i64 0), (.int .i64 0), (.int .i64 0), (.int .i64 0), (.int .i64 0), .nils, .nils] [(0, 1, t25), (1, 1, t29), (2, 5, v34)]) fun c36 =>
  bnd (bsl 7 1 [(.int .i64 0), (.int .i64 0), (.int .i64 0), (.int .i64 0), (.int .i64 0), .nils, .nils] [(0, (.agg c36))]) fun r37 =>
  ∀ o38, H35 o38 = none →
  Abs.sub S20 (upd H35 o38 ⟨7, r37⟩) ∧
  bnd (rowsOf (upd H35 o38 ⟨7, r37⟩) 7 (.slice o38 0 1 (some 1))) fun r41 =>
  appendK (upd H35 o38 ⟨7, r37⟩) 7 88 t21 r41 fun v39 H40 =>
  Abs.sub S20 H40 ∧
  bnd (stz 1 (bc (xs14.tail.tail.tail.headD .any)) 3 v39) fun c42 =>
  bnd (aBinN .add (xs14.tail.tail.tail.tail.tail.headD .any) (.int .i64 1)) fun t43 =>
  ∃ n13, n13 < n12 ∧ Shr (I10 n13 [(.box (bc (xs14.headD .any))), (.box (bc (xs14.tail.headD .any))), (.box (bc (xs14.tail.tail.headD .any))), (.box c42), (.box (bc (xs14.tail.tail.tail.tail.headD .any))), t43]) H40)
  (bnd (aBinN .add (xs14.tail.tail.tail.tail.tail.headD .any) (.int .i64 1)) fun t44 =>
  ∃ n13, n13 < n12 ∧ Shr (I10 n13 [(.box (bc (xs14.headD .any))), (.box (bc (xs14.tail.headD .any))), (.box (bc (xs14.tail.tail.headD .any))), (.box (bc (xs14.tail.tail.tail.headD .any))), (.box (bc (xs14.tail.tail.tail.tail.headD .any))), t44]) H15))
  (∃ S45, Abs.sub S45 H15 ∧
  bnd (partOf true 5 (bc (xs14.tail.tail.tail.headD .any)) 0) fun t46 =>
  bnd (partOf true 7 (bc (xs14.tail.tail.tail.tail.headD .any)) 0) fun t47 =>
  bnd (stz 5 (bc (xs14.tail.headD .any)) 0 t46) fun c48 =>
  bnd (stz 7 (bc (xs14.tail.tail.headD .any)) 0 t47) fun c49 =>
  bnd (partOf true 5 c48 0) fun t50 =>
  bnd (partOf true 7 c49 0) fun t51 =>
  Ret R (.tup [t50, t51]) H15))
theorem W_s_l08Off {R : V → Heap → Prop} {a0 a1 : V} {H : Heap} (h : F_s_l08Off R a0 a1 H) : ACalls P n_s_l08Off [a0, a1] H R :=
  acalls_of_form (g := ⟨[2, 4, 5, 6, 7], [11, 16, 18, 27, 29, 35, 41, 51]⟩) (x := (.seq .leaf (.seq .leaf (.seq .leaf (.seq .leaf (.seq (.seq .leaf (.block (.loop [2, 4, 5, 6, 7, 8] (.seq (.seq .leaf (.cond .leaf .leaf)) (.seq (.block (.seq .leaf (.cond (.draw [0, 1, 2, 3, 4, 5, 6, 7, 8, 9, 10, 11, 12, 13, 14, 15, 16, 17, 18, 19, 20, 21, 22, 23, 24, 25]) .leaf))) .leaf))))) (.seq (.draw [0, 1, 2, 3]) .leaf))))))) Tryz.func40 (by kernel_rfl) (by kernel_rfl) (by kernel_rfl) (by kernel_rfl : F_s_l08Off R a0 a1 H = _) h
def F_s_l03Cost (R : V → Heap → Prop) (a0 a1 a2 : V) (H : Heap) : Prop :=
  boxK a0 (bnd (partOf true 2 (cellsOf a0) 0) fun t1 =>
  ACalls P n_s_l03Node [t1, a1] H fun v2 H3 =>
  bnd (aNot v2) fun t4 =>
  gd t4 false
  (bnd (partOf true 2 (cellsOf a0) 0) fun t5 =>
  ACalls P n_s_l03Node [t5, a2] H3 fun v6 H7 =>
  bnd (aNot v6) fun t8 =>
  cnd t8
  (Ret R (.int .i64 1000000) H7)
  (bnd (aBinN .eql a1 a2) fun t9 =>
  cnd t9
  (Ret R (.int .i64 0) H7)
  (∃ (I10 : Nat → List V → Heap → Prop) (n11 : Nat), Shr (I10 n11 [(.int .i64 0)]) H7 ∧
  ∀ n12 xs14 H15, I10 n12 xs14 H15 →
  bnd (partOf false 1 (cellsOf a0) 1) fun t16 =>
  bnd (lenOf t16) fun n17 =>
  bnd (aBinN .lss (xs14.headD .any) (.int .i64 (n17 : Nat))) fun t18 =>
  cnd t18
  (bnd (partOf false 1 (cellsOf a0) 1) fun t19 =>
  bnd (aIndex H15 3 t19 (xs14.headD .any)) fun t20 =>
  bnd (aField 0 t20) fun t21 =>
  bnd (aLd false 1 H15 t21) fun t22 =>
  bnd (aBinN .eql t22 a1) fun t23 =>
  gd t23 true
  (bnd (partOf false 1 (cellsOf a0) 1) fun t24 =>
  bnd (aIndex H15 3 t24 (xs14.headD .any)) fun t25 =>
  bnd (aField 1 t25) fun t26 =>
  bnd (aLd false 1 H15 t26) fun t27 =>
  bnd (aBinN .eql t27 a2) fun t28 =>
  cnd t28
  (bnd (partOf false 1 (cellsOf a0) 1) fun t29 =>
  bnd (aIndex H15 3 t29 (xs14.headD .any)) fun t30 =>
  bnd (aField 2 t30) fun t31 =>
  bnd (aLd false 1 H15 t31) fun t32 =>
  Ret R t32 H15)
  (bnd (aBinN .add (xs14.headD .any) (.int .i64 1)) fun t33 =>
  ∃ n13, n13 < n12 ∧ Shr (I10 n13 [t33]) H15))
  (bnd (aBinN .add (xs14.headD .any) (.int .i64 1)) fun t34 =>
  ∃ n13, n13 < n12 ∧ Shr (I10 n13 [t34]) H15))
  (Ret R (.int .i64 1000000) H15))))
  (Ret R (.int .i64 1000000) H3))
theorem W_s_l03Cost {R : V → Heap → Prop} {a0 a1 a2 : V} {H : Heap} (h : F_s_l03Cost R a0 a1 a2 H) : ACalls P n_s_l03Cost [a0, a1, a2] H R :=
  acalls_of_form (g := ⟨[3], [22, 28, 37, 46]⟩) (x := (.seq .leaf (.seq (.seq .leaf (.cond (.seq .leaf .leaf) .leaf)) (.seq (.seq .leaf (.cond (.seq .leaf .leaf) .leaf)) (.seq (.seq .leaf (.block (.loop [7] (.seq (.seq .leaf (.cond .leaf .leaf)) (.seq (.block (.seq .leaf (.cond (.seq .leaf .leaf) .leaf))) .leaf))))) (.seq .leaf .leaf)))))) Tryz.func41 (by kernel_rfl) (by kernel_rfl) (by kernel_rfl) (by kernel_rfl : F_s_l03Cost R a0 a1 a2 H = _) h
def F_s_Install (R : V → Heap → Prop) (a0 a1 : V) (H : Heap) : Prop :=
  boxK a0 (boxK a1 (bnd (partOf true 1 (cellsOf a0) 0) fun t1 =>
  ACalls P n_s_DbOk [t1] H fun v2 H3 =>
  bnd (aNot v2) fun t4 =>
  gd t4 false
  (bnd (partOf true 5 (cellsOf a1) 0) fun t5 =>
  ACalls P n_s_LsaOk [t5] H3 fun v6 H7 =>
  bnd (aNot v6) fun t8 =>
  cnd t8
  (bnd (partOf true 1 (cellsOf a0) 0) fun t9 =>
  ACalls P n_s_l06Copy [t9] H7 fun v10 H11 =>
  bnd (stz 1 [.nils] 0 v10) fun c12 =>
  bnd (partOf true 1 c12 0) fun t13 =>
  Ret R (.tup [t13, (.int .i64 3)]) H11)
  (bnd (partOf true 1 (cellsOf a0) 0) fun t14 =>
  bnd (partOf false 1 (cellsOf a1) 0) fun t15 =>
  ACalls P n_s_FindLsa [t14, t15] H7 fun v16 H17 =>
  bnd (aExtract 0 v16) fun t18 =>
  bnd (aExtract 1 v16) fun t19 =>
  bnd (stz 5 [(.int .i64 0), (.int .i64 0), (.int .i64 0), .nils, .nils] 0 t18) fun c20 =>
  bnd (aNot t19) fun t21 =>
  gd t21 true
  (bnd (partOf false 1 (cellsOf a1) 2) fun t22 =>
  bnd (aBinN .eql t22 (.int .i64 60)) fun t23 =>
  cnd t23
  (bnd (partOf true 1 (cellsOf a0) 0) fun t24 =>
  ACalls P n_s_l06Copy [t24] H17 fun v25 H26 =>
  bnd (stz 1 [.nils] 0 v25) fun c27 =>
  bnd (partOf true 1 c27 0) fun t28 =>
  Ret R (.tup [t28, (.int .i64 1)]) H26)
  (∃ J29 : List V → Heap → Prop,
  (cnd t19
  (bnd (partOf true 5 (cellsOf a1) 0) fun t32 =>
  bnd (partOf true 5 c20 0) fun t33 =>
  ACalls P n_s_Newer [t32, t33] H17 fun v34 H35 =>
  bnd (aBinN .eql v34 (.int .i64 0)) fun t36 =>
  cnd t36
  (bnd (partOf true 1 (cellsOf a0) 0) fun t37 =>
  ACalls P n_s_l06Copy [t37] H35 fun v38 H39 =>
  bnd (stz 1 [.nils] 0 v38) fun c40 =>
  bnd (partOf true 1 c40 0) fun t41 =>
  Ret R (.tup [t41, (.int .i64 1)]) H39)
  (bnd (aBinN .eql v34 (.int .i64 (-1))) fun t42 =>
  cnd t42
  (bnd (partOf true 1 (cellsOf a0) 0) fun t43 =>
  ACalls P n_s_l06Copy [t43] H35 fun v44 H45 =>
  bnd (stz 1 [.nils] 0 v44) fun c46 =>
  bnd (partOf true 1 c46 0) fun t47 =>
  Ret R (.tup [t47, (.int .i64 2)]) H45)
  (Shr (J29 [(.box (cellsOf a0)), (.box (cellsOf a1)), (.box [.nils])]) H35)))
  (Shr (J29 [(.box (cellsOf a0)), (.box (cellsOf a1)), (.box [.nils])]) H17)) ∧
  ∀ xs30 H31, J29 xs30 H31 →
  bnd (fillZ [.nils] []) fun c48 =>
  bnd (stz 1 [.nils] 0 (.agg c48)) fun c49 =>
  ∃ (I50 : Nat → List V → Heap → Prop) (n51 : Nat), Shr (I50 n51 [(.box (bc (xs30.headD .any))), (.box (bc (xs30.tail.headD .any))), (.box (bc (xs30.tail.tail.headD .any))), (.box c49), (.bool false), (.int .i64 0)]) H31 ∧
  ∀ n52 xs54 H55, I50 n52 xs54 H55 →
  bnd (partOf false 1 (bc (xs54.headD .any)) 0) fun t56 =>
  bnd (lenOf t56) fun n57 =>
  bnd (aBinN .lss (xs54.tail.tail.tail.tail.tail.headD .any) (.int .i64 (n57 : Nat))) fun t58 =>
  cnd t58
  (∃ J59 : List V → Heap → Prop,
  (∃ S62, Abs.sub S62 H55 ∧
  bnd (aNot (xs54.tail.tail.tail.tail.headD .any)) fun t63 =>
  gd t63 true
  (bnd (partOf false 1 (bc (xs54.tail.headD .any)) 0) fun t64 =>
  bnd (partOf false 1 (bc (xs54.headD .any)) 0) fun t65 =>
  bnd (aIndex S62 5 t65 (xs54.tail.tail.tail.tail.tail.headD .any)) fun t66 =>
  bnd (aField 0 t66) fun t67 =>
  bnd (aLd false 1 S62 t67) fun t68 =>
  bnd (aBinN .leq t64 t68) fun t69 =>
  cnd t69
  (bnd (partOf false 1 (bc (xs54.tail.tail.tail.headD .any)) 0) fun t70 =>
  bnd (partOf true 5 (bc (xs54.tail.headD .any)) 0) fun t71 =>
  ACalls P n_s_l05Copy [t71] H55 fun v72 H73 =>
  bnd (bsl 5 1 [(.int .i64 0), (.int .i64 0), (.int .i64 0), .nils, .nils] [(0, v72)]) fun r74 =>
  ∀ o75, H73 o75 = none →
  bnd (rowsOf (upd H73 o75 ⟨5, r74⟩) 5 (.slice o75 0 1 (some 1))) fun r78 =>
  appendK (upd H73 o75 ⟨5, r74⟩) 5 72 t70 r78 fun v76 H77 =>
  bnd (stz 1 (bc (xs54.tail.tail.tail.headD .any)) 0 v76) fun c79 =>
  Shr (J59 [(.box (bc (xs54.headD .any))), (.box (bc (xs54.tail.headD .any))), (.box (bc (xs54.tail.tail.headD .any))), (.box c79), (.bool true)]) H77)
  (Shr (J59 [(.box (bc (xs54.headD .any))), (.box (bc (xs54.tail.headD .any))), (.box (bc (xs54.tail.tail.headD .any))), (.box (bc (xs54.tail.tail.tail.headD .any))), (xs54.tail.tail.tail.tail.headD .any)]) H55))
  (Shr (J59 [(.box (bc (xs54.headD .any))), (.box (bc (xs54.tail.headD .any))), (.box (bc (xs54.tail.tail.headD .any))), (.box (bc (xs54.tail.tail.tail.headD .any))), (xs54.tail.tail.tail.tail.headD .any)]) H55)) ∧
  ∀ xs60 H61, J59 xs60 H61 →
  ∃ S80, Abs.sub S80 H61 ∧
  bnd (partOf false 1 (bc (xs60.headD .any)) 0) fun t81 =>
  bnd (aIndex S80 5 t81 (xs54.tail.tail.tail.tail.tail.headD .any)) fun t82 =>
  bnd (aField 0 t82) fun t83 =>
  bnd (aLd false 1 S80 t83) fun t84 =>
  bnd (partOf false 1 (bc (xs60.tail.headD .any)) 0) fun t85 =>
  bnd (aBinN .neq t84 t85) fun t86 =>
  cnd t86
  (bnd (partOf false 1 (bc (xs60.tail.tail.tail.headD .any)) 0) fun t87 =>
  bnd (partOf false 1 (bc (xs60.headD .any)) 0) fun t88 =>
  bnd (aIndex H61 5 t88 (xs54.tail.tail.tail.tail.tail.headD .any)) fun t89 =>
  bnd (aLd true 5 H61 t89) fun t90 =>
  ACalls P n_s_l05Copy [t90] H61 fun v91 H92 =>
  bnd (bsl 5 1 [(.int .i64 0), (.int .i64 0), (.int .i64 0), .nils, .nils] [(0, v91)]) fun r93 =>
  ∀ o94, H92 o94 = none →
  bnd (rowsOf (upd H92 o94 ⟨5, r93⟩) 5 (.slice o94 0 1 (some 1))) fun r97 =>
  appendK (upd H92 o94 ⟨5, r93⟩) 5 72 t87 r97 fun v95 H96 =>
  bnd (stz 1 (bc (xs60.tail.tail.tail.headD .any)) 0 v95) fun c98 =>
  bnd (aBinN .add (xs54.tail.tail.tail.tail.tail.headD .any) (.int .i64 1)) fun t99 =>
  ∃ n53, n53 < n52 ∧ Shr (I50 n53 [(.box (bc (xs60.headD .any))), (.box (bc (xs60.tail.headD .any))), (.box (bc (xs60.tail.tail.headD .any))), (.box c98), (xs60.tail.tail.tail.tail.headD .any), t99]) H96)
  (bnd (aBinN .add (xs54.tail.tail.tail.tail.tail.headD .any) (.int .i64 1)) fun t100 =>
  ∃ n53, n53 < n52 ∧ Shr (I50 n53 [(.box (bc (xs60.headD .any))), (.box (bc (xs60.tail.headD .any))), (.box (bc (xs60.tail.tail.headD .any))), (.box (bc (xs60.tail.tail.tail.headD .any))), (xs60.tail.tail.tail.tail.headD .any), t100]) H61))
  (bnd (aNot (xs54.tail.tail.tail.tail.headD .any)) fun t101 =>
  cnd t101
  (bnd (partOf false 1 (bc (xs54.tail.tail.tail.headD .any)) 0) fun t102 =>
  bnd (partOf true 5 (bc (xs54.tail.headD .any)) 0) fun t103 =>
  ACalls P n_s_l05Copy [t103] H55 fun v104 H105 =>
  bnd (bsl 5 1 [(.int .i64 0), (.int .i64 0), (.int .i64 0), .nils, .nils] [(0, v104)]) fun r106 =>
  ∀ o107, H105 o107 = none →
  bnd (rowsOf (upd H105 o107 ⟨5, r106⟩) 5 (.slice o107 0 1 (some 1))) fun r110 =>
  appendK (upd H105 o107 ⟨5, r106⟩) 5 72 t102 r110 fun v108 H109 =>
  bnd (stz 1 (bc (xs54.tail.tail.tail.headD .any)) 0 v108) fun c111 =>
  bnd (partOf true 1 c111 0) fun t112 =>
  bnd (stz 1 (bc (xs54.tail.tail.headD .any)) 0 t112) fun c113 =>
  bnd (partOf true 1 c113 0) fun t114 =>
  Ret R (.tup [t114, (.int .i64 0)]) H109)
  (bnd (partOf true 1 (bc (xs54.tail.tail.tail.headD .any)) 0) fun t115 =>
  bnd (stz 1 (bc (xs54.tail.tail.headD .any)) 0 t115) fun c116 =>
  bnd (partOf true 1 c116 0) fun t117 =>
  Ret R (.tup [t117, (.int .i64 0)]) H55))))
  (∃ J118 : List V → Heap → Prop,
  (cnd t19
  (bnd (partOf true 5 (cellsOf a1) 0) fun t121 =>
  bnd (partOf true 5 c20 0) fun t122 =>
  ACalls P n_s_Newer [t121, t122] H17 fun v123 H124 =>
  bnd (aBinN .eql v123 (.int .i64 0)) fun t125 =>
  cnd t125
  (bnd (partOf true 1 (cellsOf a0) 0) fun t126 =>
  ACalls P n_s_l06Copy [t126] H124 fun v127 H128 =>
  bnd (stz 1 [.nils] 0 v127) fun c129 =>
  bnd (partOf true 1 c129 0) fun t130 =>
  Ret R (.tup [t130, (.int .i64 1)]) H128)
  (bnd (aBinN .eql v123 (.int .i64 (-1))) fun t131 =>
  cnd t131
  (bnd (partOf true 1 (cellsOf a0) 0) fun t132 =>
  ACalls P n_s_l06Copy [t132] H124 fun v133 H134 =>
  bnd (stz 1 [.nils] 0 v133) fun c135 =>
  bnd (partOf true 1 c135 0) fun t136 =>
  Ret R (.tup [t136, (.int .i64 2)]) H134)
  (Shr (J118 [(.box (cellsOf a0)), (.box (cellsOf a1)), (.box [.nils])]) H124)))
  (Shr (J118 [(.box (cellsOf a0)), (.box (cellsOf a1)), (.box [.nils])]) H17)) ∧
  ∀ xs119 H120, J118 xs119 H120 →
  bnd (fillZ [.nils] []) fun c137 =>
  bnd (stz 1 [.nils] 0 (.agg c137)) fun c138 =>
  ∃ (I139 : Nat → List V → Heap → Prop) (n140 : Nat), Shr (I139 n140 [(.box (bc (xs119.headD .any))), (.box (bc (xs119.tail.headD .any))), (.box (bc (xs119.tail.tail.headD .any))), (.box c138), (.bool false), (.int .i64 0)]) H120 ∧
  ∀ n141 xs143 H144, I139 n141 xs143 H144 →
  bnd (partOf false 1 (bc (xs143.headD .any)) 0) fun t145 =>
  bnd (lenOf t145) fun n146 =>
  bnd (aBinN .lss (xs143.tail.tail.tail.tail.tail.headD .any) (.int .i64 (n146 : Nat))) fun t147 =>
  cnd t147
  (∃ J148 : List V → Heap → Prop,
  (∃ S151, Abs.sub S151 H144 ∧
  bnd (aNot (xs143.tail.tail.tail.tail.headD .any)) fun t152 =>
  gd t152 true
  (bnd (partOf false 1 (bc (xs143.tail.headD .any)) 0) fun t153 =>
  bnd (partOf false 1 (bc (xs143.headD .any)) 0) fun t154 =>
  bnd (aIndex S151 5 t154 (xs143.tail.tail.tail.tail.tail.headD .any)) fun t155 =>
  bnd (aField 0 t155) fun t156 =>
  bnd (aLd false 1 S151 t156) fun t157 =>
  bnd (aBinN .leq t153 t157) fun t158 =>
  cnd t158
  (bnd (partOf false 1 (bc (xs143.tail.tail.tail.headD .any)) 0) fun t159 =>
  bnd (partOf true 5 (bc (xs143.tail.headD .any)) 0) fun t160 =>
  ACalls P n_s_l05Copy [t160] H144 fun v161 H162 =>
  bnd (bsl 5 1 [(.int .i64 0), (.int .i64 0), (.int .i64 0), .nils, .nils] [(0, v161)]) fun r163 =>
  ∀ o164, H162 o164 = none →
  bnd (rowsOf (upd H162 o164 ⟨5, r163⟩) 5 (.slice o164 0 1 (some 1))) fun r167 =>
  appendK (upd H162 o164 ⟨5, r163⟩) 5 72 t159 r167 fun v165 H166 =>
  bnd (stz 1 (bc (xs143.tail.tail.tail.headD .any)) 0 v165) fun c168 =>
  Shr (J148 [(.box (bc (xs143.headD .any))), (.box (bc (xs143.tail.headD .any))), (.box (bc (xs143.tail.tail.headD .any))), (.box c168), (.bool true)]) H166)
  (Shr (J148 [(.box (bc (xs143.headD .any))), (.box (bc (xs143.tail.headD .any))), (.box (bc (xs143.tail.tail.headD .any))), (.box (bc (xs143.tail.tail.tail.headD .any))), (xs143.tail.tail.tail.tail.headD .any)]) H144))
  (Shr (J148 [(.box (bc (xs143.headD .any))), (.box (bc (xs143.tail.headD .any))), (.box (bc (xs143.tail.tail.headD .any))), (.box (bc (xs143.tail.tail.tail.headD .any))), (xs143.tail.tail.tail.tail.headD .any)]) H144)) ∧
  ∀ xs149 H150, J148 xs149 H150 →
  ∃ S169, Abs.sub S169 H150 ∧
  bnd (partOf false 1 (bc (xs149.headD .any)) 0) fun t170 =>
  bnd (aIndex S169 5 t170 (xs143.tail.tail.tail.tail.tail.headD .any)) fun t171 =>
  bnd (aField 0 t171) fun t172 =>
  bnd (aLd false 1 S169 t172) fun t173 =>
  bnd (partOf false 1 (bc (xs149.tail.headD .any)) 0) fun t174 =>
  bnd (aBinN .neq t173 t174) fun t175 =>
  cnd t175
  (bnd (partOf false 1 (bc (xs149.tail.tail.tail.headD .any)) 0) fun t176 =>
  bnd (partOf false 1 (bc (xs149.headD .any)) 0) fun t177 =>
  bnd (aIndex H150 5 t177 (xs143.tail.tail.tail.tail.tail.headD .any)) fun t178 =>
  bnd (aLd true 5 H150 t178) fun t179 =>
  ACalls P n_s_l05Copy [t179] H150 fun v180 H181 =>
  bnd (bsl 5 1 [(.int .i64 0), (.int .i64 0), (.int .i64 0), .nils, .nils] [(0, v180)]) fun r182 =>
  ∀ o183, H181 o183 = none →
  bnd (rowsOf (upd H181 o183 ⟨5, r182⟩) 5 (.slice o183 0 1 (some 1))) fun r186 =>
  appendK (upd H181 o183 ⟨5, r182⟩) 5 72 t176 r186 fun v184 H185 =>
  bnd (stz 1 (bc (xs149.tail.tail.tail.headD .any)) 0 v184) fun c187 =>
  bnd (aBinN .add (xs143.tail.tail.tail.tail.tail.headD .any) (.int .i64 1)) fun t188 =>
  ∃ n142, n142 < n141 ∧ Shr (I139 n142 [(.box (bc (xs149.headD .any))), (.box (bc (xs149.tail.headD .any))), (.box (bc (xs149.tail.tail.headD .any))), (.box c187), (xs149.tail.tail.tail.tail.headD .any), t188]) H185)
  (bnd (aBinN .add (xs143.tail.tail.tail.tail.tail.headD .any) (.int .i64 1)) fun t189 =>
  ∃ n142, n142 < n141 ∧ Shr (I139 n142 [(.box (bc (xs149.headD .any))), (.box (bc (xs149.tail.headD .any))), (.box (bc (xs149.tail.tail.headD .any))), (.box (bc (xs149.tail.tail.tail.headD .any))), (xs149.tail.tail.tail.tail.headD .any), t189]) H150))
  (bnd (aNot (xs143.tail.tail.tail.tail.headD .any)) fun t190 =>
  cnd t190
  (bnd (partOf false 1 (bc (xs143.tail.tail.tail.headD .any)) 0) fun t191 =>
  bnd (partOf true 5 (bc (xs143.tail.headD .any)) 0) fun t192 =>
  ACalls P n_s_l05Copy [t192] H144 fun v193 H194 =>
  bnd (bsl 5 1 [(.int .i64 0), (.int .i64 0), (.int .i64 0), .nils, .nils] [(0, v193)]) fun r195 =>
  ∀ o196, H194 o196 = none →
  bnd (rowsOf (upd H194 o196 ⟨5, r195⟩) 5 (.slice o196 0 1 (some 1))) fun r199 =>
  appendK (upd H194 o196 ⟨5, r195⟩) 5 72 t191 r199 fun v197 H198 =>
  bnd (stz 1 (bc (xs143.tail.tail.tail.headD .any)) 0 v197) fun c200 =>
  bnd (partOf true 1 c200 0) fun t201 =>
  bnd (stz 1 (bc (xs143.tail.tail.headD .any)) 0 t201) fun c202 =>
  bnd (partOf true 1 c202 0) fun t203 =>
  Ret R (.tup [t203, (.int .i64 0)]) H198)
  (bnd (partOf true 1 (bc (xs143.tail.tail.tail.headD .any)) 0) fun t204 =>
  bnd (stz 1 (bc (xs143.tail.tail.headD .any)) 0 t204) fun c205 =>
  bnd (partOf true 1 c205 0) fun t206 =>
  Ret R (.tup [t206, (.int .i64 0)]) H144)))))
  (bnd (partOf true 1 (cellsOf a0) 0) fun t207 =>
  ACalls P n_s_l06Copy [t207] H3 fun v208 H209 =>
  bnd (stz 1 [.nils] 0 v208) fun c210 =>
  bnd (partOf true 1 c210 0) fun t211 =>
  Ret R (.tup [t211, (.int .i64 3)]) H209)))
theorem W_s_Install {R : V → Heap → Prop} {a0 a1 : V} {H : Heap} (h : F_s_Install R a0 a1 H) : ACalls P n_s_Install [a0, a1] H R :=
  acalls_of_form (g := ⟨[2, 3, 4, 6, 8], [23, 31, 51, 60, 62, 70, 76, 77, 83, 86, 88, 96, 99, 105]⟩) (x := (.seq .leaf (.seq (.seq .leaf (.cond (.seq .leaf .leaf) .leaf)) (.seq .leaf (.seq (.seq .leaf (.cond (.seq .leaf .leaf) .leaf)) (.seqc (.seq .leaf (.cond (.seq .leaf (.block (.seq .leaf (.cond (.seq .leaf .leaf) (.seq .leaf (.cond (.seq .leaf .leaf) .leaf)))))) .leaf)) (.seq .leaf (.seq .leaf (.seq (.seq .leaf (.block (.loop [2, 3, 4, 8, 9, 10] (.seq (.seq .leaf (.cond .leaf .leaf)) (.seq (.block (.seqc (.seq (.draw [0, 1, 2, 3, 4, 5, 6, 7, 8, 9, 10, 11, 12]) (.cond (.seq (.drawh [0, 1, 2, 3, 4, 5, 6, 7]) .leaf) .leaf)) (.seq (.draw [0, 1, 2, 3, 4, 5, 6, 7, 8]) (.cond (.drawh [0, 1, 2, 3, 4, 5, 6, 7, 8, 9, 10, 11]) .leaf)) [2, 3, 4, 8, 9])) .leaf))))) (.seq (.seq .leaf (.cond (.drawh [0, 1, 2, 3, 4, 5, 6, 7]) .leaf)) (.seq .leaf .leaf))))) [2, 3, 4])))))) Tryz.func42 (by kernel_rfl) (by kernel_rfl) (by kernel_rfl) (by kernel_rfl : F_s_Install R a0 a1 H = _) h
def F_s_l08Spread (R : V → Heap → Prop) (a0 a1 a2 a3 : V) (H : Heap) : Prop :=
  boxK a3 (∃ (I1 : Nat → List V → Heap → Prop) (n2 : Nat), Shr (I1 n2 [(.box (cellsOf a3)), (.int .i64 0)]) H ∧
  ∀ n3 xs5 H6, I1 n3 xs5 H6 →
  bnd (aNil a0) fun t7 =>
  bnd (aField 0 t7) fun t8 =>
  bnd (aField 1 t8) fun t9 =>
  bnd (aLd false 1 H6 t9) fun t10 =>
  bnd (lenOf t10) fun n11 =>
  bnd (aBinN .lss (xs5.tail.headD .any) (.int .i64 (n11 : Nat))) fun t12 =>
  cnd t12
  (bnd (aNil a0) fun t13 =>
  bnd (aField 0 t13) fun t14 =>
  bnd (aField 1 t14) fun t15 =>
  bnd (aLd false 1 H6 t15) fun t16 =>
  bnd (aIndex H6 3 t16 (xs5.tail.headD .any)) fun t17 =>
  bnd (aLd true 3 H6 t17) fun t18 =>
  bnd (stz 3 [(.int .i64 0), (.int .i64 0), (.int .i64 0)] 0 t18) fun c19 =>
  bnd (partOf false 1 c19 0) fun t20 =>
  bnd (aBinN .eql t20 a1) fun t21 =>
  gd t21 true
  (bnd (partOf false 1 c19 1) fun t22 =>
  bnd (aBinN .neq t22 a2) fun t23 =>
  cnd t23
  (bnd (partOf false 1 c19 1) fun t24 =>
  bnd (partOf true 5 (bc (xs5.headD .any)) 0) fun t25 =>
  ACalls P n_s_l08Send [a0, a1, t24, t25] H6 fun v26 H27 =>
  bnd (aBinN .add (xs5.tail.headD .any) (.int .i64 1)) fun t28 =>
  ∃ n4, n4 < n3 ∧ Shr (I1 n4 [(.box (bc (xs5.headD .any))), t28]) H27)
  (bnd (aBinN .add (xs5.tail.headD .any) (.int .i64 1)) fun t29 =>
  ∃ n4, n4 < n3 ∧ Shr (I1 n4 [(.box (bc (xs5.headD .any))), t29]) H6))
  (bnd (aBinN .add (xs5.tail.headD .any) (.int .i64 1)) fun t30 =>
  ∃ n4, n4 < n3 ∧ Shr (I1 n4 [(.box (bc (xs5.headD .any))), t30]) H6))
  (Ret R (.tup []) H6))
theorem W_s_l08Spread {R : V → Heap → Prop} {a0 a1 a2 a3 : V} {H : Heap} (h : F_s_l08Spread R a0 a1 a2 a3 H) : ACalls P n_s_l08Spread [a0, a1, a2, a3] H R :=
  acalls_of_form (g := ⟨[7, 9], [28, 33, 40]⟩) (x := (.seq .leaf (.seq .leaf (.block (.loop [7, 8] (.seq (.seq .leaf (.cond .leaf .leaf)) (.seq (.block (.seq .leaf (.seq .leaf (.cond .leaf .leaf)))) .leaf))))))) Tryz.func43 (by kernel_rfl) (by kernel_rfl) (by kernel_rfl) (by kernel_rfl : F_s_l08Spread R a0 a1 a2 a3 H = _) h
def F_s_FindLsa (R : V → Heap → Prop) (a0 a1 : V) (H : Heap) : Prop :=
  boxK a0 (bnd (partOf true 1 (cellsOf a0) 0) fun t1 =>
  ACalls P n_s_DbOk [t1] H fun v2 H3 =>
  bnd (aNot v2) fun t4 =>
  cnd t4
  (bnd (fillZ [(.int .i64 0), (.int .i64 0), (.int .i64 0), .nils, .nils] []) fun c5 =>
  bnd (stz 5 [(.int .i64 0), (.int .i64 0), (.int .i64 0), .nils, .nils] 0 (.agg c5)) fun c6 =>
  bnd (partOf true 5 c6 0) fun t7 =>
  Ret R (.tup [t7, (.bool false)]) H3)
  (∃ (I8 : Nat → List V → Heap → Prop) (n9 : Nat), Shr (I8 n9 [(.box (cellsOf a0)), (.box [(.int .i64 0), (.int .i64 0), (.int .i64 0), .nils, .nils]), (.int .i64 0)]) H3 ∧
  ∀ n10 xs12 H13, I8 n10 xs12 H13 →
  bnd (partOf false 1 (bc (xs12.headD .any)) 0) fun t14 =>
  bnd (lenOf t14) fun n15 =>
  bnd (aBinN .lss (xs12.tail.tail.headD .any) (.int .i64 (n15 : Nat))) fun t16 =>
  cnd t16
  (bnd (partOf false 1 (bc (xs12.headD .any)) 0) fun t17 =>
  bnd (aIndex H13 5 t17 (xs12.tail.tail.headD .any)) fun t18 =>
  bnd (aField 0 t18) fun t19 =>
  bnd (aLd false 1 H13 t19) fun t20 =>
  bnd (aBinN .eql t20 a1) fun t21 =>
  cnd t21
  (bnd (partOf false 1 (bc (xs12.headD .any)) 0) fun t22 =>
  bnd (aIndex H13 5 t22 (xs12.tail.tail.headD .any)) fun t23 =>
  bnd (aLd true 5 H13 t23) fun t24 =>
  ACalls P n_s_l05Copy [t24] H13 fun v25 H26 =>
  bnd (stz 5 (bc (xs12.tail.headD .any)) 0 v25) fun c27 =>
  bnd (partOf true 5 c27 0) fun t28 =>
  Ret R (.tup [t28, (.bool true)]) H26)
  (bnd (aBinN .add (xs12.tail.tail.headD .any) (.int .i64 1)) fun t29 =>
  ∃ n11, n11 < n10 ∧ Shr (I8 n11 [(.box (bc (xs12.headD .any))), (.box (bc (xs12.tail.headD .any))), t29]) H13))
  (bnd (fillZ [(.int .i64 0), (.int .i64 0), (.int .i64 0), .nils, .nils] []) fun c30 =>
  bnd (stz 5 (bc (xs12.tail.headD .any)) 0 (.agg c30)) fun c31 =>
  bnd (partOf true 5 c31 0) fun t32 =>
  Ret R (.tup [t32, (.bool false)]) H13)))
theorem W_s_FindLsa {R : V → Heap → Prop} {a0 a1 : V} {H : Heap} (h : F_s_FindLsa R a0 a1 H) : ACalls P n_s_FindLsa [a0, a1] H R :=
  acalls_of_form (g := ⟨[2, 4], [12, 18, 26]⟩) (x := (.seq .leaf (.seq (.seq .leaf (.cond (.seq .leaf .leaf) .leaf)) (.seq (.seq .leaf (.block (.loop [2, 4, 6] (.seq (.seq .leaf (.cond .leaf .leaf)) (.seq (.block (.seq .leaf (.cond (.seq .leaf .leaf) .leaf))) .leaf))))) (.seq .leaf .leaf))))) Tryz.func44 (by kernel_rfl) (by kernel_rfl) (by kernel_rfl) (by kernel_rfl : F_s_FindLsa R a0 a1 H = _) h
def F_s_l08Send (R : V → Heap → Prop) (a0 a1 a2 a3 : V) (H : Heap) : Prop :=
  boxK a3 (bnd (aNil a0) fun t1 =>
  bnd (aField 3 t1) fun t2 =>
  bnd (aLd false 1 H t2) fun t3 =>
  bnd (lenOf t3) fun n4 =>
  bnd (aBinN .eql (.int .i64 (n4 : Nat)) (.int .i64 400)) fun t5 =>
  cnd t5
  (bnd (aNil a0) fun t6 =>
  bnd (aField 4 t6) fun t7 =>
  bnd (aLd false 1 H t7) fun t8 =>
  bnd (aBinN .lss t8 (.int .i64 1000000)) fun t9 =>
  cnd t9
  (bnd (aNil a0) fun t10 =>
  bnd (aField 4 t10) fun t11 =>
  bnd (aLd false 1 H t11) fun t12 =>
  bnd (aBinN .add t12 (.int .i64 1)) fun t13 =>
  bnd (aNil a0) fun t14 =>
  bnd (aField 4 t14) fun t15 =>
  bnd (aSt 1 H t15 t13) fun H16 =>
  Ret R (.tup []) H16)
  (Ret R (.tup []) H))
  (∃ S17, Abs.sub S17 H ∧
  bnd (aNil a0) fun t18 =>
  bnd (aField 3 t18) fun t19 =>
  bnd (aLd false 1 S17 t19) fun t20 =>
  bnd (partOf true 5 (cellsOf a3) 0) fun t21 =>
  ACalls P n_s_l05Copy [t21] H fun v22 H23 =>
  Abs.sub S17 H23 ∧
  bnd (fillZ [(.int .i64 0), (.int .i64 0), (.int .i64 0), (.int .i64 0), (.int .i64 0), .nils, .nils] [(0, 1, a1), (1, 1, a2), (2, 5, v22)]) fun c24 =>
  bnd (bsl 7 1 [(.int .i64 0), (.int .i64 0), (.int .i64 0), (.int .i64 0), (.int .i64 0), .nils, .nils] [(0, (.agg c24))]) fun r25 =>
  ∀ o26, H23 o26 = none →
  Abs.sub S17 (upd H23 o26 ⟨7, r25⟩) ∧
  bnd (rowsOf (upd H23 o26 ⟨7, r25⟩) 7 (.slice o26 0 1 (some 1))) fun r29 =>
  appendK (upd H23 o26 ⟨7, r25⟩) 7 88 t20 r29 fun v27 H28 =>
  Abs.sub S17 H28 ∧
  bnd (aNil a0) fun t30 =>
  bnd (aField 3 t30) fun t31 =>
  ∃ S32, Abs.sub S32 H28 ∧
  bnd (aSt 1 H28 t31 v27) fun H33 =>
  Abs.sub S32 H33 ∧
  Ret R (.tup []) H33))
theorem W_s_l08Send {R : V → Heap → Prop} {a0 a1 a2 a3 : V} {H : Heap} (h : F_s_l08Send R a0 a1 a2 a3 H) : ACalls P n_s_l08Send [a0, a1, a2, a3] H R :=
  acalls_of_form (g := ⟨[7], []⟩) (x := (.seq .leaf (.seq (.seq .leaf (.cond (.seq (.seq .leaf (.cond .leaf .leaf)) .leaf) .leaf)) (.drawp [[0, 1, 2, 3, 4, 5, 6, 7, 8, 9, 10, 11, 12, 13], [14]])))) Tryz.func45 (by kernel_rfl) (by kernel_rfl) (by kernel_rfl) (by kernel_rfl : F_s_l08Send R a0 a1 a2 a3 H = _) h
def F_i_isMsg (R : V → Heap → Prop) (a0 a1 : V) (H : Heap) : Prop :=
  boxK a0 (bnd (partOf true 5 (cellsOf a0) 0) fun t1 =>
  ACalls P n_i_NetOk [t1] H fun v2 H3 =>
  gd v2 true
  (bnd (partOf false 1 (cellsOf a0) 3) fun t4 =>
  bnd (lenOf t4) fun n5 =>
  bnd (aBinN .sub (.int .i64 (n5 : Nat)) (.int .i64 1)) fun t6 =>
  ACalls P n_i_within [a1, (.int .i64 0), t6] H3 fun v7 H8 =>
  Ret R v7 H8)
  (Ret R (.bool false) H3))
theorem W_i_isMsg {R : V → Heap → Prop} {a0 a1 : V} {H : Heap} (h : F_i_isMsg R a0 a1 H) : ACalls P n_i_isMsg [a0, a1] H R :=
  acalls_of_form (g := ⟨[2], [9]⟩) (x := (.seq .leaf (.seq .leaf .leaf))) Tryz.func46 (by kernel_rfl) (by kernel_rfl) (by kernel_rfl) (by kernel_rfl : F_i_isMsg R a0 a1 H = _) h
def F_i_DbOk (R : V → Heap → Prop) (a0 : V) (H : Heap) : Prop :=
  boxK a0 (bnd (partOf false 1 (cellsOf a0) 0) fun t1 =>
  bnd (lenOf t1) fun n2 =>
  ∃ (I3 : Nat → List V → Heap → Prop) (n4 : Nat), Shr (I3 n4 [(.box (cellsOf a0)), (.int .i64 0)]) H ∧
  ∀ n5 xs7 H8, I3 n5 xs7 H8 →
  bnd (aBinN .lss (xs7.tail.headD .any) (.int .i64 (n2 : Nat))) fun t9 =>
  cnd t9
  (bnd (aIndex H8 5 t1 (xs7.tail.headD .any)) fun t10 =>
  bnd (aLd true 5 H8 t10) fun t11 =>
  bnd (stz 5 [(.int .i64 0), (.int .i64 0), (.int .i64 0), .nils, .nils] 0 t11) fun c12 =>
  ∃ S13, Abs.sub S13 H8 ∧
  bnd (partOf true 5 c12 0) fun t14 =>
  ACalls P n_i_LsaOk [t14] H8 fun v15 H16 =>
  Abs.sub S13 H16 ∧
  bnd (aNot v15) fun t17 =>
  gd t17 false
  (bnd (aBinN .gtr (xs7.tail.headD .any) (.int .i64 0)) fun t18 =>
  gd3 t18 true
  (bnd (partOf false 1 c12 0) fun t19 =>
  bnd (partOf false 1 (bc (xs7.headD .any)) 0) fun t20 =>
  bnd (aBinN .sub (xs7.tail.headD .any) (.int .i64 1)) fun t21 =>
  bnd (aIndex S13 5 t20 t21) fun t22 =>
  bnd (aField 0 t22) fun t23 =>
  bnd (aLd false 1 S13 t23) fun t24 =>
  bnd (aBinN .leq t19 t24) fun t25 =>
  cnd t25
  (Ret R (.bool false) H16)
  (bnd (aBinN .add (xs7.tail.headD .any) (.int .i64 1)) fun t26 =>
  ∃ n6, n6 < n5 ∧ Shr (I3 n6 [(.box (bc (xs7.headD .any))), t26]) H16))
  (bnd (aBinN .add (xs7.tail.headD .any) (.int .i64 1)) fun t27 =>
  ∃ n6, n6 < n5 ∧ Shr (I3 n6 [(.box (bc (xs7.headD .any))), t27]) H16)
  (bnd (aPick (.tup []) (.tup []) (.bool false)) fun t28 =>
  cnd t28
  (Ret R (.bool false) H16)
  (bnd (aBinN .add (xs7.tail.headD .any) (.int .i64 1)) fun t29 =>
  ∃ n6, n6 < n5 ∧ Shr (I3 n6 [(.box (bc (xs7.headD .any))), t29]) H16)))
  (Ret R (.bool false) H16))
  (Ret R (.bool true) H8))
theorem W_i_DbOk {R : V → Heap → Prop} {a0 : V} {H : Heap} (h : F_i_DbOk R a0 H) : ACalls P n_i_DbOk [a0] H R :=
  acalls_of_form (g := ⟨[1, 4], [5, 20, 22]⟩) (x := (.seq .leaf (.seq (.seq .leaf (.block (.loop [1, 8] (.seq .leaf (.seq (.cond .leaf .leaf) (.seq (.block (.seq .leaf (.seq (.draw [0, 1, 2, 3, 4, 5, 6, 7, 8, 9, 10, 11, 12, 13, 14, 15, 16, 17, 18]) (.cond (.seq .leaf .leaf) .leaf)))) .leaf)))))) (.seq .leaf .leaf)))) Tryz.func47 (by kernel_rfl) (by kernel_rfl) (by kernel_rfl) (by kernel_rfl : F_i_DbOk R a0 H = _) h
def F_i_Db_find (R : V → Heap → Prop) (a0 a1 : V) (H : Heap) : Prop :=
  boxK a0 (bnd (partOf false 1 (cellsOf a0) 0) fun t1 =>
  ACalls P n_slices_BinarySearchFunc_i_Lsa_i_Lsa_int [t1, a1, (.fn n_i_Db_find_1 [])] H fun v2 H3 =>
  bnd (aExtract 0 v2) fun t4 =>
  bnd (aExtract 1 v2) fun t5 =>
  Ret R (.tup [t4, t5]) H3)
theorem W_i_Db_find {R : V → Heap → Prop} {a0 a1 : V} {H : Heap} (h : F_i_Db_find R a0 a1 H) : ACalls P n_i_Db_find [a0, a1] H R :=
  acalls_of_form (g := ⟨[2], [6]⟩) (x := (.seq .leaf (.seq .leaf .leaf))) Tryz.func48 (by kernel_rfl) (by kernel_rfl) (by kernel_rfl) (by kernel_rfl : F_i_Db_find R a0 a1 H = _) h
def F_i_ownLsa (R : V → Heap → Prop) (a0 : V) (H : Heap) : Prop :=
  boxK a0 (∃ S1, Abs.sub S1 H ∧
  bnd (partOf false 1 (cellsOf a0) 3) fun t2 =>
  bnd (partOf false 1 (cellsOf a0) 4) fun t3 =>
  ACalls P n_slices_Clone_i_Link_i_Link [t2] H fun v4 H5 =>
  Abs.sub S1 H5 ∧
  ACalls P n_slices_Clone_i_Stub_i_Stub [t3] H5 fun v6 H7 =>
  Abs.sub S1 H7 ∧
  bnd (stz 1 (cellsOf a0) 3 v4) fun c8 =>
  bnd (stz 1 c8 4 v6) fun c9 =>
  bnd (partOf true 5 c9 0) fun t10 =>
  bnd (stz 5 [(.int .i64 0), (.int .i64 0), (.int .i64 0), .nils, .nils] 0 t10) fun c11 =>
  bnd (partOf true 5 c11 0) fun t12 =>
  Ret R t12 H7)
theorem W_i_ownLsa {R : V → Heap → Prop} {a0 : V} {H : Heap} (h : F_i_ownLsa R a0 H) : ACalls P n_i_ownLsa [a0] H R :=
  acalls_of_form (g := ⟨[1, 2], [3, 6, 9, 10]⟩) (x := (.seq .leaf (.seq (.draw [0, 1, 3, 4, 2, 6, 5, 7, 8, 9]) (.seq .leaf .leaf)))) Tryz.func49 (by kernel_rfl) (by kernel_rfl) (by kernel_rfl) (by kernel_rfl : F_i_ownLsa R a0 H = _) h
def F_i_GraphOk (R : V → Heap → Prop) (a0 : V) (H : Heap) : Prop :=
  boxK a0 (bnd (partOf false 1 (cellsOf a0) 0) fun t1 =>
  ACalls P n_i_within [t1, (.int .i64 1), (.int .i64 10)] H fun v2 H3 =>
  bnd (aNot v2) fun t4 =>
  gd t4 false
  (bnd (partOf false 1 (cellsOf a0) 1) fun t5 =>
  bnd (lenOf t5) fun n6 =>
  bnd (aBinN .gtr (.int .i64 (n6 : Nat)) (.int .i64 60)) fun t7 =>
  cnd t7
  (Ret R (.bool false) H3)
  (bnd (partOf false 1 (cellsOf a0) 1) fun t8 =>
  bnd (lenOf t8) fun n9 =>
  ∃ (I10 : Nat → List V → Heap → Prop) (n11 : Nat), Shr (I10 n11 [(.box (cellsOf a0)), (.int .i64 0)]) H3 ∧
  ∀ n12 xs14 H15, I10 n12 xs14 H15 →
  bnd (aBinN .lss (xs14.tail.headD .any) (.int .i64 (n9 : Nat))) fun t16 =>
  cnd t16
  (bnd (aIndex H15 3 t8 (xs14.tail.headD .any)) fun t17 =>
  bnd (aLd true 3 H15 t17) fun t18 =>
  bnd (stz 3 [(.int .i64 0), (.int .i64 0), (.int .i64 0)] 0 t18) fun c19 =>
  ∃ S20, Abs.sub S20 H15 ∧
  bnd (partOf true 2 (bc (xs14.headD .any)) 0) fun t21 =>
  bnd (partOf false 1 c19 0) fun t22 =>
  ACalls P n_i_Graph_isNode [t21, t22] H15 fun v23 H24 =>
  Abs.sub S20 H24 ∧
  bnd (aNot v23) fun t25 =>
  gd t25 false
  (bnd (partOf true 2 (bc (xs14.headD .any)) 0) fun t26 =>
  bnd (partOf false 1 c19 1) fun t27 =>
  ACalls P n_i_Graph_isNode [t26, t27] H24 fun v28 H29 =>
  Abs.sub S20 H29 ∧
  bnd (aNot v28) fun t30 =>
  gd t30 false
  (bnd (partOf false 1 c19 0) fun t31 =>
  bnd (partOf false 1 c19 1) fun t32 =>
  bnd (aBinN .eql t31 t32) fun t33 =>
  gd t33 false
  (bnd (partOf false 1 c19 2) fun t34 =>
  ACalls P n_i_within [t34, (.int .i64 1), (.int .i64 1000)] H29 fun v35 H36 =>
  Abs.sub S20 H36 ∧
  bnd (aNot v35) fun t37 =>
  gd t37 false
  (bnd (aBinN .gtr (xs14.tail.headD .any) (.int .i64 0)) fun t38 =>
  gd3 t38 true
  (bnd (partOf false 1 (bc (xs14.headD .any)) 1) fun t39 =>
  bnd (aBinN .sub (xs14.tail.headD .any) (.int .i64 1)) fun t40 =>
  bnd (aIndex S20 3 t39 t40) fun t41 =>
  bnd (aLd true 3 S20 t41) fun t42 =>
  bnd (partOf true 3 c19 0) fun t43 =>
  ACalls P n_i_compareEdges [t42, t43] H36 fun v44 H45 =>
  Abs.sub S20 H45 ∧
  bnd (aBinN .geq v44 (.int .i64 0)) fun t46 =>
  cnd t46
  (Ret R (.bool false) H45)
  (bnd (aBinN .add (xs14.tail.headD .any) (.int .i64 1)) fun t47 =>
  ∃ n13, n13 < n12 ∧ Shr (I10 n13 [(.box (bc (xs14.headD .any))), t47]) H45))
  (bnd (aBinN .add (xs14.tail.headD .any) (.int .i64 1)) fun t48 =>
  ∃ n13, n13 < n12 ∧ Shr (I10 n13 [(.box (bc (xs14.headD .any))), t48]) H36)
  (bnd (aPick (.tup []) (.tup []) (.bool false)) fun t49 =>
  cnd t49
  (Ret R (.bool false) H36)
  (bnd (aBinN .add (xs14.tail.headD .any) (.int .i64 1)) fun t50 =>
  ∃ n13, n13 < n12 ∧ Shr (I10 n13 [(.box (bc (xs14.headD .any))), t50]) H36)))
  (Ret R (.bool false) H36))
  (Ret R (.bool false) H29))
  (Ret R (.bool false) H29))
  (Ret R (.bool false) H24))
  (Ret R (.bool true) H15)))
  (Ret R (.bool false) H3))
theorem W_i_GraphOk {R : V → Heap → Prop} {a0 : V} {H : Heap} (h : F_i_GraphOk R a0 H) : ACalls P n_i_GraphOk [a0] H R :=
  acalls_of_form (g := ⟨[1, 4], [5, 10, 15, 24, 30, 36, 38, 43, 52]⟩) (x := (.seq .leaf (.seq (.seq .leaf (.cond (.seq .leaf .leaf) .leaf)) (.seq (.seq .leaf (.block (.loop [1, 18] (.seq .leaf (.seq (.cond .leaf .leaf) (.seq (.block (.seq .leaf (.seq (.draw [0, 1, 2, 3, 4, 5, 6, 7, 8, 9, 10, 11, 12, 13, 14, 15, 16, 17, 18, 19, 20, 21, 22, 23, 24, 25, 26, 27, 28, 29, 30, 31, 32, 33, 34, 35, 36, 37, 38, 39]) (.cond (.seq .leaf .leaf) .leaf)))) .leaf)))))) (.seq .leaf .leaf))))) Tryz.func50 (by kernel_rfl) (by kernel_rfl) (by kernel_rfl) (by kernel_rfl : F_i_GraphOk R a0 H = _) h
def F_i_Graph_cost (R : V → Heap → Prop) (a0 a1 a2 : V) (H : Heap) : Prop :=
  boxK a0 (bnd (aBinN .eql a1 a2) fun t1 =>
  gd t1 true
  (bnd (partOf true 2 (cellsOf a0) 0) fun t2 =>
  ACalls P n_i_Graph_isNode [t2, a1] H fun v3 H4 =>
  cnd v3
  (Ret R (.int .i64 0) H4)
  (bnd (partOf false 1 (cellsOf a0) 1) fun t5 =>
  bnd (lenOf t5) fun n6 =>
  ∃ (I7 : Nat → List V → Heap → Prop) (n8 : Nat), Shr (I7 n8 [(.int .i64 0)]) H4 ∧
  ∀ n9 xs11 H12, I7 n9 xs11 H12 →
  bnd (aBinN .lss (xs11.headD .any) (.int .i64 (n6 : Nat))) fun t13 =>
  cnd t13
  (bnd (aIndex H12 3 t5 (xs11.headD .any)) fun t14 =>
  bnd (aLd true 3 H12 t14) fun t15 =>
  bnd (stz 3 [(.int .i64 0), (.int .i64 0), (.int .i64 0)] 0 t15) fun c16 =>
  bnd (partOf false 1 c16 0) fun t17 =>
  bnd (aBinN .eql t17 a1) fun t18 =>
  gd t18 true
  (bnd (partOf false 1 c16 1) fun t19 =>
  bnd (aBinN .eql t19 a2) fun t20 =>
  cnd t20
  (bnd (partOf false 1 c16 2) fun t21 =>
  Ret R t21 H12)
  (bnd (aBinN .add (xs11.headD .any) (.int .i64 1)) fun t22 =>
  ∃ n10, n10 < n9 ∧ Shr (I7 n10 [t22]) H12))
  (bnd (aBinN .add (xs11.headD .any) (.int .i64 1)) fun t23 =>
  ∃ n10, n10 < n9 ∧ Shr (I7 n10 [t23]) H12))
  (Ret R (.int .i64 1000000) H12)))
  (bnd (partOf false 1 (cellsOf a0) 1) fun t24 =>
  bnd (lenOf t24) fun n25 =>
  ∃ (I26 : Nat → List V → Heap → Prop) (n27 : Nat), Shr (I26 n27 [(.int .i64 0)]) H ∧
  ∀ n28 xs30 H31, I26 n28 xs30 H31 →
  bnd (aBinN .lss (xs30.headD .any) (.int .i64 (n25 : Nat))) fun t32 =>
  cnd t32
  (bnd (aIndex H31 3 t24 (xs30.headD .any)) fun t33 =>
  bnd (aLd true 3 H31 t33) fun t34 =>
  bnd (stz 3 [(.int .i64 0), (.int .i64 0), (.int .i64 0)] 0 t34) fun c35 =>
  bnd (partOf false 1 c35 0) fun t36 =>
  bnd (aBinN .eql t36 a1) fun t37 =>
  gd t37 true
  (bnd (partOf false 1 c35 1) fun t38 =>
  bnd (aBinN .eql t38 a2) fun t39 =>
  cnd t39
  (bnd (partOf false 1 c35 2) fun t40 =>
  Ret R t40 H31)
  (bnd (aBinN .add (xs30.headD .any) (.int .i64 1)) fun t41 =>
  ∃ n29, n29 < n28 ∧ Shr (I26 n29 [t41]) H31))
  (bnd (aBinN .add (xs30.headD .any) (.int .i64 1)) fun t42 =>
  ∃ n29, n29 < n28 ∧ Shr (I26 n29 [t42]) H31))
  (Ret R (.int .i64 1000000) H31)))
theorem W_i_Graph_cost {R : V → Heap → Prop} {a0 a1 a2 : V} {H : Heap} (h : F_i_Graph_cost R a0 a1 a2 H) : ACalls P n_i_Graph_cost [a0, a1, a2] H R :=
  acalls_of_form (g := ⟨[3, 8], [17, 24, 29, 34]⟩) (x := (.seq .leaf (.seq (.seq .leaf (.cond (.seq .leaf .leaf) .leaf)) (.seq (.seq .leaf (.block (.loop [20] (.seq .leaf (.seq (.cond .leaf .leaf) (.seq (.block (.seq .leaf (.seq .leaf (.cond (.seq .leaf .leaf) .leaf)))) .leaf)))))) (.seq .leaf .leaf))))) Tryz.func51 (by kernel_rfl) (by kernel_rfl) (by kernel_rfl) (by kernel_rfl : F_i_Graph_cost R a0 a1 a2 H = _) h
def F_i_LsaOk (R : V → Heap → Prop) (a0 : V) (H : Heap) : Prop :=
  boxK a0 (bnd (partOf false 1 (cellsOf a0) 0) fun t1 =>
  ACalls P n_i_within [t1, (.int .i64 0), (.int .i64 9)] H fun v2 H3 =>
  gd v2 true
  (bnd (partOf false 1 (cellsOf a0) 1) fun t4 =>
  ACalls P n_i_within [t4, (.int .i64 1), (.int .i64 1000000)] H3 fun v5 H6 =>
  gd v5 true
  (bnd (partOf false 1 (cellsOf a0) 2) fun t7 =>
  ACalls P n_i_within [t7, (.int .i64 0), (.int .i64 60)] H6 fun v8 H9 =>
  gd v8 true
  (bnd (partOf false 1 (cellsOf a0) 0) fun t10 =>
  bnd (partOf false 1 (cellsOf a0) 3) fun t11 =>
  ACalls P n_i_areLinks [t10, t11] H9 fun v12 H13 =>
  gd v12 true
  (bnd (partOf false 1 (cellsOf a0) 4) fun t14 =>
  ACalls P n_i_areStubs [t14] H13 fun v15 H16 =>
  Ret R v15 H16)
  (Ret R (.bool false) H13))
  (Ret R (.bool false) H9))
  (Ret R (.bool false) H6))
  (Ret R (.bool false) H3))
theorem W_i_LsaOk {R : V → Heap → Prop} {a0 : V} {H : Heap} (h : F_i_LsaOk R a0 H) : ACalls P n_i_LsaOk [a0] H R :=
  acalls_of_form (g := ⟨[1], [3, 7, 12, 17, 19, 24]⟩) (x := (.seq .leaf (.seq .leaf .leaf))) Tryz.func52 (by kernel_rfl) (by kernel_rfl) (by kernel_rfl) (by kernel_rfl : F_i_LsaOk R a0 H = _) h
def F_i_newer (R : V → Heap → Prop) (a0 a1 : V) (H : Heap) : Prop :=
  boxK a0 (boxK a1 (∃ S1, Abs.sub S1 H ∧
  bnd (partOf false 1 (cellsOf a0) 1) fun t2 =>
  bnd (partOf false 1 (cellsOf a1) 1) fun t3 =>
  bnd (partOf true 5 (cellsOf a0) 0) fun t4 =>
  bnd (partOf true 5 (cellsOf a1) 0) fun t5 =>
  ACalls P n_cmp_Compare_int [t2, t3] H fun v6 H7 =>
  Abs.sub S1 H7 ∧
  ACalls P n_i_Lsa_sum [t4] H7 fun v8 H9 =>
  Abs.sub S1 H9 ∧
  ACalls P n_i_Lsa_sum [t5] H9 fun v10 H11 =>
  Abs.sub S1 H11 ∧
  ACalls P n_cmp_Compare_int [v8, v10] H11 fun v12 H13 =>
  Abs.sub S1 H13 ∧
  bnd (bsl 1 2 [(.int .i64 0)] [(0, v6), (1, v12)]) fun r14 =>
  ∀ o15, H13 o15 = none →
  Abs.sub S1 (upd H13 o15 ⟨1, r14⟩) ∧
  ACalls P n_cmp_Or_int [(.slice o15 0 2 (some 2))] (upd H13 o15 ⟨1, r14⟩) fun v16 H17 =>
  Abs.sub S1 H17 ∧
  bnd (aBinN .neq v16 (.int .i64 0)) fun t18 =>
  cnd t18
  (Ret R v16 H17)
  (∃ S19, Abs.sub S19 H17 ∧
  bnd (partOf true 5 (cellsOf a0) 0) fun t20 =>
  bnd (partOf true 5 (cellsOf a1) 0) fun t21 =>
  ACalls P n_i_newer_1 [t20] H17 fun v22 H23 =>
  Abs.sub S19 H23 ∧
  ACalls P n_i_newer_1 [t21] H23 fun v24 H25 =>
  Abs.sub S19 H25 ∧
  bnd (aBinB .neq v22 v24) fun t26 =>
  cnd t26
  (bnd (partOf true 5 (cellsOf a0) 0) fun t27 =>
  ACalls P n_i_newer_1 [t27] H25 fun v28 H29 =>
  cnd v28
  (Ret R (.int .i64 1) H29)
  (Ret R (.int .i64 (-1)) H29))
  (bnd (partOf false 1 (cellsOf a0) 2) fun t30 =>
  bnd (partOf false 1 (cellsOf a1) 2) fun t31 =>
  bnd (aBinN .sub t30 t31) fun t32 =>
  bnd (aBinN .gtr t32 (.int .i64 10)) fun t33 =>
  cnd t33
  (Ret R (.int .i64 (-1)) H25)
  (bnd (partOf false 1 (cellsOf a1) 2) fun t34 =>
  bnd (partOf false 1 (cellsOf a0) 2) fun t35 =>
  bnd (aBinN .sub t34 t35) fun t36 =>
  bnd (aBinN .gtr t36 (.int .i64 10)) fun t37 =>
  cnd t37
  (Ret R (.int .i64 1) H25)
  (Ret R (.int .i64 0) H25))))))
theorem W_i_newer {R : V → Heap → Prop} {a0 a1 : V} {H : Heap} (h : F_i_newer R a0 a1 H) : ACalls P n_i_newer [a0, a1] H R :=
  acalls_of_form (g := ⟨[2, 3], [7, 9, 34, 36, 41, 43]⟩) (x := (.seq .leaf (.seq (.seq (.draw [0, 1, 2, 3, 5, 7, 4, 6, 8, 9, 10, 11, 12]) (.seq .leaf (.cond (.seq .leaf .leaf) .leaf))) (.seq .leaf (.seq (.block (.seq (.draw [0, 1, 3, 4, 2, 5, 6, 7]) (.cond (.seq (.seq .leaf (.cond (.seq .leaf .leaf) .leaf)) (.seq .leaf .leaf)) (.seq .leaf (.cond (.seq .leaf .leaf) (.seq .leaf (.cond (.seq .leaf .leaf) .leaf))))))) (.seq .leaf .leaf)))))) Tryz.func53 (by kernel_rfl) (by kernel_rfl) (by kernel_rfl) (by kernel_rfl : F_i_newer R a0 a1 H = _) h
def F_slices_Delete_i_Msg_i_Msg (R : V → Heap → Prop) (a0 a1 a2 : V) (H : Heap) : Prop :=
  bnd (lenOf a0) fun n1 =>
  bnd (aSlice H 7 a0 (some a1) (some a2) (some (.int .i64 (n1 : Nat)))) fun t2 =>
  bnd (aBinN .eql a1 a2) fun t3 =>
  cnd t3
  (Ret R a0 H)
  (bnd (lenOf a0) fun n4 =>
  bnd (aSlice H 7 a0 none (some a1) none) fun t5 =>
  bnd (aSlice H 7 a0 (some a2) none none) fun t6 =>
  bnd (rowsOf H 7 t6) fun r9 =>
  appendK H 7 88 t5 r9 fun v7 H8 =>
  bnd (lenOf v7) fun n10 =>
  bnd (aSlice H8 7 v7 (some (.int .i64 (n10 : Nat))) (some (.int .i64 (n4 : Nat))) none) fun t11 =>
  clearK H8 7 [(.int .i64 0), (.int .i64 0), (.int .i64 0), (.int .i64 0), (.int .i64 0), .nils, .nils] t11 fun v12 H13 =>
  Ret R v7 H13)
theorem W_slices_Delete_i_Msg_i_Msg {R : V → Heap → Prop} {a0 a1 a2 : V} {H : Heap} (h : F_slices_Delete_i_Msg_i_Msg R a0 a1 a2 H) : ACalls P n_slices_Delete_i_Msg_i_Msg [a0, a1, a2] H R :=
  acalls_of_form (g := ⟨[], []⟩) (x := (.seq .leaf (.seq .leaf (.seq (.seq .leaf (.cond (.seq .leaf .leaf) .leaf)) (.seq .leaf (.seq (.drawh [0, 1, 2, 3, 4, 5, 6, 7]) (.seq .leaf (.seq .leaf .leaf)))))))) Tryz.func54 (by kernel_rfl) (by kernel_rfl) (by kernel_rfl) (by kernel_rfl : F_slices_Delete_i_Msg_i_Msg R a0 a1 a2 H = _) h
def F_p_i_Net_send (R : V → Heap → Prop) (a0 a1 a2 a3 : V) (H : Heap) : Prop :=
  boxK a3 (bnd (aNil a0) fun t1 =>
  bnd (aField 3 t1) fun t2 =>
  bnd (aLd false 1 H t2) fun t3 =>
  bnd (lenOf t3) fun n4 =>
  bnd (aBinN .lss (.int .i64 (n4 : Nat)) (.int .i64 400)) fun t5 =>
  cnd t5
  (∃ S6, Abs.sub S6 H ∧
  bnd (aNil a0) fun t7 =>
  bnd (aField 3 t7) fun t8 =>
  bnd (aLd false 1 S6 t8) fun t9 =>
  bnd (partOf true 5 (cellsOf a3) 0) fun t10 =>
  ACalls P n_i_ownLsa [t10] H fun v11 H12 =>
  Abs.sub S6 H12 ∧
  bnd (fillZ [(.int .i64 0), (.int .i64 0), (.int .i64 0), (.int .i64 0), (.int .i64 0), .nils, .nils] [(0, 1, a1), (1, 1, a2), (2, 5, v11)]) fun c13 =>
  bnd (bsl 7 1 [(.int .i64 0), (.int .i64 0), (.int .i64 0), (.int .i64 0), (.int .i64 0), .nils, .nils] [(0, (.agg c13))]) fun r14 =>
  ∀ o15, H12 o15 = none →
  Abs.sub S6 (upd H12 o15 ⟨7, r14⟩) ∧
  bnd (rowsOf (upd H12 o15 ⟨7, r14⟩) 7 (.slice o15 0 1 (some 1))) fun r18 =>
  appendK (upd H12 o15 ⟨7, r14⟩) 7 88 t9 r18 fun v16 H17 =>
  Abs.sub S6 H17 ∧
  bnd (aNil a0) fun t19 =>
  bnd (aField 3 t19) fun t20 =>
  ∃ S21, Abs.sub S21 H17 ∧
  bnd (aSt 1 H17 t20 v16) fun H22 =>
  Abs.sub S21 H22 ∧
  Ret R (.tup []) H22)
  (bnd (aNil a0) fun t23 =>
  bnd (aField 4 t23) fun t24 =>
  bnd (aLd false 1 H t24) fun t25 =>
  bnd (aBinN .add t25 (.int .i64 1)) fun t26 =>
  bnd (aMins false (.int .i64 1000000) [t26]) fun t29 =>
  bnd (aNil a0) fun t30 =>
  bnd (aField 4 t30) fun t31 =>
  bnd (aSt 1 H t31 t29) fun H32 =>
  Ret R (.tup []) H32))
theorem W_p_i_Net_send {R : V → Heap → Prop} {a0 a1 a2 a3 : V} {H : Heap} (h : F_p_i_Net_send R a0 a1 a2 a3 H) : ACalls P n_p_i_Net_send [a0, a1, a2, a3] H R :=
  acalls_of_form (g := ⟨[7], []⟩) (x := (.seq .leaf (.seq .leaf (.cond (.drawp [[0, 1, 2, 3, 4, 5, 6, 7, 8, 9, 10, 11, 12, 13], [14]]) .leaf)))) Tryz.func55 (by kernel_rfl) (by kernel_rfl) (by kernel_rfl) (by kernel_rfl : F_p_i_Net_send R a0 a1 a2 a3 H = _) h
def F_s_LsaSum (R : V → Heap → Prop) (a0 : V) (H : Heap) : Prop :=
  boxK a0 (bnd (partOf true 5 (cellsOf a0) 0) fun t1 =>
  ACalls P n_s_LsaOk [t1] H fun v2 H3 =>
  bnd (aNot v2) fun t4 =>
  cnd t4
  (Ret R (.int .i64 (-1)) H3)
  (bnd (partOf true 5 (cellsOf a0) 0) fun t5 =>
  ACalls P n_s_LsaBytes [t5] H3 fun v6 H7 =>
  ∃ (I8 : Nat → List V → Heap → Prop) (n9 : Nat), Shr (I8 n9 [(.int .i64 1), (.int .i64 0)]) H7 ∧
  ∀ n10 xs12 H13, I8 n10 xs12 H13 →
  bnd (lenOf v6) fun n14 =>
  bnd (aBinN .lss (xs12.tail.headD .any) (.int .i64 (n14 : Nat))) fun t15 =>
  cnd t15
  (bnd (aBinN .mul (.int .i64 257) (xs12.headD .any)) fun t16 =>
  bnd (aIndex H13 1 v6 (xs12.tail.headD .any)) fun t17 =>
  bnd (aLd false 1 H13 t17) fun t18 =>
  bnd (aCv .i64 t18) fun t19 =>
  bnd (aBinN .add t16 t19) fun t20 =>
  bnd (aBinN .add t20 (.int .i64 1)) fun t21 =>
  bnd (aBinN .rem t21 (.int .i64 1000003)) fun t22 =>
  bnd (aBinN .add (xs12.tail.headD .any) (.int .i64 1)) fun t23 =>
  ∃ n11, n11 < n10 ∧ Shr (I8 n11 [t22, t23]) H13)
  (Ret R (xs12.headD .any) H13)))
theorem W_s_LsaSum {R : V → Heap → Prop} {a0 : V} {H : Heap} (h : F_s_LsaSum R a0 H) : ACalls P n_s_LsaSum [a0] H R :=
  acalls_of_form (g := ⟨[1], []⟩) (x := (.seq .leaf (.seq (.seq .leaf (.cond (.seq .leaf .leaf) .leaf)) (.seq .leaf (.seq .leaf (.seq (.seq .leaf (.block (.loop [3, 5] (.seq (.seq .leaf (.cond .leaf .leaf)) (.seq (.block .leaf) .leaf))))) (.seq .leaf .leaf))))))) Tryz.func56 (by kernel_rfl) (by kernel_rfl) (by kernel_rfl) (by kernel_rfl : F_s_LsaSum R a0 H = _) h
def F_i_within (R : V → Heap → Prop) (a0 a1 a2 : V) (H : Heap) : Prop :=
  bnd (aBinN .geq a0 a1) fun t1 =>
  gd t1 true
  (bnd (aBinN .leq a0 a2) fun t2 =>
  Ret R t2 H)
  (Ret R (.bool false) H)
theorem W_i_within {R : V → Heap → Prop} {a0 a1 a2 : V} {H : Heap} (h : F_i_within R a0 a1 a2 H) : ACalls P n_i_within [a0, a1, a2] H R :=
  acalls_of_form (g := ⟨[], []⟩) (x := (.seq .leaf (.seq .leaf .leaf))) Tryz.func57 (by kernel_rfl) (by kernel_rfl) (by kernel_rfl) (by kernel_rfl : F_i_within R a0 a1 a2 H = _) h
def F_i_Graph_isNode (R : V → Heap → Prop) (a0 a1 : V) (H : Heap) : Prop :=
  boxK a0 (bnd (partOf false 1 (cellsOf a0) 0) fun t1 =>
  bnd (aBinN .sub t1 (.int .i64 1)) fun t2 =>
  ACalls P n_i_within [a1, (.int .i64 0), t2] H fun v3 H4 =>
  Ret R v3 H4)
theorem W_i_Graph_isNode {R : V → Heap → Prop} {a0 a1 : V} {H : Heap} (h : F_i_Graph_isNode R a0 a1 H) : ACalls P n_i_Graph_isNode [a0, a1] H R :=
  acalls_of_form (g := ⟨[2], [6]⟩) (x := (.seq .leaf (.seq .leaf .leaf))) Tryz.func58 (by kernel_rfl) (by kernel_rfl) (by kernel_rfl) (by kernel_rfl : F_i_Graph_isNode R a0 a1 H = _) h
def F_i_ownGraph (R : V → Heap → Prop) (a0 : V) (H : Heap) : Prop :=
  boxK a0 (∃ S1, Abs.sub S1 H ∧
  bnd (partOf false 1 (cellsOf a0) 0) fun t2 =>
  bnd (partOf false 1 (cellsOf a0) 1) fun t3 =>
  ACalls P n_slices_Clone_i_Edge_i_Edge [t3] H fun v4 H5 =>
  Abs.sub S1 H5 ∧
  bnd (fillZ [(.int .i64 0), .nils] [(0, 1, t2), (1, 1, v4)]) fun c6 =>
  bnd (stz 2 [(.int .i64 0), .nils] 0 (.agg c6)) fun c7 =>
  bnd (partOf true 2 c7 0) fun t8 =>
  Ret R t8 H5)
theorem W_i_ownGraph {R : V → Heap → Prop} {a0 : V} {H : Heap} (h : F_i_ownGraph R a0 H) : ACalls P n_i_ownGraph [a0] H R :=
  acalls_of_form (g := ⟨[1, 2], [3, 5]⟩) (x := (.seq .leaf (.seq (.draw [0, 1, 2, 3, 4, 5, 6]) .leaf))) Tryz.func62 (by kernel_rfl) (by kernel_rfl) (by kernel_rfl) (by kernel_rfl : F_i_ownGraph R a0 H = _) h
def F_i_ownDb (R : V → Heap → Prop) (a0 : V) (H : Heap) : Prop :=
  boxK a0 (bnd (fillZ [.nils] []) fun c1 =>
  bnd (stz 1 [.nils] 0 (.agg c1)) fun c2 =>
  bnd (partOf false 1 (cellsOf a0) 0) fun t3 =>
  bnd (lenOf t3) fun n4 =>
  ∃ (I5 : Nat → List V → Heap → Prop) (n6 : Nat), Shr (I5 n6 [(.box [.nils]), (.box c2), (.int .i64 0)]) H ∧
  ∀ n7 xs9 H10, I5 n7 xs9 H10 →
  bnd (aBinN .lss (xs9.tail.tail.headD .any) (.int .i64 (n4 : Nat))) fun t11 =>
  cnd t11
  (bnd (aIndex H10 5 t3 (xs9.tail.tail.headD .any)) fun t12 =>
  bnd (aLd true 5 H10 t12) fun t13 =>
  bnd (stz 5 [(.int .i64 0), (.int .i64 0), (.int .i64 0), .nils, .nils] 0 t13) fun c14 =>
  bnd (partOf false 1 (bc (xs9.tail.headD .any)) 0) fun t15 =>
  bnd (partOf true 5 c14 0) fun t16 =>
  ACalls P n_i_ownLsa [t16] H10 fun v17 H18 =>
  bnd (bsl 5 1 [(.int .i64 0), (.int .i64 0), (.int .i64 0), .nils, .nils] [(0, v17)]) fun r19 =>
  ∀ o20, H18 o20 = none →
  bnd (rowsOf (upd H18 o20 ⟨5, r19⟩) 5 (.slice o20 0 1 (some 1))) fun r23 =>
  appendK (upd H18 o20 ⟨5, r19⟩) 5 72 t15 r23 fun v21 H22 =>
  bnd (stz 1 (bc (xs9.tail.headD .any)) 0 v21) fun c24 =>
  bnd (aBinN .add (xs9.tail.tail.headD .any) (.int .i64 1)) fun t25 =>
  ∃ n8, n8 < n7 ∧ Shr (I5 n8 [(.box (bc (xs9.headD .any))), (.box c24), t25]) H22)
  (bnd (partOf true 1 (bc (xs9.tail.headD .any)) 0) fun t26 =>
  bnd (stz 1 (bc (xs9.headD .any)) 0 t26) fun c27 =>
  bnd (partOf true 1 c27 0) fun t28 =>
  Ret R t28 H10))
theorem W_i_ownDb {R : V → Heap → Prop} {a0 : V} {H : Heap} (h : F_i_ownDb R a0 H) : ACalls P n_i_ownDb [a0] H R :=
  acalls_of_form (g := ⟨[1, 2, 3, 5], [7, 14, 20]⟩) (x := (.seq .leaf (.seq .leaf (.seq (.seq .leaf (.block (.loop [2, 3, 10] (.seq .leaf (.seq (.cond .leaf .leaf) (.seq (.block (.seq .leaf (.drawh [0, 1, 2, 3, 4, 5, 6, 7]))) .leaf)))))) (.seq .leaf .leaf))))) Tryz.func63 (by kernel_rfl) (by kernel_rfl) (by kernel_rfl) (by kernel_rfl : F_i_ownDb R a0 H = _) h
def F_i_isNetwork (R : V → Heap → Prop) (a0 : V) (H : Heap) : Prop :=
  boxK a0 (∀ o1, H o1 = none →
  bnd (aLd true 2 (upd H o1 ⟨((cellsOf a0)).length, [(cellsOf a0)]⟩) (.ptr o1 0 0)) fun t2 =>
  ACalls P n_i_GraphOk [t2] (upd H o1 ⟨((cellsOf a0)).length, [(cellsOf a0)]⟩) fun v3 H4 =>
  gd v3 true
  (bnd (aField 0 (.ptr o1 0 0)) fun t5 =>
  bnd (aLd false 1 H4 t5) fun t6 =>
  bnd (aBinN .leq t6 (.int .i64 6)) fun t7 =>
  gd t7 true
  (bnd (aField 1 (.ptr o1 0 0)) fun t8 =>
  bnd (aLd false 1 H4 t8) fun t9 =>
  ACalls P n_slices_ContainsFunc_i_Edge_i_Edge [t9, (.fn n_i_isNetwork_1 [(.ptr o1 0 0)])] H4 fun v10 H11 =>
  bnd (aNot v10) fun t12 =>
  Ret R t12 H11)
  (Ret R (.bool false) H4))
  (Ret R (.bool false) H4))
theorem W_i_isNetwork {R : V → Heap → Prop} {a0 : V} {H : Heap} (h : F_i_isNetwork R a0 H) : ACalls P n_i_isNetwork [a0] H R :=
  acalls_of_form (g := ⟨[], []⟩) (x := (.seq .leaf (.seq .leaf .leaf))) Tryz.func64 (by kernel_rfl) (by kernel_rfl) (by kernel_rfl) (by kernel_rfl : F_i_isNetwork R a0 H = _) h
def F_slices_ContainsFunc_i_Db_i_Db (R : V → Heap → Prop) (a0 a1 : V) (H : Heap) : Prop :=
  ACalls P n_slices_IndexFunc_i_Db_i_Db [a0, a1] H fun v1 H2 =>
  bnd (aBinN .geq v1 (.int .i64 0)) fun t3 =>
  Ret R t3 H2
theorem W_slices_ContainsFunc_i_Db_i_Db {R : V → Heap → Prop} {a0 a1 : V} {H : Heap} (h : F_slices_ContainsFunc_i_Db_i_Db R a0 a1 H) : ACalls P n_slices_ContainsFunc_i_Db_i_Db [a0, a1] H R :=
  acalls_of_form (g := ⟨[], []⟩) (x := (.seq .leaf (.seq .leaf .leaf))) Tryz.func65 (by kernel_rfl) (by kernel_rfl) (by kernel_rfl) (by kernel_rfl : F_slices_ContainsFunc_i_Db_i_Db R a0 a1 H = _) h
def F_i_NetOk_1 (R : V → Heap → Prop) (a0 : V) (H : Heap) : Prop :=
  boxK a0 (bnd (partOf true 1 (cellsOf a0) 0) fun t1 =>
  ACalls P n_i_DbOk [t1] H fun v2 H3 =>
  bnd (aNot v2) fun t4 =>
  Ret R t4 H3)
theorem W_i_NetOk_1 {R : V → Heap → Prop} {a0 : V} {H : Heap} (h : F_i_NetOk_1 R a0 H) : ACalls P n_i_NetOk_1 [a0] H R :=
  acalls_of_form (g := ⟨[1], []⟩) (x := (.seq .leaf (.seq .leaf .leaf))) Tryz.func66 (by kernel_rfl) (by kernel_rfl) (by kernel_rfl) (by kernel_rfl : F_i_NetOk_1 R a0 H = _) h
theorem E_i_NetOk_1 : enterable P n_i_NetOk_1 = true := by kernel_rfl
def F_slices_ContainsFunc_i_Msg_i_Msg (R : V → Heap → Prop) (a0 a1 : V) (H : Heap) : Prop :=
  ACalls P n_slices_IndexFunc_i_Msg_i_Msg [a0, a1] H fun v1 H2 =>
  bnd (aBinN .geq v1 (.int .i64 0)) fun t3 =>
  Ret R t3 H2
theorem W_slices_ContainsFunc_i_Msg_i_Msg {R : V → Heap → Prop} {a0 a1 : V} {H : Heap} (h : F_slices_ContainsFunc_i_Msg_i_Msg R a0 a1 H) : ACalls P n_slices_ContainsFunc_i_Msg_i_Msg [a0, a1] H R :=
  acalls_of_form (g := ⟨[], []⟩) (x := (.seq .leaf (.seq .leaf .leaf))) Tryz.func67 (by kernel_rfl) (by kernel_rfl) (by kernel_rfl) (by kernel_rfl : F_slices_ContainsFunc_i_Msg_i_Msg R a0 a1 H = _) h
def F_i_NetOk_2 (R : V → Heap → Prop) (a0 a1 : V) (H : Heap) : Prop :=
  boxK a0 (bnd (aField 0 a1) fun t1 =>
  bnd (aLd true 2 H t1) fun t2 =>
  bnd (partOf false 1 (cellsOf a0) 0) fun t3 =>
  ACalls P n_i_Graph_isNode [t2, t3] H fun v4 H5 =>
  bnd (aNot v4) fun t6 =>
  gd t6 false
  (bnd (aField 0 a1) fun t7 =>
  bnd (aLd true 2 H5 t7) fun t8 =>
  bnd (partOf false 1 (cellsOf a0) 1) fun t9 =>
  ACalls P n_i_Graph_isNode [t8, t9] H5 fun v10 H11 =>
  bnd (aNot v10) fun t12 =>
  gd t12 false
  (bnd (partOf false 1 (cellsOf a0) 0) fun t13 =>
  bnd (partOf false 1 (cellsOf a0) 1) fun t14 =>
  bnd (aBinN .eql t13 t14) fun t15 =>
  gd t15 false
  (bnd (partOf true 5 (cellsOf a0) 2) fun t16 =>
  ACalls P n_i_LsaOk [t16] H11 fun v17 H18 =>
  bnd (aNot v17) fun t19 =>
  Ret R t19 H18)
  (Ret R (.bool true) H11))
  (Ret R (.bool true) H11))
  (Ret R (.bool true) H5))
theorem W_i_NetOk_2 {R : V → Heap → Prop} {a0 a1 : V} {H : Heap} (h : F_i_NetOk_2 R a0 a1 H) : ACalls P n_i_NetOk_2 [a0, a1] H R :=
  acalls_of_form (g := ⟨[2], [6, 13, 19, 21, 26]⟩) (x := (.seq .leaf (.seq .leaf .leaf))) Tryz.func68 (by kernel_rfl) (by kernel_rfl) (by kernel_rfl) (by kernel_rfl : F_i_NetOk_2 R a0 a1 H = _) h
theorem E_i_NetOk_2 : enterable P n_i_NetOk_2 = true := by kernel_rfl
def F_p_i_Db_install (R : V → Heap → Prop) (a0 a1 : V) (H : Heap) : Prop :=
  boxK a1 (∃ S1, Abs.sub S1 H ∧
  bnd (aNil a0) fun t2 =>
  bnd (aLd true 1 S1 t2) fun t3 =>
  bnd (partOf true 5 (cellsOf a1) 0) fun t4 =>
  ACalls P n_i_Db_offer [t3, t4] H fun v5 H6 =>
  Abs.sub S1 H6 ∧
  bnd (aBinN .eql v5 (.int .i64 0)) fun t7 =>
  cnd t7
  (∃ S8, Abs.sub S8 H6 ∧
  bnd (aNil a0) fun t9 =>
  bnd (aLd true 1 S8 t9) fun t10 =>
  bnd (partOf false 1 (cellsOf a1) 0) fun t11 =>
  ACalls P n_i_Db_find [t10, t11] H6 fun v12 H13 =>
  Abs.sub S8 H13 ∧
  bnd (aExtract 0 v12) fun t14 =>
  bnd (aExtract 1 v12) fun t15 =>
  cnd t15
  (∃ S16, Abs.sub S16 H13 ∧
  bnd (aNil a0) fun t17 =>
  bnd (aField 0 t17) fun t18 =>
  bnd (aLd false 1 S16 t18) fun t19 =>
  bnd (partOf true 5 (cellsOf a1) 0) fun t20 =>
  ACalls P n_i_ownLsa [t20] H13 fun v21 H22 =>
  Abs.sub S16 H22 ∧
  bnd (aIndex S16 5 t19 t14) fun t23 =>
  ∃ S24, Abs.sub S24 H22 ∧
  bnd (aSt 5 H22 t23 v21) fun H25 =>
  Abs.sub S24 H25 ∧
  Ret R v5 H25)
  (∃ S26, Abs.sub S26 H13 ∧
  bnd (aNil a0) fun t27 =>
  bnd (aField 0 t27) fun t28 =>
  bnd (aLd false 1 S26 t28) fun t29 =>
  bnd (partOf true 5 (cellsOf a1) 0) fun t30 =>
  ACalls P n_i_ownLsa [t30] H13 fun v31 H32 =>
  Abs.sub S26 H32 ∧
  bnd (bsl 5 1 [(.int .i64 0), (.int .i64 0), (.int .i64 0), .nils, .nils] [(0, v31)]) fun r33 =>
  ∀ o34, H32 o34 = none →
  Abs.sub S26 (upd H32 o34 ⟨5, r33⟩) ∧
  ACalls P n_slices_Insert_i_Lsa_i_Lsa [t29, t14, (.slice o34 0 1 (some 1))] (upd H32 o34 ⟨5, r33⟩) fun v35 H36 =>
  Abs.sub S26 H36 ∧
  bnd (aNil a0) fun t37 =>
  bnd (aField 0 t37) fun t38 =>
  ∃ S39, Abs.sub S39 H36 ∧
  bnd (aSt 1 H36 t38 v35) fun H40 =>
  Abs.sub S39 H40 ∧
  Ret R v5 H40))
  (Ret R v5 H6))
theorem W_p_i_Db_install {R : V → Heap → Prop} {a0 a1 : V} {H : Heap} (h : F_p_i_Db_install R a0 a1 H) : ACalls P n_p_i_Db_install [a0, a1] H R :=
  acalls_of_form (g := ⟨[3], [19]⟩) (x := (.seq .leaf (.seq (.draw [0, 1, 2, 3, 4, 5]) (.seq (.seq .leaf (.cond (.seq (.draw [0, 1, 2, 3, 4, 5, 6, 7, 8, 9, 10]) (.seq .leaf (.cond (.drawp [[0, 1, 2, 3, 4, 5, 6, 7], [8]]) (.drawp [[0, 1, 2, 3, 4, 5, 6, 7, 8, 9, 10, 11], [12]])))) .leaf)) (.seq .leaf .leaf))))) Tryz.func69 (by kernel_rfl) (by kernel_rfl) (by kernel_rfl) (by kernel_rfl : F_p_i_Db_install R a0 a1 H = _) h
def F_p_i_Net_spread (R : V → Heap → Prop) (a0 a1 a2 a3 : V) (H : Heap) : Prop :=
  boxK a3 (bnd (aNil a0) fun t1 =>
  bnd (aField 0 t1) fun t2 =>
  bnd (aField 1 t2) fun t3 =>
  bnd (aLd false 1 H t3) fun t4 =>
  bnd (lenOf t4) fun n5 =>
  ∃ (I6 : Nat → List V → Heap → Prop) (n7 : Nat), Shr (I6 n7 [(.box (cellsOf a3)), (.int .i64 0)]) H ∧
  ∀ n8 xs10 H11, I6 n8 xs10 H11 →
  bnd (aBinN .lss (xs10.tail.headD .any) (.int .i64 (n5 : Nat))) fun t12 =>
  cnd t12
  (bnd (aIndex H11 3 t4 (xs10.tail.headD .any)) fun t13 =>
  bnd (aLd true 3 H11 t13) fun t14 =>
  bnd (stz 3 [(.int .i64 0), (.int .i64 0), (.int .i64 0)] 0 t14) fun c15 =>
  bnd (partOf false 1 c15 0) fun t16 =>
  bnd (aBinN .eql t16 a1) fun t17 =>
  gd t17 true
  (bnd (partOf false 1 c15 1) fun t18 =>
  bnd (aBinN .neq t18 a2) fun t19 =>
  cnd t19
  (bnd (partOf false 1 c15 1) fun t20 =>
  bnd (partOf true 5 (bc (xs10.headD .any)) 0) fun t21 =>
  ACalls P n_p_i_Net_send [a0, a1, t20, t21] H11 fun v22 H23 =>
  bnd (aBinN .add (xs10.tail.headD .any) (.int .i64 1)) fun t24 =>
  ∃ n9, n9 < n8 ∧ Shr (I6 n9 [(.box (bc (xs10.headD .any))), t24]) H23)
  (bnd (aBinN .add (xs10.tail.headD .any) (.int .i64 1)) fun t25 =>
  ∃ n9, n9 < n8 ∧ Shr (I6 n9 [(.box (bc (xs10.headD .any))), t25]) H11))
  (bnd (aBinN .add (xs10.tail.headD .any) (.int .i64 1)) fun t26 =>
  ∃ n9, n9 < n8 ∧ Shr (I6 n9 [(.box (bc (xs10.headD .any))), t26]) H11))
  (Ret R (.tup []) H11))
theorem W_p_i_Net_spread {R : V → Heap → Prop} {a0 a1 a2 a3 : V} {H : Heap} (h : F_p_i_Net_spread R a0 a1 a2 a3 H) : ACalls P n_p_i_Net_spread [a0, a1, a2, a3] H R :=
  acalls_of_form (g := ⟨[7, 9], [20, 25, 32]⟩) (x := (.seq .leaf (.seq .leaf (.block (.loop [7, 16] (.seq .leaf (.seq (.cond .leaf .leaf) (.seq (.block (.seq .leaf (.seq .leaf (.cond .leaf .leaf)))) .leaf)))))))) Tryz.func70 (by kernel_rfl) (by kernel_rfl) (by kernel_rfl) (by kernel_rfl : F_p_i_Net_spread R a0 a1 a2 a3 H = _) h
def F_s_PrefixOk (R : V → Heap → Prop) (a0 : V) (H : Heap) : Prop :=
  boxK a0 (∃ S1, Abs.sub S1 H ∧
  bnd (partOf false 1 (cellsOf a0) 1) fun t2 =>
  ACalls P n_s_l01In [t2, (.int .i64 0), (.int .i64 16)] H fun v3 H4 =>
  Abs.sub S1 H4 ∧
  gd v3 true
  (bnd (partOf false 1 (cellsOf a0) 0) fun t5 =>
  ACalls P n_s_l01Addr [t5] H4 fun v6 H7 =>
  Abs.sub S1 H7 ∧
  gd v6 true
  (bnd (partOf false 1 (cellsOf a0) 0) fun t8 =>
  bnd (partOf false 1 (cellsOf a0) 1) fun t9 =>
  ACalls P n_s_l01Size2 [t9] H7 fun v10 H11 =>
  Abs.sub S1 H11 ∧
  bnd (aBinN .rem t8 v10) fun t12 =>
  bnd (aBinN .eql t12 (.int .i64 0)) fun t13 =>
  Ret R t13 H11)
  (Ret R (.bool false) H7))
  (Ret R (.bool false) H4))
theorem W_s_PrefixOk {R : V → Heap → Prop} {a0 : V} {H : Heap} (h : F_s_PrefixOk R a0 H) : ACalls P n_s_PrefixOk [a0] H R :=
  acalls_of_form (g := ⟨[1], [3, 7, 12, 14]⟩) (x := (.seq .leaf (.seq (.draw [0, 1, 2, 3, 4, 5, 6, 7, 8, 9, 10, 11, 12, 13, 14, 15, 16, 17]) .leaf))) Tryz.func71 (by kernel_rfl) (by kernel_rfl) (by kernel_rfl) (by kernel_rfl : F_s_PrefixOk R a0 H = _) h
def F_s_l02Ahead (R : V → Heap → Prop) (a0 a1 : V) (H : Heap) : Prop :=
  boxK a0 (boxK a1 (bnd (partOf false 1 (cellsOf a0) 0) fun t1 =>
  bnd (partOf false 1 (cellsOf a1) 0) fun t2 =>
  bnd (aBinN .lss t1 t2) fun t3 =>
  gd t3 false
  (bnd (partOf false 1 (cellsOf a0) 0) fun t4 =>
  bnd (partOf false 1 (cellsOf a1) 0) fun t5 =>
  bnd (aBinN .eql t4 t5) fun t6 =>
  gd3 t6 true
  (bnd (partOf false 1 (cellsOf a0) 1) fun t7 =>
  bnd (partOf false 1 (cellsOf a1) 1) fun t8 =>
  bnd (aBinN .lss t7 t8) fun t9 =>
  Ret R t9 H)
  (Ret R (.bool false) H)
  (bnd (aPick (.tup []) (.tup []) (.bool false)) fun t10 =>
  Ret R t10 H))
  (Ret R (.bool true) H)))
theorem W_s_l02Ahead {R : V → Heap → Prop} {a0 a1 : V} {H : Heap} (h : F_s_l02Ahead R a0 a1 H) : ACalls P n_s_l02Ahead [a0, a1] H R :=
  acalls_of_form (g := ⟨[2, 3], [5, 7, 11, 13, 17, 19]⟩) (x := (.seq .leaf (.seq .leaf .leaf))) Tryz.func72 (by kernel_rfl) (by kernel_rfl) (by kernel_rfl) (by kernel_rfl : F_s_l02Ahead R a0 a1 H = _) h
def F_i_Lsa_sum (R : V → Heap → Prop) (a0 : V) (H : Heap) : Prop :=
  boxK a0 (bnd (partOf true 5 (cellsOf a0) 0) fun t1 =>
  ACalls P n_i_Lsa_bytes [t1] H fun v2 H3 =>
  bnd (lenOf v2) fun n4 =>
  ∃ (I5 : Nat → List V → Heap → Prop) (n6 : Nat), Shr (I5 n6 [(.int .i64 1), (.int .i64 0)]) H3 ∧
  ∀ n7 xs9 H10, I5 n7 xs9 H10 →
  bnd (aBinN .lss (xs9.tail.headD .any) (.int .i64 (n4 : Nat))) fun t11 =>
  cnd t11
  (bnd (aIndex H10 1 v2 (xs9.tail.headD .any)) fun t12 =>
  bnd (aLd false 1 H10 t12) fun t13 =>
  bnd (aBinN .mul (.int .i64 257) (xs9.headD .any)) fun t14 =>
  bnd (aCv .i64 t13) fun t15 =>
  bnd (aBinN .add t14 t15) fun t16 =>
  bnd (aBinN .add t16 (.int .i64 1)) fun t17 =>
  bnd (aBinN .rem t17 (.int .i64 1000003)) fun t18 =>
  bnd (aBinN .add (xs9.tail.headD .any) (.int .i64 1)) fun t19 =>
  ∃ n8, n8 < n7 ∧ Shr (I5 n8 [t18, t19]) H10)
  (Ret R (xs9.headD .any) H10))
theorem W_i_Lsa_sum {R : V → Heap → Prop} {a0 : V} {H : Heap} (h : F_i_Lsa_sum R a0 H) : ACalls P n_i_Lsa_sum [a0] H R :=
  acalls_of_form (g := ⟨[1], []⟩) (x := (.seq .leaf (.seq .leaf (.seq (.seq .leaf (.block (.loop [3, 9] (.seq .leaf (.seq (.cond .leaf .leaf) (.seq (.block (.seq .leaf .leaf)) .leaf)))))) (.seq .leaf .leaf))))) Tryz.func74 (by kernel_rfl) (by kernel_rfl) (by kernel_rfl) (by kernel_rfl : F_i_Lsa_sum R a0 H = _) h
def F_s_l01New (R : V → Heap → Prop) (a0 : V) (H : Heap) : Prop :=
  bnd (lenOf a0) fun n1 =>
  bnd (aBinN .add (.int .i64 681681) (.int .i64 (n1 : Nat))) fun t2 =>
  ∃ (I3 : Nat → List V → Heap → Prop) (n4 : Nat), Shr (I3 n4 [t2, (.int .i64 0)]) H ∧
  ∀ n5 xs7 H8, I3 n5 xs7 H8 →
  bnd (lenOf a0) fun n9 =>
  bnd (aBinN .lss (xs7.tail.headD .any) (.int .i64 (n9 : Nat))) fun t10 =>
  gd t10 true
  (bnd (aBinN .lss (xs7.tail.headD .any) (.int .i64 4000)) fun t11 =>
  cnd t11
  (bnd (aBinN .mul (xs7.headD .any) (.int .i64 149)) fun t12 =>
  bnd (aIndex H8 1 a0 (xs7.tail.headD .any)) fun t13 =>
  bnd (aLd false 1 H8 t13) fun t14 =>
  bnd (aCv .i64 t14) fun t15 =>
  bnd (aBinN .add t12 t15) fun t16 =>
  bnd (aBinN .add t16 (.int .i64 11)) fun t17 =>
  bnd (aBinN .and t17 (.int .i64 1073741823)) fun t18 =>
  bnd (aBinN .add (xs7.tail.headD .any) (.int .i64 1)) fun t19 =>
  ∃ n6, n6 < n5 ∧ Shr (I3 n6 [t18, t19]) H8)
  (bnd (fillZ [.nils, (.int .i64 0), (.int .i64 0)] [(0, 1, a0), (2, 1, (xs7.headD .any))]) fun c20 =>
  boxK (.agg c20) (∀ o21, H8 o21 = none →
  Ret R (.ptr o21 0 0) (upd H8 o21 ⟨(c20).length, [c20]⟩))))
  (bnd (fillZ [.nils, (.int .i64 0), (.int .i64 0)] [(0, 1, a0), (2, 1, (xs7.headD .any))]) fun c22 =>
  boxK (.agg c22) (∀ o23, H8 o23 = none →
  Ret R (.ptr o23 0 0) (upd H8 o23 ⟨(c22).length, [c22]⟩)))
theorem W_s_l01New {R : V → Heap → Prop} {a0 : V} {H : Heap} (h : F_s_l01New R a0 H) : ACalls P n_s_l01New [a0] H R :=
  acalls_of_form (g := ⟨[], []⟩) (x := (.seq .leaf (.seq .leaf (.seq (.seq .leaf (.block (.loop [3, 4] (.seq (.seq .leaf (.cond .leaf .leaf)) (.seq (.block .leaf) .leaf))))) (.seq .leaf .leaf))))) Tryz.func75 (by kernel_rfl) (by kernel_rfl) (by kernel_rfl) (by kernel_rfl : F_s_l01New R a0 H = _) h
def F_s_l08DrawNet (R : V → Heap → Prop) (a0 a1 a2 : V) (H : Heap) : Prop :=
  ACalls P n_s_NewNet [a1] H fun v1 H2 =>
  bnd (aExtract 0 v1) fun t3 =>
  bnd (aExtract 1 v1) fun t4 =>
  bnd (stz 5 [(.int .i64 0), .nils, .nils, .nils, (.int .i64 0)] 0 t3) fun c5 =>
  ∃ (I6 : Nat → List V → Heap → Prop) (n7 : Nat), Shr (I6 n7 [(.box [(.int .i64 0), .nils, .nils, .nils, (.int .i64 0)]), (.box c5), (.int .i64 0)]) H2 ∧
  ∀ n8 xs10 H11, I6 n8 xs10 H11 →
  bnd (aBinN .lss (xs10.tail.tail.headD .any) a2) fun t12 =>
  gd t12 true
  (bnd (aBinN .gtr a1 (.int .i64 1)) fun t13 =>
  cnd t13
  (ACalls P n_s_l01Below [a0, (.int .i64 8)] H11 fun v14 H15 =>
  ∃ J16 : List V → Heap → Prop,
  (bnd (aBinN .eql v14 (.int .i64 0)) fun t19 =>
  cnd t19
  (Shr (J16 [t19]) H15)
  (bnd (aBinN .eql v14 (.int .i64 1)) fun t20 =>
  Shr (J16 [t20]) H15)) ∧
  ∀ xs17 H18, J16 xs17 H18 →
  cnd (xs17.headD .any)
  (ACalls P n_s_l01Below [a0, a1] H18 fun v21 H22 =>
  ∃ S23, Abs.sub S23 H22 ∧
  bnd (partOf true 5 (bc (xs10.tail.headD .any)) 0) fun t24 =>
  bnd (aBinN .add v21 (.int .i64 1)) fun t25 =>
  bnd (aBinN .sub a1 (.int .i64 1)) fun t26 =>
  ACalls P n_s_l01Below [a0, t26] H22 fun v27 H28 =>
  Abs.sub S23 H28 ∧
  bnd (aBinN .add t25 v27) fun t29 =>
  bnd (aBinN .rem t29 a1) fun t30 =>
  bnd (bsl 1 5 [(.int .i64 0)] [(0, (.int .i64 1)), (1, (.int .i64 1)), (2, (.int .i64 2)), (3, (.int .i64 3)), (4, (.int .i64 0))]) fun r31 =>
  ∀ o32, H28 o32 = none →
  Abs.sub S23 (upd H28 o32 ⟨1, r31⟩) ∧
  ACalls P n_s_l01PickInt [a0, (.slice o32 0 5 (some 5))] (upd H28 o32 ⟨1, r31⟩) fun v33 H34 =>
  Abs.sub S23 H34 ∧
  ACalls P n_s_SetLink [t24, v21, t30, v33] H34 fun v35 H36 =>
  Abs.sub S23 H36 ∧
  bnd (aExtract 0 v35) fun t37 =>
  bnd (aExtract 1 v35) fun t38 =>
  bnd (stz 5 (bc (xs10.tail.headD .any)) 0 t37) fun c39 =>
  bnd (aBinN .add (xs10.tail.tail.headD .any) (.int .i64 1)) fun t40 =>
  ∃ n9, n9 < n8 ∧ Shr (I6 n9 [(.box (bc (xs10.headD .any))), (.box c39), t40]) H36)
  (∃ J41 : List V → Heap → Prop,
  (bnd (aBinN .eql v14 (.int .i64 2)) fun t44 =>
  cnd t44
  (Shr (J41 [t44]) H18)
  (bnd (aBinN .eql v14 (.int .i64 3)) fun t45 =>
  cnd t45
  (Shr (J41 [t45]) H18)
  (bnd (aBinN .eql v14 (.int .i64 4)) fun t46 =>
  cnd t46
  (Shr (J41 [t46]) H18)
  (bnd (aBinN .eql v14 (.int .i64 5)) fun t47 =>
  Shr (J41 [t47]) H18)))) ∧
  ∀ xs42 H43, J41 xs42 H43 →
  cnd (xs42.headD .any)
  (bnd (partOf false 1 (bc (xs10.tail.headD .any)) 3) fun t48 =>
  bnd (lenOf t48) fun n49 =>
  bnd (aBinN .gtr (.int .i64 (n49 : Nat)) (.int .i64 0)) fun t50 =>
  cnd t50
  (∃ S51, Abs.sub S51 H43 ∧
  bnd (partOf true 5 (bc (xs10.tail.headD .any)) 0) fun t52 =>
  bnd (partOf false 1 (bc (xs10.tail.headD .any)) 3) fun t53 =>
  bnd (lenOf t53) fun n54 =>
  ACalls P n_s_l01Below [a0, (.int .i64 (n54 : Nat))] H43 fun v55 H56 =>
  Abs.sub S51 H56 ∧
  ACalls P n_s_Deliver [t52, v55] H56 fun v57 H58 =>
  Abs.sub S51 H58 ∧
  bnd (aExtract 0 v57) fun t59 =>
  bnd (aExtract 1 v57) fun t60 =>
  bnd (stz 5 (bc (xs10.tail.headD .any)) 0 t59) fun c61 =>
  bnd (aBinN .add (xs10.tail.tail.headD .any) (.int .i64 1)) fun t62 =>
  ∃ n9, n9 < n8 ∧ Shr (I6 n9 [(.box (bc (xs10.headD .any))), (.box c61), t62]) H58)
  (bnd (aBinN .add (xs10.tail.tail.headD .any) (.int .i64 1)) fun t63 =>
  ∃ n9, n9 < n8 ∧ Shr (I6 n9 [(.box (bc (xs10.headD .any))), (.box (bc (xs10.tail.headD .any))), t63]) H43))
  (bnd (aBinN .eql v14 (.int .i64 6)) fun t64 =>
  cnd t64
  (bnd (partOf false 1 (bc (xs10.tail.headD .any)) 3) fun t65 =>
  bnd (lenOf t65) fun n66 =>
  bnd (aBinN .gtr (.int .i64 (n66 : Nat)) (.int .i64 0)) fun t67 =>
  gd t67 true
  (ACalls P n_s_l01Once [a0, (.int .i64 2)] H43 fun v68 H69 =>
  cnd v68
  (∃ S70, Abs.sub S70 H69 ∧
  bnd (partOf true 5 (bc (xs10.tail.headD .any)) 0) fun t71 =>
  bnd (partOf false 1 (bc (xs10.tail.headD .any)) 3) fun t72 =>
  bnd (lenOf t72) fun n73 =>
  ACalls P n_s_l01Below [a0, (.int .i64 (n73 : Nat))] H69 fun v74 H75 =>
  Abs.sub S70 H75 ∧
  ACalls P n_s_Lose [t71, v74] H75 fun v76 H77 =>
  Abs.sub S70 H77 ∧
  bnd (aExtract 0 v76) fun t78 =>
  bnd (aExtract 1 v76) fun t79 =>
  bnd (stz 5 (bc (xs10.tail.headD .any)) 0 t78) fun c80 =>
  bnd (aBinN .add (xs10.tail.tail.headD .any) (.int .i64 1)) fun t81 =>
  ∃ n9, n9 < n8 ∧ Shr (I6 n9 [(.box (bc (xs10.headD .any))), (.box c80), t81]) H77)
  (bnd (aBinN .add (xs10.tail.tail.headD .any) (.int .i64 1)) fun t82 =>
  ∃ n9, n9 < n8 ∧ Shr (I6 n9 [(.box (bc (xs10.headD .any))), (.box (bc (xs10.tail.headD .any))), t82]) H69))
  (bnd (aBinN .add (xs10.tail.tail.headD .any) (.int .i64 1)) fun t83 =>
  ∃ n9, n9 < n8 ∧ Shr (I6 n9 [(.box (bc (xs10.headD .any))), (.box (bc (xs10.tail.headD .any))), t83]) H43))
  (bnd (aBinN .eql v14 (.int .i64 7)) fun t84 =>
  cnd t84
  (∃ S85, Abs.sub S85 H43 ∧
  bnd (partOf true 5 (bc (xs10.tail.headD .any)) 0) fun t86 =>
  ACalls P n_s_l01Below [a0, a1] H43 fun v87 H88 =>
  Abs.sub S85 H88 ∧
  ACalls P n_s_Announce [t86, v87] H88 fun v89 H90 =>
  Abs.sub S85 H90 ∧
  bnd (aExtract 0 v89) fun t91 =>
  bnd (aExtract 1 v89) fun t92 =>
  bnd (stz 5 (bc (xs10.tail.headD .any)) 0 t91) fun c93 =>
  bnd (aBinN .add (xs10.tail.tail.headD .any) (.int .i64 1)) fun t94 =>
  ∃ n9, n9 < n8 ∧ Shr (I6 n9 [(.box (bc (xs10.headD .any))), (.box c93), t94]) H90)
  (bnd (aBinN .add (xs10.tail.tail.headD .any) (.int .i64 1)) fun t95 =>
  ∃ n9, n9 < n8 ∧ Shr (I6 n9 [(.box (bc (xs10.headD .any))), (.box (bc (xs10.tail.headD .any))), t95]) H43)))))
  (bnd (partOf true 5 (bc (xs10.tail.headD .any)) 0) fun t96 =>
  bnd (stz 5 (bc (xs10.headD .any)) 0 t96) fun c97 =>
  bnd (partOf true 5 c97 0) fun t98 =>
  Ret R t98 H11))
  (bnd (partOf true 5 (bc (xs10.tail.headD .any)) 0) fun t99 =>
  bnd (stz 5 (bc (xs10.headD .any)) 0 t99) fun c100 =>
  bnd (partOf true 5 c100 0) fun t101 =>
  Ret R t101 H11)
theorem W_s_l08DrawNet {R : V → Heap → Prop} {a0 a1 a2 : V} {H : Heap} (h : F_s_l08DrawNet R a0 a1 a2 H) : ACalls P n_s_l08DrawNet [a0, a1, a2] H R :=
  acalls_of_form (g := ⟨[6, 7], [56, 63, 72, 83]⟩) (x := (.seq .leaf (.seq .leaf (.seq (.seq .leaf (.block (.loop [6, 7, 9] (.seq (.seq .leaf (.cond .leaf .leaf)) (.seq (.block (.seq .leaf (.block (.seqc (.seq .leaf (.cond .leaf .leaf)) (.cond (.seq .leaf (.draw [0, 1, 2, 3, 4, 5, 6, 9, 11, 7, 8, 10, 12, 13, 14, 15, 16, 17, 18])) (.seqc (.seq .leaf (.cond .leaf (.seq .leaf (.cond .leaf (.seq .leaf (.cond .leaf .leaf)))))) (.cond (.seq .leaf (.cond (.draw [0, 1, 2, 3, 4, 5, 6, 7, 8, 9, 10]) .leaf)) (.seq .leaf (.cond (.seq .leaf (.cond (.draw [0, 1, 2, 3, 4, 5, 6, 7, 8, 9, 10]) .leaf)) (.seq .leaf (.cond (.draw [0, 1, 2, 3, 4, 5, 6, 7, 8]) .leaf))))) [51])) [27])))) .leaf))))) (.seq .leaf .leaf))))) Tryz.func76 (by kernel_rfl) (by kernel_rfl) (by kernel_rfl) (by kernel_rfl : F_s_l08DrawNet R a0 a1 a2 H = _) h
def F_s_l01Below (R : V → Heap → Prop) (a0 a1 : V) (H : Heap) : Prop :=
  bnd (aBinN .leq a1 (.int .i64 0)) fun t1 =>
  cnd t1
  (Ret R (.int .i64 0) H)
  (bnd (aBinN .leq a1 (.int .i64 256)) fun t2 =>
  cnd t2
  (ACalls P n_s_l01Byte [a0] H fun v3 H4 =>
  bnd (aBinN .rem v3 a1) fun t5 =>
  Ret R t5 H4)
  (ACalls P n_s_l01Byte [a0] H fun v6 H7 =>
  ACalls P n_s_l01Byte [a0] H7 fun v8 H9 =>
  ACalls P n_s_l01Byte [a0] H9 fun v10 H11 =>
  bnd (aBinN .mul v6 (.int .i64 65536)) fun t12 =>
  bnd (aBinN .mul v8 (.int .i64 256)) fun t13 =>
  bnd (aBinN .add t12 t13) fun t14 =>
  bnd (aBinN .add t14 v10) fun t15 =>
  bnd (aBinN .rem t15 a1) fun t16 =>
  Ret R t16 H11))
theorem W_s_l01Below {R : V → Heap → Prop} {a0 a1 : V} {H : Heap} (h : F_s_l01Below R a0 a1 H) : ACalls P n_s_l01Below [a0, a1] H R :=
  acalls_of_form (g := ⟨[], []⟩) (x := (.seq .leaf (.seq (.seq .leaf (.cond (.seq .leaf .leaf) .leaf)) (.seq (.seq .leaf (.cond (.seq .leaf .leaf) .leaf)) (.seq .leaf (.seq .leaf (.seq .leaf (.seq .leaf .leaf)))))))) Tryz.func77 (by kernel_rfl) (by kernel_rfl) (by kernel_rfl) (by kernel_rfl : F_s_l01Below R a0 a1 H = _) h
def F_s_l01Size (R : V → Heap → Prop) (a0 a1 : V) (H : Heap) : Prop :=
  bnd (lenOf a0) fun n1 =>
  bnd (aBinN .quo (.int .i64 (n1 : Nat)) (.int .i64 16)) fun t2 =>
  bnd (aBinN .add (.int .i64 2) t2) fun t3 =>
  bnd (aBinN .gtr t3 a1) fun t4 =>
  cnd t4
  (Ret R a1 H)
  (Ret R t3 H)
theorem W_s_l01Size {R : V → Heap → Prop} {a0 a1 : V} {H : Heap} (h : F_s_l01Size R a0 a1 H) : ACalls P n_s_l01Size [a0, a1] H R :=
  acalls_of_form (g := ⟨[], []⟩) (x := (.seq .leaf (.seq .leaf (.seq (.seq .leaf (.cond (.seq .leaf .leaf) .leaf)) (.seq .leaf .leaf))))) Tryz.func78 (by kernel_rfl) (by kernel_rfl) (by kernel_rfl) (by kernel_rfl : F_s_l01Size R a0 a1 H = _) h
def F_s_l01Once (R : V → Heap → Prop) (a0 a1 : V) (H : Heap) : Prop :=
  ACalls P n_s_l01Below [a0, a1] H fun v1 H2 =>
  bnd (aBinN .eql v1 (.int .i64 0)) fun t3 =>
  Ret R t3 H2
theorem W_s_l01Once {R : V → Heap → Prop} {a0 a1 : V} {H : Heap} (h : F_s_l01Once R a0 a1 H) : ACalls P n_s_l01Once [a0, a1] H R :=
  acalls_of_form (g := ⟨[], []⟩) (x := (.seq .leaf (.seq .leaf .leaf))) Tryz.func79 (by kernel_rfl) (by kernel_rfl) (by kernel_rfl) (by kernel_rfl : F_s_l01Once R a0 a1 H = _) h
def F_s_l08Bend (R : V → Heap → Prop) (a0 a1 : V) (H : Heap) : Prop :=
  boxK a1 (ACalls P n_s_l01Below [a0, (.int .i64 6)] H fun v1 H2 =>
  bnd (aBinN .eql v1 (.int .i64 0)) fun t3 =>
  cnd t3
  (bnd (bsl 1 3 [(.int .i64 0)] [(0, (.int .i64 (-1))), (1, (.int .i64 1000000)), (2, (.int .i64 1000001))]) fun r4 =>
  ∀ o5, H2 o5 = none →
  ACalls P n_s_l01PickInt [a0, (.slice o5 0 3 (some 3))] (upd H2 o5 ⟨1, r4⟩) fun v6 H7 =>
  bnd (stz 1 (cellsOf a1) 4 v6) fun c8 =>
  bnd (partOf true 5 c8 0) fun t9 =>
  bnd (stz 5 [(.int .i64 0), .nils, .nils, .nils, (.int .i64 0)] 0 t9) fun c10 =>
  bnd (partOf true 5 c10 0) fun t11 =>
  Ret R t11 H7)
  (bnd (aBinN .eql v1 (.int .i64 1)) fun t12 =>
  cnd t12
  (bnd (partOf false 1 (cellsOf a1) 2) fun t13 =>
  bnd (fillZ [.nils] []) fun c14 =>
  bnd (bsl 1 1 [.nils] [(0, (.agg c14))]) fun r15 =>
  ∀ o16, H2 o16 = none →
  bnd (rowsOf (upd H2 o16 ⟨1, r15⟩) 1 (.slice o16 0 1 (some 1))) fun r19 =>
  appendK (upd H2 o16 ⟨1, r15⟩) 1 24 t13 r19 fun v17 H18 =>
  bnd (stz 1 (cellsOf a1) 2 v17) fun c20 =>
  bnd (partOf true 5 c20 0) fun t21 =>
  bnd (stz 5 [(.int .i64 0), .nils, .nils, .nils, (.int .i64 0)] 0 t21) fun c22 =>
  bnd (partOf true 5 c22 0) fun t23 =>
  Ret R t23 H18)
  (bnd (aBinN .eql v1 (.int .i64 2)) fun t24 =>
  cnd t24
  (bnd (partOf false 1 (cellsOf a1) 0) fun t25 =>
  bnd (aBinN .add t25 (.int .i64 1)) fun t26 =>
  bnd (bsl 1 3 [(.int .i64 0)] [(0, (.int .i64 0)), (1, (.int .i64 7)), (2, t26)]) fun r27 =>
  ∀ o28, H2 o28 = none →
  ACalls P n_s_l01PickInt [a0, (.slice o28 0 3 (some 3))] (upd H2 o28 ⟨1, r27⟩) fun v29 H30 =>
  bnd (stz 1 (cellsOf a1) 0 v29) fun c31 =>
  bnd (partOf true 5 c31 0) fun t32 =>
  bnd (stz 5 [(.int .i64 0), .nils, .nils, .nils, (.int .i64 0)] 0 t32) fun c33 =>
  bnd (partOf true 5 c33 0) fun t34 =>
  Ret R t34 H30)
  (bnd (aBinN .eql v1 (.int .i64 3)) fun t35 =>
  cnd t35
  (bnd (partOf false 1 (cellsOf a1) 1) fun t36 =>
  bnd (lenOf t36) fun n37 =>
  bnd (aBinN .gtr (.int .i64 (n37 : Nat)) (.int .i64 0)) fun t38 =>
  cnd t38
  (bnd (partOf false 1 (cellsOf a1) 1) fun t39 =>
  bnd (partOf false 1 (cellsOf a1) 1) fun t40 =>
  bnd (aIndex H2 3 t40 (.int .i64 0)) fun t41 =>
  bnd (aField 2 t41) fun t42 =>
  bnd (aLd false 1 H2 t42) fun t43 =>
  bnd (aBinN .add t43 (.int .i64 1)) fun t44 =>
  bnd (aIndex H2 3 t39 (.int .i64 0)) fun t45 =>
  bnd (aField 2 t45) fun t46 =>
  bnd (aSt 1 H2 t46 t44) fun H47 =>
  bnd (partOf true 5 (cellsOf a1) 0) fun t48 =>
  bnd (stz 5 [(.int .i64 0), .nils, .nils, .nils, (.int .i64 0)] 0 t48) fun c49 =>
  bnd (partOf true 5 c49 0) fun t50 =>
  Ret R t50 H47)
  (bnd (partOf true 5 (cellsOf a1) 0) fun t51 =>
  bnd (stz 5 [(.int .i64 0), .nils, .nils, .nils, (.int .i64 0)] 0 t51) fun c52 =>
  bnd (partOf true 5 c52 0) fun t53 =>
  Ret R t53 H2))
  (bnd (aBinN .eql v1 (.int .i64 4)) fun t54 =>
  cnd t54
  (bnd (partOf false 1 (cellsOf a1) 3) fun t55 =>
  ACalls P n_s_l01Below [a0, (.int .i64 3)] H2 fun v56 H57 =>
  ACalls P n_s_l01Below [a0, (.int .i64 3)] H57 fun v58 H59 =>
  ACalls P n_s_l05DrawLsa [a0, (.int .i64 0), (.int .i64 3)] H59 fun v60 H61 =>
  bnd (fillZ [(.int .i64 0), (.int .i64 0), (.int .i64 0), (.int .i64 0), (.int .i64 0), .nils, .nils] [(0, 1, v56), (1, 1, v58), (2, 5, v60)]) fun c62 =>
  bnd (bsl 7 1 [(.int .i64 0), (.int .i64 0), (.int .i64 0), (.int .i64 0), (.int .i64 0), .nils, .nils] [(0, (.agg c62))]) fun r63 =>
  ∀ o64, H61 o64 = none →
  bnd (rowsOf (upd H61 o64 ⟨7, r63⟩) 7 (.slice o64 0 1 (some 1))) fun r67 =>
  appendK (upd H61 o64 ⟨7, r63⟩) 7 88 t55 r67 fun v65 H66 =>
  bnd (stz 1 (cellsOf a1) 3 v65) fun c68 =>
  bnd (partOf true 5 c68 0) fun t69 =>
  bnd (stz 5 [(.int .i64 0), .nils, .nils, .nils, (.int .i64 0)] 0 t69) fun c70 =>
  bnd (partOf true 5 c70 0) fun t71 =>
  Ret R t71 H66)
  (bnd (aBinN .eql v1 (.int .i64 5)) fun t72 =>
  cnd t72
  (bnd (partOf false 1 (cellsOf a1) 3) fun t73 =>
  bnd (lenOf t73) fun n74 =>
  bnd (aBinN .gtr (.int .i64 (n74 : Nat)) (.int .i64 0)) fun t75 =>
  cnd t75
  (bnd (partOf false 1 (cellsOf a1) 3) fun t76 =>
  bnd (partOf false 1 (cellsOf a1) 3) fun t77 =>
  bnd (aIndex H2 7 t77 (.int .i64 0)) fun t78 =>
  bnd (aField 2 t78) fun t79 =>
  bnd (aLd true 5 H2 t79) fun t80 =>
  ACalls P n_s_l05Bend [a0, t80] H2 fun v81 H82 =>
  bnd (aIndex H82 7 t76 (.int .i64 0)) fun t83 =>
  bnd (aField 2 t83) fun t84 =>
  bnd (aSt 5 H82 t84 v81) fun H85 =>
  bnd (partOf true 5 (cellsOf a1) 0) fun t86 =>
  bnd (stz 5 [(.int .i64 0), .nils, .nils, .nils, (.int .i64 0)] 0 t86) fun c87 =>
  bnd (partOf true 5 c87 0) fun t88 =>
  Ret R t88 H85)
  (bnd (partOf true 5 (cellsOf a1) 0) fun t89 =>
  bnd (stz 5 [(.int .i64 0), .nils, .nils, .nils, (.int .i64 0)] 0 t89) fun c90 =>
  bnd (partOf true 5 c90 0) fun t91 =>
  Ret R t91 H2))
  (bnd (partOf true 5 (cellsOf a1) 0) fun t92 =>
  bnd (stz 5 [(.int .i64 0), .nils, .nils, .nils, (.int .i64 0)] 0 t92) fun c93 =>
  bnd (partOf true 5 c93 0) fun t94 =>
  Ret R t94 H2)))))))
theorem W_s_l08Bend {R : V → Heap → Prop} {a0 a1 : V} {H : Heap} (h : F_s_l08Bend R a0 a1 H) : ACalls P n_s_l08Bend [a0, a1] H R :=
  acalls_of_form (g := ⟨[3, 4], [12, 15, 20, 24, 25, 30, 31, 34, 35, 39, 40, 42, 43, 53, 64, 67, 71, 74]⟩) (x := (.seq .leaf (.seq (.seq .leaf (.block (.seq .leaf (.cond .leaf (.seq .leaf (.cond .leaf (.seq .leaf (.cond .leaf (.seq .leaf (.cond (.seq .leaf (.cond (.drawh [0, 1, 2, 3, 4, 5, 6, 7, 8, 9, 10, 11, 12]) .leaf)) (.seq .leaf (.cond (.drawh [0, 1, 2, 4, 6, 3, 5, 7, 8, 9, 10, 11, 12]) (.seq .leaf (.cond (.seq .leaf (.cond (.drawh [0, 1, 2, 3, 4, 5, 6, 7, 8, 9, 10, 11]) .leaf)) .leaf)))))))))))))) (.seq .leaf .leaf)))) Tryz.func80 (by kernel_rfl) (by kernel_rfl) (by kernel_rfl) (by kernel_rfl : F_s_l08Bend R a0 a1 H = _) h
def F_s_l01PickInt (R : V → Heap → Prop) (a0 a1 : V) (H : Heap) : Prop :=
  bnd (lenOf a1) fun n1 =>
  ACalls P n_s_l01Below [a0, (.int .i64 (n1 : Nat))] H fun v2 H3 =>
  bnd (aIndex H3 1 a1 v2) fun t4 =>
  bnd (aLd false 1 H3 t4) fun t5 =>
  Ret R t5 H3
theorem W_s_l01PickInt {R : V → Heap → Prop} {a0 a1 : V} {H : Heap} (h : F_s_l01PickInt R a0 a1 H) : ACalls P n_s_l01PickInt [a0, a1] H R :=
  acalls_of_form (g := ⟨[], []⟩) (x := (.seq .leaf (.seq .leaf .leaf))) Tryz.func81 (by kernel_rfl) (by kernel_rfl) (by kernel_rfl) (by kernel_rfl : F_s_l01PickInt R a0 a1 H = _) h
def F_s_l03Copy (R : V → Heap → Prop) (a0 : V) (H : Heap) : Prop :=
  boxK a0 (bnd (partOf false 1 (cellsOf a0) 0) fun t1 =>
  bnd (fillZ [(.int .i64 0), .nils] [(0, 1, t1)]) fun c2 =>
  bnd (stz 2 [(.int .i64 0), .nils] 0 (.agg c2)) fun c3 =>
  ∃ (I4 : Nat → List V → Heap → Prop) (n5 : Nat), Shr (I4 n5 [(.box (cellsOf a0)), (.box [(.int .i64 0), .nils]), (.box c3), (.int .i64 0)]) H ∧
  ∀ n6 xs8 H9, I4 n6 xs8 H9 →
  bnd (partOf false 1 (bc (xs8.headD .any)) 1) fun t10 =>
  bnd (lenOf t10) fun n11 =>
  bnd (aBinN .lss (xs8.tail.tail.tail.headD .any) (.int .i64 (n11 : Nat))) fun t12 =>
  cnd t12
  (bnd (partOf false 1 (bc (xs8.tail.tail.headD .any)) 1) fun t13 =>
  bnd (partOf false 1 (bc (xs8.headD .any)) 1) fun t14 =>
  bnd (aIndex H9 3 t14 (xs8.tail.tail.tail.headD .any)) fun t15 =>
  bnd (aLd true 3 H9 t15) fun t16 =>
  bnd (bsl 3 1 [(.int .i64 0), (.int .i64 0), (.int .i64 0)] [(0, t16)]) fun r17 =>
  ∀ o18, H9 o18 = none →
  bnd (rowsOf (upd H9 o18 ⟨3, r17⟩) 3 (.slice o18 0 1 (some 1))) fun r21 =>
  appendK (upd H9 o18 ⟨3, r17⟩) 3 24 t13 r21 fun v19 H20 =>
  bnd (stz 1 (bc (xs8.tail.tail.headD .any)) 1 v19) fun c22 =>
  bnd (aBinN .add (xs8.tail.tail.tail.headD .any) (.int .i64 1)) fun t23 =>
  ∃ n7, n7 < n6 ∧ Shr (I4 n7 [(.box (bc (xs8.headD .any))), (.box (bc (xs8.tail.headD .any))), (.box c22), t23]) H20)
  (bnd (partOf true 2 (bc (xs8.tail.tail.headD .any)) 0) fun t24 =>
  bnd (stz 2 (bc (xs8.tail.headD .any)) 0 t24) fun c25 =>
  bnd (partOf true 2 c25 0) fun t26 =>
  Ret R t26 H9))
theorem W_s_l03Copy {R : V → Heap → Prop} {a0 : V} {H : Heap} (h : F_s_l03Copy R a0 H) : ACalls P n_s_l03Copy [a0] H R :=
  acalls_of_form (g := ⟨[1, 2, 3], [5, 9, 15, 17, 24]⟩) (x := (.seq .leaf (.seq .leaf (.seq (.seq .leaf (.block (.loop [1, 2, 3, 4] (.seq (.seq .leaf (.cond .leaf .leaf)) (.seq (.block (.drawh [0, 1, 2, 3, 4, 5, 6, 7, 8, 9, 10])) .leaf))))) (.seq .leaf .leaf))))) Tryz.func82 (by kernel_rfl) (by kernel_rfl) (by kernel_rfl) (by kernel_rfl : F_s_l03Copy R a0 H = _) h
def F_s_l06Copy (R : V → Heap → Prop) (a0 : V) (H : Heap) : Prop :=
  boxK a0 (bnd (fillZ [.nils] []) fun c1 =>
  bnd (stz 1 [.nils] 0 (.agg c1)) fun c2 =>
  ∃ (I3 : Nat → List V → Heap → Prop) (n4 : Nat), Shr (I3 n4 [(.box (cellsOf a0)), (.box [.nils]), (.box c2), (.int .i64 0)]) H ∧
  ∀ n5 xs7 H8, I3 n5 xs7 H8 →
  bnd (partOf false 1 (bc (xs7.headD .any)) 0) fun t9 =>
  bnd (lenOf t9) fun n10 =>
  bnd (aBinN .lss (xs7.tail.tail.tail.headD .any) (.int .i64 (n10 : Nat))) fun t11 =>
  cnd t11
  (bnd (partOf false 1 (bc (xs7.tail.tail.headD .any)) 0) fun t12 =>
  bnd (partOf false 1 (bc (xs7.headD .any)) 0) fun t13 =>
  bnd (aIndex H8 5 t13 (xs7.tail.tail.tail.headD .any)) fun t14 =>
  bnd (aLd true 5 H8 t14) fun t15 =>
  ACalls P n_s_l05Copy [t15] H8 fun v16 H17 =>
  bnd (bsl 5 1 [(.int .i64 0), (.int .i64 0), (.int .i64 0), .nils, .nils] [(0, v16)]) fun r18 =>
  ∀ o19, H17 o19 = none →
  bnd (rowsOf (upd H17 o19 ⟨5, r18⟩) 5 (.slice o19 0 1 (some 1))) fun r22 =>
  appendK (upd H17 o19 ⟨5, r18⟩) 5 72 t12 r22 fun v20 H21 =>
  bnd (stz 1 (bc (xs7.tail.tail.headD .any)) 0 v20) fun c23 =>
  bnd (aBinN .add (xs7.tail.tail.tail.headD .any) (.int .i64 1)) fun t24 =>
  ∃ n6, n6 < n5 ∧ Shr (I3 n6 [(.box (bc (xs7.headD .any))), (.box (bc (xs7.tail.headD .any))), (.box c23), t24]) H21)
  (bnd (partOf true 1 (bc (xs7.tail.tail.headD .any)) 0) fun t25 =>
  bnd (stz 1 (bc (xs7.tail.headD .any)) 0 t25) fun c26 =>
  bnd (partOf true 1 c26 0) fun t27 =>
  Ret R t27 H8))
theorem W_s_l06Copy {R : V → Heap → Prop} {a0 : V} {H : Heap} (h : F_s_l06Copy R a0 H) : ACalls P n_s_l06Copy [a0] H R :=
  acalls_of_form (g := ⟨[1, 2, 3], [7, 13, 15, 23]⟩) (x := (.seq .leaf (.seq .leaf (.seq (.seq .leaf (.block (.loop [1, 2, 3, 4] (.seq (.seq .leaf (.cond .leaf .leaf)) (.seq (.block (.drawh [0, 1, 2, 3, 4, 5, 6, 7, 8, 9, 10, 11])) .leaf))))) (.seq .leaf .leaf))))) Tryz.func83 (by kernel_rfl) (by kernel_rfl) (by kernel_rfl) (by kernel_rfl : F_s_l06Copy R a0 H = _) h
def F_s_l05Copy (R : V → Heap → Prop) (a0 : V) (H : Heap) : Prop :=
  boxK a0 (bnd (partOf false 1 (cellsOf a0) 0) fun t1 =>
  bnd (partOf false 1 (cellsOf a0) 1) fun t2 =>
  bnd (partOf false 1 (cellsOf a0) 2) fun t3 =>
  bnd (fillZ [(.int .i64 0), (.int .i64 0), (.int .i64 0), .nils, .nils] [(0, 1, t1), (1, 1, t2), (2, 1, t3)]) fun c4 =>
  bnd (stz 5 [(.int .i64 0), (.int .i64 0), (.int .i64 0), .nils, .nils] 0 (.agg c4)) fun c5 =>
  ∃ (I6 : Nat → List V → Heap → Prop) (n7 : Nat), Shr (I6 n7 [(.box (cellsOf a0)), (.box [(.int .i64 0), (.int .i64 0), (.int .i64 0), .nils, .nils]), (.box c5), (.int .i64 0)]) H ∧
  ∀ n8 xs10 H11, I6 n8 xs10 H11 →
  bnd (partOf false 1 (bc (xs10.headD .any)) 3) fun t12 =>
  bnd (lenOf t12) fun n13 =>
  bnd (aBinN .lss (xs10.tail.tail.tail.headD .any) (.int .i64 (n13 : Nat))) fun t14 =>
  cnd t14
  (bnd (partOf false 1 (bc (xs10.tail.tail.headD .any)) 3) fun t15 =>
  bnd (partOf false 1 (bc (xs10.headD .any)) 3) fun t16 =>
  bnd (aIndex H11 2 t16 (xs10.tail.tail.tail.headD .any)) fun t17 =>
  bnd (aLd true 2 H11 t17) fun t18 =>
  bnd (bsl 2 1 [(.int .i64 0), (.int .i64 0)] [(0, t18)]) fun r19 =>
  ∀ o20, H11 o20 = none →
  bnd (rowsOf (upd H11 o20 ⟨2, r19⟩) 2 (.slice o20 0 1 (some 1))) fun r23 =>
  appendK (upd H11 o20 ⟨2, r19⟩) 2 16 t15 r23 fun v21 H22 =>
  bnd (stz 1 (bc (xs10.tail.tail.headD .any)) 3 v21) fun c24 =>
  bnd (aBinN .add (xs10.tail.tail.tail.headD .any) (.int .i64 1)) fun t25 =>
  ∃ n9, n9 < n8 ∧ Shr (I6 n9 [(.box (bc (xs10.headD .any))), (.box (bc (xs10.tail.headD .any))), (.box c24), t25]) H22)
  (∃ (I26 : Nat → List V → Heap → Prop) (n27 : Nat), Shr (I26 n27 [(.box (bc (xs10.headD .any))), (.box (bc (xs10.tail.headD .any))), (.box (bc (xs10.tail.tail.headD .any))), (.int .i64 0)]) H11 ∧
  ∀ n28 xs30 H31, I26 n28 xs30 H31 →
  bnd (partOf false 1 (bc (xs30.headD .any)) 4) fun t32 =>
  bnd (lenOf t32) fun n33 =>
  bnd (aBinN .lss (xs30.tail.tail.tail.headD .any) (.int .i64 (n33 : Nat))) fun t34 =>
  cnd t34
  (bnd (partOf false 1 (bc (xs30.tail.tail.headD .any)) 4) fun t35 =>
  bnd (partOf false 1 (bc (xs30.headD .any)) 4) fun t36 =>
  bnd (aIndex H31 3 t36 (xs30.tail.tail.tail.headD .any)) fun t37 =>
  bnd (aLd true 3 H31 t37) fun t38 =>
  bnd (bsl 3 1 [(.int .i64 0), (.int .i64 0), (.int .i64 0)] [(0, t38)]) fun r39 =>
  ∀ o40, H31 o40 = none →
  bnd (rowsOf (upd H31 o40 ⟨3, r39⟩) 3 (.slice o40 0 1 (some 1))) fun r43 =>
  appendK (upd H31 o40 ⟨3, r39⟩) 3 24 t35 r43 fun v41 H42 =>
  bnd (stz 1 (bc (xs30.tail.tail.headD .any)) 4 v41) fun c44 =>
  bnd (aBinN .add (xs30.tail.tail.tail.headD .any) (.int .i64 1)) fun t45 =>
  ∃ n29, n29 < n28 ∧ Shr (I26 n29 [(.box (bc (xs30.headD .any))), (.box (bc (xs30.tail.headD .any))), (.box c44), t45]) H42)
  (bnd (partOf true 5 (bc (xs30.tail.tail.headD .any)) 0) fun t46 =>
  bnd (stz 5 (bc (xs30.tail.headD .any)) 0 t46) fun c47 =>
  bnd (partOf true 5 c47 0) fun t48 =>
  Ret R t48 H31)))
theorem W_s_l05Copy {R : V → Heap → Prop} {a0 : V} {H : Heap} (h : F_s_l05Copy R a0 H) : ACalls P n_s_l05Copy [a0] H R :=
  acalls_of_form (g := ⟨[1, 2, 3], [6, 8, 10, 14, 20, 22, 29, 31, 37, 39, 46]⟩) (x := (.seq .leaf (.seq .leaf (.seq (.seq .leaf (.block (.loop [1, 2, 3, 4] (.seq (.seq .leaf (.cond .leaf .leaf)) (.seq (.block (.drawh [0, 1, 2, 3, 4, 5, 6, 7, 8, 9, 10])) .leaf))))) (.seq (.seq .leaf (.block (.loop [1, 2, 3, 5] (.seq (.seq .leaf (.cond .leaf .leaf)) (.seq (.block (.drawh [0, 1, 2, 3, 4, 5, 6, 7, 8, 9, 10])) .leaf))))) (.seq .leaf .leaf)))))) Tryz.func84 (by kernel_rfl) (by kernel_rfl) (by kernel_rfl) (by kernel_rfl : F_s_l05Copy R a0 H = _) h
def F_s_Newer (R : V → Heap → Prop) (a0 a1 : V) (H : Heap) : Prop :=
  boxK a0 (boxK a1 (bnd (partOf true 5 (cellsOf a0) 0) fun t1 =>
  ACalls P n_s_LsaOk [t1] H fun v2 H3 =>
  bnd (aNot v2) fun t4 =>
  gd t4 false
  (bnd (partOf true 5 (cellsOf a1) 0) fun t5 =>
  ACalls P n_s_LsaOk [t5] H3 fun v6 H7 =>
  bnd (aNot v6) fun t8 =>
  gd t8 false
  (bnd (partOf false 1 (cellsOf a0) 0) fun t9 =>
  bnd (partOf false 1 (cellsOf a1) 0) fun t10 =>
  bnd (aBinN .neq t9 t10) fun t11 =>
  cnd t11
  (Ret R (.int .i64 (-2)) H7)
  (bnd (partOf false 1 (cellsOf a0) 1) fun t12 =>
  bnd (partOf false 1 (cellsOf a1) 1) fun t13 =>
  bnd (aBinN .neq t12 t13) fun t14 =>
  cnd t14
  (bnd (partOf false 1 (cellsOf a0) 1) fun t15 =>
  bnd (partOf false 1 (cellsOf a1) 1) fun t16 =>
  bnd (aBinN .sub t15 t16) fun t17 =>
  ACalls P n_s_l05Sign [t17] H7 fun v18 H19 =>
  Ret R v18 H19)
  (∃ S20, Abs.sub S20 H7 ∧
  bnd (partOf true 5 (cellsOf a0) 0) fun t21 =>
  bnd (partOf true 5 (cellsOf a1) 0) fun t22 =>
  ACalls P n_s_LsaSum [t21] H7 fun v23 H24 =>
  Abs.sub S20 H24 ∧
  ACalls P n_s_LsaSum [t22] H24 fun v25 H26 =>
  Abs.sub S20 H26 ∧
  bnd (aBinN .neq v23 v25) fun t27 =>
  cnd t27
  (∃ S28, Abs.sub S28 H26 ∧
  bnd (partOf true 5 (cellsOf a0) 0) fun t29 =>
  bnd (partOf true 5 (cellsOf a1) 0) fun t30 =>
  ACalls P n_s_LsaSum [t29] H26 fun v31 H32 =>
  Abs.sub S28 H32 ∧
  ACalls P n_s_LsaSum [t30] H32 fun v33 H34 =>
  Abs.sub S28 H34 ∧
  bnd (aBinN .sub v31 v33) fun t35 =>
  ACalls P n_s_l05Sign [t35] H34 fun v36 H37 =>
  Abs.sub S28 H37 ∧
  Ret R v36 H37)
  (bnd (partOf false 1 (cellsOf a0) 2) fun t38 =>
  bnd (partOf false 1 (cellsOf a1) 2) fun t39 =>
  bnd (aBinN .eql t38 t39) fun t40 =>
  cnd t40
  (Ret R (.int .i64 0) H26)
  (bnd (partOf false 1 (cellsOf a0) 2) fun t41 =>
  bnd (aBinN .eql t41 (.int .i64 60)) fun t42 =>
  gd t42 false
  (bnd (partOf false 1 (cellsOf a1) 2) fun t43 =>
  bnd (aBinN .eql t43 (.int .i64 60)) fun t44 =>
  cnd t44
  (bnd (partOf false 1 (cellsOf a0) 2) fun t45 =>
  bnd (partOf false 1 (cellsOf a1) 2) fun t46 =>
  bnd (aBinN .sub t45 t46) fun t47 =>
  ACalls P n_s_l05Sign [t47] H26 fun v48 H49 =>
  Ret R v48 H49)
  (bnd (partOf false 1 (cellsOf a0) 2) fun t50 =>
  bnd (partOf false 1 (cellsOf a1) 2) fun t51 =>
  bnd (aBinN .sub t50 t51) fun t52 =>
  bnd (aBinN .gtr t52 (.int .i64 10)) fun t53 =>
  gd t53 false
  (bnd (partOf false 1 (cellsOf a1) 2) fun t54 =>
  bnd (partOf false 1 (cellsOf a0) 2) fun t55 =>
  bnd (aBinN .sub t54 t55) fun t56 =>
  bnd (aBinN .gtr t56 (.int .i64 10)) fun t57 =>
  cnd t57
  (bnd (partOf false 1 (cellsOf a1) 2) fun t58 =>
  bnd (partOf false 1 (cellsOf a0) 2) fun t59 =>
  bnd (aBinN .sub t58 t59) fun t60 =>
  ACalls P n_s_l05Sign [t60] H26 fun v61 H62 =>
  Ret R v61 H62)
  (Ret R (.int .i64 0) H26))
  (bnd (partOf false 1 (cellsOf a1) 2) fun t63 =>
  bnd (partOf false 1 (cellsOf a0) 2) fun t64 =>
  bnd (aBinN .sub t63 t64) fun t65 =>
  ACalls P n_s_l05Sign [t65] H26 fun v66 H67 =>
  Ret R v66 H67)))
  (bnd (partOf false 1 (cellsOf a0) 2) fun t68 =>
  bnd (partOf false 1 (cellsOf a1) 2) fun t69 =>
  bnd (aBinN .sub t68 t69) fun t70 =>
  ACalls P n_s_l05Sign [t70] H26 fun v71 H72 =>
  Ret R v71 H72))))))
  (Ret R (.int .i64 (-2)) H7))
  (Ret R (.int .i64 (-2)) H3)))
theorem W_s_Newer {R : V → Heap → Prop} {a0 a1 : V} {H : Heap} (h : F_s_Newer R a0 a1 H) : ACalls P n_s_Newer [a0, a1] H R :=
  acalls_of_form (g := ⟨[2, 3], [14, 16, 20, 22, 25, 27, 42, 44, 47, 51, 55, 57, 61, 63, 68, 70, 75, 77]⟩) (x := (.seq .leaf (.seq (.seq .leaf (.cond (.seq .leaf .leaf) .leaf)) (.seq (.seq .leaf (.cond (.seq .leaf .leaf) .leaf)) (.seq (.seq (.draw [0, 2, 1, 3, 4]) (.cond (.seq (.draw [0, 2, 1, 3, 4, 5, 6]) .leaf) .leaf)) (.seq (.seq .leaf (.cond (.seq .leaf .leaf) .leaf)) (.seq (.seq .leaf (.cond (.seq .leaf .leaf) .leaf)) (.seq (.seq .leaf (.cond (.seq .leaf .leaf) .leaf)) (.seq .leaf .leaf))))))))) Tryz.func85 (by kernel_rfl) (by kernel_rfl) (by kernel_rfl) (by kernel_rfl : F_s_Newer R a0 a1 H = _) h
def F_slices_BinarySearchFunc_i_Lsa_i_Lsa_int (R : V → Heap → Prop) (a0 a1 a2 : V) (H : Heap) : Prop :=
  bnd (lenOf a0) fun n1 =>
  ∃ (I2 : Nat → List V → Heap → Prop) (n3 : Nat), Shr (I2 n3 [(.int .i64 0), (.int .i64 (n1 : Nat))]) H ∧
  ∀ n4 xs6 H7, I2 n4 xs6 H7 →
  bnd (aBinN .lss (xs6.headD .any) (xs6.tail.headD .any)) fun t8 =>
  cnd t8
  (bnd (aBinN .add (xs6.headD .any) (xs6.tail.headD .any)) fun t9 =>
  bnd (aCv .u64 t9) fun t10 =>
  bnd (aBinN .shr t10 (.int .u64 1)) fun t11 =>
  bnd (aCv .i64 t11) fun t12 =>
  bnd (aIndex H7 5 a0 t12) fun t13 =>
  bnd (aLd true 5 H7 t13) fun t14 =>
  callK P H7 a2 [t14, a1] fun v15 H16 =>
  bnd (aBinN .lss v15 (.int .i64 0)) fun t17 =>
  cnd t17
  (bnd (aBinN .add t12 (.int .i64 1)) fun t18 =>
  ∃ n5, n5 < n4 ∧ Shr (I2 n5 [t18, (xs6.tail.headD .any)]) H16)
  (∃ n5, n5 < n4 ∧ Shr (I2 n5 [(xs6.headD .any), t12]) H16))
  (bnd (aBinN .lss (xs6.headD .any) (.int .i64 (n1 : Nat))) fun t19 =>
  gd t19 true
  (bnd (aIndex H7 5 a0 (xs6.headD .any)) fun t20 =>
  bnd (aLd true 5 H7 t20) fun t21 =>
  callK P H7 a2 [t21, a1] fun v22 H23 =>
  bnd (aBinN .eql v22 (.int .i64 0)) fun t24 =>
  Ret R (.tup [(xs6.headD .any), t24]) H23)
  (Ret R (.tup [(xs6.headD .any), (.bool false)]) H7))
theorem W_slices_BinarySearchFunc_i_Lsa_i_Lsa_int {R : V → Heap → Prop} {a0 a1 a2 : V} {H : Heap} (h : F_slices_BinarySearchFunc_i_Lsa_i_Lsa_int R a0 a1 a2 H) : ACalls P n_slices_BinarySearchFunc_i_Lsa_i_Lsa_int [a0, a1, a2] H R :=
  acalls_of_form (g := ⟨[], []⟩) (x := (.seq .leaf (.seq .leaf (.seq .leaf (.seq (.block (.loop [9, 10] (.seq (.seq .leaf (.cond .leaf .leaf)) (.block (.seq .leaf (.seq .leaf (.cond .leaf .leaf))))))) (.seq .leaf .leaf)))))) Tryz.func86 (by kernel_rfl) (by kernel_rfl) (by kernel_rfl) (by kernel_rfl : F_slices_BinarySearchFunc_i_Lsa_i_Lsa_int R a0 a1 a2 H = _) h
def F_i_Db_find_1 (R : V → Heap → Prop) (a0 a1 : V) (H : Heap) : Prop :=
  boxK a0 (bnd (partOf false 1 (cellsOf a0) 0) fun t1 =>
  ACalls P n_cmp_Compare_int [t1, a1] H fun v2 H3 =>
  Ret R v2 H3)
theorem W_i_Db_find_1 {R : V → Heap → Prop} {a0 a1 : V} {H : Heap} (h : F_i_Db_find_1 R a0 a1 H) : ACalls P n_i_Db_find_1 [a0, a1] H R :=
  acalls_of_form (g := ⟨[2], [5]⟩) (x := (.seq .leaf (.seq .leaf .leaf))) Tryz.func87 (by kernel_rfl) (by kernel_rfl) (by kernel_rfl) (by kernel_rfl : F_i_Db_find_1 R a0 a1 H = _) h
theorem E_i_Db_find_1 : enterable P n_i_Db_find_1 = true := by kernel_rfl
def F_cmp_Compare_int (R : V → Heap → Prop) (a0 a1 : V) (H : Heap) : Prop :=
  ACalls P n_cmp_isNaN_int [a0] H fun v1 H2 =>
  ACalls P n_cmp_isNaN_int [a1] H2 fun v3 H4 =>
  cnd v1
  (cnd v3
  (Ret R (.int .i64 0) H4)
  (Ret R (.int .i64 (-1)) H4))
  (cnd v3
  (Ret R (.int .i64 1) H4)
  (bnd (aBinN .lss a0 a1) fun t5 =>
  cnd t5
  (Ret R (.int .i64 (-1)) H4)
  (bnd (aBinN .gtr a0 a1) fun t6 =>
  cnd t6
  (Ret R (.int .i64 1) H4)
  (Ret R (.int .i64 0) H4))))
theorem W_cmp_Compare_int {R : V → Heap → Prop} {a0 a1 : V} {H : Heap} (h : F_cmp_Compare_int R a0 a1 H) : ACalls P n_cmp_Compare_int [a0, a1] H R :=
  acalls_of_form (g := ⟨[], []⟩) (x := (.seq .leaf (.seq .leaf (.seq .leaf (.seq (.seq .leaf (.cond (.seq (.seq .leaf (.cond (.seq .leaf .leaf) .leaf)) (.seq .leaf .leaf)) .leaf)) (.seq (.seq .leaf (.cond (.seq .leaf .leaf) .leaf)) (.seq (.seq .leaf (.cond (.seq .leaf .leaf) .leaf)) (.seq (.seq .leaf (.cond (.seq .leaf .leaf) .leaf)) (.seq .leaf .leaf))))))))) Tryz.func88 (by kernel_rfl) (by kernel_rfl) (by kernel_rfl) (by kernel_rfl : F_cmp_Compare_int R a0 a1 H = _) h
def F_slices_Clone_i_Link_i_Link (R : V → Heap → Prop) (a0 : V) (H : Heap) : Prop :=
  bnd (aBinZ .eql a0 .nils) fun t1 =>
  cnd t1
  (Ret R .nils H)
  (bnd (bsl 2 0 [(.int .i64 0), (.int .i64 0)] []) fun r2 =>
  ∀ o3, H o3 = none →
  bnd (rowsOf (upd H o3 ⟨2, r2⟩) 2 a0) fun r6 =>
  appendK (upd H o3 ⟨2, r2⟩) 2 16 (.slice o3 0 0 (some 0)) r6 fun v4 H5 =>
  Ret R v4 H5)
theorem W_slices_Clone_i_Link_i_Link {R : V → Heap → Prop} {a0 : V} {H : Heap} (h : F_slices_Clone_i_Link_i_Link R a0 H) : ACalls P n_slices_Clone_i_Link_i_Link [a0] H R :=
  acalls_of_form (g := ⟨[], []⟩) (x := (.seq .leaf (.seq (.seq .leaf (.cond (.seq .leaf .leaf) .leaf)) (.seq .leaf .leaf)))) Tryz.func89 (by kernel_rfl) (by kernel_rfl) (by kernel_rfl) (by kernel_rfl : F_slices_Clone_i_Link_i_Link R a0 H = _) h
def F_slices_Clone_i_Stub_i_Stub (R : V → Heap → Prop) (a0 : V) (H : Heap) : Prop :=
  bnd (aBinZ .eql a0 .nils) fun t1 =>
  cnd t1
  (Ret R .nils H)
  (bnd (bsl 3 0 [(.int .i64 0), (.int .i64 0), (.int .i64 0)] []) fun r2 =>
  ∀ o3, H o3 = none →
  bnd (rowsOf (upd H o3 ⟨3, r2⟩) 3 a0) fun r6 =>
  appendK (upd H o3 ⟨3, r2⟩) 3 24 (.slice o3 0 0 (some 0)) r6 fun v4 H5 =>
  Ret R v4 H5)
theorem W_slices_Clone_i_Stub_i_Stub {R : V → Heap → Prop} {a0 : V} {H : Heap} (h : F_slices_Clone_i_Stub_i_Stub R a0 H) : ACalls P n_slices_Clone_i_Stub_i_Stub [a0] H R :=
  acalls_of_form (g := ⟨[], []⟩) (x := (.seq .leaf (.seq (.seq .leaf (.cond (.seq .leaf .leaf) .leaf)) (.seq .leaf .leaf)))) Tryz.func90 (by kernel_rfl) (by kernel_rfl) (by kernel_rfl) (by kernel_rfl : F_slices_Clone_i_Stub_i_Stub R a0 H = _) h
def F_i_compareEdges (R : V → Heap → Prop) (a0 a1 : V) (H : Heap) : Prop :=
  boxK a0 (boxK a1 (bnd (partOf false 1 (cellsOf a0) 0) fun t1 =>
  bnd (partOf false 1 (cellsOf a1) 0) fun t2 =>
  bnd (aBinN .neq t1 t2) fun t3 =>
  cnd t3
  (bnd (partOf false 1 (cellsOf a0) 0) fun t4 =>
  bnd (partOf false 1 (cellsOf a1) 0) fun t5 =>
  bnd (aBinN .sub t4 t5) fun t6 =>
  Ret R t6 H)
  (bnd (partOf false 1 (cellsOf a0) 1) fun t7 =>
  bnd (partOf false 1 (cellsOf a1) 1) fun t8 =>
  bnd (aBinN .sub t7 t8) fun t9 =>
  Ret R t9 H)))
theorem W_i_compareEdges {R : V → Heap → Prop} {a0 a1 : V} {H : Heap} (h : F_i_compareEdges R a0 a1 H) : ACalls P n_i_compareEdges [a0, a1] H R :=
  acalls_of_form (g := ⟨[2, 3], [5, 7, 10, 12, 15, 17]⟩) (x := (.seq .leaf (.seq (.seq .leaf (.cond (.seq .leaf .leaf) .leaf)) (.seq .leaf .leaf)))) Tryz.func91 (by kernel_rfl) (by kernel_rfl) (by kernel_rfl) (by kernel_rfl : F_i_compareEdges R a0 a1 H = _) h
def F_i_areLinks (R : V → Heap → Prop) (a0 a1 : V) (H : Heap) : Prop :=
  bnd (lenOf a1) fun n1 =>
  ∃ (I2 : Nat → List V → Heap → Prop) (n3 : Nat), Shr (I2 n3 [(.int .i64 0)]) H ∧
  ∀ n4 xs6 H7, I2 n4 xs6 H7 →
  bnd (aBinN .lss (xs6.headD .any) (.int .i64 (n1 : Nat))) fun t8 =>
  cnd t8
  (bnd (aIndex H7 2 a1 (xs6.headD .any)) fun t9 =>
  bnd (aLd true 2 H7 t9) fun t10 =>
  bnd (stz 2 [(.int .i64 0), (.int .i64 0)] 0 t10) fun c11 =>
  ∃ S12, Abs.sub S12 H7 ∧
  bnd (partOf false 1 c11 0) fun t13 =>
  ACalls P n_i_within [t13, (.int .i64 0), (.int .i64 9)] H7 fun v14 H15 =>
  Abs.sub S12 H15 ∧
  bnd (aNot v14) fun t16 =>
  gd t16 false
  (bnd (partOf false 1 c11 1) fun t17 =>
  ACalls P n_i_within [t17, (.int .i64 1), (.int .i64 1000)] H15 fun v18 H19 =>
  Abs.sub S12 H19 ∧
  bnd (aNot v18) fun t20 =>
  gd t20 false
  (bnd (partOf false 1 c11 0) fun t21 =>
  bnd (aBinN .eql t21 a0) fun t22 =>
  gd t22 false
  (bnd (aBinN .gtr (xs6.headD .any) (.int .i64 0)) fun t23 =>
  gd3 t23 true
  (bnd (partOf false 1 c11 0) fun t24 =>
  bnd (aBinN .sub (xs6.headD .any) (.int .i64 1)) fun t25 =>
  bnd (aIndex S12 2 a1 t25) fun t26 =>
  bnd (aField 0 t26) fun t27 =>
  bnd (aLd false 1 S12 t27) fun t28 =>
  bnd (aBinN .leq t24 t28) fun t29 =>
  cnd t29
  (Ret R (.bool false) H19)
  (bnd (aBinN .add (xs6.headD .any) (.int .i64 1)) fun t30 =>
  ∃ n5, n5 < n4 ∧ Shr (I2 n5 [t30]) H19))
  (bnd (aBinN .add (xs6.headD .any) (.int .i64 1)) fun t31 =>
  ∃ n5, n5 < n4 ∧ Shr (I2 n5 [t31]) H19)
  (bnd (aPick (.tup []) (.tup []) (.bool false)) fun t32 =>
  cnd t32
  (Ret R (.bool false) H19)
  (bnd (aBinN .add (xs6.headD .any) (.int .i64 1)) fun t33 =>
  ∃ n5, n5 < n4 ∧ Shr (I2 n5 [t33]) H19)))
  (Ret R (.bool false) H19))
  (Ret R (.bool false) H19))
  (Ret R (.bool false) H15))
  (Ret R (.bool true) H7)
theorem W_i_areLinks {R : V → Heap → Prop} {a0 a1 : V} {H : Heap} (h : F_i_areLinks R a0 a1 H) : ACalls P n_i_areLinks [a0, a1] H R :=
  acalls_of_form (g := ⟨[6], [14, 19, 25, 34]⟩) (x := (.seq .leaf (.seq (.seq .leaf (.block (.loop [9] (.seq .leaf (.seq (.cond .leaf .leaf) (.seq (.block (.seq .leaf (.seq (.draw [0, 1, 2, 3, 4, 5, 6, 7, 8, 9, 10, 11, 12, 13, 14, 15, 16, 17, 18, 19, 20, 21, 22, 23, 24, 25, 26, 27, 28, 29, 30]) (.cond (.seq .leaf .leaf) .leaf)))) .leaf)))))) (.seq .leaf .leaf)))) Tryz.func92 (by kernel_rfl) (by kernel_rfl) (by kernel_rfl) (by kernel_rfl : F_i_areLinks R a0 a1 H = _) h
def F_i_areStubs (R : V → Heap → Prop) (a0 : V) (H : Heap) : Prop :=
  bnd (lenOf a0) fun n1 =>
  ∃ (I2 : Nat → List V → Heap → Prop) (n3 : Nat), Shr (I2 n3 [(.int .i64 0)]) H ∧
  ∀ n4 xs6 H7, I2 n4 xs6 H7 →
  bnd (aBinN .lss (xs6.headD .any) (.int .i64 (n1 : Nat))) fun t8 =>
  cnd t8
  (bnd (aIndex H7 3 a0 (xs6.headD .any)) fun t9 =>
  bnd (aLd true 3 H7 t9) fun t10 =>
  bnd (stz 3 [(.int .i64 0), (.int .i64 0), (.int .i64 0)] 0 t10) fun c11 =>
  ∃ S12, Abs.sub S12 H7 ∧
  bnd (partOf true 2 c11 0) fun t13 =>
  ACalls P n_i_PrefixOk [t13] H7 fun v14 H15 =>
  Abs.sub S12 H15 ∧
  bnd (aNot v14) fun t16 =>
  gd t16 false
  (bnd (partOf false 1 c11 2) fun t17 =>
  ACalls P n_i_within [t17, (.int .i64 1), (.int .i64 1000)] H15 fun v18 H19 =>
  Abs.sub S12 H19 ∧
  bnd (aNot v18) fun t20 =>
  gd t20 false
  (bnd (aBinN .gtr (xs6.headD .any) (.int .i64 0)) fun t21 =>
  gd3 t21 true
  (bnd (aBinN .sub (xs6.headD .any) (.int .i64 1)) fun t22 =>
  bnd (aIndex S12 3 a0 t22) fun t23 =>
  bnd (aField 0 t23) fun t24 =>
  bnd (aLd true 2 S12 t24) fun t25 =>
  bnd (partOf true 2 c11 0) fun t26 =>
  ACalls P n_i_comparePrefixes [t25, t26] H19 fun v27 H28 =>
  Abs.sub S12 H28 ∧
  bnd (aBinN .geq v27 (.int .i64 0)) fun t29 =>
  cnd t29
  (Ret R (.bool false) H28)
  (bnd (aBinN .add (xs6.headD .any) (.int .i64 1)) fun t30 =>
  ∃ n5, n5 < n4 ∧ Shr (I2 n5 [t30]) H28))
  (bnd (aBinN .add (xs6.headD .any) (.int .i64 1)) fun t31 =>
  ∃ n5, n5 < n4 ∧ Shr (I2 n5 [t31]) H19)
  (bnd (aPick (.tup []) (.tup []) (.bool false)) fun t32 =>
  cnd t32
  (Ret R (.bool false) H19)
  (bnd (aBinN .add (xs6.headD .any) (.int .i64 1)) fun t33 =>
  ∃ n5, n5 < n4 ∧ Shr (I2 n5 [t33]) H19)))
  (Ret R (.bool false) H19))
  (Ret R (.bool false) H15))
  (bnd (lenOf a0) fun n34 =>
  bnd (aBinN .leq (.int .i64 (n34 : Nat)) (.int .i64 6)) fun t35 =>
  Ret R t35 H7)
theorem W_i_areStubs {R : V → Heap → Prop} {a0 : V} {H : Heap} (h : F_i_areStubs R a0 H) : ACalls P n_i_areStubs [a0] H R :=
  acalls_of_form (g := ⟨[4], [12, 17, 32]⟩) (x := (.seq .leaf (.seq (.seq .leaf (.block (.loop [7] (.seq .leaf (.seq (.cond .leaf .leaf) (.seq (.block (.seq .leaf (.seq (.draw [0, 1, 2, 3, 4, 5, 6, 7, 8, 9, 10, 11, 12, 13, 14, 15, 16, 17, 18, 19, 20, 21, 22, 23, 24, 25]) (.cond (.seq .leaf .leaf) .leaf)))) .leaf)))))) (.seq .leaf .leaf)))) Tryz.func93 (by kernel_rfl) (by kernel_rfl) (by kernel_rfl) (by kernel_rfl : F_i_areStubs R a0 H = _) h
def F_cmp_Or_int (R : V → Heap → Prop) (a0 : V) (H : Heap) : Prop :=
  bnd (lenOf a0) fun n1 =>
  ∃ (I2 : Nat → List V → Heap → Prop) (n3 : Nat), Shr (I2 n3 [(.int .i64 0)]) H ∧
  ∀ n4 xs6 H7, I2 n4 xs6 H7 →
  bnd (aBinN .lss (xs6.headD .any) (.int .i64 (n1 : Nat))) fun t8 =>
  cnd t8
  (bnd (aIndex H7 1 a0 (xs6.headD .any)) fun t9 =>
  bnd (aLd false 1 H7 t9) fun t10 =>
  bnd (aBinN .neq t10 (.int .i64 0)) fun t11 =>
  cnd t11
  (Ret R t10 H7)
  (bnd (aBinN .add (xs6.headD .any) (.int .i64 1)) fun t12 =>
  ∃ n5, n5 < n4 ∧ Shr (I2 n5 [t12]) H7))
  (Ret R (.int .i64 0) H7)
theorem W_cmp_Or_int {R : V → Heap → Prop} {a0 : V} {H : Heap} (h : F_cmp_Or_int R a0 H) : ACalls P n_cmp_Or_int [a0] H R :=
  acalls_of_form (g := ⟨[], []⟩) (x := (.seq .leaf (.seq .leaf (.seq (.seq .leaf (.block (.loop [8] (.seq .leaf (.seq (.cond .leaf .leaf) (.seq (.block (.seq .leaf (.seq .leaf (.cond (.seq .leaf .leaf) .leaf)))) .leaf)))))) (.seq .leaf .leaf))))) Tryz.func94 (by kernel_rfl) (by kernel_rfl) (by kernel_rfl) (by kernel_rfl : F_cmp_Or_int R a0 H = _) h
def F_i_newer_1 (R : V → Heap → Prop) (a0 : V) (H : Heap) : Prop :=
  boxK a0 (bnd (partOf false 1 (cellsOf a0) 2) fun t1 =>
  bnd (aBinN .eql t1 (.int .i64 60)) fun t2 =>
  Ret R t2 H)
theorem W_i_newer_1 {R : V → Heap → Prop} {a0 : V} {H : Heap} (h : F_i_newer_1 R a0 H) : ACalls P n_i_newer_1 [a0] H R :=
  acalls_of_form (g := ⟨[1], [3]⟩) (x := (.seq .leaf (.seq .leaf .leaf))) Tryz.func95 (by kernel_rfl) (by kernel_rfl) (by kernel_rfl) (by kernel_rfl : F_i_newer_1 R a0 H = _) h
theorem E_i_newer_1 : enterable P n_i_newer_1 = true := by kernel_rfl
def F_s_LsaBytes (R : V → Heap → Prop) (a0 : V) (H : Heap) : Prop :=
  boxK a0 (bnd (partOf true 5 (cellsOf a0) 0) fun t1 =>
  ACalls P n_s_LsaOk [t1] H fun v2 H3 =>
  bnd (aNot v2) fun t4 =>
  cnd t4
  (Ret R .nils H3)
  (∃ S5, Abs.sub S5 H3 ∧
  bnd (partOf false 1 (cellsOf a0) 0) fun t6 =>
  bnd (aCv .u8 t6) fun t7 =>
  bnd (partOf false 1 (cellsOf a0) 1) fun t8 =>
  ACalls P n_s_l05Wide [t8, (.int .i64 3)] H3 fun v9 H10 =>
  Abs.sub S5 H10 ∧
  bnd (bsl 1 1 [(.int .u8 0)] [(0, t7)]) fun r11 =>
  ∀ o12, H10 o12 = none →
  Abs.sub S5 (upd H10 o12 ⟨1, r11⟩) ∧
  ACalls P n_s_l01Join [(.slice o12 0 1 (some 1)), v9] (upd H10 o12 ⟨1, r11⟩) fun v13 H14 =>
  Abs.sub S5 H14 ∧
  bnd (partOf false 1 (cellsOf a0) 3) fun t15 =>
  bnd (lenOf t15) fun n16 =>
  bnd (aCv .u8 (.int .i64 (n16 : Nat))) fun t17 =>
  bnd (bsl 1 1 [(.int .u8 0)] [(0, t17)]) fun r18 =>
  ∀ o19, H14 o19 = none →
  bnd (rowsOf (upd H14 o19 ⟨1, r18⟩) 1 (.slice o19 0 1 (some 1))) fun r22 =>
  appendK (upd H14 o19 ⟨1, r18⟩) 1 1 v13 r22 fun v20 H21 =>
  ∃ (I23 : Nat → List V → Heap → Prop) (n24 : Nat), Shr (I23 n24 [v20, (.int .i64 0)]) H21 ∧
  ∀ n25 xs27 H28, I23 n25 xs27 H28 →
  bnd (partOf false 1 (cellsOf a0) 3) fun t29 =>
  bnd (lenOf t29) fun n30 =>
  bnd (aBinN .lss (xs27.tail.headD .any) (.int .i64 (n30 : Nat))) fun t31 =>
  cnd t31
  (∃ S32, Abs.sub S32 H28 ∧
  bnd (partOf false 1 (cellsOf a0) 3) fun t33 =>
  bnd (aIndex S32 2 t33 (xs27.tail.headD .any)) fun t34 =>
  bnd (aField 0 t34) fun t35 =>
  bnd (aLd false 1 S32 t35) fun t36 =>
  bnd (aCv .u8 t36) fun t37 =>
  bnd (partOf false 1 (cellsOf a0) 3) fun t38 =>
  bnd (aIndex S32 2 t38 (xs27.tail.headD .any)) fun t39 =>
  bnd (aField 1 t39) fun t40 =>
  bnd (aLd false 1 S32 t40) fun t41 =>
  bnd (bsl 1 1 [(.int .u8 0)] [(0, t37)]) fun r42 =>
  ∀ o43, H28 o43 = none →
  Abs.sub S32 (upd H28 o43 ⟨1, r42⟩) ∧
  bnd (rowsOf (upd H28 o43 ⟨1, r42⟩) 1 (.slice o43 0 1 (some 1))) fun r46 =>
  appendK (upd H28 o43 ⟨1, r42⟩) 1 1 (xs27.headD .any) r46 fun v44 H45 =>
  Abs.sub S32 H45 ∧
  ACalls P n_s_l05Wide [t41, (.int .i64 2)] H45 fun v47 H48 =>
  Abs.sub S32 H48 ∧
  ACalls P n_s_l01Join [v44, v47] H48 fun v49 H50 =>
  Abs.sub S32 H50 ∧
  bnd (aBinN .add (xs27.tail.headD .any) (.int .i64 1)) fun t51 =>
  ∃ n26, n26 < n25 ∧ Shr (I23 n26 [v49, t51]) H50)
  (bnd (partOf false 1 (cellsOf a0) 4) fun t52 =>
  bnd (lenOf t52) fun n53 =>
  bnd (aCv .u8 (.int .i64 (n53 : Nat))) fun t54 =>
  bnd (bsl 1 1 [(.int .u8 0)] [(0, t54)]) fun r55 =>
  ∀ o56, H28 o56 = none →
  bnd (rowsOf (upd H28 o56 ⟨1, r55⟩) 1 (.slice o56 0 1 (some 1))) fun r59 =>
  appendK (upd H28 o56 ⟨1, r55⟩) 1 1 (xs27.headD .any) r59 fun v57 H58 =>
  ∃ (I60 : Nat → List V → Heap → Prop) (n61 : Nat), Shr (I60 n61 [(.box (cellsOf a0)), v57, (.int .i64 0)]) H58 ∧
  ∀ n62 xs64 H65, I60 n62 xs64 H65 →
  bnd (partOf false 1 (bc (xs64.headD .any)) 4) fun t66 =>
  bnd (lenOf t66) fun n67 =>
  bnd (aBinN .lss (xs64.tail.tail.headD .any) (.int .i64 (n67 : Nat))) fun t68 =>
  cnd t68
  (bnd (partOf false 1 (bc (xs64.headD .any)) 4) fun t69 =>
  bnd (aIndex H65 3 t69 (xs64.tail.tail.headD .any)) fun t70 =>
  bnd (aLd true 3 H65 t70) fun t71 =>
  bnd (stz 3 [(.int .i64 0), (.int .i64 0), (.int .i64 0)] 0 t71) fun c72 =>
  ∃ S73, Abs.sub S73 H65 ∧
  bnd (partOf false 1 c72 0) fun t74 =>
  bnd (partOf false 1 c72 1) fun t75 =>
  bnd (aCv .u8 t75) fun t76 =>
  bnd (partOf false 1 c72 2) fun t77 =>
  ACalls P n_s_l05Wide [t74, (.int .i64 2)] H65 fun v78 H79 =>
  Abs.sub S73 H79 ∧
  ACalls P n_s_l01Join [(xs64.tail.headD .any), v78] H79 fun v80 H81 =>
  Abs.sub S73 H81 ∧
  bnd (bsl 1 1 [(.int .u8 0)] [(0, t76)]) fun r82 =>
  ∀ o83, H81 o83 = none →
  Abs.sub S73 (upd H81 o83 ⟨1, r82⟩) ∧
  bnd (rowsOf (upd H81 o83 ⟨1, r82⟩) 1 (.slice o83 0 1 (some 1))) fun r86 =>
  appendK (upd H81 o83 ⟨1, r82⟩) 1 1 v80 r86 fun v84 H85 =>
  Abs.sub S73 H85 ∧
  ACalls P n_s_l05Wide [t77, (.int .i64 2)] H85 fun v87 H88 =>
  Abs.sub S73 H88 ∧
  ACalls P n_s_l01Join [v84, v87] H88 fun v89 H90 =>
  Abs.sub S73 H90 ∧
  bnd (aBinN .add (xs64.tail.tail.headD .any) (.int .i64 1)) fun t91 =>
  ∃ n63, n63 < n62 ∧ Shr (I60 n63 [(.box (bc (xs64.headD .any))), v89, t91]) H90)
  (Ret R (xs64.tail.headD .any) H65))))
theorem W_s_LsaBytes {R : V → Heap → Prop} {a0 : V} {H : Heap} (h : F_s_LsaBytes R a0 H) : ACalls P n_s_LsaBytes [a0] H R :=
  acalls_of_form (g := ⟨[1, 6], [10, 14, 19, 26, 33, 42, 51, 58, 64, 70, 71, 75, 76, 81]⟩) (x := (.seq .leaf (.seq (.seq .leaf (.cond (.seq .leaf .leaf) .leaf)) (.seq (.drawp [[0, 1, 2, 4, 5, 6, 3, 7, 8]]) (.seq .leaf (.seq (.seq .leaf (.block (.loop [3, 4] (.seq (.seq .leaf (.cond .leaf .leaf)) (.seq (.block (.draw [0, 1, 2, 3, 4, 5, 6, 7, 10, 11, 12, 13, 14, 15, 8, 9, 16, 17, 18])) .leaf))))) (.seq .leaf (.seq (.seq .leaf (.block (.loop [1, 3, 5] (.seq (.seq .leaf (.cond .leaf .leaf)) (.seq (.block (.seq .leaf (.drawp [[0, 1, 2, 3, 6, 7, 8, 9, 12, 13, 4, 5, 10, 11, 14, 15, 16]]))) .leaf))))) (.seq .leaf .leaf))))))))) Tryz.func96 (by kernel_rfl) (by kernel_rfl) (by kernel_rfl) (by kernel_rfl : F_s_LsaBytes R a0 H = _) h
def F_slices_Clone_i_Edge_i_Edge (R : V → Heap → Prop) (a0 : V) (H : Heap) : Prop :=
  bnd (aBinZ .eql a0 .nils) fun t1 =>
  cnd t1
  (Ret R .nils H)
  (bnd (bsl 3 0 [(.int .i64 0), (.int .i64 0), (.int .i64 0)] []) fun r2 =>
  ∀ o3, H o3 = none →
  bnd (rowsOf (upd H o3 ⟨3, r2⟩) 3 a0) fun r6 =>
  appendK (upd H o3 ⟨3, r2⟩) 3 24 (.slice o3 0 0 (some 0)) r6 fun v4 H5 =>
  Ret R v4 H5)
theorem W_slices_Clone_i_Edge_i_Edge {R : V → Heap → Prop} {a0 : V} {H : Heap} (h : F_slices_Clone_i_Edge_i_Edge R a0 H) : ACalls P n_slices_Clone_i_Edge_i_Edge [a0] H R :=
  acalls_of_form (g := ⟨[], []⟩) (x := (.seq .leaf (.seq (.seq .leaf (.cond (.seq .leaf .leaf) .leaf)) (.seq .leaf .leaf)))) Tryz.func101 (by kernel_rfl) (by kernel_rfl) (by kernel_rfl) (by kernel_rfl : F_slices_Clone_i_Edge_i_Edge R a0 H = _) h
def F_slices_ContainsFunc_i_Edge_i_Edge (R : V → Heap → Prop) (a0 a1 : V) (H : Heap) : Prop :=
  ACalls P n_slices_IndexFunc_i_Edge_i_Edge [a0, a1] H fun v1 H2 =>
  bnd (aBinN .geq v1 (.int .i64 0)) fun t3 =>
  Ret R t3 H2
theorem W_slices_ContainsFunc_i_Edge_i_Edge {R : V → Heap → Prop} {a0 a1 : V} {H : Heap} (h : F_slices_ContainsFunc_i_Edge_i_Edge R a0 a1 H) : ACalls P n_slices_ContainsFunc_i_Edge_i_Edge [a0, a1] H R :=
  acalls_of_form (g := ⟨[], []⟩) (x := (.seq .leaf (.seq .leaf .leaf))) Tryz.func102 (by kernel_rfl) (by kernel_rfl) (by kernel_rfl) (by kernel_rfl : F_slices_ContainsFunc_i_Edge_i_Edge R a0 a1 H = _) h
def F_i_isNetwork_1 (R : V → Heap → Prop) (a0 a1 : V) (H : Heap) : Prop :=
  boxK a0 (∃ S1, Abs.sub S1 H ∧
  bnd (aLd true 2 S1 a1) fun t2 =>
  bnd (partOf false 1 (cellsOf a0) 1) fun t3 =>
  bnd (partOf false 1 (cellsOf a0) 0) fun t4 =>
  bnd (partOf false 1 (cellsOf a0) 2) fun t5 =>
  ACalls P n_i_Graph_cost [t2, t3, t4] H fun v6 H7 =>
  Abs.sub S1 H7 ∧
  bnd (aBinN .neq v6 t5) fun t8 =>
  Ret R t8 H7)
theorem W_i_isNetwork_1 {R : V → Heap → Prop} {a0 a1 : V} {H : Heap} (h : F_i_isNetwork_1 R a0 a1 H) : ACalls P n_i_isNetwork_1 [a0, a1] H R :=
  acalls_of_form (g := ⟨[2], [5, 7, 10]⟩) (x := (.seq .leaf (.seq (.draw [0, 1, 2, 3, 4, 6, 7, 5, 8, 9]) .leaf))) Tryz.func103 (by kernel_rfl) (by kernel_rfl) (by kernel_rfl) (by kernel_rfl : F_i_isNetwork_1 R a0 a1 H = _) h
theorem E_i_isNetwork_1 : enterable P n_i_isNetwork_1 = true := by kernel_rfl
def F_slices_IndexFunc_i_Db_i_Db (R : V → Heap → Prop) (a0 a1 : V) (H : Heap) : Prop :=
  bnd (lenOf a0) fun n1 =>
  ∃ (I2 : Nat → List V → Heap → Prop) (n3 : Nat), Shr (I2 n3 [(.int .i64 0)]) H ∧
  ∀ n4 xs6 H7, I2 n4 xs6 H7 →
  bnd (aBinN .lss (xs6.headD .any) (.int .i64 (n1 : Nat))) fun t8 =>
  cnd t8
  (bnd (aIndex H7 1 a0 (xs6.headD .any)) fun t9 =>
  bnd (aLd true 1 H7 t9) fun t10 =>
  callK P H7 a1 [t10] fun v11 H12 =>
  cnd v11
  (Ret R (xs6.headD .any) H12)
  (bnd (aBinN .add (xs6.headD .any) (.int .i64 1)) fun t13 =>
  ∃ n5, n5 < n4 ∧ Shr (I2 n5 [t13]) H12))
  (Ret R (.int .i64 (-1)) H7)
theorem W_slices_IndexFunc_i_Db_i_Db {R : V → Heap → Prop} {a0 a1 : V} {H : Heap} (h : F_slices_IndexFunc_i_Db_i_Db R a0 a1 H) : ACalls P n_slices_IndexFunc_i_Db_i_Db [a0, a1] H R :=
  acalls_of_form (g := ⟨[], []⟩) (x := (.seq .leaf (.seq (.seq .leaf (.block (.loop [8] (.seq .leaf (.seq (.cond .leaf .leaf) (.seq (.block (.seq .leaf (.seq .leaf (.cond (.seq .leaf .leaf) .leaf)))) .leaf)))))) (.seq .leaf .leaf)))) Tryz.func104 (by kernel_rfl) (by kernel_rfl) (by kernel_rfl) (by kernel_rfl : F_slices_IndexFunc_i_Db_i_Db R a0 a1 H = _) h
def F_slices_IndexFunc_i_Msg_i_Msg (R : V → Heap → Prop) (a0 a1 : V) (H : Heap) : Prop :=
  bnd (lenOf a0) fun n1 =>
  ∃ (I2 : Nat → List V → Heap → Prop) (n3 : Nat), Shr (I2 n3 [(.int .i64 0)]) H ∧
  ∀ n4 xs6 H7, I2 n4 xs6 H7 →
  bnd (aBinN .lss (xs6.headD .any) (.int .i64 (n1 : Nat))) fun t8 =>
  cnd t8
  (bnd (aIndex H7 7 a0 (xs6.headD .any)) fun t9 =>
  bnd (aLd true 7 H7 t9) fun t10 =>
  callK P H7 a1 [t10] fun v11 H12 =>
  cnd v11
  (Ret R (xs6.headD .any) H12)
  (bnd (aBinN .add (xs6.headD .any) (.int .i64 1)) fun t13 =>
  ∃ n5, n5 < n4 ∧ Shr (I2 n5 [t13]) H12))
  (Ret R (.int .i64 (-1)) H7)
theorem W_slices_IndexFunc_i_Msg_i_Msg {R : V → Heap → Prop} {a0 a1 : V} {H : Heap} (h : F_slices_IndexFunc_i_Msg_i_Msg R a0 a1 H) : ACalls P n_slices_IndexFunc_i_Msg_i_Msg [a0, a1] H R :=
  acalls_of_form (g := ⟨[], []⟩) (x := (.seq .leaf (.seq (.seq .leaf (.block (.loop [8] (.seq .leaf (.seq (.cond .leaf .leaf) (.seq (.block (.seq .leaf (.seq .leaf (.cond (.seq .leaf .leaf) .leaf)))) .leaf)))))) (.seq .leaf .leaf)))) Tryz.func105 (by kernel_rfl) (by kernel_rfl) (by kernel_rfl) (by kernel_rfl : F_slices_IndexFunc_i_Msg_i_Msg R a0 a1 H = _) h
def F_i_Db_offer (R : V → Heap → Prop) (a0 a1 : V) (H : Heap) : Prop :=
  boxK a0 (boxK a1 (bnd (partOf true 1 (cellsOf a0) 0) fun t1 =>
  bnd (partOf false 1 (cellsOf a1) 0) fun t2 =>
  ACalls P n_i_Db_find [t1, t2] H fun v3 H4 =>
  bnd (aExtract 0 v3) fun t5 =>
  bnd (aExtract 1 v3) fun t6 =>
  bnd (aNot t6) fun t7 =>
  cnd t7
  (bnd (partOf false 1 (cellsOf a1) 2) fun t8 =>
  bnd (aBinN .eql t8 (.int .i64 60)) fun t9 =>
  cnd t9
  (Ret R (.int .i64 1) H4)
  (Ret R (.int .i64 0) H4))
  (∃ S10, Abs.sub S10 H4 ∧
  bnd (partOf true 5 (cellsOf a1) 0) fun t11 =>
  bnd (partOf false 1 (cellsOf a0) 0) fun t12 =>
  bnd (aIndex S10 5 t12 t5) fun t13 =>
  bnd (aLd true 5 S10 t13) fun t14 =>
  ACalls P n_i_newer [t11, t14] H4 fun v15 H16 =>
  Abs.sub S10 H16 ∧
  bnd (aBinN .eql v15 (.int .i64 1)) fun t17 =>
  cnd t17
  (Ret R (.int .i64 0) H16)
  (bnd (aBinN .eql v15 (.int .i64 0)) fun t18 =>
  cnd t18
  (Ret R (.int .i64 1) H16)
  (Ret R (.int .i64 2) H16)))))
theorem W_i_Db_offer {R : V → Heap → Prop} {a0 a1 : V} {H : Heap} (h : F_i_Db_offer R a0 a1 H) : ACalls P n_i_Db_offer [a0, a1] H R :=
  acalls_of_form (g := ⟨[2, 3], [9, 16, 20]⟩) (x := (.seq .leaf (.seq .leaf (.seq (.seq .leaf (.cond (.seq (.seq .leaf (.cond (.seq .leaf .leaf) .leaf)) (.seq .leaf .leaf)) .leaf)) (.seq (.seq (.draw [0, 1, 2, 3, 4, 5, 6]) (.block (.seq .leaf (.cond (.seq .leaf .leaf) (.seq .leaf (.cond (.seq .leaf .leaf) .leaf)))))) (.seq .leaf .leaf)))))) Tryz.func106 (by kernel_rfl) (by kernel_rfl) (by kernel_rfl) (by kernel_rfl : F_i_Db_offer R a0 a1 H = _) h
def F_slices_Insert_i_Lsa_i_Lsa (R : V → Heap → Prop) (a0 a1 a2 : V) (H : Heap) : Prop :=
  bnd (aSlice H 5 a0 (some a1) none none) fun t1 =>
  bnd (lenOf a2) fun n2 =>
  bnd (aBinN .eql (.int .i64 (n2 : Nat)) (.int .i64 0)) fun t3 =>
  cnd t3
  (Ret R a0 H)
  (bnd (lenOf a0) fun n4 =>
  bnd (aBinN .eql a1 (.int .i64 (n4 : Nat))) fun t5 =>
  cnd t5
  (bnd (rowsOf H 5 a2) fun r8 =>
  appendK H 5 72 a0 r8 fun v6 H7 =>
  Ret R v6 H7)
  (bnd (aBinN .add (.int .i64 (n4 : Nat)) (.int .i64 (n2 : Nat))) fun t9 =>
  capK H a0 fun v10 H11 =>
  bnd (aBinN .gtr t9 v10) fun t12 =>
  cnd t12
  (bnd (aSlice H11 5 a0 none (some a1) none) fun t13 =>
  bnd (aBinN .add (.int .i64 (n4 : Nat)) (.int .i64 (n2 : Nat))) fun t14 =>
  bnd (aBinN .sub t14 a1) fun t15 =>
  growZ H11 5 72 [(.int .i64 0), (.int .i64 0), (.int .i64 0), .nils, .nils] t13 t15 fun v16 H17 =>
  bnd (aSlice H17 5 v16 (some a1) none none) fun t19 =>
  bnd (rowsOf H17 5 a2) fun r22 =>
  copyK H17 5 t19 r22 fun v20 H21 =>
  bnd (aBinN .add a1 (.int .i64 (n2 : Nat))) fun t23 =>
  bnd (aSlice H21 5 v16 (some t23) none none) fun t24 =>
  bnd (aSlice H21 5 a0 (some a1) none none) fun t25 =>
  bnd (rowsOf H21 5 t25) fun r28 =>
  copyK H21 5 t24 r28 fun v26 H27 =>
  Ret R v16 H27)
  (bnd (aBinN .add (.int .i64 (n4 : Nat)) (.int .i64 (n2 : Nat))) fun t29 =>
  bnd (aSlice H11 5 a0 none (some t29) none) fun t30 =>
  bnd (aBinN .add a1 (.int .i64 (n2 : Nat))) fun t31 =>
  bnd (aSlice H11 5 t30 (some t31) none none) fun t32 =>
  extK P H11 n_slices_overlaps_i_Lsa [a2, t32] fun v33 H34 =>
  bnd (aNot v33) fun t35 =>
  cnd t35
  (bnd (aBinN .add a1 (.int .i64 (n2 : Nat))) fun t36 =>
  bnd (aSlice H34 5 t30 (some t36) none none) fun t37 =>
  bnd (aSlice H34 5 t30 (some a1) none none) fun t38 =>
  bnd (rowsOf H34 5 t38) fun r41 =>
  copyK H34 5 t37 r41 fun v39 H40 =>
  bnd (aSlice H40 5 t30 (some a1) none none) fun t42 =>
  bnd (rowsOf H40 5 a2) fun r45 =>
  copyK H40 5 t42 r45 fun v43 H44 =>
  Ret R t30 H44)
  (bnd (aSlice H34 5 t30 (some (.int .i64 (n4 : Nat))) none none) fun t46 =>
  bnd (rowsOf H34 5 a2) fun r49 =>
  copyK H34 5 t46 r49 fun v47 H48 =>
  bnd (aSlice H48 5 t30 (some a1) none none) fun t50 =>
  ACalls P n_slices_rotateRight_i_Lsa [t50, (.int .i64 (n2 : Nat))] H48 fun v51 H52 =>
  Ret R t30 H52))))
theorem W_slices_Insert_i_Lsa_i_Lsa {R : V → Heap → Prop} {a0 a1 a2 : V} {H : Heap} (h : F_slices_Insert_i_Lsa_i_Lsa R a0 a1 a2 H) : ACalls P n_slices_Insert_i_Lsa_i_Lsa [a0, a1, a2] H R :=
  acalls_of_form (g := ⟨[], []⟩) (x := (.seq .leaf (.seq .leaf (.seq .leaf (.seq (.seq .leaf (.cond (.seq .leaf .leaf) .leaf)) (.seq .leaf (.seq (.seq .leaf (.cond (.seq .leaf .leaf) .leaf)) (.seq (.seq .leaf (.cond (.seq .leaf (.seq .leaf (.seq (.drawh [0, 1, 2, 3, 4, 5, 6, 7, 8]) (.seq .leaf .leaf)))) .leaf)) (.seq .leaf (.seq (.seq .leaf (.cond (.seq (.drawh [0, 1, 2, 3, 4, 5, 6, 7, 8]) (.seq .leaf (.seq .leaf .leaf))) .leaf)) (.seq .leaf (.seq .leaf (.seq .leaf .leaf))))))))))))) Tryz.func107 (by kernel_rfl) (by kernel_rfl) (by kernel_rfl) (by kernel_rfl : F_slices_Insert_i_Lsa_i_Lsa R a0 a1 a2 H = _) h
def F_s_l01Addr (R : V → Heap → Prop) (a0 : V) (H : Heap) : Prop :=
  ACalls P n_s_l01In [a0, (.int .i64 0), (.int .i64 65535)] H fun v1 H2 =>
  Ret R v1 H2
theorem W_s_l01Addr {R : V → Heap → Prop} {a0 : V} {H : Heap} (h : F_s_l01Addr R a0 H) : ACalls P n_s_l01Addr [a0] H R :=
  acalls_of_form (g := ⟨[], []⟩) (x := (.seq .leaf (.seq .leaf .leaf))) Tryz.func108 (by kernel_rfl) (by kernel_rfl) (by kernel_rfl) (by kernel_rfl : F_s_l01Addr R a0 H = _) h
def F_s_l01Size2 (R : V → Heap → Prop) (a0 : V) (H : Heap) : Prop :=
  bnd (aBinN .sub (.int .i64 16) a0) fun t1 =>
  bnd (aCv .u64 t1) fun t2 =>
  bnd (aBinN .shl (.int .i64 1) t2) fun t3 =>
  Ret R t3 H
theorem W_s_l01Size2 {R : V → Heap → Prop} {a0 : V} {H : Heap} (h : F_s_l01Size2 R a0 H) : ACalls P n_s_l01Size2 [a0] H R :=
  acalls_of_form (g := ⟨[], []⟩) (x := (.seq .leaf (.seq .leaf .leaf))) Tryz.func109 (by kernel_rfl) (by kernel_rfl) (by kernel_rfl) (by kernel_rfl : F_s_l01Size2 R a0 H = _) h
def F_i_Lsa_bytes (R : V → Heap → Prop) (a0 : V) (H : Heap) : Prop :=
  boxK a0 (bnd (partOf false 1 (cellsOf a0) 0) fun t1 =>
  bnd (aCv .u8 t1) fun t2 =>
  bnd (bsl 1 1 [(.int .u8 0)] [(0, t2)]) fun r3 =>
  ∀ o4, H o4 = none →
  bnd (partOf false 1 (cellsOf a0) 1) fun t5 =>
  ACalls P n_i_big [(.slice o4 0 1 (some 1)), t5, (.int .i64 3)] (upd H o4 ⟨1, r3⟩) fun v6 H7 =>
  bnd (partOf false 1 (cellsOf a0) 3) fun t8 =>
  bnd (lenOf t8) fun n9 =>
  bnd (aCv .u8 (.int .i64 (n9 : Nat))) fun t10 =>
  bnd (bsl 1 1 [(.int .u8 0)] [(0, t10)]) fun r11 =>
  ∀ o12, H7 o12 = none →
  bnd (rowsOf (upd H7 o12 ⟨1, r11⟩) 1 (.slice o12 0 1 (some 1))) fun r15 =>
  appendK (upd H7 o12 ⟨1, r11⟩) 1 1 v6 r15 fun v13 H14 =>
  bnd (partOf false 1 (cellsOf a0) 3) fun t16 =>
  bnd (lenOf t16) fun n17 =>
  ∃ (I18 : Nat → List V → Heap → Prop) (n19 : Nat), Shr (I18 n19 [(.box (cellsOf a0)), v13, (.int .i64 0)]) H14 ∧
  ∀ n20 xs22 H23, I18 n20 xs22 H23 →
  bnd (aBinN .lss (xs22.tail.tail.headD .any) (.int .i64 (n17 : Nat))) fun t24 =>
  cnd t24
  (bnd (aIndex H23 2 t16 (xs22.tail.tail.headD .any)) fun t25 =>
  bnd (aLd true 2 H23 t25) fun t26 =>
  bnd (stz 2 [(.int .i64 0), (.int .i64 0)] 0 t26) fun c27 =>
  bnd (partOf false 1 c27 0) fun t28 =>
  bnd (aCv .u8 t28) fun t29 =>
  bnd (partOf false 1 c27 1) fun t30 =>
  bnd (bsl 1 1 [(.int .u8 0)] [(0, t29)]) fun r31 =>
  ∀ o32, H23 o32 = none →
  bnd (rowsOf (upd H23 o32 ⟨1, r31⟩) 1 (.slice o32 0 1 (some 1))) fun r35 =>
  appendK (upd H23 o32 ⟨1, r31⟩) 1 1 (xs22.tail.headD .any) r35 fun v33 H34 =>
  ACalls P n_i_big [v33, t30, (.int .i64 2)] H34 fun v36 H37 =>
  bnd (aBinN .add (xs22.tail.tail.headD .any) (.int .i64 1)) fun t38 =>
  ∃ n21, n21 < n20 ∧ Shr (I18 n21 [(.box (bc (xs22.headD .any))), v36, t38]) H37)
  (bnd (partOf false 1 (bc (xs22.headD .any)) 4) fun t39 =>
  bnd (lenOf t39) fun n40 =>
  bnd (aCv .u8 (.int .i64 (n40 : Nat))) fun t41 =>
  bnd (bsl 1 1 [(.int .u8 0)] [(0, t41)]) fun r42 =>
  ∀ o43, H23 o43 = none →
  bnd (rowsOf (upd H23 o43 ⟨1, r42⟩) 1 (.slice o43 0 1 (some 1))) fun r46 =>
  appendK (upd H23 o43 ⟨1, r42⟩) 1 1 (xs22.tail.headD .any) r46 fun v44 H45 =>
  bnd (partOf false 1 (bc (xs22.headD .any)) 4) fun t47 =>
  bnd (lenOf t47) fun n48 =>
  ∃ (I49 : Nat → List V → Heap → Prop) (n50 : Nat), Shr (I49 n50 [v44, (.int .i64 0)]) H45 ∧
  ∀ n51 xs53 H54, I49 n51 xs53 H54 →
  bnd (aBinN .lss (xs53.tail.headD .any) (.int .i64 (n48 : Nat))) fun t55 =>
  cnd t55
  (bnd (aIndex H54 3 t47 (xs53.tail.headD .any)) fun t56 =>
  bnd (aLd true 3 H54 t56) fun t57 =>
  bnd (stz 3 [(.int .i64 0), (.int .i64 0), (.int .i64 0)] 0 t57) fun c58 =>
  bnd (partOf false 1 c58 0) fun t59 =>
  ACalls P n_i_big [(xs53.headD .any), t59, (.int .i64 2)] H54 fun v60 H61 =>
  bnd (partOf false 1 c58 1) fun t62 =>
  bnd (aCv .u8 t62) fun t63 =>
  bnd (partOf false 1 c58 2) fun t64 =>
  bnd (bsl 1 1 [(.int .u8 0)] [(0, t63)]) fun r65 =>
  ∀ o66, H61 o66 = none →
  bnd (rowsOf (upd H61 o66 ⟨1, r65⟩) 1 (.slice o66 0 1 (some 1))) fun r69 =>
  appendK (upd H61 o66 ⟨1, r65⟩) 1 1 v60 r69 fun v67 H68 =>
  ACalls P n_i_big [v67, t64, (.int .i64 2)] H68 fun v70 H71 =>
  bnd (aBinN .add (xs53.tail.headD .any) (.int .i64 1)) fun t72 =>
  ∃ n52, n52 < n51 ∧ Shr (I49 n52 [v70, t72]) H71)
  (Ret R (xs53.headD .any) H54)))
theorem W_i_Lsa_bytes {R : V → Heap → Prop} {a0 : V} {H : Heap} (h : F_i_Lsa_bytes R a0 H) : ACalls P n_i_Lsa_bytes [a0] H R :=
  acalls_of_form (g := ⟨[1, 5, 7], [8, 12, 16, 22, 30, 35, 40, 46, 54, 55, 59, 60, 65]⟩) (x := (.seq .leaf (.seq .leaf (.seq .leaf (.seq (.seq .leaf (.block (.loop [1, 3, 25] (.seq .leaf (.seq (.cond .leaf .leaf) (.seq (.block (.seq .leaf (.drawh [0, 1, 2, 3, 6, 7, 4, 5, 8, 9]))) .leaf)))))) (.seq .leaf (.seq (.seq .leaf (.block (.loop [3, 49] (.seq .leaf (.seq (.cond .leaf .leaf) (.seq (.block (.seq .leaf (.seq .leaf (.drawh [0, 1, 2, 3, 4, 7, 8, 5, 6, 9, 10])))) .leaf)))))) (.seq .leaf .leaf)))))))) Tryz.func111 (by kernel_rfl) (by kernel_rfl) (by kernel_rfl) (by kernel_rfl : F_i_Lsa_bytes R a0 H = _) h
def F_s_NewNet (R : V → Heap → Prop) (a0 : V) (H : Heap) : Prop :=
  ACalls P n_s_l01In [a0, (.int .i64 1), (.int .i64 6)] H fun v1 H2 =>
  bnd (aNot v1) fun t3 =>
  cnd t3
  (bnd (fillZ [(.int .i64 0), .nils, .nils, .nils, (.int .i64 0)] []) fun c4 =>
  bnd (stz 5 [(.int .i64 0), .nils, .nils, .nils, (.int .i64 0)] 0 (.agg c4)) fun c5 =>
  bnd (partOf true 5 c5 0) fun t6 =>
  Ret R (.tup [t6, (.bool false)]) H2)
  (bnd (fillZ [(.int .i64 0), .nils] [(0, 1, a0)]) fun c7 =>
  bnd (natOf a0) fun n8 =>
  bnd (natOf a0) fun n9 =>
  (n8 ≤ n9 ∧ n9 ≤ 140737488355328 ∧ 24 * n9 ≤ 281474976710656 ∧ 1 = 1 ∧ 0 < 1) ∧
  ∀ o10, H2 o10 = none →
  bnd (fillZ [(.int .i64 0), .nils, .nils, .nils, (.int .i64 0)] [(0, 2, (.agg c7)), (2, 1, (.slice o10 0 n8 (some n9)))]) fun c11 =>
  bnd (stz 5 [(.int .i64 0), .nils, .nils, .nils, (.int .i64 0)] 0 (.agg c11)) fun c12 =>
  bnd (partOf true 5 c12 0) fun t13 =>
  Ret R (.tup [t13, (.bool true)]) (upd H2 o10 ⟨1, List.replicate n9 [.nils]⟩))
theorem W_s_NewNet {R : V → Heap → Prop} {a0 : V} {H : Heap} (h : F_s_NewNet R a0 H) : ACalls P n_s_NewNet [a0] H R :=
  acalls_of_form (g := ⟨[2], []⟩) (x := (.seq .leaf (.seq (.seq .leaf (.cond (.seq .leaf .leaf) .leaf)) (.seq .leaf .leaf)))) Tryz.func112 (by kernel_rfl) (by kernel_rfl) (by kernel_rfl) (by kernel_rfl : F_s_NewNet R a0 H = _) h
def F_s_SetLink (R : V → Heap → Prop) (a0 a1 a2 a3 : V) (H : Heap) : Prop :=
  boxK a0 (bnd (partOf true 5 (cellsOf a0) 0) fun t1 =>
  ACalls P n_s_NetOk [t1] H fun v2 H3 =>
  bnd (aNot v2) fun t4 =>
  gd t4 false
  (bnd (partOf true 2 (cellsOf a0) 0) fun t5 =>
  ACalls P n_s_l03Node [t5, a1] H3 fun v6 H7 =>
  bnd (aNot v6) fun t8 =>
  gd t8 false
  (bnd (partOf true 2 (cellsOf a0) 0) fun t9 =>
  ACalls P n_s_l03Node [t9, a2] H7 fun v10 H11 =>
  bnd (aNot v10) fun t12 =>
  gd t12 false
  (bnd (aBinN .eql a1 a2) fun t13 =>
  gd t13 false
  (ACalls P n_s_l01In [a3, (.int .i64 0), (.int .i64 1000)] H11 fun v14 H15 =>
  bnd (aNot v14) fun t16 =>
  cnd t16
  (bnd (partOf true 5 (cellsOf a0) 0) fun t17 =>
  ACalls P n_s_l08Copy [t17] H15 fun v18 H19 =>
  bnd (stz 5 [(.int .i64 0), .nils, .nils, .nils, (.int .i64 0)] 0 v18) fun c20 =>
  bnd (partOf true 5 c20 0) fun t21 =>
  Ret R (.tup [t21, (.bool false)]) H19)
  (∃ J22 : List V → Heap → Prop,
  (bnd (aBinN .gtr a1 a2) fun t25 =>
  cnd t25
  (Shr (J22 [a2, a1]) H15)
  (Shr (J22 [a1, a2]) H15)) ∧
  ∀ xs23 H24, J22 xs23 H24 →
  bnd (partOf true 5 (cellsOf a0) 0) fun t26 =>
  ACalls P n_s_l08Copy [t26] H24 fun v27 H28 =>
  bnd (stz 5 [(.int .i64 0), .nils, .nils, .nils, (.int .i64 0)] 0 v27) fun c29 =>
  bnd (aBinN .eql a3 (.int .i64 0)) fun t30 =>
  cnd t30
  (bnd (partOf true 2 (cellsOf a0) 0) fun t31 =>
  ACalls P n_s_Without [t31, (xs23.headD .any), (xs23.tail.headD .any)] H28 fun v32 H33 =>
  bnd (aExtract 0 v32) fun t34 =>
  bnd (aExtract 1 v32) fun t35 =>
  bnd (stz 2 [(.int .i64 0), .nils] 0 t34) fun c36 =>
  bnd (aNot t35) fun t37 =>
  cnd t37
  (bnd (partOf true 5 c29 0) fun t38 =>
  bnd (stz 5 [(.int .i64 0), .nils, .nils, .nils, (.int .i64 0)] 0 t38) fun c39 =>
  bnd (partOf true 5 c39 0) fun t40 =>
  Ret R (.tup [t40, (.bool false)]) H33)
  (bnd (partOf true 2 c36 0) fun t41 =>
  bnd (stz 2 c29 0 t41) fun c42 =>
  bnd (partOf true 5 c42 0) fun t43 =>
  ACalls P n_s_Announce [t43, (xs23.headD .any)] H33 fun v44 H45 =>
  bnd (aExtract 0 v44) fun t46 =>
  bnd (aExtract 1 v44) fun t47 =>
  bnd (stz 5 [(.int .i64 0), .nils, .nils, .nils, (.int .i64 0)] 0 t46) fun c48 =>
  bnd (partOf true 5 c48 0) fun t49 =>
  ACalls P n_s_Announce [t49, (xs23.tail.headD .any)] H45 fun v50 H51 =>
  bnd (aExtract 0 v50) fun t52 =>
  bnd (aExtract 1 v50) fun t53 =>
  ∀ o54, H51 o54 = none →
  bnd (aSt 5 (upd H51 o54 ⟨5, [[(.int .i64 0), .nils, .nils, .nils, (.int .i64 0)]]⟩) (.ptr o54 0 0) t52) fun H55 =>
  bnd (aNot t47) fun t56 =>
  gd t56 false
  (bnd (aNot t53) fun t57 =>
  cnd t57
  (bnd (partOf true 5 (cellsOf a0) 0) fun t58 =>
  ACalls P n_s_l08Copy [t58] H55 fun v59 H60 =>
  bnd (stz 5 [(.int .i64 0), .nils, .nils, .nils, (.int .i64 0)] 0 v59) fun c61 =>
  bnd (partOf true 5 c61 0) fun t62 =>
  Ret R (.tup [t62, (.bool false)]) H60)
  (bnd (aBinN .gtr a3 (.int .i64 0)) fun t63 =>
  cnd t63
  (ACalls P n_s_l08Tell [(.ptr o54 0 0), (xs23.headD .any), (xs23.tail.headD .any)] H55 fun v64 H65 =>
  ACalls P n_s_l08Tell [(.ptr o54 0 0), (xs23.tail.headD .any), (xs23.headD .any)] H65 fun v66 H67 =>
  bnd (aLd true 5 H67 (.ptr o54 0 0)) fun t68 =>
  bnd (stz 5 [(.int .i64 0), .nils, .nils, .nils, (.int .i64 0)] 0 t68) fun c69 =>
  bnd (partOf true 5 c69 0) fun t70 =>
  Ret R (.tup [t70, (.bool true)]) H67)
  (bnd (aLd true 5 H55 (.ptr o54 0 0)) fun t71 =>
  bnd (stz 5 [(.int .i64 0), .nils, .nils, .nils, (.int .i64 0)] 0 t71) fun c72 =>
  bnd (partOf true 5 c72 0) fun t73 =>
  Ret R (.tup [t73, (.bool true)]) H55)))
  (bnd (partOf true 5 (cellsOf a0) 0) fun t74 =>
  ACalls P n_s_l08Copy [t74] H55 fun v75 H76 =>
  bnd (stz 5 [(.int .i64 0), .nils, .nils, .nils, (.int .i64 0)] 0 v75) fun c77 =>
  bnd (partOf true 5 c77 0) fun t78 =>
  Ret R (.tup [t78, (.bool false)]) H76)))
  (bnd (partOf false 1 c29 1) fun t79 =>
  bnd (fillZ [(.int .i64 0), (.int .i64 0), (.int .i64 0)] [(0, 1, (xs23.headD .any)), (1, 1, (xs23.tail.headD .any)), (2, 1, a3)]) fun c80 =>
  ACalls P n_s_l03Put [t79, (.agg c80)] H28 fun v81 H82 =>
  bnd (stz 1 c29 1 v81) fun c83 =>
  bnd (partOf false 1 c83 1) fun t84 =>
  bnd (fillZ [(.int .i64 0), (.int .i64 0), (.int .i64 0)] [(0, 1, (xs23.tail.headD .any)), (1, 1, (xs23.headD .any)), (2, 1, a3)]) fun c85 =>
  ACalls P n_s_l03Put [t84, (.agg c85)] H82 fun v86 H87 =>
  bnd (stz 1 c83 1 v86) fun c88 =>
  bnd (partOf true 5 c88 0) fun t89 =>
  ACalls P n_s_Announce [t89, (xs23.headD .any)] H87 fun v90 H91 =>
  bnd (aExtract 0 v90) fun t92 =>
  bnd (aExtract 1 v90) fun t93 =>
  bnd (stz 5 [(.int .i64 0), .nils, .nils, .nils, (.int .i64 0)] 0 t92) fun c94 =>
  bnd (partOf true 5 c94 0) fun t95 =>
  ACalls P n_s_Announce [t95, (xs23.tail.headD .any)] H91 fun v96 H97 =>
  bnd (aExtract 0 v96) fun t98 =>
  bnd (aExtract 1 v96) fun t99 =>
  ∀ o100, H97 o100 = none →
  bnd (aSt 5 (upd H97 o100 ⟨5, [[(.int .i64 0), .nils, .nils, .nils, (.int .i64 0)]]⟩) (.ptr o100 0 0) t98) fun H101 =>
  bnd (aNot t93) fun t102 =>
  gd t102 false
  (bnd (aNot t99) fun t103 =>
  cnd t103
  (bnd (partOf true 5 (cellsOf a0) 0) fun t104 =>
  ACalls P n_s_l08Copy [t104] H101 fun v105 H106 =>
  bnd (stz 5 [(.int .i64 0), .nils, .nils, .nils, (.int .i64 0)] 0 v105) fun c107 =>
  bnd (partOf true 5 c107 0) fun t108 =>
  Ret R (.tup [t108, (.bool false)]) H106)
  (bnd (aBinN .gtr a3 (.int .i64 0)) fun t109 =>
  cnd t109
  (ACalls P n_s_l08Tell [(.ptr o100 0 0), (xs23.headD .any), (xs23.tail.headD .any)] H101 fun v110 H111 =>
  ACalls P n_s_l08Tell [(.ptr o100 0 0), (xs23.tail.headD .any), (xs23.headD .any)] H111 fun v112 H113 =>
  bnd (aLd true 5 H113 (.ptr o100 0 0)) fun t114 =>
  bnd (stz 5 [(.int .i64 0), .nils, .nils, .nils, (.int .i64 0)] 0 t114) fun c115 =>
  bnd (partOf true 5 c115 0) fun t116 =>
  Ret R (.tup [t116, (.bool true)]) H113)
  (bnd (aLd true 5 H101 (.ptr o100 0 0)) fun t117 =>
  bnd (stz 5 [(.int .i64 0), .nils, .nils, .nils, (.int .i64 0)] 0 t117) fun c118 =>
  bnd (partOf true 5 c118 0) fun t119 =>
  Ret R (.tup [t119, (.bool true)]) H101)))
  (bnd (partOf true 5 (cellsOf a0) 0) fun t120 =>
  ACalls P n_s_l08Copy [t120] H101 fun v121 H122 =>
  bnd (stz 5 [(.int .i64 0), .nils, .nils, .nils, (.int .i64 0)] 0 v121) fun c123 =>
  bnd (partOf true 5 c123 0) fun t124 =>
  Ret R (.tup [t124, (.bool false)]) H122))))
  (bnd (partOf true 5 (cellsOf a0) 0) fun t125 =>
  ACalls P n_s_l08Copy [t125] H11 fun v126 H127 =>
  bnd (stz 5 [(.int .i64 0), .nils, .nils, .nils, (.int .i64 0)] 0 v126) fun c128 =>
  bnd (partOf true 5 c128 0) fun t129 =>
  Ret R (.tup [t129, (.bool false)]) H127))
  (bnd (partOf true 5 (cellsOf a0) 0) fun t130 =>
  ACalls P n_s_l08Copy [t130] H11 fun v131 H132 =>
  bnd (stz 5 [(.int .i64 0), .nils, .nils, .nils, (.int .i64 0)] 0 v131) fun c133 =>
  bnd (partOf true 5 c133 0) fun t134 =>
  Ret R (.tup [t134, (.bool false)]) H132))
  (bnd (partOf true 5 (cellsOf a0) 0) fun t135 =>
  ACalls P n_s_l08Copy [t135] H7 fun v136 H137 =>
  bnd (stz 5 [(.int .i64 0), .nils, .nils, .nils, (.int .i64 0)] 0 v136) fun c138 =>
  bnd (partOf true 5 c138 0) fun t139 =>
  Ret R (.tup [t139, (.bool false)]) H137))
  (bnd (partOf true 5 (cellsOf a0) 0) fun t140 =>
  ACalls P n_s_l08Copy [t140] H3 fun v141 H142 =>
  bnd (stz 5 [(.int .i64 0), .nils, .nils, .nils, (.int .i64 0)] 0 v141) fun c143 =>
  bnd (partOf true 5 c143 0) fun t144 =>
  Ret R (.tup [t144, (.bool false)]) H142))
theorem W_s_SetLink {R : V → Heap → Prop} {a0 a1 a2 a3 : V} {H : Heap} (h : F_s_SetLink R a0 a1 a2 a3 H) : ACalls P n_s_SetLink [a0, a1, a2, a3] H R :=
  acalls_of_form (g := ⟨[4, 8, 10, 11, 13], [21, 28, 56, 67, 68, 69, 76, 77, 78, 79, 86, 87]⟩) (x := (.seq .leaf (.seq (.seq .leaf (.cond (.seq .leaf .leaf) .leaf)) (.seqc (.seq .leaf (.cond .leaf .leaf)) (.seq .leaf (.seq (.seq .leaf (.cond (.seq .leaf (.seq (.seq .leaf (.cond (.seq .leaf .leaf) .leaf)) .leaf)) (.seq .leaf .leaf))) (.seq .leaf (.seq .leaf (.seq (.seq .leaf (.cond (.seq .leaf .leaf) .leaf)) (.seq (.seq .leaf (.cond (.seq .leaf .leaf) .leaf)) (.seq .leaf .leaf))))))) [1, 2])))) Tryz.func113 (by kernel_rfl) (by kernel_rfl) (by kernel_rfl) (by kernel_rfl : F_s_SetLink R a0 a1 a2 a3 H = _) h
def F_s_Lose (R : V → Heap → Prop) (a0 a1 : V) (H : Heap) : Prop :=
  boxK a0 (bnd (partOf true 5 (cellsOf a0) 0) fun t1 =>
  ACalls P n_s_NetOk [t1] H fun v2 H3 =>
  bnd (aNot v2) fun t4 =>
  gd t4 false
  (bnd (partOf false 1 (cellsOf a0) 3) fun t5 =>
  bnd (lenOf t5) fun n6 =>
  bnd (aBinN .sub (.int .i64 (n6 : Nat)) (.int .i64 1)) fun t7 =>
  ACalls P n_s_l01In [a1, (.int .i64 0), t7] H3 fun v8 H9 =>
  bnd (aNot v8) fun t10 =>
  cnd t10
  (bnd (partOf true 5 (cellsOf a0) 0) fun t11 =>
  ACalls P n_s_l08Copy [t11] H9 fun v12 H13 =>
  bnd (stz 5 [(.int .i64 0), .nils, .nils, .nils, (.int .i64 0)] 0 v12) fun c14 =>
  bnd (partOf true 5 c14 0) fun t15 =>
  Ret R (.tup [t15, (.bool false)]) H13)
  (bnd (partOf true 5 (cellsOf a0) 0) fun t16 =>
  ACalls P n_s_l08Off [t16, a1] H9 fun v17 H18 =>
  bnd (aExtract 0 v17) fun t19 =>
  bnd (aExtract 1 v17) fun t20 =>
  bnd (stz 5 [(.int .i64 0), .nils, .nils, .nils, (.int .i64 0)] 0 t19) fun c21 =>
  bnd (stz 7 [(.int .i64 0), (.int .i64 0), (.int .i64 0), (.int .i64 0), (.int .i64 0), .nils, .nils] 0 t20) fun c22 =>
  bnd (partOf true 5 c21 0) fun t23 =>
  bnd (stz 5 [(.int .i64 0), .nils, .nils, .nils, (.int .i64 0)] 0 t23) fun c24 =>
  bnd (partOf true 5 c24 0) fun t25 =>
  Ret R (.tup [t25, (.bool true)]) H18))
  (bnd (partOf true 5 (cellsOf a0) 0) fun t26 =>
  ACalls P n_s_l08Copy [t26] H3 fun v27 H28 =>
  bnd (stz 5 [(.int .i64 0), .nils, .nils, .nils, (.int .i64 0)] 0 v27) fun c29 =>
  bnd (partOf true 5 c29 0) fun t30 =>
  Ret R (.tup [t30, (.bool false)]) H28))
theorem W_s_Lose {R : V → Heap → Prop} {a0 a1 : V} {H : Heap} (h : F_s_Lose R a0 a1 H) : ACalls P n_s_Lose [a0, a1] H R :=
  acalls_of_form (g := ⟨[2, 4, 6, 7], [13]⟩) (x := (.seq .leaf (.seq (.seq .leaf (.cond (.seq .leaf .leaf) .leaf)) (.seq .leaf (.seq .leaf .leaf))))) Tryz.func114 (by kernel_rfl) (by kernel_rfl) (by kernel_rfl) (by kernel_rfl : F_s_Lose R a0 a1 H = _) h
def F_s_Announce (R : V → Heap → Prop) (a0 a1 : V) (H : Heap) : Prop :=
  boxK a0 (bnd (partOf true 5 (cellsOf a0) 0) fun t1 =>
  ACalls P n_s_NetOk [t1] H fun v2 H3 =>
  bnd (aNot v2) fun t4 =>
  gd t4 false
  (bnd (partOf true 2 (cellsOf a0) 0) fun t5 =>
  ACalls P n_s_l03Node [t5, a1] H3 fun v6 H7 =>
  bnd (aNot v6) fun t8 =>
  cnd t8
  (bnd (partOf true 5 (cellsOf a0) 0) fun t9 =>
  ACalls P n_s_l08Copy [t9] H7 fun v10 H11 =>
  bnd (stz 5 [(.int .i64 0), .nils, .nils, .nils, (.int .i64 0)] 0 v10) fun c12 =>
  bnd (partOf true 5 c12 0) fun t13 =>
  Ret R (.tup [t13, (.bool false)]) H11)
  (bnd (aBinN .mul (.int .i64 256) a1) fun t14 =>
  bnd (fillZ [(.int .i64 0), (.int .i64 0)] [(0, 1, t14), (1, 1, (.int .i64 8))]) fun c15 =>
  bnd (fillZ [(.int .i64 0), (.int .i64 0), (.int .i64 0)] [(0, 2, (.agg c15)), (2, 1, (.int .i64 1))]) fun c16 =>
  bnd (bsl 3 1 [(.int .i64 0), (.int .i64 0), (.int .i64 0)] [(0, (.agg c16))]) fun r17 =>
  ∀ o18, H7 o18 = none →
  bnd (fillZ [(.int .i64 0), (.int .i64 0), (.int .i64 0), .nils, .nils] [(0, 1, a1), (1, 1, (.int .i64 1)), (4, 1, (.slice o18 0 1 (some 1)))]) fun c19 =>
  bnd (stz 5 [(.int .i64 0), (.int .i64 0), (.int .i64 0), .nils, .nils] 0 (.agg c19)) fun c20 =>
  ∃ J21 : List V → Heap → Prop,
  (bnd (partOf false 1 (cellsOf a0) 2) fun t24 =>
  bnd (aIndex (upd H7 o18 ⟨3, r17⟩) 1 t24 a1) fun t25 =>
  bnd (aLd true 1 (upd H7 o18 ⟨3, r17⟩) t25) fun t26 =>
  ACalls P n_s_FindLsa [t26, a1] (upd H7 o18 ⟨3, r17⟩) fun v27 H28 =>
  bnd (aExtract 0 v27) fun t29 =>
  bnd (aExtract 1 v27) fun t30 =>
  bnd (stz 5 [(.int .i64 0), (.int .i64 0), (.int .i64 0), .nils, .nils] 0 t29) fun c31 =>
  cnd t30
  (bnd (partOf false 1 c31 1) fun t32 =>
  bnd (aBinN .add t32 (.int .i64 1)) fun t33 =>
  bnd (stz 1 c20 1 t33) fun c34 =>
  Shr (J21 [(.box (cellsOf a0)), (.box [(.int .i64 0), .nils, .nils, .nils, (.int .i64 0)]), (.box c34)]) H28)
  (Shr (J21 [(.box (cellsOf a0)), (.box [(.int .i64 0), .nils, .nils, .nils, (.int .i64 0)]), (.box c20)]) H28)) ∧
  ∀ xs22 H23, J21 xs22 H23 →
  ∃ (I35 : Nat → List V → Heap → Prop) (n36 : Nat), Shr (I35 n36 [(.box (bc (xs22.headD .any))), (.box (bc (xs22.tail.headD .any))), (.box (bc (xs22.tail.tail.headD .any))), (.int .i64 0)]) H23 ∧
  ∀ n37 xs39 H40, I35 n37 xs39 H40 →
  bnd (partOf false 1 (bc (xs39.headD .any)) 1) fun t41 =>
  bnd (lenOf t41) fun n42 =>
  bnd (aBinN .lss (xs39.tail.tail.tail.headD .any) (.int .i64 (n42 : Nat))) fun t43 =>
  cnd t43
  (bnd (partOf false 1 (bc (xs39.headD .any)) 1) fun t44 =>
  bnd (aIndex H40 3 t44 (xs39.tail.tail.tail.headD .any)) fun t45 =>
  bnd (aField 0 t45) fun t46 =>
  bnd (aLd false 1 H40 t46) fun t47 =>
  bnd (aBinN .eql t47 a1) fun t48 =>
  cnd t48
  (bnd (partOf false 1 (bc (xs39.tail.tail.headD .any)) 3) fun t49 =>
  bnd (partOf false 1 (bc (xs39.headD .any)) 1) fun t50 =>
  bnd (aIndex H40 3 t50 (xs39.tail.tail.tail.headD .any)) fun t51 =>
  bnd (aField 1 t51) fun t52 =>
  bnd (aLd false 1 H40 t52) fun t53 =>
  bnd (partOf false 1 (bc (xs39.headD .any)) 1) fun t54 =>
  bnd (aIndex H40 3 t54 (xs39.tail.tail.tail.headD .any)) fun t55 =>
  bnd (aField 2 t55) fun t56 =>
  bnd (aLd false 1 H40 t56) fun t57 =>
  bnd (fillZ [(.int .i64 0), (.int .i64 0)] [(0, 1, t53), (1, 1, t57)]) fun c58 =>
  bnd (bsl 2 1 [(.int .i64 0), (.int .i64 0)] [(0, (.agg c58))]) fun r59 =>
  ∀ o60, H40 o60 = none →
  bnd (rowsOf (upd H40 o60 ⟨2, r59⟩) 2 (.slice o60 0 1 (some 1))) fun r63 =>
  appendK (upd H40 o60 ⟨2, r59⟩) 2 16 t49 r63 fun v61 H62 =>
  bnd (stz 1 (bc (xs39.tail.tail.headD .any)) 3 v61) fun c64 =>
  bnd (aBinN .add (xs39.tail.tail.tail.headD .any) (.int .i64 1)) fun t65 =>
  ∃ n38, n38 < n37 ∧ Shr (I35 n38 [(.box (bc (xs39.headD .any))), (.box (bc (xs39.tail.headD .any))), (.box c64), t65]) H62)
  (bnd (aBinN .add (xs39.tail.tail.tail.headD .any) (.int .i64 1)) fun t66 =>
  ∃ n38, n38 < n37 ∧ Shr (I35 n38 [(.box (bc (xs39.headD .any))), (.box (bc (xs39.tail.headD .any))), (.box (bc (xs39.tail.tail.headD .any))), t66]) H40))
  (bnd (partOf true 5 (bc (xs39.tail.tail.headD .any)) 0) fun t67 =>
  ACalls P n_s_LsaOk [t67] H40 fun v68 H69 =>
  bnd (aNot v68) fun t70 =>
  cnd t70
  (bnd (partOf true 5 (bc (xs39.headD .any)) 0) fun t71 =>
  ACalls P n_s_l08Copy [t71] H69 fun v72 H73 =>
  bnd (stz 5 (bc (xs39.tail.headD .any)) 0 v72) fun c74 =>
  bnd (partOf true 5 c74 0) fun t75 =>
  Ret R (.tup [t75, (.bool false)]) H73)
  (bnd (partOf true 5 (bc (xs39.headD .any)) 0) fun t76 =>
  ACalls P n_s_l08Copy [t76] H69 fun v77 H78 =>
  ∀ o79, H78 o79 = none →
  bnd (aSt 5 (upd H78 o79 ⟨5, [[(.int .i64 0), .nils, .nils, .nils, (.int .i64 0)]]⟩) (.ptr o79 0 0) v77) fun H80 =>
  ∃ S81, Abs.sub S81 H80 ∧
  bnd (aField 2 (.ptr o79 0 0)) fun t82 =>
  bnd (aLd false 1 S81 t82) fun t83 =>
  bnd (aField 2 (.ptr o79 0 0)) fun t84 =>
  bnd (aLd false 1 S81 t84) fun t85 =>
  bnd (aIndex S81 1 t85 a1) fun t86 =>
  bnd (aLd true 1 S81 t86) fun t87 =>
  bnd (partOf true 5 (bc (xs39.tail.tail.headD .any)) 0) fun t88 =>
  ACalls P n_s_Install [t87, t88] H80 fun v89 H90 =>
  Abs.sub S81 H90 ∧
  bnd (aExtract 0 v89) fun t91 =>
  bnd (aExtract 1 v89) fun t92 =>
  bnd (aIndex S81 1 t83 a1) fun t93 =>
  ∃ S94, Abs.sub S94 H90 ∧
  bnd (aSt 1 H90 t93 t91) fun H95 =>
  Abs.sub S94 H95 ∧
  bnd (partOf true 5 (bc (xs39.tail.tail.headD .any)) 0) fun t96 =>
  ACalls P n_s_l08Spread [(.ptr o79 0 0), a1, (.int .i64 (-1)), t96] H95 fun v97 H98 =>
  bnd (aLd true 5 H98 (.ptr o79 0 0)) fun t99 =>
  bnd (stz 5 (bc (xs39.tail.headD .any)) 0 t99) fun c100 =>
  bnd (partOf true 5 c100 0) fun t101 =>
  Ret R (.tup [t101, (.bool true)]) H98))))
  (bnd (partOf true 5 (cellsOf a0) 0) fun t102 =>
  ACalls P n_s_l08Copy [t102] H3 fun v103 H104 =>
  bnd (stz 5 [(.int .i64 0), .nils, .nils, .nils, (.int .i64 0)] 0 v103) fun c105 =>
  bnd (partOf true 5 c105 0) fun t106 =>
  Ret R (.tup [t106, (.bool false)]) H104))
theorem W_s_Announce {R : V → Heap → Prop} {a0 a1 : V} {H : Heap} (h : F_s_Announce R a0 a1 H) : ACalls P n_s_Announce [a0, a1] H R :=
  acalls_of_form (g := ⟨[2, 4, 6, 7], [15, 31, 41, 44, 46, 47, 53, 54, 62, 64, 65, 71, 72, 81]⟩) (x := (.seq .leaf (.seq (.seq .leaf (.cond (.seq .leaf .leaf) .leaf)) (.seq .leaf (.seqc (.seq .leaf (.seq .leaf (.cond .leaf .leaf))) (.seq (.seq .leaf (.block (.loop [2, 4, 6, 9] (.seq (.seq .leaf (.cond .leaf .leaf)) (.seq (.block (.seq .leaf (.cond (.drawh [0, 1, 2, 3, 4, 5, 6, 7, 8, 9, 10, 11, 12, 13, 14, 15, 16, 17, 18, 19, 20]) .leaf))) .leaf))))) (.seq (.seq .leaf (.cond (.seq .leaf .leaf) .leaf)) (.seq .leaf (.seq (.drawp [[0, 1, 2, 3, 4, 5, 6, 7, 8, 9, 10, 11, 12, 13], [14]]) (.seq .leaf (.seq .leaf .leaf)))))) [2, 4, 6]))))) Tryz.func115 (by kernel_rfl) (by kernel_rfl) (by kernel_rfl) (by kernel_rfl : F_s_Announce R a0 a1 H = _) h
def F_s_l01Byte (R : V → Heap → Prop) (a0 : V) (H : Heap) : Prop :=
  bnd (aNil a0) fun t1 =>
  bnd (aField 2 t1) fun t2 =>
  bnd (aLd false 1 H t2) fun t3 =>
  bnd (aBinN .mul t3 (.int .i64 6364136223846793005)) fun t4 =>
  bnd (aBinN .add t4 (.int .i64 1442695040888963407)) fun t5 =>
  bnd (aNil a0) fun t6 =>
  bnd (aField 2 t6) fun t7 =>
  bnd (aSt 1 H t7 t5) fun H8 =>
  ∃ S9, Abs.sub S9 H8 ∧
  bnd (aNil a0) fun t10 =>
  bnd (aField 2 t10) fun t11 =>
  bnd (aLd false 1 S9 t11) fun t12 =>
  bnd (aBinN .shr t12 (.int .u64 33)) fun t13 =>
  bnd (aNil a0) fun t14 =>
  bnd (aField 2 t14) fun t15 =>
  bnd (aLd false 1 S9 t15) fun t16 =>
  bnd (aBinN .shr t16 (.int .u64 45)) fun t17 =>
  bnd (aBinN .xor t13 t17) fun t18 =>
  bnd (aBinN .and t18 (.int .i64 255)) fun t19 =>
  ∃ S20, Abs.sub S20 H8 ∧
  bnd (aNil a0) fun t21 =>
  bnd (aField 1 t21) fun t22 =>
  bnd (aLd false 1 S20 t22) fun t23 =>
  bnd (aNil a0) fun t24 =>
  bnd (aField 0 t24) fun t25 =>
  bnd (aLd false 1 S20 t25) fun t26 =>
  bnd (lenOf t26) fun n27 =>
  bnd (aBinN .lss t23 (.int .i64 (n27 : Nat))) fun t28 =>
  cnd t28
  (∃ S29, Abs.sub S29 H8 ∧
  bnd (aNil a0) fun t30 =>
  bnd (aField 0 t30) fun t31 =>
  bnd (aLd false 1 S29 t31) fun t32 =>
  bnd (aNil a0) fun t33 =>
  bnd (aField 1 t33) fun t34 =>
  bnd (aLd false 1 S29 t34) fun t35 =>
  bnd (aIndex S29 1 t32 t35) fun t36 =>
  bnd (aLd false 1 S29 t36) fun t37 =>
  bnd (aCv .i64 t37) fun t38 =>
  bnd (aBinN .add t19 t38) fun t39 =>
  bnd (aBinN .and t39 (.int .i64 255)) fun t40 =>
  bnd (aNil a0) fun t41 =>
  bnd (aField 1 t41) fun t42 =>
  bnd (aLd false 1 H8 t42) fun t43 =>
  bnd (aBinN .add t43 (.int .i64 1)) fun t44 =>
  bnd (aNil a0) fun t45 =>
  bnd (aField 1 t45) fun t46 =>
  bnd (aSt 1 H8 t46 t44) fun H47 =>
  Ret R t40 H47)
  (Ret R t19 H8)
theorem W_s_l01Byte {R : V → Heap → Prop} {a0 : V} {H : Heap} (h : F_s_l01Byte R a0 H) : ACalls P n_s_l01Byte [a0] H R :=
  acalls_of_form (g := ⟨[], []⟩) (x := (.seq .leaf (.seq .leaf (.seq (.draw [0, 1, 2, 3, 4, 5, 6, 7, 8, 9, 10, 11, 12]) (.seq (.seq (.draw [0, 1, 2, 3, 4, 5, 6, 7, 8, 9]) (.cond (.seq (.draw [0, 1, 2, 3, 4, 5, 6, 7, 8, 9, 10, 11, 12, 13, 14]) .leaf) .leaf)) (.seq .leaf .leaf)))))) Tryz.func116 (by kernel_rfl) (by kernel_rfl) (by kernel_rfl) (by kernel_rfl : F_s_l01Byte R a0 H = _) h
def F_s_l05DrawLsa (R : V → Heap → Prop) (a0 a1 a2 : V) (H : Heap) : Prop :=
  ACalls P n_s_l01Below [a0, (.int .i64 5)] H fun v1 H2 =>
  bnd (aBinN .add (.int .i64 1) v1) fun t3 =>
  ACalls P n_s_l01Below [a0, (.int .i64 30)] H2 fun v4 H5 =>
  ACalls P n_s_l01Below [a0, (.int .i64 60)] H5 fun v6 H7 =>
  bnd (bsl 1 5 [(.int .i64 0)] [(0, (.int .i64 0)), (1, (.int .i64 0)), (2, v4), (3, v6), (4, (.int .i64 60))]) fun r8 =>
  ∀ o9, H7 o9 = none →
  ACalls P n_s_l01PickInt [a0, (.slice o9 0 5 (some 5))] (upd H7 o9 ⟨1, r8⟩) fun v10 H11 =>
  ACalls P n_s_l05DrawLinks [a0, a1, a2] H11 fun v12 H13 =>
  ACalls P n_s_l01Below [a0, (.int .i64 3)] H13 fun v14 H15 =>
  ACalls P n_s_l05DrawStubs [a0, v14] H15 fun v16 H17 =>
  bnd (fillZ [(.int .i64 0), (.int .i64 0), (.int .i64 0), .nils, .nils] [(0, 1, a1), (1, 1, t3), (2, 1, v10), (3, 1, v12), (4, 1, v16)]) fun c18 =>
  bnd (stz 5 [(.int .i64 0), (.int .i64 0), (.int .i64 0), .nils, .nils] 0 (.agg c18)) fun c19 =>
  bnd (partOf true 5 c19 0) fun t20 =>
  Ret R t20 H17
theorem W_s_l05DrawLsa {R : V → Heap → Prop} {a0 a1 a2 : V} {H : Heap} (h : F_s_l05DrawLsa R a0 a1 a2 H) : ACalls P n_s_l05DrawLsa [a0, a1, a2] H R :=
  acalls_of_form (g := ⟨[6], []⟩) (x := (.seq .leaf (.seq .leaf .leaf))) Tryz.func117 (by kernel_rfl) (by kernel_rfl) (by kernel_rfl) (by kernel_rfl : F_s_l05DrawLsa R a0 a1 a2 H = _) h
def F_s_l05Bend (R : V → Heap → Prop) (a0 a1 : V) (H : Heap) : Prop :=
  boxK a1 (bnd (partOf true 5 (cellsOf a1) 0) fun t1 =>
  ACalls P n_s_l05Copy [t1] H fun v2 H3 =>
  bnd (stz 5 [(.int .i64 0), (.int .i64 0), (.int .i64 0), .nils, .nils] 0 v2) fun c4 =>
  ACalls P n_s_l01Below [a0, (.int .i64 6)] H3 fun v5 H6 =>
  bnd (aBinN .eql v5 (.int .i64 0)) fun t7 =>
  cnd t7
  (bnd (bsl 1 4 [(.int .i64 0)] [(0, (.int .i64 (-1))), (1, (.int .i64 10)), (2, (.int .i64 9)), (3, (.int .i64 0))]) fun r8 =>
  ∀ o9, H6 o9 = none →
  ACalls P n_s_l01PickInt [a0, (.slice o9 0 4 (some 4))] (upd H6 o9 ⟨1, r8⟩) fun v10 H11 =>
  bnd (stz 1 c4 0 v10) fun c12 =>
  bnd (partOf true 5 c12 0) fun t13 =>
  bnd (stz 5 [(.int .i64 0), (.int .i64 0), (.int .i64 0), .nils, .nils] 0 t13) fun c14 =>
  bnd (partOf true 5 c14 0) fun t15 =>
  Ret R t15 H11)
  (bnd (aBinN .eql v5 (.int .i64 1)) fun t16 =>
  cnd t16
  (bnd (bsl 1 3 [(.int .i64 0)] [(0, (.int .i64 0)), (1, (.int .i64 1000000)), (2, (.int .i64 1000001))]) fun r17 =>
  ∀ o18, H6 o18 = none →
  ACalls P n_s_l01PickInt [a0, (.slice o18 0 3 (some 3))] (upd H6 o18 ⟨1, r17⟩) fun v19 H20 =>
  bnd (stz 1 c4 1 v19) fun c21 =>
  bnd (partOf true 5 c21 0) fun t22 =>
  bnd (stz 5 [(.int .i64 0), (.int .i64 0), (.int .i64 0), .nils, .nils] 0 t22) fun c23 =>
  bnd (partOf true 5 c23 0) fun t24 =>
  Ret R t24 H20)
  (bnd (aBinN .eql v5 (.int .i64 2)) fun t25 =>
  cnd t25
  (bnd (bsl 1 3 [(.int .i64 0)] [(0, (.int .i64 (-1))), (1, (.int .i64 60)), (2, (.int .i64 61))]) fun r26 =>
  ∀ o27, H6 o27 = none →
  ACalls P n_s_l01PickInt [a0, (.slice o27 0 3 (some 3))] (upd H6 o27 ⟨1, r26⟩) fun v28 H29 =>
  bnd (stz 1 c4 2 v28) fun c30 =>
  bnd (partOf true 5 c30 0) fun t31 =>
  bnd (stz 5 [(.int .i64 0), (.int .i64 0), (.int .i64 0), .nils, .nils] 0 t31) fun c32 =>
  bnd (partOf true 5 c32 0) fun t33 =>
  Ret R t33 H29)
  (bnd (aBinN .eql v5 (.int .i64 3)) fun t34 =>
  cnd t34
  (bnd (partOf false 1 c4 3) fun t35 =>
  ACalls P n_s_l01Below [a0, (.int .i64 11)] H6 fun v36 H37 =>
  bnd (bsl 1 4 [(.int .i64 0)] [(0, (.int .i64 1)), (1, (.int .i64 0)), (2, (.int .i64 1000)), (3, (.int .i64 1001))]) fun r38 =>
  ∀ o39, H37 o39 = none →
  ACalls P n_s_l01PickInt [a0, (.slice o39 0 4 (some 4))] (upd H37 o39 ⟨1, r38⟩) fun v40 H41 =>
  bnd (fillZ [(.int .i64 0), (.int .i64 0)] [(0, 1, v36), (1, 1, v40)]) fun c42 =>
  bnd (bsl 2 1 [(.int .i64 0), (.int .i64 0)] [(0, (.agg c42))]) fun r43 =>
  ∀ o44, H41 o44 = none →
  bnd (rowsOf (upd H41 o44 ⟨2, r43⟩) 2 (.slice o44 0 1 (some 1))) fun r47 =>
  appendK (upd H41 o44 ⟨2, r43⟩) 2 16 t35 r47 fun v45 H46 =>
  bnd (stz 1 c4 3 v45) fun c48 =>
  bnd (partOf true 5 c48 0) fun t49 =>
  bnd (stz 5 [(.int .i64 0), (.int .i64 0), (.int .i64 0), .nils, .nils] 0 t49) fun c50 =>
  bnd (partOf true 5 c50 0) fun t51 =>
  Ret R t51 H46)
  (bnd (aBinN .eql v5 (.int .i64 4)) fun t52 =>
  cnd t52
  (bnd (partOf false 1 c4 4) fun t53 =>
  ACalls P n_s_l01DrawPrefix [a0] H6 fun v54 H55 =>
  bnd (bsl 1 4 [(.int .i64 0)] [(0, (.int .i64 1)), (1, (.int .i64 0)), (2, (.int .i64 1000)), (3, (.int .i64 1001))]) fun r56 =>
  ∀ o57, H55 o57 = none →
  ACalls P n_s_l01PickInt [a0, (.slice o57 0 4 (some 4))] (upd H55 o57 ⟨1, r56⟩) fun v58 H59 =>
  bnd (fillZ [(.int .i64 0), (.int .i64 0), (.int .i64 0)] [(0, 2, v54), (2, 1, v58)]) fun c60 =>
  bnd (bsl 3 1 [(.int .i64 0), (.int .i64 0), (.int .i64 0)] [(0, (.agg c60))]) fun r61 =>
  ∀ o62, H59 o62 = none →
  bnd (rowsOf (upd H59 o62 ⟨3, r61⟩) 3 (.slice o62 0 1 (some 1))) fun r65 =>
  appendK (upd H59 o62 ⟨3, r61⟩) 3 24 t53 r65 fun v63 H64 =>
  bnd (stz 1 c4 4 v63) fun c66 =>
  bnd (partOf true 5 c66 0) fun t67 =>
  bnd (stz 5 [(.int .i64 0), (.int .i64 0), (.int .i64 0), .nils, .nils] 0 t67) fun c68 =>
  bnd (partOf true 5 c68 0) fun t69 =>
  Ret R t69 H64)
  (bnd (aBinN .eql v5 (.int .i64 5)) fun t70 =>
  cnd t70
  (∃ (I71 : Nat → List V → Heap → Prop) (n72 : Nat), Shr (I71 n72 [(.box [(.int .i64 0), (.int .i64 0), (.int .i64 0), .nils, .nils]), (.box c4), (.int .i64 0)]) H6 ∧
  ∀ n73 xs75 H76, I71 n73 xs75 H76 →
  bnd (aBinN .lss (xs75.tail.tail.headD .any) (.int .i64 7)) fun t77 =>
  cnd t77
  (bnd (partOf false 1 (bc (xs75.tail.headD .any)) 4) fun t78 =>
  bnd (aBinN .mul (.int .i64 16) (xs75.tail.tail.headD .any)) fun t79 =>
  bnd (aBinN .add (.int .i64 64000) t79) fun t80 =>
  bnd (aBinN .rem (xs75.tail.tail.headD .any) (.int .i64 2)) fun t81 =>
  bnd (aBinN .add (.int .i64 12) t81) fun t82 =>
  bnd (fillZ [(.int .i64 0), (.int .i64 0)] [(0, 1, t80), (1, 1, t82)]) fun c83 =>
  bnd (fillZ [(.int .i64 0), (.int .i64 0), (.int .i64 0)] [(0, 2, (.agg c83)), (2, 1, (.int .i64 1))]) fun c84 =>
  bnd (bsl 3 1 [(.int .i64 0), (.int .i64 0), (.int .i64 0)] [(0, (.agg c84))]) fun r85 =>
  ∀ o86, H76 o86 = none →
  bnd (rowsOf (upd H76 o86 ⟨3, r85⟩) 3 (.slice o86 0 1 (some 1))) fun r89 =>
  appendK (upd H76 o86 ⟨3, r85⟩) 3 24 t78 r89 fun v87 H88 =>
  bnd (stz 1 (bc (xs75.tail.headD .any)) 4 v87) fun c90 =>
  bnd (aBinN .add (xs75.tail.tail.headD .any) (.int .i64 1)) fun t91 =>
  ∃ n74, n74 < n73 ∧ Shr (I71 n74 [(.box (bc (xs75.headD .any))), (.box c90), t91]) H88)
  (bnd (partOf true 5 (bc (xs75.tail.headD .any)) 0) fun t92 =>
  bnd (stz 5 (bc (xs75.headD .any)) 0 t92) fun c93 =>
  bnd (partOf true 5 c93 0) fun t94 =>
  Ret R t94 H76))
  (bnd (partOf true 5 c4 0) fun t95 =>
  bnd (stz 5 [(.int .i64 0), (.int .i64 0), (.int .i64 0), .nils, .nils] 0 t95) fun c96 =>
  bnd (partOf true 5 c96 0) fun t97 =>
  Ret R t97 H6)))))))
theorem W_s_l05Bend {R : V → Heap → Prop} {a0 a1 : V} {H : Heap} (h : F_s_l05Bend R a0 a1 H) : ACalls P n_s_l05Bend [a0, a1] H R :=
  acalls_of_form (g := ⟨[3, 4, 5], [16, 22, 28, 31, 41, 44, 54, 61, 73]⟩) (x := (.seq .leaf (.seq .leaf (.seq (.seq .leaf (.block (.seq .leaf (.cond .leaf (.seq .leaf (.cond .leaf (.seq .leaf (.cond .leaf (.seq .leaf (.cond (.drawh [0, 1, 2, 4, 3, 5, 6, 7, 8, 9, 10, 11]) (.seq .leaf (.cond (.drawh [0, 1, 2, 4, 3, 5, 6, 7, 8, 9, 10, 11]) (.seq .leaf (.cond (.seq .leaf (.block (.loop [4, 5, 6] (.seq (.seq .leaf (.cond .leaf .leaf)) (.seq (.block .leaf) .leaf))))) .leaf)))))))))))))) (.seq .leaf .leaf))))) Tryz.func118 (by kernel_rfl) (by kernel_rfl) (by kernel_rfl) (by kernel_rfl : F_s_l05Bend R a0 a1 H = _) h
def F_s_l05Sign (R : V → Heap → Prop) (a0 : V) (H : Heap) : Prop :=
  bnd (aBinN .gtr a0 (.int .i64 0)) fun t1 =>
  cnd t1
  (Ret R (.int .i64 1) H)
  (bnd (aBinN .lss a0 (.int .i64 0)) fun t2 =>
  cnd t2
  (Ret R (.int .i64 (-1)) H)
  (Ret R (.int .i64 0) H))
theorem W_s_l05Sign {R : V → Heap → Prop} {a0 : V} {H : Heap} (h : F_s_l05Sign R a0 H) : ACalls P n_s_l05Sign [a0] H R :=
  acalls_of_form (g := ⟨[], []⟩) (x := (.seq .leaf (.seq (.seq .leaf (.cond (.seq .leaf .leaf) .leaf)) (.seq (.seq .leaf (.cond (.seq .leaf .leaf) .leaf)) (.seq .leaf .leaf))))) Tryz.func119 (by kernel_rfl) (by kernel_rfl) (by kernel_rfl) (by kernel_rfl : F_s_l05Sign R a0 H = _) h
def F_cmp_isNaN_int (R : V → Heap → Prop) (a0 : V) (H : Heap) : Prop :=
  bnd (aBinN .neq a0 a0) fun t1 =>
  Ret R t1 H
theorem W_cmp_isNaN_int {R : V → Heap → Prop} {a0 : V} {H : Heap} (h : F_cmp_isNaN_int R a0 H) : ACalls P n_cmp_isNaN_int [a0] H R :=
  acalls_of_form (g := ⟨[], []⟩) (x := (.seq .leaf (.seq .leaf .leaf))) Tryz.func120 (by kernel_rfl) (by kernel_rfl) (by kernel_rfl) (by kernel_rfl : F_cmp_isNaN_int R a0 H = _) h
def F_i_PrefixOk (R : V → Heap → Prop) (a0 : V) (H : Heap) : Prop :=
  boxK a0 (∃ S1, Abs.sub S1 H ∧
  bnd (partOf false 1 (cellsOf a0) 1) fun t2 =>
  ACalls P n_i_within [t2, (.int .i64 0), (.int .i64 16)] H fun v3 H4 =>
  Abs.sub S1 H4 ∧
  gd v3 true
  (bnd (partOf false 1 (cellsOf a0) 0) fun t5 =>
  ACalls P n_i_isAddr [t5] H4 fun v6 H7 =>
  Abs.sub S1 H7 ∧
  gd v6 true
  (bnd (partOf false 1 (cellsOf a0) 0) fun t8 =>
  bnd (partOf true 2 (cellsOf a0) 0) fun t9 =>
  ACalls P n_i_Prefix_size [t9] H7 fun v10 H11 =>
  Abs.sub S1 H11 ∧
  bnd (aBinN .rem t8 v10) fun t12 =>
  bnd (aBinN .eql t12 (.int .i64 0)) fun t13 =>
  Ret R t13 H11)
  (Ret R (.bool false) H7))
  (Ret R (.bool false) H4))
theorem W_i_PrefixOk {R : V → Heap → Prop} {a0 : V} {H : Heap} (h : F_i_PrefixOk R a0 H) : ACalls P n_i_PrefixOk [a0] H R :=
  acalls_of_form (g := ⟨[1], [3, 7, 12]⟩) (x := (.seq .leaf (.seq (.draw [0, 1, 2, 3, 4, 5, 6, 7, 8, 9, 10, 11, 12, 13, 14, 15, 16]) .leaf))) Tryz.func121 (by kernel_rfl) (by kernel_rfl) (by kernel_rfl) (by kernel_rfl : F_i_PrefixOk R a0 H = _) h
def F_i_comparePrefixes (R : V → Heap → Prop) (a0 a1 : V) (H : Heap) : Prop :=
  boxK a0 (boxK a1 (bnd (partOf false 1 (cellsOf a0) 0) fun t1 =>
  bnd (partOf false 1 (cellsOf a1) 0) fun t2 =>
  bnd (aBinN .neq t1 t2) fun t3 =>
  cnd t3
  (bnd (partOf false 1 (cellsOf a0) 0) fun t4 =>
  bnd (partOf false 1 (cellsOf a1) 0) fun t5 =>
  bnd (aBinN .sub t4 t5) fun t6 =>
  Ret R t6 H)
  (bnd (partOf false 1 (cellsOf a0) 1) fun t7 =>
  bnd (partOf false 1 (cellsOf a1) 1) fun t8 =>
  bnd (aBinN .sub t7 t8) fun t9 =>
  Ret R t9 H)))
theorem W_i_comparePrefixes {R : V → Heap → Prop} {a0 a1 : V} {H : Heap} (h : F_i_comparePrefixes R a0 a1 H) : ACalls P n_i_comparePrefixes [a0, a1] H R :=
  acalls_of_form (g := ⟨[2, 3], [5, 7, 10, 12, 15, 17]⟩) (x := (.seq .leaf (.seq (.seq .leaf (.cond (.seq .leaf .leaf) .leaf)) (.seq .leaf .leaf)))) Tryz.func122 (by kernel_rfl) (by kernel_rfl) (by kernel_rfl) (by kernel_rfl : F_i_comparePrefixes R a0 a1 H = _) h
def F_s_l01Join (R : V → Heap → Prop) (a0 a1 : V) (H : Heap) : Prop :=
  ACalls P n_s_l01Bytes [a0] H fun v1 H2 =>
  ∃ (I3 : Nat → List V → Heap → Prop) (n4 : Nat), Shr (I3 n4 [v1, (.int .i64 0)]) H2 ∧
  ∀ n5 xs7 H8, I3 n5 xs7 H8 →
  bnd (lenOf a1) fun n9 =>
  bnd (aBinN .lss (xs7.tail.headD .any) (.int .i64 (n9 : Nat))) fun t10 =>
  cnd t10
  (bnd (aIndex H8 1 a1 (xs7.tail.headD .any)) fun t11 =>
  bnd (aLd false 1 H8 t11) fun t12 =>
  bnd (bsl 1 1 [(.int .u8 0)] [(0, t12)]) fun r13 =>
  ∀ o14, H8 o14 = none →
  bnd (rowsOf (upd H8 o14 ⟨1, r13⟩) 1 (.slice o14 0 1 (some 1))) fun r17 =>
  appendK (upd H8 o14 ⟨1, r13⟩) 1 1 (xs7.headD .any) r17 fun v15 H16 =>
  bnd (aBinN .add (xs7.tail.headD .any) (.int .i64 1)) fun t18 =>
  ∃ n6, n6 < n5 ∧ Shr (I3 n6 [v15, t18]) H16)
  (Ret R (xs7.headD .any) H8)
theorem W_s_l01Join {R : V → Heap → Prop} {a0 a1 : V} {H : Heap} (h : F_s_l01Join R a0 a1 H) : ACalls P n_s_l01Join [a0, a1] H R :=
  acalls_of_form (g := ⟨[], []⟩) (x := (.seq .leaf (.seq .leaf (.seq (.seq .leaf (.block (.loop [5, 6] (.seq (.seq .leaf (.cond .leaf .leaf)) (.seq (.block .leaf) .leaf))))) (.seq .leaf .leaf))))) Tryz.func123 (by kernel_rfl) (by kernel_rfl) (by kernel_rfl) (by kernel_rfl : F_s_l01Join R a0 a1 H = _) h
def F_s_l05Wide (R : V → Heap → Prop) (a0 a1 : V) (H : Heap) : Prop :=
  bnd (bsl 1 0 [(.int .u8 0)] []) fun r1 =>
  ∀ o2, H o2 = none →
  bnd (aBinN .sub a1 (.int .i64 1)) fun t3 =>
  ∃ (I4 : Nat → List V → Heap → Prop) (n5 : Nat), Shr (I4 n5 [(.slice o2 0 0 (some 0)), t3]) (upd H o2 ⟨1, r1⟩) ∧
  ∀ n6 xs8 H9, I4 n6 xs8 H9 →
  bnd (aBinN .geq (xs8.tail.headD .any) (.int .i64 0)) fun t10 =>
  cnd t10
  (bnd (aBinN .mul (.int .i64 8) (xs8.tail.headD .any)) fun t11 =>
  bnd (aCv .u64 t11) fun t12 =>
  bnd (aBinN .shr a0 t12) fun t13 =>
  bnd (aBinN .and t13 (.int .i64 255)) fun t14 =>
  bnd (aCv .u8 t14) fun t15 =>
  bnd (bsl 1 1 [(.int .u8 0)] [(0, t15)]) fun r16 =>
  ∀ o17, H9 o17 = none →
  bnd (rowsOf (upd H9 o17 ⟨1, r16⟩) 1 (.slice o17 0 1 (some 1))) fun r20 =>
  appendK (upd H9 o17 ⟨1, r16⟩) 1 1 (xs8.headD .any) r20 fun v18 H19 =>
  bnd (aBinN .sub (xs8.tail.headD .any) (.int .i64 1)) fun t21 =>
  ∃ n7, n7 < n6 ∧ Shr (I4 n7 [v18, t21]) H19)
  (Ret R (xs8.headD .any) H9)
theorem W_s_l05Wide {R : V → Heap → Prop} {a0 a1 : V} {H : Heap} (h : F_s_l05Wide R a0 a1 H) : ACalls P n_s_l05Wide [a0, a1] H R :=
  acalls_of_form (g := ⟨[], []⟩) (x := (.seq .leaf (.seq .leaf (.seq (.seq .leaf (.block (.loop [5, 6] (.seq (.seq .leaf (.cond .leaf .leaf)) (.seq (.block .leaf) .leaf))))) (.seq .leaf .leaf))))) Tryz.func124 (by kernel_rfl) (by kernel_rfl) (by kernel_rfl) (by kernel_rfl : F_s_l05Wide R a0 a1 H = _) h
def F_slices_IndexFunc_i_Edge_i_Edge (R : V → Heap → Prop) (a0 a1 : V) (H : Heap) : Prop :=
  bnd (lenOf a0) fun n1 =>
  ∃ (I2 : Nat → List V → Heap → Prop) (n3 : Nat), Shr (I2 n3 [(.int .i64 0)]) H ∧
  ∀ n4 xs6 H7, I2 n4 xs6 H7 →
  bnd (aBinN .lss (xs6.headD .any) (.int .i64 (n1 : Nat))) fun t8 =>
  cnd t8
  (bnd (aIndex H7 3 a0 (xs6.headD .any)) fun t9 =>
  bnd (aLd true 3 H7 t9) fun t10 =>
  callK P H7 a1 [t10] fun v11 H12 =>
  cnd v11
  (Ret R (xs6.headD .any) H12)
  (bnd (aBinN .add (xs6.headD .any) (.int .i64 1)) fun t13 =>
  ∃ n5, n5 < n4 ∧ Shr (I2 n5 [t13]) H12))
  (Ret R (.int .i64 (-1)) H7)
theorem W_slices_IndexFunc_i_Edge_i_Edge {R : V → Heap → Prop} {a0 a1 : V} {H : Heap} (h : F_slices_IndexFunc_i_Edge_i_Edge R a0 a1 H) : ACalls P n_slices_IndexFunc_i_Edge_i_Edge [a0, a1] H R :=
  acalls_of_form (g := ⟨[], []⟩) (x := (.seq .leaf (.seq (.seq .leaf (.block (.loop [8] (.seq .leaf (.seq (.cond .leaf .leaf) (.seq (.block (.seq .leaf (.seq .leaf (.cond (.seq .leaf .leaf) .leaf)))) .leaf)))))) (.seq .leaf .leaf)))) Tryz.func125 (by kernel_rfl) (by kernel_rfl) (by kernel_rfl) (by kernel_rfl : F_slices_IndexFunc_i_Edge_i_Edge R a0 a1 H = _) h
def F_slices_rotateRight_i_Lsa (R : V → Heap → Prop) (a0 a1 : V) (H : Heap) : Prop :=
  bnd (lenOf a0) fun n1 =>
  bnd (aBinN .sub (.int .i64 (n1 : Nat)) a1) fun t2 =>
  ACalls P n_slices_rotateLeft_i_Lsa [a0, t2] H fun v3 H4 =>
  Ret R (.tup []) H4
theorem W_slices_rotateRight_i_Lsa {R : V → Heap → Prop} {a0 a1 : V} {H : Heap} (h : F_slices_rotateRight_i_Lsa R a0 a1 H) : ACalls P n_slices_rotateRight_i_Lsa [a0, a1] H R :=
  acalls_of_form (g := ⟨[], []⟩) (x := .leaf) Tryz.func129 (by kernel_rfl) (by kernel_rfl) (by kernel_rfl) (by kernel_rfl : F_slices_rotateRight_i_Lsa R a0 a1 H = _) h
def F_i_big (R : V → Heap → Prop) (a0 a1 a2 : V) (H : Heap) : Prop :=
  bnd (aBinN .sub a2 (.int .i64 1)) fun t1 =>
  ∃ (I2 : Nat → List V → Heap → Prop) (n3 : Nat), Shr (I2 n3 [a0, t1]) H ∧
  ∀ n4 xs6 H7, I2 n4 xs6 H7 →
  bnd (aBinN .geq (xs6.tail.headD .any) (.int .i64 0)) fun t8 =>
  cnd t8
  (bnd (aBinN .mul (.int .i64 8) (xs6.tail.headD .any)) fun t9 =>
  bnd (aBinN .shr a1 t9) fun t10 =>
  bnd (aCv .u8 t10) fun t11 =>
  bnd (bsl 1 1 [(.int .u8 0)] [(0, t11)]) fun r12 =>
  ∀ o13, H7 o13 = none →
  bnd (rowsOf (upd H7 o13 ⟨1, r12⟩) 1 (.slice o13 0 1 (some 1))) fun r16 =>
  appendK (upd H7 o13 ⟨1, r12⟩) 1 1 (xs6.headD .any) r16 fun v14 H15 =>
  bnd (aBinN .sub (xs6.tail.headD .any) (.int .i64 1)) fun t17 =>
  ∃ n5, n5 < n4 ∧ Shr (I2 n5 [v14, t17]) H15)
  (Ret R (xs6.headD .any) H7)
theorem W_i_big {R : V → Heap → Prop} {a0 a1 a2 : V} {H : Heap} (h : F_i_big R a0 a1 a2 H) : ACalls P n_i_big [a0, a1, a2] H R :=
  acalls_of_form (g := ⟨[], []⟩) (x := (.seq .leaf (.seq (.seq .leaf (.block (.loop [0, 7] (.seq (.seq .leaf (.cond .leaf .leaf)) (.seq (.block .leaf) .leaf))))) (.seq .leaf .leaf)))) Tryz.func131 (by kernel_rfl) (by kernel_rfl) (by kernel_rfl) (by kernel_rfl : F_i_big R a0 a1 a2 H = _) h
def F_s_Without (R : V → Heap → Prop) (a0 a1 a2 : V) (H : Heap) : Prop :=
  boxK a0 (bnd (partOf false 1 (cellsOf a0) 0) fun t1 =>
  bnd (fillZ [(.int .i64 0), .nils] [(0, 1, t1)]) fun c2 =>
  bnd (stz 2 [(.int .i64 0), .nils] 0 (.agg c2)) fun c3 =>
  ∃ (I4 : Nat → List V → Heap → Prop) (n5 : Nat), Shr (I4 n5 [(.box (cellsOf a0)), (.box [(.int .i64 0), .nils]), (.box c3), (.int .i64 0)]) H ∧
  ∀ n6 xs8 H9, I4 n6 xs8 H9 →
  bnd (partOf false 1 (bc (xs8.headD .any)) 1) fun t10 =>
  bnd (lenOf t10) fun n11 =>
  bnd (aBinN .lss (xs8.tail.tail.tail.headD .any) (.int .i64 (n11 : Nat))) fun t12 =>
  cnd t12
  (bnd (partOf false 1 (bc (xs8.headD .any)) 1) fun t13 =>
  bnd (aIndex H9 3 t13 (xs8.tail.tail.tail.headD .any)) fun t14 =>
  bnd (aLd true 3 H9 t14) fun t15 =>
  bnd (stz 3 [(.int .i64 0), (.int .i64 0), (.int .i64 0)] 0 t15) fun c16 =>
  ∃ J17 : List V → Heap → Prop,
  (bnd (partOf false 1 c16 0) fun t20 =>
  bnd (aBinN .eql t20 a1) fun t21 =>
  gd t21 true
  (bnd (partOf false 1 c16 1) fun t22 =>
  bnd (aBinN .eql t22 a2) fun t23 =>
  bnd (aNot t23) fun t24 =>
  gd t24 true
  (bnd (partOf false 1 c16 0) fun t25 =>
  bnd (aBinN .eql t25 a2) fun t26 =>
  gd3 t26 true
  (bnd (partOf false 1 c16 1) fun t27 =>
  bnd (aBinN .eql t27 a1) fun t28 =>
  bnd (aNot t28) fun t29 =>
  Shr (J17 [t29]) H9)
  (bnd (aNot (.bool false)) fun t30 =>
  Shr (J17 [t30]) H9)
  (bnd (aPick (.tup []) (.tup []) (.bool false)) fun t31 =>
  bnd (aNot t31) fun t32 =>
  Shr (J17 [t32]) H9))
  (Shr (J17 [(.bool false)]) H9))
  (bnd (aNot (.bool false)) fun t33 =>
  gd t33 true
  (bnd (partOf false 1 c16 0) fun t34 =>
  bnd (aBinN .eql t34 a2) fun t35 =>
  gd3 t35 true
  (bnd (partOf false 1 c16 1) fun t36 =>
  bnd (aBinN .eql t36 a1) fun t37 =>
  bnd (aNot t37) fun t38 =>
  Shr (J17 [t38]) H9)
  (bnd (aNot (.bool false)) fun t39 =>
  Shr (J17 [t39]) H9)
  (bnd (aPick (.tup []) (.tup []) (.bool false)) fun t40 =>
  bnd (aNot t40) fun t41 =>
  Shr (J17 [t41]) H9))
  (Shr (J17 [(.bool false)]) H9))) ∧
  ∀ xs18 H19, J17 xs18 H19 →
  cnd (xs18.headD .any)
  (bnd (partOf false 1 (bc (xs8.tail.tail.headD .any)) 1) fun t42 =>
  bnd (partOf true 3 c16 0) fun t43 =>
  bnd (bsl 3 1 [(.int .i64 0), (.int .i64 0), (.int .i64 0)] [(0, t43)]) fun r44 =>
  ∀ o45, H19 o45 = none →
  bnd (rowsOf (upd H19 o45 ⟨3, r44⟩) 3 (.slice o45 0 1 (some 1))) fun r48 =>
  appendK (upd H19 o45 ⟨3, r44⟩) 3 24 t42 r48 fun v46 H47 =>
  bnd (stz 1 (bc (xs8.tail.tail.headD .any)) 1 v46) fun c49 =>
  bnd (aBinN .add (xs8.tail.tail.tail.headD .any) (.int .i64 1)) fun t50 =>
  ∃ n7, n7 < n6 ∧ Shr (I4 n7 [(.box (bc (xs8.headD .any))), (.box (bc (xs8.tail.headD .any))), (.box c49), t50]) H47)
  (bnd (aBinN .add (xs8.tail.tail.tail.headD .any) (.int .i64 1)) fun t51 =>
  ∃ n7, n7 < n6 ∧ Shr (I4 n7 [(.box (bc (xs8.headD .any))), (.box (bc (xs8.tail.headD .any))), (.box (bc (xs8.tail.tail.headD .any))), t51]) H19))
  (bnd (partOf true 2 (bc (xs8.headD .any)) 0) fun t52 =>
  ACalls P n_s_GraphOk [t52] H9 fun v53 H54 =>
  bnd (aNot v53) fun t55 =>
  gd t55 false
  (bnd (partOf false 1 (bc (xs8.tail.tail.headD .any)) 1) fun t56 =>
  bnd (lenOf t56) fun n57 =>
  bnd (partOf false 1 (bc (xs8.headD .any)) 1) fun t58 =>
  bnd (lenOf t58) fun n59 =>
  bnd (aBinN .eql (.int .i64 (n57 : Nat)) (.int .i64 (n59 : Nat))) fun t60 =>
  cnd t60
  (bnd (partOf true 2 (bc (xs8.headD .any)) 0) fun t61 =>
  ACalls P n_s_l03Copy [t61] H54 fun v62 H63 =>
  bnd (stz 2 (bc (xs8.tail.headD .any)) 0 v62) fun c64 =>
  bnd (partOf true 2 c64 0) fun t65 =>
  Ret R (.tup [t65, (.bool false)]) H63)
  (bnd (partOf true 2 (bc (xs8.tail.tail.headD .any)) 0) fun t66 =>
  bnd (stz 2 (bc (xs8.tail.headD .any)) 0 t66) fun c67 =>
  bnd (partOf true 2 c67 0) fun t68 =>
  Ret R (.tup [t68, (.bool true)]) H54))
  (bnd (partOf true 2 (bc (xs8.headD .any)) 0) fun t69 =>
  ACalls P n_s_l03Copy [t69] H54 fun v70 H71 =>
  bnd (stz 2 (bc (xs8.tail.headD .any)) 0 v70) fun c72 =>
  bnd (partOf true 2 c72 0) fun t73 =>
  Ret R (.tup [t73, (.bool false)]) H71)))
theorem W_s_Without {R : V → Heap → Prop} {a0 a1 a2 : V} {H : Heap} (h : F_s_Without R a0 a1 a2 H) : ACalls P n_s_Without [a0, a1, a2] H R :=
  acalls_of_form (g := ⟨[3, 6, 8, 10], [11, 15, 21, 26, 31, 38, 43, 50, 55, 60, 63]⟩) (x := (.seq .leaf (.seq .leaf (.seq (.seq .leaf (.block (.loop [3, 6, 8, 9] (.seq (.seq .leaf (.cond .leaf .leaf)) (.seq (.block (.seq .leaf (.seqc .leaf (.cond .leaf .leaf) [49]))) .leaf))))) (.seq (.seq .leaf (.cond (.seq .leaf .leaf) .leaf)) (.seq .leaf .leaf)))))) Tryz.func132 (by kernel_rfl) (by kernel_rfl) (by kernel_rfl) (by kernel_rfl : F_s_Without R a0 a1 a2 H = _) h
def F_s_l03Put (R : V → Heap → Prop) (a0 a1 : V) (H : Heap) : Prop :=
  boxK a1 (bnd (bsl 3 0 [(.int .i64 0), (.int .i64 0), (.int .i64 0)] []) fun r1 =>
  ∀ o2, H o2 = none →
  ∃ (I3 : Nat → List V → Heap → Prop) (n4 : Nat), Shr (I3 n4 [(.box (cellsOf a1)), (.slice o2 0 0 (some 0)), (.bool false), (.int .i64 0)]) (upd H o2 ⟨3, r1⟩) ∧
  ∀ n5 xs7 H8, I3 n5 xs7 H8 →
  bnd (lenOf a0) fun n9 =>
  bnd (aBinN .lss (xs7.tail.tail.tail.headD .any) (.int .i64 (n9 : Nat))) fun t10 =>
  cnd t10
  (bnd (aIndex H8 3 a0 (xs7.tail.tail.tail.headD .any)) fun t11 =>
  bnd (aLd true 3 H8 t11) fun t12 =>
  bnd (stz 3 [(.int .i64 0), (.int .i64 0), (.int .i64 0)] 0 t12) fun c13 =>
  ∃ J14 : List V → Heap → Prop,
  (∃ J17 : List V → Heap → Prop,
  (bnd (aNot (xs7.tail.tail.headD .any)) fun t20 =>
  gd t20 true
  (bnd (partOf false 1 (bc (xs7.headD .any)) 0) fun t21 =>
  bnd (partOf false 1 c13 0) fun t22 =>
  bnd (aBinN .lss t21 t22) fun t23 =>
  gd3 t23 false
  (bnd (partOf false 1 (bc (xs7.headD .any)) 0) fun t24 =>
  bnd (partOf false 1 c13 0) fun t25 =>
  bnd (aBinN .eql t24 t25) fun t26 =>
  gd3 t26 true
  (bnd (partOf false 1 (bc (xs7.headD .any)) 1) fun t27 =>
  bnd (partOf false 1 c13 1) fun t28 =>
  bnd (aBinN .leq t27 t28) fun t29 =>
  Shr (J17 [t29]) H8)
  (Shr (J17 [(.bool false)]) H8)
  (bnd (aPick (.tup []) (.tup []) (.bool false)) fun t30 =>
  Shr (J17 [t30]) H8))
  (Shr (J17 [(.bool true)]) H8)
  (bnd (aPick (.tup []) (.bool true) (.tup [])) fun t31 =>
  Shr (J17 [t31]) H8))
  (Shr (J17 [(.bool false)]) H8)) ∧
  ∀ xs18 H19, J17 xs18 H19 →
  cnd (xs18.headD .any)
  (bnd (partOf true 3 (bc (xs7.headD .any)) 0) fun t32 =>
  bnd (bsl 3 1 [(.int .i64 0), (.int .i64 0), (.int .i64 0)] [(0, t32)]) fun r33 =>
  ∀ o34, H19 o34 = none →
  bnd (rowsOf (upd H19 o34 ⟨3, r33⟩) 3 (.slice o34 0 1 (some 1))) fun r37 =>
  appendK (upd H19 o34 ⟨3, r33⟩) 3 24 (xs7.tail.headD .any) r37 fun v35 H36 =>
  Shr (J14 [v35, (.bool true)]) H36)
  (Shr (J14 [(xs7.tail.headD .any), (xs7.tail.tail.headD .any)]) H19)) ∧
  ∀ xs15 H16, J14 xs15 H16 →
  bnd (partOf false 1 c13 0) fun t38 =>
  bnd (partOf false 1 (bc (xs7.headD .any)) 0) fun t39 =>
  bnd (aBinN .neq t38 t39) fun t40 =>
  gd t40 false
  (bnd (partOf false 1 c13 1) fun t41 =>
  bnd (partOf false 1 (bc (xs7.headD .any)) 1) fun t42 =>
  bnd (aBinN .neq t41 t42) fun t43 =>
  cnd t43
  (bnd (partOf true 3 c13 0) fun t44 =>
  bnd (bsl 3 1 [(.int .i64 0), (.int .i64 0), (.int .i64 0)] [(0, t44)]) fun r45 =>
  ∀ o46, H16 o46 = none →
  bnd (rowsOf (upd H16 o46 ⟨3, r45⟩) 3 (.slice o46 0 1 (some 1))) fun r49 =>
  appendK (upd H16 o46 ⟨3, r45⟩) 3 24 (xs15.headD .any) r49 fun v47 H48 =>
  bnd (aBinN .add (xs7.tail.tail.tail.headD .any) (.int .i64 1)) fun t50 =>
  ∃ n6, n6 < n5 ∧ Shr (I3 n6 [(.box (bc (xs7.headD .any))), v47, (xs15.tail.headD .any), t50]) H48)
  (bnd (aBinN .add (xs7.tail.tail.tail.headD .any) (.int .i64 1)) fun t51 =>
  ∃ n6, n6 < n5 ∧ Shr (I3 n6 [(.box (bc (xs7.headD .any))), (xs15.headD .any), (xs15.tail.headD .any), t51]) H16))
  (bnd (partOf true 3 c13 0) fun t52 =>
  bnd (bsl 3 1 [(.int .i64 0), (.int .i64 0), (.int .i64 0)] [(0, t52)]) fun r53 =>
  ∀ o54, H16 o54 = none →
  bnd (rowsOf (upd H16 o54 ⟨3, r53⟩) 3 (.slice o54 0 1 (some 1))) fun r57 =>
  appendK (upd H16 o54 ⟨3, r53⟩) 3 24 (xs15.headD .any) r57 fun v55 H56 =>
  bnd (aBinN .add (xs7.tail.tail.tail.headD .any) (.int .i64 1)) fun t58 =>
  ∃ n6, n6 < n5 ∧ Shr (I3 n6 [(.box (bc (xs7.headD .any))), v55, (xs15.tail.headD .any), t58]) H56))
  (bnd (aNot (xs7.tail.tail.headD .any)) fun t59 =>
  cnd t59
  (bnd (partOf true 3 (bc (xs7.headD .any)) 0) fun t60 =>
  bnd (bsl 3 1 [(.int .i64 0), (.int .i64 0), (.int .i64 0)] [(0, t60)]) fun r61 =>
  ∀ o62, H8 o62 = none →
  bnd (rowsOf (upd H8 o62 ⟨3, r61⟩) 3 (.slice o62 0 1 (some 1))) fun r65 =>
  appendK (upd H8 o62 ⟨3, r61⟩) 3 24 (xs7.tail.headD .any) r65 fun v63 H64 =>
  Ret R v63 H64)
  (Ret R (xs7.tail.headD .any) H8)))
theorem W_s_l03Put {R : V → Heap → Prop} {a0 a1 : V} {H : Heap} (h : F_s_l03Put R a0 a1 H) : ACalls P n_s_l03Put [a0, a1] H R :=
  acalls_of_form (g := ⟨[3, 8], [23, 25, 29, 31, 35, 37, 47, 49, 53, 55]⟩) (x := (.seq .leaf (.seq .leaf (.seq .leaf (.seq (.seq .leaf (.block (.loop [3, 5, 6, 7] (.seq (.seq .leaf (.cond .leaf .leaf)) (.seq (.block (.seq .leaf (.seqc (.seqc .leaf (.cond (.seq .leaf .leaf) .leaf) [42]) (.seq .leaf (.cond .leaf .leaf)) [5, 6]))) .leaf))))) (.seq (.seq .leaf (.cond .leaf .leaf)) (.seq .leaf .leaf))))))) Tryz.func133 (by kernel_rfl) (by kernel_rfl) (by kernel_rfl) (by kernel_rfl : F_s_l03Put R a0 a1 H = _) h
def F_s_l08Tell (R : V → Heap → Prop) (a0 a1 a2 : V) (H : Heap) : Prop :=
  ∃ (I1 : Nat → List V → Heap → Prop) (n2 : Nat), Shr (I1 n2 [(.int .i64 0)]) H ∧
  ∀ n3 xs5 H6, I1 n3 xs5 H6 →
  bnd (aNil a0) fun t7 =>
  bnd (aField 2 t7) fun t8 =>
  bnd (aLd false 1 H6 t8) fun t9 =>
  bnd (aIndex H6 1 t9 a1) fun t10 =>
  bnd (aField 0 t10) fun t11 =>
  bnd (aLd false 1 H6 t11) fun t12 =>
  bnd (lenOf t12) fun n13 =>
  bnd (aBinN .lss (xs5.headD .any) (.int .i64 (n13 : Nat))) fun t14 =>
  cnd t14
  (bnd (aNil a0) fun t15 =>
  bnd (aField 2 t15) fun t16 =>
  bnd (aLd false 1 H6 t16) fun t17 =>
  bnd (aIndex H6 1 t17 a1) fun t18 =>
  bnd (aField 0 t18) fun t19 =>
  bnd (aLd false 1 H6 t19) fun t20 =>
  bnd (aIndex H6 5 t20 (xs5.headD .any)) fun t21 =>
  bnd (aLd true 5 H6 t21) fun t22 =>
  ACalls P n_s_l08Send [a0, a1, a2, t22] H6 fun v23 H24 =>
  bnd (aBinN .add (xs5.headD .any) (.int .i64 1)) fun t25 =>
  ∃ n4, n4 < n3 ∧ Shr (I1 n4 [t25]) H24)
  (Ret R (.tup []) H6)
theorem W_s_l08Tell {R : V → Heap → Prop} {a0 a1 a2 : V} {H : Heap} (h : F_s_l08Tell R a0 a1 a2 H) : ACalls P n_s_l08Tell [a0, a1, a2] H R :=
  acalls_of_form (g := ⟨[], []⟩) (x := (.seq .leaf (.block (.loop [6] (.seq (.seq .leaf (.cond .leaf .leaf)) (.seq (.block .leaf) .leaf)))))) Tryz.func134 (by kernel_rfl) (by kernel_rfl) (by kernel_rfl) (by kernel_rfl : F_s_l08Tell R a0 a1 a2 H = _) h
def F_s_l05DrawLinks (R : V → Heap → Prop) (a0 a1 a2 : V) (H : Heap) : Prop :=
  bnd (bsl 2 0 [(.int .i64 0), (.int .i64 0)] []) fun r1 =>
  ∀ o2, H o2 = none →
  ∃ (I3 : Nat → List V → Heap → Prop) (n4 : Nat), Shr (I3 n4 [(.slice o2 0 0 (some 0)), (.int .i64 0)]) (upd H o2 ⟨2, r1⟩) ∧
  ∀ n5 xs7 H8, I3 n5 xs7 H8 →
  bnd (aBinN .lss (xs7.tail.headD .any) a2) fun t9 =>
  cnd t9
  (bnd (aBinN .neq (xs7.tail.headD .any) a1) fun t10 =>
  gd t10 true
  (ACalls P n_s_l01Below [a0, (.int .i64 5)] H8 fun v11 H12 =>
  bnd (aBinN .lss v11 (.int .i64 2)) fun t13 =>
  cnd t13
  (ACalls P n_s_l01Below [a0, (.int .i64 9)] H12 fun v14 H15 =>
  bnd (aBinN .add (.int .i64 1) v14) fun t16 =>
  bnd (bsl 1 5 [(.int .i64 0)] [(0, (.int .i64 1)), (1, (.int .i64 2)), (2, (.int .i64 3)), (3, t16), (4, (.int .i64 1000))]) fun r17 =>
  ∀ o18, H15 o18 = none →
  ACalls P n_s_l01PickInt [a0, (.slice o18 0 5 (some 5))] (upd H15 o18 ⟨1, r17⟩) fun v19 H20 =>
  bnd (fillZ [(.int .i64 0), (.int .i64 0)] [(0, 1, (xs7.tail.headD .any)), (1, 1, v19)]) fun c21 =>
  bnd (bsl 2 1 [(.int .i64 0), (.int .i64 0)] [(0, (.agg c21))]) fun r22 =>
  ∀ o23, H20 o23 = none →
  bnd (rowsOf (upd H20 o23 ⟨2, r22⟩) 2 (.slice o23 0 1 (some 1))) fun r26 =>
  appendK (upd H20 o23 ⟨2, r22⟩) 2 16 (xs7.headD .any) r26 fun v24 H25 =>
  bnd (aBinN .add (xs7.tail.headD .any) (.int .i64 1)) fun t27 =>
  ∃ n6, n6 < n5 ∧ Shr (I3 n6 [v24, t27]) H25)
  (bnd (aBinN .add (xs7.tail.headD .any) (.int .i64 1)) fun t28 =>
  ∃ n6, n6 < n5 ∧ Shr (I3 n6 [(xs7.headD .any), t28]) H12))
  (bnd (aBinN .add (xs7.tail.headD .any) (.int .i64 1)) fun t29 =>
  ∃ n6, n6 < n5 ∧ Shr (I3 n6 [(xs7.headD .any), t29]) H8))
  (Ret R (xs7.headD .any) H8)
theorem W_s_l05DrawLinks {R : V → Heap → Prop} {a0 a1 a2 : V} {H : Heap} (h : F_s_l05DrawLinks R a0 a1 a2 H) : ACalls P n_s_l05DrawLinks [a0, a1, a2] H R :=
  acalls_of_form (g := ⟨[], []⟩) (x := (.seq .leaf (.seq .leaf (.seq (.seq .leaf (.block (.loop [7, 8] (.seq (.seq .leaf (.cond .leaf .leaf)) (.seq (.block (.seq .leaf (.cond .leaf .leaf))) .leaf))))) (.seq .leaf .leaf))))) Tryz.func135 (by kernel_rfl) (by kernel_rfl) (by kernel_rfl) (by kernel_rfl : F_s_l05DrawLinks R a0 a1 a2 H = _) h
def F_s_l05DrawStubs (R : V → Heap → Prop) (a0 a1 : V) (H : Heap) : Prop :=
  bnd (fillZ [.nils] []) fun c1 =>
  bnd (stz 1 [.nils] 0 (.agg c1)) fun c2 =>
  ∃ (I3 : Nat → List V → Heap → Prop) (n4 : Nat), Shr (I3 n4 [(.box c2), (.int .i64 0)]) H ∧
  ∀ n5 xs7 H8, I3 n5 xs7 H8 →
  bnd (aBinN .lss (xs7.tail.headD .any) a1) fun t9 =>
  cnd t9
  (ACalls P n_s_l01DrawPrefix [a0] H8 fun v10 H11 =>
  bnd (stz 2 [(.int .i64 0), (.int .i64 0)] 0 v10) fun c12 =>
  ACalls P n_s_l01Once [a0, (.int .i64 2)] H11 fun v13 H14 =>
  cnd v13
  (ACalls P n_s_l01Below [a0, (.int .i64 4)] H14 fun v15 H16 =>
  bnd (aBinN .mul (.int .i64 256) v15) fun t17 =>
  bnd (fillZ [(.int .i64 0), (.int .i64 0)] [(0, 1, t17), (1, 1, (.int .i64 8))]) fun c18 =>
  bnd (stz 2 c12 0 (.agg c18)) fun c19 =>
  ∃ S20, Abs.sub S20 H16 ∧
  bnd (partOf true 1 (bc (xs7.headD .any)) 0) fun t21 =>
  bnd (partOf true 2 c19 0) fun t22 =>
  ACalls P n_s_l01Below [a0, (.int .i64 9)] H16 fun v23 H24 =>
  Abs.sub S20 H24 ∧
  bnd (aBinN .add (.int .i64 1) v23) fun t25 =>
  bnd (fillZ [(.int .i64 0), (.int .i64 0), (.int .i64 0)] [(0, 2, t22), (2, 1, t25)]) fun c26 =>
  ACalls P n_s_PutRoute [t21, (.agg c26)] H24 fun v27 H28 =>
  Abs.sub S20 H28 ∧
  bnd (aExtract 0 v27) fun t29 =>
  bnd (aExtract 1 v27) fun t30 =>
  bnd (stz 1 (bc (xs7.headD .any)) 0 t29) fun c31 =>
  bnd (aBinN .add (xs7.tail.headD .any) (.int .i64 1)) fun t32 =>
  ∃ n6, n6 < n5 ∧ Shr (I3 n6 [(.box c31), t32]) H28)
  (∃ S33, Abs.sub S33 H14 ∧
  bnd (partOf true 1 (bc (xs7.headD .any)) 0) fun t34 =>
  bnd (partOf true 2 c12 0) fun t35 =>
  ACalls P n_s_l01Below [a0, (.int .i64 9)] H14 fun v36 H37 =>
  Abs.sub S33 H37 ∧
  bnd (aBinN .add (.int .i64 1) v36) fun t38 =>
  bnd (fillZ [(.int .i64 0), (.int .i64 0), (.int .i64 0)] [(0, 2, t35), (2, 1, t38)]) fun c39 =>
  ACalls P n_s_PutRoute [t34, (.agg c39)] H37 fun v40 H41 =>
  Abs.sub S33 H41 ∧
  bnd (aExtract 0 v40) fun t42 =>
  bnd (aExtract 1 v40) fun t43 =>
  bnd (stz 1 (bc (xs7.headD .any)) 0 t42) fun c44 =>
  bnd (aBinN .add (xs7.tail.headD .any) (.int .i64 1)) fun t45 =>
  ∃ n6, n6 < n5 ∧ Shr (I3 n6 [(.box c44), t45]) H41))
  (bnd (bsl 3 0 [(.int .i64 0), (.int .i64 0), (.int .i64 0)] []) fun r46 =>
  ∀ o47, H8 o47 = none →
  ∃ (I48 : Nat → List V → Heap → Prop) (n49 : Nat), Shr (I48 n49 [(.slice o47 0 0 (some 0)), (.int .i64 0)]) (upd H8 o47 ⟨3, r46⟩) ∧
  ∀ n50 xs52 H53, I48 n50 xs52 H53 →
  bnd (partOf false 1 (bc (xs7.headD .any)) 0) fun t54 =>
  bnd (lenOf t54) fun n55 =>
  bnd (aBinN .lss (xs52.tail.headD .any) (.int .i64 (n55 : Nat))) fun t56 =>
  cnd t56
  (bnd (partOf false 1 (bc (xs7.headD .any)) 0) fun t57 =>
  bnd (aIndex H53 3 t57 (xs52.tail.headD .any)) fun t58 =>
  bnd (aField 0 t58) fun t59 =>
  bnd (aLd true 2 H53 t59) fun t60 =>
  bnd (partOf false 1 (bc (xs7.headD .any)) 0) fun t61 =>
  bnd (aIndex H53 3 t61 (xs52.tail.headD .any)) fun t62 =>
  bnd (aField 2 t62) fun t63 =>
  bnd (aLd false 1 H53 t63) fun t64 =>
  bnd (fillZ [(.int .i64 0), (.int .i64 0), (.int .i64 0)] [(0, 2, t60), (2, 1, t64)]) fun c65 =>
  bnd (bsl 3 1 [(.int .i64 0), (.int .i64 0), (.int .i64 0)] [(0, (.agg c65))]) fun r66 =>
  ∀ o67, H53 o67 = none →
  bnd (rowsOf (upd H53 o67 ⟨3, r66⟩) 3 (.slice o67 0 1 (some 1))) fun r70 =>
  appendK (upd H53 o67 ⟨3, r66⟩) 3 24 (xs52.headD .any) r70 fun v68 H69 =>
  bnd (aBinN .add (xs52.tail.headD .any) (.int .i64 1)) fun t71 =>
  ∃ n51, n51 < n50 ∧ Shr (I48 n51 [v68, t71]) H69)
  (Ret R (xs52.headD .any) H53))
theorem W_s_l05DrawStubs {R : V → Heap → Prop} {a0 a1 : V} {H : Heap} (h : F_s_l05DrawStubs R a0 a1 H) : ACalls P n_s_l05DrawStubs [a0, a1] H R :=
  acalls_of_form (g := ⟨[5, 7], [36, 43, 49]⟩) (x := (.seq .leaf (.seq .leaf (.seq (.seq .leaf (.block (.loop [5, 6] (.seq (.seq .leaf (.cond .leaf .leaf)) (.seq (.block (.seq .leaf (.seq (.seq .leaf (.cond .leaf .leaf)) (.draw [0, 1, 2, 3, 4, 5, 6, 7, 8, 9, 10])))) .leaf))))) (.seq .leaf (.seq (.seq .leaf (.block (.loop [8, 9] (.seq (.seq .leaf (.cond .leaf .leaf)) (.seq (.block (.drawh [0, 1, 2, 3, 4, 5, 6, 7, 8, 9, 10, 11, 12, 13, 14, 15, 16])) .leaf))))) (.seq .leaf .leaf))))))) Tryz.func136 (by kernel_rfl) (by kernel_rfl) (by kernel_rfl) (by kernel_rfl : F_s_l05DrawStubs R a0 a1 H = _) h
def F_s_l01DrawPrefix (R : V → Heap → Prop) (a0 : V) (H : Heap) : Prop :=
  ACalls P n_s_l01Below [a0, (.int .i64 17)] H fun v1 H2 =>
  ACalls P n_s_l01Below [a0, (.int .i64 9)] H2 fun v3 H4 =>
  bnd (aBinN .add (.int .i64 8) v3) fun t5 =>
  ACalls P n_s_l01Below [a0, (.int .i64 9)] H4 fun v6 H7 =>
  bnd (aBinN .add (.int .i64 8) v6) fun t8 =>
  bnd (bsl 1 10 [(.int .i64 0)] [(0, (.int .i64 0)), (1, (.int .i64 1)), (2, (.int .i64 4)), (3, (.int .i64 8)), (4, (.int .i64 12)), (5, (.int .i64 15)), (6, (.int .i64 16)), (7, v1), (8, t5), (9, t8)]) fun r9 =>
  ∀ o10, H7 o10 = none →
  ACalls P n_s_l01PickInt [a0, (.slice o10 0 10 (some 10))] (upd H7 o10 ⟨1, r9⟩) fun v11 H12 =>
  ACalls P n_s_l01Below [a0, (.int .i64 65536)] H12 fun v13 H14 =>
  ACalls P n_s_l01Below [a0, (.int .i64 2048)] H14 fun v15 H16 =>
  bnd (bsl 1 4 [(.int .i64 0)] [(0, (.int .i64 0)), (1, (.int .i64 2560)), (2, v13), (3, v15)]) fun r17 =>
  ∀ o18, H16 o18 = none →
  ACalls P n_s_l01PickInt [a0, (.slice o18 0 4 (some 4))] (upd H16 o18 ⟨1, r17⟩) fun v19 H20 =>
  bnd (fillZ [(.int .i64 0), (.int .i64 0)] [(0, 1, v19), (1, 1, v11)]) fun c21 =>
  bnd (stz 2 [(.int .i64 0), (.int .i64 0)] 0 (.agg c21)) fun c22 =>
  ∃ S23, Abs.sub S23 H20 ∧
  bnd (partOf false 1 c22 0) fun t24 =>
  bnd (partOf false 1 c22 0) fun t25 =>
  ACalls P n_s_l01Size2 [v11] H20 fun v26 H27 =>
  Abs.sub S23 H27 ∧
  bnd (aBinN .rem t25 v26) fun t28 =>
  bnd (aBinN .sub t24 t28) fun t29 =>
  bnd (stz 1 c22 0 t29) fun c30 =>
  ACalls P n_s_l01Once [a0, (.int .i64 30)] H27 fun v31 H32 =>
  cnd v31
  (ACalls P n_s_l01Below [a0, (.int .i64 3)] H32 fun v33 H34 =>
  bnd (aBinN .eql v33 (.int .i64 0)) fun t35 =>
  cnd t35
  (bnd (bsl 1 3 [(.int .i64 0)] [(0, (.int .i64 (-1))), (1, (.int .i64 17)), (2, (.int .i64 3))]) fun r36 =>
  ∀ o37, H34 o37 = none →
  ACalls P n_s_l01PickInt [a0, (.slice o37 0 3 (some 3))] (upd H34 o37 ⟨1, r36⟩) fun v38 H39 =>
  bnd (stz 1 c30 1 v38) fun c40 =>
  bnd (partOf true 2 c40 0) fun t41 =>
  bnd (stz 2 [(.int .i64 0), (.int .i64 0)] 0 t41) fun c42 =>
  bnd (partOf true 2 c42 0) fun t43 =>
  Ret R t43 H39)
  (bnd (aBinN .eql v33 (.int .i64 1)) fun t44 =>
  cnd t44
  (bnd (bsl 1 4 [(.int .i64 0)] [(0, (.int .i64 (-1))), (1, (.int .i64 65536)), (2, (.int .i64 1)), (3, (.int .i64 65535))]) fun r45 =>
  ∀ o46, H34 o46 = none →
  ACalls P n_s_l01PickInt [a0, (.slice o46 0 4 (some 4))] (upd H34 o46 ⟨1, r45⟩) fun v47 H48 =>
  bnd (stz 1 c30 0 v47) fun c49 =>
  bnd (partOf true 2 c49 0) fun t50 =>
  bnd (stz 2 [(.int .i64 0), (.int .i64 0)] 0 t50) fun c51 =>
  bnd (partOf true 2 c51 0) fun t52 =>
  Ret R t52 H48)
  (bnd (aBinN .eql v33 (.int .i64 2)) fun t53 =>
  cnd t53
  (bnd (partOf false 1 c30 0) fun t54 =>
  bnd (aBinN .add t54 (.int .i64 1)) fun t55 =>
  bnd (stz 1 c30 0 t55) fun c56 =>
  bnd (partOf true 2 c56 0) fun t57 =>
  bnd (stz 2 [(.int .i64 0), (.int .i64 0)] 0 t57) fun c58 =>
  bnd (partOf true 2 c58 0) fun t59 =>
  Ret R t59 H34)
  (bnd (partOf true 2 c30 0) fun t60 =>
  bnd (stz 2 [(.int .i64 0), (.int .i64 0)] 0 t60) fun c61 =>
  bnd (partOf true 2 c61 0) fun t62 =>
  Ret R t62 H34))))
  (bnd (partOf true 2 c30 0) fun t63 =>
  bnd (stz 2 [(.int .i64 0), (.int .i64 0)] 0 t63) fun c64 =>
  bnd (partOf true 2 c64 0) fun t65 =>
  Ret R t65 H32)
theorem W_s_l01DrawPrefix {R : V → Heap → Prop} {a0 : V} {H : Heap} (h : F_s_l01DrawPrefix R a0 H) : ACalls P n_s_l01DrawPrefix [a0] H R :=
  acalls_of_form (g := ⟨[2, 4], [25, 27, 33, 43, 49, 52, 55]⟩) (x := (.seq .leaf (.seq .leaf (.seq .leaf (.seq (.draw [0, 1, 2, 3, 4, 5, 6, 7, 8, 9]) (.seq (.seq .leaf (.cond (.seq .leaf (.block (.seq .leaf (.cond .leaf (.seq .leaf (.cond .leaf (.seq .leaf (.cond .leaf .leaf)))))))) .leaf)) (.seq .leaf .leaf))))))) Tryz.func137 (by kernel_rfl) (by kernel_rfl) (by kernel_rfl) (by kernel_rfl : F_s_l01DrawPrefix R a0 H = _) h
def F_i_isAddr (R : V → Heap → Prop) (a0 : V) (H : Heap) : Prop :=
  ACalls P n_i_within [a0, (.int .i64 0), (.int .i64 65535)] H fun v1 H2 =>
  Ret R v1 H2
theorem W_i_isAddr {R : V → Heap → Prop} {a0 : V} {H : Heap} (h : F_i_isAddr R a0 H) : ACalls P n_i_isAddr [a0] H R :=
  acalls_of_form (g := ⟨[], []⟩) (x := (.seq .leaf (.seq .leaf .leaf))) Tryz.func138 (by kernel_rfl) (by kernel_rfl) (by kernel_rfl) (by kernel_rfl : F_i_isAddr R a0 H = _) h
def F_i_Prefix_size (R : V → Heap → Prop) (a0 : V) (H : Heap) : Prop :=
  boxK a0 (bnd (partOf false 1 (cellsOf a0) 1) fun t1 =>
  bnd (aBinN .sub (.int .i64 16) t1) fun t2 =>
  bnd (aBinN .shl (.int .i64 1) t2) fun t3 =>
  Ret R t3 H)
theorem W_i_Prefix_size {R : V → Heap → Prop} {a0 : V} {H : Heap} (h : F_i_Prefix_size R a0 H) : ACalls P n_i_Prefix_size [a0] H R :=
  acalls_of_form (g := ⟨[1], [3]⟩) (x := (.seq .leaf (.seq .leaf .leaf))) Tryz.func139 (by kernel_rfl) (by kernel_rfl) (by kernel_rfl) (by kernel_rfl : F_i_Prefix_size R a0 H = _) h
def F_s_l01Bytes (R : V → Heap → Prop) (a0 : V) (H : Heap) : Prop :=
  bnd (bsl 1 0 [(.int .u8 0)] []) fun r1 =>
  ∀ o2, H o2 = none →
  ∃ (I3 : Nat → List V → Heap → Prop) (n4 : Nat), Shr (I3 n4 [(.slice o2 0 0 (some 0)), (.int .i64 0)]) (upd H o2 ⟨1, r1⟩) ∧
  ∀ n5 xs7 H8, I3 n5 xs7 H8 →
  bnd (lenOf a0) fun n9 =>
  bnd (aBinN .lss (xs7.tail.headD .any) (.int .i64 (n9 : Nat))) fun t10 =>
  cnd t10
  (bnd (aIndex H8 1 a0 (xs7.tail.headD .any)) fun t11 =>
  bnd (aLd false 1 H8 t11) fun t12 =>
  bnd (bsl 1 1 [(.int .u8 0)] [(0, t12)]) fun r13 =>
  ∀ o14, H8 o14 = none →
  bnd (rowsOf (upd H8 o14 ⟨1, r13⟩) 1 (.slice o14 0 1 (some 1))) fun r17 =>
  appendK (upd H8 o14 ⟨1, r13⟩) 1 1 (xs7.headD .any) r17 fun v15 H16 =>
  bnd (aBinN .add (xs7.tail.headD .any) (.int .i64 1)) fun t18 =>
  ∃ n6, n6 < n5 ∧ Shr (I3 n6 [v15, t18]) H16)
  (Ret R (xs7.headD .any) H8)
theorem W_s_l01Bytes {R : V → Heap → Prop} {a0 : V} {H : Heap} (h : F_s_l01Bytes R a0 H) : ACalls P n_s_l01Bytes [a0] H R :=
  acalls_of_form (g := ⟨[], []⟩) (x := (.seq .leaf (.seq .leaf (.seq (.seq .leaf (.block (.loop [3, 4] (.seq (.seq .leaf (.cond .leaf .leaf)) (.seq (.block .leaf) .leaf))))) (.seq .leaf .leaf))))) Tryz.func140 (by kernel_rfl) (by kernel_rfl) (by kernel_rfl) (by kernel_rfl : F_s_l01Bytes R a0 H = _) h
def F_slices_rotateLeft_i_Lsa (R : V → Heap → Prop) (a0 a1 : V) (H : Heap) : Prop :=
  bnd (aSlice H 5 a0 none (some a1) none) fun t1 =>
  ACalls P n_slices_Reverse_i_Lsa_i_Lsa [t1] H fun v2 H3 =>
  bnd (aSlice H3 5 a0 (some a1) none none) fun t4 =>
  ACalls P n_slices_Reverse_i_Lsa_i_Lsa [t4] H3 fun v5 H6 =>
  ACalls P n_slices_Reverse_i_Lsa_i_Lsa [a0] H6 fun v7 H8 =>
  Ret R (.tup []) H8
theorem W_slices_rotateLeft_i_Lsa {R : V → Heap → Prop} {a0 a1 : V} {H : Heap} (h : F_slices_rotateLeft_i_Lsa R a0 a1 H) : ACalls P n_slices_rotateLeft_i_Lsa [a0, a1] H R :=
  acalls_of_form (g := ⟨[], []⟩) (x := (.seq .leaf (.seq .leaf .leaf))) Tryz.func142 (by kernel_rfl) (by kernel_rfl) (by kernel_rfl) (by kernel_rfl : F_slices_rotateLeft_i_Lsa R a0 a1 H = _) h
def F_s_PutRoute (R : V → Heap → Prop) (a0 a1 : V) (H : Heap) : Prop :=
  boxK a0 (boxK a1 (bnd (partOf true 1 (cellsOf a0) 0) fun t1 =>
  ACalls P n_s_TableOk [t1] H fun v2 H3 =>
  bnd (aNot v2) fun t4 =>
  cnd t4
  (bnd (partOf true 1 (cellsOf a0) 0) fun t5 =>
  ACalls P n_s_l02Copy [t5] H3 fun v6 H7 =>
  bnd (stz 1 [.nils] 0 v6) fun c8 =>
  bnd (partOf true 1 c8 0) fun t9 =>
  Ret R (.tup [t9, (.bool false)]) H7)
  (bnd (partOf true 1 (cellsOf a0) 0) fun t10 =>
  bnd (partOf true 2 (cellsOf a1) 0) fun t11 =>
  ACalls P n_s_l02Less [t10, t11] H3 fun v12 H13 =>
  bnd (stz 1 [.nils] 0 v12) fun c14 =>
  bnd (fillZ [.nils] []) fun c15 =>
  bnd (stz 1 [.nils] 0 (.agg c15)) fun c16 =>
  ∃ (I17 : Nat → List V → Heap → Prop) (n18 : Nat), Shr (I17 n18 [(.box (cellsOf a0)), (.box (cellsOf a1)), (.box [.nils]), (.box c14), (.box c16), (.bool false), (.int .i64 0)]) H13 ∧
  ∀ n19 xs21 H22, I17 n19 xs21 H22 →
  bnd (partOf false 1 (bc (xs21.tail.tail.tail.headD .any)) 0) fun t23 =>
  bnd (lenOf t23) fun n24 =>
  bnd (aBinN .lss (xs21.tail.tail.tail.tail.tail.tail.headD .any) (.int .i64 (n24 : Nat))) fun t25 =>
  cnd t25
  (∃ S26, Abs.sub S26 H22 ∧
  bnd (aNot (xs21.tail.tail.tail.tail.tail.headD .any)) fun t27 =>
  gd t27 true
  (bnd (partOf true 2 (bc (xs21.tail.headD .any)) 0) fun t28 =>
  bnd (partOf false 1 (bc (xs21.tail.tail.tail.headD .any)) 0) fun t29 =>
  bnd (aIndex S26 3 t29 (xs21.tail.tail.tail.tail.tail.tail.headD .any)) fun t30 =>
  bnd (aField 0 t30) fun t31 =>
  bnd (aLd true 2 S26 t31) fun t32 =>
  ACalls P n_s_l02Ahead [t28, t32] H22 fun v33 H34 =>
  Abs.sub S26 H34 ∧
  cnd v33
  (bnd (partOf false 1 (bc (xs21.tail.tail.tail.tail.headD .any)) 0) fun t35 =>
  bnd (partOf true 3 (bc (xs21.tail.headD .any)) 0) fun t36 =>
  bnd (bsl 3 1 [(.int .i64 0), (.int .i64 0), (.int .i64 0)] [(0, t36)]) fun r37 =>
  ∀ o38, H34 o38 = none →
  bnd (rowsOf (upd H34 o38 ⟨3, r37⟩) 3 (.slice o38 0 1 (some 1))) fun r41 =>
  appendK (upd H34 o38 ⟨3, r37⟩) 3 24 t35 r41 fun v39 H40 =>
  bnd (stz 1 (bc (xs21.tail.tail.tail.tail.headD .any)) 0 v39) fun c42 =>
  bnd (partOf false 1 c42 0) fun t43 =>
  bnd (partOf false 1 (bc (xs21.tail.tail.tail.headD .any)) 0) fun t44 =>
  bnd (aIndex H40 3 t44 (xs21.tail.tail.tail.tail.tail.tail.headD .any)) fun t45 =>
  bnd (aLd true 3 H40 t45) fun t46 =>
  bnd (bsl 3 1 [(.int .i64 0), (.int .i64 0), (.int .i64 0)] [(0, t46)]) fun r47 =>
  ∀ o48, H40 o48 = none →
  bnd (rowsOf (upd H40 o48 ⟨3, r47⟩) 3 (.slice o48 0 1 (some 1))) fun r51 =>
  appendK (upd H40 o48 ⟨3, r47⟩) 3 24 t43 r51 fun v49 H50 =>
  bnd (stz 1 c42 0 v49) fun c52 =>
  bnd (aBinN .add (xs21.tail.tail.tail.tail.tail.tail.headD .any) (.int .i64 1)) fun t53 =>
  ∃ n20, n20 < n19 ∧ Shr (I17 n20 [(.box (bc (xs21.headD .any))), (.box (bc (xs21.tail.headD .any))), (.box (bc (xs21.tail.tail.headD .any))), (.box (bc (xs21.tail.tail.tail.headD .any))), (.box c52), (.bool true), t53]) H50)
  (bnd (partOf false 1 (bc (xs21.tail.tail.tail.tail.headD .any)) 0) fun t54 =>
  bnd (partOf false 1 (bc (xs21.tail.tail.tail.headD .any)) 0) fun t55 =>
  bnd (aIndex H34 3 t55 (xs21.tail.tail.tail.tail.tail.tail.headD .any)) fun t56 =>
  bnd (aLd true 3 H34 t56) fun t57 =>
  bnd (bsl 3 1 [(.int .i64 0), (.int .i64 0), (.int .i64 0)] [(0, t57)]) fun r58 =>
  ∀ o59, H34 o59 = none →
  bnd (rowsOf (upd H34 o59 ⟨3, r58⟩) 3 (.slice o59 0 1 (some 1))) fun r62 =>
  appendK (upd H34 o59 ⟨3, r58⟩) 3 24 t54 r62 fun v60 H61 =>
  bnd (stz 1 (bc (xs21.tail.tail.tail.tail.headD .any)) 0 v60) fun c63 =>
  bnd (aBinN .add (xs21.tail.tail.tail.tail.tail.tail.headD .any) (.int .i64 1)) fun t64 =>
  ∃ n20, n20 < n19 ∧ Shr (I17 n20 [(.box (bc (xs21.headD .any))), (.box (bc (xs21.tail.headD .any))), (.box (bc (xs21.tail.tail.headD .any))), (.box (bc (xs21.tail.tail.tail.headD .any))), (.box c63), (xs21.tail.tail.tail.tail.tail.headD .any), t64]) H61))
  (bnd (partOf false 1 (bc (xs21.tail.tail.tail.tail.headD .any)) 0) fun t65 =>
  bnd (partOf false 1 (bc (xs21.tail.tail.tail.headD .any)) 0) fun t66 =>
  bnd (aIndex H22 3 t66 (xs21.tail.tail.tail.tail.tail.tail.headD .any)) fun t67 =>
  bnd (aLd true 3 H22 t67) fun t68 =>
  bnd (bsl 3 1 [(.int .i64 0), (.int .i64 0), (.int .i64 0)] [(0, t68)]) fun r69 =>
  ∀ o70, H22 o70 = none →
  bnd (rowsOf (upd H22 o70 ⟨3, r69⟩) 3 (.slice o70 0 1 (some 1))) fun r73 =>
  appendK (upd H22 o70 ⟨3, r69⟩) 3 24 t65 r73 fun v71 H72 =>
  bnd (stz 1 (bc (xs21.tail.tail.tail.tail.headD .any)) 0 v71) fun c74 =>
  bnd (aBinN .add (xs21.tail.tail.tail.tail.tail.tail.headD .any) (.int .i64 1)) fun t75 =>
  ∃ n20, n20 < n19 ∧ Shr (I17 n20 [(.box (bc (xs21.headD .any))), (.box (bc (xs21.tail.headD .any))), (.box (bc (xs21.tail.tail.headD .any))), (.box (bc (xs21.tail.tail.tail.headD .any))), (.box c74), (xs21.tail.tail.tail.tail.tail.headD .any), t75]) H72))
  (bnd (aNot (xs21.tail.tail.tail.tail.tail.headD .any)) fun t76 =>
  cnd t76
  (bnd (partOf false 1 (bc (xs21.tail.tail.tail.tail.headD .any)) 0) fun t77 =>
  bnd (partOf true 3 (bc (xs21.tail.headD .any)) 0) fun t78 =>
  bnd (bsl 3 1 [(.int .i64 0), (.int .i64 0), (.int .i64 0)] [(0, t78)]) fun r79 =>
  ∀ o80, H22 o80 = none →
  bnd (rowsOf (upd H22 o80 ⟨3, r79⟩) 3 (.slice o80 0 1 (some 1))) fun r83 =>
  appendK (upd H22 o80 ⟨3, r79⟩) 3 24 t77 r83 fun v81 H82 =>
  bnd (stz 1 (bc (xs21.tail.tail.tail.tail.headD .any)) 0 v81) fun c84 =>
  bnd (partOf true 1 c84 0) fun t85 =>
  ACalls P n_s_TableOk [t85] H82 fun v86 H87 =>
  bnd (aNot v86) fun t88 =>
  cnd t88
  (bnd (partOf true 1 (bc (xs21.headD .any)) 0) fun t89 =>
  ACalls P n_s_l02Copy [t89] H87 fun v90 H91 =>
  bnd (stz 1 (bc (xs21.tail.tail.headD .any)) 0 v90) fun c92 =>
  bnd (partOf true 1 c92 0) fun t93 =>
  Ret R (.tup [t93, (.bool false)]) H91)
  (bnd (partOf true 1 c84 0) fun t94 =>
  bnd (stz 1 (bc (xs21.tail.tail.headD .any)) 0 t94) fun c95 =>
  bnd (partOf true 1 c95 0) fun t96 =>
  Ret R (.tup [t96, (.bool true)]) H87))
  (bnd (partOf true 1 (bc (xs21.tail.tail.tail.tail.headD .any)) 0) fun t97 =>
  ACalls P n_s_TableOk [t97] H22 fun v98 H99 =>
  bnd (aNot v98) fun t100 =>
  cnd t100
  (bnd (partOf true 1 (bc (xs21.headD .any)) 0) fun t101 =>
  ACalls P n_s_l02Copy [t101] H99 fun v102 H103 =>
  bnd (stz 1 (bc (xs21.tail.tail.headD .any)) 0 v102) fun c104 =>
  bnd (partOf true 1 c104 0) fun t105 =>
  Ret R (.tup [t105, (.bool false)]) H103)
  (bnd (partOf true 1 (bc (xs21.tail.tail.tail.tail.headD .any)) 0) fun t106 =>
  bnd (stz 1 (bc (xs21.tail.tail.headD .any)) 0 t106) fun c107 =>
  bnd (partOf true 1 c107 0) fun t108 =>
  Ret R (.tup [t108, (.bool true)]) H99))))))
theorem W_s_PutRoute {R : V → Heap → Prop} {a0 a1 : V} {H : Heap} (h : F_s_PutRoute R a0 a1 H) : ACalls P n_s_PutRoute [a0, a1] H R :=
  acalls_of_form (g := ⟨[2, 3, 4, 6, 7], [16, 21, 30, 32, 40, 45, 46, 48, 55, 58, 63]⟩) (x := (.seq .leaf (.seq (.seq .leaf (.cond (.seq .leaf .leaf) .leaf)) (.seq .leaf (.seq .leaf (.seq .leaf (.seq (.seq .leaf (.block (.loop [2, 3, 4, 6, 7, 8, 9] (.seq (.seq .leaf (.cond .leaf .leaf)) (.seq (.block (.seq (.seq (.draw [0, 1, 2, 3, 4, 5, 6, 7, 8, 9, 10, 11, 12]) (.cond (.seq .leaf .leaf) .leaf)) (.drawh [0, 1, 2, 3, 4, 5, 6, 7, 8, 9, 10]))) .leaf))))) (.seq (.seq .leaf (.cond .leaf .leaf)) (.seq (.seq .leaf (.cond (.seq .leaf .leaf) .leaf)) (.seq .leaf .leaf)))))))))) Tryz.func145 (by kernel_rfl) (by kernel_rfl) (by kernel_rfl) (by kernel_rfl : F_s_PutRoute R a0 a1 H = _) h
def F_slices_Reverse_i_Lsa_i_Lsa (R : V → Heap → Prop) (a0 : V) (H : Heap) : Prop :=
  bnd (lenOf a0) fun n1 =>
  bnd (aBinN .sub (.int .i64 (n1 : Nat)) (.int .i64 1)) fun t2 =>
  ∃ (I3 : Nat → List V → Heap → Prop) (n4 : Nat), Shr (I3 n4 [(.int .i64 0), t2]) H ∧
  ∀ n5 xs7 H8, I3 n5 xs7 H8 →
  bnd (aBinN .lss (xs7.headD .any) (xs7.tail.headD .any)) fun t9 =>
  cnd t9
  (bnd (aIndex H8 5 a0 (xs7.tail.headD .any)) fun t10 =>
  bnd (aLd true 5 H8 t10) fun t11 =>
  bnd (aIndex H8 5 a0 (xs7.headD .any)) fun t12 =>
  bnd (aLd true 5 H8 t12) fun t13 =>
  bnd (aIndex H8 5 a0 (xs7.headD .any)) fun t14 =>
  bnd (aSt 5 H8 t14 t11) fun H15 =>
  bnd (aIndex H15 5 a0 (xs7.tail.headD .any)) fun t16 =>
  bnd (aSt 5 H15 t16 t13) fun H17 =>
  bnd (aBinN .add (xs7.headD .any) (.int .i64 1)) fun t18 =>
  bnd (aBinN .sub (xs7.tail.headD .any) (.int .i64 1)) fun t19 =>
  ∃ n6, n6 < n5 ∧ Shr (I3 n6 [t18, t19]) H17)
  (Ret R (.tup []) H8)
theorem W_slices_Reverse_i_Lsa_i_Lsa {R : V → Heap → Prop} {a0 : V} {H : Heap} (h : F_slices_Reverse_i_Lsa_i_Lsa R a0 H) : ACalls P n_slices_Reverse_i_Lsa_i_Lsa [a0] H R :=
  acalls_of_form (g := ⟨[], []⟩) (x := (.seq .leaf (.block (.loop [2, 3] (.seq (.seq .leaf (.cond .leaf .leaf)) (.seq (.block (.drawh [0, 1, 2, 3, 4, 5, 6, 7, 8, 9, 10, 11, 12, 13, 14, 15])) .leaf)))))) Tryz.func147 (by kernel_rfl) (by kernel_rfl) (by kernel_rfl) (by kernel_rfl : F_slices_Reverse_i_Lsa_i_Lsa R a0 H = _) h
def F_s_TableOk (R : V → Heap → Prop) (a0 : V) (H : Heap) : Prop :=
  boxK a0 (bnd (partOf false 1 (cellsOf a0) 0) fun t1 =>
  bnd (lenOf t1) fun n2 =>
  bnd (aBinN .gtr (.int .i64 (n2 : Nat)) (.int .i64 120)) fun t3 =>
  cnd t3
  (Ret R (.bool false) H)
  (∃ (I4 : Nat → List V → Heap → Prop) (n5 : Nat), Shr (I4 n5 [(.int .i64 0)]) H ∧
  ∀ n6 xs8 H9, I4 n6 xs8 H9 →
  bnd (partOf false 1 (cellsOf a0) 0) fun t10 =>
  bnd (lenOf t10) fun n11 =>
  bnd (aBinN .lss (xs8.headD .any) (.int .i64 (n11 : Nat))) fun t12 =>
  cnd t12
  (∃ S13, Abs.sub S13 H9 ∧
  bnd (partOf false 1 (cellsOf a0) 0) fun t14 =>
  bnd (aIndex S13 3 t14 (xs8.headD .any)) fun t15 =>
  bnd (aField 0 t15) fun t16 =>
  bnd (aLd true 2 S13 t16) fun t17 =>
  ACalls P n_s_PrefixOk [t17] H9 fun v18 H19 =>
  Abs.sub S13 H19 ∧
  bnd (aNot v18) fun t20 =>
  gd t20 false
  (bnd (partOf false 1 (cellsOf a0) 0) fun t21 =>
  bnd (aIndex S13 3 t21 (xs8.headD .any)) fun t22 =>
  bnd (aField 2 t22) fun t23 =>
  bnd (aLd false 1 S13 t23) fun t24 =>
  ACalls P n_s_l01In [t24, (.int .i64 0), (.int .i64 999)] H19 fun v25 H26 =>
  Abs.sub S13 H26 ∧
  bnd (aNot v25) fun t27 =>
  gd t27 false
  (bnd (aBinN .gtr (xs8.headD .any) (.int .i64 0)) fun t28 =>
  gd3 t28 true
  (bnd (partOf false 1 (cellsOf a0) 0) fun t29 =>
  bnd (aBinN .sub (xs8.headD .any) (.int .i64 1)) fun t30 =>
  bnd (aIndex S13 3 t29 t30) fun t31 =>
  bnd (aField 0 t31) fun t32 =>
  bnd (aLd true 2 S13 t32) fun t33 =>
  bnd (partOf false 1 (cellsOf a0) 0) fun t34 =>
  bnd (aIndex S13 3 t34 (xs8.headD .any)) fun t35 =>
  bnd (aField 0 t35) fun t36 =>
  bnd (aLd true 2 S13 t36) fun t37 =>
  ACalls P n_s_l02Ahead [t33, t37] H26 fun v38 H39 =>
  Abs.sub S13 H39 ∧
  bnd (aNot v38) fun t40 =>
  cnd t40
  (Ret R (.bool false) H39)
  (bnd (aBinN .add (xs8.headD .any) (.int .i64 1)) fun t41 =>
  ∃ n7, n7 < n6 ∧ Shr (I4 n7 [t41]) H39))
  (bnd (aBinN .add (xs8.headD .any) (.int .i64 1)) fun t42 =>
  ∃ n7, n7 < n6 ∧ Shr (I4 n7 [t42]) H26)
  (bnd (aPick (.tup []) (.tup []) (.bool false)) fun t43 =>
  cnd t43
  (Ret R (.bool false) H26)
  (bnd (aBinN .add (xs8.headD .any) (.int .i64 1)) fun t44 =>
  ∃ n7, n7 < n6 ∧ Shr (I4 n7 [t44]) H26)))
  (Ret R (.bool false) H26))
  (Ret R (.bool false) H19))
  (Ret R (.bool true) H9)))
theorem W_s_TableOk {R : V → Heap → Prop} {a0 : V} {H : Heap} (h : F_s_TableOk R a0 H) : ACalls P n_s_TableOk [a0] H R :=
  acalls_of_form (g := ⟨[1], [4, 9, 15, 24, 37, 44]⟩) (x := (.seq .leaf (.seq (.seq .leaf (.cond (.seq .leaf .leaf) .leaf)) (.seq (.seq .leaf (.block (.loop [3] (.seq (.seq .leaf (.cond .leaf .leaf)) (.seq (.block (.seq (.draw [0, 1, 2, 3, 4, 5, 6, 7, 8, 9, 10, 11, 12, 13, 14, 15, 16, 17, 18, 19, 20, 21, 22, 23, 24, 25, 26, 27, 28, 29, 30, 31, 32, 33, 34, 35, 36, 37, 38]) (.cond (.seq .leaf .leaf) .leaf))) .leaf))))) (.seq .leaf .leaf))))) Tryz.func148 (by kernel_rfl) (by kernel_rfl) (by kernel_rfl) (by kernel_rfl : F_s_TableOk R a0 H = _) h
def F_s_l02Copy (R : V → Heap → Prop) (a0 : V) (H : Heap) : Prop :=
  boxK a0 (bnd (fillZ [.nils] []) fun c1 =>
  bnd (stz 1 [.nils] 0 (.agg c1)) fun c2 =>
  ∃ (I3 : Nat → List V → Heap → Prop) (n4 : Nat), Shr (I3 n4 [(.box (cellsOf a0)), (.box [.nils]), (.box c2), (.int .i64 0)]) H ∧
  ∀ n5 xs7 H8, I3 n5 xs7 H8 →
  bnd (partOf false 1 (bc (xs7.headD .any)) 0) fun t9 =>
  bnd (lenOf t9) fun n10 =>
  bnd (aBinN .lss (xs7.tail.tail.tail.headD .any) (.int .i64 (n10 : Nat))) fun t11 =>
  cnd t11
  (bnd (partOf false 1 (bc (xs7.tail.tail.headD .any)) 0) fun t12 =>
  bnd (partOf false 1 (bc (xs7.headD .any)) 0) fun t13 =>
  bnd (aIndex H8 3 t13 (xs7.tail.tail.tail.headD .any)) fun t14 =>
  bnd (aLd true 3 H8 t14) fun t15 =>
  bnd (bsl 3 1 [(.int .i64 0), (.int .i64 0), (.int .i64 0)] [(0, t15)]) fun r16 =>
  ∀ o17, H8 o17 = none →
  bnd (rowsOf (upd H8 o17 ⟨3, r16⟩) 3 (.slice o17 0 1 (some 1))) fun r20 =>
  appendK (upd H8 o17 ⟨3, r16⟩) 3 24 t12 r20 fun v18 H19 =>
  bnd (stz 1 (bc (xs7.tail.tail.headD .any)) 0 v18) fun c21 =>
  bnd (aBinN .add (xs7.tail.tail.tail.headD .any) (.int .i64 1)) fun t22 =>
  ∃ n6, n6 < n5 ∧ Shr (I3 n6 [(.box (bc (xs7.headD .any))), (.box (bc (xs7.tail.headD .any))), (.box c21), t22]) H19)
  (bnd (partOf true 1 (bc (xs7.tail.tail.headD .any)) 0) fun t23 =>
  bnd (stz 1 (bc (xs7.tail.headD .any)) 0 t23) fun c24 =>
  bnd (partOf true 1 c24 0) fun t25 =>
  Ret R t25 H8))
theorem W_s_l02Copy {R : V → Heap → Prop} {a0 : V} {H : Heap} (h : F_s_l02Copy R a0 H) : ACalls P n_s_l02Copy [a0] H R :=
  acalls_of_form (g := ⟨[1, 2, 3], [7, 13, 15, 22]⟩) (x := (.seq .leaf (.seq .leaf (.seq (.seq .leaf (.block (.loop [1, 2, 3, 4] (.seq (.seq .leaf (.cond .leaf .leaf)) (.seq (.block (.drawh [0, 1, 2, 3, 4, 5, 6, 7, 8, 9, 10])) .leaf))))) (.seq .leaf .leaf))))) Tryz.func149 (by kernel_rfl) (by kernel_rfl) (by kernel_rfl) (by kernel_rfl : F_s_l02Copy R a0 H = _) h
def F_s_l02Less (R : V → Heap → Prop) (a0 a1 : V) (H : Heap) : Prop :=
  boxK a0 (boxK a1 (bnd (fillZ [.nils] []) fun c1 =>
  bnd (stz 1 [.nils] 0 (.agg c1)) fun c2 =>
  ∃ (I3 : Nat → List V → Heap → Prop) (n4 : Nat), Shr (I3 n4 [(.box (cellsOf a0)), (.box (cellsOf a1)), (.box [.nils]), (.box c2), (.int .i64 0)]) H ∧
  ∀ n5 xs7 H8, I3 n5 xs7 H8 →
  bnd (partOf false 1 (bc (xs7.headD .any)) 0) fun t9 =>
  bnd (lenOf t9) fun n10 =>
  bnd (aBinN .lss (xs7.tail.tail.tail.tail.headD .any) (.int .i64 (n10 : Nat))) fun t11 =>
  cnd t11
  (∃ S12, Abs.sub S12 H8 ∧
  bnd (partOf false 1 (bc (xs7.headD .any)) 0) fun t13 =>
  bnd (aIndex S12 3 t13 (xs7.tail.tail.tail.tail.headD .any)) fun t14 =>
  bnd (aField 0 t14) fun t15 =>
  bnd (aLd true 2 S12 t15) fun t16 =>
  bnd (partOf true 2 (bc (xs7.tail.headD .any)) 0) fun t17 =>
  bnd (aBin P .neq 99 t16 t17) fun t18 =>
  cnd t18
  (bnd (partOf false 1 (bc (xs7.tail.tail.tail.headD .any)) 0) fun t19 =>
  bnd (partOf false 1 (bc (xs7.headD .any)) 0) fun t20 =>
  bnd (aIndex H8 3 t20 (xs7.tail.tail.tail.tail.headD .any)) fun t21 =>
  bnd (aLd true 3 H8 t21) fun t22 =>
  bnd (bsl 3 1 [(.int .i64 0), (.int .i64 0), (.int .i64 0)] [(0, t22)]) fun r23 =>
  ∀ o24, H8 o24 = none →
  bnd (rowsOf (upd H8 o24 ⟨3, r23⟩) 3 (.slice o24 0 1 (some 1))) fun r27 =>
  appendK (upd H8 o24 ⟨3, r23⟩) 3 24 t19 r27 fun v25 H26 =>
  bnd (stz 1 (bc (xs7.tail.tail.tail.headD .any)) 0 v25) fun c28 =>
  bnd (aBinN .add (xs7.tail.tail.tail.tail.headD .any) (.int .i64 1)) fun t29 =>
  ∃ n6, n6 < n5 ∧ Shr (I3 n6 [(.box (bc (xs7.headD .any))), (.box (bc (xs7.tail.headD .any))), (.box (bc (xs7.tail.tail.headD .any))), (.box c28), t29]) H26)
  (bnd (aBinN .add (xs7.tail.tail.tail.tail.headD .any) (.int .i64 1)) fun t30 =>
  ∃ n6, n6 < n5 ∧ Shr (I3 n6 [(.box (bc (xs7.headD .any))), (.box (bc (xs7.tail.headD .any))), (.box (bc (xs7.tail.tail.headD .any))), (.box (bc (xs7.tail.tail.tail.headD .any))), t30]) H8))
  (bnd (partOf true 1 (bc (xs7.tail.tail.tail.headD .any)) 0) fun t31 =>
  bnd (stz 1 (bc (xs7.tail.tail.headD .any)) 0 t31) fun c32 =>
  bnd (partOf true 1 c32 0) fun t33 =>
  Ret R t33 H8)))
theorem W_s_l02Less {R : V → Heap → Prop} {a0 a1 : V} {H : Heap} (h : F_s_l02Less R a0 a1 H) : ACalls P n_s_l02Less [a0, a1] H R :=
  acalls_of_form (g := ⟨[2, 3, 4, 5], [9, 15, 23, 25, 32]⟩) (x := (.seq .leaf (.seq .leaf (.seq (.seq .leaf (.block (.loop [2, 3, 4, 5, 6] (.seq (.seq .leaf (.cond .leaf .leaf)) (.seq (.block (.seq (.draw [0, 1, 2, 3, 4, 5, 6, 7]) (.cond (.drawh [0, 1, 2, 3, 4, 5, 6, 7, 8, 9, 10]) .leaf))) .leaf))))) (.seq .leaf .leaf))))) Tryz.func150 (by kernel_rfl) (by kernel_rfl) (by kernel_rfl) (by kernel_rfl : F_s_l02Less R a0 a1 H = _) h
theorem X_slices_overlaps_i_Edge : ovE P n_slices_overlaps_i_Edge := ⟨Tryz.f126, 24, 4, 95, 3, Tryz.func126, by kernel_rfl, by kernel_rfl, by kernel_rfl, by kernel_rfl, by kernel_rfl, by kernel_rfl⟩
theorem X_slices_overlaps_i_Lsa : ovE P n_slices_overlaps_i_Lsa := ⟨Tryz.f128, 46, 4, 41, 5, Tryz.func128, by kernel_rfl, by kernel_rfl, by kernel_rfl, by kernel_rfl, by kernel_rfl, by kernel_rfl⟩
theorem Q_neq_Prefix {x0 y0 : Int} {x1 y1 : Int} : aBin P .neq 99 (.agg [.int .i64 x0, .int .i64 x1]) (.agg [.int .i64 y0, .int .i64 y1]) = some (.bool (!((x0 == y0) && ((x1 == y1) && true)))) := by kernel_rfl
end Go.Proofs.YtohicpepcjgnaaaGreat
