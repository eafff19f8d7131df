/-
The shallow forms of the functions; printed by a program.
-/
import Derived.Test.YtaippfedjjjpeaaGreatAbs3
import Derived.Test.YtaippfedjjjpeaaGreatProg
import Derived.KernelRfl
set_option linter.all false
namespace Go.Proofs.YtaippfedjjjpeaaGreat
open Go Go.Abs Go.Proofs
set_option maxRecDepth 100000
noncomputable abbrev P : Program := Tryz.prog
abbrev n_gosem_cut_init : FuncId := 2
abbrev n_l_FnExactPrefixesOf : FuncId := 3
abbrev n_l_FnWalks : FuncId := 4
abbrev n_l_FnExactTableFor : FuncId := 5
abbrev n_l_FnExactTablesOf : FuncId := 6
abbrev n_l_szDb : FuncId := 7
abbrev n_s_PrefixesOf : FuncId := 8
abbrev n_l_toDb : FuncId := 9
abbrev n_i_PrefixesOf : FuncId := 10
abbrev n_l_eqRouteS : FuncId := 11
abbrev n_l_eqDb : FuncId := 12
abbrev n_l_markDb : FuncId := 13
abbrev n_l_markRouteS : FuncId := 14
abbrev n_l_heldRouteS : FuncId := 15
abbrev n_l_big : FuncId := 16
abbrev n_s_DrawPrefixesOf : FuncId := 17
abbrev n_s_GraphOf : FuncId := 18
abbrev n_i_TableFor : FuncId := 19
abbrev n_s_TableFor : FuncId := 20
abbrev n_s_HasAddr : FuncId := 21
abbrev n_i_LoopsAt : FuncId := 22
abbrev n_l_same : FuncId := 23
abbrev n_i_Sinks : FuncId := 24
abbrev n_s_Distances : FuncId := 25
abbrev n_i_Walk : FuncId := 26
abbrev n_i_WalkCost : FuncId := 27
abbrev n_i_CountHome : FuncId := 28
abbrev n_l_eqTable : FuncId := 29
abbrev n_l_markTable : FuncId := 30
abbrev n_l_heldTable : FuncId := 31
abbrev n_l_szNet : FuncId := 32
abbrev n_s_TablesOf : FuncId := 33
abbrev n_l_toNet : FuncId := 34
abbrev n_i_TablesOf : FuncId := 35
abbrev n_l_eqTableS : FuncId := 36
abbrev n_l_eqNet : FuncId := 37
abbrev n_l_markNet : FuncId := 38
abbrev n_l_markTableS : FuncId := 39
abbrev n_l_heldTableS : FuncId := 40
abbrev n_l_szLsaS : FuncId := 41
abbrev n_s_l01In : FuncId := 42
abbrev n_s_PutRoute : FuncId := 43
abbrev n_s_HopsTo : FuncId := 44
abbrev n_l_toLsaS : FuncId := 45
abbrev n_i_GraphOf : FuncId := 46
abbrev n_i_within : FuncId := 47
abbrev n_i_Graph_all : FuncId := 48
abbrev n_i_Db_stubsOf : FuncId := 49
abbrev n_i_Db_nearest : FuncId := 50
abbrev n_slices_Contains_int_int : FuncId := 51
abbrev n_i_Graph_hopsTo : FuncId := 52
abbrev n_slices_Min_int_int : FuncId := 53
abbrev n_l_eqRoute : FuncId := 54
abbrev n_l_eqLsaS : FuncId := 55
abbrev n_l_markLsaS : FuncId := 56
abbrev n_s_l06Draw : FuncId := 57
abbrev n_s_l01PickInt : FuncId := 58
abbrev n_s_l01Below : FuncId := 59
abbrev n_s_DbOk : FuncId := 60
abbrev n_s_l06Says : FuncId := 61
abbrev n_s_GraphOk : FuncId := 62
abbrev n_s_PrefixOk : FuncId := 63
abbrev n_s_l01Size2 : FuncId := 64
abbrev n_i_nodesWith : FuncId := 65
abbrev n_s_l03Node : FuncId := 66
abbrev n_i_areTables : FuncId := 67
abbrev n_i_walk : FuncId := 68
abbrev n_i_WayCost : FuncId := 69
abbrev n_l_szGraph : FuncId := 70
abbrev n_l_szDbS : FuncId := 71
abbrev n_l_szMsgS : FuncId := 72
abbrev n_s_NetOk : FuncId := 73
abbrev n_l_toGraph : FuncId := 74
abbrev n_l_toDbS : FuncId := 75
abbrev n_l_toMsgS : FuncId := 76
abbrev n_i_NetOk : FuncId := 77
abbrev n_l_eqGraph : FuncId := 78
abbrev n_l_eqDbS : FuncId := 79
abbrev n_l_eqMsgS : FuncId := 80
abbrev n_l_markGraph : FuncId := 81
abbrev n_l_markDbS : FuncId := 82
abbrev n_l_markMsgS : FuncId := 83
abbrev n_l_szLsa : FuncId := 84
abbrev n_s_TableOk : FuncId := 85
abbrev n_s_l02Copy : FuncId := 86
abbrev n_s_l02Less : FuncId := 87
abbrev n_s_l02Ahead : FuncId := 88
abbrev n_s_l03Cost : FuncId := 89
abbrev n_l_toLsa : FuncId := 90
abbrev n_i_DbOk : FuncId := 91
abbrev n_i_Db_hasLink : FuncId := 92
abbrev n_i_Graph_distances : FuncId := 93
abbrev n_slices_SortFunc_i_Prefix_i_Prefix : FuncId := 94
abbrev n_i_comparePrefixes : FuncId := 95
abbrev n_slices_Compact_i_Prefix_i_Prefix : FuncId := 96
abbrev n_slices_Index_int_int : FuncId := 97
abbrev n_l_eqPrefix : FuncId := 98
abbrev n_l_eqLsa : FuncId := 99
abbrev n_l_markLinkS : FuncId := 100
abbrev n_l_markStubS : FuncId := 101
abbrev n_s_l01New : FuncId := 102
abbrev n_s_l06DrawDb : FuncId := 103
abbrev n_s_l01Size : FuncId := 104
abbrev n_s_l01Once : FuncId := 105
abbrev n_s_l05Bend : FuncId := 106
abbrev n_s_l01Byte : FuncId := 107
abbrev n_s_LsaOk : FuncId := 108
abbrev n_s_FindLsa : FuncId := 109
abbrev n_s_l01Addr : FuncId := 110
abbrev n_i_isAddr : FuncId := 111
abbrev n_slices_ContainsFunc_i_Table_i_Table : FuncId := 112
abbrev n_i_areTables_1 : FuncId := 113
abbrev n_i_TableOk : FuncId := 114
abbrev n_i_best : FuncId := 115
abbrev n_i_GraphOk : FuncId := 116
abbrev n_i_Graph_isNode : FuncId := 117
abbrev n_i_Graph_cost : FuncId := 118
abbrev n_l_szEdgeS : FuncId := 119
abbrev n_l_szMsg : FuncId := 120
abbrev n_s_l08Pairs : FuncId := 121
abbrev n_l_toEdgeS : FuncId := 122
abbrev n_l_toMsg : FuncId := 123
abbrev n_i_isNetwork : FuncId := 124
abbrev n_slices_ContainsFunc_i_Db_i_Db : FuncId := 125
abbrev n_i_NetOk_1 : FuncId := 126
abbrev n_slices_ContainsFunc_i_Msg_i_Msg : FuncId := 127
abbrev n_i_NetOk_2 : FuncId := 128
abbrev n_i_LsaOk : FuncId := 129
abbrev n_l_eqEdgeS : FuncId := 130
abbrev n_l_eqMsg : FuncId := 131
abbrev n_l_markEdgeS : FuncId := 132
abbrev n_l_szLinkS : FuncId := 133
abbrev n_l_szStubS : FuncId := 134
abbrev n_l_toLinkS : FuncId := 135
abbrev n_l_toStubS : FuncId := 136
abbrev n_i_Db_find : FuncId := 137
abbrev n_slices_ContainsFunc_i_Link_i_Link : FuncId := 138
abbrev n_i_Db_hasLink_1 : FuncId := 139
abbrev n_slices_Repeat_int_int : FuncId := 140
abbrev n_slices_pdqsortCmpFunc_i_Prefix : FuncId := 141
abbrev n_math_bits_Len : FuncId := 142
abbrev n_l_eqLinkS : FuncId := 143
abbrev n_l_eqStubS : FuncId := 144
abbrev n_s_l03DrawGraph : FuncId := 145
abbrev n_s_l05DrawStubs : FuncId := 146
abbrev n_s_l05Copy : FuncId := 147
abbrev n_s_l01DrawPrefix : FuncId := 148
abbrev n_slices_IndexFunc_i_Table_i_Table : FuncId := 149
abbrev n_i_isRoute : FuncId := 150
abbrev n_i_Prefix_has : FuncId := 151
abbrev n_i_compareEdges : FuncId := 152
abbrev n_l_toEdge : FuncId := 153
abbrev n_slices_ContainsFunc_i_Edge_i_Edge : FuncId := 154
abbrev n_i_isNetwork_1 : FuncId := 155
abbrev n_slices_IndexFunc_i_Db_i_Db : FuncId := 156
abbrev n_slices_IndexFunc_i_Msg_i_Msg : FuncId := 157
abbrev n_i_areLinks : FuncId := 158
abbrev n_i_areStubs : FuncId := 159
abbrev n_l_eqEdge : FuncId := 160
abbrev n_l_toLink : FuncId := 161
abbrev n_l_toStub : FuncId := 162
abbrev n_slices_BinarySearchFunc_i_Lsa_i_Lsa_int : FuncId := 163
abbrev n_i_Db_find_1 : FuncId := 164
abbrev n_cmp_Compare_int : FuncId := 165
abbrev n_slices_IndexFunc_i_Link_i_Link : FuncId := 166
abbrev n_math_bits_Mul : FuncId := 167
abbrev n_slices_insertionSortCmpFunc_i_Prefix : FuncId := 168
abbrev n_slices_heapSortCmpFunc_i_Prefix : FuncId := 169
abbrev n_slices_breakPatternsCmpFunc_i_Prefix : FuncId := 170
abbrev n_slices_choosePivotCmpFunc_i_Prefix : FuncId := 171
abbrev n_slices_reverseRangeCmpFunc_i_Prefix : FuncId := 172
abbrev n_slices_partialInsertionSortCmpFunc_i_Prefix : FuncId := 173
abbrev n_slices_partitionEqualCmpFunc_i_Prefix : FuncId := 174
abbrev n_slices_partitionCmpFunc_i_Prefix : FuncId := 175
abbrev n_math_bits_Len32 : FuncId := 176
abbrev n_math_bits_Len64 : FuncId := 177
abbrev n_l_eqLink : FuncId := 178
abbrev n_l_eqStub : FuncId := 179
abbrev n_s_l03Put : FuncId := 180
abbrev n_i_PrefixOk : FuncId := 181
abbrev n_i_Prefix_size : FuncId := 182
abbrev n_slices_IndexFunc_i_Edge_i_Edge : FuncId := 183
abbrev n_l_toPrefix : FuncId := 184
abbrev n_cmp_isNaN_int : FuncId := 185
abbrev n_math_bits_Mul32 : FuncId := 186
abbrev n_math_bits_Mul64 : FuncId := 187
abbrev n_slices_siftDownCmpFunc_i_Prefix : FuncId := 188
abbrev n_slices_nextPowerOfTwo : FuncId := 189
abbrev n_p_slices_xorshift_Next : FuncId := 190
abbrev n_slices_medianAdjacentCmpFunc_i_Prefix : FuncId := 191
abbrev n_slices_medianCmpFunc_i_Prefix : FuncId := 192
abbrev n_slices_order2CmpFunc_i_Prefix : FuncId := 193
def F_l_FnWalks (R : V → Heap → Prop) (a0 : V) (H : Heap) : Prop :=
  ACalls P n_l_big [a0] H fun v1 H2 =>
  cnd v1
  (Ret R (.bool true) H2)
  (ACalls P n_s_DrawPrefixesOf [a0] H2 fun v3 H4 =>
  bnd (aExtract 0 v3) fun t5 =>
  bnd (aExtract 1 v3) fun t6 =>
  bnd (stz 1 [.nils] 0 t5) fun c7 =>
  bnd (partOf true 1 c7 0) fun t8 =>
  ACalls P n_s_GraphOf [t8] H4 fun v9 H10 =>
  bnd (aExtract 0 v9) fun t11 =>
  bnd (aExtract 1 v9) fun t12 =>
  bnd (stz 2 [(.int .i64 0), .nils] 0 t11) fun c13 =>
  bnd (aNot t12) fun t14 =>
  cnd t14
  (Ret R (.bool true) H10)
  (bnd (bsl 1 0 [.nils] []) fun r15 =>
  ∀ o16, H10 o16 = none →
  ∃ (I17 : Nat → List V → Heap → Prop) (n18 : Nat), Shr (I17 n18 [(.box c7), (.box c13), (.slice o16 0 0 (some 0)), (.int .i64 0)]) (upd H10 o16 ⟨1, r15⟩) ∧
  ∀ n19 xs21 H22, I17 n19 xs21 H22 →
  bnd (aBinN .lss (xs21.tail.tail.tail.headD .any) (.int .i64 10)) fun t23 =>
  cnd t23
  (bnd (partOf true 1 (bc (xs21.headD .any)) 0) fun t24 =>
  ACalls P n_i_TableFor [t24, (xs21.tail.tail.tail.headD .any)] H22 fun v25 H26 =>
  bnd (aExtract 0 v25) fun t27 =>
  bnd (aExtract 1 v25) fun t28 =>
  bnd (stz 1 [.nils] 0 t27) fun c29 =>
  bnd (partOf true 1 (bc (xs21.headD .any)) 0) fun t30 =>
  ACalls P n_s_TableFor [t30, (xs21.tail.tail.tail.headD .any)] H26 fun v31 H32 =>
  bnd (aExtract 0 v31) fun t33 =>
  bnd (aExtract 1 v31) fun t34 =>
  bnd (stz 1 [.nils] 0 t33) fun c35 =>
  bnd (aBinB .neq t28 t34) fun t36 =>
  gd t36 false
  (bnd (aNot t34) fun t37 =>
  gd t37 false
  (bnd (partOf false 1 c29 0) fun t38 =>
  bnd (lenOf t38) fun n39 =>
  bnd (partOf false 1 c35 0) fun t40 =>
  bnd (lenOf t40) fun n41 =>
  bnd (aBinN .neq (.int .i64 (n39 : Nat)) (.int .i64 (n41 : Nat))) fun t42 =>
  cnd t42
  (Ret R (.bool false) H32)
  (bnd (partOf true 1 c29 0) fun t43 =>
  bnd (bsl 1 1 [.nils] [(0, t43)]) fun r44 =>
  ∀ o45, H32 o45 = none →
  bnd (rowsOf (upd H32 o45 ⟨1, r44⟩) 1 (.slice o45 0 1 (some 1))) fun r48 =>
  appendK (upd H32 o45 ⟨1, r44⟩) 1 24 (xs21.tail.tail.headD .any) r48 fun v46 H47 =>
  bnd (aBinN .add (xs21.tail.tail.tail.headD .any) (.int .i64 1)) fun t49 =>
  ∃ n20, n20 < n19 ∧ Shr (I17 n20 [(.box (bc (xs21.headD .any))), (.box (bc (xs21.tail.headD .any))), v46, t49]) H47))
  (Ret R (.bool false) H32))
  (Ret R (.bool false) H32))
  (∃ (I50 : Nat → List V → Heap → Prop) (n51 : Nat), Shr (I50 n51 [(.int .i64 0)]) H22 ∧
  ∀ n52 xs54 H55, I50 n52 xs54 H55 →
  bnd (partOf false 1 (bc (xs21.headD .any)) 0) fun t56 =>
  bnd (lenOf t56) fun n57 =>
  bnd (aBinN .lss (xs54.headD .any) (.int .i64 (n57 : Nat))) fun t58 =>
  cnd t58
  (∃ (I59 : Nat → List V → Heap → Prop) (n60 : Nat), Shr (I59 n60 [(.int .i64 0)]) H55 ∧
  ∀ n61 xs63 H64, I59 n61 xs63 H64 →
  bnd (partOf false 1 (bc (xs21.headD .any)) 0) fun t65 =>
  bnd (aIndex H64 5 t65 (xs54.headD .any)) fun t66 =>
  bnd (aField 4 t66) fun t67 =>
  bnd (aLd false 1 H64 t67) fun t68 =>
  bnd (lenOf t68) fun n69 =>
  bnd (aBinN .lss (xs63.headD .any) (.int .i64 (n69 : Nat))) fun t70 =>
  cnd t70
  (bnd (partOf false 1 (bc (xs21.headD .any)) 0) fun t71 =>
  bnd (aIndex H64 5 t71 (xs54.headD .any)) fun t72 =>
  bnd (aField 4 t72) fun t73 =>
  bnd (aLd false 1 H64 t73) fun t74 =>
  bnd (aIndex H64 3 t74 (xs63.headD .any)) fun t75 =>
  bnd (aField 0 t75) fun t76 =>
  bnd (aField 0 t76) fun t77 =>
  bnd (aLd false 1 H64 t77) fun t78 =>
  bnd (bsl 1 0 [(.int .i64 0)] []) fun r79 =>
  ∀ o80, H64 o80 = none →
  ∃ (I81 : Nat → List V → Heap → Prop) (n82 : Nat), Shr (I81 n82 [(.slice o80 0 0 (some 0)), (.int .i64 0)]) (upd H64 o80 ⟨1, r79⟩) ∧
  ∀ n83 xs85 H86, I81 n83 xs85 H86 →
  bnd (partOf false 1 (bc (xs21.headD .any)) 0) fun t87 =>
  bnd (lenOf t87) fun n88 =>
  bnd (aBinN .lss (xs85.tail.headD .any) (.int .i64 (n88 : Nat))) fun t89 =>
  cnd t89
  (∃ (I90 : Nat → List V → Heap → Prop) (n91 : Nat), Shr (I90 n91 [(xs85.headD .any), (.int .i64 0)]) H86 ∧
  ∀ n92 xs94 H95, I90 n92 xs94 H95 →
  bnd (partOf false 1 (bc (xs21.headD .any)) 0) fun t96 =>
  bnd (aIndex H95 5 t96 (xs85.tail.headD .any)) fun t97 =>
  bnd (aField 4 t97) fun t98 =>
  bnd (aLd false 1 H95 t98) fun t99 =>
  bnd (lenOf t99) fun n100 =>
  bnd (aBinN .lss (xs94.tail.headD .any) (.int .i64 (n100 : Nat))) fun t101 =>
  cnd t101
  (bnd (partOf false 1 (bc (xs21.headD .any)) 0) fun t102 =>
  bnd (aIndex H95 5 t102 (xs85.tail.headD .any)) fun t103 =>
  bnd (aField 4 t103) fun t104 =>
  bnd (aLd false 1 H95 t104) fun t105 =>
  bnd (aIndex H95 3 t105 (xs94.tail.headD .any)) fun t106 =>
  bnd (aField 0 t106) fun t107 =>
  bnd (aLd true 2 H95 t107) fun t108 =>
  ACalls P n_s_HasAddr [t108, t78] H95 fun v109 H110 =>
  cnd v109
  (bnd (partOf false 1 (bc (xs21.headD .any)) 0) fun t111 =>
  bnd (aIndex H110 5 t111 (xs85.tail.headD .any)) fun t112 =>
  bnd (aField 0 t112) fun t113 =>
  bnd (aLd false 1 H110 t113) fun t114 =>
  bnd (bsl 1 1 [(.int .i64 0)] [(0, t114)]) fun r115 =>
  ∀ o116, H110 o116 = none →
  bnd (rowsOf (upd H110 o116 ⟨1, r115⟩) 1 (.slice o116 0 1 (some 1))) fun r119 =>
  appendK (upd H110 o116 ⟨1, r115⟩) 1 8 (xs94.headD .any) r119 fun v117 H118 =>
  bnd (aBinN .add (xs94.tail.headD .any) (.int .i64 1)) fun t120 =>
  ∃ n93, n93 < n92 ∧ Shr (I90 n93 [v117, t120]) H118)
  (bnd (aBinN .add (xs94.tail.headD .any) (.int .i64 1)) fun t121 =>
  ∃ n93, n93 < n92 ∧ Shr (I90 n93 [(xs94.headD .any), t121]) H110))
  (bnd (aBinN .add (xs85.tail.headD .any) (.int .i64 1)) fun t122 =>
  ∃ n84, n84 < n83 ∧ Shr (I81 n84 [(xs94.headD .any), t122]) H95))
  (bnd (lenOf (xs85.headD .any)) fun n123 =>
  bnd (aBinN .neq (.int .i64 (n123 : Nat)) (.int .i64 1)) fun t124 =>
  cnd t124
  (bnd (aBinN .add (xs63.headD .any) (.int .i64 1)) fun t125 =>
  ∃ n62, n62 < n61 ∧ Shr (I59 n62 [t125]) H86)
  (bnd (aIndex H86 1 (xs85.headD .any) (.int .i64 0)) fun t126 =>
  bnd (aLd false 1 H86 t126) fun t127 =>
  ACalls P n_i_LoopsAt [(xs21.tail.tail.headD .any), t78] H86 fun v128 H129 =>
  bnd (lenOf v128) fun n130 =>
  bnd (aBinN .neq (.int .i64 (n130 : Nat)) (.int .i64 0)) fun t131 =>
  gd t131 false
  (ACalls P n_i_Sinks [(xs21.tail.tail.headD .any), t78] H129 fun v132 H133 =>
  bnd (bsl 1 1 [(.int .i64 0)] [(0, t127)]) fun r134 =>
  ∀ o135, H133 o135 = none →
  ACalls P n_l_same [v132, (.slice o135 0 1 (some 1))] (upd H133 o135 ⟨1, r134⟩) fun v136 H137 =>
  bnd (aNot v136) fun t138 =>
  cnd t138
  (Ret R (.bool false) H137)
  (∃ (I139 : Nat → List V → Heap → Prop) (n140 : Nat), Shr (I139 n140 [(.int .i64 0), (.int .i64 0)]) H137 ∧
  ∀ n141 xs143 H144, I139 n141 xs143 H144 →
  bnd (aBinN .lss (xs143.tail.headD .any) (.int .i64 10)) fun t145 =>
  cnd t145
  (bnd (partOf true 2 (bc (xs21.tail.headD .any)) 0) fun t146 =>
  ACalls P n_s_Distances [t146, (xs143.tail.headD .any)] H144 fun v147 H148 =>
  bnd (aIndex H148 1 v147 t127) fun t149 =>
  bnd (aLd false 1 H148 t149) fun t150 =>
  ACalls P n_i_Walk [(xs21.tail.tail.headD .any), (xs143.tail.headD .any), t78, (.int .i64 16)] H148 fun v151 H152 =>
  bnd (aExtract 0 v151) fun t153 =>
  bnd (aExtract 1 v151) fun t154 =>
  bnd (aBinN .eql t150 (.int .i64 1000000)) fun t155 =>
  cnd t155
  (bnd (aBinN .neq t154 (.int .i64 1)) fun t156 =>
  cnd t156
  (Ret R (.bool false) H152)
  (bnd (aBinN .add (xs143.tail.headD .any) (.int .i64 1)) fun t157 =>
  ∃ n142, n142 < n141 ∧ Shr (I139 n142 [(xs143.headD .any), t157]) H152))
  (bnd (aBinN .add (xs143.headD .any) (.int .i64 1)) fun t158 =>
  bnd (aBinN .neq t154 (.int .i64 0)) fun t159 =>
  gd t159 false
  (bnd (lenOf t153) fun n160 =>
  bnd (aBinN .eql (.int .i64 (n160 : Nat)) (.int .i64 0)) fun t161 =>
  gd t161 false
  (bnd (lenOf t153) fun n162 =>
  bnd (aBinN .sub (.int .i64 (n162 : Nat)) (.int .i64 1)) fun t163 =>
  bnd (aIndex H152 1 t153 t163) fun t164 =>
  bnd (aLd false 1 H152 t164) fun t165 =>
  bnd (aBinN .neq t165 t127) fun t166 =>
  gd t166 false
  (bnd (partOf true 2 (bc (xs21.tail.headD .any)) 0) fun t167 =>
  ACalls P n_i_WalkCost [t167, t153] H152 fun v168 H169 =>
  bnd (aBinN .neq v168 t150) fun t170 =>
  cnd t170
  (Ret R (.bool false) H169)
  (bnd (aBinN .add (xs143.tail.headD .any) (.int .i64 1)) fun t171 =>
  ∃ n142, n142 < n141 ∧ Shr (I139 n142 [t158, t171]) H169))
  (Ret R (.bool false) H152))
  (Ret R (.bool false) H152))
  (Ret R (.bool false) H152)))
  (ACalls P n_i_CountHome [(xs21.tail.tail.headD .any), t78] H144 fun v172 H173 =>
  bnd (aBinN .neq v172 (xs143.headD .any)) fun t174 =>
  cnd t174
  (Ret R (.bool false) H173)
  (bnd (aBinN .add (xs63.headD .any) (.int .i64 1)) fun t175 =>
  ∃ n62, n62 < n61 ∧ Shr (I59 n62 [t175]) H173))))
  (Ret R (.bool false) H129))))
  (bnd (aBinN .add (xs54.headD .any) (.int .i64 1)) fun t176 =>
  ∃ n53, n53 < n52 ∧ Shr (I50 n53 [t176]) H64))
  (Ret R (.bool true) H55))))
theorem W_l_FnWalks {R : V → Heap → Prop} {a0 : V} {H : Heap} (h : F_l_FnWalks R a0 H) : ACalls P n_l_FnWalks [a0] H R :=
  acalls_of_form (g := ⟨[3, 5, 9, 11], [64, 67, 77, 84, 94, 107, 114, 124, 137]⟩) (x := (.seq .leaf (.seq (.seq .leaf (.cond (.seq .leaf .leaf) .leaf)) (.seq .leaf (.seq .leaf (.seq (.seq .leaf (.cond (.seq .leaf .leaf) .leaf)) (.seq .leaf (.seq (.seq .leaf (.block (.loop [3, 5, 7, 8] (.seq (.seq .leaf (.cond .leaf .leaf)) (.seq (.block (.seq .leaf (.seq .leaf (.seq (.seq .leaf (.cond (.seq .leaf .leaf) .leaf)) .leaf)))) .leaf))))) (.seq (.seq .leaf (.block (.loop [13] (.seq (.seq .leaf (.cond .leaf .leaf)) (.seq (.block (.seq .leaf (.block (.loop [14] (.seq (.seq .leaf (.cond .leaf .leaf)) (.seq (.block (.seq .leaf (.seq .leaf (.seq (.seq .leaf (.block (.loop [16, 17] (.seq (.seq .leaf (.cond .leaf .leaf)) (.seq (.block (.seq .leaf (.block (.loop [16, 18] (.seq (.seq .leaf (.cond .leaf .leaf)) (.seq (.block (.seq .leaf (.cond .leaf .leaf))) .leaf)))))) .leaf))))) (.seq (.seq .leaf (.cond .leaf .leaf)) (.seq .leaf (.seq (.seq .leaf (.cond (.seq .leaf .leaf) .leaf)) (.seq .leaf (.seq (.seq .leaf (.block (.loop [20, 21] (.seq (.seq .leaf (.cond .leaf .leaf)) (.seq (.block (.seq .leaf (.seq .leaf (.seq (.seq .leaf (.cond (.seq (.seq .leaf (.cond (.seq .leaf .leaf) .leaf)) .leaf) .leaf)) (.seq .leaf (.seq .leaf (.cond (.seq .leaf .leaf) .leaf))))))) .leaf))))) (.seq .leaf (.cond (.seq .leaf .leaf) .leaf))))))))))) .leaf)))))) .leaf))))) (.seq .leaf .leaf)))))))))) Tryz.func4 (by kernel_rfl) (by kernel_rfl) (by kernel_rfl) (by kernel_rfl : F_l_FnWalks R a0 H = _) h
def F_s_PrefixesOf (R : V → Heap → Prop) (a0 a1 : V) (H : Heap) : Prop :=
  boxK a0 (bnd (partOf true 1 (cellsOf a0) 0) fun t1 =>
  ACalls P n_s_GraphOf [t1] H fun v2 H3 =>
  bnd (aExtract 0 v2) fun t4 =>
  bnd (aExtract 1 v2) fun t5 =>
  bnd (stz 2 [(.int .i64 0), .nils] 0 t4) fun c6 =>
  bnd (aNot t5) fun t7 =>
  gd t7 false
  (ACalls P n_s_l01In [a1, (.int .i64 0), (.int .i64 9)] H3 fun v8 H9 =>
  bnd (aNot v8) fun t10 =>
  cnd t10
  (Ret R (.tup [.nils, (.bool false)]) H9)
  (bnd (partOf true 2 c6 0) fun t11 =>
  ACalls P n_s_Distances [t11, a1] H9 fun v12 H13 =>
  bnd (fillZ [.nils] []) fun c14 =>
  bnd (stz 1 [.nils] 0 (.agg c14)) fun c15 =>
  ∃ (I16 : Nat → List V → Heap → Prop) (n17 : Nat), Shr (I16 n17 [(.box (cellsOf a0)), (.box c6), (.box c15), (.int .i64 0)]) H13 ∧
  ∀ n18 xs20 H21, I16 n18 xs20 H21 →
  bnd (partOf false 1 (bc (xs20.headD .any)) 0) fun t22 =>
  bnd (lenOf t22) fun n23 =>
  bnd (aBinN .lss (xs20.tail.tail.tail.headD .any) (.int .i64 (n23 : Nat))) fun t24 =>
  cnd t24
  (∃ (I25 : Nat → List V → Heap → Prop) (n26 : Nat), Shr (I25 n26 [(.box (bc (xs20.headD .any))), (.box (bc (xs20.tail.headD .any))), (.box (bc (xs20.tail.tail.headD .any))), (.int .i64 0)]) H21 ∧
  ∀ n27 xs29 H30, I25 n27 xs29 H30 →
  bnd (partOf false 1 (bc (xs29.headD .any)) 0) fun t31 =>
  bnd (aIndex H30 5 t31 (xs20.tail.tail.tail.headD .any)) fun t32 =>
  bnd (aField 4 t32) fun t33 =>
  bnd (aLd false 1 H30 t33) fun t34 =>
  bnd (lenOf t34) fun n35 =>
  bnd (aBinN .lss (xs29.tail.tail.tail.headD .any) (.int .i64 (n35 : Nat))) fun t36 =>
  cnd t36
  (∃ S37, Abs.sub S37 H30 ∧
  bnd (partOf true 1 (bc (xs29.tail.tail.headD .any)) 0) fun t38 =>
  bnd (partOf false 1 (bc (xs29.headD .any)) 0) fun t39 =>
  bnd (aIndex S37 5 t39 (xs20.tail.tail.tail.headD .any)) fun t40 =>
  bnd (aField 4 t40) fun t41 =>
  bnd (aLd false 1 S37 t41) fun t42 =>
  bnd (aIndex S37 3 t42 (xs29.tail.tail.tail.headD .any)) fun t43 =>
  bnd (aField 0 t43) fun t44 =>
  bnd (aLd true 2 S37 t44) fun t45 =>
  bnd (fillZ [(.int .i64 0), (.int .i64 0), (.int .i64 0)] [(0, 2, t45)]) fun c46 =>
  ACalls P n_s_PutRoute [t38, (.agg c46)] H30 fun v47 H48 =>
  Abs.sub S37 H48 ∧
  bnd (aExtract 0 v47) fun t49 =>
  bnd (aExtract 1 v47) fun t50 =>
  bnd (stz 1 (bc (xs29.tail.tail.headD .any)) 0 t49) fun c51 =>
  bnd (aBinN .add (xs29.tail.tail.tail.headD .any) (.int .i64 1)) fun t52 =>
  ∃ n28, n28 < n27 ∧ Shr (I25 n28 [(.box (bc (xs29.headD .any))), (.box (bc (xs29.tail.headD .any))), (.box c51), t52]) H48)
  (bnd (aBinN .add (xs20.tail.tail.tail.headD .any) (.int .i64 1)) fun t53 =>
  ∃ n19, n19 < n18 ∧ Shr (I16 n19 [(.box (bc (xs29.headD .any))), (.box (bc (xs29.tail.headD .any))), (.box (bc (xs29.tail.tail.headD .any))), t53]) H30))
  (bnd (bsl 3 0 [(.int .i64 0), (.int .i64 0), (.int .i64 0)] []) fun r54 =>
  ∀ o55, H21 o55 = none →
  ∃ (I56 : Nat → List V → Heap → Prop) (n57 : Nat), Shr (I56 n57 [(.box (bc (xs20.headD .any))), (.box (bc (xs20.tail.headD .any))), (.box (bc (xs20.tail.tail.headD .any))), (.slice o55 0 0 (some 0)), (.int .i64 0)]) (upd H21 o55 ⟨3, r54⟩) ∧
  ∀ n58 xs60 H61, I56 n58 xs60 H61 →
  bnd (partOf false 1 (bc (xs60.tail.tail.headD .any)) 0) fun t62 =>
  bnd (lenOf t62) fun n63 =>
  bnd (aBinN .lss (xs60.tail.tail.tail.tail.headD .any) (.int .i64 (n63 : Nat))) fun t64 =>
  cnd t64
  (bnd (partOf false 1 (bc (xs60.tail.tail.headD .any)) 0) fun t65 =>
  bnd (aIndex H61 3 t65 (xs60.tail.tail.tail.tail.headD .any)) fun t66 =>
  bnd (aField 0 t66) fun t67 =>
  bnd (aLd true 2 H61 t67) fun t68 =>
  bnd (stz 2 [(.int .i64 0), (.int .i64 0)] 0 t68) fun c69 =>
  ∃ (I70 : Nat → List V → Heap → Prop) (n71 : Nat), Shr (I70 n71 [(.box (bc (xs60.headD .any))), (.box (bc (xs60.tail.headD .any))), (.box (bc (xs60.tail.tail.headD .any))), (.box c69), (.int .i64 1000000), (.int .i64 (-1)), (.int .i64 0)]) H61 ∧
  ∀ n72 xs74 H75, I70 n72 xs74 H75 →
  bnd (partOf false 1 (bc (xs74.headD .any)) 0) fun t76 =>
  bnd (lenOf t76) fun n77 =>
  bnd (aBinN .lss (xs74.tail.tail.tail.tail.tail.tail.headD .any) (.int .i64 (n77 : Nat))) fun t78 =>
  cnd t78
  (bnd (partOf false 1 (bc (xs74.headD .any)) 0) fun t79 =>
  bnd (aIndex H75 5 t79 (xs74.tail.tail.tail.tail.tail.tail.headD .any)) fun t80 =>
  bnd (aLd true 5 H75 t80) fun t81 =>
  bnd (stz 5 [(.int .i64 0), (.int .i64 0), (.int .i64 0), .nils, .nils] 0 t81) fun c82 =>
  ∃ (I83 : Nat → List V → Heap → Prop) (n84 : Nat), Shr (I83 n84 [(xs74.tail.tail.tail.tail.headD .any), (xs74.tail.tail.tail.tail.tail.headD .any), (.int .i64 0)]) H75 ∧
  ∀ n85 xs87 H88, I83 n85 xs87 H88 →
  bnd (partOf false 1 c82 4) fun t89 =>
  bnd (lenOf t89) fun n90 =>
  bnd (aBinN .lss (xs87.tail.tail.headD .any) (.int .i64 (n90 : Nat))) fun t91 =>
  cnd t91
  (∃ S92, Abs.sub S92 H88 ∧
  bnd (partOf false 1 c82 4) fun t93 =>
  bnd (aIndex S92 3 t93 (xs87.tail.tail.headD .any)) fun t94 =>
  bnd (aField 0 t94) fun t95 =>
  bnd (aLd true 2 S92 t95) fun t96 =>
  bnd (partOf true 2 (bc (xs74.tail.tail.tail.headD .any)) 0) fun t97 =>
  bnd (aBin P .neq 57 t96 t97) fun t98 =>
  gd t98 false
  (bnd (partOf false 1 c82 0) fun t99 =>
  bnd (aIndex S92 1 v12 t99) fun t100 =>
  bnd (aLd false 1 S92 t100) fun t101 =>
  bnd (aBinN .eql t101 (.int .i64 1000000)) fun t102 =>
  cnd t102
  (bnd (aBinN .add (xs87.tail.tail.headD .any) (.int .i64 1)) fun t103 =>
  ∃ n86, n86 < n85 ∧ Shr (I83 n86 [(xs87.headD .any), (xs87.tail.headD .any), t103]) H88)
  (∃ S104, Abs.sub S104 H88 ∧
  bnd (partOf false 1 c82 0) fun t105 =>
  bnd (aIndex S104 1 v12 t105) fun t106 =>
  bnd (aLd false 1 S104 t106) fun t107 =>
  bnd (partOf false 1 c82 4) fun t108 =>
  bnd (aIndex S104 3 t108 (xs87.tail.tail.headD .any)) fun t109 =>
  bnd (aField 2 t109) fun t110 =>
  bnd (aLd false 1 S104 t110) fun t111 =>
  bnd (aBinN .add t107 t111) fun t112 =>
  bnd (partOf false 1 c82 0) fun t113 =>
  bnd (aBinN .neq t113 a1) fun t114 =>
  cnd t114
  (bnd (partOf true 2 (bc (xs74.tail.headD .any)) 0) fun t115 =>
  bnd (partOf false 1 c82 0) fun t116 =>
  ACalls P n_s_HopsTo [t115, a1, t116] H88 fun v117 H118 =>
  bnd (aIndex H118 1 v117 (.int .i64 0)) fun t119 =>
  bnd (aLd false 1 H118 t119) fun t120 =>
  bnd (aBinN .add (.int .i64 1) t120) fun t121 =>
  bnd (aBinN .lss t112 (xs87.headD .any)) fun t122 =>
  gd t122 false
  (bnd (aBinN .eql t112 (xs87.headD .any)) fun t123 =>
  gd3 t123 true
  (bnd (aBinN .lss t121 (xs87.tail.headD .any)) fun t124 =>
  cnd t124
  (bnd (aBinN .add (xs87.tail.tail.headD .any) (.int .i64 1)) fun t125 =>
  ∃ n86, n86 < n85 ∧ Shr (I83 n86 [t112, t121, t125]) H118)
  (bnd (aBinN .add (xs87.tail.tail.headD .any) (.int .i64 1)) fun t126 =>
  ∃ n86, n86 < n85 ∧ Shr (I83 n86 [(xs87.headD .any), (xs87.tail.headD .any), t126]) H118))
  (bnd (aBinN .add (xs87.tail.tail.headD .any) (.int .i64 1)) fun t127 =>
  ∃ n86, n86 < n85 ∧ Shr (I83 n86 [(xs87.headD .any), (xs87.tail.headD .any), t127]) H118)
  (bnd (aPick (.tup []) (.tup []) (.bool false)) fun t128 =>
  cnd t128
  (bnd (aBinN .add (xs87.tail.tail.headD .any) (.int .i64 1)) fun t129 =>
  ∃ n86, n86 < n85 ∧ Shr (I83 n86 [t112, t121, t129]) H118)
  (bnd (aBinN .add (xs87.tail.tail.headD .any) (.int .i64 1)) fun t130 =>
  ∃ n86, n86 < n85 ∧ Shr (I83 n86 [(xs87.headD .any), (xs87.tail.headD .any), t130]) H118)))
  (bnd (aBinN .add (xs87.tail.tail.headD .any) (.int .i64 1)) fun t131 =>
  ∃ n86, n86 < n85 ∧ Shr (I83 n86 [t112, t121, t131]) H118))
  (bnd (aBinN .lss t112 (xs87.headD .any)) fun t132 =>
  gd t132 false
  (bnd (aBinN .eql t112 (xs87.headD .any)) fun t133 =>
  gd3 t133 true
  (bnd (aBinN .lss (.int .i64 0) (xs87.tail.headD .any)) fun t134 =>
  cnd t134
  (bnd (aBinN .add (xs87.tail.tail.headD .any) (.int .i64 1)) fun t135 =>
  ∃ n86, n86 < n85 ∧ Shr (I83 n86 [t112, (.int .i64 0), t135]) H88)
  (bnd (aBinN .add (xs87.tail.tail.headD .any) (.int .i64 1)) fun t136 =>
  ∃ n86, n86 < n85 ∧ Shr (I83 n86 [(xs87.headD .any), (xs87.tail.headD .any), t136]) H88))
  (bnd (aBinN .add (xs87.tail.tail.headD .any) (.int .i64 1)) fun t137 =>
  ∃ n86, n86 < n85 ∧ Shr (I83 n86 [(xs87.headD .any), (xs87.tail.headD .any), t137]) H88)
  (bnd (aPick (.tup []) (.tup []) (.bool false)) fun t138 =>
  cnd t138
  (bnd (aBinN .add (xs87.tail.tail.headD .any) (.int .i64 1)) fun t139 =>
  ∃ n86, n86 < n85 ∧ Shr (I83 n86 [t112, (.int .i64 0), t139]) H88)
  (bnd (aBinN .add (xs87.tail.tail.headD .any) (.int .i64 1)) fun t140 =>
  ∃ n86, n86 < n85 ∧ Shr (I83 n86 [(xs87.headD .any), (xs87.tail.headD .any), t140]) H88)))
  (bnd (aBinN .add (xs87.tail.tail.headD .any) (.int .i64 1)) fun t141 =>
  ∃ n86, n86 < n85 ∧ Shr (I83 n86 [t112, (.int .i64 0), t141]) H88))))
  (bnd (aBinN .add (xs87.tail.tail.headD .any) (.int .i64 1)) fun t142 =>
  ∃ n86, n86 < n85 ∧ Shr (I83 n86 [(xs87.headD .any), (xs87.tail.headD .any), t142]) H88))
  (bnd (aBinN .add (xs74.tail.tail.tail.tail.tail.tail.headD .any) (.int .i64 1)) fun t143 =>
  ∃ n73, n73 < n72 ∧ Shr (I70 n73 [(.box (bc (xs74.headD .any))), (.box (bc (xs74.tail.headD .any))), (.box (bc (xs74.tail.tail.headD .any))), (.box (bc (xs74.tail.tail.tail.headD .any))), (xs87.headD .any), (xs87.tail.headD .any), t143]) H88))
  (bnd (aBinN .geq (xs74.tail.tail.tail.tail.tail.headD .any) (.int .i64 0)) fun t144 =>
  cnd t144
  (bnd (partOf true 2 (bc (xs74.tail.tail.tail.headD .any)) 0) fun t145 =>
  bnd (fillZ [(.int .i64 0), (.int .i64 0), (.int .i64 0)] [(0, 2, t145), (2, 1, (xs74.tail.tail.tail.tail.tail.headD .any))]) fun c146 =>
  bnd (bsl 3 1 [(.int .i64 0), (.int .i64 0), (.int .i64 0)] [(0, (.agg c146))]) fun r147 =>
  ∀ o148, H75 o148 = none →
  bnd (rowsOf (upd H75 o148 ⟨3, r147⟩) 3 (.slice o148 0 1 (some 1))) fun r151 =>
  appendK (upd H75 o148 ⟨3, r147⟩) 3 24 (xs60.tail.tail.tail.headD .any) r151 fun v149 H150 =>
  bnd (aBinN .add (xs60.tail.tail.tail.tail.headD .any) (.int .i64 1)) fun t152 =>
  ∃ n59, n59 < n58 ∧ Shr (I56 n59 [(.box (bc (xs74.headD .any))), (.box (bc (xs74.tail.headD .any))), (.box (bc (xs74.tail.tail.headD .any))), v149, t152]) H150)
  (bnd (aBinN .add (xs60.tail.tail.tail.tail.headD .any) (.int .i64 1)) fun t153 =>
  ∃ n59, n59 < n58 ∧ Shr (I56 n59 [(.box (bc (xs74.headD .any))), (.box (bc (xs74.tail.headD .any))), (.box (bc (xs74.tail.tail.headD .any))), (xs60.tail.tail.tail.headD .any), t153]) H75)))
  (Ret R (.tup [(xs60.tail.tail.tail.headD .any), (.bool true)]) H61))))
  (Ret R (.tup [.nils, (.bool false)]) H3))
theorem W_s_PrefixesOf {R : V → Heap → Prop} {a0 a1 : V} {H : Heap} (h : F_s_PrefixesOf R a0 a1 H) : ACalls P n_s_PrefixesOf [a0, a1] H R :=
  acalls_of_form (g := ⟨[2, 6, 9, 14, 18], [39, 46, 58, 74, 80, 87, 93, 99, 105, 115, 122, 126, 133, 139]⟩) (x := (.seq .leaf (.seq .leaf (.seq (.seq .leaf (.cond (.seq .leaf .leaf) .leaf)) (.seq .leaf (.seq .leaf (.seq (.seq .leaf (.block (.loop [2, 6, 9, 10] (.seq (.seq .leaf (.cond .leaf .leaf)) (.seq (.block (.seq .leaf (.block (.loop [2, 6, 9, 11] (.seq (.seq .leaf (.cond .leaf .leaf)) (.seq (.block (.draw [0, 1, 2, 3, 4, 5, 6, 7, 8, 9, 10, 11, 12, 13, 14, 15, 16])) .leaf)))))) .leaf))))) (.seq .leaf (.seq (.seq .leaf (.block (.loop [2, 6, 9, 12, 13] (.seq (.seq .leaf (.cond .leaf .leaf)) (.seq (.block (.seq .leaf (.seq .leaf (.seq .leaf (.seq (.seq .leaf (.block (.loop [2, 6, 9, 14, 15, 16, 17] (.seq (.seq .leaf (.cond .leaf .leaf)) (.seq (.block (.seq .leaf (.seq .leaf (.block (.loop [15, 16, 19] (.seq (.seq .leaf (.cond .leaf .leaf)) (.seq (.block (.seq (.seq (.draw [0, 1, 2, 3, 4, 5, 6, 7, 8, 9, 10, 11, 12, 13, 14, 15]) (.cond .leaf .leaf)) (.seq (.draw [0, 1, 2, 3, 4, 5, 6, 7, 8, 9, 10, 11, 12]) (.seq .leaf (.seq (.seq .leaf (.cond .leaf .leaf)) (.seq .leaf (.cond (.seq .leaf .leaf) .leaf))))))) .leaf))))))) .leaf))))) (.seq .leaf (.cond .leaf .leaf))))))) .leaf))))) (.seq .leaf .leaf)))))))))) Tryz.func8 (by kernel_rfl) (by kernel_rfl) (by kernel_rfl) (by kernel_rfl : F_s_PrefixesOf R a0 a1 H = _) h
def F_i_PrefixesOf (R : V → Heap → Prop) (a0 a1 : V) (H : Heap) : Prop :=
  boxK a0 (bnd (partOf true 1 (cellsOf a0) 0) fun t1 =>
  ACalls P n_i_GraphOf [t1] H fun v2 H3 =>
  bnd (aExtract 0 v2) fun t4 =>
  bnd (aExtract 1 v2) fun t5 =>
  bnd (stz 2 [(.int .i64 0), .nils] 0 t4) fun c6 =>
  bnd (aNot t5) fun t7 =>
  gd t7 false
  (ACalls P n_i_within [a1, (.int .i64 0), (.int .i64 9)] H3 fun v8 H9 =>
  bnd (aNot v8) fun t10 =>
  cnd t10
  (Ret R (.tup [.nils, (.bool false)]) H9)
  (bnd (partOf true 2 c6 0) fun t11 =>
  ACalls P n_i_Graph_all [t11] H9 fun v12 H13 =>
  bnd (bsl 3 0 [(.int .i64 0), (.int .i64 0), (.int .i64 0)] []) fun r14 =>
  ∀ o15, H13 o15 = none →
  bnd (partOf true 1 (cellsOf a0) 0) fun t16 =>
  ACalls P n_i_Db_stubsOf [t16] (upd H13 o15 ⟨3, r14⟩) fun v17 H18 =>
  bnd (lenOf v17) fun n19 =>
  ∃ (I20 : Nat → List V → Heap → Prop) (n21 : Nat), Shr (I20 n21 [(.box (cellsOf a0)), (.box c6), (.slice o15 0 0 (some 0)), (.int .i64 0)]) H18 ∧
  ∀ n22 xs24 H25, I20 n22 xs24 H25 →
  bnd (aBinN .lss (xs24.tail.tail.tail.headD .any) (.int .i64 (n19 : Nat))) fun t26 =>
  cnd t26
  (bnd (aIndex H25 2 v17 (xs24.tail.tail.tail.headD .any)) fun t27 =>
  bnd (aLd true 2 H25 t27) fun t28 =>
  bnd (stz 2 [(.int .i64 0), (.int .i64 0)] 0 t28) fun c29 =>
  ∃ S30, Abs.sub S30 H25 ∧
  bnd (partOf true 1 (bc (xs24.headD .any)) 0) fun t31 =>
  bnd (partOf true 2 c29 0) fun t32 =>
  bnd (aIndex S30 1 v12 a1) fun t33 =>
  bnd (aLd false 1 S30 t33) fun t34 =>
  ACalls P n_i_Db_nearest [t31, t32, t34] H25 fun v35 H36 =>
  Abs.sub S30 H36 ∧
  bnd (lenOf v35) fun n37 =>
  bnd (aBinN .eql (.int .i64 (n37 : Nat)) (.int .i64 0)) fun t38 =>
  cnd t38
  (bnd (aBinN .add (xs24.tail.tail.tail.headD .any) (.int .i64 1)) fun t39 =>
  ∃ n23, n23 < n22 ∧ Shr (I20 n23 [(.box (bc (xs24.headD .any))), (.box (bc (xs24.tail.headD .any))), (xs24.tail.tail.headD .any), t39]) H36)
  (bnd (partOf true 2 c29 0) fun t40 =>
  bnd (fillZ [(.int .i64 0), (.int .i64 0), (.int .i64 0)] [(0, 2, t40)]) fun c41 =>
  bnd (stz 3 [(.int .i64 0), (.int .i64 0), (.int .i64 0)] 0 (.agg c41)) fun c42 =>
  ACalls P n_slices_Contains_int_int [v35, a1] H36 fun v43 H44 =>
  bnd (aNot v43) fun t45 =>
  cnd t45
  (bnd (bsl 1 0 [(.int .i64 0)] []) fun r46 =>
  ∀ o47, H44 o47 = none →
  bnd (lenOf v35) fun n48 =>
  ∃ (I49 : Nat → List V → Heap → Prop) (n50 : Nat), Shr (I49 n50 [(.slice o47 0 0 (some 0)), (.int .i64 0)]) (upd H44 o47 ⟨1, r46⟩) ∧
  ∀ n51 xs53 H54, I49 n51 xs53 H54 →
  bnd (aBinN .lss (xs53.tail.headD .any) (.int .i64 (n48 : Nat))) fun t55 =>
  cnd t55
  (bnd (aIndex H54 1 v35 (xs53.tail.headD .any)) fun t56 =>
  bnd (aLd false 1 H54 t56) fun t57 =>
  bnd (partOf true 2 (bc (xs24.tail.headD .any)) 0) fun t58 =>
  ACalls P n_i_Graph_hopsTo [t58, a1, t57, v12] H54 fun v59 H60 =>
  bnd (rowsOf H60 1 v59) fun r63 =>
  appendK H60 1 8 (xs53.headD .any) r63 fun v61 H62 =>
  bnd (aBinN .add (xs53.tail.headD .any) (.int .i64 1)) fun t64 =>
  ∃ n52, n52 < n51 ∧ Shr (I49 n52 [v61, t64]) H62)
  (ACalls P n_slices_Min_int_int [(xs53.headD .any)] H54 fun v65 H66 =>
  bnd (aBinN .add (.int .i64 1) v65) fun t67 =>
  bnd (stz 1 c42 2 t67) fun c68 =>
  bnd (partOf true 3 c68 0) fun t69 =>
  bnd (bsl 3 1 [(.int .i64 0), (.int .i64 0), (.int .i64 0)] [(0, t69)]) fun r70 =>
  ∀ o71, H66 o71 = none →
  bnd (rowsOf (upd H66 o71 ⟨3, r70⟩) 3 (.slice o71 0 1 (some 1))) fun r74 =>
  appendK (upd H66 o71 ⟨3, r70⟩) 3 24 (xs24.tail.tail.headD .any) r74 fun v72 H73 =>
  bnd (aBinN .add (xs24.tail.tail.tail.headD .any) (.int .i64 1)) fun t75 =>
  ∃ n23, n23 < n22 ∧ Shr (I20 n23 [(.box (bc (xs24.headD .any))), (.box (bc (xs24.tail.headD .any))), v72, t75]) H73))
  (bnd (partOf true 3 c42 0) fun t76 =>
  bnd (bsl 3 1 [(.int .i64 0), (.int .i64 0), (.int .i64 0)] [(0, t76)]) fun r77 =>
  ∀ o78, H44 o78 = none →
  bnd (rowsOf (upd H44 o78 ⟨3, r77⟩) 3 (.slice o78 0 1 (some 1))) fun r81 =>
  appendK (upd H44 o78 ⟨3, r77⟩) 3 24 (xs24.tail.tail.headD .any) r81 fun v79 H80 =>
  bnd (aBinN .add (xs24.tail.tail.tail.headD .any) (.int .i64 1)) fun t82 =>
  ∃ n23, n23 < n22 ∧ Shr (I20 n23 [(.box (bc (xs24.headD .any))), (.box (bc (xs24.tail.headD .any))), v79, t82]) H80)))
  (Ret R (.tup [(xs24.tail.tail.headD .any), (.bool true)]) H25)))
  (Ret R (.tup [.nils, (.bool false)]) H3))
theorem W_i_PrefixesOf {R : V → Heap → Prop} {a0 a1 : V} {H : Heap} (h : F_i_PrefixesOf R a0 a1 H) : ACalls P n_i_PrefixesOf [a0, a1] H R :=
  acalls_of_form (g := ⟨[2, 6, 11, 13], [73]⟩) (x := (.seq .leaf (.seq .leaf (.seq (.seq .leaf (.cond (.seq .leaf .leaf) .leaf)) (.seq .leaf (.seq .leaf (.seq (.seq .leaf (.block (.loop [2, 6, 9, 35] (.seq .leaf (.seq (.cond .leaf .leaf) (.seq (.block (.seq .leaf (.seq (.draw [0, 1, 2, 3, 4, 5, 6, 7]) (.seq (.seq .leaf (.cond .leaf .leaf)) (.seq .leaf (.seq (.seq .leaf (.cond (.seq .leaf (.seq (.seq .leaf (.block (.loop [14, 58] (.seq .leaf (.seq (.cond .leaf .leaf) (.seq (.block (.seq .leaf .leaf)) .leaf)))))) .leaf)) .leaf)) .leaf)))))) .leaf)))))) (.seq .leaf .leaf)))))))) Tryz.func10 (by kernel_rfl) (by kernel_rfl) (by kernel_rfl) (by kernel_rfl : F_i_PrefixesOf R a0 a1 H = _) h
def F_l_big (R : V → Heap → Prop) (a0 : V) (H : Heap) : Prop :=
  bnd (lenOf a0) fun n1 =>
  bnd (aBinN .gtr (.int .i64 (n1 : Nat)) (.int .i64 1048576)) fun t2 =>
  Ret R t2 H
theorem W_l_big {R : V → Heap → Prop} {a0 : V} {H : Heap} (h : F_l_big R a0 H) : ACalls P n_l_big [a0] H R :=
  acalls_of_form (g := ⟨[], []⟩) (x := (.seq .leaf (.seq .leaf .leaf))) Tryz.func16 (by kernel_rfl) (by kernel_rfl) (by kernel_rfl) (by kernel_rfl : F_l_big R a0 H = _) h
def F_s_DrawPrefixesOf (R : V → Heap → Prop) (a0 : V) (H : Heap) : Prop :=
  ACalls P n_s_l06Draw [a0] H fun v1 H2 =>
  bnd (aExtract 0 v1) fun t3 =>
  bnd (aExtract 1 v1) fun t4 =>
  bnd (stz 1 [.nils] 0 t4) fun c5 =>
  ∃ S6, Abs.sub S6 H2 ∧
  bnd (partOf true 1 c5 0) fun t7 =>
  ACalls P n_s_l01Below [t3, (.int .i64 5)] H2 fun v8 H9 =>
  Abs.sub S6 H9 ∧
  ACalls P n_s_l01Below [t3, (.int .i64 10)] H9 fun v10 H11 =>
  Abs.sub S6 H11 ∧
  bnd (bsl 1 6 [(.int .i64 0)] [(0, (.int .i64 0)), (1, v8), (2, v10), (3, (.int .i64 9)), (4, (.int .i64 10)), (5, (.int .i64 (-1)))]) fun r12 =>
  ∀ o13, H11 o13 = none →
  Abs.sub S6 (upd H11 o13 ⟨1, r12⟩) ∧
  ACalls P n_s_l01PickInt [t3, (.slice o13 0 6 (some 6))] (upd H11 o13 ⟨1, r12⟩) fun v14 H15 =>
  Abs.sub S6 H15 ∧
  bnd (stz 1 [.nils] 0 t7) fun c16 =>
  bnd (partOf true 1 c16 0) fun t17 =>
  Ret R (.tup [t17, v14]) H15
theorem W_s_DrawPrefixesOf {R : V → Heap → Prop} {a0 : V} {H : Heap} (h : F_s_DrawPrefixesOf R a0 H) : ACalls P n_s_DrawPrefixesOf [a0] H R :=
  acalls_of_form (g := ⟨[2, 5], []⟩) (x := (.seq .leaf (.seq .leaf (.seq (.draw [0, 1, 2, 4, 3, 5, 6, 7, 8, 9]) .leaf)))) Tryz.func17 (by kernel_rfl) (by kernel_rfl) (by kernel_rfl) (by kernel_rfl : F_s_DrawPrefixesOf R a0 H = _) h
def F_s_GraphOf (R : V → Heap → Prop) (a0 : V) (H : Heap) : Prop :=
  boxK a0 (bnd (partOf true 1 (cellsOf a0) 0) fun t1 =>
  ACalls P n_s_DbOk [t1] H fun v2 H3 =>
  bnd (aNot v2) fun t4 =>
  cnd t4
  (bnd (fillZ [(.int .i64 0), .nils] []) fun c5 =>
  bnd (stz 2 [(.int .i64 0), .nils] 0 (.agg c5)) fun c6 =>
  bnd (partOf true 2 c6 0) fun t7 =>
  Ret R (.tup [t7, (.bool false)]) H3)
  (bnd (fillZ [(.int .i64 0), .nils] [(0, 1, (.int .i64 10))]) fun c8 =>
  bnd (stz 2 [(.int .i64 0), .nils] 0 (.agg c8)) fun c9 =>
  ∃ (I10 : Nat → List V → Heap → Prop) (n11 : Nat), Shr (I10 n11 [(.box (cellsOf a0)), (.box [(.int .i64 0), .nils]), (.box c9), (.int .i64 0)]) H3 ∧
  ∀ n12 xs14 H15, I10 n12 xs14 H15 →
  bnd (partOf false 1 (bc (xs14.headD .any)) 0) fun t16 =>
  bnd (lenOf t16) fun n17 =>
  bnd (aBinN .lss (xs14.tail.tail.tail.headD .any) (.int .i64 (n17 : Nat))) fun t18 =>
  cnd t18
  (bnd (partOf false 1 (bc (xs14.headD .any)) 0) fun t19 =>
  bnd (aIndex H15 5 t19 (xs14.tail.tail.tail.headD .any)) fun t20 =>
  bnd (aLd true 5 H15 t20) fun t21 =>
  bnd (stz 5 [(.int .i64 0), (.int .i64 0), (.int .i64 0), .nils, .nils] 0 t21) fun c22 =>
  ∃ (I23 : Nat → List V → Heap → Prop) (n24 : Nat), Shr (I23 n24 [(.box (bc (xs14.headD .any))), (.box (bc (xs14.tail.headD .any))), (.box (bc (xs14.tail.tail.headD .any))), (.box c22), (.int .i64 0)]) H15 ∧
  ∀ n25 xs27 H28, I23 n25 xs27 H28 →
  bnd (partOf false 1 (bc (xs27.tail.tail.tail.headD .any)) 3) fun t29 =>
  bnd (lenOf t29) fun n30 =>
  bnd (aBinN .lss (xs27.tail.tail.tail.tail.headD .any) (.int .i64 (n30 : Nat))) fun t31 =>
  cnd t31
  (∃ S32, Abs.sub S32 H28 ∧
  bnd (partOf true 1 (bc (xs27.headD .any)) 0) fun t33 =>
  bnd (partOf false 1 (bc (xs27.tail.tail.tail.headD .any)) 3) fun t34 =>
  bnd (aIndex S32 2 t34 (xs27.tail.tail.tail.tail.headD .any)) fun t35 =>
  bnd (aField 0 t35) fun t36 =>
  bnd (aLd false 1 S32 t36) fun t37 =>
  bnd (partOf false 1 (bc (xs27.tail.tail.tail.headD .any)) 0) fun t38 =>
  ACalls P n_s_l06Says [t33, t37, t38] H28 fun v39 H40 =>
  Abs.sub S32 H40 ∧
  cnd v39
  (bnd (partOf false 1 (bc (xs27.tail.tail.headD .any)) 1) fun t41 =>
  bnd (partOf false 1 (bc (xs27.tail.tail.tail.headD .any)) 0) fun t42 =>
  bnd (partOf false 1 (bc (xs27.tail.tail.tail.headD .any)) 3) fun t43 =>
  bnd (aIndex H40 2 t43 (xs27.tail.tail.tail.tail.headD .any)) fun t44 =>
  bnd (aField 0 t44) fun t45 =>
  bnd (aLd false 1 H40 t45) fun t46 =>
  bnd (partOf false 1 (bc (xs27.tail.tail.tail.headD .any)) 3) fun t47 =>
  bnd (aIndex H40 2 t47 (xs27.tail.tail.tail.tail.headD .any)) fun t48 =>
  bnd (aField 1 t48) fun t49 =>
  bnd (aLd false 1 H40 t49) fun t50 =>
  bnd (fillZ [(.int .i64 0), (.int .i64 0), (.int .i64 0)] [(0, 1, t42), (1, 1, t46), (2, 1, t50)]) fun c51 =>
  bnd (bsl 3 1 [(.int .i64 0), (.int .i64 0), (.int .i64 0)] [(0, (.agg c51))]) fun r52 =>
  ∀ o53, H40 o53 = none →
  bnd (rowsOf (upd H40 o53 ⟨3, r52⟩) 3 (.slice o53 0 1 (some 1))) fun r56 =>
  appendK (upd H40 o53 ⟨3, r52⟩) 3 24 t41 r56 fun v54 H55 =>
  bnd (stz 1 (bc (xs27.tail.tail.headD .any)) 1 v54) fun c57 =>
  bnd (aBinN .add (xs27.tail.tail.tail.tail.headD .any) (.int .i64 1)) fun t58 =>
  ∃ n26, n26 < n25 ∧ Shr (I23 n26 [(.box (bc (xs27.headD .any))), (.box (bc (xs27.tail.headD .any))), (.box c57), (.box (bc (xs27.tail.tail.tail.headD .any))), t58]) H55)
  (bnd (aBinN .add (xs27.tail.tail.tail.tail.headD .any) (.int .i64 1)) fun t59 =>
  ∃ n26, n26 < n25 ∧ Shr (I23 n26 [(.box (bc (xs27.headD .any))), (.box (bc (xs27.tail.headD .any))), (.box (bc (xs27.tail.tail.headD .any))), (.box (bc (xs27.tail.tail.tail.headD .any))), t59]) H40))
  (bnd (aBinN .add (xs14.tail.tail.tail.headD .any) (.int .i64 1)) fun t60 =>
  ∃ n13, n13 < n12 ∧ Shr (I10 n13 [(.box (bc (xs27.headD .any))), (.box (bc (xs27.tail.headD .any))), (.box (bc (xs27.tail.tail.headD .any))), t60]) H28))
  (bnd (partOf true 2 (bc (xs14.tail.tail.headD .any)) 0) fun t61 =>
  ACalls P n_s_GraphOk [t61] H15 fun v62 H63 =>
  bnd (aNot v62) fun t64 =>
  cnd t64
  (bnd (fillZ [(.int .i64 0), .nils] []) fun c65 =>
  bnd (stz 2 (bc (xs14.tail.headD .any)) 0 (.agg c65)) fun c66 =>
  bnd (partOf true 2 c66 0) fun t67 =>
  Ret R (.tup [t67, (.bool false)]) H63)
  (bnd (partOf true 2 (bc (xs14.tail.tail.headD .any)) 0) fun t68 =>
  bnd (stz 2 (bc (xs14.tail.headD .any)) 0 t68) fun c69 =>
  bnd (partOf true 2 c69 0) fun t70 =>
  Ret R (.tup [t70, (.bool true)]) H63))))
theorem W_s_GraphOf {R : V → Heap → Prop} {a0 : V} {H : Heap} (h : F_s_GraphOf R a0 H) : ACalls P n_s_GraphOf [a0] H R :=
  acalls_of_form (g := ⟨[1, 2, 4, 6], [14, 20, 26, 33, 39, 42, 44, 46, 52, 61]⟩) (x := (.seq .leaf (.seq (.seq .leaf (.cond (.seq .leaf .leaf) .leaf)) (.seq .leaf (.seq (.seq .leaf (.block (.loop [1, 2, 4, 5] (.seq (.seq .leaf (.cond .leaf .leaf)) (.seq (.block (.seq .leaf (.seq .leaf (.block (.loop [1, 2, 4, 6, 7] (.seq (.seq .leaf (.cond .leaf .leaf)) (.seq (.block (.seq (.draw [0, 1, 2, 3, 4, 5, 6, 7, 8, 9]) (.cond (.drawh [0, 1, 2, 3, 4, 5, 6, 7, 8, 9, 10, 11, 12, 13, 14, 15, 16, 17, 18, 19, 20]) .leaf))) .leaf))))))) .leaf))))) (.seq (.seq .leaf (.cond (.seq .leaf .leaf) .leaf)) (.seq .leaf .leaf))))))) Tryz.func18 (by kernel_rfl) (by kernel_rfl) (by kernel_rfl) (by kernel_rfl : F_s_GraphOf R a0 H = _) h
def F_i_TableFor (R : V → Heap → Prop) (a0 a1 : V) (H : Heap) : Prop :=
  boxK a0 (bnd (partOf true 1 (cellsOf a0) 0) fun t1 =>
  ACalls P n_i_PrefixesOf [t1, a1] H fun v2 H3 =>
  bnd (aExtract 0 v2) fun t4 =>
  bnd (aExtract 1 v2) fun t5 =>
  bnd (aNot t5) fun t6 =>
  cnd t6
  (bnd (fillZ [.nils] []) fun c7 =>
  bnd (stz 1 [.nils] 0 (.agg c7)) fun c8 =>
  bnd (partOf true 1 c8 0) fun t9 =>
  Ret R (.tup [t9, (.bool false)]) H3)
  (bnd (fillZ [.nils] [(0, 1, t4)]) fun c10 =>
  bnd (stz 1 [.nils] 0 (.agg c10)) fun c11 =>
  bnd (partOf true 1 c11 0) fun t12 =>
  Ret R (.tup [t12, (.bool true)]) H3))
theorem W_i_TableFor {R : V → Heap → Prop} {a0 a1 : V} {H : Heap} (h : F_i_TableFor R a0 a1 H) : ACalls P n_i_TableFor [a0, a1] H R :=
  acalls_of_form (g := ⟨[2, 4], []⟩) (x := (.seq .leaf (.seq .leaf (.seq (.seq .leaf (.cond (.seq .leaf .leaf) .leaf)) (.seq .leaf .leaf))))) Tryz.func19 (by kernel_rfl) (by kernel_rfl) (by kernel_rfl) (by kernel_rfl : F_i_TableFor R a0 a1 H = _) h
def F_s_TableFor (R : V → Heap → Prop) (a0 a1 : V) (H : Heap) : Prop :=
  boxK a0 (bnd (partOf true 1 (cellsOf a0) 0) fun t1 =>
  ACalls P n_s_PrefixesOf [t1, a1] H fun v2 H3 =>
  bnd (aExtract 0 v2) fun t4 =>
  bnd (aExtract 1 v2) fun t5 =>
  bnd (aNot t5) fun t6 =>
  cnd t6
  (bnd (fillZ [.nils] []) fun c7 =>
  bnd (stz 1 [.nils] 0 (.agg c7)) fun c8 =>
  bnd (partOf true 1 c8 0) fun t9 =>
  Ret R (.tup [t9, (.bool false)]) H3)
  (bnd (fillZ [.nils] [(0, 1, t4)]) fun c10 =>
  bnd (stz 1 [.nils] 0 (.agg c10)) fun c11 =>
  bnd (partOf true 1 c11 0) fun t12 =>
  Ret R (.tup [t12, (.bool true)]) H3))
theorem W_s_TableFor {R : V → Heap → Prop} {a0 a1 : V} {H : Heap} (h : F_s_TableFor R a0 a1 H) : ACalls P n_s_TableFor [a0, a1] H R :=
  acalls_of_form (g := ⟨[2, 4], []⟩) (x := (.seq .leaf (.seq .leaf (.seq (.seq .leaf (.cond (.seq .leaf .leaf) .leaf)) (.seq .leaf .leaf))))) Tryz.func20 (by kernel_rfl) (by kernel_rfl) (by kernel_rfl) (by kernel_rfl : F_s_TableFor R a0 a1 H = _) h
def F_s_HasAddr (R : V → Heap → Prop) (a0 a1 : V) (H : Heap) : Prop :=
  boxK a0 (∃ S1, Abs.sub S1 H ∧
  bnd (partOf true 2 (cellsOf a0) 0) fun t2 =>
  ACalls P n_s_PrefixOk [t2] H fun v3 H4 =>
  Abs.sub S1 H4 ∧
  gd v3 true
  (bnd (partOf false 1 (cellsOf a0) 0) fun t5 =>
  bnd (partOf false 1 (cellsOf a0) 0) fun t6 =>
  bnd (partOf false 1 (cellsOf a0) 1) fun t7 =>
  ACalls P n_s_l01Size2 [t7] H4 fun v8 H9 =>
  Abs.sub S1 H9 ∧
  bnd (aBinN .add t6 v8) fun t10 =>
  bnd (aBinN .sub t10 (.int .i64 1)) fun t11 =>
  ACalls P n_s_l01In [a1, t5, t11] H9 fun v12 H13 =>
  Abs.sub S1 H13 ∧
  Ret R v12 H13)
  (Ret R (.bool false) H4))
theorem W_s_HasAddr {R : V → Heap → Prop} {a0 a1 : V} {H : Heap} (h : F_s_HasAddr R a0 a1 H) : ACalls P n_s_HasAddr [a0, a1] H R :=
  acalls_of_form (g := ⟨[2], [9, 11, 13]⟩) (x := (.seq .leaf (.seq (.draw [0, 1, 2, 3, 4, 5, 6, 7, 8, 9, 10, 11, 12, 13, 14, 15]) .leaf))) Tryz.func21 (by kernel_rfl) (by kernel_rfl) (by kernel_rfl) (by kernel_rfl : F_s_HasAddr R a0 a1 H = _) h
def F_i_LoopsAt (R : V → Heap → Prop) (a0 a1 : V) (H : Heap) : Prop :=
  ACalls P n_i_nodesWith [a0, a1, (.int .i64 16), (.int .i64 2)] H fun v1 H2 =>
  Ret R v1 H2
theorem W_i_LoopsAt {R : V → Heap → Prop} {a0 a1 : V} {H : Heap} (h : F_i_LoopsAt R a0 a1 H) : ACalls P n_i_LoopsAt [a0, a1] H R :=
  acalls_of_form (g := ⟨[], []⟩) (x := (.seq .leaf (.seq .leaf .leaf))) Tryz.func22 (by kernel_rfl) (by kernel_rfl) (by kernel_rfl) (by kernel_rfl : F_i_LoopsAt R a0 a1 H = _) h
def F_l_same (R : V → Heap → Prop) (a0 a1 : V) (H : Heap) : Prop :=
  bnd (lenOf a0) fun n1 =>
  bnd (lenOf a1) fun n2 =>
  bnd (aBinN .neq (.int .i64 (n1 : Nat)) (.int .i64 (n2 : Nat))) fun t3 =>
  cnd t3
  (Ret R (.bool false) H)
  (∃ (I4 : Nat → List V → Heap → Prop) (n5 : Nat), Shr (I4 n5 [(.int .i64 0)]) H ∧
  ∀ n6 xs8 H9, I4 n6 xs8 H9 →
  bnd (lenOf a0) fun n10 =>
  bnd (aBinN .lss (xs8.headD .any) (.int .i64 (n10 : Nat))) fun t11 =>
  cnd t11
  (∃ S12, Abs.sub S12 H9 ∧
  bnd (aIndex S12 1 a0 (xs8.headD .any)) fun t13 =>
  bnd (aLd false 1 S12 t13) fun t14 =>
  bnd (aIndex S12 1 a1 (xs8.headD .any)) fun t15 =>
  bnd (aLd false 1 S12 t15) fun t16 =>
  bnd (aBinN .neq t14 t16) fun t17 =>
  cnd t17
  (Ret R (.bool false) H9)
  (bnd (aBinN .add (xs8.headD .any) (.int .i64 1)) fun t18 =>
  ∃ n7, n7 < n6 ∧ Shr (I4 n7 [t18]) H9))
  (Ret R (.bool true) H9))
theorem W_l_same {R : V → Heap → Prop} {a0 a1 : V} {H : Heap} (h : F_l_same R a0 a1 H) : ACalls P n_l_same [a0, a1] H R :=
  acalls_of_form (g := ⟨[], []⟩) (x := (.seq .leaf (.seq (.seq .leaf (.cond (.seq .leaf .leaf) .leaf)) (.seq (.seq .leaf (.block (.loop [5] (.seq (.seq .leaf (.cond .leaf .leaf)) (.seq (.block (.seq (.draw [0, 1, 2, 3, 4, 5, 6, 7, 8]) (.cond (.seq .leaf .leaf) .leaf))) .leaf))))) (.seq .leaf .leaf))))) Tryz.func23 (by kernel_rfl) (by kernel_rfl) (by kernel_rfl) (by kernel_rfl : F_l_same R a0 a1 H = _) h
def F_i_Sinks (R : V → Heap → Prop) (a0 a1 : V) (H : Heap) : Prop :=
  ACalls P n_i_nodesWith [a0, a1, (.int .i64 0), (.int .i64 0)] H fun v1 H2 =>
  Ret R v1 H2
theorem W_i_Sinks {R : V → Heap → Prop} {a0 a1 : V} {H : Heap} (h : F_i_Sinks R a0 a1 H) : ACalls P n_i_Sinks [a0, a1] H R :=
  acalls_of_form (g := ⟨[], []⟩) (x := (.seq .leaf (.seq .leaf .leaf))) Tryz.func24 (by kernel_rfl) (by kernel_rfl) (by kernel_rfl) (by kernel_rfl : F_i_Sinks R a0 a1 H = _) h
def F_s_Distances (R : V → Heap → Prop) (a0 a1 : V) (H : Heap) : Prop :=
  boxK a0 (bnd (partOf true 2 (cellsOf a0) 0) fun t1 =>
  ACalls P n_s_GraphOk [t1] H fun v2 H3 =>
  bnd (aNot v2) fun t4 =>
  gd t4 false
  (bnd (partOf true 2 (cellsOf a0) 0) fun t5 =>
  ACalls P n_s_l03Node [t5, a1] H3 fun v6 H7 =>
  bnd (aNot v6) fun t8 =>
  cnd t8
  (Ret R .nils H7)
  (bnd (bsl 1 0 [(.int .i64 0)] []) fun r9 =>
  ∀ o10, H7 o10 = none →
  ∃ (I11 : Nat → List V → Heap → Prop) (n12 : Nat), Shr (I11 n12 [(.slice o10 0 0 (some 0)), (.int .i64 0)]) (upd H7 o10 ⟨1, r9⟩) ∧
  ∀ n13 xs15 H16, I11 n13 xs15 H16 →
  bnd (partOf false 1 (cellsOf a0) 0) fun t17 =>
  bnd (aBinN .lss (xs15.tail.headD .any) t17) fun t18 =>
  cnd t18
  (bnd (bsl 1 1 [(.int .i64 0)] [(0, (.int .i64 1000000))]) fun r19 =>
  ∀ o20, H16 o20 = none →
  bnd (rowsOf (upd H16 o20 ⟨1, r19⟩) 1 (.slice o20 0 1 (some 1))) fun r23 =>
  appendK (upd H16 o20 ⟨1, r19⟩) 1 8 (xs15.headD .any) r23 fun v21 H22 =>
  bnd (aBinN .add (xs15.tail.headD .any) (.int .i64 1)) fun t24 =>
  ∃ n14, n14 < n13 ∧ Shr (I11 n14 [v21, t24]) H22)
  (bnd (aIndex H16 1 (xs15.headD .any) a1) fun t25 =>
  bnd (aSt 1 H16 t25 (.int .i64 0)) fun H26 =>
  ∃ (I27 : Nat → List V → Heap → Prop) (n28 : Nat), Shr (I27 n28 [(.box (cellsOf a0)), (.int .i64 0)]) H26 ∧
  ∀ n29 xs31 H32, I27 n29 xs31 H32 →
  bnd (partOf false 1 (bc (xs31.headD .any)) 0) fun t33 =>
  bnd (aBinN .lss (xs31.tail.headD .any) t33) fun t34 =>
  cnd t34
  (∃ (I35 : Nat → List V → Heap → Prop) (n36 : Nat), Shr (I35 n36 [(.box (bc (xs31.headD .any))), (.int .i64 0)]) H32 ∧
  ∀ n37 xs39 H40, I35 n37 xs39 H40 →
  bnd (partOf false 1 (bc (xs39.headD .any)) 1) fun t41 =>
  bnd (lenOf t41) fun n42 =>
  bnd (aBinN .lss (xs39.tail.headD .any) (.int .i64 (n42 : Nat))) fun t43 =>
  cnd t43
  (bnd (partOf false 1 (bc (xs39.headD .any)) 1) fun t44 =>
  bnd (aIndex H40 3 t44 (xs39.tail.headD .any)) fun t45 =>
  bnd (aLd true 3 H40 t45) fun t46 =>
  bnd (stz 3 [(.int .i64 0), (.int .i64 0), (.int .i64 0)] 0 t46) fun c47 =>
  ∃ S48, Abs.sub S48 H40 ∧
  bnd (partOf false 1 c47 0) fun t49 =>
  bnd (aIndex S48 1 (xs15.headD .any) t49) fun t50 =>
  bnd (aLd false 1 S48 t50) fun t51 =>
  bnd (aBinN .lss t51 (.int .i64 1000000)) fun t52 =>
  gd t52 true
  (bnd (partOf false 1 c47 0) fun t53 =>
  bnd (aIndex S48 1 (xs15.headD .any) t53) fun t54 =>
  bnd (aLd false 1 S48 t54) fun t55 =>
  bnd (partOf false 1 c47 2) fun t56 =>
  bnd (aBinN .add t55 t56) fun t57 =>
  bnd (partOf false 1 c47 1) fun t58 =>
  bnd (aIndex S48 1 (xs15.headD .any) t58) fun t59 =>
  bnd (aLd false 1 S48 t59) fun t60 =>
  bnd (aBinN .lss t57 t60) fun t61 =>
  cnd t61
  (bnd (partOf false 1 c47 1) fun t62 =>
  bnd (partOf false 1 c47 0) fun t63 =>
  bnd (aIndex H40 1 (xs15.headD .any) t63) fun t64 =>
  bnd (aLd false 1 H40 t64) fun t65 =>
  bnd (partOf false 1 c47 2) fun t66 =>
  bnd (aBinN .add t65 t66) fun t67 =>
  bnd (aIndex H40 1 (xs15.headD .any) t62) fun t68 =>
  bnd (aSt 1 H40 t68 t67) fun H69 =>
  bnd (aBinN .add (xs39.tail.headD .any) (.int .i64 1)) fun t70 =>
  ∃ n38, n38 < n37 ∧ Shr (I35 n38 [(.box (bc (xs39.headD .any))), t70]) H69)
  (bnd (aBinN .add (xs39.tail.headD .any) (.int .i64 1)) fun t71 =>
  ∃ n38, n38 < n37 ∧ Shr (I35 n38 [(.box (bc (xs39.headD .any))), t71]) H40))
  (bnd (aBinN .add (xs39.tail.headD .any) (.int .i64 1)) fun t72 =>
  ∃ n38, n38 < n37 ∧ Shr (I35 n38 [(.box (bc (xs39.headD .any))), t72]) H40))
  (bnd (aBinN .add (xs31.tail.headD .any) (.int .i64 1)) fun t73 =>
  ∃ n30, n30 < n29 ∧ Shr (I27 n30 [(.box (bc (xs39.headD .any))), t73]) H40))
  (Ret R (xs15.headD .any) H32))))
  (Ret R .nils H3))
theorem W_s_Distances {R : V → Heap → Prop} {a0 a1 : V} {H : Heap} (h : F_s_Distances R a0 a1 H) : ACalls P n_s_Distances [a0, a1] H R :=
  acalls_of_form (g := ⟨[2, 9], [21, 33, 39, 45, 51, 58, 62, 66, 73, 76, 80]⟩) (x := (.seq .leaf (.seq (.seq .leaf (.cond (.seq .leaf .leaf) .leaf)) (.seq .leaf (.seq (.seq .leaf (.block (.loop [5, 6] (.seq (.seq .leaf (.cond .leaf .leaf)) (.seq (.block .leaf) .leaf))))) (.seq .leaf (.seq (.seq .leaf (.block (.loop [2, 7] (.seq (.seq .leaf (.cond .leaf .leaf)) (.seq (.block (.seq .leaf (.block (.loop [2, 8] (.seq (.seq .leaf (.cond .leaf .leaf)) (.seq (.block (.seq .leaf (.seq (.draw [0, 1, 2, 3, 4, 5, 6, 7, 8, 9, 10, 11, 12, 13, 14, 15, 16, 17, 18, 19, 20, 21]) (.cond (.drawh [0, 1, 2, 3, 4, 5, 6, 7, 8, 9, 10, 11, 12]) .leaf)))) .leaf)))))) .leaf))))) (.seq .leaf .leaf)))))))) Tryz.func25 (by kernel_rfl) (by kernel_rfl) (by kernel_rfl) (by kernel_rfl : F_s_Distances R a0 a1 H = _) h
def F_i_Walk (R : V → Heap → Prop) (a0 a1 a2 a3 : V) (H : Heap) : Prop :=
  ACalls P n_i_areTables [a0, a1, a2] H fun v1 H2 =>
  bnd (aNot v1) fun t3 =>
  gd t3 false
  (ACalls P n_i_within [a3, (.int .i64 0), (.int .i64 16)] H2 fun v4 H5 =>
  bnd (aNot v4) fun t6 =>
  cnd t6
  (Ret R (.tup [.nils, (.int .i64 3)]) H5)
  (ACalls P n_i_walk [a0, a1, a2, a3] H5 fun v7 H8 =>
  bnd (aExtract 0 v7) fun t9 =>
  bnd (aExtract 1 v7) fun t10 =>
  Ret R (.tup [t9, t10]) H8))
  (Ret R (.tup [.nils, (.int .i64 3)]) H2)
theorem W_i_Walk {R : V → Heap → Prop} {a0 a1 a2 a3 : V} {H : Heap} (h : F_i_Walk R a0 a1 a2 a3 H) : ACalls P n_i_Walk [a0, a1, a2, a3] H R :=
  acalls_of_form (g := ⟨[], []⟩) (x := (.seq .leaf (.seq (.seq .leaf (.cond (.seq .leaf .leaf) .leaf)) (.seq .leaf .leaf)))) Tryz.func26 (by kernel_rfl) (by kernel_rfl) (by kernel_rfl) (by kernel_rfl : F_i_Walk R a0 a1 a2 a3 H = _) h
def F_i_WalkCost (R : V → Heap → Prop) (a0 a1 : V) (H : Heap) : Prop :=
  boxK a0 (bnd (partOf true 2 (cellsOf a0) 0) fun t1 =>
  ACalls P n_i_WayCost [t1, a1] H fun v2 H3 =>
  Ret R v2 H3)
theorem W_i_WalkCost {R : V → Heap → Prop} {a0 a1 : V} {H : Heap} (h : F_i_WalkCost R a0 a1 H) : ACalls P n_i_WalkCost [a0, a1] H R :=
  acalls_of_form (g := ⟨[2], []⟩) (x := (.seq .leaf (.seq .leaf .leaf))) Tryz.func27 (by kernel_rfl) (by kernel_rfl) (by kernel_rfl) (by kernel_rfl : F_i_WalkCost R a0 a1 H = _) h
def F_i_CountHome (R : V → Heap → Prop) (a0 a1 : V) (H : Heap) : Prop :=
  ACalls P n_i_areTables [a0, (.int .i64 0), a1] H fun v1 H2 =>
  bnd (aNot v1) fun t3 =>
  cnd t3
  (Ret R (.int .i64 (-1)) H2)
  (ACalls P n_i_nodesWith [a0, a1, (.int .i64 16), (.int .i64 0)] H2 fun v4 H5 =>
  bnd (lenOf v4) fun n6 =>
  Ret R (.int .i64 (n6 : Nat)) H5)
theorem W_i_CountHome {R : V → Heap → Prop} {a0 a1 : V} {H : Heap} (h : F_i_CountHome R a0 a1 H) : ACalls P n_i_CountHome [a0, a1] H R :=
  acalls_of_form (g := ⟨[], []⟩) (x := (.seq .leaf (.seq (.seq .leaf (.cond (.seq .leaf .leaf) .leaf)) (.seq .leaf .leaf)))) Tryz.func28 (by kernel_rfl) (by kernel_rfl) (by kernel_rfl) (by kernel_rfl : F_i_CountHome R a0 a1 H = _) h
def F_s_l01In (R : V → Heap → Prop) (a0 a1 a2 : V) (H : Heap) : Prop :=
  bnd (aBinN .leq a1 a0) fun t1 =>
  gd t1 true
  (bnd (aBinN .leq a0 a2) fun t2 =>
  Ret R t2 H)
  (Ret R (.bool false) H)
theorem W_s_l01In {R : V → Heap → Prop} {a0 a1 a2 : V} {H : Heap} (h : F_s_l01In R a0 a1 a2 H) : ACalls P n_s_l01In [a0, a1, a2] H R :=
  acalls_of_form (g := ⟨[], []⟩) (x := (.seq .leaf (.seq .leaf .leaf))) Tryz.func42 (by kernel_rfl) (by kernel_rfl) (by kernel_rfl) (by kernel_rfl : F_s_l01In R a0 a1 a2 H = _) h
def F_s_PutRoute (R : V → Heap → Prop) (a0 a1 : V) (H : Heap) : Prop :=
  boxK a0 (boxK a1 (bnd (partOf true 1 (cellsOf a0) 0) fun t1 =>
  ACalls P n_s_TableOk [t1] H fun v2 H3 =>
  bnd (aNot v2) fun t4 =>
  cnd t4
  (bnd (partOf true 1 (cellsOf a0) 0) fun t5 =>
  ACalls P n_s_l02Copy [t5] H3 fun v6 H7 =>
  bnd (stz 1 [.nils] 0 v6) fun c8 =>
  bnd (partOf true 1 c8 0) fun t9 =>
  Ret R (.tup [t9, (.bool false)]) H7)
  (bnd (partOf true 1 (cellsOf a0) 0) fun t10 =>
  bnd (partOf true 2 (cellsOf a1) 0) fun t11 =>
  ACalls P n_s_l02Less [t10, t11] H3 fun v12 H13 =>
  bnd (stz 1 [.nils] 0 v12) fun c14 =>
  bnd (fillZ [.nils] []) fun c15 =>
  bnd (stz 1 [.nils] 0 (.agg c15)) fun c16 =>
  ∃ (I17 : Nat → List V → Heap → Prop) (n18 : Nat), Shr (I17 n18 [(.box (cellsOf a0)), (.box (cellsOf a1)), (.box [.nils]), (.box c14), (.box c16), (.bool false), (.int .i64 0)]) H13 ∧
  ∀ n19 xs21 H22, I17 n19 xs21 H22 →
  bnd (partOf false 1 (bc (xs21.tail.tail.tail.headD .any)) 0) fun t23 =>
  bnd (lenOf t23) fun n24 =>
  bnd (aBinN .lss (xs21.tail.tail.tail.tail.tail.tail.headD .any) (.int .i64 (n24 : Nat))) fun t25 =>
  cnd t25
  (∃ S26, Abs.sub S26 H22 ∧
  bnd (aNot (xs21.tail.tail.tail.tail.tail.headD .any)) fun t27 =>
  gd t27 true
  (bnd (partOf true 2 (bc (xs21.tail.headD .any)) 0) fun t28 =>
  bnd (partOf false 1 (bc (xs21.tail.tail.tail.headD .any)) 0) fun t29 =>
  bnd (aIndex S26 3 t29 (xs21.tail.tail.tail.tail.tail.tail.headD .any)) fun t30 =>
  bnd (aField 0 t30) fun t31 =>
  bnd (aLd true 2 S26 t31) fun t32 =>
  ACalls P n_s_l02Ahead [t28, t32] H22 fun v33 H34 =>
  Abs.sub S26 H34 ∧
  cnd v33
  (bnd (partOf false 1 (bc (xs21.tail.tail.tail.tail.headD .any)) 0) fun t35 =>
  bnd (partOf true 3 (bc (xs21.tail.headD .any)) 0) fun t36 =>
  bnd (bsl 3 1 [(.int .i64 0), (.int .i64 0), (.int .i64 0)] [(0, t36)]) fun r37 =>
  ∀ o38, H34 o38 = none →
  bnd (rowsOf (upd H34 o38 ⟨3, r37⟩) 3 (.slice o38 0 1 (some 1))) fun r41 =>
  appendK (upd H34 o38 ⟨3, r37⟩) 3 24 t35 r41 fun v39 H40 =>
  bnd (stz 1 (bc (xs21.tail.tail.tail.tail.headD .any)) 0 v39) fun c42 =>
  bnd (partOf false 1 c42 0) fun t43 =>
  bnd (partOf false 1 (bc (xs21.tail.tail.tail.headD .any)) 0) fun t44 =>
  bnd (aIndex H40 3 t44 (xs21.tail.tail.tail.tail.tail.tail.headD .any)) fun t45 =>
  bnd (aLd true 3 H40 t45) fun t46 =>
  bnd (bsl 3 1 [(.int .i64 0), (.int .i64 0), (.int .i64 0)] [(0, t46)]) fun r47 =>
  ∀ o48, H40 o48 = none →
  bnd (rowsOf (upd H40 o48 ⟨3, r47⟩) 3 (.slice o48 0 1 (some 1))) fun r51 =>
  appendK (upd H40 o48 ⟨3, r47⟩) 3 24 t43 r51 fun v49 H50 =>
  bnd (stz 1 c42 0 v49) fun c52 =>
  bnd (aBinN .add (xs21.tail.tail.tail.tail.tail.tail.headD .any) (.int .i64 1)) fun t53 =>
  ∃ n20, n20 < n19 ∧ Shr (I17 n20 [(.box (bc (xs21.headD .any))), (.box (bc (xs21.tail.headD .any))), (.box (bc (xs21.tail.tail.headD .any))), (.box (bc (xs21.tail.tail.tail.headD .any))), (.box c52), (.bool true), t53]) H50)
  (bnd (partOf false 1 (bc (xs21.tail.tail.tail.tail.headD .any)) 0) fun t54 =>
  bnd (partOf false 1 (bc (xs21.tail.tail.tail.headD .any)) 0) fun t55 =>
  bnd (aIndex H34 3 t55 (xs21.tail.tail.tail.tail.tail.tail.headD .any)) fun t56 =>
  bnd (aLd true 3 H34 t56) fun t57 =>
  bnd (bsl 3 1 [(.int .i64 0), (.int .i64 0), (.int .i64 0)] [(0, t57)]) fun r58 =>
  ∀ o59, H34 o59 = none →
  bnd (rowsOf (upd H34 o59 ⟨3, r58⟩) 3 (.slice o59 0 1 (some 1))) fun r62 =>
  appendK (upd H34 o59 ⟨3, r58⟩) 3 24 t54 r62 fun v60 H61 =>
  bnd (stz 1 (bc (xs21.tail.tail.tail.tail.headD .any)) 0 v60) fun c63 =>
  bnd (aBinN .add (xs21.tail.tail.tail.tail.tail.tail.headD .any) (.int .i64 1)) fun t64 =>
  ∃ n20, n20 < n19 ∧ Shr (I17 n20 [(.box (bc (xs21.headD .any))), (.box (bc (xs21.tail.headD .any))), (.box (bc (xs21.tail.tail.headD .any))), (.box (bc (xs21.tail.tail.tail.headD .any))), (.box c63), (xs21.tail.tail.tail.tail.tail.headD .any), t64]) H61))
  (bnd (partOf false 1 (bc (xs21.tail.tail.tail.tail.headD .any)) 0) fun t65 =>
  bnd (partOf false 1 (bc (xs21.tail.tail.tail.headD .any)) 0) fun t66 =>
  bnd (aIndex H22 3 t66 (xs21.tail.tail.tail.tail.tail.tail.headD .any)) fun t67 =>
  bnd (aLd true 3 H22 t67) fun t68 =>
  bnd (bsl 3 1 [(.int .i64 0), (.int .i64 0), (.int .i64 0)] [(0, t68)]) fun r69 =>
  ∀ o70, H22 o70 = none →
  bnd (rowsOf (upd H22 o70 ⟨3, r69⟩) 3 (.slice o70 0 1 (some 1))) fun r73 =>
  appendK (upd H22 o70 ⟨3, r69⟩) 3 24 t65 r73 fun v71 H72 =>
  bnd (stz 1 (bc (xs21.tail.tail.tail.tail.headD .any)) 0 v71) fun c74 =>
  bnd (aBinN .add (xs21.tail.tail.tail.tail.tail.tail.headD .any) (.int .i64 1)) fun t75 =>
  ∃ n20, n20 < n19 ∧ Shr (I17 n20 [(.box (bc (xs21.headD .any))), (.box (bc (xs21.tail.headD .any))), (.box (bc (xs21.tail.tail.headD .any))), (.box (bc (xs21.tail.tail.tail.headD .any))), (.box c74), (xs21.tail.tail.tail.tail.tail.headD .any), t75]) H72))
  (bnd (aNot (xs21.tail.tail.tail.tail.tail.headD .any)) fun t76 =>
  cnd t76
  (bnd (partOf false 1 (bc (xs21.tail.tail.tail.tail.headD .any)) 0) fun t77 =>
  bnd (partOf true 3 (bc (xs21.tail.headD .any)) 0) fun t78 =>
  bnd (bsl 3 1 [(.int .i64 0), (.int .i64 0), (.int .i64 0)] [(0, t78)]) fun r79 =>
  ∀ o80, H22 o80 = none →
  bnd (rowsOf (upd H22 o80 ⟨3, r79⟩) 3 (.slice o80 0 1 (some 1))) fun r83 =>
  appendK (upd H22 o80 ⟨3, r79⟩) 3 24 t77 r83 fun v81 H82 =>
  bnd (stz 1 (bc (xs21.tail.tail.tail.tail.headD .any)) 0 v81) fun c84 =>
  bnd (partOf true 1 c84 0) fun t85 =>
  ACalls P n_s_TableOk [t85] H82 fun v86 H87 =>
  bnd (aNot v86) fun t88 =>
  cnd t88
  (bnd (partOf true 1 (bc (xs21.headD .any)) 0) fun t89 =>
  ACalls P n_s_l02Copy [t89] H87 fun v90 H91 =>
  bnd (stz 1 (bc (xs21.tail.tail.headD .any)) 0 v90) fun c92 =>
  bnd (partOf true 1 c92 0) fun t93 =>
  Ret R (.tup [t93, (.bool false)]) H91)
  (bnd (partOf true 1 c84 0) fun t94 =>
  bnd (stz 1 (bc (xs21.tail.tail.headD .any)) 0 t94) fun c95 =>
  bnd (partOf true 1 c95 0) fun t96 =>
  Ret R (.tup [t96, (.bool true)]) H87))
  (bnd (partOf true 1 (bc (xs21.tail.tail.tail.tail.headD .any)) 0) fun t97 =>
  ACalls P n_s_TableOk [t97] H22 fun v98 H99 =>
  bnd (aNot v98) fun t100 =>
  cnd t100
  (bnd (partOf true 1 (bc (xs21.headD .any)) 0) fun t101 =>
  ACalls P n_s_l02Copy [t101] H99 fun v102 H103 =>
  bnd (stz 1 (bc (xs21.tail.tail.headD .any)) 0 v102) fun c104 =>
  bnd (partOf true 1 c104 0) fun t105 =>
  Ret R (.tup [t105, (.bool false)]) H103)
  (bnd (partOf true 1 (bc (xs21.tail.tail.tail.tail.headD .any)) 0) fun t106 =>
  bnd (stz 1 (bc (xs21.tail.tail.headD .any)) 0 t106) fun c107 =>
  bnd (partOf true 1 c107 0) fun t108 =>
  Ret R (.tup [t108, (.bool true)]) H99))))))
theorem W_s_PutRoute {R : V → Heap → Prop} {a0 a1 : V} {H : Heap} (h : F_s_PutRoute R a0 a1 H) : ACalls P n_s_PutRoute [a0, a1] H R :=
  acalls_of_form (g := ⟨[2, 3, 4, 6, 7], [16, 21, 30, 32, 40, 45, 46, 48, 55, 58, 63]⟩) (x := (.seq .leaf (.seq (.seq .leaf (.cond (.seq .leaf .leaf) .leaf)) (.seq .leaf (.seq .leaf (.seq .leaf (.seq (.seq .leaf (.block (.loop [2, 3, 4, 6, 7, 8, 9] (.seq (.seq .leaf (.cond .leaf .leaf)) (.seq (.block (.seq (.seq (.draw [0, 1, 2, 3, 4, 5, 6, 7, 8, 9, 10, 11, 12]) (.cond (.seq .leaf .leaf) .leaf)) (.drawh [0, 1, 2, 3, 4, 5, 6, 7, 8, 9, 10]))) .leaf))))) (.seq (.seq .leaf (.cond .leaf .leaf)) (.seq (.seq .leaf (.cond (.seq .leaf .leaf) .leaf)) (.seq .leaf .leaf)))))))))) Tryz.func43 (by kernel_rfl) (by kernel_rfl) (by kernel_rfl) (by kernel_rfl : F_s_PutRoute R a0 a1 H = _) h
def F_s_HopsTo (R : V → Heap → Prop) (a0 a1 a2 : V) (H : Heap) : Prop :=
  boxK a0 (bnd (bsl 1 0 [(.int .i64 0)] []) fun r1 =>
  ∀ o2, H o2 = none →
  bnd (partOf true 2 (cellsOf a0) 0) fun t3 =>
  ACalls P n_s_GraphOk [t3] (upd H o2 ⟨1, r1⟩) fun v4 H5 =>
  bnd (aNot v4) fun t6 =>
  gd t6 false
  (bnd (partOf true 2 (cellsOf a0) 0) fun t7 =>
  ACalls P n_s_l03Node [t7, a1] H5 fun v8 H9 =>
  bnd (aNot v8) fun t10 =>
  gd t10 false
  (bnd (partOf true 2 (cellsOf a0) 0) fun t11 =>
  ACalls P n_s_l03Node [t11, a2] H9 fun v12 H13 =>
  bnd (aNot v12) fun t14 =>
  gd t14 false
  (bnd (aBinN .eql a1 a2) fun t15 =>
  cnd t15
  (Ret R .nils H13)
  (bnd (partOf true 2 (cellsOf a0) 0) fun t16 =>
  ACalls P n_s_Distances [t16, a1] H13 fun v17 H18 =>
  bnd (aIndex H18 1 v17 a2) fun t19 =>
  bnd (aLd false 1 H18 t19) fun t20 =>
  bnd (aBinN .eql t20 (.int .i64 1000000)) fun t21 =>
  cnd t21
  (Ret R .nils H18)
  (∃ (I22 : Nat → List V → Heap → Prop) (n23 : Nat), Shr (I22 n23 [(.slice o2 0 0 (some 0)), (.int .i64 0)]) H18 ∧
  ∀ n24 xs26 H27, I22 n24 xs26 H27 →
  bnd (partOf false 1 (cellsOf a0) 0) fun t28 =>
  bnd (aBinN .lss (xs26.tail.headD .any) t28) fun t29 =>
  cnd t29
  (bnd (partOf true 2 (cellsOf a0) 0) fun t30 =>
  ACalls P n_s_l03Cost [t30, a1, (xs26.tail.headD .any)] H27 fun v31 H32 =>
  bnd (aBinN .neq (xs26.tail.headD .any) a1) fun t33 =>
  gd t33 true
  (bnd (aBinN .lss v31 (.int .i64 1000000)) fun t34 =>
  gd t34 true
  (bnd (partOf true 2 (cellsOf a0) 0) fun t35 =>
  ACalls P n_s_Distances [t35, (xs26.tail.headD .any)] H32 fun v36 H37 =>
  bnd (aIndex H37 1 v36 a2) fun t38 =>
  bnd (aLd false 1 H37 t38) fun t39 =>
  bnd (aBinN .add v31 t39) fun t40 =>
  bnd (aBinN .eql t40 t20) fun t41 =>
  cnd t41
  (bnd (bsl 1 1 [(.int .i64 0)] [(0, (xs26.tail.headD .any))]) fun r42 =>
  ∀ o43, H37 o43 = none →
  bnd (rowsOf (upd H37 o43 ⟨1, r42⟩) 1 (.slice o43 0 1 (some 1))) fun r46 =>
  appendK (upd H37 o43 ⟨1, r42⟩) 1 8 (xs26.headD .any) r46 fun v44 H45 =>
  bnd (aBinN .add (xs26.tail.headD .any) (.int .i64 1)) fun t47 =>
  ∃ n25, n25 < n24 ∧ Shr (I22 n25 [v44, t47]) H45)
  (bnd (aBinN .add (xs26.tail.headD .any) (.int .i64 1)) fun t48 =>
  ∃ n25, n25 < n24 ∧ Shr (I22 n25 [(xs26.headD .any), t48]) H37))
  (bnd (aBinN .add (xs26.tail.headD .any) (.int .i64 1)) fun t49 =>
  ∃ n25, n25 < n24 ∧ Shr (I22 n25 [(xs26.headD .any), t49]) H32))
  (bnd (aBinN .add (xs26.tail.headD .any) (.int .i64 1)) fun t50 =>
  ∃ n25, n25 < n24 ∧ Shr (I22 n25 [(xs26.headD .any), t50]) H32))
  (Ret R (xs26.headD .any) H27))))
  (Ret R .nils H13))
  (Ret R .nils H9))
  (Ret R .nils H5))
theorem W_s_HopsTo {R : V → Heap → Prop} {a0 a1 a2 : V} {H : Heap} (h : F_s_HopsTo R a0 a1 a2 H) : ACalls P n_s_HopsTo [a0, a1, a2] H R :=
  acalls_of_form (g := ⟨[3], [41]⟩) (x := (.seq .leaf (.seq .leaf (.seq (.seq .leaf (.cond (.seq .leaf .leaf) .leaf)) (.seq .leaf (.seq (.seq .leaf (.cond (.seq .leaf .leaf) .leaf)) (.seq (.seq .leaf (.block (.loop [7, 9] (.seq (.seq .leaf (.cond .leaf .leaf)) (.seq (.block (.seq .leaf (.seq .leaf (.cond .leaf .leaf)))) .leaf))))) (.seq .leaf .leaf)))))))) Tryz.func44 (by kernel_rfl) (by kernel_rfl) (by kernel_rfl) (by kernel_rfl : F_s_HopsTo R a0 a1 a2 H = _) h
def F_i_GraphOf (R : V → Heap → Prop) (a0 : V) (H : Heap) : Prop :=
  boxK a0 (bnd (partOf true 1 (cellsOf a0) 0) fun t1 =>
  ACalls P n_i_DbOk [t1] H fun v2 H3 =>
  bnd (aNot v2) fun t4 =>
  cnd t4
  (bnd (fillZ [(.int .i64 0), .nils] []) fun c5 =>
  bnd (stz 2 [(.int .i64 0), .nils] 0 (.agg c5)) fun c6 =>
  bnd (partOf true 2 c6 0) fun t7 =>
  Ret R (.tup [t7, (.bool false)]) H3)
  (bnd (fillZ [(.int .i64 0), .nils] [(0, 1, (.int .i64 10))]) fun c8 =>
  bnd (stz 2 [(.int .i64 0), .nils] 0 (.agg c8)) fun c9 =>
  bnd (partOf false 1 (cellsOf a0) 0) fun t10 =>
  bnd (lenOf t10) fun n11 =>
  ∃ (I12 : Nat → List V → Heap → Prop) (n13 : Nat), Shr (I12 n13 [(.box (cellsOf a0)), (.box [(.int .i64 0), .nils]), (.box c9), (.int .i64 0)]) H3 ∧
  ∀ n14 xs16 H17, I12 n14 xs16 H17 →
  bnd (aBinN .lss (xs16.tail.tail.tail.headD .any) (.int .i64 (n11 : Nat))) fun t18 =>
  cnd t18
  (bnd (aIndex H17 5 t10 (xs16.tail.tail.tail.headD .any)) fun t19 =>
  bnd (aLd true 5 H17 t19) fun t20 =>
  bnd (stz 5 [(.int .i64 0), (.int .i64 0), (.int .i64 0), .nils, .nils] 0 t20) fun c21 =>
  bnd (partOf false 1 c21 3) fun t22 =>
  bnd (lenOf t22) fun n23 =>
  ∃ (I24 : Nat → List V → Heap → Prop) (n25 : Nat), Shr (I24 n25 [(.box (bc (xs16.headD .any))), (.box (bc (xs16.tail.headD .any))), (.box (bc (xs16.tail.tail.headD .any))), (.box c21), (.int .i64 0)]) H17 ∧
  ∀ n26 xs28 H29, I24 n26 xs28 H29 →
  bnd (aBinN .lss (xs28.tail.tail.tail.tail.headD .any) (.int .i64 (n23 : Nat))) fun t30 =>
  cnd t30
  (bnd (aIndex H29 2 t22 (xs28.tail.tail.tail.tail.headD .any)) fun t31 =>
  bnd (aLd true 2 H29 t31) fun t32 =>
  bnd (stz 2 [(.int .i64 0), (.int .i64 0)] 0 t32) fun c33 =>
  bnd (partOf true 1 (bc (xs28.headD .any)) 0) fun t34 =>
  bnd (partOf false 1 c33 0) fun t35 =>
  bnd (partOf false 1 (bc (xs28.tail.tail.tail.headD .any)) 0) fun t36 =>
  ACalls P n_i_Db_hasLink [t34, t35, t36] H29 fun v37 H38 =>
  cnd v37
  (bnd (partOf false 1 (bc (xs28.tail.tail.headD .any)) 1) fun t39 =>
  bnd (partOf false 1 (bc (xs28.tail.tail.tail.headD .any)) 0) fun t40 =>
  bnd (partOf false 1 c33 0) fun t41 =>
  bnd (partOf false 1 c33 1) fun t42 =>
  bnd (fillZ [(.int .i64 0), (.int .i64 0), (.int .i64 0)] [(0, 1, t40), (1, 1, t41), (2, 1, t42)]) fun c43 =>
  bnd (bsl 3 1 [(.int .i64 0), (.int .i64 0), (.int .i64 0)] [(0, (.agg c43))]) fun r44 =>
  ∀ o45, H38 o45 = none →
  bnd (rowsOf (upd H38 o45 ⟨3, r44⟩) 3 (.slice o45 0 1 (some 1))) fun r48 =>
  appendK (upd H38 o45 ⟨3, r44⟩) 3 24 t39 r48 fun v46 H47 =>
  bnd (stz 1 (bc (xs28.tail.tail.headD .any)) 1 v46) fun c49 =>
  bnd (aBinN .add (xs28.tail.tail.tail.tail.headD .any) (.int .i64 1)) fun t50 =>
  ∃ n27, n27 < n26 ∧ Shr (I24 n27 [(.box (bc (xs28.headD .any))), (.box (bc (xs28.tail.headD .any))), (.box c49), (.box (bc (xs28.tail.tail.tail.headD .any))), t50]) H47)
  (bnd (aBinN .add (xs28.tail.tail.tail.tail.headD .any) (.int .i64 1)) fun t51 =>
  ∃ n27, n27 < n26 ∧ Shr (I24 n27 [(.box (bc (xs28.headD .any))), (.box (bc (xs28.tail.headD .any))), (.box (bc (xs28.tail.tail.headD .any))), (.box (bc (xs28.tail.tail.tail.headD .any))), t51]) H38))
  (bnd (aBinN .add (xs16.tail.tail.tail.headD .any) (.int .i64 1)) fun t52 =>
  ∃ n15, n15 < n14 ∧ Shr (I12 n15 [(.box (bc (xs28.headD .any))), (.box (bc (xs28.tail.headD .any))), (.box (bc (xs28.tail.tail.headD .any))), t52]) H29))
  (bnd (partOf false 1 (bc (xs16.tail.tail.headD .any)) 1) fun t53 =>
  bnd (lenOf t53) fun n54 =>
  bnd (aBinN .gtr (.int .i64 (n54 : Nat)) (.int .i64 60)) fun t55 =>
  cnd t55
  (bnd (fillZ [(.int .i64 0), .nils] []) fun c56 =>
  bnd (stz 2 (bc (xs16.tail.headD .any)) 0 (.agg c56)) fun c57 =>
  bnd (partOf true 2 c57 0) fun t58 =>
  Ret R (.tup [t58, (.bool false)]) H17)
  (bnd (partOf true 2 (bc (xs16.tail.tail.headD .any)) 0) fun t59 =>
  bnd (stz 2 (bc (xs16.tail.headD .any)) 0 t59) fun c60 =>
  bnd (partOf true 2 c60 0) fun t61 =>
  Ret R (.tup [t61, (.bool true)]) H17))))
theorem W_i_GraphOf {R : V → Heap → Prop} {a0 : V} {H : Heap} (h : F_i_GraphOf R a0 H) : ACalls P n_i_GraphOf [a0] H R :=
  acalls_of_form (g := ⟨[1, 2, 4, 6, 8], [14, 21, 29, 31, 34, 36, 38, 40, 45, 48]⟩) (x := (.seq .leaf (.seq (.seq .leaf (.cond (.seq .leaf .leaf) .leaf)) (.seq .leaf (.seq (.seq .leaf (.block (.loop [1, 2, 4, 17] (.seq .leaf (.seq (.cond .leaf .leaf) (.seq (.block (.seq .leaf (.seq .leaf (.block (.loop [1, 2, 4, 6, 24] (.seq .leaf (.seq (.cond .leaf .leaf) (.seq (.block (.seq .leaf (.seq .leaf (.cond .leaf .leaf)))) .leaf)))))))) .leaf)))))) (.seq (.seq .leaf (.cond (.seq .leaf .leaf) .leaf)) (.seq .leaf .leaf))))))) Tryz.func46 (by kernel_rfl) (by kernel_rfl) (by kernel_rfl) (by kernel_rfl : F_i_GraphOf R a0 H = _) h
def F_i_within (R : V → Heap → Prop) (a0 a1 a2 : V) (H : Heap) : Prop :=
  bnd (aBinN .geq a0 a1) fun t1 =>
  gd t1 true
  (bnd (aBinN .leq a0 a2) fun t2 =>
  Ret R t2 H)
  (Ret R (.bool false) H)
theorem W_i_within {R : V → Heap → Prop} {a0 a1 a2 : V} {H : Heap} (h : F_i_within R a0 a1 a2 H) : ACalls P n_i_within [a0, a1, a2] H R :=
  acalls_of_form (g := ⟨[], []⟩) (x := (.seq .leaf (.seq .leaf .leaf))) Tryz.func47 (by kernel_rfl) (by kernel_rfl) (by kernel_rfl) (by kernel_rfl : F_i_within R a0 a1 a2 H = _) h
def F_i_Graph_all (R : V → Heap → Prop) (a0 : V) (H : Heap) : Prop :=
  boxK a0 (bnd (bsl 1 0 [.nils] []) fun r1 =>
  ∀ o2, H o2 = none →
  bnd (partOf false 1 (cellsOf a0) 0) fun t3 =>
  ∃ (I4 : Nat → List V → Heap → Prop) (n5 : Nat), Shr (I4 n5 [(.slice o2 0 0 (some 0)), (.int .i64 0)]) (upd H o2 ⟨1, r1⟩) ∧
  ∀ n6 xs8 H9, I4 n6 xs8 H9 →
  bnd (aBinN .lss (xs8.tail.headD .any) t3) fun t10 =>
  cnd t10
  (bnd (partOf true 2 (cellsOf a0) 0) fun t11 =>
  ACalls P n_i_Graph_distances [t11, (xs8.tail.headD .any)] H9 fun v12 H13 =>
  bnd (bsl 1 1 [.nils] [(0, v12)]) fun r14 =>
  ∀ o15, H13 o15 = none →
  bnd (rowsOf (upd H13 o15 ⟨1, r14⟩) 1 (.slice o15 0 1 (some 1))) fun r18 =>
  appendK (upd H13 o15 ⟨1, r14⟩) 1 24 (xs8.headD .any) r18 fun v16 H17 =>
  bnd (aBinN .add (xs8.tail.headD .any) (.int .i64 1)) fun t19 =>
  ∃ n7, n7 < n6 ∧ Shr (I4 n7 [v16, t19]) H17)
  (Ret R (xs8.headD .any) H9))
theorem W_i_Graph_all {R : V → Heap → Prop} {a0 : V} {H : Heap} (h : F_i_Graph_all R a0 H) : ACalls P n_i_Graph_all [a0] H R :=
  acalls_of_form (g := ⟨[1], [6]⟩) (x := (.seq .leaf (.seq .leaf (.seq (.seq .leaf (.block (.loop [3, 8] (.seq .leaf (.seq (.cond .leaf .leaf) (.seq (.block (.seq .leaf .leaf)) .leaf)))))) (.seq .leaf .leaf))))) Tryz.func48 (by kernel_rfl) (by kernel_rfl) (by kernel_rfl) (by kernel_rfl : F_i_Graph_all R a0 H = _) h
def F_i_Db_stubsOf (R : V → Heap → Prop) (a0 : V) (H : Heap) : Prop :=
  boxK a0 (bnd (bsl 2 0 [(.int .i64 0), (.int .i64 0)] []) fun r1 =>
  ∀ o2, H o2 = none →
  bnd (partOf false 1 (cellsOf a0) 0) fun t3 =>
  bnd (lenOf t3) fun n4 =>
  ∃ (I5 : Nat → List V → Heap → Prop) (n6 : Nat), Shr (I5 n6 [(.slice o2 0 0 (some 0)), (.int .i64 0)]) (upd H o2 ⟨2, r1⟩) ∧
  ∀ n7 xs9 H10, I5 n7 xs9 H10 →
  bnd (aBinN .lss (xs9.tail.headD .any) (.int .i64 (n4 : Nat))) fun t11 =>
  cnd t11
  (bnd (aIndex H10 5 t3 (xs9.tail.headD .any)) fun t12 =>
  bnd (aLd true 5 H10 t12) fun t13 =>
  bnd (stz 5 [(.int .i64 0), (.int .i64 0), (.int .i64 0), .nils, .nils] 0 t13) fun c14 =>
  bnd (partOf false 1 c14 4) fun t15 =>
  bnd (lenOf t15) fun n16 =>
  ∃ (I17 : Nat → List V → Heap → Prop) (n18 : Nat), Shr (I17 n18 [(xs9.headD .any), (.int .i64 0)]) H10 ∧
  ∀ n19 xs21 H22, I17 n19 xs21 H22 →
  bnd (aBinN .lss (xs21.tail.headD .any) (.int .i64 (n16 : Nat))) fun t23 =>
  cnd t23
  (bnd (aIndex H22 3 t15 (xs21.tail.headD .any)) fun t24 =>
  bnd (aLd true 3 H22 t24) fun t25 =>
  bnd (stz 3 [(.int .i64 0), (.int .i64 0), (.int .i64 0)] 0 t25) fun c26 =>
  bnd (partOf true 2 c26 0) fun t27 =>
  bnd (bsl 2 1 [(.int .i64 0), (.int .i64 0)] [(0, t27)]) fun r28 =>
  ∀ o29, H22 o29 = none →
  bnd (rowsOf (upd H22 o29 ⟨2, r28⟩) 2 (.slice o29 0 1 (some 1))) fun r32 =>
  appendK (upd H22 o29 ⟨2, r28⟩) 2 16 (xs21.headD .any) r32 fun v30 H31 =>
  bnd (aBinN .add (xs21.tail.headD .any) (.int .i64 1)) fun t33 =>
  ∃ n20, n20 < n19 ∧ Shr (I17 n20 [v30, t33]) H31)
  (bnd (aBinN .add (xs9.tail.headD .any) (.int .i64 1)) fun t34 =>
  ∃ n8, n8 < n7 ∧ Shr (I5 n8 [(xs21.headD .any), t34]) H22))
  (ACalls P n_slices_SortFunc_i_Prefix_i_Prefix [(xs9.headD .any), (.fn n_i_comparePrefixes [])] H10 fun v35 H36 =>
  ACalls P n_slices_Compact_i_Prefix_i_Prefix [(xs9.headD .any)] H36 fun v37 H38 =>
  Ret R v37 H38))
theorem W_i_Db_stubsOf {R : V → Heap → Prop} {a0 : V} {H : Heap} (h : F_i_Db_stubsOf R a0 H) : ACalls P n_i_Db_stubsOf [a0] H R :=
  acalls_of_form (g := ⟨[1, 5, 7], [9, 16, 24]⟩) (x := (.seq .leaf (.seq .leaf (.seq (.seq .leaf (.block (.loop [3, 12] (.seq .leaf (.seq (.cond .leaf .leaf) (.seq (.block (.seq .leaf (.seq .leaf (.block (.loop [3, 19] (.seq .leaf (.seq (.cond .leaf .leaf) (.seq (.block (.seq .leaf .leaf)) .leaf)))))))) .leaf)))))) (.seq .leaf (.seq .leaf .leaf)))))) Tryz.func49 (by kernel_rfl) (by kernel_rfl) (by kernel_rfl) (by kernel_rfl : F_i_Db_stubsOf R a0 H = _) h
def F_i_Db_nearest (R : V → Heap → Prop) (a0 a1 a2 : V) (H : Heap) : Prop :=
  boxK a0 (boxK a1 (bnd (bsl 1 0 [(.int .i64 0)] []) fun r1 =>
  ∀ o2, H o2 = none →
  bnd (partOf false 1 (cellsOf a0) 0) fun t3 =>
  bnd (lenOf t3) fun n4 =>
  ∃ (I5 : Nat → List V → Heap → Prop) (n6 : Nat), Shr (I5 n6 [(.box (cellsOf a1)), (.slice o2 0 0 (some 0)), (.int .i64 1000000), (.int .i64 0)]) (upd H o2 ⟨1, r1⟩) ∧
  ∀ n7 xs9 H10, I5 n7 xs9 H10 →
  bnd (aBinN .lss (xs9.tail.tail.tail.headD .any) (.int .i64 (n4 : Nat))) fun t11 =>
  cnd t11
  (bnd (aIndex H10 5 t3 (xs9.tail.tail.tail.headD .any)) fun t12 =>
  bnd (aLd true 5 H10 t12) fun t13 =>
  bnd (stz 5 [(.int .i64 0), (.int .i64 0), (.int .i64 0), .nils, .nils] 0 t13) fun c14 =>
  bnd (partOf false 1 c14 4) fun t15 =>
  bnd (lenOf t15) fun n16 =>
  ∃ (I17 : Nat → List V → Heap → Prop) (n18 : Nat), Shr (I17 n18 [(.box (bc (xs9.headD .any))), (xs9.tail.headD .any), (xs9.tail.tail.headD .any), (.box c14), (.int .i64 0)]) H10 ∧
  ∀ n19 xs21 H22, I17 n19 xs21 H22 →
  bnd (aBinN .lss (xs21.tail.tail.tail.tail.headD .any) (.int .i64 (n16 : Nat))) fun t23 =>
  cnd t23
  (bnd (aIndex H22 3 t15 (xs21.tail.tail.tail.tail.headD .any)) fun t24 =>
  bnd (aLd true 3 H22 t24) fun t25 =>
  bnd (stz 3 [(.int .i64 0), (.int .i64 0), (.int .i64 0)] 0 t25) fun c26 =>
  ∃ S27, Abs.sub S27 H22 ∧
  bnd (partOf false 1 (bc (xs21.tail.tail.tail.headD .any)) 0) fun t28 =>
  bnd (aIndex S27 1 a2 t28) fun t29 =>
  bnd (aLd false 1 S27 t29) fun t30 =>
  bnd (partOf false 1 c26 2) fun t31 =>
  bnd (aBinN .add t30 t31) fun t32 =>
  bnd (partOf true 2 c26 0) fun t33 =>
  bnd (partOf true 2 (bc (xs21.headD .any)) 0) fun t34 =>
  bnd (aBin P .neq 57 t33 t34) fun t35 =>
  gd t35 false
  (bnd (partOf false 1 (bc (xs21.tail.tail.tail.headD .any)) 0) fun t36 =>
  bnd (aIndex H22 1 a2 t36) fun t37 =>
  bnd (aLd false 1 H22 t37) fun t38 =>
  bnd (aBinN .eql t38 (.int .i64 1000000)) fun t39 =>
  gd t39 false
  (bnd (aBinN .gtr t32 (xs21.tail.tail.headD .any)) fun t40 =>
  cnd t40
  (bnd (aBinN .add (xs21.tail.tail.tail.tail.headD .any) (.int .i64 1)) fun t41 =>
  ∃ n20, n20 < n19 ∧ Shr (I17 n20 [(.box (bc (xs21.headD .any))), (xs21.tail.headD .any), (xs21.tail.tail.headD .any), (.box (bc (xs21.tail.tail.tail.headD .any))), t41]) H22)
  (bnd (aBinN .lss t32 (xs21.tail.tail.headD .any)) fun t42 =>
  cnd t42
  (bnd (partOf false 1 (bc (xs21.tail.tail.tail.headD .any)) 0) fun t43 =>
  bnd (bsl 1 1 [(.int .i64 0)] [(0, t43)]) fun r44 =>
  ∀ o45, H22 o45 = none →
  bnd (rowsOf (upd H22 o45 ⟨1, r44⟩) 1 (.slice o45 0 1 (some 1))) fun r48 =>
  appendK (upd H22 o45 ⟨1, r44⟩) 1 8 .nils r48 fun v46 H47 =>
  bnd (aBinN .add (xs21.tail.tail.tail.tail.headD .any) (.int .i64 1)) fun t49 =>
  ∃ n20, n20 < n19 ∧ Shr (I17 n20 [(.box (bc (xs21.headD .any))), v46, t32, (.box (bc (xs21.tail.tail.tail.headD .any))), t49]) H47)
  (bnd (partOf false 1 (bc (xs21.tail.tail.tail.headD .any)) 0) fun t50 =>
  bnd (bsl 1 1 [(.int .i64 0)] [(0, t50)]) fun r51 =>
  ∀ o52, H22 o52 = none →
  bnd (rowsOf (upd H22 o52 ⟨1, r51⟩) 1 (.slice o52 0 1 (some 1))) fun r55 =>
  appendK (upd H22 o52 ⟨1, r51⟩) 1 8 (xs21.tail.headD .any) r55 fun v53 H54 =>
  bnd (aBinN .add (xs21.tail.tail.tail.tail.headD .any) (.int .i64 1)) fun t56 =>
  ∃ n20, n20 < n19 ∧ Shr (I17 n20 [(.box (bc (xs21.headD .any))), v53, (xs21.tail.tail.headD .any), (.box (bc (xs21.tail.tail.tail.headD .any))), t56]) H54)))
  (bnd (aBinN .add (xs21.tail.tail.tail.tail.headD .any) (.int .i64 1)) fun t57 =>
  ∃ n20, n20 < n19 ∧ Shr (I17 n20 [(.box (bc (xs21.headD .any))), (xs21.tail.headD .any), (xs21.tail.tail.headD .any), (.box (bc (xs21.tail.tail.tail.headD .any))), t57]) H22))
  (bnd (aBinN .add (xs21.tail.tail.tail.tail.headD .any) (.int .i64 1)) fun t58 =>
  ∃ n20, n20 < n19 ∧ Shr (I17 n20 [(.box (bc (xs21.headD .any))), (xs21.tail.headD .any), (xs21.tail.tail.headD .any), (.box (bc (xs21.tail.tail.tail.headD .any))), t58]) H22))
  (bnd (aBinN .add (xs9.tail.tail.tail.headD .any) (.int .i64 1)) fun t59 =>
  ∃ n8, n8 < n7 ∧ Shr (I5 n8 [(.box (bc (xs21.headD .any))), (xs21.tail.headD .any), (xs21.tail.tail.headD .any), t59]) H22))
  (Ret R (xs9.tail.headD .any) H10)))
theorem W_i_Db_nearest {R : V → Heap → Prop} {a0 a1 a2 : V} {H : Heap} (h : F_i_Db_nearest R a0 a1 a2 H) : ACalls P n_i_Db_nearest [a0, a1, a2] H R :=
  acalls_of_form (g := ⟨[3, 4, 10, 12], [15, 22, 30, 34, 37, 43, 59]⟩) (x := (.seq .leaf (.seq .leaf (.seq .leaf (.seq (.seq .leaf (.block (.loop [4, 7, 8, 18] (.seq .leaf (.seq (.cond .leaf .leaf) (.seq (.block (.seq .leaf (.seq .leaf (.block (.loop [4, 7, 8, 10, 25] (.seq .leaf (.seq (.cond .leaf .leaf) (.seq (.block (.seq .leaf (.seq (.draw [0, 1, 2, 3, 4, 5, 6, 7, 8]) (.seq (.seq .leaf (.cond .leaf .leaf)) (.seq (.seq .leaf (.cond .leaf .leaf)) .leaf))))) .leaf)))))))) .leaf)))))) (.seq .leaf .leaf)))))) Tryz.func50 (by kernel_rfl) (by kernel_rfl) (by kernel_rfl) (by kernel_rfl : F_i_Db_nearest R a0 a1 a2 H = _) h
def F_slices_Contains_int_int (R : V → Heap → Prop) (a0 a1 : V) (H : Heap) : Prop :=
  ACalls P n_slices_Index_int_int [a0, a1] H fun v1 H2 =>
  bnd (aBinN .geq v1 (.int .i64 0)) fun t3 =>
  Ret R t3 H2
theorem W_slices_Contains_int_int {R : V → Heap → Prop} {a0 a1 : V} {H : Heap} (h : F_slices_Contains_int_int R a0 a1 H) : ACalls P n_slices_Contains_int_int [a0, a1] H R :=
  acalls_of_form (g := ⟨[], []⟩) (x := (.seq .leaf (.seq .leaf .leaf))) Tryz.func51 (by kernel_rfl) (by kernel_rfl) (by kernel_rfl) (by kernel_rfl : F_slices_Contains_int_int R a0 a1 H = _) h
def F_i_Graph_hopsTo (R : V → Heap → Prop) (a0 a1 a2 a3 : V) (H : Heap) : Prop :=
  boxK a0 (bnd (bsl 1 0 [(.int .i64 0)] []) fun r1 =>
  ∀ o2, H o2 = none →
  bnd (aBinN .eql a1 a2) fun t3 =>
  gd t3 false
  (bnd (aIndex (upd H o2 ⟨1, r1⟩) 1 a3 a1) fun t4 =>
  bnd (aLd false 1 (upd H o2 ⟨1, r1⟩) t4) fun t5 =>
  bnd (aIndex (upd H o2 ⟨1, r1⟩) 1 t5 a2) fun t6 =>
  bnd (aLd false 1 (upd H o2 ⟨1, r1⟩) t6) fun t7 =>
  bnd (aBinN .eql t7 (.int .i64 1000000)) fun t8 =>
  cnd t8
  (Ret R (.slice o2 0 0 (some 0)) (upd H o2 ⟨1, r1⟩))
  (bnd (partOf false 1 (cellsOf a0) 1) fun t9 =>
  bnd (lenOf t9) fun n10 =>
  ∃ (I11 : Nat → List V → Heap → Prop) (n12 : Nat), Shr (I11 n12 [(.slice o2 0 0 (some 0)), (.int .i64 0)]) (upd H o2 ⟨1, r1⟩) ∧
  ∀ n13 xs15 H16, I11 n13 xs15 H16 →
  bnd (aBinN .lss (xs15.tail.headD .any) (.int .i64 (n10 : Nat))) fun t17 =>
  cnd t17
  (bnd (aIndex H16 3 t9 (xs15.tail.headD .any)) fun t18 =>
  bnd (aLd true 3 H16 t18) fun t19 =>
  bnd (stz 3 [(.int .i64 0), (.int .i64 0), (.int .i64 0)] 0 t19) fun c20 =>
  ∃ S21, Abs.sub S21 H16 ∧
  bnd (partOf false 1 c20 0) fun t22 =>
  bnd (aBinN .eql t22 a1) fun t23 =>
  gd t23 true
  (bnd (partOf false 1 c20 2) fun t24 =>
  bnd (partOf false 1 c20 1) fun t25 =>
  bnd (aIndex S21 1 a3 t25) fun t26 =>
  bnd (aLd false 1 S21 t26) fun t27 =>
  bnd (aIndex S21 1 t27 a2) fun t28 =>
  bnd (aLd false 1 S21 t28) fun t29 =>
  bnd (aBinN .add t24 t29) fun t30 =>
  bnd (aIndex S21 1 a3 a1) fun t31 =>
  bnd (aLd false 1 S21 t31) fun t32 =>
  bnd (aIndex S21 1 t32 a2) fun t33 =>
  bnd (aLd false 1 S21 t33) fun t34 =>
  bnd (aBinN .eql t30 t34) fun t35 =>
  cnd t35
  (bnd (partOf false 1 c20 1) fun t36 =>
  bnd (bsl 1 1 [(.int .i64 0)] [(0, t36)]) fun r37 =>
  ∀ o38, H16 o38 = none →
  bnd (rowsOf (upd H16 o38 ⟨1, r37⟩) 1 (.slice o38 0 1 (some 1))) fun r41 =>
  appendK (upd H16 o38 ⟨1, r37⟩) 1 8 (xs15.headD .any) r41 fun v39 H40 =>
  bnd (aBinN .add (xs15.tail.headD .any) (.int .i64 1)) fun t42 =>
  ∃ n14, n14 < n13 ∧ Shr (I11 n14 [v39, t42]) H40)
  (bnd (aBinN .add (xs15.tail.headD .any) (.int .i64 1)) fun t43 =>
  ∃ n14, n14 < n13 ∧ Shr (I11 n14 [(xs15.headD .any), t43]) H16))
  (bnd (aBinN .add (xs15.tail.headD .any) (.int .i64 1)) fun t44 =>
  ∃ n14, n14 < n13 ∧ Shr (I11 n14 [(xs15.headD .any), t44]) H16))
  (Ret R (xs15.headD .any) H16)))
  (Ret R (.slice o2 0 0 (some 0)) (upd H o2 ⟨1, r1⟩)))
theorem W_i_Graph_hopsTo {R : V → Heap → Prop} {a0 a1 a2 a3 : V} {H : Heap} (h : F_i_Graph_hopsTo R a0 a1 a2 a3 H) : ACalls P n_i_Graph_hopsTo [a0, a1, a2, a3] H R :=
  acalls_of_form (g := ⟨[4, 11], [27, 34, 39, 42, 60]⟩) (x := (.seq .leaf (.seq .leaf (.seq (.seq .leaf (.cond (.seq .leaf .leaf) .leaf)) (.seq (.seq .leaf (.block (.loop [9, 30] (.seq .leaf (.seq (.cond .leaf .leaf) (.seq (.block (.seq .leaf (.seq (.draw [0, 1, 2, 3, 4, 5, 6, 7, 8, 9, 10, 11, 12, 13, 14, 15, 16, 17, 18, 19, 20, 21, 22, 23, 24]) (.cond .leaf .leaf)))) .leaf)))))) (.seq .leaf .leaf)))))) Tryz.func52 (by kernel_rfl) (by kernel_rfl) (by kernel_rfl) (by kernel_rfl : F_i_Graph_hopsTo R a0 a1 a2 a3 H = _) h
def F_slices_Min_int_int (R : V → Heap → Prop) (a0 : V) (H : Heap) : Prop :=
  bnd (lenOf a0) fun n1 =>
  bnd (aBinN .lss (.int .i64 (n1 : Nat)) (.int .i64 1)) fun t2 =>
  cnd t2
  (False)
  (bnd (aIndex H 1 a0 (.int .i64 0)) fun t3 =>
  bnd (aLd false 1 H t3) fun t4 =>
  ∃ (I5 : Nat → List V → Heap → Prop) (n6 : Nat), Shr (I5 n6 [t4, (.int .i64 1)]) H ∧
  ∀ n7 xs9 H10, I5 n7 xs9 H10 →
  bnd (lenOf a0) fun n11 =>
  bnd (aBinN .lss (xs9.tail.headD .any) (.int .i64 (n11 : Nat))) fun t12 =>
  cnd t12
  (bnd (aIndex H10 1 a0 (xs9.tail.headD .any)) fun t13 =>
  bnd (aLd false 1 H10 t13) fun t14 =>
  bnd (aMins false (xs9.headD .any) [t14]) fun t17 =>
  bnd (aBinN .add (xs9.tail.headD .any) (.int .i64 1)) fun t18 =>
  ∃ n8, n8 < n7 ∧ Shr (I5 n8 [t17, t18]) H10)
  (Ret R (xs9.headD .any) H10))
theorem W_slices_Min_int_int {R : V → Heap → Prop} {a0 : V} {H : Heap} (h : F_slices_Min_int_int R a0 H) : ACalls P n_slices_Min_int_int [a0] H R :=
  acalls_of_form (g := ⟨[], []⟩) (x := (.seq .leaf (.seq (.seq .leaf (.cond .leaf .leaf)) (.seq .leaf (.seq (.seq .leaf (.block (.loop [3, 4] (.seq (.seq .leaf (.cond .leaf .leaf)) (.seq (.block .leaf) .leaf))))) (.seq .leaf .leaf)))))) Tryz.func53 (by kernel_rfl) (by kernel_rfl) (by kernel_rfl) (by kernel_rfl : F_slices_Min_int_int R a0 H = _) h
def F_s_l06Draw (R : V → Heap → Prop) (a0 : V) (H : Heap) : Prop :=
  ACalls P n_s_l01New [a0] H fun v1 H2 =>
  ACalls P n_s_l01Size [a0, (.int .i64 9)] H2 fun v3 H4 =>
  ACalls P n_s_l01Below [v1, v3] H4 fun v5 H6 =>
  bnd (aBinN .add (.int .i64 1) v5) fun t7 =>
  ACalls P n_s_l06DrawDb [v1, t7] H6 fun v8 H9 =>
  bnd (stz 1 [.nils] 0 v8) fun c10 =>
  ACalls P n_s_l01Once [v1, (.int .i64 15)] H9 fun v11 H12 =>
  gd v11 true
  (bnd (partOf false 1 c10 0) fun t13 =>
  bnd (lenOf t13) fun n14 =>
  bnd (aBinN .gtr (.int .i64 (n14 : Nat)) (.int .i64 0)) fun t15 =>
  cnd t15
  (bnd (partOf false 1 c10 0) fun t16 =>
  bnd (lenOf t16) fun n17 =>
  ACalls P n_s_l01Below [v1, (.int .i64 (n17 : Nat))] H12 fun v18 H19 =>
  bnd (partOf false 1 c10 0) fun t20 =>
  bnd (partOf false 1 c10 0) fun t21 =>
  bnd (aIndex H19 5 t21 v18) fun t22 =>
  bnd (aLd true 5 H19 t22) fun t23 =>
  ACalls P n_s_l05Bend [v1, t23] H19 fun v24 H25 =>
  bnd (aIndex H25 5 t20 v18) fun t26 =>
  bnd (aSt 5 H25 t26 v24) fun H27 =>
  ∃ S28, Abs.sub S28 H27 ∧
  bnd (partOf true 1 c10 0) fun t29 =>
  bnd (stz 1 [.nils] 0 t29) fun c30 =>
  bnd (partOf true 1 c30 0) fun t31 =>
  Ret R (.tup [v1, t31]) H27)
  (∃ S32, Abs.sub S32 H12 ∧
  bnd (partOf true 1 c10 0) fun t33 =>
  bnd (stz 1 [.nils] 0 t33) fun c34 =>
  bnd (partOf true 1 c34 0) fun t35 =>
  Ret R (.tup [v1, t35]) H12))
  (∃ S36, Abs.sub S36 H12 ∧
  bnd (partOf true 1 c10 0) fun t37 =>
  bnd (stz 1 [.nils] 0 t37) fun c38 =>
  bnd (partOf true 1 c38 0) fun t39 =>
  Ret R (.tup [v1, t39]) H12)
theorem W_s_l06Draw {R : V → Heap → Prop} {a0 : V} {H : Heap} (h : F_s_l06Draw R a0 H) : ACalls P n_s_l06Draw [a0] H R :=
  acalls_of_form (g := ⟨[3, 5], [19, 25, 29, 33]⟩) (x := (.seq .leaf (.seq .leaf (.seq .leaf (.seq (.seq .leaf (.cond (.seq .leaf (.drawh [0, 1, 2, 3, 4, 5, 6, 7, 8, 9, 10, 11])) .leaf)) (.seq (.draw [0, 1, 2, 3]) .leaf)))))) Tryz.func57 (by kernel_rfl) (by kernel_rfl) (by kernel_rfl) (by kernel_rfl : F_s_l06Draw R a0 H = _) h
def F_s_l01PickInt (R : V → Heap → Prop) (a0 a1 : V) (H : Heap) : Prop :=
  bnd (lenOf a1) fun n1 =>
  ACalls P n_s_l01Below [a0, (.int .i64 (n1 : Nat))] H fun v2 H3 =>
  bnd (aIndex H3 1 a1 v2) fun t4 =>
  bnd (aLd false 1 H3 t4) fun t5 =>
  Ret R t5 H3
theorem W_s_l01PickInt {R : V → Heap → Prop} {a0 a1 : V} {H : Heap} (h : F_s_l01PickInt R a0 a1 H) : ACalls P n_s_l01PickInt [a0, a1] H R :=
  acalls_of_form (g := ⟨[], []⟩) (x := (.seq .leaf (.seq .leaf .leaf))) Tryz.func58 (by kernel_rfl) (by kernel_rfl) (by kernel_rfl) (by kernel_rfl : F_s_l01PickInt R a0 a1 H = _) h
def F_s_l01Below (R : V → Heap → Prop) (a0 a1 : V) (H : Heap) : Prop :=
  bnd (aBinN .leq a1 (.int .i64 0)) fun t1 =>
  cnd t1
  (Ret R (.int .i64 0) H)
  (bnd (aBinN .leq a1 (.int .i64 256)) fun t2 =>
  cnd t2
  (ACalls P n_s_l01Byte [a0] H fun v3 H4 =>
  bnd (aBinN .rem v3 a1) fun t5 =>
  Ret R t5 H4)
  (ACalls P n_s_l01Byte [a0] H fun v6 H7 =>
  ACalls P n_s_l01Byte [a0] H7 fun v8 H9 =>
  ACalls P n_s_l01Byte [a0] H9 fun v10 H11 =>
  bnd (aBinN .mul v6 (.int .i64 65536)) fun t12 =>
  bnd (aBinN .mul v8 (.int .i64 256)) fun t13 =>
  bnd (aBinN .add t12 t13) fun t14 =>
  bnd (aBinN .add t14 v10) fun t15 =>
  bnd (aBinN .rem t15 a1) fun t16 =>
  Ret R t16 H11))
theorem W_s_l01Below {R : V → Heap → Prop} {a0 a1 : V} {H : Heap} (h : F_s_l01Below R a0 a1 H) : ACalls P n_s_l01Below [a0, a1] H R :=
  acalls_of_form (g := ⟨[], []⟩) (x := (.seq .leaf (.seq (.seq .leaf (.cond (.seq .leaf .leaf) .leaf)) (.seq (.seq .leaf (.cond (.seq .leaf .leaf) .leaf)) (.seq .leaf (.seq .leaf (.seq .leaf (.seq .leaf .leaf)))))))) Tryz.func59 (by kernel_rfl) (by kernel_rfl) (by kernel_rfl) (by kernel_rfl : F_s_l01Below R a0 a1 H = _) h
def F_s_DbOk (R : V → Heap → Prop) (a0 : V) (H : Heap) : Prop :=
  boxK a0 (bnd (partOf false 1 (cellsOf a0) 0) fun t1 =>
  bnd (lenOf t1) fun n2 =>
  bnd (aBinN .gtr (.int .i64 (n2 : Nat)) (.int .i64 10)) fun t3 =>
  cnd t3
  (Ret R (.bool false) H)
  (∃ (I4 : Nat → List V → Heap → Prop) (n5 : Nat), Shr (I4 n5 [(.int .i64 0)]) H ∧
  ∀ n6 xs8 H9, I4 n6 xs8 H9 →
  bnd (partOf false 1 (cellsOf a0) 0) fun t10 =>
  bnd (lenOf t10) fun n11 =>
  bnd (aBinN .lss (xs8.headD .any) (.int .i64 (n11 : Nat))) fun t12 =>
  cnd t12
  (∃ S13, Abs.sub S13 H9 ∧
  bnd (partOf false 1 (cellsOf a0) 0) fun t14 =>
  bnd (aIndex S13 5 t14 (xs8.headD .any)) fun t15 =>
  bnd (aLd true 5 S13 t15) fun t16 =>
  ACalls P n_s_LsaOk [t16] H9 fun v17 H18 =>
  Abs.sub S13 H18 ∧
  bnd (aNot v17) fun t19 =>
  gd t19 false
  (bnd (aBinN .gtr (xs8.headD .any) (.int .i64 0)) fun t20 =>
  gd3 t20 true
  (bnd (partOf false 1 (cellsOf a0) 0) fun t21 =>
  bnd (aBinN .sub (xs8.headD .any) (.int .i64 1)) fun t22 =>
  bnd (aIndex S13 5 t21 t22) fun t23 =>
  bnd (aField 0 t23) fun t24 =>
  bnd (aLd false 1 S13 t24) fun t25 =>
  bnd (partOf false 1 (cellsOf a0) 0) fun t26 =>
  bnd (aIndex S13 5 t26 (xs8.headD .any)) fun t27 =>
  bnd (aField 0 t27) fun t28 =>
  bnd (aLd false 1 S13 t28) fun t29 =>
  bnd (aBinN .geq t25 t29) fun t30 =>
  cnd t30
  (Ret R (.bool false) H18)
  (bnd (aBinN .add (xs8.headD .any) (.int .i64 1)) fun t31 =>
  ∃ n7, n7 < n6 ∧ Shr (I4 n7 [t31]) H18))
  (bnd (aBinN .add (xs8.headD .any) (.int .i64 1)) fun t32 =>
  ∃ n7, n7 < n6 ∧ Shr (I4 n7 [t32]) H18)
  (bnd (aPick (.tup []) (.tup []) (.bool false)) fun t33 =>
  cnd t33
  (Ret R (.bool false) H18)
  (bnd (aBinN .add (xs8.headD .any) (.int .i64 1)) fun t34 =>
  ∃ n7, n7 < n6 ∧ Shr (I4 n7 [t34]) H18)))
  (Ret R (.bool false) H18))
  (Ret R (.bool true) H9)))
theorem W_s_DbOk {R : V → Heap → Prop} {a0 : V} {H : Heap} (h : F_s_DbOk R a0 H) : ACalls P n_s_DbOk [a0] H R :=
  acalls_of_form (g := ⟨[1], [4, 9, 15, 26, 33]⟩) (x := (.seq .leaf (.seq (.seq .leaf (.cond (.seq .leaf .leaf) .leaf)) (.seq (.seq .leaf (.block (.loop [3] (.seq (.seq .leaf (.cond .leaf .leaf)) (.seq (.block (.seq (.draw [0, 1, 2, 3, 4, 5, 6, 7, 8, 9, 10, 11, 12, 13, 14, 15, 16, 17, 18, 19, 20, 21, 22, 23, 24, 25, 26]) (.cond (.seq .leaf .leaf) .leaf))) .leaf))))) (.seq .leaf .leaf))))) Tryz.func60 (by kernel_rfl) (by kernel_rfl) (by kernel_rfl) (by kernel_rfl : F_s_DbOk R a0 H = _) h
def F_s_l06Says (R : V → Heap → Prop) (a0 a1 a2 : V) (H : Heap) : Prop :=
  boxK a0 (bnd (partOf true 1 (cellsOf a0) 0) fun t1 =>
  ACalls P n_s_FindLsa [t1, a1] H fun v2 H3 =>
  bnd (aExtract 0 v2) fun t4 =>
  bnd (aExtract 1 v2) fun t5 =>
  bnd (stz 5 [(.int .i64 0), (.int .i64 0), (.int .i64 0), .nils, .nils] 0 t4) fun c6 =>
  bnd (aNot t5) fun t7 =>
  cnd t7
  (Ret R (.bool false) H3)
  (∃ (I8 : Nat → List V → Heap → Prop) (n9 : Nat), Shr (I8 n9 [(.int .i64 0)]) H3 ∧
  ∀ n10 xs12 H13, I8 n10 xs12 H13 →
  bnd (partOf false 1 c6 3) fun t14 =>
  bnd (lenOf t14) fun n15 =>
  bnd (aBinN .lss (xs12.headD .any) (.int .i64 (n15 : Nat))) fun t16 =>
  cnd t16
  (bnd (partOf false 1 c6 3) fun t17 =>
  bnd (aIndex H13 2 t17 (xs12.headD .any)) fun t18 =>
  bnd (aField 0 t18) fun t19 =>
  bnd (aLd false 1 H13 t19) fun t20 =>
  bnd (aBinN .eql t20 a2) fun t21 =>
  cnd t21
  (Ret R (.bool true) H13)
  (bnd (aBinN .add (xs12.headD .any) (.int .i64 1)) fun t22 =>
  ∃ n11, n11 < n10 ∧ Shr (I8 n11 [t22]) H13))
  (Ret R (.bool false) H13)))
theorem W_s_l06Says {R : V → Heap → Prop} {a0 a1 a2 : V} {H : Heap} (h : F_s_l06Says R a0 a1 a2 H) : ACalls P n_s_l06Says [a0, a1, a2] H R :=
  acalls_of_form (g := ⟨[3, 7], [19, 25]⟩) (x := (.seq .leaf (.seq .leaf (.seq (.seq .leaf (.cond (.seq .leaf .leaf) .leaf)) (.seq (.seq .leaf (.block (.loop [9] (.seq (.seq .leaf (.cond .leaf .leaf)) (.seq (.block (.seq .leaf (.cond (.seq .leaf .leaf) .leaf))) .leaf))))) (.seq .leaf .leaf)))))) Tryz.func61 (by kernel_rfl) (by kernel_rfl) (by kernel_rfl) (by kernel_rfl : F_s_l06Says R a0 a1 a2 H = _) h
def F_s_GraphOk (R : V → Heap → Prop) (a0 : V) (H : Heap) : Prop :=
  boxK a0 (bnd (partOf false 1 (cellsOf a0) 0) fun t1 =>
  ACalls P n_s_l01In [t1, (.int .i64 1), (.int .i64 10)] H fun v2 H3 =>
  bnd (aNot v2) fun t4 =>
  gd t4 false
  (bnd (partOf false 1 (cellsOf a0) 1) fun t5 =>
  bnd (lenOf t5) fun n6 =>
  bnd (aBinN .gtr (.int .i64 (n6 : Nat)) (.int .i64 60)) fun t7 =>
  cnd t7
  (Ret R (.bool false) H3)
  (∃ (I8 : Nat → List V → Heap → Prop) (n9 : Nat), Shr (I8 n9 [(.box (cellsOf a0)), (.int .i64 0)]) H3 ∧
  ∀ n10 xs12 H13, I8 n10 xs12 H13 →
  bnd (partOf false 1 (bc (xs12.headD .any)) 1) fun t14 =>
  bnd (lenOf t14) fun n15 =>
  bnd (aBinN .lss (xs12.tail.headD .any) (.int .i64 (n15 : Nat))) fun t16 =>
  cnd t16
  (bnd (partOf false 1 (bc (xs12.headD .any)) 1) fun t17 =>
  bnd (aIndex H13 3 t17 (xs12.tail.headD .any)) fun t18 =>
  bnd (aLd true 3 H13 t18) fun t19 =>
  bnd (stz 3 [(.int .i64 0), (.int .i64 0), (.int .i64 0)] 0 t19) fun c20 =>
  bnd (partOf true 2 (bc (xs12.headD .any)) 0) fun t21 =>
  bnd (partOf false 1 c20 0) fun t22 =>
  ACalls P n_s_l03Node [t21, t22] H13 fun v23 H24 =>
  bnd (aNot v23) fun t25 =>
  gd t25 false
  (bnd (partOf true 2 (bc (xs12.headD .any)) 0) fun t26 =>
  bnd (partOf false 1 c20 1) fun t27 =>
  ACalls P n_s_l03Node [t26, t27] H24 fun v28 H29 =>
  bnd (aNot v28) fun t30 =>
  gd t30 false
  (bnd (partOf false 1 c20 0) fun t31 =>
  bnd (partOf false 1 c20 1) fun t32 =>
  bnd (aBinN .eql t31 t32) fun t33 =>
  gd t33 false
  (bnd (partOf false 1 c20 2) fun t34 =>
  ACalls P n_s_l01In [t34, (.int .i64 1), (.int .i64 1000)] H29 fun v35 H36 =>
  bnd (aNot v35) fun t37 =>
  cnd t37
  (Ret R (.bool false) H36)
  (bnd (aBinN .gtr (xs12.tail.headD .any) (.int .i64 0)) fun t38 =>
  cnd t38
  (bnd (partOf false 1 (bc (xs12.headD .any)) 1) fun t39 =>
  bnd (aBinN .sub (xs12.tail.headD .any) (.int .i64 1)) fun t40 =>
  bnd (aIndex H36 3 t39 t40) fun t41 =>
  bnd (aLd true 3 H36 t41) fun t42 =>
  bnd (stz 3 [(.int .i64 0), (.int .i64 0), (.int .i64 0)] 0 t42) fun c43 =>
  bnd (partOf false 1 c43 0) fun t44 =>
  bnd (partOf false 1 c20 0) fun t45 =>
  bnd (aBinN .gtr t44 t45) fun t46 =>
  gd t46 false
  (bnd (partOf false 1 c43 0) fun t47 =>
  bnd (partOf false 1 c20 0) fun t48 =>
  bnd (aBinN .eql t47 t48) fun t49 =>
  gd3 t49 true
  (bnd (partOf false 1 c43 1) fun t50 =>
  bnd (partOf false 1 c20 1) fun t51 =>
  bnd (aBinN .geq t50 t51) fun t52 =>
  cnd t52
  (Ret R (.bool false) H36)
  (bnd (aBinN .add (xs12.tail.headD .any) (.int .i64 1)) fun t53 =>
  ∃ n11, n11 < n10 ∧ Shr (I8 n11 [(.box (bc (xs12.headD .any))), t53]) H36))
  (bnd (aBinN .add (xs12.tail.headD .any) (.int .i64 1)) fun t54 =>
  ∃ n11, n11 < n10 ∧ Shr (I8 n11 [(.box (bc (xs12.headD .any))), t54]) H36)
  (bnd (aPick (.tup []) (.tup []) (.bool false)) fun t55 =>
  cnd t55
  (Ret R (.bool false) H36)
  (bnd (aBinN .add (xs12.tail.headD .any) (.int .i64 1)) fun t56 =>
  ∃ n11, n11 < n10 ∧ Shr (I8 n11 [(.box (bc (xs12.headD .any))), t56]) H36)))
  (Ret R (.bool false) H36))
  (bnd (aBinN .add (xs12.tail.headD .any) (.int .i64 1)) fun t57 =>
  ∃ n11, n11 < n10 ∧ Shr (I8 n11 [(.box (bc (xs12.headD .any))), t57]) H36)))
  (Ret R (.bool false) H29))
  (Ret R (.bool false) H29))
  (Ret R (.bool false) H24))
  (Ret R (.bool true) H13)))
  (Ret R (.bool false) H3))
theorem W_s_GraphOk {R : V → Heap → Prop} {a0 : V} {H : Heap} (h : F_s_GraphOk R a0 H) : ACalls P n_s_GraphOk [a0] H R :=
  acalls_of_form (g := ⟨[1, 4, 5], [6, 11, 17, 23, 29, 35, 41, 43, 48, 55, 61, 63, 67, 69, 73, 75]⟩) (x := (.seq .leaf (.seq (.seq .leaf (.cond (.seq .leaf .leaf) .leaf)) (.seq (.seq .leaf (.block (.loop [1, 3] (.seq (.seq .leaf (.cond .leaf .leaf)) (.seq (.block (.seq .leaf (.seq (.seq .leaf (.cond (.seq .leaf .leaf) .leaf)) (.seq .leaf (.cond (.seq .leaf (.seq .leaf (.cond (.seq .leaf .leaf) .leaf))) .leaf))))) .leaf))))) (.seq .leaf .leaf))))) Tryz.func62 (by kernel_rfl) (by kernel_rfl) (by kernel_rfl) (by kernel_rfl : F_s_GraphOk R a0 H = _) h
def F_s_PrefixOk (R : V → Heap → Prop) (a0 : V) (H : Heap) : Prop :=
  boxK a0 (∃ S1, Abs.sub S1 H ∧
  bnd (partOf false 1 (cellsOf a0) 1) fun t2 =>
  ACalls P n_s_l01In [t2, (.int .i64 0), (.int .i64 16)] H fun v3 H4 =>
  Abs.sub S1 H4 ∧
  gd v3 true
  (bnd (partOf false 1 (cellsOf a0) 0) fun t5 =>
  ACalls P n_s_l01Addr [t5] H4 fun v6 H7 =>
  Abs.sub S1 H7 ∧
  gd v6 true
  (bnd (partOf false 1 (cellsOf a0) 0) fun t8 =>
  bnd (partOf false 1 (cellsOf a0) 1) fun t9 =>
  ACalls P n_s_l01Size2 [t9] H7 fun v10 H11 =>
  Abs.sub S1 H11 ∧
  bnd (aBinN .rem t8 v10) fun t12 =>
  bnd (aBinN .eql t12 (.int .i64 0)) fun t13 =>
  Ret R t13 H11)
  (Ret R (.bool false) H7))
  (Ret R (.bool false) H4))
theorem W_s_PrefixOk {R : V → Heap → Prop} {a0 : V} {H : Heap} (h : F_s_PrefixOk R a0 H) : ACalls P n_s_PrefixOk [a0] H R :=
  acalls_of_form (g := ⟨[1], [3, 7, 12, 14]⟩) (x := (.seq .leaf (.seq (.draw [0, 1, 2, 3, 4, 5, 6, 7, 8, 9, 10, 11, 12, 13, 14, 15, 16, 17]) .leaf))) Tryz.func63 (by kernel_rfl) (by kernel_rfl) (by kernel_rfl) (by kernel_rfl : F_s_PrefixOk R a0 H = _) h
def F_s_l01Size2 (R : V → Heap → Prop) (a0 : V) (H : Heap) : Prop :=
  bnd (aBinN .sub (.int .i64 16) a0) fun t1 =>
  bnd (aCv .u64 t1) fun t2 =>
  bnd (aBinN .shl (.int .i64 1) t2) fun t3 =>
  Ret R t3 H
theorem W_s_l01Size2 {R : V → Heap → Prop} {a0 : V} {H : Heap} (h : F_s_l01Size2 R a0 H) : ACalls P n_s_l01Size2 [a0] H R :=
  acalls_of_form (g := ⟨[], []⟩) (x := (.seq .leaf (.seq .leaf .leaf))) Tryz.func64 (by kernel_rfl) (by kernel_rfl) (by kernel_rfl) (by kernel_rfl : F_s_l01Size2 R a0 H = _) h
def F_i_nodesWith (R : V → Heap → Prop) (a0 a1 a2 a3 : V) (H : Heap) : Prop :=
  ACalls P n_i_areTables [a0, (.int .i64 0), a1] H fun v1 H2 =>
  bnd (aNot v1) fun t3 =>
  cnd t3
  (Ret R .nils H2)
  (bnd (bsl 1 0 [(.int .i64 0)] []) fun r4 =>
  ∀ o5, H2 o5 = none →
  bnd (lenOf a0) fun n6 =>
  ∃ (I7 : Nat → List V → Heap → Prop) (n8 : Nat), Shr (I7 n8 [(.slice o5 0 0 (some 0)), (.int .i64 0)]) (upd H2 o5 ⟨1, r4⟩) ∧
  ∀ n9 xs11 H12, I7 n9 xs11 H12 →
  bnd (aBinN .lss (xs11.tail.headD .any) (.int .i64 (n6 : Nat))) fun t13 =>
  cnd t13
  (ACalls P n_i_walk [a0, (xs11.tail.headD .any), a1, a2] H12 fun v14 H15 =>
  bnd (aExtract 0 v14) fun t16 =>
  bnd (aExtract 1 v14) fun t17 =>
  bnd (aBinN .eql t17 a3) fun t18 =>
  cnd t18
  (bnd (bsl 1 1 [(.int .i64 0)] [(0, (xs11.tail.headD .any))]) fun r19 =>
  ∀ o20, H15 o20 = none →
  bnd (rowsOf (upd H15 o20 ⟨1, r19⟩) 1 (.slice o20 0 1 (some 1))) fun r23 =>
  appendK (upd H15 o20 ⟨1, r19⟩) 1 8 (xs11.headD .any) r23 fun v21 H22 =>
  bnd (aBinN .add (xs11.tail.headD .any) (.int .i64 1)) fun t24 =>
  ∃ n10, n10 < n9 ∧ Shr (I7 n10 [v21, t24]) H22)
  (bnd (aBinN .add (xs11.tail.headD .any) (.int .i64 1)) fun t25 =>
  ∃ n10, n10 < n9 ∧ Shr (I7 n10 [(xs11.headD .any), t25]) H15))
  (Ret R (xs11.headD .any) H12))
theorem W_i_nodesWith {R : V → Heap → Prop} {a0 a1 a2 a3 : V} {H : Heap} (h : F_i_nodesWith R a0 a1 a2 a3 H) : ACalls P n_i_nodesWith [a0, a1, a2, a3] H R :=
  acalls_of_form (g := ⟨[], []⟩) (x := (.seq .leaf (.seq (.seq .leaf (.cond (.seq .leaf .leaf) .leaf)) (.seq .leaf (.seq (.seq .leaf (.block (.loop [9, 20] (.seq .leaf (.seq (.cond .leaf .leaf) (.seq (.block (.seq .leaf (.seq .leaf (.seq .leaf (.cond .leaf .leaf))))) .leaf)))))) (.seq .leaf .leaf)))))) Tryz.func65 (by kernel_rfl) (by kernel_rfl) (by kernel_rfl) (by kernel_rfl : F_i_nodesWith R a0 a1 a2 a3 H = _) h
def F_s_l03Node (R : V → Heap → Prop) (a0 a1 : V) (H : Heap) : Prop :=
  boxK a0 (bnd (partOf false 1 (cellsOf a0) 0) fun t1 =>
  bnd (aBinN .sub t1 (.int .i64 1)) fun t2 =>
  ACalls P n_s_l01In [a1, (.int .i64 0), t2] H fun v3 H4 =>
  Ret R v3 H4)
theorem W_s_l03Node {R : V → Heap → Prop} {a0 a1 : V} {H : Heap} (h : F_s_l03Node R a0 a1 H) : ACalls P n_s_l03Node [a0, a1] H R :=
  acalls_of_form (g := ⟨[2], [6]⟩) (x := (.seq .leaf (.seq .leaf .leaf))) Tryz.func66 (by kernel_rfl) (by kernel_rfl) (by kernel_rfl) (by kernel_rfl : F_s_l03Node R a0 a1 H = _) h
def F_i_areTables (R : V → Heap → Prop) (a0 a1 a2 : V) (H : Heap) : Prop :=
  bnd (lenOf a0) fun n1 =>
  ACalls P n_i_within [(.int .i64 (n1 : Nat)), (.int .i64 1), (.int .i64 10)] H fun v2 H3 =>
  gd v2 true
  (bnd (lenOf a0) fun n4 =>
  bnd (aBinN .sub (.int .i64 (n4 : Nat)) (.int .i64 1)) fun t5 =>
  ACalls P n_i_within [a1, (.int .i64 0), t5] H3 fun v6 H7 =>
  gd v6 true
  (ACalls P n_i_isAddr [a2] H7 fun v8 H9 =>
  gd v8 true
  (ACalls P n_slices_ContainsFunc_i_Table_i_Table [a0, (.fn n_i_areTables_1 [])] H9 fun v10 H11 =>
  bnd (aNot v10) fun t12 =>
  Ret R t12 H11)
  (Ret R (.bool false) H9))
  (Ret R (.bool false) H7))
  (Ret R (.bool false) H3)
theorem W_i_areTables {R : V → Heap → Prop} {a0 a1 a2 : V} {H : Heap} (h : F_i_areTables R a0 a1 a2 H) : ACalls P n_i_areTables [a0, a1, a2] H R :=
  acalls_of_form (g := ⟨[], []⟩) (x := (.seq .leaf (.seq .leaf .leaf))) Tryz.func67 (by kernel_rfl) (by kernel_rfl) (by kernel_rfl) (by kernel_rfl : F_i_areTables R a0 a1 a2 H = _) h
def F_i_walk (R : V → Heap → Prop) (a0 a1 a2 a3 : V) (H : Heap) : Prop :=
  bnd (bsl 1 1 [(.int .i64 0)] [(0, a1)]) fun r1 =>
  ∀ o2, H o2 = none →
  ∃ (I3 : Nat → List V → Heap → Prop) (n4 : Nat), Shr (I3 n4 [a1, a3, (.slice o2 0 1 (some 1))]) (upd H o2 ⟨1, r1⟩) ∧
  ∀ n5 xs7 H8, I3 n5 xs7 H8 →
  bnd (aIndex H8 1 a0 (xs7.headD .any)) fun t9 =>
  bnd (aField 0 t9) fun t10 =>
  bnd (aLd false 1 H8 t10) fun t11 =>
  ACalls P n_i_best [t11, a2] H8 fun v12 H13 =>
  bnd (aExtract 0 v12) fun t14 =>
  bnd (aExtract 1 v12) fun t15 =>
  bnd (stz 3 [(.int .i64 0), (.int .i64 0), (.int .i64 0)] 0 t14) fun c16 =>
  bnd (aNot t15) fun t17 =>
  gd t17 false
  (bnd (partOf false 1 c16 2) fun t18 =>
  bnd (lenOf a0) fun n19 =>
  bnd (aBinN .gtr t18 (.int .i64 (n19 : Nat))) fun t20 =>
  cnd t20
  (Ret R (.tup [(xs7.tail.tail.headD .any), (.int .i64 1)]) H13)
  (bnd (partOf false 1 c16 2) fun t21 =>
  bnd (aBinN .eql t21 (.int .i64 0)) fun t22 =>
  cnd t22
  (Ret R (.tup [(xs7.tail.tail.headD .any), (.int .i64 0)]) H13)
  (bnd (aBinN .eql (xs7.tail.headD .any) (.int .i64 0)) fun t23 =>
  cnd t23
  (Ret R (.tup [(xs7.tail.tail.headD .any), (.int .i64 2)]) H13)
  (bnd (aBinN .sub (xs7.tail.headD .any) (.int .i64 1)) fun t24 =>
  bnd (partOf false 1 c16 2) fun t25 =>
  bnd (aBinN .sub t25 (.int .i64 1)) fun t26 =>
  bnd (bsl 1 1 [(.int .i64 0)] [(0, t26)]) fun r27 =>
  ∀ o28, H13 o28 = none →
  bnd (rowsOf (upd H13 o28 ⟨1, r27⟩) 1 (.slice o28 0 1 (some 1))) fun r31 =>
  appendK (upd H13 o28 ⟨1, r27⟩) 1 8 (xs7.tail.tail.headD .any) r31 fun v29 H30 =>
  ∃ n6, n6 < n5 ∧ Shr (I3 n6 [t26, t24, v29]) H30))))
  (Ret R (.tup [(xs7.tail.tail.headD .any), (.int .i64 1)]) H13)
theorem W_i_walk {R : V → Heap → Prop} {a0 a1 a2 a3 : V} {H : Heap} (h : F_i_walk R a0 a1 a2 a3 H) : ACalls P n_i_walk [a0, a1, a2, a3] H R :=
  acalls_of_form (g := ⟨[11], [29, 37, 47]⟩) (x := (.seq .leaf (.seq .leaf (.block (.loop [1, 3, 10] (.block (.seq .leaf (.seq (.block (.seq .leaf (.cond (.seq .leaf .leaf) (.seq .leaf (.cond (.seq .leaf .leaf) (.seq .leaf (.cond (.seq .leaf .leaf) .leaf))))))) (.seq .leaf (.seq .leaf .leaf)))))))))) Tryz.func68 (by kernel_rfl) (by kernel_rfl) (by kernel_rfl) (by kernel_rfl : F_i_walk R a0 a1 a2 a3 H = _) h
def F_i_WayCost (R : V → Heap → Prop) (a0 a1 : V) (H : Heap) : Prop :=
  boxK a0 (∃ S1, Abs.sub S1 H ∧
  bnd (partOf true 2 (cellsOf a0) 0) fun t2 =>
  ACalls P n_i_GraphOk [t2] H fun v3 H4 =>
  Abs.sub S1 H4 ∧
  bnd (aNot v3) fun t5 =>
  gd t5 false
  (bnd (lenOf a1) fun n6 =>
  ACalls P n_i_within [(.int .i64 (n6 : Nat)), (.int .i64 1), (.int .i64 300)] H4 fun v7 H8 =>
  Abs.sub S1 H8 ∧
  bnd (aNot v7) fun t9 =>
  gd t9 false
  (bnd (partOf true 2 (cellsOf a0) 0) fun t10 =>
  bnd (aIndex S1 1 a1 (.int .i64 0)) fun t11 =>
  bnd (aLd false 1 S1 t11) fun t12 =>
  ACalls P n_i_Graph_isNode [t10, t12] H8 fun v13 H14 =>
  Abs.sub S1 H14 ∧
  bnd (aNot v13) fun t15 =>
  cnd t15
  (Ret R (.int .i64 (-1)) H14)
  (∃ (I16 : Nat → List V → Heap → Prop) (n17 : Nat), Shr (I16 n17 [(.int .i64 0), (.int .i64 1)]) H14 ∧
  ∀ n18 xs20 H21, I16 n18 xs20 H21 →
  bnd (lenOf a1) fun n22 =>
  bnd (aBinN .lss (xs20.tail.headD .any) (.int .i64 (n22 : Nat))) fun t23 =>
  cnd t23
  (∃ S24, Abs.sub S24 H21 ∧
  bnd (partOf true 2 (cellsOf a0) 0) fun t25 =>
  bnd (aBinN .sub (xs20.tail.headD .any) (.int .i64 1)) fun t26 =>
  bnd (aIndex S24 1 a1 t26) fun t27 =>
  bnd (aLd false 1 S24 t27) fun t28 =>
  bnd (aIndex S24 1 a1 (xs20.tail.headD .any)) fun t29 =>
  bnd (aLd false 1 S24 t29) fun t30 =>
  ACalls P n_i_Graph_cost [t25, t28, t30] H21 fun v31 H32 =>
  Abs.sub S24 H32 ∧
  ∃ S33, Abs.sub S33 H32 ∧
  bnd (aBinN .eql v31 (.int .i64 1000000)) fun t34 =>
  gd t34 false
  (bnd (aIndex S33 1 a1 (xs20.tail.headD .any)) fun t35 =>
  bnd (aLd false 1 S33 t35) fun t36 =>
  bnd (aBinN .sub (xs20.tail.headD .any) (.int .i64 1)) fun t37 =>
  bnd (aIndex S33 1 a1 t37) fun t38 =>
  bnd (aLd false 1 S33 t38) fun t39 =>
  bnd (aBinN .eql t36 t39) fun t40 =>
  cnd t40
  (Ret R (.int .i64 (-1)) H32)
  (bnd (aBinN .add (xs20.headD .any) v31) fun t41 =>
  bnd (aBinN .add (xs20.tail.headD .any) (.int .i64 1)) fun t42 =>
  ∃ n19, n19 < n18 ∧ Shr (I16 n19 [t41, t42]) H32))
  (Ret R (.int .i64 (-1)) H32))
  (Ret R (xs20.headD .any) H21)))
  (Ret R (.int .i64 (-1)) H8))
  (Ret R (.int .i64 (-1)) H4))
theorem W_i_WayCost {R : V → Heap → Prop} {a0 a1 : V} {H : Heap} (h : F_i_WayCost R a0 a1 H) : ACalls P n_i_WayCost [a0, a1] H R :=
  acalls_of_form (g := ⟨[2], []⟩) (x := (.seq .leaf (.seq (.seq (.draw [0, 1, 2, 3, 4, 5, 6, 7, 8, 9, 10, 11, 12, 13, 14, 15, 16]) (.cond (.seq .leaf .leaf) .leaf)) (.seq .leaf (.seq (.seq .leaf (.block (.loop [5, 6] (.seq (.seq .leaf (.cond .leaf .leaf)) (.seq (.block (.seq (.draw [0, 1, 2, 3, 4, 5, 6, 7, 8, 9, 10, 11]) (.seq (.seq (.draw [0, 1, 2, 3, 4, 5, 6, 7, 8, 9, 10, 11, 12, 13]) (.cond (.seq .leaf .leaf) .leaf)) .leaf))) .leaf))))) (.seq .leaf .leaf)))))) Tryz.func69 (by kernel_rfl) (by kernel_rfl) (by kernel_rfl) (by kernel_rfl : F_i_WayCost R a0 a1 H = _) h
def F_s_TableOk (R : V → Heap → Prop) (a0 : V) (H : Heap) : Prop :=
  boxK a0 (bnd (partOf false 1 (cellsOf a0) 0) fun t1 =>
  bnd (lenOf t1) fun n2 =>
  bnd (aBinN .gtr (.int .i64 (n2 : Nat)) (.int .i64 120)) fun t3 =>
  cnd t3
  (Ret R (.bool false) H)
  (∃ (I4 : Nat → List V → Heap → Prop) (n5 : Nat), Shr (I4 n5 [(.int .i64 0)]) H ∧
  ∀ n6 xs8 H9, I4 n6 xs8 H9 →
  bnd (partOf false 1 (cellsOf a0) 0) fun t10 =>
  bnd (lenOf t10) fun n11 =>
  bnd (aBinN .lss (xs8.headD .any) (.int .i64 (n11 : Nat))) fun t12 =>
  cnd t12
  (∃ S13, Abs.sub S13 H9 ∧
  bnd (partOf false 1 (cellsOf a0) 0) fun t14 =>
  bnd (aIndex S13 3 t14 (xs8.headD .any)) fun t15 =>
  bnd (aField 0 t15) fun t16 =>
  bnd (aLd true 2 S13 t16) fun t17 =>
  ACalls P n_s_PrefixOk [t17] H9 fun v18 H19 =>
  Abs.sub S13 H19 ∧
  bnd (aNot v18) fun t20 =>
  gd t20 false
  (bnd (partOf false 1 (cellsOf a0) 0) fun t21 =>
  bnd (aIndex S13 3 t21 (xs8.headD .any)) fun t22 =>
  bnd (aField 2 t22) fun t23 =>
  bnd (aLd false 1 S13 t23) fun t24 =>
  ACalls P n_s_l01In [t24, (.int .i64 0), (.int .i64 999)] H19 fun v25 H26 =>
  Abs.sub S13 H26 ∧
  bnd (aNot v25) fun t27 =>
  gd t27 false
  (bnd (aBinN .gtr (xs8.headD .any) (.int .i64 0)) fun t28 =>
  gd3 t28 true
  (bnd (partOf false 1 (cellsOf a0) 0) fun t29 =>
  bnd (aBinN .sub (xs8.headD .any) (.int .i64 1)) fun t30 =>
  bnd (aIndex S13 3 t29 t30) fun t31 =>
  bnd (aField 0 t31) fun t32 =>
  bnd (aLd true 2 S13 t32) fun t33 =>
  bnd (partOf false 1 (cellsOf a0) 0) fun t34 =>
  bnd (aIndex S13 3 t34 (xs8.headD .any)) fun t35 =>
  bnd (aField 0 t35) fun t36 =>
  bnd (aLd true 2 S13 t36) fun t37 =>
  ACalls P n_s_l02Ahead [t33, t37] H26 fun v38 H39 =>
  Abs.sub S13 H39 ∧
  bnd (aNot v38) fun t40 =>
  cnd t40
  (Ret R (.bool false) H39)
  (bnd (aBinN .add (xs8.headD .any) (.int .i64 1)) fun t41 =>
  ∃ n7, n7 < n6 ∧ Shr (I4 n7 [t41]) H39))
  (bnd (aBinN .add (xs8.headD .any) (.int .i64 1)) fun t42 =>
  ∃ n7, n7 < n6 ∧ Shr (I4 n7 [t42]) H26)
  (bnd (aPick (.tup []) (.tup []) (.bool false)) fun t43 =>
  cnd t43
  (Ret R (.bool false) H26)
  (bnd (aBinN .add (xs8.headD .any) (.int .i64 1)) fun t44 =>
  ∃ n7, n7 < n6 ∧ Shr (I4 n7 [t44]) H26)))
  (Ret R (.bool false) H26))
  (Ret R (.bool false) H19))
  (Ret R (.bool true) H9)))
theorem W_s_TableOk {R : V → Heap → Prop} {a0 : V} {H : Heap} (h : F_s_TableOk R a0 H) : ACalls P n_s_TableOk [a0] H R :=
  acalls_of_form (g := ⟨[1], [4, 9, 15, 24, 37, 44]⟩) (x := (.seq .leaf (.seq (.seq .leaf (.cond (.seq .leaf .leaf) .leaf)) (.seq (.seq .leaf (.block (.loop [3] (.seq (.seq .leaf (.cond .leaf .leaf)) (.seq (.block (.seq (.draw [0, 1, 2, 3, 4, 5, 6, 7, 8, 9, 10, 11, 12, 13, 14, 15, 16, 17, 18, 19, 20, 21, 22, 23, 24, 25, 26, 27, 28, 29, 30, 31, 32, 33, 34, 35, 36, 37, 38]) (.cond (.seq .leaf .leaf) .leaf))) .leaf))))) (.seq .leaf .leaf))))) Tryz.func85 (by kernel_rfl) (by kernel_rfl) (by kernel_rfl) (by kernel_rfl : F_s_TableOk R a0 H = _) h
def F_s_l02Copy (R : V → Heap → Prop) (a0 : V) (H : Heap) : Prop :=
  boxK a0 (bnd (fillZ [.nils] []) fun c1 =>
  bnd (stz 1 [.nils] 0 (.agg c1)) fun c2 =>
  ∃ (I3 : Nat → List V → Heap → Prop) (n4 : Nat), Shr (I3 n4 [(.box (cellsOf a0)), (.box [.nils]), (.box c2), (.int .i64 0)]) H ∧
  ∀ n5 xs7 H8, I3 n5 xs7 H8 →
  bnd (partOf false 1 (bc (xs7.headD .any)) 0) fun t9 =>
  bnd (lenOf t9) fun n10 =>
  bnd (aBinN .lss (xs7.tail.tail.tail.headD .any) (.int .i64 (n10 : Nat))) fun t11 =>
  cnd t11
  (bnd (partOf false 1 (bc (xs7.tail.tail.headD .any)) 0) fun t12 =>
  bnd (partOf false 1 (bc (xs7.headD .any)) 0) fun t13 =>
  bnd (aIndex H8 3 t13 (xs7.tail.tail.tail.headD .any)) fun t14 =>
  bnd (aLd true 3 H8 t14) fun t15 =>
  bnd (bsl 3 1 [(.int .i64 0), (.int .i64 0), (.int .i64 0)] [(0, t15)]) fun r16 =>
  ∀ o17, H8 o17 = none →
  bnd (rowsOf (upd H8 o17 ⟨3, r16⟩) 3 (.slice o17 0 1 (some 1))) fun r20 =>
  appendK (upd H8 o17 ⟨3, r16⟩) 3 24 t12 r20 fun v18 H19 =>
  bnd (stz 1 (bc (xs7.tail.tail.headD .any)) 0 v18) fun c21 =>
  bnd (aBinN .add (xs7.tail.tail.tail.headD .any) (.int .i64 1)) fun t22 =>
  ∃ n6, n6 < n5 ∧ Shr (I3 n6 [(.box (bc (xs7.headD .any))), (.box (bc (xs7.tail.headD .any))), (.box c21), t22]) H19)
  (bnd (partOf true 1 (bc (xs7.tail.tail.headD .any)) 0) fun t23 =>
  bnd (stz 1 (bc (xs7.tail.headD .any)) 0 t23) fun c24 =>
  bnd (partOf true 1 c24 0) fun t25 =>
  Ret R t25 H8))
theorem W_s_l02Copy {R : V → Heap → Prop} {a0 : V} {H : Heap} (h : F_s_l02Copy R a0 H) : ACalls P n_s_l02Copy [a0] H R :=
  acalls_of_form (g := ⟨[1, 2, 3], [7, 13, 15, 22]⟩) (x := (.seq .leaf (.seq .leaf (.seq (.seq .leaf (.block (.loop [1, 2, 3, 4] (.seq (.seq .leaf (.cond .leaf .leaf)) (.seq (.block (.drawh [0, 1, 2, 3, 4, 5, 6, 7, 8, 9, 10])) .leaf))))) (.seq .leaf .leaf))))) Tryz.func86 (by kernel_rfl) (by kernel_rfl) (by kernel_rfl) (by kernel_rfl : F_s_l02Copy R a0 H = _) h
def F_s_l02Less (R : V → Heap → Prop) (a0 a1 : V) (H : Heap) : Prop :=
  boxK a0 (boxK a1 (bnd (fillZ [.nils] []) fun c1 =>
  bnd (stz 1 [.nils] 0 (.agg c1)) fun c2 =>
  ∃ (I3 : Nat → List V → Heap → Prop) (n4 : Nat), Shr (I3 n4 [(.box (cellsOf a0)), (.box (cellsOf a1)), (.box [.nils]), (.box c2), (.int .i64 0)]) H ∧
  ∀ n5 xs7 H8, I3 n5 xs7 H8 →
  bnd (partOf false 1 (bc (xs7.headD .any)) 0) fun t9 =>
  bnd (lenOf t9) fun n10 =>
  bnd (aBinN .lss (xs7.tail.tail.tail.tail.headD .any) (.int .i64 (n10 : Nat))) fun t11 =>
  cnd t11
  (∃ S12, Abs.sub S12 H8 ∧
  bnd (partOf false 1 (bc (xs7.headD .any)) 0) fun t13 =>
  bnd (aIndex S12 3 t13 (xs7.tail.tail.tail.tail.headD .any)) fun t14 =>
  bnd (aField 0 t14) fun t15 =>
  bnd (aLd true 2 S12 t15) fun t16 =>
  bnd (partOf true 2 (bc (xs7.tail.headD .any)) 0) fun t17 =>
  bnd (aBin P .neq 57 t16 t17) fun t18 =>
  cnd t18
  (bnd (partOf false 1 (bc (xs7.tail.tail.tail.headD .any)) 0) fun t19 =>
  bnd (partOf false 1 (bc (xs7.headD .any)) 0) fun t20 =>
  bnd (aIndex H8 3 t20 (xs7.tail.tail.tail.tail.headD .any)) fun t21 =>
  bnd (aLd true 3 H8 t21) fun t22 =>
  bnd (bsl 3 1 [(.int .i64 0), (.int .i64 0), (.int .i64 0)] [(0, t22)]) fun r23 =>
  ∀ o24, H8 o24 = none →
  bnd (rowsOf (upd H8 o24 ⟨3, r23⟩) 3 (.slice o24 0 1 (some 1))) fun r27 =>
  appendK (upd H8 o24 ⟨3, r23⟩) 3 24 t19 r27 fun v25 H26 =>
  bnd (stz 1 (bc (xs7.tail.tail.tail.headD .any)) 0 v25) fun c28 =>
  bnd (aBinN .add (xs7.tail.tail.tail.tail.headD .any) (.int .i64 1)) fun t29 =>
  ∃ n6, n6 < n5 ∧ Shr (I3 n6 [(.box (bc (xs7.headD .any))), (.box (bc (xs7.tail.headD .any))), (.box (bc (xs7.tail.tail.headD .any))), (.box c28), t29]) H26)
  (bnd (aBinN .add (xs7.tail.tail.tail.tail.headD .any) (.int .i64 1)) fun t30 =>
  ∃ n6, n6 < n5 ∧ Shr (I3 n6 [(.box (bc (xs7.headD .any))), (.box (bc (xs7.tail.headD .any))), (.box (bc (xs7.tail.tail.headD .any))), (.box (bc (xs7.tail.tail.tail.headD .any))), t30]) H8))
  (bnd (partOf true 1 (bc (xs7.tail.tail.tail.headD .any)) 0) fun t31 =>
  bnd (stz 1 (bc (xs7.tail.tail.headD .any)) 0 t31) fun c32 =>
  bnd (partOf true 1 c32 0) fun t33 =>
  Ret R t33 H8)))
theorem W_s_l02Less {R : V → Heap → Prop} {a0 a1 : V} {H : Heap} (h : F_s_l02Less R a0 a1 H) : ACalls P n_s_l02Less [a0, a1] H R :=
  acalls_of_form (g := ⟨[2, 3, 4, 5], [9, 15, 23, 25, 32]⟩) (x := (.seq .leaf (.seq .leaf (.seq (.seq .leaf (.block (.loop [2, 3, 4, 5, 6] (.seq (.seq .leaf (.cond .leaf .leaf)) (.seq (.block (.seq (.draw [0, 1, 2, 3, 4, 5, 6, 7]) (.cond (.drawh [0, 1, 2, 3, 4, 5, 6, 7, 8, 9, 10]) .leaf))) .leaf))))) (.seq .leaf .leaf))))) Tryz.func87 (by kernel_rfl) (by kernel_rfl) (by kernel_rfl) (by kernel_rfl : F_s_l02Less R a0 a1 H = _) h
def F_s_l02Ahead (R : V → Heap → Prop) (a0 a1 : V) (H : Heap) : Prop :=
  boxK a0 (boxK a1 (bnd (partOf false 1 (cellsOf a0) 0) fun t1 =>
  bnd (partOf false 1 (cellsOf a1) 0) fun t2 =>
  bnd (aBinN .lss t1 t2) fun t3 =>
  gd t3 false
  (bnd (partOf false 1 (cellsOf a0) 0) fun t4 =>
  bnd (partOf false 1 (cellsOf a1) 0) fun t5 =>
  bnd (aBinN .eql t4 t5) fun t6 =>
  gd3 t6 true
  (bnd (partOf false 1 (cellsOf a0) 1) fun t7 =>
  bnd (partOf false 1 (cellsOf a1) 1) fun t8 =>
  bnd (aBinN .lss t7 t8) fun t9 =>
  Ret R t9 H)
  (Ret R (.bool false) H)
  (bnd (aPick (.tup []) (.tup []) (.bool false)) fun t10 =>
  Ret R t10 H))
  (Ret R (.bool true) H)))
theorem W_s_l02Ahead {R : V → Heap → Prop} {a0 a1 : V} {H : Heap} (h : F_s_l02Ahead R a0 a1 H) : ACalls P n_s_l02Ahead [a0, a1] H R :=
  acalls_of_form (g := ⟨[2, 3], [5, 7, 11, 13, 17, 19]⟩) (x := (.seq .leaf (.seq .leaf .leaf))) Tryz.func88 (by kernel_rfl) (by kernel_rfl) (by kernel_rfl) (by kernel_rfl : F_s_l02Ahead R a0 a1 H = _) h
def F_s_l03Cost (R : V → Heap → Prop) (a0 a1 a2 : V) (H : Heap) : Prop :=
  boxK a0 (bnd (partOf true 2 (cellsOf a0) 0) fun t1 =>
  ACalls P n_s_l03Node [t1, a1] H fun v2 H3 =>
  bnd (aNot v2) fun t4 =>
  gd t4 false
  (bnd (partOf true 2 (cellsOf a0) 0) fun t5 =>
  ACalls P n_s_l03Node [t5, a2] H3 fun v6 H7 =>
  bnd (aNot v6) fun t8 =>
  cnd t8
  (Ret R (.int .i64 1000000) H7)
  (bnd (aBinN .eql a1 a2) fun t9 =>
  cnd t9
  (Ret R (.int .i64 0) H7)
  (∃ (I10 : Nat → List V → Heap → Prop) (n11 : Nat), Shr (I10 n11 [(.int .i64 0)]) H7 ∧
  ∀ n12 xs14 H15, I10 n12 xs14 H15 →
  bnd (partOf false 1 (cellsOf a0) 1) fun t16 =>
  bnd (lenOf t16) fun n17 =>
  bnd (aBinN .lss (xs14.headD .any) (.int .i64 (n17 : Nat))) fun t18 =>
  cnd t18
  (bnd (partOf false 1 (cellsOf a0) 1) fun t19 =>
  bnd (aIndex H15 3 t19 (xs14.headD .any)) fun t20 =>
  bnd (aField 0 t20) fun t21 =>
  bnd (aLd false 1 H15 t21) fun t22 =>
  bnd (aBinN .eql t22 a1) fun t23 =>
  gd t23 true
  (bnd (partOf false 1 (cellsOf a0) 1) fun t24 =>
  bnd (aIndex H15 3 t24 (xs14.headD .any)) fun t25 =>
  bnd (aField 1 t25) fun t26 =>
  bnd (aLd false 1 H15 t26) fun t27 =>
  bnd (aBinN .eql t27 a2) fun t28 =>
  cnd t28
  (bnd (partOf false 1 (cellsOf a0) 1) fun t29 =>
  bnd (aIndex H15 3 t29 (xs14.headD .any)) fun t30 =>
  bnd (aField 2 t30) fun t31 =>
  bnd (aLd false 1 H15 t31) fun t32 =>
  Ret R t32 H15)
  (bnd (aBinN .add (xs14.headD .any) (.int .i64 1)) fun t33 =>
  ∃ n13, n13 < n12 ∧ Shr (I10 n13 [t33]) H15))
  (bnd (aBinN .add (xs14.headD .any) (.int .i64 1)) fun t34 =>
  ∃ n13, n13 < n12 ∧ Shr (I10 n13 [t34]) H15))
  (Ret R (.int .i64 1000000) H15))))
  (Ret R (.int .i64 1000000) H3))
theorem W_s_l03Cost {R : V → Heap → Prop} {a0 a1 a2 : V} {H : Heap} (h : F_s_l03Cost R a0 a1 a2 H) : ACalls P n_s_l03Cost [a0, a1, a2] H R :=
  acalls_of_form (g := ⟨[3], [22, 28, 37, 46]⟩) (x := (.seq .leaf (.seq (.seq .leaf (.cond (.seq .leaf .leaf) .leaf)) (.seq (.seq .leaf (.cond (.seq .leaf .leaf) .leaf)) (.seq (.seq .leaf (.block (.loop [7] (.seq (.seq .leaf (.cond .leaf .leaf)) (.seq (.block (.seq .leaf (.cond (.seq .leaf .leaf) .leaf))) .leaf))))) (.seq .leaf .leaf)))))) Tryz.func89 (by kernel_rfl) (by kernel_rfl) (by kernel_rfl) (by kernel_rfl : F_s_l03Cost R a0 a1 a2 H = _) h
def F_i_DbOk (R : V → Heap → Prop) (a0 : V) (H : Heap) : Prop :=
  boxK a0 (bnd (partOf false 1 (cellsOf a0) 0) fun t1 =>
  bnd (lenOf t1) fun n2 =>
  ∃ (I3 : Nat → List V → Heap → Prop) (n4 : Nat), Shr (I3 n4 [(.box (cellsOf a0)), (.int .i64 0)]) H ∧
  ∀ n5 xs7 H8, I3 n5 xs7 H8 →
  bnd (aBinN .lss (xs7.tail.headD .any) (.int .i64 (n2 : Nat))) fun t9 =>
  cnd t9
  (bnd (aIndex H8 5 t1 (xs7.tail.headD .any)) fun t10 =>
  bnd (aLd true 5 H8 t10) fun t11 =>
  bnd (stz 5 [(.int .i64 0), (.int .i64 0), (.int .i64 0), .nils, .nils] 0 t11) fun c12 =>
  ∃ S13, Abs.sub S13 H8 ∧
  bnd (partOf true 5 c12 0) fun t14 =>
  ACalls P n_i_LsaOk [t14] H8 fun v15 H16 =>
  Abs.sub S13 H16 ∧
  bnd (aNot v15) fun t17 =>
  gd t17 false
  (bnd (aBinN .gtr (xs7.tail.headD .any) (.int .i64 0)) fun t18 =>
  gd3 t18 true
  (bnd (partOf false 1 c12 0) fun t19 =>
  bnd (partOf false 1 (bc (xs7.headD .any)) 0) fun t20 =>
  bnd (aBinN .sub (xs7.tail.headD .any) (.int .i64 1)) fun t21 =>
  bnd (aIndex S13 5 t20 t21) fun t22 =>
  bnd (aField 0 t22) fun t23 =>
  bnd (aLd false 1 S13 t23) fun t24 =>
  bnd (aBinN .leq t19 t24) fun t25 =>
  cnd t25
  (Ret R (.bool false) H16)
  (bnd (aBinN .add (xs7.tail.headD .any) (.int .i64 1)) fun t26 =>
  ∃ n6, n6 < n5 ∧ Shr (I3 n6 [(.box (bc (xs7.headD .any))), t26]) H16))
  (bnd (aBinN .add (xs7.tail.headD .any) (.int .i64 1)) fun t27 =>
  ∃ n6, n6 < n5 ∧ Shr (I3 n6 [(.box (bc (xs7.headD .any))), t27]) H16)
  (bnd (aPick (.tup []) (.tup []) (.bool false)) fun t28 =>
  cnd t28
  (Ret R (.bool false) H16)
  (bnd (aBinN .add (xs7.tail.headD .any) (.int .i64 1)) fun t29 =>
  ∃ n6, n6 < n5 ∧ Shr (I3 n6 [(.box (bc (xs7.headD .any))), t29]) H16)))
  (Ret R (.bool false) H16))
  (Ret R (.bool true) H8))
theorem W_i_DbOk {R : V → Heap → Prop} {a0 : V} {H : Heap} (h : F_i_DbOk R a0 H) : ACalls P n_i_DbOk [a0] H R :=
  acalls_of_form (g := ⟨[1, 4], [5, 20, 22]⟩) (x := (.seq .leaf (.seq (.seq .leaf (.block (.loop [1, 8] (.seq .leaf (.seq (.cond .leaf .leaf) (.seq (.block (.seq .leaf (.seq (.draw [0, 1, 2, 3, 4, 5, 6, 7, 8, 9, 10, 11, 12, 13, 14, 15, 16, 17, 18]) (.cond (.seq .leaf .leaf) .leaf)))) .leaf)))))) (.seq .leaf .leaf)))) Tryz.func91 (by kernel_rfl) (by kernel_rfl) (by kernel_rfl) (by kernel_rfl : F_i_DbOk R a0 H = _) h
def F_i_Db_hasLink (R : V → Heap → Prop) (a0 a1 a2 : V) (H : Heap) : Prop :=
  boxK a0 (boxK a2 (∀ o1, H o1 = none →
  bnd (partOf true 1 (cellsOf a0) 0) fun t2 =>
  ACalls P n_i_Db_find [t2, a1] (upd H o1 ⟨((cellsOf a2)).length, [(cellsOf a2)]⟩) fun v3 H4 =>
  bnd (aExtract 0 v3) fun t5 =>
  bnd (aExtract 1 v3) fun t6 =>
  gd t6 true
  (bnd (partOf false 1 (cellsOf a0) 0) fun t7 =>
  bnd (aIndex H4 5 t7 t5) fun t8 =>
  bnd (aField 3 t8) fun t9 =>
  bnd (aLd false 1 H4 t9) fun t10 =>
  ACalls P n_slices_ContainsFunc_i_Link_i_Link [t10, (.fn n_i_Db_hasLink_1 [(.ptr o1 0 0)])] H4 fun v11 H12 =>
  Ret R v11 H12)
  (Ret R (.bool false) H4)))
theorem W_i_Db_hasLink {R : V → Heap → Prop} {a0 a1 a2 : V} {H : Heap} (h : F_i_Db_hasLink R a0 a1 a2 H) : ACalls P n_i_Db_hasLink [a0, a1, a2] H R :=
  acalls_of_form (g := ⟨[3], [17]⟩) (x := (.seq .leaf (.seq .leaf (.seq .leaf .leaf)))) Tryz.func92 (by kernel_rfl) (by kernel_rfl) (by kernel_rfl) (by kernel_rfl : F_i_Db_hasLink R a0 a1 a2 H = _) h
def F_i_Graph_distances (R : V → Heap → Prop) (a0 a1 : V) (H : Heap) : Prop :=
  boxK a0 (bnd (bsl 1 1 [(.int .i64 0)] [(0, (.int .i64 1000000))]) fun r1 =>
  ∀ o2, H o2 = none →
  bnd (partOf false 1 (cellsOf a0) 0) fun t3 =>
  ACalls P n_slices_Repeat_int_int [(.slice o2 0 1 (some 1)), t3] (upd H o2 ⟨1, r1⟩) fun v4 H5 =>
  bnd (aIndex H5 1 v4 a1) fun t6 =>
  bnd (aSt 1 H5 t6 (.int .i64 0)) fun H7 =>
  bnd (partOf false 1 (cellsOf a0) 0) fun t8 =>
  ∃ (I9 : Nat → List V → Heap → Prop) (n10 : Nat), Shr (I9 n10 [(.box (cellsOf a0)), (.int .i64 0)]) H7 ∧
  ∀ n11 xs13 H14, I9 n11 xs13 H14 →
  bnd (aBinN .lss (xs13.tail.headD .any) t8) fun t15 =>
  cnd t15
  (bnd (partOf false 1 (bc (xs13.headD .any)) 1) fun t16 =>
  bnd (lenOf t16) fun n17 =>
  ∃ (I18 : Nat → List V → Heap → Prop) (n19 : Nat), Shr (I18 n19 [(.box (bc (xs13.headD .any))), (.int .i64 0)]) H14 ∧
  ∀ n20 xs22 H23, I18 n20 xs22 H23 →
  bnd (aBinN .lss (xs22.tail.headD .any) (.int .i64 (n17 : Nat))) fun t24 =>
  cnd t24
  (bnd (aIndex H23 3 t16 (xs22.tail.headD .any)) fun t25 =>
  bnd (aLd true 3 H23 t25) fun t26 =>
  bnd (stz 3 [(.int .i64 0), (.int .i64 0), (.int .i64 0)] 0 t26) fun c27 =>
  bnd (partOf false 1 c27 0) fun t28 =>
  bnd (aIndex H23 1 v4 t28) fun t29 =>
  bnd (aLd false 1 H23 t29) fun t30 =>
  bnd (aBinN .lss t30 (.int .i64 1000000)) fun t31 =>
  cnd t31
  (bnd (partOf false 1 c27 1) fun t32 =>
  bnd (partOf false 1 c27 1) fun t33 =>
  bnd (aIndex H23 1 v4 t33) fun t34 =>
  bnd (aLd false 1 H23 t34) fun t35 =>
  bnd (partOf false 1 c27 0) fun t36 =>
  bnd (aIndex H23 1 v4 t36) fun t37 =>
  bnd (aLd false 1 H23 t37) fun t38 =>
  bnd (partOf false 1 c27 2) fun t39 =>
  bnd (aBinN .add t38 t39) fun t40 =>
  bnd (aMins false t35 [t40]) fun t43 =>
  bnd (aIndex H23 1 v4 t32) fun t44 =>
  bnd (aSt 1 H23 t44 t43) fun H45 =>
  bnd (aBinN .add (xs22.tail.headD .any) (.int .i64 1)) fun t46 =>
  ∃ n21, n21 < n20 ∧ Shr (I18 n21 [(.box (bc (xs22.headD .any))), t46]) H45)
  (bnd (aBinN .add (xs22.tail.headD .any) (.int .i64 1)) fun t47 =>
  ∃ n21, n21 < n20 ∧ Shr (I18 n21 [(.box (bc (xs22.headD .any))), t47]) H23))
  (bnd (aBinN .add (xs13.tail.headD .any) (.int .i64 1)) fun t48 =>
  ∃ n12, n12 < n11 ∧ Shr (I9 n12 [(.box (bc (xs22.headD .any))), t48]) H23))
  (Ret R v4 H14))
theorem W_i_Graph_distances {R : V → Heap → Prop} {a0 a1 : V} {H : Heap} (h : F_i_Graph_distances R a0 a1 H) : ACalls P n_i_Graph_distances [a0, a1] H R :=
  acalls_of_form (g := ⟨[2, 7], [9, 15, 19, 27, 33, 36, 41, 45]⟩) (x := (.seq .leaf (.seq .leaf (.seq .leaf (.seq (.seq .leaf (.block (.loop [2, 17] (.seq .leaf (.seq (.cond .leaf .leaf) (.seq (.block (.seq .leaf (.block (.loop [2, 22] (.seq .leaf (.seq (.cond .leaf .leaf) (.seq (.block (.seq .leaf (.seq .leaf (.cond (.drawh [0, 1, 2, 3, 4, 5, 6, 7, 8, 9, 10, 11, 12, 13, 14, 15, 16, 17, 18]) .leaf)))) .leaf))))))) .leaf)))))) (.seq .leaf .leaf)))))) Tryz.func93 (by kernel_rfl) (by kernel_rfl) (by kernel_rfl) (by kernel_rfl : F_i_Graph_distances R a0 a1 H = _) h
def F_slices_SortFunc_i_Prefix_i_Prefix (R : V → Heap → Prop) (a0 a1 : V) (H : Heap) : Prop :=
  bnd (lenOf a0) fun n1 =>
  bnd (aCv .u64 (.int .i64 (n1 : Nat))) fun t2 =>
  ACalls P n_math_bits_Len [t2] H fun v3 H4 =>
  ACalls P n_slices_pdqsortCmpFunc_i_Prefix [a0, (.int .i64 0), (.int .i64 (n1 : Nat)), v3, a1] H4 fun v5 H6 =>
  Ret R (.tup []) H6
theorem W_slices_SortFunc_i_Prefix_i_Prefix {R : V → Heap → Prop} {a0 a1 : V} {H : Heap} (h : F_slices_SortFunc_i_Prefix_i_Prefix R a0 a1 H) : ACalls P n_slices_SortFunc_i_Prefix_i_Prefix [a0, a1] H R :=
  acalls_of_form (g := ⟨[], []⟩) (x := (.seq .leaf .leaf)) Tryz.func94 (by kernel_rfl) (by kernel_rfl) (by kernel_rfl) (by kernel_rfl : F_slices_SortFunc_i_Prefix_i_Prefix R a0 a1 H = _) h
def F_i_comparePrefixes (R : V → Heap → Prop) (a0 a1 : V) (H : Heap) : Prop :=
  boxK a0 (boxK a1 (bnd (partOf false 1 (cellsOf a0) 0) fun t1 =>
  bnd (partOf false 1 (cellsOf a1) 0) fun t2 =>
  bnd (aBinN .neq t1 t2) fun t3 =>
  cnd t3
  (bnd (partOf false 1 (cellsOf a0) 0) fun t4 =>
  bnd (partOf false 1 (cellsOf a1) 0) fun t5 =>
  bnd (aBinN .sub t4 t5) fun t6 =>
  Ret R t6 H)
  (bnd (partOf false 1 (cellsOf a0) 1) fun t7 =>
  bnd (partOf false 1 (cellsOf a1) 1) fun t8 =>
  bnd (aBinN .sub t7 t8) fun t9 =>
  Ret R t9 H)))
theorem W_i_comparePrefixes {R : V → Heap → Prop} {a0 a1 : V} {H : Heap} (h : F_i_comparePrefixes R a0 a1 H) : ACalls P n_i_comparePrefixes [a0, a1] H R :=
  acalls_of_form (g := ⟨[2, 3], [5, 7, 10, 12, 15, 17]⟩) (x := (.seq .leaf (.seq (.seq .leaf (.cond (.seq .leaf .leaf) .leaf)) (.seq .leaf .leaf)))) Tryz.func95 (by kernel_rfl) (by kernel_rfl) (by kernel_rfl) (by kernel_rfl : F_i_comparePrefixes R a0 a1 H = _) h
def F_slices_Compact_i_Prefix_i_Prefix (R : V → Heap → Prop) (a0 : V) (H : Heap) : Prop :=
  bnd (lenOf a0) fun n1 =>
  bnd (aBinN .lss (.int .i64 (n1 : Nat)) (.int .i64 2)) fun t2 =>
  cnd t2
  (Ret R a0 H)
  (∃ (I3 : Nat → List V → Heap → Prop) (n4 : Nat), Shr (I3 n4 [(.int .i64 1)]) H ∧
  ∀ n5 xs7 H8, I3 n5 xs7 H8 →
  bnd (lenOf a0) fun n9 =>
  bnd (aBinN .lss (xs7.headD .any) (.int .i64 (n9 : Nat))) fun t10 =>
  cnd t10
  (∃ S11, Abs.sub S11 H8 ∧
  bnd (aIndex S11 2 a0 (xs7.headD .any)) fun t12 =>
  bnd (aLd true 2 S11 t12) fun t13 =>
  bnd (aBinN .sub (xs7.headD .any) (.int .i64 1)) fun t14 =>
  bnd (aIndex S11 2 a0 t14) fun t15 =>
  bnd (aLd true 2 S11 t15) fun t16 =>
  bnd (aBin P .eql 57 t13 t16) fun t17 =>
  cnd t17
  (bnd (aSlice H8 2 a0 (some (xs7.headD .any)) none none) fun t18 =>
  ∃ (I19 : Nat → List V → Heap → Prop) (n20 : Nat), Shr (I19 n20 [(xs7.headD .any), (.int .i64 1)]) H8 ∧
  ∀ n21 xs23 H24, I19 n21 xs23 H24 →
  bnd (lenOf t18) fun n25 =>
  bnd (aBinN .lss (xs23.tail.headD .any) (.int .i64 (n25 : Nat))) fun t26 =>
  cnd t26
  (∃ S27, Abs.sub S27 H24 ∧
  bnd (aIndex S27 2 t18 (xs23.tail.headD .any)) fun t28 =>
  bnd (aLd true 2 S27 t28) fun t29 =>
  bnd (aBinN .sub (xs23.tail.headD .any) (.int .i64 1)) fun t30 =>
  bnd (aIndex S27 2 t18 t30) fun t31 =>
  bnd (aLd true 2 S27 t31) fun t32 =>
  bnd (aBin P .neq 57 t29 t32) fun t33 =>
  cnd t33
  (bnd (aIndex H24 2 t18 (xs23.tail.headD .any)) fun t34 =>
  bnd (aLd true 2 H24 t34) fun t35 =>
  bnd (aIndex H24 2 a0 (xs23.headD .any)) fun t36 =>
  bnd (aSt 2 H24 t36 t35) fun H37 =>
  bnd (aBinN .add (xs23.headD .any) (.int .i64 1)) fun t38 =>
  bnd (aBinN .add (xs23.tail.headD .any) (.int .i64 1)) fun t39 =>
  ∃ n22, n22 < n21 ∧ Shr (I19 n22 [t38, t39]) H37)
  (bnd (aBinN .add (xs23.tail.headD .any) (.int .i64 1)) fun t40 =>
  ∃ n22, n22 < n21 ∧ Shr (I19 n22 [(xs23.headD .any), t40]) H24))
  (bnd (aSlice H24 2 a0 (some (xs23.headD .any)) none none) fun t41 =>
  clearK H24 2 [(.int .i64 0), (.int .i64 0)] t41 fun v42 H43 =>
  bnd (aSlice H43 2 a0 none (some (xs23.headD .any)) none) fun t44 =>
  Ret R t44 H43))
  (bnd (aBinN .add (xs7.headD .any) (.int .i64 1)) fun t45 =>
  ∃ n6, n6 < n5 ∧ Shr (I3 n6 [t45]) H8))
  (Ret R a0 H8))
theorem W_slices_Compact_i_Prefix_i_Prefix {R : V → Heap → Prop} {a0 : V} {H : Heap} (h : F_slices_Compact_i_Prefix_i_Prefix R a0 H) : ACalls P n_slices_Compact_i_Prefix_i_Prefix [a0] H R :=
  acalls_of_form (g := ⟨[], []⟩) (x := (.seq .leaf (.seq (.seq .leaf (.cond (.seq .leaf .leaf) .leaf)) (.seq (.seq .leaf (.block (.loop [3] (.seq (.seq .leaf (.cond .leaf .leaf)) (.seq (.block (.seq (.draw [0, 1, 2, 3, 4, 5, 6, 7, 8, 9]) (.cond (.seq .leaf (.seq (.seq .leaf (.block (.loop [3, 5] (.seq (.seq .leaf (.cond .leaf .leaf)) (.seq (.block (.seq (.draw [0, 1, 2, 3, 4, 5, 6, 7, 8, 9]) (.cond (.seq .leaf .leaf) .leaf))) .leaf))))) (.seq .leaf (.seq .leaf .leaf)))) .leaf))) .leaf))))) (.seq .leaf .leaf))))) Tryz.func96 (by kernel_rfl) (by kernel_rfl) (by kernel_rfl) (by kernel_rfl : F_slices_Compact_i_Prefix_i_Prefix R a0 H = _) h
def F_slices_Index_int_int (R : V → Heap → Prop) (a0 a1 : V) (H : Heap) : Prop :=
  bnd (lenOf a0) fun n1 =>
  ∃ (I2 : Nat → List V → Heap → Prop) (n3 : Nat), Shr (I2 n3 [(.int .i64 0)]) H ∧
  ∀ n4 xs6 H7, I2 n4 xs6 H7 →
  bnd (aBinN .lss (xs6.headD .any) (.int .i64 (n1 : Nat))) fun t8 =>
  cnd t8
  (bnd (aIndex H7 1 a0 (xs6.headD .any)) fun t9 =>
  bnd (aLd false 1 H7 t9) fun t10 =>
  bnd (aBinN .eql a1 t10) fun t11 =>
  cnd t11
  (Ret R (xs6.headD .any) H7)
  (bnd (aBinN .add (xs6.headD .any) (.int .i64 1)) fun t12 =>
  ∃ n5, n5 < n4 ∧ Shr (I2 n5 [t12]) H7))
  (Ret R (.int .i64 (-1)) H7)
theorem W_slices_Index_int_int {R : V → Heap → Prop} {a0 a1 : V} {H : Heap} (h : F_slices_Index_int_int R a0 a1 H) : ACalls P n_slices_Index_int_int [a0, a1] H R :=
  acalls_of_form (g := ⟨[], []⟩) (x := (.seq .leaf (.seq (.seq .leaf (.block (.loop [8] (.seq .leaf (.seq (.cond .leaf .leaf) (.seq (.block (.seq .leaf (.seq .leaf (.cond (.seq .leaf .leaf) .leaf)))) .leaf)))))) (.seq .leaf .leaf)))) Tryz.func97 (by kernel_rfl) (by kernel_rfl) (by kernel_rfl) (by kernel_rfl : F_slices_Index_int_int R a0 a1 H = _) h
def F_s_l01New (R : V → Heap → Prop) (a0 : V) (H : Heap) : Prop :=
  bnd (lenOf a0) fun n1 =>
  bnd (aBinN .add (.int .i64 681681) (.int .i64 (n1 : Nat))) fun t2 =>
  ∃ (I3 : Nat → List V → Heap → Prop) (n4 : Nat), Shr (I3 n4 [t2, (.int .i64 0)]) H ∧
  ∀ n5 xs7 H8, I3 n5 xs7 H8 →
  bnd (lenOf a0) fun n9 =>
  bnd (aBinN .lss (xs7.tail.headD .any) (.int .i64 (n9 : Nat))) fun t10 =>
  gd t10 true
  (bnd (aBinN .lss (xs7.tail.headD .any) (.int .i64 4000)) fun t11 =>
  cnd t11
  (bnd (aBinN .mul (xs7.headD .any) (.int .i64 149)) fun t12 =>
  bnd (aIndex H8 1 a0 (xs7.tail.headD .any)) fun t13 =>
  bnd (aLd false 1 H8 t13) fun t14 =>
  bnd (aCv .i64 t14) fun t15 =>
  bnd (aBinN .add t12 t15) fun t16 =>
  bnd (aBinN .add t16 (.int .i64 11)) fun t17 =>
  bnd (aBinN .and t17 (.int .i64 1073741823)) fun t18 =>
  bnd (aBinN .add (xs7.tail.headD .any) (.int .i64 1)) fun t19 =>
  ∃ n6, n6 < n5 ∧ Shr (I3 n6 [t18, t19]) H8)
  (bnd (fillZ [.nils, (.int .i64 0), (.int .i64 0)] [(0, 1, a0), (2, 1, (xs7.headD .any))]) fun c20 =>
  boxK (.agg c20) (∀ o21, H8 o21 = none →
  Ret R (.ptr o21 0 0) (upd H8 o21 ⟨(c20).length, [c20]⟩))))
  (bnd (fillZ [.nils, (.int .i64 0), (.int .i64 0)] [(0, 1, a0), (2, 1, (xs7.headD .any))]) fun c22 =>
  boxK (.agg c22) (∀ o23, H8 o23 = none →
  Ret R (.ptr o23 0 0) (upd H8 o23 ⟨(c22).length, [c22]⟩)))
theorem W_s_l01New {R : V → Heap → Prop} {a0 : V} {H : Heap} (h : F_s_l01New R a0 H) : ACalls P n_s_l01New [a0] H R :=
  acalls_of_form (g := ⟨[], []⟩) (x := (.seq .leaf (.seq .leaf (.seq (.seq .leaf (.block (.loop [3, 4] (.seq (.seq .leaf (.cond .leaf .leaf)) (.seq (.block .leaf) .leaf))))) (.seq .leaf .leaf))))) Tryz.func102 (by kernel_rfl) (by kernel_rfl) (by kernel_rfl) (by kernel_rfl : F_s_l01New R a0 H = _) h
def F_s_l06DrawDb (R : V → Heap → Prop) (a0 a1 : V) (H : Heap) : Prop :=
  bnd (aBinN .mul (.int .i64 2) a1) fun t1 =>
  ACalls P n_s_l03DrawGraph [a0, a1, t1] H fun v2 H3 =>
  bnd (stz 2 [(.int .i64 0), .nils] 0 v2) fun c4 =>
  bnd (fillZ [.nils] []) fun c5 =>
  bnd (stz 1 [.nils] 0 (.agg c5)) fun c6 =>
  ∃ (I7 : Nat → List V → Heap → Prop) (n8 : Nat), Shr (I7 n8 [(.box [.nils]), (.box c4), (.box c6), (.int .i64 0)]) H3 ∧
  ∀ n9 xs11 H12, I7 n9 xs11 H12 →
  bnd (aBinN .lss (xs11.tail.tail.tail.headD .any) a1) fun t13 =>
  cnd t13
  (ACalls P n_s_l01Below [a0, (.int .i64 4)] H12 fun v14 H15 =>
  bnd (aBinN .add (.int .i64 1) v14) fun t16 =>
  ACalls P n_s_l01Below [a0, (.int .i64 50)] H15 fun v17 H18 =>
  bnd (bsl 1 3 [(.int .i64 0)] [(0, (.int .i64 0)), (1, (.int .i64 0)), (2, v17)]) fun r19 =>
  ∀ o20, H18 o20 = none →
  ACalls P n_s_l01PickInt [a0, (.slice o20 0 3 (some 3))] (upd H18 o20 ⟨1, r19⟩) fun v21 H22 =>
  ACalls P n_s_l01Below [a0, (.int .i64 3)] H22 fun v23 H24 =>
  ACalls P n_s_l05DrawStubs [a0, v23] H24 fun v25 H26 =>
  bnd (fillZ [(.int .i64 0), (.int .i64 0), (.int .i64 0), .nils, .nils] [(0, 1, (xs11.tail.tail.tail.headD .any)), (1, 1, t16), (2, 1, v21), (4, 1, v25)]) fun c27 =>
  bnd (stz 5 [(.int .i64 0), (.int .i64 0), (.int .i64 0), .nils, .nils] 0 (.agg c27)) fun c28 =>
  ∃ (I29 : Nat → List V → Heap → Prop) (n30 : Nat), Shr (I29 n30 [(.box (bc (xs11.headD .any))), (.box (bc (xs11.tail.headD .any))), (.box (bc (xs11.tail.tail.headD .any))), (.box c28), (.int .i64 0)]) H26 ∧
  ∀ n31 xs33 H34, I29 n31 xs33 H34 →
  bnd (partOf false 1 (bc (xs33.tail.headD .any)) 1) fun t35 =>
  bnd (lenOf t35) fun n36 =>
  bnd (aBinN .lss (xs33.tail.tail.tail.tail.headD .any) (.int .i64 (n36 : Nat))) fun t37 =>
  cnd t37
  (bnd (partOf false 1 (bc (xs33.tail.headD .any)) 1) fun t38 =>
  bnd (aIndex H34 3 t38 (xs33.tail.tail.tail.tail.headD .any)) fun t39 =>
  bnd (aField 0 t39) fun t40 =>
  bnd (aLd false 1 H34 t40) fun t41 =>
  bnd (aBinN .eql t41 (xs11.tail.tail.tail.headD .any)) fun t42 =>
  cnd t42
  (bnd (partOf false 1 (bc (xs33.tail.tail.tail.headD .any)) 3) fun t43 =>
  bnd (partOf false 1 (bc (xs33.tail.headD .any)) 1) fun t44 =>
  bnd (aIndex H34 3 t44 (xs33.tail.tail.tail.tail.headD .any)) fun t45 =>
  bnd (aField 1 t45) fun t46 =>
  bnd (aLd false 1 H34 t46) fun t47 =>
  bnd (partOf false 1 (bc (xs33.tail.headD .any)) 1) fun t48 =>
  bnd (aIndex H34 3 t48 (xs33.tail.tail.tail.tail.headD .any)) fun t49 =>
  bnd (aField 2 t49) fun t50 =>
  bnd (aLd false 1 H34 t50) fun t51 =>
  bnd (fillZ [(.int .i64 0), (.int .i64 0)] [(0, 1, t47), (1, 1, t51)]) fun c52 =>
  bnd (bsl 2 1 [(.int .i64 0), (.int .i64 0)] [(0, (.agg c52))]) fun r53 =>
  ∀ o54, H34 o54 = none →
  bnd (rowsOf (upd H34 o54 ⟨2, r53⟩) 2 (.slice o54 0 1 (some 1))) fun r57 =>
  appendK (upd H34 o54 ⟨2, r53⟩) 2 16 t43 r57 fun v55 H56 =>
  bnd (stz 1 (bc (xs33.tail.tail.tail.headD .any)) 3 v55) fun c58 =>
  bnd (aBinN .add (xs33.tail.tail.tail.tail.headD .any) (.int .i64 1)) fun t59 =>
  ∃ n32, n32 < n31 ∧ Shr (I29 n32 [(.box (bc (xs33.headD .any))), (.box (bc (xs33.tail.headD .any))), (.box (bc (xs33.tail.tail.headD .any))), (.box c58), t59]) H56)
  (bnd (aBinN .add (xs33.tail.tail.tail.tail.headD .any) (.int .i64 1)) fun t60 =>
  ∃ n32, n32 < n31 ∧ Shr (I29 n32 [(.box (bc (xs33.headD .any))), (.box (bc (xs33.tail.headD .any))), (.box (bc (xs33.tail.tail.headD .any))), (.box (bc (xs33.tail.tail.tail.headD .any))), t60]) H34))
  (ACalls P n_s_l01Below [a0, (.int .i64 8)] H34 fun v61 H62 =>
  bnd (aBinN .gtr v61 (.int .i64 0)) fun t63 =>
  cnd t63
  (bnd (partOf false 1 (bc (xs33.tail.tail.headD .any)) 0) fun t64 =>
  bnd (partOf true 5 (bc (xs33.tail.tail.tail.headD .any)) 0) fun t65 =>
  bnd (bsl 5 1 [(.int .i64 0), (.int .i64 0), (.int .i64 0), .nils, .nils] [(0, t65)]) fun r66 =>
  ∀ o67, H62 o67 = none →
  bnd (rowsOf (upd H62 o67 ⟨5, r66⟩) 5 (.slice o67 0 1 (some 1))) fun r70 =>
  appendK (upd H62 o67 ⟨5, r66⟩) 5 72 t64 r70 fun v68 H69 =>
  bnd (stz 1 (bc (xs33.tail.tail.headD .any)) 0 v68) fun c71 =>
  bnd (aBinN .add (xs11.tail.tail.tail.headD .any) (.int .i64 1)) fun t72 =>
  ∃ n10, n10 < n9 ∧ Shr (I7 n10 [(.box (bc (xs33.headD .any))), (.box (bc (xs33.tail.headD .any))), (.box c71), t72]) H69)
  (bnd (aBinN .add (xs11.tail.tail.tail.headD .any) (.int .i64 1)) fun t73 =>
  ∃ n10, n10 < n9 ∧ Shr (I7 n10 [(.box (bc (xs33.headD .any))), (.box (bc (xs33.tail.headD .any))), (.box (bc (xs33.tail.tail.headD .any))), t73]) H62)))
  (bnd (partOf true 1 (bc (xs11.tail.tail.headD .any)) 0) fun t74 =>
  bnd (stz 1 (bc (xs11.headD .any)) 0 t74) fun c75 =>
  bnd (partOf true 1 c75 0) fun t76 =>
  Ret R t76 H12)
theorem W_s_l06DrawDb {R : V → Heap → Prop} {a0 a1 : V} {H : Heap} (h : F_s_l06DrawDb R a0 a1 H) : ACalls P n_s_l06DrawDb [a0, a1] H R :=
  acalls_of_form (g := ⟨[4, 5, 6, 8], [36, 42, 50, 52, 58, 67, 71, 76]⟩) (x := (.seq .leaf (.seq .leaf (.seq .leaf (.seq (.seq .leaf (.block (.loop [4, 5, 6, 7] (.seq (.seq .leaf (.cond .leaf .leaf)) (.seq (.block (.seq .leaf (.seq (.seq .leaf (.block (.loop [4, 5, 6, 8, 9] (.seq (.seq .leaf (.cond .leaf .leaf)) (.seq (.block (.seq .leaf (.cond (.drawh [0, 1, 2, 3, 4, 5, 6, 7, 8, 9, 10, 11, 12, 13, 14, 15, 16, 17, 18]) .leaf))) .leaf))))) (.seq .leaf (.cond .leaf .leaf))))) .leaf))))) (.seq .leaf .leaf)))))) Tryz.func103 (by kernel_rfl) (by kernel_rfl) (by kernel_rfl) (by kernel_rfl : F_s_l06DrawDb R a0 a1 H = _) h
def F_s_l01Size (R : V → Heap → Prop) (a0 a1 : V) (H : Heap) : Prop :=
  bnd (lenOf a0) fun n1 =>
  bnd (aBinN .quo (.int .i64 (n1 : Nat)) (.int .i64 16)) fun t2 =>
  bnd (aBinN .add (.int .i64 2) t2) fun t3 =>
  bnd (aBinN .gtr t3 a1) fun t4 =>
  cnd t4
  (Ret R a1 H)
  (Ret R t3 H)
theorem W_s_l01Size {R : V → Heap → Prop} {a0 a1 : V} {H : Heap} (h : F_s_l01Size R a0 a1 H) : ACalls P n_s_l01Size [a0, a1] H R :=
  acalls_of_form (g := ⟨[], []⟩) (x := (.seq .leaf (.seq .leaf (.seq (.seq .leaf (.cond (.seq .leaf .leaf) .leaf)) (.seq .leaf .leaf))))) Tryz.func104 (by kernel_rfl) (by kernel_rfl) (by kernel_rfl) (by kernel_rfl : F_s_l01Size R a0 a1 H = _) h
def F_s_l01Once (R : V → Heap → Prop) (a0 a1 : V) (H : Heap) : Prop :=
  ACalls P n_s_l01Below [a0, a1] H fun v1 H2 =>
  bnd (aBinN .eql v1 (.int .i64 0)) fun t3 =>
  Ret R t3 H2
theorem W_s_l01Once {R : V → Heap → Prop} {a0 a1 : V} {H : Heap} (h : F_s_l01Once R a0 a1 H) : ACalls P n_s_l01Once [a0, a1] H R :=
  acalls_of_form (g := ⟨[], []⟩) (x := (.seq .leaf (.seq .leaf .leaf))) Tryz.func105 (by kernel_rfl) (by kernel_rfl) (by kernel_rfl) (by kernel_rfl : F_s_l01Once R a0 a1 H = _) h
def F_s_l05Bend (R : V → Heap → Prop) (a0 a1 : V) (H : Heap) : Prop :=
  boxK a1 (bnd (partOf true 5 (cellsOf a1) 0) fun t1 =>
  ACalls P n_s_l05Copy [t1] H fun v2 H3 =>
  bnd (stz 5 [(.int .i64 0), (.int .i64 0), (.int .i64 0), .nils, .nils] 0 v2) fun c4 =>
  ACalls P n_s_l01Below [a0, (.int .i64 6)] H3 fun v5 H6 =>
  bnd (aBinN .eql v5 (.int .i64 0)) fun t7 =>
  cnd t7
  (bnd (bsl 1 4 [(.int .i64 0)] [(0, (.int .i64 (-1))), (1, (.int .i64 10)), (2, (.int .i64 9)), (3, (.int .i64 0))]) fun r8 =>
  ∀ o9, H6 o9 = none →
  ACalls P n_s_l01PickInt [a0, (.slice o9 0 4 (some 4))] (upd H6 o9 ⟨1, r8⟩) fun v10 H11 =>
  bnd (stz 1 c4 0 v10) fun c12 =>
  bnd (partOf true 5 c12 0) fun t13 =>
  bnd (stz 5 [(.int .i64 0), (.int .i64 0), (.int .i64 0), .nils, .nils] 0 t13) fun c14 =>
  bnd (partOf true 5 c14 0) fun t15 =>
  Ret R t15 H11)
  (bnd (aBinN .eql v5 (.int .i64 1)) fun t16 =>
  cnd t16
  (bnd (bsl 1 3 [(.int .i64 0)] [(0, (.int .i64 0)), (1, (.int .i64 1000000)), (2, (.int .i64 1000001))]) fun r17 =>
  ∀ o18, H6 o18 = none →
  ACalls P n_s_l01PickInt [a0, (.slice o18 0 3 (some 3))] (upd H6 o18 ⟨1, r17⟩) fun v19 H20 =>
  bnd (stz 1 c4 1 v19) fun c21 =>
  bnd (partOf true 5 c21 0) fun t22 =>
  bnd (stz 5 [(.int .i64 0), (.int .i64 0), (.int .i64 0), .nils, .nils] 0 t22) fun c23 =>
  bnd (partOf true 5 c23 0) fun t24 =>
  Ret R t24 H20)
  (bnd (aBinN .eql v5 (.int .i64 2)) fun t25 =>
  cnd t25
  (bnd (bsl 1 3 [(.int .i64 0)] [(0, (.int .i64 (-1))), (1, (.int .i64 60)), (2, (.int .i64 61))]) fun r26 =>
  ∀ o27, H6 o27 = none →
  ACalls P n_s_l01PickInt [a0, (.slice o27 0 3 (some 3))] (upd H6 o27 ⟨1, r26⟩) fun v28 H29 =>
  bnd (stz 1 c4 2 v28) fun c30 =>
  bnd (partOf true 5 c30 0) fun t31 =>
  bnd (stz 5 [(.int .i64 0), (.int .i64 0), (.int .i64 0), .nils, .nils] 0 t31) fun c32 =>
  bnd (partOf true 5 c32 0) fun t33 =>
  Ret R t33 H29)
  (bnd (aBinN .eql v5 (.int .i64 3)) fun t34 =>
  cnd t34
  (bnd (partOf false 1 c4 3) fun t35 =>
  ACalls P n_s_l01Below [a0, (.int .i64 11)] H6 fun v36 H37 =>
  bnd (bsl 1 4 [(.int .i64 0)] [(0, (.int .i64 1)), (1, (.int .i64 0)), (2, (.int .i64 1000)), (3, (.int .i64 1001))]) fun r38 =>
  ∀ o39, H37 o39 = none →
  ACalls P n_s_l01PickInt [a0, (.slice o39 0 4 (some 4))] (upd H37 o39 ⟨1, r38⟩) fun v40 H41 =>
  bnd (fillZ [(.int .i64 0), (.int .i64 0)] [(0, 1, v36), (1, 1, v40)]) fun c42 =>
  bnd (bsl 2 1 [(.int .i64 0), (.int .i64 0)] [(0, (.agg c42))]) fun r43 =>
  ∀ o44, H41 o44 = none →
  bnd (rowsOf (upd H41 o44 ⟨2, r43⟩) 2 (.slice o44 0 1 (some 1))) fun r47 =>
  appendK (upd H41 o44 ⟨2, r43⟩) 2 16 t35 r47 fun v45 H46 =>
  bnd (stz 1 c4 3 v45) fun c48 =>
  bnd (partOf true 5 c48 0) fun t49 =>
  bnd (stz 5 [(.int .i64 0), (.int .i64 0), (.int .i64 0), .nils, .nils] 0 t49) fun c50 =>
  bnd (partOf true 5 c50 0) fun t51 =>
  Ret R t51 H46)
  (bnd (aBinN .eql v5 (.int .i64 4)) fun t52 =>
  cnd t52
  (bnd (partOf false 1 c4 4) fun t53 =>
  ACalls P n_s_l01DrawPrefix [a0] H6 fun v54 H55 =>
  bnd (bsl 1 4 [(.int .i64 0)] [(0, (.int .i64 1)), (1, (.int .i64 0)), (2, (.int .i64 1000)), (3, (.int .i64 1001))]) fun r56 =>
  ∀ o57, H55 o57 = none →
  ACalls P n_s_l01PickInt [a0, (.slice o57 0 4 (some 4))] (upd H55 o57 ⟨1, r56⟩) fun v58 H59 =>
  bnd (fillZ [(.int .i64 0), (.int .i64 0), (.int .i64 0)] [(0, 2, v54), (2, 1, v58)]) fun c60 =>
  bnd (bsl 3 1 [(.int .i64 0), (.int .i64 0), (.int .i64 0)] [(0, (.agg c60))]) fun r61 =>
  ∀ o62, H59 o62 = none →
  bnd (rowsOf (upd H59 o62 ⟨3, r61⟩) 3 (.slice o62 0 1 (some 1))) fun r65 =>
  appendK (upd H59 o62 ⟨3, r61⟩) 3 24 t53 r65 fun v63 H64 =>
  bnd (stz 1 c4 4 v63) fun c66 =>
  bnd (partOf true 5 c66 0) fun t67 =>
  bnd (stz 5 [(.int .i64 0), (.int .i64 0), (.int .i64 0), .nils, .nils] 0 t67) fun c68 =>
  bnd (partOf true 5 c68 0) fun t69 =>
  Ret R t69 H64)
  (bnd (aBinN .eql v5 (.int .i64 5)) fun t70 =>
  cnd t70
  (∃ (I71 : Nat → List V → Heap → Prop) (n72 : Nat), Shr (I71 n72 [(.box [(.int .i64 0), (.int .i64 0), (.int .i64 0), .nils, .nils]), (.box c4), (.int .i64 0)]) H6 ∧
  ∀ n73 xs75 H76, I71 n73 xs75 H76 →
  bnd (aBinN .lss (xs75.tail.tail.headD .any) (.int .i64 7)) fun t77 =>
  cnd t77
  (bnd (partOf false 1 (bc (xs75.tail.headD .any)) 4) fun t78 =>
  bnd (aBinN .mul (.int .i64 16) (xs75.tail.tail.headD .any)) fun t79 =>
  bnd (aBinN .add (.int .i64 64000) t79) fun t80 =>
  bnd (aBinN .rem (xs75.tail.tail.headD .any) (.int .i64 2)) fun t81 =>
  bnd (aBinN .add (.int .i64 12) t81) fun t82 =>
  bnd (fillZ [(.int .i64 0), (.int .i64 0)] [(0, 1, t80), (1, 1, t82)]) fun c83 =>
  bnd (fillZ [(.int .i64 0), (.int .i64 0), (.int .i64 0)] [(0, 2, (.agg c83)), (2, 1, (.int .i64 1))]) fun c84 =>
  bnd (bsl 3 1 [(.int .i64 0), (.int .i64 0), (.int .i64 0)] [(0, (.agg c84))]) fun r85 =>
  ∀ o86, H76 o86 = none →
  bnd (rowsOf (upd H76 o86 ⟨3, r85⟩) 3 (.slice o86 0 1 (some 1))) fun r89 =>
  appendK (upd H76 o86 ⟨3, r85⟩) 3 24 t78 r89 fun v87 H88 =>
  bnd (stz 1 (bc (xs75.tail.headD .any)) 4 v87) fun c90 =>
  bnd (aBinN .add (xs75.tail.tail.headD .any) (.int .i64 1)) fun t91 =>
  ∃ n74, n74 < n73 ∧ Shr (I71 n74 [(.box (bc (xs75.headD .any))), (.box c90), t91]) H88)
  (bnd (partOf true 5 (bc (xs75.tail.headD .any)) 0) fun t92 =>
  bnd (stz 5 (bc (xs75.headD .any)) 0 t92) fun c93 =>
  bnd (partOf true 5 c93 0) fun t94 =>
  Ret R t94 H76))
  (bnd (partOf true 5 c4 0) fun t95 =>
  bnd (stz 5 [(.int .i64 0), (.int .i64 0), (.int .i64 0), .nils, .nils] 0 t95) fun c96 =>
  bnd (partOf true 5 c96 0) fun t97 =>
  Ret R t97 H6)))))))
theorem W_s_l05Bend {R : V → Heap → Prop} {a0 a1 : V} {H : Heap} (h : F_s_l05Bend R a0 a1 H) : ACalls P n_s_l05Bend [a0, a1] H R :=
  acalls_of_form (g := ⟨[3, 4, 5], [16, 22, 28, 31, 41, 44, 54, 61, 73]⟩) (x := (.seq .leaf (.seq .leaf (.seq (.seq .leaf (.block (.seq .leaf (.cond .leaf (.seq .leaf (.cond .leaf (.seq .leaf (.cond .leaf (.seq .leaf (.cond (.drawh [0, 1, 2, 4, 3, 5, 6, 7, 8, 9, 10, 11]) (.seq .leaf (.cond (.drawh [0, 1, 2, 4, 3, 5, 6, 7, 8, 9, 10, 11]) (.seq .leaf (.cond (.seq .leaf (.block (.loop [4, 5, 6] (.seq (.seq .leaf (.cond .leaf .leaf)) (.seq (.block .leaf) .leaf))))) .leaf)))))))))))))) (.seq .leaf .leaf))))) Tryz.func106 (by kernel_rfl) (by kernel_rfl) (by kernel_rfl) (by kernel_rfl : F_s_l05Bend R a0 a1 H = _) h
def F_s_l01Byte (R : V → Heap → Prop) (a0 : V) (H : Heap) : Prop :=
  bnd (aNil a0) fun t1 =>
  bnd (aField 2 t1) fun t2 =>
  bnd (aLd false 1 H t2) fun t3 =>
  bnd (aBinN .mul t3 (.int .i64 6364136223846793005)) fun t4 =>
  bnd (aBinN .add t4 (.int .i64 1442695040888963407)) fun t5 =>
  bnd (aNil a0) fun t6 =>
  bnd (aField 2 t6) fun t7 =>
  bnd (aSt 1 H t7 t5) fun H8 =>
  ∃ S9, Abs.sub S9 H8 ∧
  bnd (aNil a0) fun t10 =>
  bnd (aField 2 t10) fun t11 =>
  bnd (aLd false 1 S9 t11) fun t12 =>
  bnd (aBinN .shr t12 (.int .u64 33)) fun t13 =>
  bnd (aNil a0) fun t14 =>
  bnd (aField 2 t14) fun t15 =>
  bnd (aLd false 1 S9 t15) fun t16 =>
  bnd (aBinN .shr t16 (.int .u64 45)) fun t17 =>
  bnd (aBinN .xor t13 t17) fun t18 =>
  bnd (aBinN .and t18 (.int .i64 255)) fun t19 =>
  ∃ S20, Abs.sub S20 H8 ∧
  bnd (aNil a0) fun t21 =>
  bnd (aField 1 t21) fun t22 =>
  bnd (aLd false 1 S20 t22) fun t23 =>
  bnd (aNil a0) fun t24 =>
  bnd (aField 0 t24) fun t25 =>
  bnd (aLd false 1 S20 t25) fun t26 =>
  bnd (lenOf t26) fun n27 =>
  bnd (aBinN .lss t23 (.int .i64 (n27 : Nat))) fun t28 =>
  cnd t28
  (∃ S29, Abs.sub S29 H8 ∧
  bnd (aNil a0) fun t30 =>
  bnd (aField 0 t30) fun t31 =>
  bnd (aLd false 1 S29 t31) fun t32 =>
  bnd (aNil a0) fun t33 =>
  bnd (aField 1 t33) fun t34 =>
  bnd (aLd false 1 S29 t34) fun t35 =>
  bnd (aIndex S29 1 t32 t35) fun t36 =>
  bnd (aLd false 1 S29 t36) fun t37 =>
  bnd (aCv .i64 t37) fun t38 =>
  bnd (aBinN .add t19 t38) fun t39 =>
  bnd (aBinN .and t39 (.int .i64 255)) fun t40 =>
  bnd (aNil a0) fun t41 =>
  bnd (aField 1 t41) fun t42 =>
  bnd (aLd false 1 H8 t42) fun t43 =>
  bnd (aBinN .add t43 (.int .i64 1)) fun t44 =>
  bnd (aNil a0) fun t45 =>
  bnd (aField 1 t45) fun t46 =>
  bnd (aSt 1 H8 t46 t44) fun H47 =>
  Ret R t40 H47)
  (Ret R t19 H8)
theorem W_s_l01Byte {R : V → Heap → Prop} {a0 : V} {H : Heap} (h : F_s_l01Byte R a0 H) : ACalls P n_s_l01Byte [a0] H R :=
  acalls_of_form (g := ⟨[], []⟩) (x := (.seq .leaf (.seq .leaf (.seq (.draw [0, 1, 2, 3, 4, 5, 6, 7, 8, 9, 10, 11, 12]) (.seq (.seq (.draw [0, 1, 2, 3, 4, 5, 6, 7, 8, 9]) (.cond (.seq (.draw [0, 1, 2, 3, 4, 5, 6, 7, 8, 9, 10, 11, 12, 13, 14]) .leaf) .leaf)) (.seq .leaf .leaf)))))) Tryz.func107 (by kernel_rfl) (by kernel_rfl) (by kernel_rfl) (by kernel_rfl : F_s_l01Byte R a0 H = _) h
def F_s_LsaOk (R : V → Heap → Prop) (a0 : V) (H : Heap) : Prop :=
  boxK a0 (bnd (partOf false 1 (cellsOf a0) 0) fun t1 =>
  ACalls P n_s_l01In [t1, (.int .i64 0), (.int .i64 9)] H fun v2 H3 =>
  bnd (aNot v2) fun t4 =>
  gd t4 false
  (bnd (partOf false 1 (cellsOf a0) 1) fun t5 =>
  ACalls P n_s_l01In [t5, (.int .i64 1), (.int .i64 1000000)] H3 fun v6 H7 =>
  bnd (aNot v6) fun t8 =>
  gd t8 false
  (bnd (partOf false 1 (cellsOf a0) 2) fun t9 =>
  ACalls P n_s_l01In [t9, (.int .i64 0), (.int .i64 60)] H7 fun v10 H11 =>
  bnd (aNot v10) fun t12 =>
  gd t12 false
  (bnd (partOf false 1 (cellsOf a0) 3) fun t13 =>
  bnd (lenOf t13) fun n14 =>
  bnd (aBinN .gtr (.int .i64 (n14 : Nat)) (.int .i64 10)) fun t15 =>
  gd t15 false
  (bnd (partOf false 1 (cellsOf a0) 4) fun t16 =>
  bnd (lenOf t16) fun n17 =>
  bnd (aBinN .gtr (.int .i64 (n17 : Nat)) (.int .i64 6)) fun t18 =>
  cnd t18
  (Ret R (.bool false) H11)
  (∃ (I19 : Nat → List V → Heap → Prop) (n20 : Nat), Shr (I19 n20 [(.box (cellsOf a0)), (.int .i64 0)]) H11 ∧
  ∀ n21 xs23 H24, I19 n21 xs23 H24 →
  bnd (partOf false 1 (bc (xs23.headD .any)) 3) fun t25 =>
  bnd (lenOf t25) fun n26 =>
  bnd (aBinN .lss (xs23.tail.headD .any) (.int .i64 (n26 : Nat))) fun t27 =>
  cnd t27
  (bnd (partOf false 1 (bc (xs23.headD .any)) 3) fun t28 =>
  bnd (aIndex H24 2 t28 (xs23.tail.headD .any)) fun t29 =>
  bnd (aLd true 2 H24 t29) fun t30 =>
  bnd (stz 2 [(.int .i64 0), (.int .i64 0)] 0 t30) fun c31 =>
  ∃ S32, Abs.sub S32 H24 ∧
  bnd (partOf false 1 c31 0) fun t33 =>
  ACalls P n_s_l01In [t33, (.int .i64 0), (.int .i64 9)] H24 fun v34 H35 =>
  Abs.sub S32 H35 ∧
  bnd (aNot v34) fun t36 =>
  gd t36 false
  (bnd (partOf false 1 c31 0) fun t37 =>
  bnd (partOf false 1 (bc (xs23.headD .any)) 0) fun t38 =>
  bnd (aBinN .eql t37 t38) fun t39 =>
  gd t39 false
  (bnd (partOf false 1 c31 1) fun t40 =>
  ACalls P n_s_l01In [t40, (.int .i64 1), (.int .i64 1000)] H35 fun v41 H42 =>
  Abs.sub S32 H42 ∧
  bnd (aNot v41) fun t43 =>
  gd t43 false
  (bnd (aBinN .gtr (xs23.tail.headD .any) (.int .i64 0)) fun t44 =>
  gd3 t44 true
  (bnd (partOf false 1 (bc (xs23.headD .any)) 3) fun t45 =>
  bnd (aBinN .sub (xs23.tail.headD .any) (.int .i64 1)) fun t46 =>
  bnd (aIndex S32 2 t45 t46) fun t47 =>
  bnd (aField 0 t47) fun t48 =>
  bnd (aLd false 1 S32 t48) fun t49 =>
  bnd (partOf false 1 c31 0) fun t50 =>
  bnd (aBinN .geq t49 t50) fun t51 =>
  cnd t51
  (Ret R (.bool false) H42)
  (bnd (aBinN .add (xs23.tail.headD .any) (.int .i64 1)) fun t52 =>
  ∃ n22, n22 < n21 ∧ Shr (I19 n22 [(.box (bc (xs23.headD .any))), t52]) H42))
  (bnd (aBinN .add (xs23.tail.headD .any) (.int .i64 1)) fun t53 =>
  ∃ n22, n22 < n21 ∧ Shr (I19 n22 [(.box (bc (xs23.headD .any))), t53]) H42)
  (bnd (aPick (.tup []) (.tup []) (.bool false)) fun t54 =>
  cnd t54
  (Ret R (.bool false) H42)
  (bnd (aBinN .add (xs23.tail.headD .any) (.int .i64 1)) fun t55 =>
  ∃ n22, n22 < n21 ∧ Shr (I19 n22 [(.box (bc (xs23.headD .any))), t55]) H42)))
  (Ret R (.bool false) H42))
  (Ret R (.bool false) H35))
  (Ret R (.bool false) H35))
  (∃ (I56 : Nat → List V → Heap → Prop) (n57 : Nat), Shr (I56 n57 [(.box (bc (xs23.headD .any))), (.int .i64 0)]) H24 ∧
  ∀ n58 xs60 H61, I56 n58 xs60 H61 →
  bnd (partOf false 1 (bc (xs60.headD .any)) 4) fun t62 =>
  bnd (lenOf t62) fun n63 =>
  bnd (aBinN .lss (xs60.tail.headD .any) (.int .i64 (n63 : Nat))) fun t64 =>
  cnd t64
  (bnd (partOf false 1 (bc (xs60.headD .any)) 4) fun t65 =>
  bnd (aIndex H61 3 t65 (xs60.tail.headD .any)) fun t66 =>
  bnd (aLd true 3 H61 t66) fun t67 =>
  bnd (stz 3 [(.int .i64 0), (.int .i64 0), (.int .i64 0)] 0 t67) fun c68 =>
  ∃ S69, Abs.sub S69 H61 ∧
  bnd (partOf true 2 c68 0) fun t70 =>
  ACalls P n_s_PrefixOk [t70] H61 fun v71 H72 =>
  Abs.sub S69 H72 ∧
  bnd (aNot v71) fun t73 =>
  gd t73 false
  (bnd (partOf false 1 c68 2) fun t74 =>
  ACalls P n_s_l01In [t74, (.int .i64 1), (.int .i64 1000)] H72 fun v75 H76 =>
  Abs.sub S69 H76 ∧
  bnd (aNot v75) fun t77 =>
  gd t77 false
  (bnd (aBinN .gtr (xs60.tail.headD .any) (.int .i64 0)) fun t78 =>
  gd3 t78 true
  (bnd (partOf false 1 (bc (xs60.headD .any)) 4) fun t79 =>
  bnd (aBinN .sub (xs60.tail.headD .any) (.int .i64 1)) fun t80 =>
  bnd (aIndex S69 3 t79 t80) fun t81 =>
  bnd (aField 0 t81) fun t82 =>
  bnd (aLd true 2 S69 t82) fun t83 =>
  bnd (partOf true 2 c68 0) fun t84 =>
  ACalls P n_s_l02Ahead [t83, t84] H76 fun v85 H86 =>
  Abs.sub S69 H86 ∧
  bnd (aNot v85) fun t87 =>
  cnd t87
  (Ret R (.bool false) H86)
  (bnd (aBinN .add (xs60.tail.headD .any) (.int .i64 1)) fun t88 =>
  ∃ n59, n59 < n58 ∧ Shr (I56 n59 [(.box (bc (xs60.headD .any))), t88]) H86))
  (bnd (aBinN .add (xs60.tail.headD .any) (.int .i64 1)) fun t89 =>
  ∃ n59, n59 < n58 ∧ Shr (I56 n59 [(.box (bc (xs60.headD .any))), t89]) H76)
  (bnd (aPick (.tup []) (.tup []) (.bool false)) fun t90 =>
  cnd t90
  (Ret R (.bool false) H76)
  (bnd (aBinN .add (xs60.tail.headD .any) (.int .i64 1)) fun t91 =>
  ∃ n59, n59 < n58 ∧ Shr (I56 n59 [(.box (bc (xs60.headD .any))), t91]) H76)))
  (Ret R (.bool false) H76))
  (Ret R (.bool false) H72))
  (Ret R (.bool true) H61))))
  (Ret R (.bool false) H11))
  (Ret R (.bool false) H11))
  (Ret R (.bool false) H7))
  (Ret R (.bool false) H3))
theorem W_s_LsaOk {R : V → Heap → Prop} {a0 : V} {H : Heap} (h : F_s_LsaOk R a0 H) : ACalls P n_s_LsaOk [a0] H R :=
  acalls_of_form (g := ⟨[1, 4, 6], [7, 12, 18, 24, 30, 36, 42, 47, 52, 54, 59, 68, 75, 81, 87, 92, 97, 106, 113]⟩) (x := (.seq .leaf (.seq (.seq .leaf (.cond (.seq .leaf .leaf) .leaf)) (.seq (.seq .leaf (.block (.loop [1, 3] (.seq (.seq .leaf (.cond .leaf .leaf)) (.seq (.block (.seq .leaf (.seq (.draw [0, 1, 2, 3, 4, 5, 6, 7, 8, 9, 10, 11, 12, 13, 14, 15, 16, 17, 18, 19, 20, 21, 22, 23, 24, 25, 26, 27, 28, 29, 30, 31, 32]) (.cond (.seq .leaf .leaf) .leaf)))) .leaf))))) (.seq (.seq .leaf (.block (.loop [1, 5] (.seq (.seq .leaf (.cond .leaf .leaf)) (.seq (.block (.seq .leaf (.seq (.draw [0, 1, 2, 3, 4, 5, 6, 7, 8, 9, 10, 11, 12, 13, 14, 15, 16, 17, 18, 19, 20, 21, 22, 23, 24, 25, 26]) (.cond (.seq .leaf .leaf) .leaf)))) .leaf))))) (.seq .leaf .leaf)))))) Tryz.func108 (by kernel_rfl) (by kernel_rfl) (by kernel_rfl) (by kernel_rfl : F_s_LsaOk R a0 H = _) h
def F_s_FindLsa (R : V → Heap → Prop) (a0 a1 : V) (H : Heap) : Prop :=
  boxK a0 (bnd (partOf true 1 (cellsOf a0) 0) fun t1 =>
  ACalls P n_s_DbOk [t1] H fun v2 H3 =>
  bnd (aNot v2) fun t4 =>
  cnd t4
  (bnd (fillZ [(.int .i64 0), (.int .i64 0), (.int .i64 0), .nils, .nils] []) fun c5 =>
  bnd (stz 5 [(.int .i64 0), (.int .i64 0), (.int .i64 0), .nils, .nils] 0 (.agg c5)) fun c6 =>
  bnd (partOf true 5 c6 0) fun t7 =>
  Ret R (.tup [t7, (.bool false)]) H3)
  (∃ (I8 : Nat → List V → Heap → Prop) (n9 : Nat), Shr (I8 n9 [(.box (cellsOf a0)), (.box [(.int .i64 0), (.int .i64 0), (.int .i64 0), .nils, .nils]), (.int .i64 0)]) H3 ∧
  ∀ n10 xs12 H13, I8 n10 xs12 H13 →
  bnd (partOf false 1 (bc (xs12.headD .any)) 0) fun t14 =>
  bnd (lenOf t14) fun n15 =>
  bnd (aBinN .lss (xs12.tail.tail.headD .any) (.int .i64 (n15 : Nat))) fun t16 =>
  cnd t16
  (bnd (partOf false 1 (bc (xs12.headD .any)) 0) fun t17 =>
  bnd (aIndex H13 5 t17 (xs12.tail.tail.headD .any)) fun t18 =>
  bnd (aField 0 t18) fun t19 =>
  bnd (aLd false 1 H13 t19) fun t20 =>
  bnd (aBinN .eql t20 a1) fun t21 =>
  cnd t21
  (bnd (partOf false 1 (bc (xs12.headD .any)) 0) fun t22 =>
  bnd (aIndex H13 5 t22 (xs12.tail.tail.headD .any)) fun t23 =>
  bnd (aLd true 5 H13 t23) fun t24 =>
  ACalls P n_s_l05Copy [t24] H13 fun v25 H26 =>
  bnd (stz 5 (bc (xs12.tail.headD .any)) 0 v25) fun c27 =>
  bnd (partOf true 5 c27 0) fun t28 =>
  Ret R (.tup [t28, (.bool true)]) H26)
  (bnd (aBinN .add (xs12.tail.tail.headD .any) (.int .i64 1)) fun t29 =>
  ∃ n11, n11 < n10 ∧ Shr (I8 n11 [(.box (bc (xs12.headD .any))), (.box (bc (xs12.tail.headD .any))), t29]) H13))
  (bnd (fillZ [(.int .i64 0), (.int .i64 0), (.int .i64 0), .nils, .nils] []) fun c30 =>
  bnd (stz 5 (bc (xs12.tail.headD .any)) 0 (.agg c30)) fun c31 =>
  bnd (partOf true 5 c31 0) fun t32 =>
  Ret R (.tup [t32, (.bool false)]) H13)))
theorem W_s_FindLsa {R : V → Heap → Prop} {a0 a1 : V} {H : Heap} (h : F_s_FindLsa R a0 a1 H) : ACalls P n_s_FindLsa [a0, a1] H R :=
  acalls_of_form (g := ⟨[2, 4], [12, 18, 26]⟩) (x := (.seq .leaf (.seq (.seq .leaf (.cond (.seq .leaf .leaf) .leaf)) (.seq (.seq .leaf (.block (.loop [2, 4, 6] (.seq (.seq .leaf (.cond .leaf .leaf)) (.seq (.block (.seq .leaf (.cond (.seq .leaf .leaf) .leaf))) .leaf))))) (.seq .leaf .leaf))))) Tryz.func109 (by kernel_rfl) (by kernel_rfl) (by kernel_rfl) (by kernel_rfl : F_s_FindLsa R a0 a1 H = _) h
def F_s_l01Addr (R : V → Heap → Prop) (a0 : V) (H : Heap) : Prop :=
  ACalls P n_s_l01In [a0, (.int .i64 0), (.int .i64 65535)] H fun v1 H2 =>
  Ret R v1 H2
theorem W_s_l01Addr {R : V → Heap → Prop} {a0 : V} {H : Heap} (h : F_s_l01Addr R a0 H) : ACalls P n_s_l01Addr [a0] H R :=
  acalls_of_form (g := ⟨[], []⟩) (x := (.seq .leaf (.seq .leaf .leaf))) Tryz.func110 (by kernel_rfl) (by kernel_rfl) (by kernel_rfl) (by kernel_rfl : F_s_l01Addr R a0 H = _) h
end Go.Proofs.YtaippfedjjjpeaaGreat
