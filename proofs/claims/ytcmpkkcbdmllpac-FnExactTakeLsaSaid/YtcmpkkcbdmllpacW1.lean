/-
The shallow forms of the functions; printed by a program.
-/
import Derived.Test.YtcmpkkcbdmllpacAbs3
import Derived.Test.YtcmpkkcbdmllpacProg
import Derived.KernelRfl
set_option linter.all false
namespace Go.Proofs.Ytcmpkkcbdmllpac
open Go Go.Abs Go.Proofs
set_option maxRecDepth 100000
noncomputable abbrev P : Program := Try.prog
abbrev n_gosem_cut_init : FuncId := 2
abbrev n_l_FnExactTakeLsa : FuncId := 3
abbrev n_l_FnExactFindLsa : FuncId := 4
abbrev n_l_FnExactAgeDb : FuncId := 5
abbrev n_l_FnExactGraphOf : FuncId := 6
abbrev n_s_TakeLsa : FuncId := 7
abbrev n_l_toByteS : FuncId := 8
abbrev n_i_TakeLsa : FuncId := 9
abbrev n_l_eqLsa : FuncId := 10
abbrev n_l_eqByteS : FuncId := 11
abbrev n_l_markByteS : FuncId := 12
abbrev n_l_markLsa : FuncId := 13
abbrev n_l_heldLsa : FuncId := 14
abbrev n_l_szDb : FuncId := 15
abbrev n_s_FindLsa : FuncId := 16
abbrev n_l_toDb : FuncId := 17
abbrev n_i_FindLsa : FuncId := 18
abbrev n_l_eqDb : FuncId := 19
abbrev n_l_markDb : FuncId := 20
abbrev n_s_AgeDb : FuncId := 21
abbrev n_i_AgeDb : FuncId := 22
abbrev n_l_eqIntS : FuncId := 23
abbrev n_l_markIntS : FuncId := 24
abbrev n_l_heldDb : FuncId := 25
abbrev n_l_heldIntS : FuncId := 26
abbrev n_s_GraphOf : FuncId := 27
abbrev n_i_GraphOf : FuncId := 28
abbrev n_l_eqGraph : FuncId := 29
abbrev n_l_markGraph : FuncId := 30
abbrev n_l_heldGraph : FuncId := 31
abbrev n_s_l01In : FuncId := 32
abbrev n_s_l05Read : FuncId := 33
abbrev n_s_LsaOk : FuncId := 34
abbrev n_s_l01Same : FuncId := 35
abbrev n_s_PutLsa : FuncId := 36
abbrev n_p_i_taker_take : FuncId := 37
abbrev n_slices_Equal_byte_byte : FuncId := 38
abbrev n_i_PutLsa : FuncId := 39
abbrev n_i_LsaOk : FuncId := 40
abbrev n_l_eqLinkS : FuncId := 41
abbrev n_l_eqStubS : FuncId := 42
abbrev n_l_markLinkS : FuncId := 43
abbrev n_l_markStubS : FuncId := 44
abbrev n_l_heldLinkS : FuncId := 45
abbrev n_l_heldStubS : FuncId := 46
abbrev n_l_szLsaS : FuncId := 47
abbrev n_s_DbOk : FuncId := 48
abbrev n_s_l05Copy : FuncId := 49
abbrev n_l_toLsaS : FuncId := 50
abbrev n_i_DbOk : FuncId := 51
abbrev n_i_Db_find : FuncId := 52
abbrev n_i_ownLsa : FuncId := 53
abbrev n_l_eqLsaS : FuncId := 54
abbrev n_l_markLsaS : FuncId := 55
abbrev n_s_l06Copy : FuncId := 56
abbrev n_s_AgeLsa : FuncId := 57
abbrev n_i_within : FuncId := 58
abbrev n_i_ownDb : FuncId := 59
abbrev n_i_Lsa_aged : FuncId := 60
abbrev n_l_heldLsaS : FuncId := 61
abbrev n_s_l06Says : FuncId := 62
abbrev n_s_GraphOk : FuncId := 63
abbrev n_i_Db_hasLink : FuncId := 64
abbrev n_l_eqEdgeS : FuncId := 65
abbrev n_l_markEdgeS : FuncId := 66
abbrev n_l_heldEdgeS : FuncId := 67
abbrev n_s_PrefixOk : FuncId := 68
abbrev n_s_l02Ahead : FuncId := 69
abbrev n_s_l01Join : FuncId := 70
abbrev n_s_LsaBytes : FuncId := 71
abbrev n_s_l05Wide : FuncId := 72
abbrev n_s_LsaSum : FuncId := 73
abbrev n_i_big : FuncId := 74
abbrev n_i_Lsa_bytes : FuncId := 75
abbrev n_i_Lsa_sum : FuncId := 76
abbrev n_i_areLinks : FuncId := 77
abbrev n_i_areStubs : FuncId := 78
abbrev n_l_eqLink : FuncId := 79
abbrev n_l_eqStub : FuncId := 80
abbrev n_l_szLsa : FuncId := 81
abbrev n_l_toLsa : FuncId := 82
abbrev n_slices_BinarySearchFunc_i_Lsa_i_Lsa_int : FuncId := 83
abbrev n_i_Db_find_1 : FuncId := 84
abbrev n_cmp_Compare_int : FuncId := 85
abbrev n_slices_Clone_i_Link_i_Link : FuncId := 86
abbrev n_slices_Clone_i_Stub_i_Stub : FuncId := 87
abbrev n_s_l03Node : FuncId := 88
abbrev n_slices_ContainsFunc_i_Link_i_Link : FuncId := 89
abbrev n_i_Db_hasLink_1 : FuncId := 90
abbrev n_l_eqEdge : FuncId := 91
abbrev n_s_l01Addr : FuncId := 92
abbrev n_s_l01Size2 : FuncId := 93
abbrev n_s_l01Bytes : FuncId := 94
abbrev n_i_PrefixOk : FuncId := 95
abbrev n_i_comparePrefixes : FuncId := 96
abbrev n_l_eqPrefix : FuncId := 97
abbrev n_l_szLinkS : FuncId := 98
abbrev n_l_szStubS : FuncId := 99
abbrev n_l_toLinkS : FuncId := 100
abbrev n_l_toStubS : FuncId := 101
abbrev n_cmp_isNaN_int : FuncId := 102
abbrev n_slices_IndexFunc_i_Link_i_Link : FuncId := 103
abbrev n_i_isAddr : FuncId := 104
abbrev n_i_Prefix_size : FuncId := 105
abbrev n_l_toLink : FuncId := 106
abbrev n_l_toStub : FuncId := 107
abbrev n_l_toPrefix : FuncId := 108
def F_l_FnExactTakeLsa (R : V → Heap → Prop) (a0 : V) (H : Heap) : Prop :=
  bnd (lenOf a0) fun n1 =>
  bnd (aBinN .gtr (.int .i64 (n1 : Nat)) (.int .i64 1048576)) fun t2 =>
  cnd t2
  (Ret R (.bool true) H)
  (ACalls P n_l_toByteS [a0] H fun v3 H4 =>
  ACalls P n_s_TakeLsa [v3] H4 fun v5 H6 =>
  bnd (aExtract 0 v5) fun t7 =>
  bnd (aExtract 1 v5) fun t8 =>
  bnd (stz 5 [(.int .i64 0), (.int .i64 0), (.int .i64 0), .nils, .nils] 0 t7) fun c9 =>
  ACalls P n_l_toByteS [a0] H6 fun v10 H11 =>
  ACalls P n_i_TakeLsa [v10] H11 fun v12 H13 =>
  bnd (aExtract 0 v12) fun t14 =>
  bnd (aExtract 1 v12) fun t15 =>
  bnd (stz 5 [(.int .i64 0), (.int .i64 0), (.int .i64 0), .nils, .nils] 0 t14) fun c16 =>
  bnd (partOf true 5 c16 0) fun t17 =>
  bnd (partOf true 5 c9 0) fun t18 =>
  ACalls P n_l_eqLsa [t17, t18] H13 fun v19 H20 =>
  bnd (aNot v19) fun t21 =>
  gd t21 false
  (bnd (aBinB .neq t15 t8) fun t22 =>
  cnd t22
  (Ret R (.bool false) H20)
  (ACalls P n_l_toByteS [a0] H20 fun v23 H24 =>
  ACalls P n_l_eqByteS [v10, v23] H24 fun v25 H26 =>
  bnd (aNot v25) fun t27 =>
  cnd t27
  (Ret R (.bool false) H26)
  (ACalls P n_l_markByteS [v10, (.int .i64 1)] H26 fun v28 H29 =>
  bnd (aBinN .lss v28 (.int .i64 0)) fun t30 =>
  gd t30 false
  (bnd (partOf true 5 c16 0) fun t31 =>
  bnd (partOf true 5 c9 0) fun t32 =>
  ACalls P n_l_eqLsa [t31, t32] H29 fun v33 H34 =>
  bnd (aNot v33) fun t35 =>
  gd t35 false
  (bnd (aBinB .neq t15 t8) fun t36 =>
  cnd t36
  (Ret R (.bool false) H34)
  (bnd (partOf true 5 c16 0) fun t37 =>
  ACalls P n_l_markLsa [t37, (.int .i64 1)] H34 fun v38 H39 =>
  bnd (partOf true 5 c16 0) fun t40 =>
  ACalls P n_l_heldLsa [t40, (.int .i64 1)] H39 fun v41 H42 =>
  bnd (aBinN .lss v41 (.int .i64 0)) fun t43 =>
  cnd t43
  (Ret R (.bool false) H42)
  (bnd (aBinN .neq v41 v38) fun t44 =>
  cnd t44
  (Ret R (.bool false) H42)
  (ACalls P n_l_toByteS [a0] H42 fun v45 H46 =>
  ACalls P n_i_TakeLsa [v45] H46 fun v47 H48 =>
  bnd (aExtract 0 v47) fun t49 =>
  bnd (aExtract 1 v47) fun t50 =>
  bnd (stz 5 [(.int .i64 0), (.int .i64 0), (.int .i64 0), .nils, .nils] 0 t49) fun c51 =>
  bnd (partOf true 5 c51 0) fun t52 =>
  bnd (partOf true 5 c9 0) fun t53 =>
  ACalls P n_l_eqLsa [t52, t53] H48 fun v54 H55 =>
  bnd (aNot v54) fun t56 =>
  gd t56 false
  (bnd (aBinB .neq t50 t8) fun t57 =>
  cnd t57
  (Ret R (.bool false) H55)
  (bnd (partOf true 5 c16 0) fun t58 =>
  ACalls P n_l_heldLsa [t58, (.int .i64 1)] H55 fun v59 H60 =>
  bnd (aBinN .lss v59 (.int .i64 0)) fun t61 =>
  cnd t61
  (Ret R (.bool false) H60)
  (bnd (aBinN .neq v59 v38) fun t62 =>
  cnd t62
  (Ret R (.bool false) H60)
  (Ret R (.bool true) H60))))
  (Ret R (.bool false) H55)))))
  (Ret R (.bool false) H34))
  (Ret R (.bool false) H29))))
  (Ret R (.bool false) H20))
theorem W_l_FnExactTakeLsa {R : V → Heap → Prop} {a0 : V} {H : Heap} (h : F_l_FnExactTakeLsa R a0 H) : ACalls P n_l_FnExactTakeLsa [a0] H R :=
  acalls_of_form (g := ⟨[3, 6, 11], []⟩) (x := (.seq .leaf (.seq (.seq .leaf (.cond (.seq .leaf .leaf) .leaf)) (.seq .leaf (.seq .leaf (.seq .leaf (.seq (.seq .leaf (.cond (.seq .leaf .leaf) .leaf)) (.seq (.seq .leaf (.cond (.seq .leaf .leaf) .leaf)) (.seq .leaf (.seq .leaf (.seq (.seq .leaf (.cond (.seq .leaf .leaf) .leaf)) (.seq .leaf (.seq .leaf (.seq .leaf (.seq .leaf (.seq (.seq .leaf (.cond (.seq .leaf .leaf) .leaf)) (.seq (.seq .leaf (.cond (.seq .leaf .leaf) .leaf)) (.seq .leaf (.seq (.seq .leaf (.cond (.seq .leaf .leaf) .leaf)) (.seq .leaf (.seq .leaf (.seq (.seq .leaf (.cond (.seq .leaf .leaf) .leaf)) (.seq (.seq .leaf (.cond (.seq .leaf .leaf) .leaf)) (.seq .leaf .leaf)))))))))))))))))))))))) Try.func3 (by kernel_rfl) (by kernel_rfl) (by kernel_rfl) (by kernel_rfl : F_l_FnExactTakeLsa R a0 H = _) h
def F_s_TakeLsa (R : V → Heap → Prop) (a0 : V) (H : Heap) : Prop :=
  bnd (fillZ [(.int .i64 0), (.int .i64 0), (.int .i64 0), .nils, .nils] []) fun c1 =>
  bnd (stz 5 [(.int .i64 0), (.int .i64 0), (.int .i64 0), .nils, .nils] 0 (.agg c1)) fun c2 =>
  bnd (lenOf a0) fun n3 =>
  ACalls P n_s_l01In [(.int .i64 (n3 : Nat)), (.int .i64 10), (.int .i64 70)] H fun v4 H5 =>
  bnd (aNot v4) fun t6 =>
  cnd t6
  (bnd (partOf true 5 c2 0) fun t7 =>
  bnd (stz 5 [(.int .i64 0), (.int .i64 0), (.int .i64 0), .nils, .nils] 0 t7) fun c8 =>
  bnd (partOf true 5 c8 0) fun t9 =>
  Ret R (.tup [t9, (.bool false)]) H5)
  (∃ S10, Abs.sub S10 H5 ∧
  bnd (aIndex S10 1 a0 (.int .i64 0)) fun t11 =>
  bnd (aLd false 1 S10 t11) fun t12 =>
  bnd (aCv .i64 t12) fun t13 =>
  bnd (aSlice S10 1 a0 (some (.int .i64 1)) (some (.int .i64 4)) none) fun t14 =>
  ACalls P n_s_l05Read [t14] H5 fun v15 H16 =>
  Abs.sub S10 H16 ∧
  bnd (fillZ [(.int .i64 0), (.int .i64 0), (.int .i64 0), .nils, .nils] [(0, 1, t13), (1, 1, v15)]) fun c17 =>
  bnd (stz 5 [(.int .i64 0), (.int .i64 0), (.int .i64 0), .nils, .nils] 0 (.agg c17)) fun c18 =>
  ∃ (I19 : Nat → List V → Heap → Prop) (n20 : Nat), Shr (I19 n20 [(.box [(.int .i64 0), (.int .i64 0), (.int .i64 0), .nils, .nils]), (.box c2), (.box c18), (.int .i64 5), (.int .i64 0)]) H16 ∧
  ∀ n21 xs23 H24, I19 n21 xs23 H24 →
  bnd (aIndex H24 1 a0 (.int .i64 4)) fun t25 =>
  bnd (aLd false 1 H24 t25) fun t26 =>
  bnd (aCv .i64 t26) fun t27 =>
  bnd (aBinN .lss (xs23.tail.tail.tail.tail.headD .any) t27) fun t28 =>
  cnd t28
  (bnd (aBinN .add (xs23.tail.tail.tail.headD .any) (.int .i64 3)) fun t29 =>
  bnd (lenOf a0) fun n30 =>
  bnd (aBinN .gtr t29 (.int .i64 (n30 : Nat))) fun t31 =>
  cnd t31
  (bnd (partOf true 5 (bc (xs23.tail.headD .any)) 0) fun t32 =>
  bnd (stz 5 (bc (xs23.headD .any)) 0 t32) fun c33 =>
  bnd (partOf true 5 c33 0) fun t34 =>
  Ret R (.tup [t34, (.bool false)]) H24)
  (∃ S35, Abs.sub S35 H24 ∧
  bnd (partOf false 1 (bc (xs23.tail.tail.headD .any)) 3) fun t36 =>
  bnd (aIndex S35 1 a0 (xs23.tail.tail.tail.headD .any)) fun t37 =>
  bnd (aLd false 1 S35 t37) fun t38 =>
  bnd (aCv .i64 t38) fun t39 =>
  bnd (aBinN .add (xs23.tail.tail.tail.headD .any) (.int .i64 1)) fun t40 =>
  bnd (aBinN .add (xs23.tail.tail.tail.headD .any) (.int .i64 3)) fun t41 =>
  bnd (aSlice S35 1 a0 (some t40) (some t41) none) fun t42 =>
  ACalls P n_s_l05Read [t42] H24 fun v43 H44 =>
  Abs.sub S35 H44 ∧
  bnd (fillZ [(.int .i64 0), (.int .i64 0)] [(0, 1, t39), (1, 1, v43)]) fun c45 =>
  bnd (bsl 2 1 [(.int .i64 0), (.int .i64 0)] [(0, (.agg c45))]) fun r46 =>
  ∀ o47, H44 o47 = none →
  Abs.sub S35 (upd H44 o47 ⟨2, r46⟩) ∧
  bnd (rowsOf (upd H44 o47 ⟨2, r46⟩) 2 (.slice o47 0 1 (some 1))) fun r50 =>
  appendK (upd H44 o47 ⟨2, r46⟩) 2 16 t36 r50 fun v48 H49 =>
  Abs.sub S35 H49 ∧
  bnd (stz 1 (bc (xs23.tail.tail.headD .any)) 3 v48) fun c51 =>
  bnd (aBinN .add (xs23.tail.tail.tail.headD .any) (.int .i64 3)) fun t52 =>
  bnd (aBinN .add (xs23.tail.tail.tail.tail.headD .any) (.int .i64 1)) fun t53 =>
  ∃ n22, n22 < n21 ∧ Shr (I19 n22 [(.box (bc (xs23.headD .any))), (.box (bc (xs23.tail.headD .any))), (.box c51), t52, t53]) H49))
  (bnd (lenOf a0) fun n54 =>
  bnd (aBinN .geq (xs23.tail.tail.tail.headD .any) (.int .i64 (n54 : Nat))) fun t55 =>
  cnd t55
  (bnd (partOf true 5 (bc (xs23.tail.headD .any)) 0) fun t56 =>
  bnd (stz 5 (bc (xs23.headD .any)) 0 t56) fun c57 =>
  bnd (partOf true 5 c57 0) fun t58 =>
  Ret R (.tup [t58, (.bool false)]) H24)
  (bnd (aIndex H24 1 a0 (xs23.tail.tail.tail.headD .any)) fun t59 =>
  bnd (aLd false 1 H24 t59) fun t60 =>
  bnd (aCv .i64 t60) fun t61 =>
  bnd (aBinN .add (xs23.tail.tail.tail.headD .any) (.int .i64 1)) fun t62 =>
  ∃ (I63 : Nat → List V → Heap → Prop) (n64 : Nat), Shr (I63 n64 [(.box (bc (xs23.headD .any))), (.box (bc (xs23.tail.headD .any))), (.box (bc (xs23.tail.tail.headD .any))), t62, (.int .i64 0)]) H24 ∧
  ∀ n65 xs67 H68, I63 n65 xs67 H68 →
  bnd (aBinN .lss (xs67.tail.tail.tail.tail.headD .any) t61) fun t69 =>
  cnd t69
  (bnd (aBinN .add (xs67.tail.tail.tail.headD .any) (.int .i64 5)) fun t70 =>
  bnd (lenOf a0) fun n71 =>
  bnd (aBinN .gtr t70 (.int .i64 (n71 : Nat))) fun t72 =>
  cnd t72
  (bnd (partOf true 5 (bc (xs67.tail.headD .any)) 0) fun t73 =>
  bnd (stz 5 (bc (xs67.headD .any)) 0 t73) fun c74 =>
  bnd (partOf true 5 c74 0) fun t75 =>
  Ret R (.tup [t75, (.bool false)]) H68)
  (∃ S76, Abs.sub S76 H68 ∧
  bnd (partOf false 1 (bc (xs67.tail.tail.headD .any)) 4) fun t77 =>
  bnd (aBinN .add (xs67.tail.tail.tail.headD .any) (.int .i64 2)) fun t78 =>
  bnd (aSlice S76 1 a0 (some (xs67.tail.tail.tail.headD .any)) (some t78) none) fun t79 =>
  bnd (aBinN .add (xs67.tail.tail.tail.headD .any) (.int .i64 2)) fun t80 =>
  bnd (aIndex S76 1 a0 t80) fun t81 =>
  bnd (aLd false 1 S76 t81) fun t82 =>
  bnd (aCv .i64 t82) fun t83 =>
  bnd (aBinN .add (xs67.tail.tail.tail.headD .any) (.int .i64 3)) fun t84 =>
  bnd (aBinN .add (xs67.tail.tail.tail.headD .any) (.int .i64 5)) fun t85 =>
  bnd (aSlice S76 1 a0 (some t84) (some t85) none) fun t86 =>
  ACalls P n_s_l05Read [t79] H68 fun v87 H88 =>
  Abs.sub S76 H88 ∧
  bnd (fillZ [(.int .i64 0), (.int .i64 0)] [(0, 1, v87), (1, 1, t83)]) fun c89 =>
  ACalls P n_s_l05Read [t86] H88 fun v90 H91 =>
  Abs.sub S76 H91 ∧
  bnd (fillZ [(.int .i64 0), (.int .i64 0), (.int .i64 0)] [(0, 2, (.agg c89)), (2, 1, v90)]) fun c92 =>
  bnd (bsl 3 1 [(.int .i64 0), (.int .i64 0), (.int .i64 0)] [(0, (.agg c92))]) fun r93 =>
  ∀ o94, H91 o94 = none →
  Abs.sub S76 (upd H91 o94 ⟨3, r93⟩) ∧
  bnd (rowsOf (upd H91 o94 ⟨3, r93⟩) 3 (.slice o94 0 1 (some 1))) fun r97 =>
  appendK (upd H91 o94 ⟨3, r93⟩) 3 24 t77 r97 fun v95 H96 =>
  Abs.sub S76 H96 ∧
  bnd (stz 1 (bc (xs67.tail.tail.headD .any)) 4 v95) fun c98 =>
  bnd (aBinN .add (xs67.tail.tail.tail.headD .any) (.int .i64 5)) fun t99 =>
  bnd (aBinN .add (xs67.tail.tail.tail.tail.headD .any) (.int .i64 1)) fun t100 =>
  ∃ n66, n66 < n65 ∧ Shr (I63 n66 [(.box (bc (xs67.headD .any))), (.box (bc (xs67.tail.headD .any))), (.box c98), t99, t100]) H96))
  (bnd (aBinN .add (xs67.tail.tail.tail.headD .any) (.int .i64 4)) fun t101 =>
  bnd (lenOf a0) fun n102 =>
  bnd (aBinN .neq t101 (.int .i64 (n102 : Nat))) fun t103 =>
  cnd t103
  (bnd (partOf true 5 (bc (xs67.tail.headD .any)) 0) fun t104 =>
  bnd (stz 5 (bc (xs67.headD .any)) 0 t104) fun c105 =>
  bnd (partOf true 5 c105 0) fun t106 =>
  Ret R (.tup [t106, (.bool false)]) H68)
  (bnd (aIndex H68 1 a0 (xs67.tail.tail.tail.headD .any)) fun t107 =>
  bnd (aLd false 1 H68 t107) fun t108 =>
  bnd (aCv .i64 t108) fun t109 =>
  bnd (stz 1 (bc (xs67.tail.tail.headD .any)) 2 t109) fun c110 =>
  bnd (partOf true 5 c110 0) fun t111 =>
  ACalls P n_s_LsaOk [t111] H68 fun v112 H113 =>
  bnd (aNot v112) fun t114 =>
  gd t114 false
  (bnd (partOf true 5 c110 0) fun t115 =>
  ACalls P n_s_PutLsa [t115] H113 fun v116 H117 =>
  ACalls P n_s_l01Same [v116, a0] H117 fun v118 H119 =>
  bnd (aNot v118) fun t120 =>
  cnd t120
  (bnd (partOf true 5 (bc (xs67.tail.headD .any)) 0) fun t121 =>
  bnd (stz 5 (bc (xs67.headD .any)) 0 t121) fun c122 =>
  bnd (partOf true 5 c122 0) fun t123 =>
  Ret R (.tup [t123, (.bool false)]) H119)
  (bnd (partOf true 5 c110 0) fun t124 =>
  bnd (stz 5 (bc (xs67.headD .any)) 0 t124) fun c125 =>
  bnd (partOf true 5 c125 0) fun t126 =>
  Ret R (.tup [t126, (.bool true)]) H119))
  (bnd (partOf true 5 (bc (xs67.tail.headD .any)) 0) fun t127 =>
  bnd (stz 5 (bc (xs67.headD .any)) 0 t127) fun c128 =>
  bnd (partOf true 5 c128 0) fun t129 =>
  Ret R (.tup [t129, (.bool false)]) H113))))))
theorem W_s_TakeLsa {R : V → Heap → Prop} {a0 : V} {H : Heap} (h : F_s_TakeLsa R a0 H) : ACalls P n_s_TakeLsa [a0] H R :=
  acalls_of_form (g := ⟨[2, 4, 5], [38, 55, 81, 106, 120]⟩) (x := (.seq .leaf (.seq .leaf (.seq (.seq .leaf (.cond (.seq .leaf .leaf) .leaf)) (.seq (.draw [0, 1, 2, 3, 4, 5, 8, 6, 7, 9]) (.seq .leaf (.seq (.seq .leaf (.block (.loop [2, 4, 5, 6, 7] (.seq (.seq .leaf (.cond .leaf .leaf)) (.seq (.block (.seq (.seq .leaf (.cond (.seq .leaf .leaf) .leaf)) (.seq (.draw [0, 1, 2, 3, 4, 5, 6, 7, 8, 9, 10, 11, 12, 13, 14, 15, 16, 17, 18]) .leaf))) .leaf))))) (.seq (.seq .leaf (.cond (.seq .leaf .leaf) .leaf)) (.seq .leaf (.seq .leaf (.seq (.seq .leaf (.block (.loop [2, 4, 5, 6, 9] (.seq (.seq .leaf (.cond .leaf .leaf)) (.seq (.block (.seq (.seq .leaf (.cond (.seq .leaf .leaf) .leaf)) (.seq (.draw [0, 1, 2, 3, 4, 5, 6, 8, 9, 10, 11, 12, 13, 15, 16, 17, 18, 19, 20, 7, 14, 21, 22, 23, 24, 25, 26]) .leaf))) .leaf))))) (.seq (.seq .leaf (.cond (.seq .leaf .leaf) .leaf)) (.seq .leaf (.seq (.seq .leaf (.cond (.seq .leaf .leaf) .leaf)) (.seq .leaf .leaf))))))))))))))) Try.func7 (by kernel_rfl) (by kernel_rfl) (by kernel_rfl) (by kernel_rfl : F_s_TakeLsa R a0 H = _) h
def F_l_toByteS (R : V → Heap → Prop) (a0 : V) (H : Heap) : Prop :=
  bnd (lenOf a0) fun n1 =>
  bnd (natOf (.int .i64 (n1 : Nat))) fun n2 =>
  bnd (natOf (.int .i64 (n1 : Nat))) fun n3 =>
  (n2 ≤ n3 ∧ n3 ≤ 140737488355328 ∧ 1 * n3 ≤ 281474976710656 ∧ 1 = 1 ∧ 0 < 1) ∧
  ∀ o4, H o4 = none →
  ∃ (I5 : Nat → List V → Heap → Prop) (n6 : Nat), Shr (I5 n6 [(.int .i64 0)]) (upd H o4 ⟨1, List.replicate n3 [(.int .u8 0)]⟩) ∧
  ∀ n7 xs9 H10, I5 n7 xs9 H10 →
  bnd (lenOf a0) fun n11 =>
  bnd (aBinN .lss (xs9.headD .any) (.int .i64 (n11 : Nat))) fun t12 =>
  cnd t12
  (bnd (aIndex H10 1 a0 (xs9.headD .any)) fun t13 =>
  bnd (aLd false 1 H10 t13) fun t14 =>
  bnd (aIndex H10 1 (.slice o4 0 n2 (some n3)) (xs9.headD .any)) fun t15 =>
  bnd (aSt 1 H10 t15 t14) fun H16 =>
  bnd (aBinN .add (xs9.headD .any) (.int .i64 1)) fun t17 =>
  ∃ n8, n8 < n7 ∧ Shr (I5 n8 [t17]) H16)
  (Ret R (.slice o4 0 n2 (some n3)) H10)
theorem W_l_toByteS {R : V → Heap → Prop} {a0 : V} {H : Heap} (h : F_l_toByteS R a0 H) : ACalls P n_l_toByteS [a0] H R :=
  acalls_of_form (g := ⟨[], []⟩) (x := (.seq .leaf (.seq .leaf (.seq (.seq .leaf (.block (.loop [4] (.seq (.seq .leaf (.cond .leaf .leaf)) (.seq (.block .leaf) .leaf))))) (.seq .leaf .leaf))))) Try.func8 (by kernel_rfl) (by kernel_rfl) (by kernel_rfl) (by kernel_rfl : F_l_toByteS R a0 H = _) h
def F_i_TakeLsa (R : V → Heap → Prop) (a0 : V) (H : Heap) : Prop :=
  bnd (fillZ [.nils, (.bool false)] [(0, 1, a0)]) fun c1 =>
  boxK (.agg c1) (∀ o2, H o2 = none →
  ACalls P n_p_i_taker_take [(.ptr o2 0 0), (.int .i64 1)] (upd H o2 ⟨(c1).length, [c1]⟩) fun v3 H4 =>
  ACalls P n_p_i_taker_take [(.ptr o2 0 0), (.int .i64 3)] H4 fun v5 H6 =>
  bnd (fillZ [(.int .i64 0), (.int .i64 0), (.int .i64 0), .nils, .nils] [(0, 1, v3), (1, 1, v5)]) fun c7 =>
  bnd (stz 5 [(.int .i64 0), (.int .i64 0), (.int .i64 0), .nils, .nils] 0 (.agg c7)) fun c8 =>
  ACalls P n_p_i_taker_take [(.ptr o2 0 0), (.int .i64 1)] H6 fun v9 H10 =>
  ∃ (I11 : Nat → List V → Heap → Prop) (n12 : Nat), Shr (I11 n12 [(.box [(.int .i64 0), (.int .i64 0), (.int .i64 0), .nils, .nils]), (.box c8), v9]) H10 ∧
  ∀ n13 xs15 H16, I11 n13 xs15 H16 →
  bnd (aBinN .gtr (xs15.tail.tail.headD .any) (.int .i64 0)) fun t17 =>
  gd t17 true
  (bnd (aNil (.ptr o2 0 0)) fun t18 =>
  bnd (aField 1 t18) fun t19 =>
  bnd (aLd false 1 H16 t19) fun t20 =>
  bnd (aNot t20) fun t21 =>
  cnd t21
  (bnd (partOf false 1 (bc (xs15.tail.headD .any)) 3) fun t22 =>
  ACalls P n_p_i_taker_take [(.ptr o2 0 0), (.int .i64 1)] H16 fun v23 H24 =>
  ACalls P n_p_i_taker_take [(.ptr o2 0 0), (.int .i64 2)] H24 fun v25 H26 =>
  bnd (fillZ [(.int .i64 0), (.int .i64 0)] [(0, 1, v23), (1, 1, v25)]) fun c27 =>
  bnd (bsl 2 1 [(.int .i64 0), (.int .i64 0)] [(0, (.agg c27))]) fun r28 =>
  ∀ o29, H26 o29 = none →
  bnd (rowsOf (upd H26 o29 ⟨2, r28⟩) 2 (.slice o29 0 1 (some 1))) fun r32 =>
  appendK (upd H26 o29 ⟨2, r28⟩) 2 16 t22 r32 fun v30 H31 =>
  bnd (stz 1 (bc (xs15.tail.headD .any)) 3 v30) fun c33 =>
  bnd (aBinN .sub (xs15.tail.tail.headD .any) (.int .i64 1)) fun t34 =>
  ∃ n14, n14 < n13 ∧ Shr (I11 n14 [(.box (bc (xs15.headD .any))), (.box c33), t34]) H31)
  (ACalls P n_p_i_taker_take [(.ptr o2 0 0), (.int .i64 1)] H16 fun v35 H36 =>
  ∃ (I37 : Nat → List V → Heap → Prop) (n38 : Nat), Shr (I37 n38 [(.box (bc (xs15.headD .any))), (.box (bc (xs15.tail.headD .any))), v35]) H36 ∧
  ∀ n39 xs41 H42, I37 n39 xs41 H42 →
  bnd (aBinN .gtr (xs41.tail.tail.headD .any) (.int .i64 0)) fun t43 =>
  gd t43 true
  (bnd (aNil (.ptr o2 0 0)) fun t44 =>
  bnd (aField 1 t44) fun t45 =>
  bnd (aLd false 1 H42 t45) fun t46 =>
  bnd (aNot t46) fun t47 =>
  cnd t47
  (ACalls P n_p_i_taker_take [(.ptr o2 0 0), (.int .i64 2)] H42 fun v48 H49 =>
  ACalls P n_p_i_taker_take [(.ptr o2 0 0), (.int .i64 1)] H49 fun v50 H51 =>
  bnd (partOf false 1 (bc (xs41.tail.headD .any)) 4) fun t52 =>
  bnd (fillZ [(.int .i64 0), (.int .i64 0)] [(0, 1, v48), (1, 1, v50)]) fun c53 =>
  ACalls P n_p_i_taker_take [(.ptr o2 0 0), (.int .i64 2)] H51 fun v54 H55 =>
  bnd (fillZ [(.int .i64 0), (.int .i64 0), (.int .i64 0)] [(0, 2, (.agg c53)), (2, 1, v54)]) fun c56 =>
  bnd (bsl 3 1 [(.int .i64 0), (.int .i64 0), (.int .i64 0)] [(0, (.agg c56))]) fun r57 =>
  ∀ o58, H55 o58 = none →
  bnd (rowsOf (upd H55 o58 ⟨3, r57⟩) 3 (.slice o58 0 1 (some 1))) fun r61 =>
  appendK (upd H55 o58 ⟨3, r57⟩) 3 24 t52 r61 fun v59 H60 =>
  bnd (stz 1 (bc (xs41.tail.headD .any)) 4 v59) fun c62 =>
  bnd (aBinN .sub (xs41.tail.tail.headD .any) (.int .i64 1)) fun t63 =>
  ∃ n40, n40 < n39 ∧ Shr (I37 n40 [(.box (bc (xs41.headD .any))), (.box c62), t63]) H60)
  (ACalls P n_p_i_taker_take [(.ptr o2 0 0), (.int .i64 1)] H42 fun v64 H65 =>
  bnd (stz 1 (bc (xs41.tail.headD .any)) 2 v64) fun c66 =>
  ∃ J67 : List V → Heap → Prop,
  (bnd (aNil (.ptr o2 0 0)) fun t70 =>
  bnd (aField 1 t70) fun t71 =>
  bnd (aLd false 1 H65 t71) fun t72 =>
  gd t72 false
  (bnd (partOf true 5 c66 0) fun t73 =>
  ACalls P n_i_PutLsa [t73] H65 fun v74 H75 =>
  ACalls P n_slices_Equal_byte_byte [v74, a0] H75 fun v76 H77 =>
  bnd (aNot v76) fun t78 =>
  gd t78 false
  (bnd (partOf true 5 c66 0) fun t79 =>
  ACalls P n_i_LsaOk [t79] H77 fun v80 H81 =>
  bnd (aNot v80) fun t82 =>
  Shr (J67 [t82]) H81)
  (Shr (J67 [(.bool true)]) H77))
  (Shr (J67 [(.bool true)]) H65)) ∧
  ∀ xs68 H69, J67 xs68 H69 →
  cnd (xs68.headD .any)
  (bnd (fillZ [(.int .i64 0), (.int .i64 0), (.int .i64 0), .nils, .nils] []) fun c83 =>
  bnd (stz 5 (bc (xs41.headD .any)) 0 (.agg c83)) fun c84 =>
  bnd (partOf true 5 c84 0) fun t85 =>
  Ret R (.tup [t85, (.bool false)]) H69)
  (bnd (partOf true 5 c66 0) fun t86 =>
  bnd (stz 5 (bc (xs41.headD .any)) 0 t86) fun c87 =>
  bnd (partOf true 5 c87 0) fun t88 =>
  Ret R (.tup [t88, (.bool true)]) H69)))
  (ACalls P n_p_i_taker_take [(.ptr o2 0 0), (.int .i64 1)] H42 fun v89 H90 =>
  bnd (stz 1 (bc (xs41.tail.headD .any)) 2 v89) fun c91 =>
  ∃ J92 : List V → Heap → Prop,
  (bnd (aNil (.ptr o2 0 0)) fun t95 =>
  bnd (aField 1 t95) fun t96 =>
  bnd (aLd false 1 H90 t96) fun t97 =>
  gd t97 false
  (bnd (partOf true 5 c91 0) fun t98 =>
  ACalls P n_i_PutLsa [t98] H90 fun v99 H100 =>
  ACalls P n_slices_Equal_byte_byte [v99, a0] H100 fun v101 H102 =>
  bnd (aNot v101) fun t103 =>
  gd t103 false
  (bnd (partOf true 5 c91 0) fun t104 =>
  ACalls P n_i_LsaOk [t104] H102 fun v105 H106 =>
  bnd (aNot v105) fun t107 =>
  Shr (J92 [t107]) H106)
  (Shr (J92 [(.bool true)]) H102))
  (Shr (J92 [(.bool true)]) H90)) ∧
  ∀ xs93 H94, J92 xs93 H94 →
  cnd (xs93.headD .any)
  (bnd (fillZ [(.int .i64 0), (.int .i64 0), (.int .i64 0), .nils, .nils] []) fun c108 =>
  bnd (stz 5 (bc (xs41.headD .any)) 0 (.agg c108)) fun c109 =>
  bnd (partOf true 5 c109 0) fun t110 =>
  Ret R (.tup [t110, (.bool false)]) H94)
  (bnd (partOf true 5 c91 0) fun t111 =>
  bnd (stz 5 (bc (xs41.headD .any)) 0 t111) fun c112 =>
  bnd (partOf true 5 c112 0) fun t113 =>
  Ret R (.tup [t113, (.bool true)]) H94))))
  (ACalls P n_p_i_taker_take [(.ptr o2 0 0), (.int .i64 1)] H16 fun v114 H115 =>
  ∃ (I116 : Nat → List V → Heap → Prop) (n117 : Nat), Shr (I116 n117 [(.box (bc (xs15.headD .any))), (.box (bc (xs15.tail.headD .any))), v114]) H115 ∧
  ∀ n118 xs120 H121, I116 n118 xs120 H121 →
  bnd (aBinN .gtr (xs120.tail.tail.headD .any) (.int .i64 0)) fun t122 =>
  gd t122 true
  (bnd (aNil (.ptr o2 0 0)) fun t123 =>
  bnd (aField 1 t123) fun t124 =>
  bnd (aLd false 1 H121 t124) fun t125 =>
  bnd (aNot t125) fun t126 =>
  cnd t126
  (ACalls P n_p_i_taker_take [(.ptr o2 0 0), (.int .i64 2)] H121 fun v127 H128 =>
  ACalls P n_p_i_taker_take [(.ptr o2 0 0), (.int .i64 1)] H128 fun v129 H130 =>
  bnd (partOf false 1 (bc (xs120.tail.headD .any)) 4) fun t131 =>
  bnd (fillZ [(.int .i64 0), (.int .i64 0)] [(0, 1, v127), (1, 1, v129)]) fun c132 =>
  ACalls P n_p_i_taker_take [(.ptr o2 0 0), (.int .i64 2)] H130 fun v133 H134 =>
  bnd (fillZ [(.int .i64 0), (.int .i64 0), (.int .i64 0)] [(0, 2, (.agg c132)), (2, 1, v133)]) fun c135 =>
  bnd (bsl 3 1 [(.int .i64 0), (.int .i64 0), (.int .i64 0)] [(0, (.agg c135))]) fun r136 =>
  ∀ o137, H134 o137 = none →
  bnd (rowsOf (upd H134 o137 ⟨3, r136⟩) 3 (.slice o137 0 1 (some 1))) fun r140 =>
  appendK (upd H134 o137 ⟨3, r136⟩) 3 24 t131 r140 fun v138 H139 =>
  bnd (stz 1 (bc (xs120.tail.headD .any)) 4 v138) fun c141 =>
  bnd (aBinN .sub (xs120.tail.tail.headD .any) (.int .i64 1)) fun t142 =>
  ∃ n119, n119 < n118 ∧ Shr (I116 n119 [(.box (bc (xs120.headD .any))), (.box c141), t142]) H139)
  (ACalls P n_p_i_taker_take [(.ptr o2 0 0), (.int .i64 1)] H121 fun v143 H144 =>
  bnd (stz 1 (bc (xs120.tail.headD .any)) 2 v143) fun c145 =>
  ∃ J146 : List V → Heap → Prop,
  (bnd (aNil (.ptr o2 0 0)) fun t149 =>
  bnd (aField 1 t149) fun t150 =>
  bnd (aLd false 1 H144 t150) fun t151 =>
  gd t151 false
  (bnd (partOf true 5 c145 0) fun t152 =>
  ACalls P n_i_PutLsa [t152] H144 fun v153 H154 =>
  ACalls P n_slices_Equal_byte_byte [v153, a0] H154 fun v155 H156 =>
  bnd (aNot v155) fun t157 =>
  gd t157 false
  (bnd (partOf true 5 c145 0) fun t158 =>
  ACalls P n_i_LsaOk [t158] H156 fun v159 H160 =>
  bnd (aNot v159) fun t161 =>
  Shr (J146 [t161]) H160)
  (Shr (J146 [(.bool true)]) H156))
  (Shr (J146 [(.bool true)]) H144)) ∧
  ∀ xs147 H148, J146 xs147 H148 →
  cnd (xs147.headD .any)
  (bnd (fillZ [(.int .i64 0), (.int .i64 0), (.int .i64 0), .nils, .nils] []) fun c162 =>
  bnd (stz 5 (bc (xs120.headD .any)) 0 (.agg c162)) fun c163 =>
  bnd (partOf true 5 c163 0) fun t164 =>
  Ret R (.tup [t164, (.bool false)]) H148)
  (bnd (partOf true 5 c145 0) fun t165 =>
  bnd (stz 5 (bc (xs120.headD .any)) 0 t165) fun c166 =>
  bnd (partOf true 5 c166 0) fun t167 =>
  Ret R (.tup [t167, (.bool true)]) H148)))
  (ACalls P n_p_i_taker_take [(.ptr o2 0 0), (.int .i64 1)] H121 fun v168 H169 =>
  bnd (stz 1 (bc (xs120.tail.headD .any)) 2 v168) fun c170 =>
  ∃ J171 : List V → Heap → Prop,
  (bnd (aNil (.ptr o2 0 0)) fun t174 =>
  bnd (aField 1 t174) fun t175 =>
  bnd (aLd false 1 H169 t175) fun t176 =>
  gd t176 false
  (bnd (partOf true 5 c170 0) fun t177 =>
  ACalls P n_i_PutLsa [t177] H169 fun v178 H179 =>
  ACalls P n_slices_Equal_byte_byte [v178, a0] H179 fun v180 H181 =>
  bnd (aNot v180) fun t182 =>
  gd t182 false
  (bnd (partOf true 5 c170 0) fun t183 =>
  ACalls P n_i_LsaOk [t183] H181 fun v184 H185 =>
  bnd (aNot v184) fun t186 =>
  Shr (J171 [t186]) H185)
  (Shr (J171 [(.bool true)]) H181))
  (Shr (J171 [(.bool true)]) H169)) ∧
  ∀ xs172 H173, J171 xs172 H173 →
  cnd (xs172.headD .any)
  (bnd (fillZ [(.int .i64 0), (.int .i64 0), (.int .i64 0), .nils, .nils] []) fun c187 =>
  bnd (stz 5 (bc (xs120.headD .any)) 0 (.agg c187)) fun c188 =>
  bnd (partOf true 5 c188 0) fun t189 =>
  Ret R (.tup [t189, (.bool false)]) H173)
  (bnd (partOf true 5 c170 0) fun t190 =>
  bnd (stz 5 (bc (xs120.headD .any)) 0 t190) fun c191 =>
  bnd (partOf true 5 c191 0) fun t192 =>
  Ret R (.tup [t192, (.bool true)]) H173))))
theorem W_i_TakeLsa {R : V → Heap → Prop} {a0 : V} {H : Heap} (h : F_i_TakeLsa R a0 H) : ACalls P n_i_TakeLsa [a0] H R :=
  acalls_of_form (g := ⟨[2, 5], [31, 40, 58, 68, 71]⟩) (x := (.seq .leaf (.seq .leaf (.seq .leaf (.seq (.seq .leaf (.block (.loop [2, 5, 6] (.seq (.seq .leaf (.cond .leaf .leaf)) (.seq (.block (.drawh [0, 1, 2, 4, 3, 5, 6, 7, 8, 9, 10])) .leaf))))) (.seq (.seq .leaf (.block (.loop [2, 5, 7] (.seq (.seq .leaf (.cond .leaf .leaf)) (.seq (.block (.seq .leaf (.drawh [0, 1, 2, 3, 4, 5, 6, 7, 8, 9, 10, 11]))) .leaf))))) (.seq .leaf (.seq (.seqc .leaf (.cond (.seq .leaf .leaf) .leaf) [87]) (.seq .leaf .leaf))))))))) Try.func9 (by kernel_rfl) (by kernel_rfl) (by kernel_rfl) (by kernel_rfl : F_i_TakeLsa R a0 H = _) h
def F_l_eqLsa (R : V → Heap → Prop) (a0 a1 : V) (H : Heap) : Prop :=
  boxK a0 (boxK a1 (bnd (partOf false 1 (cellsOf a0) 0) fun t1 =>
  bnd (partOf false 1 (cellsOf a1) 0) fun t2 =>
  bnd (aBinN .neq t1 t2) fun t3 =>
  cnd t3
  (Ret R (.bool false) H)
  (bnd (partOf false 1 (cellsOf a0) 1) fun t4 =>
  bnd (partOf false 1 (cellsOf a1) 1) fun t5 =>
  bnd (aBinN .neq t4 t5) fun t6 =>
  cnd t6
  (Ret R (.bool false) H)
  (bnd (partOf false 1 (cellsOf a0) 2) fun t7 =>
  bnd (partOf false 1 (cellsOf a1) 2) fun t8 =>
  bnd (aBinN .neq t7 t8) fun t9 =>
  cnd t9
  (Ret R (.bool false) H)
  (bnd (partOf false 1 (cellsOf a0) 3) fun t10 =>
  bnd (partOf false 1 (cellsOf a1) 3) fun t11 =>
  ACalls P n_l_eqLinkS [t10, t11] H fun v12 H13 =>
  bnd (aNot v12) fun t14 =>
  cnd t14
  (Ret R (.bool false) H13)
  (bnd (partOf false 1 (cellsOf a0) 4) fun t15 =>
  bnd (partOf false 1 (cellsOf a1) 4) fun t16 =>
  ACalls P n_l_eqStubS [t15, t16] H13 fun v17 H18 =>
  bnd (aNot v17) fun t19 =>
  cnd t19
  (Ret R (.bool false) H18)
  (Ret R (.bool true) H18)))))))
theorem W_l_eqLsa {R : V → Heap → Prop} {a0 a1 : V} {H : Heap} (h : F_l_eqLsa R a0 a1 H) : ACalls P n_l_eqLsa [a0, a1] H R :=
  acalls_of_form (g := ⟨[2, 3], [5, 7, 10, 12, 15, 17, 20, 22, 26, 28]⟩) (x := (.seq .leaf (.seq (.seq .leaf (.cond (.seq .leaf .leaf) .leaf)) (.seq (.seq .leaf (.cond (.seq .leaf .leaf) .leaf)) (.seq (.seq .leaf (.cond (.seq .leaf .leaf) .leaf)) (.seq (.seq .leaf (.cond (.seq .leaf .leaf) .leaf)) (.seq (.seq .leaf (.cond (.seq .leaf .leaf) .leaf)) (.seq .leaf .leaf)))))))) Try.func10 (by kernel_rfl) (by kernel_rfl) (by kernel_rfl) (by kernel_rfl : F_l_eqLsa R a0 a1 H = _) h
def F_l_eqByteS (R : V → Heap → Prop) (a0 a1 : V) (H : Heap) : Prop :=
  bnd (lenOf a0) fun n1 =>
  bnd (lenOf a1) fun n2 =>
  bnd (aBinN .neq (.int .i64 (n1 : Nat)) (.int .i64 (n2 : Nat))) fun t3 =>
  cnd t3
  (Ret R (.bool false) H)
  (∃ (I4 : Nat → List V → Heap → Prop) (n5 : Nat), Shr (I4 n5 [(.int .i64 0)]) H ∧
  ∀ n6 xs8 H9, I4 n6 xs8 H9 →
  bnd (lenOf a0) fun n10 =>
  bnd (aBinN .lss (xs8.headD .any) (.int .i64 (n10 : Nat))) fun t11 =>
  cnd t11
  (∃ S12, Abs.sub S12 H9 ∧
  bnd (aIndex S12 1 a0 (xs8.headD .any)) fun t13 =>
  bnd (aLd false 1 S12 t13) fun t14 =>
  bnd (aIndex S12 1 a1 (xs8.headD .any)) fun t15 =>
  bnd (aLd false 1 S12 t15) fun t16 =>
  bnd (aBinN .neq t14 t16) fun t17 =>
  cnd t17
  (Ret R (.bool false) H9)
  (bnd (aBinN .add (xs8.headD .any) (.int .i64 1)) fun t18 =>
  ∃ n7, n7 < n6 ∧ Shr (I4 n7 [t18]) H9))
  (Ret R (.bool true) H9))
theorem W_l_eqByteS {R : V → Heap → Prop} {a0 a1 : V} {H : Heap} (h : F_l_eqByteS R a0 a1 H) : ACalls P n_l_eqByteS [a0, a1] H R :=
  acalls_of_form (g := ⟨[], []⟩) (x := (.seq .leaf (.seq (.seq .leaf (.cond (.seq .leaf .leaf) .leaf)) (.seq (.seq .leaf (.block (.loop [5] (.seq (.seq .leaf (.cond .leaf .leaf)) (.seq (.block (.seq (.draw [0, 1, 2, 3, 4, 5, 6, 7, 8]) (.cond (.seq .leaf .leaf) .leaf))) .leaf))))) (.seq .leaf .leaf))))) Try.func11 (by kernel_rfl) (by kernel_rfl) (by kernel_rfl) (by kernel_rfl : F_l_eqByteS R a0 a1 H = _) h
def F_l_markByteS (R : V → Heap → Prop) (a0 a1 : V) (H : Heap) : Prop :=
  ∃ (I1 : Nat → List V → Heap → Prop) (n2 : Nat), Shr (I1 n2 [a1, (.int .i64 0)]) H ∧
  ∀ n3 xs5 H6, I1 n3 xs5 H6 →
  bnd (lenOf a0) fun n7 =>
  bnd (aBinN .lss (xs5.tail.headD .any) (.int .i64 (n7 : Nat))) fun t8 =>
  cnd t8
  (bnd (aCv .u8 (xs5.headD .any)) fun t9 =>
  bnd (aIndex H6 1 a0 (xs5.tail.headD .any)) fun t10 =>
  bnd (aSt 1 H6 t10 t9) fun H11 =>
  bnd (aBinN .add (xs5.headD .any) (.int .i64 1)) fun t12 =>
  bnd (aBinN .add (xs5.tail.headD .any) (.int .i64 1)) fun t13 =>
  ∃ n4, n4 < n3 ∧ Shr (I1 n4 [t12, t13]) H11)
  (Ret R (xs5.headD .any) H6)
theorem W_l_markByteS {R : V → Heap → Prop} {a0 a1 : V} {H : Heap} (h : F_l_markByteS R a0 a1 H) : ACalls P n_l_markByteS [a0, a1] H R :=
  acalls_of_form (g := ⟨[], []⟩) (x := (.seq .leaf (.seq (.seq .leaf (.block (.loop [1, 5] (.seq (.seq .leaf (.cond .leaf .leaf)) (.seq (.block (.seq .leaf .leaf)) .leaf))))) (.seq .leaf .leaf)))) Try.func12 (by kernel_rfl) (by kernel_rfl) (by kernel_rfl) (by kernel_rfl : F_l_markByteS R a0 a1 H = _) h
def F_l_markLsa (R : V → Heap → Prop) (a0 a1 : V) (H : Heap) : Prop :=
  boxK a0 (bnd (partOf false 1 (cellsOf a0) 3) fun t1 =>
  ACalls P n_l_markLinkS [t1, a1] H fun v2 H3 =>
  bnd (partOf false 1 (cellsOf a0) 4) fun t4 =>
  ACalls P n_l_markStubS [t4, v2] H3 fun v5 H6 =>
  Ret R v5 H6)
theorem W_l_markLsa {R : V → Heap → Prop} {a0 a1 : V} {H : Heap} (h : F_l_markLsa R a0 a1 H) : ACalls P n_l_markLsa [a0, a1] H R :=
  acalls_of_form (g := ⟨[2], [5, 9]⟩) (x := (.seq .leaf (.seq .leaf (.seq .leaf (.seq .leaf .leaf))))) Try.func13 (by kernel_rfl) (by kernel_rfl) (by kernel_rfl) (by kernel_rfl : F_l_markLsa R a0 a1 H = _) h
def F_l_heldLsa (R : V → Heap → Prop) (a0 a1 : V) (H : Heap) : Prop :=
  boxK a0 (bnd (partOf false 1 (cellsOf a0) 3) fun t1 =>
  ACalls P n_l_heldLinkS [t1, a1] H fun v2 H3 =>
  bnd (aBinN .lss v2 (.int .i64 0)) fun t4 =>
  cnd t4
  (Ret R (.int .i64 (-1)) H3)
  (bnd (partOf false 1 (cellsOf a0) 4) fun t5 =>
  ACalls P n_l_heldStubS [t5, v2] H3 fun v6 H7 =>
  bnd (aBinN .lss v6 (.int .i64 0)) fun t8 =>
  cnd t8
  (Ret R (.int .i64 (-1)) H7)
  (Ret R v6 H7)))
theorem W_l_heldLsa {R : V → Heap → Prop} {a0 a1 : V} {H : Heap} (h : F_l_heldLsa R a0 a1 H) : ACalls P n_l_heldLsa [a0, a1] H R :=
  acalls_of_form (g := ⟨[2], [5, 11]⟩) (x := (.seq .leaf (.seq .leaf (.seq (.seq .leaf (.cond (.seq .leaf .leaf) .leaf)) (.seq .leaf (.seq (.seq .leaf (.cond (.seq .leaf .leaf) .leaf)) (.seq .leaf .leaf))))))) Try.func14 (by kernel_rfl) (by kernel_rfl) (by kernel_rfl) (by kernel_rfl : F_l_heldLsa R a0 a1 H = _) h
def F_s_l01In (R : V → Heap → Prop) (a0 a1 a2 : V) (H : Heap) : Prop :=
  bnd (aBinN .leq a1 a0) fun t1 =>
  gd t1 true
  (bnd (aBinN .leq a0 a2) fun t2 =>
  Ret R t2 H)
  (Ret R (.bool false) H)
theorem W_s_l01In {R : V → Heap → Prop} {a0 a1 a2 : V} {H : Heap} (h : F_s_l01In R a0 a1 a2 H) : ACalls P n_s_l01In [a0, a1, a2] H R :=
  acalls_of_form (g := ⟨[], []⟩) (x := (.seq .leaf (.seq .leaf .leaf))) Try.func32 (by kernel_rfl) (by kernel_rfl) (by kernel_rfl) (by kernel_rfl : F_s_l01In R a0 a1 a2 H = _) h
def F_s_l05Read (R : V → Heap → Prop) (a0 : V) (H : Heap) : Prop :=
  ∃ (I1 : Nat → List V → Heap → Prop) (n2 : Nat), Shr (I1 n2 [(.int .i64 0), (.int .i64 0)]) H ∧
  ∀ n3 xs5 H6, I1 n3 xs5 H6 →
  bnd (lenOf a0) fun n7 =>
  bnd (aBinN .lss (xs5.tail.headD .any) (.int .i64 (n7 : Nat))) fun t8 =>
  cnd t8
  (bnd (aBinN .mul (.int .i64 256) (xs5.headD .any)) fun t9 =>
  bnd (aIndex H6 1 a0 (xs5.tail.headD .any)) fun t10 =>
  bnd (aLd false 1 H6 t10) fun t11 =>
  bnd (aCv .i64 t11) fun t12 =>
  bnd (aBinN .add t9 t12) fun t13 =>
  bnd (aBinN .add (xs5.tail.headD .any) (.int .i64 1)) fun t14 =>
  ∃ n4, n4 < n3 ∧ Shr (I1 n4 [t13, t14]) H6)
  (Ret R (xs5.headD .any) H6)
theorem W_s_l05Read {R : V → Heap → Prop} {a0 : V} {H : Heap} (h : F_s_l05Read R a0 H) : ACalls P n_s_l05Read [a0] H R :=
  acalls_of_form (g := ⟨[], []⟩) (x := (.seq .leaf (.seq .leaf (.seq (.seq .leaf (.block (.loop [3, 4] (.seq (.seq .leaf (.cond .leaf .leaf)) (.seq (.block .leaf) .leaf))))) (.seq .leaf .leaf))))) Try.func33 (by kernel_rfl) (by kernel_rfl) (by kernel_rfl) (by kernel_rfl : F_s_l05Read R a0 H = _) h
def F_s_LsaOk (R : V → Heap → Prop) (a0 : V) (H : Heap) : Prop :=
  boxK a0 (bnd (partOf false 1 (cellsOf a0) 0) fun t1 =>
  ACalls P n_s_l01In [t1, (.int .i64 0), (.int .i64 9)] H fun v2 H3 =>
  bnd (aNot v2) fun t4 =>
  gd t4 false
  (bnd (partOf false 1 (cellsOf a0) 1) fun t5 =>
  ACalls P n_s_l01In [t5, (.int .i64 1), (.int .i64 1000000)] H3 fun v6 H7 =>
  bnd (aNot v6) fun t8 =>
  gd t8 false
  (bnd (partOf false 1 (cellsOf a0) 2) fun t9 =>
  ACalls P n_s_l01In [t9, (.int .i64 0), (.int .i64 60)] H7 fun v10 H11 =>
  bnd (aNot v10) fun t12 =>
  gd t12 false
  (bnd (partOf false 1 (cellsOf a0) 3) fun t13 =>
  bnd (lenOf t13) fun n14 =>
  bnd (aBinN .gtr (.int .i64 (n14 : Nat)) (.int .i64 10)) fun t15 =>
  gd t15 false
  (bnd (partOf false 1 (cellsOf a0) 4) fun t16 =>
  bnd (lenOf t16) fun n17 =>
  bnd (aBinN .gtr (.int .i64 (n17 : Nat)) (.int .i64 6)) fun t18 =>
  cnd t18
  (Ret R (.bool false) H11)
  (∃ (I19 : Nat → List V → Heap → Prop) (n20 : Nat), Shr (I19 n20 [(.box (cellsOf a0)), (.int .i64 0)]) H11 ∧
  ∀ n21 xs23 H24, I19 n21 xs23 H24 →
  bnd (partOf false 1 (bc (xs23.headD .any)) 3) fun t25 =>
  bnd (lenOf t25) fun n26 =>
  bnd (aBinN .lss (xs23.tail.headD .any) (.int .i64 (n26 : Nat))) fun t27 =>
  cnd t27
  (bnd (partOf false 1 (bc (xs23.headD .any)) 3) fun t28 =>
  bnd (aIndex H24 2 t28 (xs23.tail.headD .any)) fun t29 =>
  bnd (aLd true 2 H24 t29) fun t30 =>
  bnd (stz 2 [(.int .i64 0), (.int .i64 0)] 0 t30) fun c31 =>
  ∃ S32, Abs.sub S32 H24 ∧
  bnd (partOf false 1 c31 0) fun t33 =>
  ACalls P n_s_l01In [t33, (.int .i64 0), (.int .i64 9)] H24 fun v34 H35 =>
  Abs.sub S32 H35 ∧
  bnd (aNot v34) fun t36 =>
  gd t36 false
  (bnd (partOf false 1 c31 0) fun t37 =>
  bnd (partOf false 1 (bc (xs23.headD .any)) 0) fun t38 =>
  bnd (aBinN .eql t37 t38) fun t39 =>
  gd t39 false
  (bnd (partOf false 1 c31 1) fun t40 =>
  ACalls P n_s_l01In [t40, (.int .i64 1), (.int .i64 1000)] H35 fun v41 H42 =>
  Abs.sub S32 H42 ∧
  bnd (aNot v41) fun t43 =>
  gd t43 false
  (bnd (aBinN .gtr (xs23.tail.headD .any) (.int .i64 0)) fun t44 =>
  gd3 t44 true
  (bnd (partOf false 1 (bc (xs23.headD .any)) 3) fun t45 =>
  bnd (aBinN .sub (xs23.tail.headD .any) (.int .i64 1)) fun t46 =>
  bnd (aIndex S32 2 t45 t46) fun t47 =>
  bnd (aField 0 t47) fun t48 =>
  bnd (aLd false 1 S32 t48) fun t49 =>
  bnd (partOf false 1 c31 0) fun t50 =>
  bnd (aBinN .geq t49 t50) fun t51 =>
  cnd t51
  (Ret R (.bool false) H42)
  (bnd (aBinN .add (xs23.tail.headD .any) (.int .i64 1)) fun t52 =>
  ∃ n22, n22 < n21 ∧ Shr (I19 n22 [(.box (bc (xs23.headD .any))), t52]) H42))
  (bnd (aBinN .add (xs23.tail.headD .any) (.int .i64 1)) fun t53 =>
  ∃ n22, n22 < n21 ∧ Shr (I19 n22 [(.box (bc (xs23.headD .any))), t53]) H42)
  (bnd (aPick (.tup []) (.tup []) (.bool false)) fun t54 =>
  cnd t54
  (Ret R (.bool false) H42)
  (bnd (aBinN .add (xs23.tail.headD .any) (.int .i64 1)) fun t55 =>
  ∃ n22, n22 < n21 ∧ Shr (I19 n22 [(.box (bc (xs23.headD .any))), t55]) H42)))
  (Ret R (.bool false) H42))
  (Ret R (.bool false) H35))
  (Ret R (.bool false) H35))
  (∃ (I56 : Nat → List V → Heap → Prop) (n57 : Nat), Shr (I56 n57 [(.box (bc (xs23.headD .any))), (.int .i64 0)]) H24 ∧
  ∀ n58 xs60 H61, I56 n58 xs60 H61 →
  bnd (partOf false 1 (bc (xs60.headD .any)) 4) fun t62 =>
  bnd (lenOf t62) fun n63 =>
  bnd (aBinN .lss (xs60.tail.headD .any) (.int .i64 (n63 : Nat))) fun t64 =>
  cnd t64
  (bnd (partOf false 1 (bc (xs60.headD .any)) 4) fun t65 =>
  bnd (aIndex H61 3 t65 (xs60.tail.headD .any)) fun t66 =>
  bnd (aLd true 3 H61 t66) fun t67 =>
  bnd (stz 3 [(.int .i64 0), (.int .i64 0), (.int .i64 0)] 0 t67) fun c68 =>
  ∃ S69, Abs.sub S69 H61 ∧
  bnd (partOf true 2 c68 0) fun t70 =>
  ACalls P n_s_PrefixOk [t70] H61 fun v71 H72 =>
  Abs.sub S69 H72 ∧
  bnd (aNot v71) fun t73 =>
  gd t73 false
  (bnd (partOf false 1 c68 2) fun t74 =>
  ACalls P n_s_l01In [t74, (.int .i64 1), (.int .i64 1000)] H72 fun v75 H76 =>
  Abs.sub S69 H76 ∧
  bnd (aNot v75) fun t77 =>
  gd t77 false
  (bnd (aBinN .gtr (xs60.tail.headD .any) (.int .i64 0)) fun t78 =>
  gd3 t78 true
  (bnd (partOf false 1 (bc (xs60.headD .any)) 4) fun t79 =>
  bnd (aBinN .sub (xs60.tail.headD .any) (.int .i64 1)) fun t80 =>
  bnd (aIndex S69 3 t79 t80) fun t81 =>
  bnd (aField 0 t81) fun t82 =>
  bnd (aLd true 2 S69 t82) fun t83 =>
  bnd (partOf true 2 c68 0) fun t84 =>
  ACalls P n_s_l02Ahead [t83, t84] H76 fun v85 H86 =>
  Abs.sub S69 H86 ∧
  bnd (aNot v85) fun t87 =>
  cnd t87
  (Ret R (.bool false) H86)
  (bnd (aBinN .add (xs60.tail.headD .any) (.int .i64 1)) fun t88 =>
  ∃ n59, n59 < n58 ∧ Shr (I56 n59 [(.box (bc (xs60.headD .any))), t88]) H86))
  (bnd (aBinN .add (xs60.tail.headD .any) (.int .i64 1)) fun t89 =>
  ∃ n59, n59 < n58 ∧ Shr (I56 n59 [(.box (bc (xs60.headD .any))), t89]) H76)
  (bnd (aPick (.tup []) (.tup []) (.bool false)) fun t90 =>
  cnd t90
  (Ret R (.bool false) H76)
  (bnd (aBinN .add (xs60.tail.headD .any) (.int .i64 1)) fun t91 =>
  ∃ n59, n59 < n58 ∧ Shr (I56 n59 [(.box (bc (xs60.headD .any))), t91]) H76)))
  (Ret R (.bool false) H76))
  (Ret R (.bool false) H72))
  (Ret R (.bool true) H61))))
  (Ret R (.bool false) H11))
  (Ret R (.bool false) H11))
  (Ret R (.bool false) H7))
  (Ret R (.bool false) H3))
theorem W_s_LsaOk {R : V → Heap → Prop} {a0 : V} {H : Heap} (h : F_s_LsaOk R a0 H) : ACalls P n_s_LsaOk [a0] H R :=
  acalls_of_form (g := ⟨[1, 4, 6], [7, 12, 18, 24, 30, 36, 42, 47, 52, 54, 59, 68, 75, 81, 87, 92, 97, 106, 113]⟩) (x := (.seq .leaf (.seq (.seq .leaf (.cond (.seq .leaf .leaf) .leaf)) (.seq (.seq .leaf (.block (.loop [1, 3] (.seq (.seq .leaf (.cond .leaf .leaf)) (.seq (.block (.seq .leaf (.seq (.draw [0, 1, 2, 3, 4, 5, 6, 7, 8, 9, 10, 11, 12, 13, 14, 15, 16, 17, 18, 19, 20, 21, 22, 23, 24, 25, 26, 27, 28, 29, 30, 31, 32]) (.cond (.seq .leaf .leaf) .leaf)))) .leaf))))) (.seq (.seq .leaf (.block (.loop [1, 5] (.seq (.seq .leaf (.cond .leaf .leaf)) (.seq (.block (.seq .leaf (.seq (.draw [0, 1, 2, 3, 4, 5, 6, 7, 8, 9, 10, 11, 12, 13, 14, 15, 16, 17, 18, 19, 20, 21, 22, 23, 24, 25, 26]) (.cond (.seq .leaf .leaf) .leaf)))) .leaf))))) (.seq .leaf .leaf)))))) Try.func34 (by kernel_rfl) (by kernel_rfl) (by kernel_rfl) (by kernel_rfl : F_s_LsaOk R a0 H = _) h
def F_s_l01Same (R : V → Heap → Prop) (a0 a1 : V) (H : Heap) : Prop :=
  bnd (lenOf a0) fun n1 =>
  bnd (lenOf a1) fun n2 =>
  bnd (aBinN .neq (.int .i64 (n1 : Nat)) (.int .i64 (n2 : Nat))) fun t3 =>
  cnd t3
  (Ret R (.bool false) H)
  (∃ (I4 : Nat → List V → Heap → Prop) (n5 : Nat), Shr (I4 n5 [(.int .i64 0)]) H ∧
  ∀ n6 xs8 H9, I4 n6 xs8 H9 →
  bnd (lenOf a0) fun n10 =>
  bnd (aBinN .lss (xs8.headD .any) (.int .i64 (n10 : Nat))) fun t11 =>
  cnd t11
  (∃ S12, Abs.sub S12 H9 ∧
  bnd (aIndex S12 1 a0 (xs8.headD .any)) fun t13 =>
  bnd (aLd false 1 S12 t13) fun t14 =>
  bnd (aIndex S12 1 a1 (xs8.headD .any)) fun t15 =>
  bnd (aLd false 1 S12 t15) fun t16 =>
  bnd (aBinN .neq t14 t16) fun t17 =>
  cnd t17
  (Ret R (.bool false) H9)
  (bnd (aBinN .add (xs8.headD .any) (.int .i64 1)) fun t18 =>
  ∃ n7, n7 < n6 ∧ Shr (I4 n7 [t18]) H9))
  (Ret R (.bool true) H9))
theorem W_s_l01Same {R : V → Heap → Prop} {a0 a1 : V} {H : Heap} (h : F_s_l01Same R a0 a1 H) : ACalls P n_s_l01Same [a0, a1] H R :=
  acalls_of_form (g := ⟨[], []⟩) (x := (.seq .leaf (.seq (.seq .leaf (.cond (.seq .leaf .leaf) .leaf)) (.seq (.seq .leaf (.block (.loop [5] (.seq (.seq .leaf (.cond .leaf .leaf)) (.seq (.block (.seq (.draw [0, 1, 2, 3, 4, 5, 6, 7, 8]) (.cond (.seq .leaf .leaf) .leaf))) .leaf))))) (.seq .leaf .leaf))))) Try.func35 (by kernel_rfl) (by kernel_rfl) (by kernel_rfl) (by kernel_rfl : F_s_l01Same R a0 a1 H = _) h
def F_s_PutLsa (R : V → Heap → Prop) (a0 : V) (H : Heap) : Prop :=
  boxK a0 (bnd (partOf true 5 (cellsOf a0) 0) fun t1 =>
  ACalls P n_s_LsaOk [t1] H fun v2 H3 =>
  bnd (aNot v2) fun t4 =>
  cnd t4
  (Ret R .nils H3)
  (∃ S5, Abs.sub S5 H3 ∧
  bnd (partOf true 5 (cellsOf a0) 0) fun t6 =>
  bnd (partOf false 1 (cellsOf a0) 2) fun t7 =>
  bnd (aCv .u8 t7) fun t8 =>
  bnd (partOf true 5 (cellsOf a0) 0) fun t9 =>
  ACalls P n_s_LsaBytes [t6] H3 fun v10 H11 =>
  Abs.sub S5 H11 ∧
  bnd (bsl 1 1 [(.int .u8 0)] [(0, t8)]) fun r12 =>
  ∀ o13, H11 o13 = none →
  Abs.sub S5 (upd H11 o13 ⟨1, r12⟩) ∧
  bnd (rowsOf (upd H11 o13 ⟨1, r12⟩) 1 (.slice o13 0 1 (some 1))) fun r16 =>
  appendK (upd H11 o13 ⟨1, r12⟩) 1 1 v10 r16 fun v14 H15 =>
  Abs.sub S5 H15 ∧
  ACalls P n_s_LsaSum [t9] H15 fun v17 H18 =>
  Abs.sub S5 H18 ∧
  ACalls P n_s_l05Wide [v17, (.int .i64 3)] H18 fun v19 H20 =>
  Abs.sub S5 H20 ∧
  ACalls P n_s_l01Join [v14, v19] H20 fun v21 H22 =>
  Abs.sub S5 H22 ∧
  Ret R v21 H22))
theorem W_s_PutLsa {R : V → Heap → Prop} {a0 : V} {H : Heap} (h : F_s_PutLsa R a0 H) : ACalls P n_s_PutLsa [a0] H R :=
  acalls_of_form (g := ⟨[1], [8]⟩) (x := (.seq .leaf (.seq (.seq .leaf (.cond (.seq .leaf .leaf) .leaf)) (.seq (.drawp [[0, 2, 3, 4, 7, 1, 5, 6, 8, 9, 10, 11]]) .leaf)))) Try.func36 (by kernel_rfl) (by kernel_rfl) (by kernel_rfl) (by kernel_rfl : F_s_PutLsa R a0 H = _) h
def F_p_i_taker_take (R : V → Heap → Prop) (a0 a1 : V) (H : Heap) : Prop :=
  bnd (aNil a0) fun t1 =>
  bnd (aField 1 t1) fun t2 =>
  bnd (aLd false 1 H t2) fun t3 =>
  gd t3 false
  (bnd (aNil a0) fun t4 =>
  bnd (aField 0 t4) fun t5 =>
  bnd (aLd false 1 H t5) fun t6 =>
  bnd (lenOf t6) fun n7 =>
  bnd (aBinN .lss (.int .i64 (n7 : Nat)) a1) fun t8 =>
  cnd t8
  (bnd (aNil a0) fun t9 =>
  bnd (aField 1 t9) fun t10 =>
  bnd (aSt 1 H t10 (.bool true)) fun H11 =>
  Ret R (.int .i64 0) H11)
  (bnd (aNil a0) fun t12 =>
  bnd (aField 0 t12) fun t13 =>
  bnd (aLd false 1 H t13) fun t14 =>
  bnd (aSlice H 1 t14 none (some a1) none) fun t15 =>
  bnd (lenOf t15) fun n16 =>
  ∃ (I17 : Nat → List V → Heap → Prop) (n18 : Nat), Shr (I17 n18 [(.int .i64 0), (.int .i64 0)]) H ∧
  ∀ n19 xs21 H22, I17 n19 xs21 H22 →
  bnd (aBinN .lss (xs21.tail.headD .any) (.int .i64 (n16 : Nat))) fun t23 =>
  cnd t23
  (bnd (aIndex H22 1 t15 (xs21.tail.headD .any)) fun t24 =>
  bnd (aLd false 1 H22 t24) fun t25 =>
  bnd (aBinN .shl (xs21.headD .any) (.int .u64 8)) fun t26 =>
  bnd (aCv .i64 t25) fun t27 =>
  bnd (aBinN .or t26 t27) fun t28 =>
  bnd (aBinN .add (xs21.tail.headD .any) (.int .i64 1)) fun t29 =>
  ∃ n20, n20 < n19 ∧ Shr (I17 n20 [t28, t29]) H22)
  (bnd (aNil a0) fun t30 =>
  bnd (aField 0 t30) fun t31 =>
  bnd (aLd false 1 H22 t31) fun t32 =>
  bnd (aSlice H22 1 t32 (some a1) none none) fun t33 =>
  bnd (aNil a0) fun t34 =>
  bnd (aField 0 t34) fun t35 =>
  bnd (aSt 1 H22 t35 t33) fun H36 =>
  Ret R (xs21.headD .any) H36)))
  (bnd (aNil a0) fun t37 =>
  bnd (aField 1 t37) fun t38 =>
  bnd (aSt 1 H t38 (.bool true)) fun H39 =>
  Ret R (.int .i64 0) H39)
theorem W_p_i_taker_take {R : V → Heap → Prop} {a0 a1 : V} {H : Heap} (h : F_p_i_taker_take R a0 a1 H) : ACalls P n_p_i_taker_take [a0, a1] H R :=
  acalls_of_form (g := ⟨[], []⟩) (x := (.seq .leaf (.seq (.seq .leaf (.cond (.seq .leaf (.seq .leaf .leaf)) .leaf)) (.seq .leaf (.seq (.seq .leaf (.block (.loop [5, 31] (.seq .leaf (.seq (.cond .leaf .leaf) (.seq (.block (.seq .leaf .leaf)) .leaf)))))) (.seq .leaf (.seq .leaf .leaf))))))) Try.func37 (by kernel_rfl) (by kernel_rfl) (by kernel_rfl) (by kernel_rfl : F_p_i_taker_take R a0 a1 H = _) h
def F_slices_Equal_byte_byte (R : V → Heap → Prop) (a0 a1 : V) (H : Heap) : Prop :=
  bnd (lenOf a0) fun n1 =>
  bnd (lenOf a1) fun n2 =>
  bnd (aBinN .neq (.int .i64 (n1 : Nat)) (.int .i64 (n2 : Nat))) fun t3 =>
  cnd t3
  (Ret R (.bool false) H)
  (bnd (lenOf a0) fun n4 =>
  ∃ (I5 : Nat → List V → Heap → Prop) (n6 : Nat), Shr (I5 n6 [(.int .i64 0)]) H ∧
  ∀ n7 xs9 H10, I5 n7 xs9 H10 →
  bnd (aBinN .lss (xs9.headD .any) (.int .i64 (n4 : Nat))) fun t11 =>
  cnd t11
  (∃ S12, Abs.sub S12 H10 ∧
  bnd (aIndex S12 1 a0 (xs9.headD .any)) fun t13 =>
  bnd (aLd false 1 S12 t13) fun t14 =>
  bnd (aIndex S12 1 a1 (xs9.headD .any)) fun t15 =>
  bnd (aLd false 1 S12 t15) fun t16 =>
  bnd (aBinN .neq t14 t16) fun t17 =>
  cnd t17
  (Ret R (.bool false) H10)
  (bnd (aBinN .add (xs9.headD .any) (.int .i64 1)) fun t18 =>
  ∃ n8, n8 < n7 ∧ Shr (I5 n8 [t18]) H10))
  (Ret R (.bool true) H10))
theorem W_slices_Equal_byte_byte {R : V → Heap → Prop} {a0 a1 : V} {H : Heap} (h : F_slices_Equal_byte_byte R a0 a1 H) : ACalls P n_slices_Equal_byte_byte [a0, a1] H R :=
  acalls_of_form (g := ⟨[], []⟩) (x := (.seq .leaf (.seq (.seq .leaf (.cond (.seq .leaf .leaf) .leaf)) (.seq (.seq .leaf (.block (.loop [13] (.seq .leaf (.seq (.cond .leaf .leaf) (.seq (.block (.seq .leaf (.seq (.draw [0, 1, 2, 3, 4, 5, 6, 7, 8]) (.cond (.seq .leaf .leaf) .leaf)))) .leaf)))))) (.seq .leaf .leaf))))) Try.func38 (by kernel_rfl) (by kernel_rfl) (by kernel_rfl) (by kernel_rfl : F_slices_Equal_byte_byte R a0 a1 H = _) h
def F_i_PutLsa (R : V → Heap → Prop) (a0 : V) (H : Heap) : Prop :=
  boxK a0 (bnd (partOf true 5 (cellsOf a0) 0) fun t1 =>
  ACalls P n_i_LsaOk [t1] H fun v2 H3 =>
  bnd (aNot v2) fun t4 =>
  cnd t4
  (Ret R .nils H3)
  (∃ S5, Abs.sub S5 H3 ∧
  bnd (partOf true 5 (cellsOf a0) 0) fun t6 =>
  bnd (partOf false 1 (cellsOf a0) 2) fun t7 =>
  bnd (aCv .u8 t7) fun t8 =>
  bnd (partOf true 5 (cellsOf a0) 0) fun t9 =>
  ACalls P n_i_Lsa_bytes [t6] H3 fun v10 H11 =>
  Abs.sub S5 H11 ∧
  bnd (bsl 1 1 [(.int .u8 0)] [(0, t8)]) fun r12 =>
  ∀ o13, H11 o13 = none →
  Abs.sub S5 (upd H11 o13 ⟨1, r12⟩) ∧
  bnd (rowsOf (upd H11 o13 ⟨1, r12⟩) 1 (.slice o13 0 1 (some 1))) fun r16 =>
  appendK (upd H11 o13 ⟨1, r12⟩) 1 1 v10 r16 fun v14 H15 =>
  Abs.sub S5 H15 ∧
  ACalls P n_i_Lsa_sum [t9] H15 fun v17 H18 =>
  Abs.sub S5 H18 ∧
  ACalls P n_i_big [v14, v17, (.int .i64 3)] H18 fun v19 H20 =>
  Abs.sub S5 H20 ∧
  Ret R v19 H20))
theorem W_i_PutLsa {R : V → Heap → Prop} {a0 : V} {H : Heap} (h : F_i_PutLsa R a0 H) : ACalls P n_i_PutLsa [a0] H R :=
  acalls_of_form (g := ⟨[1], [8]⟩) (x := (.seq .leaf (.seq (.seq .leaf (.cond (.seq .leaf .leaf) .leaf)) (.seq (.drawp [[0, 2, 3, 4, 7, 1, 5, 6, 8, 9, 10]]) .leaf)))) Try.func39 (by kernel_rfl) (by kernel_rfl) (by kernel_rfl) (by kernel_rfl : F_i_PutLsa R a0 H = _) h
def F_i_LsaOk (R : V → Heap → Prop) (a0 : V) (H : Heap) : Prop :=
  boxK a0 (bnd (partOf false 1 (cellsOf a0) 0) fun t1 =>
  ACalls P n_i_within [t1, (.int .i64 0), (.int .i64 9)] H fun v2 H3 =>
  gd v2 true
  (bnd (partOf false 1 (cellsOf a0) 1) fun t4 =>
  ACalls P n_i_within [t4, (.int .i64 1), (.int .i64 1000000)] H3 fun v5 H6 =>
  gd v5 true
  (bnd (partOf false 1 (cellsOf a0) 2) fun t7 =>
  ACalls P n_i_within [t7, (.int .i64 0), (.int .i64 60)] H6 fun v8 H9 =>
  gd v8 true
  (bnd (partOf false 1 (cellsOf a0) 0) fun t10 =>
  bnd (partOf false 1 (cellsOf a0) 3) fun t11 =>
  ACalls P n_i_areLinks [t10, t11] H9 fun v12 H13 =>
  gd v12 true
  (bnd (partOf false 1 (cellsOf a0) 4) fun t14 =>
  ACalls P n_i_areStubs [t14] H13 fun v15 H16 =>
  Ret R v15 H16)
  (Ret R (.bool false) H13))
  (Ret R (.bool false) H9))
  (Ret R (.bool false) H6))
  (Ret R (.bool false) H3))
theorem W_i_LsaOk {R : V → Heap → Prop} {a0 : V} {H : Heap} (h : F_i_LsaOk R a0 H) : ACalls P n_i_LsaOk [a0] H R :=
  acalls_of_form (g := ⟨[1], [3, 7, 12, 17, 19, 24]⟩) (x := (.seq .leaf (.seq .leaf .leaf))) Try.func40 (by kernel_rfl) (by kernel_rfl) (by kernel_rfl) (by kernel_rfl : F_i_LsaOk R a0 H = _) h
def F_l_eqLinkS (R : V → Heap → Prop) (a0 a1 : V) (H : Heap) : Prop :=
  bnd (lenOf a0) fun n1 =>
  bnd (lenOf a1) fun n2 =>
  bnd (aBinN .neq (.int .i64 (n1 : Nat)) (.int .i64 (n2 : Nat))) fun t3 =>
  cnd t3
  (Ret R (.bool false) H)
  (∃ (I4 : Nat → List V → Heap → Prop) (n5 : Nat), Shr (I4 n5 [(.int .i64 0)]) H ∧
  ∀ n6 xs8 H9, I4 n6 xs8 H9 →
  bnd (lenOf a0) fun n10 =>
  bnd (aBinN .lss (xs8.headD .any) (.int .i64 (n10 : Nat))) fun t11 =>
  cnd t11
  (∃ S12, Abs.sub S12 H9 ∧
  bnd (aIndex S12 2 a0 (xs8.headD .any)) fun t13 =>
  bnd (aLd true 2 S12 t13) fun t14 =>
  bnd (aIndex S12 2 a1 (xs8.headD .any)) fun t15 =>
  bnd (aLd true 2 S12 t15) fun t16 =>
  ACalls P n_l_eqLink [t14, t16] H9 fun v17 H18 =>
  Abs.sub S12 H18 ∧
  bnd (aNot v17) fun t19 =>
  cnd t19
  (Ret R (.bool false) H18)
  (bnd (aBinN .add (xs8.headD .any) (.int .i64 1)) fun t20 =>
  ∃ n7, n7 < n6 ∧ Shr (I4 n7 [t20]) H18))
  (Ret R (.bool true) H9))
theorem W_l_eqLinkS {R : V → Heap → Prop} {a0 a1 : V} {H : Heap} (h : F_l_eqLinkS R a0 a1 H) : ACalls P n_l_eqLinkS [a0, a1] H R :=
  acalls_of_form (g := ⟨[], []⟩) (x := (.seq .leaf (.seq (.seq .leaf (.cond (.seq .leaf .leaf) .leaf)) (.seq (.seq .leaf (.block (.loop [5] (.seq (.seq .leaf (.cond .leaf .leaf)) (.seq (.block (.seq (.draw [0, 1, 2, 3, 4, 5, 6, 7, 8, 9]) (.cond (.seq .leaf .leaf) .leaf))) .leaf))))) (.seq .leaf .leaf))))) Try.func41 (by kernel_rfl) (by kernel_rfl) (by kernel_rfl) (by kernel_rfl : F_l_eqLinkS R a0 a1 H = _) h
def F_l_eqStubS (R : V → Heap → Prop) (a0 a1 : V) (H : Heap) : Prop :=
  bnd (lenOf a0) fun n1 =>
  bnd (lenOf a1) fun n2 =>
  bnd (aBinN .neq (.int .i64 (n1 : Nat)) (.int .i64 (n2 : Nat))) fun t3 =>
  cnd t3
  (Ret R (.bool false) H)
  (∃ (I4 : Nat → List V → Heap → Prop) (n5 : Nat), Shr (I4 n5 [(.int .i64 0)]) H ∧
  ∀ n6 xs8 H9, I4 n6 xs8 H9 →
  bnd (lenOf a0) fun n10 =>
  bnd (aBinN .lss (xs8.headD .any) (.int .i64 (n10 : Nat))) fun t11 =>
  cnd t11
  (∃ S12, Abs.sub S12 H9 ∧
  bnd (aIndex S12 3 a0 (xs8.headD .any)) fun t13 =>
  bnd (aLd true 3 S12 t13) fun t14 =>
  bnd (aIndex S12 3 a1 (xs8.headD .any)) fun t15 =>
  bnd (aLd true 3 S12 t15) fun t16 =>
  ACalls P n_l_eqStub [t14, t16] H9 fun v17 H18 =>
  Abs.sub S12 H18 ∧
  bnd (aNot v17) fun t19 =>
  cnd t19
  (Ret R (.bool false) H18)
  (bnd (aBinN .add (xs8.headD .any) (.int .i64 1)) fun t20 =>
  ∃ n7, n7 < n6 ∧ Shr (I4 n7 [t20]) H18))
  (Ret R (.bool true) H9))
theorem W_l_eqStubS {R : V → Heap → Prop} {a0 a1 : V} {H : Heap} (h : F_l_eqStubS R a0 a1 H) : ACalls P n_l_eqStubS [a0, a1] H R :=
  acalls_of_form (g := ⟨[], []⟩) (x := (.seq .leaf (.seq (.seq .leaf (.cond (.seq .leaf .leaf) .leaf)) (.seq (.seq .leaf (.block (.loop [5] (.seq (.seq .leaf (.cond .leaf .leaf)) (.seq (.block (.seq (.draw [0, 1, 2, 3, 4, 5, 6, 7, 8, 9]) (.cond (.seq .leaf .leaf) .leaf))) .leaf))))) (.seq .leaf .leaf))))) Try.func42 (by kernel_rfl) (by kernel_rfl) (by kernel_rfl) (by kernel_rfl : F_l_eqStubS R a0 a1 H = _) h
def F_l_markLinkS (R : V → Heap → Prop) (a0 a1 : V) (H : Heap) : Prop :=
  ∃ (I1 : Nat → List V → Heap → Prop) (n2 : Nat), Shr (I1 n2 [a1, (.int .i64 0)]) H ∧
  ∀ n3 xs5 H6, I1 n3 xs5 H6 →
  bnd (lenOf a0) fun n7 =>
  bnd (aBinN .lss (xs5.tail.headD .any) (.int .i64 (n7 : Nat))) fun t8 =>
  cnd t8
  (bnd (aIndex H6 2 a0 (xs5.tail.headD .any)) fun t9 =>
  bnd (aField 0 t9) fun t10 =>
  bnd (aSt 1 H6 t10 (xs5.headD .any)) fun H11 =>
  bnd (aBinN .add (xs5.headD .any) (.int .i64 1)) fun t12 =>
  bnd (aIndex H11 2 a0 (xs5.tail.headD .any)) fun t13 =>
  bnd (aField 1 t13) fun t14 =>
  bnd (aSt 1 H11 t14 t12) fun H15 =>
  bnd (aBinN .add t12 (.int .i64 1)) fun t16 =>
  bnd (aBinN .add (xs5.tail.headD .any) (.int .i64 1)) fun t17 =>
  ∃ n4, n4 < n3 ∧ Shr (I1 n4 [t16, t17]) H15)
  (Ret R (xs5.headD .any) H6)
theorem W_l_markLinkS {R : V → Heap → Prop} {a0 a1 : V} {H : Heap} (h : F_l_markLinkS R a0 a1 H) : ACalls P n_l_markLinkS [a0, a1] H R :=
  acalls_of_form (g := ⟨[], []⟩) (x := (.seq .leaf (.seq (.seq .leaf (.block (.loop [1, 5] (.seq (.seq .leaf (.cond .leaf .leaf)) (.seq (.block (.seq .leaf (.seq .leaf (.seq .leaf .leaf)))) .leaf))))) (.seq .leaf .leaf)))) Try.func43 (by kernel_rfl) (by kernel_rfl) (by kernel_rfl) (by kernel_rfl : F_l_markLinkS R a0 a1 H = _) h
def F_l_markStubS (R : V → Heap → Prop) (a0 a1 : V) (H : Heap) : Prop :=
  ∃ (I1 : Nat → List V → Heap → Prop) (n2 : Nat), Shr (I1 n2 [a1, (.int .i64 0)]) H ∧
  ∀ n3 xs5 H6, I1 n3 xs5 H6 →
  bnd (lenOf a0) fun n7 =>
  bnd (aBinN .lss (xs5.tail.headD .any) (.int .i64 (n7 : Nat))) fun t8 =>
  cnd t8
  (bnd (aIndex H6 3 a0 (xs5.tail.headD .any)) fun t9 =>
  bnd (aField 0 t9) fun t10 =>
  bnd (aField 0 t10) fun t11 =>
  bnd (aSt 1 H6 t11 (xs5.headD .any)) fun H12 =>
  bnd (aBinN .add (xs5.headD .any) (.int .i64 1)) fun t13 =>
  bnd (aIndex H12 3 a0 (xs5.tail.headD .any)) fun t14 =>
  bnd (aField 0 t14) fun t15 =>
  bnd (aField 1 t15) fun t16 =>
  bnd (aSt 1 H12 t16 t13) fun H17 =>
  bnd (aBinN .add t13 (.int .i64 1)) fun t18 =>
  bnd (aIndex H17 3 a0 (xs5.tail.headD .any)) fun t19 =>
  bnd (aField 2 t19) fun t20 =>
  bnd (aSt 1 H17 t20 t18) fun H21 =>
  bnd (aBinN .add t18 (.int .i64 1)) fun t22 =>
  bnd (aBinN .add (xs5.tail.headD .any) (.int .i64 1)) fun t23 =>
  ∃ n4, n4 < n3 ∧ Shr (I1 n4 [t22, t23]) H21)
  (Ret R (xs5.headD .any) H6)
theorem W_l_markStubS {R : V → Heap → Prop} {a0 a1 : V} {H : Heap} (h : F_l_markStubS R a0 a1 H) : ACalls P n_l_markStubS [a0, a1] H R :=
  acalls_of_form (g := ⟨[], []⟩) (x := (.seq .leaf (.seq (.seq .leaf (.block (.loop [1, 5] (.seq (.seq .leaf (.cond .leaf .leaf)) (.seq (.block (.seq .leaf (.seq .leaf (.seq .leaf (.seq .leaf (.seq .leaf .leaf)))))) .leaf))))) (.seq .leaf .leaf)))) Try.func44 (by kernel_rfl) (by kernel_rfl) (by kernel_rfl) (by kernel_rfl : F_l_markStubS R a0 a1 H = _) h
def F_l_heldLinkS (R : V → Heap → Prop) (a0 a1 : V) (H : Heap) : Prop :=
  ∃ (I1 : Nat → List V → Heap → Prop) (n2 : Nat), Shr (I1 n2 [a1, (.int .i64 0)]) H ∧
  ∀ n3 xs5 H6, I1 n3 xs5 H6 →
  bnd (lenOf a0) fun n7 =>
  bnd (aBinN .lss (xs5.tail.headD .any) (.int .i64 (n7 : Nat))) fun t8 =>
  cnd t8
  (bnd (aIndex H6 2 a0 (xs5.tail.headD .any)) fun t9 =>
  bnd (aField 0 t9) fun t10 =>
  bnd (aLd false 1 H6 t10) fun t11 =>
  bnd (aBinN .neq t11 (xs5.headD .any)) fun t12 =>
  cnd t12
  (Ret R (.int .i64 (-1)) H6)
  (bnd (aBinN .add (xs5.headD .any) (.int .i64 1)) fun t13 =>
  bnd (aIndex H6 2 a0 (xs5.tail.headD .any)) fun t14 =>
  bnd (aField 1 t14) fun t15 =>
  bnd (aLd false 1 H6 t15) fun t16 =>
  bnd (aBinN .neq t16 t13) fun t17 =>
  cnd t17
  (Ret R (.int .i64 (-1)) H6)
  (bnd (aBinN .add t13 (.int .i64 1)) fun t18 =>
  bnd (aBinN .add (xs5.tail.headD .any) (.int .i64 1)) fun t19 =>
  ∃ n4, n4 < n3 ∧ Shr (I1 n4 [t18, t19]) H6)))
  (Ret R (xs5.headD .any) H6)
theorem W_l_heldLinkS {R : V → Heap → Prop} {a0 a1 : V} {H : Heap} (h : F_l_heldLinkS R a0 a1 H) : ACalls P n_l_heldLinkS [a0, a1] H R :=
  acalls_of_form (g := ⟨[], []⟩) (x := (.seq .leaf (.seq (.seq .leaf (.block (.loop [1, 5] (.seq (.seq .leaf (.cond .leaf .leaf)) (.seq (.block (.seq (.seq .leaf (.cond (.seq .leaf .leaf) .leaf)) (.seq .leaf (.seq (.seq .leaf (.cond (.seq .leaf .leaf) .leaf)) .leaf)))) .leaf))))) (.seq .leaf .leaf)))) Try.func45 (by kernel_rfl) (by kernel_rfl) (by kernel_rfl) (by kernel_rfl : F_l_heldLinkS R a0 a1 H = _) h
def F_l_heldStubS (R : V → Heap → Prop) (a0 a1 : V) (H : Heap) : Prop :=
  ∃ (I1 : Nat → List V → Heap → Prop) (n2 : Nat), Shr (I1 n2 [a1, (.int .i64 0)]) H ∧
  ∀ n3 xs5 H6, I1 n3 xs5 H6 →
  bnd (lenOf a0) fun n7 =>
  bnd (aBinN .lss (xs5.tail.headD .any) (.int .i64 (n7 : Nat))) fun t8 =>
  cnd t8
  (bnd (aIndex H6 3 a0 (xs5.tail.headD .any)) fun t9 =>
  bnd (aField 0 t9) fun t10 =>
  bnd (aField 0 t10) fun t11 =>
  bnd (aLd false 1 H6 t11) fun t12 =>
  bnd (aBinN .neq t12 (xs5.headD .any)) fun t13 =>
  cnd t13
  (Ret R (.int .i64 (-1)) H6)
  (bnd (aBinN .add (xs5.headD .any) (.int .i64 1)) fun t14 =>
  bnd (aIndex H6 3 a0 (xs5.tail.headD .any)) fun t15 =>
  bnd (aField 0 t15) fun t16 =>
  bnd (aField 1 t16) fun t17 =>
  bnd (aLd false 1 H6 t17) fun t18 =>
  bnd (aBinN .neq t18 t14) fun t19 =>
  cnd t19
  (Ret R (.int .i64 (-1)) H6)
  (bnd (aBinN .add t14 (.int .i64 1)) fun t20 =>
  bnd (aIndex H6 3 a0 (xs5.tail.headD .any)) fun t21 =>
  bnd (aField 2 t21) fun t22 =>
  bnd (aLd false 1 H6 t22) fun t23 =>
  bnd (aBinN .neq t23 t20) fun t24 =>
  cnd t24
  (Ret R (.int .i64 (-1)) H6)
  (bnd (aBinN .add t20 (.int .i64 1)) fun t25 =>
  bnd (aBinN .add (xs5.tail.headD .any) (.int .i64 1)) fun t26 =>
  ∃ n4, n4 < n3 ∧ Shr (I1 n4 [t25, t26]) H6))))
  (Ret R (xs5.headD .any) H6)
theorem W_l_heldStubS {R : V → Heap → Prop} {a0 a1 : V} {H : Heap} (h : F_l_heldStubS R a0 a1 H) : ACalls P n_l_heldStubS [a0, a1] H R :=
  acalls_of_form (g := ⟨[], []⟩) (x := (.seq .leaf (.seq (.seq .leaf (.block (.loop [1, 5] (.seq (.seq .leaf (.cond .leaf .leaf)) (.seq (.block (.seq (.seq .leaf (.cond (.seq .leaf .leaf) .leaf)) (.seq .leaf (.seq (.seq .leaf (.cond (.seq .leaf .leaf) .leaf)) (.seq .leaf (.seq (.seq .leaf (.cond (.seq .leaf .leaf) .leaf)) .leaf)))))) .leaf))))) (.seq .leaf .leaf)))) Try.func46 (by kernel_rfl) (by kernel_rfl) (by kernel_rfl) (by kernel_rfl : F_l_heldStubS R a0 a1 H = _) h
def F_i_within (R : V → Heap → Prop) (a0 a1 a2 : V) (H : Heap) : Prop :=
  bnd (aBinN .geq a0 a1) fun t1 =>
  gd t1 true
  (bnd (aBinN .leq a0 a2) fun t2 =>
  Ret R t2 H)
  (Ret R (.bool false) H)
theorem W_i_within {R : V → Heap → Prop} {a0 a1 a2 : V} {H : Heap} (h : F_i_within R a0 a1 a2 H) : ACalls P n_i_within [a0, a1, a2] H R :=
  acalls_of_form (g := ⟨[], []⟩) (x := (.seq .leaf (.seq .leaf .leaf))) Try.func58 (by kernel_rfl) (by kernel_rfl) (by kernel_rfl) (by kernel_rfl : F_i_within R a0 a1 a2 H = _) h
def F_s_PrefixOk (R : V → Heap → Prop) (a0 : V) (H : Heap) : Prop :=
  boxK a0 (∃ S1, Abs.sub S1 H ∧
  bnd (partOf false 1 (cellsOf a0) 1) fun t2 =>
  ACalls P n_s_l01In [t2, (.int .i64 0), (.int .i64 16)] H fun v3 H4 =>
  Abs.sub S1 H4 ∧
  gd v3 true
  (bnd (partOf false 1 (cellsOf a0) 0) fun t5 =>
  ACalls P n_s_l01Addr [t5] H4 fun v6 H7 =>
  Abs.sub S1 H7 ∧
  gd v6 true
  (bnd (partOf false 1 (cellsOf a0) 0) fun t8 =>
  bnd (partOf false 1 (cellsOf a0) 1) fun t9 =>
  ACalls P n_s_l01Size2 [t9] H7 fun v10 H11 =>
  Abs.sub S1 H11 ∧
  bnd (aBinN .rem t8 v10) fun t12 =>
  bnd (aBinN .eql t12 (.int .i64 0)) fun t13 =>
  Ret R t13 H11)
  (Ret R (.bool false) H7))
  (Ret R (.bool false) H4))
theorem W_s_PrefixOk {R : V → Heap → Prop} {a0 : V} {H : Heap} (h : F_s_PrefixOk R a0 H) : ACalls P n_s_PrefixOk [a0] H R :=
  acalls_of_form (g := ⟨[1], [3, 7, 12, 14]⟩) (x := (.seq .leaf (.seq (.draw [0, 1, 2, 3, 4, 5, 6, 7, 8, 9, 10, 11, 12, 13, 14, 15, 16, 17]) .leaf))) Try.func68 (by kernel_rfl) (by kernel_rfl) (by kernel_rfl) (by kernel_rfl : F_s_PrefixOk R a0 H = _) h
def F_s_l02Ahead (R : V → Heap → Prop) (a0 a1 : V) (H : Heap) : Prop :=
  boxK a0 (boxK a1 (bnd (partOf false 1 (cellsOf a0) 0) fun t1 =>
  bnd (partOf false 1 (cellsOf a1) 0) fun t2 =>
  bnd (aBinN .lss t1 t2) fun t3 =>
  gd t3 false
  (bnd (partOf false 1 (cellsOf a0) 0) fun t4 =>
  bnd (partOf false 1 (cellsOf a1) 0) fun t5 =>
  bnd (aBinN .eql t4 t5) fun t6 =>
  gd3 t6 true
  (bnd (partOf false 1 (cellsOf a0) 1) fun t7 =>
  bnd (partOf false 1 (cellsOf a1) 1) fun t8 =>
  bnd (aBinN .lss t7 t8) fun t9 =>
  Ret R t9 H)
  (Ret R (.bool false) H)
  (bnd (aPick (.tup []) (.tup []) (.bool false)) fun t10 =>
  Ret R t10 H))
  (Ret R (.bool true) H)))
theorem W_s_l02Ahead {R : V → Heap → Prop} {a0 a1 : V} {H : Heap} (h : F_s_l02Ahead R a0 a1 H) : ACalls P n_s_l02Ahead [a0, a1] H R :=
  acalls_of_form (g := ⟨[2, 3], [5, 7, 11, 13, 17, 19]⟩) (x := (.seq .leaf (.seq .leaf .leaf))) Try.func69 (by kernel_rfl) (by kernel_rfl) (by kernel_rfl) (by kernel_rfl : F_s_l02Ahead R a0 a1 H = _) h
def F_s_l01Join (R : V → Heap → Prop) (a0 a1 : V) (H : Heap) : Prop :=
  ACalls P n_s_l01Bytes [a0] H fun v1 H2 =>
  ∃ (I3 : Nat → List V → Heap → Prop) (n4 : Nat), Shr (I3 n4 [v1, (.int .i64 0)]) H2 ∧
  ∀ n5 xs7 H8, I3 n5 xs7 H8 →
  bnd (lenOf a1) fun n9 =>
  bnd (aBinN .lss (xs7.tail.headD .any) (.int .i64 (n9 : Nat))) fun t10 =>
  cnd t10
  (bnd (aIndex H8 1 a1 (xs7.tail.headD .any)) fun t11 =>
  bnd (aLd false 1 H8 t11) fun t12 =>
  bnd (bsl 1 1 [(.int .u8 0)] [(0, t12)]) fun r13 =>
  ∀ o14, H8 o14 = none →
  bnd (rowsOf (upd H8 o14 ⟨1, r13⟩) 1 (.slice o14 0 1 (some 1))) fun r17 =>
  appendK (upd H8 o14 ⟨1, r13⟩) 1 1 (xs7.headD .any) r17 fun v15 H16 =>
  bnd (aBinN .add (xs7.tail.headD .any) (.int .i64 1)) fun t18 =>
  ∃ n6, n6 < n5 ∧ Shr (I3 n6 [v15, t18]) H16)
  (Ret R (xs7.headD .any) H8)
theorem W_s_l01Join {R : V → Heap → Prop} {a0 a1 : V} {H : Heap} (h : F_s_l01Join R a0 a1 H) : ACalls P n_s_l01Join [a0, a1] H R :=
  acalls_of_form (g := ⟨[], []⟩) (x := (.seq .leaf (.seq .leaf (.seq (.seq .leaf (.block (.loop [5, 6] (.seq (.seq .leaf (.cond .leaf .leaf)) (.seq (.block .leaf) .leaf))))) (.seq .leaf .leaf))))) Try.func70 (by kernel_rfl) (by kernel_rfl) (by kernel_rfl) (by kernel_rfl : F_s_l01Join R a0 a1 H = _) h
def F_s_LsaBytes (R : V → Heap → Prop) (a0 : V) (H : Heap) : Prop :=
  boxK a0 (bnd (partOf true 5 (cellsOf a0) 0) fun t1 =>
  ACalls P n_s_LsaOk [t1] H fun v2 H3 =>
  bnd (aNot v2) fun t4 =>
  cnd t4
  (Ret R .nils H3)
  (∃ S5, Abs.sub S5 H3 ∧
  bnd (partOf false 1 (cellsOf a0) 0) fun t6 =>
  bnd (aCv .u8 t6) fun t7 =>
  bnd (partOf false 1 (cellsOf a0) 1) fun t8 =>
  ACalls P n_s_l05Wide [t8, (.int .i64 3)] H3 fun v9 H10 =>
  Abs.sub S5 H10 ∧
  bnd (bsl 1 1 [(.int .u8 0)] [(0, t7)]) fun r11 =>
  ∀ o12, H10 o12 = none →
  Abs.sub S5 (upd H10 o12 ⟨1, r11⟩) ∧
  ACalls P n_s_l01Join [(.slice o12 0 1 (some 1)), v9] (upd H10 o12 ⟨1, r11⟩) fun v13 H14 =>
  Abs.sub S5 H14 ∧
  bnd (partOf false 1 (cellsOf a0) 3) fun t15 =>
  bnd (lenOf t15) fun n16 =>
  bnd (aCv .u8 (.int .i64 (n16 : Nat))) fun t17 =>
  bnd (bsl 1 1 [(.int .u8 0)] [(0, t17)]) fun r18 =>
  ∀ o19, H14 o19 = none →
  bnd (rowsOf (upd H14 o19 ⟨1, r18⟩) 1 (.slice o19 0 1 (some 1))) fun r22 =>
  appendK (upd H14 o19 ⟨1, r18⟩) 1 1 v13 r22 fun v20 H21 =>
  ∃ (I23 : Nat → List V → Heap → Prop) (n24 : Nat), Shr (I23 n24 [v20, (.int .i64 0)]) H21 ∧
  ∀ n25 xs27 H28, I23 n25 xs27 H28 →
  bnd (partOf false 1 (cellsOf a0) 3) fun t29 =>
  bnd (lenOf t29) fun n30 =>
  bnd (aBinN .lss (xs27.tail.headD .any) (.int .i64 (n30 : Nat))) fun t31 =>
  cnd t31
  (∃ S32, Abs.sub S32 H28 ∧
  bnd (partOf false 1 (cellsOf a0) 3) fun t33 =>
  bnd (aIndex S32 2 t33 (xs27.tail.headD .any)) fun t34 =>
  bnd (aField 0 t34) fun t35 =>
  bnd (aLd false 1 S32 t35) fun t36 =>
  bnd (aCv .u8 t36) fun t37 =>
  bnd (partOf false 1 (cellsOf a0) 3) fun t38 =>
  bnd (aIndex S32 2 t38 (xs27.tail.headD .any)) fun t39 =>
  bnd (aField 1 t39) fun t40 =>
  bnd (aLd false 1 S32 t40) fun t41 =>
  bnd (bsl 1 1 [(.int .u8 0)] [(0, t37)]) fun r42 =>
  ∀ o43, H28 o43 = none →
  Abs.sub S32 (upd H28 o43 ⟨1, r42⟩) ∧
  bnd (rowsOf (upd H28 o43 ⟨1, r42⟩) 1 (.slice o43 0 1 (some 1))) fun r46 =>
  appendK (upd H28 o43 ⟨1, r42⟩) 1 1 (xs27.headD .any) r46 fun v44 H45 =>
  Abs.sub S32 H45 ∧
  ACalls P n_s_l05Wide [t41, (.int .i64 2)] H45 fun v47 H48 =>
  Abs.sub S32 H48 ∧
  ACalls P n_s_l01Join [v44, v47] H48 fun v49 H50 =>
  Abs.sub S32 H50 ∧
  bnd (aBinN .add (xs27.tail.headD .any) (.int .i64 1)) fun t51 =>
  ∃ n26, n26 < n25 ∧ Shr (I23 n26 [v49, t51]) H50)
  (bnd (partOf false 1 (cellsOf a0) 4) fun t52 =>
  bnd (lenOf t52) fun n53 =>
  bnd (aCv .u8 (.int .i64 (n53 : Nat))) fun t54 =>
  bnd (bsl 1 1 [(.int .u8 0)] [(0, t54)]) fun r55 =>
  ∀ o56, H28 o56 = none →
  bnd (rowsOf (upd H28 o56 ⟨1, r55⟩) 1 (.slice o56 0 1 (some 1))) fun r59 =>
  appendK (upd H28 o56 ⟨1, r55⟩) 1 1 (xs27.headD .any) r59 fun v57 H58 =>
  ∃ (I60 : Nat → List V → Heap → Prop) (n61 : Nat), Shr (I60 n61 [(.box (cellsOf a0)), v57, (.int .i64 0)]) H58 ∧
  ∀ n62 xs64 H65, I60 n62 xs64 H65 →
  bnd (partOf false 1 (bc (xs64.headD .any)) 4) fun t66 =>
  bnd (lenOf t66) fun n67 =>
  bnd (aBinN .lss (xs64.tail.tail.headD .any) (.int .i64 (n67 : Nat))) fun t68 =>
  cnd t68
  (bnd (partOf false 1 (bc (xs64.headD .any)) 4) fun t69 =>
  bnd (aIndex H65 3 t69 (xs64.tail.tail.headD .any)) fun t70 =>
  bnd (aLd true 3 H65 t70) fun t71 =>
  bnd (stz 3 [(.int .i64 0), (.int .i64 0), (.int .i64 0)] 0 t71) fun c72 =>
  ∃ S73, Abs.sub S73 H65 ∧
  bnd (partOf false 1 c72 0) fun t74 =>
  bnd (partOf false 1 c72 1) fun t75 =>
  bnd (aCv .u8 t75) fun t76 =>
  bnd (partOf false 1 c72 2) fun t77 =>
  ACalls P n_s_l05Wide [t74, (.int .i64 2)] H65 fun v78 H79 =>
  Abs.sub S73 H79 ∧
  ACalls P n_s_l01Join [(xs64.tail.headD .any), v78] H79 fun v80 H81 =>
  Abs.sub S73 H81 ∧
  bnd (bsl 1 1 [(.int .u8 0)] [(0, t76)]) fun r82 =>
  ∀ o83, H81 o83 = none →
  Abs.sub S73 (upd H81 o83 ⟨1, r82⟩) ∧
  bnd (rowsOf (upd H81 o83 ⟨1, r82⟩) 1 (.slice o83 0 1 (some 1))) fun r86 =>
  appendK (upd H81 o83 ⟨1, r82⟩) 1 1 v80 r86 fun v84 H85 =>
  Abs.sub S73 H85 ∧
  ACalls P n_s_l05Wide [t77, (.int .i64 2)] H85 fun v87 H88 =>
  Abs.sub S73 H88 ∧
  ACalls P n_s_l01Join [v84, v87] H88 fun v89 H90 =>
  Abs.sub S73 H90 ∧
  bnd (aBinN .add (xs64.tail.tail.headD .any) (.int .i64 1)) fun t91 =>
  ∃ n63, n63 < n62 ∧ Shr (I60 n63 [(.box (bc (xs64.headD .any))), v89, t91]) H90)
  (Ret R (xs64.tail.headD .any) H65))))
theorem W_s_LsaBytes {R : V → Heap → Prop} {a0 : V} {H : Heap} (h : F_s_LsaBytes R a0 H) : ACalls P n_s_LsaBytes [a0] H R :=
  acalls_of_form (g := ⟨[1, 6], [10, 14, 19, 26, 33, 42, 51, 58, 64, 70, 71, 75, 76, 81]⟩) (x := (.seq .leaf (.seq (.seq .leaf (.cond (.seq .leaf .leaf) .leaf)) (.seq (.drawp [[0, 1, 2, 4, 5, 6, 3, 7, 8]]) (.seq .leaf (.seq (.seq .leaf (.block (.loop [3, 4] (.seq (.seq .leaf (.cond .leaf .leaf)) (.seq (.block (.draw [0, 1, 2, 3, 4, 5, 6, 7, 10, 11, 12, 13, 14, 15, 8, 9, 16, 17, 18])) .leaf))))) (.seq .leaf (.seq (.seq .leaf (.block (.loop [1, 3, 5] (.seq (.seq .leaf (.cond .leaf .leaf)) (.seq (.block (.seq .leaf (.drawp [[0, 1, 2, 3, 6, 7, 8, 9, 12, 13, 4, 5, 10, 11, 14, 15, 16]]))) .leaf))))) (.seq .leaf .leaf))))))))) Try.func71 (by kernel_rfl) (by kernel_rfl) (by kernel_rfl) (by kernel_rfl : F_s_LsaBytes R a0 H = _) h
def F_s_l05Wide (R : V → Heap → Prop) (a0 a1 : V) (H : Heap) : Prop :=
  bnd (bsl 1 0 [(.int .u8 0)] []) fun r1 =>
  ∀ o2, H o2 = none →
  bnd (aBinN .sub a1 (.int .i64 1)) fun t3 =>
  ∃ (I4 : Nat → List V → Heap → Prop) (n5 : Nat), Shr (I4 n5 [(.slice o2 0 0 (some 0)), t3]) (upd H o2 ⟨1, r1⟩) ∧
  ∀ n6 xs8 H9, I4 n6 xs8 H9 →
  bnd (aBinN .geq (xs8.tail.headD .any) (.int .i64 0)) fun t10 =>
  cnd t10
  (bnd (aBinN .mul (.int .i64 8) (xs8.tail.headD .any)) fun t11 =>
  bnd (aCv .u64 t11) fun t12 =>
  bnd (aBinN .shr a0 t12) fun t13 =>
  bnd (aBinN .and t13 (.int .i64 255)) fun t14 =>
  bnd (aCv .u8 t14) fun t15 =>
  bnd (bsl 1 1 [(.int .u8 0)] [(0, t15)]) fun r16 =>
  ∀ o17, H9 o17 = none →
  bnd (rowsOf (upd H9 o17 ⟨1, r16⟩) 1 (.slice o17 0 1 (some 1))) fun r20 =>
  appendK (upd H9 o17 ⟨1, r16⟩) 1 1 (xs8.headD .any) r20 fun v18 H19 =>
  bnd (aBinN .sub (xs8.tail.headD .any) (.int .i64 1)) fun t21 =>
  ∃ n7, n7 < n6 ∧ Shr (I4 n7 [v18, t21]) H19)
  (Ret R (xs8.headD .any) H9)
theorem W_s_l05Wide {R : V → Heap → Prop} {a0 a1 : V} {H : Heap} (h : F_s_l05Wide R a0 a1 H) : ACalls P n_s_l05Wide [a0, a1] H R :=
  acalls_of_form (g := ⟨[], []⟩) (x := (.seq .leaf (.seq .leaf (.seq (.seq .leaf (.block (.loop [5, 6] (.seq (.seq .leaf (.cond .leaf .leaf)) (.seq (.block .leaf) .leaf))))) (.seq .leaf .leaf))))) Try.func72 (by kernel_rfl) (by kernel_rfl) (by kernel_rfl) (by kernel_rfl : F_s_l05Wide R a0 a1 H = _) h
def F_s_LsaSum (R : V → Heap → Prop) (a0 : V) (H : Heap) : Prop :=
  boxK a0 (bnd (partOf true 5 (cellsOf a0) 0) fun t1 =>
  ACalls P n_s_LsaOk [t1] H fun v2 H3 =>
  bnd (aNot v2) fun t4 =>
  cnd t4
  (Ret R (.int .i64 (-1)) H3)
  (bnd (partOf true 5 (cellsOf a0) 0) fun t5 =>
  ACalls P n_s_LsaBytes [t5] H3 fun v6 H7 =>
  ∃ (I8 : Nat → List V → Heap → Prop) (n9 : Nat), Shr (I8 n9 [(.int .i64 1), (.int .i64 0)]) H7 ∧
  ∀ n10 xs12 H13, I8 n10 xs12 H13 →
  bnd (lenOf v6) fun n14 =>
  bnd (aBinN .lss (xs12.tail.headD .any) (.int .i64 (n14 : Nat))) fun t15 =>
  cnd t15
  (bnd (aBinN .mul (.int .i64 257) (xs12.headD .any)) fun t16 =>
  bnd (aIndex H13 1 v6 (xs12.tail.headD .any)) fun t17 =>
  bnd (aLd false 1 H13 t17) fun t18 =>
  bnd (aCv .i64 t18) fun t19 =>
  bnd (aBinN .add t16 t19) fun t20 =>
  bnd (aBinN .add t20 (.int .i64 1)) fun t21 =>
  bnd (aBinN .rem t21 (.int .i64 1000003)) fun t22 =>
  bnd (aBinN .add (xs12.tail.headD .any) (.int .i64 1)) fun t23 =>
  ∃ n11, n11 < n10 ∧ Shr (I8 n11 [t22, t23]) H13)
  (Ret R (xs12.headD .any) H13)))
theorem W_s_LsaSum {R : V → Heap → Prop} {a0 : V} {H : Heap} (h : F_s_LsaSum R a0 H) : ACalls P n_s_LsaSum [a0] H R :=
  acalls_of_form (g := ⟨[1], []⟩) (x := (.seq .leaf (.seq (.seq .leaf (.cond (.seq .leaf .leaf) .leaf)) (.seq .leaf (.seq .leaf (.seq (.seq .leaf (.block (.loop [3, 5] (.seq (.seq .leaf (.cond .leaf .leaf)) (.seq (.block .leaf) .leaf))))) (.seq .leaf .leaf))))))) Try.func73 (by kernel_rfl) (by kernel_rfl) (by kernel_rfl) (by kernel_rfl : F_s_LsaSum R a0 H = _) h
def F_i_big (R : V → Heap → Prop) (a0 a1 a2 : V) (H : Heap) : Prop :=
  bnd (aBinN .sub a2 (.int .i64 1)) fun t1 =>
  ∃ (I2 : Nat → List V → Heap → Prop) (n3 : Nat), Shr (I2 n3 [a0, t1]) H ∧
  ∀ n4 xs6 H7, I2 n4 xs6 H7 →
  bnd (aBinN .geq (xs6.tail.headD .any) (.int .i64 0)) fun t8 =>
  cnd t8
  (bnd (aBinN .mul (.int .i64 8) (xs6.tail.headD .any)) fun t9 =>
  bnd (aBinN .shr a1 t9) fun t10 =>
  bnd (aCv .u8 t10) fun t11 =>
  bnd (bsl 1 1 [(.int .u8 0)] [(0, t11)]) fun r12 =>
  ∀ o13, H7 o13 = none →
  bnd (rowsOf (upd H7 o13 ⟨1, r12⟩) 1 (.slice o13 0 1 (some 1))) fun r16 =>
  appendK (upd H7 o13 ⟨1, r12⟩) 1 1 (xs6.headD .any) r16 fun v14 H15 =>
  bnd (aBinN .sub (xs6.tail.headD .any) (.int .i64 1)) fun t17 =>
  ∃ n5, n5 < n4 ∧ Shr (I2 n5 [v14, t17]) H15)
  (Ret R (xs6.headD .any) H7)
theorem W_i_big {R : V → Heap → Prop} {a0 a1 a2 : V} {H : Heap} (h : F_i_big R a0 a1 a2 H) : ACalls P n_i_big [a0, a1, a2] H R :=
  acalls_of_form (g := ⟨[], []⟩) (x := (.seq .leaf (.seq (.seq .leaf (.block (.loop [0, 7] (.seq (.seq .leaf (.cond .leaf .leaf)) (.seq (.block .leaf) .leaf))))) (.seq .leaf .leaf)))) Try.func74 (by kernel_rfl) (by kernel_rfl) (by kernel_rfl) (by kernel_rfl : F_i_big R a0 a1 a2 H = _) h
def F_i_Lsa_bytes (R : V → Heap → Prop) (a0 : V) (H : Heap) : Prop :=
  boxK a0 (bnd (partOf false 1 (cellsOf a0) 0) fun t1 =>
  bnd (aCv .u8 t1) fun t2 =>
  bnd (bsl 1 1 [(.int .u8 0)] [(0, t2)]) fun r3 =>
  ∀ o4, H o4 = none →
  bnd (partOf false 1 (cellsOf a0) 1) fun t5 =>
  ACalls P n_i_big [(.slice o4 0 1 (some 1)), t5, (.int .i64 3)] (upd H o4 ⟨1, r3⟩) fun v6 H7 =>
  bnd (partOf false 1 (cellsOf a0) 3) fun t8 =>
  bnd (lenOf t8) fun n9 =>
  bnd (aCv .u8 (.int .i64 (n9 : Nat))) fun t10 =>
  bnd (bsl 1 1 [(.int .u8 0)] [(0, t10)]) fun r11 =>
  ∀ o12, H7 o12 = none →
  bnd (rowsOf (upd H7 o12 ⟨1, r11⟩) 1 (.slice o12 0 1 (some 1))) fun r15 =>
  appendK (upd H7 o12 ⟨1, r11⟩) 1 1 v6 r15 fun v13 H14 =>
  bnd (partOf false 1 (cellsOf a0) 3) fun t16 =>
  bnd (lenOf t16) fun n17 =>
  ∃ (I18 : Nat → List V → Heap → Prop) (n19 : Nat), Shr (I18 n19 [(.box (cellsOf a0)), v13, (.int .i64 0)]) H14 ∧
  ∀ n20 xs22 H23, I18 n20 xs22 H23 →
  bnd (aBinN .lss (xs22.tail.tail.headD .any) (.int .i64 (n17 : Nat))) fun t24 =>
  cnd t24
  (bnd (aIndex H23 2 t16 (xs22.tail.tail.headD .any)) fun t25 =>
  bnd (aLd true 2 H23 t25) fun t26 =>
  bnd (stz 2 [(.int .i64 0), (.int .i64 0)] 0 t26) fun c27 =>
  bnd (partOf false 1 c27 0) fun t28 =>
  bnd (aCv .u8 t28) fun t29 =>
  bnd (partOf false 1 c27 1) fun t30 =>
  bnd (bsl 1 1 [(.int .u8 0)] [(0, t29)]) fun r31 =>
  ∀ o32, H23 o32 = none →
  bnd (rowsOf (upd H23 o32 ⟨1, r31⟩) 1 (.slice o32 0 1 (some 1))) fun r35 =>
  appendK (upd H23 o32 ⟨1, r31⟩) 1 1 (xs22.tail.headD .any) r35 fun v33 H34 =>
  ACalls P n_i_big [v33, t30, (.int .i64 2)] H34 fun v36 H37 =>
  bnd (aBinN .add (xs22.tail.tail.headD .any) (.int .i64 1)) fun t38 =>
  ∃ n21, n21 < n20 ∧ Shr (I18 n21 [(.box (bc (xs22.headD .any))), v36, t38]) H37)
  (bnd (partOf false 1 (bc (xs22.headD .any)) 4) fun t39 =>
  bnd (lenOf t39) fun n40 =>
  bnd (aCv .u8 (.int .i64 (n40 : Nat))) fun t41 =>
  bnd (bsl 1 1 [(.int .u8 0)] [(0, t41)]) fun r42 =>
  ∀ o43, H23 o43 = none →
  bnd (rowsOf (upd H23 o43 ⟨1, r42⟩) 1 (.slice o43 0 1 (some 1))) fun r46 =>
  appendK (upd H23 o43 ⟨1, r42⟩) 1 1 (xs22.tail.headD .any) r46 fun v44 H45 =>
  bnd (partOf false 1 (bc (xs22.headD .any)) 4) fun t47 =>
  bnd (lenOf t47) fun n48 =>
  ∃ (I49 : Nat → List V → Heap → Prop) (n50 : Nat), Shr (I49 n50 [v44, (.int .i64 0)]) H45 ∧
  ∀ n51 xs53 H54, I49 n51 xs53 H54 →
  bnd (aBinN .lss (xs53.tail.headD .any) (.int .i64 (n48 : Nat))) fun t55 =>
  cnd t55
  (bnd (aIndex H54 3 t47 (xs53.tail.headD .any)) fun t56 =>
  bnd (aLd true 3 H54 t56) fun t57 =>
  bnd (stz 3 [(.int .i64 0), (.int .i64 0), (.int .i64 0)] 0 t57) fun c58 =>
  bnd (partOf false 1 c58 0) fun t59 =>
  ACalls P n_i_big [(xs53.headD .any), t59, (.int .i64 2)] H54 fun v60 H61 =>
  bnd (partOf false 1 c58 1) fun t62 =>
  bnd (aCv .u8 t62) fun t63 =>
  bnd (partOf false 1 c58 2) fun t64 =>
  bnd (bsl 1 1 [(.int .u8 0)] [(0, t63)]) fun r65 =>
  ∀ o66, H61 o66 = none →
  bnd (rowsOf (upd H61 o66 ⟨1, r65⟩) 1 (.slice o66 0 1 (some 1))) fun r69 =>
  appendK (upd H61 o66 ⟨1, r65⟩) 1 1 v60 r69 fun v67 H68 =>
  ACalls P n_i_big [v67, t64, (.int .i64 2)] H68 fun v70 H71 =>
  bnd (aBinN .add (xs53.tail.headD .any) (.int .i64 1)) fun t72 =>
  ∃ n52, n52 < n51 ∧ Shr (I49 n52 [v70, t72]) H71)
  (Ret R (xs53.headD .any) H54)))
theorem W_i_Lsa_bytes {R : V → Heap → Prop} {a0 : V} {H : Heap} (h : F_i_Lsa_bytes R a0 H) : ACalls P n_i_Lsa_bytes [a0] H R :=
  acalls_of_form (g := ⟨[1, 5, 7], [8, 12, 16, 22, 30, 35, 40, 46, 54, 55, 59, 60, 65]⟩) (x := (.seq .leaf (.seq .leaf (.seq .leaf (.seq (.seq .leaf (.block (.loop [1, 3, 25] (.seq .leaf (.seq (.cond .leaf .leaf) (.seq (.block (.seq .leaf (.drawh [0, 1, 2, 3, 6, 7, 4, 5, 8, 9]))) .leaf)))))) (.seq .leaf (.seq (.seq .leaf (.block (.loop [3, 49] (.seq .leaf (.seq (.cond .leaf .leaf) (.seq (.block (.seq .leaf (.seq .leaf (.drawh [0, 1, 2, 3, 4, 7, 8, 5, 6, 9, 10])))) .leaf)))))) (.seq .leaf .leaf)))))))) Try.func75 (by kernel_rfl) (by kernel_rfl) (by kernel_rfl) (by kernel_rfl : F_i_Lsa_bytes R a0 H = _) h
def F_i_Lsa_sum (R : V → Heap → Prop) (a0 : V) (H : Heap) : Prop :=
  boxK a0 (bnd (partOf true 5 (cellsOf a0) 0) fun t1 =>
  ACalls P n_i_Lsa_bytes [t1] H fun v2 H3 =>
  bnd (lenOf v2) fun n4 =>
  ∃ (I5 : Nat → List V → Heap → Prop) (n6 : Nat), Shr (I5 n6 [(.int .i64 1), (.int .i64 0)]) H3 ∧
  ∀ n7 xs9 H10, I5 n7 xs9 H10 →
  bnd (aBinN .lss (xs9.tail.headD .any) (.int .i64 (n4 : Nat))) fun t11 =>
  cnd t11
  (bnd (aIndex H10 1 v2 (xs9.tail.headD .any)) fun t12 =>
  bnd (aLd false 1 H10 t12) fun t13 =>
  bnd (aBinN .mul (.int .i64 257) (xs9.headD .any)) fun t14 =>
  bnd (aCv .i64 t13) fun t15 =>
  bnd (aBinN .add t14 t15) fun t16 =>
  bnd (aBinN .add t16 (.int .i64 1)) fun t17 =>
  bnd (aBinN .rem t17 (.int .i64 1000003)) fun t18 =>
  bnd (aBinN .add (xs9.tail.headD .any) (.int .i64 1)) fun t19 =>
  ∃ n8, n8 < n7 ∧ Shr (I5 n8 [t18, t19]) H10)
  (Ret R (xs9.headD .any) H10))
theorem W_i_Lsa_sum {R : V → Heap → Prop} {a0 : V} {H : Heap} (h : F_i_Lsa_sum R a0 H) : ACalls P n_i_Lsa_sum [a0] H R :=
  acalls_of_form (g := ⟨[1], []⟩) (x := (.seq .leaf (.seq .leaf (.seq (.seq .leaf (.block (.loop [3, 9] (.seq .leaf (.seq (.cond .leaf .leaf) (.seq (.block (.seq .leaf .leaf)) .leaf)))))) (.seq .leaf .leaf))))) Try.func76 (by kernel_rfl) (by kernel_rfl) (by kernel_rfl) (by kernel_rfl : F_i_Lsa_sum R a0 H = _) h
def F_i_areLinks (R : V → Heap → Prop) (a0 a1 : V) (H : Heap) : Prop :=
  bnd (lenOf a1) fun n1 =>
  ∃ (I2 : Nat → List V → Heap → Prop) (n3 : Nat), Shr (I2 n3 [(.int .i64 0)]) H ∧
  ∀ n4 xs6 H7, I2 n4 xs6 H7 →
  bnd (aBinN .lss (xs6.headD .any) (.int .i64 (n1 : Nat))) fun t8 =>
  cnd t8
  (bnd (aIndex H7 2 a1 (xs6.headD .any)) fun t9 =>
  bnd (aLd true 2 H7 t9) fun t10 =>
  bnd (stz 2 [(.int .i64 0), (.int .i64 0)] 0 t10) fun c11 =>
  ∃ S12, Abs.sub S12 H7 ∧
  bnd (partOf false 1 c11 0) fun t13 =>
  ACalls P n_i_within [t13, (.int .i64 0), (.int .i64 9)] H7 fun v14 H15 =>
  Abs.sub S12 H15 ∧
  bnd (aNot v14) fun t16 =>
  gd t16 false
  (bnd (partOf false 1 c11 1) fun t17 =>
  ACalls P n_i_within [t17, (.int .i64 1), (.int .i64 1000)] H15 fun v18 H19 =>
  Abs.sub S12 H19 ∧
  bnd (aNot v18) fun t20 =>
  gd t20 false
  (bnd (partOf false 1 c11 0) fun t21 =>
  bnd (aBinN .eql t21 a0) fun t22 =>
  gd t22 false
  (bnd (aBinN .gtr (xs6.headD .any) (.int .i64 0)) fun t23 =>
  gd3 t23 true
  (bnd (partOf false 1 c11 0) fun t24 =>
  bnd (aBinN .sub (xs6.headD .any) (.int .i64 1)) fun t25 =>
  bnd (aIndex S12 2 a1 t25) fun t26 =>
  bnd (aField 0 t26) fun t27 =>
  bnd (aLd false 1 S12 t27) fun t28 =>
  bnd (aBinN .leq t24 t28) fun t29 =>
  cnd t29
  (Ret R (.bool false) H19)
  (bnd (aBinN .add (xs6.headD .any) (.int .i64 1)) fun t30 =>
  ∃ n5, n5 < n4 ∧ Shr (I2 n5 [t30]) H19))
  (bnd (aBinN .add (xs6.headD .any) (.int .i64 1)) fun t31 =>
  ∃ n5, n5 < n4 ∧ Shr (I2 n5 [t31]) H19)
  (bnd (aPick (.tup []) (.tup []) (.bool false)) fun t32 =>
  cnd t32
  (Ret R (.bool false) H19)
  (bnd (aBinN .add (xs6.headD .any) (.int .i64 1)) fun t33 =>
  ∃ n5, n5 < n4 ∧ Shr (I2 n5 [t33]) H19)))
  (Ret R (.bool false) H19))
  (Ret R (.bool false) H19))
  (Ret R (.bool false) H15))
  (Ret R (.bool true) H7)
theorem W_i_areLinks {R : V → Heap → Prop} {a0 a1 : V} {H : Heap} (h : F_i_areLinks R a0 a1 H) : ACalls P n_i_areLinks [a0, a1] H R :=
  acalls_of_form (g := ⟨[6], [14, 19, 25, 34]⟩) (x := (.seq .leaf (.seq (.seq .leaf (.block (.loop [9] (.seq .leaf (.seq (.cond .leaf .leaf) (.seq (.block (.seq .leaf (.seq (.draw [0, 1, 2, 3, 4, 5, 6, 7, 8, 9, 10, 11, 12, 13, 14, 15, 16, 17, 18, 19, 20, 21, 22, 23, 24, 25, 26, 27, 28, 29, 30]) (.cond (.seq .leaf .leaf) .leaf)))) .leaf)))))) (.seq .leaf .leaf)))) Try.func77 (by kernel_rfl) (by kernel_rfl) (by kernel_rfl) (by kernel_rfl : F_i_areLinks R a0 a1 H = _) h
def F_i_areStubs (R : V → Heap → Prop) (a0 : V) (H : Heap) : Prop :=
  bnd (lenOf a0) fun n1 =>
  ∃ (I2 : Nat → List V → Heap → Prop) (n3 : Nat), Shr (I2 n3 [(.int .i64 0)]) H ∧
  ∀ n4 xs6 H7, I2 n4 xs6 H7 →
  bnd (aBinN .lss (xs6.headD .any) (.int .i64 (n1 : Nat))) fun t8 =>
  cnd t8
  (bnd (aIndex H7 3 a0 (xs6.headD .any)) fun t9 =>
  bnd (aLd true 3 H7 t9) fun t10 =>
  bnd (stz 3 [(.int .i64 0), (.int .i64 0), (.int .i64 0)] 0 t10) fun c11 =>
  ∃ S12, Abs.sub S12 H7 ∧
  bnd (partOf true 2 c11 0) fun t13 =>
  ACalls P n_i_PrefixOk [t13] H7 fun v14 H15 =>
  Abs.sub S12 H15 ∧
  bnd (aNot v14) fun t16 =>
  gd t16 false
  (bnd (partOf false 1 c11 2) fun t17 =>
  ACalls P n_i_within [t17, (.int .i64 1), (.int .i64 1000)] H15 fun v18 H19 =>
  Abs.sub S12 H19 ∧
  bnd (aNot v18) fun t20 =>
  gd t20 false
  (bnd (aBinN .gtr (xs6.headD .any) (.int .i64 0)) fun t21 =>
  gd3 t21 true
  (bnd (aBinN .sub (xs6.headD .any) (.int .i64 1)) fun t22 =>
  bnd (aIndex S12 3 a0 t22) fun t23 =>
  bnd (aField 0 t23) fun t24 =>
  bnd (aLd true 2 S12 t24) fun t25 =>
  bnd (partOf true 2 c11 0) fun t26 =>
  ACalls P n_i_comparePrefixes [t25, t26] H19 fun v27 H28 =>
  Abs.sub S12 H28 ∧
  bnd (aBinN .geq v27 (.int .i64 0)) fun t29 =>
  cnd t29
  (Ret R (.bool false) H28)
  (bnd (aBinN .add (xs6.headD .any) (.int .i64 1)) fun t30 =>
  ∃ n5, n5 < n4 ∧ Shr (I2 n5 [t30]) H28))
  (bnd (aBinN .add (xs6.headD .any) (.int .i64 1)) fun t31 =>
  ∃ n5, n5 < n4 ∧ Shr (I2 n5 [t31]) H19)
  (bnd (aPick (.tup []) (.tup []) (.bool false)) fun t32 =>
  cnd t32
  (Ret R (.bool false) H19)
  (bnd (aBinN .add (xs6.headD .any) (.int .i64 1)) fun t33 =>
  ∃ n5, n5 < n4 ∧ Shr (I2 n5 [t33]) H19)))
  (Ret R (.bool false) H19))
  (Ret R (.bool false) H15))
  (bnd (lenOf a0) fun n34 =>
  bnd (aBinN .leq (.int .i64 (n34 : Nat)) (.int .i64 6)) fun t35 =>
  Ret R t35 H7)
theorem W_i_areStubs {R : V → Heap → Prop} {a0 : V} {H : Heap} (h : F_i_areStubs R a0 H) : ACalls P n_i_areStubs [a0] H R :=
  acalls_of_form (g := ⟨[4], [12, 17, 32]⟩) (x := (.seq .leaf (.seq (.seq .leaf (.block (.loop [7] (.seq .leaf (.seq (.cond .leaf .leaf) (.seq (.block (.seq .leaf (.seq (.draw [0, 1, 2, 3, 4, 5, 6, 7, 8, 9, 10, 11, 12, 13, 14, 15, 16, 17, 18, 19, 20, 21, 22, 23, 24, 25]) (.cond (.seq .leaf .leaf) .leaf)))) .leaf)))))) (.seq .leaf .leaf)))) Try.func78 (by kernel_rfl) (by kernel_rfl) (by kernel_rfl) (by kernel_rfl : F_i_areStubs R a0 H = _) h
def F_l_eqLink (R : V → Heap → Prop) (a0 a1 : V) (H : Heap) : Prop :=
  boxK a0 (boxK a1 (bnd (partOf false 1 (cellsOf a0) 0) fun t1 =>
  bnd (partOf false 1 (cellsOf a1) 0) fun t2 =>
  bnd (aBinN .neq t1 t2) fun t3 =>
  cnd t3
  (Ret R (.bool false) H)
  (bnd (partOf false 1 (cellsOf a0) 1) fun t4 =>
  bnd (partOf false 1 (cellsOf a1) 1) fun t5 =>
  bnd (aBinN .neq t4 t5) fun t6 =>
  cnd t6
  (Ret R (.bool false) H)
  (Ret R (.bool true) H))))
theorem W_l_eqLink {R : V → Heap → Prop} {a0 a1 : V} {H : Heap} (h : F_l_eqLink R a0 a1 H) : ACalls P n_l_eqLink [a0, a1] H R :=
  acalls_of_form (g := ⟨[2, 3], [5, 7, 10, 12]⟩) (x := (.seq .leaf (.seq (.seq .leaf (.cond (.seq .leaf .leaf) .leaf)) (.seq (.seq .leaf (.cond (.seq .leaf .leaf) .leaf)) (.seq .leaf .leaf))))) Try.func79 (by kernel_rfl) (by kernel_rfl) (by kernel_rfl) (by kernel_rfl : F_l_eqLink R a0 a1 H = _) h
def F_l_eqStub (R : V → Heap → Prop) (a0 a1 : V) (H : Heap) : Prop :=
  boxK a0 (boxK a1 (bnd (partOf true 2 (cellsOf a0) 0) fun t1 =>
  bnd (partOf true 2 (cellsOf a1) 0) fun t2 =>
  ACalls P n_l_eqPrefix [t1, t2] H fun v3 H4 =>
  bnd (aNot v3) fun t5 =>
  cnd t5
  (Ret R (.bool false) H4)
  (bnd (partOf false 1 (cellsOf a0) 2) fun t6 =>
  bnd (partOf false 1 (cellsOf a1) 2) fun t7 =>
  bnd (aBinN .neq t6 t7) fun t8 =>
  cnd t8
  (Ret R (.bool false) H4)
  (Ret R (.bool true) H4))))
theorem W_l_eqStub {R : V → Heap → Prop} {a0 a1 : V} {H : Heap} (h : F_l_eqStub R a0 a1 H) : ACalls P n_l_eqStub [a0, a1] H R :=
  acalls_of_form (g := ⟨[2, 3], [5, 7, 11, 13]⟩) (x := (.seq .leaf (.seq (.seq .leaf (.cond (.seq .leaf .leaf) .leaf)) (.seq (.seq .leaf (.cond (.seq .leaf .leaf) .leaf)) (.seq .leaf .leaf))))) Try.func80 (by kernel_rfl) (by kernel_rfl) (by kernel_rfl) (by kernel_rfl : F_l_eqStub R a0 a1 H = _) h
def F_s_l01Addr (R : V → Heap → Prop) (a0 : V) (H : Heap) : Prop :=
  ACalls P n_s_l01In [a0, (.int .i64 0), (.int .i64 65535)] H fun v1 H2 =>
  Ret R v1 H2
theorem W_s_l01Addr {R : V → Heap → Prop} {a0 : V} {H : Heap} (h : F_s_l01Addr R a0 H) : ACalls P n_s_l01Addr [a0] H R :=
  acalls_of_form (g := ⟨[], []⟩) (x := (.seq .leaf (.seq .leaf .leaf))) Try.func92 (by kernel_rfl) (by kernel_rfl) (by kernel_rfl) (by kernel_rfl : F_s_l01Addr R a0 H = _) h
def F_s_l01Size2 (R : V → Heap → Prop) (a0 : V) (H : Heap) : Prop :=
  bnd (aBinN .sub (.int .i64 16) a0) fun t1 =>
  bnd (aCv .u64 t1) fun t2 =>
  bnd (aBinN .shl (.int .i64 1) t2) fun t3 =>
  Ret R t3 H
theorem W_s_l01Size2 {R : V → Heap → Prop} {a0 : V} {H : Heap} (h : F_s_l01Size2 R a0 H) : ACalls P n_s_l01Size2 [a0] H R :=
  acalls_of_form (g := ⟨[], []⟩) (x := (.seq .leaf (.seq .leaf .leaf))) Try.func93 (by kernel_rfl) (by kernel_rfl) (by kernel_rfl) (by kernel_rfl : F_s_l01Size2 R a0 H = _) h
def F_s_l01Bytes (R : V → Heap → Prop) (a0 : V) (H : Heap) : Prop :=
  bnd (bsl 1 0 [(.int .u8 0)] []) fun r1 =>
  ∀ o2, H o2 = none →
  ∃ (I3 : Nat → List V → Heap → Prop) (n4 : Nat), Shr (I3 n4 [(.slice o2 0 0 (some 0)), (.int .i64 0)]) (upd H o2 ⟨1, r1⟩) ∧
  ∀ n5 xs7 H8, I3 n5 xs7 H8 →
  bnd (lenOf a0) fun n9 =>
  bnd (aBinN .lss (xs7.tail.headD .any) (.int .i64 (n9 : Nat))) fun t10 =>
  cnd t10
  (bnd (aIndex H8 1 a0 (xs7.tail.headD .any)) fun t11 =>
  bnd (aLd false 1 H8 t11) fun t12 =>
  bnd (bsl 1 1 [(.int .u8 0)] [(0, t12)]) fun r13 =>
  ∀ o14, H8 o14 = none →
  bnd (rowsOf (upd H8 o14 ⟨1, r13⟩) 1 (.slice o14 0 1 (some 1))) fun r17 =>
  appendK (upd H8 o14 ⟨1, r13⟩) 1 1 (xs7.headD .any) r17 fun v15 H16 =>
  bnd (aBinN .add (xs7.tail.headD .any) (.int .i64 1)) fun t18 =>
  ∃ n6, n6 < n5 ∧ Shr (I3 n6 [v15, t18]) H16)
  (Ret R (xs7.headD .any) H8)
theorem W_s_l01Bytes {R : V → Heap → Prop} {a0 : V} {H : Heap} (h : F_s_l01Bytes R a0 H) : ACalls P n_s_l01Bytes [a0] H R :=
  acalls_of_form (g := ⟨[], []⟩) (x := (.seq .leaf (.seq .leaf (.seq (.seq .leaf (.block (.loop [3, 4] (.seq (.seq .leaf (.cond .leaf .leaf)) (.seq (.block .leaf) .leaf))))) (.seq .leaf .leaf))))) Try.func94 (by kernel_rfl) (by kernel_rfl) (by kernel_rfl) (by kernel_rfl : F_s_l01Bytes R a0 H = _) h
def F_i_PrefixOk (R : V → Heap → Prop) (a0 : V) (H : Heap) : Prop :=
  boxK a0 (∃ S1, Abs.sub S1 H ∧
  bnd (partOf false 1 (cellsOf a0) 1) fun t2 =>
  ACalls P n_i_within [t2, (.int .i64 0), (.int .i64 16)] H fun v3 H4 =>
  Abs.sub S1 H4 ∧
  gd v3 true
  (bnd (partOf false 1 (cellsOf a0) 0) fun t5 =>
  ACalls P n_i_isAddr [t5] H4 fun v6 H7 =>
  Abs.sub S1 H7 ∧
  gd v6 true
  (bnd (partOf false 1 (cellsOf a0) 0) fun t8 =>
  bnd (partOf true 2 (cellsOf a0) 0) fun t9 =>
  ACalls P n_i_Prefix_size [t9] H7 fun v10 H11 =>
  Abs.sub S1 H11 ∧
  bnd (aBinN .rem t8 v10) fun t12 =>
  bnd (aBinN .eql t12 (.int .i64 0)) fun t13 =>
  Ret R t13 H11)
  (Ret R (.bool false) H7))
  (Ret R (.bool false) H4))
theorem W_i_PrefixOk {R : V → Heap → Prop} {a0 : V} {H : Heap} (h : F_i_PrefixOk R a0 H) : ACalls P n_i_PrefixOk [a0] H R :=
  acalls_of_form (g := ⟨[1], [3, 7, 12]⟩) (x := (.seq .leaf (.seq (.draw [0, 1, 2, 3, 4, 5, 6, 7, 8, 9, 10, 11, 12, 13, 14, 15, 16]) .leaf))) Try.func95 (by kernel_rfl) (by kernel_rfl) (by kernel_rfl) (by kernel_rfl : F_i_PrefixOk R a0 H = _) h
def F_i_comparePrefixes (R : V → Heap → Prop) (a0 a1 : V) (H : Heap) : Prop :=
  boxK a0 (boxK a1 (bnd (partOf false 1 (cellsOf a0) 0) fun t1 =>
  bnd (partOf false 1 (cellsOf a1) 0) fun t2 =>
  bnd (aBinN .neq t1 t2) fun t3 =>
  cnd t3
  (bnd (partOf false 1 (cellsOf a0) 0) fun t4 =>
  bnd (partOf false 1 (cellsOf a1) 0) fun t5 =>
  bnd (aBinN .sub t4 t5) fun t6 =>
  Ret R t6 H)
  (bnd (partOf false 1 (cellsOf a0) 1) fun t7 =>
  bnd (partOf false 1 (cellsOf a1) 1) fun t8 =>
  bnd (aBinN .sub t7 t8) fun t9 =>
  Ret R t9 H)))
theorem W_i_comparePrefixes {R : V → Heap → Prop} {a0 a1 : V} {H : Heap} (h : F_i_comparePrefixes R a0 a1 H) : ACalls P n_i_comparePrefixes [a0, a1] H R :=
  acalls_of_form (g := ⟨[2, 3], [5, 7, 10, 12, 15, 17]⟩) (x := (.seq .leaf (.seq (.seq .leaf (.cond (.seq .leaf .leaf) .leaf)) (.seq .leaf .leaf)))) Try.func96 (by kernel_rfl) (by kernel_rfl) (by kernel_rfl) (by kernel_rfl : F_i_comparePrefixes R a0 a1 H = _) h
def F_l_eqPrefix (R : V → Heap → Prop) (a0 a1 : V) (H : Heap) : Prop :=
  boxK a0 (boxK a1 (bnd (partOf false 1 (cellsOf a0) 0) fun t1 =>
  bnd (partOf false 1 (cellsOf a1) 0) fun t2 =>
  bnd (aBinN .neq t1 t2) fun t3 =>
  cnd t3
  (Ret R (.bool false) H)
  (bnd (partOf false 1 (cellsOf a0) 1) fun t4 =>
  bnd (partOf false 1 (cellsOf a1) 1) fun t5 =>
  bnd (aBinN .neq t4 t5) fun t6 =>
  cnd t6
  (Ret R (.bool false) H)
  (Ret R (.bool true) H))))
theorem W_l_eqPrefix {R : V → Heap → Prop} {a0 a1 : V} {H : Heap} (h : F_l_eqPrefix R a0 a1 H) : ACalls P n_l_eqPrefix [a0, a1] H R :=
  acalls_of_form (g := ⟨[2, 3], [5, 7, 10, 12]⟩) (x := (.seq .leaf (.seq (.seq .leaf (.cond (.seq .leaf .leaf) .leaf)) (.seq (.seq .leaf (.cond (.seq .leaf .leaf) .leaf)) (.seq .leaf .leaf))))) Try.func97 (by kernel_rfl) (by kernel_rfl) (by kernel_rfl) (by kernel_rfl : F_l_eqPrefix R a0 a1 H = _) h
def F_i_isAddr (R : V → Heap → Prop) (a0 : V) (H : Heap) : Prop :=
  ACalls P n_i_within [a0, (.int .i64 0), (.int .i64 65535)] H fun v1 H2 =>
  Ret R v1 H2
theorem W_i_isAddr {R : V → Heap → Prop} {a0 : V} {H : Heap} (h : F_i_isAddr R a0 H) : ACalls P n_i_isAddr [a0] H R :=
  acalls_of_form (g := ⟨[], []⟩) (x := (.seq .leaf (.seq .leaf .leaf))) Try.func104 (by kernel_rfl) (by kernel_rfl) (by kernel_rfl) (by kernel_rfl : F_i_isAddr R a0 H = _) h
def F_i_Prefix_size (R : V → Heap → Prop) (a0 : V) (H : Heap) : Prop :=
  boxK a0 (bnd (partOf false 1 (cellsOf a0) 1) fun t1 =>
  bnd (aBinN .sub (.int .i64 16) t1) fun t2 =>
  bnd (aBinN .shl (.int .i64 1) t2) fun t3 =>
  Ret R t3 H)
theorem W_i_Prefix_size {R : V → Heap → Prop} {a0 : V} {H : Heap} (h : F_i_Prefix_size R a0 H) : ACalls P n_i_Prefix_size [a0] H R :=
  acalls_of_form (g := ⟨[1], [3]⟩) (x := (.seq .leaf (.seq .leaf .leaf))) Try.func105 (by kernel_rfl) (by kernel_rfl) (by kernel_rfl) (by kernel_rfl : F_i_Prefix_size R a0 H = _) h
end Go.Proofs.Ytcmpkkcbdmllpac
