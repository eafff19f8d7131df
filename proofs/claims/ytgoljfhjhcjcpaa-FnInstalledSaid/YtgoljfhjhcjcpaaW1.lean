/-
The shallow forms of the functions; printed by a program.
-/
import Derived.Test.YtgoljfhjhcjcpaaAbs3
import Derived.Test.YtgoljfhjhcjcpaaProg
import Derived.KernelRfl
set_option linter.all false
namespace Go.Proofs.Ytgoljfhjhcjcpaa
open Go Go.Abs Go.Proofs
set_option maxRecDepth 100000
noncomputable abbrev P : Program := Try.prog
abbrev n_gosem_cut_init : FuncId := 2
abbrev n_l_FnNewer : FuncId := 3
abbrev n_l_FnMerged : FuncId := 4
abbrev n_l_FnInstalled : FuncId := 5
abbrev n_l_big : FuncId := 6
abbrev n_s_DrawNewer : FuncId := 7
abbrev n_s_Newer : FuncId := 8
abbrev n_i_Newer : FuncId := 9
abbrev n_s_LsaSum : FuncId := 10
abbrev n_i_TakeLsa : FuncId := 11
abbrev n_i_PutLsa : FuncId := 12
abbrev n_i_SameWords : FuncId := 13
abbrev n_i_NextLsa : FuncId := 14
abbrev n_i_LsaSum : FuncId := 15
abbrev n_s_DrawMerge : FuncId := 16
abbrev n_s_DbOk : FuncId := 17
abbrev n_s_SameWords : FuncId := 18
abbrev n_i_Merge : FuncId := 19
abbrev n_i_DbSum : FuncId := 20
abbrev n_s_DrawInstall : FuncId := 21
abbrev n_s_Install : FuncId := 22
abbrev n_i_Install : FuncId := 23
abbrev n_i_FindLsa : FuncId := 24
abbrev n_l_alt : FuncId := 25
abbrev n_s_Merge : FuncId := 26
abbrev n_s_DbSum : FuncId := 27
abbrev n_i_Lacks : FuncId := 28
abbrev n_l_same : FuncId := 29
abbrev n_s_Lacks : FuncId := 30
abbrev n_s_l05DrawOne : FuncId := 31
abbrev n_s_l05DrawLike : FuncId := 32
abbrev n_s_LsaOk : FuncId := 33
abbrev n_s_l05Sign : FuncId := 34
abbrev n_i_LsaOk : FuncId := 35
abbrev n_i_newer : FuncId := 36
abbrev n_s_LsaBytes : FuncId := 37
abbrev n_p_i_taker_take : FuncId := 38
abbrev n_slices_Equal_byte_byte : FuncId := 39
abbrev n_i_big : FuncId := 40
abbrev n_i_Lsa_bytes : FuncId := 41
abbrev n_i_Lsa_sum : FuncId := 42
abbrev n_slices_Equal_i_Link_i_Link : FuncId := 43
abbrev n_slices_Equal_i_Stub_i_Stub : FuncId := 44
abbrev n_slices_Clone_i_Link_i_Link : FuncId := 45
abbrev n_slices_Clone_i_Stub_i_Stub : FuncId := 46
abbrev n_s_l06DrawTwo : FuncId := 47
abbrev n_i_ownDb : FuncId := 48
abbrev n_i_DbOk : FuncId := 49
abbrev n_p_i_Db_install : FuncId := 50
abbrev n_i_Db_sum : FuncId := 51
abbrev n_s_l06Draw : FuncId := 52
abbrev n_s_l06DrawLsa : FuncId := 53
abbrev n_s_l06Copy : FuncId := 54
abbrev n_s_FindLsa : FuncId := 55
abbrev n_s_l05Copy : FuncId := 56
abbrev n_i_Db_find : FuncId := 57
abbrev n_i_ownLsa : FuncId := 58
abbrev n_i_Db_offer : FuncId := 59
abbrev n_s_l01New : FuncId := 60
abbrev n_s_l05DrawLsa : FuncId := 61
abbrev n_s_l01Below : FuncId := 62
abbrev n_s_l01Once : FuncId := 63
abbrev n_s_l05Bend : FuncId := 64
abbrev n_s_l01PickInt : FuncId := 65
abbrev n_s_l01In : FuncId := 66
abbrev n_s_PrefixOk : FuncId := 67
abbrev n_s_l02Ahead : FuncId := 68
abbrev n_i_within : FuncId := 69
abbrev n_i_areLinks : FuncId := 70
abbrev n_i_areStubs : FuncId := 71
abbrev n_cmp_Or_int : FuncId := 72
abbrev n_cmp_Compare_int : FuncId := 73
abbrev n_i_newer_1 : FuncId := 74
abbrev n_s_l01Join : FuncId := 75
abbrev n_s_l05Wide : FuncId := 76
abbrev n_slices_Insert_i_Lsa_i_Lsa : FuncId := 77
abbrev n_s_l06DrawDb : FuncId := 78
abbrev n_s_l01Size : FuncId := 79
abbrev n_slices_BinarySearchFunc_i_Lsa_i_Lsa_int : FuncId := 80
abbrev n_i_Db_find_1 : FuncId := 81
abbrev n_s_l05DrawLinks : FuncId := 82
abbrev n_s_l05DrawStubs : FuncId := 83
abbrev n_s_l01Byte : FuncId := 84
abbrev n_s_l01DrawPrefix : FuncId := 85
abbrev n_s_l01Addr : FuncId := 86
abbrev n_s_l01Size2 : FuncId := 87
abbrev n_i_PrefixOk : FuncId := 88
abbrev n_i_comparePrefixes : FuncId := 89
abbrev n_cmp_isNaN_int : FuncId := 90
abbrev n_s_l01Bytes : FuncId := 91
abbrev n_slices_overlaps_i_Lsa : FuncId := 92
abbrev n_slices_rotateRight_i_Lsa : FuncId := 93
abbrev n_s_l03DrawGraph : FuncId := 94
abbrev n_s_PutRoute : FuncId := 95
abbrev n_i_isAddr : FuncId := 96
abbrev n_i_Prefix_size : FuncId := 97
abbrev n_slices_rotateLeft_i_Lsa : FuncId := 98
abbrev n_s_l03Put : FuncId := 99
abbrev n_s_TableOk : FuncId := 100
abbrev n_s_l02Copy : FuncId := 101
abbrev n_s_l02Less : FuncId := 102
abbrev n_slices_Reverse_i_Lsa_i_Lsa : FuncId := 103
def F_l_FnNewer (R : V → Heap → Prop) (a0 : V) (H : Heap) : Prop :=
  ACalls P n_l_big [a0] H fun v1 H2 =>
  cnd v1
  (Ret R (.bool true) H2)
  (ACalls P n_s_DrawNewer [a0] H2 fun v3 H4 =>
  bnd (aExtract 0 v3) fun t5 =>
  bnd (aExtract 1 v3) fun t6 =>
  bnd (stz 5 [(.int .i64 0), (.int .i64 0), (.int .i64 0), .nils, .nils] 0 t5) fun c7 =>
  bnd (stz 5 [(.int .i64 0), (.int .i64 0), (.int .i64 0), .nils, .nils] 0 t6) fun c8 =>
  bnd (partOf true 5 c7 0) fun t9 =>
  bnd (partOf true 5 c8 0) fun t10 =>
  ACalls P n_s_Newer [t9, t10] H4 fun v11 H12 =>
  bnd (partOf true 5 c7 0) fun t13 =>
  bnd (partOf true 5 c8 0) fun t14 =>
  ACalls P n_i_Newer [t13, t14] H12 fun v15 H16 =>
  bnd (aBinN .neq v15 v11) fun t17 =>
  cnd t17
  (Ret R (.bool false) H16)
  (bnd (aBinN .eql v11 (.int .i64 (-2))) fun t18 =>
  cnd t18
  (Ret R (.bool true) H16)
  (∃ J19 : List V → Heap → Prop,
  (∃ S22, Abs.sub S22 H16 ∧
  bnd (partOf true 5 c8 0) fun t23 =>
  bnd (partOf true 5 c7 0) fun t24 =>
  bnd (aNeg v11) fun t25 =>
  ACalls P n_i_Newer [t23, t24] H16 fun v26 H27 =>
  Abs.sub S22 H27 ∧
  bnd (aBinN .neq v26 t25) fun t28 =>
  gd t28 false
  (bnd (partOf true 5 c7 0) fun t29 =>
  bnd (partOf true 5 c7 0) fun t30 =>
  ACalls P n_i_Newer [t29, t30] H27 fun v31 H32 =>
  Abs.sub S22 H32 ∧
  bnd (aBinN .neq v31 (.int .i64 0)) fun t33 =>
  gd t33 false
  (bnd (partOf false 1 c7 1) fun t34 =>
  bnd (partOf false 1 c8 1) fun t35 =>
  bnd (aBinN .neq t34 t35) fun t36 =>
  gd3 t36 false
  (bnd (partOf true 5 c7 0) fun t37 =>
  bnd (partOf true 5 c8 0) fun t38 =>
  ACalls P n_s_LsaSum [t37] H32 fun v39 H40 =>
  Abs.sub S22 H40 ∧
  ACalls P n_s_LsaSum [t38] H40 fun v41 H42 =>
  Abs.sub S22 H42 ∧
  bnd (aBinN .neq v39 v41) fun t43 =>
  gd3 t43 true
  (bnd (aBinN .eql v11 (.int .i64 0)) fun t44 =>
  cnd t44
  (Ret R (.bool false) H42)
  (Shr (J19 []) H42))
  (Shr (J19 []) H42)
  (bnd (aPick (.tup []) (.tup []) (.bool false)) fun t45 =>
  cnd t45
  (Ret R (.bool false) H42)
  (Shr (J19 []) H42)))
  (bnd (aBinN .eql v11 (.int .i64 0)) fun t46 =>
  cnd t46
  (Ret R (.bool false) H32)
  (Shr (J19 []) H32))
  (bnd (aPick (.tup []) (.bool true) (.tup [])) fun t47 =>
  gd3 t47 true
  (bnd (aBinN .eql v11 (.int .i64 0)) fun t48 =>
  cnd t48
  (Ret R (.bool false) H32)
  (Shr (J19 []) H32))
  (Shr (J19 []) H32)
  (bnd (aPick (.tup []) (.tup []) (.bool false)) fun t49 =>
  cnd t49
  (Ret R (.bool false) H32)
  (Shr (J19 []) H32))))
  (Ret R (.bool false) H32))
  (Ret R (.bool false) H27)) ∧
  ∀ xs20 H21, J19 xs20 H21 →
  bnd (partOf true 5 c7 0) fun t50 =>
  ACalls P n_i_PutLsa [t50] H21 fun v51 H52 =>
  ACalls P n_i_TakeLsa [v51] H52 fun v53 H54 =>
  bnd (aExtract 0 v53) fun t55 =>
  bnd (aExtract 1 v53) fun t56 =>
  bnd (stz 5 [(.int .i64 0), (.int .i64 0), (.int .i64 0), .nils, .nils] 0 t55) fun c57 =>
  ∃ J58 : List V → Heap → Prop,
  (bnd (aNot t56) fun t61 =>
  gd t61 false
  (bnd (partOf true 5 c57 0) fun t62 =>
  bnd (partOf true 5 c7 0) fun t63 =>
  ACalls P n_i_SameWords [t62, t63] H54 fun v64 H65 =>
  bnd (aNot v64) fun t66 =>
  gd t66 false
  (bnd (partOf false 1 c57 1) fun t67 =>
  bnd (partOf false 1 c7 1) fun t68 =>
  bnd (aBinN .neq t67 t68) fun t69 =>
  gd t69 false
  (bnd (partOf false 1 c57 2) fun t70 =>
  bnd (partOf false 1 c7 2) fun t71 =>
  bnd (aBinN .neq t70 t71) fun t72 =>
  cnd t72
  (Ret R (.bool false) H65)
  (Shr (J58 []) H65))
  (Ret R (.bool false) H65))
  (Ret R (.bool false) H65))
  (Ret R (.bool false) H54)) ∧
  ∀ xs59 H60, J58 xs59 H60 →
  bnd (partOf true 5 c7 0) fun t73 =>
  bnd (partOf false 1 c8 3) fun t74 =>
  bnd (partOf false 1 c8 4) fun t75 =>
  ACalls P n_i_NextLsa [t73, t74, t75] H60 fun v76 H77 =>
  bnd (aExtract 0 v76) fun t78 =>
  bnd (aExtract 1 v76) fun t79 =>
  bnd (stz 5 [(.int .i64 0), (.int .i64 0), (.int .i64 0), .nils, .nils] 0 t78) fun c80 =>
  bnd (partOf false 1 c7 1) fun t81 =>
  bnd (aBinN .eql t81 (.int .i64 1000000)) fun t82 =>
  cnd t82
  (bnd (aNot t79) fun t83 =>
  Ret R t83 H77)
  (∃ S84, Abs.sub S84 H77 ∧
  gd t79 true
  (bnd (partOf true 5 c80 0) fun t85 =>
  bnd (partOf true 5 c7 0) fun t86 =>
  ACalls P n_i_Newer [t85, t86] H77 fun v87 H88 =>
  Abs.sub S84 H88 ∧
  bnd (aBinN .eql v87 (.int .i64 1)) fun t89 =>
  gd t89 true
  (bnd (partOf true 5 c80 0) fun t90 =>
  bnd (partOf true 5 c80 0) fun t91 =>
  ACalls P n_i_LsaSum [t90] H88 fun v92 H93 =>
  Abs.sub S84 H93 ∧
  ACalls P n_s_LsaSum [t91] H93 fun v94 H95 =>
  Abs.sub S84 H95 ∧
  bnd (aBinN .eql v92 v94) fun t96 =>
  Ret R t96 H95)
  (Ret R (.bool false) H88))
  (Ret R (.bool false) H77)))))
theorem W_l_FnNewer {R : V → Heap → Prop} {a0 : V} {H : Heap} (h : F_l_FnNewer R a0 H) : ACalls P n_l_FnNewer [a0] H R :=
  acalls_of_form (g := ⟨[3, 4, 6, 8], [40, 42, 72, 74, 79, 81, 87, 89, 94]⟩) (x := (.seq .leaf (.seq (.seq .leaf (.cond (.seq .leaf .leaf) .leaf)) (.seq .leaf (.seq .leaf (.seq (.seq .leaf (.cond (.seq .leaf .leaf) .leaf)) (.seq (.seq .leaf (.cond (.seq .leaf .leaf) .leaf)) (.seqc (.seq (.draw [0, 1, 3, 4, 2, 5, 6, 7, 8, 9, 10, 11, 12, 13, 14, 15, 16, 17, 18, 19, 21, 20, 22, 23, 24, 25, 26, 27, 28, 29]) (.cond (.seq .leaf .leaf) .leaf)) (.seq .leaf (.seqc (.seq .leaf (.cond (.seq .leaf .leaf) .leaf)) (.seq .leaf (.seq (.seq .leaf (.cond (.seq .leaf .leaf) .leaf)) (.seq (.draw [0, 1, 2, 3, 4, 5, 6, 7, 8, 10, 9, 11, 12, 13, 14]) .leaf))) [])) [])))))))) Try.func3 (by kernel_rfl) (by kernel_rfl) (by kernel_rfl) (by kernel_rfl : F_l_FnNewer R a0 H = _) h
def F_l_FnMerged (R : V → Heap → Prop) (a0 : V) (H : Heap) : Prop :=
  ACalls P n_l_big [a0] H fun v1 H2 =>
  cnd v1
  (Ret R (.bool true) H2)
  (ACalls P n_s_DrawMerge [a0] H2 fun v3 H4 =>
  bnd (aExtract 0 v3) fun t5 =>
  bnd (aExtract 1 v3) fun t6 =>
  bnd (stz 1 [.nils] 0 t5) fun c7 =>
  bnd (stz 1 [.nils] 0 t6) fun c8 =>
  bnd (partOf true 1 c7 0) fun t9 =>
  ACalls P n_s_DbOk [t9] H4 fun v10 H11 =>
  bnd (aNot v10) fun t12 =>
  gd t12 false
  (bnd (partOf true 1 c8 0) fun t13 =>
  ACalls P n_s_DbOk [t13] H11 fun v14 H15 =>
  bnd (aNot v14) fun t16 =>
  cnd t16
  (Ret R (.bool true) H15)
  (∃ (I17 : Nat → List V → Heap → Prop) (n18 : Nat), Shr (I17 n18 [(.int .i64 0)]) H15 ∧
  ∀ n19 xs21 H22, I17 n19 xs21 H22 →
  bnd (partOf false 1 c7 0) fun t23 =>
  bnd (lenOf t23) fun n24 =>
  bnd (aBinN .lss (xs21.headD .any) (.int .i64 (n24 : Nat))) fun t25 =>
  cnd t25
  (bnd (partOf false 1 c7 0) fun t26 =>
  bnd (aIndex H22 5 t26 (xs21.headD .any)) fun t27 =>
  bnd (aField 2 t27) fun t28 =>
  bnd (aLd false 1 H22 t28) fun t29 =>
  bnd (aBinN .eql t29 (.int .i64 60)) fun t30 =>
  cnd t30
  (Ret R (.bool true) H22)
  (∃ (I31 : Nat → List V → Heap → Prop) (n32 : Nat), Shr (I31 n32 [(.int .i64 0)]) H22 ∧
  ∀ n33 xs35 H36, I31 n33 xs35 H36 →
  bnd (partOf false 1 c8 0) fun t37 =>
  bnd (lenOf t37) fun n38 =>
  bnd (aBinN .lss (xs35.headD .any) (.int .i64 (n38 : Nat))) fun t39 =>
  cnd t39
  (∃ S40, Abs.sub S40 H36 ∧
  bnd (partOf false 1 c8 0) fun t41 =>
  bnd (aIndex S40 5 t41 (xs35.headD .any)) fun t42 =>
  bnd (aField 2 t42) fun t43 =>
  bnd (aLd false 1 S40 t43) fun t44 =>
  bnd (aBinN .eql t44 (.int .i64 60)) fun t45 =>
  gd t45 false
  (bnd (partOf false 1 c7 0) fun t46 =>
  bnd (aIndex S40 5 t46 (xs21.headD .any)) fun t47 =>
  bnd (aField 0 t47) fun t48 =>
  bnd (aLd false 1 S40 t48) fun t49 =>
  bnd (partOf false 1 c8 0) fun t50 =>
  bnd (aIndex S40 5 t50 (xs35.headD .any)) fun t51 =>
  bnd (aField 0 t51) fun t52 =>
  bnd (aLd false 1 S40 t52) fun t53 =>
  bnd (aBinN .eql t49 t53) fun t54 =>
  gd3 t54 true
  (bnd (partOf false 1 c7 0) fun t55 =>
  bnd (aIndex S40 5 t55 (xs21.headD .any)) fun t56 =>
  bnd (aField 1 t56) fun t57 =>
  bnd (aLd false 1 S40 t57) fun t58 =>
  bnd (partOf false 1 c8 0) fun t59 =>
  bnd (aIndex S40 5 t59 (xs35.headD .any)) fun t60 =>
  bnd (aField 1 t60) fun t61 =>
  bnd (aLd false 1 S40 t61) fun t62 =>
  bnd (aBinN .eql t58 t62) fun t63 =>
  gd3 t63 true
  (bnd (partOf false 1 c7 0) fun t64 =>
  bnd (aIndex S40 5 t64 (xs21.headD .any)) fun t65 =>
  bnd (aLd true 5 S40 t65) fun t66 =>
  bnd (partOf false 1 c8 0) fun t67 =>
  bnd (aIndex S40 5 t67 (xs35.headD .any)) fun t68 =>
  bnd (aLd true 5 S40 t68) fun t69 =>
  ACalls P n_s_SameWords [t66, t69] H36 fun v70 H71 =>
  Abs.sub S40 H71 ∧
  bnd (aNot v70) fun t72 =>
  cnd t72
  (Ret R (.bool true) H71)
  (bnd (aBinN .add (xs35.headD .any) (.int .i64 1)) fun t73 =>
  ∃ n34, n34 < n33 ∧ Shr (I31 n34 [t73]) H71))
  (bnd (aBinN .add (xs35.headD .any) (.int .i64 1)) fun t74 =>
  ∃ n34, n34 < n33 ∧ Shr (I31 n34 [t74]) H36)
  (bnd (aPick (.tup []) (.tup []) (.bool false)) fun t75 =>
  cnd t75
  (Ret R (.bool true) H36)
  (bnd (aBinN .add (xs35.headD .any) (.int .i64 1)) fun t76 =>
  ∃ n34, n34 < n33 ∧ Shr (I31 n34 [t76]) H36)))
  (bnd (aBinN .add (xs35.headD .any) (.int .i64 1)) fun t77 =>
  ∃ n34, n34 < n33 ∧ Shr (I31 n34 [t77]) H36)
  (bnd (aPick (.tup []) (.tup []) (.bool false)) fun t78 =>
  gd3 t78 true
  (bnd (partOf false 1 c7 0) fun t79 =>
  bnd (aIndex S40 5 t79 (xs21.headD .any)) fun t80 =>
  bnd (aLd true 5 S40 t80) fun t81 =>
  bnd (partOf false 1 c8 0) fun t82 =>
  bnd (aIndex S40 5 t82 (xs35.headD .any)) fun t83 =>
  bnd (aLd true 5 S40 t83) fun t84 =>
  ACalls P n_s_SameWords [t81, t84] H36 fun v85 H86 =>
  Abs.sub S40 H86 ∧
  bnd (aNot v85) fun t87 =>
  cnd t87
  (Ret R (.bool true) H86)
  (bnd (aBinN .add (xs35.headD .any) (.int .i64 1)) fun t88 =>
  ∃ n34, n34 < n33 ∧ Shr (I31 n34 [t88]) H86))
  (bnd (aBinN .add (xs35.headD .any) (.int .i64 1)) fun t89 =>
  ∃ n34, n34 < n33 ∧ Shr (I31 n34 [t89]) H36)
  (bnd (aPick (.tup []) (.tup []) (.bool false)) fun t90 =>
  cnd t90
  (Ret R (.bool true) H36)
  (bnd (aBinN .add (xs35.headD .any) (.int .i64 1)) fun t91 =>
  ∃ n34, n34 < n33 ∧ Shr (I31 n34 [t91]) H36))))
  (Ret R (.bool true) H36))
  (bnd (aBinN .add (xs21.headD .any) (.int .i64 1)) fun t92 =>
  ∃ n20, n20 < n19 ∧ Shr (I17 n20 [t92]) H36)))
  (∃ (I93 : Nat → List V → Heap → Prop) (n94 : Nat), Shr (I93 n94 [(.int .i64 0)]) H22 ∧
  ∀ n95 xs97 H98, I93 n95 xs97 H98 →
  bnd (partOf false 1 c8 0) fun t99 =>
  bnd (lenOf t99) fun n100 =>
  bnd (aBinN .lss (xs97.headD .any) (.int .i64 (n100 : Nat))) fun t101 =>
  cnd t101
  (bnd (partOf false 1 c8 0) fun t102 =>
  bnd (aIndex H98 5 t102 (xs97.headD .any)) fun t103 =>
  bnd (aField 2 t103) fun t104 =>
  bnd (aLd false 1 H98 t104) fun t105 =>
  bnd (aBinN .eql t105 (.int .i64 60)) fun t106 =>
  cnd t106
  (Ret R (.bool true) H98)
  (bnd (aBinN .add (xs97.headD .any) (.int .i64 1)) fun t107 =>
  ∃ n96, n96 < n95 ∧ Shr (I93 n96 [t107]) H98))
  (bnd (partOf true 1 c7 0) fun t108 =>
  bnd (partOf true 1 c8 0) fun t109 =>
  ACalls P n_i_Merge [t108, t109] H98 fun v110 H111 =>
  bnd (aExtract 0 v110) fun t112 =>
  bnd (aExtract 1 v110) fun t113 =>
  bnd (stz 1 [.nils] 0 t112) fun c114 =>
  bnd (partOf true 1 c8 0) fun t115 =>
  bnd (partOf true 1 c7 0) fun t116 =>
  ACalls P n_i_Merge [t115, t116] H111 fun v117 H118 =>
  bnd (aExtract 0 v117) fun t119 =>
  bnd (aExtract 1 v117) fun t120 =>
  bnd (stz 1 [.nils] 0 t119) fun c121 =>
  ∃ S122, Abs.sub S122 H118 ∧
  gd t113 true
  (gd t120 true
  (bnd (partOf false 1 c114 0) fun t123 =>
  bnd (lenOf t123) fun n124 =>
  bnd (partOf false 1 c121 0) fun t125 =>
  bnd (lenOf t125) fun n126 =>
  bnd (aBinN .eql (.int .i64 (n124 : Nat)) (.int .i64 (n126 : Nat))) fun t127 =>
  gd t127 true
  (bnd (partOf true 1 c114 0) fun t128 =>
  bnd (partOf true 1 c121 0) fun t129 =>
  ACalls P n_i_DbSum [t128] H118 fun v130 H131 =>
  Abs.sub S122 H131 ∧
  ACalls P n_i_DbSum [t129] H131 fun v132 H133 =>
  Abs.sub S122 H133 ∧
  bnd (aBinN .eql v130 v132) fun t134 =>
  Ret R t134 H133)
  (Ret R (.bool false) H118))
  (Ret R (.bool false) H118))
  (Ret R (.bool false) H118)))))
  (Ret R (.bool true) H11))
theorem W_l_FnMerged {R : V → Heap → Prop} {a0 : V} {H : Heap} (h : F_l_FnMerged R a0 H) : ACalls P n_l_FnMerged [a0] H R :=
  acalls_of_form (g := ⟨[3, 4, 8, 10], [28, 34, 42, 48, 56, 62, 70, 76, 85, 90, 100, 106, 130, 133]⟩) (x := (.seq .leaf (.seq (.seq .leaf (.cond (.seq .leaf .leaf) .leaf)) (.seq .leaf (.seq (.seq .leaf (.cond (.seq .leaf .leaf) .leaf)) (.seq (.seq .leaf (.block (.loop [5] (.seq (.seq .leaf (.cond .leaf .leaf)) (.seq (.block (.seq (.seq .leaf (.cond (.seq .leaf .leaf) .leaf)) (.seq .leaf (.block (.loop [6] (.seq (.seq .leaf (.cond .leaf .leaf)) (.seq (.block (.seq (.draw [0, 1, 2, 3, 4, 5, 6, 7, 8, 9, 10, 11, 12, 13, 14, 15, 16, 17, 18, 19, 20, 21, 22, 23, 24, 25, 26, 27, 28, 29, 30, 31, 32, 33, 34, 35, 36, 37, 38, 39, 40, 41, 42, 43, 44, 45, 46, 47, 48, 49, 50]) (.cond (.seq .leaf .leaf) .leaf))) .leaf))))))) .leaf))))) (.seq (.seq .leaf (.block (.loop [7] (.seq (.seq .leaf (.cond .leaf .leaf)) (.seq (.block (.seq .leaf (.cond (.seq .leaf .leaf) .leaf))) .leaf))))) (.seq .leaf (.seq .leaf (.seq (.draw [0, 1, 2, 3, 4, 5, 6, 7, 8, 9, 10, 11, 12, 13, 14, 16, 15, 17, 18, 19, 20]) .leaf)))))))))) Try.func4 (by kernel_rfl) (by kernel_rfl) (by kernel_rfl) (by kernel_rfl : F_l_FnMerged R a0 H = _) h
def F_l_FnInstalled (R : V → Heap → Prop) (a0 : V) (H : Heap) : Prop :=
  ACalls P n_l_big [a0] H fun v1 H2 =>
  cnd v1
  (Ret R (.bool true) H2)
  (ACalls P n_s_DrawInstall [a0] H2 fun v3 H4 =>
  bnd (aExtract 0 v3) fun t5 =>
  bnd (aExtract 1 v3) fun t6 =>
  bnd (stz 1 [.nils] 0 t5) fun c7 =>
  bnd (stz 5 [(.int .i64 0), (.int .i64 0), (.int .i64 0), .nils, .nils] 0 t6) fun c8 =>
  bnd (partOf true 1 c7 0) fun t9 =>
  bnd (partOf true 5 c8 0) fun t10 =>
  ACalls P n_s_Install [t9, t10] H4 fun v11 H12 =>
  bnd (aExtract 0 v11) fun t13 =>
  bnd (aExtract 1 v11) fun t14 =>
  bnd (stz 1 [.nils] 0 t13) fun c15 =>
  bnd (partOf true 1 c7 0) fun t16 =>
  bnd (partOf true 5 c8 0) fun t17 =>
  ACalls P n_i_Install [t16, t17] H12 fun v18 H19 =>
  bnd (aExtract 0 v18) fun t20 =>
  bnd (aExtract 1 v18) fun t21 =>
  bnd (stz 1 [.nils] 0 t20) fun c22 =>
  bnd (aBinN .neq t21 t14) fun t23 =>
  gd t23 false
  (bnd (partOf false 1 c22 0) fun t24 =>
  bnd (lenOf t24) fun n25 =>
  bnd (partOf false 1 c7 0) fun t26 =>
  bnd (lenOf t26) fun n27 =>
  bnd (aBinN .lss (.int .i64 (n25 : Nat)) (.int .i64 (n27 : Nat))) fun t28 =>
  cnd t28
  (Ret R (.bool false) H19)
  (∃ J29 : List V → Heap → Prop,
  (bnd (aBinN .eql t14 (.int .i64 0)) fun t32 =>
  cnd t32
  (bnd (partOf true 1 c22 0) fun t33 =>
  bnd (partOf false 1 c8 0) fun t34 =>
  ACalls P n_i_FindLsa [t33, t34] H19 fun v35 H36 =>
  bnd (aExtract 0 v35) fun t37 =>
  bnd (aExtract 1 v35) fun t38 =>
  bnd (stz 5 [(.int .i64 0), (.int .i64 0), (.int .i64 0), .nils, .nils] 0 t37) fun c39 =>
  bnd (partOf true 1 c22 0) fun t40 =>
  bnd (partOf true 5 c8 0) fun t41 =>
  ACalls P n_i_Install [t40, t41] H36 fun v42 H43 =>
  bnd (aExtract 0 v42) fun t44 =>
  bnd (aExtract 1 v42) fun t45 =>
  bnd (stz 1 [.nils] 0 t44) fun c46 =>
  bnd (aNot t38) fun t47 =>
  gd t47 false
  (bnd (partOf true 5 c39 0) fun t48 =>
  bnd (partOf true 5 c8 0) fun t49 =>
  ACalls P n_i_SameWords [t48, t49] H43 fun v50 H51 =>
  bnd (aNot v50) fun t52 =>
  gd t52 false
  (bnd (partOf false 1 c39 1) fun t53 =>
  bnd (partOf false 1 c8 1) fun t54 =>
  bnd (aBinN .neq t53 t54) fun t55 =>
  gd t55 false
  (bnd (aBinN .neq t45 (.int .i64 1)) fun t56 =>
  cnd t56
  (Ret R (.bool false) H51)
  (Shr (J29 []) H51))
  (Ret R (.bool false) H51))
  (Ret R (.bool false) H51))
  (Ret R (.bool false) H43))
  (Shr (J29 []) H19)) ∧
  ∀ xs30 H31, J29 xs30 H31 →
  ACalls P n_l_alt [a0, (.int .i64 2)] H31 fun v57 H58 =>
  ACalls P n_s_DrawMerge [v57] H58 fun v59 H60 =>
  bnd (aExtract 0 v59) fun t61 =>
  bnd (aExtract 1 v59) fun t62 =>
  bnd (stz 1 [.nils] 0 t61) fun c63 =>
  bnd (stz 1 [.nils] 0 t62) fun c64 =>
  bnd (partOf true 1 c63 0) fun t65 =>
  bnd (partOf true 1 c64 0) fun t66 =>
  ACalls P n_i_Merge [t65, t66] H60 fun v67 H68 =>
  bnd (aExtract 0 v67) fun t69 =>
  bnd (aExtract 1 v67) fun t70 =>
  bnd (stz 1 [.nils] 0 t69) fun c71 =>
  bnd (partOf true 1 c63 0) fun t72 =>
  bnd (partOf true 1 c64 0) fun t73 =>
  ACalls P n_s_Merge [t72, t73] H68 fun v74 H75 =>
  bnd (aExtract 0 v74) fun t76 =>
  bnd (aExtract 1 v74) fun t77 =>
  bnd (stz 1 [.nils] 0 t76) fun c78 =>
  ∃ S79, Abs.sub S79 H75 ∧
  bnd (aBinB .neq t70 t77) fun t80 =>
  gd t80 false
  (bnd (partOf true 1 c71 0) fun t81 =>
  bnd (partOf true 1 c78 0) fun t82 =>
  ACalls P n_i_DbSum [t81] H75 fun v83 H84 =>
  Abs.sub S79 H84 ∧
  ACalls P n_s_DbSum [t82] H84 fun v85 H86 =>
  Abs.sub S79 H86 ∧
  bnd (aBinN .neq v83 v85) fun t87 =>
  cnd t87
  (Ret R (.bool false) H86)
  (bnd (aNot t77) fun t88 =>
  cnd t88
  (Ret R (.bool true) H86)
  (bnd (partOf true 1 c63 0) fun t89 =>
  bnd (partOf true 1 c64 0) fun t90 =>
  ACalls P n_i_Lacks [t89, t90] H86 fun v91 H92 =>
  bnd (partOf true 1 c63 0) fun t93 =>
  bnd (partOf true 1 c64 0) fun t94 =>
  ACalls P n_s_Lacks [t93, t94] H92 fun v95 H96 =>
  ACalls P n_l_same [v91, v95] H96 fun v97 H98 =>
  bnd (aNot v97) fun t99 =>
  gd t99 false
  (bnd (partOf true 1 c71 0) fun t100 =>
  bnd (partOf true 1 c64 0) fun t101 =>
  ACalls P n_i_Lacks [t100, t101] H98 fun v102 H103 =>
  bnd (lenOf v102) fun n104 =>
  bnd (aBinN .neq (.int .i64 (n104 : Nat)) (.int .i64 0)) fun t105 =>
  cnd t105
  (Ret R (.bool false) H103)
  (∃ S106, Abs.sub S106 H103 ∧
  bnd (lenOf v91) fun n107 =>
  bnd (aBinN .gtr (.int .i64 (n107 : Nat)) (.int .i64 0)) fun t108 =>
  gd t108 false
  (bnd (partOf true 1 c71 0) fun t109 =>
  bnd (partOf true 1 c63 0) fun t110 =>
  ACalls P n_i_DbSum [t109] H103 fun v111 H112 =>
  Abs.sub S106 H112 ∧
  ACalls P n_i_DbSum [t110] H112 fun v113 H114 =>
  Abs.sub S106 H114 ∧
  bnd (aBinN .eql v111 v113) fun t115 =>
  Ret R t115 H114)
  (Ret R (.bool true) H103)))
  (Ret R (.bool false) H98))))
  (Ret R (.bool false) H75)))
  (Ret R (.bool false) H19))
theorem W_l_FnInstalled {R : V → Heap → Prop} {a0 : V} {H : Heap} (h : F_l_FnInstalled R a0 H) : ACalls P n_l_FnInstalled [a0] H R :=
  acalls_of_form (g := ⟨[3, 4, 5, 7, 9, 11, 13, 14, 15, 17], [43, 46, 55, 75, 77]⟩) (x := (.seq .leaf (.seq (.seq .leaf (.cond (.seq .leaf .leaf) .leaf)) (.seq .leaf (.seq .leaf (.seq .leaf (.seq (.seq .leaf (.cond (.seq .leaf .leaf) .leaf)) (.seqc (.seq .leaf (.cond (.seq .leaf (.seq .leaf (.seq .leaf (.cond (.seq .leaf .leaf) .leaf)))) .leaf)) (.seq .leaf (.seq .leaf (.seq .leaf (.seq (.seq (.draw [0, 1, 2, 3, 4, 6, 5, 7, 8, 9]) (.cond (.seq .leaf .leaf) .leaf)) (.seq (.seq .leaf (.cond (.seq .leaf .leaf) .leaf)) (.seq .leaf (.seq (.seq .leaf (.cond (.seq .leaf .leaf) .leaf)) (.seq (.draw [0, 1, 2, 3, 4, 6, 5, 7, 8, 9, 10]) .leaf)))))))) [])))))))) Try.func5 (by kernel_rfl) (by kernel_rfl) (by kernel_rfl) (by kernel_rfl : F_l_FnInstalled R a0 H = _) h
def F_l_big (R : V → Heap → Prop) (a0 : V) (H : Heap) : Prop :=
  bnd (lenOf a0) fun n1 =>
  bnd (aBinN .gtr (.int .i64 (n1 : Nat)) (.int .i64 1048576)) fun t2 =>
  Ret R t2 H
theorem W_l_big {R : V → Heap → Prop} {a0 : V} {H : Heap} (h : F_l_big R a0 H) : ACalls P n_l_big [a0] H R :=
  acalls_of_form (g := ⟨[], []⟩) (x := (.seq .leaf (.seq .leaf .leaf))) Try.func6 (by kernel_rfl) (by kernel_rfl) (by kernel_rfl) (by kernel_rfl : F_l_big R a0 H = _) h
def F_s_DrawNewer (R : V → Heap → Prop) (a0 : V) (H : Heap) : Prop :=
  ACalls P n_s_l05DrawOne [a0] H fun v1 H2 =>
  bnd (aExtract 0 v1) fun t3 =>
  bnd (aExtract 1 v1) fun t4 =>
  bnd (stz 5 [(.int .i64 0), (.int .i64 0), (.int .i64 0), .nils, .nils] 0 t4) fun c5 =>
  ∃ S6, Abs.sub S6 H2 ∧
  bnd (partOf true 5 c5 0) fun t7 =>
  bnd (partOf true 5 c5 0) fun t8 =>
  ACalls P n_s_l05DrawLike [t3, t8] H2 fun v9 H10 =>
  Abs.sub S6 H10 ∧
  bnd (stz 5 [(.int .i64 0), (.int .i64 0), (.int .i64 0), .nils, .nils] 0 t7) fun c11 =>
  bnd (stz 5 [(.int .i64 0), (.int .i64 0), (.int .i64 0), .nils, .nils] 0 v9) fun c12 =>
  bnd (partOf true 5 c11 0) fun t13 =>
  bnd (partOf true 5 c12 0) fun t14 =>
  Ret R (.tup [t13, t14]) H10
theorem W_s_DrawNewer {R : V → Heap → Prop} {a0 : V} {H : Heap} (h : F_s_DrawNewer R a0 H) : ACalls P n_s_DrawNewer [a0] H R :=
  acalls_of_form (g := ⟨[2, 3, 5], []⟩) (x := (.seq .leaf (.seq .leaf (.seq (.draw [0, 1, 2, 3, 4, 5]) .leaf)))) Try.func7 (by kernel_rfl) (by kernel_rfl) (by kernel_rfl) (by kernel_rfl : F_s_DrawNewer R a0 H = _) h
def F_s_Newer (R : V → Heap → Prop) (a0 a1 : V) (H : Heap) : Prop :=
  boxK a0 (boxK a1 (bnd (partOf true 5 (cellsOf a0) 0) fun t1 =>
  ACalls P n_s_LsaOk [t1] H fun v2 H3 =>
  bnd (aNot v2) fun t4 =>
  gd t4 false
  (bnd (partOf true 5 (cellsOf a1) 0) fun t5 =>
  ACalls P n_s_LsaOk [t5] H3 fun v6 H7 =>
  bnd (aNot v6) fun t8 =>
  gd t8 false
  (bnd (partOf false 1 (cellsOf a0) 0) fun t9 =>
  bnd (partOf false 1 (cellsOf a1) 0) fun t10 =>
  bnd (aBinN .neq t9 t10) fun t11 =>
  cnd t11
  (Ret R (.int .i64 (-2)) H7)
  (bnd (partOf false 1 (cellsOf a0) 1) fun t12 =>
  bnd (partOf false 1 (cellsOf a1) 1) fun t13 =>
  bnd (aBinN .neq t12 t13) fun t14 =>
  cnd t14
  (bnd (partOf false 1 (cellsOf a0) 1) fun t15 =>
  bnd (partOf false 1 (cellsOf a1) 1) fun t16 =>
  bnd (aBinN .sub t15 t16) fun t17 =>
  ACalls P n_s_l05Sign [t17] H7 fun v18 H19 =>
  Ret R v18 H19)
  (∃ S20, Abs.sub S20 H7 ∧
  bnd (partOf true 5 (cellsOf a0) 0) fun t21 =>
  bnd (partOf true 5 (cellsOf a1) 0) fun t22 =>
  ACalls P n_s_LsaSum [t21] H7 fun v23 H24 =>
  Abs.sub S20 H24 ∧
  ACalls P n_s_LsaSum [t22] H24 fun v25 H26 =>
  Abs.sub S20 H26 ∧
  bnd (aBinN .neq v23 v25) fun t27 =>
  cnd t27
  (∃ S28, Abs.sub S28 H26 ∧
  bnd (partOf true 5 (cellsOf a0) 0) fun t29 =>
  bnd (partOf true 5 (cellsOf a1) 0) fun t30 =>
  ACalls P n_s_LsaSum [t29] H26 fun v31 H32 =>
  Abs.sub S28 H32 ∧
  ACalls P n_s_LsaSum [t30] H32 fun v33 H34 =>
  Abs.sub S28 H34 ∧
  bnd (aBinN .sub v31 v33) fun t35 =>
  ACalls P n_s_l05Sign [t35] H34 fun v36 H37 =>
  Abs.sub S28 H37 ∧
  Ret R v36 H37)
  (bnd (partOf false 1 (cellsOf a0) 2) fun t38 =>
  bnd (partOf false 1 (cellsOf a1) 2) fun t39 =>
  bnd (aBinN .eql t38 t39) fun t40 =>
  cnd t40
  (Ret R (.int .i64 0) H26)
  (bnd (partOf false 1 (cellsOf a0) 2) fun t41 =>
  bnd (aBinN .eql t41 (.int .i64 60)) fun t42 =>
  gd t42 false
  (bnd (partOf false 1 (cellsOf a1) 2) fun t43 =>
  bnd (aBinN .eql t43 (.int .i64 60)) fun t44 =>
  cnd t44
  (bnd (partOf false 1 (cellsOf a0) 2) fun t45 =>
  bnd (partOf false 1 (cellsOf a1) 2) fun t46 =>
  bnd (aBinN .sub t45 t46) fun t47 =>
  ACalls P n_s_l05Sign [t47] H26 fun v48 H49 =>
  Ret R v48 H49)
  (bnd (partOf false 1 (cellsOf a0) 2) fun t50 =>
  bnd (partOf false 1 (cellsOf a1) 2) fun t51 =>
  bnd (aBinN .sub t50 t51) fun t52 =>
  bnd (aBinN .gtr t52 (.int .i64 10)) fun t53 =>
  gd t53 false
  (bnd (partOf false 1 (cellsOf a1) 2) fun t54 =>
  bnd (partOf false 1 (cellsOf a0) 2) fun t55 =>
  bnd (aBinN .sub t54 t55) fun t56 =>
  bnd (aBinN .gtr t56 (.int .i64 10)) fun t57 =>
  cnd t57
  (bnd (partOf false 1 (cellsOf a1) 2) fun t58 =>
  bnd (partOf false 1 (cellsOf a0) 2) fun t59 =>
  bnd (aBinN .sub t58 t59) fun t60 =>
  ACalls P n_s_l05Sign [t60] H26 fun v61 H62 =>
  Ret R v61 H62)
  (Ret R (.int .i64 0) H26))
  (bnd (partOf false 1 (cellsOf a1) 2) fun t63 =>
  bnd (partOf false 1 (cellsOf a0) 2) fun t64 =>
  bnd (aBinN .sub t63 t64) fun t65 =>
  ACalls P n_s_l05Sign [t65] H26 fun v66 H67 =>
  Ret R v66 H67)))
  (bnd (partOf false 1 (cellsOf a0) 2) fun t68 =>
  bnd (partOf false 1 (cellsOf a1) 2) fun t69 =>
  bnd (aBinN .sub t68 t69) fun t70 =>
  ACalls P n_s_l05Sign [t70] H26 fun v71 H72 =>
  Ret R v71 H72))))))
  (Ret R (.int .i64 (-2)) H7))
  (Ret R (.int .i64 (-2)) H3)))
theorem W_s_Newer {R : V → Heap → Prop} {a0 a1 : V} {H : Heap} (h : F_s_Newer R a0 a1 H) : ACalls P n_s_Newer [a0, a1] H R :=
  acalls_of_form (g := ⟨[2, 3], [14, 16, 20, 22, 25, 27, 42, 44, 47, 51, 55, 57, 61, 63, 68, 70, 75, 77]⟩) (x := (.seq .leaf (.seq (.seq .leaf (.cond (.seq .leaf .leaf) .leaf)) (.seq (.seq .leaf (.cond (.seq .leaf .leaf) .leaf)) (.seq (.seq (.draw [0, 2, 1, 3, 4]) (.cond (.seq (.draw [0, 2, 1, 3, 4, 5, 6]) .leaf) .leaf)) (.seq (.seq .leaf (.cond (.seq .leaf .leaf) .leaf)) (.seq (.seq .leaf (.cond (.seq .leaf .leaf) .leaf)) (.seq (.seq .leaf (.cond (.seq .leaf .leaf) .leaf)) (.seq .leaf .leaf))))))))) Try.func8 (by kernel_rfl) (by kernel_rfl) (by kernel_rfl) (by kernel_rfl : F_s_Newer R a0 a1 H = _) h
def F_i_Newer (R : V → Heap → Prop) (a0 a1 : V) (H : Heap) : Prop :=
  boxK a0 (boxK a1 (bnd (partOf true 5 (cellsOf a0) 0) fun t1 =>
  ACalls P n_i_LsaOk [t1] H fun v2 H3 =>
  bnd (aNot v2) fun t4 =>
  gd t4 false
  (bnd (partOf true 5 (cellsOf a1) 0) fun t5 =>
  ACalls P n_i_LsaOk [t5] H3 fun v6 H7 =>
  bnd (aNot v6) fun t8 =>
  gd t8 false
  (bnd (partOf false 1 (cellsOf a0) 0) fun t9 =>
  bnd (partOf false 1 (cellsOf a1) 0) fun t10 =>
  bnd (aBinN .neq t9 t10) fun t11 =>
  cnd t11
  (Ret R (.int .i64 (-2)) H7)
  (bnd (partOf true 5 (cellsOf a0) 0) fun t12 =>
  bnd (partOf true 5 (cellsOf a1) 0) fun t13 =>
  ACalls P n_i_newer [t12, t13] H7 fun v14 H15 =>
  Ret R v14 H15))
  (Ret R (.int .i64 (-2)) H7))
  (Ret R (.int .i64 (-2)) H3)))
theorem W_i_Newer {R : V → Heap → Prop} {a0 a1 : V} {H : Heap} (h : F_i_Newer R a0 a1 H) : ACalls P n_i_Newer [a0, a1] H R :=
  acalls_of_form (g := ⟨[2, 3], [14, 16]⟩) (x := (.seq .leaf (.seq (.seq .leaf (.cond (.seq .leaf .leaf) .leaf)) (.seq .leaf .leaf)))) Try.func9 (by kernel_rfl) (by kernel_rfl) (by kernel_rfl) (by kernel_rfl : F_i_Newer R a0 a1 H = _) h
def F_s_LsaSum (R : V → Heap → Prop) (a0 : V) (H : Heap) : Prop :=
  boxK a0 (bnd (partOf true 5 (cellsOf a0) 0) fun t1 =>
  ACalls P n_s_LsaOk [t1] H fun v2 H3 =>
  bnd (aNot v2) fun t4 =>
  cnd t4
  (Ret R (.int .i64 (-1)) H3)
  (bnd (partOf true 5 (cellsOf a0) 0) fun t5 =>
  ACalls P n_s_LsaBytes [t5] H3 fun v6 H7 =>
  ∃ (I8 : Nat → List V → Heap → Prop) (n9 : Nat), Shr (I8 n9 [(.int .i64 1), (.int .i64 0)]) H7 ∧
  ∀ n10 xs12 H13, I8 n10 xs12 H13 →
  bnd (lenOf v6) fun n14 =>
  bnd (aBinN .lss (xs12.tail.headD .any) (.int .i64 (n14 : Nat))) fun t15 =>
  cnd t15
  (bnd (aBinN .mul (.int .i64 257) (xs12.headD .any)) fun t16 =>
  bnd (aIndex H13 1 v6 (xs12.tail.headD .any)) fun t17 =>
  bnd (aLd false 1 H13 t17) fun t18 =>
  bnd (aCv .i64 t18) fun t19 =>
  bnd (aBinN .add t16 t19) fun t20 =>
  bnd (aBinN .add t20 (.int .i64 1)) fun t21 =>
  bnd (aBinN .rem t21 (.int .i64 1000003)) fun t22 =>
  bnd (aBinN .add (xs12.tail.headD .any) (.int .i64 1)) fun t23 =>
  ∃ n11, n11 < n10 ∧ Shr (I8 n11 [t22, t23]) H13)
  (Ret R (xs12.headD .any) H13)))
theorem W_s_LsaSum {R : V → Heap → Prop} {a0 : V} {H : Heap} (h : F_s_LsaSum R a0 H) : ACalls P n_s_LsaSum [a0] H R :=
  acalls_of_form (g := ⟨[1], []⟩) (x := (.seq .leaf (.seq (.seq .leaf (.cond (.seq .leaf .leaf) .leaf)) (.seq .leaf (.seq .leaf (.seq (.seq .leaf (.block (.loop [3, 5] (.seq (.seq .leaf (.cond .leaf .leaf)) (.seq (.block .leaf) .leaf))))) (.seq .leaf .leaf))))))) Try.func10 (by kernel_rfl) (by kernel_rfl) (by kernel_rfl) (by kernel_rfl : F_s_LsaSum R a0 H = _) h
def F_i_TakeLsa (R : V → Heap → Prop) (a0 : V) (H : Heap) : Prop :=
  bnd (fillZ [.nils, (.bool false)] [(0, 1, a0)]) fun c1 =>
  boxK (.agg c1) (∀ o2, H o2 = none →
  ACalls P n_p_i_taker_take [(.ptr o2 0 0), (.int .i64 1)] (upd H o2 ⟨(c1).length, [c1]⟩) fun v3 H4 =>
  ACalls P n_p_i_taker_take [(.ptr o2 0 0), (.int .i64 3)] H4 fun v5 H6 =>
  bnd (fillZ [(.int .i64 0), (.int .i64 0), (.int .i64 0), .nils, .nils] [(0, 1, v3), (1, 1, v5)]) fun c7 =>
  bnd (stz 5 [(.int .i64 0), (.int .i64 0), (.int .i64 0), .nils, .nils] 0 (.agg c7)) fun c8 =>
  ACalls P n_p_i_taker_take [(.ptr o2 0 0), (.int .i64 1)] H6 fun v9 H10 =>
  ∃ (I11 : Nat → List V → Heap → Prop) (n12 : Nat), Shr (I11 n12 [(.box [(.int .i64 0), (.int .i64 0), (.int .i64 0), .nils, .nils]), (.box c8), v9]) H10 ∧
  ∀ n13 xs15 H16, I11 n13 xs15 H16 →
  bnd (aBinN .gtr (xs15.tail.tail.headD .any) (.int .i64 0)) fun t17 =>
  gd t17 true
  (bnd (aNil (.ptr o2 0 0)) fun t18 =>
  bnd (aField 1 t18) fun t19 =>
  bnd (aLd false 1 H16 t19) fun t20 =>
  bnd (aNot t20) fun t21 =>
  cnd t21
  (bnd (partOf false 1 (bc (xs15.tail.headD .any)) 3) fun t22 =>
  ACalls P n_p_i_taker_take [(.ptr o2 0 0), (.int .i64 1)] H16 fun v23 H24 =>
  ACalls P n_p_i_taker_take [(.ptr o2 0 0), (.int .i64 2)] H24 fun v25 H26 =>
  bnd (fillZ [(.int .i64 0), (.int .i64 0)] [(0, 1, v23), (1, 1, v25)]) fun c27 =>
  bnd (bsl 2 1 [(.int .i64 0), (.int .i64 0)] [(0, (.agg c27))]) fun r28 =>
  ∀ o29, H26 o29 = none →
  bnd (rowsOf (upd H26 o29 ⟨2, r28⟩) 2 (.slice o29 0 1 (some 1))) fun r32 =>
  appendK (upd H26 o29 ⟨2, r28⟩) 2 16 t22 r32 fun v30 H31 =>
  bnd (stz 1 (bc (xs15.tail.headD .any)) 3 v30) fun c33 =>
  bnd (aBinN .sub (xs15.tail.tail.headD .any) (.int .i64 1)) fun t34 =>
  ∃ n14, n14 < n13 ∧ Shr (I11 n14 [(.box (bc (xs15.headD .any))), (.box c33), t34]) H31)
  (ACalls P n_p_i_taker_take [(.ptr o2 0 0), (.int .i64 1)] H16 fun v35 H36 =>
  ∃ (I37 : Nat → List V → Heap → Prop) (n38 : Nat), Shr (I37 n38 [(.box (bc (xs15.headD .any))), (.box (bc (xs15.tail.headD .any))), v35]) H36 ∧
  ∀ n39 xs41 H42, I37 n39 xs41 H42 →
  bnd (aBinN .gtr (xs41.tail.tail.headD .any) (.int .i64 0)) fun t43 =>
  gd t43 true
  (bnd (aNil (.ptr o2 0 0)) fun t44 =>
  bnd (aField 1 t44) fun t45 =>
  bnd (aLd false 1 H42 t45) fun t46 =>
  bnd (aNot t46) fun t47 =>
  cnd t47
  (ACalls P n_p_i_taker_take [(.ptr o2 0 0), (.int .i64 2)] H42 fun v48 H49 =>
  ACalls P n_p_i_taker_take [(.ptr o2 0 0), (.int .i64 1)] H49 fun v50 H51 =>
  bnd (partOf false 1 (bc (xs41.tail.headD .any)) 4) fun t52 =>
  bnd (fillZ [(.int .i64 0), (.int .i64 0)] [(0, 1, v48), (1, 1, v50)]) fun c53 =>
  ACalls P n_p_i_taker_take [(.ptr o2 0 0), (.int .i64 2)] H51 fun v54 H55 =>
  bnd (fillZ [(.int .i64 0), (.int .i64 0), (.int .i64 0)] [(0, 2, (.agg c53)), (2, 1, v54)]) fun c56 =>
  bnd (bsl 3 1 [(.int .i64 0), (.int .i64 0), (.int .i64 0)] [(0, (.agg c56))]) fun r57 =>
  ∀ o58, H55 o58 = none →
  bnd (rowsOf (upd H55 o58 ⟨3, r57⟩) 3 (.slice o58 0 1 (some 1))) fun r61 =>
  appendK (upd H55 o58 ⟨3, r57⟩) 3 24 t52 r61 fun v59 H60 =>
  bnd (stz 1 (bc (xs41.tail.headD .any)) 4 v59) fun c62 =>
  bnd (aBinN .sub (xs41.tail.tail.headD .any) (.int .i64 1)) fun t63 =>
  ∃ n40, n40 < n39 ∧ Shr (I37 n40 [(.box (bc (xs41.headD .any))), (.box c62), t63]) H60)
  (ACalls P n_p_i_taker_take [(.ptr o2 0 0), (.int .i64 1)] H42 fun v64 H65 =>
  bnd (stz 1 (bc (xs41.tail.headD .any)) 2 v64) fun c66 =>
  ∃ J67 : List V → Heap → Prop,
  (bnd (aNil (.ptr o2 0 0)) fun t70 =>
  bnd (aField 1 t70) fun t71 =>
  bnd (aLd false 1 H65 t71) fun t72 =>
  gd t72 false
  (bnd (partOf true 5 c66 0) fun t73 =>
  ACalls P n_i_PutLsa [t73] H65 fun v74 H75 =>
  ACalls P n_slices_Equal_byte_byte [v74, a0] H75 fun v76 H77 =>
  bnd (aNot v76) fun t78 =>
  gd t78 false
  (bnd (partOf true 5 c66 0) fun t79 =>
  ACalls P n_i_LsaOk [t79] H77 fun v80 H81 =>
  bnd (aNot v80) fun t82 =>
  Shr (J67 [t82]) H81)
  (Shr (J67 [(.bool true)]) H77))
  (Shr (J67 [(.bool true)]) H65)) ∧
  ∀ xs68 H69, J67 xs68 H69 →
  cnd (xs68.headD .any)
  (bnd (fillZ [(.int .i64 0), (.int .i64 0), (.int .i64 0), .nils, .nils] []) fun c83 =>
  bnd (stz 5 (bc (xs41.headD .any)) 0 (.agg c83)) fun c84 =>
  bnd (partOf true 5 c84 0) fun t85 =>
  Ret R (.tup [t85, (.bool false)]) H69)
  (bnd (partOf true 5 c66 0) fun t86 =>
  bnd (stz 5 (bc (xs41.headD .any)) 0 t86) fun c87 =>
  bnd (partOf true 5 c87 0) fun t88 =>
  Ret R (.tup [t88, (.bool true)]) H69)))
  (ACalls P n_p_i_taker_take [(.ptr o2 0 0), (.int .i64 1)] H42 fun v89 H90 =>
  bnd (stz 1 (bc (xs41.tail.headD .any)) 2 v89) fun c91 =>
  ∃ J92 : List V → Heap → Prop,
  (bnd (aNil (.ptr o2 0 0)) fun t95 =>
  bnd (aField 1 t95) fun t96 =>
  bnd (aLd false 1 H90 t96) fun t97 =>
  gd t97 false
  (bnd (partOf true 5 c91 0) fun t98 =>
  ACalls P n_i_PutLsa [t98] H90 fun v99 H100 =>
  ACalls P n_slices_Equal_byte_byte [v99, a0] H100 fun v101 H102 =>
  bnd (aNot v101) fun t103 =>
  gd t103 false
  (bnd (partOf true 5 c91 0) fun t104 =>
  ACalls P n_i_LsaOk [t104] H102 fun v105 H106 =>
  bnd (aNot v105) fun t107 =>
  Shr (J92 [t107]) H106)
  (Shr (J92 [(.bool true)]) H102))
  (Shr (J92 [(.bool true)]) H90)) ∧
  ∀ xs93 H94, J92 xs93 H94 →
  cnd (xs93.headD .any)
  (bnd (fillZ [(.int .i64 0), (.int .i64 0), (.int .i64 0), .nils, .nils] []) fun c108 =>
  bnd (stz 5 (bc (xs41.headD .any)) 0 (.agg c108)) fun c109 =>
  bnd (partOf true 5 c109 0) fun t110 =>
  Ret R (.tup [t110, (.bool false)]) H94)
  (bnd (partOf true 5 c91 0) fun t111 =>
  bnd (stz 5 (bc (xs41.headD .any)) 0 t111) fun c112 =>
  bnd (partOf true 5 c112 0) fun t113 =>
  Ret R (.tup [t113, (.bool true)]) H94))))
  (ACalls P n_p_i_taker_take [(.ptr o2 0 0), (.int .i64 1)] H16 fun v114 H115 =>
  ∃ (I116 : Nat → List V → Heap → Prop) (n117 : Nat), Shr (I116 n117 [(.box (bc (xs15.headD .any))), (.box (bc (xs15.tail.headD .any))), v114]) H115 ∧
  ∀ n118 xs120 H121, I116 n118 xs120 H121 →
  bnd (aBinN .gtr (xs120.tail.tail.headD .any) (.int .i64 0)) fun t122 =>
  gd t122 true
  (bnd (aNil (.ptr o2 0 0)) fun t123 =>
  bnd (aField 1 t123) fun t124 =>
  bnd (aLd false 1 H121 t124) fun t125 =>
  bnd (aNot t125) fun t126 =>
  cnd t126
  (ACalls P n_p_i_taker_take [(.ptr o2 0 0), (.int .i64 2)] H121 fun v127 H128 =>
  ACalls P n_p_i_taker_take [(.ptr o2 0 0), (.int .i64 1)] H128 fun v129 H130 =>
  bnd (partOf false 1 (bc (xs120.tail.headD .any)) 4) fun t131 =>
  bnd (fillZ [(.int .i64 0), (.int .i64 0)] [(0, 1, v127), (1, 1, v129)]) fun c132 =>
  ACalls P n_p_i_taker_take [(.ptr o2 0 0), (.int .i64 2)] H130 fun v133 H134 =>
  bnd (fillZ [(.int .i64 0), (.int .i64 0), (.int .i64 0)] [(0, 2, (.agg c132)), (2, 1, v133)]) fun c135 =>
  bnd (bsl 3 1 [(.int .i64 0), (.int .i64 0), (.int .i64 0)] [(0, (.agg c135))]) fun r136 =>
  ∀ o137, H134 o137 = none →
  bnd (rowsOf (upd H134 o137 ⟨3, r136⟩) 3 (.slice o137 0 1 (some 1))) fun r140 =>
  appendK (upd H134 o137 ⟨3, r136⟩) 3 24 t131 r140 fun v138 H139 =>
  bnd (stz 1 (bc (xs120.tail.headD .any)) 4 v138) fun c141 =>
  bnd (aBinN .sub (xs120.tail.tail.headD .any) (.int .i64 1)) fun t142 =>
  ∃ n119, n119 < n118 ∧ Shr (I116 n119 [(.box (bc (xs120.headD .any))), (.box c141), t142]) H139)
  (ACalls P n_p_i_taker_take [(.ptr o2 0 0), (.int .i64 1)] H121 fun v143 H144 =>
  bnd (stz 1 (bc (xs120.tail.headD .any)) 2 v143) fun c145 =>
  ∃ J146 : List V → Heap → Prop,
  (bnd (aNil (.ptr o2 0 0)) fun t149 =>
  bnd (aField 1 t149) fun t150 =>
  bnd (aLd false 1 H144 t150) fun t151 =>
  gd t151 false
  (bnd (partOf true 5 c145 0) fun t152 =>
  ACalls P n_i_PutLsa [t152] H144 fun v153 H154 =>
  ACalls P n_slices_Equal_byte_byte [v153, a0] H154 fun v155 H156 =>
  bnd (aNot v155) fun t157 =>
  gd t157 false
  (bnd (partOf true 5 c145 0) fun t158 =>
  ACalls P n_i_LsaOk [t158] H156 fun v159 H160 =>
  bnd (aNot v159) fun t161 =>
  Shr (J146 [t161]) H160)
  (Shr (J146 [(.bool true)]) H156))
  (Shr (J146 [(.bool true)]) H144)) ∧
  ∀ xs147 H148, J146 xs147 H148 →
  cnd (xs147.headD .any)
  (bnd (fillZ [(.int .i64 0), (.int .i64 0), (.int .i64 0), .nils, .nils] []) fun c162 =>
  bnd (stz 5 (bc (xs120.headD .any)) 0 (.agg c162)) fun c163 =>
  bnd (partOf true 5 c163 0) fun t164 =>
  Ret R (.tup [t164, (.bool false)]) H148)
  (bnd (partOf true 5 c145 0) fun t165 =>
  bnd (stz 5 (bc (xs120.headD .any)) 0 t165) fun c166 =>
  bnd (partOf true 5 c166 0) fun t167 =>
  Ret R (.tup [t167, (.bool true)]) H148)))
  (ACalls P n_p_i_taker_take [(.ptr o2 0 0), (.int .i64 1)] H121 fun v168 H169 =>
  bnd (stz 1 (bc (xs120.tail.headD .any)) 2 v168) fun c170 =>
  ∃ J171 : List V → Heap → Prop,
  (bnd (aNil (.ptr o2 0 0)) fun t174 =>
  bnd (aField 1 t174) fun t175 =>
  bnd (aLd false 1 H169 t175) fun t176 =>
  gd t176 false
  (bnd (partOf true 5 c170 0) fun t177 =>
  ACalls P n_i_PutLsa [t177] H169 fun v178 H179 =>
  ACalls P n_slices_Equal_byte_byte [v178, a0] H179 fun v180 H181 =>
  bnd (aNot v180) fun t182 =>
  gd t182 false
  (bnd (partOf true 5 c170 0) fun t183 =>
  ACalls P n_i_LsaOk [t183] H181 fun v184 H185 =>
  bnd (aNot v184) fun t186 =>
  Shr (J171 [t186]) H185)
  (Shr (J171 [(.bool true)]) H181))
  (Shr (J171 [(.bool true)]) H169)) ∧
  ∀ xs172 H173, J171 xs172 H173 →
  cnd (xs172.headD .any)
  (bnd (fillZ [(.int .i64 0), (.int .i64 0), (.int .i64 0), .nils, .nils] []) fun c187 =>
  bnd (stz 5 (bc (xs120.headD .any)) 0 (.agg c187)) fun c188 =>
  bnd (partOf true 5 c188 0) fun t189 =>
  Ret R (.tup [t189, (.bool false)]) H173)
  (bnd (partOf true 5 c170 0) fun t190 =>
  bnd (stz 5 (bc (xs120.headD .any)) 0 t190) fun c191 =>
  bnd (partOf true 5 c191 0) fun t192 =>
  Ret R (.tup [t192, (.bool true)]) H173))))
theorem W_i_TakeLsa {R : V → Heap → Prop} {a0 : V} {H : Heap} (h : F_i_TakeLsa R a0 H) : ACalls P n_i_TakeLsa [a0] H R :=
  acalls_of_form (g := ⟨[2, 5], [31, 40, 58, 68, 71]⟩) (x := (.seq .leaf (.seq .leaf (.seq .leaf (.seq (.seq .leaf (.block (.loop [2, 5, 6] (.seq (.seq .leaf (.cond .leaf .leaf)) (.seq (.block (.drawh [0, 1, 2, 4, 3, 5, 6, 7, 8, 9, 10])) .leaf))))) (.seq (.seq .leaf (.block (.loop [2, 5, 7] (.seq (.seq .leaf (.cond .leaf .leaf)) (.seq (.block (.seq .leaf (.drawh [0, 1, 2, 3, 4, 5, 6, 7, 8, 9, 10, 11]))) .leaf))))) (.seq .leaf (.seq (.seqc .leaf (.cond (.seq .leaf .leaf) .leaf) [87]) (.seq .leaf .leaf))))))))) Try.func11 (by kernel_rfl) (by kernel_rfl) (by kernel_rfl) (by kernel_rfl : F_i_TakeLsa R a0 H = _) h
def F_i_PutLsa (R : V → Heap → Prop) (a0 : V) (H : Heap) : Prop :=
  boxK a0 (bnd (partOf true 5 (cellsOf a0) 0) fun t1 =>
  ACalls P n_i_LsaOk [t1] H fun v2 H3 =>
  bnd (aNot v2) fun t4 =>
  cnd t4
  (Ret R .nils H3)
  (∃ S5, Abs.sub S5 H3 ∧
  bnd (partOf true 5 (cellsOf a0) 0) fun t6 =>
  bnd (partOf false 1 (cellsOf a0) 2) fun t7 =>
  bnd (aCv .u8 t7) fun t8 =>
  bnd (partOf true 5 (cellsOf a0) 0) fun t9 =>
  ACalls P n_i_Lsa_bytes [t6] H3 fun v10 H11 =>
  Abs.sub S5 H11 ∧
  bnd (bsl 1 1 [(.int .u8 0)] [(0, t8)]) fun r12 =>
  ∀ o13, H11 o13 = none →
  Abs.sub S5 (upd H11 o13 ⟨1, r12⟩) ∧
  bnd (rowsOf (upd H11 o13 ⟨1, r12⟩) 1 (.slice o13 0 1 (some 1))) fun r16 =>
  appendK (upd H11 o13 ⟨1, r12⟩) 1 1 v10 r16 fun v14 H15 =>
  Abs.sub S5 H15 ∧
  ACalls P n_i_Lsa_sum [t9] H15 fun v17 H18 =>
  Abs.sub S5 H18 ∧
  ACalls P n_i_big [v14, v17, (.int .i64 3)] H18 fun v19 H20 =>
  Abs.sub S5 H20 ∧
  Ret R v19 H20))
theorem W_i_PutLsa {R : V → Heap → Prop} {a0 : V} {H : Heap} (h : F_i_PutLsa R a0 H) : ACalls P n_i_PutLsa [a0] H R :=
  acalls_of_form (g := ⟨[1], [8]⟩) (x := (.seq .leaf (.seq (.seq .leaf (.cond (.seq .leaf .leaf) .leaf)) (.seq (.drawp [[0, 2, 3, 4, 7, 1, 5, 6, 8, 9, 10]]) .leaf)))) Try.func12 (by kernel_rfl) (by kernel_rfl) (by kernel_rfl) (by kernel_rfl : F_i_PutLsa R a0 H = _) h
def F_i_SameWords (R : V → Heap → Prop) (a0 a1 : V) (H : Heap) : Prop :=
  boxK a0 (boxK a1 (bnd (partOf true 5 (cellsOf a0) 0) fun t1 =>
  ACalls P n_i_LsaOk [t1] H fun v2 H3 =>
  gd v2 true
  (bnd (partOf true 5 (cellsOf a1) 0) fun t4 =>
  ACalls P n_i_LsaOk [t4] H3 fun v5 H6 =>
  gd v5 true
  (bnd (partOf false 1 (cellsOf a0) 0) fun t7 =>
  bnd (partOf false 1 (cellsOf a1) 0) fun t8 =>
  bnd (aBinN .eql t7 t8) fun t9 =>
  gd t9 true
  (bnd (partOf false 1 (cellsOf a0) 3) fun t10 =>
  bnd (partOf false 1 (cellsOf a1) 3) fun t11 =>
  ACalls P n_slices_Equal_i_Link_i_Link [t10, t11] H6 fun v12 H13 =>
  gd v12 true
  (bnd (partOf false 1 (cellsOf a0) 4) fun t14 =>
  bnd (partOf false 1 (cellsOf a1) 4) fun t15 =>
  ACalls P n_slices_Equal_i_Stub_i_Stub [t14, t15] H13 fun v16 H17 =>
  Ret R v16 H17)
  (Ret R (.bool false) H13))
  (Ret R (.bool false) H6))
  (Ret R (.bool false) H6))
  (Ret R (.bool false) H3)))
theorem W_i_SameWords {R : V → Heap → Prop} {a0 a1 : V} {H : Heap} (h : F_i_SameWords R a0 a1 H) : ACalls P n_i_SameWords [a0, a1] H R :=
  acalls_of_form (g := ⟨[2, 3], [12, 14, 19, 21, 26, 28]⟩) (x := (.seq .leaf (.seq .leaf .leaf))) Try.func13 (by kernel_rfl) (by kernel_rfl) (by kernel_rfl) (by kernel_rfl : F_i_SameWords R a0 a1 H = _) h
def F_i_NextLsa (R : V → Heap → Prop) (a0 a1 a2 : V) (H : Heap) : Prop :=
  boxK a0 (bnd (partOf true 5 (cellsOf a0) 0) fun t1 =>
  ACalls P n_i_LsaOk [t1] H fun v2 H3 =>
  bnd (aNot v2) fun t4 =>
  cnd t4
  (bnd (fillZ [(.int .i64 0), (.int .i64 0), (.int .i64 0), .nils, .nils] []) fun c5 =>
  bnd (stz 5 [(.int .i64 0), (.int .i64 0), (.int .i64 0), .nils, .nils] 0 (.agg c5)) fun c6 =>
  bnd (partOf true 5 c6 0) fun t7 =>
  Ret R (.tup [t7, (.bool false)]) H3)
  (bnd (partOf false 1 (cellsOf a0) 0) fun t8 =>
  bnd (partOf false 1 (cellsOf a0) 1) fun t9 =>
  bnd (aBinN .add t9 (.int .i64 1)) fun t10 =>
  ACalls P n_slices_Clone_i_Link_i_Link [a1] H3 fun v11 H12 =>
  ACalls P n_slices_Clone_i_Stub_i_Stub [a2] H12 fun v13 H14 =>
  bnd (fillZ [(.int .i64 0), (.int .i64 0), (.int .i64 0), .nils, .nils] [(0, 1, t8), (1, 1, t10), (3, 1, v11), (4, 1, v13)]) fun c15 =>
  ∀ o16, H14 o16 = none →
  bnd (aSt 5 (upd H14 o16 ⟨5, [[(.int .i64 0), (.int .i64 0), (.int .i64 0), .nils, .nils]]⟩) (.ptr o16 0 0) (.agg c15)) fun H17 =>
  bnd (aLd true 5 H17 (.ptr o16 0 0)) fun t18 =>
  ACalls P n_i_LsaOk [t18] H17 fun v19 H20 =>
  bnd (aNot v19) fun t21 =>
  cnd t21
  (bnd (fillZ [(.int .i64 0), (.int .i64 0), (.int .i64 0), .nils, .nils] []) fun c22 =>
  bnd (stz 5 [(.int .i64 0), (.int .i64 0), (.int .i64 0), .nils, .nils] 0 (.agg c22)) fun c23 =>
  bnd (partOf true 5 c23 0) fun t24 =>
  Ret R (.tup [t24, (.bool false)]) H20)
  (bnd (aLd true 5 H20 (.ptr o16 0 0)) fun t25 =>
  bnd (stz 5 [(.int .i64 0), (.int .i64 0), (.int .i64 0), .nils, .nils] 0 t25) fun c26 =>
  bnd (partOf true 5 c26 0) fun t27 =>
  Ret R (.tup [t27, (.bool true)]) H20)))
theorem W_i_NextLsa {R : V → Heap → Prop} {a0 a1 a2 : V} {H : Heap} (h : F_i_NextLsa R a0 a1 a2 H) : ACalls P n_i_NextLsa [a0, a1, a2] H R :=
  acalls_of_form (g := ⟨[3, 6], [13, 15]⟩) (x := (.seq .leaf (.seq (.seq .leaf (.cond (.seq .leaf .leaf) .leaf)) (.seq (.drawh [0, 1, 2, 3, 4, 5, 7, 6, 8, 9, 10, 11]) (.seq (.seq .leaf (.cond (.seq .leaf .leaf) .leaf)) (.seq .leaf .leaf)))))) Try.func14 (by kernel_rfl) (by kernel_rfl) (by kernel_rfl) (by kernel_rfl : F_i_NextLsa R a0 a1 a2 H = _) h
def F_i_LsaSum (R : V → Heap → Prop) (a0 : V) (H : Heap) : Prop :=
  boxK a0 (bnd (partOf true 5 (cellsOf a0) 0) fun t1 =>
  ACalls P n_i_LsaOk [t1] H fun v2 H3 =>
  bnd (aNot v2) fun t4 =>
  cnd t4
  (Ret R (.int .i64 (-1)) H3)
  (bnd (partOf true 5 (cellsOf a0) 0) fun t5 =>
  ACalls P n_i_Lsa_sum [t5] H3 fun v6 H7 =>
  Ret R v6 H7))
theorem W_i_LsaSum {R : V → Heap → Prop} {a0 : V} {H : Heap} (h : F_i_LsaSum R a0 H) : ACalls P n_i_LsaSum [a0] H R :=
  acalls_of_form (g := ⟨[1], []⟩) (x := (.seq .leaf (.seq (.seq .leaf (.cond (.seq .leaf .leaf) .leaf)) (.seq .leaf .leaf)))) Try.func15 (by kernel_rfl) (by kernel_rfl) (by kernel_rfl) (by kernel_rfl : F_i_LsaSum R a0 H = _) h
def F_s_DrawMerge (R : V → Heap → Prop) (a0 : V) (H : Heap) : Prop :=
  ACalls P n_s_l06DrawTwo [a0] H fun v1 H2 =>
  bnd (aExtract 0 v1) fun t3 =>
  bnd (aExtract 1 v1) fun t4 =>
  bnd (stz 1 [.nils] 0 t3) fun c5 =>
  bnd (stz 1 [.nils] 0 t4) fun c6 =>
  bnd (partOf true 1 c5 0) fun t7 =>
  bnd (partOf true 1 c6 0) fun t8 =>
  Ret R (.tup [t7, t8]) H2
theorem W_s_DrawMerge {R : V → Heap → Prop} {a0 : V} {H : Heap} (h : F_s_DrawMerge R a0 H) : ACalls P n_s_DrawMerge [a0] H R :=
  acalls_of_form (g := ⟨[2, 3], []⟩) (x := (.seq .leaf (.seq .leaf .leaf))) Try.func16 (by kernel_rfl) (by kernel_rfl) (by kernel_rfl) (by kernel_rfl : F_s_DrawMerge R a0 H = _) h
def F_s_DbOk (R : V → Heap → Prop) (a0 : V) (H : Heap) : Prop :=
  boxK a0 (bnd (partOf false 1 (cellsOf a0) 0) fun t1 =>
  bnd (lenOf t1) fun n2 =>
  bnd (aBinN .gtr (.int .i64 (n2 : Nat)) (.int .i64 10)) fun t3 =>
  cnd t3
  (Ret R (.bool false) H)
  (∃ (I4 : Nat → List V → Heap → Prop) (n5 : Nat), Shr (I4 n5 [(.int .i64 0)]) H ∧
  ∀ n6 xs8 H9, I4 n6 xs8 H9 →
  bnd (partOf false 1 (cellsOf a0) 0) fun t10 =>
  bnd (lenOf t10) fun n11 =>
  bnd (aBinN .lss (xs8.headD .any) (.int .i64 (n11 : Nat))) fun t12 =>
  cnd t12
  (∃ S13, Abs.sub S13 H9 ∧
  bnd (partOf false 1 (cellsOf a0) 0) fun t14 =>
  bnd (aIndex S13 5 t14 (xs8.headD .any)) fun t15 =>
  bnd (aLd true 5 S13 t15) fun t16 =>
  ACalls P n_s_LsaOk [t16] H9 fun v17 H18 =>
  Abs.sub S13 H18 ∧
  bnd (aNot v17) fun t19 =>
  gd t19 false
  (bnd (aBinN .gtr (xs8.headD .any) (.int .i64 0)) fun t20 =>
  gd3 t20 true
  (bnd (partOf false 1 (cellsOf a0) 0) fun t21 =>
  bnd (aBinN .sub (xs8.headD .any) (.int .i64 1)) fun t22 =>
  bnd (aIndex S13 5 t21 t22) fun t23 =>
  bnd (aField 0 t23) fun t24 =>
  bnd (aLd false 1 S13 t24) fun t25 =>
  bnd (partOf false 1 (cellsOf a0) 0) fun t26 =>
  bnd (aIndex S13 5 t26 (xs8.headD .any)) fun t27 =>
  bnd (aField 0 t27) fun t28 =>
  bnd (aLd false 1 S13 t28) fun t29 =>
  bnd (aBinN .geq t25 t29) fun t30 =>
  cnd t30
  (Ret R (.bool false) H18)
  (bnd (aBinN .add (xs8.headD .any) (.int .i64 1)) fun t31 =>
  ∃ n7, n7 < n6 ∧ Shr (I4 n7 [t31]) H18))
  (bnd (aBinN .add (xs8.headD .any) (.int .i64 1)) fun t32 =>
  ∃ n7, n7 < n6 ∧ Shr (I4 n7 [t32]) H18)
  (bnd (aPick (.tup []) (.tup []) (.bool false)) fun t33 =>
  cnd t33
  (Ret R (.bool false) H18)
  (bnd (aBinN .add (xs8.headD .any) (.int .i64 1)) fun t34 =>
  ∃ n7, n7 < n6 ∧ Shr (I4 n7 [t34]) H18)))
  (Ret R (.bool false) H18))
  (Ret R (.bool true) H9)))
theorem W_s_DbOk {R : V → Heap → Prop} {a0 : V} {H : Heap} (h : F_s_DbOk R a0 H) : ACalls P n_s_DbOk [a0] H R :=
  acalls_of_form (g := ⟨[1], [4, 9, 15, 26, 33]⟩) (x := (.seq .leaf (.seq (.seq .leaf (.cond (.seq .leaf .leaf) .leaf)) (.seq (.seq .leaf (.block (.loop [3] (.seq (.seq .leaf (.cond .leaf .leaf)) (.seq (.block (.seq (.draw [0, 1, 2, 3, 4, 5, 6, 7, 8, 9, 10, 11, 12, 13, 14, 15, 16, 17, 18, 19, 20, 21, 22, 23, 24, 25, 26]) (.cond (.seq .leaf .leaf) .leaf))) .leaf))))) (.seq .leaf .leaf))))) Try.func17 (by kernel_rfl) (by kernel_rfl) (by kernel_rfl) (by kernel_rfl : F_s_DbOk R a0 H = _) h
def F_s_SameWords (R : V → Heap → Prop) (a0 a1 : V) (H : Heap) : Prop :=
  boxK a0 (boxK a1 (bnd (partOf true 5 (cellsOf a0) 0) fun t1 =>
  ACalls P n_s_LsaOk [t1] H fun v2 H3 =>
  bnd (aNot v2) fun t4 =>
  gd t4 false
  (bnd (partOf true 5 (cellsOf a1) 0) fun t5 =>
  ACalls P n_s_LsaOk [t5] H3 fun v6 H7 =>
  bnd (aNot v6) fun t8 =>
  gd t8 false
  (bnd (partOf false 1 (cellsOf a0) 0) fun t9 =>
  bnd (partOf false 1 (cellsOf a1) 0) fun t10 =>
  bnd (aBinN .neq t9 t10) fun t11 =>
  gd t11 false
  (bnd (partOf false 1 (cellsOf a0) 3) fun t12 =>
  bnd (lenOf t12) fun n13 =>
  bnd (partOf false 1 (cellsOf a1) 3) fun t14 =>
  bnd (lenOf t14) fun n15 =>
  bnd (aBinN .neq (.int .i64 (n13 : Nat)) (.int .i64 (n15 : Nat))) fun t16 =>
  gd t16 false
  (bnd (partOf false 1 (cellsOf a0) 4) fun t17 =>
  bnd (lenOf t17) fun n18 =>
  bnd (partOf false 1 (cellsOf a1) 4) fun t19 =>
  bnd (lenOf t19) fun n20 =>
  bnd (aBinN .neq (.int .i64 (n18 : Nat)) (.int .i64 (n20 : Nat))) fun t21 =>
  cnd t21
  (Ret R (.bool false) H7)
  (∃ (I22 : Nat → List V → Heap → Prop) (n23 : Nat), Shr (I22 n23 [(.int .i64 0)]) H7 ∧
  ∀ n24 xs26 H27, I22 n24 xs26 H27 →
  bnd (partOf false 1 (cellsOf a0) 3) fun t28 =>
  bnd (lenOf t28) fun n29 =>
  bnd (aBinN .lss (xs26.headD .any) (.int .i64 (n29 : Nat))) fun t30 =>
  cnd t30
  (∃ S31, Abs.sub S31 H27 ∧
  bnd (partOf false 1 (cellsOf a0) 3) fun t32 =>
  bnd (aIndex S31 2 t32 (xs26.headD .any)) fun t33 =>
  bnd (aLd true 2 S31 t33) fun t34 =>
  bnd (partOf false 1 (cellsOf a1) 3) fun t35 =>
  bnd (aIndex S31 2 t35 (xs26.headD .any)) fun t36 =>
  bnd (aLd true 2 S31 t36) fun t37 =>
  bnd (aBin P .neq 65 t34 t37) fun t38 =>
  cnd t38
  (Ret R (.bool false) H27)
  (bnd (aBinN .add (xs26.headD .any) (.int .i64 1)) fun t39 =>
  ∃ n25, n25 < n24 ∧ Shr (I22 n25 [t39]) H27))
  (∃ (I40 : Nat → List V → Heap → Prop) (n41 : Nat), Shr (I40 n41 [(.int .i64 0)]) H27 ∧
  ∀ n42 xs44 H45, I40 n42 xs44 H45 →
  bnd (partOf false 1 (cellsOf a0) 4) fun t46 =>
  bnd (lenOf t46) fun n47 =>
  bnd (aBinN .lss (xs44.headD .any) (.int .i64 (n47 : Nat))) fun t48 =>
  cnd t48
  (∃ S49, Abs.sub S49 H45 ∧
  bnd (partOf false 1 (cellsOf a0) 4) fun t50 =>
  bnd (aIndex S49 3 t50 (xs44.headD .any)) fun t51 =>
  bnd (aLd true 3 S49 t51) fun t52 =>
  bnd (partOf false 1 (cellsOf a1) 4) fun t53 =>
  bnd (aIndex S49 3 t53 (xs44.headD .any)) fun t54 =>
  bnd (aLd true 3 S49 t54) fun t55 =>
  bnd (aBin P .neq 69 t52 t55) fun t56 =>
  cnd t56
  (Ret R (.bool false) H45)
  (bnd (aBinN .add (xs44.headD .any) (.int .i64 1)) fun t57 =>
  ∃ n43, n43 < n42 ∧ Shr (I40 n43 [t57]) H45))
  (Ret R (.bool true) H45))))
  (Ret R (.bool false) H7))
  (Ret R (.bool false) H7))
  (Ret R (.bool false) H7))
  (Ret R (.bool false) H3)))
theorem W_s_SameWords {R : V → Heap → Prop} {a0 a1 : V} {H : Heap} (h : F_s_SameWords R a0 a1 H) : ACalls P n_s_SameWords [a0, a1] H R :=
  acalls_of_form (g := ⟨[2, 3], [16, 18, 23, 26, 32, 35, 41, 47, 52, 59, 65, 70]⟩) (x := (.seq .leaf (.seq (.seq .leaf (.cond (.seq .leaf .leaf) .leaf)) (.seq (.seq .leaf (.block (.loop [5] (.seq (.seq .leaf (.cond .leaf .leaf)) (.seq (.block (.seq (.draw [0, 1, 2, 3, 4, 5, 6, 7, 8, 9, 10]) (.cond (.seq .leaf .leaf) .leaf))) .leaf))))) (.seq (.seq .leaf (.block (.loop [6] (.seq (.seq .leaf (.cond .leaf .leaf)) (.seq (.block (.seq (.draw [0, 1, 2, 3, 4, 5, 6, 7, 8, 9, 10]) (.cond (.seq .leaf .leaf) .leaf))) .leaf))))) (.seq .leaf .leaf)))))) Try.func18 (by kernel_rfl) (by kernel_rfl) (by kernel_rfl) (by kernel_rfl : F_s_SameWords R a0 a1 H = _) h
def F_i_Merge (R : V → Heap → Prop) (a0 a1 : V) (H : Heap) : Prop :=
  boxK a0 (boxK a1 (bnd (partOf true 1 (cellsOf a0) 0) fun t1 =>
  ACalls P n_i_ownDb [t1] H fun v2 H3 =>
  ∀ o4, H3 o4 = none →
  bnd (aSt 1 (upd H3 o4 ⟨1, [[.nils]]⟩) (.ptr o4 0 0) v2) fun H5 =>
  bnd (partOf true 1 (cellsOf a0) 0) fun t6 =>
  ACalls P n_i_DbOk [t6] H5 fun v7 H8 =>
  bnd (aNot v7) fun t9 =>
  gd t9 false
  (bnd (partOf true 1 (cellsOf a1) 0) fun t10 =>
  ACalls P n_i_DbOk [t10] H8 fun v11 H12 =>
  bnd (aNot v11) fun t13 =>
  cnd t13
  (bnd (aLd true 1 H12 (.ptr o4 0 0)) fun t14 =>
  bnd (stz 1 [.nils] 0 t14) fun c15 =>
  bnd (partOf true 1 c15 0) fun t16 =>
  Ret R (.tup [t16, (.bool false)]) H12)
  (bnd (partOf false 1 (cellsOf a1) 0) fun t17 =>
  bnd (lenOf t17) fun n18 =>
  ∃ (I19 : Nat → List V → Heap → Prop) (n20 : Nat), Shr (I19 n20 [(.box [.nils]), (.int .i64 0)]) H12 ∧
  ∀ n21 xs23 H24, I19 n21 xs23 H24 →
  bnd (aBinN .lss (xs23.tail.headD .any) (.int .i64 (n18 : Nat))) fun t25 =>
  cnd t25
  (bnd (aIndex H24 5 t17 (xs23.tail.headD .any)) fun t26 =>
  bnd (aLd true 5 H24 t26) fun t27 =>
  bnd (stz 5 [(.int .i64 0), (.int .i64 0), (.int .i64 0), .nils, .nils] 0 t27) fun c28 =>
  bnd (partOf true 5 c28 0) fun t29 =>
  ACalls P n_p_i_Db_install [(.ptr o4 0 0), t29] H24 fun v30 H31 =>
  bnd (aBinN .add (xs23.tail.headD .any) (.int .i64 1)) fun t32 =>
  ∃ n22, n22 < n21 ∧ Shr (I19 n22 [(.box (bc (xs23.headD .any))), t32]) H31)
  (bnd (aLd true 1 H24 (.ptr o4 0 0)) fun t33 =>
  bnd (stz 1 (bc (xs23.headD .any)) 0 t33) fun c34 =>
  bnd (partOf true 1 c34 0) fun t35 =>
  Ret R (.tup [t35, (.bool true)]) H24)))
  (bnd (aLd true 1 H8 (.ptr o4 0 0)) fun t36 =>
  bnd (stz 1 [.nils] 0 t36) fun c37 =>
  bnd (partOf true 1 c37 0) fun t38 =>
  Ret R (.tup [t38, (.bool false)]) H8)))
theorem W_i_Merge {R : V → Heap → Prop} {a0 a1 : V} {H : Heap} (h : F_i_Merge R a0 a1 H) : ACalls P n_i_Merge [a0, a1] H R :=
  acalls_of_form (g := ⟨[2, 3, 4, 8], [20]⟩) (x := (.seq .leaf (.seq .leaf (.seq (.seq .leaf (.cond (.seq .leaf .leaf) .leaf)) (.seq (.seq .leaf (.block (.loop [4, 23] (.seq .leaf (.seq (.cond .leaf .leaf) (.seq (.block (.seq .leaf .leaf)) .leaf)))))) (.seq .leaf .leaf)))))) Try.func19 (by kernel_rfl) (by kernel_rfl) (by kernel_rfl) (by kernel_rfl : F_i_Merge R a0 a1 H = _) h
def F_i_DbSum (R : V → Heap → Prop) (a0 : V) (H : Heap) : Prop :=
  boxK a0 (bnd (partOf true 1 (cellsOf a0) 0) fun t1 =>
  ACalls P n_i_DbOk [t1] H fun v2 H3 =>
  bnd (aNot v2) fun t4 =>
  cnd t4
  (Ret R (.int .i64 (-1)) H3)
  (bnd (partOf true 1 (cellsOf a0) 0) fun t5 =>
  ACalls P n_i_Db_sum [t5] H3 fun v6 H7 =>
  Ret R v6 H7))
theorem W_i_DbSum {R : V → Heap → Prop} {a0 : V} {H : Heap} (h : F_i_DbSum R a0 H) : ACalls P n_i_DbSum [a0] H R :=
  acalls_of_form (g := ⟨[1], []⟩) (x := (.seq .leaf (.seq (.seq .leaf (.cond (.seq .leaf .leaf) .leaf)) (.seq .leaf .leaf)))) Try.func20 (by kernel_rfl) (by kernel_rfl) (by kernel_rfl) (by kernel_rfl : F_i_DbSum R a0 H = _) h
def F_s_DrawInstall (R : V → Heap → Prop) (a0 : V) (H : Heap) : Prop :=
  ACalls P n_s_l06Draw [a0] H fun v1 H2 =>
  bnd (aExtract 0 v1) fun t3 =>
  bnd (aExtract 1 v1) fun t4 =>
  bnd (stz 1 [.nils] 0 t4) fun c5 =>
  ∃ S6, Abs.sub S6 H2 ∧
  bnd (partOf true 1 c5 0) fun t7 =>
  bnd (partOf true 1 c5 0) fun t8 =>
  ACalls P n_s_l06DrawLsa [t3, t8] H2 fun v9 H10 =>
  Abs.sub S6 H10 ∧
  bnd (stz 1 [.nils] 0 t7) fun c11 =>
  bnd (stz 5 [(.int .i64 0), (.int .i64 0), (.int .i64 0), .nils, .nils] 0 v9) fun c12 =>
  bnd (partOf true 1 c11 0) fun t13 =>
  bnd (partOf true 5 c12 0) fun t14 =>
  Ret R (.tup [t13, t14]) H10
theorem W_s_DrawInstall {R : V → Heap → Prop} {a0 : V} {H : Heap} (h : F_s_DrawInstall R a0 H) : ACalls P n_s_DrawInstall [a0] H R :=
  acalls_of_form (g := ⟨[2, 3, 5], []⟩) (x := (.seq .leaf (.seq .leaf (.seq (.draw [0, 1, 2, 3, 4, 5]) .leaf)))) Try.func21 (by kernel_rfl) (by kernel_rfl) (by kernel_rfl) (by kernel_rfl : F_s_DrawInstall R a0 H = _) h
def F_s_Install (R : V → Heap → Prop) (a0 a1 : V) (H : Heap) : Prop :=
  boxK a0 (boxK a1 (bnd (partOf true 1 (cellsOf a0) 0) fun t1 =>
  ACalls P n_s_DbOk [t1] H fun v2 H3 =>
  bnd (aNot v2) fun t4 =>
  gd t4 false
  (bnd (partOf true 5 (cellsOf a1) 0) fun t5 =>
  ACalls P n_s_LsaOk [t5] H3 fun v6 H7 =>
  bnd (aNot v6) fun t8 =>
  cnd t8
  (bnd (partOf true 1 (cellsOf a0) 0) fun t9 =>
  ACalls P n_s_l06Copy [t9] H7 fun v10 H11 =>
  bnd (stz 1 [.nils] 0 v10) fun c12 =>
  bnd (partOf true 1 c12 0) fun t13 =>
  Ret R (.tup [t13, (.int .i64 3)]) H11)
  (bnd (partOf true 1 (cellsOf a0) 0) fun t14 =>
  bnd (partOf false 1 (cellsOf a1) 0) fun t15 =>
  ACalls P n_s_FindLsa [t14, t15] H7 fun v16 H17 =>
  bnd (aExtract 0 v16) fun t18 =>
  bnd (aExtract 1 v16) fun t19 =>
  bnd (stz 5 [(.int .i64 0), (.int .i64 0), (.int .i64 0), .nils, .nils] 0 t18) fun c20 =>
  bnd (aNot t19) fun t21 =>
  gd t21 true
  (bnd (partOf false 1 (cellsOf a1) 2) fun t22 =>
  bnd (aBinN .eql t22 (.int .i64 60)) fun t23 =>
  cnd t23
  (bnd (partOf true 1 (cellsOf a0) 0) fun t24 =>
  ACalls P n_s_l06Copy [t24] H17 fun v25 H26 =>
  bnd (stz 1 [.nils] 0 v25) fun c27 =>
  bnd (partOf true 1 c27 0) fun t28 =>
  Ret R (.tup [t28, (.int .i64 1)]) H26)
  (∃ J29 : List V → Heap → Prop,
  (cnd t19
  (bnd (partOf true 5 (cellsOf a1) 0) fun t32 =>
  bnd (partOf true 5 c20 0) fun t33 =>
  ACalls P n_s_Newer [t32, t33] H17 fun v34 H35 =>
  bnd (aBinN .eql v34 (.int .i64 0)) fun t36 =>
  cnd t36
  (bnd (partOf true 1 (cellsOf a0) 0) fun t37 =>
  ACalls P n_s_l06Copy [t37] H35 fun v38 H39 =>
  bnd (stz 1 [.nils] 0 v38) fun c40 =>
  bnd (partOf true 1 c40 0) fun t41 =>
  Ret R (.tup [t41, (.int .i64 1)]) H39)
  (bnd (aBinN .eql v34 (.int .i64 (-1))) fun t42 =>
  cnd t42
  (bnd (partOf true 1 (cellsOf a0) 0) fun t43 =>
  ACalls P n_s_l06Copy [t43] H35 fun v44 H45 =>
  bnd (stz 1 [.nils] 0 v44) fun c46 =>
  bnd (partOf true 1 c46 0) fun t47 =>
  Ret R (.tup [t47, (.int .i64 2)]) H45)
  (Shr (J29 [(.box (cellsOf a0)), (.box (cellsOf a1)), (.box [.nils])]) H35)))
  (Shr (J29 [(.box (cellsOf a0)), (.box (cellsOf a1)), (.box [.nils])]) H17)) ∧
  ∀ xs30 H31, J29 xs30 H31 →
  bnd (fillZ [.nils] []) fun c48 =>
  bnd (stz 1 [.nils] 0 (.agg c48)) fun c49 =>
  ∃ (I50 : Nat → List V → Heap → Prop) (n51 : Nat), Shr (I50 n51 [(.box (bc (xs30.headD .any))), (.box (bc (xs30.tail.headD .any))), (.box (bc (xs30.tail.tail.headD .any))), (.box c49), (.bool false), (.int .i64 0)]) H31 ∧
  ∀ n52 xs54 H55, I50 n52 xs54 H55 →
  bnd (partOf false 1 (bc (xs54.headD .any)) 0) fun t56 =>
  bnd (lenOf t56) fun n57 =>
  bnd (aBinN .lss (xs54.tail.tail.tail.tail.tail.headD .any) (.int .i64 (n57 : Nat))) fun t58 =>
  cnd t58
  (∃ J59 : List V → Heap → Prop,
  (∃ S62, Abs.sub S62 H55 ∧
  bnd (aNot (xs54.tail.tail.tail.tail.headD .any)) fun t63 =>
  gd t63 true
  (bnd (partOf false 1 (bc (xs54.tail.headD .any)) 0) fun t64 =>
  bnd (partOf false 1 (bc (xs54.headD .any)) 0) fun t65 =>
  bnd (aIndex S62 5 t65 (xs54.tail.tail.tail.tail.tail.headD .any)) fun t66 =>
  bnd (aField 0 t66) fun t67 =>
  bnd (aLd false 1 S62 t67) fun t68 =>
  bnd (aBinN .leq t64 t68) fun t69 =>
  cnd t69
  (bnd (partOf false 1 (bc (xs54.tail.tail.tail.headD .any)) 0) fun t70 =>
  bnd (partOf true 5 (bc (xs54.tail.headD .any)) 0) fun t71 =>
  ACalls P n_s_l05Copy [t71] H55 fun v72 H73 =>
  bnd (bsl 5 1 [(.int .i64 0), (.int .i64 0), (.int .i64 0), .nils, .nils] [(0, v72)]) fun r74 =>
  ∀ o75, H73 o75 = none →
  bnd (rowsOf (upd H73 o75 ⟨5, r74⟩) 5 (.slice o75 0 1 (some 1))) fun r78 =>
  appendK (upd H73 o75 ⟨5, r74⟩) 5 72 t70 r78 fun v76 H77 =>
  bnd (stz 1 (bc (xs54.tail.tail.tail.headD .any)) 0 v76) fun c79 =>
  Shr (J59 [(.box (bc (xs54.headD .any))), (.box (bc (xs54.tail.headD .any))), (.box (bc (xs54.tail.tail.headD .any))), (.box c79), (.bool true)]) H77)
  (Shr (J59 [(.box (bc (xs54.headD .any))), (.box (bc (xs54.tail.headD .any))), (.box (bc (xs54.tail.tail.headD .any))), (.box (bc (xs54.tail.tail.tail.headD .any))), (xs54.tail.tail.tail.tail.headD .any)]) H55))
  (Shr (J59 [(.box (bc (xs54.headD .any))), (.box (bc (xs54.tail.headD .any))), (.box (bc (xs54.tail.tail.headD .any))), (.box (bc (xs54.tail.tail.tail.headD .any))), (xs54.tail.tail.tail.tail.headD .any)]) H55)) ∧
  ∀ xs60 H61, J59 xs60 H61 →
  ∃ S80, Abs.sub S80 H61 ∧
  bnd (partOf false 1 (bc (xs60.headD .any)) 0) fun t81 =>
  bnd (aIndex S80 5 t81 (xs54.tail.tail.tail.tail.tail.headD .any)) fun t82 =>
  bnd (aField 0 t82) fun t83 =>
  bnd (aLd false 1 S80 t83) fun t84 =>
  bnd (partOf false 1 (bc (xs60.tail.headD .any)) 0) fun t85 =>
  bnd (aBinN .neq t84 t85) fun t86 =>
  cnd t86
  (bnd (partOf false 1 (bc (xs60.tail.tail.tail.headD .any)) 0) fun t87 =>
  bnd (partOf false 1 (bc (xs60.headD .any)) 0) fun t88 =>
  bnd (aIndex H61 5 t88 (xs54.tail.tail.tail.tail.tail.headD .any)) fun t89 =>
  bnd (aLd true 5 H61 t89) fun t90 =>
  ACalls P n_s_l05Copy [t90] H61 fun v91 H92 =>
  bnd (bsl 5 1 [(.int .i64 0), (.int .i64 0), (.int .i64 0), .nils, .nils] [(0, v91)]) fun r93 =>
  ∀ o94, H92 o94 = none →
  bnd (rowsOf (upd H92 o94 ⟨5, r93⟩) 5 (.slice o94 0 1 (some 1))) fun r97 =>
  appendK (upd H92 o94 ⟨5, r93⟩) 5 72 t87 r97 fun v95 H96 =>
  bnd (stz 1 (bc (xs60.tail.tail.tail.headD .any)) 0 v95) fun c98 =>
  bnd (aBinN .add (xs54.tail.tail.tail.tail.tail.headD .any) (.int .i64 1)) fun t99 =>
  ∃ n53, n53 < n52 ∧ Shr (I50 n53 [(.box (bc (xs60.headD .any))), (.box (bc (xs60.tail.headD .any))), (.box (bc (xs60.tail.tail.headD .any))), (.box c98), (xs60.tail.tail.tail.tail.headD .any), t99]) H96)
  (bnd (aBinN .add (xs54.tail.tail.tail.tail.tail.headD .any) (.int .i64 1)) fun t100 =>
  ∃ n53, n53 < n52 ∧ Shr (I50 n53 [(.box (bc (xs60.headD .any))), (.box (bc (xs60.tail.headD .any))), (.box (bc (xs60.tail.tail.headD .any))), (.box (bc (xs60.tail.tail.tail.headD .any))), (xs60.tail.tail.tail.tail.headD .any), t100]) H61))
  (bnd (aNot (xs54.tail.tail.tail.tail.headD .any)) fun t101 =>
  cnd t101
  (bnd (partOf false 1 (bc (xs54.tail.tail.tail.headD .any)) 0) fun t102 =>
  bnd (partOf true 5 (bc (xs54.tail.headD .any)) 0) fun t103 =>
  ACalls P n_s_l05Copy [t103] H55 fun v104 H105 =>
  bnd (bsl 5 1 [(.int .i64 0), (.int .i64 0), (.int .i64 0), .nils, .nils] [(0, v104)]) fun r106 =>
  ∀ o107, H105 o107 = none →
  bnd (rowsOf (upd H105 o107 ⟨5, r106⟩) 5 (.slice o107 0 1 (some 1))) fun r110 =>
  appendK (upd H105 o107 ⟨5, r106⟩) 5 72 t102 r110 fun v108 H109 =>
  bnd (stz 1 (bc (xs54.tail.tail.tail.headD .any)) 0 v108) fun c111 =>
  bnd (partOf true 1 c111 0) fun t112 =>
  bnd (stz 1 (bc (xs54.tail.tail.headD .any)) 0 t112) fun c113 =>
  bnd (partOf true 1 c113 0) fun t114 =>
  Ret R (.tup [t114, (.int .i64 0)]) H109)
  (bnd (partOf true 1 (bc (xs54.tail.tail.tail.headD .any)) 0) fun t115 =>
  bnd (stz 1 (bc (xs54.tail.tail.headD .any)) 0 t115) fun c116 =>
  bnd (partOf true 1 c116 0) fun t117 =>
  Ret R (.tup [t117, (.int .i64 0)]) H55))))
  (∃ J118 : List V → Heap → Prop,
  (cnd t19
  (bnd (partOf true 5 (cellsOf a1) 0) fun t121 =>
  bnd (partOf true 5 c20 0) fun t122 =>
  ACalls P n_s_Newer [t121, t122] H17 fun v123 H124 =>
  bnd (aBinN .eql v123 (.int .i64 0)) fun t125 =>
  cnd t125
  (bnd (partOf true 1 (cellsOf a0) 0) fun t126 =>
  ACalls P n_s_l06Copy [t126] H124 fun v127 H128 =>
  bnd (stz 1 [.nils] 0 v127) fun c129 =>
  bnd (partOf true 1 c129 0) fun t130 =>
  Ret R (.tup [t130, (.int .i64 1)]) H128)
  (bnd (aBinN .eql v123 (.int .i64 (-1))) fun t131 =>
  cnd t131
  (bnd (partOf true 1 (cellsOf a0) 0) fun t132 =>
  ACalls P n_s_l06Copy [t132] H124 fun v133 H134 =>
  bnd (stz 1 [.nils] 0 v133) fun c135 =>
  bnd (partOf true 1 c135 0) fun t136 =>
  Ret R (.tup [t136, (.int .i64 2)]) H134)
  (Shr (J118 [(.box (cellsOf a0)), (.box (cellsOf a1)), (.box [.nils])]) H124)))
  (Shr (J118 [(.box (cellsOf a0)), (.box (cellsOf a1)), (.box [.nils])]) H17)) ∧
  ∀ xs119 H120, J118 xs119 H120 →
  bnd (fillZ [.nils] []) fun c137 =>
  bnd (stz 1 [.nils] 0 (.agg c137)) fun c138 =>
  ∃ (I139 : Nat → List V → Heap → Prop) (n140 : Nat), Shr (I139 n140 [(.box (bc (xs119.headD .any))), (.box (bc (xs119.tail.headD .any))), (.box (bc (xs119.tail.tail.headD .any))), (.box c138), (.bool false), (.int .i64 0)]) H120 ∧
  ∀ n141 xs143 H144, I139 n141 xs143 H144 →
  bnd (partOf false 1 (bc (xs143.headD .any)) 0) fun t145 =>
  bnd (lenOf t145) fun n146 =>
  bnd (aBinN .lss (xs143.tail.tail.tail.tail.tail.headD .any) (.int .i64 (n146 : Nat))) fun t147 =>
  cnd t147
  (∃ J148 : List V → Heap → Prop,
  (∃ S151, Abs.sub S151 H144 ∧
  bnd (aNot (xs143.tail.tail.tail.tail.headD .any)) fun t152 =>
  gd t152 true
  (bnd (partOf false 1 (bc (xs143.tail.headD .any)) 0) fun t153 =>
  bnd (partOf false 1 (bc (xs143.headD .any)) 0) fun t154 =>
  bnd (aIndex S151 5 t154 (xs143.tail.tail.tail.tail.tail.headD .any)) fun t155 =>
  bnd (aField 0 t155) fun t156 =>
  bnd (aLd false 1 S151 t156) fun t157 =>
  bnd (aBinN .leq t153 t157) fun t158 =>
  cnd t158
  (bnd (partOf false 1 (bc (xs143.tail.tail.tail.headD .any)) 0) fun t159 =>
  bnd (partOf true 5 (bc (xs143.tail.headD .any)) 0) fun t160 =>
  ACalls P n_s_l05Copy [t160] H144 fun v161 H162 =>
  bnd (bsl 5 1 [(.int .i64 0), (.int .i64 0), (.int .i64 0), .nils, .nils] [(0, v161)]) fun r163 =>
  ∀ o164, H162 o164 = none →
  bnd (rowsOf (upd H162 o164 ⟨5, r163⟩) 5 (.slice o164 0 1 (some 1))) fun r167 =>
  appendK (upd H162 o164 ⟨5, r163⟩) 5 72 t159 r167 fun v165 H166 =>
  bnd (stz 1 (bc (xs143.tail.tail.tail.headD .any)) 0 v165) fun c168 =>
  Shr (J148 [(.box (bc (xs143.headD .any))), (.box (bc (xs143.tail.headD .any))), (.box (bc (xs143.tail.tail.headD .any))), (.box c168), (.bool true)]) H166)
  (Shr (J148 [(.box (bc (xs143.headD .any))), (.box (bc (xs143.tail.headD .any))), (.box (bc (xs143.tail.tail.headD .any))), (.box (bc (xs143.tail.tail.tail.headD .any))), (xs143.tail.tail.tail.tail.headD .any)]) H144))
  (Shr (J148 [(.box (bc (xs143.headD .any))), (.box (bc (xs143.tail.headD .any))), (.box (bc (xs143.tail.tail.headD .any))), (.box (bc (xs143.tail.tail.tail.headD .any))), (xs143.tail.tail.tail.tail.headD .any)]) H144)) ∧
  ∀ xs149 H150, J148 xs149 H150 →
  ∃ S169, Abs.sub S169 H150 ∧
  bnd (partOf false 1 (bc (xs149.headD .any)) 0) fun t170 =>
  bnd (aIndex S169 5 t170 (xs143.tail.tail.tail.tail.tail.headD .any)) fun t171 =>
  bnd (aField 0 t171) fun t172 =>
  bnd (aLd false 1 S169 t172) fun t173 =>
  bnd (partOf false 1 (bc (xs149.tail.headD .any)) 0) fun t174 =>
  bnd (aBinN .neq t173 t174) fun t175 =>
  cnd t175
  (bnd (partOf false 1 (bc (xs149.tail.tail.tail.headD .any)) 0) fun t176 =>
  bnd (partOf false 1 (bc (xs149.headD .any)) 0) fun t177 =>
  bnd (aIndex H150 5 t177 (xs143.tail.tail.tail.tail.tail.headD .any)) fun t178 =>
  bnd (aLd true 5 H150 t178) fun t179 =>
  ACalls P n_s_l05Copy [t179] H150 fun v180 H181 =>
  bnd (bsl 5 1 [(.int .i64 0), (.int .i64 0), (.int .i64 0), .nils, .nils] [(0, v180)]) fun r182 =>
  ∀ o183, H181 o183 = none →
  bnd (rowsOf (upd H181 o183 ⟨5, r182⟩) 5 (.slice o183 0 1 (some 1))) fun r186 =>
  appendK (upd H181 o183 ⟨5, r182⟩) 5 72 t176 r186 fun v184 H185 =>
  bnd (stz 1 (bc (xs149.tail.tail.tail.headD .any)) 0 v184) fun c187 =>
  bnd (aBinN .add (xs143.tail.tail.tail.tail.tail.headD .any) (.int .i64 1)) fun t188 =>
  ∃ n142, n142 < n141 ∧ Shr (I139 n142 [(.box (bc (xs149.headD .any))), (.box (bc (xs149.tail.headD .any))), (.box (bc (xs149.tail.tail.headD .any))), (.box c187), (xs149.tail.tail.tail.tail.headD .any), t188]) H185)
  (bnd (aBinN .add (xs143.tail.tail.tail.tail.tail.headD .any) (.int .i64 1)) fun t189 =>
  ∃ n142, n142 < n141 ∧ Shr (I139 n142 [(.box (bc (xs149.headD .any))), (.box (bc (xs149.tail.headD .any))), (.box (bc (xs149.tail.tail.headD .any))), (.box (bc (xs149.tail.tail.tail.headD .any))), (xs149.tail.tail.tail.tail.headD .any), t189]) H150))
  (bnd (aNot (xs143.tail.tail.tail.tail.headD .any)) fun t190 =>
  cnd t190
  (bnd (partOf false 1 (bc (xs143.tail.tail.tail.headD .any)) 0) fun t191 =>
  bnd (partOf true 5 (bc (xs143.tail.headD .any)) 0) fun t192 =>
  ACalls P n_s_l05Copy [t192] H144 fun v193 H194 =>
  bnd (bsl 5 1 [(.int .i64 0), (.int .i64 0), (.int .i64 0), .nils, .nils] [(0, v193)]) fun r195 =>
  ∀ o196, H194 o196 = none →
  bnd (rowsOf (upd H194 o196 ⟨5, r195⟩) 5 (.slice o196 0 1 (some 1))) fun r199 =>
  appendK (upd H194 o196 ⟨5, r195⟩) 5 72 t191 r199 fun v197 H198 =>
  bnd (stz 1 (bc (xs143.tail.tail.tail.headD .any)) 0 v197) fun c200 =>
  bnd (partOf true 1 c200 0) fun t201 =>
  bnd (stz 1 (bc (xs143.tail.tail.headD .any)) 0 t201) fun c202 =>
  bnd (partOf true 1 c202 0) fun t203 =>
  Ret R (.tup [t203, (.int .i64 0)]) H198)
  (bnd (partOf true 1 (bc (xs143.tail.tail.tail.headD .any)) 0) fun t204 =>
  bnd (stz 1 (bc (xs143.tail.tail.headD .any)) 0 t204) fun c205 =>
  bnd (partOf true 1 c205 0) fun t206 =>
  Ret R (.tup [t206, (.int .i64 0)]) H144)))))
  (bnd (partOf true 1 (cellsOf a0) 0) fun t207 =>
  ACalls P n_s_l06Copy [t207] H3 fun v208 H209 =>
  bnd (stz 1 [.nils] 0 v208) fun c210 =>
  bnd (partOf true 1 c210 0) fun t211 =>
  Ret R (.tup [t211, (.int .i64 3)]) H209)))
theorem W_s_Install {R : V → Heap → Prop} {a0 a1 : V} {H : Heap} (h : F_s_Install R a0 a1 H) : ACalls P n_s_Install [a0, a1] H R :=
  acalls_of_form (g := ⟨[2, 3, 4, 6, 8], [23, 31, 51, 60, 62, 70, 76, 77, 83, 86, 88, 96, 99, 105]⟩) (x := (.seq .leaf (.seq (.seq .leaf (.cond (.seq .leaf .leaf) .leaf)) (.seq .leaf (.seq (.seq .leaf (.cond (.seq .leaf .leaf) .leaf)) (.seqc (.seq .leaf (.cond (.seq .leaf (.block (.seq .leaf (.cond (.seq .leaf .leaf) (.seq .leaf (.cond (.seq .leaf .leaf) .leaf)))))) .leaf)) (.seq .leaf (.seq .leaf (.seq (.seq .leaf (.block (.loop [2, 3, 4, 8, 9, 10] (.seq (.seq .leaf (.cond .leaf .leaf)) (.seq (.block (.seqc (.seq (.draw [0, 1, 2, 3, 4, 5, 6, 7, 8, 9, 10, 11, 12]) (.cond (.seq (.drawh [0, 1, 2, 3, 4, 5, 6, 7]) .leaf) .leaf)) (.seq (.draw [0, 1, 2, 3, 4, 5, 6, 7, 8]) (.cond (.drawh [0, 1, 2, 3, 4, 5, 6, 7, 8, 9, 10, 11]) .leaf)) [2, 3, 4, 8, 9])) .leaf))))) (.seq (.seq .leaf (.cond (.drawh [0, 1, 2, 3, 4, 5, 6, 7]) .leaf)) (.seq .leaf .leaf))))) [2, 3, 4])))))) Try.func22 (by kernel_rfl) (by kernel_rfl) (by kernel_rfl) (by kernel_rfl : F_s_Install R a0 a1 H = _) h
def F_i_Install (R : V → Heap → Prop) (a0 a1 : V) (H : Heap) : Prop :=
  boxK a0 (boxK a1 (bnd (partOf true 1 (cellsOf a0) 0) fun t1 =>
  ACalls P n_i_ownDb [t1] H fun v2 H3 =>
  ∀ o4, H3 o4 = none →
  bnd (aSt 1 (upd H3 o4 ⟨1, [[.nils]]⟩) (.ptr o4 0 0) v2) fun H5 =>
  bnd (partOf true 1 (cellsOf a0) 0) fun t6 =>
  ACalls P n_i_DbOk [t6] H5 fun v7 H8 =>
  bnd (aNot v7) fun t9 =>
  gd t9 false
  (bnd (partOf true 5 (cellsOf a1) 0) fun t10 =>
  ACalls P n_i_LsaOk [t10] H8 fun v11 H12 =>
  bnd (aNot v11) fun t13 =>
  cnd t13
  (bnd (aLd true 1 H12 (.ptr o4 0 0)) fun t14 =>
  bnd (stz 1 [.nils] 0 t14) fun c15 =>
  bnd (partOf true 1 c15 0) fun t16 =>
  Ret R (.tup [t16, (.int .i64 3)]) H12)
  (bnd (partOf true 5 (cellsOf a1) 0) fun t17 =>
  ACalls P n_p_i_Db_install [(.ptr o4 0 0), t17] H12 fun v18 H19 =>
  bnd (aLd true 1 H19 (.ptr o4 0 0)) fun t20 =>
  bnd (stz 1 [.nils] 0 t20) fun c21 =>
  bnd (partOf true 1 c21 0) fun t22 =>
  Ret R (.tup [t22, v18]) H19))
  (bnd (aLd true 1 H8 (.ptr o4 0 0)) fun t23 =>
  bnd (stz 1 [.nils] 0 t23) fun c24 =>
  bnd (partOf true 1 c24 0) fun t25 =>
  Ret R (.tup [t25, (.int .i64 3)]) H8)))
theorem W_i_Install {R : V → Heap → Prop} {a0 a1 : V} {H : Heap} (h : F_i_Install R a0 a1 H) : ACalls P n_i_Install [a0, a1] H R :=
  acalls_of_form (g := ⟨[2, 3, 4], []⟩) (x := (.seq .leaf (.seq .leaf (.seq (.seq .leaf (.cond (.seq .leaf .leaf) .leaf)) (.seq .leaf (.seq .leaf .leaf)))))) Try.func23 (by kernel_rfl) (by kernel_rfl) (by kernel_rfl) (by kernel_rfl : F_i_Install R a0 a1 H = _) h
def F_i_FindLsa (R : V → Heap → Prop) (a0 a1 : V) (H : Heap) : Prop :=
  boxK a0 (bnd (partOf true 1 (cellsOf a0) 0) fun t1 =>
  ACalls P n_i_DbOk [t1] H fun v2 H3 =>
  bnd (aNot v2) fun t4 =>
  cnd t4
  (bnd (fillZ [(.int .i64 0), (.int .i64 0), (.int .i64 0), .nils, .nils] []) fun c5 =>
  bnd (stz 5 [(.int .i64 0), (.int .i64 0), (.int .i64 0), .nils, .nils] 0 (.agg c5)) fun c6 =>
  bnd (partOf true 5 c6 0) fun t7 =>
  Ret R (.tup [t7, (.bool false)]) H3)
  (bnd (partOf true 1 (cellsOf a0) 0) fun t8 =>
  ACalls P n_i_Db_find [t8, a1] H3 fun v9 H10 =>
  bnd (aExtract 0 v9) fun t11 =>
  bnd (aExtract 1 v9) fun t12 =>
  bnd (aNot t12) fun t13 =>
  cnd t13
  (bnd (fillZ [(.int .i64 0), (.int .i64 0), (.int .i64 0), .nils, .nils] []) fun c14 =>
  bnd (stz 5 [(.int .i64 0), (.int .i64 0), (.int .i64 0), .nils, .nils] 0 (.agg c14)) fun c15 =>
  bnd (partOf true 5 c15 0) fun t16 =>
  Ret R (.tup [t16, (.bool false)]) H10)
  (bnd (partOf false 1 (cellsOf a0) 0) fun t17 =>
  bnd (aIndex H10 5 t17 t11) fun t18 =>
  bnd (aLd true 5 H10 t18) fun t19 =>
  ACalls P n_i_ownLsa [t19] H10 fun v20 H21 =>
  bnd (stz 5 [(.int .i64 0), (.int .i64 0), (.int .i64 0), .nils, .nils] 0 v20) fun c22 =>
  bnd (partOf true 5 c22 0) fun t23 =>
  Ret R (.tup [t23, (.bool true)]) H21)))
theorem W_i_FindLsa {R : V → Heap → Prop} {a0 a1 : V} {H : Heap} (h : F_i_FindLsa R a0 a1 H) : ACalls P n_i_FindLsa [a0, a1] H R :=
  acalls_of_form (g := ⟨[2, 4], [21]⟩) (x := (.seq .leaf (.seq (.seq .leaf (.cond (.seq .leaf .leaf) .leaf)) (.seq .leaf (.seq (.seq .leaf (.cond (.seq .leaf .leaf) .leaf)) (.seq .leaf .leaf)))))) Try.func24 (by kernel_rfl) (by kernel_rfl) (by kernel_rfl) (by kernel_rfl : F_i_FindLsa R a0 a1 H = _) h
def F_l_alt (R : V → Heap → Prop) (a0 a1 : V) (H : Heap) : Prop :=
  bnd (aCv .u8 a1) fun t1 =>
  bnd (bsl 1 1 [(.int .u8 0)] [(0, t1)]) fun r2 =>
  ∀ o3, H o3 = none →
  ∃ (I4 : Nat → List V → Heap → Prop) (n5 : Nat), Shr (I4 n5 [(.slice o3 0 1 (some 1)), (.int .i64 0)]) (upd H o3 ⟨1, r2⟩) ∧
  ∀ n6 xs8 H9, I4 n6 xs8 H9 →
  bnd (lenOf a0) fun n10 =>
  bnd (aBinN .lss (xs8.tail.headD .any) (.int .i64 (n10 : Nat))) fun t11 =>
  gd t11 true
  (bnd (aBinN .lss (xs8.tail.headD .any) (.int .i64 3000)) fun t12 =>
  cnd t12
  (bnd (aIndex H9 1 a0 (xs8.tail.headD .any)) fun t13 =>
  bnd (aLd false 1 H9 t13) fun t14 =>
  bnd (bsl 1 1 [(.int .u8 0)] [(0, t14)]) fun r15 =>
  ∀ o16, H9 o16 = none →
  bnd (rowsOf (upd H9 o16 ⟨1, r15⟩) 1 (.slice o16 0 1 (some 1))) fun r19 =>
  appendK (upd H9 o16 ⟨1, r15⟩) 1 1 (xs8.headD .any) r19 fun v17 H18 =>
  bnd (aBinN .add (xs8.tail.headD .any) (.int .i64 1)) fun t20 =>
  ∃ n7, n7 < n6 ∧ Shr (I4 n7 [v17, t20]) H18)
  (Ret R (xs8.headD .any) H9))
  (Ret R (xs8.headD .any) H9)
theorem W_l_alt {R : V → Heap → Prop} {a0 a1 : V} {H : Heap} (h : F_l_alt R a0 a1 H) : ACalls P n_l_alt [a0, a1] H R :=
  acalls_of_form (g := ⟨[], []⟩) (x := (.seq .leaf (.seq .leaf (.seq (.seq .leaf (.block (.loop [5, 6] (.seq (.seq .leaf (.cond .leaf .leaf)) (.seq (.block .leaf) .leaf))))) (.seq .leaf .leaf))))) Try.func25 (by kernel_rfl) (by kernel_rfl) (by kernel_rfl) (by kernel_rfl : F_l_alt R a0 a1 H = _) h
def F_s_Merge (R : V → Heap → Prop) (a0 a1 : V) (H : Heap) : Prop :=
  boxK a0 (boxK a1 (bnd (partOf true 1 (cellsOf a0) 0) fun t1 =>
  ACalls P n_s_DbOk [t1] H fun v2 H3 =>
  bnd (aNot v2) fun t4 =>
  gd t4 false
  (bnd (partOf true 1 (cellsOf a1) 0) fun t5 =>
  ACalls P n_s_DbOk [t5] H3 fun v6 H7 =>
  bnd (aNot v6) fun t8 =>
  cnd t8
  (bnd (partOf true 1 (cellsOf a0) 0) fun t9 =>
  ACalls P n_s_l06Copy [t9] H7 fun v10 H11 =>
  bnd (stz 1 [.nils] 0 v10) fun c12 =>
  bnd (partOf true 1 c12 0) fun t13 =>
  Ret R (.tup [t13, (.bool false)]) H11)
  (bnd (partOf true 1 (cellsOf a0) 0) fun t14 =>
  ACalls P n_s_l06Copy [t14] H7 fun v15 H16 =>
  bnd (stz 1 [.nils] 0 v15) fun c17 =>
  ∃ (I18 : Nat → List V → Heap → Prop) (n19 : Nat), Shr (I18 n19 [(.box (cellsOf a1)), (.box [.nils]), (.box c17), (.int .i64 0)]) H16 ∧
  ∀ n20 xs22 H23, I18 n20 xs22 H23 →
  bnd (partOf false 1 (bc (xs22.headD .any)) 0) fun t24 =>
  bnd (lenOf t24) fun n25 =>
  bnd (aBinN .lss (xs22.tail.tail.tail.headD .any) (.int .i64 (n25 : Nat))) fun t26 =>
  cnd t26
  (∃ S27, Abs.sub S27 H23 ∧
  bnd (partOf true 1 (bc (xs22.tail.tail.headD .any)) 0) fun t28 =>
  bnd (partOf false 1 (bc (xs22.headD .any)) 0) fun t29 =>
  bnd (aIndex S27 5 t29 (xs22.tail.tail.tail.headD .any)) fun t30 =>
  bnd (aLd true 5 S27 t30) fun t31 =>
  ACalls P n_s_Install [t28, t31] H23 fun v32 H33 =>
  Abs.sub S27 H33 ∧
  bnd (aExtract 0 v32) fun t34 =>
  bnd (aExtract 1 v32) fun t35 =>
  bnd (stz 1 (bc (xs22.tail.tail.headD .any)) 0 t34) fun c36 =>
  bnd (aBinN .add (xs22.tail.tail.tail.headD .any) (.int .i64 1)) fun t37 =>
  ∃ n21, n21 < n20 ∧ Shr (I18 n21 [(.box (bc (xs22.headD .any))), (.box (bc (xs22.tail.headD .any))), (.box c36), t37]) H33)
  (bnd (partOf true 1 (bc (xs22.tail.tail.headD .any)) 0) fun t38 =>
  bnd (stz 1 (bc (xs22.tail.headD .any)) 0 t38) fun c39 =>
  bnd (partOf true 1 c39 0) fun t40 =>
  Ret R (.tup [t40, (.bool true)]) H23)))
  (bnd (partOf true 1 (cellsOf a0) 0) fun t41 =>
  ACalls P n_s_l06Copy [t41] H3 fun v42 H43 =>
  bnd (stz 1 [.nils] 0 v42) fun c44 =>
  bnd (partOf true 1 c44 0) fun t45 =>
  Ret R (.tup [t45, (.bool false)]) H43)))
theorem W_s_Merge {R : V → Heap → Prop} {a0 a1 : V} {H : Heap} (h : F_s_Merge R a0 a1 H) : ACalls P n_s_Merge [a0, a1] H R :=
  acalls_of_form (g := ⟨[2, 3, 4, 6], [21, 29]⟩) (x := (.seq .leaf (.seq (.seq .leaf (.cond (.seq .leaf .leaf) .leaf)) (.seq .leaf (.seq (.seq .leaf (.block (.loop [3, 4, 6, 7] (.seq (.seq .leaf (.cond .leaf .leaf)) (.seq (.block (.draw [0, 1, 2, 3, 4, 5, 6, 7, 8, 9, 10])) .leaf))))) (.seq .leaf .leaf)))))) Try.func26 (by kernel_rfl) (by kernel_rfl) (by kernel_rfl) (by kernel_rfl : F_s_Merge R a0 a1 H = _) h
def F_s_DbSum (R : V → Heap → Prop) (a0 : V) (H : Heap) : Prop :=
  boxK a0 (bnd (partOf true 1 (cellsOf a0) 0) fun t1 =>
  ACalls P n_s_DbOk [t1] H fun v2 H3 =>
  bnd (aNot v2) fun t4 =>
  cnd t4
  (Ret R (.int .i64 (-1)) H3)
  (∃ (I5 : Nat → List V → Heap → Prop) (n6 : Nat), Shr (I5 n6 [(.int .i64 1), (.int .i64 0)]) H3 ∧
  ∀ n7 xs9 H10, I5 n7 xs9 H10 →
  bnd (partOf false 1 (cellsOf a0) 0) fun t11 =>
  bnd (lenOf t11) fun n12 =>
  bnd (aBinN .lss (xs9.tail.headD .any) (.int .i64 (n12 : Nat))) fun t13 =>
  cnd t13
  (bnd (aBinN .mul (.int .i64 31) (xs9.headD .any)) fun t14 =>
  bnd (partOf false 1 (cellsOf a0) 0) fun t15 =>
  bnd (aIndex H10 5 t15 (xs9.tail.headD .any)) fun t16 =>
  bnd (aLd true 5 H10 t16) fun t17 =>
  ACalls P n_s_LsaSum [t17] H10 fun v18 H19 =>
  bnd (aBinN .add t14 v18) fun t20 =>
  bnd (aBinN .rem t20 (.int .i64 1000003)) fun t21 =>
  bnd (aBinN .add (xs9.tail.headD .any) (.int .i64 1)) fun t22 =>
  ∃ n8, n8 < n7 ∧ Shr (I5 n8 [t21, t22]) H19)
  (Ret R (xs9.headD .any) H10)))
theorem W_s_DbSum {R : V → Heap → Prop} {a0 : V} {H : Heap} (h : F_s_DbSum R a0 H) : ACalls P n_s_DbSum [a0] H R :=
  acalls_of_form (g := ⟨[1], [9, 17]⟩) (x := (.seq .leaf (.seq (.seq .leaf (.cond (.seq .leaf .leaf) .leaf)) (.seq .leaf (.seq (.seq .leaf (.block (.loop [3, 4] (.seq (.seq .leaf (.cond .leaf .leaf)) (.seq (.block .leaf) .leaf))))) (.seq .leaf .leaf)))))) Try.func27 (by kernel_rfl) (by kernel_rfl) (by kernel_rfl) (by kernel_rfl : F_s_DbSum R a0 H = _) h
def F_i_Lacks (R : V → Heap → Prop) (a0 a1 : V) (H : Heap) : Prop :=
  boxK a0 (boxK a1 (bnd (partOf true 1 (cellsOf a0) 0) fun t1 =>
  ACalls P n_i_DbOk [t1] H fun v2 H3 =>
  bnd (aNot v2) fun t4 =>
  gd t4 false
  (bnd (partOf true 1 (cellsOf a1) 0) fun t5 =>
  ACalls P n_i_DbOk [t5] H3 fun v6 H7 =>
  bnd (aNot v6) fun t8 =>
  cnd t8
  (Ret R .nils H7)
  (bnd (bsl 1 0 [(.int .i64 0)] []) fun r9 =>
  ∀ o10, H7 o10 = none →
  bnd (partOf false 1 (cellsOf a1) 0) fun t11 =>
  bnd (lenOf t11) fun n12 =>
  ∃ (I13 : Nat → List V → Heap → Prop) (n14 : Nat), Shr (I13 n14 [(.box (cellsOf a0)), (.slice o10 0 0 (some 0)), (.int .i64 0)]) (upd H7 o10 ⟨1, r9⟩) ∧
  ∀ n15 xs17 H18, I13 n15 xs17 H18 →
  bnd (aBinN .lss (xs17.tail.tail.headD .any) (.int .i64 (n12 : Nat))) fun t19 =>
  cnd t19
  (bnd (aIndex H18 5 t11 (xs17.tail.tail.headD .any)) fun t20 =>
  bnd (aLd true 5 H18 t20) fun t21 =>
  bnd (stz 5 [(.int .i64 0), (.int .i64 0), (.int .i64 0), .nils, .nils] 0 t21) fun c22 =>
  bnd (partOf true 1 (bc (xs17.headD .any)) 0) fun t23 =>
  bnd (partOf true 5 c22 0) fun t24 =>
  ACalls P n_i_Db_offer [t23, t24] H18 fun v25 H26 =>
  bnd (aBinN .eql v25 (.int .i64 0)) fun t27 =>
  cnd t27
  (bnd (partOf false 1 c22 0) fun t28 =>
  bnd (bsl 1 1 [(.int .i64 0)] [(0, t28)]) fun r29 =>
  ∀ o30, H26 o30 = none →
  bnd (rowsOf (upd H26 o30 ⟨1, r29⟩) 1 (.slice o30 0 1 (some 1))) fun r33 =>
  appendK (upd H26 o30 ⟨1, r29⟩) 1 8 (xs17.tail.headD .any) r33 fun v31 H32 =>
  bnd (aBinN .add (xs17.tail.tail.headD .any) (.int .i64 1)) fun t34 =>
  ∃ n16, n16 < n15 ∧ Shr (I13 n16 [(.box (bc (xs17.headD .any))), v31, t34]) H32)
  (bnd (aBinN .add (xs17.tail.tail.headD .any) (.int .i64 1)) fun t35 =>
  ∃ n16, n16 < n15 ∧ Shr (I13 n16 [(.box (bc (xs17.headD .any))), (xs17.tail.headD .any), t35]) H26))
  (Ret R (xs17.tail.headD .any) H18)))
  (Ret R .nils H3)))
theorem W_i_Lacks {R : V → Heap → Prop} {a0 a1 : V} {H : Heap} (h : F_i_Lacks R a0 a1 H) : ACalls P n_i_Lacks [a0, a1] H R :=
  acalls_of_form (g := ⟨[2, 3, 7], [17, 29]⟩) (x := (.seq .leaf (.seq (.seq .leaf (.cond (.seq .leaf .leaf) .leaf)) (.seq .leaf (.seq (.seq .leaf (.block (.loop [2, 5, 20] (.seq .leaf (.seq (.cond .leaf .leaf) (.seq (.block (.seq .leaf (.seq .leaf (.cond .leaf .leaf)))) .leaf)))))) (.seq .leaf .leaf)))))) Try.func28 (by kernel_rfl) (by kernel_rfl) (by kernel_rfl) (by kernel_rfl : F_i_Lacks R a0 a1 H = _) h
def F_l_same (R : V → Heap → Prop) (a0 a1 : V) (H : Heap) : Prop :=
  bnd (lenOf a0) fun n1 =>
  bnd (lenOf a1) fun n2 =>
  bnd (aBinN .neq (.int .i64 (n1 : Nat)) (.int .i64 (n2 : Nat))) fun t3 =>
  cnd t3
  (Ret R (.bool false) H)
  (∃ (I4 : Nat → List V → Heap → Prop) (n5 : Nat), Shr (I4 n5 [(.int .i64 0)]) H ∧
  ∀ n6 xs8 H9, I4 n6 xs8 H9 →
  bnd (lenOf a0) fun n10 =>
  bnd (aBinN .lss (xs8.headD .any) (.int .i64 (n10 : Nat))) fun t11 =>
  cnd t11
  (∃ S12, Abs.sub S12 H9 ∧
  bnd (aIndex S12 1 a0 (xs8.headD .any)) fun t13 =>
  bnd (aLd false 1 S12 t13) fun t14 =>
  bnd (aIndex S12 1 a1 (xs8.headD .any)) fun t15 =>
  bnd (aLd false 1 S12 t15) fun t16 =>
  bnd (aBinN .neq t14 t16) fun t17 =>
  cnd t17
  (Ret R (.bool false) H9)
  (bnd (aBinN .add (xs8.headD .any) (.int .i64 1)) fun t18 =>
  ∃ n7, n7 < n6 ∧ Shr (I4 n7 [t18]) H9))
  (Ret R (.bool true) H9))
theorem W_l_same {R : V → Heap → Prop} {a0 a1 : V} {H : Heap} (h : F_l_same R a0 a1 H) : ACalls P n_l_same [a0, a1] H R :=
  acalls_of_form (g := ⟨[], []⟩) (x := (.seq .leaf (.seq (.seq .leaf (.cond (.seq .leaf .leaf) .leaf)) (.seq (.seq .leaf (.block (.loop [5] (.seq (.seq .leaf (.cond .leaf .leaf)) (.seq (.block (.seq (.draw [0, 1, 2, 3, 4, 5, 6, 7, 8]) (.cond (.seq .leaf .leaf) .leaf))) .leaf))))) (.seq .leaf .leaf))))) Try.func29 (by kernel_rfl) (by kernel_rfl) (by kernel_rfl) (by kernel_rfl : F_l_same R a0 a1 H = _) h
def F_s_Lacks (R : V → Heap → Prop) (a0 a1 : V) (H : Heap) : Prop :=
  boxK a0 (boxK a1 (bnd (bsl 1 0 [(.int .i64 0)] []) fun r1 =>
  ∀ o2, H o2 = none →
  bnd (partOf true 1 (cellsOf a0) 0) fun t3 =>
  ACalls P n_s_DbOk [t3] (upd H o2 ⟨1, r1⟩) fun v4 H5 =>
  bnd (aNot v4) fun t6 =>
  gd t6 false
  (bnd (partOf true 1 (cellsOf a1) 0) fun t7 =>
  ACalls P n_s_DbOk [t7] H5 fun v8 H9 =>
  bnd (aNot v8) fun t10 =>
  cnd t10
  (Ret R .nils H9)
  (∃ (I11 : Nat → List V → Heap → Prop) (n12 : Nat), Shr (I11 n12 [(.box (cellsOf a0)), (.box (cellsOf a1)), (.slice o2 0 0 (some 0)), (.int .i64 0)]) H9 ∧
  ∀ n13 xs15 H16, I11 n13 xs15 H16 →
  bnd (partOf false 1 (bc (xs15.tail.headD .any)) 0) fun t17 =>
  bnd (lenOf t17) fun n18 =>
  bnd (aBinN .lss (xs15.tail.tail.tail.headD .any) (.int .i64 (n18 : Nat))) fun t19 =>
  cnd t19
  (bnd (partOf true 1 (bc (xs15.headD .any)) 0) fun t20 =>
  bnd (partOf false 1 (bc (xs15.tail.headD .any)) 0) fun t21 =>
  bnd (aIndex H16 5 t21 (xs15.tail.tail.tail.headD .any)) fun t22 =>
  bnd (aLd true 5 H16 t22) fun t23 =>
  ACalls P n_s_Install [t20, t23] H16 fun v24 H25 =>
  bnd (aExtract 0 v24) fun t26 =>
  bnd (aExtract 1 v24) fun t27 =>
  ∀ o28, H25 o28 = none →
  bnd (aSt 1 (upd H25 o28 ⟨1, [[.nils]]⟩) (.ptr o28 0 0) t26) fun H29 =>
  bnd (aBinN .eql t27 (.int .i64 0)) fun t30 =>
  cnd t30
  (bnd (partOf false 1 (bc (xs15.tail.headD .any)) 0) fun t31 =>
  bnd (aIndex H29 5 t31 (xs15.tail.tail.tail.headD .any)) fun t32 =>
  bnd (aField 0 t32) fun t33 =>
  bnd (aLd false 1 H29 t33) fun t34 =>
  bnd (bsl 1 1 [(.int .i64 0)] [(0, t34)]) fun r35 =>
  ∀ o36, H29 o36 = none →
  bnd (rowsOf (upd H29 o36 ⟨1, r35⟩) 1 (.slice o36 0 1 (some 1))) fun r39 =>
  appendK (upd H29 o36 ⟨1, r35⟩) 1 8 (xs15.tail.tail.headD .any) r39 fun v37 H38 =>
  bnd (aBinN .add (xs15.tail.tail.tail.headD .any) (.int .i64 1)) fun t40 =>
  ∃ n14, n14 < n13 ∧ Shr (I11 n14 [(.box (bc (xs15.headD .any))), (.box (bc (xs15.tail.headD .any))), v37, t40]) H38)
  (bnd (aBinN .add (xs15.tail.tail.tail.headD .any) (.int .i64 1)) fun t41 =>
  ∃ n14, n14 < n13 ∧ Shr (I11 n14 [(.box (bc (xs15.headD .any))), (.box (bc (xs15.tail.headD .any))), (xs15.tail.tail.headD .any), t41]) H29))
  (Ret R (xs15.tail.tail.headD .any) H16)))
  (Ret R .nils H5)))
theorem W_s_Lacks {R : V → Heap → Prop} {a0 a1 : V} {H : Heap} (h : F_s_Lacks R a0 a1 H) : ACalls P n_s_Lacks [a0, a1] H R :=
  acalls_of_form (g := ⟨[2, 3], [19, 27, 38]⟩) (x := (.seq .leaf (.seq .leaf (.seq (.seq .leaf (.cond (.seq .leaf .leaf) .leaf)) (.seq (.seq .leaf (.block (.loop [2, 3, 5, 6] (.seq (.seq .leaf (.cond .leaf .leaf)) (.seq (.block (.seq (.drawh [0, 1, 2, 3, 4, 5, 6, 7, 8, 9, 10, 11, 12]) (.seq .leaf (.cond .leaf .leaf)))) .leaf))))) (.seq .leaf .leaf)))))) Try.func30 (by kernel_rfl) (by kernel_rfl) (by kernel_rfl) (by kernel_rfl : F_s_Lacks R a0 a1 H = _) h
def F_s_l05DrawOne (R : V → Heap → Prop) (a0 : V) (H : Heap) : Prop :=
  ACalls P n_s_l01New [a0] H fun v1 H2 =>
  ACalls P n_s_l01Below [v1, (.int .i64 10)] H2 fun v3 H4 =>
  ACalls P n_s_l05DrawLsa [v1, v3, (.int .i64 10)] H4 fun v5 H6 =>
  bnd (stz 5 [(.int .i64 0), (.int .i64 0), (.int .i64 0), .nils, .nils] 0 v5) fun c7 =>
  ACalls P n_s_l01Once [v1, (.int .i64 10)] H6 fun v8 H9 =>
  cnd v8
  (bnd (partOf true 5 c7 0) fun t10 =>
  ACalls P n_s_l05Bend [v1, t10] H9 fun v11 H12 =>
  bnd (stz 5 c7 0 v11) fun c13 =>
  ∃ S14, Abs.sub S14 H12 ∧
  bnd (partOf true 5 c13 0) fun t15 =>
  bnd (stz 5 [(.int .i64 0), (.int .i64 0), (.int .i64 0), .nils, .nils] 0 t15) fun c16 =>
  bnd (partOf true 5 c16 0) fun t17 =>
  Ret R (.tup [v1, t17]) H12)
  (∃ S18, Abs.sub S18 H9 ∧
  bnd (partOf true 5 c7 0) fun t19 =>
  bnd (stz 5 [(.int .i64 0), (.int .i64 0), (.int .i64 0), .nils, .nils] 0 t19) fun c20 =>
  bnd (partOf true 5 c20 0) fun t21 =>
  Ret R (.tup [v1, t21]) H9)
theorem W_s_l05DrawOne {R : V → Heap → Prop} {a0 : V} {H : Heap} (h : F_s_l05DrawOne R a0 H) : ACalls P n_s_l05DrawOne [a0] H R :=
  acalls_of_form (g := ⟨[3, 5], []⟩) (x := (.seq .leaf (.seq .leaf (.seq .leaf (.seq (.seq .leaf (.cond .leaf .leaf)) (.seq (.draw [0, 1, 2, 3]) .leaf)))))) Try.func31 (by kernel_rfl) (by kernel_rfl) (by kernel_rfl) (by kernel_rfl : F_s_l05DrawOne R a0 H = _) h
def F_s_l05DrawLike (R : V → Heap → Prop) (a0 a1 : V) (H : Heap) : Prop :=
  boxK a1 (bnd (partOf true 5 (cellsOf a1) 0) fun t1 =>
  ACalls P n_s_l05Copy [t1] H fun v2 H3 =>
  bnd (stz 5 [(.int .i64 0), (.int .i64 0), (.int .i64 0), .nils, .nils] 0 v2) fun c4 =>
  ACalls P n_s_l01Below [a0, (.int .i64 6)] H3 fun v5 H6 =>
  bnd (aBinN .eql v5 (.int .i64 0)) fun t7 =>
  cnd t7
  (ACalls P n_s_l01Below [a0, (.int .i64 5)] H6 fun v8 H9 =>
  bnd (aBinN .add (.int .i64 1) v8) fun t10 =>
  bnd (stz 1 c4 1 t10) fun c11 =>
  bnd (partOf true 5 c11 0) fun t12 =>
  bnd (stz 5 [(.int .i64 0), (.int .i64 0), (.int .i64 0), .nils, .nils] 0 t12) fun c13 =>
  bnd (partOf true 5 c13 0) fun t14 =>
  Ret R t14 H9)
  (bnd (aBinN .eql v5 (.int .i64 1)) fun t15 =>
  cnd t15
  (∃ S16, Abs.sub S16 H6 ∧
  bnd (partOf false 1 (cellsOf a1) 2) fun t17 =>
  bnd (aBinN .add t17 (.int .i64 10)) fun t18 =>
  bnd (partOf false 1 (cellsOf a1) 2) fun t19 =>
  bnd (aBinN .add t19 (.int .i64 11)) fun t20 =>
  ACalls P n_s_l01Below [a0, (.int .i64 60)] H6 fun v21 H22 =>
  Abs.sub S16 H22 ∧
  bnd (bsl 1 6 [(.int .i64 0)] [(0, (.int .i64 0)), (1, (.int .i64 60)), (2, (.int .i64 59)), (3, t18), (4, t20), (5, v21)]) fun r23 =>
  ∀ o24, H22 o24 = none →
  Abs.sub S16 (upd H22 o24 ⟨1, r23⟩) ∧
  ACalls P n_s_l01PickInt [a0, (.slice o24 0 6 (some 6))] (upd H22 o24 ⟨1, r23⟩) fun v25 H26 =>
  Abs.sub S16 H26 ∧
  bnd (stz 1 c4 2 v25) fun c27 =>
  bnd (partOf true 5 c27 0) fun t28 =>
  bnd (stz 5 [(.int .i64 0), (.int .i64 0), (.int .i64 0), .nils, .nils] 0 t28) fun c29 =>
  bnd (partOf true 5 c29 0) fun t30 =>
  Ret R t30 H26)
  (bnd (aBinN .eql v5 (.int .i64 2)) fun t31 =>
  cnd t31
  (bnd (partOf false 1 (cellsOf a1) 0) fun t32 =>
  ACalls P n_s_l05DrawLsa [a0, t32, (.int .i64 10)] H6 fun v33 H34 =>
  bnd (stz 5 c4 0 v33) fun c35 =>
  bnd (partOf true 5 c35 0) fun t36 =>
  bnd (stz 5 [(.int .i64 0), (.int .i64 0), (.int .i64 0), .nils, .nils] 0 t36) fun c37 =>
  bnd (partOf true 5 c37 0) fun t38 =>
  Ret R t38 H34)
  (bnd (aBinN .eql v5 (.int .i64 3)) fun t39 =>
  cnd t39
  (bnd (stz 1 c4 3 .nils) fun c40 =>
  bnd (partOf true 5 c40 0) fun t41 =>
  bnd (stz 5 [(.int .i64 0), (.int .i64 0), (.int .i64 0), .nils, .nils] 0 t41) fun c42 =>
  bnd (partOf true 5 c42 0) fun t43 =>
  Ret R t43 H6)
  (bnd (aBinN .eql v5 (.int .i64 4)) fun t44 =>
  cnd t44
  (bnd (partOf true 5 (cellsOf a1) 0) fun t45 =>
  ACalls P n_s_l05Bend [a0, t45] H6 fun v46 H47 =>
  bnd (stz 5 c4 0 v46) fun c48 =>
  bnd (partOf true 5 c48 0) fun t49 =>
  bnd (stz 5 [(.int .i64 0), (.int .i64 0), (.int .i64 0), .nils, .nils] 0 t49) fun c50 =>
  bnd (partOf true 5 c50 0) fun t51 =>
  Ret R t51 H47)
  (bnd (partOf true 5 c4 0) fun t52 =>
  bnd (stz 5 [(.int .i64 0), (.int .i64 0), (.int .i64 0), .nils, .nils] 0 t52) fun c53 =>
  bnd (partOf true 5 c53 0) fun t54 =>
  Ret R t54 H6))))))
theorem W_s_l05DrawLike {R : V → Heap → Prop} {a0 a1 : V} {H : Heap} (h : F_s_l05DrawLike R a0 a1 H) : ACalls P n_s_l05DrawLike [a0, a1] H R :=
  acalls_of_form (g := ⟨[3, 4, 5], [15, 19, 22, 29, 33, 38]⟩) (x := (.seq .leaf (.seq .leaf (.seq (.seq .leaf (.block (.seq .leaf (.cond .leaf (.seq .leaf (.cond (.draw [0, 1, 2, 3, 4, 5, 6, 7, 8, 9, 10, 11, 12]) (.seq .leaf (.cond .leaf (.seq .leaf (.cond .leaf (.seq .leaf (.cond .leaf .leaf)))))))))))) (.seq .leaf .leaf))))) Try.func32 (by kernel_rfl) (by kernel_rfl) (by kernel_rfl) (by kernel_rfl : F_s_l05DrawLike R a0 a1 H = _) h
def F_s_LsaOk (R : V → Heap → Prop) (a0 : V) (H : Heap) : Prop :=
  boxK a0 (bnd (partOf false 1 (cellsOf a0) 0) fun t1 =>
  ACalls P n_s_l01In [t1, (.int .i64 0), (.int .i64 9)] H fun v2 H3 =>
  bnd (aNot v2) fun t4 =>
  gd t4 false
  (bnd (partOf false 1 (cellsOf a0) 1) fun t5 =>
  ACalls P n_s_l01In [t5, (.int .i64 1), (.int .i64 1000000)] H3 fun v6 H7 =>
  bnd (aNot v6) fun t8 =>
  gd t8 false
  (bnd (partOf false 1 (cellsOf a0) 2) fun t9 =>
  ACalls P n_s_l01In [t9, (.int .i64 0), (.int .i64 60)] H7 fun v10 H11 =>
  bnd (aNot v10) fun t12 =>
  gd t12 false
  (bnd (partOf false 1 (cellsOf a0) 3) fun t13 =>
  bnd (lenOf t13) fun n14 =>
  bnd (aBinN .gtr (.int .i64 (n14 : Nat)) (.int .i64 10)) fun t15 =>
  gd t15 false
  (bnd (partOf false 1 (cellsOf a0) 4) fun t16 =>
  bnd (lenOf t16) fun n17 =>
  bnd (aBinN .gtr (.int .i64 (n17 : Nat)) (.int .i64 6)) fun t18 =>
  cnd t18
  (Ret R (.bool false) H11)
  (∃ (I19 : Nat → List V → Heap → Prop) (n20 : Nat), Shr (I19 n20 [(.box (cellsOf a0)), (.int .i64 0)]) H11 ∧
  ∀ n21 xs23 H24, I19 n21 xs23 H24 →
  bnd (partOf false 1 (bc (xs23.headD .any)) 3) fun t25 =>
  bnd (lenOf t25) fun n26 =>
  bnd (aBinN .lss (xs23.tail.headD .any) (.int .i64 (n26 : Nat))) fun t27 =>
  cnd t27
  (bnd (partOf false 1 (bc (xs23.headD .any)) 3) fun t28 =>
  bnd (aIndex H24 2 t28 (xs23.tail.headD .any)) fun t29 =>
  bnd (aLd true 2 H24 t29) fun t30 =>
  bnd (stz 2 [(.int .i64 0), (.int .i64 0)] 0 t30) fun c31 =>
  ∃ S32, Abs.sub S32 H24 ∧
  bnd (partOf false 1 c31 0) fun t33 =>
  ACalls P n_s_l01In [t33, (.int .i64 0), (.int .i64 9)] H24 fun v34 H35 =>
  Abs.sub S32 H35 ∧
  bnd (aNot v34) fun t36 =>
  gd t36 false
  (bnd (partOf false 1 c31 0) fun t37 =>
  bnd (partOf false 1 (bc (xs23.headD .any)) 0) fun t38 =>
  bnd (aBinN .eql t37 t38) fun t39 =>
  gd t39 false
  (bnd (partOf false 1 c31 1) fun t40 =>
  ACalls P n_s_l01In [t40, (.int .i64 1), (.int .i64 1000)] H35 fun v41 H42 =>
  Abs.sub S32 H42 ∧
  bnd (aNot v41) fun t43 =>
  gd t43 false
  (bnd (aBinN .gtr (xs23.tail.headD .any) (.int .i64 0)) fun t44 =>
  gd3 t44 true
  (bnd (partOf false 1 (bc (xs23.headD .any)) 3) fun t45 =>
  bnd (aBinN .sub (xs23.tail.headD .any) (.int .i64 1)) fun t46 =>
  bnd (aIndex S32 2 t45 t46) fun t47 =>
  bnd (aField 0 t47) fun t48 =>
  bnd (aLd false 1 S32 t48) fun t49 =>
  bnd (partOf false 1 c31 0) fun t50 =>
  bnd (aBinN .geq t49 t50) fun t51 =>
  cnd t51
  (Ret R (.bool false) H42)
  (bnd (aBinN .add (xs23.tail.headD .any) (.int .i64 1)) fun t52 =>
  ∃ n22, n22 < n21 ∧ Shr (I19 n22 [(.box (bc (xs23.headD .any))), t52]) H42))
  (bnd (aBinN .add (xs23.tail.headD .any) (.int .i64 1)) fun t53 =>
  ∃ n22, n22 < n21 ∧ Shr (I19 n22 [(.box (bc (xs23.headD .any))), t53]) H42)
  (bnd (aPick (.tup []) (.tup []) (.bool false)) fun t54 =>
  cnd t54
  (Ret R (.bool false) H42)
  (bnd (aBinN .add (xs23.tail.headD .any) (.int .i64 1)) fun t55 =>
  ∃ n22, n22 < n21 ∧ Shr (I19 n22 [(.box (bc (xs23.headD .any))), t55]) H42)))
  (Ret R (.bool false) H42))
  (Ret R (.bool false) H35))
  (Ret R (.bool false) H35))
  (∃ (I56 : Nat → List V → Heap → Prop) (n57 : Nat), Shr (I56 n57 [(.box (bc (xs23.headD .any))), (.int .i64 0)]) H24 ∧
  ∀ n58 xs60 H61, I56 n58 xs60 H61 →
  bnd (partOf false 1 (bc (xs60.headD .any)) 4) fun t62 =>
  bnd (lenOf t62) fun n63 =>
  bnd (aBinN .lss (xs60.tail.headD .any) (.int .i64 (n63 : Nat))) fun t64 =>
  cnd t64
  (bnd (partOf false 1 (bc (xs60.headD .any)) 4) fun t65 =>
  bnd (aIndex H61 3 t65 (xs60.tail.headD .any)) fun t66 =>
  bnd (aLd true 3 H61 t66) fun t67 =>
  bnd (stz 3 [(.int .i64 0), (.int .i64 0), (.int .i64 0)] 0 t67) fun c68 =>
  ∃ S69, Abs.sub S69 H61 ∧
  bnd (partOf true 2 c68 0) fun t70 =>
  ACalls P n_s_PrefixOk [t70] H61 fun v71 H72 =>
  Abs.sub S69 H72 ∧
  bnd (aNot v71) fun t73 =>
  gd t73 false
  (bnd (partOf false 1 c68 2) fun t74 =>
  ACalls P n_s_l01In [t74, (.int .i64 1), (.int .i64 1000)] H72 fun v75 H76 =>
  Abs.sub S69 H76 ∧
  bnd (aNot v75) fun t77 =>
  gd t77 false
  (bnd (aBinN .gtr (xs60.tail.headD .any) (.int .i64 0)) fun t78 =>
  gd3 t78 true
  (bnd (partOf false 1 (bc (xs60.headD .any)) 4) fun t79 =>
  bnd (aBinN .sub (xs60.tail.headD .any) (.int .i64 1)) fun t80 =>
  bnd (aIndex S69 3 t79 t80) fun t81 =>
  bnd (aField 0 t81) fun t82 =>
  bnd (aLd true 2 S69 t82) fun t83 =>
  bnd (partOf true 2 c68 0) fun t84 =>
  ACalls P n_s_l02Ahead [t83, t84] H76 fun v85 H86 =>
  Abs.sub S69 H86 ∧
  bnd (aNot v85) fun t87 =>
  cnd t87
  (Ret R (.bool false) H86)
  (bnd (aBinN .add (xs60.tail.headD .any) (.int .i64 1)) fun t88 =>
  ∃ n59, n59 < n58 ∧ Shr (I56 n59 [(.box (bc (xs60.headD .any))), t88]) H86))
  (bnd (aBinN .add (xs60.tail.headD .any) (.int .i64 1)) fun t89 =>
  ∃ n59, n59 < n58 ∧ Shr (I56 n59 [(.box (bc (xs60.headD .any))), t89]) H76)
  (bnd (aPick (.tup []) (.tup []) (.bool false)) fun t90 =>
  cnd t90
  (Ret R (.bool false) H76)
  (bnd (aBinN .add (xs60.tail.headD .any) (.int .i64 1)) fun t91 =>
  ∃ n59, n59 < n58 ∧ Shr (I56 n59 [(.box (bc (xs60.headD .any))), t91]) H76)))
  (Ret R (.bool false) H76))
  (Ret R (.bool false) H72))
  (Ret R (.bool true) H61))))
  (Ret R (.bool false) H11))
  (Ret R (.bool false) H11))
  (Ret R (.bool false) H7))
  (Ret R (.bool false) H3))
theorem W_s_LsaOk {R : V → Heap → Prop} {a0 : V} {H : Heap} (h : F_s_LsaOk R a0 H) : ACalls P n_s_LsaOk [a0] H R :=
  acalls_of_form (g := ⟨[1, 4, 6], [7, 12, 18, 24, 30, 36, 42, 47, 52, 54, 59, 68, 75, 81, 87, 92, 97, 106, 113]⟩) (x := (.seq .leaf (.seq (.seq .leaf (.cond (.seq .leaf .leaf) .leaf)) (.seq (.seq .leaf (.block (.loop [1, 3] (.seq (.seq .leaf (.cond .leaf .leaf)) (.seq (.block (.seq .leaf (.seq (.draw [0, 1, 2, 3, 4, 5, 6, 7, 8, 9, 10, 11, 12, 13, 14, 15, 16, 17, 18, 19, 20, 21, 22, 23, 24, 25, 26, 27, 28, 29, 30, 31, 32]) (.cond (.seq .leaf .leaf) .leaf)))) .leaf))))) (.seq (.seq .leaf (.block (.loop [1, 5] (.seq (.seq .leaf (.cond .leaf .leaf)) (.seq (.block (.seq .leaf (.seq (.draw [0, 1, 2, 3, 4, 5, 6, 7, 8, 9, 10, 11, 12, 13, 14, 15, 16, 17, 18, 19, 20, 21, 22, 23, 24, 25, 26]) (.cond (.seq .leaf .leaf) .leaf)))) .leaf))))) (.seq .leaf .leaf)))))) Try.func33 (by kernel_rfl) (by kernel_rfl) (by kernel_rfl) (by kernel_rfl : F_s_LsaOk R a0 H = _) h
def F_s_l05Sign (R : V → Heap → Prop) (a0 : V) (H : Heap) : Prop :=
  bnd (aBinN .gtr a0 (.int .i64 0)) fun t1 =>
  cnd t1
  (Ret R (.int .i64 1) H)
  (bnd (aBinN .lss a0 (.int .i64 0)) fun t2 =>
  cnd t2
  (Ret R (.int .i64 (-1)) H)
  (Ret R (.int .i64 0) H))
theorem W_s_l05Sign {R : V → Heap → Prop} {a0 : V} {H : Heap} (h : F_s_l05Sign R a0 H) : ACalls P n_s_l05Sign [a0] H R :=
  acalls_of_form (g := ⟨[], []⟩) (x := (.seq .leaf (.seq (.seq .leaf (.cond (.seq .leaf .leaf) .leaf)) (.seq (.seq .leaf (.cond (.seq .leaf .leaf) .leaf)) (.seq .leaf .leaf))))) Try.func34 (by kernel_rfl) (by kernel_rfl) (by kernel_rfl) (by kernel_rfl : F_s_l05Sign R a0 H = _) h
def F_i_LsaOk (R : V → Heap → Prop) (a0 : V) (H : Heap) : Prop :=
  boxK a0 (bnd (partOf false 1 (cellsOf a0) 0) fun t1 =>
  ACalls P n_i_within [t1, (.int .i64 0), (.int .i64 9)] H fun v2 H3 =>
  gd v2 true
  (bnd (partOf false 1 (cellsOf a0) 1) fun t4 =>
  ACalls P n_i_within [t4, (.int .i64 1), (.int .i64 1000000)] H3 fun v5 H6 =>
  gd v5 true
  (bnd (partOf false 1 (cellsOf a0) 2) fun t7 =>
  ACalls P n_i_within [t7, (.int .i64 0), (.int .i64 60)] H6 fun v8 H9 =>
  gd v8 true
  (bnd (partOf false 1 (cellsOf a0) 0) fun t10 =>
  bnd (partOf false 1 (cellsOf a0) 3) fun t11 =>
  ACalls P n_i_areLinks [t10, t11] H9 fun v12 H13 =>
  gd v12 true
  (bnd (partOf false 1 (cellsOf a0) 4) fun t14 =>
  ACalls P n_i_areStubs [t14] H13 fun v15 H16 =>
  Ret R v15 H16)
  (Ret R (.bool false) H13))
  (Ret R (.bool false) H9))
  (Ret R (.bool false) H6))
  (Ret R (.bool false) H3))
theorem W_i_LsaOk {R : V → Heap → Prop} {a0 : V} {H : Heap} (h : F_i_LsaOk R a0 H) : ACalls P n_i_LsaOk [a0] H R :=
  acalls_of_form (g := ⟨[1], [3, 7, 12, 17, 19, 24]⟩) (x := (.seq .leaf (.seq .leaf .leaf))) Try.func35 (by kernel_rfl) (by kernel_rfl) (by kernel_rfl) (by kernel_rfl : F_i_LsaOk R a0 H = _) h
def F_i_newer (R : V → Heap → Prop) (a0 a1 : V) (H : Heap) : Prop :=
  boxK a0 (boxK a1 (∃ S1, Abs.sub S1 H ∧
  bnd (partOf false 1 (cellsOf a0) 1) fun t2 =>
  bnd (partOf false 1 (cellsOf a1) 1) fun t3 =>
  bnd (partOf true 5 (cellsOf a0) 0) fun t4 =>
  bnd (partOf true 5 (cellsOf a1) 0) fun t5 =>
  ACalls P n_cmp_Compare_int [t2, t3] H fun v6 H7 =>
  Abs.sub S1 H7 ∧
  ACalls P n_i_Lsa_sum [t4] H7 fun v8 H9 =>
  Abs.sub S1 H9 ∧
  ACalls P n_i_Lsa_sum [t5] H9 fun v10 H11 =>
  Abs.sub S1 H11 ∧
  ACalls P n_cmp_Compare_int [v8, v10] H11 fun v12 H13 =>
  Abs.sub S1 H13 ∧
  bnd (bsl 1 2 [(.int .i64 0)] [(0, v6), (1, v12)]) fun r14 =>
  ∀ o15, H13 o15 = none →
  Abs.sub S1 (upd H13 o15 ⟨1, r14⟩) ∧
  ACalls P n_cmp_Or_int [(.slice o15 0 2 (some 2))] (upd H13 o15 ⟨1, r14⟩) fun v16 H17 =>
  Abs.sub S1 H17 ∧
  bnd (aBinN .neq v16 (.int .i64 0)) fun t18 =>
  cnd t18
  (Ret R v16 H17)
  (∃ S19, Abs.sub S19 H17 ∧
  bnd (partOf true 5 (cellsOf a0) 0) fun t20 =>
  bnd (partOf true 5 (cellsOf a1) 0) fun t21 =>
  ACalls P n_i_newer_1 [t20] H17 fun v22 H23 =>
  Abs.sub S19 H23 ∧
  ACalls P n_i_newer_1 [t21] H23 fun v24 H25 =>
  Abs.sub S19 H25 ∧
  bnd (aBinB .neq v22 v24) fun t26 =>
  cnd t26
  (bnd (partOf true 5 (cellsOf a0) 0) fun t27 =>
  ACalls P n_i_newer_1 [t27] H25 fun v28 H29 =>
  cnd v28
  (Ret R (.int .i64 1) H29)
  (Ret R (.int .i64 (-1)) H29))
  (bnd (partOf false 1 (cellsOf a0) 2) fun t30 =>
  bnd (partOf false 1 (cellsOf a1) 2) fun t31 =>
  bnd (aBinN .sub t30 t31) fun t32 =>
  bnd (aBinN .gtr t32 (.int .i64 10)) fun t33 =>
  cnd t33
  (Ret R (.int .i64 (-1)) H25)
  (bnd (partOf false 1 (cellsOf a1) 2) fun t34 =>
  bnd (partOf false 1 (cellsOf a0) 2) fun t35 =>
  bnd (aBinN .sub t34 t35) fun t36 =>
  bnd (aBinN .gtr t36 (.int .i64 10)) fun t37 =>
  cnd t37
  (Ret R (.int .i64 1) H25)
  (Ret R (.int .i64 0) H25))))))
theorem W_i_newer {R : V → Heap → Prop} {a0 a1 : V} {H : Heap} (h : F_i_newer R a0 a1 H) : ACalls P n_i_newer [a0, a1] H R :=
  acalls_of_form (g := ⟨[2, 3], [7, 9, 34, 36, 41, 43]⟩) (x := (.seq .leaf (.seq (.seq (.draw [0, 1, 2, 3, 5, 7, 4, 6, 8, 9, 10, 11, 12]) (.seq .leaf (.cond (.seq .leaf .leaf) .leaf))) (.seq .leaf (.seq (.block (.seq (.draw [0, 1, 3, 4, 2, 5, 6, 7]) (.cond (.seq (.seq .leaf (.cond (.seq .leaf .leaf) .leaf)) (.seq .leaf .leaf)) (.seq .leaf (.cond (.seq .leaf .leaf) (.seq .leaf (.cond (.seq .leaf .leaf) .leaf))))))) (.seq .leaf .leaf)))))) Try.func36 (by kernel_rfl) (by kernel_rfl) (by kernel_rfl) (by kernel_rfl : F_i_newer R a0 a1 H = _) h
def F_s_LsaBytes (R : V → Heap → Prop) (a0 : V) (H : Heap) : Prop :=
  boxK a0 (bnd (partOf true 5 (cellsOf a0) 0) fun t1 =>
  ACalls P n_s_LsaOk [t1] H fun v2 H3 =>
  bnd (aNot v2) fun t4 =>
  cnd t4
  (Ret R .nils H3)
  (∃ S5, Abs.sub S5 H3 ∧
  bnd (partOf false 1 (cellsOf a0) 0) fun t6 =>
  bnd (aCv .u8 t6) fun t7 =>
  bnd (partOf false 1 (cellsOf a0) 1) fun t8 =>
  ACalls P n_s_l05Wide [t8, (.int .i64 3)] H3 fun v9 H10 =>
  Abs.sub S5 H10 ∧
  bnd (bsl 1 1 [(.int .u8 0)] [(0, t7)]) fun r11 =>
  ∀ o12, H10 o12 = none →
  Abs.sub S5 (upd H10 o12 ⟨1, r11⟩) ∧
  ACalls P n_s_l01Join [(.slice o12 0 1 (some 1)), v9] (upd H10 o12 ⟨1, r11⟩) fun v13 H14 =>
  Abs.sub S5 H14 ∧
  bnd (partOf false 1 (cellsOf a0) 3) fun t15 =>
  bnd (lenOf t15) fun n16 =>
  bnd (aCv .u8 (.int .i64 (n16 : Nat))) fun t17 =>
  bnd (bsl 1 1 [(.int .u8 0)] [(0, t17)]) fun r18 =>
  ∀ o19, H14 o19 = none →
  bnd (rowsOf (upd H14 o19 ⟨1, r18⟩) 1 (.slice o19 0 1 (some 1))) fun r22 =>
  appendK (upd H14 o19 ⟨1, r18⟩) 1 1 v13 r22 fun v20 H21 =>
  ∃ (I23 : Nat → List V → Heap → Prop) (n24 : Nat), Shr (I23 n24 [v20, (.int .i64 0)]) H21 ∧
  ∀ n25 xs27 H28, I23 n25 xs27 H28 →
  bnd (partOf false 1 (cellsOf a0) 3) fun t29 =>
  bnd (lenOf t29) fun n30 =>
  bnd (aBinN .lss (xs27.tail.headD .any) (.int .i64 (n30 : Nat))) fun t31 =>
  cnd t31
  (∃ S32, Abs.sub S32 H28 ∧
  bnd (partOf false 1 (cellsOf a0) 3) fun t33 =>
  bnd (aIndex S32 2 t33 (xs27.tail.headD .any)) fun t34 =>
  bnd (aField 0 t34) fun t35 =>
  bnd (aLd false 1 S32 t35) fun t36 =>
  bnd (aCv .u8 t36) fun t37 =>
  bnd (partOf false 1 (cellsOf a0) 3) fun t38 =>
  bnd (aIndex S32 2 t38 (xs27.tail.headD .any)) fun t39 =>
  bnd (aField 1 t39) fun t40 =>
  bnd (aLd false 1 S32 t40) fun t41 =>
  bnd (bsl 1 1 [(.int .u8 0)] [(0, t37)]) fun r42 =>
  ∀ o43, H28 o43 = none →
  Abs.sub S32 (upd H28 o43 ⟨1, r42⟩) ∧
  bnd (rowsOf (upd H28 o43 ⟨1, r42⟩) 1 (.slice o43 0 1 (some 1))) fun r46 =>
  appendK (upd H28 o43 ⟨1, r42⟩) 1 1 (xs27.headD .any) r46 fun v44 H45 =>
  Abs.sub S32 H45 ∧
  ACalls P n_s_l05Wide [t41, (.int .i64 2)] H45 fun v47 H48 =>
  Abs.sub S32 H48 ∧
  ACalls P n_s_l01Join [v44, v47] H48 fun v49 H50 =>
  Abs.sub S32 H50 ∧
  bnd (aBinN .add (xs27.tail.headD .any) (.int .i64 1)) fun t51 =>
  ∃ n26, n26 < n25 ∧ Shr (I23 n26 [v49, t51]) H50)
  (bnd (partOf false 1 (cellsOf a0) 4) fun t52 =>
  bnd (lenOf t52) fun n53 =>
  bnd (aCv .u8 (.int .i64 (n53 : Nat))) fun t54 =>
  bnd (bsl 1 1 [(.int .u8 0)] [(0, t54)]) fun r55 =>
  ∀ o56, H28 o56 = none →
  bnd (rowsOf (upd H28 o56 ⟨1, r55⟩) 1 (.slice o56 0 1 (some 1))) fun r59 =>
  appendK (upd H28 o56 ⟨1, r55⟩) 1 1 (xs27.headD .any) r59 fun v57 H58 =>
  ∃ (I60 : Nat → List V → Heap → Prop) (n61 : Nat), Shr (I60 n61 [(.box (cellsOf a0)), v57, (.int .i64 0)]) H58 ∧
  ∀ n62 xs64 H65, I60 n62 xs64 H65 →
  bnd (partOf false 1 (bc (xs64.headD .any)) 4) fun t66 =>
  bnd (lenOf t66) fun n67 =>
  bnd (aBinN .lss (xs64.tail.tail.headD .any) (.int .i64 (n67 : Nat))) fun t68 =>
  cnd t68
  (bnd (partOf false 1 (bc (xs64.headD .any)) 4) fun t69 =>
  bnd (aIndex H65 3 t69 (xs64.tail.tail.headD .any)) fun t70 =>
  bnd (aLd true 3 H65 t70) fun t71 =>
  bnd (stz 3 [(.int .i64 0), (.int .i64 0), (.int .i64 0)] 0 t71) fun c72 =>
  ∃ S73, Abs.sub S73 H65 ∧
  bnd (partOf false 1 c72 0) fun t74 =>
  bnd (partOf false 1 c72 1) fun t75 =>
  bnd (aCv .u8 t75) fun t76 =>
  bnd (partOf false 1 c72 2) fun t77 =>
  ACalls P n_s_l05Wide [t74, (.int .i64 2)] H65 fun v78 H79 =>
  Abs.sub S73 H79 ∧
  ACalls P n_s_l01Join [(xs64.tail.headD .any), v78] H79 fun v80 H81 =>
  Abs.sub S73 H81 ∧
  bnd (bsl 1 1 [(.int .u8 0)] [(0, t76)]) fun r82 =>
  ∀ o83, H81 o83 = none →
  Abs.sub S73 (upd H81 o83 ⟨1, r82⟩) ∧
  bnd (rowsOf (upd H81 o83 ⟨1, r82⟩) 1 (.slice o83 0 1 (some 1))) fun r86 =>
  appendK (upd H81 o83 ⟨1, r82⟩) 1 1 v80 r86 fun v84 H85 =>
  Abs.sub S73 H85 ∧
  ACalls P n_s_l05Wide [t77, (.int .i64 2)] H85 fun v87 H88 =>
  Abs.sub S73 H88 ∧
  ACalls P n_s_l01Join [v84, v87] H88 fun v89 H90 =>
  Abs.sub S73 H90 ∧
  bnd (aBinN .add (xs64.tail.tail.headD .any) (.int .i64 1)) fun t91 =>
  ∃ n63, n63 < n62 ∧ Shr (I60 n63 [(.box (bc (xs64.headD .any))), v89, t91]) H90)
  (Ret R (xs64.tail.headD .any) H65))))
theorem W_s_LsaBytes {R : V → Heap → Prop} {a0 : V} {H : Heap} (h : F_s_LsaBytes R a0 H) : ACalls P n_s_LsaBytes [a0] H R :=
  acalls_of_form (g := ⟨[1, 6], [10, 14, 19, 26, 33, 42, 51, 58, 64, 70, 71, 75, 76, 81]⟩) (x := (.seq .leaf (.seq (.seq .leaf (.cond (.seq .leaf .leaf) .leaf)) (.seq (.drawp [[0, 1, 2, 4, 5, 6, 3, 7, 8]]) (.seq .leaf (.seq (.seq .leaf (.block (.loop [3, 4] (.seq (.seq .leaf (.cond .leaf .leaf)) (.seq (.block (.draw [0, 1, 2, 3, 4, 5, 6, 7, 10, 11, 12, 13, 14, 15, 8, 9, 16, 17, 18])) .leaf))))) (.seq .leaf (.seq (.seq .leaf (.block (.loop [1, 3, 5] (.seq (.seq .leaf (.cond .leaf .leaf)) (.seq (.block (.seq .leaf (.drawp [[0, 1, 2, 3, 6, 7, 8, 9, 12, 13, 4, 5, 10, 11, 14, 15, 16]]))) .leaf))))) (.seq .leaf .leaf))))))))) Try.func37 (by kernel_rfl) (by kernel_rfl) (by kernel_rfl) (by kernel_rfl : F_s_LsaBytes R a0 H = _) h
def F_p_i_taker_take (R : V → Heap → Prop) (a0 a1 : V) (H : Heap) : Prop :=
  bnd (aNil a0) fun t1 =>
  bnd (aField 1 t1) fun t2 =>
  bnd (aLd false 1 H t2) fun t3 =>
  gd t3 false
  (bnd (aNil a0) fun t4 =>
  bnd (aField 0 t4) fun t5 =>
  bnd (aLd false 1 H t5) fun t6 =>
  bnd (lenOf t6) fun n7 =>
  bnd (aBinN .lss (.int .i64 (n7 : Nat)) a1) fun t8 =>
  cnd t8
  (bnd (aNil a0) fun t9 =>
  bnd (aField 1 t9) fun t10 =>
  bnd (aSt 1 H t10 (.bool true)) fun H11 =>
  Ret R (.int .i64 0) H11)
  (bnd (aNil a0) fun t12 =>
  bnd (aField 0 t12) fun t13 =>
  bnd (aLd false 1 H t13) fun t14 =>
  bnd (aSlice H 1 t14 none (some a1) none) fun t15 =>
  bnd (lenOf t15) fun n16 =>
  ∃ (I17 : Nat → List V → Heap → Prop) (n18 : Nat), Shr (I17 n18 [(.int .i64 0), (.int .i64 0)]) H ∧
  ∀ n19 xs21 H22, I17 n19 xs21 H22 →
  bnd (aBinN .lss (xs21.tail.headD .any) (.int .i64 (n16 : Nat))) fun t23 =>
  cnd t23
  (bnd (aIndex H22 1 t15 (xs21.tail.headD .any)) fun t24 =>
  bnd (aLd false 1 H22 t24) fun t25 =>
  bnd (aBinN .shl (xs21.headD .any) (.int .u64 8)) fun t26 =>
  bnd (aCv .i64 t25) fun t27 =>
  bnd (aBinN .or t26 t27) fun t28 =>
  bnd (aBinN .add (xs21.tail.headD .any) (.int .i64 1)) fun t29 =>
  ∃ n20, n20 < n19 ∧ Shr (I17 n20 [t28, t29]) H22)
  (bnd (aNil a0) fun t30 =>
  bnd (aField 0 t30) fun t31 =>
  bnd (aLd false 1 H22 t31) fun t32 =>
  bnd (aSlice H22 1 t32 (some a1) none none) fun t33 =>
  bnd (aNil a0) fun t34 =>
  bnd (aField 0 t34) fun t35 =>
  bnd (aSt 1 H22 t35 t33) fun H36 =>
  Ret R (xs21.headD .any) H36)))
  (bnd (aNil a0) fun t37 =>
  bnd (aField 1 t37) fun t38 =>
  bnd (aSt 1 H t38 (.bool true)) fun H39 =>
  Ret R (.int .i64 0) H39)
theorem W_p_i_taker_take {R : V → Heap → Prop} {a0 a1 : V} {H : Heap} (h : F_p_i_taker_take R a0 a1 H) : ACalls P n_p_i_taker_take [a0, a1] H R :=
  acalls_of_form (g := ⟨[], []⟩) (x := (.seq .leaf (.seq (.seq .leaf (.cond (.seq .leaf (.seq .leaf .leaf)) .leaf)) (.seq .leaf (.seq (.seq .leaf (.block (.loop [5, 31] (.seq .leaf (.seq (.cond .leaf .leaf) (.seq (.block (.seq .leaf .leaf)) .leaf)))))) (.seq .leaf (.seq .leaf .leaf))))))) Try.func38 (by kernel_rfl) (by kernel_rfl) (by kernel_rfl) (by kernel_rfl : F_p_i_taker_take R a0 a1 H = _) h
def F_slices_Equal_byte_byte (R : V → Heap → Prop) (a0 a1 : V) (H : Heap) : Prop :=
  bnd (lenOf a0) fun n1 =>
  bnd (lenOf a1) fun n2 =>
  bnd (aBinN .neq (.int .i64 (n1 : Nat)) (.int .i64 (n2 : Nat))) fun t3 =>
  cnd t3
  (Ret R (.bool false) H)
  (bnd (lenOf a0) fun n4 =>
  ∃ (I5 : Nat → List V → Heap → Prop) (n6 : Nat), Shr (I5 n6 [(.int .i64 0)]) H ∧
  ∀ n7 xs9 H10, I5 n7 xs9 H10 →
  bnd (aBinN .lss (xs9.headD .any) (.int .i64 (n4 : Nat))) fun t11 =>
  cnd t11
  (∃ S12, Abs.sub S12 H10 ∧
  bnd (aIndex S12 1 a0 (xs9.headD .any)) fun t13 =>
  bnd (aLd false 1 S12 t13) fun t14 =>
  bnd (aIndex S12 1 a1 (xs9.headD .any)) fun t15 =>
  bnd (aLd false 1 S12 t15) fun t16 =>
  bnd (aBinN .neq t14 t16) fun t17 =>
  cnd t17
  (Ret R (.bool false) H10)
  (bnd (aBinN .add (xs9.headD .any) (.int .i64 1)) fun t18 =>
  ∃ n8, n8 < n7 ∧ Shr (I5 n8 [t18]) H10))
  (Ret R (.bool true) H10))
theorem W_slices_Equal_byte_byte {R : V → Heap → Prop} {a0 a1 : V} {H : Heap} (h : F_slices_Equal_byte_byte R a0 a1 H) : ACalls P n_slices_Equal_byte_byte [a0, a1] H R :=
  acalls_of_form (g := ⟨[], []⟩) (x := (.seq .leaf (.seq (.seq .leaf (.cond (.seq .leaf .leaf) .leaf)) (.seq (.seq .leaf (.block (.loop [13] (.seq .leaf (.seq (.cond .leaf .leaf) (.seq (.block (.seq .leaf (.seq (.draw [0, 1, 2, 3, 4, 5, 6, 7, 8]) (.cond (.seq .leaf .leaf) .leaf)))) .leaf)))))) (.seq .leaf .leaf))))) Try.func39 (by kernel_rfl) (by kernel_rfl) (by kernel_rfl) (by kernel_rfl : F_slices_Equal_byte_byte R a0 a1 H = _) h
def F_i_big (R : V → Heap → Prop) (a0 a1 a2 : V) (H : Heap) : Prop :=
  bnd (aBinN .sub a2 (.int .i64 1)) fun t1 =>
  ∃ (I2 : Nat → List V → Heap → Prop) (n3 : Nat), Shr (I2 n3 [a0, t1]) H ∧
  ∀ n4 xs6 H7, I2 n4 xs6 H7 →
  bnd (aBinN .geq (xs6.tail.headD .any) (.int .i64 0)) fun t8 =>
  cnd t8
  (bnd (aBinN .mul (.int .i64 8) (xs6.tail.headD .any)) fun t9 =>
  bnd (aBinN .shr a1 t9) fun t10 =>
  bnd (aCv .u8 t10) fun t11 =>
  bnd (bsl 1 1 [(.int .u8 0)] [(0, t11)]) fun r12 =>
  ∀ o13, H7 o13 = none →
  bnd (rowsOf (upd H7 o13 ⟨1, r12⟩) 1 (.slice o13 0 1 (some 1))) fun r16 =>
  appendK (upd H7 o13 ⟨1, r12⟩) 1 1 (xs6.headD .any) r16 fun v14 H15 =>
  bnd (aBinN .sub (xs6.tail.headD .any) (.int .i64 1)) fun t17 =>
  ∃ n5, n5 < n4 ∧ Shr (I2 n5 [v14, t17]) H15)
  (Ret R (xs6.headD .any) H7)
theorem W_i_big {R : V → Heap → Prop} {a0 a1 a2 : V} {H : Heap} (h : F_i_big R a0 a1 a2 H) : ACalls P n_i_big [a0, a1, a2] H R :=
  acalls_of_form (g := ⟨[], []⟩) (x := (.seq .leaf (.seq (.seq .leaf (.block (.loop [0, 7] (.seq (.seq .leaf (.cond .leaf .leaf)) (.seq (.block .leaf) .leaf))))) (.seq .leaf .leaf)))) Try.func40 (by kernel_rfl) (by kernel_rfl) (by kernel_rfl) (by kernel_rfl : F_i_big R a0 a1 a2 H = _) h
def F_i_Lsa_bytes (R : V → Heap → Prop) (a0 : V) (H : Heap) : Prop :=
  boxK a0 (bnd (partOf false 1 (cellsOf a0) 0) fun t1 =>
  bnd (aCv .u8 t1) fun t2 =>
  bnd (bsl 1 1 [(.int .u8 0)] [(0, t2)]) fun r3 =>
  ∀ o4, H o4 = none →
  bnd (partOf false 1 (cellsOf a0) 1) fun t5 =>
  ACalls P n_i_big [(.slice o4 0 1 (some 1)), t5, (.int .i64 3)] (upd H o4 ⟨1, r3⟩) fun v6 H7 =>
  bnd (partOf false 1 (cellsOf a0) 3) fun t8 =>
  bnd (lenOf t8) fun n9 =>
  bnd (aCv .u8 (.int .i64 (n9 : Nat))) fun t10 =>
  bnd (bsl 1 1 [(.int .u8 0)] [(0, t10)]) fun r11 =>
  ∀ o12, H7 o12 = none →
  bnd (rowsOf (upd H7 o12 ⟨1, r11⟩) 1 (.slice o12 0 1 (some 1))) fun r15 =>
  appendK (upd H7 o12 ⟨1, r11⟩) 1 1 v6 r15 fun v13 H14 =>
  bnd (partOf false 1 (cellsOf a0) 3) fun t16 =>
  bnd (lenOf t16) fun n17 =>
  ∃ (I18 : Nat → List V → Heap → Prop) (n19 : Nat), Shr (I18 n19 [(.box (cellsOf a0)), v13, (.int .i64 0)]) H14 ∧
  ∀ n20 xs22 H23, I18 n20 xs22 H23 →
  bnd (aBinN .lss (xs22.tail.tail.headD .any) (.int .i64 (n17 : Nat))) fun t24 =>
  cnd t24
  (bnd (aIndex H23 2 t16 (xs22.tail.tail.headD .any)) fun t25 =>
  bnd (aLd true 2 H23 t25) fun t26 =>
  bnd (stz 2 [(.int .i64 0), (.int .i64 0)] 0 t26) fun c27 =>
  bnd (partOf false 1 c27 0) fun t28 =>
  bnd (aCv .u8 t28) fun t29 =>
  bnd (partOf false 1 c27 1) fun t30 =>
  bnd (bsl 1 1 [(.int .u8 0)] [(0, t29)]) fun r31 =>
  ∀ o32, H23 o32 = none →
  bnd (rowsOf (upd H23 o32 ⟨1, r31⟩) 1 (.slice o32 0 1 (some 1))) fun r35 =>
  appendK (upd H23 o32 ⟨1, r31⟩) 1 1 (xs22.tail.headD .any) r35 fun v33 H34 =>
  ACalls P n_i_big [v33, t30, (.int .i64 2)] H34 fun v36 H37 =>
  bnd (aBinN .add (xs22.tail.tail.headD .any) (.int .i64 1)) fun t38 =>
  ∃ n21, n21 < n20 ∧ Shr (I18 n21 [(.box (bc (xs22.headD .any))), v36, t38]) H37)
  (bnd (partOf false 1 (bc (xs22.headD .any)) 4) fun t39 =>
  bnd (lenOf t39) fun n40 =>
  bnd (aCv .u8 (.int .i64 (n40 : Nat))) fun t41 =>
  bnd (bsl 1 1 [(.int .u8 0)] [(0, t41)]) fun r42 =>
  ∀ o43, H23 o43 = none →
  bnd (rowsOf (upd H23 o43 ⟨1, r42⟩) 1 (.slice o43 0 1 (some 1))) fun r46 =>
  appendK (upd H23 o43 ⟨1, r42⟩) 1 1 (xs22.tail.headD .any) r46 fun v44 H45 =>
  bnd (partOf false 1 (bc (xs22.headD .any)) 4) fun t47 =>
  bnd (lenOf t47) fun n48 =>
  ∃ (I49 : Nat → List V → Heap → Prop) (n50 : Nat), Shr (I49 n50 [v44, (.int .i64 0)]) H45 ∧
  ∀ n51 xs53 H54, I49 n51 xs53 H54 →
  bnd (aBinN .lss (xs53.tail.headD .any) (.int .i64 (n48 : Nat))) fun t55 =>
  cnd t55
  (bnd (aIndex H54 3 t47 (xs53.tail.headD .any)) fun t56 =>
  bnd (aLd true 3 H54 t56) fun t57 =>
  bnd (stz 3 [(.int .i64 0), (.int .i64 0), (.int .i64 0)] 0 t57) fun c58 =>
  bnd (partOf false 1 c58 0) fun t59 =>
  ACalls P n_i_big [(xs53.headD .any), t59, (.int .i64 2)] H54 fun v60 H61 =>
  bnd (partOf false 1 c58 1) fun t62 =>
  bnd (aCv .u8 t62) fun t63 =>
  bnd (partOf false 1 c58 2) fun t64 =>
  bnd (bsl 1 1 [(.int .u8 0)] [(0, t63)]) fun r65 =>
  ∀ o66, H61 o66 = none →
  bnd (rowsOf (upd H61 o66 ⟨1, r65⟩) 1 (.slice o66 0 1 (some 1))) fun r69 =>
  appendK (upd H61 o66 ⟨1, r65⟩) 1 1 v60 r69 fun v67 H68 =>
  ACalls P n_i_big [v67, t64, (.int .i64 2)] H68 fun v70 H71 =>
  bnd (aBinN .add (xs53.tail.headD .any) (.int .i64 1)) fun t72 =>
  ∃ n52, n52 < n51 ∧ Shr (I49 n52 [v70, t72]) H71)
  (Ret R (xs53.headD .any) H54)))
theorem W_i_Lsa_bytes {R : V → Heap → Prop} {a0 : V} {H : Heap} (h : F_i_Lsa_bytes R a0 H) : ACalls P n_i_Lsa_bytes [a0] H R :=
  acalls_of_form (g := ⟨[1, 5, 7], [8, 12, 16, 22, 30, 35, 40, 46, 54, 55, 59, 60, 65]⟩) (x := (.seq .leaf (.seq .leaf (.seq .leaf (.seq (.seq .leaf (.block (.loop [1, 3, 25] (.seq .leaf (.seq (.cond .leaf .leaf) (.seq (.block (.seq .leaf (.drawh [0, 1, 2, 3, 6, 7, 4, 5, 8, 9]))) .leaf)))))) (.seq .leaf (.seq (.seq .leaf (.block (.loop [3, 49] (.seq .leaf (.seq (.cond .leaf .leaf) (.seq (.block (.seq .leaf (.seq .leaf (.drawh [0, 1, 2, 3, 4, 7, 8, 5, 6, 9, 10])))) .leaf)))))) (.seq .leaf .leaf)))))))) Try.func41 (by kernel_rfl) (by kernel_rfl) (by kernel_rfl) (by kernel_rfl : F_i_Lsa_bytes R a0 H = _) h
def F_i_Lsa_sum (R : V → Heap → Prop) (a0 : V) (H : Heap) : Prop :=
  boxK a0 (bnd (partOf true 5 (cellsOf a0) 0) fun t1 =>
  ACalls P n_i_Lsa_bytes [t1] H fun v2 H3 =>
  bnd (lenOf v2) fun n4 =>
  ∃ (I5 : Nat → List V → Heap → Prop) (n6 : Nat), Shr (I5 n6 [(.int .i64 1), (.int .i64 0)]) H3 ∧
  ∀ n7 xs9 H10, I5 n7 xs9 H10 →
  bnd (aBinN .lss (xs9.tail.headD .any) (.int .i64 (n4 : Nat))) fun t11 =>
  cnd t11
  (bnd (aIndex H10 1 v2 (xs9.tail.headD .any)) fun t12 =>
  bnd (aLd false 1 H10 t12) fun t13 =>
  bnd (aBinN .mul (.int .i64 257) (xs9.headD .any)) fun t14 =>
  bnd (aCv .i64 t13) fun t15 =>
  bnd (aBinN .add t14 t15) fun t16 =>
  bnd (aBinN .add t16 (.int .i64 1)) fun t17 =>
  bnd (aBinN .rem t17 (.int .i64 1000003)) fun t18 =>
  bnd (aBinN .add (xs9.tail.headD .any) (.int .i64 1)) fun t19 =>
  ∃ n8, n8 < n7 ∧ Shr (I5 n8 [t18, t19]) H10)
  (Ret R (xs9.headD .any) H10))
theorem W_i_Lsa_sum {R : V → Heap → Prop} {a0 : V} {H : Heap} (h : F_i_Lsa_sum R a0 H) : ACalls P n_i_Lsa_sum [a0] H R :=
  acalls_of_form (g := ⟨[1], []⟩) (x := (.seq .leaf (.seq .leaf (.seq (.seq .leaf (.block (.loop [3, 9] (.seq .leaf (.seq (.cond .leaf .leaf) (.seq (.block (.seq .leaf .leaf)) .leaf)))))) (.seq .leaf .leaf))))) Try.func42 (by kernel_rfl) (by kernel_rfl) (by kernel_rfl) (by kernel_rfl : F_i_Lsa_sum R a0 H = _) h
def F_slices_Equal_i_Link_i_Link (R : V → Heap → Prop) (a0 a1 : V) (H : Heap) : Prop :=
  bnd (lenOf a0) fun n1 =>
  bnd (lenOf a1) fun n2 =>
  bnd (aBinN .neq (.int .i64 (n1 : Nat)) (.int .i64 (n2 : Nat))) fun t3 =>
  cnd t3
  (Ret R (.bool false) H)
  (bnd (lenOf a0) fun n4 =>
  ∃ (I5 : Nat → List V → Heap → Prop) (n6 : Nat), Shr (I5 n6 [(.int .i64 0)]) H ∧
  ∀ n7 xs9 H10, I5 n7 xs9 H10 →
  bnd (aBinN .lss (xs9.headD .any) (.int .i64 (n4 : Nat))) fun t11 =>
  cnd t11
  (∃ S12, Abs.sub S12 H10 ∧
  bnd (aIndex S12 2 a0 (xs9.headD .any)) fun t13 =>
  bnd (aLd true 2 S12 t13) fun t14 =>
  bnd (aIndex S12 2 a1 (xs9.headD .any)) fun t15 =>
  bnd (aLd true 2 S12 t15) fun t16 =>
  bnd (aBin P .neq 65 t14 t16) fun t17 =>
  cnd t17
  (Ret R (.bool false) H10)
  (bnd (aBinN .add (xs9.headD .any) (.int .i64 1)) fun t18 =>
  ∃ n8, n8 < n7 ∧ Shr (I5 n8 [t18]) H10))
  (Ret R (.bool true) H10))
theorem W_slices_Equal_i_Link_i_Link {R : V → Heap → Prop} {a0 a1 : V} {H : Heap} (h : F_slices_Equal_i_Link_i_Link R a0 a1 H) : ACalls P n_slices_Equal_i_Link_i_Link [a0, a1] H R :=
  acalls_of_form (g := ⟨[], []⟩) (x := (.seq .leaf (.seq (.seq .leaf (.cond (.seq .leaf .leaf) .leaf)) (.seq (.seq .leaf (.block (.loop [13] (.seq .leaf (.seq (.cond .leaf .leaf) (.seq (.block (.seq .leaf (.seq (.draw [0, 1, 2, 3, 4, 5, 6, 7, 8]) (.cond (.seq .leaf .leaf) .leaf)))) .leaf)))))) (.seq .leaf .leaf))))) Try.func43 (by kernel_rfl) (by kernel_rfl) (by kernel_rfl) (by kernel_rfl : F_slices_Equal_i_Link_i_Link R a0 a1 H = _) h
def F_slices_Equal_i_Stub_i_Stub (R : V → Heap → Prop) (a0 a1 : V) (H : Heap) : Prop :=
  bnd (lenOf a0) fun n1 =>
  bnd (lenOf a1) fun n2 =>
  bnd (aBinN .neq (.int .i64 (n1 : Nat)) (.int .i64 (n2 : Nat))) fun t3 =>
  cnd t3
  (Ret R (.bool false) H)
  (bnd (lenOf a0) fun n4 =>
  ∃ (I5 : Nat → List V → Heap → Prop) (n6 : Nat), Shr (I5 n6 [(.int .i64 0)]) H ∧
  ∀ n7 xs9 H10, I5 n7 xs9 H10 →
  bnd (aBinN .lss (xs9.headD .any) (.int .i64 (n4 : Nat))) fun t11 =>
  cnd t11
  (∃ S12, Abs.sub S12 H10 ∧
  bnd (aIndex S12 3 a0 (xs9.headD .any)) fun t13 =>
  bnd (aLd true 3 S12 t13) fun t14 =>
  bnd (aIndex S12 3 a1 (xs9.headD .any)) fun t15 =>
  bnd (aLd true 3 S12 t15) fun t16 =>
  bnd (aBin P .neq 69 t14 t16) fun t17 =>
  cnd t17
  (Ret R (.bool false) H10)
  (bnd (aBinN .add (xs9.headD .any) (.int .i64 1)) fun t18 =>
  ∃ n8, n8 < n7 ∧ Shr (I5 n8 [t18]) H10))
  (Ret R (.bool true) H10))
theorem W_slices_Equal_i_Stub_i_Stub {R : V → Heap → Prop} {a0 a1 : V} {H : Heap} (h : F_slices_Equal_i_Stub_i_Stub R a0 a1 H) : ACalls P n_slices_Equal_i_Stub_i_Stub [a0, a1] H R :=
  acalls_of_form (g := ⟨[], []⟩) (x := (.seq .leaf (.seq (.seq .leaf (.cond (.seq .leaf .leaf) .leaf)) (.seq (.seq .leaf (.block (.loop [13] (.seq .leaf (.seq (.cond .leaf .leaf) (.seq (.block (.seq .leaf (.seq (.draw [0, 1, 2, 3, 4, 5, 6, 7, 8]) (.cond (.seq .leaf .leaf) .leaf)))) .leaf)))))) (.seq .leaf .leaf))))) Try.func44 (by kernel_rfl) (by kernel_rfl) (by kernel_rfl) (by kernel_rfl : F_slices_Equal_i_Stub_i_Stub R a0 a1 H = _) h
def F_slices_Clone_i_Link_i_Link (R : V → Heap → Prop) (a0 : V) (H : Heap) : Prop :=
  bnd (aBinZ .eql a0 .nils) fun t1 =>
  cnd t1
  (Ret R .nils H)
  (bnd (bsl 2 0 [(.int .i64 0), (.int .i64 0)] []) fun r2 =>
  ∀ o3, H o3 = none →
  bnd (rowsOf (upd H o3 ⟨2, r2⟩) 2 a0) fun r6 =>
  appendK (upd H o3 ⟨2, r2⟩) 2 16 (.slice o3 0 0 (some 0)) r6 fun v4 H5 =>
  Ret R v4 H5)
theorem W_slices_Clone_i_Link_i_Link {R : V → Heap → Prop} {a0 : V} {H : Heap} (h : F_slices_Clone_i_Link_i_Link R a0 H) : ACalls P n_slices_Clone_i_Link_i_Link [a0] H R :=
  acalls_of_form (g := ⟨[], []⟩) (x := (.seq .leaf (.seq (.seq .leaf (.cond (.seq .leaf .leaf) .leaf)) (.seq .leaf .leaf)))) Try.func45 (by kernel_rfl) (by kernel_rfl) (by kernel_rfl) (by kernel_rfl : F_slices_Clone_i_Link_i_Link R a0 H = _) h
def F_slices_Clone_i_Stub_i_Stub (R : V → Heap → Prop) (a0 : V) (H : Heap) : Prop :=
  bnd (aBinZ .eql a0 .nils) fun t1 =>
  cnd t1
  (Ret R .nils H)
  (bnd (bsl 3 0 [(.int .i64 0), (.int .i64 0), (.int .i64 0)] []) fun r2 =>
  ∀ o3, H o3 = none →
  bnd (rowsOf (upd H o3 ⟨3, r2⟩) 3 a0) fun r6 =>
  appendK (upd H o3 ⟨3, r2⟩) 3 24 (.slice o3 0 0 (some 0)) r6 fun v4 H5 =>
  Ret R v4 H5)
theorem W_slices_Clone_i_Stub_i_Stub {R : V → Heap → Prop} {a0 : V} {H : Heap} (h : F_slices_Clone_i_Stub_i_Stub R a0 H) : ACalls P n_slices_Clone_i_Stub_i_Stub [a0] H R :=
  acalls_of_form (g := ⟨[], []⟩) (x := (.seq .leaf (.seq (.seq .leaf (.cond (.seq .leaf .leaf) .leaf)) (.seq .leaf .leaf)))) Try.func46 (by kernel_rfl) (by kernel_rfl) (by kernel_rfl) (by kernel_rfl : F_slices_Clone_i_Stub_i_Stub R a0 H = _) h
def F_s_l06DrawTwo (R : V → Heap → Prop) (a0 : V) (H : Heap) : Prop :=
  ACalls P n_s_l06Draw [a0] H fun v1 H2 =>
  bnd (aExtract 0 v1) fun t3 =>
  bnd (aExtract 1 v1) fun t4 =>
  bnd (stz 1 [.nils] 0 t4) fun c5 =>
  bnd (partOf true 1 c5 0) fun t6 =>
  ACalls P n_s_l06Copy [t6] H2 fun v7 H8 =>
  bnd (stz 1 [.nils] 0 v7) fun c9 =>
  ∃ (I10 : Nat → List V → Heap → Prop) (n11 : Nat), Shr (I10 n11 [(.box [.nils]), (.box [.nils]), (.box c5), (.box c9), (.int .i64 0)]) H8 ∧
  ∀ n12 xs14 H15, I10 n12 xs14 H15 →
  bnd (partOf false 1 (bc (xs14.tail.tail.tail.headD .any)) 0) fun t16 =>
  bnd (lenOf t16) fun n17 =>
  bnd (aBinN .lss (xs14.tail.tail.tail.tail.headD .any) (.int .i64 (n17 : Nat))) fun t18 =>
  cnd t18
  (ACalls P n_s_l01Once [t3, (.int .i64 3)] H15 fun v19 H20 =>
  cnd v19
  (bnd (partOf false 1 (bc (xs14.tail.tail.tail.headD .any)) 0) fun t21 =>
  bnd (aIndex H20 5 t21 (xs14.tail.tail.tail.tail.headD .any)) fun t22 =>
  bnd (aLd true 5 H20 t22) fun t23 =>
  ACalls P n_s_l05DrawLike [t3, t23] H20 fun v24 H25 =>
  bnd (stz 5 [(.int .i64 0), (.int .i64 0), (.int .i64 0), .nils, .nils] 0 v24) fun c26 =>
  ∃ S27, Abs.sub S27 H25 ∧
  bnd (partOf true 5 c26 0) fun t28 =>
  ACalls P n_s_LsaOk [t28] H25 fun v29 H30 =>
  Abs.sub S27 H30 ∧
  gd v29 true
  (bnd (partOf false 1 c26 0) fun t31 =>
  bnd (partOf false 1 (bc (xs14.tail.tail.tail.headD .any)) 0) fun t32 =>
  bnd (aIndex S27 5 t32 (xs14.tail.tail.tail.tail.headD .any)) fun t33 =>
  bnd (aField 0 t33) fun t34 =>
  bnd (aLd false 1 S27 t34) fun t35 =>
  bnd (aBinN .eql t31 t35) fun t36 =>
  cnd t36
  (bnd (partOf false 1 (bc (xs14.tail.tail.tail.headD .any)) 0) fun t37 =>
  bnd (partOf true 5 c26 0) fun t38 =>
  bnd (aIndex H30 5 t37 (xs14.tail.tail.tail.tail.headD .any)) fun t39 =>
  bnd (aSt 5 H30 t39 t38) fun H40 =>
  bnd (aBinN .add (xs14.tail.tail.tail.tail.headD .any) (.int .i64 1)) fun t41 =>
  ∃ n13, n13 < n12 ∧ Shr (I10 n13 [(.box (bc (xs14.headD .any))), (.box (bc (xs14.tail.headD .any))), (.box (bc (xs14.tail.tail.headD .any))), (.box (bc (xs14.tail.tail.tail.headD .any))), t41]) H40)
  (bnd (aBinN .add (xs14.tail.tail.tail.tail.headD .any) (.int .i64 1)) fun t42 =>
  ∃ n13, n13 < n12 ∧ Shr (I10 n13 [(.box (bc (xs14.headD .any))), (.box (bc (xs14.tail.headD .any))), (.box (bc (xs14.tail.tail.headD .any))), (.box (bc (xs14.tail.tail.tail.headD .any))), t42]) H30))
  (bnd (aBinN .add (xs14.tail.tail.tail.tail.headD .any) (.int .i64 1)) fun t43 =>
  ∃ n13, n13 < n12 ∧ Shr (I10 n13 [(.box (bc (xs14.headD .any))), (.box (bc (xs14.tail.headD .any))), (.box (bc (xs14.tail.tail.headD .any))), (.box (bc (xs14.tail.tail.tail.headD .any))), t43]) H30))
  (bnd (aBinN .add (xs14.tail.tail.tail.tail.headD .any) (.int .i64 1)) fun t44 =>
  ∃ n13, n13 < n12 ∧ Shr (I10 n13 [(.box (bc (xs14.headD .any))), (.box (bc (xs14.tail.headD .any))), (.box (bc (xs14.tail.tail.headD .any))), (.box (bc (xs14.tail.tail.tail.headD .any))), t44]) H20))
  (ACalls P n_s_l01Once [t3, (.int .i64 3)] H15 fun v45 H46 =>
  gd v45 true
  (bnd (partOf false 1 (bc (xs14.tail.tail.tail.headD .any)) 0) fun t47 =>
  bnd (lenOf t47) fun n48 =>
  bnd (aBinN .gtr (.int .i64 (n48 : Nat)) (.int .i64 0)) fun t49 =>
  cnd t49
  (bnd (partOf false 1 (bc (xs14.tail.tail.tail.headD .any)) 0) fun t50 =>
  bnd (aSlice H46 5 t50 (some (.int .i64 1)) none none) fun t51 =>
  bnd (stz 1 (bc (xs14.tail.tail.tail.headD .any)) 0 t51) fun c52 =>
  ∃ S53, Abs.sub S53 H46 ∧
  bnd (partOf true 1 (bc (xs14.tail.tail.headD .any)) 0) fun t54 =>
  bnd (partOf true 1 c52 0) fun t55 =>
  bnd (stz 1 (bc (xs14.headD .any)) 0 t54) fun c56 =>
  bnd (stz 1 (bc (xs14.tail.headD .any)) 0 t55) fun c57 =>
  bnd (partOf true 1 c56 0) fun t58 =>
  bnd (partOf true 1 c57 0) fun t59 =>
  Ret R (.tup [t58, t59]) H46)
  (∃ S60, Abs.sub S60 H46 ∧
  bnd (partOf true 1 (bc (xs14.tail.tail.headD .any)) 0) fun t61 =>
  bnd (partOf true 1 (bc (xs14.tail.tail.tail.headD .any)) 0) fun t62 =>
  bnd (stz 1 (bc (xs14.headD .any)) 0 t61) fun c63 =>
  bnd (stz 1 (bc (xs14.tail.headD .any)) 0 t62) fun c64 =>
  bnd (partOf true 1 c63 0) fun t65 =>
  bnd (partOf true 1 c64 0) fun t66 =>
  Ret R (.tup [t65, t66]) H46))
  (∃ S67, Abs.sub S67 H46 ∧
  bnd (partOf true 1 (bc (xs14.tail.tail.headD .any)) 0) fun t68 =>
  bnd (partOf true 1 (bc (xs14.tail.tail.tail.headD .any)) 0) fun t69 =>
  bnd (stz 1 (bc (xs14.headD .any)) 0 t68) fun c70 =>
  bnd (stz 1 (bc (xs14.tail.headD .any)) 0 t69) fun c71 =>
  bnd (partOf true 1 c70 0) fun t72 =>
  bnd (partOf true 1 c71 0) fun t73 =>
  Ret R (.tup [t72, t73]) H46))
theorem W_s_l06DrawTwo {R : V → Heap → Prop} {a0 : V} {H : Heap} (h : F_s_l06DrawTwo R a0 H) : ACalls P n_s_l06DrawTwo [a0] H R :=
  acalls_of_form (g := ⟨[2, 3, 5, 6, 8], [17, 26, 35, 37, 45, 53, 58, 61]⟩) (x := (.seq .leaf (.seq .leaf (.seq .leaf (.seq (.seq .leaf (.block (.loop [2, 3, 5, 6, 7] (.seq (.seq .leaf (.cond .leaf .leaf)) (.seq (.block (.seq .leaf (.cond (.seq .leaf (.seq (.draw [0, 1, 2, 3, 4, 5, 6, 7, 8, 9, 10, 11, 12]) (.cond .leaf .leaf))) .leaf))) .leaf))))) (.seq (.seq .leaf (.cond .leaf .leaf)) (.seq (.draw [0, 1, 2, 3]) .leaf))))))) Try.func47 (by kernel_rfl) (by kernel_rfl) (by kernel_rfl) (by kernel_rfl : F_s_l06DrawTwo R a0 H = _) h
def F_i_ownDb (R : V → Heap → Prop) (a0 : V) (H : Heap) : Prop :=
  boxK a0 (bnd (fillZ [.nils] []) fun c1 =>
  bnd (stz 1 [.nils] 0 (.agg c1)) fun c2 =>
  bnd (partOf false 1 (cellsOf a0) 0) fun t3 =>
  bnd (lenOf t3) fun n4 =>
  ∃ (I5 : Nat → List V → Heap → Prop) (n6 : Nat), Shr (I5 n6 [(.box [.nils]), (.box c2), (.int .i64 0)]) H ∧
  ∀ n7 xs9 H10, I5 n7 xs9 H10 →
  bnd (aBinN .lss (xs9.tail.tail.headD .any) (.int .i64 (n4 : Nat))) fun t11 =>
  cnd t11
  (bnd (aIndex H10 5 t3 (xs9.tail.tail.headD .any)) fun t12 =>
  bnd (aLd true 5 H10 t12) fun t13 =>
  bnd (stz 5 [(.int .i64 0), (.int .i64 0), (.int .i64 0), .nils, .nils] 0 t13) fun c14 =>
  bnd (partOf false 1 (bc (xs9.tail.headD .any)) 0) fun t15 =>
  bnd (partOf true 5 c14 0) fun t16 =>
  ACalls P n_i_ownLsa [t16] H10 fun v17 H18 =>
  bnd (bsl 5 1 [(.int .i64 0), (.int .i64 0), (.int .i64 0), .nils, .nils] [(0, v17)]) fun r19 =>
  ∀ o20, H18 o20 = none →
  bnd (rowsOf (upd H18 o20 ⟨5, r19⟩) 5 (.slice o20 0 1 (some 1))) fun r23 =>
  appendK (upd H18 o20 ⟨5, r19⟩) 5 72 t15 r23 fun v21 H22 =>
  bnd (stz 1 (bc (xs9.tail.headD .any)) 0 v21) fun c24 =>
  bnd (aBinN .add (xs9.tail.tail.headD .any) (.int .i64 1)) fun t25 =>
  ∃ n8, n8 < n7 ∧ Shr (I5 n8 [(.box (bc (xs9.headD .any))), (.box c24), t25]) H22)
  (bnd (partOf true 1 (bc (xs9.tail.headD .any)) 0) fun t26 =>
  bnd (stz 1 (bc (xs9.headD .any)) 0 t26) fun c27 =>
  bnd (partOf true 1 c27 0) fun t28 =>
  Ret R t28 H10))
theorem W_i_ownDb {R : V → Heap → Prop} {a0 : V} {H : Heap} (h : F_i_ownDb R a0 H) : ACalls P n_i_ownDb [a0] H R :=
  acalls_of_form (g := ⟨[1, 2, 3, 5], [7, 14, 20]⟩) (x := (.seq .leaf (.seq .leaf (.seq (.seq .leaf (.block (.loop [2, 3, 10] (.seq .leaf (.seq (.cond .leaf .leaf) (.seq (.block (.seq .leaf (.drawh [0, 1, 2, 3, 4, 5, 6, 7]))) .leaf)))))) (.seq .leaf .leaf))))) Try.func48 (by kernel_rfl) (by kernel_rfl) (by kernel_rfl) (by kernel_rfl : F_i_ownDb R a0 H = _) h
def F_i_DbOk (R : V → Heap → Prop) (a0 : V) (H : Heap) : Prop :=
  boxK a0 (bnd (partOf false 1 (cellsOf a0) 0) fun t1 =>
  bnd (lenOf t1) fun n2 =>
  ∃ (I3 : Nat → List V → Heap → Prop) (n4 : Nat), Shr (I3 n4 [(.box (cellsOf a0)), (.int .i64 0)]) H ∧
  ∀ n5 xs7 H8, I3 n5 xs7 H8 →
  bnd (aBinN .lss (xs7.tail.headD .any) (.int .i64 (n2 : Nat))) fun t9 =>
  cnd t9
  (bnd (aIndex H8 5 t1 (xs7.tail.headD .any)) fun t10 =>
  bnd (aLd true 5 H8 t10) fun t11 =>
  bnd (stz 5 [(.int .i64 0), (.int .i64 0), (.int .i64 0), .nils, .nils] 0 t11) fun c12 =>
  ∃ S13, Abs.sub S13 H8 ∧
  bnd (partOf true 5 c12 0) fun t14 =>
  ACalls P n_i_LsaOk [t14] H8 fun v15 H16 =>
  Abs.sub S13 H16 ∧
  bnd (aNot v15) fun t17 =>
  gd t17 false
  (bnd (aBinN .gtr (xs7.tail.headD .any) (.int .i64 0)) fun t18 =>
  gd3 t18 true
  (bnd (partOf false 1 c12 0) fun t19 =>
  bnd (partOf false 1 (bc (xs7.headD .any)) 0) fun t20 =>
  bnd (aBinN .sub (xs7.tail.headD .any) (.int .i64 1)) fun t21 =>
  bnd (aIndex S13 5 t20 t21) fun t22 =>
  bnd (aField 0 t22) fun t23 =>
  bnd (aLd false 1 S13 t23) fun t24 =>
  bnd (aBinN .leq t19 t24) fun t25 =>
  cnd t25
  (Ret R (.bool false) H16)
  (bnd (aBinN .add (xs7.tail.headD .any) (.int .i64 1)) fun t26 =>
  ∃ n6, n6 < n5 ∧ Shr (I3 n6 [(.box (bc (xs7.headD .any))), t26]) H16))
  (bnd (aBinN .add (xs7.tail.headD .any) (.int .i64 1)) fun t27 =>
  ∃ n6, n6 < n5 ∧ Shr (I3 n6 [(.box (bc (xs7.headD .any))), t27]) H16)
  (bnd (aPick (.tup []) (.tup []) (.bool false)) fun t28 =>
  cnd t28
  (Ret R (.bool false) H16)
  (bnd (aBinN .add (xs7.tail.headD .any) (.int .i64 1)) fun t29 =>
  ∃ n6, n6 < n5 ∧ Shr (I3 n6 [(.box (bc (xs7.headD .any))), t29]) H16)))
  (Ret R (.bool false) H16))
  (Ret R (.bool true) H8))
theorem W_i_DbOk {R : V → Heap → Prop} {a0 : V} {H : Heap} (h : F_i_DbOk R a0 H) : ACalls P n_i_DbOk [a0] H R :=
  acalls_of_form (g := ⟨[1, 4], [5, 20, 22]⟩) (x := (.seq .leaf (.seq (.seq .leaf (.block (.loop [1, 8] (.seq .leaf (.seq (.cond .leaf .leaf) (.seq (.block (.seq .leaf (.seq (.draw [0, 1, 2, 3, 4, 5, 6, 7, 8, 9, 10, 11, 12, 13, 14, 15, 16, 17, 18]) (.cond (.seq .leaf .leaf) .leaf)))) .leaf)))))) (.seq .leaf .leaf)))) Try.func49 (by kernel_rfl) (by kernel_rfl) (by kernel_rfl) (by kernel_rfl : F_i_DbOk R a0 H = _) h
def F_p_i_Db_install (R : V → Heap → Prop) (a0 a1 : V) (H : Heap) : Prop :=
  boxK a1 (∃ S1, Abs.sub S1 H ∧
  bnd (aNil a0) fun t2 =>
  bnd (aLd true 1 S1 t2) fun t3 =>
  bnd (partOf true 5 (cellsOf a1) 0) fun t4 =>
  ACalls P n_i_Db_offer [t3, t4] H fun v5 H6 =>
  Abs.sub S1 H6 ∧
  bnd (aBinN .eql v5 (.int .i64 0)) fun t7 =>
  cnd t7
  (∃ S8, Abs.sub S8 H6 ∧
  bnd (aNil a0) fun t9 =>
  bnd (aLd true 1 S8 t9) fun t10 =>
  bnd (partOf false 1 (cellsOf a1) 0) fun t11 =>
  ACalls P n_i_Db_find [t10, t11] H6 fun v12 H13 =>
  Abs.sub S8 H13 ∧
  bnd (aExtract 0 v12) fun t14 =>
  bnd (aExtract 1 v12) fun t15 =>
  cnd t15
  (∃ S16, Abs.sub S16 H13 ∧
  bnd (aNil a0) fun t17 =>
  bnd (aField 0 t17) fun t18 =>
  bnd (aLd false 1 S16 t18) fun t19 =>
  bnd (partOf true 5 (cellsOf a1) 0) fun t20 =>
  ACalls P n_i_ownLsa [t20] H13 fun v21 H22 =>
  Abs.sub S16 H22 ∧
  bnd (aIndex S16 5 t19 t14) fun t23 =>
  ∃ S24, Abs.sub S24 H22 ∧
  bnd (aSt 5 H22 t23 v21) fun H25 =>
  Abs.sub S24 H25 ∧
  Ret R v5 H25)
  (∃ S26, Abs.sub S26 H13 ∧
  bnd (aNil a0) fun t27 =>
  bnd (aField 0 t27) fun t28 =>
  bnd (aLd false 1 S26 t28) fun t29 =>
  bnd (partOf true 5 (cellsOf a1) 0) fun t30 =>
  ACalls P n_i_ownLsa [t30] H13 fun v31 H32 =>
  Abs.sub S26 H32 ∧
  bnd (bsl 5 1 [(.int .i64 0), (.int .i64 0), (.int .i64 0), .nils, .nils] [(0, v31)]) fun r33 =>
  ∀ o34, H32 o34 = none →
  Abs.sub S26 (upd H32 o34 ⟨5, r33⟩) ∧
  ACalls P n_slices_Insert_i_Lsa_i_Lsa [t29, t14, (.slice o34 0 1 (some 1))] (upd H32 o34 ⟨5, r33⟩) fun v35 H36 =>
  Abs.sub S26 H36 ∧
  bnd (aNil a0) fun t37 =>
  bnd (aField 0 t37) fun t38 =>
  ∃ S39, Abs.sub S39 H36 ∧
  bnd (aSt 1 H36 t38 v35) fun H40 =>
  Abs.sub S39 H40 ∧
  Ret R v5 H40))
  (Ret R v5 H6))
theorem W_p_i_Db_install {R : V → Heap → Prop} {a0 a1 : V} {H : Heap} (h : F_p_i_Db_install R a0 a1 H) : ACalls P n_p_i_Db_install [a0, a1] H R :=
  acalls_of_form (g := ⟨[3], [19]⟩) (x := (.seq .leaf (.seq (.draw [0, 1, 2, 3, 4, 5]) (.seq (.seq .leaf (.cond (.seq (.draw [0, 1, 2, 3, 4, 5, 6, 7, 8, 9, 10]) (.seq .leaf (.cond (.drawp [[0, 1, 2, 3, 4, 5, 6, 7], [8]]) (.drawp [[0, 1, 2, 3, 4, 5, 6, 7, 8, 9, 10, 11], [12]])))) .leaf)) (.seq .leaf .leaf))))) Try.func50 (by kernel_rfl) (by kernel_rfl) (by kernel_rfl) (by kernel_rfl : F_p_i_Db_install R a0 a1 H = _) h
def F_i_Db_sum (R : V → Heap → Prop) (a0 : V) (H : Heap) : Prop :=
  boxK a0 (bnd (partOf false 1 (cellsOf a0) 0) fun t1 =>
  bnd (lenOf t1) fun n2 =>
  ∃ (I3 : Nat → List V → Heap → Prop) (n4 : Nat), Shr (I3 n4 [(.int .i64 1), (.int .i64 0)]) H ∧
  ∀ n5 xs7 H8, I3 n5 xs7 H8 →
  bnd (aBinN .lss (xs7.tail.headD .any) (.int .i64 (n2 : Nat))) fun t9 =>
  cnd t9
  (bnd (aIndex H8 5 t1 (xs7.tail.headD .any)) fun t10 =>
  bnd (aLd true 5 H8 t10) fun t11 =>
  bnd (stz 5 [(.int .i64 0), (.int .i64 0), (.int .i64 0), .nils, .nils] 0 t11) fun c12 =>
  bnd (aBinN .mul (.int .i64 31) (xs7.headD .any)) fun t13 =>
  bnd (partOf true 5 c12 0) fun t14 =>
  ACalls P n_i_Lsa_sum [t14] H8 fun v15 H16 =>
  bnd (aBinN .add t13 v15) fun t17 =>
  bnd (aBinN .rem t17 (.int .i64 1000003)) fun t18 =>
  bnd (aBinN .add (xs7.tail.headD .any) (.int .i64 1)) fun t19 =>
  ∃ n6, n6 < n5 ∧ Shr (I3 n6 [t18, t19]) H16)
  (Ret R (xs7.headD .any) H8))
theorem W_i_Db_sum {R : V → Heap → Prop} {a0 : V} {H : Heap} (h : F_i_Db_sum R a0 H) : ACalls P n_i_Db_sum [a0] H R :=
  acalls_of_form (g := ⟨[1, 5], [6]⟩) (x := (.seq .leaf (.seq .leaf (.seq (.seq .leaf (.block (.loop [3, 9] (.seq .leaf (.seq (.cond .leaf .leaf) (.seq (.block (.seq .leaf .leaf)) .leaf)))))) (.seq .leaf .leaf))))) Try.func51 (by kernel_rfl) (by kernel_rfl) (by kernel_rfl) (by kernel_rfl : F_i_Db_sum R a0 H = _) h
def F_s_l06Draw (R : V → Heap → Prop) (a0 : V) (H : Heap) : Prop :=
  ACalls P n_s_l01New [a0] H fun v1 H2 =>
  ACalls P n_s_l01Size [a0, (.int .i64 9)] H2 fun v3 H4 =>
  ACalls P n_s_l01Below [v1, v3] H4 fun v5 H6 =>
  bnd (aBinN .add (.int .i64 1) v5) fun t7 =>
  ACalls P n_s_l06DrawDb [v1, t7] H6 fun v8 H9 =>
  bnd (stz 1 [.nils] 0 v8) fun c10 =>
  ACalls P n_s_l01Once [v1, (.int .i64 15)] H9 fun v11 H12 =>
  gd v11 true
  (bnd (partOf false 1 c10 0) fun t13 =>
  bnd (lenOf t13) fun n14 =>
  bnd (aBinN .gtr (.int .i64 (n14 : Nat)) (.int .i64 0)) fun t15 =>
  cnd t15
  (bnd (partOf false 1 c10 0) fun t16 =>
  bnd (lenOf t16) fun n17 =>
  ACalls P n_s_l01Below [v1, (.int .i64 (n17 : Nat))] H12 fun v18 H19 =>
  bnd (partOf false 1 c10 0) fun t20 =>
  bnd (partOf false 1 c10 0) fun t21 =>
  bnd (aIndex H19 5 t21 v18) fun t22 =>
  bnd (aLd true 5 H19 t22) fun t23 =>
  ACalls P n_s_l05Bend [v1, t23] H19 fun v24 H25 =>
  bnd (aIndex H25 5 t20 v18) fun t26 =>
  bnd (aSt 5 H25 t26 v24) fun H27 =>
  ∃ S28, Abs.sub S28 H27 ∧
  bnd (partOf true 1 c10 0) fun t29 =>
  bnd (stz 1 [.nils] 0 t29) fun c30 =>
  bnd (partOf true 1 c30 0) fun t31 =>
  Ret R (.tup [v1, t31]) H27)
  (∃ S32, Abs.sub S32 H12 ∧
  bnd (partOf true 1 c10 0) fun t33 =>
  bnd (stz 1 [.nils] 0 t33) fun c34 =>
  bnd (partOf true 1 c34 0) fun t35 =>
  Ret R (.tup [v1, t35]) H12))
  (∃ S36, Abs.sub S36 H12 ∧
  bnd (partOf true 1 c10 0) fun t37 =>
  bnd (stz 1 [.nils] 0 t37) fun c38 =>
  bnd (partOf true 1 c38 0) fun t39 =>
  Ret R (.tup [v1, t39]) H12)
theorem W_s_l06Draw {R : V → Heap → Prop} {a0 : V} {H : Heap} (h : F_s_l06Draw R a0 H) : ACalls P n_s_l06Draw [a0] H R :=
  acalls_of_form (g := ⟨[3, 5], [19, 25, 29, 33]⟩) (x := (.seq .leaf (.seq .leaf (.seq .leaf (.seq (.seq .leaf (.cond (.seq .leaf (.drawh [0, 1, 2, 3, 4, 5, 6, 7, 8, 9, 10, 11])) .leaf)) (.seq (.draw [0, 1, 2, 3]) .leaf)))))) Try.func52 (by kernel_rfl) (by kernel_rfl) (by kernel_rfl) (by kernel_rfl : F_s_l06Draw R a0 H = _) h
def F_s_l06DrawLsa (R : V → Heap → Prop) (a0 a1 : V) (H : Heap) : Prop :=
  boxK a1 (bnd (partOf false 1 (cellsOf a1) 0) fun t1 =>
  bnd (lenOf t1) fun n2 =>
  bnd (aBinN .gtr (.int .i64 (n2 : Nat)) (.int .i64 0)) fun t3 =>
  gd t3 true
  (ACalls P n_s_l01Below [a0, (.int .i64 4)] H fun v4 H5 =>
  bnd (aBinN .gtr v4 (.int .i64 0)) fun t6 =>
  cnd t6
  (∃ S7, Abs.sub S7 H5 ∧
  bnd (partOf false 1 (cellsOf a1) 0) fun t8 =>
  bnd (partOf false 1 (cellsOf a1) 0) fun t9 =>
  bnd (lenOf t9) fun n10 =>
  ACalls P n_s_l01Below [a0, (.int .i64 (n10 : Nat))] H5 fun v11 H12 =>
  Abs.sub S7 H12 ∧
  bnd (aIndex S7 5 t8 v11) fun t13 =>
  bnd (aLd true 5 S7 t13) fun t14 =>
  ACalls P n_s_l05DrawLike [a0, t14] H12 fun v15 H16 =>
  Abs.sub S7 H16 ∧
  bnd (stz 5 [(.int .i64 0), (.int .i64 0), (.int .i64 0), .nils, .nils] 0 v15) fun c17 =>
  bnd (partOf true 5 c17 0) fun t18 =>
  Ret R t18 H16)
  (ACalls P n_s_l01Below [a0, (.int .i64 10)] H5 fun v19 H20 =>
  ACalls P n_s_l05DrawLsa [a0, v19, (.int .i64 10)] H20 fun v21 H22 =>
  bnd (stz 5 [(.int .i64 0), (.int .i64 0), (.int .i64 0), .nils, .nils] 0 v21) fun c23 =>
  bnd (partOf true 5 c23 0) fun t24 =>
  Ret R t24 H22))
  (ACalls P n_s_l01Below [a0, (.int .i64 10)] H fun v25 H26 =>
  ACalls P n_s_l05DrawLsa [a0, v25, (.int .i64 10)] H26 fun v27 H28 =>
  bnd (stz 5 [(.int .i64 0), (.int .i64 0), (.int .i64 0), .nils, .nils] 0 v27) fun c29 =>
  bnd (partOf true 5 c29 0) fun t30 =>
  Ret R t30 H28))
theorem W_s_l06DrawLsa {R : V → Heap → Prop} {a0 a1 : V} {H : Heap} (h : F_s_l06DrawLsa R a0 a1 H) : ACalls P n_s_l06DrawLsa [a0, a1] H R :=
  acalls_of_form (g := ⟨[3, 4], [5, 15, 18]⟩) (x := (.seq .leaf (.seq (.seq .leaf (.cond (.seq (.draw [0, 1, 2, 3, 4, 5, 6, 7, 8, 9, 10, 11]) .leaf) .leaf)) (.seq .leaf .leaf)))) Try.func53 (by kernel_rfl) (by kernel_rfl) (by kernel_rfl) (by kernel_rfl : F_s_l06DrawLsa R a0 a1 H = _) h
def F_s_l06Copy (R : V → Heap → Prop) (a0 : V) (H : Heap) : Prop :=
  boxK a0 (bnd (fillZ [.nils] []) fun c1 =>
  bnd (stz 1 [.nils] 0 (.agg c1)) fun c2 =>
  ∃ (I3 : Nat → List V → Heap → Prop) (n4 : Nat), Shr (I3 n4 [(.box (cellsOf a0)), (.box [.nils]), (.box c2), (.int .i64 0)]) H ∧
  ∀ n5 xs7 H8, I3 n5 xs7 H8 →
  bnd (partOf false 1 (bc (xs7.headD .any)) 0) fun t9 =>
  bnd (lenOf t9) fun n10 =>
  bnd (aBinN .lss (xs7.tail.tail.tail.headD .any) (.int .i64 (n10 : Nat))) fun t11 =>
  cnd t11
  (bnd (partOf false 1 (bc (xs7.tail.tail.headD .any)) 0) fun t12 =>
  bnd (partOf false 1 (bc (xs7.headD .any)) 0) fun t13 =>
  bnd (aIndex H8 5 t13 (xs7.tail.tail.tail.headD .any)) fun t14 =>
  bnd (aLd true 5 H8 t14) fun t15 =>
  ACalls P n_s_l05Copy [t15] H8 fun v16 H17 =>
  bnd (bsl 5 1 [(.int .i64 0), (.int .i64 0), (.int .i64 0), .nils, .nils] [(0, v16)]) fun r18 =>
  ∀ o19, H17 o19 = none →
  bnd (rowsOf (upd H17 o19 ⟨5, r18⟩) 5 (.slice o19 0 1 (some 1))) fun r22 =>
  appendK (upd H17 o19 ⟨5, r18⟩) 5 72 t12 r22 fun v20 H21 =>
  bnd (stz 1 (bc (xs7.tail.tail.headD .any)) 0 v20) fun c23 =>
  bnd (aBinN .add (xs7.tail.tail.tail.headD .any) (.int .i64 1)) fun t24 =>
  ∃ n6, n6 < n5 ∧ Shr (I3 n6 [(.box (bc (xs7.headD .any))), (.box (bc (xs7.tail.headD .any))), (.box c23), t24]) H21)
  (bnd (partOf true 1 (bc (xs7.tail.tail.headD .any)) 0) fun t25 =>
  bnd (stz 1 (bc (xs7.tail.headD .any)) 0 t25) fun c26 =>
  bnd (partOf true 1 c26 0) fun t27 =>
  Ret R t27 H8))
theorem W_s_l06Copy {R : V → Heap → Prop} {a0 : V} {H : Heap} (h : F_s_l06Copy R a0 H) : ACalls P n_s_l06Copy [a0] H R :=
  acalls_of_form (g := ⟨[1, 2, 3], [7, 13, 15, 23]⟩) (x := (.seq .leaf (.seq .leaf (.seq (.seq .leaf (.block (.loop [1, 2, 3, 4] (.seq (.seq .leaf (.cond .leaf .leaf)) (.seq (.block (.drawh [0, 1, 2, 3, 4, 5, 6, 7, 8, 9, 10, 11])) .leaf))))) (.seq .leaf .leaf))))) Try.func54 (by kernel_rfl) (by kernel_rfl) (by kernel_rfl) (by kernel_rfl : F_s_l06Copy R a0 H = _) h
def F_s_FindLsa (R : V → Heap → Prop) (a0 a1 : V) (H : Heap) : Prop :=
  boxK a0 (bnd (partOf true 1 (cellsOf a0) 0) fun t1 =>
  ACalls P n_s_DbOk [t1] H fun v2 H3 =>
  bnd (aNot v2) fun t4 =>
  cnd t4
  (bnd (fillZ [(.int .i64 0), (.int .i64 0), (.int .i64 0), .nils, .nils] []) fun c5 =>
  bnd (stz 5 [(.int .i64 0), (.int .i64 0), (.int .i64 0), .nils, .nils] 0 (.agg c5)) fun c6 =>
  bnd (partOf true 5 c6 0) fun t7 =>
  Ret R (.tup [t7, (.bool false)]) H3)
  (∃ (I8 : Nat → List V → Heap → Prop) (n9 : Nat), Shr (I8 n9 [(.box (cellsOf a0)), (.box [(.int .i64 0), (.int .i64 0), (.int .i64 0), .nils, .nils]), (.int .i64 0)]) H3 ∧
  ∀ n10 xs12 H13, I8 n10 xs12 H13 →
  bnd (partOf false 1 (bc (xs12.headD .any)) 0) fun t14 =>
  bnd (lenOf t14) fun n15 =>
  bnd (aBinN .lss (xs12.tail.tail.headD .any) (.int .i64 (n15 : Nat))) fun t16 =>
  cnd t16
  (bnd (partOf false 1 (bc (xs12.headD .any)) 0) fun t17 =>
  bnd (aIndex H13 5 t17 (xs12.tail.tail.headD .any)) fun t18 =>
  bnd (aField 0 t18) fun t19 =>
  bnd (aLd false 1 H13 t19) fun t20 =>
  bnd (aBinN .eql t20 a1) fun t21 =>
  cnd t21
  (bnd (partOf false 1 (bc (xs12.headD .any)) 0) fun t22 =>
  bnd (aIndex H13 5 t22 (xs12.tail.tail.headD .any)) fun t23 =>
  bnd (aLd true 5 H13 t23) fun t24 =>
  ACalls P n_s_l05Copy [t24] H13 fun v25 H26 =>
  bnd (stz 5 (bc (xs12.tail.headD .any)) 0 v25) fun c27 =>
  bnd (partOf true 5 c27 0) fun t28 =>
  Ret R (.tup [t28, (.bool true)]) H26)
  (bnd (aBinN .add (xs12.tail.tail.headD .any) (.int .i64 1)) fun t29 =>
  ∃ n11, n11 < n10 ∧ Shr (I8 n11 [(.box (bc (xs12.headD .any))), (.box (bc (xs12.tail.headD .any))), t29]) H13))
  (bnd (fillZ [(.int .i64 0), (.int .i64 0), (.int .i64 0), .nils, .nils] []) fun c30 =>
  bnd (stz 5 (bc (xs12.tail.headD .any)) 0 (.agg c30)) fun c31 =>
  bnd (partOf true 5 c31 0) fun t32 =>
  Ret R (.tup [t32, (.bool false)]) H13)))
theorem W_s_FindLsa {R : V → Heap → Prop} {a0 a1 : V} {H : Heap} (h : F_s_FindLsa R a0 a1 H) : ACalls P n_s_FindLsa [a0, a1] H R :=
  acalls_of_form (g := ⟨[2, 4], [12, 18, 26]⟩) (x := (.seq .leaf (.seq (.seq .leaf (.cond (.seq .leaf .leaf) .leaf)) (.seq (.seq .leaf (.block (.loop [2, 4, 6] (.seq (.seq .leaf (.cond .leaf .leaf)) (.seq (.block (.seq .leaf (.cond (.seq .leaf .leaf) .leaf))) .leaf))))) (.seq .leaf .leaf))))) Try.func55 (by kernel_rfl) (by kernel_rfl) (by kernel_rfl) (by kernel_rfl : F_s_FindLsa R a0 a1 H = _) h
def F_s_l05Copy (R : V → Heap → Prop) (a0 : V) (H : Heap) : Prop :=
  boxK a0 (bnd (partOf false 1 (cellsOf a0) 0) fun t1 =>
  bnd (partOf false 1 (cellsOf a0) 1) fun t2 =>
  bnd (partOf false 1 (cellsOf a0) 2) fun t3 =>
  bnd (fillZ [(.int .i64 0), (.int .i64 0), (.int .i64 0), .nils, .nils] [(0, 1, t1), (1, 1, t2), (2, 1, t3)]) fun c4 =>
  bnd (stz 5 [(.int .i64 0), (.int .i64 0), (.int .i64 0), .nils, .nils] 0 (.agg c4)) fun c5 =>
  ∃ (I6 : Nat → List V → Heap → Prop) (n7 : Nat), Shr (I6 n7 [(.box (cellsOf a0)), (.box [(.int .i64 0), (.int .i64 0), (.int .i64 0), .nils, .nils]), (.box c5), (.int .i64 0)]) H ∧
  ∀ n8 xs10 H11, I6 n8 xs10 H11 →
  bnd (partOf false 1 (bc (xs10.headD .any)) 3) fun t12 =>
  bnd (lenOf t12) fun n13 =>
  bnd (aBinN .lss (xs10.tail.tail.tail.headD .any) (.int .i64 (n13 : Nat))) fun t14 =>
  cnd t14
  (bnd (partOf false 1 (bc (xs10.tail.tail.headD .any)) 3) fun t15 =>
  bnd (partOf false 1 (bc (xs10.headD .any)) 3) fun t16 =>
  bnd (aIndex H11 2 t16 (xs10.tail.tail.tail.headD .any)) fun t17 =>
  bnd (aLd true 2 H11 t17) fun t18 =>
  bnd (bsl 2 1 [(.int .i64 0), (.int .i64 0)] [(0, t18)]) fun r19 =>
  ∀ o20, H11 o20 = none →
  bnd (rowsOf (upd H11 o20 ⟨2, r19⟩) 2 (.slice o20 0 1 (some 1))) fun r23 =>
  appendK (upd H11 o20 ⟨2, r19⟩) 2 16 t15 r23 fun v21 H22 =>
  bnd (stz 1 (bc (xs10.tail.tail.headD .any)) 3 v21) fun c24 =>
  bnd (aBinN .add (xs10.tail.tail.tail.headD .any) (.int .i64 1)) fun t25 =>
  ∃ n9, n9 < n8 ∧ Shr (I6 n9 [(.box (bc (xs10.headD .any))), (.box (bc (xs10.tail.headD .any))), (.box c24), t25]) H22)
  (∃ (I26 : Nat → List V → Heap → Prop) (n27 : Nat), Shr (I26 n27 [(.box (bc (xs10.headD .any))), (.box (bc (xs10.tail.headD .any))), (.box (bc (xs10.tail.tail.headD .any))), (.int .i64 0)]) H11 ∧
  ∀ n28 xs30 H31, I26 n28 xs30 H31 →
  bnd (partOf false 1 (bc (xs30.headD .any)) 4) fun t32 =>
  bnd (lenOf t32) fun n33 =>
  bnd (aBinN .lss (xs30.tail.tail.tail.headD .any) (.int .i64 (n33 : Nat))) fun t34 =>
  cnd t34
  (bnd (partOf false 1 (bc (xs30.tail.tail.headD .any)) 4) fun t35 =>
  bnd (partOf false 1 (bc (xs30.headD .any)) 4) fun t36 =>
  bnd (aIndex H31 3 t36 (xs30.tail.tail.tail.headD .any)) fun t37 =>
  bnd (aLd true 3 H31 t37) fun t38 =>
  bnd (bsl 3 1 [(.int .i64 0), (.int .i64 0), (.int .i64 0)] [(0, t38)]) fun r39 =>
  ∀ o40, H31 o40 = none →
  bnd (rowsOf (upd H31 o40 ⟨3, r39⟩) 3 (.slice o40 0 1 (some 1))) fun r43 =>
  appendK (upd H31 o40 ⟨3, r39⟩) 3 24 t35 r43 fun v41 H42 =>
  bnd (stz 1 (bc (xs30.tail.tail.headD .any)) 4 v41) fun c44 =>
  bnd (aBinN .add (xs30.tail.tail.tail.headD .any) (.int .i64 1)) fun t45 =>
  ∃ n29, n29 < n28 ∧ Shr (I26 n29 [(.box (bc (xs30.headD .any))), (.box (bc (xs30.tail.headD .any))), (.box c44), t45]) H42)
  (bnd (partOf true 5 (bc (xs30.tail.tail.headD .any)) 0) fun t46 =>
  bnd (stz 5 (bc (xs30.tail.headD .any)) 0 t46) fun c47 =>
  bnd (partOf true 5 c47 0) fun t48 =>
  Ret R t48 H31)))
theorem W_s_l05Copy {R : V → Heap → Prop} {a0 : V} {H : Heap} (h : F_s_l05Copy R a0 H) : ACalls P n_s_l05Copy [a0] H R :=
  acalls_of_form (g := ⟨[1, 2, 3], [6, 8, 10, 14, 20, 22, 29, 31, 37, 39, 46]⟩) (x := (.seq .leaf (.seq .leaf (.seq (.seq .leaf (.block (.loop [1, 2, 3, 4] (.seq (.seq .leaf (.cond .leaf .leaf)) (.seq (.block (.drawh [0, 1, 2, 3, 4, 5, 6, 7, 8, 9, 10])) .leaf))))) (.seq (.seq .leaf (.block (.loop [1, 2, 3, 5] (.seq (.seq .leaf (.cond .leaf .leaf)) (.seq (.block (.drawh [0, 1, 2, 3, 4, 5, 6, 7, 8, 9, 10])) .leaf))))) (.seq .leaf .leaf)))))) Try.func56 (by kernel_rfl) (by kernel_rfl) (by kernel_rfl) (by kernel_rfl : F_s_l05Copy R a0 H = _) h
def F_i_Db_find (R : V → Heap → Prop) (a0 a1 : V) (H : Heap) : Prop :=
  boxK a0 (bnd (partOf false 1 (cellsOf a0) 0) fun t1 =>
  ACalls P n_slices_BinarySearchFunc_i_Lsa_i_Lsa_int [t1, a1, (.fn n_i_Db_find_1 [])] H fun v2 H3 =>
  bnd (aExtract 0 v2) fun t4 =>
  bnd (aExtract 1 v2) fun t5 =>
  Ret R (.tup [t4, t5]) H3)
theorem W_i_Db_find {R : V → Heap → Prop} {a0 a1 : V} {H : Heap} (h : F_i_Db_find R a0 a1 H) : ACalls P n_i_Db_find [a0, a1] H R :=
  acalls_of_form (g := ⟨[2], [6]⟩) (x := (.seq .leaf (.seq .leaf .leaf))) Try.func57 (by kernel_rfl) (by kernel_rfl) (by kernel_rfl) (by kernel_rfl : F_i_Db_find R a0 a1 H = _) h
def F_i_ownLsa (R : V → Heap → Prop) (a0 : V) (H : Heap) : Prop :=
  boxK a0 (∃ S1, Abs.sub S1 H ∧
  bnd (partOf false 1 (cellsOf a0) 3) fun t2 =>
  bnd (partOf false 1 (cellsOf a0) 4) fun t3 =>
  ACalls P n_slices_Clone_i_Link_i_Link [t2] H fun v4 H5 =>
  Abs.sub S1 H5 ∧
  ACalls P n_slices_Clone_i_Stub_i_Stub [t3] H5 fun v6 H7 =>
  Abs.sub S1 H7 ∧
  bnd (stz 1 (cellsOf a0) 3 v4) fun c8 =>
  bnd (stz 1 c8 4 v6) fun c9 =>
  bnd (partOf true 5 c9 0) fun t10 =>
  bnd (stz 5 [(.int .i64 0), (.int .i64 0), (.int .i64 0), .nils, .nils] 0 t10) fun c11 =>
  bnd (partOf true 5 c11 0) fun t12 =>
  Ret R t12 H7)
theorem W_i_ownLsa {R : V → Heap → Prop} {a0 : V} {H : Heap} (h : F_i_ownLsa R a0 H) : ACalls P n_i_ownLsa [a0] H R :=
  acalls_of_form (g := ⟨[1, 2], [3, 6, 9, 10]⟩) (x := (.seq .leaf (.seq (.draw [0, 1, 3, 4, 2, 6, 5, 7, 8, 9]) (.seq .leaf .leaf)))) Try.func58 (by kernel_rfl) (by kernel_rfl) (by kernel_rfl) (by kernel_rfl : F_i_ownLsa R a0 H = _) h
def F_i_Db_offer (R : V → Heap → Prop) (a0 a1 : V) (H : Heap) : Prop :=
  boxK a0 (boxK a1 (bnd (partOf true 1 (cellsOf a0) 0) fun t1 =>
  bnd (partOf false 1 (cellsOf a1) 0) fun t2 =>
  ACalls P n_i_Db_find [t1, t2] H fun v3 H4 =>
  bnd (aExtract 0 v3) fun t5 =>
  bnd (aExtract 1 v3) fun t6 =>
  bnd (aNot t6) fun t7 =>
  cnd t7
  (bnd (partOf false 1 (cellsOf a1) 2) fun t8 =>
  bnd (aBinN .eql t8 (.int .i64 60)) fun t9 =>
  cnd t9
  (Ret R (.int .i64 1) H4)
  (Ret R (.int .i64 0) H4))
  (∃ S10, Abs.sub S10 H4 ∧
  bnd (partOf true 5 (cellsOf a1) 0) fun t11 =>
  bnd (partOf false 1 (cellsOf a0) 0) fun t12 =>
  bnd (aIndex S10 5 t12 t5) fun t13 =>
  bnd (aLd true 5 S10 t13) fun t14 =>
  ACalls P n_i_newer [t11, t14] H4 fun v15 H16 =>
  Abs.sub S10 H16 ∧
  bnd (aBinN .eql v15 (.int .i64 1)) fun t17 =>
  cnd t17
  (Ret R (.int .i64 0) H16)
  (bnd (aBinN .eql v15 (.int .i64 0)) fun t18 =>
  cnd t18
  (Ret R (.int .i64 1) H16)
  (Ret R (.int .i64 2) H16)))))
theorem W_i_Db_offer {R : V → Heap → Prop} {a0 a1 : V} {H : Heap} (h : F_i_Db_offer R a0 a1 H) : ACalls P n_i_Db_offer [a0, a1] H R :=
  acalls_of_form (g := ⟨[2, 3], [9, 16, 20]⟩) (x := (.seq .leaf (.seq .leaf (.seq (.seq .leaf (.cond (.seq (.seq .leaf (.cond (.seq .leaf .leaf) .leaf)) (.seq .leaf .leaf)) .leaf)) (.seq (.seq (.draw [0, 1, 2, 3, 4, 5, 6]) (.block (.seq .leaf (.cond (.seq .leaf .leaf) (.seq .leaf (.cond (.seq .leaf .leaf) .leaf)))))) (.seq .leaf .leaf)))))) Try.func59 (by kernel_rfl) (by kernel_rfl) (by kernel_rfl) (by kernel_rfl : F_i_Db_offer R a0 a1 H = _) h
def F_s_l01New (R : V → Heap → Prop) (a0 : V) (H : Heap) : Prop :=
  bnd (lenOf a0) fun n1 =>
  bnd (aBinN .add (.int .i64 681681) (.int .i64 (n1 : Nat))) fun t2 =>
  ∃ (I3 : Nat → List V → Heap → Prop) (n4 : Nat), Shr (I3 n4 [t2, (.int .i64 0)]) H ∧
  ∀ n5 xs7 H8, I3 n5 xs7 H8 →
  bnd (lenOf a0) fun n9 =>
  bnd (aBinN .lss (xs7.tail.headD .any) (.int .i64 (n9 : Nat))) fun t10 =>
  gd t10 true
  (bnd (aBinN .lss (xs7.tail.headD .any) (.int .i64 4000)) fun t11 =>
  cnd t11
  (bnd (aBinN .mul (xs7.headD .any) (.int .i64 149)) fun t12 =>
  bnd (aIndex H8 1 a0 (xs7.tail.headD .any)) fun t13 =>
  bnd (aLd false 1 H8 t13) fun t14 =>
  bnd (aCv .i64 t14) fun t15 =>
  bnd (aBinN .add t12 t15) fun t16 =>
  bnd (aBinN .add t16 (.int .i64 11)) fun t17 =>
  bnd (aBinN .and t17 (.int .i64 1073741823)) fun t18 =>
  bnd (aBinN .add (xs7.tail.headD .any) (.int .i64 1)) fun t19 =>
  ∃ n6, n6 < n5 ∧ Shr (I3 n6 [t18, t19]) H8)
  (bnd (fillZ [.nils, (.int .i64 0), (.int .i64 0)] [(0, 1, a0), (2, 1, (xs7.headD .any))]) fun c20 =>
  boxK (.agg c20) (∀ o21, H8 o21 = none →
  Ret R (.ptr o21 0 0) (upd H8 o21 ⟨(c20).length, [c20]⟩))))
  (bnd (fillZ [.nils, (.int .i64 0), (.int .i64 0)] [(0, 1, a0), (2, 1, (xs7.headD .any))]) fun c22 =>
  boxK (.agg c22) (∀ o23, H8 o23 = none →
  Ret R (.ptr o23 0 0) (upd H8 o23 ⟨(c22).length, [c22]⟩)))
theorem W_s_l01New {R : V → Heap → Prop} {a0 : V} {H : Heap} (h : F_s_l01New R a0 H) : ACalls P n_s_l01New [a0] H R :=
  acalls_of_form (g := ⟨[], []⟩) (x := (.seq .leaf (.seq .leaf (.seq (.seq .leaf (.block (.loop [3, 4] (.seq (.seq .leaf (.cond .leaf .leaf)) (.seq (.block .leaf) .leaf))))) (.seq .leaf .leaf))))) Try.func60 (by kernel_rfl) (by kernel_rfl) (by kernel_rfl) (by kernel_rfl : F_s_l01New R a0 H = _) h
def F_s_l05DrawLsa (R : V → Heap → Prop) (a0 a1 a2 : V) (H : Heap) : Prop :=
  ACalls P n_s_l01Below [a0, (.int .i64 5)] H fun v1 H2 =>
  bnd (aBinN .add (.int .i64 1) v1) fun t3 =>
  ACalls P n_s_l01Below [a0, (.int .i64 30)] H2 fun v4 H5 =>
  ACalls P n_s_l01Below [a0, (.int .i64 60)] H5 fun v6 H7 =>
  bnd (bsl 1 5 [(.int .i64 0)] [(0, (.int .i64 0)), (1, (.int .i64 0)), (2, v4), (3, v6), (4, (.int .i64 60))]) fun r8 =>
  ∀ o9, H7 o9 = none →
  ACalls P n_s_l01PickInt [a0, (.slice o9 0 5 (some 5))] (upd H7 o9 ⟨1, r8⟩) fun v10 H11 =>
  ACalls P n_s_l05DrawLinks [a0, a1, a2] H11 fun v12 H13 =>
  ACalls P n_s_l01Below [a0, (.int .i64 3)] H13 fun v14 H15 =>
  ACalls P n_s_l05DrawStubs [a0, v14] H15 fun v16 H17 =>
  bnd (fillZ [(.int .i64 0), (.int .i64 0), (.int .i64 0), .nils, .nils] [(0, 1, a1), (1, 1, t3), (2, 1, v10), (3, 1, v12), (4, 1, v16)]) fun c18 =>
  bnd (stz 5 [(.int .i64 0), (.int .i64 0), (.int .i64 0), .nils, .nils] 0 (.agg c18)) fun c19 =>
  bnd (partOf true 5 c19 0) fun t20 =>
  Ret R t20 H17
theorem W_s_l05DrawLsa {R : V → Heap → Prop} {a0 a1 a2 : V} {H : Heap} (h : F_s_l05DrawLsa R a0 a1 a2 H) : ACalls P n_s_l05DrawLsa [a0, a1, a2] H R :=
  acalls_of_form (g := ⟨[6], []⟩) (x := (.seq .leaf (.seq .leaf .leaf))) Try.func61 (by kernel_rfl) (by kernel_rfl) (by kernel_rfl) (by kernel_rfl : F_s_l05DrawLsa R a0 a1 a2 H = _) h
def F_s_l01Below (R : V → Heap → Prop) (a0 a1 : V) (H : Heap) : Prop :=
  bnd (aBinN .leq a1 (.int .i64 0)) fun t1 =>
  cnd t1
  (Ret R (.int .i64 0) H)
  (bnd (aBinN .leq a1 (.int .i64 256)) fun t2 =>
  cnd t2
  (ACalls P n_s_l01Byte [a0] H fun v3 H4 =>
  bnd (aBinN .rem v3 a1) fun t5 =>
  Ret R t5 H4)
  (ACalls P n_s_l01Byte [a0] H fun v6 H7 =>
  ACalls P n_s_l01Byte [a0] H7 fun v8 H9 =>
  ACalls P n_s_l01Byte [a0] H9 fun v10 H11 =>
  bnd (aBinN .mul v6 (.int .i64 65536)) fun t12 =>
  bnd (aBinN .mul v8 (.int .i64 256)) fun t13 =>
  bnd (aBinN .add t12 t13) fun t14 =>
  bnd (aBinN .add t14 v10) fun t15 =>
  bnd (aBinN .rem t15 a1) fun t16 =>
  Ret R t16 H11))
theorem W_s_l01Below {R : V → Heap → Prop} {a0 a1 : V} {H : Heap} (h : F_s_l01Below R a0 a1 H) : ACalls P n_s_l01Below [a0, a1] H R :=
  acalls_of_form (g := ⟨[], []⟩) (x := (.seq .leaf (.seq (.seq .leaf (.cond (.seq .leaf .leaf) .leaf)) (.seq (.seq .leaf (.cond (.seq .leaf .leaf) .leaf)) (.seq .leaf (.seq .leaf (.seq .leaf (.seq .leaf .leaf)))))))) Try.func62 (by kernel_rfl) (by kernel_rfl) (by kernel_rfl) (by kernel_rfl : F_s_l01Below R a0 a1 H = _) h
def F_s_l01Once (R : V → Heap → Prop) (a0 a1 : V) (H : Heap) : Prop :=
  ACalls P n_s_l01Below [a0, a1] H fun v1 H2 =>
  bnd (aBinN .eql v1 (.int .i64 0)) fun t3 =>
  Ret R t3 H2
theorem W_s_l01Once {R : V → Heap → Prop} {a0 a1 : V} {H : Heap} (h : F_s_l01Once R a0 a1 H) : ACalls P n_s_l01Once [a0, a1] H R :=
  acalls_of_form (g := ⟨[], []⟩) (x := (.seq .leaf (.seq .leaf .leaf))) Try.func63 (by kernel_rfl) (by kernel_rfl) (by kernel_rfl) (by kernel_rfl : F_s_l01Once R a0 a1 H = _) h
def F_s_l05Bend (R : V → Heap → Prop) (a0 a1 : V) (H : Heap) : Prop :=
  boxK a1 (bnd (partOf true 5 (cellsOf a1) 0) fun t1 =>
  ACalls P n_s_l05Copy [t1] H fun v2 H3 =>
  bnd (stz 5 [(.int .i64 0), (.int .i64 0), (.int .i64 0), .nils, .nils] 0 v2) fun c4 =>
  ACalls P n_s_l01Below [a0, (.int .i64 6)] H3 fun v5 H6 =>
  bnd (aBinN .eql v5 (.int .i64 0)) fun t7 =>
  cnd t7
  (bnd (bsl 1 4 [(.int .i64 0)] [(0, (.int .i64 (-1))), (1, (.int .i64 10)), (2, (.int .i64 9)), (3, (.int .i64 0))]) fun r8 =>
  ∀ o9, H6 o9 = none →
  ACalls P n_s_l01PickInt [a0, (.slice o9 0 4 (some 4))] (upd H6 o9 ⟨1, r8⟩) fun v10 H11 =>
  bnd (stz 1 c4 0 v10) fun c12 =>
  bnd (partOf true 5 c12 0) fun t13 =>
  bnd (stz 5 [(.int .i64 0), (.int .i64 0), (.int .i64 0), .nils, .nils] 0 t13) fun c14 =>
  bnd (partOf true 5 c14 0) fun t15 =>
  Ret R t15 H11)
  (bnd (aBinN .eql v5 (.int .i64 1)) fun t16 =>
  cnd t16
  (bnd (bsl 1 3 [(.int .i64 0)] [(0, (.int .i64 0)), (1, (.int .i64 1000000)), (2, (.int .i64 1000001))]) fun r17 =>
  ∀ o18, H6 o18 = none →
  ACalls P n_s_l01PickInt [a0, (.slice o18 0 3 (some 3))] (upd H6 o18 ⟨1, r17⟩) fun v19 H20 =>
  bnd (stz 1 c4 1 v19) fun c21 =>
  bnd (partOf true 5 c21 0) fun t22 =>
  bnd (stz 5 [(.int .i64 0), (.int .i64 0), (.int .i64 0), .nils, .nils] 0 t22) fun c23 =>
  bnd (partOf true 5 c23 0) fun t24 =>
  Ret R t24 H20)
  (bnd (aBinN .eql v5 (.int .i64 2)) fun t25 =>
  cnd t25
  (bnd (bsl 1 3 [(.int .i64 0)] [(0, (.int .i64 (-1))), (1, (.int .i64 60)), (2, (.int .i64 61))]) fun r26 =>
  ∀ o27, H6 o27 = none →
  ACalls P n_s_l01PickInt [a0, (.slice o27 0 3 (some 3))] (upd H6 o27 ⟨1, r26⟩) fun v28 H29 =>
  bnd (stz 1 c4 2 v28) fun c30 =>
  bnd (partOf true 5 c30 0) fun t31 =>
  bnd (stz 5 [(.int .i64 0), (.int .i64 0), (.int .i64 0), .nils, .nils] 0 t31) fun c32 =>
  bnd (partOf true 5 c32 0) fun t33 =>
  Ret R t33 H29)
  (bnd (aBinN .eql v5 (.int .i64 3)) fun t34 =>
  cnd t34
  (bnd (partOf false 1 c4 3) fun t35 =>
  ACalls P n_s_l01Below [a0, (.int .i64 11)] H6 fun v36 H37 =>
  bnd (bsl 1 4 [(.int .i64 0)] [(0, (.int .i64 1)), (1, (.int .i64 0)), (2, (.int .i64 1000)), (3, (.int .i64 1001))]) fun r38 =>
  ∀ o39, H37 o39 = none →
  ACalls P n_s_l01PickInt [a0, (.slice o39 0 4 (some 4))] (upd H37 o39 ⟨1, r38⟩) fun v40 H41 =>
  bnd (fillZ [(.int .i64 0), (.int .i64 0)] [(0, 1, v36), (1, 1, v40)]) fun c42 =>
  bnd (bsl 2 1 [(.int .i64 0), (.int .i64 0)] [(0, (.agg c42))]) fun r43 =>
  ∀ o44, H41 o44 = none →
  bnd (rowsOf (upd H41 o44 ⟨2, r43⟩) 2 (.slice o44 0 1 (some 1))) fun r47 =>
  appendK (upd H41 o44 ⟨2, r43⟩) 2 16 t35 r47 fun v45 H46 =>
  bnd (stz 1 c4 3 v45) fun c48 =>
  bnd (partOf true 5 c48 0) fun t49 =>
  bnd (stz 5 [(.int .i64 0), (.int .i64 0), (.int .i64 0), .nils, .nils] 0 t49) fun c50 =>
  bnd (partOf true 5 c50 0) fun t51 =>
  Ret R t51 H46)
  (bnd (aBinN .eql v5 (.int .i64 4)) fun t52 =>
  cnd t52
  (bnd (partOf false 1 c4 4) fun t53 =>
  ACalls P n_s_l01DrawPrefix [a0] H6 fun v54 H55 =>
  bnd (bsl 1 4 [(.int .i64 0)] [(0, (.int .i64 1)), (1, (.int .i64 0)), (2, (.int .i64 1000)), (3, (.int .i64 1001))]) fun r56 =>
  ∀ o57, H55 o57 = none →
  ACalls P n_s_l01PickInt [a0, (.slice o57 0 4 (some 4))] (upd H55 o57 ⟨1, r56⟩) fun v58 H59 =>
  bnd (fillZ [(.int .i64 0), (.int .i64 0), (.int .i64 0)] [(0, 2, v54), (2, 1, v58)]) fun c60 =>
  bnd (bsl 3 1 [(.int .i64 0), (.int .i64 0), (.int .i64 0)] [(0, (.agg c60))]) fun r61 =>
  ∀ o62, H59 o62 = none →
  bnd (rowsOf (upd H59 o62 ⟨3, r61⟩) 3 (.slice o62 0 1 (some 1))) fun r65 =>
  appendK (upd H59 o62 ⟨3, r61⟩) 3 24 t53 r65 fun v63 H64 =>
  bnd (stz 1 c4 4 v63) fun c66 =>
  bnd (partOf true 5 c66 0) fun t67 =>
  bnd (stz 5 [(.int .i64 0), (.int .i64 0), (.int .i64 0), .nils, .nils] 0 t67) fun c68 =>
  bnd (partOf true 5 c68 0) fun t69 =>
  Ret R t69 H64)
  (bnd (aBinN .eql v5 (.int .i64 5)) fun t70 =>
  cnd t70
  (∃ (I71 : Nat → List V → Heap → Prop) (n72 : Nat), Shr (I71 n72 [(.box [(.int .i64 0), (.int .i64 0), (.int .i64 0), .nils, .nils]), (.box c4), (.int .i64 0)]) H6 ∧
  ∀ n73 xs75 H76, I71 n73 xs75 H76 →
  bnd (aBinN .lss (xs75.tail.tail.headD .any) (.int .i64 7)) fun t77 =>
  cnd t77
  (bnd (partOf false 1 (bc (xs75.tail.headD .any)) 4) fun t78 =>
  bnd (aBinN .mul (.int .i64 16) (xs75.tail.tail.headD .any)) fun t79 =>
  bnd (aBinN .add (.int .i64 64000) t79) fun t80 =>
  bnd (aBinN .rem (xs75.tail.tail.headD .any) (.int .i64 2)) fun t81 =>
  bnd (aBinN .add (.int .i64 12) t81) fun t82 =>
  bnd (fillZ [(.int .i64 0), (.int .i64 0)] [(0, 1, t80), (1, 1, t82)]) fun c83 =>
  bnd (fillZ [(.int .i64 0), (.int .i64 0), (.int .i64 0)] [(0, 2, (.agg c83)), (2, 1, (.int .i64 1))]) fun c84 =>
  bnd (bsl 3 1 [(.int .i64 0), (.int .i64 0), (.int .i64 0)] [(0, (.agg c84))]) fun r85 =>
  ∀ o86, H76 o86 = none →
  bnd (rowsOf (upd H76 o86 ⟨3, r85⟩) 3 (.slice o86 0 1 (some 1))) fun r89 =>
  appendK (upd H76 o86 ⟨3, r85⟩) 3 24 t78 r89 fun v87 H88 =>
  bnd (stz 1 (bc (xs75.tail.headD .any)) 4 v87) fun c90 =>
  bnd (aBinN .add (xs75.tail.tail.headD .any) (.int .i64 1)) fun t91 =>
  ∃ n74, n74 < n73 ∧ Shr (I71 n74 [(.box (bc (xs75.headD .any))), (.box c90), t91]) H88)
  (bnd (partOf true 5 (bc (xs75.tail.headD .any)) 0) fun t92 =>
  bnd (stz 5 (bc (xs75.headD .any)) 0 t92) fun c93 =>
  bnd (partOf true 5 c93 0) fun t94 =>
  Ret R t94 H76))
  (bnd (partOf true 5 c4 0) fun t95 =>
  bnd (stz 5 [(.int .i64 0), (.int .i64 0), (.int .i64 0), .nils, .nils] 0 t95) fun c96 =>
  bnd (partOf true 5 c96 0) fun t97 =>
  Ret R t97 H6)))))))
theorem W_s_l05Bend {R : V → Heap → Prop} {a0 a1 : V} {H : Heap} (h : F_s_l05Bend R a0 a1 H) : ACalls P n_s_l05Bend [a0, a1] H R :=
  acalls_of_form (g := ⟨[3, 4, 5], [16, 22, 28, 31, 41, 44, 54, 61, 73]⟩) (x := (.seq .leaf (.seq .leaf (.seq (.seq .leaf (.block (.seq .leaf (.cond .leaf (.seq .leaf (.cond .leaf (.seq .leaf (.cond .leaf (.seq .leaf (.cond (.drawh [0, 1, 2, 4, 3, 5, 6, 7, 8, 9, 10, 11]) (.seq .leaf (.cond (.drawh [0, 1, 2, 4, 3, 5, 6, 7, 8, 9, 10, 11]) (.seq .leaf (.cond (.seq .leaf (.block (.loop [4, 5, 6] (.seq (.seq .leaf (.cond .leaf .leaf)) (.seq (.block .leaf) .leaf))))) .leaf)))))))))))))) (.seq .leaf .leaf))))) Try.func64 (by kernel_rfl) (by kernel_rfl) (by kernel_rfl) (by kernel_rfl : F_s_l05Bend R a0 a1 H = _) h
def F_s_l01PickInt (R : V → Heap → Prop) (a0 a1 : V) (H : Heap) : Prop :=
  bnd (lenOf a1) fun n1 =>
  ACalls P n_s_l01Below [a0, (.int .i64 (n1 : Nat))] H fun v2 H3 =>
  bnd (aIndex H3 1 a1 v2) fun t4 =>
  bnd (aLd false 1 H3 t4) fun t5 =>
  Ret R t5 H3
theorem W_s_l01PickInt {R : V → Heap → Prop} {a0 a1 : V} {H : Heap} (h : F_s_l01PickInt R a0 a1 H) : ACalls P n_s_l01PickInt [a0, a1] H R :=
  acalls_of_form (g := ⟨[], []⟩) (x := (.seq .leaf (.seq .leaf .leaf))) Try.func65 (by kernel_rfl) (by kernel_rfl) (by kernel_rfl) (by kernel_rfl : F_s_l01PickInt R a0 a1 H = _) h
def F_s_l01In (R : V → Heap → Prop) (a0 a1 a2 : V) (H : Heap) : Prop :=
  bnd (aBinN .leq a1 a0) fun t1 =>
  gd t1 true
  (bnd (aBinN .leq a0 a2) fun t2 =>
  Ret R t2 H)
  (Ret R (.bool false) H)
theorem W_s_l01In {R : V → Heap → Prop} {a0 a1 a2 : V} {H : Heap} (h : F_s_l01In R a0 a1 a2 H) : ACalls P n_s_l01In [a0, a1, a2] H R :=
  acalls_of_form (g := ⟨[], []⟩) (x := (.seq .leaf (.seq .leaf .leaf))) Try.func66 (by kernel_rfl) (by kernel_rfl) (by kernel_rfl) (by kernel_rfl : F_s_l01In R a0 a1 a2 H = _) h
def F_s_PrefixOk (R : V → Heap → Prop) (a0 : V) (H : Heap) : Prop :=
  boxK a0 (∃ S1, Abs.sub S1 H ∧
  bnd (partOf false 1 (cellsOf a0) 1) fun t2 =>
  ACalls P n_s_l01In [t2, (.int .i64 0), (.int .i64 16)] H fun v3 H4 =>
  Abs.sub S1 H4 ∧
  gd v3 true
  (bnd (partOf false 1 (cellsOf a0) 0) fun t5 =>
  ACalls P n_s_l01Addr [t5] H4 fun v6 H7 =>
  Abs.sub S1 H7 ∧
  gd v6 true
  (bnd (partOf false 1 (cellsOf a0) 0) fun t8 =>
  bnd (partOf false 1 (cellsOf a0) 1) fun t9 =>
  ACalls P n_s_l01Size2 [t9] H7 fun v10 H11 =>
  Abs.sub S1 H11 ∧
  bnd (aBinN .rem t8 v10) fun t12 =>
  bnd (aBinN .eql t12 (.int .i64 0)) fun t13 =>
  Ret R t13 H11)
  (Ret R (.bool false) H7))
  (Ret R (.bool false) H4))
theorem W_s_PrefixOk {R : V → Heap → Prop} {a0 : V} {H : Heap} (h : F_s_PrefixOk R a0 H) : ACalls P n_s_PrefixOk [a0] H R :=
  acalls_of_form (g := ⟨[1], [3, 7, 12, 14]⟩) (x := (.seq .leaf (.seq (.draw [0, 1, 2, 3, 4, 5, 6, 7, 8, 9, 10, 11, 12, 13, 14, 15, 16, 17]) .leaf))) Try.func67 (by kernel_rfl) (by kernel_rfl) (by kernel_rfl) (by kernel_rfl : F_s_PrefixOk R a0 H = _) h
def F_s_l02Ahead (R : V → Heap → Prop) (a0 a1 : V) (H : Heap) : Prop :=
  boxK a0 (boxK a1 (bnd (partOf false 1 (cellsOf a0) 0) fun t1 =>
  bnd (partOf false 1 (cellsOf a1) 0) fun t2 =>
  bnd (aBinN .lss t1 t2) fun t3 =>
  gd t3 false
  (bnd (partOf false 1 (cellsOf a0) 0) fun t4 =>
  bnd (partOf false 1 (cellsOf a1) 0) fun t5 =>
  bnd (aBinN .eql t4 t5) fun t6 =>
  gd3 t6 true
  (bnd (partOf false 1 (cellsOf a0) 1) fun t7 =>
  bnd (partOf false 1 (cellsOf a1) 1) fun t8 =>
  bnd (aBinN .lss t7 t8) fun t9 =>
  Ret R t9 H)
  (Ret R (.bool false) H)
  (bnd (aPick (.tup []) (.tup []) (.bool false)) fun t10 =>
  Ret R t10 H))
  (Ret R (.bool true) H)))
theorem W_s_l02Ahead {R : V → Heap → Prop} {a0 a1 : V} {H : Heap} (h : F_s_l02Ahead R a0 a1 H) : ACalls P n_s_l02Ahead [a0, a1] H R :=
  acalls_of_form (g := ⟨[2, 3], [5, 7, 11, 13, 17, 19]⟩) (x := (.seq .leaf (.seq .leaf .leaf))) Try.func68 (by kernel_rfl) (by kernel_rfl) (by kernel_rfl) (by kernel_rfl : F_s_l02Ahead R a0 a1 H = _) h
def F_i_within (R : V → Heap → Prop) (a0 a1 a2 : V) (H : Heap) : Prop :=
  bnd (aBinN .geq a0 a1) fun t1 =>
  gd t1 true
  (bnd (aBinN .leq a0 a2) fun t2 =>
  Ret R t2 H)
  (Ret R (.bool false) H)
theorem W_i_within {R : V → Heap → Prop} {a0 a1 a2 : V} {H : Heap} (h : F_i_within R a0 a1 a2 H) : ACalls P n_i_within [a0, a1, a2] H R :=
  acalls_of_form (g := ⟨[], []⟩) (x := (.seq .leaf (.seq .leaf .leaf))) Try.func69 (by kernel_rfl) (by kernel_rfl) (by kernel_rfl) (by kernel_rfl : F_i_within R a0 a1 a2 H = _) h
def F_i_areLinks (R : V → Heap → Prop) (a0 a1 : V) (H : Heap) : Prop :=
  bnd (lenOf a1) fun n1 =>
  ∃ (I2 : Nat → List V → Heap → Prop) (n3 : Nat), Shr (I2 n3 [(.int .i64 0)]) H ∧
  ∀ n4 xs6 H7, I2 n4 xs6 H7 →
  bnd (aBinN .lss (xs6.headD .any) (.int .i64 (n1 : Nat))) fun t8 =>
  cnd t8
  (bnd (aIndex H7 2 a1 (xs6.headD .any)) fun t9 =>
  bnd (aLd true 2 H7 t9) fun t10 =>
  bnd (stz 2 [(.int .i64 0), (.int .i64 0)] 0 t10) fun c11 =>
  ∃ S12, Abs.sub S12 H7 ∧
  bnd (partOf false 1 c11 0) fun t13 =>
  ACalls P n_i_within [t13, (.int .i64 0), (.int .i64 9)] H7 fun v14 H15 =>
  Abs.sub S12 H15 ∧
  bnd (aNot v14) fun t16 =>
  gd t16 false
  (bnd (partOf false 1 c11 1) fun t17 =>
  ACalls P n_i_within [t17, (.int .i64 1), (.int .i64 1000)] H15 fun v18 H19 =>
  Abs.sub S12 H19 ∧
  bnd (aNot v18) fun t20 =>
  gd t20 false
  (bnd (partOf false 1 c11 0) fun t21 =>
  bnd (aBinN .eql t21 a0) fun t22 =>
  gd t22 false
  (bnd (aBinN .gtr (xs6.headD .any) (.int .i64 0)) fun t23 =>
  gd3 t23 true
  (bnd (partOf false 1 c11 0) fun t24 =>
  bnd (aBinN .sub (xs6.headD .any) (.int .i64 1)) fun t25 =>
  bnd (aIndex S12 2 a1 t25) fun t26 =>
  bnd (aField 0 t26) fun t27 =>
  bnd (aLd false 1 S12 t27) fun t28 =>
  bnd (aBinN .leq t24 t28) fun t29 =>
  cnd t29
  (Ret R (.bool false) H19)
  (bnd (aBinN .add (xs6.headD .any) (.int .i64 1)) fun t30 =>
  ∃ n5, n5 < n4 ∧ Shr (I2 n5 [t30]) H19))
  (bnd (aBinN .add (xs6.headD .any) (.int .i64 1)) fun t31 =>
  ∃ n5, n5 < n4 ∧ Shr (I2 n5 [t31]) H19)
  (bnd (aPick (.tup []) (.tup []) (.bool false)) fun t32 =>
  cnd t32
  (Ret R (.bool false) H19)
  (bnd (aBinN .add (xs6.headD .any) (.int .i64 1)) fun t33 =>
  ∃ n5, n5 < n4 ∧ Shr (I2 n5 [t33]) H19)))
  (Ret R (.bool false) H19))
  (Ret R (.bool false) H19))
  (Ret R (.bool false) H15))
  (Ret R (.bool true) H7)
theorem W_i_areLinks {R : V → Heap → Prop} {a0 a1 : V} {H : Heap} (h : F_i_areLinks R a0 a1 H) : ACalls P n_i_areLinks [a0, a1] H R :=
  acalls_of_form (g := ⟨[6], [14, 19, 25, 34]⟩) (x := (.seq .leaf (.seq (.seq .leaf (.block (.loop [9] (.seq .leaf (.seq (.cond .leaf .leaf) (.seq (.block (.seq .leaf (.seq (.draw [0, 1, 2, 3, 4, 5, 6, 7, 8, 9, 10, 11, 12, 13, 14, 15, 16, 17, 18, 19, 20, 21, 22, 23, 24, 25, 26, 27, 28, 29, 30]) (.cond (.seq .leaf .leaf) .leaf)))) .leaf)))))) (.seq .leaf .leaf)))) Try.func70 (by kernel_rfl) (by kernel_rfl) (by kernel_rfl) (by kernel_rfl : F_i_areLinks R a0 a1 H = _) h
def F_i_areStubs (R : V → Heap → Prop) (a0 : V) (H : Heap) : Prop :=
  bnd (lenOf a0) fun n1 =>
  ∃ (I2 : Nat → List V → Heap → Prop) (n3 : Nat), Shr (I2 n3 [(.int .i64 0)]) H ∧
  ∀ n4 xs6 H7, I2 n4 xs6 H7 →
  bnd (aBinN .lss (xs6.headD .any) (.int .i64 (n1 : Nat))) fun t8 =>
  cnd t8
  (bnd (aIndex H7 3 a0 (xs6.headD .any)) fun t9 =>
  bnd (aLd true 3 H7 t9) fun t10 =>
  bnd (stz 3 [(.int .i64 0), (.int .i64 0), (.int .i64 0)] 0 t10) fun c11 =>
  ∃ S12, Abs.sub S12 H7 ∧
  bnd (partOf true 2 c11 0) fun t13 =>
  ACalls P n_i_PrefixOk [t13] H7 fun v14 H15 =>
  Abs.sub S12 H15 ∧
  bnd (aNot v14) fun t16 =>
  gd t16 false
  (bnd (partOf false 1 c11 2) fun t17 =>
  ACalls P n_i_within [t17, (.int .i64 1), (.int .i64 1000)] H15 fun v18 H19 =>
  Abs.sub S12 H19 ∧
  bnd (aNot v18) fun t20 =>
  gd t20 false
  (bnd (aBinN .gtr (xs6.headD .any) (.int .i64 0)) fun t21 =>
  gd3 t21 true
  (bnd (aBinN .sub (xs6.headD .any) (.int .i64 1)) fun t22 =>
  bnd (aIndex S12 3 a0 t22) fun t23 =>
  bnd (aField 0 t23) fun t24 =>
  bnd (aLd true 2 S12 t24) fun t25 =>
  bnd (partOf true 2 c11 0) fun t26 =>
  ACalls P n_i_comparePrefixes [t25, t26] H19 fun v27 H28 =>
  Abs.sub S12 H28 ∧
  bnd (aBinN .geq v27 (.int .i64 0)) fun t29 =>
  cnd t29
  (Ret R (.bool false) H28)
  (bnd (aBinN .add (xs6.headD .any) (.int .i64 1)) fun t30 =>
  ∃ n5, n5 < n4 ∧ Shr (I2 n5 [t30]) H28))
  (bnd (aBinN .add (xs6.headD .any) (.int .i64 1)) fun t31 =>
  ∃ n5, n5 < n4 ∧ Shr (I2 n5 [t31]) H19)
  (bnd (aPick (.tup []) (.tup []) (.bool false)) fun t32 =>
  cnd t32
  (Ret R (.bool false) H19)
  (bnd (aBinN .add (xs6.headD .any) (.int .i64 1)) fun t33 =>
  ∃ n5, n5 < n4 ∧ Shr (I2 n5 [t33]) H19)))
  (Ret R (.bool false) H19))
  (Ret R (.bool false) H15))
  (bnd (lenOf a0) fun n34 =>
  bnd (aBinN .leq (.int .i64 (n34 : Nat)) (.int .i64 6)) fun t35 =>
  Ret R t35 H7)
theorem W_i_areStubs {R : V → Heap → Prop} {a0 : V} {H : Heap} (h : F_i_areStubs R a0 H) : ACalls P n_i_areStubs [a0] H R :=
  acalls_of_form (g := ⟨[4], [12, 17, 32]⟩) (x := (.seq .leaf (.seq (.seq .leaf (.block (.loop [7] (.seq .leaf (.seq (.cond .leaf .leaf) (.seq (.block (.seq .leaf (.seq (.draw [0, 1, 2, 3, 4, 5, 6, 7, 8, 9, 10, 11, 12, 13, 14, 15, 16, 17, 18, 19, 20, 21, 22, 23, 24, 25]) (.cond (.seq .leaf .leaf) .leaf)))) .leaf)))))) (.seq .leaf .leaf)))) Try.func71 (by kernel_rfl) (by kernel_rfl) (by kernel_rfl) (by kernel_rfl : F_i_areStubs R a0 H = _) h
def F_cmp_Or_int (R : V → Heap → Prop) (a0 : V) (H : Heap) : Prop :=
  bnd (lenOf a0) fun n1 =>
  ∃ (I2 : Nat → List V → Heap → Prop) (n3 : Nat), Shr (I2 n3 [(.int .i64 0)]) H ∧
  ∀ n4 xs6 H7, I2 n4 xs6 H7 →
  bnd (aBinN .lss (xs6.headD .any) (.int .i64 (n1 : Nat))) fun t8 =>
  cnd t8
  (bnd (aIndex H7 1 a0 (xs6.headD .any)) fun t9 =>
  bnd (aLd false 1 H7 t9) fun t10 =>
  bnd (aBinN .neq t10 (.int .i64 0)) fun t11 =>
  cnd t11
  (Ret R t10 H7)
  (bnd (aBinN .add (xs6.headD .any) (.int .i64 1)) fun t12 =>
  ∃ n5, n5 < n4 ∧ Shr (I2 n5 [t12]) H7))
  (Ret R (.int .i64 0) H7)
theorem W_cmp_Or_int {R : V → Heap → Prop} {a0 : V} {H : Heap} (h : F_cmp_Or_int R a0 H) : ACalls P n_cmp_Or_int [a0] H R :=
  acalls_of_form (g := ⟨[], []⟩) (x := (.seq .leaf (.seq .leaf (.seq (.seq .leaf (.block (.loop [8] (.seq .leaf (.seq (.cond .leaf .leaf) (.seq (.block (.seq .leaf (.seq .leaf (.cond (.seq .leaf .leaf) .leaf)))) .leaf)))))) (.seq .leaf .leaf))))) Try.func72 (by kernel_rfl) (by kernel_rfl) (by kernel_rfl) (by kernel_rfl : F_cmp_Or_int R a0 H = _) h
def F_cmp_Compare_int (R : V → Heap → Prop) (a0 a1 : V) (H : Heap) : Prop :=
  ACalls P n_cmp_isNaN_int [a0] H fun v1 H2 =>
  ACalls P n_cmp_isNaN_int [a1] H2 fun v3 H4 =>
  cnd v1
  (cnd v3
  (Ret R (.int .i64 0) H4)
  (Ret R (.int .i64 (-1)) H4))
  (cnd v3
  (Ret R (.int .i64 1) H4)
  (bnd (aBinN .lss a0 a1) fun t5 =>
  cnd t5
  (Ret R (.int .i64 (-1)) H4)
  (bnd (aBinN .gtr a0 a1) fun t6 =>
  cnd t6
  (Ret R (.int .i64 1) H4)
  (Ret R (.int .i64 0) H4))))
theorem W_cmp_Compare_int {R : V → Heap → Prop} {a0 a1 : V} {H : Heap} (h : F_cmp_Compare_int R a0 a1 H) : ACalls P n_cmp_Compare_int [a0, a1] H R :=
  acalls_of_form (g := ⟨[], []⟩) (x := (.seq .leaf (.seq .leaf (.seq .leaf (.seq (.seq .leaf (.cond (.seq (.seq .leaf (.cond (.seq .leaf .leaf) .leaf)) (.seq .leaf .leaf)) .leaf)) (.seq (.seq .leaf (.cond (.seq .leaf .leaf) .leaf)) (.seq (.seq .leaf (.cond (.seq .leaf .leaf) .leaf)) (.seq (.seq .leaf (.cond (.seq .leaf .leaf) .leaf)) (.seq .leaf .leaf))))))))) Try.func73 (by kernel_rfl) (by kernel_rfl) (by kernel_rfl) (by kernel_rfl : F_cmp_Compare_int R a0 a1 H = _) h
def F_i_newer_1 (R : V → Heap → Prop) (a0 : V) (H : Heap) : Prop :=
  boxK a0 (bnd (partOf false 1 (cellsOf a0) 2) fun t1 =>
  bnd (aBinN .eql t1 (.int .i64 60)) fun t2 =>
  Ret R t2 H)
theorem W_i_newer_1 {R : V → Heap → Prop} {a0 : V} {H : Heap} (h : F_i_newer_1 R a0 H) : ACalls P n_i_newer_1 [a0] H R :=
  acalls_of_form (g := ⟨[1], [3]⟩) (x := (.seq .leaf (.seq .leaf .leaf))) Try.func74 (by kernel_rfl) (by kernel_rfl) (by kernel_rfl) (by kernel_rfl : F_i_newer_1 R a0 H = _) h
theorem E_i_newer_1 : enterable P n_i_newer_1 = true := by kernel_rfl
def F_s_l01Join (R : V → Heap → Prop) (a0 a1 : V) (H : Heap) : Prop :=
  ACalls P n_s_l01Bytes [a0] H fun v1 H2 =>
  ∃ (I3 : Nat → List V → Heap → Prop) (n4 : Nat), Shr (I3 n4 [v1, (.int .i64 0)]) H2 ∧
  ∀ n5 xs7 H8, I3 n5 xs7 H8 →
  bnd (lenOf a1) fun n9 =>
  bnd (aBinN .lss (xs7.tail.headD .any) (.int .i64 (n9 : Nat))) fun t10 =>
  cnd t10
  (bnd (aIndex H8 1 a1 (xs7.tail.headD .any)) fun t11 =>
  bnd (aLd false 1 H8 t11) fun t12 =>
  bnd (bsl 1 1 [(.int .u8 0)] [(0, t12)]) fun r13 =>
  ∀ o14, H8 o14 = none →
  bnd (rowsOf (upd H8 o14 ⟨1, r13⟩) 1 (.slice o14 0 1 (some 1))) fun r17 =>
  appendK (upd H8 o14 ⟨1, r13⟩) 1 1 (xs7.headD .any) r17 fun v15 H16 =>
  bnd (aBinN .add (xs7.tail.headD .any) (.int .i64 1)) fun t18 =>
  ∃ n6, n6 < n5 ∧ Shr (I3 n6 [v15, t18]) H16)
  (Ret R (xs7.headD .any) H8)
theorem W_s_l01Join {R : V → Heap → Prop} {a0 a1 : V} {H : Heap} (h : F_s_l01Join R a0 a1 H) : ACalls P n_s_l01Join [a0, a1] H R :=
  acalls_of_form (g := ⟨[], []⟩) (x := (.seq .leaf (.seq .leaf (.seq (.seq .leaf (.block (.loop [5, 6] (.seq (.seq .leaf (.cond .leaf .leaf)) (.seq (.block .leaf) .leaf))))) (.seq .leaf .leaf))))) Try.func75 (by kernel_rfl) (by kernel_rfl) (by kernel_rfl) (by kernel_rfl : F_s_l01Join R a0 a1 H = _) h
def F_s_l05Wide (R : V → Heap → Prop) (a0 a1 : V) (H : Heap) : Prop :=
  bnd (bsl 1 0 [(.int .u8 0)] []) fun r1 =>
  ∀ o2, H o2 = none →
  bnd (aBinN .sub a1 (.int .i64 1)) fun t3 =>
  ∃ (I4 : Nat → List V → Heap → Prop) (n5 : Nat), Shr (I4 n5 [(.slice o2 0 0 (some 0)), t3]) (upd H o2 ⟨1, r1⟩) ∧
  ∀ n6 xs8 H9, I4 n6 xs8 H9 →
  bnd (aBinN .geq (xs8.tail.headD .any) (.int .i64 0)) fun t10 =>
  cnd t10
  (bnd (aBinN .mul (.int .i64 8) (xs8.tail.headD .any)) fun t11 =>
  bnd (aCv .u64 t11) fun t12 =>
  bnd (aBinN .shr a0 t12) fun t13 =>
  bnd (aBinN .and t13 (.int .i64 255)) fun t14 =>
  bnd (aCv .u8 t14) fun t15 =>
  bnd (bsl 1 1 [(.int .u8 0)] [(0, t15)]) fun r16 =>
  ∀ o17, H9 o17 = none →
  bnd (rowsOf (upd H9 o17 ⟨1, r16⟩) 1 (.slice o17 0 1 (some 1))) fun r20 =>
  appendK (upd H9 o17 ⟨1, r16⟩) 1 1 (xs8.headD .any) r20 fun v18 H19 =>
  bnd (aBinN .sub (xs8.tail.headD .any) (.int .i64 1)) fun t21 =>
  ∃ n7, n7 < n6 ∧ Shr (I4 n7 [v18, t21]) H19)
  (Ret R (xs8.headD .any) H9)
theorem W_s_l05Wide {R : V → Heap → Prop} {a0 a1 : V} {H : Heap} (h : F_s_l05Wide R a0 a1 H) : ACalls P n_s_l05Wide [a0, a1] H R :=
  acalls_of_form (g := ⟨[], []⟩) (x := (.seq .leaf (.seq .leaf (.seq (.seq .leaf (.block (.loop [5, 6] (.seq (.seq .leaf (.cond .leaf .leaf)) (.seq (.block .leaf) .leaf))))) (.seq .leaf .leaf))))) Try.func76 (by kernel_rfl) (by kernel_rfl) (by kernel_rfl) (by kernel_rfl : F_s_l05Wide R a0 a1 H = _) h
def F_slices_Insert_i_Lsa_i_Lsa (R : V → Heap → Prop) (a0 a1 a2 : V) (H : Heap) : Prop :=
  bnd (aSlice H 5 a0 (some a1) none none) fun t1 =>
  bnd (lenOf a2) fun n2 =>
  bnd (aBinN .eql (.int .i64 (n2 : Nat)) (.int .i64 0)) fun t3 =>
  cnd t3
  (Ret R a0 H)
  (bnd (lenOf a0) fun n4 =>
  bnd (aBinN .eql a1 (.int .i64 (n4 : Nat))) fun t5 =>
  cnd t5
  (bnd (rowsOf H 5 a2) fun r8 =>
  appendK H 5 72 a0 r8 fun v6 H7 =>
  Ret R v6 H7)
  (bnd (aBinN .add (.int .i64 (n4 : Nat)) (.int .i64 (n2 : Nat))) fun t9 =>
  capK H a0 fun v10 H11 =>
  bnd (aBinN .gtr t9 v10) fun t12 =>
  cnd t12
  (bnd (aSlice H11 5 a0 none (some a1) none) fun t13 =>
  bnd (aBinN .add (.int .i64 (n4 : Nat)) (.int .i64 (n2 : Nat))) fun t14 =>
  bnd (aBinN .sub t14 a1) fun t15 =>
  growZ H11 5 72 [(.int .i64 0), (.int .i64 0), (.int .i64 0), .nils, .nils] t13 t15 fun v16 H17 =>
  bnd (aSlice H17 5 v16 (some a1) none none) fun t19 =>
  bnd (rowsOf H17 5 a2) fun r22 =>
  copyK H17 5 t19 r22 fun v20 H21 =>
  bnd (aBinN .add a1 (.int .i64 (n2 : Nat))) fun t23 =>
  bnd (aSlice H21 5 v16 (some t23) none none) fun t24 =>
  bnd (aSlice H21 5 a0 (some a1) none none) fun t25 =>
  bnd (rowsOf H21 5 t25) fun r28 =>
  copyK H21 5 t24 r28 fun v26 H27 =>
  Ret R v16 H27)
  (bnd (aBinN .add (.int .i64 (n4 : Nat)) (.int .i64 (n2 : Nat))) fun t29 =>
  bnd (aSlice H11 5 a0 none (some t29) none) fun t30 =>
  bnd (aBinN .add a1 (.int .i64 (n2 : Nat))) fun t31 =>
  bnd (aSlice H11 5 t30 (some t31) none none) fun t32 =>
  extK P H11 n_slices_overlaps_i_Lsa [a2, t32] fun v33 H34 =>
  bnd (aNot v33) fun t35 =>
  cnd t35
  (bnd (aBinN .add a1 (.int .i64 (n2 : Nat))) fun t36 =>
  bnd (aSlice H34 5 t30 (some t36) none none) fun t37 =>
  bnd (aSlice H34 5 t30 (some a1) none none) fun t38 =>
  bnd (rowsOf H34 5 t38) fun r41 =>
  copyK H34 5 t37 r41 fun v39 H40 =>
  bnd (aSlice H40 5 t30 (some a1) none none) fun t42 =>
  bnd (rowsOf H40 5 a2) fun r45 =>
  copyK H40 5 t42 r45 fun v43 H44 =>
  Ret R t30 H44)
  (bnd (aSlice H34 5 t30 (some (.int .i64 (n4 : Nat))) none none) fun t46 =>
  bnd (rowsOf H34 5 a2) fun r49 =>
  copyK H34 5 t46 r49 fun v47 H48 =>
  bnd (aSlice H48 5 t30 (some a1) none none) fun t50 =>
  ACalls P n_slices_rotateRight_i_Lsa [t50, (.int .i64 (n2 : Nat))] H48 fun v51 H52 =>
  Ret R t30 H52))))
theorem W_slices_Insert_i_Lsa_i_Lsa {R : V → Heap → Prop} {a0 a1 a2 : V} {H : Heap} (h : F_slices_Insert_i_Lsa_i_Lsa R a0 a1 a2 H) : ACalls P n_slices_Insert_i_Lsa_i_Lsa [a0, a1, a2] H R :=
  acalls_of_form (g := ⟨[], []⟩) (x := (.seq .leaf (.seq .leaf (.seq .leaf (.seq (.seq .leaf (.cond (.seq .leaf .leaf) .leaf)) (.seq .leaf (.seq (.seq .leaf (.cond (.seq .leaf .leaf) .leaf)) (.seq (.seq .leaf (.cond (.seq .leaf (.seq .leaf (.seq (.drawh [0, 1, 2, 3, 4, 5, 6, 7, 8]) (.seq .leaf .leaf)))) .leaf)) (.seq .leaf (.seq (.seq .leaf (.cond (.seq (.drawh [0, 1, 2, 3, 4, 5, 6, 7, 8]) (.seq .leaf (.seq .leaf .leaf))) .leaf)) (.seq .leaf (.seq .leaf (.seq .leaf .leaf))))))))))))) Try.func77 (by kernel_rfl) (by kernel_rfl) (by kernel_rfl) (by kernel_rfl : F_slices_Insert_i_Lsa_i_Lsa R a0 a1 a2 H = _) h
def F_s_l06DrawDb (R : V → Heap → Prop) (a0 a1 : V) (H : Heap) : Prop :=
  bnd (aBinN .mul (.int .i64 2) a1) fun t1 =>
  ACalls P n_s_l03DrawGraph [a0, a1, t1] H fun v2 H3 =>
  bnd (stz 2 [(.int .i64 0), .nils] 0 v2) fun c4 =>
  bnd (fillZ [.nils] []) fun c5 =>
  bnd (stz 1 [.nils] 0 (.agg c5)) fun c6 =>
  ∃ (I7 : Nat → List V → Heap → Prop) (n8 : Nat), Shr (I7 n8 [(.box [.nils]), (.box c4), (.box c6), (.int .i64 0)]) H3 ∧
  ∀ n9 xs11 H12, I7 n9 xs11 H12 →
  bnd (aBinN .lss (xs11.tail.tail.tail.headD .any) a1) fun t13 =>
  cnd t13
  (ACalls P n_s_l01Below [a0, (.int .i64 4)] H12 fun v14 H15 =>
  bnd (aBinN .add (.int .i64 1) v14) fun t16 =>
  ACalls P n_s_l01Below [a0, (.int .i64 50)] H15 fun v17 H18 =>
  bnd (bsl 1 3 [(.int .i64 0)] [(0, (.int .i64 0)), (1, (.int .i64 0)), (2, v17)]) fun r19 =>
  ∀ o20, H18 o20 = none →
  ACalls P n_s_l01PickInt [a0, (.slice o20 0 3 (some 3))] (upd H18 o20 ⟨1, r19⟩) fun v21 H22 =>
  ACalls P n_s_l01Below [a0, (.int .i64 3)] H22 fun v23 H24 =>
  ACalls P n_s_l05DrawStubs [a0, v23] H24 fun v25 H26 =>
  bnd (fillZ [(.int .i64 0), (.int .i64 0), (.int .i64 0), .nils, .nils] [(0, 1, (xs11.tail.tail.tail.headD .any)), (1, 1, t16), (2, 1, v21), (4, 1, v25)]) fun c27 =>
  bnd (stz 5 [(.int .i64 0), (.int .i64 0), (.int .i64 0), .nils, .nils] 0 (.agg c27)) fun c28 =>
  ∃ (I29 : Nat → List V → Heap → Prop) (n30 : Nat), Shr (I29 n30 [(.box (bc (xs11.headD .any))), (.box (bc (xs11.tail.headD .any))), (.box (bc (xs11.tail.tail.headD .any))), (.box c28), (.int .i64 0)]) H26 ∧
  ∀ n31 xs33 H34, I29 n31 xs33 H34 →
  bnd (partOf false 1 (bc (xs33.tail.headD .any)) 1) fun t35 =>
  bnd (lenOf t35) fun n36 =>
  bnd (aBinN .lss (xs33.tail.tail.tail.tail.headD .any) (.int .i64 (n36 : Nat))) fun t37 =>
  cnd t37
  (bnd (partOf false 1 (bc (xs33.tail.headD .any)) 1) fun t38 =>
  bnd (aIndex H34 3 t38 (xs33.tail.tail.tail.tail.headD .any)) fun t39 =>
  bnd (aField 0 t39) fun t40 =>
  bnd (aLd false 1 H34 t40) fun t41 =>
  bnd (aBinN .eql t41 (xs11.tail.tail.tail.headD .any)) fun t42 =>
  cnd t42
  (bnd (partOf false 1 (bc (xs33.tail.tail.tail.headD .any)) 3) fun t43 =>
  bnd (partOf false 1 (bc (xs33.tail.headD .any)) 1) fun t44 =>
  bnd (aIndex H34 3 t44 (xs33.tail.tail.tail.tail.headD .any)) fun t45 =>
  bnd (aField 1 t45) fun t46 =>
  bnd (aLd false 1 H34 t46) fun t47 =>
  bnd (partOf false 1 (bc (xs33.tail.headD .any)) 1) fun t48 =>
  bnd (aIndex H34 3 t48 (xs33.tail.tail.tail.tail.headD .any)) fun t49 =>
  bnd (aField 2 t49) fun t50 =>
  bnd (aLd false 1 H34 t50) fun t51 =>
  bnd (fillZ [(.int .i64 0), (.int .i64 0)] [(0, 1, t47), (1, 1, t51)]) fun c52 =>
  bnd (bsl 2 1 [(.int .i64 0), (.int .i64 0)] [(0, (.agg c52))]) fun r53 =>
  ∀ o54, H34 o54 = none →
  bnd (rowsOf (upd H34 o54 ⟨2, r53⟩) 2 (.slice o54 0 1 (some 1))) fun r57 =>
  appendK (upd H34 o54 ⟨2, r53⟩) 2 16 t43 r57 fun v55 H56 =>
  bnd (stz 1 (bc (xs33.tail.tail.tail.headD .any)) 3 v55) fun c58 =>
  bnd (aBinN .add (xs33.tail.tail.tail.tail.headD .any) (.int .i64 1)) fun t59 =>
  ∃ n32, n32 < n31 ∧ Shr (I29 n32 [(.box (bc (xs33.headD .any))), (.box (bc (xs33.tail.headD .any))), (.box (bc (xs33.tail.tail.headD .any))), (.box c58), t59]) H56)
  (bnd (aBinN .add (xs33.tail.tail.tail.tail.headD .any) (.int .i64 1)) fun t60 =>
  ∃ n32, n32 < n31 ∧ Shr (I29 n32 [(.box (bc (xs33.headD .any))), (.box (bc (xs33.tail.headD .any))), (.box (bc (xs33.tail.tail.headD .any))), (.box (bc (xs33.tail.tail.tail.headD .any))), t60]) H34))
  (ACalls P n_s_l01Below [a0, (.int .i64 8)] H34 fun v61 H62 =>
  bnd (aBinN .gtr v61 (.int .i64 0)) fun t63 =>
  cnd t63
  (bnd (partOf false 1 (bc (xs33.tail.tail.headD .any)) 0) fun t64 =>
  bnd (partOf true 5 (bc (xs33.tail.tail.tail.headD .any)) 0) fun t65 =>
  bnd (bsl 5 1 [(.int .i64 0), (.int .i64 0), (.int .i64 0), .nils, .nils] [(0, t65)]) fun r66 =>
  ∀ o67, H62 o67 = none →
  bnd (rowsOf (upd H62 o67 ⟨5, r66⟩) 5 (.slice o67 0 1 (some 1))) fun r70 =>
  appendK (upd H62 o67 ⟨5, r66⟩) 5 72 t64 r70 fun v68 H69 =>
  bnd (stz 1 (bc (xs33.tail.tail.headD .any)) 0 v68) fun c71 =>
  bnd (aBinN .add (xs11.tail.tail.tail.headD .any) (.int .i64 1)) fun t72 =>
  ∃ n10, n10 < n9 ∧ Shr (I7 n10 [(.box (bc (xs33.headD .any))), (.box (bc (xs33.tail.headD .any))), (.box c71), t72]) H69)
  (bnd (aBinN .add (xs11.tail.tail.tail.headD .any) (.int .i64 1)) fun t73 =>
  ∃ n10, n10 < n9 ∧ Shr (I7 n10 [(.box (bc (xs33.headD .any))), (.box (bc (xs33.tail.headD .any))), (.box (bc (xs33.tail.tail.headD .any))), t73]) H62)))
  (bnd (partOf true 1 (bc (xs11.tail.tail.headD .any)) 0) fun t74 =>
  bnd (stz 1 (bc (xs11.headD .any)) 0 t74) fun c75 =>
  bnd (partOf true 1 c75 0) fun t76 =>
  Ret R t76 H12)
theorem W_s_l06DrawDb {R : V → Heap → Prop} {a0 a1 : V} {H : Heap} (h : F_s_l06DrawDb R a0 a1 H) : ACalls P n_s_l06DrawDb [a0, a1] H R :=
  acalls_of_form (g := ⟨[4, 5, 6, 8], [36, 42, 50, 52, 58, 67, 71, 76]⟩) (x := (.seq .leaf (.seq .leaf (.seq .leaf (.seq (.seq .leaf (.block (.loop [4, 5, 6, 7] (.seq (.seq .leaf (.cond .leaf .leaf)) (.seq (.block (.seq .leaf (.seq (.seq .leaf (.block (.loop [4, 5, 6, 8, 9] (.seq (.seq .leaf (.cond .leaf .leaf)) (.seq (.block (.seq .leaf (.cond (.drawh [0, 1, 2, 3, 4, 5, 6, 7, 8, 9, 10, 11, 12, 13, 14, 15, 16, 17, 18]) .leaf))) .leaf))))) (.seq .leaf (.cond .leaf .leaf))))) .leaf))))) (.seq .leaf .leaf)))))) Try.func78 (by kernel_rfl) (by kernel_rfl) (by kernel_rfl) (by kernel_rfl : F_s_l06DrawDb R a0 a1 H = _) h
def F_s_l01Size (R : V → Heap → Prop) (a0 a1 : V) (H : Heap) : Prop :=
  bnd (lenOf a0) fun n1 =>
  bnd (aBinN .quo (.int .i64 (n1 : Nat)) (.int .i64 16)) fun t2 =>
  bnd (aBinN .add (.int .i64 2) t2) fun t3 =>
  bnd (aBinN .gtr t3 a1) fun t4 =>
  cnd t4
  (Ret R a1 H)
  (Ret R t3 H)
theorem W_s_l01Size {R : V → Heap → Prop} {a0 a1 : V} {H : Heap} (h : F_s_l01Size R a0 a1 H) : ACalls P n_s_l01Size [a0, a1] H R :=
  acalls_of_form (g := ⟨[], []⟩) (x := (.seq .leaf (.seq .leaf (.seq (.seq .leaf (.cond (.seq .leaf .leaf) .leaf)) (.seq .leaf .leaf))))) Try.func79 (by kernel_rfl) (by kernel_rfl) (by kernel_rfl) (by kernel_rfl : F_s_l01Size R a0 a1 H = _) h
def F_slices_BinarySearchFunc_i_Lsa_i_Lsa_int (R : V → Heap → Prop) (a0 a1 a2 : V) (H : Heap) : Prop :=
  bnd (lenOf a0) fun n1 =>
  ∃ (I2 : Nat → List V → Heap → Prop) (n3 : Nat), Shr (I2 n3 [(.int .i64 0), (.int .i64 (n1 : Nat))]) H ∧
  ∀ n4 xs6 H7, I2 n4 xs6 H7 →
  bnd (aBinN .lss (xs6.headD .any) (xs6.tail.headD .any)) fun t8 =>
  cnd t8
  (bnd (aBinN .add (xs6.headD .any) (xs6.tail.headD .any)) fun t9 =>
  bnd (aCv .u64 t9) fun t10 =>
  bnd (aBinN .shr t10 (.int .u64 1)) fun t11 =>
  bnd (aCv .i64 t11) fun t12 =>
  bnd (aIndex H7 5 a0 t12) fun t13 =>
  bnd (aLd true 5 H7 t13) fun t14 =>
  callK P H7 a2 [t14, a1] fun v15 H16 =>
  bnd (aBinN .lss v15 (.int .i64 0)) fun t17 =>
  cnd t17
  (bnd (aBinN .add t12 (.int .i64 1)) fun t18 =>
  ∃ n5, n5 < n4 ∧ Shr (I2 n5 [t18, (xs6.tail.headD .any)]) H16)
  (∃ n5, n5 < n4 ∧ Shr (I2 n5 [(xs6.headD .any), t12]) H16))
  (bnd (aBinN .lss (xs6.headD .any) (.int .i64 (n1 : Nat))) fun t19 =>
  gd t19 true
  (bnd (aIndex H7 5 a0 (xs6.headD .any)) fun t20 =>
  bnd (aLd true 5 H7 t20) fun t21 =>
  callK P H7 a2 [t21, a1] fun v22 H23 =>
  bnd (aBinN .eql v22 (.int .i64 0)) fun t24 =>
  Ret R (.tup [(xs6.headD .any), t24]) H23)
  (Ret R (.tup [(xs6.headD .any), (.bool false)]) H7))
theorem W_slices_BinarySearchFunc_i_Lsa_i_Lsa_int {R : V → Heap → Prop} {a0 a1 a2 : V} {H : Heap} (h : F_slices_BinarySearchFunc_i_Lsa_i_Lsa_int R a0 a1 a2 H) : ACalls P n_slices_BinarySearchFunc_i_Lsa_i_Lsa_int [a0, a1, a2] H R :=
  acalls_of_form (g := ⟨[], []⟩) (x := (.seq .leaf (.seq .leaf (.seq .leaf (.seq (.block (.loop [9, 10] (.seq (.seq .leaf (.cond .leaf .leaf)) (.block (.seq .leaf (.seq .leaf (.cond .leaf .leaf))))))) (.seq .leaf .leaf)))))) Try.func80 (by kernel_rfl) (by kernel_rfl) (by kernel_rfl) (by kernel_rfl : F_slices_BinarySearchFunc_i_Lsa_i_Lsa_int R a0 a1 a2 H = _) h
def F_i_Db_find_1 (R : V → Heap → Prop) (a0 a1 : V) (H : Heap) : Prop :=
  boxK a0 (bnd (partOf false 1 (cellsOf a0) 0) fun t1 =>
  ACalls P n_cmp_Compare_int [t1, a1] H fun v2 H3 =>
  Ret R v2 H3)
theorem W_i_Db_find_1 {R : V → Heap → Prop} {a0 a1 : V} {H : Heap} (h : F_i_Db_find_1 R a0 a1 H) : ACalls P n_i_Db_find_1 [a0, a1] H R :=
  acalls_of_form (g := ⟨[2], [5]⟩) (x := (.seq .leaf (.seq .leaf .leaf))) Try.func81 (by kernel_rfl) (by kernel_rfl) (by kernel_rfl) (by kernel_rfl : F_i_Db_find_1 R a0 a1 H = _) h
theorem E_i_Db_find_1 : enterable P n_i_Db_find_1 = true := by kernel_rfl
def F_s_l05DrawLinks (R : V → Heap → Prop) (a0 a1 a2 : V) (H : Heap) : Prop :=
  bnd (bsl 2 0 [(.int .i64 0), (.int .i64 0)] []) fun r1 =>
  ∀ o2, H o2 = none →
  ∃ (I3 : Nat → List V → Heap → Prop) (n4 : Nat), Shr (I3 n4 [(.slice o2 0 0 (some 0)), (.int .i64 0)]) (upd H o2 ⟨2, r1⟩) ∧
  ∀ n5 xs7 H8, I3 n5 xs7 H8 →
  bnd (aBinN .lss (xs7.tail.headD .any) a2) fun t9 =>
  cnd t9
  (bnd (aBinN .neq (xs7.tail.headD .any) a1) fun t10 =>
  gd t10 true
  (ACalls P n_s_l01Below [a0, (.int .i64 5)] H8 fun v11 H12 =>
  bnd (aBinN .lss v11 (.int .i64 2)) fun t13 =>
  cnd t13
  (ACalls P n_s_l01Below [a0, (.int .i64 9)] H12 fun v14 H15 =>
  bnd (aBinN .add (.int .i64 1) v14) fun t16 =>
  bnd (bsl 1 5 [(.int .i64 0)] [(0, (.int .i64 1)), (1, (.int .i64 2)), (2, (.int .i64 3)), (3, t16), (4, (.int .i64 1000))]) fun r17 =>
  ∀ o18, H15 o18 = none →
  ACalls P n_s_l01PickInt [a0, (.slice o18 0 5 (some 5))] (upd H15 o18 ⟨1, r17⟩) fun v19 H20 =>
  bnd (fillZ [(.int .i64 0), (.int .i64 0)] [(0, 1, (xs7.tail.headD .any)), (1, 1, v19)]) fun c21 =>
  bnd (bsl 2 1 [(.int .i64 0), (.int .i64 0)] [(0, (.agg c21))]) fun r22 =>
  ∀ o23, H20 o23 = none →
  bnd (rowsOf (upd H20 o23 ⟨2, r22⟩) 2 (.slice o23 0 1 (some 1))) fun r26 =>
  appendK (upd H20 o23 ⟨2, r22⟩) 2 16 (xs7.headD .any) r26 fun v24 H25 =>
  bnd (aBinN .add (xs7.tail.headD .any) (.int .i64 1)) fun t27 =>
  ∃ n6, n6 < n5 ∧ Shr (I3 n6 [v24, t27]) H25)
  (bnd (aBinN .add (xs7.tail.headD .any) (.int .i64 1)) fun t28 =>
  ∃ n6, n6 < n5 ∧ Shr (I3 n6 [(xs7.headD .any), t28]) H12))
  (bnd (aBinN .add (xs7.tail.headD .any) (.int .i64 1)) fun t29 =>
  ∃ n6, n6 < n5 ∧ Shr (I3 n6 [(xs7.headD .any), t29]) H8))
  (Ret R (xs7.headD .any) H8)
theorem W_s_l05DrawLinks {R : V → Heap → Prop} {a0 a1 a2 : V} {H : Heap} (h : F_s_l05DrawLinks R a0 a1 a2 H) : ACalls P n_s_l05DrawLinks [a0, a1, a2] H R :=
  acalls_of_form (g := ⟨[], []⟩) (x := (.seq .leaf (.seq .leaf (.seq (.seq .leaf (.block (.loop [7, 8] (.seq (.seq .leaf (.cond .leaf .leaf)) (.seq (.block (.seq .leaf (.cond .leaf .leaf))) .leaf))))) (.seq .leaf .leaf))))) Try.func82 (by kernel_rfl) (by kernel_rfl) (by kernel_rfl) (by kernel_rfl : F_s_l05DrawLinks R a0 a1 a2 H = _) h
def F_s_l05DrawStubs (R : V → Heap → Prop) (a0 a1 : V) (H : Heap) : Prop :=
  bnd (fillZ [.nils] []) fun c1 =>
  bnd (stz 1 [.nils] 0 (.agg c1)) fun c2 =>
  ∃ (I3 : Nat → List V → Heap → Prop) (n4 : Nat), Shr (I3 n4 [(.box c2), (.int .i64 0)]) H ∧
  ∀ n5 xs7 H8, I3 n5 xs7 H8 →
  bnd (aBinN .lss (xs7.tail.headD .any) a1) fun t9 =>
  cnd t9
  (ACalls P n_s_l01DrawPrefix [a0] H8 fun v10 H11 =>
  bnd (stz 2 [(.int .i64 0), (.int .i64 0)] 0 v10) fun c12 =>
  ACalls P n_s_l01Once [a0, (.int .i64 2)] H11 fun v13 H14 =>
  cnd v13
  (ACalls P n_s_l01Below [a0, (.int .i64 4)] H14 fun v15 H16 =>
  bnd (aBinN .mul (.int .i64 256) v15) fun t17 =>
  bnd (fillZ [(.int .i64 0), (.int .i64 0)] [(0, 1, t17), (1, 1, (.int .i64 8))]) fun c18 =>
  bnd (stz 2 c12 0 (.agg c18)) fun c19 =>
  ∃ S20, Abs.sub S20 H16 ∧
  bnd (partOf true 1 (bc (xs7.headD .any)) 0) fun t21 =>
  bnd (partOf true 2 c19 0) fun t22 =>
  ACalls P n_s_l01Below [a0, (.int .i64 9)] H16 fun v23 H24 =>
  Abs.sub S20 H24 ∧
  bnd (aBinN .add (.int .i64 1) v23) fun t25 =>
  bnd (fillZ [(.int .i64 0), (.int .i64 0), (.int .i64 0)] [(0, 2, t22), (2, 1, t25)]) fun c26 =>
  ACalls P n_s_PutRoute [t21, (.agg c26)] H24 fun v27 H28 =>
  Abs.sub S20 H28 ∧
  bnd (aExtract 0 v27) fun t29 =>
  bnd (aExtract 1 v27) fun t30 =>
  bnd (stz 1 (bc (xs7.headD .any)) 0 t29) fun c31 =>
  bnd (aBinN .add (xs7.tail.headD .any) (.int .i64 1)) fun t32 =>
  ∃ n6, n6 < n5 ∧ Shr (I3 n6 [(.box c31), t32]) H28)
  (∃ S33, Abs.sub S33 H14 ∧
  bnd (partOf true 1 (bc (xs7.headD .any)) 0) fun t34 =>
  bnd (partOf true 2 c12 0) fun t35 =>
  ACalls P n_s_l01Below [a0, (.int .i64 9)] H14 fun v36 H37 =>
  Abs.sub S33 H37 ∧
  bnd (aBinN .add (.int .i64 1) v36) fun t38 =>
  bnd (fillZ [(.int .i64 0), (.int .i64 0), (.int .i64 0)] [(0, 2, t35), (2, 1, t38)]) fun c39 =>
  ACalls P n_s_PutRoute [t34, (.agg c39)] H37 fun v40 H41 =>
  Abs.sub S33 H41 ∧
  bnd (aExtract 0 v40) fun t42 =>
  bnd (aExtract 1 v40) fun t43 =>
  bnd (stz 1 (bc (xs7.headD .any)) 0 t42) fun c44 =>
  bnd (aBinN .add (xs7.tail.headD .any) (.int .i64 1)) fun t45 =>
  ∃ n6, n6 < n5 ∧ Shr (I3 n6 [(.box c44), t45]) H41))
  (bnd (bsl 3 0 [(.int .i64 0), (.int .i64 0), (.int .i64 0)] []) fun r46 =>
  ∀ o47, H8 o47 = none →
  ∃ (I48 : Nat → List V → Heap → Prop) (n49 : Nat), Shr (I48 n49 [(.slice o47 0 0 (some 0)), (.int .i64 0)]) (upd H8 o47 ⟨3, r46⟩) ∧
  ∀ n50 xs52 H53, I48 n50 xs52 H53 →
  bnd (partOf false 1 (bc (xs7.headD .any)) 0) fun t54 =>
  bnd (lenOf t54) fun n55 =>
  bnd (aBinN .lss (xs52.tail.headD .any) (.int .i64 (n55 : Nat))) fun t56 =>
  cnd t56
  (bnd (partOf false 1 (bc (xs7.headD .any)) 0) fun t57 =>
  bnd (aIndex H53 3 t57 (xs52.tail.headD .any)) fun t58 =>
  bnd (aField 0 t58) fun t59 =>
  bnd (aLd true 2 H53 t59) fun t60 =>
  bnd (partOf false 1 (bc (xs7.headD .any)) 0) fun t61 =>
  bnd (aIndex H53 3 t61 (xs52.tail.headD .any)) fun t62 =>
  bnd (aField 2 t62) fun t63 =>
  bnd (aLd false 1 H53 t63) fun t64 =>
  bnd (fillZ [(.int .i64 0), (.int .i64 0), (.int .i64 0)] [(0, 2, t60), (2, 1, t64)]) fun c65 =>
  bnd (bsl 3 1 [(.int .i64 0), (.int .i64 0), (.int .i64 0)] [(0, (.agg c65))]) fun r66 =>
  ∀ o67, H53 o67 = none →
  bnd (rowsOf (upd H53 o67 ⟨3, r66⟩) 3 (.slice o67 0 1 (some 1))) fun r70 =>
  appendK (upd H53 o67 ⟨3, r66⟩) 3 24 (xs52.headD .any) r70 fun v68 H69 =>
  bnd (aBinN .add (xs52.tail.headD .any) (.int .i64 1)) fun t71 =>
  ∃ n51, n51 < n50 ∧ Shr (I48 n51 [v68, t71]) H69)
  (Ret R (xs52.headD .any) H53))
theorem W_s_l05DrawStubs {R : V → Heap → Prop} {a0 a1 : V} {H : Heap} (h : F_s_l05DrawStubs R a0 a1 H) : ACalls P n_s_l05DrawStubs [a0, a1] H R :=
  acalls_of_form (g := ⟨[5, 7], [36, 43, 49]⟩) (x := (.seq .leaf (.seq .leaf (.seq (.seq .leaf (.block (.loop [5, 6] (.seq (.seq .leaf (.cond .leaf .leaf)) (.seq (.block (.seq .leaf (.seq (.seq .leaf (.cond .leaf .leaf)) (.draw [0, 1, 2, 3, 4, 5, 6, 7, 8, 9, 10])))) .leaf))))) (.seq .leaf (.seq (.seq .leaf (.block (.loop [8, 9] (.seq (.seq .leaf (.cond .leaf .leaf)) (.seq (.block (.drawh [0, 1, 2, 3, 4, 5, 6, 7, 8, 9, 10, 11, 12, 13, 14, 15, 16])) .leaf))))) (.seq .leaf .leaf))))))) Try.func83 (by kernel_rfl) (by kernel_rfl) (by kernel_rfl) (by kernel_rfl : F_s_l05DrawStubs R a0 a1 H = _) h
def F_s_l01Byte (R : V → Heap → Prop) (a0 : V) (H : Heap) : Prop :=
  bnd (aNil a0) fun t1 =>
  bnd (aField 2 t1) fun t2 =>
  bnd (aLd false 1 H t2) fun t3 =>
  bnd (aBinN .mul t3 (.int .i64 6364136223846793005)) fun t4 =>
  bnd (aBinN .add t4 (.int .i64 1442695040888963407)) fun t5 =>
  bnd (aNil a0) fun t6 =>
  bnd (aField 2 t6) fun t7 =>
  bnd (aSt 1 H t7 t5) fun H8 =>
  ∃ S9, Abs.sub S9 H8 ∧
  bnd (aNil a0) fun t10 =>
  bnd (aField 2 t10) fun t11 =>
  bnd (aLd false 1 S9 t11) fun t12 =>
  bnd (aBinN .shr t12 (.int .u64 33)) fun t13 =>
  bnd (aNil a0) fun t14 =>
  bnd (aField 2 t14) fun t15 =>
  bnd (aLd false 1 S9 t15) fun t16 =>
  bnd (aBinN .shr t16 (.int .u64 45)) fun t17 =>
  bnd (aBinN .xor t13 t17) fun t18 =>
  bnd (aBinN .and t18 (.int .i64 255)) fun t19 =>
  ∃ S20, Abs.sub S20 H8 ∧
  bnd (aNil a0) fun t21 =>
  bnd (aField 1 t21) fun t22 =>
  bnd (aLd false 1 S20 t22) fun t23 =>
  bnd (aNil a0) fun t24 =>
  bnd (aField 0 t24) fun t25 =>
  bnd (aLd false 1 S20 t25) fun t26 =>
  bnd (lenOf t26) fun n27 =>
  bnd (aBinN .lss t23 (.int .i64 (n27 : Nat))) fun t28 =>
  cnd t28
  (∃ S29, Abs.sub S29 H8 ∧
  bnd (aNil a0) fun t30 =>
  bnd (aField 0 t30) fun t31 =>
  bnd (aLd false 1 S29 t31) fun t32 =>
  bnd (aNil a0) fun t33 =>
  bnd (aField 1 t33) fun t34 =>
  bnd (aLd false 1 S29 t34) fun t35 =>
  bnd (aIndex S29 1 t32 t35) fun t36 =>
  bnd (aLd false 1 S29 t36) fun t37 =>
  bnd (aCv .i64 t37) fun t38 =>
  bnd (aBinN .add t19 t38) fun t39 =>
  bnd (aBinN .and t39 (.int .i64 255)) fun t40 =>
  bnd (aNil a0) fun t41 =>
  bnd (aField 1 t41) fun t42 =>
  bnd (aLd false 1 H8 t42) fun t43 =>
  bnd (aBinN .add t43 (.int .i64 1)) fun t44 =>
  bnd (aNil a0) fun t45 =>
  bnd (aField 1 t45) fun t46 =>
  bnd (aSt 1 H8 t46 t44) fun H47 =>
  Ret R t40 H47)
  (Ret R t19 H8)
theorem W_s_l01Byte {R : V → Heap → Prop} {a0 : V} {H : Heap} (h : F_s_l01Byte R a0 H) : ACalls P n_s_l01Byte [a0] H R :=
  acalls_of_form (g := ⟨[], []⟩) (x := (.seq .leaf (.seq .leaf (.seq (.draw [0, 1, 2, 3, 4, 5, 6, 7, 8, 9, 10, 11, 12]) (.seq (.seq (.draw [0, 1, 2, 3, 4, 5, 6, 7, 8, 9]) (.cond (.seq (.draw [0, 1, 2, 3, 4, 5, 6, 7, 8, 9, 10, 11, 12, 13, 14]) .leaf) .leaf)) (.seq .leaf .leaf)))))) Try.func84 (by kernel_rfl) (by kernel_rfl) (by kernel_rfl) (by kernel_rfl : F_s_l01Byte R a0 H = _) h
def F_s_l01DrawPrefix (R : V → Heap → Prop) (a0 : V) (H : Heap) : Prop :=
  ACalls P n_s_l01Below [a0, (.int .i64 17)] H fun v1 H2 =>
  ACalls P n_s_l01Below [a0, (.int .i64 9)] H2 fun v3 H4 =>
  bnd (aBinN .add (.int .i64 8) v3) fun t5 =>
  ACalls P n_s_l01Below [a0, (.int .i64 9)] H4 fun v6 H7 =>
  bnd (aBinN .add (.int .i64 8) v6) fun t8 =>
  bnd (bsl 1 10 [(.int .i64 0)] [(0, (.int .i64 0)), (1, (.int .i64 1)), (2, (.int .i64 4)), (3, (.int .i64 8)), (4, (.int .i64 12)), (5, (.int .i64 15)), (6, (.int .i64 16)), (7, v1), (8, t5), (9, t8)]) fun r9 =>
  ∀ o10, H7 o10 = none →
  ACalls P n_s_l01PickInt [a0, (.slice o10 0 10 (some 10))] (upd H7 o10 ⟨1, r9⟩) fun v11 H12 =>
  ACalls P n_s_l01Below [a0, (.int .i64 65536)] H12 fun v13 H14 =>
  ACalls P n_s_l01Below [a0, (.int .i64 2048)] H14 fun v15 H16 =>
  bnd (bsl 1 4 [(.int .i64 0)] [(0, (.int .i64 0)), (1, (.int .i64 2560)), (2, v13), (3, v15)]) fun r17 =>
  ∀ o18, H16 o18 = none →
  ACalls P n_s_l01PickInt [a0, (.slice o18 0 4 (some 4))] (upd H16 o18 ⟨1, r17⟩) fun v19 H20 =>
  bnd (fillZ [(.int .i64 0), (.int .i64 0)] [(0, 1, v19), (1, 1, v11)]) fun c21 =>
  bnd (stz 2 [(.int .i64 0), (.int .i64 0)] 0 (.agg c21)) fun c22 =>
  ∃ S23, Abs.sub S23 H20 ∧
  bnd (partOf false 1 c22 0) fun t24 =>
  bnd (partOf false 1 c22 0) fun t25 =>
  ACalls P n_s_l01Size2 [v11] H20 fun v26 H27 =>
  Abs.sub S23 H27 ∧
  bnd (aBinN .rem t25 v26) fun t28 =>
  bnd (aBinN .sub t24 t28) fun t29 =>
  bnd (stz 1 c22 0 t29) fun c30 =>
  ACalls P n_s_l01Once [a0, (.int .i64 30)] H27 fun v31 H32 =>
  cnd v31
  (ACalls P n_s_l01Below [a0, (.int .i64 3)] H32 fun v33 H34 =>
  bnd (aBinN .eql v33 (.int .i64 0)) fun t35 =>
  cnd t35
  (bnd (bsl 1 3 [(.int .i64 0)] [(0, (.int .i64 (-1))), (1, (.int .i64 17)), (2, (.int .i64 3))]) fun r36 =>
  ∀ o37, H34 o37 = none →
  ACalls P n_s_l01PickInt [a0, (.slice o37 0 3 (some 3))] (upd H34 o37 ⟨1, r36⟩) fun v38 H39 =>
  bnd (stz 1 c30 1 v38) fun c40 =>
  bnd (partOf true 2 c40 0) fun t41 =>
  bnd (stz 2 [(.int .i64 0), (.int .i64 0)] 0 t41) fun c42 =>
  bnd (partOf true 2 c42 0) fun t43 =>
  Ret R t43 H39)
  (bnd (aBinN .eql v33 (.int .i64 1)) fun t44 =>
  cnd t44
  (bnd (bsl 1 4 [(.int .i64 0)] [(0, (.int .i64 (-1))), (1, (.int .i64 65536)), (2, (.int .i64 1)), (3, (.int .i64 65535))]) fun r45 =>
  ∀ o46, H34 o46 = none →
  ACalls P n_s_l01PickInt [a0, (.slice o46 0 4 (some 4))] (upd H34 o46 ⟨1, r45⟩) fun v47 H48 =>
  bnd (stz 1 c30 0 v47) fun c49 =>
  bnd (partOf true 2 c49 0) fun t50 =>
  bnd (stz 2 [(.int .i64 0), (.int .i64 0)] 0 t50) fun c51 =>
  bnd (partOf true 2 c51 0) fun t52 =>
  Ret R t52 H48)
  (bnd (aBinN .eql v33 (.int .i64 2)) fun t53 =>
  cnd t53
  (bnd (partOf false 1 c30 0) fun t54 =>
  bnd (aBinN .add t54 (.int .i64 1)) fun t55 =>
  bnd (stz 1 c30 0 t55) fun c56 =>
  bnd (partOf true 2 c56 0) fun t57 =>
  bnd (stz 2 [(.int .i64 0), (.int .i64 0)] 0 t57) fun c58 =>
  bnd (partOf true 2 c58 0) fun t59 =>
  Ret R t59 H34)
  (bnd (partOf true 2 c30 0) fun t60 =>
  bnd (stz 2 [(.int .i64 0), (.int .i64 0)] 0 t60) fun c61 =>
  bnd (partOf true 2 c61 0) fun t62 =>
  Ret R t62 H34))))
  (bnd (partOf true 2 c30 0) fun t63 =>
  bnd (stz 2 [(.int .i64 0), (.int .i64 0)] 0 t63) fun c64 =>
  bnd (partOf true 2 c64 0) fun t65 =>
  Ret R t65 H32)
theorem W_s_l01DrawPrefix {R : V → Heap → Prop} {a0 : V} {H : Heap} (h : F_s_l01DrawPrefix R a0 H) : ACalls P n_s_l01DrawPrefix [a0] H R :=
  acalls_of_form (g := ⟨[2, 4], [25, 27, 33, 43, 49, 52, 55]⟩) (x := (.seq .leaf (.seq .leaf (.seq .leaf (.seq (.draw [0, 1, 2, 3, 4, 5, 6, 7, 8, 9]) (.seq (.seq .leaf (.cond (.seq .leaf (.block (.seq .leaf (.cond .leaf (.seq .leaf (.cond .leaf (.seq .leaf (.cond .leaf .leaf)))))))) .leaf)) (.seq .leaf .leaf))))))) Try.func85 (by kernel_rfl) (by kernel_rfl) (by kernel_rfl) (by kernel_rfl : F_s_l01DrawPrefix R a0 H = _) h
def F_s_l01Addr (R : V → Heap → Prop) (a0 : V) (H : Heap) : Prop :=
  ACalls P n_s_l01In [a0, (.int .i64 0), (.int .i64 65535)] H fun v1 H2 =>
  Ret R v1 H2
theorem W_s_l01Addr {R : V → Heap → Prop} {a0 : V} {H : Heap} (h : F_s_l01Addr R a0 H) : ACalls P n_s_l01Addr [a0] H R :=
  acalls_of_form (g := ⟨[], []⟩) (x := (.seq .leaf (.seq .leaf .leaf))) Try.func86 (by kernel_rfl) (by kernel_rfl) (by kernel_rfl) (by kernel_rfl : F_s_l01Addr R a0 H = _) h
def F_s_l01Size2 (R : V → Heap → Prop) (a0 : V) (H : Heap) : Prop :=
  bnd (aBinN .sub (.int .i64 16) a0) fun t1 =>
  bnd (aCv .u64 t1) fun t2 =>
  bnd (aBinN .shl (.int .i64 1) t2) fun t3 =>
  Ret R t3 H
theorem W_s_l01Size2 {R : V → Heap → Prop} {a0 : V} {H : Heap} (h : F_s_l01Size2 R a0 H) : ACalls P n_s_l01Size2 [a0] H R :=
  acalls_of_form (g := ⟨[], []⟩) (x := (.seq .leaf (.seq .leaf .leaf))) Try.func87 (by kernel_rfl) (by kernel_rfl) (by kernel_rfl) (by kernel_rfl : F_s_l01Size2 R a0 H = _) h
def F_i_PrefixOk (R : V → Heap → Prop) (a0 : V) (H : Heap) : Prop :=
  boxK a0 (∃ S1, Abs.sub S1 H ∧
  bnd (partOf false 1 (cellsOf a0) 1) fun t2 =>
  ACalls P n_i_within [t2, (.int .i64 0), (.int .i64 16)] H fun v3 H4 =>
  Abs.sub S1 H4 ∧
  gd v3 true
  (bnd (partOf false 1 (cellsOf a0) 0) fun t5 =>
  ACalls P n_i_isAddr [t5] H4 fun v6 H7 =>
  Abs.sub S1 H7 ∧
  gd v6 true
  (bnd (partOf false 1 (cellsOf a0) 0) fun t8 =>
  bnd (partOf true 2 (cellsOf a0) 0) fun t9 =>
  ACalls P n_i_Prefix_size [t9] H7 fun v10 H11 =>
  Abs.sub S1 H11 ∧
  bnd (aBinN .rem t8 v10) fun t12 =>
  bnd (aBinN .eql t12 (.int .i64 0)) fun t13 =>
  Ret R t13 H11)
  (Ret R (.bool false) H7))
  (Ret R (.bool false) H4))
theorem W_i_PrefixOk {R : V → Heap → Prop} {a0 : V} {H : Heap} (h : F_i_PrefixOk R a0 H) : ACalls P n_i_PrefixOk [a0] H R :=
  acalls_of_form (g := ⟨[1], [3, 7, 12]⟩) (x := (.seq .leaf (.seq (.draw [0, 1, 2, 3, 4, 5, 6, 7, 8, 9, 10, 11, 12, 13, 14, 15, 16]) .leaf))) Try.func88 (by kernel_rfl) (by kernel_rfl) (by kernel_rfl) (by kernel_rfl : F_i_PrefixOk R a0 H = _) h
def F_i_comparePrefixes (R : V → Heap → Prop) (a0 a1 : V) (H : Heap) : Prop :=
  boxK a0 (boxK a1 (bnd (partOf false 1 (cellsOf a0) 0) fun t1 =>
  bnd (partOf false 1 (cellsOf a1) 0) fun t2 =>
  bnd (aBinN .neq t1 t2) fun t3 =>
  cnd t3
  (bnd (partOf false 1 (cellsOf a0) 0) fun t4 =>
  bnd (partOf false 1 (cellsOf a1) 0) fun t5 =>
  bnd (aBinN .sub t4 t5) fun t6 =>
  Ret R t6 H)
  (bnd (partOf false 1 (cellsOf a0) 1) fun t7 =>
  bnd (partOf false 1 (cellsOf a1) 1) fun t8 =>
  bnd (aBinN .sub t7 t8) fun t9 =>
  Ret R t9 H)))
theorem W_i_comparePrefixes {R : V → Heap → Prop} {a0 a1 : V} {H : Heap} (h : F_i_comparePrefixes R a0 a1 H) : ACalls P n_i_comparePrefixes [a0, a1] H R :=
  acalls_of_form (g := ⟨[2, 3], [5, 7, 10, 12, 15, 17]⟩) (x := (.seq .leaf (.seq (.seq .leaf (.cond (.seq .leaf .leaf) .leaf)) (.seq .leaf .leaf)))) Try.func89 (by kernel_rfl) (by kernel_rfl) (by kernel_rfl) (by kernel_rfl : F_i_comparePrefixes R a0 a1 H = _) h
def F_cmp_isNaN_int (R : V → Heap → Prop) (a0 : V) (H : Heap) : Prop :=
  bnd (aBinN .neq a0 a0) fun t1 =>
  Ret R t1 H
theorem W_cmp_isNaN_int {R : V → Heap → Prop} {a0 : V} {H : Heap} (h : F_cmp_isNaN_int R a0 H) : ACalls P n_cmp_isNaN_int [a0] H R :=
  acalls_of_form (g := ⟨[], []⟩) (x := (.seq .leaf (.seq .leaf .leaf))) Try.func90 (by kernel_rfl) (by kernel_rfl) (by kernel_rfl) (by kernel_rfl : F_cmp_isNaN_int R a0 H = _) h
def F_s_l01Bytes (R : V → Heap → Prop) (a0 : V) (H : Heap) : Prop :=
  bnd (bsl 1 0 [(.int .u8 0)] []) fun r1 =>
  ∀ o2, H o2 = none →
  ∃ (I3 : Nat → List V → Heap → Prop) (n4 : Nat), Shr (I3 n4 [(.slice o2 0 0 (some 0)), (.int .i64 0)]) (upd H o2 ⟨1, r1⟩) ∧
  ∀ n5 xs7 H8, I3 n5 xs7 H8 →
  bnd (lenOf a0) fun n9 =>
  bnd (aBinN .lss (xs7.tail.headD .any) (.int .i64 (n9 : Nat))) fun t10 =>
  cnd t10
  (bnd (aIndex H8 1 a0 (xs7.tail.headD .any)) fun t11 =>
  bnd (aLd false 1 H8 t11) fun t12 =>
  bnd (bsl 1 1 [(.int .u8 0)] [(0, t12)]) fun r13 =>
  ∀ o14, H8 o14 = none →
  bnd (rowsOf (upd H8 o14 ⟨1, r13⟩) 1 (.slice o14 0 1 (some 1))) fun r17 =>
  appendK (upd H8 o14 ⟨1, r13⟩) 1 1 (xs7.headD .any) r17 fun v15 H16 =>
  bnd (aBinN .add (xs7.tail.headD .any) (.int .i64 1)) fun t18 =>
  ∃ n6, n6 < n5 ∧ Shr (I3 n6 [v15, t18]) H16)
  (Ret R (xs7.headD .any) H8)
theorem W_s_l01Bytes {R : V → Heap → Prop} {a0 : V} {H : Heap} (h : F_s_l01Bytes R a0 H) : ACalls P n_s_l01Bytes [a0] H R :=
  acalls_of_form (g := ⟨[], []⟩) (x := (.seq .leaf (.seq .leaf (.seq (.seq .leaf (.block (.loop [3, 4] (.seq (.seq .leaf (.cond .leaf .leaf)) (.seq (.block .leaf) .leaf))))) (.seq .leaf .leaf))))) Try.func91 (by kernel_rfl) (by kernel_rfl) (by kernel_rfl) (by kernel_rfl : F_s_l01Bytes R a0 H = _) h
def F_slices_rotateRight_i_Lsa (R : V → Heap → Prop) (a0 a1 : V) (H : Heap) : Prop :=
  bnd (lenOf a0) fun n1 =>
  bnd (aBinN .sub (.int .i64 (n1 : Nat)) a1) fun t2 =>
  ACalls P n_slices_rotateLeft_i_Lsa [a0, t2] H fun v3 H4 =>
  Ret R (.tup []) H4
theorem W_slices_rotateRight_i_Lsa {R : V → Heap → Prop} {a0 a1 : V} {H : Heap} (h : F_slices_rotateRight_i_Lsa R a0 a1 H) : ACalls P n_slices_rotateRight_i_Lsa [a0, a1] H R :=
  acalls_of_form (g := ⟨[], []⟩) (x := .leaf) Try.func93 (by kernel_rfl) (by kernel_rfl) (by kernel_rfl) (by kernel_rfl : F_slices_rotateRight_i_Lsa R a0 a1 H = _) h
def F_s_l03DrawGraph (R : V → Heap → Prop) (a0 a1 a2 : V) (H : Heap) : Prop :=
  bnd (fillZ [(.int .i64 0), .nils] [(0, 1, a1)]) fun c1 =>
  bnd (stz 2 [(.int .i64 0), .nils] 0 (.agg c1)) fun c2 =>
  ∃ (I3 : Nat → List V → Heap → Prop) (n4 : Nat), Shr (I3 n4 [(.box [(.int .i64 0), .nils]), (.box c2), (.int .i64 0)]) H ∧
  ∀ n5 xs7 H8, I3 n5 xs7 H8 →
  bnd (aBinN .lss (xs7.tail.tail.headD .any) a2) fun t9 =>
  gd t9 true
  (bnd (aBinN .gtr a1 (.int .i64 1)) fun t10 =>
  cnd t10
  (ACalls P n_s_l01Below [a0, a1] H8 fun v11 H12 =>
  ACalls P n_s_l01Below [a0, a1] H12 fun v13 H14 =>
  ACalls P n_s_l01Below [a0, (.int .i64 9)] H14 fun v15 H16 =>
  bnd (aBinN .add (.int .i64 1) v15) fun t17 =>
  bnd (bsl 1 8 [(.int .i64 0)] [(0, (.int .i64 1)), (1, (.int .i64 1)), (2, (.int .i64 2)), (3, (.int .i64 2)), (4, (.int .i64 3)), (5, (.int .i64 5)), (6, t17), (7, (.int .i64 1000))]) fun r18 =>
  ∀ o19, H16 o19 = none →
  ACalls P n_s_l01PickInt [a0, (.slice o19 0 8 (some 8))] (upd H16 o19 ⟨1, r18⟩) fun v20 H21 =>
  bnd (fillZ [(.int .i64 0), (.int .i64 0), (.int .i64 0)] [(0, 1, v11), (1, 1, v13), (2, 1, v20)]) fun c22 =>
  bnd (stz 3 [(.int .i64 0), (.int .i64 0), (.int .i64 0)] 0 (.agg c22)) fun c23 =>
  ∃ J24 : List V → Heap → Prop,
  (bnd (aBinN .sub a1 (.int .i64 1)) fun t27 =>
  bnd (aBinN .lss (xs7.tail.tail.headD .any) t27) fun t28 =>
  gd t28 true
  (ACalls P n_s_l01Below [a0, (.int .i64 3)] H21 fun v29 H30 =>
  bnd (aBinN .gtr v29 (.int .i64 0)) fun t31 =>
  cnd t31
  (bnd (stz 1 c23 0 (xs7.tail.tail.headD .any)) fun c32 =>
  bnd (aBinN .add (xs7.tail.tail.headD .any) (.int .i64 1)) fun t33 =>
  bnd (stz 1 c32 1 t33) fun c34 =>
  Shr (J24 [(.box (bc (xs7.headD .any))), (.box (bc (xs7.tail.headD .any))), (.box c34)]) H30)
  (Shr (J24 [(.box (bc (xs7.headD .any))), (.box (bc (xs7.tail.headD .any))), (.box c23)]) H30))
  (Shr (J24 [(.box (bc (xs7.headD .any))), (.box (bc (xs7.tail.headD .any))), (.box c23)]) H21)) ∧
  ∀ xs25 H26, J24 xs25 H26 →
  bnd (partOf false 1 (bc (xs25.tail.tail.headD .any)) 0) fun t35 =>
  bnd (partOf false 1 (bc (xs25.tail.tail.headD .any)) 1) fun t36 =>
  bnd (aBinN .eql t35 t36) fun t37 =>
  cnd t37
  (bnd (aBinN .add (xs7.tail.tail.headD .any) (.int .i64 1)) fun t38 =>
  ∃ n6, n6 < n5 ∧ Shr (I3 n6 [(.box (bc (xs25.headD .any))), (.box (bc (xs25.tail.headD .any))), t38]) H26)
  (bnd (partOf false 1 (bc (xs25.tail.headD .any)) 1) fun t39 =>
  bnd (lenOf t39) fun n40 =>
  bnd (aBinN .lss (.int .i64 (n40 : Nat)) (.int .i64 59)) fun t41 =>
  cnd t41
  (bnd (partOf false 1 (bc (xs25.tail.headD .any)) 1) fun t42 =>
  bnd (partOf true 3 (bc (xs25.tail.tail.headD .any)) 0) fun t43 =>
  ACalls P n_s_l03Put [t42, t43] H26 fun v44 H45 =>
  bnd (stz 1 (bc (xs25.tail.headD .any)) 1 v44) fun c46 =>
  ACalls P n_s_l01Below [a0, (.int .i64 4)] H45 fun v47 H48 =>
  bnd (aBinN .gtr v47 (.int .i64 0)) fun t49 =>
  cnd t49
  (bnd (partOf false 1 (bc (xs25.tail.tail.headD .any)) 1) fun t50 =>
  bnd (partOf false 1 (bc (xs25.tail.tail.headD .any)) 0) fun t51 =>
  bnd (partOf false 1 (bc (xs25.tail.tail.headD .any)) 2) fun t52 =>
  bnd (fillZ [(.int .i64 0), (.int .i64 0), (.int .i64 0)] [(0, 1, t50), (1, 1, t51), (2, 1, t52)]) fun c53 =>
  bnd (stz 3 [(.int .i64 0), (.int .i64 0), (.int .i64 0)] 0 (.agg c53)) fun c54 =>
  ACalls P n_s_l01Once [a0, (.int .i64 4)] H48 fun v55 H56 =>
  cnd v55
  (ACalls P n_s_l01Below [a0, (.int .i64 6)] H56 fun v57 H58 =>
  bnd (aBinN .add (.int .i64 1) v57) fun t59 =>
  bnd (stz 1 c54 2 t59) fun c60 =>
  bnd (partOf false 1 c46 1) fun t61 =>
  bnd (partOf true 3 c60 0) fun t62 =>
  ACalls P n_s_l03Put [t61, t62] H58 fun v63 H64 =>
  bnd (stz 1 c46 1 v63) fun c65 =>
  bnd (aBinN .add (xs7.tail.tail.headD .any) (.int .i64 1)) fun t66 =>
  ∃ n6, n6 < n5 ∧ Shr (I3 n6 [(.box (bc (xs25.headD .any))), (.box c65), t66]) H64)
  (bnd (partOf false 1 c46 1) fun t67 =>
  bnd (partOf true 3 c54 0) fun t68 =>
  ACalls P n_s_l03Put [t67, t68] H56 fun v69 H70 =>
  bnd (stz 1 c46 1 v69) fun c71 =>
  bnd (aBinN .add (xs7.tail.tail.headD .any) (.int .i64 1)) fun t72 =>
  ∃ n6, n6 < n5 ∧ Shr (I3 n6 [(.box (bc (xs25.headD .any))), (.box c71), t72]) H70))
  (bnd (aBinN .add (xs7.tail.tail.headD .any) (.int .i64 1)) fun t73 =>
  ∃ n6, n6 < n5 ∧ Shr (I3 n6 [(.box (bc (xs25.headD .any))), (.box c46), t73]) H48))
  (bnd (aBinN .add (xs7.tail.tail.headD .any) (.int .i64 1)) fun t74 =>
  ∃ n6, n6 < n5 ∧ Shr (I3 n6 [(.box (bc (xs25.headD .any))), (.box (bc (xs25.tail.headD .any))), t74]) H26)))
  (bnd (partOf true 2 (bc (xs7.tail.headD .any)) 0) fun t75 =>
  bnd (stz 2 (bc (xs7.headD .any)) 0 t75) fun c76 =>
  bnd (partOf true 2 c76 0) fun t77 =>
  Ret R t77 H8))
  (bnd (partOf true 2 (bc (xs7.tail.headD .any)) 0) fun t78 =>
  bnd (stz 2 (bc (xs7.headD .any)) 0 t78) fun c79 =>
  bnd (partOf true 2 c79 0) fun t80 =>
  Ret R t80 H8)
theorem W_s_l03DrawGraph {R : V → Heap → Prop} {a0 a1 a2 : V} {H : Heap} (h : F_s_l03DrawGraph R a0 a1 a2 H) : ACalls P n_s_l03DrawGraph [a0, a1, a2] H R :=
  acalls_of_form (g := ⟨[6, 7, 9, 10], [45, 48, 49, 51, 54, 58, 62, 66, 68, 70, 78, 79, 83]⟩) (x := (.seq .leaf (.seq .leaf (.seq (.seq .leaf (.block (.loop [6, 7, 8] (.seq (.seq .leaf (.cond .leaf .leaf)) (.seq (.block (.seq .leaf (.seqc (.seq .leaf (.cond (.seq .leaf .leaf) .leaf)) (.seq (.seq .leaf (.cond .leaf .leaf)) (.seq .leaf (.cond (.seq .leaf (.seq .leaf (.cond (.seq .leaf (.seq (.seq .leaf (.cond .leaf .leaf)) .leaf)) .leaf))) .leaf))) [6, 7, 9]))) .leaf))))) (.seq .leaf .leaf))))) Try.func94 (by kernel_rfl) (by kernel_rfl) (by kernel_rfl) (by kernel_rfl : F_s_l03DrawGraph R a0 a1 a2 H = _) h
def F_s_PutRoute (R : V → Heap → Prop) (a0 a1 : V) (H : Heap) : Prop :=
  boxK a0 (boxK a1 (bnd (partOf true 1 (cellsOf a0) 0) fun t1 =>
  ACalls P n_s_TableOk [t1] H fun v2 H3 =>
  bnd (aNot v2) fun t4 =>
  cnd t4
  (bnd (partOf true 1 (cellsOf a0) 0) fun t5 =>
  ACalls P n_s_l02Copy [t5] H3 fun v6 H7 =>
  bnd (stz 1 [.nils] 0 v6) fun c8 =>
  bnd (partOf true 1 c8 0) fun t9 =>
  Ret R (.tup [t9, (.bool false)]) H7)
  (bnd (partOf true 1 (cellsOf a0) 0) fun t10 =>
  bnd (partOf true 2 (cellsOf a1) 0) fun t11 =>
  ACalls P n_s_l02Less [t10, t11] H3 fun v12 H13 =>
  bnd (stz 1 [.nils] 0 v12) fun c14 =>
  bnd (fillZ [.nils] []) fun c15 =>
  bnd (stz 1 [.nils] 0 (.agg c15)) fun c16 =>
  ∃ (I17 : Nat → List V → Heap → Prop) (n18 : Nat), Shr (I17 n18 [(.box (cellsOf a0)), (.box (cellsOf a1)), (.box [.nils]), (.box c14), (.box c16), (.bool false), (.int .i64 0)]) H13 ∧
  ∀ n19 xs21 H22, I17 n19 xs21 H22 →
  bnd (partOf false 1 (bc (xs21.tail.tail.tail.headD .any)) 0) fun t23 =>
  bnd (lenOf t23) fun n24 =>
  bnd (aBinN .lss (xs21.tail.tail.tail.tail.tail.tail.headD .any) (.int .i64 (n24 : Nat))) fun t25 =>
  cnd t25
  (∃ S26, Abs.sub S26 H22 ∧
  bnd (aNot (xs21.tail.tail.tail.tail.tail.headD .any)) fun t27 =>
  gd t27 true
  (bnd (partOf true 2 (bc (xs21.tail.headD .any)) 0) fun t28 =>
  bnd (partOf false 1 (bc (xs21.tail.tail.tail.headD .any)) 0) fun t29 =>
  bnd (aIndex S26 3 t29 (xs21.tail.tail.tail.tail.tail.tail.headD .any)) fun t30 =>
  bnd (aField 0 t30) fun t31 =>
  bnd (aLd true 2 S26 t31) fun t32 =>
  ACalls P n_s_l02Ahead [t28, t32] H22 fun v33 H34 =>
  Abs.sub S26 H34 ∧
  cnd v33
  (bnd (partOf false 1 (bc (xs21.tail.tail.tail.tail.headD .any)) 0) fun t35 =>
  bnd (partOf true 3 (bc (xs21.tail.headD .any)) 0) fun t36 =>
  bnd (bsl 3 1 [(.int .i64 0), (.int .i64 0), (.int .i64 0)] [(0, t36)]) fun r37 =>
  ∀ o38, H34 o38 = none →
  bnd (rowsOf (upd H34 o38 ⟨3, r37⟩) 3 (.slice o38 0 1 (some 1))) fun r41 =>
  appendK (upd H34 o38 ⟨3, r37⟩) 3 24 t35 r41 fun v39 H40 =>
  bnd (stz 1 (bc (xs21.tail.tail.tail.tail.headD .any)) 0 v39) fun c42 =>
  bnd (partOf false 1 c42 0) fun t43 =>
  bnd (partOf false 1 (bc (xs21.tail.tail.tail.headD .any)) 0) fun t44 =>
  bnd (aIndex H40 3 t44 (xs21.tail.tail.tail.tail.tail.tail.headD .any)) fun t45 =>
  bnd (aLd true 3 H40 t45) fun t46 =>
  bnd (bsl 3 1 [(.int .i64 0), (.int .i64 0), (.int .i64 0)] [(0, t46)]) fun r47 =>
  ∀ o48, H40 o48 = none →
  bnd (rowsOf (upd H40 o48 ⟨3, r47⟩) 3 (.slice o48 0 1 (some 1))) fun r51 =>
  appendK (upd H40 o48 ⟨3, r47⟩) 3 24 t43 r51 fun v49 H50 =>
  bnd (stz 1 c42 0 v49) fun c52 =>
  bnd (aBinN .add (xs21.tail.tail.tail.tail.tail.tail.headD .any) (.int .i64 1)) fun t53 =>
  ∃ n20, n20 < n19 ∧ Shr (I17 n20 [(.box (bc (xs21.headD .any))), (.box (bc (xs21.tail.headD .any))), (.box (bc (xs21.tail.tail.headD .any))), (.box (bc (xs21.tail.tail.tail.headD .any))), (.box c52), (.bool true), t53]) H50)
  (bnd (partOf false 1 (bc (xs21.tail.tail.tail.tail.headD .any)) 0) fun t54 =>
  bnd (partOf false 1 (bc (xs21.tail.tail.tail.headD .any)) 0) fun t55 =>
  bnd (aIndex H34 3 t55 (xs21.tail.tail.tail.tail.tail.tail.headD .any)) fun t56 =>
  bnd (aLd true 3 H34 t56) fun t57 =>
  bnd (bsl 3 1 [(.int .i64 0), (.int .i64 0), (.int .i64 0)] [(0, t57)]) fun r58 =>
  ∀ o59, H34 o59 = none →
  bnd (rowsOf (upd H34 o59 ⟨3, r58⟩) 3 (.slice o59 0 1 (some 1))) fun r62 =>
  appendK (upd H34 o59 ⟨3, r58⟩) 3 24 t54 r62 fun v60 H61 =>
  bnd (stz 1 (bc (xs21.tail.tail.tail.tail.headD .any)) 0 v60) fun c63 =>
  bnd (aBinN .add (xs21.tail.tail.tail.tail.tail.tail.headD .any) (.int .i64 1)) fun t64 =>
  ∃ n20, n20 < n19 ∧ Shr (I17 n20 [(.box (bc (xs21.headD .any))), (.box (bc (xs21.tail.headD .any))), (.box (bc (xs21.tail.tail.headD .any))), (.box (bc (xs21.tail.tail.tail.headD .any))), (.box c63), (xs21.tail.tail.tail.tail.tail.headD .any), t64]) H61))
  (bnd (partOf false 1 (bc (xs21.tail.tail.tail.tail.headD .any)) 0) fun t65 =>
  bnd (partOf false 1 (bc (xs21.tail.tail.tail.headD .any)) 0) fun t66 =>
  bnd (aIndex H22 3 t66 (xs21.tail.tail.tail.tail.tail.tail.headD .any)) fun t67 =>
  bnd (aLd true 3 H22 t67) fun t68 =>
  bnd (bsl 3 1 [(.int .i64 0), (.int .i64 0), (.int .i64 0)] [(0, t68)]) fun r69 =>
  ∀ o70, H22 o70 = none →
  bnd (rowsOf (upd H22 o70 ⟨3, r69⟩) 3 (.slice o70 0 1 (some 1))) fun r73 =>
  appendK (upd H22 o70 ⟨3, r69⟩) 3 24 t65 r73 fun v71 H72 =>
  bnd (stz 1 (bc (xs21.tail.tail.tail.tail.headD .any)) 0 v71) fun c74 =>
  bnd (aBinN .add (xs21.tail.tail.tail.tail.tail.tail.headD .any) (.int .i64 1)) fun t75 =>
  ∃ n20, n20 < n19 ∧ Shr (I17 n20 [(.box (bc (xs21.headD .any))), (.box (bc (xs21.tail.headD .any))), (.box (bc (xs21.tail.tail.headD .any))), (.box (bc (xs21.tail.tail.tail.headD .any))), (.box c74), (xs21.tail.tail.tail.tail.tail.headD .any), t75]) H72))
  (bnd (aNot (xs21.tail.tail.tail.tail.tail.headD .any)) fun t76 =>
  cnd t76
  (bnd (partOf false 1 (bc (xs21.tail.tail.tail.tail.headD .any)) 0) fun t77 =>
  bnd (partOf true 3 (bc (xs21.tail.headD .any)) 0) fun t78 =>
  bnd (bsl 3 1 [(.int .i64 0), (.int .i64 0), (.int .i64 0)] [(0, t78)]) fun r79 =>
  ∀ o80, H22 o80 = none →
  bnd (rowsOf (upd H22 o80 ⟨3, r79⟩) 3 (.slice o80 0 1 (some 1))) fun r83 =>
  appendK (upd H22 o80 ⟨3, r79⟩) 3 24 t77 r83 fun v81 H82 =>
  bnd (stz 1 (bc (xs21.tail.tail.tail.tail.headD .any)) 0 v81) fun c84 =>
  bnd (partOf true 1 c84 0) fun t85 =>
  ACalls P n_s_TableOk [t85] H82 fun v86 H87 =>
  bnd (aNot v86) fun t88 =>
  cnd t88
  (bnd (partOf true 1 (bc (xs21.headD .any)) 0) fun t89 =>
  ACalls P n_s_l02Copy [t89] H87 fun v90 H91 =>
  bnd (stz 1 (bc (xs21.tail.tail.headD .any)) 0 v90) fun c92 =>
  bnd (partOf true 1 c92 0) fun t93 =>
  Ret R (.tup [t93, (.bool false)]) H91)
  (bnd (partOf true 1 c84 0) fun t94 =>
  bnd (stz 1 (bc (xs21.tail.tail.headD .any)) 0 t94) fun c95 =>
  bnd (partOf true 1 c95 0) fun t96 =>
  Ret R (.tup [t96, (.bool true)]) H87))
  (bnd (partOf true 1 (bc (xs21.tail.tail.tail.tail.headD .any)) 0) fun t97 =>
  ACalls P n_s_TableOk [t97] H22 fun v98 H99 =>
  bnd (aNot v98) fun t100 =>
  cnd t100
  (bnd (partOf true 1 (bc (xs21.headD .any)) 0) fun t101 =>
  ACalls P n_s_l02Copy [t101] H99 fun v102 H103 =>
  bnd (stz 1 (bc (xs21.tail.tail.headD .any)) 0 v102) fun c104 =>
  bnd (partOf true 1 c104 0) fun t105 =>
  Ret R (.tup [t105, (.bool false)]) H103)
  (bnd (partOf true 1 (bc (xs21.tail.tail.tail.tail.headD .any)) 0) fun t106 =>
  bnd (stz 1 (bc (xs21.tail.tail.headD .any)) 0 t106) fun c107 =>
  bnd (partOf true 1 c107 0) fun t108 =>
  Ret R (.tup [t108, (.bool true)]) H99))))))
theorem W_s_PutRoute {R : V → Heap → Prop} {a0 a1 : V} {H : Heap} (h : F_s_PutRoute R a0 a1 H) : ACalls P n_s_PutRoute [a0, a1] H R :=
  acalls_of_form (g := ⟨[2, 3, 4, 6, 7], [16, 21, 30, 32, 40, 45, 46, 48, 55, 58, 63]⟩) (x := (.seq .leaf (.seq (.seq .leaf (.cond (.seq .leaf .leaf) .leaf)) (.seq .leaf (.seq .leaf (.seq .leaf (.seq (.seq .leaf (.block (.loop [2, 3, 4, 6, 7, 8, 9] (.seq (.seq .leaf (.cond .leaf .leaf)) (.seq (.block (.seq (.seq (.draw [0, 1, 2, 3, 4, 5, 6, 7, 8, 9, 10, 11, 12]) (.cond (.seq .leaf .leaf) .leaf)) (.drawh [0, 1, 2, 3, 4, 5, 6, 7, 8, 9, 10]))) .leaf))))) (.seq (.seq .leaf (.cond .leaf .leaf)) (.seq (.seq .leaf (.cond (.seq .leaf .leaf) .leaf)) (.seq .leaf .leaf)))))))))) Try.func95 (by kernel_rfl) (by kernel_rfl) (by kernel_rfl) (by kernel_rfl : F_s_PutRoute R a0 a1 H = _) h
def F_i_isAddr (R : V → Heap → Prop) (a0 : V) (H : Heap) : Prop :=
  ACalls P n_i_within [a0, (.int .i64 0), (.int .i64 65535)] H fun v1 H2 =>
  Ret R v1 H2
theorem W_i_isAddr {R : V → Heap → Prop} {a0 : V} {H : Heap} (h : F_i_isAddr R a0 H) : ACalls P n_i_isAddr [a0] H R :=
  acalls_of_form (g := ⟨[], []⟩) (x := (.seq .leaf (.seq .leaf .leaf))) Try.func96 (by kernel_rfl) (by kernel_rfl) (by kernel_rfl) (by kernel_rfl : F_i_isAddr R a0 H = _) h
def F_i_Prefix_size (R : V → Heap → Prop) (a0 : V) (H : Heap) : Prop :=
  boxK a0 (bnd (partOf false 1 (cellsOf a0) 1) fun t1 =>
  bnd (aBinN .sub (.int .i64 16) t1) fun t2 =>
  bnd (aBinN .shl (.int .i64 1) t2) fun t3 =>
  Ret R t3 H)
theorem W_i_Prefix_size {R : V → Heap → Prop} {a0 : V} {H : Heap} (h : F_i_Prefix_size R a0 H) : ACalls P n_i_Prefix_size [a0] H R :=
  acalls_of_form (g := ⟨[1], [3]⟩) (x := (.seq .leaf (.seq .leaf .leaf))) Try.func97 (by kernel_rfl) (by kernel_rfl) (by kernel_rfl) (by kernel_rfl : F_i_Prefix_size R a0 H = _) h
def F_slices_rotateLeft_i_Lsa (R : V → Heap → Prop) (a0 a1 : V) (H : Heap) : Prop :=
  bnd (aSlice H 5 a0 none (some a1) none) fun t1 =>
  ACalls P n_slices_Reverse_i_Lsa_i_Lsa [t1] H fun v2 H3 =>
  bnd (aSlice H3 5 a0 (some a1) none none) fun t4 =>
  ACalls P n_slices_Reverse_i_Lsa_i_Lsa [t4] H3 fun v5 H6 =>
  ACalls P n_slices_Reverse_i_Lsa_i_Lsa [a0] H6 fun v7 H8 =>
  Ret R (.tup []) H8
theorem W_slices_rotateLeft_i_Lsa {R : V → Heap → Prop} {a0 a1 : V} {H : Heap} (h : F_slices_rotateLeft_i_Lsa R a0 a1 H) : ACalls P n_slices_rotateLeft_i_Lsa [a0, a1] H R :=
  acalls_of_form (g := ⟨[], []⟩) (x := (.seq .leaf (.seq .leaf .leaf))) Try.func98 (by kernel_rfl) (by kernel_rfl) (by kernel_rfl) (by kernel_rfl : F_slices_rotateLeft_i_Lsa R a0 a1 H = _) h
def F_s_l03Put (R : V → Heap → Prop) (a0 a1 : V) (H : Heap) : Prop :=
  boxK a1 (bnd (bsl 3 0 [(.int .i64 0), (.int .i64 0), (.int .i64 0)] []) fun r1 =>
  ∀ o2, H o2 = none →
  ∃ (I3 : Nat → List V → Heap → Prop) (n4 : Nat), Shr (I3 n4 [(.box (cellsOf a1)), (.slice o2 0 0 (some 0)), (.bool false), (.int .i64 0)]) (upd H o2 ⟨3, r1⟩) ∧
  ∀ n5 xs7 H8, I3 n5 xs7 H8 →
  bnd (lenOf a0) fun n9 =>
  bnd (aBinN .lss (xs7.tail.tail.tail.headD .any) (.int .i64 (n9 : Nat))) fun t10 =>
  cnd t10
  (bnd (aIndex H8 3 a0 (xs7.tail.tail.tail.headD .any)) fun t11 =>
  bnd (aLd true 3 H8 t11) fun t12 =>
  bnd (stz 3 [(.int .i64 0), (.int .i64 0), (.int .i64 0)] 0 t12) fun c13 =>
  ∃ J14 : List V → Heap → Prop,
  (∃ J17 : List V → Heap → Prop,
  (bnd (aNot (xs7.tail.tail.headD .any)) fun t20 =>
  gd t20 true
  (bnd (partOf false 1 (bc (xs7.headD .any)) 0) fun t21 =>
  bnd (partOf false 1 c13 0) fun t22 =>
  bnd (aBinN .lss t21 t22) fun t23 =>
  gd3 t23 false
  (bnd (partOf false 1 (bc (xs7.headD .any)) 0) fun t24 =>
  bnd (partOf false 1 c13 0) fun t25 =>
  bnd (aBinN .eql t24 t25) fun t26 =>
  gd3 t26 true
  (bnd (partOf false 1 (bc (xs7.headD .any)) 1) fun t27 =>
  bnd (partOf false 1 c13 1) fun t28 =>
  bnd (aBinN .leq t27 t28) fun t29 =>
  Shr (J17 [t29]) H8)
  (Shr (J17 [(.bool false)]) H8)
  (bnd (aPick (.tup []) (.tup []) (.bool false)) fun t30 =>
  Shr (J17 [t30]) H8))
  (Shr (J17 [(.bool true)]) H8)
  (bnd (aPick (.tup []) (.bool true) (.tup [])) fun t31 =>
  Shr (J17 [t31]) H8))
  (Shr (J17 [(.bool false)]) H8)) ∧
  ∀ xs18 H19, J17 xs18 H19 →
  cnd (xs18.headD .any)
  (bnd (partOf true 3 (bc (xs7.headD .any)) 0) fun t32 =>
  bnd (bsl 3 1 [(.int .i64 0), (.int .i64 0), (.int .i64 0)] [(0, t32)]) fun r33 =>
  ∀ o34, H19 o34 = none →
  bnd (rowsOf (upd H19 o34 ⟨3, r33⟩) 3 (.slice o34 0 1 (some 1))) fun r37 =>
  appendK (upd H19 o34 ⟨3, r33⟩) 3 24 (xs7.tail.headD .any) r37 fun v35 H36 =>
  Shr (J14 [v35, (.bool true)]) H36)
  (Shr (J14 [(xs7.tail.headD .any), (xs7.tail.tail.headD .any)]) H19)) ∧
  ∀ xs15 H16, J14 xs15 H16 →
  bnd (partOf false 1 c13 0) fun t38 =>
  bnd (partOf false 1 (bc (xs7.headD .any)) 0) fun t39 =>
  bnd (aBinN .neq t38 t39) fun t40 =>
  gd t40 false
  (bnd (partOf false 1 c13 1) fun t41 =>
  bnd (partOf false 1 (bc (xs7.headD .any)) 1) fun t42 =>
  bnd (aBinN .neq t41 t42) fun t43 =>
  cnd t43
  (bnd (partOf true 3 c13 0) fun t44 =>
  bnd (bsl 3 1 [(.int .i64 0), (.int .i64 0), (.int .i64 0)] [(0, t44)]) fun r45 =>
  ∀ o46, H16 o46 = none →
  bnd (rowsOf (upd H16 o46 ⟨3, r45⟩) 3 (.slice o46 0 1 (some 1))) fun r49 =>
  appendK (upd H16 o46 ⟨3, r45⟩) 3 24 (xs15.headD .any) r49 fun v47 H48 =>
  bnd (aBinN .add (xs7.tail.tail.tail.headD .any) (.int .i64 1)) fun t50 =>
  ∃ n6, n6 < n5 ∧ Shr (I3 n6 [(.box (bc (xs7.headD .any))), v47, (xs15.tail.headD .any), t50]) H48)
  (bnd (aBinN .add (xs7.tail.tail.tail.headD .any) (.int .i64 1)) fun t51 =>
  ∃ n6, n6 < n5 ∧ Shr (I3 n6 [(.box (bc (xs7.headD .any))), (xs15.headD .any), (xs15.tail.headD .any), t51]) H16))
  (bnd (partOf true 3 c13 0) fun t52 =>
  bnd (bsl 3 1 [(.int .i64 0), (.int .i64 0), (.int .i64 0)] [(0, t52)]) fun r53 =>
  ∀ o54, H16 o54 = none →
  bnd (rowsOf (upd H16 o54 ⟨3, r53⟩) 3 (.slice o54 0 1 (some 1))) fun r57 =>
  appendK (upd H16 o54 ⟨3, r53⟩) 3 24 (xs15.headD .any) r57 fun v55 H56 =>
  bnd (aBinN .add (xs7.tail.tail.tail.headD .any) (.int .i64 1)) fun t58 =>
  ∃ n6, n6 < n5 ∧ Shr (I3 n6 [(.box (bc (xs7.headD .any))), v55, (xs15.tail.headD .any), t58]) H56))
  (bnd (aNot (xs7.tail.tail.headD .any)) fun t59 =>
  cnd t59
  (bnd (partOf true 3 (bc (xs7.headD .any)) 0) fun t60 =>
  bnd (bsl 3 1 [(.int .i64 0), (.int .i64 0), (.int .i64 0)] [(0, t60)]) fun r61 =>
  ∀ o62, H8 o62 = none →
  bnd (rowsOf (upd H8 o62 ⟨3, r61⟩) 3 (.slice o62 0 1 (some 1))) fun r65 =>
  appendK (upd H8 o62 ⟨3, r61⟩) 3 24 (xs7.tail.headD .any) r65 fun v63 H64 =>
  Ret R v63 H64)
  (Ret R (xs7.tail.headD .any) H8)))
theorem W_s_l03Put {R : V → Heap → Prop} {a0 a1 : V} {H : Heap} (h : F_s_l03Put R a0 a1 H) : ACalls P n_s_l03Put [a0, a1] H R :=
  acalls_of_form (g := ⟨[3, 8], [23, 25, 29, 31, 35, 37, 47, 49, 53, 55]⟩) (x := (.seq .leaf (.seq .leaf (.seq .leaf (.seq (.seq .leaf (.block (.loop [3, 5, 6, 7] (.seq (.seq .leaf (.cond .leaf .leaf)) (.seq (.block (.seq .leaf (.seqc (.seqc .leaf (.cond (.seq .leaf .leaf) .leaf) [42]) (.seq .leaf (.cond .leaf .leaf)) [5, 6]))) .leaf))))) (.seq (.seq .leaf (.cond .leaf .leaf)) (.seq .leaf .leaf))))))) Try.func99 (by kernel_rfl) (by kernel_rfl) (by kernel_rfl) (by kernel_rfl : F_s_l03Put R a0 a1 H = _) h
def F_s_TableOk (R : V → Heap → Prop) (a0 : V) (H : Heap) : Prop :=
  boxK a0 (bnd (partOf false 1 (cellsOf a0) 0) fun t1 =>
  bnd (lenOf t1) fun n2 =>
  bnd (aBinN .gtr (.int .i64 (n2 : Nat)) (.int .i64 120)) fun t3 =>
  cnd t3
  (Ret R (.bool false) H)
  (∃ (I4 : Nat → List V → Heap → Prop) (n5 : Nat), Shr (I4 n5 [(.int .i64 0)]) H ∧
  ∀ n6 xs8 H9, I4 n6 xs8 H9 →
  bnd (partOf false 1 (cellsOf a0) 0) fun t10 =>
  bnd (lenOf t10) fun n11 =>
  bnd (aBinN .lss (xs8.headD .any) (.int .i64 (n11 : Nat))) fun t12 =>
  cnd t12
  (∃ S13, Abs.sub S13 H9 ∧
  bnd (partOf false 1 (cellsOf a0) 0) fun t14 =>
  bnd (aIndex S13 3 t14 (xs8.headD .any)) fun t15 =>
  bnd (aField 0 t15) fun t16 =>
  bnd (aLd true 2 S13 t16) fun t17 =>
  ACalls P n_s_PrefixOk [t17] H9 fun v18 H19 =>
  Abs.sub S13 H19 ∧
  bnd (aNot v18) fun t20 =>
  gd t20 false
  (bnd (partOf false 1 (cellsOf a0) 0) fun t21 =>
  bnd (aIndex S13 3 t21 (xs8.headD .any)) fun t22 =>
  bnd (aField 2 t22) fun t23 =>
  bnd (aLd false 1 S13 t23) fun t24 =>
  ACalls P n_s_l01In [t24, (.int .i64 0), (.int .i64 999)] H19 fun v25 H26 =>
  Abs.sub S13 H26 ∧
  bnd (aNot v25) fun t27 =>
  gd t27 false
  (bnd (aBinN .gtr (xs8.headD .any) (.int .i64 0)) fun t28 =>
  gd3 t28 true
  (bnd (partOf false 1 (cellsOf a0) 0) fun t29 =>
  bnd (aBinN .sub (xs8.headD .any) (.int .i64 1)) fun t30 =>
  bnd (aIndex S13 3 t29 t30) fun t31 =>
  bnd (aField 0 t31) fun t32 =>
  bnd (aLd true 2 S13 t32) fun t33 =>
  bnd (partOf false 1 (cellsOf a0) 0) fun t34 =>
  bnd (aIndex S13 3 t34 (xs8.headD .any)) fun t35 =>
  bnd (aField 0 t35) fun t36 =>
  bnd (aLd true 2 S13 t36) fun t37 =>
  ACalls P n_s_l02Ahead [t33, t37] H26 fun v38 H39 =>
  Abs.sub S13 H39 ∧
  bnd (aNot v38) fun t40 =>
  cnd t40
  (Ret R (.bool false) H39)
  (bnd (aBinN .add (xs8.headD .any) (.int .i64 1)) fun t41 =>
  ∃ n7, n7 < n6 ∧ Shr (I4 n7 [t41]) H39))
  (bnd (aBinN .add (xs8.headD .any) (.int .i64 1)) fun t42 =>
  ∃ n7, n7 < n6 ∧ Shr (I4 n7 [t42]) H26)
  (bnd (aPick (.tup []) (.tup []) (.bool false)) fun t43 =>
  cnd t43
  (Ret R (.bool false) H26)
  (bnd (aBinN .add (xs8.headD .any) (.int .i64 1)) fun t44 =>
  ∃ n7, n7 < n6 ∧ Shr (I4 n7 [t44]) H26)))
  (Ret R (.bool false) H26))
  (Ret R (.bool false) H19))
  (Ret R (.bool true) H9)))
theorem W_s_TableOk {R : V → Heap → Prop} {a0 : V} {H : Heap} (h : F_s_TableOk R a0 H) : ACalls P n_s_TableOk [a0] H R :=
  acalls_of_form (g := ⟨[1], [4, 9, 15, 24, 37, 44]⟩) (x := (.seq .leaf (.seq (.seq .leaf (.cond (.seq .leaf .leaf) .leaf)) (.seq (.seq .leaf (.block (.loop [3] (.seq (.seq .leaf (.cond .leaf .leaf)) (.seq (.block (.seq (.draw [0, 1, 2, 3, 4, 5, 6, 7, 8, 9, 10, 11, 12, 13, 14, 15, 16, 17, 18, 19, 20, 21, 22, 23, 24, 25, 26, 27, 28, 29, 30, 31, 32, 33, 34, 35, 36, 37, 38]) (.cond (.seq .leaf .leaf) .leaf))) .leaf))))) (.seq .leaf .leaf))))) Try.func100 (by kernel_rfl) (by kernel_rfl) (by kernel_rfl) (by kernel_rfl : F_s_TableOk R a0 H = _) h
def F_s_l02Copy (R : V → Heap → Prop) (a0 : V) (H : Heap) : Prop :=
  boxK a0 (bnd (fillZ [.nils] []) fun c1 =>
  bnd (stz 1 [.nils] 0 (.agg c1)) fun c2 =>
  ∃ (I3 : Nat → List V → Heap → Prop) (n4 : Nat), Shr (I3 n4 [(.box (cellsOf a0)), (.box [.nils]), (.box c2), (.int .i64 0)]) H ∧
  ∀ n5 xs7 H8, I3 n5 xs7 H8 →
  bnd (partOf false 1 (bc (xs7.headD .any)) 0) fun t9 =>
  bnd (lenOf t9) fun n10 =>
  bnd (aBinN .lss (xs7.tail.tail.tail.headD .any) (.int .i64 (n10 : Nat))) fun t11 =>
  cnd t11
  (bnd (partOf false 1 (bc (xs7.tail.tail.headD .any)) 0) fun t12 =>
  bnd (partOf false 1 (bc (xs7.headD .any)) 0) fun t13 =>
  bnd (aIndex H8 3 t13 (xs7.tail.tail.tail.headD .any)) fun t14 =>
  bnd (aLd true 3 H8 t14) fun t15 =>
  bnd (bsl 3 1 [(.int .i64 0), (.int .i64 0), (.int .i64 0)] [(0, t15)]) fun r16 =>
  ∀ o17, H8 o17 = none →
  bnd (rowsOf (upd H8 o17 ⟨3, r16⟩) 3 (.slice o17 0 1 (some 1))) fun r20 =>
  appendK (upd H8 o17 ⟨3, r16⟩) 3 24 t12 r20 fun v18 H19 =>
  bnd (stz 1 (bc (xs7.tail.tail.headD .any)) 0 v18) fun c21 =>
  bnd (aBinN .add (xs7.tail.tail.tail.headD .any) (.int .i64 1)) fun t22 =>
  ∃ n6, n6 < n5 ∧ Shr (I3 n6 [(.box (bc (xs7.headD .any))), (.box (bc (xs7.tail.headD .any))), (.box c21), t22]) H19)
  (bnd (partOf true 1 (bc (xs7.tail.tail.headD .any)) 0) fun t23 =>
  bnd (stz 1 (bc (xs7.tail.headD .any)) 0 t23) fun c24 =>
  bnd (partOf true 1 c24 0) fun t25 =>
  Ret R t25 H8))
theorem W_s_l02Copy {R : V → Heap → Prop} {a0 : V} {H : Heap} (h : F_s_l02Copy R a0 H) : ACalls P n_s_l02Copy [a0] H R :=
  acalls_of_form (g := ⟨[1, 2, 3], [7, 13, 15, 22]⟩) (x := (.seq .leaf (.seq .leaf (.seq (.seq .leaf (.block (.loop [1, 2, 3, 4] (.seq (.seq .leaf (.cond .leaf .leaf)) (.seq (.block (.drawh [0, 1, 2, 3, 4, 5, 6, 7, 8, 9, 10])) .leaf))))) (.seq .leaf .leaf))))) Try.func101 (by kernel_rfl) (by kernel_rfl) (by kernel_rfl) (by kernel_rfl : F_s_l02Copy R a0 H = _) h
def F_s_l02Less (R : V → Heap → Prop) (a0 a1 : V) (H : Heap) : Prop :=
  boxK a0 (boxK a1 (bnd (fillZ [.nils] []) fun c1 =>
  bnd (stz 1 [.nils] 0 (.agg c1)) fun c2 =>
  ∃ (I3 : Nat → List V → Heap → Prop) (n4 : Nat), Shr (I3 n4 [(.box (cellsOf a0)), (.box (cellsOf a1)), (.box [.nils]), (.box c2), (.int .i64 0)]) H ∧
  ∀ n5 xs7 H8, I3 n5 xs7 H8 →
  bnd (partOf false 1 (bc (xs7.headD .any)) 0) fun t9 =>
  bnd (lenOf t9) fun n10 =>
  bnd (aBinN .lss (xs7.tail.tail.tail.tail.headD .any) (.int .i64 (n10 : Nat))) fun t11 =>
  cnd t11
  (∃ S12, Abs.sub S12 H8 ∧
  bnd (partOf false 1 (bc (xs7.headD .any)) 0) fun t13 =>
  bnd (aIndex S12 3 t13 (xs7.tail.tail.tail.tail.headD .any)) fun t14 =>
  bnd (aField 0 t14) fun t15 =>
  bnd (aLd true 2 S12 t15) fun t16 =>
  bnd (partOf true 2 (bc (xs7.tail.headD .any)) 0) fun t17 =>
  bnd (aBin P .neq 67 t16 t17) fun t18 =>
  cnd t18
  (bnd (partOf false 1 (bc (xs7.tail.tail.tail.headD .any)) 0) fun t19 =>
  bnd (partOf false 1 (bc (xs7.headD .any)) 0) fun t20 =>
  bnd (aIndex H8 3 t20 (xs7.tail.tail.tail.tail.headD .any)) fun t21 =>
  bnd (aLd true 3 H8 t21) fun t22 =>
  bnd (bsl 3 1 [(.int .i64 0), (.int .i64 0), (.int .i64 0)] [(0, t22)]) fun r23 =>
  ∀ o24, H8 o24 = none →
  bnd (rowsOf (upd H8 o24 ⟨3, r23⟩) 3 (.slice o24 0 1 (some 1))) fun r27 =>
  appendK (upd H8 o24 ⟨3, r23⟩) 3 24 t19 r27 fun v25 H26 =>
  bnd (stz 1 (bc (xs7.tail.tail.tail.headD .any)) 0 v25) fun c28 =>
  bnd (aBinN .add (xs7.tail.tail.tail.tail.headD .any) (.int .i64 1)) fun t29 =>
  ∃ n6, n6 < n5 ∧ Shr (I3 n6 [(.box (bc (xs7.headD .any))), (.box (bc (xs7.tail.headD .any))), (.box (bc (xs7.tail.tail.headD .any))), (.box c28), t29]) H26)
  (bnd (aBinN .add (xs7.tail.tail.tail.tail.headD .any) (.int .i64 1)) fun t30 =>
  ∃ n6, n6 < n5 ∧ Shr (I3 n6 [(.box (bc (xs7.headD .any))), (.box (bc (xs7.tail.headD .any))), (.box (bc (xs7.tail.tail.headD .any))), (.box (bc (xs7.tail.tail.tail.headD .any))), t30]) H8))
  (bnd (partOf true 1 (bc (xs7.tail.tail.tail.headD .any)) 0) fun t31 =>
  bnd (stz 1 (bc (xs7.tail.tail.headD .any)) 0 t31) fun c32 =>
  bnd (partOf true 1 c32 0) fun t33 =>
  Ret R t33 H8)))
theorem W_s_l02Less {R : V → Heap → Prop} {a0 a1 : V} {H : Heap} (h : F_s_l02Less R a0 a1 H) : ACalls P n_s_l02Less [a0, a1] H R :=
  acalls_of_form (g := ⟨[2, 3, 4, 5], [9, 15, 23, 25, 32]⟩) (x := (.seq .leaf (.seq .leaf (.seq (.seq .leaf (.block (.loop [2, 3, 4, 5, 6] (.seq (.seq .leaf (.cond .leaf .leaf)) (.seq (.block (.seq (.draw [0, 1, 2, 3, 4, 5, 6, 7]) (.cond (.drawh [0, 1, 2, 3, 4, 5, 6, 7, 8, 9, 10]) .leaf))) .leaf))))) (.seq .leaf .leaf))))) Try.func102 (by kernel_rfl) (by kernel_rfl) (by kernel_rfl) (by kernel_rfl : F_s_l02Less R a0 a1 H = _) h
def F_slices_Reverse_i_Lsa_i_Lsa (R : V → Heap → Prop) (a0 : V) (H : Heap) : Prop :=
  bnd (lenOf a0) fun n1 =>
  bnd (aBinN .sub (.int .i64 (n1 : Nat)) (.int .i64 1)) fun t2 =>
  ∃ (I3 : Nat → List V → Heap → Prop) (n4 : Nat), Shr (I3 n4 [(.int .i64 0), t2]) H ∧
  ∀ n5 xs7 H8, I3 n5 xs7 H8 →
  bnd (aBinN .lss (xs7.headD .any) (xs7.tail.headD .any)) fun t9 =>
  cnd t9
  (bnd (aIndex H8 5 a0 (xs7.tail.headD .any)) fun t10 =>
  bnd (aLd true 5 H8 t10) fun t11 =>
  bnd (aIndex H8 5 a0 (xs7.headD .any)) fun t12 =>
  bnd (aLd true 5 H8 t12) fun t13 =>
  bnd (aIndex H8 5 a0 (xs7.headD .any)) fun t14 =>
  bnd (aSt 5 H8 t14 t11) fun H15 =>
  bnd (aIndex H15 5 a0 (xs7.tail.headD .any)) fun t16 =>
  bnd (aSt 5 H15 t16 t13) fun H17 =>
  bnd (aBinN .add (xs7.headD .any) (.int .i64 1)) fun t18 =>
  bnd (aBinN .sub (xs7.tail.headD .any) (.int .i64 1)) fun t19 =>
  ∃ n6, n6 < n5 ∧ Shr (I3 n6 [t18, t19]) H17)
  (Ret R (.tup []) H8)
theorem W_slices_Reverse_i_Lsa_i_Lsa {R : V → Heap → Prop} {a0 : V} {H : Heap} (h : F_slices_Reverse_i_Lsa_i_Lsa R a0 H) : ACalls P n_slices_Reverse_i_Lsa_i_Lsa [a0] H R :=
  acalls_of_form (g := ⟨[], []⟩) (x := (.seq .leaf (.block (.loop [2, 3] (.seq (.seq .leaf (.cond .leaf .leaf)) (.seq (.block (.drawh [0, 1, 2, 3, 4, 5, 6, 7, 8, 9, 10, 11, 12, 13, 14, 15])) .leaf)))))) Try.func103 (by kernel_rfl) (by kernel_rfl) (by kernel_rfl) (by kernel_rfl : F_slices_Reverse_i_Lsa_i_Lsa R a0 H = _) h
theorem X_slices_overlaps_i_Lsa : ovE P n_slices_overlaps_i_Lsa := ⟨Try.f92, 37, 4, 27, 5, Try.func92, by kernel_rfl, by kernel_rfl, by kernel_rfl, by kernel_rfl, by kernel_rfl, by kernel_rfl⟩
theorem Q_neq_Link {x0 y0 : Int} {x1 y1 : Int} : aBin P .neq 65 (.agg [.int .i64 x0, .int .i64 x1]) (.agg [.int .i64 y0, .int .i64 y1]) = some (.bool (!((x0 == y0) && ((x1 == y1) && true)))) := by kernel_rfl
theorem Q_neq_Stub {x0 y0 : Int} {x1 y1 : Int} {x2 y2 : Int} : aBin P .neq 69 (.agg [.int .i64 x0, .int .i64 x1, .int .i64 x2]) (.agg [.int .i64 y0, .int .i64 y1, .int .i64 y2]) = some (.bool (!(((x0 == y0) && ((x1 == y1) && true)) && ((x2 == y2) && true)))) := by kernel_rfl
theorem Q_neq_Prefix {x0 y0 : Int} {x1 y1 : Int} : aBin P .neq 67 (.agg [.int .i64 x0, .int .i64 x1]) (.agg [.int .i64 y0, .int .i64 y1]) = some (.bool (!((x0 == y0) && ((x1 == y1) && true)))) := by kernel_rfl
end Go.Proofs.Ytgoljfhjhcjcpaa
