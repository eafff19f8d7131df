/-
The shallow forms of the functions; printed by a program.
-/
import Derived.Test.YtlmgahcpdapbdaaAbsO
import Derived.Test.YtlmgahcpdapbdaaProg
import Derived.KernelRfl
set_option linter.all false
namespace Go.Proofs.Ytlmgahcpdapbdaa
open Go Go.Abs Go.Proofs
set_option maxRecDepth 100000
noncomputable abbrev P : Program := Try.prog
abbrev n_gosem_cut_init : FuncId := 2
abbrev n_l_FnExactFullTimes : FuncId := 3
abbrev n_l_FnExactPlayNear : FuncId := 4
abbrev n_l_FnNear : FuncId := 5
abbrev n_l_szNearEventS : FuncId := 6
abbrev n_s_FullTimes : FuncId := 7
abbrev n_l_toNearEventS : FuncId := 8
abbrev n_i_FullTimes : FuncId := 9
abbrev n_l_eqIntS : FuncId := 10
abbrev n_l_eqNearEventS : FuncId := 11
abbrev n_l_markNearEventS : FuncId := 12
abbrev n_l_markIntS : FuncId := 13
abbrev n_l_heldIntS : FuncId := 14
abbrev n_s_PlayNear : FuncId := 15
abbrev n_i_PlayNear : FuncId := 16
abbrev n_l_eqNear : FuncId := 17
abbrev n_l_big : FuncId := 18
abbrev n_s_DrawPlayNear : FuncId := 19
abbrev n_l_same : FuncId := 20
abbrev n_i_Changes : FuncId := 21
abbrev n_s_Changes : FuncId := 22
abbrev n_i_DeadAt : FuncId := 23
abbrev n_i_StepNear : FuncId := 24
abbrev n_s_StepNear : FuncId := 25
abbrev n_l_toNearEvent : FuncId := 26
abbrev n_i_played : FuncId := 27
abbrev n_i_FullTimes_1 : FuncId := 28
abbrev n_slices_Clip_int_int : FuncId := 29
abbrev n_l_eqNearEvent : FuncId := 30
abbrev n_i_PlayNear_1 : FuncId := 31
abbrev n_s_l07DrawEvents : FuncId := 32
abbrev n_i_Changes_1 : FuncId := 33
abbrev n_i_NearOk : FuncId := 34
abbrev n_i_within : FuncId := 35
abbrev n_i_Near_greeted : FuncId := 36
abbrev n_i_Near_described : FuncId := 37
abbrev n_s_NearOk : FuncId := 38
abbrev n_s_l01In : FuncId := 39
abbrev n_s_l01New : FuncId := 40
abbrev n_s_l01Below : FuncId := 41
abbrev n_s_l01Size : FuncId := 42
abbrev n_s_l01Once : FuncId := 43
abbrev n_s_l01PickInt : FuncId := 44
abbrev n_s_l07DrawEvent : FuncId := 45
abbrev n_s_l01Byte : FuncId := 46
def F_l_FnExactFullTimes (R : V → Heap → Prop) (a0 : V) (H : Heap) : Prop :=
  ACalls P n_l_szNearEventS [a0, (.int .i64 1048576)] H fun v1 H2 =>
  bnd (aBinN .lss v1 (.int .i64 0)) fun t3 =>
  cnd t3
  (Ret R (.bool true) H2)
  (ACalls P n_l_toNearEventS [a0] H2 fun v4 H5 =>
  ACalls P n_s_FullTimes [v4] H5 fun v6 H7 =>
  ACalls P n_l_toNearEventS [a0] H7 fun v8 H9 =>
  ACalls P n_i_FullTimes [v8] H9 fun v10 H11 =>
  ACalls P n_l_eqIntS [v10, v6] H11 fun v12 H13 =>
  bnd (aNot v12) fun t14 =>
  cnd t14
  (Ret R (.bool false) H13)
  (ACalls P n_l_toNearEventS [a0] H13 fun v15 H16 =>
  ACalls P n_l_eqNearEventS [v8, v15] H16 fun v17 H18 =>
  bnd (aNot v17) fun t19 =>
  cnd t19
  (Ret R (.bool false) H18)
  (ACalls P n_l_markNearEventS [v8, (.int .i64 1)] H18 fun v20 H21 =>
  bnd (aBinN .lss v20 (.int .i64 0)) fun t22 =>
  gd t22 false
  (ACalls P n_l_eqIntS [v10, v6] H21 fun v23 H24 =>
  bnd (aNot v23) fun t25 =>
  cnd t25
  (Ret R (.bool false) H24)
  (ACalls P n_l_markIntS [v10, (.int .i64 1)] H24 fun v26 H27 =>
  ACalls P n_l_heldIntS [v10, (.int .i64 1)] H27 fun v28 H29 =>
  bnd (aBinN .lss v28 (.int .i64 0)) fun t30 =>
  cnd t30
  (Ret R (.bool false) H29)
  (bnd (aBinN .neq v28 v26) fun t31 =>
  cnd t31
  (Ret R (.bool false) H29)
  (ACalls P n_l_toNearEventS [a0] H29 fun v32 H33 =>
  ACalls P n_i_FullTimes [v32] H33 fun v34 H35 =>
  ACalls P n_l_eqIntS [v34, v6] H35 fun v36 H37 =>
  bnd (aNot v36) fun t38 =>
  cnd t38
  (Ret R (.bool false) H37)
  (ACalls P n_l_heldIntS [v10, (.int .i64 1)] H37 fun v39 H40 =>
  bnd (aBinN .lss v39 (.int .i64 0)) fun t41 =>
  cnd t41
  (Ret R (.bool false) H40)
  (bnd (aBinN .neq v39 v26) fun t42 =>
  cnd t42
  (Ret R (.bool false) H40)
  (Ret R (.bool true) H40)))))))
  (Ret R (.bool false) H21))))
theorem W_l_FnExactFullTimes {R : V → Heap → Prop} {a0 : V} {H : Heap} (h : F_l_FnExactFullTimes R a0 H) : ACalls P n_l_FnExactFullTimes [a0] H R :=
  acalls_of_form (g := ⟨[], []⟩) (x := (.seq .leaf (.seq .leaf (.seq .leaf (.seq (.seq .leaf (.cond (.seq .leaf .leaf) .leaf)) (.seq .leaf (.seq .leaf (.seq .leaf (.seq (.seq .leaf (.cond (.seq .leaf .leaf) .leaf)) (.seq (.seq .leaf (.cond (.seq .leaf .leaf) .leaf)) (.seq .leaf (.seq .leaf (.seq (.seq .leaf (.cond (.seq .leaf .leaf) .leaf)) (.seq .leaf (.seq .leaf (.seq .leaf (.seq .leaf (.seq (.seq .leaf (.cond (.seq .leaf .leaf) .leaf)) (.seq (.seq .leaf (.cond (.seq .leaf .leaf) .leaf)) (.seq .leaf (.seq (.seq .leaf (.cond (.seq .leaf .leaf) .leaf)) (.seq .leaf (.seq .leaf (.seq (.seq .leaf (.cond (.seq .leaf .leaf) .leaf)) (.seq (.seq .leaf (.cond (.seq .leaf .leaf) .leaf)) (.seq .leaf .leaf)))))))))))))))))))))))))) Try.func3 (by kernel_rfl) (by kernel_rfl) (by kernel_rfl) (by kernel_rfl : F_l_FnExactFullTimes R a0 H = _) h
def F_l_FnExactPlayNear (R : V → Heap → Prop) (a0 : V) (H : Heap) : Prop :=
  ACalls P n_l_szNearEventS [a0, (.int .i64 1048576)] H fun v1 H2 =>
  bnd (aBinN .lss v1 (.int .i64 0)) fun t3 =>
  cnd t3
  (Ret R (.bool true) H2)
  (ACalls P n_l_toNearEventS [a0] H2 fun v4 H5 =>
  ACalls P n_s_PlayNear [v4] H5 fun v6 H7 =>
  bnd (aExtract 0 v6) fun t8 =>
  bnd (aExtract 1 v6) fun t9 =>
  bnd (stz 3 [(.int .i64 0), (.int .i64 0), (.int .i64 0)] 0 t8) fun c10 =>
  ACalls P n_l_toNearEventS [a0] H7 fun v11 H12 =>
  ACalls P n_i_PlayNear [v11] H12 fun v13 H14 =>
  bnd (aExtract 0 v13) fun t15 =>
  bnd (aExtract 1 v13) fun t16 =>
  bnd (stz 3 [(.int .i64 0), (.int .i64 0), (.int .i64 0)] 0 t15) fun c17 =>
  bnd (partOf true 3 c17 0) fun t18 =>
  bnd (partOf true 3 c10 0) fun t19 =>
  ACalls P n_l_eqNear [t18, t19] H14 fun v20 H21 =>
  bnd (aNot v20) fun t22 =>
  gd t22 false
  (ACalls P n_l_eqIntS [t16, t9] H21 fun v23 H24 =>
  bnd (aNot v23) fun t25 =>
  cnd t25
  (Ret R (.bool false) H24)
  (ACalls P n_l_toNearEventS [a0] H24 fun v26 H27 =>
  ACalls P n_l_eqNearEventS [v11, v26] H27 fun v28 H29 =>
  bnd (aNot v28) fun t30 =>
  cnd t30
  (Ret R (.bool false) H29)
  (ACalls P n_l_markNearEventS [v11, (.int .i64 1)] H29 fun v31 H32 =>
  bnd (aBinN .lss v31 (.int .i64 0)) fun t33 =>
  gd t33 false
  (bnd (partOf true 3 c17 0) fun t34 =>
  bnd (partOf true 3 c10 0) fun t35 =>
  ACalls P n_l_eqNear [t34, t35] H32 fun v36 H37 =>
  bnd (aNot v36) fun t38 =>
  gd t38 false
  (ACalls P n_l_eqIntS [t16, t9] H37 fun v39 H40 =>
  bnd (aNot v39) fun t41 =>
  cnd t41
  (Ret R (.bool false) H40)
  (ACalls P n_l_markIntS [t16, (.int .i64 1)] H40 fun v42 H43 =>
  ACalls P n_l_heldIntS [t16, (.int .i64 1)] H43 fun v44 H45 =>
  bnd (aBinN .lss v44 (.int .i64 0)) fun t46 =>
  cnd t46
  (Ret R (.bool false) H45)
  (bnd (aBinN .neq v44 v42) fun t47 =>
  cnd t47
  (Ret R (.bool false) H45)
  (ACalls P n_l_toNearEventS [a0] H45 fun v48 H49 =>
  ACalls P n_i_PlayNear [v48] H49 fun v50 H51 =>
  bnd (aExtract 0 v50) fun t52 =>
  bnd (aExtract 1 v50) fun t53 =>
  bnd (stz 3 [(.int .i64 0), (.int .i64 0), (.int .i64 0)] 0 t52) fun c54 =>
  bnd (partOf true 3 c54 0) fun t55 =>
  bnd (partOf true 3 c10 0) fun t56 =>
  ACalls P n_l_eqNear [t55, t56] H51 fun v57 H58 =>
  bnd (aNot v57) fun t59 =>
  gd t59 false
  (ACalls P n_l_eqIntS [t53, t9] H58 fun v60 H61 =>
  bnd (aNot v60) fun t62 =>
  cnd t62
  (Ret R (.bool false) H61)
  (ACalls P n_l_heldIntS [t16, (.int .i64 1)] H61 fun v63 H64 =>
  bnd (aBinN .lss v63 (.int .i64 0)) fun t65 =>
  cnd t65
  (Ret R (.bool false) H64)
  (bnd (aBinN .neq v63 v42) fun t66 =>
  cnd t66
  (Ret R (.bool false) H64)
  (Ret R (.bool true) H64))))
  (Ret R (.bool false) H58)))))
  (Ret R (.bool false) H37))
  (Ret R (.bool false) H32))))
  (Ret R (.bool false) H21))
theorem W_l_FnExactPlayNear {R : V → Heap → Prop} {a0 : V} {H : Heap} (h : F_l_FnExactPlayNear R a0 H) : ACalls P n_l_FnExactPlayNear [a0] H R :=
  acalls_of_form (g := ⟨[4, 7, 12], []⟩) (x := (.seq .leaf (.seq .leaf (.seq .leaf (.seq (.seq .leaf (.cond (.seq .leaf .leaf) .leaf)) (.seq .leaf (.seq .leaf (.seq .leaf (.seq (.seq .leaf (.cond (.seq .leaf .leaf) .leaf)) (.seq (.seq .leaf (.cond (.seq .leaf .leaf) .leaf)) (.seq .leaf (.seq .leaf (.seq (.seq .leaf (.cond (.seq .leaf .leaf) .leaf)) (.seq .leaf (.seq .leaf (.seq .leaf (.seq .leaf (.seq (.seq .leaf (.cond (.seq .leaf .leaf) .leaf)) (.seq (.seq .leaf (.cond (.seq .leaf .leaf) .leaf)) (.seq .leaf (.seq (.seq .leaf (.cond (.seq .leaf .leaf) .leaf)) (.seq .leaf (.seq .leaf (.seq (.seq .leaf (.cond (.seq .leaf .leaf) .leaf)) (.seq (.seq .leaf (.cond (.seq .leaf .leaf) .leaf)) (.seq .leaf .leaf)))))))))))))))))))))))))) Try.func4 (by kernel_rfl) (by kernel_rfl) (by kernel_rfl) (by kernel_rfl : F_l_FnExactPlayNear R a0 H = _) h
def F_l_FnNear (R : V → Heap → Prop) (a0 : V) (H : Heap) : Prop :=
  ACalls P n_l_big [a0] H fun v1 H2 =>
  cnd v1
  (Ret R (.bool true) H2)
  (ACalls P n_s_DrawPlayNear [a0] H2 fun v3 H4 =>
  ACalls P n_s_PlayNear [v3] H4 fun v5 H6 =>
  bnd (aExtract 0 v5) fun t7 =>
  bnd (aExtract 1 v5) fun t8 =>
  bnd (stz 3 [(.int .i64 0), (.int .i64 0), (.int .i64 0)] 0 t7) fun c9 =>
  ACalls P n_i_PlayNear [v3] H6 fun v10 H11 =>
  bnd (aExtract 0 v10) fun t12 =>
  bnd (aExtract 1 v10) fun t13 =>
  bnd (stz 3 [(.int .i64 0), (.int .i64 0), (.int .i64 0)] 0 t12) fun c14 =>
  bnd (partOf true 3 c14 0) fun t15 =>
  bnd (partOf true 3 c9 0) fun t16 =>
  bnd (aBin P .neq 34 t15 t16) fun t17 =>
  gd t17 false
  (ACalls P n_l_same [t13, t8] H11 fun v18 H19 =>
  bnd (aNot v18) fun t20 =>
  gd t20 false
  (ACalls P n_i_Changes [v3] H19 fun v21 H22 =>
  ACalls P n_s_Changes [v3] H22 fun v23 H24 =>
  bnd (aBinN .neq v21 v23) fun t25 =>
  cnd t25
  (Ret R (.bool false) H24)
  (ACalls P n_i_FullTimes [v3] H24 fun v26 H27 =>
  ACalls P n_s_FullTimes [v3] H27 fun v28 H29 =>
  ACalls P n_l_same [v26, v28] H29 fun v30 H31 =>
  bnd (aNot v30) fun t32 =>
  cnd t32
  (Ret R (.bool false) H31)
  (∃ (I33 : Nat → List V → Heap → Prop) (n34 : Nat), Shr (I33 n34 [(.box c14), (.int .i64 0)]) H31 ∧
  ∀ n35 xs37 H38, I33 n35 xs37 H38 →
  bnd (lenOf v26) fun n39 =>
  bnd (aBinN .lss (xs37.tail.headD .any) (.int .i64 (n39 : Nat))) fun t40 =>
  cnd t40
  (bnd (aIndex H38 1 v26 (xs37.tail.headD .any)) fun t41 =>
  bnd (aLd false 1 H38 t41) fun t42 =>
  bnd (aSlice H38 3 v3 none (some t42) none) fun t43 =>
  ACalls P n_i_PlayNear [t43] H38 fun v44 H45 =>
  bnd (aExtract 0 v44) fun t46 =>
  bnd (aExtract 1 v44) fun t47 =>
  bnd (stz 3 [(.int .i64 0), (.int .i64 0), (.int .i64 0)] 0 t46) fun c48 =>
  bnd (partOf false 1 c48 0) fun t49 =>
  bnd (aBinN .neq t49 (.int .i64 2)) fun t50 =>
  gd t50 true
  (bnd (partOf false 1 c48 0) fun t51 =>
  bnd (aBinN .neq t51 (.int .i64 3)) fun t52 =>
  cnd t52
  (Ret R (.bool false) H45)
  (∃ (I53 : Nat → List V → Heap → Prop) (n54 : Nat), Shr (I53 n54 [(.bool false), (.int .i64 0)]) H45 ∧
  ∀ n55 xs57 H58, I53 n55 xs57 H58 →
  bnd (aIndex H58 1 v26 (xs37.tail.headD .any)) fun t59 =>
  bnd (aLd false 1 H58 t59) fun t60 =>
  bnd (aBinN .lss (xs57.tail.headD .any) t60) fun t61 =>
  cnd t61
  (gd (xs57.headD .any) false
  (bnd (aIndex H58 3 v3 (xs57.tail.headD .any)) fun t62 =>
  bnd (aField 0 t62) fun t63 =>
  bnd (aLd false 1 H58 t63) fun t64 =>
  bnd (aBinN .eql t64 (.int .i64 1)) fun t65 =>
  bnd (aBinN .add (xs57.tail.headD .any) (.int .i64 1)) fun t66 =>
  ∃ n56, n56 < n55 ∧ Shr (I53 n56 [t65, t66]) H58)
  (bnd (aBinN .add (xs57.tail.headD .any) (.int .i64 1)) fun t67 =>
  ∃ n56, n56 < n55 ∧ Shr (I53 n56 [(.bool true), t67]) H58))
  (bnd (aNot (xs57.headD .any)) fun t68 =>
  cnd t68
  (Ret R (.bool false) H58)
  (bnd (aBinN .add (xs37.tail.headD .any) (.int .i64 1)) fun t69 =>
  ∃ n36, n36 < n35 ∧ Shr (I33 n36 [(.box (bc (xs37.headD .any))), t69]) H58))))
  (∃ (I70 : Nat → List V → Heap → Prop) (n71 : Nat), Shr (I70 n71 [(.bool false), (.int .i64 0)]) H45 ∧
  ∀ n72 xs74 H75, I70 n72 xs74 H75 →
  bnd (aIndex H75 1 v26 (xs37.tail.headD .any)) fun t76 =>
  bnd (aLd false 1 H75 t76) fun t77 =>
  bnd (aBinN .lss (xs74.tail.headD .any) t77) fun t78 =>
  cnd t78
  (gd (xs74.headD .any) false
  (bnd (aIndex H75 3 v3 (xs74.tail.headD .any)) fun t79 =>
  bnd (aField 0 t79) fun t80 =>
  bnd (aLd false 1 H75 t80) fun t81 =>
  bnd (aBinN .eql t81 (.int .i64 1)) fun t82 =>
  bnd (aBinN .add (xs74.tail.headD .any) (.int .i64 1)) fun t83 =>
  ∃ n73, n73 < n72 ∧ Shr (I70 n73 [t82, t83]) H75)
  (bnd (aBinN .add (xs74.tail.headD .any) (.int .i64 1)) fun t84 =>
  ∃ n73, n73 < n72 ∧ Shr (I70 n73 [(.bool true), t84]) H75))
  (bnd (aNot (xs74.headD .any)) fun t85 =>
  cnd t85
  (Ret R (.bool false) H75)
  (bnd (aBinN .add (xs37.tail.headD .any) (.int .i64 1)) fun t86 =>
  ∃ n36, n36 < n35 ∧ Shr (I33 n36 [(.box (bc (xs37.headD .any))), t86]) H75))))
  (bnd (partOf true 3 (bc (xs37.headD .any)) 0) fun t87 =>
  ACalls P n_i_DeadAt [t87] H38 fun v88 H89 =>
  bnd (aBinN .lss v88 (.int .i64 0)) fun t90 =>
  cnd t90
  (Ret R (.bool true) H89)
  (bnd (partOf true 3 (bc (xs37.headD .any)) 0) fun t91 =>
  bnd (fillZ [(.int .i64 0), (.int .i64 0), (.int .i64 0)] [(0, 1, (.int .i64 4)), (1, 1, v88)]) fun c92 =>
  ACalls P n_i_StepNear [t91, (.agg c92)] H89 fun v93 H94 =>
  bnd (aExtract 0 v93) fun t95 =>
  bnd (aExtract 1 v93) fun t96 =>
  bnd (stz 3 [(.int .i64 0), (.int .i64 0), (.int .i64 0)] 0 t95) fun c97 =>
  bnd (partOf true 3 (bc (xs37.headD .any)) 0) fun t98 =>
  bnd (aBinN .sub v88 (.int .i64 1)) fun t99 =>
  bnd (fillZ [(.int .i64 0), (.int .i64 0), (.int .i64 0)] [(0, 1, (.int .i64 4)), (1, 1, t99)]) fun c100 =>
  ACalls P n_i_StepNear [t98, (.agg c100)] H94 fun v101 H102 =>
  bnd (aExtract 0 v101) fun t103 =>
  bnd (aExtract 1 v101) fun t104 =>
  bnd (stz 3 [(.int .i64 0), (.int .i64 0), (.int .i64 0)] 0 t103) fun c105 =>
  bnd (partOf false 1 c97 0) fun t106 =>
  bnd (aBinN .eql t106 (.int .i64 0)) fun t107 =>
  gd t107 true
  (bnd (aBinN .eql t96 (.int .i64 1)) fun t108 =>
  gd t108 true
  (bnd (partOf false 1 c105 0) fun t109 =>
  bnd (partOf false 1 (bc (xs37.headD .any)) 0) fun t110 =>
  bnd (aBinN .eql t109 t110) fun t111 =>
  gd t111 true
  (bnd (aBinN .eql t104 (.int .i64 0)) fun t112 =>
  Ret R t112 H102)
  (Ret R (.bool false) H102))
  (Ret R (.bool false) H102))
  (Ret R (.bool false) H102))))))
  (Ret R (.bool false) H19))
  (Ret R (.bool false) H11))
theorem W_l_FnNear {R : V → Heap → Prop} {a0 : V} {H : Heap} (h : F_l_FnNear R a0 H) : ACalls P n_l_FnNear [a0] H R :=
  acalls_of_form (g := ⟨[4, 6, 10, 15, 17], [72, 76, 118, 126, 128]⟩) (x := (.seq .leaf (.seq (.seq .leaf (.cond (.seq .leaf .leaf) .leaf)) (.seq .leaf (.seq .leaf (.seq .leaf (.seq (.seq .leaf (.cond (.seq .leaf .leaf) .leaf)) (.seq .leaf (.seq (.seq .leaf (.cond (.seq .leaf .leaf) .leaf)) (.seq (.seq .leaf (.block (.loop [6, 9] (.seq (.seq .leaf (.cond .leaf .leaf)) (.seq (.block (.seq .leaf (.seq (.seq .leaf (.cond (.seq .leaf .leaf) .leaf)) (.seq .leaf (.seq (.seq .leaf (.block (.loop [12, 13] (.seq (.seq .leaf (.cond .leaf .leaf)) (.seq (.block .leaf) .leaf))))) (.seq .leaf (.cond (.seq .leaf .leaf) .leaf))))))) .leaf))))) (.seq .leaf (.seq (.seq .leaf (.cond (.seq .leaf .leaf) .leaf)) (.seq .leaf (.seq .leaf (.seq .leaf .leaf))))))))))))))) Try.func5 (by kernel_rfl) (by kernel_rfl) (by kernel_rfl) (by kernel_rfl : F_l_FnNear R a0 H = _) h
def F_l_szNearEventS (R : V → Heap → Prop) (a0 a1 : V) (H : Heap) : Prop :=
  bnd (lenOf a0) fun n1 =>
  bnd (aBinN .sub a1 (.int .i64 (n1 : Nat))) fun t2 =>
  bnd (aBinN .lss t2 (.int .i64 0)) fun t3 =>
  cnd t3
  (Ret R (.int .i64 (-1)) H)
  (Ret R t2 H)
theorem W_l_szNearEventS {R : V → Heap → Prop} {a0 a1 : V} {H : Heap} (h : F_l_szNearEventS R a0 a1 H) : ACalls P n_l_szNearEventS [a0, a1] H R :=
  acalls_of_form (g := ⟨[], []⟩) (x := (.seq .leaf (.seq .leaf (.seq (.seq .leaf (.cond (.seq .leaf .leaf) .leaf)) (.seq .leaf .leaf))))) Try.func6 (by kernel_rfl) (by kernel_rfl) (by kernel_rfl) (by kernel_rfl : F_l_szNearEventS R a0 a1 H = _) h
def F_s_FullTimes (R : V → Heap → Prop) (a0 : V) (H : Heap) : Prop :=
  bnd (bsl 1 0 [(.int .i64 0)] []) fun r1 =>
  ∀ o2, H o2 = none →
  bnd (lenOf a0) fun n3 =>
  bnd (aBinN .gtr (.int .i64 (n3 : Nat)) (.int .i64 300)) fun t4 =>
  cnd t4
  (Ret R .nils (upd H o2 ⟨1, r1⟩))
  (bnd (fillZ [(.int .i64 0), (.int .i64 0), (.int .i64 0)] []) fun c5 =>
  bnd (stz 3 [(.int .i64 0), (.int .i64 0), (.int .i64 0)] 0 (.agg c5)) fun c6 =>
  ∃ (I7 : Nat → List V → Heap → Prop) (n8 : Nat), Shr (I7 n8 [(.slice o2 0 0 (some 0)), (.box c6), (.int .i64 0)]) (upd H o2 ⟨1, r1⟩) ∧
  ∀ n9 xs11 H12, I7 n9 xs11 H12 →
  bnd (lenOf a0) fun n13 =>
  bnd (aBinN .lss (xs11.tail.tail.headD .any) (.int .i64 (n13 : Nat))) fun t14 =>
  cnd t14
  (∃ S15, Abs.sub S15 H12 ∧
  bnd (partOf true 3 (bc (xs11.tail.headD .any)) 0) fun t16 =>
  bnd (aIndex S15 3 a0 (xs11.tail.tail.headD .any)) fun t17 =>
  bnd (aLd true 3 S15 t17) fun t18 =>
  ACalls P n_s_StepNear [t16, t18] H12 fun v19 H20 =>
  Abs.sub S15 H20 ∧
  bnd (aExtract 0 v19) fun t21 =>
  bnd (aExtract 1 v19) fun t22 =>
  bnd (stz 3 [(.int .i64 0), (.int .i64 0), (.int .i64 0)] 0 t21) fun c23 =>
  bnd (aBinN .eql t22 (.int .i64 1)) fun t24 =>
  gd t24 true
  (bnd (partOf false 1 c23 0) fun t25 =>
  bnd (aBinN .eql t25 (.int .i64 4)) fun t26 =>
  cnd t26
  (bnd (bsl 1 1 [(.int .i64 0)] [(0, (xs11.tail.tail.headD .any))]) fun r27 =>
  ∀ o28, H20 o28 = none →
  bnd (rowsOf (upd H20 o28 ⟨1, r27⟩) 1 (.slice o28 0 1 (some 1))) fun r31 =>
  appendK (upd H20 o28 ⟨1, r27⟩) 1 8 (xs11.headD .any) r31 fun v29 H30 =>
  bnd (partOf true 3 c23 0) fun t32 =>
  bnd (stz 3 (bc (xs11.tail.headD .any)) 0 t32) fun c33 =>
  bnd (aBinN .add (xs11.tail.tail.headD .any) (.int .i64 1)) fun t34 =>
  ∃ n10, n10 < n9 ∧ Shr (I7 n10 [v29, (.box c33), t34]) H30)
  (bnd (partOf true 3 c23 0) fun t35 =>
  bnd (stz 3 (bc (xs11.tail.headD .any)) 0 t35) fun c36 =>
  bnd (aBinN .add (xs11.tail.tail.headD .any) (.int .i64 1)) fun t37 =>
  ∃ n10, n10 < n9 ∧ Shr (I7 n10 [(xs11.headD .any), (.box c36), t37]) H20))
  (bnd (partOf true 3 c23 0) fun t38 =>
  bnd (stz 3 (bc (xs11.tail.headD .any)) 0 t38) fun c39 =>
  bnd (aBinN .add (xs11.tail.tail.headD .any) (.int .i64 1)) fun t40 =>
  ∃ n10, n10 < n9 ∧ Shr (I7 n10 [(xs11.headD .any), (.box c39), t40]) H20))
  (Ret R (xs11.headD .any) H12))
theorem W_s_FullTimes {R : V → Heap → Prop} {a0 : V} {H : Heap} (h : F_s_FullTimes R a0 H) : ACalls P n_s_FullTimes [a0] H R :=
  acalls_of_form (g := ⟨[4, 6], [31]⟩) (x := (.seq .leaf (.seq .leaf (.seq (.seq .leaf (.cond (.seq .leaf .leaf) .leaf)) (.seq .leaf (.seq (.seq .leaf (.block (.loop [3, 4, 5] (.seq (.seq .leaf (.cond .leaf .leaf)) (.seq (.block (.seq (.draw [0, 1, 2, 3, 4, 9, 5, 6, 7, 8, 10, 11]) (.seq (.seq .leaf (.cond .leaf .leaf)) .leaf))) .leaf))))) (.seq .leaf .leaf))))))) Try.func7 (by kernel_rfl) (by kernel_rfl) (by kernel_rfl) (by kernel_rfl : F_s_FullTimes R a0 H = _) h
def F_l_toNearEventS (R : V → Heap → Prop) (a0 : V) (H : Heap) : Prop :=
  bnd (lenOf a0) fun n1 =>
  bnd (natOf (.int .i64 (n1 : Nat))) fun n2 =>
  bnd (natOf (.int .i64 (n1 : Nat))) fun n3 =>
  (n2 ≤ n3 ∧ n3 ≤ 140737488355328 ∧ 24 * n3 ≤ 281474976710656 ∧ 3 = 3 ∧ 0 < 3) ∧
  ∀ o4, H o4 = none →
  ∃ (I5 : Nat → List V → Heap → Prop) (n6 : Nat), Shr (I5 n6 [(.int .i64 0)]) (upd H o4 ⟨3, List.replicate n3 [(.int .i64 0), (.int .i64 0), (.int .i64 0)]⟩) ∧
  ∀ n7 xs9 H10, I5 n7 xs9 H10 →
  bnd (lenOf a0) fun n11 =>
  bnd (aBinN .lss (xs9.headD .any) (.int .i64 (n11 : Nat))) fun t12 =>
  cnd t12
  (bnd (aIndex H10 3 a0 (xs9.headD .any)) fun t13 =>
  bnd (aLd true 3 H10 t13) fun t14 =>
  ACalls P n_l_toNearEvent [t14] H10 fun v15 H16 =>
  bnd (aIndex H16 3 (.slice o4 0 n2 (some n3)) (xs9.headD .any)) fun t17 =>
  bnd (aSt 3 H16 t17 v15) fun H18 =>
  bnd (aBinN .add (xs9.headD .any) (.int .i64 1)) fun t19 =>
  ∃ n8, n8 < n7 ∧ Shr (I5 n8 [t19]) H18)
  (Ret R (.slice o4 0 n2 (some n3)) H10)
theorem W_l_toNearEventS {R : V → Heap → Prop} {a0 : V} {H : Heap} (h : F_l_toNearEventS R a0 H) : ACalls P n_l_toNearEventS [a0] H R :=
  acalls_of_form (g := ⟨[], []⟩) (x := (.seq .leaf (.seq .leaf (.seq (.seq .leaf (.block (.loop [4] (.seq (.seq .leaf (.cond .leaf .leaf)) (.seq (.block .leaf) .leaf))))) (.seq .leaf .leaf))))) Try.func8 (by kernel_rfl) (by kernel_rfl) (by kernel_rfl) (by kernel_rfl : F_l_toNearEventS R a0 H = _) h
def F_i_FullTimes (R : V → Heap → Prop) (a0 : V) (H : Heap) : Prop :=
  bnd (lenOf a0) fun n1 =>
  bnd (aBinN .gtr (.int .i64 (n1 : Nat)) (.int .i64 300)) fun t2 =>
  cnd t2
  (Ret R .nils H)
  (bnd (bsl 1 0 [(.int .i64 0)] []) fun r3 =>
  ∀ o4, H o4 = none →
  ∀ o5, (upd H o4 ⟨1, r3⟩) o5 = none →
  bnd (aSt 1 (upd (upd H o4 ⟨1, r3⟩) o5 ⟨1, [[.nils]]⟩) (.ptr o5 0 0) (.slice o4 0 0 (some 0))) fun H6 =>
  ACalls P n_i_played [a0, (.fn n_i_FullTimes_1 [(.ptr o5 0 0)])] H6 fun v7 H8 =>
  bnd (aLd false 1 H8 (.ptr o5 0 0)) fun t9 =>
  ACalls P n_slices_Clip_int_int [t9] H8 fun v10 H11 =>
  Ret R v10 H11)
theorem W_i_FullTimes {R : V → Heap → Prop} {a0 : V} {H : Heap} (h : F_i_FullTimes R a0 H) : ACalls P n_i_FullTimes [a0] H R :=
  acalls_of_form (g := ⟨[], []⟩) (x := (.seq .leaf (.seq (.seq .leaf (.cond (.seq .leaf .leaf) .leaf)) (.seq .leaf (.seq .leaf (.seq .leaf .leaf)))))) Try.func9 (by kernel_rfl) (by kernel_rfl) (by kernel_rfl) (by kernel_rfl : F_i_FullTimes R a0 H = _) h
def F_l_eqIntS (R : V → Heap → Prop) (a0 a1 : V) (H : Heap) : Prop :=
  bnd (lenOf a0) fun n1 =>
  bnd (lenOf a1) fun n2 =>
  bnd (aBinN .neq (.int .i64 (n1 : Nat)) (.int .i64 (n2 : Nat))) fun t3 =>
  cnd t3
  (Ret R (.bool false) H)
  (∃ (I4 : Nat → List V → Heap → Prop) (n5 : Nat), Shr (I4 n5 [(.int .i64 0)]) H ∧
  ∀ n6 xs8 H9, I4 n6 xs8 H9 →
  bnd (lenOf a0) fun n10 =>
  bnd (aBinN .lss (xs8.headD .any) (.int .i64 (n10 : Nat))) fun t11 =>
  cnd t11
  (∃ S12, Abs.sub S12 H9 ∧
  bnd (aIndex S12 1 a0 (xs8.headD .any)) fun t13 =>
  bnd (aLd false 1 S12 t13) fun t14 =>
  bnd (aIndex S12 1 a1 (xs8.headD .any)) fun t15 =>
  bnd (aLd false 1 S12 t15) fun t16 =>
  bnd (aBinN .neq t14 t16) fun t17 =>
  cnd t17
  (Ret R (.bool false) H9)
  (bnd (aBinN .add (xs8.headD .any) (.int .i64 1)) fun t18 =>
  ∃ n7, n7 < n6 ∧ Shr (I4 n7 [t18]) H9))
  (Ret R (.bool true) H9))
theorem W_l_eqIntS {R : V → Heap → Prop} {a0 a1 : V} {H : Heap} (h : F_l_eqIntS R a0 a1 H) : ACalls P n_l_eqIntS [a0, a1] H R :=
  acalls_of_form (g := ⟨[], []⟩) (x := (.seq .leaf (.seq (.seq .leaf (.cond (.seq .leaf .leaf) .leaf)) (.seq (.seq .leaf (.block (.loop [5] (.seq (.seq .leaf (.cond .leaf .leaf)) (.seq (.block (.seq (.draw [0, 1, 2, 3, 4, 5, 6, 7, 8]) (.cond (.seq .leaf .leaf) .leaf))) .leaf))))) (.seq .leaf .leaf))))) Try.func10 (by kernel_rfl) (by kernel_rfl) (by kernel_rfl) (by kernel_rfl : F_l_eqIntS R a0 a1 H = _) h
def F_l_eqNearEventS (R : V → Heap → Prop) (a0 a1 : V) (H : Heap) : Prop :=
  bnd (lenOf a0) fun n1 =>
  bnd (lenOf a1) fun n2 =>
  bnd (aBinN .neq (.int .i64 (n1 : Nat)) (.int .i64 (n2 : Nat))) fun t3 =>
  cnd t3
  (Ret R (.bool false) H)
  (∃ (I4 : Nat → List V → Heap → Prop) (n5 : Nat), Shr (I4 n5 [(.int .i64 0)]) H ∧
  ∀ n6 xs8 H9, I4 n6 xs8 H9 →
  bnd (lenOf a0) fun n10 =>
  bnd (aBinN .lss (xs8.headD .any) (.int .i64 (n10 : Nat))) fun t11 =>
  cnd t11
  (∃ S12, Abs.sub S12 H9 ∧
  bnd (aIndex S12 3 a0 (xs8.headD .any)) fun t13 =>
  bnd (aLd true 3 S12 t13) fun t14 =>
  bnd (aIndex S12 3 a1 (xs8.headD .any)) fun t15 =>
  bnd (aLd true 3 S12 t15) fun t16 =>
  ACalls P n_l_eqNearEvent [t14, t16] H9 fun v17 H18 =>
  Abs.sub S12 H18 ∧
  bnd (aNot v17) fun t19 =>
  cnd t19
  (Ret R (.bool false) H18)
  (bnd (aBinN .add (xs8.headD .any) (.int .i64 1)) fun t20 =>
  ∃ n7, n7 < n6 ∧ Shr (I4 n7 [t20]) H18))
  (Ret R (.bool true) H9))
theorem W_l_eqNearEventS {R : V → Heap → Prop} {a0 a1 : V} {H : Heap} (h : F_l_eqNearEventS R a0 a1 H) : ACalls P n_l_eqNearEventS [a0, a1] H R :=
  acalls_of_form (g := ⟨[], []⟩) (x := (.seq .leaf (.seq (.seq .leaf (.cond (.seq .leaf .leaf) .leaf)) (.seq (.seq .leaf (.block (.loop [5] (.seq (.seq .leaf (.cond .leaf .leaf)) (.seq (.block (.seq (.draw [0, 1, 2, 3, 4, 5, 6, 7, 8, 9]) (.cond (.seq .leaf .leaf) .leaf))) .leaf))))) (.seq .leaf .leaf))))) Try.func11 (by kernel_rfl) (by kernel_rfl) (by kernel_rfl) (by kernel_rfl : F_l_eqNearEventS R a0 a1 H = _) h
def F_l_markNearEventS (R : V → Heap → Prop) (a0 a1 : V) (H : Heap) : Prop :=
  ∃ (I1 : Nat → List V → Heap → Prop) (n2 : Nat), Shr (I1 n2 [a1, (.int .i64 0)]) H ∧
  ∀ n3 xs5 H6, I1 n3 xs5 H6 →
  bnd (lenOf a0) fun n7 =>
  bnd (aBinN .lss (xs5.tail.headD .any) (.int .i64 (n7 : Nat))) fun t8 =>
  cnd t8
  (bnd (aIndex H6 3 a0 (xs5.tail.headD .any)) fun t9 =>
  bnd (aField 0 t9) fun t10 =>
  bnd (aSt 1 H6 t10 (xs5.headD .any)) fun H11 =>
  bnd (aBinN .add (xs5.headD .any) (.int .i64 1)) fun t12 =>
  bnd (aIndex H11 3 a0 (xs5.tail.headD .any)) fun t13 =>
  bnd (aField 1 t13) fun t14 =>
  bnd (aSt 1 H11 t14 t12) fun H15 =>
  bnd (aBinN .add t12 (.int .i64 1)) fun t16 =>
  bnd (aIndex H15 3 a0 (xs5.tail.headD .any)) fun t17 =>
  bnd (aField 2 t17) fun t18 =>
  bnd (aSt 1 H15 t18 t16) fun H19 =>
  bnd (aBinN .add t16 (.int .i64 1)) fun t20 =>
  bnd (aBinN .add (xs5.tail.headD .any) (.int .i64 1)) fun t21 =>
  ∃ n4, n4 < n3 ∧ Shr (I1 n4 [t20, t21]) H19)
  (Ret R (xs5.headD .any) H6)
theorem W_l_markNearEventS {R : V → Heap → Prop} {a0 a1 : V} {H : Heap} (h : F_l_markNearEventS R a0 a1 H) : ACalls P n_l_markNearEventS [a0, a1] H R :=
  acalls_of_form (g := ⟨[], []⟩) (x := (.seq .leaf (.seq (.seq .leaf (.block (.loop [1, 5] (.seq (.seq .leaf (.cond .leaf .leaf)) (.seq (.block (.seq .leaf (.seq .leaf (.seq .leaf (.seq .leaf (.seq .leaf .leaf)))))) .leaf))))) (.seq .leaf .leaf)))) Try.func12 (by kernel_rfl) (by kernel_rfl) (by kernel_rfl) (by kernel_rfl : F_l_markNearEventS R a0 a1 H = _) h
def F_l_markIntS (R : V → Heap → Prop) (a0 a1 : V) (H : Heap) : Prop :=
  ∃ (I1 : Nat → List V → Heap → Prop) (n2 : Nat), Shr (I1 n2 [a1, (.int .i64 0)]) H ∧
  ∀ n3 xs5 H6, I1 n3 xs5 H6 →
  bnd (lenOf a0) fun n7 =>
  bnd (aBinN .lss (xs5.tail.headD .any) (.int .i64 (n7 : Nat))) fun t8 =>
  cnd t8
  (bnd (aIndex H6 1 a0 (xs5.tail.headD .any)) fun t9 =>
  bnd (aSt 1 H6 t9 (xs5.headD .any)) fun H10 =>
  bnd (aBinN .add (xs5.headD .any) (.int .i64 1)) fun t11 =>
  bnd (aBinN .add (xs5.tail.headD .any) (.int .i64 1)) fun t12 =>
  ∃ n4, n4 < n3 ∧ Shr (I1 n4 [t11, t12]) H10)
  (Ret R (xs5.headD .any) H6)
theorem W_l_markIntS {R : V → Heap → Prop} {a0 a1 : V} {H : Heap} (h : F_l_markIntS R a0 a1 H) : ACalls P n_l_markIntS [a0, a1] H R :=
  acalls_of_form (g := ⟨[], []⟩) (x := (.seq .leaf (.seq (.seq .leaf (.block (.loop [1, 5] (.seq (.seq .leaf (.cond .leaf .leaf)) (.seq (.block (.seq .leaf .leaf)) .leaf))))) (.seq .leaf .leaf)))) Try.func13 (by kernel_rfl) (by kernel_rfl) (by kernel_rfl) (by kernel_rfl : F_l_markIntS R a0 a1 H = _) h
def F_l_heldIntS (R : V → Heap → Prop) (a0 a1 : V) (H : Heap) : Prop :=
  ∃ (I1 : Nat → List V → Heap → Prop) (n2 : Nat), Shr (I1 n2 [a1, (.int .i64 0)]) H ∧
  ∀ n3 xs5 H6, I1 n3 xs5 H6 →
  bnd (lenOf a0) fun n7 =>
  bnd (aBinN .lss (xs5.tail.headD .any) (.int .i64 (n7 : Nat))) fun t8 =>
  cnd t8
  (bnd (aIndex H6 1 a0 (xs5.tail.headD .any)) fun t9 =>
  bnd (aLd false 1 H6 t9) fun t10 =>
  bnd (aBinN .neq t10 (xs5.headD .any)) fun t11 =>
  cnd t11
  (Ret R (.int .i64 (-1)) H6)
  (bnd (aBinN .add (xs5.headD .any) (.int .i64 1)) fun t12 =>
  bnd (aBinN .add (xs5.tail.headD .any) (.int .i64 1)) fun t13 =>
  ∃ n4, n4 < n3 ∧ Shr (I1 n4 [t12, t13]) H6))
  (Ret R (xs5.headD .any) H6)
theorem W_l_heldIntS {R : V → Heap → Prop} {a0 a1 : V} {H : Heap} (h : F_l_heldIntS R a0 a1 H) : ACalls P n_l_heldIntS [a0, a1] H R :=
  acalls_of_form (g := ⟨[], []⟩) (x := (.seq .leaf (.seq (.seq .leaf (.block (.loop [1, 5] (.seq (.seq .leaf (.cond .leaf .leaf)) (.seq (.block (.seq (.seq .leaf (.cond (.seq .leaf .leaf) .leaf)) .leaf)) .leaf))))) (.seq .leaf .leaf)))) Try.func14 (by kernel_rfl) (by kernel_rfl) (by kernel_rfl) (by kernel_rfl : F_l_heldIntS R a0 a1 H = _) h
def F_s_PlayNear (R : V → Heap → Prop) (a0 : V) (H : Heap) : Prop :=
  bnd (lenOf a0) fun n1 =>
  bnd (aBinN .gtr (.int .i64 (n1 : Nat)) (.int .i64 300)) fun t2 =>
  cnd t2
  (bnd (fillZ [(.int .i64 0), (.int .i64 0), (.int .i64 0)] []) fun c3 =>
  bnd (stz 3 [(.int .i64 0), (.int .i64 0), (.int .i64 0)] 0 (.agg c3)) fun c4 =>
  bnd (partOf true 3 c4 0) fun t5 =>
  Ret R (.tup [t5, .nils]) H)
  (bnd (fillZ [(.int .i64 0), (.int .i64 0), (.int .i64 0)] []) fun c6 =>
  bnd (stz 3 [(.int .i64 0), (.int .i64 0), (.int .i64 0)] 0 (.agg c6)) fun c7 =>
  bnd (bsl 1 0 [(.int .i64 0)] []) fun r8 =>
  ∀ o9, H o9 = none →
  ∃ (I10 : Nat → List V → Heap → Prop) (n11 : Nat), Shr (I10 n11 [(.box [(.int .i64 0), (.int .i64 0), (.int .i64 0)]), (.box c7), (.slice o9 0 0 (some 0)), (.int .i64 0)]) (upd H o9 ⟨1, r8⟩) ∧
  ∀ n12 xs14 H15, I10 n12 xs14 H15 →
  bnd (lenOf a0) fun n16 =>
  bnd (aBinN .lss (xs14.tail.tail.tail.headD .any) (.int .i64 (n16 : Nat))) fun t17 =>
  cnd t17
  (∃ S18, Abs.sub S18 H15 ∧
  bnd (partOf true 3 (bc (xs14.tail.headD .any)) 0) fun t19 =>
  bnd (aIndex S18 3 a0 (xs14.tail.tail.tail.headD .any)) fun t20 =>
  bnd (aLd true 3 S18 t20) fun t21 =>
  ACalls P n_s_StepNear [t19, t21] H15 fun v22 H23 =>
  Abs.sub S18 H23 ∧
  bnd (aExtract 0 v22) fun t24 =>
  bnd (aExtract 1 v22) fun t25 =>
  bnd (stz 3 [(.int .i64 0), (.int .i64 0), (.int .i64 0)] 0 t24) fun c26 =>
  bnd (partOf true 3 c26 0) fun t27 =>
  bnd (stz 3 (bc (xs14.tail.headD .any)) 0 t27) fun c28 =>
  bnd (bsl 1 1 [(.int .i64 0)] [(0, t25)]) fun r29 =>
  ∀ o30, H23 o30 = none →
  bnd (rowsOf (upd H23 o30 ⟨1, r29⟩) 1 (.slice o30 0 1 (some 1))) fun r33 =>
  appendK (upd H23 o30 ⟨1, r29⟩) 1 8 (xs14.tail.tail.headD .any) r33 fun v31 H32 =>
  bnd (aBinN .add (xs14.tail.tail.tail.headD .any) (.int .i64 1)) fun t34 =>
  ∃ n13, n13 < n12 ∧ Shr (I10 n13 [(.box (bc (xs14.headD .any))), (.box c28), v31, t34]) H32)
  (bnd (partOf true 3 (bc (xs14.tail.headD .any)) 0) fun t35 =>
  bnd (stz 3 (bc (xs14.headD .any)) 0 t35) fun c36 =>
  bnd (partOf true 3 c36 0) fun t37 =>
  Ret R (.tup [t37, (xs14.tail.tail.headD .any)]) H15))
theorem W_s_PlayNear {R : V → Heap → Prop} {a0 : V} {H : Heap} (h : F_s_PlayNear R a0 H) : ACalls P n_s_PlayNear [a0] H R :=
  acalls_of_form (g := ⟨[2, 4, 7], []⟩) (x := (.seq .leaf (.seq (.seq .leaf (.cond (.seq .leaf .leaf) .leaf)) (.seq .leaf (.seq .leaf (.seq (.seq .leaf (.block (.loop [2, 4, 5, 6] (.seq (.seq .leaf (.cond .leaf .leaf)) (.seq (.block (.seq (.draw [0, 1, 2, 3, 4, 9, 5, 6, 7, 8, 10, 11]) (.seq .leaf .leaf))) .leaf))))) (.seq .leaf .leaf))))))) Try.func15 (by kernel_rfl) (by kernel_rfl) (by kernel_rfl) (by kernel_rfl : F_s_PlayNear R a0 H = _) h
def F_i_PlayNear (R : V → Heap → Prop) (a0 : V) (H : Heap) : Prop :=
  bnd (lenOf a0) fun n1 =>
  bnd (aBinN .gtr (.int .i64 (n1 : Nat)) (.int .i64 300)) fun t2 =>
  cnd t2
  (bnd (fillZ [(.int .i64 0), (.int .i64 0), (.int .i64 0)] []) fun c3 =>
  bnd (stz 3 [(.int .i64 0), (.int .i64 0), (.int .i64 0)] 0 (.agg c3)) fun c4 =>
  bnd (partOf true 3 c4 0) fun t5 =>
  Ret R (.tup [t5, .nils]) H)
  (bnd (bsl 1 0 [(.int .i64 0)] []) fun r6 =>
  ∀ o7, H o7 = none →
  ∀ o8, (upd H o7 ⟨1, r6⟩) o8 = none →
  bnd (aSt 1 (upd (upd H o7 ⟨1, r6⟩) o8 ⟨1, [[.nils]]⟩) (.ptr o8 0 0) (.slice o7 0 0 (some 0))) fun H9 =>
  ACalls P n_i_played [a0, (.fn n_i_PlayNear_1 [(.ptr o8 0 0)])] H9 fun v10 H11 =>
  bnd (stz 3 [(.int .i64 0), (.int .i64 0), (.int .i64 0)] 0 v10) fun c12 =>
  ∃ S13, Abs.sub S13 H11 ∧
  bnd (partOf true 3 c12 0) fun t14 =>
  bnd (aLd false 1 S13 (.ptr o8 0 0)) fun t15 =>
  bnd (stz 3 [(.int .i64 0), (.int .i64 0), (.int .i64 0)] 0 t14) fun c16 =>
  bnd (partOf true 3 c16 0) fun t17 =>
  Ret R (.tup [t17, t15]) H11)
theorem W_i_PlayNear {R : V → Heap → Prop} {a0 : V} {H : Heap} (h : F_i_PlayNear R a0 H) : ACalls P n_i_PlayNear [a0] H R :=
  acalls_of_form (g := ⟨[2, 5], []⟩) (x := (.seq .leaf (.seq (.seq .leaf (.cond (.seq .leaf .leaf) .leaf)) (.seq .leaf (.seq .leaf (.seq (.draw [0, 1, 2, 3]) .leaf)))))) Try.func16 (by kernel_rfl) (by kernel_rfl) (by kernel_rfl) (by kernel_rfl : F_i_PlayNear R a0 H = _) h
def F_l_eqNear (R : V → Heap → Prop) (a0 a1 : V) (H : Heap) : Prop :=
  boxK a0 (boxK a1 (bnd (partOf false 1 (cellsOf a0) 0) fun t1 =>
  bnd (partOf false 1 (cellsOf a1) 0) fun t2 =>
  bnd (aBinN .neq t1 t2) fun t3 =>
  cnd t3
  (Ret R (.bool false) H)
  (bnd (partOf false 1 (cellsOf a0) 1) fun t4 =>
  bnd (partOf false 1 (cellsOf a1) 1) fun t5 =>
  bnd (aBinN .neq t4 t5) fun t6 =>
  cnd t6
  (Ret R (.bool false) H)
  (bnd (partOf false 1 (cellsOf a0) 2) fun t7 =>
  bnd (partOf false 1 (cellsOf a1) 2) fun t8 =>
  bnd (aBinN .neq t7 t8) fun t9 =>
  cnd t9
  (Ret R (.bool false) H)
  (Ret R (.bool true) H)))))
theorem W_l_eqNear {R : V → Heap → Prop} {a0 a1 : V} {H : Heap} (h : F_l_eqNear R a0 a1 H) : ACalls P n_l_eqNear [a0, a1] H R :=
  acalls_of_form (g := ⟨[2, 3], [5, 7, 10, 12, 15, 17]⟩) (x := (.seq .leaf (.seq (.seq .leaf (.cond (.seq .leaf .leaf) .leaf)) (.seq (.seq .leaf (.cond (.seq .leaf .leaf) .leaf)) (.seq (.seq .leaf (.cond (.seq .leaf .leaf) .leaf)) (.seq .leaf .leaf)))))) Try.func17 (by kernel_rfl) (by kernel_rfl) (by kernel_rfl) (by kernel_rfl : F_l_eqNear R a0 a1 H = _) h
def F_l_big (R : V → Heap → Prop) (a0 : V) (H : Heap) : Prop :=
  bnd (lenOf a0) fun n1 =>
  bnd (aBinN .gtr (.int .i64 (n1 : Nat)) (.int .i64 1048576)) fun t2 =>
  Ret R t2 H
theorem W_l_big {R : V → Heap → Prop} {a0 : V} {H : Heap} (h : F_l_big R a0 H) : ACalls P n_l_big [a0] H R :=
  acalls_of_form (g := ⟨[], []⟩) (x := (.seq .leaf (.seq .leaf .leaf))) Try.func18 (by kernel_rfl) (by kernel_rfl) (by kernel_rfl) (by kernel_rfl : F_l_big R a0 H = _) h
def F_s_DrawPlayNear (R : V → Heap → Prop) (a0 : V) (H : Heap) : Prop :=
  ACalls P n_s_l07DrawEvents [a0] H fun v1 H2 =>
  Ret R v1 H2
theorem W_s_DrawPlayNear {R : V → Heap → Prop} {a0 : V} {H : Heap} (h : F_s_DrawPlayNear R a0 H) : ACalls P n_s_DrawPlayNear [a0] H R :=
  acalls_of_form (g := ⟨[], []⟩) (x := (.seq .leaf (.seq .leaf .leaf))) Try.func19 (by kernel_rfl) (by kernel_rfl) (by kernel_rfl) (by kernel_rfl : F_s_DrawPlayNear R a0 H = _) h
def F_l_same (R : V → Heap → Prop) (a0 a1 : V) (H : Heap) : Prop :=
  bnd (lenOf a0) fun n1 =>
  bnd (lenOf a1) fun n2 =>
  bnd (aBinN .neq (.int .i64 (n1 : Nat)) (.int .i64 (n2 : Nat))) fun t3 =>
  cnd t3
  (Ret R (.bool false) H)
  (∃ (I4 : Nat → List V → Heap → Prop) (n5 : Nat), Shr (I4 n5 [(.int .i64 0)]) H ∧
  ∀ n6 xs8 H9, I4 n6 xs8 H9 →
  bnd (lenOf a0) fun n10 =>
  bnd (aBinN .lss (xs8.headD .any) (.int .i64 (n10 : Nat))) fun t11 =>
  cnd t11
  (∃ S12, Abs.sub S12 H9 ∧
  bnd (aIndex S12 1 a0 (xs8.headD .any)) fun t13 =>
  bnd (aLd false 1 S12 t13) fun t14 =>
  bnd (aIndex S12 1 a1 (xs8.headD .any)) fun t15 =>
  bnd (aLd false 1 S12 t15) fun t16 =>
  bnd (aBinN .neq t14 t16) fun t17 =>
  cnd t17
  (Ret R (.bool false) H9)
  (bnd (aBinN .add (xs8.headD .any) (.int .i64 1)) fun t18 =>
  ∃ n7, n7 < n6 ∧ Shr (I4 n7 [t18]) H9))
  (Ret R (.bool true) H9))
theorem W_l_same {R : V → Heap → Prop} {a0 a1 : V} {H : Heap} (h : F_l_same R a0 a1 H) : ACalls P n_l_same [a0, a1] H R :=
  acalls_of_form (g := ⟨[], []⟩) (x := (.seq .leaf (.seq (.seq .leaf (.cond (.seq .leaf .leaf) .leaf)) (.seq (.seq .leaf (.block (.loop [5] (.seq (.seq .leaf (.cond .leaf .leaf)) (.seq (.block (.seq (.draw [0, 1, 2, 3, 4, 5, 6, 7, 8]) (.cond (.seq .leaf .leaf) .leaf))) .leaf))))) (.seq .leaf .leaf))))) Try.func20 (by kernel_rfl) (by kernel_rfl) (by kernel_rfl) (by kernel_rfl : F_l_same R a0 a1 H = _) h
def F_i_Changes (R : V → Heap → Prop) (a0 : V) (H : Heap) : Prop :=
  bnd (lenOf a0) fun n1 =>
  bnd (aBinN .gtr (.int .i64 (n1 : Nat)) (.int .i64 300)) fun t2 =>
  cnd t2
  (Ret R (.int .i64 (-1)) H)
  (∀ o3, H o3 = none →
  bnd (aSt 1 (upd H o3 ⟨1, [[(.int .i64 0)]]⟩) (.ptr o3 0 0) (.int .i64 0)) fun H4 =>
  ACalls P n_i_played [a0, (.fn n_i_Changes_1 [(.ptr o3 0 0)])] H4 fun v5 H6 =>
  bnd (aLd false 1 H6 (.ptr o3 0 0)) fun t7 =>
  Ret R t7 H6)
theorem W_i_Changes {R : V → Heap → Prop} {a0 : V} {H : Heap} (h : F_i_Changes R a0 H) : ACalls P n_i_Changes [a0] H R :=
  acalls_of_form (g := ⟨[], []⟩) (x := (.seq .leaf (.seq (.seq .leaf (.cond (.seq .leaf .leaf) .leaf)) (.seq .leaf (.seq .leaf (.seq .leaf .leaf)))))) Try.func21 (by kernel_rfl) (by kernel_rfl) (by kernel_rfl) (by kernel_rfl : F_i_Changes R a0 H = _) h
def F_s_Changes (R : V → Heap → Prop) (a0 : V) (H : Heap) : Prop :=
  bnd (lenOf a0) fun n1 =>
  bnd (aBinN .gtr (.int .i64 (n1 : Nat)) (.int .i64 300)) fun t2 =>
  cnd t2
  (Ret R (.int .i64 (-1)) H)
  (ACalls P n_s_PlayNear [a0] H fun v3 H4 =>
  bnd (aExtract 0 v3) fun t5 =>
  bnd (aExtract 1 v3) fun t6 =>
  bnd (stz 3 [(.int .i64 0), (.int .i64 0), (.int .i64 0)] 0 t5) fun c7 =>
  ∃ (I8 : Nat → List V → Heap → Prop) (n9 : Nat), Shr (I8 n9 [(.int .i64 0), (.int .i64 0)]) H4 ∧
  ∀ n10 xs12 H13, I8 n10 xs12 H13 →
  bnd (lenOf t6) fun n14 =>
  bnd (aBinN .lss (xs12.tail.headD .any) (.int .i64 (n14 : Nat))) fun t15 =>
  cnd t15
  (bnd (aIndex H13 1 t6 (xs12.tail.headD .any)) fun t16 =>
  bnd (aLd false 1 H13 t16) fun t17 =>
  bnd (aBinN .add (xs12.headD .any) t17) fun t18 =>
  bnd (aBinN .add (xs12.tail.headD .any) (.int .i64 1)) fun t19 =>
  ∃ n11, n11 < n10 ∧ Shr (I8 n11 [t18, t19]) H13)
  (Ret R (xs12.headD .any) H13))
theorem W_s_Changes {R : V → Heap → Prop} {a0 : V} {H : Heap} (h : F_s_Changes R a0 H) : ACalls P n_s_Changes [a0] H R :=
  acalls_of_form (g := ⟨[3], []⟩) (x := (.seq .leaf (.seq (.seq .leaf (.cond (.seq .leaf .leaf) .leaf)) (.seq .leaf (.seq .leaf (.seq (.seq .leaf (.block (.loop [5, 6] (.seq (.seq .leaf (.cond .leaf .leaf)) (.seq (.block .leaf) .leaf))))) (.seq .leaf .leaf))))))) Try.func22 (by kernel_rfl) (by kernel_rfl) (by kernel_rfl) (by kernel_rfl : F_s_Changes R a0 H = _) h
def F_i_DeadAt (R : V → Heap → Prop) (a0 : V) (H : Heap) : Prop :=
  boxK a0 (bnd (partOf true 3 (cellsOf a0) 0) fun t1 =>
  ACalls P n_i_NearOk [t1] H fun v2 H3 =>
  bnd (aNot v2) fun t4 =>
  gd t4 false
  (bnd (partOf false 1 (cellsOf a0) 0) fun t5 =>
  bnd (aBinN .eql t5 (.int .i64 0)) fun t6 =>
  gd t6 false
  (bnd (partOf false 1 (cellsOf a0) 1) fun t7 =>
  bnd (aBinN .add t7 (.int .i64 4)) fun t8 =>
  bnd (aBinN .gtr t8 (.int .i64 1000000)) fun t9 =>
  cnd t9
  (Ret R (.int .i64 (-1)) H3)
  (bnd (partOf false 1 (cellsOf a0) 1) fun t10 =>
  bnd (aBinN .add t10 (.int .i64 4)) fun t11 =>
  Ret R t11 H3))
  (Ret R (.int .i64 (-1)) H3))
  (Ret R (.int .i64 (-1)) H3))
theorem W_i_DeadAt {R : V → Heap → Prop} {a0 : V} {H : Heap} (h : F_i_DeadAt R a0 H) : ACalls P n_i_DeadAt [a0] H R :=
  acalls_of_form (g := ⟨[1], [7, 12, 17]⟩) (x := (.seq .leaf (.seq (.seq .leaf (.cond (.seq .leaf .leaf) .leaf)) (.seq .leaf .leaf)))) Try.func23 (by kernel_rfl) (by kernel_rfl) (by kernel_rfl) (by kernel_rfl : F_i_DeadAt R a0 H = _) h
def F_i_StepNear (R : V → Heap → Prop) (a0 a1 : V) (H : Heap) : Prop :=
  boxK a0 (boxK a1 (bnd (partOf true 3 (cellsOf a0) 0) fun t1 =>
  ACalls P n_i_NearOk [t1] H fun v2 H3 =>
  bnd (aNot v2) fun t4 =>
  gd t4 false
  (bnd (partOf false 1 (cellsOf a1) 0) fun t5 =>
  ACalls P n_i_within [t5, (.int .i64 0), (.int .i64 5)] H3 fun v6 H7 =>
  bnd (aNot v6) fun t8 =>
  gd t8 false
  (bnd (partOf false 1 (cellsOf a1) 1) fun t9 =>
  bnd (partOf false 1 (cellsOf a0) 1) fun t10 =>
  ACalls P n_i_within [t9, t10, (.int .i64 1000000)] H7 fun v11 H12 =>
  bnd (aNot v11) fun t13 =>
  cnd t13
  (bnd (partOf true 3 (cellsOf a0) 0) fun t14 =>
  bnd (stz 3 [(.int .i64 0), (.int .i64 0), (.int .i64 0)] 0 t14) fun c15 =>
  bnd (partOf true 3 c15 0) fun t16 =>
  Ret R (.tup [t16, (.int .i64 0)]) H12)
  (bnd (partOf true 3 (cellsOf a0) 0) fun t17 =>
  bnd (stz 3 [(.int .i64 0), (.int .i64 0), (.int .i64 0)] 0 t17) fun c18 =>
  bnd (partOf false 1 (cellsOf a1) 0) fun t19 =>
  ∃ J20 : List V → Heap → Prop,
  (bnd (aBinN .eql t19 (.int .i64 0)) fun t23 =>
  cnd t23
  (Shr (J20 [t23]) H12)
  (bnd (aBinN .eql t19 (.int .i64 1)) fun t24 =>
  Shr (J20 [t24]) H12)) ∧
  ∀ xs21 H22, J20 xs21 H22 →
  cnd (xs21.headD .any)
  (bnd (partOf true 3 (cellsOf a0) 0) fun t25 =>
  bnd (partOf false 1 (cellsOf a1) 1) fun t26 =>
  bnd (partOf false 1 (cellsOf a1) 0) fun t27 =>
  bnd (aBinN .eql t27 (.int .i64 1)) fun t28 =>
  ACalls P n_i_Near_greeted [t25, t26, t28] H22 fun v29 H30 =>
  bnd (stz 3 c18 0 v29) fun c31 =>
  bnd (partOf false 1 c31 0) fun t32 =>
  bnd (partOf false 1 (cellsOf a0) 0) fun t33 =>
  bnd (aBinN .neq t32 t33) fun t34 =>
  cnd t34
  (bnd (partOf true 3 c31 0) fun t35 =>
  bnd (stz 3 [(.int .i64 0), (.int .i64 0), (.int .i64 0)] 0 t35) fun c36 =>
  bnd (partOf true 3 c36 0) fun t37 =>
  Ret R (.tup [t37, (.int .i64 1)]) H30)
  (bnd (partOf true 3 c31 0) fun t38 =>
  bnd (stz 3 [(.int .i64 0), (.int .i64 0), (.int .i64 0)] 0 t38) fun c39 =>
  bnd (partOf true 3 c39 0) fun t40 =>
  Ret R (.tup [t40, (.int .i64 0)]) H30))
  (bnd (aBinN .eql t19 (.int .i64 2)) fun t41 =>
  cnd t41
  (bnd (partOf true 3 (cellsOf a0) 0) fun t42 =>
  bnd (partOf false 1 (cellsOf a1) 2) fun t43 =>
  ACalls P n_i_Near_described [t42, t43] H22 fun v44 H45 =>
  bnd (stz 3 c18 0 v44) fun c46 =>
  bnd (partOf false 1 c46 0) fun t47 =>
  bnd (partOf false 1 (cellsOf a0) 0) fun t48 =>
  bnd (aBinN .neq t47 t48) fun t49 =>
  cnd t49
  (bnd (partOf true 3 c46 0) fun t50 =>
  bnd (stz 3 [(.int .i64 0), (.int .i64 0), (.int .i64 0)] 0 t50) fun c51 =>
  bnd (partOf true 3 c51 0) fun t52 =>
  Ret R (.tup [t52, (.int .i64 1)]) H45)
  (bnd (partOf true 3 c46 0) fun t53 =>
  bnd (stz 3 [(.int .i64 0), (.int .i64 0), (.int .i64 0)] 0 t53) fun c54 =>
  bnd (partOf true 3 c54 0) fun t55 =>
  Ret R (.tup [t55, (.int .i64 0)]) H45))
  (bnd (aBinN .eql t19 (.int .i64 3)) fun t56 =>
  cnd t56
  (bnd (partOf false 1 (cellsOf a0) 0) fun t57 =>
  bnd (aBinN .eql t57 (.int .i64 3)) fun t58 =>
  cnd t58
  (bnd (partOf false 1 c18 2) fun t59 =>
  bnd (aBinN .sub t59 (.int .i64 1)) fun t60 =>
  bnd (stz 1 c18 2 t60) fun c61 =>
  bnd (partOf false 1 c61 2) fun t62 =>
  bnd (aBinN .eql t62 (.int .i64 0)) fun t63 =>
  cnd t63
  (bnd (stz 1 c61 0 (.int .i64 4)) fun c64 =>
  bnd (partOf false 1 c64 0) fun t65 =>
  bnd (partOf false 1 (cellsOf a0) 0) fun t66 =>
  bnd (aBinN .neq t65 t66) fun t67 =>
  cnd t67
  (bnd (partOf true 3 c64 0) fun t68 =>
  bnd (stz 3 [(.int .i64 0), (.int .i64 0), (.int .i64 0)] 0 t68) fun c69 =>
  bnd (partOf true 3 c69 0) fun t70 =>
  Ret R (.tup [t70, (.int .i64 1)]) H22)
  (bnd (partOf true 3 c64 0) fun t71 =>
  bnd (stz 3 [(.int .i64 0), (.int .i64 0), (.int .i64 0)] 0 t71) fun c72 =>
  bnd (partOf true 3 c72 0) fun t73 =>
  Ret R (.tup [t73, (.int .i64 0)]) H22))
  (bnd (partOf false 1 c61 0) fun t74 =>
  bnd (partOf false 1 (cellsOf a0) 0) fun t75 =>
  bnd (aBinN .neq t74 t75) fun t76 =>
  cnd t76
  (bnd (partOf true 3 c61 0) fun t77 =>
  bnd (stz 3 [(.int .i64 0), (.int .i64 0), (.int .i64 0)] 0 t77) fun c78 =>
  bnd (partOf true 3 c78 0) fun t79 =>
  Ret R (.tup [t79, (.int .i64 1)]) H22)
  (bnd (partOf true 3 c61 0) fun t80 =>
  bnd (stz 3 [(.int .i64 0), (.int .i64 0), (.int .i64 0)] 0 t80) fun c81 =>
  bnd (partOf true 3 c81 0) fun t82 =>
  Ret R (.tup [t82, (.int .i64 0)]) H22)))
  (bnd (partOf false 1 c18 0) fun t83 =>
  bnd (partOf false 1 (cellsOf a0) 0) fun t84 =>
  bnd (aBinN .neq t83 t84) fun t85 =>
  cnd t85
  (bnd (partOf true 3 c18 0) fun t86 =>
  bnd (stz 3 [(.int .i64 0), (.int .i64 0), (.int .i64 0)] 0 t86) fun c87 =>
  bnd (partOf true 3 c87 0) fun t88 =>
  Ret R (.tup [t88, (.int .i64 1)]) H22)
  (bnd (partOf true 3 c18 0) fun t89 =>
  bnd (stz 3 [(.int .i64 0), (.int .i64 0), (.int .i64 0)] 0 t89) fun c90 =>
  bnd (partOf true 3 c90 0) fun t91 =>
  Ret R (.tup [t91, (.int .i64 0)]) H22)))
  (bnd (aBinN .eql t19 (.int .i64 4)) fun t92 =>
  cnd t92
  (bnd (partOf false 1 (cellsOf a0) 0) fun t93 =>
  bnd (aBinN .neq t93 (.int .i64 0)) fun t94 =>
  gd t94 true
  (bnd (partOf false 1 (cellsOf a1) 1) fun t95 =>
  bnd (partOf false 1 (cellsOf a0) 1) fun t96 =>
  bnd (aBinN .sub t95 t96) fun t97 =>
  bnd (aBinN .geq t97 (.int .i64 4)) fun t98 =>
  cnd t98
  (bnd (stz 1 c18 0 (.int .i64 0)) fun c99 =>
  bnd (stz 1 c99 2 (.int .i64 0)) fun c100 =>
  bnd (partOf false 1 c100 0) fun t101 =>
  bnd (partOf false 1 (cellsOf a0) 0) fun t102 =>
  bnd (aBinN .neq t101 t102) fun t103 =>
  cnd t103
  (bnd (partOf true 3 c100 0) fun t104 =>
  bnd (stz 3 [(.int .i64 0), (.int .i64 0), (.int .i64 0)] 0 t104) fun c105 =>
  bnd (partOf true 3 c105 0) fun t106 =>
  Ret R (.tup [t106, (.int .i64 1)]) H22)
  (bnd (partOf true 3 c100 0) fun t107 =>
  bnd (stz 3 [(.int .i64 0), (.int .i64 0), (.int .i64 0)] 0 t107) fun c108 =>
  bnd (partOf true 3 c108 0) fun t109 =>
  Ret R (.tup [t109, (.int .i64 0)]) H22))
  (bnd (partOf false 1 c18 0) fun t110 =>
  bnd (partOf false 1 (cellsOf a0) 0) fun t111 =>
  bnd (aBinN .neq t110 t111) fun t112 =>
  cnd t112
  (bnd (partOf true 3 c18 0) fun t113 =>
  bnd (stz 3 [(.int .i64 0), (.int .i64 0), (.int .i64 0)] 0 t113) fun c114 =>
  bnd (partOf true 3 c114 0) fun t115 =>
  Ret R (.tup [t115, (.int .i64 1)]) H22)
  (bnd (partOf true 3 c18 0) fun t116 =>
  bnd (stz 3 [(.int .i64 0), (.int .i64 0), (.int .i64 0)] 0 t116) fun c117 =>
  bnd (partOf true 3 c117 0) fun t118 =>
  Ret R (.tup [t118, (.int .i64 0)]) H22)))
  (bnd (partOf false 1 c18 0) fun t119 =>
  bnd (partOf false 1 (cellsOf a0) 0) fun t120 =>
  bnd (aBinN .neq t119 t120) fun t121 =>
  cnd t121
  (bnd (partOf true 3 c18 0) fun t122 =>
  bnd (stz 3 [(.int .i64 0), (.int .i64 0), (.int .i64 0)] 0 t122) fun c123 =>
  bnd (partOf true 3 c123 0) fun t124 =>
  Ret R (.tup [t124, (.int .i64 1)]) H22)
  (bnd (partOf true 3 c18 0) fun t125 =>
  bnd (stz 3 [(.int .i64 0), (.int .i64 0), (.int .i64 0)] 0 t125) fun c126 =>
  bnd (partOf true 3 c126 0) fun t127 =>
  Ret R (.tup [t127, (.int .i64 0)]) H22)))
  (bnd (aBinN .eql t19 (.int .i64 5)) fun t128 =>
  cnd t128
  (bnd (stz 1 c18 0 (.int .i64 0)) fun c129 =>
  bnd (stz 1 c129 2 (.int .i64 0)) fun c130 =>
  bnd (partOf false 1 c130 0) fun t131 =>
  bnd (partOf false 1 (cellsOf a0) 0) fun t132 =>
  bnd (aBinN .neq t131 t132) fun t133 =>
  cnd t133
  (bnd (partOf true 3 c130 0) fun t134 =>
  bnd (stz 3 [(.int .i64 0), (.int .i64 0), (.int .i64 0)] 0 t134) fun c135 =>
  bnd (partOf true 3 c135 0) fun t136 =>
  Ret R (.tup [t136, (.int .i64 1)]) H22)
  (bnd (partOf true 3 c130 0) fun t137 =>
  bnd (stz 3 [(.int .i64 0), (.int .i64 0), (.int .i64 0)] 0 t137) fun c138 =>
  bnd (partOf true 3 c138 0) fun t139 =>
  Ret R (.tup [t139, (.int .i64 0)]) H22))
  (bnd (partOf false 1 c18 0) fun t140 =>
  bnd (partOf false 1 (cellsOf a0) 0) fun t141 =>
  bnd (aBinN .neq t140 t141) fun t142 =>
  cnd t142
  (bnd (partOf true 3 c18 0) fun t143 =>
  bnd (stz 3 [(.int .i64 0), (.int .i64 0), (.int .i64 0)] 0 t143) fun c144 =>
  bnd (partOf true 3 c144 0) fun t145 =>
  Ret R (.tup [t145, (.int .i64 1)]) H22)
  (bnd (partOf true 3 c18 0) fun t146 =>
  bnd (stz 3 [(.int .i64 0), (.int .i64 0), (.int .i64 0)] 0 t146) fun c147 =>
  bnd (partOf true 3 c147 0) fun t148 =>
  Ret R (.tup [t148, (.int .i64 0)]) H22))))))))
  (bnd (partOf true 3 (cellsOf a0) 0) fun t149 =>
  bnd (stz 3 [(.int .i64 0), (.int .i64 0), (.int .i64 0)] 0 t149) fun c150 =>
  bnd (partOf true 3 c150 0) fun t151 =>
  Ret R (.tup [t151, (.int .i64 0)]) H7))
  (bnd (partOf true 3 (cellsOf a0) 0) fun t152 =>
  bnd (stz 3 [(.int .i64 0), (.int .i64 0), (.int .i64 0)] 0 t152) fun c153 =>
  bnd (partOf true 3 c153 0) fun t154 =>
  Ret R (.tup [t154, (.int .i64 0)]) H3)))
theorem W_i_StepNear {R : V → Heap → Prop} {a0 a1 : V} {H : Heap} (h : F_i_StepNear R a0 a1 H) : ACalls P n_i_StepNear [a0, a1] H R :=
  acalls_of_form (g := ⟨[2, 3, 4, 6], [11, 17, 19, 26, 32, 34, 41, 46, 49, 52, 53, 56, 59, 63, 65, 70, 71, 74, 75, 76, 78]⟩) (x := (.seq .leaf (.seq (.seq .leaf (.cond (.seq .leaf .leaf) .leaf)) (.seq .leaf (.seq (.seq .leaf (.block (.seqc (.seq .leaf (.cond .leaf .leaf)) (.cond .leaf (.seq .leaf (.cond .leaf (.seq .leaf (.cond (.seq .leaf (.cond (.seq .leaf (.seq .leaf (.cond .leaf .leaf))) .leaf)) (.seq .leaf (.cond (.seq .leaf (.cond .leaf .leaf)) (.seq .leaf (.cond .leaf .leaf))))))))) [28]))) (.seq (.seq .leaf (.cond (.seq .leaf .leaf) .leaf)) (.seq .leaf .leaf))))))) Try.func24 (by kernel_rfl) (by kernel_rfl) (by kernel_rfl) (by kernel_rfl : F_i_StepNear R a0 a1 H = _) h
def F_s_StepNear (R : V → Heap → Prop) (a0 a1 : V) (H : Heap) : Prop :=
  boxK a0 (boxK a1 (bnd (partOf true 3 (cellsOf a0) 0) fun t1 =>
  ACalls P n_s_NearOk [t1] H fun v2 H3 =>
  bnd (aNot v2) fun t4 =>
  gd t4 false
  (bnd (partOf false 1 (cellsOf a1) 0) fun t5 =>
  ACalls P n_s_l01In [t5, (.int .i64 0), (.int .i64 5)] H3 fun v6 H7 =>
  bnd (aNot v6) fun t8 =>
  gd t8 false
  (bnd (partOf false 1 (cellsOf a1) 1) fun t9 =>
  bnd (partOf false 1 (cellsOf a0) 1) fun t10 =>
  ACalls P n_s_l01In [t9, t10, (.int .i64 1000000)] H7 fun v11 H12 =>
  bnd (aNot v11) fun t13 =>
  cnd t13
  (bnd (partOf true 3 (cellsOf a0) 0) fun t14 =>
  bnd (stz 3 [(.int .i64 0), (.int .i64 0), (.int .i64 0)] 0 t14) fun c15 =>
  bnd (partOf true 3 c15 0) fun t16 =>
  Ret R (.tup [t16, (.int .i64 0)]) H12)
  (bnd (partOf true 3 (cellsOf a0) 0) fun t17 =>
  bnd (stz 3 [(.int .i64 0), (.int .i64 0), (.int .i64 0)] 0 t17) fun c18 =>
  bnd (partOf false 1 (cellsOf a1) 0) fun t19 =>
  bnd (aBinN .eql t19 (.int .i64 0)) fun t20 =>
  cnd t20
  (bnd (partOf false 1 (cellsOf a1) 1) fun t21 =>
  bnd (stz 1 c18 1 t21) fun c22 =>
  bnd (partOf false 1 (cellsOf a0) 0) fun t23 =>
  bnd (aBinN .neq t23 (.int .i64 1)) fun t24 =>
  cnd t24
  (bnd (stz 1 c22 0 (.int .i64 1)) fun c25 =>
  bnd (stz 1 c25 2 (.int .i64 0)) fun c26 =>
  bnd (partOf false 1 c26 0) fun t27 =>
  bnd (partOf false 1 (cellsOf a0) 0) fun t28 =>
  bnd (aBinN .neq t27 t28) fun t29 =>
  cnd t29
  (bnd (partOf true 3 c26 0) fun t30 =>
  bnd (stz 3 [(.int .i64 0), (.int .i64 0), (.int .i64 0)] 0 t30) fun c31 =>
  bnd (partOf true 3 c31 0) fun t32 =>
  Ret R (.tup [t32, (.int .i64 1)]) H12)
  (bnd (partOf true 3 c26 0) fun t33 =>
  bnd (stz 3 [(.int .i64 0), (.int .i64 0), (.int .i64 0)] 0 t33) fun c34 =>
  bnd (partOf true 3 c34 0) fun t35 =>
  Ret R (.tup [t35, (.int .i64 0)]) H12))
  (bnd (partOf false 1 c22 0) fun t36 =>
  bnd (partOf false 1 (cellsOf a0) 0) fun t37 =>
  bnd (aBinN .neq t36 t37) fun t38 =>
  cnd t38
  (bnd (partOf true 3 c22 0) fun t39 =>
  bnd (stz 3 [(.int .i64 0), (.int .i64 0), (.int .i64 0)] 0 t39) fun c40 =>
  bnd (partOf true 3 c40 0) fun t41 =>
  Ret R (.tup [t41, (.int .i64 1)]) H12)
  (bnd (partOf true 3 c22 0) fun t42 =>
  bnd (stz 3 [(.int .i64 0), (.int .i64 0), (.int .i64 0)] 0 t42) fun c43 =>
  bnd (partOf true 3 c43 0) fun t44 =>
  Ret R (.tup [t44, (.int .i64 0)]) H12)))
  (bnd (aBinN .eql t19 (.int .i64 1)) fun t45 =>
  cnd t45
  (bnd (partOf false 1 (cellsOf a1) 1) fun t46 =>
  bnd (stz 1 c18 1 t46) fun c47 =>
  bnd (partOf false 1 (cellsOf a0) 0) fun t48 =>
  bnd (aBinN .lss t48 (.int .i64 2)) fun t49 =>
  cnd t49
  (bnd (stz 1 c47 0 (.int .i64 2)) fun c50 =>
  bnd (partOf false 1 c50 0) fun t51 =>
  bnd (partOf false 1 (cellsOf a0) 0) fun t52 =>
  bnd (aBinN .neq t51 t52) fun t53 =>
  cnd t53
  (bnd (partOf true 3 c50 0) fun t54 =>
  bnd (stz 3 [(.int .i64 0), (.int .i64 0), (.int .i64 0)] 0 t54) fun c55 =>
  bnd (partOf true 3 c55 0) fun t56 =>
  Ret R (.tup [t56, (.int .i64 1)]) H12)
  (bnd (partOf true 3 c50 0) fun t57 =>
  bnd (stz 3 [(.int .i64 0), (.int .i64 0), (.int .i64 0)] 0 t57) fun c58 =>
  bnd (partOf true 3 c58 0) fun t59 =>
  Ret R (.tup [t59, (.int .i64 0)]) H12))
  (bnd (partOf false 1 c47 0) fun t60 =>
  bnd (partOf false 1 (cellsOf a0) 0) fun t61 =>
  bnd (aBinN .neq t60 t61) fun t62 =>
  cnd t62
  (bnd (partOf true 3 c47 0) fun t63 =>
  bnd (stz 3 [(.int .i64 0), (.int .i64 0), (.int .i64 0)] 0 t63) fun c64 =>
  bnd (partOf true 3 c64 0) fun t65 =>
  Ret R (.tup [t65, (.int .i64 1)]) H12)
  (bnd (partOf true 3 c47 0) fun t66 =>
  bnd (stz 3 [(.int .i64 0), (.int .i64 0), (.int .i64 0)] 0 t66) fun c67 =>
  bnd (partOf true 3 c67 0) fun t68 =>
  Ret R (.tup [t68, (.int .i64 0)]) H12)))
  (bnd (aBinN .eql t19 (.int .i64 2)) fun t69 =>
  cnd t69
  (bnd (partOf false 1 (cellsOf a0) 0) fun t70 =>
  bnd (aBinN .eql t70 (.int .i64 2)) fun t71 =>
  gd t71 true
  (bnd (partOf false 1 (cellsOf a1) 2) fun t72 =>
  bnd (aBinN .eql t72 (.int .i64 0)) fun t73 =>
  cnd t73
  (bnd (stz 1 c18 0 (.int .i64 4)) fun c74 =>
  bnd (partOf false 1 (cellsOf a0) 0) fun t75 =>
  bnd (aBinN .eql t75 (.int .i64 2)) fun t76 =>
  gd t76 true
  (bnd (partOf false 1 (cellsOf a1) 2) fun t77 =>
  ACalls P n_s_l01In [t77, (.int .i64 1), (.int .i64 10)] H12 fun v78 H79 =>
  cnd v78
  (bnd (stz 1 c74 0 (.int .i64 3)) fun c80 =>
  bnd (partOf false 1 (cellsOf a1) 2) fun t81 =>
  bnd (stz 1 c80 2 t81) fun c82 =>
  bnd (partOf false 1 c82 0) fun t83 =>
  bnd (partOf false 1 (cellsOf a0) 0) fun t84 =>
  bnd (aBinN .neq t83 t84) fun t85 =>
  cnd t85
  (bnd (partOf true 3 c82 0) fun t86 =>
  bnd (stz 3 [(.int .i64 0), (.int .i64 0), (.int .i64 0)] 0 t86) fun c87 =>
  bnd (partOf true 3 c87 0) fun t88 =>
  Ret R (.tup [t88, (.int .i64 1)]) H79)
  (bnd (partOf true 3 c82 0) fun t89 =>
  bnd (stz 3 [(.int .i64 0), (.int .i64 0), (.int .i64 0)] 0 t89) fun c90 =>
  bnd (partOf true 3 c90 0) fun t91 =>
  Ret R (.tup [t91, (.int .i64 0)]) H79))
  (bnd (partOf false 1 c74 0) fun t92 =>
  bnd (partOf false 1 (cellsOf a0) 0) fun t93 =>
  bnd (aBinN .neq t92 t93) fun t94 =>
  cnd t94
  (bnd (partOf true 3 c74 0) fun t95 =>
  bnd (stz 3 [(.int .i64 0), (.int .i64 0), (.int .i64 0)] 0 t95) fun c96 =>
  bnd (partOf true 3 c96 0) fun t97 =>
  Ret R (.tup [t97, (.int .i64 1)]) H79)
  (bnd (partOf true 3 c74 0) fun t98 =>
  bnd (stz 3 [(.int .i64 0), (.int .i64 0), (.int .i64 0)] 0 t98) fun c99 =>
  bnd (partOf true 3 c99 0) fun t100 =>
  Ret R (.tup [t100, (.int .i64 0)]) H79)))
  (bnd (partOf false 1 c74 0) fun t101 =>
  bnd (partOf false 1 (cellsOf a0) 0) fun t102 =>
  bnd (aBinN .neq t101 t102) fun t103 =>
  cnd t103
  (bnd (partOf true 3 c74 0) fun t104 =>
  bnd (stz 3 [(.int .i64 0), (.int .i64 0), (.int .i64 0)] 0 t104) fun c105 =>
  bnd (partOf true 3 c105 0) fun t106 =>
  Ret R (.tup [t106, (.int .i64 1)]) H12)
  (bnd (partOf true 3 c74 0) fun t107 =>
  bnd (stz 3 [(.int .i64 0), (.int .i64 0), (.int .i64 0)] 0 t107) fun c108 =>
  bnd (partOf true 3 c108 0) fun t109 =>
  Ret R (.tup [t109, (.int .i64 0)]) H12)))
  (bnd (partOf false 1 (cellsOf a0) 0) fun t110 =>
  bnd (aBinN .eql t110 (.int .i64 2)) fun t111 =>
  gd t111 true
  (bnd (partOf false 1 (cellsOf a1) 2) fun t112 =>
  ACalls P n_s_l01In [t112, (.int .i64 1), (.int .i64 10)] H12 fun v113 H114 =>
  cnd v113
  (bnd (stz 1 c18 0 (.int .i64 3)) fun c115 =>
  bnd (partOf false 1 (cellsOf a1) 2) fun t116 =>
  bnd (stz 1 c115 2 t116) fun c117 =>
  bnd (partOf false 1 c117 0) fun t118 =>
  bnd (partOf false 1 (cellsOf a0) 0) fun t119 =>
  bnd (aBinN .neq t118 t119) fun t120 =>
  cnd t120
  (bnd (partOf true 3 c117 0) fun t121 =>
  bnd (stz 3 [(.int .i64 0), (.int .i64 0), (.int .i64 0)] 0 t121) fun c122 =>
  bnd (partOf true 3 c122 0) fun t123 =>
  Ret R (.tup [t123, (.int .i64 1)]) H114)
  (bnd (partOf true 3 c117 0) fun t124 =>
  bnd (stz 3 [(.int .i64 0), (.int .i64 0), (.int .i64 0)] 0 t124) fun c125 =>
  bnd (partOf true 3 c125 0) fun t126 =>
  Ret R (.tup [t126, (.int .i64 0)]) H114))
  (bnd (partOf false 1 c18 0) fun t127 =>
  bnd (partOf false 1 (cellsOf a0) 0) fun t128 =>
  bnd (aBinN .neq t127 t128) fun t129 =>
  cnd t129
  (bnd (partOf true 3 c18 0) fun t130 =>
  bnd (stz 3 [(.int .i64 0), (.int .i64 0), (.int .i64 0)] 0 t130) fun c131 =>
  bnd (partOf true 3 c131 0) fun t132 =>
  Ret R (.tup [t132, (.int .i64 1)]) H114)
  (bnd (partOf true 3 c18 0) fun t133 =>
  bnd (stz 3 [(.int .i64 0), (.int .i64 0), (.int .i64 0)] 0 t133) fun c134 =>
  bnd (partOf true 3 c134 0) fun t135 =>
  Ret R (.tup [t135, (.int .i64 0)]) H114)))
  (bnd (partOf false 1 c18 0) fun t136 =>
  bnd (partOf false 1 (cellsOf a0) 0) fun t137 =>
  bnd (aBinN .neq t136 t137) fun t138 =>
  cnd t138
  (bnd (partOf true 3 c18 0) fun t139 =>
  bnd (stz 3 [(.int .i64 0), (.int .i64 0), (.int .i64 0)] 0 t139) fun c140 =>
  bnd (partOf true 3 c140 0) fun t141 =>
  Ret R (.tup [t141, (.int .i64 1)]) H12)
  (bnd (partOf true 3 c18 0) fun t142 =>
  bnd (stz 3 [(.int .i64 0), (.int .i64 0), (.int .i64 0)] 0 t142) fun c143 =>
  bnd (partOf true 3 c143 0) fun t144 =>
  Ret R (.tup [t144, (.int .i64 0)]) H12))))
  (bnd (partOf false 1 (cellsOf a0) 0) fun t145 =>
  bnd (aBinN .eql t145 (.int .i64 2)) fun t146 =>
  gd t146 true
  (bnd (partOf false 1 (cellsOf a1) 2) fun t147 =>
  ACalls P n_s_l01In [t147, (.int .i64 1), (.int .i64 10)] H12 fun v148 H149 =>
  cnd v148
  (bnd (stz 1 c18 0 (.int .i64 3)) fun c150 =>
  bnd (partOf false 1 (cellsOf a1) 2) fun t151 =>
  bnd (stz 1 c150 2 t151) fun c152 =>
  bnd (partOf false 1 c152 0) fun t153 =>
  bnd (partOf false 1 (cellsOf a0) 0) fun t154 =>
  bnd (aBinN .neq t153 t154) fun t155 =>
  cnd t155
  (bnd (partOf true 3 c152 0) fun t156 =>
  bnd (stz 3 [(.int .i64 0), (.int .i64 0), (.int .i64 0)] 0 t156) fun c157 =>
  bnd (partOf true 3 c157 0) fun t158 =>
  Ret R (.tup [t158, (.int .i64 1)]) H149)
  (bnd (partOf true 3 c152 0) fun t159 =>
  bnd (stz 3 [(.int .i64 0), (.int .i64 0), (.int .i64 0)] 0 t159) fun c160 =>
  bnd (partOf true 3 c160 0) fun t161 =>
  Ret R (.tup [t161, (.int .i64 0)]) H149))
  (bnd (partOf false 1 c18 0) fun t162 =>
  bnd (partOf false 1 (cellsOf a0) 0) fun t163 =>
  bnd (aBinN .neq t162 t163) fun t164 =>
  cnd t164
  (bnd (partOf true 3 c18 0) fun t165 =>
  bnd (stz 3 [(.int .i64 0), (.int .i64 0), (.int .i64 0)] 0 t165) fun c166 =>
  bnd (partOf true 3 c166 0) fun t167 =>
  Ret R (.tup [t167, (.int .i64 1)]) H149)
  (bnd (partOf true 3 c18 0) fun t168 =>
  bnd (stz 3 [(.int .i64 0), (.int .i64 0), (.int .i64 0)] 0 t168) fun c169 =>
  bnd (partOf true 3 c169 0) fun t170 =>
  Ret R (.tup [t170, (.int .i64 0)]) H149)))
  (bnd (partOf false 1 c18 0) fun t171 =>
  bnd (partOf false 1 (cellsOf a0) 0) fun t172 =>
  bnd (aBinN .neq t171 t172) fun t173 =>
  cnd t173
  (bnd (partOf true 3 c18 0) fun t174 =>
  bnd (stz 3 [(.int .i64 0), (.int .i64 0), (.int .i64 0)] 0 t174) fun c175 =>
  bnd (partOf true 3 c175 0) fun t176 =>
  Ret R (.tup [t176, (.int .i64 1)]) H12)
  (bnd (partOf true 3 c18 0) fun t177 =>
  bnd (stz 3 [(.int .i64 0), (.int .i64 0), (.int .i64 0)] 0 t177) fun c178 =>
  bnd (partOf true 3 c178 0) fun t179 =>
  Ret R (.tup [t179, (.int .i64 0)]) H12))))
  (bnd (aBinN .eql t19 (.int .i64 3)) fun t180 =>
  cnd t180
  (bnd (partOf false 1 (cellsOf a0) 0) fun t181 =>
  bnd (aBinN .eql t181 (.int .i64 3)) fun t182 =>
  cnd t182
  (bnd (partOf false 1 (cellsOf a0) 2) fun t183 =>
  bnd (aBinN .sub t183 (.int .i64 1)) fun t184 =>
  bnd (stz 1 c18 2 t184) fun c185 =>
  bnd (partOf false 1 c185 2) fun t186 =>
  bnd (aBinN .eql t186 (.int .i64 0)) fun t187 =>
  cnd t187
  (bnd (stz 1 c185 0 (.int .i64 4)) fun c188 =>
  bnd (partOf false 1 c188 0) fun t189 =>
  bnd (partOf false 1 (cellsOf a0) 0) fun t190 =>
  bnd (aBinN .neq t189 t190) fun t191 =>
  cnd t191
  (bnd (partOf true 3 c188 0) fun t192 =>
  bnd (stz 3 [(.int .i64 0), (.int .i64 0), (.int .i64 0)] 0 t192) fun c193 =>
  bnd (partOf true 3 c193 0) fun t194 =>
  Ret R (.tup [t194, (.int .i64 1)]) H12)
  (bnd (partOf true 3 c188 0) fun t195 =>
  bnd (stz 3 [(.int .i64 0), (.int .i64 0), (.int .i64 0)] 0 t195) fun c196 =>
  bnd (partOf true 3 c196 0) fun t197 =>
  Ret R (.tup [t197, (.int .i64 0)]) H12))
  (bnd (partOf false 1 c185 0) fun t198 =>
  bnd (partOf false 1 (cellsOf a0) 0) fun t199 =>
  bnd (aBinN .neq t198 t199) fun t200 =>
  cnd t200
  (bnd (partOf true 3 c185 0) fun t201 =>
  bnd (stz 3 [(.int .i64 0), (.int .i64 0), (.int .i64 0)] 0 t201) fun c202 =>
  bnd (partOf true 3 c202 0) fun t203 =>
  Ret R (.tup [t203, (.int .i64 1)]) H12)
  (bnd (partOf true 3 c185 0) fun t204 =>
  bnd (stz 3 [(.int .i64 0), (.int .i64 0), (.int .i64 0)] 0 t204) fun c205 =>
  bnd (partOf true 3 c205 0) fun t206 =>
  Ret R (.tup [t206, (.int .i64 0)]) H12)))
  (bnd (partOf false 1 c18 0) fun t207 =>
  bnd (partOf false 1 (cellsOf a0) 0) fun t208 =>
  bnd (aBinN .neq t207 t208) fun t209 =>
  cnd t209
  (bnd (partOf true 3 c18 0) fun t210 =>
  bnd (stz 3 [(.int .i64 0), (.int .i64 0), (.int .i64 0)] 0 t210) fun c211 =>
  bnd (partOf true 3 c211 0) fun t212 =>
  Ret R (.tup [t212, (.int .i64 1)]) H12)
  (bnd (partOf true 3 c18 0) fun t213 =>
  bnd (stz 3 [(.int .i64 0), (.int .i64 0), (.int .i64 0)] 0 t213) fun c214 =>
  bnd (partOf true 3 c214 0) fun t215 =>
  Ret R (.tup [t215, (.int .i64 0)]) H12)))
  (bnd (aBinN .eql t19 (.int .i64 4)) fun t216 =>
  cnd t216
  (bnd (partOf false 1 (cellsOf a0) 0) fun t217 =>
  bnd (aBinN .neq t217 (.int .i64 0)) fun t218 =>
  gd t218 true
  (bnd (partOf false 1 (cellsOf a1) 1) fun t219 =>
  bnd (partOf false 1 (cellsOf a0) 1) fun t220 =>
  bnd (aBinN .sub t219 t220) fun t221 =>
  bnd (aBinN .geq t221 (.int .i64 4)) fun t222 =>
  cnd t222
  (bnd (stz 1 c18 0 (.int .i64 0)) fun c223 =>
  bnd (stz 1 c223 2 (.int .i64 0)) fun c224 =>
  bnd (partOf false 1 c224 0) fun t225 =>
  bnd (partOf false 1 (cellsOf a0) 0) fun t226 =>
  bnd (aBinN .neq t225 t226) fun t227 =>
  cnd t227
  (bnd (partOf true 3 c224 0) fun t228 =>
  bnd (stz 3 [(.int .i64 0), (.int .i64 0), (.int .i64 0)] 0 t228) fun c229 =>
  bnd (partOf true 3 c229 0) fun t230 =>
  Ret R (.tup [t230, (.int .i64 1)]) H12)
  (bnd (partOf true 3 c224 0) fun t231 =>
  bnd (stz 3 [(.int .i64 0), (.int .i64 0), (.int .i64 0)] 0 t231) fun c232 =>
  bnd (partOf true 3 c232 0) fun t233 =>
  Ret R (.tup [t233, (.int .i64 0)]) H12))
  (bnd (partOf false 1 c18 0) fun t234 =>
  bnd (partOf false 1 (cellsOf a0) 0) fun t235 =>
  bnd (aBinN .neq t234 t235) fun t236 =>
  cnd t236
  (bnd (partOf true 3 c18 0) fun t237 =>
  bnd (stz 3 [(.int .i64 0), (.int .i64 0), (.int .i64 0)] 0 t237) fun c238 =>
  bnd (partOf true 3 c238 0) fun t239 =>
  Ret R (.tup [t239, (.int .i64 1)]) H12)
  (bnd (partOf true 3 c18 0) fun t240 =>
  bnd (stz 3 [(.int .i64 0), (.int .i64 0), (.int .i64 0)] 0 t240) fun c241 =>
  bnd (partOf true 3 c241 0) fun t242 =>
  Ret R (.tup [t242, (.int .i64 0)]) H12)))
  (bnd (partOf false 1 c18 0) fun t243 =>
  bnd (partOf false 1 (cellsOf a0) 0) fun t244 =>
  bnd (aBinN .neq t243 t244) fun t245 =>
  cnd t245
  (bnd (partOf true 3 c18 0) fun t246 =>
  bnd (stz 3 [(.int .i64 0), (.int .i64 0), (.int .i64 0)] 0 t246) fun c247 =>
  bnd (partOf true 3 c247 0) fun t248 =>
  Ret R (.tup [t248, (.int .i64 1)]) H12)
  (bnd (partOf true 3 c18 0) fun t249 =>
  bnd (stz 3 [(.int .i64 0), (.int .i64 0), (.int .i64 0)] 0 t249) fun c250 =>
  bnd (partOf true 3 c250 0) fun t251 =>
  Ret R (.tup [t251, (.int .i64 0)]) H12)))
  (bnd (aBinN .eql t19 (.int .i64 5)) fun t252 =>
  cnd t252
  (bnd (stz 1 c18 0 (.int .i64 0)) fun c253 =>
  bnd (stz 1 c253 2 (.int .i64 0)) fun c254 =>
  bnd (partOf false 1 c254 0) fun t255 =>
  bnd (partOf false 1 (cellsOf a0) 0) fun t256 =>
  bnd (aBinN .neq t255 t256) fun t257 =>
  cnd t257
  (bnd (partOf true 3 c254 0) fun t258 =>
  bnd (stz 3 [(.int .i64 0), (.int .i64 0), (.int .i64 0)] 0 t258) fun c259 =>
  bnd (partOf true 3 c259 0) fun t260 =>
  Ret R (.tup [t260, (.int .i64 1)]) H12)
  (bnd (partOf true 3 c254 0) fun t261 =>
  bnd (stz 3 [(.int .i64 0), (.int .i64 0), (.int .i64 0)] 0 t261) fun c262 =>
  bnd (partOf true 3 c262 0) fun t263 =>
  Ret R (.tup [t263, (.int .i64 0)]) H12))
  (bnd (partOf false 1 c18 0) fun t264 =>
  bnd (partOf false 1 (cellsOf a0) 0) fun t265 =>
  bnd (aBinN .neq t264 t265) fun t266 =>
  cnd t266
  (bnd (partOf true 3 c18 0) fun t267 =>
  bnd (stz 3 [(.int .i64 0), (.int .i64 0), (.int .i64 0)] 0 t267) fun c268 =>
  bnd (partOf true 3 c268 0) fun t269 =>
  Ret R (.tup [t269, (.int .i64 1)]) H12)
  (bnd (partOf true 3 c18 0) fun t270 =>
  bnd (stz 3 [(.int .i64 0), (.int .i64 0), (.int .i64 0)] 0 t270) fun c271 =>
  bnd (partOf true 3 c271 0) fun t272 =>
  Ret R (.tup [t272, (.int .i64 0)]) H12)))))))))
  (bnd (partOf true 3 (cellsOf a0) 0) fun t273 =>
  bnd (stz 3 [(.int .i64 0), (.int .i64 0), (.int .i64 0)] 0 t273) fun c274 =>
  bnd (partOf true 3 c274 0) fun t275 =>
  Ret R (.tup [t275, (.int .i64 0)]) H7))
  (bnd (partOf true 3 (cellsOf a0) 0) fun t276 =>
  bnd (stz 3 [(.int .i64 0), (.int .i64 0), (.int .i64 0)] 0 t276) fun c277 =>
  bnd (partOf true 3 c277 0) fun t278 =>
  Ret R (.tup [t278, (.int .i64 0)]) H3)))
theorem W_s_StepNear {R : V → Heap → Prop} {a0 a1 : V} {H : Heap} (h : F_s_StepNear R a0 a1 H) : ACalls P n_s_StepNear [a0, a1] H R :=
  acalls_of_form (g := ⟨[2, 3, 4, 6], [11, 17, 19, 26, 30, 32, 33, 36, 37, 40, 42, 43, 46, 49, 53, 57, 58, 62, 66, 67, 69, 72, 75, 78, 79, 82, 85, 89, 91, 96, 97, 100, 101, 102, 104]⟩) (x := (.seq .leaf (.seq (.seq .leaf (.cond (.seq .leaf .leaf) .leaf)) (.seq .leaf (.seq (.seq .leaf (.block (.seq .leaf (.cond (.seq .leaf (.seq .leaf (.cond (.seq .leaf .leaf) .leaf))) (.seq .leaf (.cond (.seq .leaf (.seq .leaf (.cond .leaf .leaf))) (.seq .leaf (.cond (.seq (.seq .leaf (.cond .leaf .leaf)) (.seq .leaf (.cond (.seq .leaf .leaf) .leaf))) (.seq .leaf (.cond (.seq .leaf (.cond (.seq .leaf (.seq .leaf (.cond .leaf .leaf))) .leaf)) (.seq .leaf (.cond (.seq .leaf (.cond (.seq .leaf .leaf) .leaf)) (.seq .leaf (.cond (.seq .leaf .leaf) .leaf)))))))))))))) (.seq (.seq .leaf (.cond (.seq .leaf .leaf) .leaf)) (.seq .leaf .leaf))))))) Try.func25 (by kernel_rfl) (by kernel_rfl) (by kernel_rfl) (by kernel_rfl : F_s_StepNear R a0 a1 H = _) h
def F_l_toNearEvent (R : V → Heap → Prop) (a0 : V) (H : Heap) : Prop :=
  boxK a0 (bnd (partOf false 1 (cellsOf a0) 0) fun t1 =>
  bnd (stz 1 [(.int .i64 0), (.int .i64 0), (.int .i64 0)] 0 t1) fun c2 =>
  bnd (partOf false 1 (cellsOf a0) 1) fun t3 =>
  bnd (stz 1 c2 1 t3) fun c4 =>
  bnd (partOf false 1 (cellsOf a0) 2) fun t5 =>
  bnd (stz 1 c4 2 t5) fun c6 =>
  bnd (partOf true 3 c6 0) fun t7 =>
  bnd (stz 3 [(.int .i64 0), (.int .i64 0), (.int .i64 0)] 0 t7) fun c8 =>
  bnd (partOf true 3 c8 0) fun t9 =>
  Ret R t9 H)
theorem W_l_toNearEvent {R : V → Heap → Prop} {a0 : V} {H : Heap} (h : F_l_toNearEvent R a0 H) : ACalls P n_l_toNearEvent [a0] H R :=
  acalls_of_form (g := ⟨[1, 2, 3], [4, 6, 7, 9, 10, 12]⟩) (x := (.seq .leaf (.seq .leaf (.seq .leaf (.seq .leaf (.seq .leaf (.seq .leaf .leaf))))))) Try.func26 (by kernel_rfl) (by kernel_rfl) (by kernel_rfl) (by kernel_rfl : F_l_toNearEvent R a0 H = _) h
def F_i_played (R : V → Heap → Prop) (a0 a1 : V) (H : Heap) : Prop :=
  bnd (fillZ [(.int .i64 0), (.int .i64 0), (.int .i64 0)] []) fun c1 =>
  bnd (stz 3 [(.int .i64 0), (.int .i64 0), (.int .i64 0)] 0 (.agg c1)) fun c2 =>
  bnd (lenOf a0) fun n3 =>
  ∃ (I4 : Nat → List V → Heap → Prop) (n5 : Nat), Shr (I4 n5 [(.box [(.int .i64 0), (.int .i64 0), (.int .i64 0)]), (.box c2), (.int .i64 0)]) H ∧
  ∀ n6 xs8 H9, I4 n6 xs8 H9 →
  bnd (aBinN .lss (xs8.tail.tail.headD .any) (.int .i64 (n3 : Nat))) fun t10 =>
  cnd t10
  (bnd (aIndex H9 3 a0 (xs8.tail.tail.headD .any)) fun t11 =>
  bnd (aLd true 3 H9 t11) fun t12 =>
  bnd (stz 3 [(.int .i64 0), (.int .i64 0), (.int .i64 0)] 0 t12) fun c13 =>
  bnd (partOf true 3 (bc (xs8.tail.headD .any)) 0) fun t14 =>
  bnd (partOf true 3 c13 0) fun t15 =>
  ACalls P n_i_StepNear [t14, t15] H9 fun v16 H17 =>
  bnd (aExtract 0 v16) fun t18 =>
  bnd (aExtract 1 v16) fun t19 =>
  bnd (stz 3 [(.int .i64 0), (.int .i64 0), (.int .i64 0)] 0 t18) fun c20 =>
  bnd (partOf true 3 (bc (xs8.tail.headD .any)) 0) fun t21 =>
  bnd (partOf true 3 c20 0) fun t22 =>
  callK P H17 a1 [(xs8.tail.tail.headD .any), t21, t22, t19] fun v23 H24 =>
  bnd (partOf true 3 c20 0) fun t25 =>
  bnd (stz 3 (bc (xs8.tail.headD .any)) 0 t25) fun c26 =>
  bnd (aBinN .add (xs8.tail.tail.headD .any) (.int .i64 1)) fun t27 =>
  ∃ n7, n7 < n6 ∧ Shr (I4 n7 [(.box (bc (xs8.headD .any))), (.box c26), t27]) H24)
  (bnd (partOf true 3 (bc (xs8.tail.headD .any)) 0) fun t28 =>
  bnd (stz 3 (bc (xs8.headD .any)) 0 t28) fun c29 =>
  bnd (partOf true 3 c29 0) fun t30 =>
  Ret R t30 H9)
theorem W_i_played {R : V → Heap → Prop} {a0 a1 : V} {H : Heap} (h : F_i_played R a0 a1 H) : ACalls P n_i_played [a0, a1] H R :=
  acalls_of_form (g := ⟨[4, 5, 7, 8], []⟩) (x := (.seq .leaf (.seq .leaf (.seq (.seq .leaf (.block (.loop [4, 5, 13] (.seq .leaf (.seq (.cond .leaf .leaf) (.seq (.block (.seq .leaf (.seq .leaf (.seq .leaf .leaf)))) .leaf)))))) (.seq .leaf .leaf))))) Try.func27 (by kernel_rfl) (by kernel_rfl) (by kernel_rfl) (by kernel_rfl : F_i_played R a0 a1 H = _) h
def F_i_FullTimes_1 (R : V → Heap → Prop) (a0 a1 a2 a3 a4 : V) (H : Heap) : Prop :=
  boxK a1 (boxK a2 (bnd (partOf false 1 (cellsOf a1) 0) fun t1 =>
  bnd (aBinN .neq t1 (.int .i64 4)) fun t2 =>
  gd t2 true
  (bnd (partOf false 1 (cellsOf a2) 0) fun t3 =>
  bnd (aBinN .eql t3 (.int .i64 4)) fun t4 =>
  cnd t4
  (bnd (aLd false 1 H a4) fun t5 =>
  bnd (bsl 1 1 [(.int .i64 0)] [(0, a0)]) fun r6 =>
  ∀ o7, H o7 = none →
  bnd (rowsOf (upd H o7 ⟨1, r6⟩) 1 (.slice o7 0 1 (some 1))) fun r10 =>
  appendK (upd H o7 ⟨1, r6⟩) 1 8 t5 r10 fun v8 H9 =>
  bnd (aSt 1 H9 a4 v8) fun H11 =>
  Ret R (.tup []) H11)
  (Ret R (.tup []) H))
  (Ret R (.tup []) H)))
theorem W_i_FullTimes_1 {R : V → Heap → Prop} {a0 a1 a2 a3 a4 : V} {H : Heap} (h : F_i_FullTimes_1 R a0 a1 a2 a3 a4 H) : ACalls P n_i_FullTimes_1 [a0, a1, a2, a3, a4] H R :=
  acalls_of_form (g := ⟨[6, 7], [9, 13]⟩) (x := (.seq .leaf (.seq .leaf (.cond .leaf .leaf)))) Try.func28 (by kernel_rfl) (by kernel_rfl) (by kernel_rfl) (by kernel_rfl : F_i_FullTimes_1 R a0 a1 a2 a3 a4 H = _) h
theorem E_i_FullTimes_1 : enterable P n_i_FullTimes_1 = true := by kernel_rfl
def F_slices_Clip_int_int (R : V → Heap → Prop) (a0 : V) (H : Heap) : Prop :=
  bnd (lenOf a0) fun n1 =>
  bnd (lenOf a0) fun n2 =>
  bnd (aSlice H 1 a0 none (some (.int .i64 (n1 : Nat))) (some (.int .i64 (n2 : Nat)))) fun t3 =>
  Ret R t3 H
theorem W_slices_Clip_int_int {R : V → Heap → Prop} {a0 : V} {H : Heap} (h : F_slices_Clip_int_int R a0 H) : ACalls P n_slices_Clip_int_int [a0] H R :=
  acalls_of_form (g := ⟨[], []⟩) (x := (.seq .leaf (.seq .leaf .leaf))) Try.func29 (by kernel_rfl) (by kernel_rfl) (by kernel_rfl) (by kernel_rfl : F_slices_Clip_int_int R a0 H = _) h
def F_l_eqNearEvent (R : V → Heap → Prop) (a0 a1 : V) (H : Heap) : Prop :=
  boxK a0 (boxK a1 (bnd (partOf false 1 (cellsOf a0) 0) fun t1 =>
  bnd (partOf false 1 (cellsOf a1) 0) fun t2 =>
  bnd (aBinN .neq t1 t2) fun t3 =>
  cnd t3
  (Ret R (.bool false) H)
  (bnd (partOf false 1 (cellsOf a0) 1) fun t4 =>
  bnd (partOf false 1 (cellsOf a1) 1) fun t5 =>
  bnd (aBinN .neq t4 t5) fun t6 =>
  cnd t6
  (Ret R (.bool false) H)
  (bnd (partOf false 1 (cellsOf a0) 2) fun t7 =>
  bnd (partOf false 1 (cellsOf a1) 2) fun t8 =>
  bnd (aBinN .neq t7 t8) fun t9 =>
  cnd t9
  (Ret R (.bool false) H)
  (Ret R (.bool true) H)))))
theorem W_l_eqNearEvent {R : V → Heap → Prop} {a0 a1 : V} {H : Heap} (h : F_l_eqNearEvent R a0 a1 H) : ACalls P n_l_eqNearEvent [a0, a1] H R :=
  acalls_of_form (g := ⟨[2, 3], [5, 7, 10, 12, 15, 17]⟩) (x := (.seq .leaf (.seq (.seq .leaf (.cond (.seq .leaf .leaf) .leaf)) (.seq (.seq .leaf (.cond (.seq .leaf .leaf) .leaf)) (.seq (.seq .leaf (.cond (.seq .leaf .leaf) .leaf)) (.seq .leaf .leaf)))))) Try.func30 (by kernel_rfl) (by kernel_rfl) (by kernel_rfl) (by kernel_rfl : F_l_eqNearEvent R a0 a1 H = _) h
def F_i_PlayNear_1 (R : V → Heap → Prop) (a0 a1 a2 a3 a4 : V) (H : Heap) : Prop :=
  boxK a1 (boxK a2 (bnd (aLd false 1 H a4) fun t1 =>
  bnd (bsl 1 1 [(.int .i64 0)] [(0, a3)]) fun r2 =>
  ∀ o3, H o3 = none →
  bnd (rowsOf (upd H o3 ⟨1, r2⟩) 1 (.slice o3 0 1 (some 1))) fun r6 =>
  appendK (upd H o3 ⟨1, r2⟩) 1 8 t1 r6 fun v4 H5 =>
  bnd (aSt 1 H5 a4 v4) fun H7 =>
  Ret R (.tup []) H7))
theorem W_i_PlayNear_1 {R : V → Heap → Prop} {a0 a1 a2 a3 a4 : V} {H : Heap} (h : F_i_PlayNear_1 R a0 a1 a2 a3 a4 H) : ACalls P n_i_PlayNear_1 [a0, a1, a2, a3, a4] H R :=
  acalls_of_form (g := ⟨[6, 7], []⟩) (x := (.seq .leaf .leaf)) Try.func31 (by kernel_rfl) (by kernel_rfl) (by kernel_rfl) (by kernel_rfl : F_i_PlayNear_1 R a0 a1 a2 a3 a4 H = _) h
theorem E_i_PlayNear_1 : enterable P n_i_PlayNear_1 = true := by kernel_rfl
def F_s_l07DrawEvents (R : V → Heap → Prop) (a0 : V) (H : Heap) : Prop :=
  ACalls P n_s_l01New [a0] H fun v1 H2 =>
  bnd (bsl 3 0 [(.int .i64 0), (.int .i64 0), (.int .i64 0)] []) fun r3 =>
  ∀ o4, H2 o4 = none →
  ACalls P n_s_l01Size [a0, (.int .i64 40)] (upd H2 o4 ⟨3, r3⟩) fun v5 H6 =>
  ACalls P n_s_l01Below [v1, v5] H6 fun v7 H8 =>
  ∃ J9 : List V → Heap → Prop,
  (ACalls P n_s_l01Once [v1, (.int .i64 40)] H8 fun v12 H13 =>
  cnd v12
  (ACalls P n_s_l01Below [v1, (.int .i64 2)] H13 fun v14 H15 =>
  bnd (aBinN .add (.int .i64 300) v14) fun t16 =>
  Shr (J9 [t16]) H15)
  (Shr (J9 [v7]) H13)) ∧
  ∀ xs10 H11, J9 xs10 H11 →
  ∃ (I17 : Nat → List V → Heap → Prop) (n18 : Nat), Shr (I17 n18 [(.slice o4 0 0 (some 0)), (.int .i64 0), (.int .i64 0)]) H11 ∧
  ∀ n19 xs21 H22, I17 n19 xs21 H22 →
  bnd (aBinN .lss (xs21.tail.tail.headD .any) (xs10.headD .any)) fun t23 =>
  cnd t23
  (bnd (bsl 1 7 [(.int .i64 0)] [(0, (.int .i64 0)), (1, (.int .i64 0)), (2, (.int .i64 1)), (3, (.int .i64 1)), (4, (.int .i64 2)), (5, (.int .i64 4)), (6, (.int .i64 5))]) fun r24 =>
  ∀ o25, H22 o25 = none →
  ACalls P n_s_l01PickInt [v1, (.slice o25 0 7 (some 7))] (upd H22 o25 ⟨1, r24⟩) fun v26 H27 =>
  bnd (aBinN .add (xs21.tail.headD .any) v26) fun t28 =>
  ACalls P n_s_l07DrawEvent [v1, t28] H27 fun v29 H30 =>
  bnd (bsl 3 1 [(.int .i64 0), (.int .i64 0), (.int .i64 0)] [(0, v29)]) fun r31 =>
  ∀ o32, H30 o32 = none →
  bnd (rowsOf (upd H30 o32 ⟨3, r31⟩) 3 (.slice o32 0 1 (some 1))) fun r35 =>
  appendK (upd H30 o32 ⟨3, r31⟩) 3 24 (xs21.headD .any) r35 fun v33 H34 =>
  bnd (aBinN .add (xs21.tail.tail.headD .any) (.int .i64 1)) fun t36 =>
  ∃ n20, n20 < n19 ∧ Shr (I17 n20 [v33, t28, t36]) H34)
  (Ret R (xs21.headD .any) H22)
theorem W_s_l07DrawEvents {R : V → Heap → Prop} {a0 : V} {H : Heap} (h : F_s_l07DrawEvents R a0 H) : ACalls P n_s_l07DrawEvents [a0] H R :=
  acalls_of_form (g := ⟨[], []⟩) (x := (.seq .leaf (.seq .leaf (.seq .leaf (.seq .leaf (.seqc (.seq .leaf (.cond .leaf .leaf)) (.seq .leaf (.seq (.seq .leaf (.block (.loop [4, 6, 7] (.seq (.seq .leaf (.cond .leaf .leaf)) (.seq (.block (.seq .leaf .leaf)) .leaf))))) (.seq .leaf .leaf))) [5])))))) Try.func32 (by kernel_rfl) (by kernel_rfl) (by kernel_rfl) (by kernel_rfl : F_s_l07DrawEvents R a0 H = _) h
def F_i_Changes_1 (R : V → Heap → Prop) (a0 a1 a2 a3 a4 : V) (H : Heap) : Prop :=
  boxK a1 (boxK a2 (bnd (aLd false 1 H a4) fun t1 =>
  bnd (aBinN .add t1 a3) fun t2 =>
  bnd (aSt 1 H a4 t2) fun H3 =>
  Ret R (.tup []) H3))
theorem W_i_Changes_1 {R : V → Heap → Prop} {a0 a1 a2 a3 a4 : V} {H : Heap} (h : F_i_Changes_1 R a0 a1 a2 a3 a4 H) : ACalls P n_i_Changes_1 [a0, a1, a2, a3, a4] H R :=
  acalls_of_form (g := ⟨[6, 7], []⟩) (x := (.seq .leaf .leaf)) Try.func33 (by kernel_rfl) (by kernel_rfl) (by kernel_rfl) (by kernel_rfl : F_i_Changes_1 R a0 a1 a2 a3 a4 H = _) h
theorem E_i_Changes_1 : enterable P n_i_Changes_1 = true := by kernel_rfl
def F_i_NearOk (R : V → Heap → Prop) (a0 : V) (H : Heap) : Prop :=
  boxK a0 (bnd (partOf false 1 (cellsOf a0) 0) fun t1 =>
  ACalls P n_i_within [t1, (.int .i64 0), (.int .i64 4)] H fun v2 H3 =>
  bnd (aNot v2) fun t4 =>
  gd t4 false
  (bnd (partOf false 1 (cellsOf a0) 1) fun t5 =>
  ACalls P n_i_within [t5, (.int .i64 0), (.int .i64 1000000)] H3 fun v6 H7 =>
  bnd (aNot v6) fun t8 =>
  cnd t8
  (Ret R (.bool false) H7)
  (bnd (partOf false 1 (cellsOf a0) 0) fun t9 =>
  bnd (aBinN .eql t9 (.int .i64 3)) fun t10 =>
  cnd t10
  (bnd (partOf false 1 (cellsOf a0) 2) fun t11 =>
  ACalls P n_i_within [t11, (.int .i64 1), (.int .i64 10)] H7 fun v12 H13 =>
  Ret R v12 H13)
  (bnd (partOf false 1 (cellsOf a0) 2) fun t14 =>
  bnd (aBinN .eql t14 (.int .i64 0)) fun t15 =>
  Ret R t15 H7)))
  (Ret R (.bool false) H3))
theorem W_i_NearOk {R : V → Heap → Prop} {a0 : V} {H : Heap} (h : F_i_NearOk R a0 H) : ACalls P n_i_NearOk [a0] H R :=
  acalls_of_form (g := ⟨[1], [3, 8, 13, 16, 19]⟩) (x := (.seq .leaf (.seq (.seq .leaf (.cond (.seq .leaf .leaf) .leaf)) (.seq (.seq .leaf (.cond (.seq .leaf .leaf) .leaf)) (.seq .leaf .leaf))))) Try.func34 (by kernel_rfl) (by kernel_rfl) (by kernel_rfl) (by kernel_rfl : F_i_NearOk R a0 H = _) h
def F_i_within (R : V → Heap → Prop) (a0 a1 a2 : V) (H : Heap) : Prop :=
  bnd (aBinN .geq a0 a1) fun t1 =>
  gd t1 true
  (bnd (aBinN .leq a0 a2) fun t2 =>
  Ret R t2 H)
  (Ret R (.bool false) H)
theorem W_i_within {R : V → Heap → Prop} {a0 a1 a2 : V} {H : Heap} (h : F_i_within R a0 a1 a2 H) : ACalls P n_i_within [a0, a1, a2] H R :=
  acalls_of_form (g := ⟨[], []⟩) (x := (.seq .leaf (.seq .leaf .leaf))) Try.func35 (by kernel_rfl) (by kernel_rfl) (by kernel_rfl) (by kernel_rfl : F_i_within R a0 a1 a2 H = _) h
def F_i_Near_greeted (R : V → Heap → Prop) (a0 a1 a2 : V) (H : Heap) : Prop :=
  boxK a0 (bnd (stz 1 (cellsOf a0) 1 a1) fun c1 =>
  bnd (aNot a2) fun t2 =>
  cnd t2
  (bnd (stz 1 c1 0 (.int .i64 1)) fun c3 =>
  bnd (stz 1 c3 2 (.int .i64 0)) fun c4 =>
  bnd (partOf true 3 c4 0) fun t5 =>
  bnd (stz 3 [(.int .i64 0), (.int .i64 0), (.int .i64 0)] 0 t5) fun c6 =>
  bnd (partOf true 3 c6 0) fun t7 =>
  Ret R t7 H)
  (bnd (partOf false 1 c1 0) fun t8 =>
  bnd (aBinN .leq t8 (.int .i64 1)) fun t9 =>
  cnd t9
  (bnd (stz 1 c1 0 (.int .i64 2)) fun c10 =>
  bnd (partOf true 3 c10 0) fun t11 =>
  bnd (stz 3 [(.int .i64 0), (.int .i64 0), (.int .i64 0)] 0 t11) fun c12 =>
  bnd (partOf true 3 c12 0) fun t13 =>
  Ret R t13 H)
  (bnd (partOf true 3 c1 0) fun t14 =>
  bnd (stz 3 [(.int .i64 0), (.int .i64 0), (.int .i64 0)] 0 t14) fun c15 =>
  bnd (partOf true 3 c15 0) fun t16 =>
  Ret R t16 H)))
theorem W_i_Near_greeted {R : V → Heap → Prop} {a0 a1 a2 : V} {H : Heap} (h : F_i_Near_greeted R a0 a1 a2 H) : ACalls P n_i_Near_greeted [a0, a1, a2] H R :=
  acalls_of_form (g := ⟨[3, 6], [8, 12, 13, 15, 18]⟩) (x := (.seq .leaf (.seq .leaf (.seq (.block (.seq .leaf (.cond .leaf (.seq .leaf (.cond .leaf .leaf))))) (.seq .leaf .leaf))))) Try.func36 (by kernel_rfl) (by kernel_rfl) (by kernel_rfl) (by kernel_rfl : F_i_Near_greeted R a0 a1 a2 H = _) h
def F_i_Near_described (R : V → Heap → Prop) (a0 a1 : V) (H : Heap) : Prop :=
  boxK a0 (bnd (partOf false 1 (cellsOf a0) 0) fun t1 =>
  bnd (aBinN .neq t1 (.int .i64 2)) fun t2 =>
  cnd t2
  (bnd (partOf true 3 (cellsOf a0) 0) fun t3 =>
  bnd (stz 3 [(.int .i64 0), (.int .i64 0), (.int .i64 0)] 0 t3) fun c4 =>
  bnd (partOf true 3 c4 0) fun t5 =>
  Ret R t5 H)
  (bnd (aBinN .eql a1 (.int .i64 0)) fun t6 =>
  cnd t6
  (bnd (stz 1 (cellsOf a0) 0 (.int .i64 4)) fun c7 =>
  bnd (partOf true 3 c7 0) fun t8 =>
  bnd (stz 3 [(.int .i64 0), (.int .i64 0), (.int .i64 0)] 0 t8) fun c9 =>
  bnd (partOf true 3 c9 0) fun t10 =>
  Ret R t10 H)
  (ACalls P n_i_within [a1, (.int .i64 1), (.int .i64 10)] H fun v11 H12 =>
  cnd v11
  (bnd (stz 1 (cellsOf a0) 0 (.int .i64 3)) fun c13 =>
  bnd (stz 1 c13 2 a1) fun c14 =>
  bnd (partOf true 3 c14 0) fun t15 =>
  bnd (stz 3 [(.int .i64 0), (.int .i64 0), (.int .i64 0)] 0 t15) fun c16 =>
  bnd (partOf true 3 c16 0) fun t17 =>
  Ret R t17 H12)
  (bnd (partOf true 3 (cellsOf a0) 0) fun t18 =>
  bnd (stz 3 [(.int .i64 0), (.int .i64 0), (.int .i64 0)] 0 t18) fun c19 =>
  bnd (partOf true 3 c19 0) fun t20 =>
  Ret R t20 H12))))
theorem W_i_Near_described {R : V → Heap → Prop} {a0 a1 : V} {H : Heap} (h : F_i_Near_described R a0 a1 H) : ACalls P n_i_Near_described [a0, a1] H R :=
  acalls_of_form (g := ⟨[2, 4], [6, 12, 17, 18]⟩) (x := (.seq .leaf (.seq (.block (.seq .leaf (.cond .leaf (.seq .leaf (.cond .leaf (.seq .leaf (.cond .leaf .leaf))))))) (.seq .leaf .leaf)))) Try.func37 (by kernel_rfl) (by kernel_rfl) (by kernel_rfl) (by kernel_rfl : F_i_Near_described R a0 a1 H = _) h
def F_s_NearOk (R : V → Heap → Prop) (a0 : V) (H : Heap) : Prop :=
  boxK a0 (bnd (partOf false 1 (cellsOf a0) 0) fun t1 =>
  ACalls P n_s_l01In [t1, (.int .i64 0), (.int .i64 4)] H fun v2 H3 =>
  bnd (aNot v2) fun t4 =>
  gd t4 false
  (bnd (partOf false 1 (cellsOf a0) 1) fun t5 =>
  ACalls P n_s_l01In [t5, (.int .i64 0), (.int .i64 1000000)] H3 fun v6 H7 =>
  bnd (aNot v6) fun t8 =>
  cnd t8
  (Ret R (.bool false) H7)
  (bnd (partOf false 1 (cellsOf a0) 0) fun t9 =>
  bnd (aBinN .eql t9 (.int .i64 3)) fun t10 =>
  cnd t10
  (bnd (partOf false 1 (cellsOf a0) 2) fun t11 =>
  ACalls P n_s_l01In [t11, (.int .i64 1), (.int .i64 10)] H7 fun v12 H13 =>
  Ret R v12 H13)
  (bnd (partOf false 1 (cellsOf a0) 2) fun t14 =>
  bnd (aBinN .eql t14 (.int .i64 0)) fun t15 =>
  Ret R t15 H7)))
  (Ret R (.bool false) H3))
theorem W_s_NearOk {R : V → Heap → Prop} {a0 : V} {H : Heap} (h : F_s_NearOk R a0 H) : ACalls P n_s_NearOk [a0] H R :=
  acalls_of_form (g := ⟨[1], [3, 8, 13, 16, 19]⟩) (x := (.seq .leaf (.seq (.seq .leaf (.cond (.seq .leaf .leaf) .leaf)) (.seq (.seq .leaf (.cond (.seq .leaf .leaf) .leaf)) (.seq .leaf .leaf))))) Try.func38 (by kernel_rfl) (by kernel_rfl) (by kernel_rfl) (by kernel_rfl : F_s_NearOk R a0 H = _) h
def F_s_l01In (R : V → Heap → Prop) (a0 a1 a2 : V) (H : Heap) : Prop :=
  bnd (aBinN .leq a1 a0) fun t1 =>
  gd t1 true
  (bnd (aBinN .leq a0 a2) fun t2 =>
  Ret R t2 H)
  (Ret R (.bool false) H)
theorem W_s_l01In {R : V → Heap → Prop} {a0 a1 a2 : V} {H : Heap} (h : F_s_l01In R a0 a1 a2 H) : ACalls P n_s_l01In [a0, a1, a2] H R :=
  acalls_of_form (g := ⟨[], []⟩) (x := (.seq .leaf (.seq .leaf .leaf))) Try.func39 (by kernel_rfl) (by kernel_rfl) (by kernel_rfl) (by kernel_rfl : F_s_l01In R a0 a1 a2 H = _) h
def F_s_l01New (R : V → Heap → Prop) (a0 : V) (H : Heap) : Prop :=
  bnd (lenOf a0) fun n1 =>
  bnd (aBinN .add (.int .i64 681681) (.int .i64 (n1 : Nat))) fun t2 =>
  ∃ (I3 : Nat → List V → Heap → Prop) (n4 : Nat), Shr (I3 n4 [t2, (.int .i64 0)]) H ∧
  ∀ n5 xs7 H8, I3 n5 xs7 H8 →
  bnd (lenOf a0) fun n9 =>
  bnd (aBinN .lss (xs7.tail.headD .any) (.int .i64 (n9 : Nat))) fun t10 =>
  gd t10 true
  (bnd (aBinN .lss (xs7.tail.headD .any) (.int .i64 4000)) fun t11 =>
  cnd t11
  (bnd (aBinN .mul (xs7.headD .any) (.int .i64 149)) fun t12 =>
  bnd (aIndex H8 1 a0 (xs7.tail.headD .any)) fun t13 =>
  bnd (aLd false 1 H8 t13) fun t14 =>
  bnd (aCv .i64 t14) fun t15 =>
  bnd (aBinN .add t12 t15) fun t16 =>
  bnd (aBinN .add t16 (.int .i64 11)) fun t17 =>
  bnd (aBinN .and t17 (.int .i64 1073741823)) fun t18 =>
  bnd (aBinN .add (xs7.tail.headD .any) (.int .i64 1)) fun t19 =>
  ∃ n6, n6 < n5 ∧ Shr (I3 n6 [t18, t19]) H8)
  (bnd (fillZ [.nils, (.int .i64 0), (.int .i64 0)] [(0, 1, a0), (2, 1, (xs7.headD .any))]) fun c20 =>
  boxK (.agg c20) (∀ o21, H8 o21 = none →
  Ret R (.ptr o21 0 0) (upd H8 o21 ⟨(c20).length, [c20]⟩))))
  (bnd (fillZ [.nils, (.int .i64 0), (.int .i64 0)] [(0, 1, a0), (2, 1, (xs7.headD .any))]) fun c22 =>
  boxK (.agg c22) (∀ o23, H8 o23 = none →
  Ret R (.ptr o23 0 0) (upd H8 o23 ⟨(c22).length, [c22]⟩)))
theorem W_s_l01New {R : V → Heap → Prop} {a0 : V} {H : Heap} (h : F_s_l01New R a0 H) : ACalls P n_s_l01New [a0] H R :=
  acalls_of_form (g := ⟨[], []⟩) (x := (.seq .leaf (.seq .leaf (.seq (.seq .leaf (.block (.loop [3, 4] (.seq (.seq .leaf (.cond .leaf .leaf)) (.seq (.block .leaf) .leaf))))) (.seq .leaf .leaf))))) Try.func40 (by kernel_rfl) (by kernel_rfl) (by kernel_rfl) (by kernel_rfl : F_s_l01New R a0 H = _) h
def F_s_l01Below (R : V → Heap → Prop) (a0 a1 : V) (H : Heap) : Prop :=
  bnd (aBinN .leq a1 (.int .i64 0)) fun t1 =>
  cnd t1
  (Ret R (.int .i64 0) H)
  (bnd (aBinN .leq a1 (.int .i64 256)) fun t2 =>
  cnd t2
  (ACalls P n_s_l01Byte [a0] H fun v3 H4 =>
  bnd (aBinN .rem v3 a1) fun t5 =>
  Ret R t5 H4)
  (ACalls P n_s_l01Byte [a0] H fun v6 H7 =>
  ACalls P n_s_l01Byte [a0] H7 fun v8 H9 =>
  ACalls P n_s_l01Byte [a0] H9 fun v10 H11 =>
  bnd (aBinN .mul v6 (.int .i64 65536)) fun t12 =>
  bnd (aBinN .mul v8 (.int .i64 256)) fun t13 =>
  bnd (aBinN .add t12 t13) fun t14 =>
  bnd (aBinN .add t14 v10) fun t15 =>
  bnd (aBinN .rem t15 a1) fun t16 =>
  Ret R t16 H11))
theorem W_s_l01Below {R : V → Heap → Prop} {a0 a1 : V} {H : Heap} (h : F_s_l01Below R a0 a1 H) : ACalls P n_s_l01Below [a0, a1] H R :=
  acalls_of_form (g := ⟨[], []⟩) (x := (.seq .leaf (.seq (.seq .leaf (.cond (.seq .leaf .leaf) .leaf)) (.seq (.seq .leaf (.cond (.seq .leaf .leaf) .leaf)) (.seq .leaf (.seq .leaf (.seq .leaf (.seq .leaf .leaf)))))))) Try.func41 (by kernel_rfl) (by kernel_rfl) (by kernel_rfl) (by kernel_rfl : F_s_l01Below R a0 a1 H = _) h
def F_s_l01Size (R : V → Heap → Prop) (a0 a1 : V) (H : Heap) : Prop :=
  bnd (lenOf a0) fun n1 =>
  bnd (aBinN .quo (.int .i64 (n1 : Nat)) (.int .i64 16)) fun t2 =>
  bnd (aBinN .add (.int .i64 2) t2) fun t3 =>
  bnd (aBinN .gtr t3 a1) fun t4 =>
  cnd t4
  (Ret R a1 H)
  (Ret R t3 H)
theorem W_s_l01Size {R : V → Heap → Prop} {a0 a1 : V} {H : Heap} (h : F_s_l01Size R a0 a1 H) : ACalls P n_s_l01Size [a0, a1] H R :=
  acalls_of_form (g := ⟨[], []⟩) (x := (.seq .leaf (.seq .leaf (.seq (.seq .leaf (.cond (.seq .leaf .leaf) .leaf)) (.seq .leaf .leaf))))) Try.func42 (by kernel_rfl) (by kernel_rfl) (by kernel_rfl) (by kernel_rfl : F_s_l01Size R a0 a1 H = _) h
def F_s_l01Once (R : V → Heap → Prop) (a0 a1 : V) (H : Heap) : Prop :=
  ACalls P n_s_l01Below [a0, a1] H fun v1 H2 =>
  bnd (aBinN .eql v1 (.int .i64 0)) fun t3 =>
  Ret R t3 H2
theorem W_s_l01Once {R : V → Heap → Prop} {a0 a1 : V} {H : Heap} (h : F_s_l01Once R a0 a1 H) : ACalls P n_s_l01Once [a0, a1] H R :=
  acalls_of_form (g := ⟨[], []⟩) (x := (.seq .leaf (.seq .leaf .leaf))) Try.func43 (by kernel_rfl) (by kernel_rfl) (by kernel_rfl) (by kernel_rfl : F_s_l01Once R a0 a1 H = _) h
def F_s_l01PickInt (R : V → Heap → Prop) (a0 a1 : V) (H : Heap) : Prop :=
  bnd (lenOf a1) fun n1 =>
  ACalls P n_s_l01Below [a0, (.int .i64 (n1 : Nat))] H fun v2 H3 =>
  bnd (aIndex H3 1 a1 v2) fun t4 =>
  bnd (aLd false 1 H3 t4) fun t5 =>
  Ret R t5 H3
theorem W_s_l01PickInt {R : V → Heap → Prop} {a0 a1 : V} {H : Heap} (h : F_s_l01PickInt R a0 a1 H) : ACalls P n_s_l01PickInt [a0, a1] H R :=
  acalls_of_form (g := ⟨[], []⟩) (x := (.seq .leaf (.seq .leaf .leaf))) Try.func44 (by kernel_rfl) (by kernel_rfl) (by kernel_rfl) (by kernel_rfl : F_s_l01PickInt R a0 a1 H = _) h
def F_s_l07DrawEvent (R : V → Heap → Prop) (a0 a1 : V) (H : Heap) : Prop :=
  bnd (bsl 1 12 [(.int .i64 0)] [(0, (.int .i64 0)), (1, (.int .i64 1)), (2, (.int .i64 1)), (3, (.int .i64 1)), (4, (.int .i64 2)), (5, (.int .i64 2)), (6, (.int .i64 3)), (7, (.int .i64 3)), (8, (.int .i64 3)), (9, (.int .i64 4)), (10, (.int .i64 4)), (11, (.int .i64 5))]) fun r1 =>
  ∀ o2, H o2 = none →
  ACalls P n_s_l01PickInt [a0, (.slice o2 0 12 (some 12))] (upd H o2 ⟨1, r1⟩) fun v3 H4 =>
  bnd (bsl 1 4 [(.int .i64 0)] [(0, (.int .i64 0)), (1, (.int .i64 1)), (2, (.int .i64 2)), (3, (.int .i64 3))]) fun r5 =>
  ∀ o6, H4 o6 = none →
  ACalls P n_s_l01PickInt [a0, (.slice o6 0 4 (some 4))] (upd H4 o6 ⟨1, r5⟩) fun v7 H8 =>
  bnd (fillZ [(.int .i64 0), (.int .i64 0), (.int .i64 0)] [(0, 1, v3), (1, 1, a1), (2, 1, v7)]) fun c9 =>
  bnd (stz 3 [(.int .i64 0), (.int .i64 0), (.int .i64 0)] 0 (.agg c9)) fun c10 =>
  ACalls P n_s_l01Once [a0, (.int .i64 25)] H8 fun v11 H12 =>
  cnd v11
  (ACalls P n_s_l01Below [a0, (.int .i64 3)] H12 fun v13 H14 =>
  bnd (aBinN .eql v13 (.int .i64 0)) fun t15 =>
  cnd t15
  (bnd (bsl 1 2 [(.int .i64 0)] [(0, (.int .i64 (-1))), (1, (.int .i64 6))]) fun r16 =>
  ∀ o17, H14 o17 = none →
  ACalls P n_s_l01PickInt [a0, (.slice o17 0 2 (some 2))] (upd H14 o17 ⟨1, r16⟩) fun v18 H19 =>
  bnd (stz 1 c10 0 v18) fun c20 =>
  bnd (partOf true 3 c20 0) fun t21 =>
  bnd (stz 3 [(.int .i64 0), (.int .i64 0), (.int .i64 0)] 0 t21) fun c22 =>
  bnd (partOf true 3 c22 0) fun t23 =>
  Ret R t23 H19)
  (bnd (aBinN .eql v13 (.int .i64 1)) fun t24 =>
  cnd t24
  (bnd (aBinN .sub a1 (.int .i64 1)) fun t25 =>
  bnd (bsl 1 3 [(.int .i64 0)] [(0, t25), (1, (.int .i64 1000000)), (2, (.int .i64 1000001))]) fun r26 =>
  ∀ o27, H14 o27 = none →
  ACalls P n_s_l01PickInt [a0, (.slice o27 0 3 (some 3))] (upd H14 o27 ⟨1, r26⟩) fun v28 H29 =>
  bnd (stz 1 c10 1 v28) fun c30 =>
  bnd (partOf true 3 c30 0) fun t31 =>
  bnd (stz 3 [(.int .i64 0), (.int .i64 0), (.int .i64 0)] 0 t31) fun c32 =>
  bnd (partOf true 3 c32 0) fun t33 =>
  Ret R t33 H29)
  (bnd (aBinN .eql v13 (.int .i64 2)) fun t34 =>
  cnd t34
  (bnd (bsl 1 3 [(.int .i64 0)] [(0, (.int .i64 (-1))), (1, (.int .i64 10)), (2, (.int .i64 11))]) fun r35 =>
  ∀ o36, H14 o36 = none →
  ACalls P n_s_l01PickInt [a0, (.slice o36 0 3 (some 3))] (upd H14 o36 ⟨1, r35⟩) fun v37 H38 =>
  bnd (stz 1 c10 2 v37) fun c39 =>
  bnd (partOf true 3 c39 0) fun t40 =>
  bnd (stz 3 [(.int .i64 0), (.int .i64 0), (.int .i64 0)] 0 t40) fun c41 =>
  bnd (partOf true 3 c41 0) fun t42 =>
  Ret R t42 H38)
  (bnd (partOf true 3 c10 0) fun t43 =>
  bnd (stz 3 [(.int .i64 0), (.int .i64 0), (.int .i64 0)] 0 t43) fun c44 =>
  bnd (partOf true 3 c44 0) fun t45 =>
  Ret R t45 H14))))
  (bnd (partOf true 3 c10 0) fun t46 =>
  bnd (stz 3 [(.int .i64 0), (.int .i64 0), (.int .i64 0)] 0 t46) fun c47 =>
  bnd (partOf true 3 c47 0) fun t48 =>
  Ret R t48 H12)
theorem W_s_l07DrawEvent {R : V → Heap → Prop} {a0 a1 : V} {H : Heap} (h : F_s_l07DrawEvent R a0 a1 H) : ACalls P n_s_l07DrawEvent [a0, a1] H R :=
  acalls_of_form (g := ⟨[4, 5], [23, 31, 37]⟩) (x := (.seq .leaf (.seq .leaf (.seq (.seq .leaf (.cond (.seq .leaf (.block (.seq .leaf (.cond .leaf (.seq .leaf (.cond .leaf (.seq .leaf (.cond .leaf .leaf)))))))) .leaf)) (.seq .leaf .leaf))))) Try.func45 (by kernel_rfl) (by kernel_rfl) (by kernel_rfl) (by kernel_rfl : F_s_l07DrawEvent R a0 a1 H = _) h
def F_s_l01Byte (R : V → Heap → Prop) (a0 : V) (H : Heap) : Prop :=
  bnd (aNil a0) fun t1 =>
  bnd (aField 2 t1) fun t2 =>
  bnd (aLd false 1 H t2) fun t3 =>
  bnd (aBinN .mul t3 (.int .i64 6364136223846793005)) fun t4 =>
  bnd (aBinN .add t4 (.int .i64 1442695040888963407)) fun t5 =>
  bnd (aNil a0) fun t6 =>
  bnd (aField 2 t6) fun t7 =>
  bnd (aSt 1 H t7 t5) fun H8 =>
  ∃ S9, Abs.sub S9 H8 ∧
  bnd (aNil a0) fun t10 =>
  bnd (aField 2 t10) fun t11 =>
  bnd (aLd false 1 S9 t11) fun t12 =>
  bnd (aBinN .shr t12 (.int .u64 33)) fun t13 =>
  bnd (aNil a0) fun t14 =>
  bnd (aField 2 t14) fun t15 =>
  bnd (aLd false 1 S9 t15) fun t16 =>
  bnd (aBinN .shr t16 (.int .u64 45)) fun t17 =>
  bnd (aBinN .xor t13 t17) fun t18 =>
  bnd (aBinN .and t18 (.int .i64 255)) fun t19 =>
  ∃ S20, Abs.sub S20 H8 ∧
  bnd (aNil a0) fun t21 =>
  bnd (aField 1 t21) fun t22 =>
  bnd (aLd false 1 S20 t22) fun t23 =>
  bnd (aNil a0) fun t24 =>
  bnd (aField 0 t24) fun t25 =>
  bnd (aLd false 1 S20 t25) fun t26 =>
  bnd (lenOf t26) fun n27 =>
  bnd (aBinN .lss t23 (.int .i64 (n27 : Nat))) fun t28 =>
  cnd t28
  (∃ S29, Abs.sub S29 H8 ∧
  bnd (aNil a0) fun t30 =>
  bnd (aField 0 t30) fun t31 =>
  bnd (aLd false 1 S29 t31) fun t32 =>
  bnd (aNil a0) fun t33 =>
  bnd (aField 1 t33) fun t34 =>
  bnd (aLd false 1 S29 t34) fun t35 =>
  bnd (aIndex S29 1 t32 t35) fun t36 =>
  bnd (aLd false 1 S29 t36) fun t37 =>
  bnd (aCv .i64 t37) fun t38 =>
  bnd (aBinN .add t19 t38) fun t39 =>
  bnd (aBinN .and t39 (.int .i64 255)) fun t40 =>
  bnd (aNil a0) fun t41 =>
  bnd (aField 1 t41) fun t42 =>
  bnd (aLd false 1 H8 t42) fun t43 =>
  bnd (aBinN .add t43 (.int .i64 1)) fun t44 =>
  bnd (aNil a0) fun t45 =>
  bnd (aField 1 t45) fun t46 =>
  bnd (aSt 1 H8 t46 t44) fun H47 =>
  Ret R t40 H47)
  (Ret R t19 H8)
theorem W_s_l01Byte {R : V → Heap → Prop} {a0 : V} {H : Heap} (h : F_s_l01Byte R a0 H) : ACalls P n_s_l01Byte [a0] H R :=
  acalls_of_form (g := ⟨[], []⟩) (x := (.seq .leaf (.seq .leaf (.seq (.draw [0, 1, 2, 3, 4, 5, 6, 7, 8, 9, 10, 11, 12]) (.seq (.seq (.draw [0, 1, 2, 3, 4, 5, 6, 7, 8, 9]) (.cond (.seq (.draw [0, 1, 2, 3, 4, 5, 6, 7, 8, 9, 10, 11, 12, 13, 14]) .leaf) .leaf)) (.seq .leaf .leaf)))))) Try.func46 (by kernel_rfl) (by kernel_rfl) (by kernel_rfl) (by kernel_rfl : F_s_l01Byte R a0 H = _) h
theorem Q_neq_Near {x0 y0 : Int} {x1 y1 : Int} {x2 y2 : Int} : aBin P .neq 34 (.agg [.int .i64 x0, .int .i64 x1, .int .i64 x2]) (.agg [.int .i64 y0, .int .i64 y1, .int .i64 y2]) = some (.bool (!((x0 == y0) && ((x1 == y1) && ((x2 == y2) && true))))) := by kernel_rfl
end Go.Proofs.Ytlmgahcpdapbdaa
