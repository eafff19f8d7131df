/-
The shallow forms of the functions; printed by a program.
-/
import Derived.Test.YtcmpkkcbdmllpaaAbsO
import Derived.Test.YtcmpkkcbdmllpaaProg
import Derived.KernelRfl
set_option linter.all false
namespace Go.Proofs.Ytcmpkkcbdmllpaa
open Go Go.Abs Go.Proofs
set_option maxRecDepth 100000
noncomputable abbrev P : Program := Try.prog
abbrev n_gosem_cut_init : FuncId := 2
abbrev n_l_FnExactCountHome : FuncId := 3
abbrev n_l_FnExactSinks : FuncId := 4
abbrev n_l_FnExactWalk : FuncId := 5
abbrev n_l_FnExactLoopsAt : FuncId := 6
abbrev n_l_szTableS : FuncId := 7
abbrev n_s_CountHome : FuncId := 8
abbrev n_l_toTableS : FuncId := 9
abbrev n_i_CountHome : FuncId := 10
abbrev n_l_eqTableS : FuncId := 11
abbrev n_s_Sinks : FuncId := 12
abbrev n_i_Sinks : FuncId := 13
abbrev n_l_eqIntS : FuncId := 14
abbrev n_l_markTableS : FuncId := 15
abbrev n_l_markIntS : FuncId := 16
abbrev n_l_heldIntS : FuncId := 17
abbrev n_s_Walk : FuncId := 18
abbrev n_i_Walk : FuncId := 19
abbrev n_s_LoopsAt : FuncId := 20
abbrev n_i_LoopsAt : FuncId := 21
abbrev n_l_szTable : FuncId := 22
abbrev n_s_l09Fine : FuncId := 23
abbrev n_s_l09Each : FuncId := 24
abbrev n_l_toTable : FuncId := 25
abbrev n_i_areTables : FuncId := 26
abbrev n_i_nodesWith : FuncId := 27
abbrev n_l_eqTable : FuncId := 28
abbrev n_s_FindHop : FuncId := 29
abbrev n_l_markRouteS : FuncId := 30
abbrev n_i_within : FuncId := 31
abbrev n_i_walk : FuncId := 32
abbrev n_l_szRouteS : FuncId := 33
abbrev n_s_l01In : FuncId := 34
abbrev n_s_l01Addr : FuncId := 35
abbrev n_s_TableOk : FuncId := 36
abbrev n_l_toRouteS : FuncId := 37
abbrev n_i_isAddr : FuncId := 38
abbrev n_slices_ContainsFunc_i_Table_i_Table : FuncId := 39
abbrev n_i_areTables_1 : FuncId := 40
abbrev n_i_TableOk : FuncId := 41
abbrev n_l_eqRouteS : FuncId := 42
abbrev n_s_BestRoute : FuncId := 43
abbrev n_i_best : FuncId := 44
abbrev n_s_PrefixOk : FuncId := 45
abbrev n_s_l02Ahead : FuncId := 46
abbrev n_l_toRoute : FuncId := 47
abbrev n_slices_IndexFunc_i_Table_i_Table : FuncId := 48
abbrev n_i_isRoute : FuncId := 49
abbrev n_i_comparePrefixes : FuncId := 50
abbrev n_l_eqRoute : FuncId := 51
abbrev n_s_HasAddr : FuncId := 52
abbrev n_i_Prefix_has : FuncId := 53
abbrev n_s_l01Size2 : FuncId := 54
abbrev n_l_toPrefix : FuncId := 55
abbrev n_i_PrefixOk : FuncId := 56
abbrev n_l_eqPrefix : FuncId := 57
abbrev n_i_Prefix_size : FuncId := 58
def F_l_FnExactCountHome (R : V → Heap → Prop) (a0 a1 : V) (H : Heap) : Prop :=
  ACalls P n_l_szTableS [a0, (.int .i64 1048576)] H fun v1 H2 =>
  bnd (aBinN .lss v1 (.int .i64 0)) fun t3 =>
  cnd t3
  (Ret R (.bool true) H2)
  (ACalls P n_l_toTableS [a0] H2 fun v4 H5 =>
  ACalls P n_s_CountHome [v4, a1] H5 fun v6 H7 =>
  ACalls P n_l_toTableS [a0] H7 fun v8 H9 =>
  ACalls P n_i_CountHome [v8, a1] H9 fun v10 H11 =>
  bnd (aBinN .neq v10 v6) fun t12 =>
  cnd t12
  (Ret R (.bool false) H11)
  (ACalls P n_l_toTableS [a0] H11 fun v13 H14 =>
  ACalls P n_l_eqTableS [v8, v13] H14 fun v15 H16 =>
  bnd (aNot v15) fun t17 =>
  cnd t17
  (Ret R (.bool false) H16)
  (Ret R (.bool true) H16)))
theorem W_l_FnExactCountHome {R : V → Heap → Prop} {a0 a1 : V} {H : Heap} (h : F_l_FnExactCountHome R a0 a1 H) : ACalls P n_l_FnExactCountHome [a0, a1] H R :=
  acalls_of_form (g := ⟨[], []⟩) (x := (.seq .leaf (.seq .leaf (.seq .leaf (.seq (.seq .leaf (.cond (.seq .leaf .leaf) .leaf)) (.seq .leaf (.seq .leaf (.seq .leaf (.seq (.seq .leaf (.cond (.seq .leaf .leaf) .leaf)) (.seq (.seq .leaf (.cond (.seq .leaf .leaf) .leaf)) (.seq .leaf .leaf))))))))))) Try.func3 (by kernel_rfl) (by kernel_rfl) (by kernel_rfl) (by kernel_rfl : F_l_FnExactCountHome R a0 a1 H = _) h
def F_l_FnExactSinks (R : V → Heap → Prop) (a0 a1 : V) (H : Heap) : Prop :=
  ACalls P n_l_szTableS [a0, (.int .i64 1048576)] H fun v1 H2 =>
  bnd (aBinN .lss v1 (.int .i64 0)) fun t3 =>
  cnd t3
  (Ret R (.bool true) H2)
  (ACalls P n_l_toTableS [a0] H2 fun v4 H5 =>
  ACalls P n_s_Sinks [v4, a1] H5 fun v6 H7 =>
  ACalls P n_l_toTableS [a0] H7 fun v8 H9 =>
  ACalls P n_i_Sinks [v8, a1] H9 fun v10 H11 =>
  ACalls P n_l_eqIntS [v10, v6] H11 fun v12 H13 =>
  bnd (aNot v12) fun t14 =>
  cnd t14
  (Ret R (.bool false) H13)
  (ACalls P n_l_toTableS [a0] H13 fun v15 H16 =>
  ACalls P n_l_eqTableS [v8, v15] H16 fun v17 H18 =>
  bnd (aNot v17) fun t19 =>
  cnd t19
  (Ret R (.bool false) H18)
  (ACalls P n_l_markTableS [v8, (.int .i64 1)] H18 fun v20 H21 =>
  bnd (aBinN .lss v20 (.int .i64 0)) fun t22 =>
  gd t22 false
  (ACalls P n_l_eqIntS [v10, v6] H21 fun v23 H24 =>
  bnd (aNot v23) fun t25 =>
  cnd t25
  (Ret R (.bool false) H24)
  (ACalls P n_l_markIntS [v10, (.int .i64 1)] H24 fun v26 H27 =>
  ACalls P n_l_heldIntS [v10, (.int .i64 1)] H27 fun v28 H29 =>
  bnd (aBinN .lss v28 (.int .i64 0)) fun t30 =>
  cnd t30
  (Ret R (.bool false) H29)
  (bnd (aBinN .neq v28 v26) fun t31 =>
  cnd t31
  (Ret R (.bool false) H29)
  (ACalls P n_l_toTableS [a0] H29 fun v32 H33 =>
  ACalls P n_i_Sinks [v32, a1] H33 fun v34 H35 =>
  ACalls P n_l_eqIntS [v34, v6] H35 fun v36 H37 =>
  bnd (aNot v36) fun t38 =>
  cnd t38
  (Ret R (.bool false) H37)
  (ACalls P n_l_heldIntS [v10, (.int .i64 1)] H37 fun v39 H40 =>
  bnd (aBinN .lss v39 (.int .i64 0)) fun t41 =>
  cnd t41
  (Ret R (.bool false) H40)
  (bnd (aBinN .neq v39 v26) fun t42 =>
  cnd t42
  (Ret R (.bool false) H40)
  (Ret R (.bool true) H40)))))))
  (Ret R (.bool false) H21))))
theorem W_l_FnExactSinks {R : V → Heap → Prop} {a0 a1 : V} {H : Heap} (h : F_l_FnExactSinks R a0 a1 H) : ACalls P n_l_FnExactSinks [a0, a1] H R :=
  acalls_of_form (g := ⟨[], []⟩) (x := (.seq .leaf (.seq .leaf (.seq .leaf (.seq (.seq .leaf (.cond (.seq .leaf .leaf) .leaf)) (.seq .leaf (.seq .leaf (.seq .leaf (.seq (.seq .leaf (.cond (.seq .leaf .leaf) .leaf)) (.seq (.seq .leaf (.cond (.seq .leaf .leaf) .leaf)) (.seq .leaf (.seq .leaf (.seq (.seq .leaf (.cond (.seq .leaf .leaf) .leaf)) (.seq .leaf (.seq .leaf (.seq .leaf (.seq .leaf (.seq (.seq .leaf (.cond (.seq .leaf .leaf) .leaf)) (.seq (.seq .leaf (.cond (.seq .leaf .leaf) .leaf)) (.seq .leaf (.seq (.seq .leaf (.cond (.seq .leaf .leaf) .leaf)) (.seq .leaf (.seq .leaf (.seq (.seq .leaf (.cond (.seq .leaf .leaf) .leaf)) (.seq (.seq .leaf (.cond (.seq .leaf .leaf) .leaf)) (.seq .leaf .leaf)))))))))))))))))))))))))) Try.func4 (by kernel_rfl) (by kernel_rfl) (by kernel_rfl) (by kernel_rfl : F_l_FnExactSinks R a0 a1 H = _) h
def F_l_FnExactWalk (R : V → Heap → Prop) (a0 a1 a2 a3 : V) (H : Heap) : Prop :=
  ACalls P n_l_szTableS [a0, (.int .i64 1048576)] H fun v1 H2 =>
  bnd (aBinN .lss v1 (.int .i64 0)) fun t3 =>
  cnd t3
  (Ret R (.bool true) H2)
  (ACalls P n_l_toTableS [a0] H2 fun v4 H5 =>
  ACalls P n_s_Walk [v4, a1, a2, a3] H5 fun v6 H7 =>
  bnd (aExtract 0 v6) fun t8 =>
  bnd (aExtract 1 v6) fun t9 =>
  ACalls P n_l_toTableS [a0] H7 fun v10 H11 =>
  ACalls P n_i_Walk [v10, a1, a2, a3] H11 fun v12 H13 =>
  bnd (aExtract 0 v12) fun t14 =>
  bnd (aExtract 1 v12) fun t15 =>
  ACalls P n_l_eqIntS [t14, t8] H13 fun v16 H17 =>
  bnd (aNot v16) fun t18 =>
  gd t18 false
  (bnd (aBinN .neq t15 t9) fun t19 =>
  cnd t19
  (Ret R (.bool false) H17)
  (ACalls P n_l_toTableS [a0] H17 fun v20 H21 =>
  ACalls P n_l_eqTableS [v10, v20] H21 fun v22 H23 =>
  bnd (aNot v22) fun t24 =>
  cnd t24
  (Ret R (.bool false) H23)
  (ACalls P n_l_markTableS [v10, (.int .i64 1)] H23 fun v25 H26 =>
  bnd (aBinN .lss v25 (.int .i64 0)) fun t27 =>
  gd t27 false
  (ACalls P n_l_eqIntS [t14, t8] H26 fun v28 H29 =>
  bnd (aNot v28) fun t30 =>
  gd t30 false
  (bnd (aBinN .neq t15 t9) fun t31 =>
  cnd t31
  (Ret R (.bool false) H29)
  (ACalls P n_l_markIntS [t14, (.int .i64 1)] H29 fun v32 H33 =>
  ACalls P n_l_heldIntS [t14, (.int .i64 1)] H33 fun v34 H35 =>
  bnd (aBinN .lss v34 (.int .i64 0)) fun t36 =>
  cnd t36
  (Ret R (.bool false) H35)
  (bnd (aBinN .neq v34 v32) fun t37 =>
  cnd t37
  (Ret R (.bool false) H35)
  (ACalls P n_l_toTableS [a0] H35 fun v38 H39 =>
  ACalls P n_i_Walk [v38, a1, a2, a3] H39 fun v40 H41 =>
  bnd (aExtract 0 v40) fun t42 =>
  bnd (aExtract 1 v40) fun t43 =>
  ACalls P n_l_eqIntS [t42, t8] H41 fun v44 H45 =>
  bnd (aNot v44) fun t46 =>
  gd t46 false
  (bnd (aBinN .neq t43 t9) fun t47 =>
  cnd t47
  (Ret R (.bool false) H45)
  (ACalls P n_l_heldIntS [t14, (.int .i64 1)] H45 fun v48 H49 =>
  bnd (aBinN .lss v48 (.int .i64 0)) fun t50 =>
  cnd t50
  (Ret R (.bool false) H49)
  (bnd (aBinN .neq v48 v32) fun t51 =>
  cnd t51
  (Ret R (.bool false) H49)
  (Ret R (.bool true) H49))))
  (Ret R (.bool false) H45)))))
  (Ret R (.bool false) H29))
  (Ret R (.bool false) H26))))
  (Ret R (.bool false) H17))
theorem W_l_FnExactWalk {R : V → Heap → Prop} {a0 a1 a2 a3 : V} {H : Heap} (h : F_l_FnExactWalk R a0 a1 a2 a3 H) : ACalls P n_l_FnExactWalk [a0, a1, a2, a3] H R :=
  acalls_of_form (g := ⟨[], []⟩) (x := (.seq .leaf (.seq .leaf (.seq .leaf (.seq (.seq .leaf (.cond (.seq .leaf .leaf) .leaf)) (.seq .leaf (.seq .leaf (.seq .leaf (.seq (.seq .leaf (.cond (.seq .leaf .leaf) .leaf)) (.seq (.seq .leaf (.cond (.seq .leaf .leaf) .leaf)) (.seq .leaf (.seq .leaf (.seq (.seq .leaf (.cond (.seq .leaf .leaf) .leaf)) (.seq .leaf (.seq .leaf (.seq .leaf (.seq .leaf (.seq (.seq .leaf (.cond (.seq .leaf .leaf) .leaf)) (.seq (.seq .leaf (.cond (.seq .leaf .leaf) .leaf)) (.seq .leaf (.seq (.seq .leaf (.cond (.seq .leaf .leaf) .leaf)) (.seq .leaf (.seq .leaf (.seq (.seq .leaf (.cond (.seq .leaf .leaf) .leaf)) (.seq (.seq .leaf (.cond (.seq .leaf .leaf) .leaf)) (.seq .leaf .leaf)))))))))))))))))))))))))) Try.func5 (by kernel_rfl) (by kernel_rfl) (by kernel_rfl) (by kernel_rfl : F_l_FnExactWalk R a0 a1 a2 a3 H = _) h
def F_l_FnExactLoopsAt (R : V → Heap → Prop) (a0 a1 : V) (H : Heap) : Prop :=
  ACalls P n_l_szTableS [a0, (.int .i64 1048576)] H fun v1 H2 =>
  bnd (aBinN .lss v1 (.int .i64 0)) fun t3 =>
  cnd t3
  (Ret R (.bool true) H2)
  (ACalls P n_l_toTableS [a0] H2 fun v4 H5 =>
  ACalls P n_s_LoopsAt [v4, a1] H5 fun v6 H7 =>
  ACalls P n_l_toTableS [a0] H7 fun v8 H9 =>
  ACalls P n_i_LoopsAt [v8, a1] H9 fun v10 H11 =>
  ACalls P n_l_eqIntS [v10, v6] H11 fun v12 H13 =>
  bnd (aNot v12) fun t14 =>
  cnd t14
  (Ret R (.bool false) H13)
  (ACalls P n_l_toTableS [a0] H13 fun v15 H16 =>
  ACalls P n_l_eqTableS [v8, v15] H16 fun v17 H18 =>
  bnd (aNot v17) fun t19 =>
  cnd t19
  (Ret R (.bool false) H18)
  (ACalls P n_l_markTableS [v8, (.int .i64 1)] H18 fun v20 H21 =>
  bnd (aBinN .lss v20 (.int .i64 0)) fun t22 =>
  gd t22 false
  (ACalls P n_l_eqIntS [v10, v6] H21 fun v23 H24 =>
  bnd (aNot v23) fun t25 =>
  cnd t25
  (Ret R (.bool false) H24)
  (ACalls P n_l_markIntS [v10, (.int .i64 1)] H24 fun v26 H27 =>
  ACalls P n_l_heldIntS [v10, (.int .i64 1)] H27 fun v28 H29 =>
  bnd (aBinN .lss v28 (.int .i64 0)) fun t30 =>
  cnd t30
  (Ret R (.bool false) H29)
  (bnd (aBinN .neq v28 v26) fun t31 =>
  cnd t31
  (Ret R (.bool false) H29)
  (ACalls P n_l_toTableS [a0] H29 fun v32 H33 =>
  ACalls P n_i_LoopsAt [v32, a1] H33 fun v34 H35 =>
  ACalls P n_l_eqIntS [v34, v6] H35 fun v36 H37 =>
  bnd (aNot v36) fun t38 =>
  cnd t38
  (Ret R (.bool false) H37)
  (ACalls P n_l_heldIntS [v10, (.int .i64 1)] H37 fun v39 H40 =>
  bnd (aBinN .lss v39 (.int .i64 0)) fun t41 =>
  cnd t41
  (Ret R (.bool false) H40)
  (bnd (aBinN .neq v39 v26) fun t42 =>
  cnd t42
  (Ret R (.bool false) H40)
  (Ret R (.bool true) H40)))))))
  (Ret R (.bool false) H21))))
theorem W_l_FnExactLoopsAt {R : V → Heap → Prop} {a0 a1 : V} {H : Heap} (h : F_l_FnExactLoopsAt R a0 a1 H) : ACalls P n_l_FnExactLoopsAt [a0, a1] H R :=
  acalls_of_form (g := ⟨[], []⟩) (x := (.seq .leaf (.seq .leaf (.seq .leaf (.seq (.seq .leaf (.cond (.seq .leaf .leaf) .leaf)) (.seq .leaf (.seq .leaf (.seq .leaf (.seq (.seq .leaf (.cond (.seq .leaf .leaf) .leaf)) (.seq (.seq .leaf (.cond (.seq .leaf .leaf) .leaf)) (.seq .leaf (.seq .leaf (.seq (.seq .leaf (.cond (.seq .leaf .leaf) .leaf)) (.seq .leaf (.seq .leaf (.seq .leaf (.seq .leaf (.seq (.seq .leaf (.cond (.seq .leaf .leaf) .leaf)) (.seq (.seq .leaf (.cond (.seq .leaf .leaf) .leaf)) (.seq .leaf (.seq (.seq .leaf (.cond (.seq .leaf .leaf) .leaf)) (.seq .leaf (.seq .leaf (.seq (.seq .leaf (.cond (.seq .leaf .leaf) .leaf)) (.seq (.seq .leaf (.cond (.seq .leaf .leaf) .leaf)) (.seq .leaf .leaf)))))))))))))))))))))))))) Try.func6 (by kernel_rfl) (by kernel_rfl) (by kernel_rfl) (by kernel_rfl : F_l_FnExactLoopsAt R a0 a1 H = _) h
def F_l_szTableS (R : V → Heap → Prop) (a0 a1 : V) (H : Heap) : Prop :=
  bnd (lenOf a0) fun n1 =>
  bnd (aBinN .sub a1 (.int .i64 (n1 : Nat))) fun t2 =>
  bnd (aBinN .lss t2 (.int .i64 0)) fun t3 =>
  cnd t3
  (Ret R (.int .i64 (-1)) H)
  (∃ (I4 : Nat → List V → Heap → Prop) (n5 : Nat), Shr (I4 n5 [t2, (.int .i64 0)]) H ∧
  ∀ n6 xs8 H9, I4 n6 xs8 H9 →
  bnd (lenOf a0) fun n10 =>
  bnd (aBinN .lss (xs8.tail.headD .any) (.int .i64 (n10 : Nat))) fun t11 =>
  cnd t11
  (bnd (aIndex H9 1 a0 (xs8.tail.headD .any)) fun t12 =>
  bnd (aLd true 1 H9 t12) fun t13 =>
  ACalls P n_l_szTable [t13, (xs8.headD .any)] H9 fun v14 H15 =>
  bnd (aBinN .lss v14 (.int .i64 0)) fun t16 =>
  cnd t16
  (Ret R (.int .i64 (-1)) H15)
  (bnd (aBinN .add (xs8.tail.headD .any) (.int .i64 1)) fun t17 =>
  ∃ n7, n7 < n6 ∧ Shr (I4 n7 [v14, t17]) H15))
  (Ret R (xs8.headD .any) H9))
theorem W_l_szTableS {R : V → Heap → Prop} {a0 a1 : V} {H : Heap} (h : F_l_szTableS R a0 a1 H) : ACalls P n_l_szTableS [a0, a1] H R :=
  acalls_of_form (g := ⟨[], []⟩) (x := (.seq .leaf (.seq .leaf (.seq (.seq .leaf (.cond (.seq .leaf .leaf) .leaf)) (.seq (.seq .leaf (.block (.loop [1, 5] (.seq (.seq .leaf (.cond .leaf .leaf)) (.seq (.block (.seq .leaf (.seq .leaf (.cond (.seq .leaf .leaf) .leaf)))) .leaf))))) (.seq .leaf .leaf)))))) Try.func7 (by kernel_rfl) (by kernel_rfl) (by kernel_rfl) (by kernel_rfl : F_l_szTableS R a0 a1 H = _) h
def F_s_CountHome (R : V → Heap → Prop) (a0 a1 : V) (H : Heap) : Prop :=
  ACalls P n_s_l09Fine [a0, (.int .i64 0), a1, (.int .i64 0)] H fun v1 H2 =>
  bnd (aNot v1) fun t3 =>
  cnd t3
  (Ret R (.int .i64 (-1)) H2)
  (ACalls P n_s_l09Each [a0, a1, (.int .i64 0)] H2 fun v4 H5 =>
  bnd (lenOf v4) fun n6 =>
  Ret R (.int .i64 (n6 : Nat)) H5)
theorem W_s_CountHome {R : V → Heap → Prop} {a0 a1 : V} {H : Heap} (h : F_s_CountHome R a0 a1 H) : ACalls P n_s_CountHome [a0, a1] H R :=
  acalls_of_form (g := ⟨[], []⟩) (x := (.seq .leaf (.seq (.seq .leaf (.cond (.seq .leaf .leaf) .leaf)) (.seq .leaf .leaf)))) Try.func8 (by kernel_rfl) (by kernel_rfl) (by kernel_rfl) (by kernel_rfl : F_s_CountHome R a0 a1 H = _) h
def F_l_toTableS (R : V → Heap → Prop) (a0 : V) (H : Heap) : Prop :=
  bnd (lenOf a0) fun n1 =>
  bnd (natOf (.int .i64 (n1 : Nat))) fun n2 =>
  bnd (natOf (.int .i64 (n1 : Nat))) fun n3 =>
  (n2 ≤ n3 ∧ n3 ≤ 140737488355328 ∧ 24 * n3 ≤ 281474976710656 ∧ 1 = 1 ∧ 0 < 1) ∧
  ∀ o4, H o4 = none →
  ∃ (I5 : Nat → List V → Heap → Prop) (n6 : Nat), Shr (I5 n6 [(.int .i64 0)]) (upd H o4 ⟨1, List.replicate n3 [.nils]⟩) ∧
  ∀ n7 xs9 H10, I5 n7 xs9 H10 →
  bnd (lenOf a0) fun n11 =>
  bnd (aBinN .lss (xs9.headD .any) (.int .i64 (n11 : Nat))) fun t12 =>
  cnd t12
  (bnd (aIndex H10 1 a0 (xs9.headD .any)) fun t13 =>
  bnd (aLd true 1 H10 t13) fun t14 =>
  ACalls P n_l_toTable [t14] H10 fun v15 H16 =>
  bnd (aIndex H16 1 (.slice o4 0 n2 (some n3)) (xs9.headD .any)) fun t17 =>
  bnd (aSt 1 H16 t17 v15) fun H18 =>
  bnd (aBinN .add (xs9.headD .any) (.int .i64 1)) fun t19 =>
  ∃ n8, n8 < n7 ∧ Shr (I5 n8 [t19]) H18)
  (Ret R (.slice o4 0 n2 (some n3)) H10)
theorem W_l_toTableS {R : V → Heap → Prop} {a0 : V} {H : Heap} (h : F_l_toTableS R a0 H) : ACalls P n_l_toTableS [a0] H R :=
  acalls_of_form (g := ⟨[], []⟩) (x := (.seq .leaf (.seq .leaf (.seq (.seq .leaf (.block (.loop [4] (.seq (.seq .leaf (.cond .leaf .leaf)) (.seq (.block .leaf) .leaf))))) (.seq .leaf .leaf))))) Try.func9 (by kernel_rfl) (by kernel_rfl) (by kernel_rfl) (by kernel_rfl : F_l_toTableS R a0 H = _) h
def F_i_CountHome (R : V → Heap → Prop) (a0 a1 : V) (H : Heap) : Prop :=
  ACalls P n_i_areTables [a0, (.int .i64 0), a1] H fun v1 H2 =>
  bnd (aNot v1) fun t3 =>
  cnd t3
  (Ret R (.int .i64 (-1)) H2)
  (ACalls P n_i_nodesWith [a0, a1, (.int .i64 16), (.int .i64 0)] H2 fun v4 H5 =>
  bnd (lenOf v4) fun n6 =>
  Ret R (.int .i64 (n6 : Nat)) H5)
theorem W_i_CountHome {R : V → Heap → Prop} {a0 a1 : V} {H : Heap} (h : F_i_CountHome R a0 a1 H) : ACalls P n_i_CountHome [a0, a1] H R :=
  acalls_of_form (g := ⟨[], []⟩) (x := (.seq .leaf (.seq (.seq .leaf (.cond (.seq .leaf .leaf) .leaf)) (.seq .leaf .leaf)))) Try.func10 (by kernel_rfl) (by kernel_rfl) (by kernel_rfl) (by kernel_rfl : F_i_CountHome R a0 a1 H = _) h
def F_l_eqTableS (R : V → Heap → Prop) (a0 a1 : V) (H : Heap) : Prop :=
  bnd (lenOf a0) fun n1 =>
  bnd (lenOf a1) fun n2 =>
  bnd (aBinN .neq (.int .i64 (n1 : Nat)) (.int .i64 (n2 : Nat))) fun t3 =>
  cnd t3
  (Ret R (.bool false) H)
  (∃ (I4 : Nat → List V → Heap → Prop) (n5 : Nat), Shr (I4 n5 [(.int .i64 0)]) H ∧
  ∀ n6 xs8 H9, I4 n6 xs8 H9 →
  bnd (lenOf a0) fun n10 =>
  bnd (aBinN .lss (xs8.headD .any) (.int .i64 (n10 : Nat))) fun t11 =>
  cnd t11
  (∃ S12, Abs.sub S12 H9 ∧
  bnd (aIndex S12 1 a0 (xs8.headD .any)) fun t13 =>
  bnd (aLd true 1 S12 t13) fun t14 =>
  bnd (aIndex S12 1 a1 (xs8.headD .any)) fun t15 =>
  bnd (aLd true 1 S12 t15) fun t16 =>
  ACalls P n_l_eqTable [t14, t16] H9 fun v17 H18 =>
  Abs.sub S12 H18 ∧
  bnd (aNot v17) fun t19 =>
  cnd t19
  (Ret R (.bool false) H18)
  (bnd (aBinN .add (xs8.headD .any) (.int .i64 1)) fun t20 =>
  ∃ n7, n7 < n6 ∧ Shr (I4 n7 [t20]) H18))
  (Ret R (.bool true) H9))
theorem W_l_eqTableS {R : V → Heap → Prop} {a0 a1 : V} {H : Heap} (h : F_l_eqTableS R a0 a1 H) : ACalls P n_l_eqTableS [a0, a1] H R :=
  acalls_of_form (g := ⟨[], []⟩) (x := (.seq .leaf (.seq (.seq .leaf (.cond (.seq .leaf .leaf) .leaf)) (.seq (.seq .leaf (.block (.loop [5] (.seq (.seq .leaf (.cond .leaf .leaf)) (.seq (.block (.seq (.draw [0, 1, 2, 3, 4, 5, 6, 7, 8, 9]) (.cond (.seq .leaf .leaf) .leaf))) .leaf))))) (.seq .leaf .leaf))))) Try.func11 (by kernel_rfl) (by kernel_rfl) (by kernel_rfl) (by kernel_rfl : F_l_eqTableS R a0 a1 H = _) h
def F_s_Sinks (R : V → Heap → Prop) (a0 a1 : V) (H : Heap) : Prop :=
  bnd (bsl 1 0 [(.int .i64 0)] []) fun r1 =>
  ∀ o2, H o2 = none →
  ACalls P n_s_l09Fine [a0, (.int .i64 0), a1, (.int .i64 0)] (upd H o2 ⟨1, r1⟩) fun v3 H4 =>
  bnd (aNot v3) fun t5 =>
  cnd t5
  (Ret R .nils H4)
  (∃ (I6 : Nat → List V → Heap → Prop) (n7 : Nat), Shr (I6 n7 [(.slice o2 0 0 (some 0)), (.int .i64 0)]) H4 ∧
  ∀ n8 xs10 H11, I6 n8 xs10 H11 →
  bnd (lenOf a0) fun n12 =>
  bnd (aBinN .lss (xs10.tail.headD .any) (.int .i64 (n12 : Nat))) fun t13 =>
  cnd t13
  (bnd (aIndex H11 1 a0 (xs10.tail.headD .any)) fun t14 =>
  bnd (aLd true 1 H11 t14) fun t15 =>
  ACalls P n_s_FindHop [t15, a1] H11 fun v16 H17 =>
  bnd (aBinN .eql v16 (.int .i64 0)) fun t18 =>
  cnd t18
  (bnd (bsl 1 1 [(.int .i64 0)] [(0, (xs10.tail.headD .any))]) fun r19 =>
  ∀ o20, H17 o20 = none →
  bnd (rowsOf (upd H17 o20 ⟨1, r19⟩) 1 (.slice o20 0 1 (some 1))) fun r23 =>
  appendK (upd H17 o20 ⟨1, r19⟩) 1 8 (xs10.headD .any) r23 fun v21 H22 =>
  bnd (aBinN .add (xs10.tail.headD .any) (.int .i64 1)) fun t24 =>
  ∃ n9, n9 < n8 ∧ Shr (I6 n9 [v21, t24]) H22)
  (bnd (aBinN .add (xs10.tail.headD .any) (.int .i64 1)) fun t25 =>
  ∃ n9, n9 < n8 ∧ Shr (I6 n9 [(xs10.headD .any), t25]) H17))
  (Ret R (xs10.headD .any) H11))
theorem W_s_Sinks {R : V → Heap → Prop} {a0 a1 : V} {H : Heap} (h : F_s_Sinks R a0 a1 H) : ACalls P n_s_Sinks [a0, a1] H R :=
  acalls_of_form (g := ⟨[], []⟩) (x := (.seq .leaf (.seq .leaf (.seq (.seq .leaf (.cond (.seq .leaf .leaf) .leaf)) (.seq (.seq .leaf (.block (.loop [5, 6] (.seq (.seq .leaf (.cond .leaf .leaf)) (.seq (.block (.seq .leaf (.cond .leaf .leaf))) .leaf))))) (.seq .leaf .leaf)))))) Try.func12 (by kernel_rfl) (by kernel_rfl) (by kernel_rfl) (by kernel_rfl : F_s_Sinks R a0 a1 H = _) h
def F_i_Sinks (R : V → Heap → Prop) (a0 a1 : V) (H : Heap) : Prop :=
  ACalls P n_i_nodesWith [a0, a1, (.int .i64 0), (.int .i64 0)] H fun v1 H2 =>
  Ret R v1 H2
theorem W_i_Sinks {R : V → Heap → Prop} {a0 a1 : V} {H : Heap} (h : F_i_Sinks R a0 a1 H) : ACalls P n_i_Sinks [a0, a1] H R :=
  acalls_of_form (g := ⟨[], []⟩) (x := (.seq .leaf (.seq .leaf .leaf))) Try.func13 (by kernel_rfl) (by kernel_rfl) (by kernel_rfl) (by kernel_rfl : F_i_Sinks R a0 a1 H = _) h
def F_l_eqIntS (R : V → Heap → Prop) (a0 a1 : V) (H : Heap) : Prop :=
  bnd (lenOf a0) fun n1 =>
  bnd (lenOf a1) fun n2 =>
  bnd (aBinN .neq (.int .i64 (n1 : Nat)) (.int .i64 (n2 : Nat))) fun t3 =>
  cnd t3
  (Ret R (.bool false) H)
  (∃ (I4 : Nat → List V → Heap → Prop) (n5 : Nat), Shr (I4 n5 [(.int .i64 0)]) H ∧
  ∀ n6 xs8 H9, I4 n6 xs8 H9 →
  bnd (lenOf a0) fun n10 =>
  bnd (aBinN .lss (xs8.headD .any) (.int .i64 (n10 : Nat))) fun t11 =>
  cnd t11
  (∃ S12, Abs.sub S12 H9 ∧
  bnd (aIndex S12 1 a0 (xs8.headD .any)) fun t13 =>
  bnd (aLd false 1 S12 t13) fun t14 =>
  bnd (aIndex S12 1 a1 (xs8.headD .any)) fun t15 =>
  bnd (aLd false 1 S12 t15) fun t16 =>
  bnd (aBinN .neq t14 t16) fun t17 =>
  cnd t17
  (Ret R (.bool false) H9)
  (bnd (aBinN .add (xs8.headD .any) (.int .i64 1)) fun t18 =>
  ∃ n7, n7 < n6 ∧ Shr (I4 n7 [t18]) H9))
  (Ret R (.bool true) H9))
theorem W_l_eqIntS {R : V → Heap → Prop} {a0 a1 : V} {H : Heap} (h : F_l_eqIntS R a0 a1 H) : ACalls P n_l_eqIntS [a0, a1] H R :=
  acalls_of_form (g := ⟨[], []⟩) (x := (.seq .leaf (.seq (.seq .leaf (.cond (.seq .leaf .leaf) .leaf)) (.seq (.seq .leaf (.block (.loop [5] (.seq (.seq .leaf (.cond .leaf .leaf)) (.seq (.block (.seq (.draw [0, 1, 2, 3, 4, 5, 6, 7, 8]) (.cond (.seq .leaf .leaf) .leaf))) .leaf))))) (.seq .leaf .leaf))))) Try.func14 (by kernel_rfl) (by kernel_rfl) (by kernel_rfl) (by kernel_rfl : F_l_eqIntS R a0 a1 H = _) h
def F_l_markTableS (R : V → Heap → Prop) (a0 a1 : V) (H : Heap) : Prop :=
  ∃ (I1 : Nat → List V → Heap → Prop) (n2 : Nat), Shr (I1 n2 [a1, (.int .i64 0)]) H ∧
  ∀ n3 xs5 H6, I1 n3 xs5 H6 →
  bnd (lenOf a0) fun n7 =>
  bnd (aBinN .lss (xs5.tail.headD .any) (.int .i64 (n7 : Nat))) fun t8 =>
  cnd t8
  (bnd (aIndex H6 1 a0 (xs5.tail.headD .any)) fun t9 =>
  bnd (aField 0 t9) fun t10 =>
  bnd (aLd false 1 H6 t10) fun t11 =>
  ACalls P n_l_markRouteS [t11, (xs5.headD .any)] H6 fun v12 H13 =>
  bnd (aBinN .add (xs5.tail.headD .any) (.int .i64 1)) fun t14 =>
  ∃ n4, n4 < n3 ∧ Shr (I1 n4 [v12, t14]) H13)
  (Ret R (xs5.headD .any) H6)
theorem W_l_markTableS {R : V → Heap → Prop} {a0 a1 : V} {H : Heap} (h : F_l_markTableS R a0 a1 H) : ACalls P n_l_markTableS [a0, a1] H R :=
  acalls_of_form (g := ⟨[], []⟩) (x := (.seq .leaf (.seq (.seq .leaf (.block (.loop [1, 5] (.seq (.seq .leaf (.cond .leaf .leaf)) (.seq (.block .leaf) .leaf))))) (.seq .leaf .leaf)))) Try.func15 (by kernel_rfl) (by kernel_rfl) (by kernel_rfl) (by kernel_rfl : F_l_markTableS R a0 a1 H = _) h
def F_l_markIntS (R : V → Heap → Prop) (a0 a1 : V) (H : Heap) : Prop :=
  ∃ (I1 : Nat → List V → Heap → Prop) (n2 : Nat), Shr (I1 n2 [a1, (.int .i64 0)]) H ∧
  ∀ n3 xs5 H6, I1 n3 xs5 H6 →
  bnd (lenOf a0) fun n7 =>
  bnd (aBinN .lss (xs5.tail.headD .any) (.int .i64 (n7 : Nat))) fun t8 =>
  cnd t8
  (bnd (aIndex H6 1 a0 (xs5.tail.headD .any)) fun t9 =>
  bnd (aSt 1 H6 t9 (xs5.headD .any)) fun H10 =>
  bnd (aBinN .add (xs5.headD .any) (.int .i64 1)) fun t11 =>
  bnd (aBinN .add (xs5.tail.headD .any) (.int .i64 1)) fun t12 =>
  ∃ n4, n4 < n3 ∧ Shr (I1 n4 [t11, t12]) H10)
  (Ret R (xs5.headD .any) H6)
theorem W_l_markIntS {R : V → Heap → Prop} {a0 a1 : V} {H : Heap} (h : F_l_markIntS R a0 a1 H) : ACalls P n_l_markIntS [a0, a1] H R :=
  acalls_of_form (g := ⟨[], []⟩) (x := (.seq .leaf (.seq (.seq .leaf (.block (.loop [1, 5] (.seq (.seq .leaf (.cond .leaf .leaf)) (.seq (.block (.seq .leaf .leaf)) .leaf))))) (.seq .leaf .leaf)))) Try.func16 (by kernel_rfl) (by kernel_rfl) (by kernel_rfl) (by kernel_rfl : F_l_markIntS R a0 a1 H = _) h
def F_l_heldIntS (R : V → Heap → Prop) (a0 a1 : V) (H : Heap) : Prop :=
  ∃ (I1 : Nat → List V → Heap → Prop) (n2 : Nat), Shr (I1 n2 [a1, (.int .i64 0)]) H ∧
  ∀ n3 xs5 H6, I1 n3 xs5 H6 →
  bnd (lenOf a0) fun n7 =>
  bnd (aBinN .lss (xs5.tail.headD .any) (.int .i64 (n7 : Nat))) fun t8 =>
  cnd t8
  (bnd (aIndex H6 1 a0 (xs5.tail.headD .any)) fun t9 =>
  bnd (aLd false 1 H6 t9) fun t10 =>
  bnd (aBinN .neq t10 (xs5.headD .any)) fun t11 =>
  cnd t11
  (Ret R (.int .i64 (-1)) H6)
  (bnd (aBinN .add (xs5.headD .any) (.int .i64 1)) fun t12 =>
  bnd (aBinN .add (xs5.tail.headD .any) (.int .i64 1)) fun t13 =>
  ∃ n4, n4 < n3 ∧ Shr (I1 n4 [t12, t13]) H6))
  (Ret R (xs5.headD .any) H6)
theorem W_l_heldIntS {R : V → Heap → Prop} {a0 a1 : V} {H : Heap} (h : F_l_heldIntS R a0 a1 H) : ACalls P n_l_heldIntS [a0, a1] H R :=
  acalls_of_form (g := ⟨[], []⟩) (x := (.seq .leaf (.seq (.seq .leaf (.block (.loop [1, 5] (.seq (.seq .leaf (.cond .leaf .leaf)) (.seq (.block (.seq (.seq .leaf (.cond (.seq .leaf .leaf) .leaf)) .leaf)) .leaf))))) (.seq .leaf .leaf)))) Try.func17 (by kernel_rfl) (by kernel_rfl) (by kernel_rfl) (by kernel_rfl : F_l_heldIntS R a0 a1 H = _) h
def F_s_Walk (R : V → Heap → Prop) (a0 a1 a2 a3 : V) (H : Heap) : Prop :=
  ACalls P n_s_l09Fine [a0, a1, a2, a3] H fun v1 H2 =>
  bnd (aNot v1) fun t3 =>
  cnd t3
  (Ret R (.tup [.nils, (.int .i64 3)]) H2)
  (bnd (bsl 1 1 [(.int .i64 0)] [(0, a1)]) fun r4 =>
  ∀ o5, H2 o5 = none →
  ∃ (I6 : Nat → List V → Heap → Prop) (n7 : Nat), Shr (I6 n7 [a3, (.slice o5 0 1 (some 1)), a1]) (upd H2 o5 ⟨1, r4⟩) ∧
  ∀ n8 xs10 H11, I6 n8 xs10 H11 →
  bnd (aIndex H11 1 a0 (xs10.tail.tail.headD .any)) fun t12 =>
  bnd (aLd true 1 H11 t12) fun t13 =>
  ACalls P n_s_FindHop [t13, a2] H11 fun v14 H15 =>
  bnd (aBinN .eql v14 (.int .i64 0)) fun t16 =>
  cnd t16
  (Ret R (.tup [(xs10.tail.headD .any), (.int .i64 0)]) H15)
  (bnd (aBinN .lss v14 (.int .i64 0)) fun t17 =>
  gd t17 false
  (bnd (lenOf a0) fun n18 =>
  bnd (aBinN .gtr v14 (.int .i64 (n18 : Nat))) fun t19 =>
  cnd t19
  (Ret R (.tup [(xs10.tail.headD .any), (.int .i64 1)]) H15)
  (bnd (aBinN .eql (xs10.headD .any) (.int .i64 0)) fun t20 =>
  cnd t20
  (Ret R (.tup [(xs10.tail.headD .any), (.int .i64 2)]) H15)
  (bnd (aBinN .sub (xs10.headD .any) (.int .i64 1)) fun t21 =>
  bnd (aBinN .sub v14 (.int .i64 1)) fun t22 =>
  bnd (bsl 1 1 [(.int .i64 0)] [(0, t22)]) fun r23 =>
  ∀ o24, H15 o24 = none →
  bnd (rowsOf (upd H15 o24 ⟨1, r23⟩) 1 (.slice o24 0 1 (some 1))) fun r27 =>
  appendK (upd H15 o24 ⟨1, r23⟩) 1 8 (xs10.tail.headD .any) r27 fun v25 H26 =>
  ∃ n9, n9 < n8 ∧ Shr (I6 n9 [t21, v25, t22]) H26)))
  (Ret R (.tup [(xs10.tail.headD .any), (.int .i64 1)]) H15)))
theorem W_s_Walk {R : V → Heap → Prop} {a0 a1 a2 a3 : V} {H : Heap} (h : F_s_Walk R a0 a1 a2 a3 H) : ACalls P n_s_Walk [a0, a1, a2, a3] H R :=
  acalls_of_form (g := ⟨[], []⟩) (x := (.seq .leaf (.seq (.seq .leaf (.cond (.seq .leaf .leaf) .leaf)) (.seq .leaf (.seq .leaf (.block (.loop [3, 10, 11] (.block (.seq .leaf (.seq (.seq .leaf (.cond (.seq .leaf .leaf) .leaf)) (.seq (.seq .leaf (.cond (.seq .leaf .leaf) .leaf)) (.seq (.seq .leaf (.cond (.seq .leaf .leaf) .leaf)) (.seq .leaf (.seq .leaf .leaf)))))))))))))) Try.func18 (by kernel_rfl) (by kernel_rfl) (by kernel_rfl) (by kernel_rfl : F_s_Walk R a0 a1 a2 a3 H = _) h
def F_i_Walk (R : V → Heap → Prop) (a0 a1 a2 a3 : V) (H : Heap) : Prop :=
  ACalls P n_i_areTables [a0, a1, a2] H fun v1 H2 =>
  bnd (aNot v1) fun t3 =>
  gd t3 false
  (ACalls P n_i_within [a3, (.int .i64 0), (.int .i64 16)] H2 fun v4 H5 =>
  bnd (aNot v4) fun t6 =>
  cnd t6
  (Ret R (.tup [.nils, (.int .i64 3)]) H5)
  (ACalls P n_i_walk [a0, a1, a2, a3] H5 fun v7 H8 =>
  bnd (aExtract 0 v7) fun t9 =>
  bnd (aExtract 1 v7) fun t10 =>
  Ret R (.tup [t9, t10]) H8))
  (Ret R (.tup [.nils, (.int .i64 3)]) H2)
theorem W_i_Walk {R : V → Heap → Prop} {a0 a1 a2 a3 : V} {H : Heap} (h : F_i_Walk R a0 a1 a2 a3 H) : ACalls P n_i_Walk [a0, a1, a2, a3] H R :=
  acalls_of_form (g := ⟨[], []⟩) (x := (.seq .leaf (.seq (.seq .leaf (.cond (.seq .leaf .leaf) .leaf)) (.seq .leaf .leaf)))) Try.func19 (by kernel_rfl) (by kernel_rfl) (by kernel_rfl) (by kernel_rfl : F_i_Walk R a0 a1 a2 a3 H = _) h
def F_s_LoopsAt (R : V → Heap → Prop) (a0 a1 : V) (H : Heap) : Prop :=
  ACalls P n_s_l09Each [a0, a1, (.int .i64 2)] H fun v1 H2 =>
  Ret R v1 H2
theorem W_s_LoopsAt {R : V → Heap → Prop} {a0 a1 : V} {H : Heap} (h : F_s_LoopsAt R a0 a1 H) : ACalls P n_s_LoopsAt [a0, a1] H R :=
  acalls_of_form (g := ⟨[], []⟩) (x := (.seq .leaf (.seq .leaf .leaf))) Try.func20 (by kernel_rfl) (by kernel_rfl) (by kernel_rfl) (by kernel_rfl : F_s_LoopsAt R a0 a1 H = _) h
def F_i_LoopsAt (R : V → Heap → Prop) (a0 a1 : V) (H : Heap) : Prop :=
  ACalls P n_i_nodesWith [a0, a1, (.int .i64 16), (.int .i64 2)] H fun v1 H2 =>
  Ret R v1 H2
theorem W_i_LoopsAt {R : V → Heap → Prop} {a0 a1 : V} {H : Heap} (h : F_i_LoopsAt R a0 a1 H) : ACalls P n_i_LoopsAt [a0, a1] H R :=
  acalls_of_form (g := ⟨[], []⟩) (x := (.seq .leaf (.seq .leaf .leaf))) Try.func21 (by kernel_rfl) (by kernel_rfl) (by kernel_rfl) (by kernel_rfl : F_i_LoopsAt R a0 a1 H = _) h
def F_l_szTable (R : V → Heap → Prop) (a0 a1 : V) (H : Heap) : Prop :=
  boxK a0 (bnd (partOf false 1 (cellsOf a0) 0) fun t1 =>
  ACalls P n_l_szRouteS [t1, a1] H fun v2 H3 =>
  bnd (aBinN .lss v2 (.int .i64 0)) fun t4 =>
  cnd t4
  (Ret R (.int .i64 (-1)) H3)
  (Ret R v2 H3))
theorem W_l_szTable {R : V → Heap → Prop} {a0 a1 : V} {H : Heap} (h : F_l_szTable R a0 a1 H) : ACalls P n_l_szTable [a0, a1] H R :=
  acalls_of_form (g := ⟨[2], [5]⟩) (x := (.seq .leaf (.seq .leaf (.seq (.seq .leaf (.cond (.seq .leaf .leaf) .leaf)) (.seq .leaf .leaf))))) Try.func22 (by kernel_rfl) (by kernel_rfl) (by kernel_rfl) (by kernel_rfl : F_l_szTable R a0 a1 H = _) h
def F_s_l09Fine (R : V → Heap → Prop) (a0 a1 a2 a3 : V) (H : Heap) : Prop :=
  bnd (lenOf a0) fun n1 =>
  ACalls P n_s_l01In [(.int .i64 (n1 : Nat)), (.int .i64 1), (.int .i64 10)] H fun v2 H3 =>
  bnd (aNot v2) fun t4 =>
  gd t4 false
  (bnd (lenOf a0) fun n5 =>
  bnd (aBinN .sub (.int .i64 (n5 : Nat)) (.int .i64 1)) fun t6 =>
  ACalls P n_s_l01In [a1, (.int .i64 0), t6] H3 fun v7 H8 =>
  bnd (aNot v7) fun t9 =>
  gd t9 false
  (ACalls P n_s_l01Addr [a2] H8 fun v10 H11 =>
  bnd (aNot v10) fun t12 =>
  gd t12 false
  (ACalls P n_s_l01In [a3, (.int .i64 0), (.int .i64 16)] H11 fun v13 H14 =>
  bnd (aNot v13) fun t15 =>
  cnd t15
  (Ret R (.bool false) H14)
  (∃ (I16 : Nat → List V → Heap → Prop) (n17 : Nat), Shr (I16 n17 [(.int .i64 0)]) H14 ∧
  ∀ n18 xs20 H21, I16 n18 xs20 H21 →
  bnd (lenOf a0) fun n22 =>
  bnd (aBinN .lss (xs20.headD .any) (.int .i64 (n22 : Nat))) fun t23 =>
  cnd t23
  (bnd (aIndex H21 1 a0 (xs20.headD .any)) fun t24 =>
  bnd (aLd true 1 H21 t24) fun t25 =>
  ACalls P n_s_TableOk [t25] H21 fun v26 H27 =>
  bnd (aNot v26) fun t28 =>
  cnd t28
  (Ret R (.bool false) H27)
  (bnd (aBinN .add (xs20.headD .any) (.int .i64 1)) fun t29 =>
  ∃ n19, n19 < n18 ∧ Shr (I16 n19 [t29]) H27))
  (Ret R (.bool true) H21)))
  (Ret R (.bool false) H11))
  (Ret R (.bool false) H8))
  (Ret R (.bool false) H3)
theorem W_s_l09Fine {R : V → Heap → Prop} {a0 a1 a2 a3 : V} {H : Heap} (h : F_s_l09Fine R a0 a1 a2 a3 H) : ACalls P n_s_l09Fine [a0, a1, a2, a3] H R :=
  acalls_of_form (g := ⟨[], []⟩) (x := (.seq .leaf (.seq (.seq .leaf (.cond (.seq .leaf .leaf) .leaf)) (.seq (.seq .leaf (.block (.loop [9] (.seq (.seq .leaf (.cond .leaf .leaf)) (.seq (.block (.seq .leaf (.cond (.seq .leaf .leaf) .leaf))) .leaf))))) (.seq .leaf .leaf))))) Try.func23 (by kernel_rfl) (by kernel_rfl) (by kernel_rfl) (by kernel_rfl : F_s_l09Fine R a0 a1 a2 a3 H = _) h
def F_s_l09Each (R : V → Heap → Prop) (a0 a1 a2 : V) (H : Heap) : Prop :=
  bnd (bsl 1 0 [(.int .i64 0)] []) fun r1 =>
  ∀ o2, H o2 = none →
  ACalls P n_s_l09Fine [a0, (.int .i64 0), a1, (.int .i64 0)] (upd H o2 ⟨1, r1⟩) fun v3 H4 =>
  bnd (aNot v3) fun t5 =>
  cnd t5
  (Ret R .nils H4)
  (∃ (I6 : Nat → List V → Heap → Prop) (n7 : Nat), Shr (I6 n7 [(.slice o2 0 0 (some 0)), (.int .i64 0)]) H4 ∧
  ∀ n8 xs10 H11, I6 n8 xs10 H11 →
  bnd (lenOf a0) fun n12 =>
  bnd (aBinN .lss (xs10.tail.headD .any) (.int .i64 (n12 : Nat))) fun t13 =>
  cnd t13
  (ACalls P n_s_Walk [a0, (xs10.tail.headD .any), a1, (.int .i64 16)] H11 fun v14 H15 =>
  bnd (aExtract 0 v14) fun t16 =>
  bnd (aExtract 1 v14) fun t17 =>
  bnd (aBinN .eql t17 a2) fun t18 =>
  cnd t18
  (bnd (bsl 1 1 [(.int .i64 0)] [(0, (xs10.tail.headD .any))]) fun r19 =>
  ∀ o20, H15 o20 = none →
  bnd (rowsOf (upd H15 o20 ⟨1, r19⟩) 1 (.slice o20 0 1 (some 1))) fun r23 =>
  appendK (upd H15 o20 ⟨1, r19⟩) 1 8 (xs10.headD .any) r23 fun v21 H22 =>
  bnd (aBinN .add (xs10.tail.headD .any) (.int .i64 1)) fun t24 =>
  ∃ n9, n9 < n8 ∧ Shr (I6 n9 [v21, t24]) H22)
  (bnd (aBinN .add (xs10.tail.headD .any) (.int .i64 1)) fun t25 =>
  ∃ n9, n9 < n8 ∧ Shr (I6 n9 [(xs10.headD .any), t25]) H15))
  (Ret R (xs10.headD .any) H11))
theorem W_s_l09Each {R : V → Heap → Prop} {a0 a1 a2 : V} {H : Heap} (h : F_s_l09Each R a0 a1 a2 H) : ACalls P n_s_l09Each [a0, a1, a2] H R :=
  acalls_of_form (g := ⟨[], []⟩) (x := (.seq .leaf (.seq .leaf (.seq (.seq .leaf (.cond (.seq .leaf .leaf) .leaf)) (.seq (.seq .leaf (.block (.loop [7, 8] (.seq (.seq .leaf (.cond .leaf .leaf)) (.seq (.block (.seq .leaf (.seq .leaf (.cond .leaf .leaf)))) .leaf))))) (.seq .leaf .leaf)))))) Try.func24 (by kernel_rfl) (by kernel_rfl) (by kernel_rfl) (by kernel_rfl : F_s_l09Each R a0 a1 a2 H = _) h
def F_l_toTable (R : V → Heap → Prop) (a0 : V) (H : Heap) : Prop :=
  boxK a0 (bnd (partOf false 1 (cellsOf a0) 0) fun t1 =>
  ACalls P n_l_toRouteS [t1] H fun v2 H3 =>
  bnd (stz 1 [.nils] 0 v2) fun c4 =>
  bnd (partOf true 1 c4 0) fun t5 =>
  bnd (stz 1 [.nils] 0 t5) fun c6 =>
  bnd (partOf true 1 c6 0) fun t7 =>
  Ret R t7 H3)
theorem W_l_toTable {R : V → Heap → Prop} {a0 : V} {H : Heap} (h : F_l_toTable R a0 H) : ACalls P n_l_toTable [a0] H R :=
  acalls_of_form (g := ⟨[1, 2, 3], [4, 7]⟩) (x := (.seq .leaf (.seq .leaf (.seq .leaf (.seq .leaf .leaf))))) Try.func25 (by kernel_rfl) (by kernel_rfl) (by kernel_rfl) (by kernel_rfl : F_l_toTable R a0 H = _) h
def F_i_areTables (R : V → Heap → Prop) (a0 a1 a2 : V) (H : Heap) : Prop :=
  bnd (lenOf a0) fun n1 =>
  ACalls P n_i_within [(.int .i64 (n1 : Nat)), (.int .i64 1), (.int .i64 10)] H fun v2 H3 =>
  gd v2 true
  (bnd (lenOf a0) fun n4 =>
  bnd (aBinN .sub (.int .i64 (n4 : Nat)) (.int .i64 1)) fun t5 =>
  ACalls P n_i_within [a1, (.int .i64 0), t5] H3 fun v6 H7 =>
  gd v6 true
  (ACalls P n_i_isAddr [a2] H7 fun v8 H9 =>
  gd v8 true
  (ACalls P n_slices_ContainsFunc_i_Table_i_Table [a0, (.fn n_i_areTables_1 [])] H9 fun v10 H11 =>
  bnd (aNot v10) fun t12 =>
  Ret R t12 H11)
  (Ret R (.bool false) H9))
  (Ret R (.bool false) H7))
  (Ret R (.bool false) H3)
theorem W_i_areTables {R : V → Heap → Prop} {a0 a1 a2 : V} {H : Heap} (h : F_i_areTables R a0 a1 a2 H) : ACalls P n_i_areTables [a0, a1, a2] H R :=
  acalls_of_form (g := ⟨[], []⟩) (x := (.seq .leaf (.seq .leaf .leaf))) Try.func26 (by kernel_rfl) (by kernel_rfl) (by kernel_rfl) (by kernel_rfl : F_i_areTables R a0 a1 a2 H = _) h
def F_i_nodesWith (R : V → Heap → Prop) (a0 a1 a2 a3 : V) (H : Heap) : Prop :=
  ACalls P n_i_areTables [a0, (.int .i64 0), a1] H fun v1 H2 =>
  bnd (aNot v1) fun t3 =>
  cnd t3
  (Ret R .nils H2)
  (bnd (bsl 1 0 [(.int .i64 0)] []) fun r4 =>
  ∀ o5, H2 o5 = none →
  bnd (lenOf a0) fun n6 =>
  ∃ (I7 : Nat → List V → Heap → Prop) (n8 : Nat), Shr (I7 n8 [(.slice o5 0 0 (some 0)), (.int .i64 0)]) (upd H2 o5 ⟨1, r4⟩) ∧
  ∀ n9 xs11 H12, I7 n9 xs11 H12 →
  bnd (aBinN .lss (xs11.tail.headD .any) (.int .i64 (n6 : Nat))) fun t13 =>
  cnd t13
  (ACalls P n_i_walk [a0, (xs11.tail.headD .any), a1, a2] H12 fun v14 H15 =>
  bnd (aExtract 0 v14) fun t16 =>
  bnd (aExtract 1 v14) fun t17 =>
  bnd (aBinN .eql t17 a3) fun t18 =>
  cnd t18
  (bnd (bsl 1 1 [(.int .i64 0)] [(0, (xs11.tail.headD .any))]) fun r19 =>
  ∀ o20, H15 o20 = none →
  bnd (rowsOf (upd H15 o20 ⟨1, r19⟩) 1 (.slice o20 0 1 (some 1))) fun r23 =>
  appendK (upd H15 o20 ⟨1, r19⟩) 1 8 (xs11.headD .any) r23 fun v21 H22 =>
  bnd (aBinN .add (xs11.tail.headD .any) (.int .i64 1)) fun t24 =>
  ∃ n10, n10 < n9 ∧ Shr (I7 n10 [v21, t24]) H22)
  (bnd (aBinN .add (xs11.tail.headD .any) (.int .i64 1)) fun t25 =>
  ∃ n10, n10 < n9 ∧ Shr (I7 n10 [(xs11.headD .any), t25]) H15))
  (Ret R (xs11.headD .any) H12))
theorem W_i_nodesWith {R : V → Heap → Prop} {a0 a1 a2 a3 : V} {H : Heap} (h : F_i_nodesWith R a0 a1 a2 a3 H) : ACalls P n_i_nodesWith [a0, a1, a2, a3] H R :=
  acalls_of_form (g := ⟨[], []⟩) (x := (.seq .leaf (.seq (.seq .leaf (.cond (.seq .leaf .leaf) .leaf)) (.seq .leaf (.seq (.seq .leaf (.block (.loop [9, 20] (.seq .leaf (.seq (.cond .leaf .leaf) (.seq (.block (.seq .leaf (.seq .leaf (.seq .leaf (.cond .leaf .leaf))))) .leaf)))))) (.seq .leaf .leaf)))))) Try.func27 (by kernel_rfl) (by kernel_rfl) (by kernel_rfl) (by kernel_rfl : F_i_nodesWith R a0 a1 a2 a3 H = _) h
def F_l_eqTable (R : V → Heap → Prop) (a0 a1 : V) (H : Heap) : Prop :=
  boxK a0 (boxK a1 (bnd (partOf false 1 (cellsOf a0) 0) fun t1 =>
  bnd (partOf false 1 (cellsOf a1) 0) fun t2 =>
  ACalls P n_l_eqRouteS [t1, t2] H fun v3 H4 =>
  bnd (aNot v3) fun t5 =>
  cnd t5
  (Ret R (.bool false) H4)
  (Ret R (.bool true) H4)))
theorem W_l_eqTable {R : V → Heap → Prop} {a0 a1 : V} {H : Heap} (h : F_l_eqTable R a0 a1 H) : ACalls P n_l_eqTable [a0, a1] H R :=
  acalls_of_form (g := ⟨[2, 3], [5, 7]⟩) (x := (.seq .leaf (.seq (.seq .leaf (.cond (.seq .leaf .leaf) .leaf)) (.seq .leaf .leaf)))) Try.func28 (by kernel_rfl) (by kernel_rfl) (by kernel_rfl) (by kernel_rfl : F_l_eqTable R a0 a1 H = _) h
def F_s_FindHop (R : V → Heap → Prop) (a0 a1 : V) (H : Heap) : Prop :=
  boxK a0 (bnd (partOf true 1 (cellsOf a0) 0) fun t1 =>
  ACalls P n_s_BestRoute [t1, a1] H fun v2 H3 =>
  bnd (aExtract 0 v2) fun t4 =>
  bnd (aExtract 1 v2) fun t5 =>
  bnd (stz 3 [(.int .i64 0), (.int .i64 0), (.int .i64 0)] 0 t4) fun c6 =>
  bnd (aNot t5) fun t7 =>
  cnd t7
  (Ret R (.int .i64 (-1)) H3)
  (bnd (partOf false 1 c6 2) fun t8 =>
  Ret R t8 H3))
theorem W_s_FindHop {R : V → Heap → Prop} {a0 a1 : V} {H : Heap} (h : F_s_FindHop R a0 a1 H) : ACalls P n_s_FindHop [a0, a1] H R :=
  acalls_of_form (g := ⟨[2, 5], [15]⟩) (x := (.seq .leaf (.seq .leaf (.seq (.seq .leaf (.cond (.seq .leaf .leaf) .leaf)) (.seq .leaf .leaf))))) Try.func29 (by kernel_rfl) (by kernel_rfl) (by kernel_rfl) (by kernel_rfl : F_s_FindHop R a0 a1 H = _) h
def F_l_markRouteS (R : V → Heap → Prop) (a0 a1 : V) (H : Heap) : Prop :=
  ∃ (I1 : Nat → List V → Heap → Prop) (n2 : Nat), Shr (I1 n2 [a1, (.int .i64 0)]) H ∧
  ∀ n3 xs5 H6, I1 n3 xs5 H6 →
  bnd (lenOf a0) fun n7 =>
  bnd (aBinN .lss (xs5.tail.headD .any) (.int .i64 (n7 : Nat))) fun t8 =>
  cnd t8
  (bnd (aIndex H6 3 a0 (xs5.tail.headD .any)) fun t9 =>
  bnd (aField 0 t9) fun t10 =>
  bnd (aField 0 t10) fun t11 =>
  bnd (aSt 1 H6 t11 (xs5.headD .any)) fun H12 =>
  bnd (aBinN .add (xs5.headD .any) (.int .i64 1)) fun t13 =>
  bnd (aIndex H12 3 a0 (xs5.tail.headD .any)) fun t14 =>
  bnd (aField 0 t14) fun t15 =>
  bnd (aField 1 t15) fun t16 =>
  bnd (aSt 1 H12 t16 t13) fun H17 =>
  bnd (aBinN .add t13 (.int .i64 1)) fun t18 =>
  bnd (aIndex H17 3 a0 (xs5.tail.headD .any)) fun t19 =>
  bnd (aField 2 t19) fun t20 =>
  bnd (aSt 1 H17 t20 t18) fun H21 =>
  bnd (aBinN .add t18 (.int .i64 1)) fun t22 =>
  bnd (aBinN .add (xs5.tail.headD .any) (.int .i64 1)) fun t23 =>
  ∃ n4, n4 < n3 ∧ Shr (I1 n4 [t22, t23]) H21)
  (Ret R (xs5.headD .any) H6)
theorem W_l_markRouteS {R : V → Heap → Prop} {a0 a1 : V} {H : Heap} (h : F_l_markRouteS R a0 a1 H) : ACalls P n_l_markRouteS [a0, a1] H R :=
  acalls_of_form (g := ⟨[], []⟩) (x := (.seq .leaf (.seq (.seq .leaf (.block (.loop [1, 5] (.seq (.seq .leaf (.cond .leaf .leaf)) (.seq (.block (.seq .leaf (.seq .leaf (.seq .leaf (.seq .leaf (.seq .leaf .leaf)))))) .leaf))))) (.seq .leaf .leaf)))) Try.func30 (by kernel_rfl) (by kernel_rfl) (by kernel_rfl) (by kernel_rfl : F_l_markRouteS R a0 a1 H = _) h
def F_i_within (R : V → Heap → Prop) (a0 a1 a2 : V) (H : Heap) : Prop :=
  bnd (aBinN .geq a0 a1) fun t1 =>
  gd t1 true
  (bnd (aBinN .leq a0 a2) fun t2 =>
  Ret R t2 H)
  (Ret R (.bool false) H)
theorem W_i_within {R : V → Heap → Prop} {a0 a1 a2 : V} {H : Heap} (h : F_i_within R a0 a1 a2 H) : ACalls P n_i_within [a0, a1, a2] H R :=
  acalls_of_form (g := ⟨[], []⟩) (x := (.seq .leaf (.seq .leaf .leaf))) Try.func31 (by kernel_rfl) (by kernel_rfl) (by kernel_rfl) (by kernel_rfl : F_i_within R a0 a1 a2 H = _) h
def F_i_walk (R : V → Heap → Prop) (a0 a1 a2 a3 : V) (H : Heap) : Prop :=
  bnd (bsl 1 1 [(.int .i64 0)] [(0, a1)]) fun r1 =>
  ∀ o2, H o2 = none →
  ∃ (I3 : Nat → List V → Heap → Prop) (n4 : Nat), Shr (I3 n4 [a1, a3, (.slice o2 0 1 (some 1))]) (upd H o2 ⟨1, r1⟩) ∧
  ∀ n5 xs7 H8, I3 n5 xs7 H8 →
  bnd (aIndex H8 1 a0 (xs7.headD .any)) fun t9 =>
  bnd (aField 0 t9) fun t10 =>
  bnd (aLd false 1 H8 t10) fun t11 =>
  ACalls P n_i_best [t11, a2] H8 fun v12 H13 =>
  bnd (aExtract 0 v12) fun t14 =>
  bnd (aExtract 1 v12) fun t15 =>
  bnd (stz 3 [(.int .i64 0), (.int .i64 0), (.int .i64 0)] 0 t14) fun c16 =>
  bnd (aNot t15) fun t17 =>
  gd t17 false
  (bnd (partOf false 1 c16 2) fun t18 =>
  bnd (lenOf a0) fun n19 =>
  bnd (aBinN .gtr t18 (.int .i64 (n19 : Nat))) fun t20 =>
  cnd t20
  (Ret R (.tup [(xs7.tail.tail.headD .any), (.int .i64 1)]) H13)
  (bnd (partOf false 1 c16 2) fun t21 =>
  bnd (aBinN .eql t21 (.int .i64 0)) fun t22 =>
  cnd t22
  (Ret R (.tup [(xs7.tail.tail.headD .any), (.int .i64 0)]) H13)
  (bnd (aBinN .eql (xs7.tail.headD .any) (.int .i64 0)) fun t23 =>
  cnd t23
  (Ret R (.tup [(xs7.tail.tail.headD .any), (.int .i64 2)]) H13)
  (bnd (aBinN .sub (xs7.tail.headD .any) (.int .i64 1)) fun t24 =>
  bnd (partOf false 1 c16 2) fun t25 =>
  bnd (aBinN .sub t25 (.int .i64 1)) fun t26 =>
  bnd (bsl 1 1 [(.int .i64 0)] [(0, t26)]) fun r27 =>
  ∀ o28, H13 o28 = none →
  bnd (rowsOf (upd H13 o28 ⟨1, r27⟩) 1 (.slice o28 0 1 (some 1))) fun r31 =>
  appendK (upd H13 o28 ⟨1, r27⟩) 1 8 (xs7.tail.tail.headD .any) r31 fun v29 H30 =>
  ∃ n6, n6 < n5 ∧ Shr (I3 n6 [t26, t24, v29]) H30))))
  (Ret R (.tup [(xs7.tail.tail.headD .any), (.int .i64 1)]) H13)
theorem W_i_walk {R : V → Heap → Prop} {a0 a1 a2 a3 : V} {H : Heap} (h : F_i_walk R a0 a1 a2 a3 H) : ACalls P n_i_walk [a0, a1, a2, a3] H R :=
  acalls_of_form (g := ⟨[11], [29, 37, 47]⟩) (x := (.seq .leaf (.seq .leaf (.block (.loop [1, 3, 10] (.block (.seq .leaf (.seq (.block (.seq .leaf (.cond (.seq .leaf .leaf) (.seq .leaf (.cond (.seq .leaf .leaf) (.seq .leaf (.cond (.seq .leaf .leaf) .leaf))))))) (.seq .leaf (.seq .leaf .leaf)))))))))) Try.func32 (by kernel_rfl) (by kernel_rfl) (by kernel_rfl) (by kernel_rfl : F_i_walk R a0 a1 a2 a3 H = _) h
def F_l_szRouteS (R : V → Heap → Prop) (a0 a1 : V) (H : Heap) : Prop :=
  bnd (lenOf a0) fun n1 =>
  bnd (aBinN .sub a1 (.int .i64 (n1 : Nat))) fun t2 =>
  bnd (aBinN .lss t2 (.int .i64 0)) fun t3 =>
  cnd t3
  (Ret R (.int .i64 (-1)) H)
  (Ret R t2 H)
theorem W_l_szRouteS {R : V → Heap → Prop} {a0 a1 : V} {H : Heap} (h : F_l_szRouteS R a0 a1 H) : ACalls P n_l_szRouteS [a0, a1] H R :=
  acalls_of_form (g := ⟨[], []⟩) (x := (.seq .leaf (.seq .leaf (.seq (.seq .leaf (.cond (.seq .leaf .leaf) .leaf)) (.seq .leaf .leaf))))) Try.func33 (by kernel_rfl) (by kernel_rfl) (by kernel_rfl) (by kernel_rfl : F_l_szRouteS R a0 a1 H = _) h
def F_s_l01In (R : V → Heap → Prop) (a0 a1 a2 : V) (H : Heap) : Prop :=
  bnd (aBinN .leq a1 a0) fun t1 =>
  gd t1 true
  (bnd (aBinN .leq a0 a2) fun t2 =>
  Ret R t2 H)
  (Ret R (.bool false) H)
theorem W_s_l01In {R : V → Heap → Prop} {a0 a1 a2 : V} {H : Heap} (h : F_s_l01In R a0 a1 a2 H) : ACalls P n_s_l01In [a0, a1, a2] H R :=
  acalls_of_form (g := ⟨[], []⟩) (x := (.seq .leaf (.seq .leaf .leaf))) Try.func34 (by kernel_rfl) (by kernel_rfl) (by kernel_rfl) (by kernel_rfl : F_s_l01In R a0 a1 a2 H = _) h
def F_s_l01Addr (R : V → Heap → Prop) (a0 : V) (H : Heap) : Prop :=
  ACalls P n_s_l01In [a0, (.int .i64 0), (.int .i64 65535)] H fun v1 H2 =>
  Ret R v1 H2
theorem W_s_l01Addr {R : V → Heap → Prop} {a0 : V} {H : Heap} (h : F_s_l01Addr R a0 H) : ACalls P n_s_l01Addr [a0] H R :=
  acalls_of_form (g := ⟨[], []⟩) (x := (.seq .leaf (.seq .leaf .leaf))) Try.func35 (by kernel_rfl) (by kernel_rfl) (by kernel_rfl) (by kernel_rfl : F_s_l01Addr R a0 H = _) h
def F_s_TableOk (R : V → Heap → Prop) (a0 : V) (H : Heap) : Prop :=
  boxK a0 (bnd (partOf false 1 (cellsOf a0) 0) fun t1 =>
  bnd (lenOf t1) fun n2 =>
  bnd (aBinN .gtr (.int .i64 (n2 : Nat)) (.int .i64 120)) fun t3 =>
  cnd t3
  (Ret R (.bool false) H)
  (∃ (I4 : Nat → List V → Heap → Prop) (n5 : Nat), Shr (I4 n5 [(.int .i64 0)]) H ∧
  ∀ n6 xs8 H9, I4 n6 xs8 H9 →
  bnd (partOf false 1 (cellsOf a0) 0) fun t10 =>
  bnd (lenOf t10) fun n11 =>
  bnd (aBinN .lss (xs8.headD .any) (.int .i64 (n11 : Nat))) fun t12 =>
  cnd t12
  (∃ S13, Abs.sub S13 H9 ∧
  bnd (partOf false 1 (cellsOf a0) 0) fun t14 =>
  bnd (aIndex S13 3 t14 (xs8.headD .any)) fun t15 =>
  bnd (aField 0 t15) fun t16 =>
  bnd (aLd true 2 S13 t16) fun t17 =>
  ACalls P n_s_PrefixOk [t17] H9 fun v18 H19 =>
  Abs.sub S13 H19 ∧
  bnd (aNot v18) fun t20 =>
  gd t20 false
  (bnd (partOf false 1 (cellsOf a0) 0) fun t21 =>
  bnd (aIndex S13 3 t21 (xs8.headD .any)) fun t22 =>
  bnd (aField 2 t22) fun t23 =>
  bnd (aLd false 1 S13 t23) fun t24 =>
  ACalls P n_s_l01In [t24, (.int .i64 0), (.int .i64 999)] H19 fun v25 H26 =>
  Abs.sub S13 H26 ∧
  bnd (aNot v25) fun t27 =>
  gd t27 false
  (bnd (aBinN .gtr (xs8.headD .any) (.int .i64 0)) fun t28 =>
  gd3 t28 true
  (bnd (partOf false 1 (cellsOf a0) 0) fun t29 =>
  bnd (aBinN .sub (xs8.headD .any) (.int .i64 1)) fun t30 =>
  bnd (aIndex S13 3 t29 t30) fun t31 =>
  bnd (aField 0 t31) fun t32 =>
  bnd (aLd true 2 S13 t32) fun t33 =>
  bnd (partOf false 1 (cellsOf a0) 0) fun t34 =>
  bnd (aIndex S13 3 t34 (xs8.headD .any)) fun t35 =>
  bnd (aField 0 t35) fun t36 =>
  bnd (aLd true 2 S13 t36) fun t37 =>
  ACalls P n_s_l02Ahead [t33, t37] H26 fun v38 H39 =>
  Abs.sub S13 H39 ∧
  bnd (aNot v38) fun t40 =>
  cnd t40
  (Ret R (.bool false) H39)
  (bnd (aBinN .add (xs8.headD .any) (.int .i64 1)) fun t41 =>
  ∃ n7, n7 < n6 ∧ Shr (I4 n7 [t41]) H39))
  (bnd (aBinN .add (xs8.headD .any) (.int .i64 1)) fun t42 =>
  ∃ n7, n7 < n6 ∧ Shr (I4 n7 [t42]) H26)
  (bnd (aPick (.tup []) (.tup []) (.bool false)) fun t43 =>
  cnd t43
  (Ret R (.bool false) H26)
  (bnd (aBinN .add (xs8.headD .any) (.int .i64 1)) fun t44 =>
  ∃ n7, n7 < n6 ∧ Shr (I4 n7 [t44]) H26)))
  (Ret R (.bool false) H26))
  (Ret R (.bool false) H19))
  (Ret R (.bool true) H9)))
theorem W_s_TableOk {R : V → Heap → Prop} {a0 : V} {H : Heap} (h : F_s_TableOk R a0 H) : ACalls P n_s_TableOk [a0] H R :=
  acalls_of_form (g := ⟨[1], [4, 9, 15, 24, 37, 44]⟩) (x := (.seq .leaf (.seq (.seq .leaf (.cond (.seq .leaf .leaf) .leaf)) (.seq (.seq .leaf (.block (.loop [3] (.seq (.seq .leaf (.cond .leaf .leaf)) (.seq (.block (.seq (.draw [0, 1, 2, 3, 4, 5, 6, 7, 8, 9, 10, 11, 12, 13, 14, 15, 16, 17, 18, 19, 20, 21, 22, 23, 24, 25, 26, 27, 28, 29, 30, 31, 32, 33, 34, 35, 36, 37, 38]) (.cond (.seq .leaf .leaf) .leaf))) .leaf))))) (.seq .leaf .leaf))))) Try.func36 (by kernel_rfl) (by kernel_rfl) (by kernel_rfl) (by kernel_rfl : F_s_TableOk R a0 H = _) h
def F_l_toRouteS (R : V → Heap → Prop) (a0 : V) (H : Heap) : Prop :=
  bnd (lenOf a0) fun n1 =>
  bnd (natOf (.int .i64 (n1 : Nat))) fun n2 =>
  bnd (natOf (.int .i64 (n1 : Nat))) fun n3 =>
  (n2 ≤ n3 ∧ n3 ≤ 140737488355328 ∧ 24 * n3 ≤ 281474976710656 ∧ 3 = 3 ∧ 0 < 3) ∧
  ∀ o4, H o4 = none →
  ∃ (I5 : Nat → List V → Heap → Prop) (n6 : Nat), Shr (I5 n6 [(.int .i64 0)]) (upd H o4 ⟨3, List.replicate n3 [(.int .i64 0), (.int .i64 0), (.int .i64 0)]⟩) ∧
  ∀ n7 xs9 H10, I5 n7 xs9 H10 →
  bnd (lenOf a0) fun n11 =>
  bnd (aBinN .lss (xs9.headD .any) (.int .i64 (n11 : Nat))) fun t12 =>
  cnd t12
  (bnd (aIndex H10 3 a0 (xs9.headD .any)) fun t13 =>
  bnd (aLd true 3 H10 t13) fun t14 =>
  ACalls P n_l_toRoute [t14] H10 fun v15 H16 =>
  bnd (aIndex H16 3 (.slice o4 0 n2 (some n3)) (xs9.headD .any)) fun t17 =>
  bnd (aSt 3 H16 t17 v15) fun H18 =>
  bnd (aBinN .add (xs9.headD .any) (.int .i64 1)) fun t19 =>
  ∃ n8, n8 < n7 ∧ Shr (I5 n8 [t19]) H18)
  (Ret R (.slice o4 0 n2 (some n3)) H10)
theorem W_l_toRouteS {R : V → Heap → Prop} {a0 : V} {H : Heap} (h : F_l_toRouteS R a0 H) : ACalls P n_l_toRouteS [a0] H R :=
  acalls_of_form (g := ⟨[], []⟩) (x := (.seq .leaf (.seq .leaf (.seq (.seq .leaf (.block (.loop [4] (.seq (.seq .leaf (.cond .leaf .leaf)) (.seq (.block .leaf) .leaf))))) (.seq .leaf .leaf))))) Try.func37 (by kernel_rfl) (by kernel_rfl) (by kernel_rfl) (by kernel_rfl : F_l_toRouteS R a0 H = _) h
def F_i_isAddr (R : V → Heap → Prop) (a0 : V) (H : Heap) : Prop :=
  ACalls P n_i_within [a0, (.int .i64 0), (.int .i64 65535)] H fun v1 H2 =>
  Ret R v1 H2
theorem W_i_isAddr {R : V → Heap → Prop} {a0 : V} {H : Heap} (h : F_i_isAddr R a0 H) : ACalls P n_i_isAddr [a0] H R :=
  acalls_of_form (g := ⟨[], []⟩) (x := (.seq .leaf (.seq .leaf .leaf))) Try.func38 (by kernel_rfl) (by kernel_rfl) (by kernel_rfl) (by kernel_rfl : F_i_isAddr R a0 H = _) h
def F_slices_ContainsFunc_i_Table_i_Table (R : V → Heap → Prop) (a0 a1 : V) (H : Heap) : Prop :=
  ACalls P n_slices_IndexFunc_i_Table_i_Table [a0, a1] H fun v1 H2 =>
  bnd (aBinN .geq v1 (.int .i64 0)) fun t3 =>
  Ret R t3 H2
theorem W_slices_ContainsFunc_i_Table_i_Table {R : V → Heap → Prop} {a0 a1 : V} {H : Heap} (h : F_slices_ContainsFunc_i_Table_i_Table R a0 a1 H) : ACalls P n_slices_ContainsFunc_i_Table_i_Table [a0, a1] H R :=
  acalls_of_form (g := ⟨[], []⟩) (x := (.seq .leaf (.seq .leaf .leaf))) Try.func39 (by kernel_rfl) (by kernel_rfl) (by kernel_rfl) (by kernel_rfl : F_slices_ContainsFunc_i_Table_i_Table R a0 a1 H = _) h
def F_i_areTables_1 (R : V → Heap → Prop) (a0 : V) (H : Heap) : Prop :=
  boxK a0 (bnd (partOf true 1 (cellsOf a0) 0) fun t1 =>
  ACalls P n_i_TableOk [t1] H fun v2 H3 =>
  bnd (aNot v2) fun t4 =>
  Ret R t4 H3)
theorem W_i_areTables_1 {R : V → Heap → Prop} {a0 : V} {H : Heap} (h : F_i_areTables_1 R a0 H) : ACalls P n_i_areTables_1 [a0] H R :=
  acalls_of_form (g := ⟨[1], []⟩) (x := (.seq .leaf (.seq .leaf .leaf))) Try.func40 (by kernel_rfl) (by kernel_rfl) (by kernel_rfl) (by kernel_rfl : F_i_areTables_1 R a0 H = _) h
theorem E_i_areTables_1 : enterable P n_i_areTables_1 = true := by kernel_rfl
def F_i_TableOk (R : V → Heap → Prop) (a0 : V) (H : Heap) : Prop :=
  boxK a0 (bnd (partOf false 1 (cellsOf a0) 0) fun t1 =>
  bnd (lenOf t1) fun n2 =>
  ∃ (I3 : Nat → List V → Heap → Prop) (n4 : Nat), Shr (I3 n4 [(.box (cellsOf a0)), (.int .i64 0)]) H ∧
  ∀ n5 xs7 H8, I3 n5 xs7 H8 →
  bnd (aBinN .lss (xs7.tail.headD .any) (.int .i64 (n2 : Nat))) fun t9 =>
  cnd t9
  (bnd (aIndex H8 3 t1 (xs7.tail.headD .any)) fun t10 =>
  bnd (aLd true 3 H8 t10) fun t11 =>
  bnd (stz 3 [(.int .i64 0), (.int .i64 0), (.int .i64 0)] 0 t11) fun c12 =>
  ∃ S13, Abs.sub S13 H8 ∧
  bnd (partOf true 3 c12 0) fun t14 =>
  ACalls P n_i_isRoute [t14] H8 fun v15 H16 =>
  Abs.sub S13 H16 ∧
  bnd (aNot v15) fun t17 =>
  gd t17 false
  (bnd (aBinN .gtr (xs7.tail.headD .any) (.int .i64 0)) fun t18 =>
  gd3 t18 true
  (bnd (partOf false 1 (bc (xs7.headD .any)) 0) fun t19 =>
  bnd (aBinN .sub (xs7.tail.headD .any) (.int .i64 1)) fun t20 =>
  bnd (aIndex S13 3 t19 t20) fun t21 =>
  bnd (aField 0 t21) fun t22 =>
  bnd (aLd true 2 S13 t22) fun t23 =>
  bnd (partOf true 2 c12 0) fun t24 =>
  ACalls P n_i_comparePrefixes [t23, t24] H16 fun v25 H26 =>
  Abs.sub S13 H26 ∧
  bnd (aBinN .geq v25 (.int .i64 0)) fun t27 =>
  cnd t27
  (Ret R (.bool false) H26)
  (bnd (aBinN .add (xs7.tail.headD .any) (.int .i64 1)) fun t28 =>
  ∃ n6, n6 < n5 ∧ Shr (I3 n6 [(.box (bc (xs7.headD .any))), t28]) H26))
  (bnd (aBinN .add (xs7.tail.headD .any) (.int .i64 1)) fun t29 =>
  ∃ n6, n6 < n5 ∧ Shr (I3 n6 [(.box (bc (xs7.headD .any))), t29]) H16)
  (bnd (aPick (.tup []) (.tup []) (.bool false)) fun t30 =>
  cnd t30
  (Ret R (.bool false) H16)
  (bnd (aBinN .add (xs7.tail.headD .any) (.int .i64 1)) fun t31 =>
  ∃ n6, n6 < n5 ∧ Shr (I3 n6 [(.box (bc (xs7.headD .any))), t31]) H16)))
  (Ret R (.bool false) H16))
  (bnd (partOf false 1 (bc (xs7.headD .any)) 0) fun t32 =>
  bnd (lenOf t32) fun n33 =>
  bnd (aBinN .leq (.int .i64 (n33 : Nat)) (.int .i64 120)) fun t34 =>
  Ret R t34 H8))
theorem W_i_TableOk {R : V → Heap → Prop} {a0 : V} {H : Heap} (h : F_i_TableOk R a0 H) : ACalls P n_i_TableOk [a0] H R :=
  acalls_of_form (g := ⟨[1, 4], [5, 20, 27, 34]⟩) (x := (.seq .leaf (.seq (.seq .leaf (.block (.loop [1, 8] (.seq .leaf (.seq (.cond .leaf .leaf) (.seq (.block (.seq .leaf (.seq (.draw [0, 1, 2, 3, 4, 5, 6, 7, 8, 9, 10, 11, 12, 13, 14, 15, 16, 17, 18, 19]) (.cond (.seq .leaf .leaf) .leaf)))) .leaf)))))) (.seq .leaf .leaf)))) Try.func41 (by kernel_rfl) (by kernel_rfl) (by kernel_rfl) (by kernel_rfl : F_i_TableOk R a0 H = _) h
def F_l_eqRouteS (R : V → Heap → Prop) (a0 a1 : V) (H : Heap) : Prop :=
  bnd (lenOf a0) fun n1 =>
  bnd (lenOf a1) fun n2 =>
  bnd (aBinN .neq (.int .i64 (n1 : Nat)) (.int .i64 (n2 : Nat))) fun t3 =>
  cnd t3
  (Ret R (.bool false) H)
  (∃ (I4 : Nat → List V → Heap → Prop) (n5 : Nat), Shr (I4 n5 [(.int .i64 0)]) H ∧
  ∀ n6 xs8 H9, I4 n6 xs8 H9 →
  bnd (lenOf a0) fun n10 =>
  bnd (aBinN .lss (xs8.headD .any) (.int .i64 (n10 : Nat))) fun t11 =>
  cnd t11
  (∃ S12, Abs.sub S12 H9 ∧
  bnd (aIndex S12 3 a0 (xs8.headD .any)) fun t13 =>
  bnd (aLd true 3 S12 t13) fun t14 =>
  bnd (aIndex S12 3 a1 (xs8.headD .any)) fun t15 =>
  bnd (aLd true 3 S12 t15) fun t16 =>
  ACalls P n_l_eqRoute [t14, t16] H9 fun v17 H18 =>
  Abs.sub S12 H18 ∧
  bnd (aNot v17) fun t19 =>
  cnd t19
  (Ret R (.bool false) H18)
  (bnd (aBinN .add (xs8.headD .any) (.int .i64 1)) fun t20 =>
  ∃ n7, n7 < n6 ∧ Shr (I4 n7 [t20]) H18))
  (Ret R (.bool true) H9))
theorem W_l_eqRouteS {R : V → Heap → Prop} {a0 a1 : V} {H : Heap} (h : F_l_eqRouteS R a0 a1 H) : ACalls P n_l_eqRouteS [a0, a1] H R :=
  acalls_of_form (g := ⟨[], []⟩) (x := (.seq .leaf (.seq (.seq .leaf (.cond (.seq .leaf .leaf) .leaf)) (.seq (.seq .leaf (.block (.loop [5] (.seq (.seq .leaf (.cond .leaf .leaf)) (.seq (.block (.seq (.draw [0, 1, 2, 3, 4, 5, 6, 7, 8, 9]) (.cond (.seq .leaf .leaf) .leaf))) .leaf))))) (.seq .leaf .leaf))))) Try.func42 (by kernel_rfl) (by kernel_rfl) (by kernel_rfl) (by kernel_rfl : F_l_eqRouteS R a0 a1 H = _) h
def F_s_BestRoute (R : V → Heap → Prop) (a0 a1 : V) (H : Heap) : Prop :=
  boxK a0 (bnd (partOf true 1 (cellsOf a0) 0) fun t1 =>
  ACalls P n_s_TableOk [t1] H fun v2 H3 =>
  bnd (aNot v2) fun t4 =>
  gd t4 false
  (ACalls P n_s_l01Addr [a1] H3 fun v5 H6 =>
  bnd (aNot v5) fun t7 =>
  cnd t7
  (bnd (fillZ [(.int .i64 0), (.int .i64 0), (.int .i64 0)] []) fun c8 =>
  bnd (stz 3 [(.int .i64 0), (.int .i64 0), (.int .i64 0)] 0 (.agg c8)) fun c9 =>
  bnd (partOf true 3 c9 0) fun t10 =>
  Ret R (.tup [t10, (.bool false)]) H6)
  (bnd (fillZ [(.int .i64 0), (.int .i64 0), (.int .i64 0)] []) fun c11 =>
  bnd (stz 3 [(.int .i64 0), (.int .i64 0), (.int .i64 0)] 0 (.agg c11)) fun c12 =>
  ∃ (I13 : Nat → List V → Heap → Prop) (n14 : Nat), Shr (I13 n14 [(.box (cellsOf a0)), (.box [(.int .i64 0), (.int .i64 0), (.int .i64 0)]), (.box c12), (.bool false), (.int .i64 0)]) H6 ∧
  ∀ n15 xs17 H18, I13 n15 xs17 H18 →
  bnd (partOf false 1 (bc (xs17.headD .any)) 0) fun t19 =>
  bnd (lenOf t19) fun n20 =>
  bnd (aBinN .lss (xs17.tail.tail.tail.tail.headD .any) (.int .i64 (n20 : Nat))) fun t21 =>
  cnd t21
  (∃ S22, Abs.sub S22 H18 ∧
  bnd (partOf false 1 (bc (xs17.headD .any)) 0) fun t23 =>
  bnd (aIndex S22 3 t23 (xs17.tail.tail.tail.tail.headD .any)) fun t24 =>
  bnd (aField 0 t24) fun t25 =>
  bnd (aLd true 2 S22 t25) fun t26 =>
  ACalls P n_s_HasAddr [t26, a1] H18 fun v27 H28 =>
  Abs.sub S22 H28 ∧
  gd v27 true
  (bnd (aNot (xs17.tail.tail.tail.headD .any)) fun t29 =>
  gd3 t29 false
  (bnd (partOf false 1 (bc (xs17.headD .any)) 0) fun t30 =>
  bnd (aIndex S22 3 t30 (xs17.tail.tail.tail.tail.headD .any)) fun t31 =>
  bnd (aField 0 t31) fun t32 =>
  bnd (aField 1 t32) fun t33 =>
  bnd (aLd false 1 S22 t33) fun t34 =>
  bnd (partOf false 1 (bc (xs17.tail.tail.headD .any)) 1) fun t35 =>
  bnd (aBinN .gtr t34 t35) fun t36 =>
  cnd t36
  (bnd (partOf false 1 (bc (xs17.headD .any)) 0) fun t37 =>
  bnd (aIndex H28 3 t37 (xs17.tail.tail.tail.tail.headD .any)) fun t38 =>
  bnd (aLd true 3 H28 t38) fun t39 =>
  bnd (stz 3 (bc (xs17.tail.tail.headD .any)) 0 t39) fun c40 =>
  bnd (aBinN .add (xs17.tail.tail.tail.tail.headD .any) (.int .i64 1)) fun t41 =>
  ∃ n16, n16 < n15 ∧ Shr (I13 n16 [(.box (bc (xs17.headD .any))), (.box (bc (xs17.tail.headD .any))), (.box c40), (.bool true), t41]) H28)
  (bnd (aBinN .add (xs17.tail.tail.tail.tail.headD .any) (.int .i64 1)) fun t42 =>
  ∃ n16, n16 < n15 ∧ Shr (I13 n16 [(.box (bc (xs17.headD .any))), (.box (bc (xs17.tail.headD .any))), (.box (bc (xs17.tail.tail.headD .any))), (xs17.tail.tail.tail.headD .any), t42]) H28))
  (bnd (partOf false 1 (bc (xs17.headD .any)) 0) fun t43 =>
  bnd (aIndex H28 3 t43 (xs17.tail.tail.tail.tail.headD .any)) fun t44 =>
  bnd (aLd true 3 H28 t44) fun t45 =>
  bnd (stz 3 (bc (xs17.tail.tail.headD .any)) 0 t45) fun c46 =>
  bnd (aBinN .add (xs17.tail.tail.tail.tail.headD .any) (.int .i64 1)) fun t47 =>
  ∃ n16, n16 < n15 ∧ Shr (I13 n16 [(.box (bc (xs17.headD .any))), (.box (bc (xs17.tail.headD .any))), (.box c46), (.bool true), t47]) H28)
  (bnd (aPick (.tup []) (.bool true) (.tup [])) fun t48 =>
  cnd t48
  (bnd (partOf false 1 (bc (xs17.headD .any)) 0) fun t49 =>
  bnd (aIndex H28 3 t49 (xs17.tail.tail.tail.tail.headD .any)) fun t50 =>
  bnd (aLd true 3 H28 t50) fun t51 =>
  bnd (stz 3 (bc (xs17.tail.tail.headD .any)) 0 t51) fun c52 =>
  bnd (aBinN .add (xs17.tail.tail.tail.tail.headD .any) (.int .i64 1)) fun t53 =>
  ∃ n16, n16 < n15 ∧ Shr (I13 n16 [(.box (bc (xs17.headD .any))), (.box (bc (xs17.tail.headD .any))), (.box c52), (.bool true), t53]) H28)
  (bnd (aBinN .add (xs17.tail.tail.tail.tail.headD .any) (.int .i64 1)) fun t54 =>
  ∃ n16, n16 < n15 ∧ Shr (I13 n16 [(.box (bc (xs17.headD .any))), (.box (bc (xs17.tail.headD .any))), (.box (bc (xs17.tail.tail.headD .any))), (xs17.tail.tail.tail.headD .any), t54]) H28)))
  (bnd (aBinN .add (xs17.tail.tail.tail.tail.headD .any) (.int .i64 1)) fun t55 =>
  ∃ n16, n16 < n15 ∧ Shr (I13 n16 [(.box (bc (xs17.headD .any))), (.box (bc (xs17.tail.headD .any))), (.box (bc (xs17.tail.tail.headD .any))), (xs17.tail.tail.tail.headD .any), t55]) H28))
  (bnd (partOf true 3 (bc (xs17.tail.tail.headD .any)) 0) fun t56 =>
  bnd (stz 3 (bc (xs17.tail.headD .any)) 0 t56) fun c57 =>
  bnd (partOf true 3 c57 0) fun t58 =>
  Ret R (.tup [t58, (xs17.tail.tail.tail.headD .any)]) H18)))
  (bnd (fillZ [(.int .i64 0), (.int .i64 0), (.int .i64 0)] []) fun c59 =>
  bnd (stz 3 [(.int .i64 0), (.int .i64 0), (.int .i64 0)] 0 (.agg c59)) fun c60 =>
  bnd (partOf true 3 c60 0) fun t61 =>
  Ret R (.tup [t61, (.bool false)]) H3))
theorem W_s_BestRoute {R : V → Heap → Prop} {a0 a1 : V} {H : Heap} (h : F_s_BestRoute R a0 a1 H) : ACalls P n_s_BestRoute [a0, a1] H R :=
  acalls_of_form (g := ⟨[2, 4, 6], [20, 26, 38, 45, 46, 51]⟩) (x := (.seq .leaf (.seq (.seq .leaf (.cond (.seq .leaf .leaf) .leaf)) (.seq .leaf (.seq .leaf (.seq (.seq .leaf (.block (.loop [2, 4, 6, 7, 8] (.seq (.seq .leaf (.cond .leaf .leaf)) (.seq (.block (.seq (.draw [0, 1, 2, 3, 4, 5, 6, 7, 8, 9, 10, 11, 12, 13, 14, 15, 16, 17, 18, 19, 20, 21, 22, 23, 24]) (.cond (.seq .leaf .leaf) .leaf))) .leaf))))) (.seq .leaf .leaf))))))) Try.func43 (by kernel_rfl) (by kernel_rfl) (by kernel_rfl) (by kernel_rfl : F_s_BestRoute R a0 a1 H = _) h
def F_i_best (R : V → Heap → Prop) (a0 a1 : V) (H : Heap) : Prop :=
  bnd (fillZ [(.int .i64 0), (.int .i64 0), (.int .i64 0)] []) fun c1 =>
  bnd (stz 3 [(.int .i64 0), (.int .i64 0), (.int .i64 0)] 0 (.agg c1)) fun c2 =>
  bnd (lenOf a0) fun n3 =>
  ∃ (I4 : Nat → List V → Heap → Prop) (n5 : Nat), Shr (I4 n5 [(.box [(.int .i64 0), (.int .i64 0), (.int .i64 0)]), (.box c2), (.bool false), (.int .i64 0)]) H ∧
  ∀ n6 xs8 H9, I4 n6 xs8 H9 →
  bnd (aBinN .lss (xs8.tail.tail.tail.headD .any) (.int .i64 (n3 : Nat))) fun t10 =>
  cnd t10
  (bnd (aIndex H9 3 a0 (xs8.tail.tail.tail.headD .any)) fun t11 =>
  bnd (aLd true 3 H9 t11) fun t12 =>
  bnd (stz 3 [(.int .i64 0), (.int .i64 0), (.int .i64 0)] 0 t12) fun c13 =>
  bnd (partOf true 2 c13 0) fun t14 =>
  ACalls P n_i_Prefix_has [t14, a1] H9 fun v15 H16 =>
  gd v15 true
  (bnd (aNot (xs8.tail.tail.headD .any)) fun t17 =>
  gd3 t17 false
  (bnd (partOf false 1 c13 1) fun t18 =>
  bnd (partOf false 1 (bc (xs8.tail.headD .any)) 1) fun t19 =>
  bnd (aBinN .gtr t18 t19) fun t20 =>
  cnd t20
  (bnd (partOf true 3 c13 0) fun t21 =>
  bnd (stz 3 (bc (xs8.tail.headD .any)) 0 t21) fun c22 =>
  bnd (aBinN .add (xs8.tail.tail.tail.headD .any) (.int .i64 1)) fun t23 =>
  ∃ n7, n7 < n6 ∧ Shr (I4 n7 [(.box (bc (xs8.headD .any))), (.box c22), (.bool true), t23]) H16)
  (bnd (aBinN .add (xs8.tail.tail.tail.headD .any) (.int .i64 1)) fun t24 =>
  ∃ n7, n7 < n6 ∧ Shr (I4 n7 [(.box (bc (xs8.headD .any))), (.box (bc (xs8.tail.headD .any))), (xs8.tail.tail.headD .any), t24]) H16))
  (bnd (partOf true 3 c13 0) fun t25 =>
  bnd (stz 3 (bc (xs8.tail.headD .any)) 0 t25) fun c26 =>
  bnd (aBinN .add (xs8.tail.tail.tail.headD .any) (.int .i64 1)) fun t27 =>
  ∃ n7, n7 < n6 ∧ Shr (I4 n7 [(.box (bc (xs8.headD .any))), (.box c26), (.bool true), t27]) H16)
  (bnd (aPick (.tup []) (.bool true) (.tup [])) fun t28 =>
  cnd t28
  (bnd (partOf true 3 c13 0) fun t29 =>
  bnd (stz 3 (bc (xs8.tail.headD .any)) 0 t29) fun c30 =>
  bnd (aBinN .add (xs8.tail.tail.tail.headD .any) (.int .i64 1)) fun t31 =>
  ∃ n7, n7 < n6 ∧ Shr (I4 n7 [(.box (bc (xs8.headD .any))), (.box c30), (.bool true), t31]) H16)
  (bnd (aBinN .add (xs8.tail.tail.tail.headD .any) (.int .i64 1)) fun t32 =>
  ∃ n7, n7 < n6 ∧ Shr (I4 n7 [(.box (bc (xs8.headD .any))), (.box (bc (xs8.tail.headD .any))), (xs8.tail.tail.headD .any), t32]) H16)))
  (bnd (aBinN .add (xs8.tail.tail.tail.headD .any) (.int .i64 1)) fun t33 =>
  ∃ n7, n7 < n6 ∧ Shr (I4 n7 [(.box (bc (xs8.headD .any))), (.box (bc (xs8.tail.headD .any))), (xs8.tail.tail.headD .any), t33]) H16))
  (bnd (partOf true 3 (bc (xs8.tail.headD .any)) 0) fun t34 =>
  bnd (stz 3 (bc (xs8.headD .any)) 0 t34) fun c35 =>
  bnd (partOf true 3 c35 0) fun t36 =>
  Ret R (.tup [t36, (xs8.tail.tail.headD .any)]) H9)
theorem W_i_best {R : V → Heap → Prop} {a0 a1 : V} {H : Heap} (h : F_i_best R a0 a1 H) : ACalls P n_i_best [a0, a1] H R :=
  acalls_of_form (g := ⟨[4, 6, 9], [17, 25, 26, 28, 29]⟩) (x := (.seq .leaf (.seq .leaf (.seq (.seq .leaf (.block (.loop [4, 6, 7, 13] (.seq .leaf (.seq (.cond .leaf .leaf) (.seq (.block (.seq .leaf (.seq .leaf (.cond .leaf .leaf)))) .leaf)))))) (.seq .leaf .leaf))))) Try.func44 (by kernel_rfl) (by kernel_rfl) (by kernel_rfl) (by kernel_rfl : F_i_best R a0 a1 H = _) h
def F_s_PrefixOk (R : V → Heap → Prop) (a0 : V) (H : Heap) : Prop :=
  boxK a0 (∃ S1, Abs.sub S1 H ∧
  bnd (partOf false 1 (cellsOf a0) 1) fun t2 =>
  ACalls P n_s_l01In [t2, (.int .i64 0), (.int .i64 16)] H fun v3 H4 =>
  Abs.sub S1 H4 ∧
  gd v3 true
  (bnd (partOf false 1 (cellsOf a0) 0) fun t5 =>
  ACalls P n_s_l01Addr [t5] H4 fun v6 H7 =>
  Abs.sub S1 H7 ∧
  gd v6 true
  (bnd (partOf false 1 (cellsOf a0) 0) fun t8 =>
  bnd (partOf false 1 (cellsOf a0) 1) fun t9 =>
  ACalls P n_s_l01Size2 [t9] H7 fun v10 H11 =>
  Abs.sub S1 H11 ∧
  bnd (aBinN .rem t8 v10) fun t12 =>
  bnd (aBinN .eql t12 (.int .i64 0)) fun t13 =>
  Ret R t13 H11)
  (Ret R (.bool false) H7))
  (Ret R (.bool false) H4))
theorem W_s_PrefixOk {R : V → Heap → Prop} {a0 : V} {H : Heap} (h : F_s_PrefixOk R a0 H) : ACalls P n_s_PrefixOk [a0] H R :=
  acalls_of_form (g := ⟨[1], [3, 7, 12, 14]⟩) (x := (.seq .leaf (.seq (.draw [0, 1, 2, 3, 4, 5, 6, 7, 8, 9, 10, 11, 12, 13, 14, 15, 16, 17]) .leaf))) Try.func45 (by kernel_rfl) (by kernel_rfl) (by kernel_rfl) (by kernel_rfl : F_s_PrefixOk R a0 H = _) h
def F_s_l02Ahead (R : V → Heap → Prop) (a0 a1 : V) (H : Heap) : Prop :=
  boxK a0 (boxK a1 (bnd (partOf false 1 (cellsOf a0) 0) fun t1 =>
  bnd (partOf false 1 (cellsOf a1) 0) fun t2 =>
  bnd (aBinN .lss t1 t2) fun t3 =>
  gd t3 false
  (bnd (partOf false 1 (cellsOf a0) 0) fun t4 =>
  bnd (partOf false 1 (cellsOf a1) 0) fun t5 =>
  bnd (aBinN .eql t4 t5) fun t6 =>
  gd3 t6 true
  (bnd (partOf false 1 (cellsOf a0) 1) fun t7 =>
  bnd (partOf false 1 (cellsOf a1) 1) fun t8 =>
  bnd (aBinN .lss t7 t8) fun t9 =>
  Ret R t9 H)
  (Ret R (.bool false) H)
  (bnd (aPick (.tup []) (.tup []) (.bool false)) fun t10 =>
  Ret R t10 H))
  (Ret R (.bool true) H)))
theorem W_s_l02Ahead {R : V → Heap → Prop} {a0 a1 : V} {H : Heap} (h : F_s_l02Ahead R a0 a1 H) : ACalls P n_s_l02Ahead [a0, a1] H R :=
  acalls_of_form (g := ⟨[2, 3], [5, 7, 11, 13, 17, 19]⟩) (x := (.seq .leaf (.seq .leaf .leaf))) Try.func46 (by kernel_rfl) (by kernel_rfl) (by kernel_rfl) (by kernel_rfl : F_s_l02Ahead R a0 a1 H = _) h
def F_l_toRoute (R : V → Heap → Prop) (a0 : V) (H : Heap) : Prop :=
  boxK a0 (bnd (partOf true 2 (cellsOf a0) 0) fun t1 =>
  ACalls P n_l_toPrefix [t1] H fun v2 H3 =>
  bnd (stz 2 [(.int .i64 0), (.int .i64 0), (.int .i64 0)] 0 v2) fun c4 =>
  bnd (partOf false 1 (cellsOf a0) 2) fun t5 =>
  bnd (stz 1 c4 2 t5) fun c6 =>
  bnd (partOf true 3 c6 0) fun t7 =>
  bnd (stz 3 [(.int .i64 0), (.int .i64 0), (.int .i64 0)] 0 t7) fun c8 =>
  bnd (partOf true 3 c8 0) fun t9 =>
  Ret R t9 H3)
theorem W_l_toRoute {R : V → Heap → Prop} {a0 : V} {H : Heap} (h : F_l_toRoute R a0 H) : ACalls P n_l_toRoute [a0] H R :=
  acalls_of_form (g := ⟨[1, 2, 3], [4, 7, 8, 10]⟩) (x := (.seq .leaf (.seq .leaf (.seq .leaf (.seq .leaf (.seq .leaf .leaf)))))) Try.func47 (by kernel_rfl) (by kernel_rfl) (by kernel_rfl) (by kernel_rfl : F_l_toRoute R a0 H = _) h
def F_slices_IndexFunc_i_Table_i_Table (R : V → Heap → Prop) (a0 a1 : V) (H : Heap) : Prop :=
  bnd (lenOf a0) fun n1 =>
  ∃ (I2 : Nat → List V → Heap → Prop) (n3 : Nat), Shr (I2 n3 [(.int .i64 0)]) H ∧
  ∀ n4 xs6 H7, I2 n4 xs6 H7 →
  bnd (aBinN .lss (xs6.headD .any) (.int .i64 (n1 : Nat))) fun t8 =>
  cnd t8
  (bnd (aIndex H7 1 a0 (xs6.headD .any)) fun t9 =>
  bnd (aLd true 1 H7 t9) fun t10 =>
  callK P H7 a1 [t10] fun v11 H12 =>
  cnd v11
  (Ret R (xs6.headD .any) H12)
  (bnd (aBinN .add (xs6.headD .any) (.int .i64 1)) fun t13 =>
  ∃ n5, n5 < n4 ∧ Shr (I2 n5 [t13]) H12))
  (Ret R (.int .i64 (-1)) H7)
theorem W_slices_IndexFunc_i_Table_i_Table {R : V → Heap → Prop} {a0 a1 : V} {H : Heap} (h : F_slices_IndexFunc_i_Table_i_Table R a0 a1 H) : ACalls P n_slices_IndexFunc_i_Table_i_Table [a0, a1] H R :=
  acalls_of_form (g := ⟨[], []⟩) (x := (.seq .leaf (.seq (.seq .leaf (.block (.loop [8] (.seq .leaf (.seq (.cond .leaf .leaf) (.seq (.block (.seq .leaf (.seq .leaf (.cond (.seq .leaf .leaf) .leaf)))) .leaf)))))) (.seq .leaf .leaf)))) Try.func48 (by kernel_rfl) (by kernel_rfl) (by kernel_rfl) (by kernel_rfl : F_slices_IndexFunc_i_Table_i_Table R a0 a1 H = _) h
def F_i_isRoute (R : V → Heap → Prop) (a0 : V) (H : Heap) : Prop :=
  boxK a0 (bnd (partOf true 2 (cellsOf a0) 0) fun t1 =>
  ACalls P n_i_PrefixOk [t1] H fun v2 H3 =>
  gd v2 true
  (bnd (partOf false 1 (cellsOf a0) 2) fun t4 =>
  ACalls P n_i_within [t4, (.int .i64 0), (.int .i64 999)] H3 fun v5 H6 =>
  Ret R v5 H6)
  (Ret R (.bool false) H3))
theorem W_i_isRoute {R : V → Heap → Prop} {a0 : V} {H : Heap} (h : F_i_isRoute R a0 H) : ACalls P n_i_isRoute [a0] H R :=
  acalls_of_form (g := ⟨[1], [3, 7]⟩) (x := (.seq .leaf (.seq .leaf .leaf))) Try.func49 (by kernel_rfl) (by kernel_rfl) (by kernel_rfl) (by kernel_rfl : F_i_isRoute R a0 H = _) h
def F_i_comparePrefixes (R : V → Heap → Prop) (a0 a1 : V) (H : Heap) : Prop :=
  boxK a0 (boxK a1 (bnd (partOf false 1 (cellsOf a0) 0) fun t1 =>
  bnd (partOf false 1 (cellsOf a1) 0) fun t2 =>
  bnd (aBinN .neq t1 t2) fun t3 =>
  cnd t3
  (bnd (partOf false 1 (cellsOf a0) 0) fun t4 =>
  bnd (partOf false 1 (cellsOf a1) 0) fun t5 =>
  bnd (aBinN .sub t4 t5) fun t6 =>
  Ret R t6 H)
  (bnd (partOf false 1 (cellsOf a0) 1) fun t7 =>
  bnd (partOf false 1 (cellsOf a1) 1) fun t8 =>
  bnd (aBinN .sub t7 t8) fun t9 =>
  Ret R t9 H)))
theorem W_i_comparePrefixes {R : V → Heap → Prop} {a0 a1 : V} {H : Heap} (h : F_i_comparePrefixes R a0 a1 H) : ACalls P n_i_comparePrefixes [a0, a1] H R :=
  acalls_of_form (g := ⟨[2, 3], [5, 7, 10, 12, 15, 17]⟩) (x := (.seq .leaf (.seq (.seq .leaf (.cond (.seq .leaf .leaf) .leaf)) (.seq .leaf .leaf)))) Try.func50 (by kernel_rfl) (by kernel_rfl) (by kernel_rfl) (by kernel_rfl : F_i_comparePrefixes R a0 a1 H = _) h
def F_l_eqRoute (R : V → Heap → Prop) (a0 a1 : V) (H : Heap) : Prop :=
  boxK a0 (boxK a1 (bnd (partOf true 2 (cellsOf a0) 0) fun t1 =>
  bnd (partOf true 2 (cellsOf a1) 0) fun t2 =>
  ACalls P n_l_eqPrefix [t1, t2] H fun v3 H4 =>
  bnd (aNot v3) fun t5 =>
  cnd t5
  (Ret R (.bool false) H4)
  (bnd (partOf false 1 (cellsOf a0) 2) fun t6 =>
  bnd (partOf false 1 (cellsOf a1) 2) fun t7 =>
  bnd (aBinN .neq t6 t7) fun t8 =>
  cnd t8
  (Ret R (.bool false) H4)
  (Ret R (.bool true) H4))))
theorem W_l_eqRoute {R : V → Heap → Prop} {a0 a1 : V} {H : Heap} (h : F_l_eqRoute R a0 a1 H) : ACalls P n_l_eqRoute [a0, a1] H R :=
  acalls_of_form (g := ⟨[2, 3], [5, 7, 11, 13]⟩) (x := (.seq .leaf (.seq (.seq .leaf (.cond (.seq .leaf .leaf) .leaf)) (.seq (.seq .leaf (.cond (.seq .leaf .leaf) .leaf)) (.seq .leaf .leaf))))) Try.func51 (by kernel_rfl) (by kernel_rfl) (by kernel_rfl) (by kernel_rfl : F_l_eqRoute R a0 a1 H = _) h
def F_s_HasAddr (R : V → Heap → Prop) (a0 a1 : V) (H : Heap) : Prop :=
  boxK a0 (∃ S1, Abs.sub S1 H ∧
  bnd (partOf true 2 (cellsOf a0) 0) fun t2 =>
  ACalls P n_s_PrefixOk [t2] H fun v3 H4 =>
  Abs.sub S1 H4 ∧
  gd v3 true
  (bnd (partOf false 1 (cellsOf a0) 0) fun t5 =>
  bnd (partOf false 1 (cellsOf a0) 0) fun t6 =>
  bnd (partOf false 1 (cellsOf a0) 1) fun t7 =>
  ACalls P n_s_l01Size2 [t7] H4 fun v8 H9 =>
  Abs.sub S1 H9 ∧
  bnd (aBinN .add t6 v8) fun t10 =>
  bnd (aBinN .sub t10 (.int .i64 1)) fun t11 =>
  ACalls P n_s_l01In [a1, t5, t11] H9 fun v12 H13 =>
  Abs.sub S1 H13 ∧
  Ret R v12 H13)
  (Ret R (.bool false) H4))
theorem W_s_HasAddr {R : V → Heap → Prop} {a0 a1 : V} {H : Heap} (h : F_s_HasAddr R a0 a1 H) : ACalls P n_s_HasAddr [a0, a1] H R :=
  acalls_of_form (g := ⟨[2], [9, 11, 13]⟩) (x := (.seq .leaf (.seq (.draw [0, 1, 2, 3, 4, 5, 6, 7, 8, 9, 10, 11, 12, 13, 14, 15]) .leaf))) Try.func52 (by kernel_rfl) (by kernel_rfl) (by kernel_rfl) (by kernel_rfl : F_s_HasAddr R a0 a1 H = _) h
def F_i_Prefix_has (R : V → Heap → Prop) (a0 a1 : V) (H : Heap) : Prop :=
  boxK a0 (∃ S1, Abs.sub S1 H ∧
  bnd (partOf false 1 (cellsOf a0) 0) fun t2 =>
  bnd (partOf false 1 (cellsOf a0) 0) fun t3 =>
  bnd (partOf true 2 (cellsOf a0) 0) fun t4 =>
  ACalls P n_i_Prefix_size [t4] H fun v5 H6 =>
  Abs.sub S1 H6 ∧
  bnd (aBinN .add t3 v5) fun t7 =>
  bnd (aBinN .sub t7 (.int .i64 1)) fun t8 =>
  ACalls P n_i_within [a1, t2, t8] H6 fun v9 H10 =>
  Abs.sub S1 H10 ∧
  Ret R v9 H10)
theorem W_i_Prefix_has {R : V → Heap → Prop} {a0 a1 : V} {H : Heap} (h : F_i_Prefix_has R a0 a1 H) : ACalls P n_i_Prefix_has [a0, a1] H R :=
  acalls_of_form (g := ⟨[2], [6, 8]⟩) (x := (.seq .leaf (.seq (.draw [0, 1, 2, 3, 4, 5, 6, 7, 8, 9, 10]) .leaf))) Try.func53 (by kernel_rfl) (by kernel_rfl) (by kernel_rfl) (by kernel_rfl : F_i_Prefix_has R a0 a1 H = _) h
def F_s_l01Size2 (R : V → Heap → Prop) (a0 : V) (H : Heap) : Prop :=
  bnd (aBinN .sub (.int .i64 16) a0) fun t1 =>
  bnd (aCv .u64 t1) fun t2 =>
  bnd (aBinN .shl (.int .i64 1) t2) fun t3 =>
  Ret R t3 H
theorem W_s_l01Size2 {R : V → Heap → Prop} {a0 : V} {H : Heap} (h : F_s_l01Size2 R a0 H) : ACalls P n_s_l01Size2 [a0] H R :=
  acalls_of_form (g := ⟨[], []⟩) (x := (.seq .leaf (.seq .leaf .leaf))) Try.func54 (by kernel_rfl) (by kernel_rfl) (by kernel_rfl) (by kernel_rfl : F_s_l01Size2 R a0 H = _) h
def F_l_toPrefix (R : V → Heap → Prop) (a0 : V) (H : Heap) : Prop :=
  boxK a0 (bnd (partOf false 1 (cellsOf a0) 0) fun t1 =>
  bnd (stz 1 [(.int .i64 0), (.int .i64 0)] 0 t1) fun c2 =>
  bnd (partOf false 1 (cellsOf a0) 1) fun t3 =>
  bnd (stz 1 c2 1 t3) fun c4 =>
  bnd (partOf true 2 c4 0) fun t5 =>
  bnd (stz 2 [(.int .i64 0), (.int .i64 0)] 0 t5) fun c6 =>
  bnd (partOf true 2 c6 0) fun t7 =>
  Ret R t7 H)
theorem W_l_toPrefix {R : V → Heap → Prop} {a0 : V} {H : Heap} (h : F_l_toPrefix R a0 H) : ACalls P n_l_toPrefix [a0] H R :=
  acalls_of_form (g := ⟨[1, 2, 3], [4, 6, 7, 9]⟩) (x := (.seq .leaf (.seq .leaf (.seq .leaf (.seq .leaf (.seq .leaf .leaf)))))) Try.func55 (by kernel_rfl) (by kernel_rfl) (by kernel_rfl) (by kernel_rfl : F_l_toPrefix R a0 H = _) h
def F_i_PrefixOk (R : V → Heap → Prop) (a0 : V) (H : Heap) : Prop :=
  boxK a0 (∃ S1, Abs.sub S1 H ∧
  bnd (partOf false 1 (cellsOf a0) 1) fun t2 =>
  ACalls P n_i_within [t2, (.int .i64 0), (.int .i64 16)] H fun v3 H4 =>
  Abs.sub S1 H4 ∧
  gd v3 true
  (bnd (partOf false 1 (cellsOf a0) 0) fun t5 =>
  ACalls P n_i_isAddr [t5] H4 fun v6 H7 =>
  Abs.sub S1 H7 ∧
  gd v6 true
  (bnd (partOf false 1 (cellsOf a0) 0) fun t8 =>
  bnd (partOf true 2 (cellsOf a0) 0) fun t9 =>
  ACalls P n_i_Prefix_size [t9] H7 fun v10 H11 =>
  Abs.sub S1 H11 ∧
  bnd (aBinN .rem t8 v10) fun t12 =>
  bnd (aBinN .eql t12 (.int .i64 0)) fun t13 =>
  Ret R t13 H11)
  (Ret R (.bool false) H7))
  (Ret R (.bool false) H4))
theorem W_i_PrefixOk {R : V → Heap → Prop} {a0 : V} {H : Heap} (h : F_i_PrefixOk R a0 H) : ACalls P n_i_PrefixOk [a0] H R :=
  acalls_of_form (g := ⟨[1], [3, 7, 12]⟩) (x := (.seq .leaf (.seq (.draw [0, 1, 2, 3, 4, 5, 6, 7, 8, 9, 10, 11, 12, 13, 14, 15, 16]) .leaf))) Try.func56 (by kernel_rfl) (by kernel_rfl) (by kernel_rfl) (by kernel_rfl : F_i_PrefixOk R a0 H = _) h
def F_l_eqPrefix (R : V → Heap → Prop) (a0 a1 : V) (H : Heap) : Prop :=
  boxK a0 (boxK a1 (bnd (partOf false 1 (cellsOf a0) 0) fun t1 =>
  bnd (partOf false 1 (cellsOf a1) 0) fun t2 =>
  bnd (aBinN .neq t1 t2) fun t3 =>
  cnd t3
  (Ret R (.bool false) H)
  (bnd (partOf false 1 (cellsOf a0) 1) fun t4 =>
  bnd (partOf false 1 (cellsOf a1) 1) fun t5 =>
  bnd (aBinN .neq t4 t5) fun t6 =>
  cnd t6
  (Ret R (.bool false) H)
  (Ret R (.bool true) H))))
theorem W_l_eqPrefix {R : V → Heap → Prop} {a0 a1 : V} {H : Heap} (h : F_l_eqPrefix R a0 a1 H) : ACalls P n_l_eqPrefix [a0, a1] H R :=
  acalls_of_form (g := ⟨[2, 3], [5, 7, 10, 12]⟩) (x := (.seq .leaf (.seq (.seq .leaf (.cond (.seq .leaf .leaf) .leaf)) (.seq (.seq .leaf (.cond (.seq .leaf .leaf) .leaf)) (.seq .leaf .leaf))))) Try.func57 (by kernel_rfl) (by kernel_rfl) (by kernel_rfl) (by kernel_rfl : F_l_eqPrefix R a0 a1 H = _) h
def F_i_Prefix_size (R : V → Heap → Prop) (a0 : V) (H : Heap) : Prop :=
  boxK a0 (bnd (partOf false 1 (cellsOf a0) 1) fun t1 =>
  bnd (aBinN .sub (.int .i64 16) t1) fun t2 =>
  bnd (aBinN .shl (.int .i64 1) t2) fun t3 =>
  Ret R t3 H)
theorem W_i_Prefix_size {R : V → Heap → Prop} {a0 : V} {H : Heap} (h : F_i_Prefix_size R a0 H) : ACalls P n_i_Prefix_size [a0] H R :=
  acalls_of_form (g := ⟨[1], [3]⟩) (x := (.seq .leaf (.seq .leaf .leaf))) Try.func58 (by kernel_rfl) (by kernel_rfl) (by kernel_rfl) (by kernel_rfl : F_i_Prefix_size R a0 H = _) h
end Go.Proofs.Ytcmpkkcbdmllpaa
