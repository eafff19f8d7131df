/-
The shallow forms of the functions; printed by a program.
-/
import Derived.Test.YtaippfedjjjpeaaGreatW0
import Derived.Test.YtaippfedjjjpeaaGreatAbs3
import Derived.Test.YtaippfedjjjpeaaGreatProg
import Derived.KernelRfl
set_option linter.all false
namespace Go.Proofs.YtaippfedjjjpeaaGreat
open Go Go.Abs Go.Proofs
set_option maxRecDepth 100000
def F_i_isAddr (R : V → Heap → Prop) (a0 : V) (H : Heap) : Prop :=
  ACalls P n_i_within [a0, (.int .i64 0), (.int .i64 65535)] H fun v1 H2 =>
  Ret R v1 H2
theorem W_i_isAddr {R : V → Heap → Prop} {a0 : V} {H : Heap} (h : F_i_isAddr R a0 H) : ACalls P n_i_isAddr [a0] H R :=
  acalls_of_form (g := ⟨[], []⟩) (x := (.seq .leaf (.seq .leaf .leaf))) Tryz.func111 (by kernel_rfl) (by kernel_rfl) (by kernel_rfl) (by kernel_rfl : F_i_isAddr R a0 H = _) h
def F_slices_ContainsFunc_i_Table_i_Table (R : V → Heap → Prop) (a0 a1 : V) (H : Heap) : Prop :=
  ACalls P n_slices_IndexFunc_i_Table_i_Table [a0, a1] H fun v1 H2 =>
  bnd (aBinN .geq v1 (.int .i64 0)) fun t3 =>
  Ret R t3 H2
theorem W_slices_ContainsFunc_i_Table_i_Table {R : V → Heap → Prop} {a0 a1 : V} {H : Heap} (h : F_slices_ContainsFunc_i_Table_i_Table R a0 a1 H) : ACalls P n_slices_ContainsFunc_i_Table_i_Table [a0, a1] H R :=
  acalls_of_form (g := ⟨[], []⟩) (x := (.seq .leaf (.seq .leaf .leaf))) Tryz.func112 (by kernel_rfl) (by kernel_rfl) (by kernel_rfl) (by kernel_rfl : F_slices_ContainsFunc_i_Table_i_Table R a0 a1 H = _) h
def F_i_areTables_1 (R : V → Heap → Prop) (a0 : V) (H : Heap) : Prop :=
  boxK a0 (bnd (partOf true 1 (cellsOf a0) 0) fun t1 =>
  ACalls P n_i_TableOk [t1] H fun v2 H3 =>
  bnd (aNot v2) fun t4 =>
  Ret R t4 H3)
theorem W_i_areTables_1 {R : V → Heap → Prop} {a0 : V} {H : Heap} (h : F_i_areTables_1 R a0 H) : ACalls P n_i_areTables_1 [a0] H R :=
  acalls_of_form (g := ⟨[1], []⟩) (x := (.seq .leaf (.seq .leaf .leaf))) Tryz.func113 (by kernel_rfl) (by kernel_rfl) (by kernel_rfl) (by kernel_rfl : F_i_areTables_1 R a0 H = _) h
theorem E_i_areTables_1 : enterable P n_i_areTables_1 = true := by kernel_rfl
def F_i_TableOk (R : V → Heap → Prop) (a0 : V) (H : Heap) : Prop :=
  boxK a0 (bnd (partOf false 1 (cellsOf a0) 0) fun t1 =>
  bnd (lenOf t1) fun n2 =>
  ∃ (I3 : Nat → List V → Heap → Prop) (n4 : Nat), Shr (I3 n4 [(.box (cellsOf a0)), (.int .i64 0)]) H ∧
  ∀ n5 xs7 H8, I3 n5 xs7 H8 →
  bnd (aBinN .lss (xs7.tail.headD .any) (.int .i64 (n2 : Nat))) fun t9 =>
  cnd t9
  (bnd (aIndex H8 3 t1 (xs7.tail.headD .any)) fun t10 =>
  bnd (aLd true 3 H8 t10) fun t11 =>
  bnd (stz 3 [(.int .i64 0), (.int .i64 0), (.int .i64 0)] 0 t11) fun c12 =>
  ∃ S13, Abs.sub S13 H8 ∧
  bnd (partOf true 3 c12 0) fun t14 =>
  ACalls P n_i_isRoute [t14] H8 fun v15 H16 =>
  Abs.sub S13 H16 ∧
  bnd (aNot v15) fun t17 =>
  gd t17 false
  (bnd (aBinN .gtr (xs7.tail.headD .any) (.int .i64 0)) fun t18 =>
  gd3 t18 true
  (bnd (partOf false 1 (bc (xs7.headD .any)) 0) fun t19 =>
  bnd (aBinN .sub (xs7.tail.headD .any) (.int .i64 1)) fun t20 =>
  bnd (aIndex S13 3 t19 t20) fun t21 =>
  bnd (aField 0 t21) fun t22 =>
  bnd (aLd true 2 S13 t22) fun t23 =>
  bnd (partOf true 2 c12 0) fun t24 =>
  ACalls P n_i_comparePrefixes [t23, t24] H16 fun v25 H26 =>
  Abs.sub S13 H26 ∧
  bnd (aBinN .geq v25 (.int .i64 0)) fun t27 =>
  cnd t27
  (Ret R (.bool false) H26)
  (bnd (aBinN .add (xs7.tail.headD .any) (.int .i64 1)) fun t28 =>
  ∃ n6, n6 < n5 ∧ Shr (I3 n6 [(.box (bc (xs7.headD .any))), t28]) H26))
  (bnd (aBinN .add (xs7.tail.headD .any) (.int .i64 1)) fun t29 =>
  ∃ n6, n6 < n5 ∧ Shr (I3 n6 [(.box (bc (xs7.headD .any))), t29]) H16)
  (bnd (aPick (.tup []) (.tup []) (.bool false)) fun t30 =>
  cnd t30
  (Ret R (.bool false) H16)
  (bnd (aBinN .add (xs7.tail.headD .any) (.int .i64 1)) fun t31 =>
  ∃ n6, n6 < n5 ∧ Shr (I3 n6 [(.box (bc (xs7.headD .any))), t31]) H16)))
  (Ret R (.bool false) H16))
  (bnd (partOf false 1 (bc (xs7.headD .any)) 0) fun t32 =>
  bnd (lenOf t32) fun n33 =>
  bnd (aBinN .leq (.int .i64 (n33 : Nat)) (.int .i64 120)) fun t34 =>
  Ret R t34 H8))
theorem W_i_TableOk {R : V → Heap → Prop} {a0 : V} {H : Heap} (h : F_i_TableOk R a0 H) : ACalls P n_i_TableOk [a0] H R :=
  acalls_of_form (g := ⟨[1, 4], [5, 20, 27, 34]⟩) (x := (.seq .leaf (.seq (.seq .leaf (.block (.loop [1, 8] (.seq .leaf (.seq (.cond .leaf .leaf) (.seq (.block (.seq .leaf (.seq (.draw [0, 1, 2, 3, 4, 5, 6, 7, 8, 9, 10, 11, 12, 13, 14, 15, 16, 17, 18, 19]) (.cond (.seq .leaf .leaf) .leaf)))) .leaf)))))) (.seq .leaf .leaf)))) Tryz.func114 (by kernel_rfl) (by kernel_rfl) (by kernel_rfl) (by kernel_rfl : F_i_TableOk R a0 H = _) h
def F_i_best (R : V → Heap → Prop) (a0 a1 : V) (H : Heap) : Prop :=
  bnd (fillZ [(.int .i64 0), (.int .i64 0), (.int .i64 0)] []) fun c1 =>
  bnd (stz 3 [(.int .i64 0), (.int .i64 0), (.int .i64 0)] 0 (.agg c1)) fun c2 =>
  bnd (lenOf a0) fun n3 =>
  ∃ (I4 : Nat → List V → Heap → Prop) (n5 : Nat), Shr (I4 n5 [(.box [(.int .i64 0), (.int .i64 0), (.int .i64 0)]), (.box c2), (.bool false), (.int .i64 0)]) H ∧
  ∀ n6 xs8 H9, I4 n6 xs8 H9 →
  bnd (aBinN .lss (xs8.tail.tail.tail.headD .any) (.int .i64 (n3 : Nat))) fun t10 =>
  cnd t10
  (bnd (aIndex H9 3 a0 (xs8.tail.tail.tail.headD .any)) fun t11 =>
  bnd (aLd true 3 H9 t11) fun t12 =>
  bnd (stz 3 [(.int .i64 0), (.int .i64 0), (.int .i64 0)] 0 t12) fun c13 =>
  bnd (partOf true 2 c13 0) fun t14 =>
  ACalls P n_i_Prefix_has [t14, a1] H9 fun v15 H16 =>
  gd v15 true
  (bnd (aNot (xs8.tail.tail.headD .any)) fun t17 =>
  gd3 t17 false
  (bnd (partOf false 1 c13 1) fun t18 =>
  bnd (partOf false 1 (bc (xs8.tail.headD .any)) 1) fun t19 =>
  bnd (aBinN .gtr t18 t19) fun t20 =>
  cnd t20
  (bnd (partOf true 3 c13 0) fun t21 =>
  bnd (stz 3 (bc (xs8.tail.headD .any)) 0 t21) fun c22 =>
  bnd (aBinN .add (xs8.tail.tail.tail.headD .any) (.int .i64 1)) fun t23 =>
  ∃ n7, n7 < n6 ∧ Shr (I4 n7 [(.box (bc (xs8.headD .any))), (.box c22), (.bool true), t23]) H16)
  (bnd (aBinN .add (xs8.tail.tail.tail.headD .any) (.int .i64 1)) fun t24 =>
  ∃ n7, n7 < n6 ∧ Shr (I4 n7 [(.box (bc (xs8.headD .any))), (.box (bc (xs8.tail.headD .any))), (xs8.tail.tail.headD .any), t24]) H16))
  (bnd (partOf true 3 c13 0) fun t25 =>
  bnd (stz 3 (bc (xs8.tail.headD .any)) 0 t25) fun c26 =>
  bnd (aBinN .add (xs8.tail.tail.tail.headD .any) (.int .i64 1)) fun t27 =>
  ∃ n7, n7 < n6 ∧ Shr (I4 n7 [(.box (bc (xs8.headD .any))), (.box c26), (.bool true), t27]) H16)
  (bnd (aPick (.tup []) (.bool true) (.tup [])) fun t28 =>
  cnd t28
  (bnd (partOf true 3 c13 0) fun t29 =>
  bnd (stz 3 (bc (xs8.tail.headD .any)) 0 t29) fun c30 =>
  bnd (aBinN .add (xs8.tail.tail.tail.headD .any) (.int .i64 1)) fun t31 =>
  ∃ n7, n7 < n6 ∧ Shr (I4 n7 [(.box (bc (xs8.headD .any))), (.box c30), (.bool true), t31]) H16)
  (bnd (aBinN .add (xs8.tail.tail.tail.headD .any) (.int .i64 1)) fun t32 =>
  ∃ n7, n7 < n6 ∧ Shr (I4 n7 [(.box (bc (xs8.headD .any))), (.box (bc (xs8.tail.headD .any))), (xs8.tail.tail.headD .any), t32]) H16)))
  (bnd (aBinN .add (xs8.tail.tail.tail.headD .any) (.int .i64 1)) fun t33 =>
  ∃ n7, n7 < n6 ∧ Shr (I4 n7 [(.box (bc (xs8.headD .any))), (.box (bc (xs8.tail.headD .any))), (xs8.tail.tail.headD .any), t33]) H16))
  (bnd (partOf true 3 (bc (xs8.tail.headD .any)) 0) fun t34 =>
  bnd (stz 3 (bc (xs8.headD .any)) 0 t34) fun c35 =>
  bnd (partOf true 3 c35 0) fun t36 =>
  Ret R (.tup [t36, (xs8.tail.tail.headD .any)]) H9)
theorem W_i_best {R : V → Heap → Prop} {a0 a1 : V} {H : Heap} (h : F_i_best R a0 a1 H) : ACalls P n_i_best [a0, a1] H R :=
  acalls_of_form (g := ⟨[4, 6, 9], [17, 25, 26, 28, 29]⟩) (x := (.seq .leaf (.seq .leaf (.seq (.seq .leaf (.block (.loop [4, 6, 7, 13] (.seq .leaf (.seq (.cond .leaf .leaf) (.seq (.block (.seq .leaf (.seq .leaf (.cond .leaf .leaf)))) .leaf)))))) (.seq .leaf .leaf))))) Tryz.func115 (by kernel_rfl) (by kernel_rfl) (by kernel_rfl) (by kernel_rfl : F_i_best R a0 a1 H = _) h
def F_i_GraphOk (R : V → Heap → Prop) (a0 : V) (H : Heap) : Prop :=
  boxK a0 (bnd (partOf false 1 (cellsOf a0) 0) fun t1 =>
  ACalls P n_i_within [t1, (.int .i64 1), (.int .i64 10)] H fun v2 H3 =>
  bnd (aNot v2) fun t4 =>
  gd t4 false
  (bnd (partOf false 1 (cellsOf a0) 1) fun t5 =>
  bnd (lenOf t5) fun n6 =>
  bnd (aBinN .gtr (.int .i64 (n6 : Nat)) (.int .i64 60)) fun t7 =>
  cnd t7
  (Ret R (.bool false) H3)
  (bnd (partOf false 1 (cellsOf a0) 1) fun t8 =>
  bnd (lenOf t8) fun n9 =>
  ∃ (I10 : Nat → List V → Heap → Prop) (n11 : Nat), Shr (I10 n11 [(.box (cellsOf a0)), (.int .i64 0)]) H3 ∧
  ∀ n12 xs14 H15, I10 n12 xs14 H15 →
  bnd (aBinN .lss (xs14.tail.headD .any) (.int .i64 (n9 : Nat))) fun t16 =>
  cnd t16
  (bnd (aIndex H15 3 t8 (xs14.tail.headD .any)) fun t17 =>
  bnd (aLd true 3 H15 t17) fun t18 =>
  bnd (stz 3 [(.int .i64 0), (.int .i64 0), (.int .i64 0)] 0 t18) fun c19 =>
  ∃ S20, Abs.sub S20 H15 ∧
  bnd (partOf true 2 (bc (xs14.headD .any)) 0) fun t21 =>
  bnd (partOf false 1 c19 0) fun t22 =>
  ACalls P n_i_Graph_isNode [t21, t22] H15 fun v23 H24 =>
  Abs.sub S20 H24 ∧
  bnd (aNot v23) fun t25 =>
  gd t25 false
  (bnd (partOf true 2 (bc (xs14.headD .any)) 0) fun t26 =>
  bnd (partOf false 1 c19 1) fun t27 =>
  ACalls P n_i_Graph_isNode [t26, t27] H24 fun v28 H29 =>
  Abs.sub S20 H29 ∧
  bnd (aNot v28) fun t30 =>
  gd t30 false
  (bnd (partOf false 1 c19 0) fun t31 =>
  bnd (partOf false 1 c19 1) fun t32 =>
  bnd (aBinN .eql t31 t32) fun t33 =>
  gd t33 false
  (bnd (partOf false 1 c19 2) fun t34 =>
  ACalls P n_i_within [t34, (.int .i64 1), (.int .i64 1000)] H29 fun v35 H36 =>
  Abs.sub S20 H36 ∧
  bnd (aNot v35) fun t37 =>
  gd t37 false
  (bnd (aBinN .gtr (xs14.tail.headD .any) (.int .i64 0)) fun t38 =>
  gd3 t38 true
  (bnd (partOf false 1 (bc (xs14.headD .any)) 1) fun t39 =>
  bnd (aBinN .sub (xs14.tail.headD .any) (.int .i64 1)) fun t40 =>
  bnd (aIndex S20 3 t39 t40) fun t41 =>
  bnd (aLd true 3 S20 t41) fun t42 =>
  bnd (partOf true 3 c19 0) fun t43 =>
  ACalls P n_i_compareEdges [t42, t43] H36 fun v44 H45 =>
  Abs.sub S20 H45 ∧
  bnd (aBinN .geq v44 (.int .i64 0)) fun t46 =>
  cnd t46
  (Ret R (.bool false) H45)
  (bnd (aBinN .add (xs14.tail.headD .any) (.int .i64 1)) fun t47 =>
  ∃ n13, n13 < n12 ∧ Shr (I10 n13 [(.box (bc (xs14.headD .any))), t47]) H45))
  (bnd (aBinN .add (xs14.tail.headD .any) (.int .i64 1)) fun t48 =>
  ∃ n13, n13 < n12 ∧ Shr (I10 n13 [(.box (bc (xs14.headD .any))), t48]) H36)
  (bnd (aPick (.tup []) (.tup []) (.bool false)) fun t49 =>
  cnd t49
  (Ret R (.bool false) H36)
  (bnd (aBinN .add (xs14.tail.headD .any) (.int .i64 1)) fun t50 =>
  ∃ n13, n13 < n12 ∧ Shr (I10 n13 [(.box (bc (xs14.headD .any))), t50]) H36)))
  (Ret R (.bool false) H36))
  (Ret R (.bool false) H29))
  (Ret R (.bool false) H29))
  (Ret R (.bool false) H24))
  (Ret R (.bool true) H15)))
  (Ret R (.bool false) H3))
theorem W_i_GraphOk {R : V → Heap → Prop} {a0 : V} {H : Heap} (h : F_i_GraphOk R a0 H) : ACalls P n_i_GraphOk [a0] H R :=
  acalls_of_form (g := ⟨[1, 4], [5, 10, 15, 24, 30, 36, 38, 43, 52]⟩) (x := (.seq .leaf (.seq (.seq .leaf (.cond (.seq .leaf .leaf) .leaf)) (.seq (.seq .leaf (.block (.loop [1, 18] (.seq .leaf (.seq (.cond .leaf .leaf) (.seq (.block (.seq .leaf (.seq (.draw [0, 1, 2, 3, 4, 5, 6, 7, 8, 9, 10, 11, 12, 13, 14, 15, 16, 17, 18, 19, 20, 21, 22, 23, 24, 25, 26, 27, 28, 29, 30, 31, 32, 33, 34, 35, 36, 37, 38, 39]) (.cond (.seq .leaf .leaf) .leaf)))) .leaf)))))) (.seq .leaf .leaf))))) Tryz.func116 (by kernel_rfl) (by kernel_rfl) (by kernel_rfl) (by kernel_rfl : F_i_GraphOk R a0 H = _) h
def F_i_Graph_isNode (R : V → Heap → Prop) (a0 a1 : V) (H : Heap) : Prop :=
  boxK a0 (bnd (partOf false 1 (cellsOf a0) 0) fun t1 =>
  bnd (aBinN .sub t1 (.int .i64 1)) fun t2 =>
  ACalls P n_i_within [a1, (.int .i64 0), t2] H fun v3 H4 =>
  Ret R v3 H4)
theorem W_i_Graph_isNode {R : V → Heap → Prop} {a0 a1 : V} {H : Heap} (h : F_i_Graph_isNode R a0 a1 H) : ACalls P n_i_Graph_isNode [a0, a1] H R :=
  acalls_of_form (g := ⟨[2], [6]⟩) (x := (.seq .leaf (.seq .leaf .leaf))) Tryz.func117 (by kernel_rfl) (by kernel_rfl) (by kernel_rfl) (by kernel_rfl : F_i_Graph_isNode R a0 a1 H = _) h
def F_i_Graph_cost (R : V → Heap → Prop) (a0 a1 a2 : V) (H : Heap) : Prop :=
  boxK a0 (bnd (aBinN .eql a1 a2) fun t1 =>
  gd t1 true
  (bnd (partOf true 2 (cellsOf a0) 0) fun t2 =>
  ACalls P n_i_Graph_isNode [t2, a1] H fun v3 H4 =>
  cnd v3
  (Ret R (.int .i64 0) H4)
  (bnd (partOf false 1 (cellsOf a0) 1) fun t5 =>
  bnd (lenOf t5) fun n6 =>
  ∃ (I7 : Nat → List V → Heap → Prop) (n8 : Nat), Shr (I7 n8 [(.int .i64 0)]) H4 ∧
  ∀ n9 xs11 H12, I7 n9 xs11 H12 →
  bnd (aBinN .lss (xs11.headD .any) (.int .i64 (n6 : Nat))) fun t13 =>
  cnd t13
  (bnd (aIndex H12 3 t5 (xs11.headD .any)) fun t14 =>
  bnd (aLd true 3 H12 t14) fun t15 =>
  bnd (stz 3 [(.int .i64 0), (.int .i64 0), (.int .i64 0)] 0 t15) fun c16 =>
  bnd (partOf false 1 c16 0) fun t17 =>
  bnd (aBinN .eql t17 a1) fun t18 =>
  gd t18 true
  (bnd (partOf false 1 c16 1) fun t19 =>
  bnd (aBinN .eql t19 a2) fun t20 =>
  cnd t20
  (bnd (partOf false 1 c16 2) fun t21 =>
  Ret R t21 H12)
  (bnd (aBinN .add (xs11.headD .any) (.int .i64 1)) fun t22 =>
  ∃ n10, n10 < n9 ∧ Shr (I7 n10 [t22]) H12))
  (bnd (aBinN .add (xs11.headD .any) (.int .i64 1)) fun t23 =>
  ∃ n10, n10 < n9 ∧ Shr (I7 n10 [t23]) H12))
  (Ret R (.int .i64 1000000) H12)))
  (bnd (partOf false 1 (cellsOf a0) 1) fun t24 =>
  bnd (lenOf t24) fun n25 =>
  ∃ (I26 : Nat → List V → Heap → Prop) (n27 : Nat), Shr (I26 n27 [(.int .i64 0)]) H ∧
  ∀ n28 xs30 H31, I26 n28 xs30 H31 →
  bnd (aBinN .lss (xs30.headD .any) (.int .i64 (n25 : Nat))) fun t32 =>
  cnd t32
  (bnd (aIndex H31 3 t24 (xs30.headD .any)) fun t33 =>
  bnd (aLd true 3 H31 t33) fun t34 =>
  bnd (stz 3 [(.int .i64 0), (.int .i64 0), (.int .i64 0)] 0 t34) fun c35 =>
  bnd (partOf false 1 c35 0) fun t36 =>
  bnd (aBinN .eql t36 a1) fun t37 =>
  gd t37 true
  (bnd (partOf false 1 c35 1) fun t38 =>
  bnd (aBinN .eql t38 a2) fun t39 =>
  cnd t39
  (bnd (partOf false 1 c35 2) fun t40 =>
  Ret R t40 H31)
  (bnd (aBinN .add (xs30.headD .any) (.int .i64 1)) fun t41 =>
  ∃ n29, n29 < n28 ∧ Shr (I26 n29 [t41]) H31))
  (bnd (aBinN .add (xs30.headD .any) (.int .i64 1)) fun t42 =>
  ∃ n29, n29 < n28 ∧ Shr (I26 n29 [t42]) H31))
  (Ret R (.int .i64 1000000) H31)))
theorem W_i_Graph_cost {R : V → Heap → Prop} {a0 a1 a2 : V} {H : Heap} (h : F_i_Graph_cost R a0 a1 a2 H) : ACalls P n_i_Graph_cost [a0, a1, a2] H R :=
  acalls_of_form (g := ⟨[3, 8], [17, 24, 29, 34]⟩) (x := (.seq .leaf (.seq (.seq .leaf (.cond (.seq .leaf .leaf) .leaf)) (.seq (.seq .leaf (.block (.loop [20] (.seq .leaf (.seq (.cond .leaf .leaf) (.seq (.block (.seq .leaf (.seq .leaf (.cond (.seq .leaf .leaf) .leaf)))) .leaf)))))) (.seq .leaf .leaf))))) Tryz.func118 (by kernel_rfl) (by kernel_rfl) (by kernel_rfl) (by kernel_rfl : F_i_Graph_cost R a0 a1 a2 H = _) h
def F_i_LsaOk (R : V → Heap → Prop) (a0 : V) (H : Heap) : Prop :=
  boxK a0 (bnd (partOf false 1 (cellsOf a0) 0) fun t1 =>
  ACalls P n_i_within [t1, (.int .i64 0), (.int .i64 9)] H fun v2 H3 =>
  gd v2 true
  (bnd (partOf false 1 (cellsOf a0) 1) fun t4 =>
  ACalls P n_i_within [t4, (.int .i64 1), (.int .i64 1000000)] H3 fun v5 H6 =>
  gd v5 true
  (bnd (partOf false 1 (cellsOf a0) 2) fun t7 =>
  ACalls P n_i_within [t7, (.int .i64 0), (.int .i64 60)] H6 fun v8 H9 =>
  gd v8 true
  (bnd (partOf false 1 (cellsOf a0) 0) fun t10 =>
  bnd (partOf false 1 (cellsOf a0) 3) fun t11 =>
  ACalls P n_i_areLinks [t10, t11] H9 fun v12 H13 =>
  gd v12 true
  (bnd (partOf false 1 (cellsOf a0) 4) fun t14 =>
  ACalls P n_i_areStubs [t14] H13 fun v15 H16 =>
  Ret R v15 H16)
  (Ret R (.bool false) H13))
  (Ret R (.bool false) H9))
  (Ret R (.bool false) H6))
  (Ret R (.bool false) H3))
theorem W_i_LsaOk {R : V → Heap → Prop} {a0 : V} {H : Heap} (h : F_i_LsaOk R a0 H) : ACalls P n_i_LsaOk [a0] H R :=
  acalls_of_form (g := ⟨[1], [3, 7, 12, 17, 19, 24]⟩) (x := (.seq .leaf (.seq .leaf .leaf))) Tryz.func129 (by kernel_rfl) (by kernel_rfl) (by kernel_rfl) (by kernel_rfl : F_i_LsaOk R a0 H = _) h
def F_i_Db_find (R : V → Heap → Prop) (a0 a1 : V) (H : Heap) : Prop :=
  boxK a0 (bnd (partOf false 1 (cellsOf a0) 0) fun t1 =>
  ACalls P n_slices_BinarySearchFunc_i_Lsa_i_Lsa_int [t1, a1, (.fn n_i_Db_find_1 [])] H fun v2 H3 =>
  bnd (aExtract 0 v2) fun t4 =>
  bnd (aExtract 1 v2) fun t5 =>
  Ret R (.tup [t4, t5]) H3)
theorem W_i_Db_find {R : V → Heap → Prop} {a0 a1 : V} {H : Heap} (h : F_i_Db_find R a0 a1 H) : ACalls P n_i_Db_find [a0, a1] H R :=
  acalls_of_form (g := ⟨[2], [6]⟩) (x := (.seq .leaf (.seq .leaf .leaf))) Tryz.func137 (by kernel_rfl) (by kernel_rfl) (by kernel_rfl) (by kernel_rfl : F_i_Db_find R a0 a1 H = _) h
def F_slices_ContainsFunc_i_Link_i_Link (R : V → Heap → Prop) (a0 a1 : V) (H : Heap) : Prop :=
  ACalls P n_slices_IndexFunc_i_Link_i_Link [a0, a1] H fun v1 H2 =>
  bnd (aBinN .geq v1 (.int .i64 0)) fun t3 =>
  Ret R t3 H2
theorem W_slices_ContainsFunc_i_Link_i_Link {R : V → Heap → Prop} {a0 a1 : V} {H : Heap} (h : F_slices_ContainsFunc_i_Link_i_Link R a0 a1 H) : ACalls P n_slices_ContainsFunc_i_Link_i_Link [a0, a1] H R :=
  acalls_of_form (g := ⟨[], []⟩) (x := (.seq .leaf (.seq .leaf .leaf))) Tryz.func138 (by kernel_rfl) (by kernel_rfl) (by kernel_rfl) (by kernel_rfl : F_slices_ContainsFunc_i_Link_i_Link R a0 a1 H = _) h
def F_i_Db_hasLink_1 (R : V → Heap → Prop) (a0 a1 : V) (H : Heap) : Prop :=
  boxK a0 (bnd (partOf false 1 (cellsOf a0) 0) fun t1 =>
  bnd (aLd false 1 H a1) fun t2 =>
  bnd (aBinN .eql t1 t2) fun t3 =>
  Ret R t3 H)
theorem W_i_Db_hasLink_1 {R : V → Heap → Prop} {a0 a1 : V} {H : Heap} (h : F_i_Db_hasLink_1 R a0 a1 H) : ACalls P n_i_Db_hasLink_1 [a0, a1] H R :=
  acalls_of_form (g := ⟨[2], [4]⟩) (x := (.seq .leaf (.seq .leaf .leaf))) Tryz.func139 (by kernel_rfl) (by kernel_rfl) (by kernel_rfl) (by kernel_rfl : F_i_Db_hasLink_1 R a0 a1 H = _) h
theorem E_i_Db_hasLink_1 : enterable P n_i_Db_hasLink_1 = true := by kernel_rfl
def F_slices_Repeat_int_int (R : V → Heap → Prop) (a0 a1 : V) (H : Heap) : Prop :=
  bnd (aBinN .lss a1 (.int .i64 0)) fun t1 =>
  cnd t1
  (False)
  (bnd (lenOf a0) fun n2 =>
  bnd (aCv .u64 (.int .i64 (n2 : Nat))) fun t3 =>
  bnd (aCv .u64 a1) fun t4 =>
  ACalls P n_math_bits_Mul [t3, t4] H fun v5 H6 =>
  bnd (aExtract 0 v5) fun t7 =>
  bnd (aExtract 1 v5) fun t8 =>
  bnd (aBinN .gtr t7 (.int .u64 0)) fun t9 =>
  gd t9 false
  (bnd (aBinN .gtr t8 (.int .u64 9223372036854775807)) fun t10 =>
  cnd t10
  (False)
  (bnd (aCv .i64 t8) fun t11 =>
  bnd (natOf t11) fun n12 =>
  bnd (natOf t11) fun n13 =>
  (n12 ≤ n13 ∧ n13 ≤ 140737488355328 ∧ 8 * n13 ≤ 281474976710656 ∧ 1 = 1 ∧ 0 < 1) ∧
  ∀ o14, H6 o14 = none →
  bnd (rowsOf (upd H6 o14 ⟨1, List.replicate n13 [(.int .i64 0)]⟩) 1 a0) fun r17 =>
  copyK (upd H6 o14 ⟨1, List.replicate n13 [(.int .i64 0)]⟩) 1 (.slice o14 0 n12 (some n13)) r17 fun v15 H16 =>
  ∃ (I18 : Nat → List V → Heap → Prop) (n19 : Nat), Shr (I18 n19 [v15]) H16 ∧
  ∀ n20 xs22 H23, I18 n20 xs22 H23 →
  bnd (aBinN .lss (xs22.headD .any) (.int .i64 (n12 : Nat))) fun t24 =>
  cnd t24
  (bnd (aSlice H23 1 (.slice o14 0 n12 (some n13)) (some (xs22.headD .any)) none none) fun t25 =>
  bnd (aSlice H23 1 (.slice o14 0 n12 (some n13)) none (some (xs22.headD .any)) none) fun t26 =>
  bnd (rowsOf H23 1 t26) fun r29 =>
  copyK H23 1 t25 r29 fun v27 H28 =>
  bnd (aBinN .add (xs22.headD .any) v27) fun t30 =>
  ∃ n21, n21 < n20 ∧ Shr (I18 n21 [t30]) H28)
  (Ret R (.slice o14 0 n12 (some n13)) H23)))
  (False))
theorem W_slices_Repeat_int_int {R : V → Heap → Prop} {a0 a1 : V} {H : Heap} (h : F_slices_Repeat_int_int R a0 a1 H) : ACalls P n_slices_Repeat_int_int [a0, a1] H R :=
  acalls_of_form (g := ⟨[], []⟩) (x := (.seq .leaf (.seq (.seq .leaf (.cond .leaf .leaf)) (.seq .leaf (.seq (.seq .leaf (.cond .leaf .leaf)) (.seq .leaf (.seq .leaf (.seq (.block (.loop [8] (.seq (.seq .leaf (.cond .leaf .leaf)) (.block (.drawh [0, 1, 2, 3, 4, 5, 6, 7, 8, 9]))))) (.seq .leaf .leaf))))))))) Tryz.func140 (by kernel_rfl) (by kernel_rfl) (by kernel_rfl) (by kernel_rfl : F_slices_Repeat_int_int R a0 a1 H = _) h
def F_slices_pdqsortCmpFunc_i_Prefix (R : V → Heap → Prop) (a0 a1 a2 a3 a4 : V) (H : Heap) : Prop :=
  ∃ (I1 : Nat → List V → Heap → Prop) (n2 : Nat), Shr (I1 n2 [a1, a2, a3, (.bool true), (.bool true)]) H ∧
  ∀ n3 xs5 H6, I1 n3 xs5 H6 →
  bnd (aBinN .sub (xs5.tail.headD .any) (xs5.headD .any)) fun t7 =>
  bnd (aBinN .leq t7 (.int .i64 12)) fun t8 =>
  cnd t8
  (ACalls P n_slices_insertionSortCmpFunc_i_Prefix [a0, (xs5.headD .any), (xs5.tail.headD .any), a4] H6 fun v9 H10 =>
  Ret R (.tup []) H10)
  (bnd (aBinN .eql (xs5.tail.tail.headD .any) (.int .i64 0)) fun t11 =>
  cnd t11
  (ACalls P n_slices_heapSortCmpFunc_i_Prefix [a0, (xs5.headD .any), (xs5.tail.headD .any), a4] H6 fun v12 H13 =>
  Ret R (.tup []) H13)
  (∃ J14 : List V → Heap → Prop,
  (bnd (aNot (xs5.tail.tail.tail.headD .any)) fun t17 =>
  cnd t17
  (ACalls P n_slices_breakPatternsCmpFunc_i_Prefix [a0, (xs5.headD .any), (xs5.tail.headD .any), a4] H6 fun v18 H19 =>
  bnd (aBinN .sub (xs5.tail.tail.headD .any) (.int .i64 1)) fun t20 =>
  Shr (J14 [t20]) H19)
  (Shr (J14 [(xs5.tail.tail.headD .any)]) H6)) ∧
  ∀ xs15 H16, J14 xs15 H16 →
  ACalls P n_slices_choosePivotCmpFunc_i_Prefix [a0, (xs5.headD .any), (xs5.tail.headD .any), a4] H16 fun v21 H22 =>
  bnd (aExtract 0 v21) fun t23 =>
  bnd (aExtract 1 v21) fun t24 =>
  ∃ J25 : List V → Heap → Prop,
  (bnd (aBinN .eql t24 (.int .i64 2)) fun t28 =>
  cnd t28
  (ACalls P n_slices_reverseRangeCmpFunc_i_Prefix [a0, (xs5.headD .any), (xs5.tail.headD .any), a4] H22 fun v29 H30 =>
  bnd (aBinN .sub (xs5.tail.headD .any) (.int .i64 1)) fun t31 =>
  bnd (aBinN .sub t23 (xs5.headD .any)) fun t32 =>
  bnd (aBinN .sub t31 t32) fun t33 =>
  Shr (J25 [t33, (.int .i64 1)]) H30)
  (Shr (J25 [t23, t24]) H22)) ∧
  ∀ xs26 H27, J25 xs26 H27 →
  gd (xs5.tail.tail.tail.headD .any) true
  (gd (xs5.tail.tail.tail.tail.headD .any) true
  (bnd (aBinN .eql (xs26.tail.headD .any) (.int .i64 1)) fun t34 =>
  cnd t34
  (ACalls P n_slices_partialInsertionSortCmpFunc_i_Prefix [a0, (xs5.headD .any), (xs5.tail.headD .any), a4] H27 fun v35 H36 =>
  cnd v35
  (Ret R (.tup []) H36)
  (∃ S37, Abs.sub S37 H36 ∧
  bnd (aBinN .gtr (xs5.headD .any) (.int .i64 0)) fun t38 =>
  gd t38 true
  (bnd (aBinN .sub (xs5.headD .any) (.int .i64 1)) fun t39 =>
  bnd (aIndex S37 2 a0 t39) fun t40 =>
  bnd (aLd true 2 S37 t40) fun t41 =>
  bnd (aIndex S37 2 a0 (xs26.headD .any)) fun t42 =>
  bnd (aLd true 2 S37 t42) fun t43 =>
  callK P H36 a4 [t41, t43] fun v44 H45 =>
  Abs.sub S37 H45 ∧
  bnd (aBinN .lss v44 (.int .i64 0)) fun t46 =>
  bnd (aNot t46) fun t47 =>
  cnd t47
  (ACalls P n_slices_partitionEqualCmpFunc_i_Prefix [a0, (xs5.headD .any), (xs5.tail.headD .any), (xs26.headD .any), a4] H45 fun v48 H49 =>
  ∃ n4, n4 < n3 ∧ Shr (I1 n4 [v48, (xs5.tail.headD .any), (xs15.headD .any), (xs5.tail.tail.tail.headD .any), (xs5.tail.tail.tail.tail.headD .any)]) H49)
  (ACalls P n_slices_partitionCmpFunc_i_Prefix [a0, (xs5.headD .any), (xs5.tail.headD .any), (xs26.headD .any), a4] H45 fun v50 H51 =>
  bnd (aExtract 0 v50) fun t52 =>
  bnd (aExtract 1 v50) fun t53 =>
  bnd (aBinN .sub t52 (xs5.headD .any)) fun t54 =>
  bnd (aBinN .sub (xs5.tail.headD .any) t52) fun t55 =>
  bnd (aBinN .quo t7 (.int .i64 8)) fun t56 =>
  bnd (aBinN .lss t54 t55) fun t57 =>
  cnd t57
  (bnd (aBinN .geq t54 t56) fun t58 =>
  ACalls P n_slices_pdqsortCmpFunc_i_Prefix [a0, (xs5.headD .any), t52, (xs15.headD .any), a4] H51 fun v59 H60 =>
  bnd (aBinN .add t52 (.int .i64 1)) fun t61 =>
  ∃ n4, n4 < n3 ∧ Shr (I1 n4 [t61, (xs5.tail.headD .any), (xs15.headD .any), t58, t53]) H60)
  (bnd (aBinN .geq t55 t56) fun t62 =>
  bnd (aBinN .add t52 (.int .i64 1)) fun t63 =>
  ACalls P n_slices_pdqsortCmpFunc_i_Prefix [a0, t63, (xs5.tail.headD .any), (xs15.headD .any), a4] H51 fun v64 H65 =>
  ∃ n4, n4 < n3 ∧ Shr (I1 n4 [(xs5.headD .any), t52, (xs15.headD .any), t62, t53]) H65)))
  (ACalls P n_slices_partitionCmpFunc_i_Prefix [a0, (xs5.headD .any), (xs5.tail.headD .any), (xs26.headD .any), a4] H36 fun v66 H67 =>
  bnd (aExtract 0 v66) fun t68 =>
  bnd (aExtract 1 v66) fun t69 =>
  bnd (aBinN .sub t68 (xs5.headD .any)) fun t70 =>
  bnd (aBinN .sub (xs5.tail.headD .any) t68) fun t71 =>
  bnd (aBinN .quo t7 (.int .i64 8)) fun t72 =>
  bnd (aBinN .lss t70 t71) fun t73 =>
  cnd t73
  (bnd (aBinN .geq t70 t72) fun t74 =>
  ACalls P n_slices_pdqsortCmpFunc_i_Prefix [a0, (xs5.headD .any), t68, (xs15.headD .any), a4] H67 fun v75 H76 =>
  bnd (aBinN .add t68 (.int .i64 1)) fun t77 =>
  ∃ n4, n4 < n3 ∧ Shr (I1 n4 [t77, (xs5.tail.headD .any), (xs15.headD .any), t74, t69]) H76)
  (bnd (aBinN .geq t71 t72) fun t78 =>
  bnd (aBinN .add t68 (.int .i64 1)) fun t79 =>
  ACalls P n_slices_pdqsortCmpFunc_i_Prefix [a0, t79, (xs5.tail.headD .any), (xs15.headD .any), a4] H67 fun v80 H81 =>
  ∃ n4, n4 < n3 ∧ Shr (I1 n4 [(xs5.headD .any), t68, (xs15.headD .any), t78, t69]) H81))))
  (∃ S82, Abs.sub S82 H27 ∧
  bnd (aBinN .gtr (xs5.headD .any) (.int .i64 0)) fun t83 =>
  gd t83 true
  (bnd (aBinN .sub (xs5.headD .any) (.int .i64 1)) fun t84 =>
  bnd (aIndex S82 2 a0 t84) fun t85 =>
  bnd (aLd true 2 S82 t85) fun t86 =>
  bnd (aIndex S82 2 a0 (xs26.headD .any)) fun t87 =>
  bnd (aLd true 2 S82 t87) fun t88 =>
  callK P H27 a4 [t86, t88] fun v89 H90 =>
  Abs.sub S82 H90 ∧
  bnd (aBinN .lss v89 (.int .i64 0)) fun t91 =>
  bnd (aNot t91) fun t92 =>
  cnd t92
  (ACalls P n_slices_partitionEqualCmpFunc_i_Prefix [a0, (xs5.headD .any), (xs5.tail.headD .any), (xs26.headD .any), a4] H90 fun v93 H94 =>
  ∃ n4, n4 < n3 ∧ Shr (I1 n4 [v93, (xs5.tail.headD .any), (xs15.headD .any), (xs5.tail.tail.tail.headD .any), (xs5.tail.tail.tail.tail.headD .any)]) H94)
  (ACalls P n_slices_partitionCmpFunc_i_Prefix [a0, (xs5.headD .any), (xs5.tail.headD .any), (xs26.headD .any), a4] H90 fun v95 H96 =>
  bnd (aExtract 0 v95) fun t97 =>
  bnd (aExtract 1 v95) fun t98 =>
  bnd (aBinN .sub t97 (xs5.headD .any)) fun t99 =>
  bnd (aBinN .sub (xs5.tail.headD .any) t97) fun t100 =>
  bnd (aBinN .quo t7 (.int .i64 8)) fun t101 =>
  bnd (aBinN .lss t99 t100) fun t102 =>
  cnd t102
  (bnd (aBinN .geq t99 t101) fun t103 =>
  ACalls P n_slices_pdqsortCmpFunc_i_Prefix [a0, (xs5.headD .any), t97, (xs15.headD .any), a4] H96 fun v104 H105 =>
  bnd (aBinN .add t97 (.int .i64 1)) fun t106 =>
  ∃ n4, n4 < n3 ∧ Shr (I1 n4 [t106, (xs5.tail.headD .any), (xs15.headD .any), t103, t98]) H105)
  (bnd (aBinN .geq t100 t101) fun t107 =>
  bnd (aBinN .add t97 (.int .i64 1)) fun t108 =>
  ACalls P n_slices_pdqsortCmpFunc_i_Prefix [a0, t108, (xs5.tail.headD .any), (xs15.headD .any), a4] H96 fun v109 H110 =>
  ∃ n4, n4 < n3 ∧ Shr (I1 n4 [(xs5.headD .any), t97, (xs15.headD .any), t107, t98]) H110)))
  (ACalls P n_slices_partitionCmpFunc_i_Prefix [a0, (xs5.headD .any), (xs5.tail.headD .any), (xs26.headD .any), a4] H27 fun v111 H112 =>
  bnd (aExtract 0 v111) fun t113 =>
  bnd (aExtract 1 v111) fun t114 =>
  bnd (aBinN .sub t113 (xs5.headD .any)) fun t115 =>
  bnd (aBinN .sub (xs5.tail.headD .any) t113) fun t116 =>
  bnd (aBinN .quo t7 (.int .i64 8)) fun t117 =>
  bnd (aBinN .lss t115 t116) fun t118 =>
  cnd t118
  (bnd (aBinN .geq t115 t117) fun t119 =>
  ACalls P n_slices_pdqsortCmpFunc_i_Prefix [a0, (xs5.headD .any), t113, (xs15.headD .any), a4] H112 fun v120 H121 =>
  bnd (aBinN .add t113 (.int .i64 1)) fun t122 =>
  ∃ n4, n4 < n3 ∧ Shr (I1 n4 [t122, (xs5.tail.headD .any), (xs15.headD .any), t119, t114]) H121)
  (bnd (aBinN .geq t116 t117) fun t123 =>
  bnd (aBinN .add t113 (.int .i64 1)) fun t124 =>
  ACalls P n_slices_pdqsortCmpFunc_i_Prefix [a0, t124, (xs5.tail.headD .any), (xs15.headD .any), a4] H112 fun v125 H126 =>
  ∃ n4, n4 < n3 ∧ Shr (I1 n4 [(xs5.headD .any), t113, (xs15.headD .any), t123, t114]) H126))))
  (∃ S127, Abs.sub S127 H27 ∧
  bnd (aBinN .gtr (xs5.headD .any) (.int .i64 0)) fun t128 =>
  gd t128 true
  (bnd (aBinN .sub (xs5.headD .any) (.int .i64 1)) fun t129 =>
  bnd (aIndex S127 2 a0 t129) fun t130 =>
  bnd (aLd true 2 S127 t130) fun t131 =>
  bnd (aIndex S127 2 a0 (xs26.headD .any)) fun t132 =>
  bnd (aLd true 2 S127 t132) fun t133 =>
  callK P H27 a4 [t131, t133] fun v134 H135 =>
  Abs.sub S127 H135 ∧
  bnd (aBinN .lss v134 (.int .i64 0)) fun t136 =>
  bnd (aNot t136) fun t137 =>
  cnd t137
  (ACalls P n_slices_partitionEqualCmpFunc_i_Prefix [a0, (xs5.headD .any), (xs5.tail.headD .any), (xs26.headD .any), a4] H135 fun v138 H139 =>
  ∃ n4, n4 < n3 ∧ Shr (I1 n4 [v138, (xs5.tail.headD .any), (xs15.headD .any), (xs5.tail.tail.tail.headD .any), (xs5.tail.tail.tail.tail.headD .any)]) H139)
  (ACalls P n_slices_partitionCmpFunc_i_Prefix [a0, (xs5.headD .any), (xs5.tail.headD .any), (xs26.headD .any), a4] H135 fun v140 H141 =>
  bnd (aExtract 0 v140) fun t142 =>
  bnd (aExtract 1 v140) fun t143 =>
  bnd (aBinN .sub t142 (xs5.headD .any)) fun t144 =>
  bnd (aBinN .sub (xs5.tail.headD .any) t142) fun t145 =>
  bnd (aBinN .quo t7 (.int .i64 8)) fun t146 =>
  bnd (aBinN .lss t144 t145) fun t147 =>
  cnd t147
  (bnd (aBinN .geq t144 t146) fun t148 =>
  ACalls P n_slices_pdqsortCmpFunc_i_Prefix [a0, (xs5.headD .any), t142, (xs15.headD .any), a4] H141 fun v149 H150 =>
  bnd (aBinN .add t142 (.int .i64 1)) fun t151 =>
  ∃ n4, n4 < n3 ∧ Shr (I1 n4 [t151, (xs5.tail.headD .any), (xs15.headD .any), t148, t143]) H150)
  (bnd (aBinN .geq t145 t146) fun t152 =>
  bnd (aBinN .add t142 (.int .i64 1)) fun t153 =>
  ACalls P n_slices_pdqsortCmpFunc_i_Prefix [a0, t153, (xs5.tail.headD .any), (xs15.headD .any), a4] H141 fun v154 H155 =>
  ∃ n4, n4 < n3 ∧ Shr (I1 n4 [(xs5.headD .any), t142, (xs15.headD .any), t152, t143]) H155)))
  (ACalls P n_slices_partitionCmpFunc_i_Prefix [a0, (xs5.headD .any), (xs5.tail.headD .any), (xs26.headD .any), a4] H27 fun v156 H157 =>
  bnd (aExtract 0 v156) fun t158 =>
  bnd (aExtract 1 v156) fun t159 =>
  bnd (aBinN .sub t158 (xs5.headD .any)) fun t160 =>
  bnd (aBinN .sub (xs5.tail.headD .any) t158) fun t161 =>
  bnd (aBinN .quo t7 (.int .i64 8)) fun t162 =>
  bnd (aBinN .lss t160 t161) fun t163 =>
  cnd t163
  (bnd (aBinN .geq t160 t162) fun t164 =>
  ACalls P n_slices_pdqsortCmpFunc_i_Prefix [a0, (xs5.headD .any), t158, (xs15.headD .any), a4] H157 fun v165 H166 =>
  bnd (aBinN .add t158 (.int .i64 1)) fun t167 =>
  ∃ n4, n4 < n3 ∧ Shr (I1 n4 [t167, (xs5.tail.headD .any), (xs15.headD .any), t164, t159]) H166)
  (bnd (aBinN .geq t161 t162) fun t168 =>
  bnd (aBinN .add t158 (.int .i64 1)) fun t169 =>
  ACalls P n_slices_pdqsortCmpFunc_i_Prefix [a0, t169, (xs5.tail.headD .any), (xs15.headD .any), a4] H157 fun v170 H171 =>
  ∃ n4, n4 < n3 ∧ Shr (I1 n4 [(xs5.headD .any), t158, (xs15.headD .any), t168, t159]) H171))))
  (∃ S172, Abs.sub S172 H27 ∧
  bnd (aBinN .gtr (xs5.headD .any) (.int .i64 0)) fun t173 =>
  gd t173 true
  (bnd (aBinN .sub (xs5.headD .any) (.int .i64 1)) fun t174 =>
  bnd (aIndex S172 2 a0 t174) fun t175 =>
  bnd (aLd true 2 S172 t175) fun t176 =>
  bnd (aIndex S172 2 a0 (xs26.headD .any)) fun t177 =>
  bnd (aLd true 2 S172 t177) fun t178 =>
  callK P H27 a4 [t176, t178] fun v179 H180 =>
  Abs.sub S172 H180 ∧
  bnd (aBinN .lss v179 (.int .i64 0)) fun t181 =>
  bnd (aNot t181) fun t182 =>
  cnd t182
  (ACalls P n_slices_partitionEqualCmpFunc_i_Prefix [a0, (xs5.headD .any), (xs5.tail.headD .any), (xs26.headD .any), a4] H180 fun v183 H184 =>
  ∃ n4, n4 < n3 ∧ Shr (I1 n4 [v183, (xs5.tail.headD .any), (xs15.headD .any), (xs5.tail.tail.tail.headD .any), (xs5.tail.tail.tail.tail.headD .any)]) H184)
  (ACalls P n_slices_partitionCmpFunc_i_Prefix [a0, (xs5.headD .any), (xs5.tail.headD .any), (xs26.headD .any), a4] H180 fun v185 H186 =>
  bnd (aExtract 0 v185) fun t187 =>
  bnd (aExtract 1 v185) fun t188 =>
  bnd (aBinN .sub t187 (xs5.headD .any)) fun t189 =>
  bnd (aBinN .sub (xs5.tail.headD .any) t187) fun t190 =>
  bnd (aBinN .quo t7 (.int .i64 8)) fun t191 =>
  bnd (aBinN .lss t189 t190) fun t192 =>
  cnd t192
  (bnd (aBinN .geq t189 t191) fun t193 =>
  ACalls P n_slices_pdqsortCmpFunc_i_Prefix [a0, (xs5.headD .any), t187, (xs15.headD .any), a4] H186 fun v194 H195 =>
  bnd (aBinN .add t187 (.int .i64 1)) fun t196 =>
  ∃ n4, n4 < n3 ∧ Shr (I1 n4 [t196, (xs5.tail.headD .any), (xs15.headD .any), t193, t188]) H195)
  (bnd (aBinN .geq t190 t191) fun t197 =>
  bnd (aBinN .add t187 (.int .i64 1)) fun t198 =>
  ACalls P n_slices_pdqsortCmpFunc_i_Prefix [a0, t198, (xs5.tail.headD .any), (xs15.headD .any), a4] H186 fun v199 H200 =>
  ∃ n4, n4 < n3 ∧ Shr (I1 n4 [(xs5.headD .any), t187, (xs15.headD .any), t197, t188]) H200)))
  (ACalls P n_slices_partitionCmpFunc_i_Prefix [a0, (xs5.headD .any), (xs5.tail.headD .any), (xs26.headD .any), a4] H27 fun v201 H202 =>
  bnd (aExtract 0 v201) fun t203 =>
  bnd (aExtract 1 v201) fun t204 =>
  bnd (aBinN .sub t203 (xs5.headD .any)) fun t205 =>
  bnd (aBinN .sub (xs5.tail.headD .any) t203) fun t206 =>
  bnd (aBinN .quo t7 (.int .i64 8)) fun t207 =>
  bnd (aBinN .lss t205 t206) fun t208 =>
  cnd t208
  (bnd (aBinN .geq t205 t207) fun t209 =>
  ACalls P n_slices_pdqsortCmpFunc_i_Prefix [a0, (xs5.headD .any), t203, (xs15.headD .any), a4] H202 fun v210 H211 =>
  bnd (aBinN .add t203 (.int .i64 1)) fun t212 =>
  ∃ n4, n4 < n3 ∧ Shr (I1 n4 [t212, (xs5.tail.headD .any), (xs15.headD .any), t209, t204]) H211)
  (bnd (aBinN .geq t206 t207) fun t213 =>
  bnd (aBinN .add t203 (.int .i64 1)) fun t214 =>
  ACalls P n_slices_pdqsortCmpFunc_i_Prefix [a0, t214, (xs5.tail.headD .any), (xs15.headD .any), a4] H202 fun v215 H216 =>
  ∃ n4, n4 < n3 ∧ Shr (I1 n4 [(xs5.headD .any), t203, (xs15.headD .any), t213, t204]) H216)))))
theorem W_slices_pdqsortCmpFunc_i_Prefix {R : V → Heap → Prop} {a0 a1 a2 a3 a4 : V} {H : Heap} (h : F_slices_pdqsortCmpFunc_i_Prefix R a0 a1 a2 a3 a4 H) : ACalls P n_slices_pdqsortCmpFunc_i_Prefix [a0, a1, a2, a3, a4] H R :=
  acalls_of_form (g := ⟨[], []⟩) (x := (.seq .leaf (.seq .leaf (.block (.loop [1, 2, 3, 10, 11] (.block (.seq .leaf (.seq (.seq .leaf (.cond (.seq .leaf .leaf) .leaf)) (.seq (.seq .leaf (.cond (.seq .leaf .leaf) .leaf)) (.seqc (.seq .leaf (.cond (.seq .leaf .leaf) .leaf)) (.seq .leaf (.seqc (.seq .leaf (.cond (.seq .leaf (.seq .leaf .leaf)) .leaf)) (.seq (.seq .leaf (.cond (.seq .leaf (.cond .leaf .leaf)) .leaf)) (.seq (.seq (.draw [0, 1, 2, 3, 4, 5, 6, 7, 8, 9, 10, 11, 12, 13, 14, 15, 16]) (.cond (.seq .leaf (.seq .leaf .leaf)) .leaf)) (.seq .leaf (.seq .leaf (.seq .leaf (.seq .leaf (.seq .leaf (.cond (.seq .leaf (.seq .leaf .leaf)) (.seq .leaf (.seq .leaf .leaf)))))))))) [13, 14])) [3])))))))))) Tryz.func141 (by kernel_rfl) (by kernel_rfl) (by kernel_rfl) (by kernel_rfl : F_slices_pdqsortCmpFunc_i_Prefix R a0 a1 a2 a3 a4 H = _) h
def F_math_bits_Len (R : V → Heap → Prop) (a0 : V) (H : Heap) : Prop :=
  ACalls P n_math_bits_Len64 [a0] H fun v1 H2 =>
  Ret R v1 H2
theorem W_math_bits_Len {R : V → Heap → Prop} {a0 : V} {H : Heap} (h : F_math_bits_Len R a0 H) : ACalls P n_math_bits_Len [a0] H R :=
  acalls_of_form (g := ⟨[], []⟩) (x := (.seq .leaf (.seq (.cond (.seq .leaf .leaf) .leaf) (.seq .leaf .leaf)))) Tryz.func142 (by kernel_rfl) (by kernel_rfl) (by kernel_rfl) (by kernel_rfl : F_math_bits_Len R a0 H = _) h
def F_s_l03DrawGraph (R : V → Heap → Prop) (a0 a1 a2 : V) (H : Heap) : Prop :=
  bnd (fillZ [(.int .i64 0), .nils] [(0, 1, a1)]) fun c1 =>
  bnd (stz 2 [(.int .i64 0), .nils] 0 (.agg c1)) fun c2 =>
  ∃ (I3 : Nat → List V → Heap → Prop) (n4 : Nat), Shr (I3 n4 [(.box [(.int .i64 0), .nils]), (.box c2), (.int .i64 0)]) H ∧
  ∀ n5 xs7 H8, I3 n5 xs7 H8 →
  bnd (aBinN .lss (xs7.tail.tail.headD .any) a2) fun t9 =>
  gd t9 true
  (bnd (aBinN .gtr a1 (.int .i64 1)) fun t10 =>
  cnd t10
  (ACalls P n_s_l01Below [a0, a1] H8 fun v11 H12 =>
  ACalls P n_s_l01Below [a0, a1] H12 fun v13 H14 =>
  ACalls P n_s_l01Below [a0, (.int .i64 9)] H14 fun v15 H16 =>
  bnd (aBinN .add (.int .i64 1) v15) fun t17 =>
  bnd (bsl 1 8 [(.int .i64 0)] [(0, (.int .i64 1)), (1, (.int .i64 1)), (2, (.int .i64 2)), (3, (.int .i64 2)), (4, (.int .i64 3)), (5, (.int .i64 5)), (6, t17), (7, (.int .i64 1000))]) fun r18 =>
  ∀ o19, H16 o19 = none →
  ACalls P n_s_l01PickInt [a0, (.slice o19 0 8 (some 8))] (upd H16 o19 ⟨1, r18⟩) fun v20 H21 =>
  bnd (fillZ [(.int .i64 0), (.int .i64 0), (.int .i64 0)] [(0, 1, v11), (1, 1, v13), (2, 1, v20)]) fun c22 =>
  bnd (stz 3 [(.int .i64 0), (.int .i64 0), (.int .i64 0)] 0 (.agg c22)) fun c23 =>
  ∃ J24 : List V → Heap → Prop,
  (bnd (aBinN .sub a1 (.int .i64 1)) fun t27 =>
  bnd (aBinN .lss (xs7.tail.tail.headD .any) t27) fun t28 =>
  gd t28 true
  (ACalls P n_s_l01Below [a0, (.int .i64 3)] H21 fun v29 H30 =>
  bnd (aBinN .gtr v29 (.int .i64 0)) fun t31 =>
  cnd t31
  (bnd (stz 1 c23 0 (xs7.tail.tail.headD .any)) fun c32 =>
  bnd (aBinN .add (xs7.tail.tail.headD .any) (.int .i64 1)) fun t33 =>
  bnd (stz 1 c32 1 t33) fun c34 =>
  Shr (J24 [(.box (bc (xs7.headD .any))), (.box (bc (xs7.tail.headD .any))), (.box c34)]) H30)
  (Shr (J24 [(.box (bc (xs7.headD .any))), (.box (bc (xs7.tail.headD .any))), (.box c23)]) H30))
  (Shr (J24 [(.box (bc (xs7.headD .any))), (.box (bc (xs7.tail.headD .any))), (.box c23)]) H21)) ∧
  ∀ xs25 H26, J24 xs25 H26 →
  bnd (partOf false 1 (bc (xs25.tail.tail.headD .any)) 0) fun t35 =>
  bnd (partOf false 1 (bc (xs25.tail.tail.headD .any)) 1) fun t36 =>
  bnd (aBinN .eql t35 t36) fun t37 =>
  cnd t37
  (bnd (aBinN .add (xs7.tail.tail.headD .any) (.int .i64 1)) fun t38 =>
  ∃ n6, n6 < n5 ∧ Shr (I3 n6 [(.box (bc (xs25.headD .any))), (.box (bc (xs25.tail.headD .any))), t38]) H26)
  (bnd (partOf false 1 (bc (xs25.tail.headD .any)) 1) fun t39 =>
  bnd (lenOf t39) fun n40 =>
  bnd (aBinN .lss (.int .i64 (n40 : Nat)) (.int .i64 59)) fun t41 =>
  cnd t41
  (bnd (partOf false 1 (bc (xs25.tail.headD .any)) 1) fun t42 =>
  bnd (partOf true 3 (bc (xs25.tail.tail.headD .any)) 0) fun t43 =>
  ACalls P n_s_l03Put [t42, t43] H26 fun v44 H45 =>
  bnd (stz 1 (bc (xs25.tail.headD .any)) 1 v44) fun c46 =>
  ACalls P n_s_l01Below [a0, (.int .i64 4)] H45 fun v47 H48 =>
  bnd (aBinN .gtr v47 (.int .i64 0)) fun t49 =>
  cnd t49
  (bnd (partOf false 1 (bc (xs25.tail.tail.headD .any)) 1) fun t50 =>
  bnd (partOf false 1 (bc (xs25.tail.tail.headD .any)) 0) fun t51 =>
  bnd (partOf false 1 (bc (xs25.tail.tail.headD .any)) 2) fun t52 =>
  bnd (fillZ [(.int .i64 0), (.int .i64 0), (.int .i64 0)] [(0, 1, t50), (1, 1, t51), (2, 1, t52)]) fun c53 =>
  bnd (stz 3 [(.int .i64 0), (.int .i64 0), (.int .i64 0)] 0 (.agg c53)) fun c54 =>
  ACalls P n_s_l01Once [a0, (.int .i64 4)] H48 fun v55 H56 =>
  cnd v55
  (ACalls P n_s_l01Below [a0, (.int .i64 6)] H56 fun v57 H58 =>
  bnd (aBinN .add (.int .i64 1) v57) fun t59 =>
  bnd (stz 1 c54 2 t59) fun c60 =>
  bnd (partOf false 1 c46 1) fun t61 =>
  bnd (partOf true 3 c60 0) fun t62 =>
  ACalls P n_s_l03Put [t61, t62] H58 fun v63 H64 =>
  bnd (stz 1 c46 1 v63) fun c65 =>
  bnd (aBinN .add (xs7.tail.tail.headD .any) (.int .i64 1)) fun t66 =>
  ∃ n6, n6 < n5 ∧ Shr (I3 n6 [(.box (bc (xs25.headD .any))), (.box c65), t66]) H64)
  (bnd (partOf false 1 c46 1) fun t67 =>
  bnd (partOf true 3 c54 0) fun t68 =>
  ACalls P n_s_l03Put [t67, t68] H56 fun v69 H70 =>
  bnd (stz 1 c46 1 v69) fun c71 =>
  bnd (aBinN .add (xs7.tail.tail.headD .any) (.int .i64 1)) fun t72 =>
  ∃ n6, n6 < n5 ∧ Shr (I3 n6 [(.box (bc (xs25.headD .any))), (.box c71), t72]) H70))
  (bnd (aBinN .add (xs7.tail.tail.headD .any) (.int .i64 1)) fun t73 =>
  ∃ n6, n6 < n5 ∧ Shr (I3 n6 [(.box (bc (xs25.headD .any))), (.box c46), t73]) H48))
  (bnd (aBinN .add (xs7.tail.tail.headD .any) (.int .i64 1)) fun t74 =>
  ∃ n6, n6 < n5 ∧ Shr (I3 n6 [(.box (bc (xs25.headD .any))), (.box (bc (xs25.tail.headD .any))), t74]) H26)))
  (bnd (partOf true 2 (bc (xs7.tail.headD .any)) 0) fun t75 =>
  bnd (stz 2 (bc (xs7.headD .any)) 0 t75) fun c76 =>
  bnd (partOf true 2 c76 0) fun t77 =>
  Ret R t77 H8))
  (bnd (partOf true 2 (bc (xs7.tail.headD .any)) 0) fun t78 =>
  bnd (stz 2 (bc (xs7.headD .any)) 0 t78) fun c79 =>
  bnd (partOf true 2 c79 0) fun t80 =>
  Ret R t80 H8)
theorem W_s_l03DrawGraph {R : V → Heap → Prop} {a0 a1 a2 : V} {H : Heap} (h : F_s_l03DrawGraph R a0 a1 a2 H) : ACalls P n_s_l03DrawGraph [a0, a1, a2] H R :=
  acalls_of_form (g := ⟨[6, 7, 9, 10], [45, 48, 49, 51, 54, 58, 62, 66, 68, 70, 78, 79, 83]⟩) (x := (.seq .leaf (.seq .leaf (.seq (.seq .leaf (.block (.loop [6, 7, 8] (.seq (.seq .leaf (.cond .leaf .leaf)) (.seq (.block (.seq .leaf (.seqc (.seq .leaf (.cond (.seq .leaf .leaf) .leaf)) (.seq (.seq .leaf (.cond .leaf .leaf)) (.seq .leaf (.cond (.seq .leaf (.seq .leaf (.cond (.seq .leaf (.seq (.seq .leaf (.cond .leaf .leaf)) .leaf)) .leaf))) .leaf))) [6, 7, 9]))) .leaf))))) (.seq .leaf .leaf))))) Tryz.func145 (by kernel_rfl) (by kernel_rfl) (by kernel_rfl) (by kernel_rfl : F_s_l03DrawGraph R a0 a1 a2 H = _) h
def F_s_l05DrawStubs (R : V → Heap → Prop) (a0 a1 : V) (H : Heap) : Prop :=
  bnd (fillZ [.nils] []) fun c1 =>
  bnd (stz 1 [.nils] 0 (.agg c1)) fun c2 =>
  ∃ (I3 : Nat → List V → Heap → Prop) (n4 : Nat), Shr (I3 n4 [(.box c2), (.int .i64 0)]) H ∧
  ∀ n5 xs7 H8, I3 n5 xs7 H8 →
  bnd (aBinN .lss (xs7.tail.headD .any) a1) fun t9 =>
  cnd t9
  (ACalls P n_s_l01DrawPrefix [a0] H8 fun v10 H11 =>
  bnd (stz 2 [(.int .i64 0), (.int .i64 0)] 0 v10) fun c12 =>
  ACalls P n_s_l01Once [a0, (.int .i64 2)] H11 fun v13 H14 =>
  cnd v13
  (ACalls P n_s_l01Below [a0, (.int .i64 4)] H14 fun v15 H16 =>
  bnd (aBinN .mul (.int .i64 256) v15) fun t17 =>
  bnd (fillZ [(.int .i64 0), (.int .i64 0)] [(0, 1, t17), (1, 1, (.int .i64 8))]) fun c18 =>
  bnd (stz 2 c12 0 (.agg c18)) fun c19 =>
  ∃ S20, Abs.sub S20 H16 ∧
  bnd (partOf true 1 (bc (xs7.headD .any)) 0) fun t21 =>
  bnd (partOf true 2 c19 0) fun t22 =>
  ACalls P n_s_l01Below [a0, (.int .i64 9)] H16 fun v23 H24 =>
  Abs.sub S20 H24 ∧
  bnd (aBinN .add (.int .i64 1) v23) fun t25 =>
  bnd (fillZ [(.int .i64 0), (.int .i64 0), (.int .i64 0)] [(0, 2, t22), (2, 1, t25)]) fun c26 =>
  ACalls P n_s_PutRoute [t21, (.agg c26)] H24 fun v27 H28 =>
  Abs.sub S20 H28 ∧
  bnd (aExtract 0 v27) fun t29 =>
  bnd (aExtract 1 v27) fun t30 =>
  bnd (stz 1 (bc (xs7.headD .any)) 0 t29) fun c31 =>
  bnd (aBinN .add (xs7.tail.headD .any) (.int .i64 1)) fun t32 =>
  ∃ n6, n6 < n5 ∧ Shr (I3 n6 [(.box c31), t32]) H28)
  (∃ S33, Abs.sub S33 H14 ∧
  bnd (partOf true 1 (bc (xs7.headD .any)) 0) fun t34 =>
  bnd (partOf true 2 c12 0) fun t35 =>
  ACalls P n_s_l01Below [a0, (.int .i64 9)] H14 fun v36 H37 =>
  Abs.sub S33 H37 ∧
  bnd (aBinN .add (.int .i64 1) v36) fun t38 =>
  bnd (fillZ [(.int .i64 0), (.int .i64 0), (.int .i64 0)] [(0, 2, t35), (2, 1, t38)]) fun c39 =>
  ACalls P n_s_PutRoute [t34, (.agg c39)] H37 fun v40 H41 =>
  Abs.sub S33 H41 ∧
  bnd (aExtract 0 v40) fun t42 =>
  bnd (aExtract 1 v40) fun t43 =>
  bnd (stz 1 (bc (xs7.headD .any)) 0 t42) fun c44 =>
  bnd (aBinN .add (xs7.tail.headD .any) (.int .i64 1)) fun t45 =>
  ∃ n6, n6 < n5 ∧ Shr (I3 n6 [(.box c44), t45]) H41))
  (bnd (bsl 3 0 [(.int .i64 0), (.int .i64 0), (.int .i64 0)] []) fun r46 =>
  ∀ o47, H8 o47 = none →
  ∃ (I48 : Nat → List V → Heap → Prop) (n49 : Nat), Shr (I48 n49 [(.slice o47 0 0 (some 0)), (.int .i64 0)]) (upd H8 o47 ⟨3, r46⟩) ∧
  ∀ n50 xs52 H53, I48 n50 xs52 H53 →
  bnd (partOf false 1 (bc (xs7.headD .any)) 0) fun t54 =>
  bnd (lenOf t54) fun n55 =>
  bnd (aBinN .lss (xs52.tail.headD .any) (.int .i64 (n55 : Nat))) fun t56 =>
  cnd t56
  (bnd (partOf false 1 (bc (xs7.headD .any)) 0) fun t57 =>
  bnd (aIndex H53 3 t57 (xs52.tail.headD .any)) fun t58 =>
  bnd (aField 0 t58) fun t59 =>
  bnd (aLd true 2 H53 t59) fun t60 =>
  bnd (partOf false 1 (bc (xs7.headD .any)) 0) fun t61 =>
  bnd (aIndex H53 3 t61 (xs52.tail.headD .any)) fun t62 =>
  bnd (aField 2 t62) fun t63 =>
  bnd (aLd false 1 H53 t63) fun t64 =>
  bnd (fillZ [(.int .i64 0), (.int .i64 0), (.int .i64 0)] [(0, 2, t60), (2, 1, t64)]) fun c65 =>
  bnd (bsl 3 1 [(.int .i64 0), (.int .i64 0), (.int .i64 0)] [(0, (.agg c65))]) fun r66 =>
  ∀ o67, H53 o67 = none →
  bnd (rowsOf (upd H53 o67 ⟨3, r66⟩) 3 (.slice o67 0 1 (some 1))) fun r70 =>
  appendK (upd H53 o67 ⟨3, r66⟩) 3 24 (xs52.headD .any) r70 fun v68 H69 =>
  bnd (aBinN .add (xs52.tail.headD .any) (.int .i64 1)) fun t71 =>
  ∃ n51, n51 < n50 ∧ Shr (I48 n51 [v68, t71]) H69)
  (Ret R (xs52.headD .any) H53))
theorem W_s_l05DrawStubs {R : V → Heap → Prop} {a0 a1 : V} {H : Heap} (h : F_s_l05DrawStubs R a0 a1 H) : ACalls P n_s_l05DrawStubs [a0, a1] H R :=
  acalls_of_form (g := ⟨[5, 7], [36, 43, 49]⟩) (x := (.seq .leaf (.seq .leaf (.seq (.seq .leaf (.block (.loop [5, 6] (.seq (.seq .leaf (.cond .leaf .leaf)) (.seq (.block (.seq .leaf (.seq (.seq .leaf (.cond .leaf .leaf)) (.draw [0, 1, 2, 3, 4, 5, 6, 7, 8, 9, 10])))) .leaf))))) (.seq .leaf (.seq (.seq .leaf (.block (.loop [8, 9] (.seq (.seq .leaf (.cond .leaf .leaf)) (.seq (.block (.drawh [0, 1, 2, 3, 4, 5, 6, 7, 8, 9, 10, 11, 12, 13, 14, 15, 16])) .leaf))))) (.seq .leaf .leaf))))))) Tryz.func146 (by kernel_rfl) (by kernel_rfl) (by kernel_rfl) (by kernel_rfl : F_s_l05DrawStubs R a0 a1 H = _) h
def F_s_l05Copy (R : V → Heap → Prop) (a0 : V) (H : Heap) : Prop :=
  boxK a0 (bnd (partOf false 1 (cellsOf a0) 0) fun t1 =>
  bnd (partOf false 1 (cellsOf a0) 1) fun t2 =>
  bnd (partOf false 1 (cellsOf a0) 2) fun t3 =>
  bnd (fillZ [(.int .i64 0), (.int .i64 0), (.int .i64 0), .nils, .nils] [(0, 1, t1), (1, 1, t2), (2, 1, t3)]) fun c4 =>
  bnd (stz 5 [(.int .i64 0), (.int .i64 0), (.int .i64 0), .nils, .nils] 0 (.agg c4)) fun c5 =>
  ∃ (I6 : Nat → List V → Heap → Prop) (n7 : Nat), Shr (I6 n7 [(.box (cellsOf a0)), (.box [(.int .i64 0), (.int .i64 0), (.int .i64 0), .nils, .nils]), (.box c5), (.int .i64 0)]) H ∧
  ∀ n8 xs10 H11, I6 n8 xs10 H11 →
  bnd (partOf false 1 (bc (xs10.headD .any)) 3) fun t12 =>
  bnd (lenOf t12) fun n13 =>
  bnd (aBinN .lss (xs10.tail.tail.tail.headD .any) (.int .i64 (n13 : Nat))) fun t14 =>
  cnd t14
  (bnd (partOf false 1 (bc (xs10.tail.tail.headD .any)) 3) fun t15 =>
  bnd (partOf false 1 (bc (xs10.headD .any)) 3) fun t16 =>
  bnd (aIndex H11 2 t16 (xs10.tail.tail.tail.headD .any)) fun t17 =>
  bnd (aLd true 2 H11 t17) fun t18 =>
  bnd (bsl 2 1 [(.int .i64 0), (.int .i64 0)] [(0, t18)]) fun r19 =>
  ∀ o20, H11 o20 = none →
  bnd (rowsOf (upd H11 o20 ⟨2, r19⟩) 2 (.slice o20 0 1 (some 1))) fun r23 =>
  appendK (upd H11 o20 ⟨2, r19⟩) 2 16 t15 r23 fun v21 H22 =>
  bnd (stz 1 (bc (xs10.tail.tail.headD .any)) 3 v21) fun c24 =>
  bnd (aBinN .add (xs10.tail.tail.tail.headD .any) (.int .i64 1)) fun t25 =>
  ∃ n9, n9 < n8 ∧ Shr (I6 n9 [(.box (bc (xs10.headD .any))), (.box (bc (xs10.tail.headD .any))), (.box c24), t25]) H22)
  (∃ (I26 : Nat → List V → Heap → Prop) (n27 : Nat), Shr (I26 n27 [(.box (bc (xs10.headD .any))), (.box (bc (xs10.tail.headD .any))), (.box (bc (xs10.tail.tail.headD .any))), (.int .i64 0)]) H11 ∧
  ∀ n28 xs30 H31, I26 n28 xs30 H31 →
  bnd (partOf false 1 (bc (xs30.headD .any)) 4) fun t32 =>
  bnd (lenOf t32) fun n33 =>
  bnd (aBinN .lss (xs30.tail.tail.tail.headD .any) (.int .i64 (n33 : Nat))) fun t34 =>
  cnd t34
  (bnd (partOf false 1 (bc (xs30.tail.tail.headD .any)) 4) fun t35 =>
  bnd (partOf false 1 (bc (xs30.headD .any)) 4) fun t36 =>
  bnd (aIndex H31 3 t36 (xs30.tail.tail.tail.headD .any)) fun t37 =>
  bnd (aLd true 3 H31 t37) fun t38 =>
  bnd (bsl 3 1 [(.int .i64 0), (.int .i64 0), (.int .i64 0)] [(0, t38)]) fun r39 =>
  ∀ o40, H31 o40 = none →
  bnd (rowsOf (upd H31 o40 ⟨3, r39⟩) 3 (.slice o40 0 1 (some 1))) fun r43 =>
  appendK (upd H31 o40 ⟨3, r39⟩) 3 24 t35 r43 fun v41 H42 =>
  bnd (stz 1 (bc (xs30.tail.tail.headD .any)) 4 v41) fun c44 =>
  bnd (aBinN .add (xs30.tail.tail.tail.headD .any) (.int .i64 1)) fun t45 =>
  ∃ n29, n29 < n28 ∧ Shr (I26 n29 [(.box (bc (xs30.headD .any))), (.box (bc (xs30.tail.headD .any))), (.box c44), t45]) H42)
  (bnd (partOf true 5 (bc (xs30.tail.tail.headD .any)) 0) fun t46 =>
  bnd (stz 5 (bc (xs30.tail.headD .any)) 0 t46) fun c47 =>
  bnd (partOf true 5 c47 0) fun t48 =>
  Ret R t48 H31)))
theorem W_s_l05Copy {R : V → Heap → Prop} {a0 : V} {H : Heap} (h : F_s_l05Copy R a0 H) : ACalls P n_s_l05Copy [a0] H R :=
  acalls_of_form (g := ⟨[1, 2, 3], [6, 8, 10, 14, 20, 22, 29, 31, 37, 39, 46]⟩) (x := (.seq .leaf (.seq .leaf (.seq (.seq .leaf (.block (.loop [1, 2, 3, 4] (.seq (.seq .leaf (.cond .leaf .leaf)) (.seq (.block (.drawh [0, 1, 2, 3, 4, 5, 6, 7, 8, 9, 10])) .leaf))))) (.seq (.seq .leaf (.block (.loop [1, 2, 3, 5] (.seq (.seq .leaf (.cond .leaf .leaf)) (.seq (.block (.drawh [0, 1, 2, 3, 4, 5, 6, 7, 8, 9, 10])) .leaf))))) (.seq .leaf .leaf)))))) Tryz.func147 (by kernel_rfl) (by kernel_rfl) (by kernel_rfl) (by kernel_rfl : F_s_l05Copy R a0 H = _) h
def F_s_l01DrawPrefix (R : V → Heap → Prop) (a0 : V) (H : Heap) : Prop :=
  ACalls P n_s_l01Below [a0, (.int .i64 17)] H fun v1 H2 =>
  ACalls P n_s_l01Below [a0, (.int .i64 9)] H2 fun v3 H4 =>
  bnd (aBinN .add (.int .i64 8) v3) fun t5 =>
  ACalls P n_s_l01Below [a0, (.int .i64 9)] H4 fun v6 H7 =>
  bnd (aBinN .add (.int .i64 8) v6) fun t8 =>
  bnd (bsl 1 10 [(.int .i64 0)] [(0, (.int .i64 0)), (1, (.int .i64 1)), (2, (.int .i64 4)), (3, (.int .i64 8)), (4, (.int .i64 12)), (5, (.int .i64 15)), (6, (.int .i64 16)), (7, v1), (8, t5), (9, t8)]) fun r9 =>
  ∀ o10, H7 o10 = none →
  ACalls P n_s_l01PickInt [a0, (.slice o10 0 10 (some 10))] (upd H7 o10 ⟨1, r9⟩) fun v11 H12 =>
  ACalls P n_s_l01Below [a0, (.int .i64 65536)] H12 fun v13 H14 =>
  ACalls P n_s_l01Below [a0, (.int .i64 2048)] H14 fun v15 H16 =>
  bnd (bsl 1 4 [(.int .i64 0)] [(0, (.int .i64 0)), (1, (.int .i64 2560)), (2, v13), (3, v15)]) fun r17 =>
  ∀ o18, H16 o18 = none →
  ACalls P n_s_l01PickInt [a0, (.slice o18 0 4 (some 4))] (upd H16 o18 ⟨1, r17⟩) fun v19 H20 =>
  bnd (fillZ [(.int .i64 0), (.int .i64 0)] [(0, 1, v19), (1, 1, v11)]) fun c21 =>
  bnd (stz 2 [(.int .i64 0), (.int .i64 0)] 0 (.agg c21)) fun c22 =>
  ∃ S23, Abs.sub S23 H20 ∧
  bnd (partOf false 1 c22 0) fun t24 =>
  bnd (partOf false 1 c22 0) fun t25 =>
  ACalls P n_s_l01Size2 [v11] H20 fun v26 H27 =>
  Abs.sub S23 H27 ∧
  bnd (aBinN .rem t25 v26) fun t28 =>
  bnd (aBinN .sub t24 t28) fun t29 =>
  bnd (stz 1 c22 0 t29) fun c30 =>
  ACalls P n_s_l01Once [a0, (.int .i64 30)] H27 fun v31 H32 =>
  cnd v31
  (ACalls P n_s_l01Below [a0, (.int .i64 3)] H32 fun v33 H34 =>
  bnd (aBinN .eql v33 (.int .i64 0)) fun t35 =>
  cnd t35
  (bnd (bsl 1 3 [(.int .i64 0)] [(0, (.int .i64 (-1))), (1, (.int .i64 17)), (2, (.int .i64 3))]) fun r36 =>
  ∀ o37, H34 o37 = none →
  ACalls P n_s_l01PickInt [a0, (.slice o37 0 3 (some 3))] (upd H34 o37 ⟨1, r36⟩) fun v38 H39 =>
  bnd (stz 1 c30 1 v38) fun c40 =>
  bnd (partOf true 2 c40 0) fun t41 =>
  bnd (stz 2 [(.int .i64 0), (.int .i64 0)] 0 t41) fun c42 =>
  bnd (partOf true 2 c42 0) fun t43 =>
  Ret R t43 H39)
  (bnd (aBinN .eql v33 (.int .i64 1)) fun t44 =>
  cnd t44
  (bnd (bsl 1 4 [(.int .i64 0)] [(0, (.int .i64 (-1))), (1, (.int .i64 65536)), (2, (.int .i64 1)), (3, (.int .i64 65535))]) fun r45 =>
  ∀ o46, H34 o46 = none →
  ACalls P n_s_l01PickInt [a0, (.slice o46 0 4 (some 4))] (upd H34 o46 ⟨1, r45⟩) fun v47 H48 =>
  bnd (stz 1 c30 0 v47) fun c49 =>
  bnd (partOf true 2 c49 0) fun t50 =>
  bnd (stz 2 [(.int .i64 0), (.int .i64 0)] 0 t50) fun c51 =>
  bnd (partOf true 2 c51 0) fun t52 =>
  Ret R t52 H48)
  (bnd (aBinN .eql v33 (.int .i64 2)) fun t53 =>
  cnd t53
  (bnd (partOf false 1 c30 0) fun t54 =>
  bnd (aBinN .add t54 (.int .i64 1)) fun t55 =>
  bnd (stz 1 c30 0 t55) fun c56 =>
  bnd (partOf true 2 c56 0) fun t57 =>
  bnd (stz 2 [(.int .i64 0), (.int .i64 0)] 0 t57) fun c58 =>
  bnd (partOf true 2 c58 0) fun t59 =>
  Ret R t59 H34)
  (bnd (partOf true 2 c30 0) fun t60 =>
  bnd (stz 2 [(.int .i64 0), (.int .i64 0)] 0 t60) fun c61 =>
  bnd (partOf true 2 c61 0) fun t62 =>
  Ret R t62 H34))))
  (bnd (partOf true 2 c30 0) fun t63 =>
  bnd (stz 2 [(.int .i64 0), (.int .i64 0)] 0 t63) fun c64 =>
  bnd (partOf true 2 c64 0) fun t65 =>
  Ret R t65 H32)
theorem W_s_l01DrawPrefix {R : V → Heap → Prop} {a0 : V} {H : Heap} (h : F_s_l01DrawPrefix R a0 H) : ACalls P n_s_l01DrawPrefix [a0] H R :=
  acalls_of_form (g := ⟨[2, 4], [25, 27, 33, 43, 49, 52, 55]⟩) (x := (.seq .leaf (.seq .leaf (.seq .leaf (.seq (.draw [0, 1, 2, 3, 4, 5, 6, 7, 8, 9]) (.seq (.seq .leaf (.cond (.seq .leaf (.block (.seq .leaf (.cond .leaf (.seq .leaf (.cond .leaf (.seq .leaf (.cond .leaf .leaf)))))))) .leaf)) (.seq .leaf .leaf))))))) Tryz.func148 (by kernel_rfl) (by kernel_rfl) (by kernel_rfl) (by kernel_rfl : F_s_l01DrawPrefix R a0 H = _) h
def F_slices_IndexFunc_i_Table_i_Table (R : V → Heap → Prop) (a0 a1 : V) (H : Heap) : Prop :=
  bnd (lenOf a0) fun n1 =>
  ∃ (I2 : Nat → List V → Heap → Prop) (n3 : Nat), Shr (I2 n3 [(.int .i64 0)]) H ∧
  ∀ n4 xs6 H7, I2 n4 xs6 H7 →
  bnd (aBinN .lss (xs6.headD .any) (.int .i64 (n1 : Nat))) fun t8 =>
  cnd t8
  (bnd (aIndex H7 1 a0 (xs6.headD .any)) fun t9 =>
  bnd (aLd true 1 H7 t9) fun t10 =>
  callK P H7 a1 [t10] fun v11 H12 =>
  cnd v11
  (Ret R (xs6.headD .any) H12)
  (bnd (aBinN .add (xs6.headD .any) (.int .i64 1)) fun t13 =>
  ∃ n5, n5 < n4 ∧ Shr (I2 n5 [t13]) H12))
  (Ret R (.int .i64 (-1)) H7)
theorem W_slices_IndexFunc_i_Table_i_Table {R : V → Heap → Prop} {a0 a1 : V} {H : Heap} (h : F_slices_IndexFunc_i_Table_i_Table R a0 a1 H) : ACalls P n_slices_IndexFunc_i_Table_i_Table [a0, a1] H R :=
  acalls_of_form (g := ⟨[], []⟩) (x := (.seq .leaf (.seq (.seq .leaf (.block (.loop [8] (.seq .leaf (.seq (.cond .leaf .leaf) (.seq (.block (.seq .leaf (.seq .leaf (.cond (.seq .leaf .leaf) .leaf)))) .leaf)))))) (.seq .leaf .leaf)))) Tryz.func149 (by kernel_rfl) (by kernel_rfl) (by kernel_rfl) (by kernel_rfl : F_slices_IndexFunc_i_Table_i_Table R a0 a1 H = _) h
def F_i_isRoute (R : V → Heap → Prop) (a0 : V) (H : Heap) : Prop :=
  boxK a0 (bnd (partOf true 2 (cellsOf a0) 0) fun t1 =>
  ACalls P n_i_PrefixOk [t1] H fun v2 H3 =>
  gd v2 true
  (bnd (partOf false 1 (cellsOf a0) 2) fun t4 =>
  ACalls P n_i_within [t4, (.int .i64 0), (.int .i64 999)] H3 fun v5 H6 =>
  Ret R v5 H6)
  (Ret R (.bool false) H3))
theorem W_i_isRoute {R : V → Heap → Prop} {a0 : V} {H : Heap} (h : F_i_isRoute R a0 H) : ACalls P n_i_isRoute [a0] H R :=
  acalls_of_form (g := ⟨[1], [3, 7]⟩) (x := (.seq .leaf (.seq .leaf .leaf))) Tryz.func150 (by kernel_rfl) (by kernel_rfl) (by kernel_rfl) (by kernel_rfl : F_i_isRoute R a0 H = _) h
def F_i_Prefix_has (R : V → Heap → Prop) (a0 a1 : V) (H : Heap) : Prop :=
  boxK a0 (∃ S1, Abs.sub S1 H ∧
  bnd (partOf false 1 (cellsOf a0) 0) fun t2 =>
  bnd (partOf false 1 (cellsOf a0) 0) fun t3 =>
  bnd (partOf true 2 (cellsOf a0) 0) fun t4 =>
  ACalls P n_i_Prefix_size [t4] H fun v5 H6 =>
  Abs.sub S1 H6 ∧
  bnd (aBinN .add t3 v5) fun t7 =>
  bnd (aBinN .sub t7 (.int .i64 1)) fun t8 =>
  ACalls P n_i_within [a1, t2, t8] H6 fun v9 H10 =>
  Abs.sub S1 H10 ∧
  Ret R v9 H10)
theorem W_i_Prefix_has {R : V → Heap → Prop} {a0 a1 : V} {H : Heap} (h : F_i_Prefix_has R a0 a1 H) : ACalls P n_i_Prefix_has [a0, a1] H R :=
  acalls_of_form (g := ⟨[2], [6, 8]⟩) (x := (.seq .leaf (.seq (.draw [0, 1, 2, 3, 4, 5, 6, 7, 8, 9, 10]) .leaf))) Tryz.func151 (by kernel_rfl) (by kernel_rfl) (by kernel_rfl) (by kernel_rfl : F_i_Prefix_has R a0 a1 H = _) h
def F_i_compareEdges (R : V → Heap → Prop) (a0 a1 : V) (H : Heap) : Prop :=
  boxK a0 (boxK a1 (bnd (partOf false 1 (cellsOf a0) 0) fun t1 =>
  bnd (partOf false 1 (cellsOf a1) 0) fun t2 =>
  bnd (aBinN .neq t1 t2) fun t3 =>
  cnd t3
  (bnd (partOf false 1 (cellsOf a0) 0) fun t4 =>
  bnd (partOf false 1 (cellsOf a1) 0) fun t5 =>
  bnd (aBinN .sub t4 t5) fun t6 =>
  Ret R t6 H)
  (bnd (partOf false 1 (cellsOf a0) 1) fun t7 =>
  bnd (partOf false 1 (cellsOf a1) 1) fun t8 =>
  bnd (aBinN .sub t7 t8) fun t9 =>
  Ret R t9 H)))
theorem W_i_compareEdges {R : V → Heap → Prop} {a0 a1 : V} {H : Heap} (h : F_i_compareEdges R a0 a1 H) : ACalls P n_i_compareEdges [a0, a1] H R :=
  acalls_of_form (g := ⟨[2, 3], [5, 7, 10, 12, 15, 17]⟩) (x := (.seq .leaf (.seq (.seq .leaf (.cond (.seq .leaf .leaf) .leaf)) (.seq .leaf .leaf)))) Tryz.func152 (by kernel_rfl) (by kernel_rfl) (by kernel_rfl) (by kernel_rfl : F_i_compareEdges R a0 a1 H = _) h
def F_i_areLinks (R : V → Heap → Prop) (a0 a1 : V) (H : Heap) : Prop :=
  bnd (lenOf a1) fun n1 =>
  ∃ (I2 : Nat → List V → Heap → Prop) (n3 : Nat), Shr (I2 n3 [(.int .i64 0)]) H ∧
  ∀ n4 xs6 H7, I2 n4 xs6 H7 →
  bnd (aBinN .lss (xs6.headD .any) (.int .i64 (n1 : Nat))) fun t8 =>
  cnd t8
  (bnd (aIndex H7 2 a1 (xs6.headD .any)) fun t9 =>
  bnd (aLd true 2 H7 t9) fun t10 =>
  bnd (stz 2 [(.int .i64 0), (.int .i64 0)] 0 t10) fun c11 =>
  ∃ S12, Abs.sub S12 H7 ∧
  bnd (partOf false 1 c11 0) fun t13 =>
  ACalls P n_i_within [t13, (.int .i64 0), (.int .i64 9)] H7 fun v14 H15 =>
  Abs.sub S12 H15 ∧
  bnd (aNot v14) fun t16 =>
  gd t16 false
  (bnd (partOf false 1 c11 1) fun t17 =>
  ACalls P n_i_within [t17, (.int .i64 1), (.int .i64 1000)] H15 fun v18 H19 =>
  Abs.sub S12 H19 ∧
  bnd (aNot v18) fun t20 =>
  gd t20 false
  (bnd (partOf false 1 c11 0) fun t21 =>
  bnd (aBinN .eql t21 a0) fun t22 =>
  gd t22 false
  (bnd (aBinN .gtr (xs6.headD .any) (.int .i64 0)) fun t23 =>
  gd3 t23 true
  (bnd (partOf false 1 c11 0) fun t24 =>
  bnd (aBinN .sub (xs6.headD .any) (.int .i64 1)) fun t25 =>
  bnd (aIndex S12 2 a1 t25) fun t26 =>
  bnd (aField 0 t26) fun t27 =>
  bnd (aLd false 1 S12 t27) fun t28 =>
  bnd (aBinN .leq t24 t28) fun t29 =>
  cnd t29
  (Ret R (.bool false) H19)
  (bnd (aBinN .add (xs6.headD .any) (.int .i64 1)) fun t30 =>
  ∃ n5, n5 < n4 ∧ Shr (I2 n5 [t30]) H19))
  (bnd (aBinN .add (xs6.headD .any) (.int .i64 1)) fun t31 =>
  ∃ n5, n5 < n4 ∧ Shr (I2 n5 [t31]) H19)
  (bnd (aPick (.tup []) (.tup []) (.bool false)) fun t32 =>
  cnd t32
  (Ret R (.bool false) H19)
  (bnd (aBinN .add (xs6.headD .any) (.int .i64 1)) fun t33 =>
  ∃ n5, n5 < n4 ∧ Shr (I2 n5 [t33]) H19)))
  (Ret R (.bool false) H19))
  (Ret R (.bool false) H19))
  (Ret R (.bool false) H15))
  (Ret R (.bool true) H7)
theorem W_i_areLinks {R : V → Heap → Prop} {a0 a1 : V} {H : Heap} (h : F_i_areLinks R a0 a1 H) : ACalls P n_i_areLinks [a0, a1] H R :=
  acalls_of_form (g := ⟨[6], [14, 19, 25, 34]⟩) (x := (.seq .leaf (.seq (.seq .leaf (.block (.loop [9] (.seq .leaf (.seq (.cond .leaf .leaf) (.seq (.block (.seq .leaf (.seq (.draw [0, 1, 2, 3, 4, 5, 6, 7, 8, 9, 10, 11, 12, 13, 14, 15, 16, 17, 18, 19, 20, 21, 22, 23, 24, 25, 26, 27, 28, 29, 30]) (.cond (.seq .leaf .leaf) .leaf)))) .leaf)))))) (.seq .leaf .leaf)))) Tryz.func158 (by kernel_rfl) (by kernel_rfl) (by kernel_rfl) (by kernel_rfl : F_i_areLinks R a0 a1 H = _) h
def F_i_areStubs (R : V → Heap → Prop) (a0 : V) (H : Heap) : Prop :=
  bnd (lenOf a0) fun n1 =>
  ∃ (I2 : Nat → List V → Heap → Prop) (n3 : Nat), Shr (I2 n3 [(.int .i64 0)]) H ∧
  ∀ n4 xs6 H7, I2 n4 xs6 H7 →
  bnd (aBinN .lss (xs6.headD .any) (.int .i64 (n1 : Nat))) fun t8 =>
  cnd t8
  (bnd (aIndex H7 3 a0 (xs6.headD .any)) fun t9 =>
  bnd (aLd true 3 H7 t9) fun t10 =>
  bnd (stz 3 [(.int .i64 0), (.int .i64 0), (.int .i64 0)] 0 t10) fun c11 =>
  ∃ S12, Abs.sub S12 H7 ∧
  bnd (partOf true 2 c11 0) fun t13 =>
  ACalls P n_i_PrefixOk [t13] H7 fun v14 H15 =>
  Abs.sub S12 H15 ∧
  bnd (aNot v14) fun t16 =>
  gd t16 false
  (bnd (partOf false 1 c11 2) fun t17 =>
  ACalls P n_i_within [t17, (.int .i64 1), (.int .i64 1000)] H15 fun v18 H19 =>
  Abs.sub S12 H19 ∧
  bnd (aNot v18) fun t20 =>
  gd t20 false
  (bnd (aBinN .gtr (xs6.headD .any) (.int .i64 0)) fun t21 =>
  gd3 t21 true
  (bnd (aBinN .sub (xs6.headD .any) (.int .i64 1)) fun t22 =>
  bnd (aIndex S12 3 a0 t22) fun t23 =>
  bnd (aField 0 t23) fun t24 =>
  bnd (aLd true 2 S12 t24) fun t25 =>
  bnd (partOf true 2 c11 0) fun t26 =>
  ACalls P n_i_comparePrefixes [t25, t26] H19 fun v27 H28 =>
  Abs.sub S12 H28 ∧
  bnd (aBinN .geq v27 (.int .i64 0)) fun t29 =>
  cnd t29
  (Ret R (.bool false) H28)
  (bnd (aBinN .add (xs6.headD .any) (.int .i64 1)) fun t30 =>
  ∃ n5, n5 < n4 ∧ Shr (I2 n5 [t30]) H28))
  (bnd (aBinN .add (xs6.headD .any) (.int .i64 1)) fun t31 =>
  ∃ n5, n5 < n4 ∧ Shr (I2 n5 [t31]) H19)
  (bnd (aPick (.tup []) (.tup []) (.bool false)) fun t32 =>
  cnd t32
  (Ret R (.bool false) H19)
  (bnd (aBinN .add (xs6.headD .any) (.int .i64 1)) fun t33 =>
  ∃ n5, n5 < n4 ∧ Shr (I2 n5 [t33]) H19)))
  (Ret R (.bool false) H19))
  (Ret R (.bool false) H15))
  (bnd (lenOf a0) fun n34 =>
  bnd (aBinN .leq (.int .i64 (n34 : Nat)) (.int .i64 6)) fun t35 =>
  Ret R t35 H7)
theorem W_i_areStubs {R : V → Heap → Prop} {a0 : V} {H : Heap} (h : F_i_areStubs R a0 H) : ACalls P n_i_areStubs [a0] H R :=
  acalls_of_form (g := ⟨[4], [12, 17, 32]⟩) (x := (.seq .leaf (.seq (.seq .leaf (.block (.loop [7] (.seq .leaf (.seq (.cond .leaf .leaf) (.seq (.block (.seq .leaf (.seq (.draw [0, 1, 2, 3, 4, 5, 6, 7, 8, 9, 10, 11, 12, 13, 14, 15, 16, 17, 18, 19, 20, 21, 22, 23, 24, 25]) (.cond (.seq .leaf .leaf) .leaf)))) .leaf)))))) (.seq .leaf .leaf)))) Tryz.func159 (by kernel_rfl) (by kernel_rfl) (by kernel_rfl) (by kernel_rfl : F_i_areStubs R a0 H = _) h
def F_slices_BinarySearchFunc_i_Lsa_i_Lsa_int (R : V → Heap → Prop) (a0 a1 a2 : V) (H : Heap) : Prop :=
  bnd (lenOf a0) fun n1 =>
  ∃ (I2 : Nat → List V → Heap → Prop) (n3 : Nat), Shr (I2 n3 [(.int .i64 0), (.int .i64 (n1 : Nat))]) H ∧
  ∀ n4 xs6 H7, I2 n4 xs6 H7 →
  bnd (aBinN .lss (xs6.headD .any) (xs6.tail.headD .any)) fun t8 =>
  cnd t8
  (bnd (aBinN .add (xs6.headD .any) (xs6.tail.headD .any)) fun t9 =>
  bnd (aCv .u64 t9) fun t10 =>
  bnd (aBinN .shr t10 (.int .u64 1)) fun t11 =>
  bnd (aCv .i64 t11) fun t12 =>
  bnd (aIndex H7 5 a0 t12) fun t13 =>
  bnd (aLd true 5 H7 t13) fun t14 =>
  callK P H7 a2 [t14, a1] fun v15 H16 =>
  bnd (aBinN .lss v15 (.int .i64 0)) fun t17 =>
  cnd t17
  (bnd (aBinN .add t12 (.int .i64 1)) fun t18 =>
  ∃ n5, n5 < n4 ∧ Shr (I2 n5 [t18, (xs6.tail.headD .any)]) H16)
  (∃ n5, n5 < n4 ∧ Shr (I2 n5 [(xs6.headD .any), t12]) H16))
  (bnd (aBinN .lss (xs6.headD .any) (.int .i64 (n1 : Nat))) fun t19 =>
  gd t19 true
  (bnd (aIndex H7 5 a0 (xs6.headD .any)) fun t20 =>
  bnd (aLd true 5 H7 t20) fun t21 =>
  callK P H7 a2 [t21, a1] fun v22 H23 =>
  bnd (aBinN .eql v22 (.int .i64 0)) fun t24 =>
  Ret R (.tup [(xs6.headD .any), t24]) H23)
  (Ret R (.tup [(xs6.headD .any), (.bool false)]) H7))
theorem W_slices_BinarySearchFunc_i_Lsa_i_Lsa_int {R : V → Heap → Prop} {a0 a1 a2 : V} {H : Heap} (h : F_slices_BinarySearchFunc_i_Lsa_i_Lsa_int R a0 a1 a2 H) : ACalls P n_slices_BinarySearchFunc_i_Lsa_i_Lsa_int [a0, a1, a2] H R :=
  acalls_of_form (g := ⟨[], []⟩) (x := (.seq .leaf (.seq .leaf (.seq .leaf (.seq (.block (.loop [9, 10] (.seq (.seq .leaf (.cond .leaf .leaf)) (.block (.seq .leaf (.seq .leaf (.cond .leaf .leaf))))))) (.seq .leaf .leaf)))))) Tryz.func163 (by kernel_rfl) (by kernel_rfl) (by kernel_rfl) (by kernel_rfl : F_slices_BinarySearchFunc_i_Lsa_i_Lsa_int R a0 a1 a2 H = _) h
def F_i_Db_find_1 (R : V → Heap → Prop) (a0 a1 : V) (H : Heap) : Prop :=
  boxK a0 (bnd (partOf false 1 (cellsOf a0) 0) fun t1 =>
  ACalls P n_cmp_Compare_int [t1, a1] H fun v2 H3 =>
  Ret R v2 H3)
theorem W_i_Db_find_1 {R : V → Heap → Prop} {a0 a1 : V} {H : Heap} (h : F_i_Db_find_1 R a0 a1 H) : ACalls P n_i_Db_find_1 [a0, a1] H R :=
  acalls_of_form (g := ⟨[2], [5]⟩) (x := (.seq .leaf (.seq .leaf .leaf))) Tryz.func164 (by kernel_rfl) (by kernel_rfl) (by kernel_rfl) (by kernel_rfl : F_i_Db_find_1 R a0 a1 H = _) h
theorem E_i_Db_find_1 : enterable P n_i_Db_find_1 = true := by kernel_rfl
def F_cmp_Compare_int (R : V → Heap → Prop) (a0 a1 : V) (H : Heap) : Prop :=
  ACalls P n_cmp_isNaN_int [a0] H fun v1 H2 =>
  ACalls P n_cmp_isNaN_int [a1] H2 fun v3 H4 =>
  cnd v1
  (cnd v3
  (Ret R (.int .i64 0) H4)
  (Ret R (.int .i64 (-1)) H4))
  (cnd v3
  (Ret R (.int .i64 1) H4)
  (bnd (aBinN .lss a0 a1) fun t5 =>
  cnd t5
  (Ret R (.int .i64 (-1)) H4)
  (bnd (aBinN .gtr a0 a1) fun t6 =>
  cnd t6
  (Ret R (.int .i64 1) H4)
  (Ret R (.int .i64 0) H4))))
theorem W_cmp_Compare_int {R : V → Heap → Prop} {a0 a1 : V} {H : Heap} (h : F_cmp_Compare_int R a0 a1 H) : ACalls P n_cmp_Compare_int [a0, a1] H R :=
  acalls_of_form (g := ⟨[], []⟩) (x := (.seq .leaf (.seq .leaf (.seq .leaf (.seq (.seq .leaf (.cond (.seq (.seq .leaf (.cond (.seq .leaf .leaf) .leaf)) (.seq .leaf .leaf)) .leaf)) (.seq (.seq .leaf (.cond (.seq .leaf .leaf) .leaf)) (.seq (.seq .leaf (.cond (.seq .leaf .leaf) .leaf)) (.seq (.seq .leaf (.cond (.seq .leaf .leaf) .leaf)) (.seq .leaf .leaf))))))))) Tryz.func165 (by kernel_rfl) (by kernel_rfl) (by kernel_rfl) (by kernel_rfl : F_cmp_Compare_int R a0 a1 H = _) h
def F_slices_IndexFunc_i_Link_i_Link (R : V → Heap → Prop) (a0 a1 : V) (H : Heap) : Prop :=
  bnd (lenOf a0) fun n1 =>
  ∃ (I2 : Nat → List V → Heap → Prop) (n3 : Nat), Shr (I2 n3 [(.int .i64 0)]) H ∧
  ∀ n4 xs6 H7, I2 n4 xs6 H7 →
  bnd (aBinN .lss (xs6.headD .any) (.int .i64 (n1 : Nat))) fun t8 =>
  cnd t8
  (bnd (aIndex H7 2 a0 (xs6.headD .any)) fun t9 =>
  bnd (aLd true 2 H7 t9) fun t10 =>
  callK P H7 a1 [t10] fun v11 H12 =>
  cnd v11
  (Ret R (xs6.headD .any) H12)
  (bnd (aBinN .add (xs6.headD .any) (.int .i64 1)) fun t13 =>
  ∃ n5, n5 < n4 ∧ Shr (I2 n5 [t13]) H12))
  (Ret R (.int .i64 (-1)) H7)
theorem W_slices_IndexFunc_i_Link_i_Link {R : V → Heap → Prop} {a0 a1 : V} {H : Heap} (h : F_slices_IndexFunc_i_Link_i_Link R a0 a1 H) : ACalls P n_slices_IndexFunc_i_Link_i_Link [a0, a1] H R :=
  acalls_of_form (g := ⟨[], []⟩) (x := (.seq .leaf (.seq (.seq .leaf (.block (.loop [8] (.seq .leaf (.seq (.cond .leaf .leaf) (.seq (.block (.seq .leaf (.seq .leaf (.cond (.seq .leaf .leaf) .leaf)))) .leaf)))))) (.seq .leaf .leaf)))) Tryz.func166 (by kernel_rfl) (by kernel_rfl) (by kernel_rfl) (by kernel_rfl : F_slices_IndexFunc_i_Link_i_Link R a0 a1 H = _) h
def F_math_bits_Mul (R : V → Heap → Prop) (a0 a1 : V) (H : Heap) : Prop :=
  ACalls P n_math_bits_Mul64 [a0, a1] H fun v1 H2 =>
  bnd (aExtract 0 v1) fun t3 =>
  bnd (aExtract 1 v1) fun t4 =>
  Ret R (.tup [t3, t4]) H2
theorem W_math_bits_Mul {R : V → Heap → Prop} {a0 a1 : V} {H : Heap} (h : F_math_bits_Mul R a0 a1 H) : ACalls P n_math_bits_Mul [a0, a1] H R :=
  acalls_of_form (g := ⟨[], []⟩) (x := (.seq .leaf (.seq (.cond (.seq .leaf (.seq .leaf .leaf)) .leaf) (.seq .leaf (.seq .leaf .leaf))))) Tryz.func167 (by kernel_rfl) (by kernel_rfl) (by kernel_rfl) (by kernel_rfl : F_math_bits_Mul R a0 a1 H = _) h
def F_slices_insertionSortCmpFunc_i_Prefix (R : V → Heap → Prop) (a0 a1 a2 a3 : V) (H : Heap) : Prop :=
  bnd (aBinN .add a1 (.int .i64 1)) fun t1 =>
  ∃ (I2 : Nat → List V → Heap → Prop) (n3 : Nat), Shr (I2 n3 [t1]) H ∧
  ∀ n4 xs6 H7, I2 n4 xs6 H7 →
  bnd (aBinN .lss (xs6.headD .any) a2) fun t8 =>
  cnd t8
  (∃ (I9 : Nat → List V → Heap → Prop) (n10 : Nat), Shr (I9 n10 [(xs6.headD .any)]) H7 ∧
  ∀ n11 xs13 H14, I9 n11 xs13 H14 →
  ∃ S15, Abs.sub S15 H14 ∧
  bnd (aBinN .gtr (xs13.headD .any) a1) fun t16 =>
  gd t16 true
  (bnd (aIndex S15 2 a0 (xs13.headD .any)) fun t17 =>
  bnd (aLd true 2 S15 t17) fun t18 =>
  bnd (aBinN .sub (xs13.headD .any) (.int .i64 1)) fun t19 =>
  bnd (aIndex S15 2 a0 t19) fun t20 =>
  bnd (aLd true 2 S15 t20) fun t21 =>
  callK P H14 a3 [t18, t21] fun v22 H23 =>
  Abs.sub S15 H23 ∧
  bnd (aBinN .lss v22 (.int .i64 0)) fun t24 =>
  cnd t24
  (bnd (aBinN .sub (xs13.headD .any) (.int .i64 1)) fun t25 =>
  bnd (aBinN .sub (xs13.headD .any) (.int .i64 1)) fun t26 =>
  bnd (aIndex H23 2 a0 t26) fun t27 =>
  bnd (aLd true 2 H23 t27) fun t28 =>
  bnd (aIndex H23 2 a0 (xs13.headD .any)) fun t29 =>
  bnd (aLd true 2 H23 t29) fun t30 =>
  bnd (aIndex H23 2 a0 (xs13.headD .any)) fun t31 =>
  bnd (aSt 2 H23 t31 t28) fun H32 =>
  bnd (aIndex H32 2 a0 t25) fun t33 =>
  bnd (aSt 2 H32 t33 t30) fun H34 =>
  bnd (aBinN .sub (xs13.headD .any) (.int .i64 1)) fun t35 =>
  ∃ n12, n12 < n11 ∧ Shr (I9 n12 [t35]) H34)
  (bnd (aBinN .add (xs6.headD .any) (.int .i64 1)) fun t36 =>
  ∃ n5, n5 < n4 ∧ Shr (I2 n5 [t36]) H23))
  (bnd (aBinN .add (xs6.headD .any) (.int .i64 1)) fun t37 =>
  ∃ n5, n5 < n4 ∧ Shr (I2 n5 [t37]) H14))
  (Ret R (.tup []) H7)
theorem W_slices_insertionSortCmpFunc_i_Prefix {R : V → Heap → Prop} {a0 a1 a2 a3 : V} {H : Heap} (h : F_slices_insertionSortCmpFunc_i_Prefix R a0 a1 a2 a3 H) : ACalls P n_slices_insertionSortCmpFunc_i_Prefix [a0, a1, a2, a3] H R :=
  acalls_of_form (g := ⟨[], []⟩) (x := (.seq .leaf (.block (.loop [8] (.seq (.seq .leaf (.cond .leaf .leaf)) (.seq (.block (.seq .leaf (.block (.loop [9] (.seq (.seq (.draw [0, 1, 2, 3, 4, 5, 6, 7, 8, 9, 10, 11, 12, 13, 14, 15, 16]) (.cond .leaf .leaf)) (.seq (.block (.drawh [0, 1, 2, 3, 4, 5, 6, 7, 8, 9, 10, 11, 12, 13, 14, 15, 16, 17])) .leaf)))))) .leaf)))))) Tryz.func168 (by kernel_rfl) (by kernel_rfl) (by kernel_rfl) (by kernel_rfl : F_slices_insertionSortCmpFunc_i_Prefix R a0 a1 a2 a3 H = _) h
def F_slices_heapSortCmpFunc_i_Prefix (R : V → Heap → Prop) (a0 a1 a2 a3 : V) (H : Heap) : Prop :=
  bnd (aBinN .sub a2 a1) fun t1 =>
  bnd (aBinN .sub t1 (.int .i64 1)) fun t2 =>
  bnd (aBinN .quo t2 (.int .i64 2)) fun t3 =>
  ∃ (I4 : Nat → List V → Heap → Prop) (n5 : Nat), Shr (I4 n5 [t3]) H ∧
  ∀ n6 xs8 H9, I4 n6 xs8 H9 →
  bnd (aBinN .geq (xs8.headD .any) (.int .i64 0)) fun t10 =>
  cnd t10
  (ACalls P n_slices_siftDownCmpFunc_i_Prefix [a0, (xs8.headD .any), t1, a1, a3] H9 fun v11 H12 =>
  bnd (aBinN .sub (xs8.headD .any) (.int .i64 1)) fun t13 =>
  ∃ n7, n7 < n6 ∧ Shr (I4 n7 [t13]) H12)
  (bnd (aBinN .sub t1 (.int .i64 1)) fun t14 =>
  ∃ (I15 : Nat → List V → Heap → Prop) (n16 : Nat), Shr (I15 n16 [t14]) H9 ∧
  ∀ n17 xs19 H20, I15 n17 xs19 H20 →
  bnd (aBinN .geq (xs19.headD .any) (.int .i64 0)) fun t21 =>
  cnd t21
  (bnd (aBinN .add a1 (xs19.headD .any)) fun t22 =>
  bnd (aBinN .add a1 (xs19.headD .any)) fun t23 =>
  bnd (aIndex H20 2 a0 t23) fun t24 =>
  bnd (aLd true 2 H20 t24) fun t25 =>
  bnd (aIndex H20 2 a0 a1) fun t26 =>
  bnd (aLd true 2 H20 t26) fun t27 =>
  bnd (aIndex H20 2 a0 a1) fun t28 =>
  bnd (aSt 2 H20 t28 t25) fun H29 =>
  bnd (aIndex H29 2 a0 t22) fun t30 =>
  bnd (aSt 2 H29 t30 t27) fun H31 =>
  ACalls P n_slices_siftDownCmpFunc_i_Prefix [a0, (.int .i64 0), (xs19.headD .any), a1, a3] H31 fun v32 H33 =>
  bnd (aBinN .sub (xs19.headD .any) (.int .i64 1)) fun t34 =>
  ∃ n18, n18 < n17 ∧ Shr (I15 n18 [t34]) H33)
  (Ret R (.tup []) H20))
theorem W_slices_heapSortCmpFunc_i_Prefix {R : V → Heap → Prop} {a0 a1 a2 a3 : V} {H : Heap} (h : F_slices_heapSortCmpFunc_i_Prefix R a0 a1 a2 a3 H) : ACalls P n_slices_heapSortCmpFunc_i_Prefix [a0, a1, a2, a3] H R :=
  acalls_of_form (g := ⟨[], []⟩) (x := (.seq .leaf (.seq .leaf (.seq .leaf (.seq (.seq .leaf (.block (.loop [11] (.seq (.seq .leaf (.cond .leaf .leaf)) (.seq (.block .leaf) .leaf))))) (.seq .leaf (.block (.loop [12] (.seq (.seq .leaf (.cond .leaf .leaf)) (.seq (.block (.seq (.drawh [0, 1, 2, 3, 4, 5, 6, 7, 8, 9, 10, 11, 12, 13, 14, 15, 16, 17, 18, 19]) .leaf)) .leaf)))))))))) Tryz.func169 (by kernel_rfl) (by kernel_rfl) (by kernel_rfl) (by kernel_rfl : F_slices_heapSortCmpFunc_i_Prefix R a0 a1 a2 a3 H = _) h
def F_slices_breakPatternsCmpFunc_i_Prefix (R : V → Heap → Prop) (a0 a1 a2 a3 : V) (H : Heap) : Prop :=
  bnd (aBinN .sub a2 a1) fun t1 =>
  bnd (aBinN .geq t1 (.int .i64 8)) fun t2 =>
  cnd t2
  (bnd (aCv .u64 t1) fun t3 =>
  ∀ o4, H o4 = none →
  bnd (aSt 1 (upd H o4 ⟨1, [[(.int .u64 0)]]⟩) (.ptr o4 0 0) t3) fun H5 =>
  ACalls P n_slices_nextPowerOfTwo [t1] H5 fun v6 H7 =>
  bnd (aBinN .quo t1 (.int .i64 4)) fun t8 =>
  bnd (aBinN .mul t8 (.int .i64 2)) fun t9 =>
  bnd (aBinN .add a1 t9) fun t10 =>
  bnd (aBinN .sub t10 (.int .i64 1)) fun t11 =>
  ∃ (I12 : Nat → List V → Heap → Prop) (n13 : Nat), Shr (I12 n13 [t11]) H7 ∧
  ∀ n14 xs16 H17, I12 n14 xs16 H17 →
  bnd (aBinN .quo t1 (.int .i64 4)) fun t18 =>
  bnd (aBinN .mul t18 (.int .i64 2)) fun t19 =>
  bnd (aBinN .add a1 t19) fun t20 =>
  bnd (aBinN .add t20 (.int .i64 1)) fun t21 =>
  bnd (aBinN .leq (xs16.headD .any) t21) fun t22 =>
  cnd t22
  (ACalls P n_p_slices_xorshift_Next [(.ptr o4 0 0)] H17 fun v23 H24 =>
  bnd (aBinN .sub v6 (.int .u64 1)) fun t25 =>
  bnd (aBinN .and v23 t25) fun t26 =>
  bnd (aCv .i64 t26) fun t27 =>
  bnd (aBinN .geq t27 t1) fun t28 =>
  cnd t28
  (bnd (aBinN .sub t27 t1) fun t29 =>
  bnd (aBinN .add a1 t29) fun t30 =>
  bnd (aBinN .add a1 t29) fun t31 =>
  bnd (aIndex H24 2 a0 t31) fun t32 =>
  bnd (aLd true 2 H24 t32) fun t33 =>
  bnd (aIndex H24 2 a0 (xs16.headD .any)) fun t34 =>
  bnd (aLd true 2 H24 t34) fun t35 =>
  bnd (aIndex H24 2 a0 (xs16.headD .any)) fun t36 =>
  bnd (aSt 2 H24 t36 t33) fun H37 =>
  bnd (aIndex H37 2 a0 t30) fun t38 =>
  bnd (aSt 2 H37 t38 t35) fun H39 =>
  bnd (aBinN .add (xs16.headD .any) (.int .i64 1)) fun t40 =>
  ∃ n15, n15 < n14 ∧ Shr (I12 n15 [t40]) H39)
  (bnd (aBinN .add a1 t27) fun t41 =>
  bnd (aBinN .add a1 t27) fun t42 =>
  bnd (aIndex H24 2 a0 t42) fun t43 =>
  bnd (aLd true 2 H24 t43) fun t44 =>
  bnd (aIndex H24 2 a0 (xs16.headD .any)) fun t45 =>
  bnd (aLd true 2 H24 t45) fun t46 =>
  bnd (aIndex H24 2 a0 (xs16.headD .any)) fun t47 =>
  bnd (aSt 2 H24 t47 t44) fun H48 =>
  bnd (aIndex H48 2 a0 t41) fun t49 =>
  bnd (aSt 2 H48 t49 t46) fun H50 =>
  bnd (aBinN .add (xs16.headD .any) (.int .i64 1)) fun t51 =>
  ∃ n15, n15 < n14 ∧ Shr (I12 n15 [t51]) H50))
  (Ret R (.tup []) H17))
  (Ret R (.tup []) H)
theorem W_slices_breakPatternsCmpFunc_i_Prefix {R : V → Heap → Prop} {a0 a1 a2 a3 : V} {H : Heap} (h : F_slices_breakPatternsCmpFunc_i_Prefix R a0 a1 a2 a3 H) : ACalls P n_slices_breakPatternsCmpFunc_i_Prefix [a0, a1, a2, a3] H R :=
  acalls_of_form (g := ⟨[], []⟩) (x := (.seq .leaf (.seq .leaf (.cond (.seq .leaf (.seq .leaf (.seq .leaf (.block (.loop [11] (.seq (.seq .leaf (.cond .leaf .leaf)) (.seq (.block (.seq .leaf (.seq (.seq .leaf (.cond .leaf .leaf)) (.drawh [0, 1, 2, 3, 4, 5, 6, 7, 8, 9, 10, 11, 12, 13, 14, 15, 16, 17, 18, 19])))) .leaf))))))) .leaf)))) Tryz.func170 (by kernel_rfl) (by kernel_rfl) (by kernel_rfl) (by kernel_rfl : F_slices_breakPatternsCmpFunc_i_Prefix R a0 a1 a2 a3 H = _) h
def F_slices_choosePivotCmpFunc_i_Prefix (R : V → Heap → Prop) (a0 a1 a2 a3 : V) (H : Heap) : Prop :=
  bnd (aBinN .sub a2 a1) fun t1 =>
  ∀ o2, H o2 = none →
  bnd (aBinN .quo t1 (.int .i64 4)) fun t3 =>
  bnd (aBinN .mul t3 (.int .i64 1)) fun t4 =>
  bnd (aBinN .add a1 t4) fun t5 =>
  bnd (aBinN .quo t1 (.int .i64 4)) fun t6 =>
  bnd (aBinN .mul t6 (.int .i64 2)) fun t7 =>
  bnd (aBinN .add a1 t7) fun t8 =>
  bnd (aBinN .quo t1 (.int .i64 4)) fun t9 =>
  bnd (aBinN .mul t9 (.int .i64 3)) fun t10 =>
  bnd (aBinN .add a1 t10) fun t11 =>
  bnd (aBinN .geq t1 (.int .i64 8)) fun t12 =>
  cnd t12
  (bnd (aBinN .geq t1 (.int .i64 50)) fun t13 =>
  cnd t13
  (ACalls P n_slices_medianAdjacentCmpFunc_i_Prefix [a0, t5, (.ptr o2 0 0), a3] (upd H o2 ⟨1, [[(.int .i64 0)]]⟩) fun v14 H15 =>
  ACalls P n_slices_medianAdjacentCmpFunc_i_Prefix [a0, t8, (.ptr o2 0 0), a3] H15 fun v16 H17 =>
  ACalls P n_slices_medianAdjacentCmpFunc_i_Prefix [a0, t11, (.ptr o2 0 0), a3] H17 fun v18 H19 =>
  ACalls P n_slices_medianCmpFunc_i_Prefix [a0, v14, v16, v18, (.ptr o2 0 0), a3] H19 fun v20 H21 =>
  bnd (aLd false 1 H21 (.ptr o2 0 0)) fun t22 =>
  bnd (aBinN .eql t22 (.int .i64 0)) fun t23 =>
  cnd t23
  (Ret R (.tup [v20, (.int .i64 1)]) H21)
  (bnd (aBinN .eql t22 (.int .i64 12)) fun t24 =>
  cnd t24
  (Ret R (.tup [v20, (.int .i64 2)]) H21)
  (Ret R (.tup [v20, (.int .i64 0)]) H21)))
  (ACalls P n_slices_medianCmpFunc_i_Prefix [a0, t5, t8, t11, (.ptr o2 0 0), a3] (upd H o2 ⟨1, [[(.int .i64 0)]]⟩) fun v25 H26 =>
  bnd (aLd false 1 H26 (.ptr o2 0 0)) fun t27 =>
  bnd (aBinN .eql t27 (.int .i64 0)) fun t28 =>
  cnd t28
  (Ret R (.tup [v25, (.int .i64 1)]) H26)
  (bnd (aBinN .eql t27 (.int .i64 12)) fun t29 =>
  cnd t29
  (Ret R (.tup [v25, (.int .i64 2)]) H26)
  (Ret R (.tup [v25, (.int .i64 0)]) H26))))
  (bnd (aLd false 1 (upd H o2 ⟨1, [[(.int .i64 0)]]⟩) (.ptr o2 0 0)) fun t30 =>
  bnd (aBinN .eql t30 (.int .i64 0)) fun t31 =>
  cnd t31
  (Ret R (.tup [t8, (.int .i64 1)]) (upd H o2 ⟨1, [[(.int .i64 0)]]⟩))
  (bnd (aBinN .eql t30 (.int .i64 12)) fun t32 =>
  cnd t32
  (Ret R (.tup [t8, (.int .i64 2)]) (upd H o2 ⟨1, [[(.int .i64 0)]]⟩))
  (Ret R (.tup [t8, (.int .i64 0)]) (upd H o2 ⟨1, [[(.int .i64 0)]]⟩))))
theorem W_slices_choosePivotCmpFunc_i_Prefix {R : V → Heap → Prop} {a0 a1 a2 a3 : V} {H : Heap} (h : F_slices_choosePivotCmpFunc_i_Prefix R a0 a1 a2 a3 H) : ACalls P n_slices_choosePivotCmpFunc_i_Prefix [a0, a1, a2, a3] H R :=
  acalls_of_form (g := ⟨[], []⟩) (x := (.seq .leaf (.seq .leaf (.seq .leaf (.seq .leaf (.seq .leaf (.seq .leaf (.seq (.seq .leaf (.cond (.seq (.seq .leaf (.cond (.seq .leaf (.seq .leaf .leaf)) .leaf)) .leaf) .leaf)) (.seq .leaf (.block (.seq .leaf (.cond (.seq .leaf .leaf) (.seq .leaf (.cond (.seq .leaf .leaf) (.seq .leaf .leaf))))))))))))))) Tryz.func171 (by kernel_rfl) (by kernel_rfl) (by kernel_rfl) (by kernel_rfl : F_slices_choosePivotCmpFunc_i_Prefix R a0 a1 a2 a3 H = _) h
def F_slices_reverseRangeCmpFunc_i_Prefix (R : V → Heap → Prop) (a0 a1 a2 a3 : V) (H : Heap) : Prop :=
  bnd (aBinN .sub a2 (.int .i64 1)) fun t1 =>
  ∃ (I2 : Nat → List V → Heap → Prop) (n3 : Nat), Shr (I2 n3 [a1, t1]) H ∧
  ∀ n4 xs6 H7, I2 n4 xs6 H7 →
  bnd (aBinN .lss (xs6.headD .any) (xs6.tail.headD .any)) fun t8 =>
  cnd t8
  (bnd (aIndex H7 2 a0 (xs6.tail.headD .any)) fun t9 =>
  bnd (aLd true 2 H7 t9) fun t10 =>
  bnd (aIndex H7 2 a0 (xs6.headD .any)) fun t11 =>
  bnd (aLd true 2 H7 t11) fun t12 =>
  bnd (aIndex H7 2 a0 (xs6.headD .any)) fun t13 =>
  bnd (aSt 2 H7 t13 t10) fun H14 =>
  bnd (aIndex H14 2 a0 (xs6.tail.headD .any)) fun t15 =>
  bnd (aSt 2 H14 t15 t12) fun H16 =>
  bnd (aBinN .add (xs6.headD .any) (.int .i64 1)) fun t17 =>
  bnd (aBinN .sub (xs6.tail.headD .any) (.int .i64 1)) fun t18 =>
  ∃ n5, n5 < n4 ∧ Shr (I2 n5 [t17, t18]) H16)
  (Ret R (.tup []) H7)
theorem W_slices_reverseRangeCmpFunc_i_Prefix {R : V → Heap → Prop} {a0 a1 a2 a3 : V} {H : Heap} (h : F_slices_reverseRangeCmpFunc_i_Prefix R a0 a1 a2 a3 H) : ACalls P n_slices_reverseRangeCmpFunc_i_Prefix [a0, a1, a2, a3] H R :=
  acalls_of_form (g := ⟨[], []⟩) (x := (.seq .leaf (.seq .leaf (.block (.loop [8, 9] (.seq (.seq .leaf (.cond .leaf .leaf)) (.block (.seq (.drawh [0, 1, 2, 3, 4, 5, 6, 7, 8, 9, 10, 11, 12, 13, 14, 15]) (.seq .leaf .leaf))))))))) Tryz.func172 (by kernel_rfl) (by kernel_rfl) (by kernel_rfl) (by kernel_rfl : F_slices_reverseRangeCmpFunc_i_Prefix R a0 a1 a2 a3 H = _) h
def F_slices_partialInsertionSortCmpFunc_i_Prefix (R : V → Heap → Prop) (a0 a1 a2 a3 : V) (H : Heap) : Prop :=
  bnd (aBinN .add a1 (.int .i64 1)) fun t1 =>
  ∃ (I2 : Nat → List V → Heap → Prop) (n3 : Nat), Shr (I2 n3 [t1, (.int .i64 0)]) H ∧
  ∀ n4 xs6 H7, I2 n4 xs6 H7 →
  bnd (aBinN .lss (xs6.tail.headD .any) (.int .i64 5)) fun t8 =>
  cnd t8
  (∃ (I9 : Nat → List V → Heap → Prop) (n10 : Nat), Shr (I9 n10 [(xs6.headD .any)]) H7 ∧
  ∀ n11 xs13 H14, I9 n11 xs13 H14 →
  ∃ S15, Abs.sub S15 H14 ∧
  bnd (aBinN .lss (xs13.headD .any) a2) fun t16 =>
  gd t16 true
  (bnd (aIndex S15 2 a0 (xs13.headD .any)) fun t17 =>
  bnd (aLd true 2 S15 t17) fun t18 =>
  bnd (aBinN .sub (xs13.headD .any) (.int .i64 1)) fun t19 =>
  bnd (aIndex S15 2 a0 t19) fun t20 =>
  bnd (aLd true 2 S15 t20) fun t21 =>
  callK P H14 a3 [t18, t21] fun v22 H23 =>
  Abs.sub S15 H23 ∧
  bnd (aBinN .lss v22 (.int .i64 0)) fun t24 =>
  bnd (aNot t24) fun t25 =>
  cnd t25
  (bnd (aBinN .add (xs13.headD .any) (.int .i64 1)) fun t26 =>
  ∃ n12, n12 < n11 ∧ Shr (I9 n12 [t26]) H23)
  (bnd (aBinN .eql (xs13.headD .any) a2) fun t27 =>
  cnd t27
  (Ret R (.bool true) H23)
  (bnd (aBinN .sub a2 a1) fun t28 =>
  bnd (aBinN .lss t28 (.int .i64 50)) fun t29 =>
  cnd t29
  (Ret R (.bool false) H23)
  (bnd (aBinN .sub (xs13.headD .any) (.int .i64 1)) fun t30 =>
  bnd (aBinN .sub (xs13.headD .any) (.int .i64 1)) fun t31 =>
  bnd (aIndex H23 2 a0 t31) fun t32 =>
  bnd (aLd true 2 H23 t32) fun t33 =>
  bnd (aIndex H23 2 a0 (xs13.headD .any)) fun t34 =>
  bnd (aLd true 2 H23 t34) fun t35 =>
  bnd (aIndex H23 2 a0 (xs13.headD .any)) fun t36 =>
  bnd (aSt 2 H23 t36 t33) fun H37 =>
  bnd (aIndex H37 2 a0 t30) fun t38 =>
  bnd (aSt 2 H37 t38 t35) fun H39 =>
  bnd (aBinN .sub (xs13.headD .any) a1) fun t40 =>
  bnd (aBinN .geq t40 (.int .i64 2)) fun t41 =>
  cnd t41
  (bnd (aBinN .sub (xs13.headD .any) (.int .i64 1)) fun t42 =>
  ∃ (I43 : Nat → List V → Heap → Prop) (n44 : Nat), Shr (I43 n44 [t42]) H39 ∧
  ∀ n45 xs47 H48, I43 n45 xs47 H48 →
  bnd (aBinN .geq (xs47.headD .any) (.int .i64 1)) fun t49 =>
  cnd t49
  (∃ S50, Abs.sub S50 H48 ∧
  bnd (aIndex S50 2 a0 (xs47.headD .any)) fun t51 =>
  bnd (aLd true 2 S50 t51) fun t52 =>
  bnd (aBinN .sub (xs47.headD .any) (.int .i64 1)) fun t53 =>
  bnd (aIndex S50 2 a0 t53) fun t54 =>
  bnd (aLd true 2 S50 t54) fun t55 =>
  callK P H48 a3 [t52, t55] fun v56 H57 =>
  Abs.sub S50 H57 ∧
  bnd (aBinN .lss v56 (.int .i64 0)) fun t58 =>
  bnd (aNot t58) fun t59 =>
  cnd t59
  (bnd (aBinN .sub a2 (xs13.headD .any)) fun t60 =>
  bnd (aBinN .geq t60 (.int .i64 2)) fun t61 =>
  cnd t61
  (bnd (aBinN .add (xs13.headD .any) (.int .i64 1)) fun t62 =>
  ∃ (I63 : Nat → List V → Heap → Prop) (n64 : Nat), Shr (I63 n64 [t62]) H57 ∧
  ∀ n65 xs67 H68, I63 n65 xs67 H68 →
  bnd (aBinN .lss (xs67.headD .any) a2) fun t69 =>
  cnd t69
  (∃ S70, Abs.sub S70 H68 ∧
  bnd (aIndex S70 2 a0 (xs67.headD .any)) fun t71 =>
  bnd (aLd true 2 S70 t71) fun t72 =>
  bnd (aBinN .sub (xs67.headD .any) (.int .i64 1)) fun t73 =>
  bnd (aIndex S70 2 a0 t73) fun t74 =>
  bnd (aLd true 2 S70 t74) fun t75 =>
  callK P H68 a3 [t72, t75] fun v76 H77 =>
  Abs.sub S70 H77 ∧
  bnd (aBinN .lss v76 (.int .i64 0)) fun t78 =>
  bnd (aNot t78) fun t79 =>
  cnd t79
  (bnd (aBinN .add (xs6.tail.headD .any) (.int .i64 1)) fun t80 =>
  ∃ n5, n5 < n4 ∧ Shr (I2 n5 [(xs13.headD .any), t80]) H77)
  (bnd (aBinN .sub (xs67.headD .any) (.int .i64 1)) fun t81 =>
  bnd (aBinN .sub (xs67.headD .any) (.int .i64 1)) fun t82 =>
  bnd (aIndex H77 2 a0 t82) fun t83 =>
  bnd (aLd true 2 H77 t83) fun t84 =>
  bnd (aIndex H77 2 a0 (xs67.headD .any)) fun t85 =>
  bnd (aLd true 2 H77 t85) fun t86 =>
  bnd (aIndex H77 2 a0 (xs67.headD .any)) fun t87 =>
  bnd (aSt 2 H77 t87 t84) fun H88 =>
  bnd (aIndex H88 2 a0 t81) fun t89 =>
  bnd (aSt 2 H88 t89 t86) fun H90 =>
  bnd (aBinN .add (xs67.headD .any) (.int .i64 1)) fun t91 =>
  ∃ n66, n66 < n65 ∧ Shr (I63 n66 [t91]) H90))
  (bnd (aBinN .add (xs6.tail.headD .any) (.int .i64 1)) fun t92 =>
  ∃ n5, n5 < n4 ∧ Shr (I2 n5 [(xs13.headD .any), t92]) H68))
  (bnd (aBinN .add (xs6.tail.headD .any) (.int .i64 1)) fun t93 =>
  ∃ n5, n5 < n4 ∧ Shr (I2 n5 [(xs13.headD .any), t93]) H57))
  (bnd (aBinN .sub (xs47.headD .any) (.int .i64 1)) fun t94 =>
  bnd (aBinN .sub (xs47.headD .any) (.int .i64 1)) fun t95 =>
  bnd (aIndex H57 2 a0 t95) fun t96 =>
  bnd (aLd true 2 H57 t96) fun t97 =>
  bnd (aIndex H57 2 a0 (xs47.headD .any)) fun t98 =>
  bnd (aLd true 2 H57 t98) fun t99 =>
  bnd (aIndex H57 2 a0 (xs47.headD .any)) fun t100 =>
  bnd (aSt 2 H57 t100 t97) fun H101 =>
  bnd (aIndex H101 2 a0 t94) fun t102 =>
  bnd (aSt 2 H101 t102 t99) fun H103 =>
  bnd (aBinN .sub (xs47.headD .any) (.int .i64 1)) fun t104 =>
  ∃ n46, n46 < n45 ∧ Shr (I43 n46 [t104]) H103))
  (bnd (aBinN .sub a2 (xs13.headD .any)) fun t105 =>
  bnd (aBinN .geq t105 (.int .i64 2)) fun t106 =>
  cnd t106
  (bnd (aBinN .add (xs13.headD .any) (.int .i64 1)) fun t107 =>
  ∃ (I108 : Nat → List V → Heap → Prop) (n109 : Nat), Shr (I108 n109 [t107]) H48 ∧
  ∀ n110 xs112 H113, I108 n110 xs112 H113 →
  bnd (aBinN .lss (xs112.headD .any) a2) fun t114 =>
  cnd t114
  (∃ S115, Abs.sub S115 H113 ∧
  bnd (aIndex S115 2 a0 (xs112.headD .any)) fun t116 =>
  bnd (aLd true 2 S115 t116) fun t117 =>
  bnd (aBinN .sub (xs112.headD .any) (.int .i64 1)) fun t118 =>
  bnd (aIndex S115 2 a0 t118) fun t119 =>
  bnd (aLd true 2 S115 t119) fun t120 =>
  callK P H113 a3 [t117, t120] fun v121 H122 =>
  Abs.sub S115 H122 ∧
  bnd (aBinN .lss v121 (.int .i64 0)) fun t123 =>
  bnd (aNot t123) fun t124 =>
  cnd t124
  (bnd (aBinN .add (xs6.tail.headD .any) (.int .i64 1)) fun t125 =>
  ∃ n5, n5 < n4 ∧ Shr (I2 n5 [(xs13.headD .any), t125]) H122)
  (bnd (aBinN .sub (xs112.headD .any) (.int .i64 1)) fun t126 =>
  bnd (aBinN .sub (xs112.headD .any) (.int .i64 1)) fun t127 =>
  bnd (aIndex H122 2 a0 t127) fun t128 =>
  bnd (aLd true 2 H122 t128) fun t129 =>
  bnd (aIndex H122 2 a0 (xs112.headD .any)) fun t130 =>
  bnd (aLd true 2 H122 t130) fun t131 =>
  bnd (aIndex H122 2 a0 (xs112.headD .any)) fun t132 =>
  bnd (aSt 2 H122 t132 t129) fun H133 =>
  bnd (aIndex H133 2 a0 t126) fun t134 =>
  bnd (aSt 2 H133 t134 t131) fun H135 =>
  bnd (aBinN .add (xs112.headD .any) (.int .i64 1)) fun t136 =>
  ∃ n111, n111 < n110 ∧ Shr (I108 n111 [t136]) H135))
  (bnd (aBinN .add (xs6.tail.headD .any) (.int .i64 1)) fun t137 =>
  ∃ n5, n5 < n4 ∧ Shr (I2 n5 [(xs13.headD .any), t137]) H113))
  (bnd (aBinN .add (xs6.tail.headD .any) (.int .i64 1)) fun t138 =>
  ∃ n5, n5 < n4 ∧ Shr (I2 n5 [(xs13.headD .any), t138]) H48)))
  (bnd (aBinN .sub a2 (xs13.headD .any)) fun t139 =>
  bnd (aBinN .geq t139 (.int .i64 2)) fun t140 =>
  cnd t140
  (bnd (aBinN .add (xs13.headD .any) (.int .i64 1)) fun t141 =>
  ∃ (I142 : Nat → List V → Heap → Prop) (n143 : Nat), Shr (I142 n143 [t141]) H39 ∧
  ∀ n144 xs146 H147, I142 n144 xs146 H147 →
  bnd (aBinN .lss (xs146.headD .any) a2) fun t148 =>
  cnd t148
  (∃ S149, Abs.sub S149 H147 ∧
  bnd (aIndex S149 2 a0 (xs146.headD .any)) fun t150 =>
  bnd (aLd true 2 S149 t150) fun t151 =>
  bnd (aBinN .sub (xs146.headD .any) (.int .i64 1)) fun t152 =>
  bnd (aIndex S149 2 a0 t152) fun t153 =>
  bnd (aLd true 2 S149 t153) fun t154 =>
  callK P H147 a3 [t151, t154] fun v155 H156 =>
  Abs.sub S149 H156 ∧
  bnd (aBinN .lss v155 (.int .i64 0)) fun t157 =>
  bnd (aNot t157) fun t158 =>
  cnd t158
  (bnd (aBinN .add (xs6.tail.headD .any) (.int .i64 1)) fun t159 =>
  ∃ n5, n5 < n4 ∧ Shr (I2 n5 [(xs13.headD .any), t159]) H156)
  (bnd (aBinN .sub (xs146.headD .any) (.int .i64 1)) fun t160 =>
  bnd (aBinN .sub (xs146.headD .any) (.int .i64 1)) fun t161 =>
  bnd (aIndex H156 2 a0 t161) fun t162 =>
  bnd (aLd true 2 H156 t162) fun t163 =>
  bnd (aIndex H156 2 a0 (xs146.headD .any)) fun t164 =>
  bnd (aLd true 2 H156 t164) fun t165 =>
  bnd (aIndex H156 2 a0 (xs146.headD .any)) fun t166 =>
  bnd (aSt 2 H156 t166 t163) fun H167 =>
  bnd (aIndex H167 2 a0 t160) fun t168 =>
  bnd (aSt 2 H167 t168 t165) fun H169 =>
  bnd (aBinN .add (xs146.headD .any) (.int .i64 1)) fun t170 =>
  ∃ n145, n145 < n144 ∧ Shr (I142 n145 [t170]) H169))
  (bnd (aBinN .add (xs6.tail.headD .any) (.int .i64 1)) fun t171 =>
  ∃ n5, n5 < n4 ∧ Shr (I2 n5 [(xs13.headD .any), t171]) H147))
  (bnd (aBinN .add (xs6.tail.headD .any) (.int .i64 1)) fun t172 =>
  ∃ n5, n5 < n4 ∧ Shr (I2 n5 [(xs13.headD .any), t172]) H39))))))
  (bnd (aBinN .eql (xs13.headD .any) a2) fun t173 =>
  cnd t173
  (Ret R (.bool true) H14)
  (bnd (aBinN .sub a2 a1) fun t174 =>
  bnd (aBinN .lss t174 (.int .i64 50)) fun t175 =>
  cnd t175
  (Ret R (.bool false) H14)
  (bnd (aBinN .sub (xs13.headD .any) (.int .i64 1)) fun t176 =>
  bnd (aBinN .sub (xs13.headD .any) (.int .i64 1)) fun t177 =>
  bnd (aIndex H14 2 a0 t177) fun t178 =>
  bnd (aLd true 2 H14 t178) fun t179 =>
  bnd (aIndex H14 2 a0 (xs13.headD .any)) fun t180 =>
  bnd (aLd true 2 H14 t180) fun t181 =>
  bnd (aIndex H14 2 a0 (xs13.headD .any)) fun t182 =>
  bnd (aSt 2 H14 t182 t179) fun H183 =>
  bnd (aIndex H183 2 a0 t176) fun t184 =>
  bnd (aSt 2 H183 t184 t181) fun H185 =>
  bnd (aBinN .sub (xs13.headD .any) a1) fun t186 =>
  bnd (aBinN .geq t186 (.int .i64 2)) fun t187 =>
  cnd t187
  (bnd (aBinN .sub (xs13.headD .any) (.int .i64 1)) fun t188 =>
  ∃ (I189 : Nat → List V → Heap → Prop) (n190 : Nat), Shr (I189 n190 [t188]) H185 ∧
  ∀ n191 xs193 H194, I189 n191 xs193 H194 →
  bnd (aBinN .geq (xs193.headD .any) (.int .i64 1)) fun t195 =>
  cnd t195
  (∃ S196, Abs.sub S196 H194 ∧
  bnd (aIndex S196 2 a0 (xs193.headD .any)) fun t197 =>
  bnd (aLd true 2 S196 t197) fun t198 =>
  bnd (aBinN .sub (xs193.headD .any) (.int .i64 1)) fun t199 =>
  bnd (aIndex S196 2 a0 t199) fun t200 =>
  bnd (aLd true 2 S196 t200) fun t201 =>
  callK P H194 a3 [t198, t201] fun v202 H203 =>
  Abs.sub S196 H203 ∧
  bnd (aBinN .lss v202 (.int .i64 0)) fun t204 =>
  bnd (aNot t204) fun t205 =>
  cnd t205
  (bnd (aBinN .sub a2 (xs13.headD .any)) fun t206 =>
  bnd (aBinN .geq t206 (.int .i64 2)) fun t207 =>
  cnd t207
  (bnd (aBinN .add (xs13.headD .any) (.int .i64 1)) fun t208 =>
  ∃ (I209 : Nat → List V → Heap → Prop) (n210 : Nat), Shr (I209 n210 [t208]) H203 ∧
  ∀ n211 xs213 H214, I209 n211 xs213 H214 →
  bnd (aBinN .lss (xs213.headD .any) a2) fun t215 =>
  cnd t215
  (∃ S216, Abs.sub S216 H214 ∧
  bnd (aIndex S216 2 a0 (xs213.headD .any)) fun t217 =>
  bnd (aLd true 2 S216 t217) fun t218 =>
  bnd (aBinN .sub (xs213.headD .any) (.int .i64 1)) fun t219 =>
  bnd (aIndex S216 2 a0 t219) fun t220 =>
  bnd (aLd true 2 S216 t220) fun t221 =>
  callK P H214 a3 [t218, t221] fun v222 H223 =>
  Abs.sub S216 H223 ∧
  bnd (aBinN .lss v222 (.int .i64 0)) fun t224 =>
  bnd (aNot t224) fun t225 =>
  cnd t225
  (bnd (aBinN .add (xs6.tail.headD .any) (.int .i64 1)) fun t226 =>
  ∃ n5, n5 < n4 ∧ Shr (I2 n5 [(xs13.headD .any), t226]) H223)
  (bnd (aBinN .sub (xs213.headD .any) (.int .i64 1)) fun t227 =>
  bnd (aBinN .sub (xs213.headD .any) (.int .i64 1)) fun t228 =>
  bnd (aIndex H223 2 a0 t228) fun t229 =>
  bnd (aLd true 2 H223 t229) fun t230 =>
  bnd (aIndex H223 2 a0 (xs213.headD .any)) fun t231 =>
  bnd (aLd true 2 H223 t231) fun t232 =>
  bnd (aIndex H223 2 a0 (xs213.headD .any)) fun t233 =>
  bnd (aSt 2 H223 t233 t230) fun H234 =>
  bnd (aIndex H234 2 a0 t227) fun t235 =>
  bnd (aSt 2 H234 t235 t232) fun H236 =>
  bnd (aBinN .add (xs213.headD .any) (.int .i64 1)) fun t237 =>
  ∃ n212, n212 < n211 ∧ Shr (I209 n212 [t237]) H236))
  (bnd (aBinN .add (xs6.tail.headD .any) (.int .i64 1)) fun t238 =>
  ∃ n5, n5 < n4 ∧ Shr (I2 n5 [(xs13.headD .any), t238]) H214))
  (bnd (aBinN .add (xs6.tail.headD .any) (.int .i64 1)) fun t239 =>
  ∃ n5, n5 < n4 ∧ Shr (I2 n5 [(xs13.headD .any), t239]) H203))
  (bnd (aBinN .sub (xs193.headD .any) (.int .i64 1)) fun t240 =>
  bnd (aBinN .sub (xs193.headD .any) (.int .i64 1)) fun t241 =>
  bnd (aIndex H203 2 a0 t241) fun t242 =>
  bnd (aLd true 2 H203 t242) fun t243 =>
  bnd (aIndex H203 2 a0 (xs193.headD .any)) fun t244 =>
  bnd (aLd true 2 H203 t244) fun t245 =>
  bnd (aIndex H203 2 a0 (xs193.headD .any)) fun t246 =>
  bnd (aSt 2 H203 t246 t243) fun H247 =>
  bnd (aIndex H247 2 a0 t240) fun t248 =>
  bnd (aSt 2 H247 t248 t245) fun H249 =>
  bnd (aBinN .sub (xs193.headD .any) (.int .i64 1)) fun t250 =>
  ∃ n192, n192 < n191 ∧ Shr (I189 n192 [t250]) H249))
  (bnd (aBinN .sub a2 (xs13.headD .any)) fun t251 =>
  bnd (aBinN .geq t251 (.int .i64 2)) fun t252 =>
  cnd t252
  (bnd (aBinN .add (xs13.headD .any) (.int .i64 1)) fun t253 =>
  ∃ (I254 : Nat → List V → Heap → Prop) (n255 : Nat), Shr (I254 n255 [t253]) H194 ∧
  ∀ n256 xs258 H259, I254 n256 xs258 H259 →
  bnd (aBinN .lss (xs258.headD .any) a2) fun t260 =>
  cnd t260
  (∃ S261, Abs.sub S261 H259 ∧
  bnd (aIndex S261 2 a0 (xs258.headD .any)) fun t262 =>
  bnd (aLd true 2 S261 t262) fun t263 =>
  bnd (aBinN .sub (xs258.headD .any) (.int .i64 1)) fun t264 =>
  bnd (aIndex S261 2 a0 t264) fun t265 =>
  bnd (aLd true 2 S261 t265) fun t266 =>
  callK P H259 a3 [t263, t266] fun v267 H268 =>
  Abs.sub S261 H268 ∧
  bnd (aBinN .lss v267 (.int .i64 0)) fun t269 =>
  bnd (aNot t269) fun t270 =>
  cnd t270
  (bnd (aBinN .add (xs6.tail.headD .any) (.int .i64 1)) fun t271 =>
  ∃ n5, n5 < n4 ∧ Shr (I2 n5 [(xs13.headD .any), t271]) H268)
  (bnd (aBinN .sub (xs258.headD .any) (.int .i64 1)) fun t272 =>
  bnd (aBinN .sub (xs258.headD .any) (.int .i64 1)) fun t273 =>
  bnd (aIndex H268 2 a0 t273) fun t274 =>
  bnd (aLd true 2 H268 t274) fun t275 =>
  bnd (aIndex H268 2 a0 (xs258.headD .any)) fun t276 =>
  bnd (aLd true 2 H268 t276) fun t277 =>
  bnd (aIndex H268 2 a0 (xs258.headD .any)) fun t278 =>
  bnd (aSt 2 H268 t278 t275) fun H279 =>
  bnd (aIndex H279 2 a0 t272) fun t280 =>
  bnd (aSt 2 H279 t280 t277) fun H281 =>
  bnd (aBinN .add (xs258.headD .any) (.int .i64 1)) fun t282 =>
  ∃ n257, n257 < n256 ∧ Shr (I254 n257 [t282]) H281))
  (bnd (aBinN .add (xs6.tail.headD .any) (.int .i64 1)) fun t283 =>
  ∃ n5, n5 < n4 ∧ Shr (I2 n5 [(xs13.headD .any), t283]) H259))
  (bnd (aBinN .add (xs6.tail.headD .any) (.int .i64 1)) fun t284 =>
  ∃ n5, n5 < n4 ∧ Shr (I2 n5 [(xs13.headD .any), t284]) H194)))
  (bnd (aBinN .sub a2 (xs13.headD .any)) fun t285 =>
  bnd (aBinN .geq t285 (.int .i64 2)) fun t286 =>
  cnd t286
  (bnd (aBinN .add (xs13.headD .any) (.int .i64 1)) fun t287 =>
  ∃ (I288 : Nat → List V → Heap → Prop) (n289 : Nat), Shr (I288 n289 [t287]) H185 ∧
  ∀ n290 xs292 H293, I288 n290 xs292 H293 →
  bnd (aBinN .lss (xs292.headD .any) a2) fun t294 =>
  cnd t294
  (∃ S295, Abs.sub S295 H293 ∧
  bnd (aIndex S295 2 a0 (xs292.headD .any)) fun t296 =>
  bnd (aLd true 2 S295 t296) fun t297 =>
  bnd (aBinN .sub (xs292.headD .any) (.int .i64 1)) fun t298 =>
  bnd (aIndex S295 2 a0 t298) fun t299 =>
  bnd (aLd true 2 S295 t299) fun t300 =>
  callK P H293 a3 [t297, t300] fun v301 H302 =>
  Abs.sub S295 H302 ∧
  bnd (aBinN .lss v301 (.int .i64 0)) fun t303 =>
  bnd (aNot t303) fun t304 =>
  cnd t304
  (bnd (aBinN .add (xs6.tail.headD .any) (.int .i64 1)) fun t305 =>
  ∃ n5, n5 < n4 ∧ Shr (I2 n5 [(xs13.headD .any), t305]) H302)
  (bnd (aBinN .sub (xs292.headD .any) (.int .i64 1)) fun t306 =>
  bnd (aBinN .sub (xs292.headD .any) (.int .i64 1)) fun t307 =>
  bnd (aIndex H302 2 a0 t307) fun t308 =>
  bnd (aLd true 2 H302 t308) fun t309 =>
  bnd (aIndex H302 2 a0 (xs292.headD .any)) fun t310 =>
  bnd (aLd true 2 H302 t310) fun t311 =>
  bnd (aIndex H302 2 a0 (xs292.headD .any)) fun t312 =>
  bnd (aSt 2 H302 t312 t309) fun H313 =>
  bnd (aIndex H313 2 a0 t306) fun t314 =>
  bnd (aSt 2 H313 t314 t311) fun H315 =>
  bnd (aBinN .add (xs292.headD .any) (.int .i64 1)) fun t316 =>
  ∃ n291, n291 < n290 ∧ Shr (I288 n291 [t316]) H315))
  (bnd (aBinN .add (xs6.tail.headD .any) (.int .i64 1)) fun t317 =>
  ∃ n5, n5 < n4 ∧ Shr (I2 n5 [(xs13.headD .any), t317]) H293))
  (bnd (aBinN .add (xs6.tail.headD .any) (.int .i64 1)) fun t318 =>
  ∃ n5, n5 < n4 ∧ Shr (I2 n5 [(xs13.headD .any), t318]) H185))))))
  (Ret R (.bool false) H7)
theorem W_slices_partialInsertionSortCmpFunc_i_Prefix {R : V → Heap → Prop} {a0 a1 a2 a3 : V} {H : Heap} (h : F_slices_partialInsertionSortCmpFunc_i_Prefix R a0 a1 a2 a3 H) : ACalls P n_slices_partialInsertionSortCmpFunc_i_Prefix [a0, a1, a2, a3] H R :=
  acalls_of_form (g := ⟨[], []⟩) (x := (.seq .leaf (.seq .leaf (.seq (.seq .leaf (.block (.loop [9, 10] (.seq (.seq .leaf (.cond .leaf .leaf)) (.seq (.block (.seq (.block (.loop [9] (.seq (.seq (.draw [0, 1, 2, 3, 4, 5, 6, 7, 8, 9, 10, 11, 12, 13, 14, 15, 16, 17]) (.cond .leaf .leaf)) (.block .leaf)))) (.seq (.seq .leaf (.cond (.seq .leaf .leaf) .leaf)) (.seq (.seq .leaf (.cond (.seq .leaf .leaf) .leaf)) (.seq (.drawh [0, 1, 2, 3, 4, 5, 6, 7, 8, 9, 10, 11, 12, 13, 14, 15, 16, 17]) (.seq (.seq .leaf (.cond (.seq .leaf (.block (.loop [11] (.seq (.seq .leaf (.cond .leaf .leaf)) (.seq (.block (.seq (.seq (.draw [0, 1, 2, 3, 4, 5, 6, 7, 8, 9, 10, 11, 12]) (.cond .leaf .leaf)) (.drawh [0, 1, 2, 3, 4, 5, 6, 7, 8, 9, 10, 11, 12, 13, 14, 15, 16, 17]))) .leaf))))) .leaf)) (.seq .leaf (.cond (.seq .leaf (.block (.loop [12] (.seq (.seq .leaf (.cond .leaf .leaf)) (.seq (.block (.seq (.seq (.draw [0, 1, 2, 3, 4, 5, 6, 7, 8, 9, 10, 11, 12]) (.cond .leaf .leaf)) (.drawh [0, 1, 2, 3, 4, 5, 6, 7, 8, 9, 10, 11, 12, 13, 14, 15, 16, 17]))) .leaf))))) .leaf)))))))) .leaf))))) (.seq .leaf .leaf))))) Tryz.func173 (by kernel_rfl) (by kernel_rfl) (by kernel_rfl) (by kernel_rfl : F_slices_partialInsertionSortCmpFunc_i_Prefix R a0 a1 a2 a3 H = _) h
def F_slices_partitionEqualCmpFunc_i_Prefix (R : V → Heap → Prop) (a0 a1 a2 a3 a4 : V) (H : Heap) : Prop :=
  bnd (aIndex H 2 a0 a3) fun t1 =>
  bnd (aLd true 2 H t1) fun t2 =>
  bnd (aIndex H 2 a0 a1) fun t3 =>
  bnd (aLd true 2 H t3) fun t4 =>
  bnd (aIndex H 2 a0 a1) fun t5 =>
  bnd (aSt 2 H t5 t2) fun H6 =>
  bnd (aIndex H6 2 a0 a3) fun t7 =>
  bnd (aSt 2 H6 t7 t4) fun H8 =>
  bnd (aBinN .add a1 (.int .i64 1)) fun t9 =>
  bnd (aBinN .sub a2 (.int .i64 1)) fun t10 =>
  ∃ (I11 : Nat → List V → Heap → Prop) (n12 : Nat), Shr (I11 n12 [t9, t10]) H8 ∧
  ∀ n13 xs15 H16, I11 n13 xs15 H16 →
  ∃ (I17 : Nat → List V → Heap → Prop) (n18 : Nat), Shr (I17 n18 [(xs15.headD .any)]) H16 ∧
  ∀ n19 xs21 H22, I17 n19 xs21 H22 →
  ∃ S23, Abs.sub S23 H22 ∧
  bnd (aBinN .leq (xs21.headD .any) (xs15.tail.headD .any)) fun t24 =>
  gd t24 true
  (bnd (aIndex S23 2 a0 a1) fun t25 =>
  bnd (aLd true 2 S23 t25) fun t26 =>
  bnd (aIndex S23 2 a0 (xs21.headD .any)) fun t27 =>
  bnd (aLd true 2 S23 t27) fun t28 =>
  callK P H22 a4 [t26, t28] fun v29 H30 =>
  Abs.sub S23 H30 ∧
  bnd (aBinN .lss v29 (.int .i64 0)) fun t31 =>
  bnd (aNot t31) fun t32 =>
  cnd t32
  (bnd (aBinN .add (xs21.headD .any) (.int .i64 1)) fun t33 =>
  ∃ n20, n20 < n19 ∧ Shr (I17 n20 [t33]) H30)
  (∃ (I34 : Nat → List V → Heap → Prop) (n35 : Nat), Shr (I34 n35 [(xs15.tail.headD .any)]) H30 ∧
  ∀ n36 xs38 H39, I34 n36 xs38 H39 →
  ∃ S40, Abs.sub S40 H39 ∧
  bnd (aBinN .leq (xs21.headD .any) (xs38.headD .any)) fun t41 =>
  gd t41 true
  (bnd (aIndex S40 2 a0 a1) fun t42 =>
  bnd (aLd true 2 S40 t42) fun t43 =>
  bnd (aIndex S40 2 a0 (xs38.headD .any)) fun t44 =>
  bnd (aLd true 2 S40 t44) fun t45 =>
  callK P H39 a4 [t43, t45] fun v46 H47 =>
  Abs.sub S40 H47 ∧
  bnd (aBinN .lss v46 (.int .i64 0)) fun t48 =>
  cnd t48
  (bnd (aBinN .sub (xs38.headD .any) (.int .i64 1)) fun t49 =>
  ∃ n37, n37 < n36 ∧ Shr (I34 n37 [t49]) H47)
  (bnd (aBinN .gtr (xs21.headD .any) (xs38.headD .any)) fun t50 =>
  cnd t50
  (Ret R (xs21.headD .any) H47)
  (bnd (aIndex H47 2 a0 (xs38.headD .any)) fun t51 =>
  bnd (aLd true 2 H47 t51) fun t52 =>
  bnd (aIndex H47 2 a0 (xs21.headD .any)) fun t53 =>
  bnd (aLd true 2 H47 t53) fun t54 =>
  bnd (aIndex H47 2 a0 (xs21.headD .any)) fun t55 =>
  bnd (aSt 2 H47 t55 t52) fun H56 =>
  bnd (aIndex H56 2 a0 (xs38.headD .any)) fun t57 =>
  bnd (aSt 2 H56 t57 t54) fun H58 =>
  bnd (aBinN .add (xs21.headD .any) (.int .i64 1)) fun t59 =>
  bnd (aBinN .sub (xs38.headD .any) (.int .i64 1)) fun t60 =>
  ∃ n14, n14 < n13 ∧ Shr (I11 n14 [t59, t60]) H58)))
  (bnd (aBinN .gtr (xs21.headD .any) (xs38.headD .any)) fun t61 =>
  cnd t61
  (Ret R (xs21.headD .any) H39)
  (bnd (aIndex H39 2 a0 (xs38.headD .any)) fun t62 =>
  bnd (aLd true 2 H39 t62) fun t63 =>
  bnd (aIndex H39 2 a0 (xs21.headD .any)) fun t64 =>
  bnd (aLd true 2 H39 t64) fun t65 =>
  bnd (aIndex H39 2 a0 (xs21.headD .any)) fun t66 =>
  bnd (aSt 2 H39 t66 t63) fun H67 =>
  bnd (aIndex H67 2 a0 (xs38.headD .any)) fun t68 =>
  bnd (aSt 2 H67 t68 t65) fun H69 =>
  bnd (aBinN .add (xs21.headD .any) (.int .i64 1)) fun t70 =>
  bnd (aBinN .sub (xs38.headD .any) (.int .i64 1)) fun t71 =>
  ∃ n14, n14 < n13 ∧ Shr (I11 n14 [t70, t71]) H69))))
  (∃ (I72 : Nat → List V → Heap → Prop) (n73 : Nat), Shr (I72 n73 [(xs15.tail.headD .any)]) H22 ∧
  ∀ n74 xs76 H77, I72 n74 xs76 H77 →
  ∃ S78, Abs.sub S78 H77 ∧
  bnd (aBinN .leq (xs21.headD .any) (xs76.headD .any)) fun t79 =>
  gd t79 true
  (bnd (aIndex S78 2 a0 a1) fun t80 =>
  bnd (aLd true 2 S78 t80) fun t81 =>
  bnd (aIndex S78 2 a0 (xs76.headD .any)) fun t82 =>
  bnd (aLd true 2 S78 t82) fun t83 =>
  callK P H77 a4 [t81, t83] fun v84 H85 =>
  Abs.sub S78 H85 ∧
  bnd (aBinN .lss v84 (.int .i64 0)) fun t86 =>
  cnd t86
  (bnd (aBinN .sub (xs76.headD .any) (.int .i64 1)) fun t87 =>
  ∃ n75, n75 < n74 ∧ Shr (I72 n75 [t87]) H85)
  (bnd (aBinN .gtr (xs21.headD .any) (xs76.headD .any)) fun t88 =>
  cnd t88
  (Ret R (xs21.headD .any) H85)
  (bnd (aIndex H85 2 a0 (xs76.headD .any)) fun t89 =>
  bnd (aLd true 2 H85 t89) fun t90 =>
  bnd (aIndex H85 2 a0 (xs21.headD .any)) fun t91 =>
  bnd (aLd true 2 H85 t91) fun t92 =>
  bnd (aIndex H85 2 a0 (xs21.headD .any)) fun t93 =>
  bnd (aSt 2 H85 t93 t90) fun H94 =>
  bnd (aIndex H94 2 a0 (xs76.headD .any)) fun t95 =>
  bnd (aSt 2 H94 t95 t92) fun H96 =>
  bnd (aBinN .add (xs21.headD .any) (.int .i64 1)) fun t97 =>
  bnd (aBinN .sub (xs76.headD .any) (.int .i64 1)) fun t98 =>
  ∃ n14, n14 < n13 ∧ Shr (I11 n14 [t97, t98]) H96)))
  (bnd (aBinN .gtr (xs21.headD .any) (xs76.headD .any)) fun t99 =>
  cnd t99
  (Ret R (xs21.headD .any) H77)
  (bnd (aIndex H77 2 a0 (xs76.headD .any)) fun t100 =>
  bnd (aLd true 2 H77 t100) fun t101 =>
  bnd (aIndex H77 2 a0 (xs21.headD .any)) fun t102 =>
  bnd (aLd true 2 H77 t102) fun t103 =>
  bnd (aIndex H77 2 a0 (xs21.headD .any)) fun t104 =>
  bnd (aSt 2 H77 t104 t101) fun H105 =>
  bnd (aIndex H105 2 a0 (xs76.headD .any)) fun t106 =>
  bnd (aSt 2 H105 t106 t103) fun H107 =>
  bnd (aBinN .add (xs21.headD .any) (.int .i64 1)) fun t108 =>
  bnd (aBinN .sub (xs76.headD .any) (.int .i64 1)) fun t109 =>
  ∃ n14, n14 < n13 ∧ Shr (I11 n14 [t108, t109]) H107)))
theorem W_slices_partitionEqualCmpFunc_i_Prefix {R : V → Heap → Prop} {a0 a1 a2 a3 a4 : V} {H : Heap} (h : F_slices_partitionEqualCmpFunc_i_Prefix R a0 a1 a2 a3 a4 H) : ACalls P n_slices_partitionEqualCmpFunc_i_Prefix [a0, a1, a2, a3, a4] H R :=
  acalls_of_form (g := ⟨[], []⟩) (x := (.seq .leaf (.seq (.drawh [0, 1, 2, 3, 4, 5, 6, 7, 8, 9, 10, 11, 12, 13, 14, 15]) (.seq .leaf (.seq (.block (.loop [11, 12] (.block (.seq (.block (.loop [11] (.seq (.seq (.draw [0, 1, 2, 3, 4, 5, 6, 7, 8, 9, 10, 11, 12, 13, 14, 15, 16]) (.cond .leaf .leaf)) (.block .leaf)))) (.seq (.block (.loop [12] (.seq (.seq (.draw [0, 1, 2, 3, 4, 5, 6, 7, 8, 9, 10, 11, 12, 13, 14, 15]) (.cond .leaf .leaf)) (.block .leaf)))) (.seq (.seq .leaf (.cond .leaf .leaf)) (.seq (.drawh [0, 1, 2, 3, 4, 5, 6, 7, 8, 9, 10, 11, 12, 13, 14, 15]) (.seq .leaf .leaf)))))))) (.seq .leaf .leaf)))))) Tryz.func174 (by kernel_rfl) (by kernel_rfl) (by kernel_rfl) (by kernel_rfl : F_slices_partitionEqualCmpFunc_i_Prefix R a0 a1 a2 a3 a4 H = _) h
def F_slices_partitionCmpFunc_i_Prefix (R : V → Heap → Prop) (a0 a1 a2 a3 a4 : V) (H : Heap) : Prop :=
  bnd (aIndex H 2 a0 a3) fun t1 =>
  bnd (aLd true 2 H t1) fun t2 =>
  bnd (aIndex H 2 a0 a1) fun t3 =>
  bnd (aLd true 2 H t3) fun t4 =>
  bnd (aIndex H 2 a0 a1) fun t5 =>
  bnd (aSt 2 H t5 t2) fun H6 =>
  bnd (aIndex H6 2 a0 a3) fun t7 =>
  bnd (aSt 2 H6 t7 t4) fun H8 =>
  bnd (aBinN .add a1 (.int .i64 1)) fun t9 =>
  bnd (aBinN .sub a2 (.int .i64 1)) fun t10 =>
  ∃ (I11 : Nat → List V → Heap → Prop) (n12 : Nat), Shr (I11 n12 [t9]) H8 ∧
  ∀ n13 xs15 H16, I11 n13 xs15 H16 →
  ∃ S17, Abs.sub S17 H16 ∧
  bnd (aBinN .leq (xs15.headD .any) t10) fun t18 =>
  gd t18 true
  (bnd (aIndex S17 2 a0 (xs15.headD .any)) fun t19 =>
  bnd (aLd true 2 S17 t19) fun t20 =>
  bnd (aIndex S17 2 a0 a1) fun t21 =>
  bnd (aLd true 2 S17 t21) fun t22 =>
  callK P H16 a4 [t20, t22] fun v23 H24 =>
  Abs.sub S17 H24 ∧
  bnd (aBinN .lss v23 (.int .i64 0)) fun t25 =>
  cnd t25
  (bnd (aBinN .add (xs15.headD .any) (.int .i64 1)) fun t26 =>
  ∃ n14, n14 < n13 ∧ Shr (I11 n14 [t26]) H24)
  (∃ (I27 : Nat → List V → Heap → Prop) (n28 : Nat), Shr (I27 n28 [t10]) H24 ∧
  ∀ n29 xs31 H32, I27 n29 xs31 H32 →
  ∃ S33, Abs.sub S33 H32 ∧
  bnd (aBinN .leq (xs15.headD .any) (xs31.headD .any)) fun t34 =>
  gd t34 true
  (bnd (aIndex S33 2 a0 (xs31.headD .any)) fun t35 =>
  bnd (aLd true 2 S33 t35) fun t36 =>
  bnd (aIndex S33 2 a0 a1) fun t37 =>
  bnd (aLd true 2 S33 t37) fun t38 =>
  callK P H32 a4 [t36, t38] fun v39 H40 =>
  Abs.sub S33 H40 ∧
  bnd (aBinN .lss v39 (.int .i64 0)) fun t41 =>
  bnd (aNot t41) fun t42 =>
  cnd t42
  (bnd (aBinN .sub (xs31.headD .any) (.int .i64 1)) fun t43 =>
  ∃ n30, n30 < n29 ∧ Shr (I27 n30 [t43]) H40)
  (bnd (aBinN .gtr (xs15.headD .any) (xs31.headD .any)) fun t44 =>
  cnd t44
  (bnd (aIndex H40 2 a0 a1) fun t45 =>
  bnd (aLd true 2 H40 t45) fun t46 =>
  bnd (aIndex H40 2 a0 (xs31.headD .any)) fun t47 =>
  bnd (aLd true 2 H40 t47) fun t48 =>
  bnd (aIndex H40 2 a0 (xs31.headD .any)) fun t49 =>
  bnd (aSt 2 H40 t49 t46) fun H50 =>
  bnd (aIndex H50 2 a0 a1) fun t51 =>
  bnd (aSt 2 H50 t51 t48) fun H52 =>
  Ret R (.tup [(xs31.headD .any), (.bool true)]) H52)
  (bnd (aIndex H40 2 a0 (xs31.headD .any)) fun t53 =>
  bnd (aLd true 2 H40 t53) fun t54 =>
  bnd (aIndex H40 2 a0 (xs15.headD .any)) fun t55 =>
  bnd (aLd true 2 H40 t55) fun t56 =>
  bnd (aIndex H40 2 a0 (xs15.headD .any)) fun t57 =>
  bnd (aSt 2 H40 t57 t54) fun H58 =>
  bnd (aIndex H58 2 a0 (xs31.headD .any)) fun t59 =>
  bnd (aSt 2 H58 t59 t56) fun H60 =>
  bnd (aBinN .add (xs15.headD .any) (.int .i64 1)) fun t61 =>
  bnd (aBinN .sub (xs31.headD .any) (.int .i64 1)) fun t62 =>
  ∃ (I63 : Nat → List V → Heap → Prop) (n64 : Nat), Shr (I63 n64 [t61, t62]) H60 ∧
  ∀ n65 xs67 H68, I63 n65 xs67 H68 →
  ∃ (I69 : Nat → List V → Heap → Prop) (n70 : Nat), Shr (I69 n70 [(xs67.headD .any)]) H68 ∧
  ∀ n71 xs73 H74, I69 n71 xs73 H74 →
  ∃ S75, Abs.sub S75 H74 ∧
  bnd (aBinN .leq (xs73.headD .any) (xs67.tail.headD .any)) fun t76 =>
  gd t76 true
  (bnd (aIndex S75 2 a0 (xs73.headD .any)) fun t77 =>
  bnd (aLd true 2 S75 t77) fun t78 =>
  bnd (aIndex S75 2 a0 a1) fun t79 =>
  bnd (aLd true 2 S75 t79) fun t80 =>
  callK P H74 a4 [t78, t80] fun v81 H82 =>
  Abs.sub S75 H82 ∧
  bnd (aBinN .lss v81 (.int .i64 0)) fun t83 =>
  cnd t83
  (bnd (aBinN .add (xs73.headD .any) (.int .i64 1)) fun t84 =>
  ∃ n72, n72 < n71 ∧ Shr (I69 n72 [t84]) H82)
  (∃ (I85 : Nat → List V → Heap → Prop) (n86 : Nat), Shr (I85 n86 [(xs67.tail.headD .any)]) H82 ∧
  ∀ n87 xs89 H90, I85 n87 xs89 H90 →
  ∃ S91, Abs.sub S91 H90 ∧
  bnd (aBinN .leq (xs73.headD .any) (xs89.headD .any)) fun t92 =>
  gd t92 true
  (bnd (aIndex S91 2 a0 (xs89.headD .any)) fun t93 =>
  bnd (aLd true 2 S91 t93) fun t94 =>
  bnd (aIndex S91 2 a0 a1) fun t95 =>
  bnd (aLd true 2 S91 t95) fun t96 =>
  callK P H90 a4 [t94, t96] fun v97 H98 =>
  Abs.sub S91 H98 ∧
  bnd (aBinN .lss v97 (.int .i64 0)) fun t99 =>
  bnd (aNot t99) fun t100 =>
  cnd t100
  (bnd (aBinN .sub (xs89.headD .any) (.int .i64 1)) fun t101 =>
  ∃ n88, n88 < n87 ∧ Shr (I85 n88 [t101]) H98)
  (bnd (aBinN .gtr (xs73.headD .any) (xs89.headD .any)) fun t102 =>
  cnd t102
  (bnd (aIndex H98 2 a0 a1) fun t103 =>
  bnd (aLd true 2 H98 t103) fun t104 =>
  bnd (aIndex H98 2 a0 (xs89.headD .any)) fun t105 =>
  bnd (aLd true 2 H98 t105) fun t106 =>
  bnd (aIndex H98 2 a0 (xs89.headD .any)) fun t107 =>
  bnd (aSt 2 H98 t107 t104) fun H108 =>
  bnd (aIndex H108 2 a0 a1) fun t109 =>
  bnd (aSt 2 H108 t109 t106) fun H110 =>
  Ret R (.tup [(xs89.headD .any), (.bool false)]) H110)
  (bnd (aIndex H98 2 a0 (xs89.headD .any)) fun t111 =>
  bnd (aLd true 2 H98 t111) fun t112 =>
  bnd (aIndex H98 2 a0 (xs73.headD .any)) fun t113 =>
  bnd (aLd true 2 H98 t113) fun t114 =>
  bnd (aIndex H98 2 a0 (xs73.headD .any)) fun t115 =>
  bnd (aSt 2 H98 t115 t112) fun H116 =>
  bnd (aIndex H116 2 a0 (xs89.headD .any)) fun t117 =>
  bnd (aSt 2 H116 t117 t114) fun H118 =>
  bnd (aBinN .add (xs73.headD .any) (.int .i64 1)) fun t119 =>
  bnd (aBinN .sub (xs89.headD .any) (.int .i64 1)) fun t120 =>
  ∃ n66, n66 < n65 ∧ Shr (I63 n66 [t119, t120]) H118)))
  (bnd (aBinN .gtr (xs73.headD .any) (xs89.headD .any)) fun t121 =>
  cnd t121
  (bnd (aIndex H90 2 a0 a1) fun t122 =>
  bnd (aLd true 2 H90 t122) fun t123 =>
  bnd (aIndex H90 2 a0 (xs89.headD .any)) fun t124 =>
  bnd (aLd true 2 H90 t124) fun t125 =>
  bnd (aIndex H90 2 a0 (xs89.headD .any)) fun t126 =>
  bnd (aSt 2 H90 t126 t123) fun H127 =>
  bnd (aIndex H127 2 a0 a1) fun t128 =>
  bnd (aSt 2 H127 t128 t125) fun H129 =>
  Ret R (.tup [(xs89.headD .any), (.bool false)]) H129)
  (bnd (aIndex H90 2 a0 (xs89.headD .any)) fun t130 =>
  bnd (aLd true 2 H90 t130) fun t131 =>
  bnd (aIndex H90 2 a0 (xs73.headD .any)) fun t132 =>
  bnd (aLd true 2 H90 t132) fun t133 =>
  bnd (aIndex H90 2 a0 (xs73.headD .any)) fun t134 =>
  bnd (aSt 2 H90 t134 t131) fun H135 =>
  bnd (aIndex H135 2 a0 (xs89.headD .any)) fun t136 =>
  bnd (aSt 2 H135 t136 t133) fun H137 =>
  bnd (aBinN .add (xs73.headD .any) (.int .i64 1)) fun t138 =>
  bnd (aBinN .sub (xs89.headD .any) (.int .i64 1)) fun t139 =>
  ∃ n66, n66 < n65 ∧ Shr (I63 n66 [t138, t139]) H137))))
  (∃ (I140 : Nat → List V → Heap → Prop) (n141 : Nat), Shr (I140 n141 [(xs67.tail.headD .any)]) H74 ∧
  ∀ n142 xs144 H145, I140 n142 xs144 H145 →
  ∃ S146, Abs.sub S146 H145 ∧
  bnd (aBinN .leq (xs73.headD .any) (xs144.headD .any)) fun t147 =>
  gd t147 true
  (bnd (aIndex S146 2 a0 (xs144.headD .any)) fun t148 =>
  bnd (aLd true 2 S146 t148) fun t149 =>
  bnd (aIndex S146 2 a0 a1) fun t150 =>
  bnd (aLd true 2 S146 t150) fun t151 =>
  callK P H145 a4 [t149, t151] fun v152 H153 =>
  Abs.sub S146 H153 ∧
  bnd (aBinN .lss v152 (.int .i64 0)) fun t154 =>
  bnd (aNot t154) fun t155 =>
  cnd t155
  (bnd (aBinN .sub (xs144.headD .any) (.int .i64 1)) fun t156 =>
  ∃ n143, n143 < n142 ∧ Shr (I140 n143 [t156]) H153)
  (bnd (aBinN .gtr (xs73.headD .any) (xs144.headD .any)) fun t157 =>
  cnd t157
  (bnd (aIndex H153 2 a0 a1) fun t158 =>
  bnd (aLd true 2 H153 t158) fun t159 =>
  bnd (aIndex H153 2 a0 (xs144.headD .any)) fun t160 =>
  bnd (aLd true 2 H153 t160) fun t161 =>
  bnd (aIndex H153 2 a0 (xs144.headD .any)) fun t162 =>
  bnd (aSt 2 H153 t162 t159) fun H163 =>
  bnd (aIndex H163 2 a0 a1) fun t164 =>
  bnd (aSt 2 H163 t164 t161) fun H165 =>
  Ret R (.tup [(xs144.headD .any), (.bool false)]) H165)
  (bnd (aIndex H153 2 a0 (xs144.headD .any)) fun t166 =>
  bnd (aLd true 2 H153 t166) fun t167 =>
  bnd (aIndex H153 2 a0 (xs73.headD .any)) fun t168 =>
  bnd (aLd true 2 H153 t168) fun t169 =>
  bnd (aIndex H153 2 a0 (xs73.headD .any)) fun t170 =>
  bnd (aSt 2 H153 t170 t167) fun H171 =>
  bnd (aIndex H171 2 a0 (xs144.headD .any)) fun t172 =>
  bnd (aSt 2 H171 t172 t169) fun H173 =>
  bnd (aBinN .add (xs73.headD .any) (.int .i64 1)) fun t174 =>
  bnd (aBinN .sub (xs144.headD .any) (.int .i64 1)) fun t175 =>
  ∃ n66, n66 < n65 ∧ Shr (I63 n66 [t174, t175]) H173)))
  (bnd (aBinN .gtr (xs73.headD .any) (xs144.headD .any)) fun t176 =>
  cnd t176
  (bnd (aIndex H145 2 a0 a1) fun t177 =>
  bnd (aLd true 2 H145 t177) fun t178 =>
  bnd (aIndex H145 2 a0 (xs144.headD .any)) fun t179 =>
  bnd (aLd true 2 H145 t179) fun t180 =>
  bnd (aIndex H145 2 a0 (xs144.headD .any)) fun t181 =>
  bnd (aSt 2 H145 t181 t178) fun H182 =>
  bnd (aIndex H182 2 a0 a1) fun t183 =>
  bnd (aSt 2 H182 t183 t180) fun H184 =>
  Ret R (.tup [(xs144.headD .any), (.bool false)]) H184)
  (bnd (aIndex H145 2 a0 (xs144.headD .any)) fun t185 =>
  bnd (aLd true 2 H145 t185) fun t186 =>
  bnd (aIndex H145 2 a0 (xs73.headD .any)) fun t187 =>
  bnd (aLd true 2 H145 t187) fun t188 =>
  bnd (aIndex H145 2 a0 (xs73.headD .any)) fun t189 =>
  bnd (aSt 2 H145 t189 t186) fun H190 =>
  bnd (aIndex H190 2 a0 (xs144.headD .any)) fun t191 =>
  bnd (aSt 2 H190 t191 t188) fun H192 =>
  bnd (aBinN .add (xs73.headD .any) (.int .i64 1)) fun t193 =>
  bnd (aBinN .sub (xs144.headD .any) (.int .i64 1)) fun t194 =>
  ∃ n66, n66 < n65 ∧ Shr (I63 n66 [t193, t194]) H192))))))
  (bnd (aBinN .gtr (xs15.headD .any) (xs31.headD .any)) fun t195 =>
  cnd t195
  (bnd (aIndex H32 2 a0 a1) fun t196 =>
  bnd (aLd true 2 H32 t196) fun t197 =>
  bnd (aIndex H32 2 a0 (xs31.headD .any)) fun t198 =>
  bnd (aLd true 2 H32 t198) fun t199 =>
  bnd (aIndex H32 2 a0 (xs31.headD .any)) fun t200 =>
  bnd (aSt 2 H32 t200 t197) fun H201 =>
  bnd (aIndex H201 2 a0 a1) fun t202 =>
  bnd (aSt 2 H201 t202 t199) fun H203 =>
  Ret R (.tup [(xs31.headD .any), (.bool true)]) H203)
  (bnd (aIndex H32 2 a0 (xs31.headD .any)) fun t204 =>
  bnd (aLd true 2 H32 t204) fun t205 =>
  bnd (aIndex H32 2 a0 (xs15.headD .any)) fun t206 =>
  bnd (aLd true 2 H32 t206) fun t207 =>
  bnd (aIndex H32 2 a0 (xs15.headD .any)) fun t208 =>
  bnd (aSt 2 H32 t208 t205) fun H209 =>
  bnd (aIndex H209 2 a0 (xs31.headD .any)) fun t210 =>
  bnd (aSt 2 H209 t210 t207) fun H211 =>
  bnd (aBinN .add (xs15.headD .any) (.int .i64 1)) fun t212 =>
  bnd (aBinN .sub (xs31.headD .any) (.int .i64 1)) fun t213 =>
  ∃ (I214 : Nat → List V → Heap → Prop) (n215 : Nat), Shr (I214 n215 [t212, t213]) H211 ∧
  ∀ n216 xs218 H219, I214 n216 xs218 H219 →
  ∃ (I220 : Nat → List V → Heap → Prop) (n221 : Nat), Shr (I220 n221 [(xs218.headD .any)]) H219 ∧
  ∀ n222 xs224 H225, I220 n222 xs224 H225 →
  ∃ S226, Abs.sub S226 H225 ∧
  bnd (aBinN .leq (xs224.headD .any) (xs218.tail.headD .any)) fun t227 =>
  gd t227 true
  (bnd (aIndex S226 2 a0 (xs224.headD .any)) fun t228 =>
  bnd (aLd true 2 S226 t228) fun t229 =>
  bnd (aIndex S226 2 a0 a1) fun t230 =>
  bnd (aLd true 2 S226 t230) fun t231 =>
  callK P H225 a4 [t229, t231] fun v232 H233 =>
  Abs.sub S226 H233 ∧
  bnd (aBinN .lss v232 (.int .i64 0)) fun t234 =>
  cnd t234
  (bnd (aBinN .add (xs224.headD .any) (.int .i64 1)) fun t235 =>
  ∃ n223, n223 < n222 ∧ Shr (I220 n223 [t235]) H233)
  (∃ (I236 : Nat → List V → Heap → Prop) (n237 : Nat), Shr (I236 n237 [(xs218.tail.headD .any)]) H233 ∧
  ∀ n238 xs240 H241, I236 n238 xs240 H241 →
  ∃ S242, Abs.sub S242 H241 ∧
  bnd (aBinN .leq (xs224.headD .any) (xs240.headD .any)) fun t243 =>
  gd t243 true
  (bnd (aIndex S242 2 a0 (xs240.headD .any)) fun t244 =>
  bnd (aLd true 2 S242 t244) fun t245 =>
  bnd (aIndex S242 2 a0 a1) fun t246 =>
  bnd (aLd true 2 S242 t246) fun t247 =>
  callK P H241 a4 [t245, t247] fun v248 H249 =>
  Abs.sub S242 H249 ∧
  bnd (aBinN .lss v248 (.int .i64 0)) fun t250 =>
  bnd (aNot t250) fun t251 =>
  cnd t251
  (bnd (aBinN .sub (xs240.headD .any) (.int .i64 1)) fun t252 =>
  ∃ n239, n239 < n238 ∧ Shr (I236 n239 [t252]) H249)
  (bnd (aBinN .gtr (xs224.headD .any) (xs240.headD .any)) fun t253 =>
  cnd t253
  (bnd (aIndex H249 2 a0 a1) fun t254 =>
  bnd (aLd true 2 H249 t254) fun t255 =>
  bnd (aIndex H249 2 a0 (xs240.headD .any)) fun t256 =>
  bnd (aLd true 2 H249 t256) fun t257 =>
  bnd (aIndex H249 2 a0 (xs240.headD .any)) fun t258 =>
  bnd (aSt 2 H249 t258 t255) fun H259 =>
  bnd (aIndex H259 2 a0 a1) fun t260 =>
  bnd (aSt 2 H259 t260 t257) fun H261 =>
  Ret R (.tup [(xs240.headD .any), (.bool false)]) H261)
  (bnd (aIndex H249 2 a0 (xs240.headD .any)) fun t262 =>
  bnd (aLd true 2 H249 t262) fun t263 =>
  bnd (aIndex H249 2 a0 (xs224.headD .any)) fun t264 =>
  bnd (aLd true 2 H249 t264) fun t265 =>
  bnd (aIndex H249 2 a0 (xs224.headD .any)) fun t266 =>
  bnd (aSt 2 H249 t266 t263) fun H267 =>
  bnd (aIndex H267 2 a0 (xs240.headD .any)) fun t268 =>
  bnd (aSt 2 H267 t268 t265) fun H269 =>
  bnd (aBinN .add (xs224.headD .any) (.int .i64 1)) fun t270 =>
  bnd (aBinN .sub (xs240.headD .any) (.int .i64 1)) fun t271 =>
  ∃ n217, n217 < n216 ∧ Shr (I214 n217 [t270, t271]) H269)))
  (bnd (aBinN .gtr (xs224.headD .any) (xs240.headD .any)) fun t272 =>
  cnd t272
  (bnd (aIndex H241 2 a0 a1) fun t273 =>
  bnd (aLd true 2 H241 t273) fun t274 =>
  bnd (aIndex H241 2 a0 (xs240.headD .any)) fun t275 =>
  bnd (aLd true 2 H241 t275) fun t276 =>
  bnd (aIndex H241 2 a0 (xs240.headD .any)) fun t277 =>
  bnd (aSt 2 H241 t277 t274) fun H278 =>
  bnd (aIndex H278 2 a0 a1) fun t279 =>
  bnd (aSt 2 H278 t279 t276) fun H280 =>
  Ret R (.tup [(xs240.headD .any), (.bool false)]) H280)
  (bnd (aIndex H241 2 a0 (xs240.headD .any)) fun t281 =>
  bnd (aLd true 2 H241 t281) fun t282 =>
  bnd (aIndex H241 2 a0 (xs224.headD .any)) fun t283 =>
  bnd (aLd true 2 H241 t283) fun t284 =>
  bnd (aIndex H241 2 a0 (xs224.headD .any)) fun t285 =>
  bnd (aSt 2 H241 t285 t282) fun H286 =>
  bnd (aIndex H286 2 a0 (xs240.headD .any)) fun t287 =>
  bnd (aSt 2 H286 t287 t284) fun H288 =>
  bnd (aBinN .add (xs224.headD .any) (.int .i64 1)) fun t289 =>
  bnd (aBinN .sub (xs240.headD .any) (.int .i64 1)) fun t290 =>
  ∃ n217, n217 < n216 ∧ Shr (I214 n217 [t289, t290]) H288))))
  (∃ (I291 : Nat → List V → Heap → Prop) (n292 : Nat), Shr (I291 n292 [(xs218.tail.headD .any)]) H225 ∧
  ∀ n293 xs295 H296, I291 n293 xs295 H296 →
  ∃ S297, Abs.sub S297 H296 ∧
  bnd (aBinN .leq (xs224.headD .any) (xs295.headD .any)) fun t298 =>
  gd t298 true
  (bnd (aIndex S297 2 a0 (xs295.headD .any)) fun t299 =>
  bnd (aLd true 2 S297 t299) fun t300 =>
  bnd (aIndex S297 2 a0 a1) fun t301 =>
  bnd (aLd true 2 S297 t301) fun t302 =>
  callK P H296 a4 [t300, t302] fun v303 H304 =>
  Abs.sub S297 H304 ∧
  bnd (aBinN .lss v303 (.int .i64 0)) fun t305 =>
  bnd (aNot t305) fun t306 =>
  cnd t306
  (bnd (aBinN .sub (xs295.headD .any) (.int .i64 1)) fun t307 =>
  ∃ n294, n294 < n293 ∧ Shr (I291 n294 [t307]) H304)
  (bnd (aBinN .gtr (xs224.headD .any) (xs295.headD .any)) fun t308 =>
  cnd t308
  (bnd (aIndex H304 2 a0 a1) fun t309 =>
  bnd (aLd true 2 H304 t309) fun t310 =>
  bnd (aIndex H304 2 a0 (xs295.headD .any)) fun t311 =>
  bnd (aLd true 2 H304 t311) fun t312 =>
  bnd (aIndex H304 2 a0 (xs295.headD .any)) fun t313 =>
  bnd (aSt 2 H304 t313 t310) fun H314 =>
  bnd (aIndex H314 2 a0 a1) fun t315 =>
  bnd (aSt 2 H314 t315 t312) fun H316 =>
  Ret R (.tup [(xs295.headD .any), (.bool false)]) H316)
  (bnd (aIndex H304 2 a0 (xs295.headD .any)) fun t317 =>
  bnd (aLd true 2 H304 t317) fun t318 =>
  bnd (aIndex H304 2 a0 (xs224.headD .any)) fun t319 =>
  bnd (aLd true 2 H304 t319) fun t320 =>
  bnd (aIndex H304 2 a0 (xs224.headD .any)) fun t321 =>
  bnd (aSt 2 H304 t321 t318) fun H322 =>
  bnd (aIndex H322 2 a0 (xs295.headD .any)) fun t323 =>
  bnd (aSt 2 H322 t323 t320) fun H324 =>
  bnd (aBinN .add (xs224.headD .any) (.int .i64 1)) fun t325 =>
  bnd (aBinN .sub (xs295.headD .any) (.int .i64 1)) fun t326 =>
  ∃ n217, n217 < n216 ∧ Shr (I214 n217 [t325, t326]) H324)))
  (bnd (aBinN .gtr (xs224.headD .any) (xs295.headD .any)) fun t327 =>
  cnd t327
  (bnd (aIndex H296 2 a0 a1) fun t328 =>
  bnd (aLd true 2 H296 t328) fun t329 =>
  bnd (aIndex H296 2 a0 (xs295.headD .any)) fun t330 =>
  bnd (aLd true 2 H296 t330) fun t331 =>
  bnd (aIndex H296 2 a0 (xs295.headD .any)) fun t332 =>
  bnd (aSt 2 H296 t332 t329) fun H333 =>
  bnd (aIndex H333 2 a0 a1) fun t334 =>
  bnd (aSt 2 H333 t334 t331) fun H335 =>
  Ret R (.tup [(xs295.headD .any), (.bool false)]) H335)
  (bnd (aIndex H296 2 a0 (xs295.headD .any)) fun t336 =>
  bnd (aLd true 2 H296 t336) fun t337 =>
  bnd (aIndex H296 2 a0 (xs224.headD .any)) fun t338 =>
  bnd (aLd true 2 H296 t338) fun t339 =>
  bnd (aIndex H296 2 a0 (xs224.headD .any)) fun t340 =>
  bnd (aSt 2 H296 t340 t337) fun H341 =>
  bnd (aIndex H341 2 a0 (xs295.headD .any)) fun t342 =>
  bnd (aSt 2 H341 t342 t339) fun H343 =>
  bnd (aBinN .add (xs224.headD .any) (.int .i64 1)) fun t344 =>
  bnd (aBinN .sub (xs295.headD .any) (.int .i64 1)) fun t345 =>
  ∃ n217, n217 < n216 ∧ Shr (I214 n217 [t344, t345]) H343)))))))
  (∃ (I346 : Nat → List V → Heap → Prop) (n347 : Nat), Shr (I346 n347 [t10]) H16 ∧
  ∀ n348 xs350 H351, I346 n348 xs350 H351 →
  ∃ S352, Abs.sub S352 H351 ∧
  bnd (aBinN .leq (xs15.headD .any) (xs350.headD .any)) fun t353 =>
  gd t353 true
  (bnd (aIndex S352 2 a0 (xs350.headD .any)) fun t354 =>
  bnd (aLd true 2 S352 t354) fun t355 =>
  bnd (aIndex S352 2 a0 a1) fun t356 =>
  bnd (aLd true 2 S352 t356) fun t357 =>
  callK P H351 a4 [t355, t357] fun v358 H359 =>
  Abs.sub S352 H359 ∧
  bnd (aBinN .lss v358 (.int .i64 0)) fun t360 =>
  bnd (aNot t360) fun t361 =>
  cnd t361
  (bnd (aBinN .sub (xs350.headD .any) (.int .i64 1)) fun t362 =>
  ∃ n349, n349 < n348 ∧ Shr (I346 n349 [t362]) H359)
  (bnd (aBinN .gtr (xs15.headD .any) (xs350.headD .any)) fun t363 =>
  cnd t363
  (bnd (aIndex H359 2 a0 a1) fun t364 =>
  bnd (aLd true 2 H359 t364) fun t365 =>
  bnd (aIndex H359 2 a0 (xs350.headD .any)) fun t366 =>
  bnd (aLd true 2 H359 t366) fun t367 =>
  bnd (aIndex H359 2 a0 (xs350.headD .any)) fun t368 =>
  bnd (aSt 2 H359 t368 t365) fun H369 =>
  bnd (aIndex H369 2 a0 a1) fun t370 =>
  bnd (aSt 2 H369 t370 t367) fun H371 =>
  Ret R (.tup [(xs350.headD .any), (.bool true)]) H371)
  (bnd (aIndex H359 2 a0 (xs350.headD .any)) fun t372 =>
  bnd (aLd true 2 H359 t372) fun t373 =>
  bnd (aIndex H359 2 a0 (xs15.headD .any)) fun t374 =>
  bnd (aLd true 2 H359 t374) fun t375 =>
  bnd (aIndex H359 2 a0 (xs15.headD .any)) fun t376 =>
  bnd (aSt 2 H359 t376 t373) fun H377 =>
  bnd (aIndex H377 2 a0 (xs350.headD .any)) fun t378 =>
  bnd (aSt 2 H377 t378 t375) fun H379 =>
  bnd (aBinN .add (xs15.headD .any) (.int .i64 1)) fun t380 =>
  bnd (aBinN .sub (xs350.headD .any) (.int .i64 1)) fun t381 =>
  ∃ (I382 : Nat → List V → Heap → Prop) (n383 : Nat), Shr (I382 n383 [t380, t381]) H379 ∧
  ∀ n384 xs386 H387, I382 n384 xs386 H387 →
  ∃ (I388 : Nat → List V → Heap → Prop) (n389 : Nat), Shr (I388 n389 [(xs386.headD .any)]) H387 ∧
  ∀ n390 xs392 H393, I388 n390 xs392 H393 →
  ∃ S394, Abs.sub S394 H393 ∧
  bnd (aBinN .leq (xs392.headD .any) (xs386.tail.headD .any)) fun t395 =>
  gd t395 true
  (bnd (aIndex S394 2 a0 (xs392.headD .any)) fun t396 =>
  bnd (aLd true 2 S394 t396) fun t397 =>
  bnd (aIndex S394 2 a0 a1) fun t398 =>
  bnd (aLd true 2 S394 t398) fun t399 =>
  callK P H393 a4 [t397, t399] fun v400 H401 =>
  Abs.sub S394 H401 ∧
  bnd (aBinN .lss v400 (.int .i64 0)) fun t402 =>
  cnd t402
  (bnd (aBinN .add (xs392.headD .any) (.int .i64 1)) fun t403 =>
  ∃ n391, n391 < n390 ∧ Shr (I388 n391 [t403]) H401)
  (∃ (I404 : Nat → List V → Heap → Prop) (n405 : Nat), Shr (I404 n405 [(xs386.tail.headD .any)]) H401 ∧
  ∀ n406 xs408 H409, I404 n406 xs408 H409 →
  ∃ S410, Abs.sub S410 H409 ∧
  bnd (aBinN .leq (xs392.headD .any) (xs408.headD .any)) fun t411 =>
  gd t411 true
  (bnd (aIndex S410 2 a0 (xs408.headD .any)) fun t412 =>
  bnd (aLd true 2 S410 t412) fun t413 =>
  bnd (aIndex S410 2 a0 a1) fun t414 =>
  bnd (aLd true 2 S410 t414) fun t415 =>
  callK P H409 a4 [t413, t415] fun v416 H417 =>
  Abs.sub S410 H417 ∧
  bnd (aBinN .lss v416 (.int .i64 0)) fun t418 =>
  bnd (aNot t418) fun t419 =>
  cnd t419
  (bnd (aBinN .sub (xs408.headD .any) (.int .i64 1)) fun t420 =>
  ∃ n407, n407 < n406 ∧ Shr (I404 n407 [t420]) H417)
  (bnd (aBinN .gtr (xs392.headD .any) (xs408.headD .any)) fun t421 =>
  cnd t421
  (bnd (aIndex H417 2 a0 a1) fun t422 =>
  bnd (aLd true 2 H417 t422) fun t423 =>
  bnd (aIndex H417 2 a0 (xs408.headD .any)) fun t424 =>
  bnd (aLd true 2 H417 t424) fun t425 =>
  bnd (aIndex H417 2 a0 (xs408.headD .any)) fun t426 =>
  bnd (aSt 2 H417 t426 t423) fun H427 =>
  bnd (aIndex H427 2 a0 a1) fun t428 =>
  bnd (aSt 2 H427 t428 t425) fun H429 =>
  Ret R (.tup [(xs408.headD .any), (.bool false)]) H429)
  (bnd (aIndex H417 2 a0 (xs408.headD .any)) fun t430 =>
  bnd (aLd true 2 H417 t430) fun t431 =>
  bnd (aIndex H417 2 a0 (xs392.headD .any)) fun t432 =>
  bnd (aLd true 2 H417 t432) fun t433 =>
  bnd (aIndex H417 2 a0 (xs392.headD .any)) fun t434 =>
  bnd (aSt 2 H417 t434 t431) fun H435 =>
  bnd (aIndex H435 2 a0 (xs408.headD .any)) fun t436 =>
  bnd (aSt 2 H435 t436 t433) fun H437 =>
  bnd (aBinN .add (xs392.headD .any) (.int .i64 1)) fun t438 =>
  bnd (aBinN .sub (xs408.headD .any) (.int .i64 1)) fun t439 =>
  ∃ n385, n385 < n384 ∧ Shr (I382 n385 [t438, t439]) H437)))
  (bnd (aBinN .gtr (xs392.headD .any) (xs408.headD .any)) fun t440 =>
  cnd t440
  (bnd (aIndex H409 2 a0 a1) fun t441 =>
  bnd (aLd true 2 H409 t441) fun t442 =>
  bnd (aIndex H409 2 a0 (xs408.headD .any)) fun t443 =>
  bnd (aLd true 2 H409 t443) fun t444 =>
  bnd (aIndex H409 2 a0 (xs408.headD .any)) fun t445 =>
  bnd (aSt 2 H409 t445 t442) fun H446 =>
  bnd (aIndex H446 2 a0 a1) fun t447 =>
  bnd (aSt 2 H446 t447 t444) fun H448 =>
  Ret R (.tup [(xs408.headD .any), (.bool false)]) H448)
  (bnd (aIndex H409 2 a0 (xs408.headD .any)) fun t449 =>
  bnd (aLd true 2 H409 t449) fun t450 =>
  bnd (aIndex H409 2 a0 (xs392.headD .any)) fun t451 =>
  bnd (aLd true 2 H409 t451) fun t452 =>
  bnd (aIndex H409 2 a0 (xs392.headD .any)) fun t453 =>
  bnd (aSt 2 H409 t453 t450) fun H454 =>
  bnd (aIndex H454 2 a0 (xs408.headD .any)) fun t455 =>
  bnd (aSt 2 H454 t455 t452) fun H456 =>
  bnd (aBinN .add (xs392.headD .any) (.int .i64 1)) fun t457 =>
  bnd (aBinN .sub (xs408.headD .any) (.int .i64 1)) fun t458 =>
  ∃ n385, n385 < n384 ∧ Shr (I382 n385 [t457, t458]) H456))))
  (∃ (I459 : Nat → List V → Heap → Prop) (n460 : Nat), Shr (I459 n460 [(xs386.tail.headD .any)]) H393 ∧
  ∀ n461 xs463 H464, I459 n461 xs463 H464 →
  ∃ S465, Abs.sub S465 H464 ∧
  bnd (aBinN .leq (xs392.headD .any) (xs463.headD .any)) fun t466 =>
  gd t466 true
  (bnd (aIndex S465 2 a0 (xs463.headD .any)) fun t467 =>
  bnd (aLd true 2 S465 t467) fun t468 =>
  bnd (aIndex S465 2 a0 a1) fun t469 =>
  bnd (aLd true 2 S465 t469) fun t470 =>
  callK P H464 a4 [t468, t470] fun v471 H472 =>
  Abs.sub S465 H472 ∧
  bnd (aBinN .lss v471 (.int .i64 0)) fun t473 =>
  bnd (aNot t473) fun t474 =>
  cnd t474
  (bnd (aBinN .sub (xs463.headD .any) (.int .i64 1)) fun t475 =>
  ∃ n462, n462 < n461 ∧ Shr (I459 n462 [t475]) H472)
  (bnd (aBinN .gtr (xs392.headD .any) (xs463.headD .any)) fun t476 =>
  cnd t476
  (bnd (aIndex H472 2 a0 a1) fun t477 =>
  bnd (aLd true 2 H472 t477) fun t478 =>
  bnd (aIndex H472 2 a0 (xs463.headD .any)) fun t479 =>
  bnd (aLd true 2 H472 t479) fun t480 =>
  bnd (aIndex H472 2 a0 (xs463.headD .any)) fun t481 =>
  bnd (aSt 2 H472 t481 t478) fun H482 =>
  bnd (aIndex H482 2 a0 a1) fun t483 =>
  bnd (aSt 2 H482 t483 t480) fun H484 =>
  Ret R (.tup [(xs463.headD .any), (.bool false)]) H484)
  (bnd (aIndex H472 2 a0 (xs463.headD .any)) fun t485 =>
  bnd (aLd true 2 H472 t485) fun t486 =>
  bnd (aIndex H472 2 a0 (xs392.headD .any)) fun t487 =>
  bnd (aLd true 2 H472 t487) fun t488 =>
  bnd (aIndex H472 2 a0 (xs392.headD .any)) fun t489 =>
  bnd (aSt 2 H472 t489 t486) fun H490 =>
  bnd (aIndex H490 2 a0 (xs463.headD .any)) fun t491 =>
  bnd (aSt 2 H490 t491 t488) fun H492 =>
  bnd (aBinN .add (xs392.headD .any) (.int .i64 1)) fun t493 =>
  bnd (aBinN .sub (xs463.headD .any) (.int .i64 1)) fun t494 =>
  ∃ n385, n385 < n384 ∧ Shr (I382 n385 [t493, t494]) H492)))
  (bnd (aBinN .gtr (xs392.headD .any) (xs463.headD .any)) fun t495 =>
  cnd t495
  (bnd (aIndex H464 2 a0 a1) fun t496 =>
  bnd (aLd true 2 H464 t496) fun t497 =>
  bnd (aIndex H464 2 a0 (xs463.headD .any)) fun t498 =>
  bnd (aLd true 2 H464 t498) fun t499 =>
  bnd (aIndex H464 2 a0 (xs463.headD .any)) fun t500 =>
  bnd (aSt 2 H464 t500 t497) fun H501 =>
  bnd (aIndex H501 2 a0 a1) fun t502 =>
  bnd (aSt 2 H501 t502 t499) fun H503 =>
  Ret R (.tup [(xs463.headD .any), (.bool false)]) H503)
  (bnd (aIndex H464 2 a0 (xs463.headD .any)) fun t504 =>
  bnd (aLd true 2 H464 t504) fun t505 =>
  bnd (aIndex H464 2 a0 (xs392.headD .any)) fun t506 =>
  bnd (aLd true 2 H464 t506) fun t507 =>
  bnd (aIndex H464 2 a0 (xs392.headD .any)) fun t508 =>
  bnd (aSt 2 H464 t508 t505) fun H509 =>
  bnd (aIndex H509 2 a0 (xs463.headD .any)) fun t510 =>
  bnd (aSt 2 H509 t510 t507) fun H511 =>
  bnd (aBinN .add (xs392.headD .any) (.int .i64 1)) fun t512 =>
  bnd (aBinN .sub (xs463.headD .any) (.int .i64 1)) fun t513 =>
  ∃ n385, n385 < n384 ∧ Shr (I382 n385 [t512, t513]) H511))))))
  (bnd (aBinN .gtr (xs15.headD .any) (xs350.headD .any)) fun t514 =>
  cnd t514
  (bnd (aIndex H351 2 a0 a1) fun t515 =>
  bnd (aLd true 2 H351 t515) fun t516 =>
  bnd (aIndex H351 2 a0 (xs350.headD .any)) fun t517 =>
  bnd (aLd true 2 H351 t517) fun t518 =>
  bnd (aIndex H351 2 a0 (xs350.headD .any)) fun t519 =>
  bnd (aSt 2 H351 t519 t516) fun H520 =>
  bnd (aIndex H520 2 a0 a1) fun t521 =>
  bnd (aSt 2 H520 t521 t518) fun H522 =>
  Ret R (.tup [(xs350.headD .any), (.bool true)]) H522)
  (bnd (aIndex H351 2 a0 (xs350.headD .any)) fun t523 =>
  bnd (aLd true 2 H351 t523) fun t524 =>
  bnd (aIndex H351 2 a0 (xs15.headD .any)) fun t525 =>
  bnd (aLd true 2 H351 t525) fun t526 =>
  bnd (aIndex H351 2 a0 (xs15.headD .any)) fun t527 =>
  bnd (aSt 2 H351 t527 t524) fun H528 =>
  bnd (aIndex H528 2 a0 (xs350.headD .any)) fun t529 =>
  bnd (aSt 2 H528 t529 t526) fun H530 =>
  bnd (aBinN .add (xs15.headD .any) (.int .i64 1)) fun t531 =>
  bnd (aBinN .sub (xs350.headD .any) (.int .i64 1)) fun t532 =>
  ∃ (I533 : Nat → List V → Heap → Prop) (n534 : Nat), Shr (I533 n534 [t531, t532]) H530 ∧
  ∀ n535 xs537 H538, I533 n535 xs537 H538 →
  ∃ (I539 : Nat → List V → Heap → Prop) (n540 : Nat), Shr (I539 n540 [(xs537.headD .any)]) H538 ∧
  ∀ n541 xs543 H544, I539 n541 xs543 H544 →
  ∃ S545, Abs.sub S545 H544 ∧
  bnd (aBinN .leq (xs543.headD .any) (xs537.tail.headD .any)) fun t546 =>
  gd t546 true
  (bnd (aIndex S545 2 a0 (xs543.headD .any)) fun t547 =>
  bnd (aLd true 2 S545 t547) fun t548 =>
  bnd (aIndex S545 2 a0 a1) fun t549 =>
  bnd (aLd true 2 S545 t549) fun t550 =>
  callK P H544 a4 [t548, t550] fun v551 H552 =>
  Abs.sub S545 H552 ∧
  bnd (aBinN .lss v551 (.int .i64 0)) fun t553 =>
  cnd t553
  (bnd (aBinN .add (xs543.headD .any) (.int .i64 1)) fun t554 =>
  ∃ n542, n542 < n541 ∧ Shr (I539 n542 [t554]) H552)
  (∃ (I555 : Nat → List V → Heap → Prop) (n556 : Nat), Shr (I555 n556 [(xs537.tail.headD .any)]) H552 ∧
  ∀ n557 xs559 H560, I555 n557 xs559 H560 →
  ∃ S561, Abs.sub S561 H560 ∧
  bnd (aBinN .leq (xs543.headD .any) (xs559.headD .any)) fun t562 =>
  gd t562 true
  (bnd (aIndex S561 2 a0 (xs559.headD .any)) fun t563 =>
  bnd (aLd true 2 S561 t563) fun t564 =>
  bnd (aIndex S561 2 a0 a1) fun t565 =>
  bnd (aLd true 2 S561 t565) fun t566 =>
  callK P H560 a4 [t564, t566] fun v567 H568 =>
  Abs.sub S561 H568 ∧
  bnd (aBinN .lss v567 (.int .i64 0)) fun t569 =>
  bnd (aNot t569) fun t570 =>
  cnd t570
  (bnd (aBinN .sub (xs559.headD .any) (.int .i64 1)) fun t571 =>
  ∃ n558, n558 < n557 ∧ Shr (I555 n558 [t571]) H568)
  (bnd (aBinN .gtr (xs543.headD .any) (xs559.headD .any)) fun t572 =>
  cnd t572
  (bnd (aIndex H568 2 a0 a1) fun t573 =>
  bnd (aLd true 2 H568 t573) fun t574 =>
  bnd (aIndex H568 2 a0 (xs559.headD .any)) fun t575 =>
  bnd (aLd true 2 H568 t575) fun t576 =>
  bnd (aIndex H568 2 a0 (xs559.headD .any)) fun t577 =>
  bnd (aSt 2 H568 t577 t574) fun H578 =>
  bnd (aIndex H578 2 a0 a1) fun t579 =>
  bnd (aSt 2 H578 t579 t576) fun H580 =>
  Ret R (.tup [(xs559.headD .any), (.bool false)]) H580)
  (bnd (aIndex H568 2 a0 (xs559.headD .any)) fun t581 =>
  bnd (aLd true 2 H568 t581) fun t582 =>
  bnd (aIndex H568 2 a0 (xs543.headD .any)) fun t583 =>
  bnd (aLd true 2 H568 t583) fun t584 =>
  bnd (aIndex H568 2 a0 (xs543.headD .any)) fun t585 =>
  bnd (aSt 2 H568 t585 t582) fun H586 =>
  bnd (aIndex H586 2 a0 (xs559.headD .any)) fun t587 =>
  bnd (aSt 2 H586 t587 t584) fun H588 =>
  bnd (aBinN .add (xs543.headD .any) (.int .i64 1)) fun t589 =>
  bnd (aBinN .sub (xs559.headD .any) (.int .i64 1)) fun t590 =>
  ∃ n536, n536 < n535 ∧ Shr (I533 n536 [t589, t590]) H588)))
  (bnd (aBinN .gtr (xs543.headD .any) (xs559.headD .any)) fun t591 =>
  cnd t591
  (bnd (aIndex H560 2 a0 a1) fun t592 =>
  bnd (aLd true 2 H560 t592) fun t593 =>
  bnd (aIndex H560 2 a0 (xs559.headD .any)) fun t594 =>
  bnd (aLd true 2 H560 t594) fun t595 =>
  bnd (aIndex H560 2 a0 (xs559.headD .any)) fun t596 =>
  bnd (aSt 2 H560 t596 t593) fun H597 =>
  bnd (aIndex H597 2 a0 a1) fun t598 =>
  bnd (aSt 2 H597 t598 t595) fun H599 =>
  Ret R (.tup [(xs559.headD .any), (.bool false)]) H599)
  (bnd (aIndex H560 2 a0 (xs559.headD .any)) fun t600 =>
  bnd (aLd true 2 H560 t600) fun t601 =>
  bnd (aIndex H560 2 a0 (xs543.headD .any)) fun t602 =>
  bnd (aLd true 2 H560 t602) fun t603 =>
  bnd (aIndex H560 2 a0 (xs543.headD .any)) fun t604 =>
  bnd (aSt 2 H560 t604 t601) fun H605 =>
  bnd (aIndex H605 2 a0 (xs559.headD .any)) fun t606 =>
  bnd (aSt 2 H605 t606 t603) fun H607 =>
  bnd (aBinN .add (xs543.headD .any) (.int .i64 1)) fun t608 =>
  bnd (aBinN .sub (xs559.headD .any) (.int .i64 1)) fun t609 =>
  ∃ n536, n536 < n535 ∧ Shr (I533 n536 [t608, t609]) H607))))
  (∃ (I610 : Nat → List V → Heap → Prop) (n611 : Nat), Shr (I610 n611 [(xs537.tail.headD .any)]) H544 ∧
  ∀ n612 xs614 H615, I610 n612 xs614 H615 →
  ∃ S616, Abs.sub S616 H615 ∧
  bnd (aBinN .leq (xs543.headD .any) (xs614.headD .any)) fun t617 =>
  gd t617 true
  (bnd (aIndex S616 2 a0 (xs614.headD .any)) fun t618 =>
  bnd (aLd true 2 S616 t618) fun t619 =>
  bnd (aIndex S616 2 a0 a1) fun t620 =>
  bnd (aLd true 2 S616 t620) fun t621 =>
  callK P H615 a4 [t619, t621] fun v622 H623 =>
  Abs.sub S616 H623 ∧
  bnd (aBinN .lss v622 (.int .i64 0)) fun t624 =>
  bnd (aNot t624) fun t625 =>
  cnd t625
  (bnd (aBinN .sub (xs614.headD .any) (.int .i64 1)) fun t626 =>
  ∃ n613, n613 < n612 ∧ Shr (I610 n613 [t626]) H623)
  (bnd (aBinN .gtr (xs543.headD .any) (xs614.headD .any)) fun t627 =>
  cnd t627
  (bnd (aIndex H623 2 a0 a1) fun t628 =>
  bnd (aLd true 2 H623 t628) fun t629 =>
  bnd (aIndex H623 2 a0 (xs614.headD .any)) fun t630 =>
  bnd (aLd true 2 H623 t630) fun t631 =>
  bnd (aIndex H623 2 a0 (xs614.headD .any)) fun t632 =>
  bnd (aSt 2 H623 t632 t629) fun H633 =>
  bnd (aIndex H633 2 a0 a1) fun t634 =>
  bnd (aSt 2 H633 t634 t631) fun H635 =>
  Ret R (.tup [(xs614.headD .any), (.bool false)]) H635)
  (bnd (aIndex H623 2 a0 (xs614.headD .any)) fun t636 =>
  bnd (aLd true 2 H623 t636) fun t637 =>
  bnd (aIndex H623 2 a0 (xs543.headD .any)) fun t638 =>
  bnd (aLd true 2 H623 t638) fun t639 =>
  bnd (aIndex H623 2 a0 (xs543.headD .any)) fun t640 =>
  bnd (aSt 2 H623 t640 t637) fun H641 =>
  bnd (aIndex H641 2 a0 (xs614.headD .any)) fun t642 =>
  bnd (aSt 2 H641 t642 t639) fun H643 =>
  bnd (aBinN .add (xs543.headD .any) (.int .i64 1)) fun t644 =>
  bnd (aBinN .sub (xs614.headD .any) (.int .i64 1)) fun t645 =>
  ∃ n536, n536 < n535 ∧ Shr (I533 n536 [t644, t645]) H643)))
  (bnd (aBinN .gtr (xs543.headD .any) (xs614.headD .any)) fun t646 =>
  cnd t646
  (bnd (aIndex H615 2 a0 a1) fun t647 =>
  bnd (aLd true 2 H615 t647) fun t648 =>
  bnd (aIndex H615 2 a0 (xs614.headD .any)) fun t649 =>
  bnd (aLd true 2 H615 t649) fun t650 =>
  bnd (aIndex H615 2 a0 (xs614.headD .any)) fun t651 =>
  bnd (aSt 2 H615 t651 t648) fun H652 =>
  bnd (aIndex H652 2 a0 a1) fun t653 =>
  bnd (aSt 2 H652 t653 t650) fun H654 =>
  Ret R (.tup [(xs614.headD .any), (.bool false)]) H654)
  (bnd (aIndex H615 2 a0 (xs614.headD .any)) fun t655 =>
  bnd (aLd true 2 H615 t655) fun t656 =>
  bnd (aIndex H615 2 a0 (xs543.headD .any)) fun t657 =>
  bnd (aLd true 2 H615 t657) fun t658 =>
  bnd (aIndex H615 2 a0 (xs543.headD .any)) fun t659 =>
  bnd (aSt 2 H615 t659 t656) fun H660 =>
  bnd (aIndex H660 2 a0 (xs614.headD .any)) fun t661 =>
  bnd (aSt 2 H660 t661 t658) fun H662 =>
  bnd (aBinN .add (xs543.headD .any) (.int .i64 1)) fun t663 =>
  bnd (aBinN .sub (xs614.headD .any) (.int .i64 1)) fun t664 =>
  ∃ n536, n536 < n535 ∧ Shr (I533 n536 [t663, t664]) H662))))))
theorem W_slices_partitionCmpFunc_i_Prefix {R : V → Heap → Prop} {a0 a1 a2 a3 a4 : V} {H : Heap} (h : F_slices_partitionCmpFunc_i_Prefix R a0 a1 a2 a3 a4 H) : ACalls P n_slices_partitionCmpFunc_i_Prefix [a0, a1, a2, a3, a4] H R :=
  acalls_of_form (g := ⟨[], []⟩) (x := (.seq .leaf (.seq (.drawh [0, 1, 2, 3, 4, 5, 6, 7, 8, 9, 10, 11, 12, 13, 14, 15]) (.seq .leaf (.seq (.block (.loop [12] (.seq (.seq (.draw [0, 1, 2, 3, 4, 5, 6, 7, 8, 9, 10, 11, 12, 13, 14, 15]) (.cond .leaf .leaf)) (.block .leaf)))) (.seq (.block (.loop [13] (.seq (.seq (.draw [0, 1, 2, 3, 4, 5, 6, 7, 8, 9, 10, 11, 12, 13, 14, 15, 16]) (.cond .leaf .leaf)) (.block .leaf)))) (.seq (.seq .leaf (.cond (.seq (.drawh [0, 1, 2, 3, 4, 5, 6, 7, 8, 9, 10, 11, 12, 13, 14, 15]) (.seq .leaf .leaf)) .leaf)) (.seq (.drawh [0, 1, 2, 3, 4, 5, 6, 7, 8, 9, 10, 11, 12, 13, 14, 15]) (.seq .leaf (.seq .leaf (.seq (.block (.loop [12, 13] (.block (.seq (.block (.loop [12] (.seq (.seq (.draw [0, 1, 2, 3, 4, 5, 6, 7, 8, 9, 10, 11, 12, 13, 14, 15]) (.cond .leaf .leaf)) (.block .leaf)))) (.seq (.block (.loop [13] (.seq (.seq (.draw [0, 1, 2, 3, 4, 5, 6, 7, 8, 9, 10, 11, 12, 13, 14, 15, 16]) (.cond .leaf .leaf)) (.block .leaf)))) (.seq (.seq .leaf (.cond .leaf .leaf)) (.seq (.drawh [0, 1, 2, 3, 4, 5, 6, 7, 8, 9, 10, 11, 12, 13, 14, 15]) (.seq .leaf .leaf)))))))) (.seq (.drawh [0, 1, 2, 3, 4, 5, 6, 7, 8, 9, 10, 11, 12, 13, 14, 15]) (.seq .leaf .leaf))))))))))))) Tryz.func175 (by kernel_rfl) (by kernel_rfl) (by kernel_rfl) (by kernel_rfl : F_slices_partitionCmpFunc_i_Prefix R a0 a1 a2 a3 a4 H = _) h
def F_s_l03Put (R : V → Heap → Prop) (a0 a1 : V) (H : Heap) : Prop :=
  boxK a1 (bnd (bsl 3 0 [(.int .i64 0), (.int .i64 0), (.int .i64 0)] []) fun r1 =>
  ∀ o2, H o2 = none →
  ∃ (I3 : Nat → List V → Heap → Prop) (n4 : Nat), Shr (I3 n4 [(.box (cellsOf a1)), (.slice o2 0 0 (some 0)), (.bool false), (.int .i64 0)]) (upd H o2 ⟨3, r1⟩) ∧
  ∀ n5 xs7 H8, I3 n5 xs7 H8 →
  bnd (lenOf a0) fun n9 =>
  bnd (aBinN .lss (xs7.tail.tail.tail.headD .any) (.int .i64 (n9 : Nat))) fun t10 =>
  cnd t10
  (bnd (aIndex H8 3 a0 (xs7.tail.tail.tail.headD .any)) fun t11 =>
  bnd (aLd true 3 H8 t11) fun t12 =>
  bnd (stz 3 [(.int .i64 0), (.int .i64 0), (.int .i64 0)] 0 t12) fun c13 =>
  ∃ J14 : List V → Heap → Prop,
  (∃ J17 : List V → Heap → Prop,
  (bnd (aNot (xs7.tail.tail.headD .any)) fun t20 =>
  gd t20 true
  (bnd (partOf false 1 (bc (xs7.headD .any)) 0) fun t21 =>
  bnd (partOf false 1 c13 0) fun t22 =>
  bnd (aBinN .lss t21 t22) fun t23 =>
  gd3 t23 false
  (bnd (partOf false 1 (bc (xs7.headD .any)) 0) fun t24 =>
  bnd (partOf false 1 c13 0) fun t25 =>
  bnd (aBinN .eql t24 t25) fun t26 =>
  gd3 t26 true
  (bnd (partOf false 1 (bc (xs7.headD .any)) 1) fun t27 =>
  bnd (partOf false 1 c13 1) fun t28 =>
  bnd (aBinN .leq t27 t28) fun t29 =>
  Shr (J17 [t29]) H8)
  (Shr (J17 [(.bool false)]) H8)
  (bnd (aPick (.tup []) (.tup []) (.bool false)) fun t30 =>
  Shr (J17 [t30]) H8))
  (Shr (J17 [(.bool true)]) H8)
  (bnd (aPick (.tup []) (.bool true) (.tup [])) fun t31 =>
  Shr (J17 [t31]) H8))
  (Shr (J17 [(.bool false)]) H8)) ∧
  ∀ xs18 H19, J17 xs18 H19 →
  cnd (xs18.headD .any)
  (bnd (partOf true 3 (bc (xs7.headD .any)) 0) fun t32 =>
  bnd (bsl 3 1 [(.int .i64 0), (.int .i64 0), (.int .i64 0)] [(0, t32)]) fun r33 =>
  ∀ o34, H19 o34 = none →
  bnd (rowsOf (upd H19 o34 ⟨3, r33⟩) 3 (.slice o34 0 1 (some 1))) fun r37 =>
  appendK (upd H19 o34 ⟨3, r33⟩) 3 24 (xs7.tail.headD .any) r37 fun v35 H36 =>
  Shr (J14 [v35, (.bool true)]) H36)
  (Shr (J14 [(xs7.tail.headD .any), (xs7.tail.tail.headD .any)]) H19)) ∧
  ∀ xs15 H16, J14 xs15 H16 →
  bnd (partOf false 1 c13 0) fun t38 =>
  bnd (partOf false 1 (bc (xs7.headD .any)) 0) fun t39 =>
  bnd (aBinN .neq t38 t39) fun t40 =>
  gd t40 false
  (bnd (partOf false 1 c13 1) fun t41 =>
  bnd (partOf false 1 (bc (xs7.headD .any)) 1) fun t42 =>
  bnd (aBinN .neq t41 t42) fun t43 =>
  cnd t43
  (bnd (partOf true 3 c13 0) fun t44 =>
  bnd (bsl 3 1 [(.int .i64 0), (.int .i64 0), (.int .i64 0)] [(0, t44)]) fun r45 =>
  ∀ o46, H16 o46 = none →
  bnd (rowsOf (upd H16 o46 ⟨3, r45⟩) 3 (.slice o46 0 1 (some 1))) fun r49 =>
  appendK (upd H16 o46 ⟨3, r45⟩) 3 24 (xs15.headD .any) r49 fun v47 H48 =>
  bnd (aBinN .add (xs7.tail.tail.tail.headD .any) (.int .i64 1)) fun t50 =>
  ∃ n6, n6 < n5 ∧ Shr (I3 n6 [(.box (bc (xs7.headD .any))), v47, (xs15.tail.headD .any), t50]) H48)
  (bnd (aBinN .add (xs7.tail.tail.tail.headD .any) (.int .i64 1)) fun t51 =>
  ∃ n6, n6 < n5 ∧ Shr (I3 n6 [(.box (bc (xs7.headD .any))), (xs15.headD .any), (xs15.tail.headD .any), t51]) H16))
  (bnd (partOf true 3 c13 0) fun t52 =>
  bnd (bsl 3 1 [(.int .i64 0), (.int .i64 0), (.int .i64 0)] [(0, t52)]) fun r53 =>
  ∀ o54, H16 o54 = none →
  bnd (rowsOf (upd H16 o54 ⟨3, r53⟩) 3 (.slice o54 0 1 (some 1))) fun r57 =>
  appendK (upd H16 o54 ⟨3, r53⟩) 3 24 (xs15.headD .any) r57 fun v55 H56 =>
  bnd (aBinN .add (xs7.tail.tail.tail.headD .any) (.int .i64 1)) fun t58 =>
  ∃ n6, n6 < n5 ∧ Shr (I3 n6 [(.box (bc (xs7.headD .any))), v55, (xs15.tail.headD .any), t58]) H56))
  (bnd (aNot (xs7.tail.tail.headD .any)) fun t59 =>
  cnd t59
  (bnd (partOf true 3 (bc (xs7.headD .any)) 0) fun t60 =>
  bnd (bsl 3 1 [(.int .i64 0), (.int .i64 0), (.int .i64 0)] [(0, t60)]) fun r61 =>
  ∀ o62, H8 o62 = none →
  bnd (rowsOf (upd H8 o62 ⟨3, r61⟩) 3 (.slice o62 0 1 (some 1))) fun r65 =>
  appendK (upd H8 o62 ⟨3, r61⟩) 3 24 (xs7.tail.headD .any) r65 fun v63 H64 =>
  Ret R v63 H64)
  (Ret R (xs7.tail.headD .any) H8)))
theorem W_s_l03Put {R : V → Heap → Prop} {a0 a1 : V} {H : Heap} (h : F_s_l03Put R a0 a1 H) : ACalls P n_s_l03Put [a0, a1] H R :=
  acalls_of_form (g := ⟨[3, 8], [23, 25, 29, 31, 35, 37, 47, 49, 53, 55]⟩) (x := (.seq .leaf (.seq .leaf (.seq .leaf (.seq (.seq .leaf (.block (.loop [3, 5, 6, 7] (.seq (.seq .leaf (.cond .leaf .leaf)) (.seq (.block (.seq .leaf (.seqc (.seqc .leaf (.cond (.seq .leaf .leaf) .leaf) [42]) (.seq .leaf (.cond .leaf .leaf)) [5, 6]))) .leaf))))) (.seq (.seq .leaf (.cond .leaf .leaf)) (.seq .leaf .leaf))))))) Tryz.func180 (by kernel_rfl) (by kernel_rfl) (by kernel_rfl) (by kernel_rfl : F_s_l03Put R a0 a1 H = _) h
def F_i_PrefixOk (R : V → Heap → Prop) (a0 : V) (H : Heap) : Prop :=
  boxK a0 (∃ S1, Abs.sub S1 H ∧
  bnd (partOf false 1 (cellsOf a0) 1) fun t2 =>
  ACalls P n_i_within [t2, (.int .i64 0), (.int .i64 16)] H fun v3 H4 =>
  Abs.sub S1 H4 ∧
  gd v3 true
  (bnd (partOf false 1 (cellsOf a0) 0) fun t5 =>
  ACalls P n_i_isAddr [t5] H4 fun v6 H7 =>
  Abs.sub S1 H7 ∧
  gd v6 true
  (bnd (partOf false 1 (cellsOf a0) 0) fun t8 =>
  bnd (partOf true 2 (cellsOf a0) 0) fun t9 =>
  ACalls P n_i_Prefix_size [t9] H7 fun v10 H11 =>
  Abs.sub S1 H11 ∧
  bnd (aBinN .rem t8 v10) fun t12 =>
  bnd (aBinN .eql t12 (.int .i64 0)) fun t13 =>
  Ret R t13 H11)
  (Ret R (.bool false) H7))
  (Ret R (.bool false) H4))
theorem W_i_PrefixOk {R : V → Heap → Prop} {a0 : V} {H : Heap} (h : F_i_PrefixOk R a0 H) : ACalls P n_i_PrefixOk [a0] H R :=
  acalls_of_form (g := ⟨[1], [3, 7, 12]⟩) (x := (.seq .leaf (.seq (.draw [0, 1, 2, 3, 4, 5, 6, 7, 8, 9, 10, 11, 12, 13, 14, 15, 16]) .leaf))) Tryz.func181 (by kernel_rfl) (by kernel_rfl) (by kernel_rfl) (by kernel_rfl : F_i_PrefixOk R a0 H = _) h
def F_i_Prefix_size (R : V → Heap → Prop) (a0 : V) (H : Heap) : Prop :=
  boxK a0 (bnd (partOf false 1 (cellsOf a0) 1) fun t1 =>
  bnd (aBinN .sub (.int .i64 16) t1) fun t2 =>
  bnd (aBinN .shl (.int .i64 1) t2) fun t3 =>
  Ret R t3 H)
theorem W_i_Prefix_size {R : V → Heap → Prop} {a0 : V} {H : Heap} (h : F_i_Prefix_size R a0 H) : ACalls P n_i_Prefix_size [a0] H R :=
  acalls_of_form (g := ⟨[1], [3]⟩) (x := (.seq .leaf (.seq .leaf .leaf))) Tryz.func182 (by kernel_rfl) (by kernel_rfl) (by kernel_rfl) (by kernel_rfl : F_i_Prefix_size R a0 H = _) h
def F_cmp_isNaN_int (R : V → Heap → Prop) (a0 : V) (H : Heap) : Prop :=
  bnd (aBinN .neq a0 a0) fun t1 =>
  Ret R t1 H
theorem W_cmp_isNaN_int {R : V → Heap → Prop} {a0 : V} {H : Heap} (h : F_cmp_isNaN_int R a0 H) : ACalls P n_cmp_isNaN_int [a0] H R :=
  acalls_of_form (g := ⟨[], []⟩) (x := (.seq .leaf (.seq .leaf .leaf))) Tryz.func185 (by kernel_rfl) (by kernel_rfl) (by kernel_rfl) (by kernel_rfl : F_cmp_isNaN_int R a0 H = _) h
def F_math_bits_Mul32 (R : V → Heap → Prop) (a0 a1 : V) (H : Heap) : Prop :=
  bnd (aCv .u64 a0) fun t1 =>
  bnd (aCv .u64 a1) fun t2 =>
  bnd (aBinN .mul t1 t2) fun t3 =>
  bnd (aBinN .shr t3 (.int .u64 32)) fun t4 =>
  bnd (aCv .u32 t4) fun t5 =>
  bnd (aCv .u32 t3) fun t6 =>
  Ret R (.tup [t5, t6]) H
theorem W_math_bits_Mul32 {R : V → Heap → Prop} {a0 a1 : V} {H : Heap} (h : F_math_bits_Mul32 R a0 a1 H) : ACalls P n_math_bits_Mul32 [a0, a1] H R :=
  acalls_of_form (g := ⟨[], []⟩) (x := (.seq .leaf (.seq .leaf (.seq .leaf .leaf)))) Tryz.func186 (by kernel_rfl) (by kernel_rfl) (by kernel_rfl) (by kernel_rfl : F_math_bits_Mul32 R a0 a1 H = _) h
def F_math_bits_Mul64 (R : V → Heap → Prop) (a0 a1 : V) (H : Heap) : Prop :=
  bnd (aBinN .and a0 (.int .u64 4294967295)) fun t1 =>
  bnd (aBinN .shr a0 (.int .u64 32)) fun t2 =>
  bnd (aBinN .and a1 (.int .u64 4294967295)) fun t3 =>
  bnd (aBinN .shr a1 (.int .u64 32)) fun t4 =>
  bnd (aBinN .mul t1 t3) fun t5 =>
  bnd (aBinN .mul t2 t3) fun t6 =>
  bnd (aBinN .shr t5 (.int .u64 32)) fun t7 =>
  bnd (aBinN .add t6 t7) fun t8 =>
  bnd (aBinN .and t8 (.int .u64 4294967295)) fun t9 =>
  bnd (aBinN .shr t8 (.int .u64 32)) fun t10 =>
  bnd (aBinN .mul t1 t4) fun t11 =>
  bnd (aBinN .add t9 t11) fun t12 =>
  bnd (aBinN .mul t2 t4) fun t13 =>
  bnd (aBinN .add t13 t10) fun t14 =>
  bnd (aBinN .shr t12 (.int .u64 32)) fun t15 =>
  bnd (aBinN .add t14 t15) fun t16 =>
  bnd (aBinN .mul a0 a1) fun t17 =>
  Ret R (.tup [t16, t17]) H
theorem W_math_bits_Mul64 {R : V → Heap → Prop} {a0 a1 : V} {H : Heap} (h : F_math_bits_Mul64 R a0 a1 H) : ACalls P n_math_bits_Mul64 [a0, a1] H R :=
  acalls_of_form (g := ⟨[], []⟩) (x := (.seq .leaf (.seq .leaf (.seq .leaf (.seq .leaf (.seq .leaf (.seq .leaf (.seq .leaf (.seq .leaf (.seq .leaf (.seq .leaf (.seq .leaf (.seq .leaf .leaf))))))))))))) Tryz.func187 (by kernel_rfl) (by kernel_rfl) (by kernel_rfl) (by kernel_rfl : F_math_bits_Mul64 R a0 a1 H = _) h
def F_slices_siftDownCmpFunc_i_Prefix (R : V → Heap → Prop) (a0 a1 a2 a3 a4 : V) (H : Heap) : Prop :=
  ∃ (I1 : Nat → List V → Heap → Prop) (n2 : Nat), Shr (I1 n2 [a1]) H ∧
  ∀ n3 xs5 H6, I1 n3 xs5 H6 →
  bnd (aBinN .mul (.int .i64 2) (xs5.headD .any)) fun t7 =>
  bnd (aBinN .add t7 (.int .i64 1)) fun t8 =>
  bnd (aBinN .geq t8 a2) fun t9 =>
  cnd t9
  (Ret R (.tup []) H6)
  (∃ S10, Abs.sub S10 H6 ∧
  bnd (aBinN .add t8 (.int .i64 1)) fun t11 =>
  bnd (aBinN .lss t11 a2) fun t12 =>
  gd t12 true
  (bnd (aBinN .add a3 t8) fun t13 =>
  bnd (aIndex S10 2 a0 t13) fun t14 =>
  bnd (aLd true 2 S10 t14) fun t15 =>
  bnd (aBinN .add a3 t8) fun t16 =>
  bnd (aBinN .add t16 (.int .i64 1)) fun t17 =>
  bnd (aIndex S10 2 a0 t17) fun t18 =>
  bnd (aLd true 2 S10 t18) fun t19 =>
  callK P H6 a4 [t15, t19] fun v20 H21 =>
  Abs.sub S10 H21 ∧
  bnd (aBinN .lss v20 (.int .i64 0)) fun t22 =>
  cnd t22
  (bnd (aBinN .add t8 (.int .i64 1)) fun t23 =>
  ∃ S24, Abs.sub S24 H21 ∧
  bnd (aBinN .add a3 (xs5.headD .any)) fun t25 =>
  bnd (aIndex S24 2 a0 t25) fun t26 =>
  bnd (aLd true 2 S24 t26) fun t27 =>
  bnd (aBinN .add a3 t23) fun t28 =>
  bnd (aIndex S24 2 a0 t28) fun t29 =>
  bnd (aLd true 2 S24 t29) fun t30 =>
  callK P H21 a4 [t27, t30] fun v31 H32 =>
  Abs.sub S24 H32 ∧
  bnd (aBinN .lss v31 (.int .i64 0)) fun t33 =>
  bnd (aNot t33) fun t34 =>
  cnd t34
  (Ret R (.tup []) H32)
  (bnd (aBinN .add a3 (xs5.headD .any)) fun t35 =>
  bnd (aBinN .add a3 t23) fun t36 =>
  bnd (aBinN .add a3 t23) fun t37 =>
  bnd (aIndex H32 2 a0 t37) fun t38 =>
  bnd (aLd true 2 H32 t38) fun t39 =>
  bnd (aBinN .add a3 (xs5.headD .any)) fun t40 =>
  bnd (aIndex H32 2 a0 t40) fun t41 =>
  bnd (aLd true 2 H32 t41) fun t42 =>
  bnd (aIndex H32 2 a0 t35) fun t43 =>
  bnd (aSt 2 H32 t43 t39) fun H44 =>
  bnd (aIndex H44 2 a0 t36) fun t45 =>
  bnd (aSt 2 H44 t45 t42) fun H46 =>
  ∃ n4, n4 < n3 ∧ Shr (I1 n4 [t23]) H46))
  (∃ S47, Abs.sub S47 H21 ∧
  bnd (aBinN .add a3 (xs5.headD .any)) fun t48 =>
  bnd (aIndex S47 2 a0 t48) fun t49 =>
  bnd (aLd true 2 S47 t49) fun t50 =>
  bnd (aBinN .add a3 t8) fun t51 =>
  bnd (aIndex S47 2 a0 t51) fun t52 =>
  bnd (aLd true 2 S47 t52) fun t53 =>
  callK P H21 a4 [t50, t53] fun v54 H55 =>
  Abs.sub S47 H55 ∧
  bnd (aBinN .lss v54 (.int .i64 0)) fun t56 =>
  bnd (aNot t56) fun t57 =>
  cnd t57
  (Ret R (.tup []) H55)
  (bnd (aBinN .add a3 (xs5.headD .any)) fun t58 =>
  bnd (aBinN .add a3 t8) fun t59 =>
  bnd (aBinN .add a3 t8) fun t60 =>
  bnd (aIndex H55 2 a0 t60) fun t61 =>
  bnd (aLd true 2 H55 t61) fun t62 =>
  bnd (aBinN .add a3 (xs5.headD .any)) fun t63 =>
  bnd (aIndex H55 2 a0 t63) fun t64 =>
  bnd (aLd true 2 H55 t64) fun t65 =>
  bnd (aIndex H55 2 a0 t58) fun t66 =>
  bnd (aSt 2 H55 t66 t62) fun H67 =>
  bnd (aIndex H67 2 a0 t59) fun t68 =>
  bnd (aSt 2 H67 t68 t65) fun H69 =>
  ∃ n4, n4 < n3 ∧ Shr (I1 n4 [t8]) H69)))
  (∃ S70, Abs.sub S70 H6 ∧
  bnd (aBinN .add a3 (xs5.headD .any)) fun t71 =>
  bnd (aIndex S70 2 a0 t71) fun t72 =>
  bnd (aLd true 2 S70 t72) fun t73 =>
  bnd (aBinN .add a3 t8) fun t74 =>
  bnd (aIndex S70 2 a0 t74) fun t75 =>
  bnd (aLd true 2 S70 t75) fun t76 =>
  callK P H6 a4 [t73, t76] fun v77 H78 =>
  Abs.sub S70 H78 ∧
  bnd (aBinN .lss v77 (.int .i64 0)) fun t79 =>
  bnd (aNot t79) fun t80 =>
  cnd t80
  (Ret R (.tup []) H78)
  (bnd (aBinN .add a3 (xs5.headD .any)) fun t81 =>
  bnd (aBinN .add a3 t8) fun t82 =>
  bnd (aBinN .add a3 t8) fun t83 =>
  bnd (aIndex H78 2 a0 t83) fun t84 =>
  bnd (aLd true 2 H78 t84) fun t85 =>
  bnd (aBinN .add a3 (xs5.headD .any)) fun t86 =>
  bnd (aIndex H78 2 a0 t86) fun t87 =>
  bnd (aLd true 2 H78 t87) fun t88 =>
  bnd (aIndex H78 2 a0 t81) fun t89 =>
  bnd (aSt 2 H78 t89 t85) fun H90 =>
  bnd (aIndex H90 2 a0 t82) fun t91 =>
  bnd (aSt 2 H90 t91 t88) fun H92 =>
  ∃ n4, n4 < n3 ∧ Shr (I1 n4 [t8]) H92)))
theorem W_slices_siftDownCmpFunc_i_Prefix {R : V → Heap → Prop} {a0 a1 a2 a3 a4 : V} {H : Heap} (h : F_slices_siftDownCmpFunc_i_Prefix R a0 a1 a2 a3 a4 H) : ACalls P n_slices_siftDownCmpFunc_i_Prefix [a0, a1, a2, a3, a4] H R :=
  acalls_of_form (g := ⟨[], []⟩) (x := (.seq .leaf (.block (.loop [10] (.block (.seq .leaf (.seq (.seq .leaf (.cond .leaf .leaf)) (.seq (.seq (.draw [0, 1, 2, 3, 4, 5, 6, 7, 8, 9, 10, 11, 12, 13, 14, 15, 16, 17, 18, 19, 20, 21]) (.cond .leaf .leaf)) (.seq (.seq (.draw [0, 1, 2, 3, 4, 5, 6, 7, 8, 9, 10, 11, 12, 13, 14, 15]) (.cond .leaf .leaf)) (.seq (.drawh [0, 1, 2, 3, 4, 5, 6, 7, 8, 9, 10, 11, 12, 13, 14, 15, 16, 17, 18, 19, 20, 21, 22, 23]) .leaf)))))))))) Tryz.func188 (by kernel_rfl) (by kernel_rfl) (by kernel_rfl) (by kernel_rfl : F_slices_siftDownCmpFunc_i_Prefix R a0 a1 a2 a3 a4 H = _) h
def F_slices_nextPowerOfTwo (R : V → Heap → Prop) (a0 : V) (H : Heap) : Prop :=
  bnd (aCv .u64 a0) fun t1 =>
  ACalls P n_math_bits_Len [t1] H fun v2 H3 =>
  bnd (aBinN .shl (.int .u64 1) v2) fun t4 =>
  Ret R t4 H3
theorem W_slices_nextPowerOfTwo {R : V → Heap → Prop} {a0 : V} {H : Heap} (h : F_slices_nextPowerOfTwo R a0 H) : ACalls P n_slices_nextPowerOfTwo [a0] H R :=
  acalls_of_form (g := ⟨[], []⟩) (x := (.seq .leaf (.seq .leaf .leaf))) Tryz.func189 (by kernel_rfl) (by kernel_rfl) (by kernel_rfl) (by kernel_rfl : F_slices_nextPowerOfTwo R a0 H = _) h
def F_p_slices_xorshift_Next (R : V → Heap → Prop) (a0 : V) (H : Heap) : Prop :=
  bnd (aNil a0) fun t1 =>
  bnd (aLd false 1 H t1) fun t2 =>
  bnd (aNil a0) fun t3 =>
  bnd (aLd false 1 H t3) fun t4 =>
  bnd (aBinN .shl t4 (.int .u64 13)) fun t5 =>
  bnd (aBinN .xor t2 t5) fun t6 =>
  bnd (aNil a0) fun t7 =>
  bnd (aSt 1 H t7 t6) fun H8 =>
  bnd (aNil a0) fun t9 =>
  bnd (aLd false 1 H8 t9) fun t10 =>
  bnd (aNil a0) fun t11 =>
  bnd (aLd false 1 H8 t11) fun t12 =>
  bnd (aBinN .shr t12 (.int .u64 7)) fun t13 =>
  bnd (aBinN .xor t10 t13) fun t14 =>
  bnd (aNil a0) fun t15 =>
  bnd (aSt 1 H8 t15 t14) fun H16 =>
  bnd (aNil a0) fun t17 =>
  bnd (aLd false 1 H16 t17) fun t18 =>
  bnd (aNil a0) fun t19 =>
  bnd (aLd false 1 H16 t19) fun t20 =>
  bnd (aBinN .shl t20 (.int .u64 17)) fun t21 =>
  bnd (aBinN .xor t18 t21) fun t22 =>
  bnd (aNil a0) fun t23 =>
  bnd (aSt 1 H16 t23 t22) fun H24 =>
  bnd (aNil a0) fun t25 =>
  bnd (aLd false 1 H24 t25) fun t26 =>
  Ret R t26 H24
theorem W_p_slices_xorshift_Next {R : V → Heap → Prop} {a0 : V} {H : Heap} (h : F_p_slices_xorshift_Next R a0 H) : ACalls P n_p_slices_xorshift_Next [a0] H R :=
  acalls_of_form (g := ⟨[], []⟩) (x := (.seq .leaf (.seq (.drawh [0, 1, 2, 3, 4, 5, 6, 7, 8, 9]) (.seq (.drawh [0, 1, 2, 3, 4, 5, 6, 7, 8, 9]) (.seq (.drawh [0, 1, 2, 3, 4, 5, 6, 7, 8, 9]) (.seq .leaf .leaf)))))) Tryz.func190 (by kernel_rfl) (by kernel_rfl) (by kernel_rfl) (by kernel_rfl : F_p_slices_xorshift_Next R a0 H = _) h
def F_slices_medianAdjacentCmpFunc_i_Prefix (R : V → Heap → Prop) (a0 a1 a2 a3 : V) (H : Heap) : Prop :=
  bnd (aBinN .sub a1 (.int .i64 1)) fun t1 =>
  bnd (aBinN .add a1 (.int .i64 1)) fun t2 =>
  ACalls P n_slices_medianCmpFunc_i_Prefix [a0, t1, a1, t2, a2, a3] H fun v3 H4 =>
  Ret R v3 H4
theorem W_slices_medianAdjacentCmpFunc_i_Prefix {R : V → Heap → Prop} {a0 a1 a2 a3 : V} {H : Heap} (h : F_slices_medianAdjacentCmpFunc_i_Prefix R a0 a1 a2 a3 H) : ACalls P n_slices_medianAdjacentCmpFunc_i_Prefix [a0, a1, a2, a3] H R :=
  acalls_of_form (g := ⟨[], []⟩) (x := (.seq .leaf (.seq .leaf .leaf))) Tryz.func191 (by kernel_rfl) (by kernel_rfl) (by kernel_rfl) (by kernel_rfl : F_slices_medianAdjacentCmpFunc_i_Prefix R a0 a1 a2 a3 H = _) h
def F_slices_medianCmpFunc_i_Prefix (R : V → Heap → Prop) (a0 a1 a2 a3 a4 a5 : V) (H : Heap) : Prop :=
  ACalls P n_slices_order2CmpFunc_i_Prefix [a0, a1, a2, a4, a5] H fun v1 H2 =>
  bnd (aExtract 0 v1) fun t3 =>
  bnd (aExtract 1 v1) fun t4 =>
  ACalls P n_slices_order2CmpFunc_i_Prefix [a0, t4, a3, a4, a5] H2 fun v5 H6 =>
  bnd (aExtract 0 v5) fun t7 =>
  bnd (aExtract 1 v5) fun t8 =>
  ACalls P n_slices_order2CmpFunc_i_Prefix [a0, t3, t7, a4, a5] H6 fun v9 H10 =>
  bnd (aExtract 0 v9) fun t11 =>
  bnd (aExtract 1 v9) fun t12 =>
  Ret R t12 H10
theorem W_slices_medianCmpFunc_i_Prefix {R : V → Heap → Prop} {a0 a1 a2 a3 a4 a5 : V} {H : Heap} (h : F_slices_medianCmpFunc_i_Prefix R a0 a1 a2 a3 a4 a5 H) : ACalls P n_slices_medianCmpFunc_i_Prefix [a0, a1, a2, a3, a4, a5] H R :=
  acalls_of_form (g := ⟨[], []⟩) (x := (.seq .leaf (.seq .leaf (.seq .leaf (.seq .leaf (.seq .leaf .leaf)))))) Tryz.func192 (by kernel_rfl) (by kernel_rfl) (by kernel_rfl) (by kernel_rfl : F_slices_medianCmpFunc_i_Prefix R a0 a1 a2 a3 a4 a5 H = _) h
def F_slices_order2CmpFunc_i_Prefix (R : V → Heap → Prop) (a0 a1 a2 a3 a4 : V) (H : Heap) : Prop :=
  ∃ S1, Abs.sub S1 H ∧
  bnd (aIndex S1 2 a0 a2) fun t2 =>
  bnd (aLd true 2 S1 t2) fun t3 =>
  bnd (aIndex S1 2 a0 a1) fun t4 =>
  bnd (aLd true 2 S1 t4) fun t5 =>
  callK P H a4 [t3, t5] fun v6 H7 =>
  Abs.sub S1 H7 ∧
  bnd (aBinN .lss v6 (.int .i64 0)) fun t8 =>
  cnd t8
  (bnd (aNil a3) fun t9 =>
  bnd (aLd false 1 H7 t9) fun t10 =>
  bnd (aBinN .add t10 (.int .i64 1)) fun t11 =>
  bnd (aNil a3) fun t12 =>
  bnd (aSt 1 H7 t12 t11) fun H13 =>
  Ret R (.tup [a2, a1]) H13)
  (Ret R (.tup [a1, a2]) H7)
theorem W_slices_order2CmpFunc_i_Prefix {R : V → Heap → Prop} {a0 a1 a2 a3 a4 : V} {H : Heap} (h : F_slices_order2CmpFunc_i_Prefix R a0 a1 a2 a3 a4 H) : ACalls P n_slices_order2CmpFunc_i_Prefix [a0, a1, a2, a3, a4] H R :=
  acalls_of_form (g := ⟨[], []⟩) (x := (.seq .leaf (.seq (.seq (.draw [0, 1, 2, 3, 4, 5, 6, 7, 8, 9, 10]) (.cond (.seq .leaf (.seq .leaf .leaf)) .leaf)) (.seq .leaf .leaf)))) Tryz.func193 (by kernel_rfl) (by kernel_rfl) (by kernel_rfl) (by kernel_rfl : F_slices_order2CmpFunc_i_Prefix R a0 a1 a2 a3 a4 H = _) h
theorem Q_neq_Prefix {x0 y0 : Int} {x1 y1 : Int} : aBin P .neq 57 (.agg [.int .i64 x0, .int .i64 x1]) (.agg [.int .i64 y0, .int .i64 y1]) = some (.bool (!((x0 == y0) && ((x1 == y1) && true)))) := by kernel_rfl
theorem Q_eql_Prefix {x0 y0 : Int} {x1 y1 : Int} : aBin P .eql 57 (.agg [.int .i64 x0, .int .i64 x1]) (.agg [.int .i64 y0, .int .i64 y1]) = some (.bool ((x0 == y0) && ((x1 == y1) && true))) := by kernel_rfl
end Go.Proofs.YtaippfedjjjpeaaGreat
