/-
A form with its repeated part folded; printed by a program.
-/
import Derived.Test.YtgoljfhjhcjcpaaBytM
set_option linter.all false
namespace Go.Proofs.Ytgoljfhjhcjcpaa
open Go Go.Abs Go.Proofs

def restsInstall_0 (R : V → Heap → Prop) (xs30 : List V) (H31 : Heap) : Prop :=
  bnd (fillZ [.nils] []) fun c48 =>
  bnd (stz 1 [.nils] 0 (.agg c48)) fun c49 =>
  ∃ (I50 : Nat → List V → Heap → Prop) (n51 : Nat), Shr (I50 n51 [(.box (bc (xs30.headD .any))), (.box (bc (xs30.tail.headD .any))), (.box (bc (xs30.tail.tail.headD .any))), (.box c49), (.bool false), (.int .i64 0)]) H31 ∧
  ∀ n52 xs54 H55, I50 n52 xs54 H55 →
  bnd (partOf false 1 (bc (xs54.headD .any)) 0) fun t56 =>
  bnd (lenOf t56) fun n57 =>
  bnd (aBinN .lss (xs54.tail.tail.tail.tail.tail.headD .any) (.int .i64 (n57 : Nat))) fun t58 =>
  cnd t58
  (∃ J59 : List V → Heap → Prop,
  (∃ S62, Abs.sub S62 H55 ∧
  bnd (aNot (xs54.tail.tail.tail.tail.headD .any)) fun t63 =>
  gd t63 true
  (bnd (partOf false 1 (bc (xs54.tail.headD .any)) 0) fun t64 =>
  bnd (partOf false 1 (bc (xs54.headD .any)) 0) fun t65 =>
  bnd (aIndex S62 5 t65 (xs54.tail.tail.tail.tail.tail.headD .any)) fun t66 =>
  bnd (aField 0 t66) fun t67 =>
  bnd (aLd false 1 S62 t67) fun t68 =>
  bnd (aBinN .leq t64 t68) fun t69 =>
  cnd t69
  (bnd (partOf false 1 (bc (xs54.tail.tail.tail.headD .any)) 0) fun t70 =>
  bnd (partOf true 5 (bc (xs54.tail.headD .any)) 0) fun t71 =>
  ACalls P n_s_l05Copy [t71] H55 fun v72 H73 =>
  bnd (bsl 5 1 [(.int .i64 0), (.int .i64 0), (.int .i64 0), .nils, .nils] [(0, v72)]) fun r74 =>
  ∀ o75, H73 o75 = none →
  bnd (rowsOf (upd H73 o75 ⟨5, r74⟩) 5 (.slice o75 0 1 (some 1))) fun r78 =>
  appendK (upd H73 o75 ⟨5, r74⟩) 5 72 t70 r78 fun v76 H77 =>
  bnd (stz 1 (bc (xs54.tail.tail.tail.headD .any)) 0 v76) fun c79 =>
  Shr (J59 [(.box (bc (xs54.headD .any))), (.box (bc (xs54.tail.headD .any))), (.box (bc (xs54.tail.tail.headD .any))), (.box c79), (.bool true)]) H77)
  (Shr (J59 [(.box (bc (xs54.headD .any))), (.box (bc (xs54.tail.headD .any))), (.box (bc (xs54.tail.tail.headD .any))), (.box (bc (xs54.tail.tail.tail.headD .any))), (xs54.tail.tail.tail.tail.headD .any)]) H55))
  (Shr (J59 [(.box (bc (xs54.headD .any))), (.box (bc (xs54.tail.headD .any))), (.box (bc (xs54.tail.tail.headD .any))), (.box (bc (xs54.tail.tail.tail.headD .any))), (xs54.tail.tail.tail.tail.headD .any)]) H55)) ∧
  ∀ xs60 H61, J59 xs60 H61 →
  ∃ S80, Abs.sub S80 H61 ∧
  bnd (partOf false 1 (bc (xs60.headD .any)) 0) fun t81 =>
  bnd (aIndex S80 5 t81 (xs54.tail.tail.tail.tail.tail.headD .any)) fun t82 =>
  bnd (aField 0 t82) fun t83 =>
  bnd (aLd false 1 S80 t83) fun t84 =>
  bnd (partOf false 1 (bc (xs60.tail.headD .any)) 0) fun t85 =>
  bnd (aBinN .neq t84 t85) fun t86 =>
  cnd t86
  (bnd (partOf false 1 (bc (xs60.tail.tail.tail.headD .any)) 0) fun t87 =>
  bnd (partOf false 1 (bc (xs60.headD .any)) 0) fun t88 =>
  bnd (aIndex H61 5 t88 (xs54.tail.tail.tail.tail.tail.headD .any)) fun t89 =>
  bnd (aLd true 5 H61 t89) fun t90 =>
  ACalls P n_s_l05Copy [t90] H61 fun v91 H92 =>
  bnd (bsl 5 1 [(.int .i64 0), (.int .i64 0), (.int .i64 0), .nils, .nils] [(0, v91)]) fun r93 =>
  ∀ o94, H92 o94 = none →
  bnd (rowsOf (upd H92 o94 ⟨5, r93⟩) 5 (.slice o94 0 1 (some 1))) fun r97 =>
  appendK (upd H92 o94 ⟨5, r93⟩) 5 72 t87 r97 fun v95 H96 =>
  bnd (stz 1 (bc (xs60.tail.tail.tail.headD .any)) 0 v95) fun c98 =>
  bnd (aBinN .add (xs54.tail.tail.tail.tail.tail.headD .any) (.int .i64 1)) fun t99 =>
  ∃ n53, n53 < n52 ∧ Shr (I50 n53 [(.box (bc (xs60.headD .any))), (.box (bc (xs60.tail.headD .any))), (.box (bc (xs60.tail.tail.headD .any))), (.box c98), (xs60.tail.tail.tail.tail.headD .any), t99]) H96)
  (bnd (aBinN .add (xs54.tail.tail.tail.tail.tail.headD .any) (.int .i64 1)) fun t100 =>
  ∃ n53, n53 < n52 ∧ Shr (I50 n53 [(.box (bc (xs60.headD .any))), (.box (bc (xs60.tail.headD .any))), (.box (bc (xs60.tail.tail.headD .any))), (.box (bc (xs60.tail.tail.tail.headD .any))), (xs60.tail.tail.tail.tail.headD .any), t100]) H61))
  (bnd (aNot (xs54.tail.tail.tail.tail.headD .any)) fun t101 =>
  cnd t101
  (bnd (partOf false 1 (bc (xs54.tail.tail.tail.headD .any)) 0) fun t102 =>
  bnd (partOf true 5 (bc (xs54.tail.headD .any)) 0) fun t103 =>
  ACalls P n_s_l05Copy [t103] H55 fun v104 H105 =>
  bnd (bsl 5 1 [(.int .i64 0), (.int .i64 0), (.int .i64 0), .nils, .nils] [(0, v104)]) fun r106 =>
  ∀ o107, H105 o107 = none →
  bnd (rowsOf (upd H105 o107 ⟨5, r106⟩) 5 (.slice o107 0 1 (some 1))) fun r110 =>
  appendK (upd H105 o107 ⟨5, r106⟩) 5 72 t102 r110 fun v108 H109 =>
  bnd (stz 1 (bc (xs54.tail.tail.tail.headD .any)) 0 v108) fun c111 =>
  bnd (partOf true 1 c111 0) fun t112 =>
  bnd (stz 1 (bc (xs54.tail.tail.headD .any)) 0 t112) fun c113 =>
  bnd (partOf true 1 c113 0) fun t114 =>
  Ret R (.tup [t114, (.int .i64 0)]) H109)
  (bnd (partOf true 1 (bc (xs54.tail.tail.tail.headD .any)) 0) fun t115 =>
  bnd (stz 1 (bc (xs54.tail.tail.headD .any)) 0 t115) fun c116 =>
  bnd (partOf true 1 c116 0) fun t117 =>
  Ret R (.tup [t117, (.int .i64 0)]) H55))
def F'_s_Install (R : V → Heap → Prop) (a0 a1 : V) (H : Heap) : Prop :=
  boxK a0 (boxK a1 (bnd (partOf true 1 (cellsOf a0) 0) fun t1 =>
  ACalls P n_s_DbOk [t1] H fun v2 H3 =>
  bnd (aNot v2) fun t4 =>
  gd t4 false
  (bnd (partOf true 5 (cellsOf a1) 0) fun t5 =>
  ACalls P n_s_LsaOk [t5] H3 fun v6 H7 =>
  bnd (aNot v6) fun t8 =>
  cnd t8
  (bnd (partOf true 1 (cellsOf a0) 0) fun t9 =>
  ACalls P n_s_l06Copy [t9] H7 fun v10 H11 =>
  bnd (stz 1 [.nils] 0 v10) fun c12 =>
  bnd (partOf true 1 c12 0) fun t13 =>
  Ret R (.tup [t13, (.int .i64 3)]) H11)
  (bnd (partOf true 1 (cellsOf a0) 0) fun t14 =>
  bnd (partOf false 1 (cellsOf a1) 0) fun t15 =>
  ACalls P n_s_FindLsa [t14, t15] H7 fun v16 H17 =>
  bnd (aExtract 0 v16) fun t18 =>
  bnd (aExtract 1 v16) fun t19 =>
  bnd (stz 5 [(.int .i64 0), (.int .i64 0), (.int .i64 0), .nils, .nils] 0 t18) fun c20 =>
  bnd (aNot t19) fun t21 =>
  gd t21 true
  (bnd (partOf false 1 (cellsOf a1) 2) fun t22 =>
  bnd (aBinN .eql t22 (.int .i64 60)) fun t23 =>
  cnd t23
  (bnd (partOf true 1 (cellsOf a0) 0) fun t24 =>
  ACalls P n_s_l06Copy [t24] H17 fun v25 H26 =>
  bnd (stz 1 [.nils] 0 v25) fun c27 =>
  bnd (partOf true 1 c27 0) fun t28 =>
  Ret R (.tup [t28, (.int .i64 1)]) H26)
  (∃ J29 : List V → Heap → Prop,
  (cnd t19
  (bnd (partOf true 5 (cellsOf a1) 0) fun t32 =>
  bnd (partOf true 5 c20 0) fun t33 =>
  ACalls P n_s_Newer [t32, t33] H17 fun v34 H35 =>
  bnd (aBinN .eql v34 (.int .i64 0)) fun t36 =>
  cnd t36
  (bnd (partOf true 1 (cellsOf a0) 0) fun t37 =>
  ACalls P n_s_l06Copy [t37] H35 fun v38 H39 =>
  bnd (stz 1 [.nils] 0 v38) fun c40 =>
  bnd (partOf true 1 c40 0) fun t41 =>
  Ret R (.tup [t41, (.int .i64 1)]) H39)
  (bnd (aBinN .eql v34 (.int .i64 (-1))) fun t42 =>
  cnd t42
  (bnd (partOf true 1 (cellsOf a0) 0) fun t43 =>
  ACalls P n_s_l06Copy [t43] H35 fun v44 H45 =>
  bnd (stz 1 [.nils] 0 v44) fun c46 =>
  bnd (partOf true 1 c46 0) fun t47 =>
  Ret R (.tup [t47, (.int .i64 2)]) H45)
  (Shr (J29 [(.box (cellsOf a0)), (.box (cellsOf a1)), (.box [.nils])]) H35)))
  (Shr (J29 [(.box (cellsOf a0)), (.box (cellsOf a1)), (.box [.nils])]) H17)) ∧
  ∀ xs30 H31, J29 xs30 H31 →
  restsInstall_0 R xs30 H31))
  (∃ J118 : List V → Heap → Prop,
  (cnd t19
  (bnd (partOf true 5 (cellsOf a1) 0) fun t121 =>
  bnd (partOf true 5 c20 0) fun t122 =>
  ACalls P n_s_Newer [t121, t122] H17 fun v123 H124 =>
  bnd (aBinN .eql v123 (.int .i64 0)) fun t125 =>
  cnd t125
  (bnd (partOf true 1 (cellsOf a0) 0) fun t126 =>
  ACalls P n_s_l06Copy [t126] H124 fun v127 H128 =>
  bnd (stz 1 [.nils] 0 v127) fun c129 =>
  bnd (partOf true 1 c129 0) fun t130 =>
  Ret R (.tup [t130, (.int .i64 1)]) H128)
  (bnd (aBinN .eql v123 (.int .i64 (-1))) fun t131 =>
  cnd t131
  (bnd (partOf true 1 (cellsOf a0) 0) fun t132 =>
  ACalls P n_s_l06Copy [t132] H124 fun v133 H134 =>
  bnd (stz 1 [.nils] 0 v133) fun c135 =>
  bnd (partOf true 1 c135 0) fun t136 =>
  Ret R (.tup [t136, (.int .i64 2)]) H134)
  (Shr (J118 [(.box (cellsOf a0)), (.box (cellsOf a1)), (.box [.nils])]) H124)))
  (Shr (J118 [(.box (cellsOf a0)), (.box (cellsOf a1)), (.box [.nils])]) H17)) ∧
  ∀ xs119 H120, J118 xs119 H120 →
  restsInstall_0 R xs119 H120)))
  (bnd (partOf true 1 (cellsOf a0) 0) fun t207 =>
  ACalls P n_s_l06Copy [t207] H3 fun v208 H209 =>
  bnd (stz 1 [.nils] 0 v208) fun c210 =>
  bnd (partOf true 1 c210 0) fun t211 =>
  Ret R (.tup [t211, (.int .i64 3)]) H209)))
theorem fold_s_Install {R : V → Heap → Prop} {a0 a1 : V} {H : Heap} (h : F'_s_Install R a0 a1 H) : F_s_Install R a0 a1 H := h
end Go.Proofs.Ytgoljfhjhcjcpaa
