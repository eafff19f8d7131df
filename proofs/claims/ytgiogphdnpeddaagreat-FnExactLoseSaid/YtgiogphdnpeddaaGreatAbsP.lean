/-
The abstract layer, part P: how the forms are worked out; nothing of a program.
-/
import Derived.Test.YtgiogphdnpeddaaGreatAbsO
set_option linter.all false
namespace Go.Abs

theorem Ret.of {R : V → Heap → Prop} {v : V} {H : Heap} (h : R v H) : Ret R v H := ⟨H, fun _ _ h => h, h⟩
theorem Ret.eq {R : V → Heap → Prop} {v v' : V} {H : Heap} (h : R v' H) (e : v = v') : Ret R v H := Ret.of (e ▸ h)
theorem Ret.shr {R : V → Heap → Prop} {v v' : V} {H H' : Heap} (h : R v' H') (e : v = v') (hs : Abs.sub H' H) : Ret R v H := ⟨H', hs, e ▸ h⟩
theorem Shr.of {J : Heap → Prop} {H : Heap} (h : J H) : Shr J H := ⟨H, fun _ _ h => h, h⟩

@[simp] theorem cellsOf_agg (cs : List V) : cellsOf (.agg cs) = cs := rfl
@[simp] theorem cellsOf_int (k : IntKind) (n : Int) : cellsOf (.int k n) = [.int k n] := rfl
@[simp] theorem cellsOf_bool (b : Bool) : cellsOf (.bool b) = [.bool b] := rfl
@[simp] theorem cellsOf_slice (o s n : Nat) (c : Option Nat) : cellsOf (.slice o s n c) = [.slice o s n c] := rfl
@[simp] theorem cellsOf_nils : cellsOf .nils = [.nils] := rfl
@[simp] theorem cellsOf_ro (rows : List (List V)) : cellsOf (.ro rows) = [.ro rows] := rfl
@[simp] theorem cellsOf_ptr (o r c : Nat) : cellsOf (.ptr o r c) = [.ptr o r c] := rfl
@[simp] theorem cellOk_int (k : IntKind) (n : Int) : cellOk (.int k n) = true := rfl
@[simp] theorem cellOk_bool (b : Bool) : cellOk (.bool b) = true := rfl
@[simp] theorem cellOk_slice (o s n : Nat) (c : Option Nat) : cellOk (.slice o s n c) = true := rfl
@[simp] theorem cellOk_nils : cellOk .nils = true := rfl
@[simp] theorem cellOk_ro (rows : List (List V)) : cellOk (.ro rows) = true := rfl
@[simp] theorem cellOk_ptr (o r c : Nat) : cellOk (.ptr o r c) = true := rfl
@[simp] theorem notAny_int (k : IntKind) (n : Int) : notAny (.int k n) = true := rfl
@[simp] theorem notAny_bool (b : Bool) : notAny (.bool b) = true := rfl
@[simp] theorem notAny_agg (cs : List V) : notAny (.agg cs) = true := rfl
@[simp] theorem notAny_slice (o s n : Nat) (c : Option Nat) : notAny (.slice o s n c) = true := rfl
@[simp] theorem notAny_nils : notAny .nils = true := rfl
@[simp] theorem notAny_ro (rows : List (List V)) : notAny (.ro rows) = true := rfl
@[simp] theorem bc_box (cs : List V) : bc (.box cs) = cs := rfl
@[simp] theorem aggOf_agg (cs : List V) : aggOf (.agg cs) = some cs := rfl

@[simp] theorem boxK_iff (v : V) (K : Prop) : boxK v K ↔ (cellsOf v).all cellOk = true ∧ K := Iff.rfl
@[simp] theorem aNot_bool (b : Bool) : aNot (.bool b) = some (.bool (!b)) := rfl
@[simp] theorem aNeg_int (k : IntKind) (n : Int) : aNeg (.int k n) = some (.int k (k.wrap (0 - n))) := rfl
@[simp] theorem aCv_int (k k' : IntKind) (n : Int) : aCv k (.int k' n) = some (.int k (k.wrap n)) := rfl
@[simp] theorem aPick_bool (b : Bool) (x y : V) : aPick (.bool b) x y = some (if b then x else y) := by cases b <;> rfl
@[simp] theorem aExtract_tup (i : Nat) (vs : List V) : aExtract i (.tup vs) = vs[i]? := rfl
@[simp] theorem natOf_int (k : IntKind) (n : Int) : natOf (.int k n) = if 0 ≤ n then some n.toNat else none := rfl
@[simp] theorem lenOf_slice (o s n : Nat) (c : Option Nat) : lenOf (.slice o s n c) = some n := rfl
@[simp] theorem lenOf_nils : lenOf .nils = some 0 := rfl
@[simp] theorem lenOf_ro (rows : List (List V)) : lenOf (.ro rows) = some rows.length := rfl

@[simp] theorem gb_iff (b : Bool) (A B : Prop) : gb b A B ↔ (b = true → A) ∧ (b = false → B) := by cases b <;> simp [gb]
@[simp] theorem gd_true (b : Bool) (A B : Prop) : gd (.bool b) true A B ↔ (b = true → A) ∧ (b = false → B) := by cases b <;> simp [gd, gb]
@[simp] theorem gd_false (b : Bool) (A B : Prop) : gd (.bool b) false A B ↔ (b = true → B) ∧ (b = false → A) := by cases b <;> simp [gd, gb]
@[simp] theorem gd3_true (b : Bool) (A B C : Prop) : gd3 (.bool b) true A B C ↔ (b = true → A) ∧ (b = false → B) := by cases b <;> simp [gd3, gb]
@[simp] theorem gd3_false (b : Bool) (A B C : Prop) : gd3 (.bool b) false A B C ↔ (b = true → B) ∧ (b = false → A) := by cases b <;> simp [gd3, gb]
@[simp] theorem cnd_bool (b : Bool) (A B : Prop) : cnd (.bool b) A B ↔ (b = true → A) ∧ (b = false → B) := by cases b <;> simp [cnd]

section
variable (k : IntKind) (a b : Int)
@[simp] theorem aBinN_add : aBinN .add (.int k a) (.int k b) = some (.int k (k.wrap (a + b))) := by simp [aBinN, aNum]
@[simp] theorem aBinN_sub : aBinN .sub (.int k a) (.int k b) = some (.int k (k.wrap (a - b))) := by simp [aBinN, aNum]
@[simp] theorem aBinN_mul : aBinN .mul (.int k a) (.int k b) = some (.int k (k.wrap (a * b))) := by simp [aBinN, aNum]
@[simp] theorem aBinN_quo : aBinN .quo (.int k a) (.int k b) = if b = 0 then none else some (.int k (k.wrap (a.tdiv b))) := by simp [aBinN, aNum]
@[simp] theorem aBinN_rem : aBinN .rem (.int k a) (.int k b) = if b = 0 then none else some (.int k (a.tmod b)) := by simp [aBinN, aNum]
@[simp] theorem aBinN_eql : aBinN .eql (.int k a) (.int k b) = some (.bool (decide (a = b))) := by simp [aBinN, aNum]; rfl
@[simp] theorem aBinN_neq : aBinN .neq (.int k a) (.int k b) = some (.bool (!decide (a = b))) := by simp [aBinN, aNum]; rfl
@[simp] theorem aBinN_lss : aBinN .lss (.int k a) (.int k b) = some (.bool (decide (a < b))) := by simp [aBinN, aNum]
@[simp] theorem aBinN_leq : aBinN .leq (.int k a) (.int k b) = some (.bool (decide (a ≤ b))) := by simp [aBinN, aNum]
@[simp] theorem aBinN_gtr : aBinN .gtr (.int k a) (.int k b) = some (.bool (decide (b < a))) := by simp [aBinN, aNum]
@[simp] theorem aBinN_geq : aBinN .geq (.int k a) (.int k b) = some (.bool (decide (b ≤ a))) := by simp [aBinN, aNum]
@[simp] theorem aBinB_eql (a b : Bool) : aBinB .eql (.bool a) (.bool b) = some (.bool (a == b)) := rfl
@[simp] theorem aBinB_neq (a b : Bool) : aBinB .neq (.bool a) (.bool b) = some (.bool (!(a == b))) := rfl
@[simp] theorem aBinZ_eql_nil : aBinZ .eql .nils .nils = some (.bool true) := rfl
@[simp] theorem aBinZ_eql_slice (o s n : Nat) (c : Option Nat) : aBinZ .eql (.slice o s n c) .nils = some (.bool false) := rfl
@[simp] theorem aBinZ_neq_nil : aBinZ .neq .nils .nils = some (.bool false) := rfl
@[simp] theorem aBinZ_neq_slice (o s n : Nat) (c : Option Nat) : aBinZ .neq (.slice o s n c) .nils = some (.bool true) := rfl
end

theorem partOf_f (sz : Nat) (cs : List V) (c : Nat) : partOf false sz cs c = cs[c]? := rfl
theorem partOf_t (sz : Nat) (cs : List V) (c : Nat) : partOf true sz cs c = if c + sz ≤ cs.length then some (.agg ((cs.drop c).take sz)) else none := rfl
attribute [simp] partOf_f partOf_t

theorem stz_eq {sz : Nat} {row : List V} {c : Nat} {v : V} (h1 : (cellsOf v).length = sz) (h2 : c + sz ≤ row.length) (h3 : (cellsOf v).all cellOk = true) : stz sz row c v = some (putCells row c (cellsOf v)) := by
  unfold stz; rw [if_pos (by simp [h1, h2]; simpa using h3)]


end Go.Abs
