/-
Contracts: advertisements as bytes.
-/
import Derived.Test.YtaippfedjjjpeaaGreatDbF
import Derived.Test.YtaippfedjjjpeaaGreatAbs3
set_option linter.all false
namespace Go.Proofs.YtaippfedjjjpeaaGreat
open Go Go.Abs Go.Proofs

abbrev enB (x : Int) : List V := [.int .u8 x]
theorem enB_len {xs : List Int} : ∀ r ∈ xs.map enB, r.length = 1 := by
  intro r hr
  obtain ⟨x, _, rfl⟩ := List.mem_map.1 hr
  rfl
def byteAt (x : Int) (i : Nat) : Int := (x / 2 ^ (8 * i)) % 256
def wideL (x : Int) : Nat → List Int
  | 0 => []
  | n + 1 => byteAt x n :: wideL x n
@[simp] theorem wide_len (x : Int) : ∀ n, (wideL x n).length = n
  | 0 => rfl
  | n + 1 => by simp [wideL, wide_len x n]
theorem wide_get (x : Int) : ∀ {n k : Nat}, k < n → (wideL x n)[n - (k + 1)]? = some (byteAt x k)
  | n + 1, k, h => by
    by_cases e : k = n
    · subst e; simp [wideL]
    · have := wide_get x (n := n) (k := k) (by omega)
      have e1 : n + 1 - (k + 1) = (n - (k + 1)) + 1 := by omega
      rw [e1, wideL, List.getElem?_cons_succ]
      exact this
theorem wide_take {x : Int} {n k : Nat} (h : k < n) : (wideL x n).take (n - k) = (wideL x n).take (n - (k + 1)) ++ [byteAt x k] := by
  obtain ⟨hi, he⟩ := List.getElem?_eq_some_iff.1 (wide_get x h)
  have e1 : n - k = n - (k + 1) + 1 := by omega
  rw [e1, List.take_succ_eq_append_getElem hi, he]
theorem u8w (x : Int) : IntKind.u8.wrap x = x % 256 := by
  show IntKind.wrap .u8 x = _
  unfold IntKind.wrap
  simp [IntKind.bits, IntKind.signed]
theorem aCv_int (k k' : IntKind) (x : Int) : aCv k (.int k' x) = some (.int k (k.wrap x)) := rfl
theorem shr_int {k k' : IntKind} {a b : Int} (h : 0 ≤ b) : aBinN .shr (.int k a) (.int k' b) = some (.int k (a.fdiv (2 ^ (min b.toNat k.bits)))) := by
  show (if b < 0 then none else some (V.int k (a.fdiv (2 ^ (min b.toNat k.bits))))) = _
  rw [if_neg (by omega)]
theorem and_255 {a : Int} : aBinN .and (.int .i64 a) (.int .i64 255) = some (.int .i64 (IntKind.i64.wrap ((BitVec.ofInt 64 a &&& BitVec.ofInt 64 255).toNat))) := rfl
theorem low_byte (y : Int) : IntKind.u8.wrap (IntKind.i64.wrap ((BitVec.ofInt 64 y &&& BitVec.ofInt 64 255).toNat : Int)) = y % 256 := by
  have h1 : (BitVec.ofInt 64 y &&& BitVec.ofInt 64 255).toNat = (y % 256).toNat := by
    rw [BitVec.toNat_and, BitVec.toNat_ofInt, BitVec.toNat_ofInt]
    have e : ((255 : Int) % ((2 ^ 64 : Nat) : Int)).toNat = 2 ^ 8 - 1 := by decide
    rw [e, Nat.and_two_pow_sub_one_eq_mod]
    omega
  rw [h1, i64_in (by omega) (by omega), u8w]
  omega
theorem shr_byte {x : Int} {k : Nat} (hk : k < 8) : x.fdiv (2 ^ (min (8 * k) 64)) % 256 = byteAt x k := by
  have e : min (8 * k) 64 = 8 * k := by omega
  rw [e, Int.fdiv_eq_ediv_of_nonneg _ (by exact Int.le_of_lt (Int.pow_pos (by omega)))]
  rfl

def InvW (H : Heap) (bs : List Int) (x : Int) (n : Nat) (m : Nat) (ys : List V) (Hc : Heap) : Prop :=
  ∃ (j : Nat) (u : V), j ≤ n ∧ ys = [u, .int .i64 ((j : Int) - 1)] ∧ m = j ∧ Held H 1 ((bs ++ (wideL x n).take (n - j)).map enB) u Hc
def InvJ (H : Heap) (bs cs : List Int) (m : Nat) (ys : List V) (Hc : Heap) : Prop :=
  ∃ (i : Nat) (u : V), i ≤ cs.length ∧ ys = [u, .int .i64 (i : Nat)] ∧ m = cs.length - i ∧ Held H 1 ((bs ++ cs.take i).map enB) u Hc
end Go.Proofs.YtaippfedjjjpeaaGreat
/-
Contracts: the encoding of an advertisement, both sides.
-/
namespace Go.Proofs.YtaippfedjjjpeaaGreat
open Go Go.Abs Go.Proofs

def lkB (k : TLink) : List Int := (k.1 % 256) :: wideL k.2 2
def stB (s : TStub) : List Int := (wideL s.1 2 ++ [s.2.1 % 256]) ++ wideL s.2.2 2
def headB (a : TLsa) : List Int := ([a.origin % 256] ++ wideL a.seq 3) ++ [(a.links.length : Int) % 256]
def midB (a : TLsa) : List Int := (headB a ++ a.links.flatMap lkB) ++ [(a.stubs.length : Int) % 256]
def lsaB (a : TLsa) : List Int := midB a ++ a.stubs.flatMap stB
theorem fm_succ {α : Type} {f : α → List Int} {xs : List α} {i : Nat} (h : i < xs.length) : (xs.take (i + 1)).flatMap f = (xs.take i).flatMap f ++ f xs[i] := by
  rw [List.take_succ_eq_append_getElem h, List.flatMap_append]
  simp
theorem fm_len {α : Type} {f : α → List Int} {c : Nat} (hf : ∀ x, (f x).length = c) : ∀ xs : List α, (xs.flatMap f).length = c * xs.length
  | [] => by simp
  | a :: xs => by
    rw [List.flatMap_cons, List.length_append, hf, fm_len hf xs, List.length_cons, Nat.mul_add]
    omega
theorem lkB_len (k : TLink) : (lkB k).length = 3 := by simp [lkB]
theorem stB_len (s : TStub) : (stB s).length = 5 := by simp [stB]
def InvB {α : Type} (H : Heap) (pre : List V) (B : List Int) (f : α → List Int) (xs : List α) (m : Nat) (ys : List V) (Hc : Heap) : Prop :=
  ∃ (i : Nat) (u : V), i ≤ xs.length ∧ ys = pre ++ [u, .int .i64 (i : Nat)] ∧ m = xs.length - i ∧ Held H 1 ((B ++ (xs.take i).flatMap f).map enB) u Hc
theorem headB_len (a : TLsa) : (headB a).length = 5 := by simp [headB]
theorem midB_len (a : TLsa) : (midB a).length = 6 + 3 * a.links.length := by
  rw [midB, List.length_append, List.length_append, headB_len, fm_len lkB_len]
  simp; omega
theorem one_rb {H : Heap} {o : Nat} {x : Int} (ho : H o = none) : Held H 1 ([x].map enB) (.slice o 0 1 (some 1)) (upd H o ⟨1, [[.int .u8 x]]⟩) := Held.full ho rfl
/-- What is held over a greater heap, taken back. -/
theorem held_back {H Ha H' : Heap} {sz : Nat} {rows : List (List V)} {u : V} (h : Held Ha sz rows u H') (hs : Abs.sub H Ha) : ∃ H'', Held H sz rows u H'' ∧ Abs.sub H'' H' := h.shrink hs

end Go.Proofs.YtaippfedjjjpeaaGreat
/-
Contracts: checksums; which advertisement is newer; offers.
-/
namespace Go.Proofs.YtaippfedjjjpeaaGreat
open Go Go.Abs Go.Proofs

def stepS (h c : Int) : Int := (257 * h + c + 1) % 1000003
def sumR (bs : List Int) : Int := bs.foldl stepS 1
def lsaSum (a : TLsa) : Int := sumR (lsaB a)
theorem sumR_in (bs : List Int) : 0 ≤ sumR bs ∧ sumR bs < 1000003 := by
  have : ∀ (bs : List Int) (h : Int), 0 ≤ h ∧ h < 1000003 → 0 ≤ bs.foldl stepS h ∧ bs.foldl stepS h < 1000003 := by
    intro bs
    induction bs with
    | nil => exact fun h hh => hh
    | cons c bs ih => exact fun h _ => ih _ (by unfold stepS; omega)
  exact this bs 1 (by omega)
theorem sumR_succ {bs : List Int} {i : Nat} (h : i < bs.length) : sumR (bs.take (i + 1)) = stepS (sumR (bs.take i)) bs[i] := by
  unfold sumR
  rw [List.take_succ_eq_append_getElem h, List.foldl_append]
  rfl
def isB (c : Int) : Prop := 0 ≤ c ∧ c < 256
theorem wide_in {x : Int} : ∀ {n : Nat}, ∀ c ∈ wideL x n, isB c
  | n + 1, c, h => by
    rcases List.mem_cons.1 h with rfl | h
    · unfold byteAt isB; omega
    · exact wide_in c h
theorem mod_in (x : Int) : isB (x % 256) := by unfold isB; omega
theorem lkB_in {k : TLink} : ∀ c ∈ lkB k, isB c := by
  intro c h
  rcases List.mem_cons.1 h with rfl | h
  · exact mod_in _
  · exact wide_in c h
theorem stB_in {k : TStub} : ∀ c ∈ stB k, isB c := by
  intro c h
  rcases List.mem_append.1 h with h | h
  · rcases List.mem_append.1 h with h | h
    · exact wide_in c h
    · simp at h; subst h; exact mod_in _
  · exact wide_in c h
theorem lsaB_in {a : TLsa} : ∀ c ∈ lsaB a, isB c := by
  intro c h
  rcases List.mem_append.1 h with h | h
  · rcases List.mem_append.1 h with h | h
    · rcases List.mem_append.1 h with h | h
      · rcases List.mem_append.1 h with h | h
        · rcases List.mem_append.1 h with h | h
          · simp at h; subst h; exact mod_in _
          · exact wide_in c h
        · simp at h; subst h; exact mod_in _
      · obtain ⟨k, _, hk⟩ := List.mem_flatMap.1 h
        exact lkB_in c hk
    · simp at h; subst h; exact mod_in _
  · obtain ⟨k, _, hk⟩ := List.mem_flatMap.1 h
    exact stB_in c hk
theorem lsaB_len {a : TLsa} : (lsaB a).length = 6 + 3 * a.links.length + 5 * a.stubs.length := by
  rw [lsaB, List.length_append, midB_len, fm_len stB_len]
theorem rem_int {a b : Int} (ha : 0 ≤ a) (hb : b ≠ 0) : aBinN .rem (.int .i64 a) (.int .i64 b) = some (.int .i64 (a % b)) := by
  show (if IntKind.i64 = IntKind.i64 then (if b = 0 then none else some (V.int .i64 (a.tmod b))) else none) = _
  rw [if_pos rfl, if_neg hb, Int.tmod_eq_emod_of_nonneg ha]
def InvSum (H : Heap) (bs : List Int) (m : Nat) (ys : List V) (Hc : Heap) : Prop :=
  ∃ i : Nat, i ≤ bs.length ∧ ys = [.int .i64 (sumR (bs.take i)), .int .i64 (i : Nat)] ∧ m = bs.length - i ∧ Hc = H
def signI (x : Int) : Int := if 0 < x then 1 else if x < 0 then -1 else 0
def newerR (a b : TLsa) : Int :=
  if a.seq ≠ b.seq then signI (a.seq - b.seq)
  else if lsaSum a ≠ lsaSum b then signI (lsaSum a - lsaSum b)
  else if a.age = b.age then 0
  else if a.age = 60 ∨ b.age = 60 then signI (a.age - b.age)
  else if a.age - b.age > 10 ∨ b.age - a.age > 10 then signI (b.age - a.age)
  else 0
def InvOr (x y : Int) (H : Heap) (m : Nat) (ys : List V) (Hc : Heap) : Prop := ∃ i : Nat, i ≤ 2 ∧ ys = [.int .i64 (i : Nat)] ∧ m = 2 - i ∧ Hc = H ∧ (0 < i → x = 0) ∧ (1 < i → y = 0)
theorem sign_cmp (a b : Int) : signI (a - b) = cmpI a b := by
  unfold signI cmpI
  repeat' split
  all_goals omega
theorem cmp_ne (a b : Int) : cmpI a b ≠ 0 ↔ a ≠ b := by
  unfold cmpI
  split
  · simp; omega
  · split
    · simp; omega
    · simp; omega
theorem newer_alt {x y : TLsa} (hx : lsaOk x) (hy : lsaOk y) : newerR x y = if (if cmpI x.seq y.seq ≠ 0 then cmpI x.seq y.seq else cmpI (lsaSum x) (lsaSum y)) ≠ 0 then (if cmpI x.seq y.seq ≠ 0 then cmpI x.seq y.seq else cmpI (lsaSum x) (lsaSum y))
    else if ¬ (x.age = 60 ↔ y.age = 60) then (if x.age = 60 then 1 else -1) else if 10 < x.age - y.age then -1 else if 10 < y.age - x.age then 1 else 0 := by
  have a1 := hx.2.2.1
  have a2 := hy.2.2.1
  have hsg := sign_cmp
  have hne := cmp_ne
  unfold newerR
  rw [hsg, hsg]
  by_cases q1 : x.seq = y.seq
  · have e1 : cmpI x.seq y.seq = 0 := by rw [q1]; unfold cmpI; simp
    rw [if_neg (by simpa using q1), e1]
    simp only [ne_eq, not_true_eq_false, if_false]
    by_cases q2 : lsaSum x = lsaSum y
    · have e2 : cmpI (lsaSum x) (lsaSum y) = 0 := by rw [q2]; unfold cmpI; simp
      rw [e2]
      simp only [q2, ne_eq, not_true_eq_false, if_false]
      unfold signI
      repeat' split
      all_goals omega
    · have := (hne (lsaSum x) (lsaSum y)).2 q2
      simp [q2, this]
  · have := (hne x.seq y.seq).2 q1
    simp [q1, this]
end Go.Proofs.YtaippfedjjjpeaaGreat
/-
A form with its repeated part folded; printed by a program.
-/
namespace Go.Proofs.YtaippfedjjjpeaaGreat
open Go Go.Abs Go.Proofs

def restsInstall_0 (R : V → Heap → Prop) (xs30 : List V) (H31 : Heap) : Prop :=
  bnd (fillZ [.nils] []) fun c48 =>
  bnd (stz 1 [.nils] 0 (.agg c48)) fun c49 =>
  ∃ (I50 : Nat → List V → Heap → Prop) (n51 : Nat), Shr (I50 n51 [(.box (bc (xs30.headD .any))), (.box (bc (xs30.tail.headD .any))), (.box (bc (xs30.tail.tail.headD .any))), (.box c49), (.bool false), (.int .i64 0)]) H31 ∧
  ∀ n52 xs54 H55, I50 n52 xs54 H55 →
  bnd (partOf false 1 (bc (xs54.headD .any)) 0) fun t56 =>
  bnd (lenOf t56) fun n57 =>
  bnd (aBinN .lss (xs54.tail.tail.tail.tail.tail.headD .any) (.int .i64 (n57 : Nat))) fun t58 =>
  cnd t58
  (∃ J59 : List V → Heap → Prop,
  (∃ S62, Abs.sub S62 H55 ∧
  bnd (aNot (xs54.tail.tail.tail.tail.headD .any)) fun t63 =>
  gd t63 true
  (bnd (partOf false 1 (bc (xs54.tail.headD .any)) 0) fun t64 =>
  bnd (partOf false 1 (bc (xs54.headD .any)) 0) fun t65 =>
  bnd (aIndex S62 5 t65 (xs54.tail.tail.tail.tail.tail.headD .any)) fun t66 =>
  bnd (aField 0 t66) fun t67 =>
  bnd (aLd false 1 S62 t67) fun t68 =>
  bnd (aBinN .leq t64 t68) fun t69 =>
  cnd t69
  (bnd (partOf false 1 (bc (xs54.tail.tail.tail.headD .any)) 0) fun t70 =>
  bnd (partOf true 5 (bc (xs54.tail.headD .any)) 0) fun t71 =>
  ACalls P n_s_l05Copy [t71] H55 fun v72 H73 =>
  bnd (bsl 5 1 [(.int .i64 0), (.int .i64 0), (.int .i64 0), .nils, .nils] [(0, v72)]) fun r74 =>
  ∀ o75, H73 o75 = none →
  bnd (rowsOf (upd H73 o75 ⟨5, r74⟩) 5 (.slice o75 0 1 (some 1))) fun r78 =>
  appendK (upd H73 o75 ⟨5, r74⟩) 5 72 t70 r78 fun v76 H77 =>
  bnd (stz 1 (bc (xs54.tail.tail.tail.headD .any)) 0 v76) fun c79 =>
  Shr (J59 [(.box (bc (xs54.headD .any))), (.box (bc (xs54.tail.headD .any))), (.box (bc (xs54.tail.tail.headD .any))), (.box c79), (.bool true)]) H77)
  (Shr (J59 [(.box (bc (xs54.headD .any))), (.box (bc (xs54.tail.headD .any))), (.box (bc (xs54.tail.tail.headD .any))), (.box (bc (xs54.tail.tail.tail.headD .any))), (xs54.tail.tail.tail.tail.headD .any)]) H55))
  (Shr (J59 [(.box (bc (xs54.headD .any))), (.box (bc (xs54.tail.headD .any))), (.box (bc (xs54.tail.tail.headD .any))), (.box (bc (xs54.tail.tail.tail.headD .any))), (xs54.tail.tail.tail.tail.headD .any)]) H55)) ∧
  ∀ xs60 H61, J59 xs60 H61 →
  ∃ S80, Abs.sub S80 H61 ∧
  bnd (partOf false 1 (bc (xs60.headD .any)) 0) fun t81 =>
  bnd (aIndex S80 5 t81 (xs54.tail.tail.tail.tail.tail.headD .any)) fun t82 =>
  bnd (aField 0 t82) fun t83 =>
  bnd (aLd false 1 S80 t83) fun t84 =>
  bnd (partOf false 1 (bc (xs60.tail.headD .any)) 0) fun t85 =>
  bnd (aBinN .neq t84 t85) fun t86 =>
  cnd t86
  (bnd (partOf false 1 (bc (xs60.tail.tail.tail.headD .any)) 0) fun t87 =>
  bnd (partOf false 1 (bc (xs60.headD .any)) 0) fun t88 =>
  bnd (aIndex H61 5 t88 (xs54.tail.tail.tail.tail.tail.headD .any)) fun t89 =>
  bnd (aLd true 5 H61 t89) fun t90 =>
  ACalls P n_s_l05Copy [t90] H61 fun v91 H92 =>
  bnd (bsl 5 1 [(.int .i64 0), (.int .i64 0), (.int .i64 0), .nils, .nils] [(0, v91)]) fun r93 =>
  ∀ o94, H92 o94 = none →
  bnd (rowsOf (upd H92 o94 ⟨5, r93⟩) 5 (.slice o94 0 1 (some 1))) fun r97 =>
  appendK (upd H92 o94 ⟨5, r93⟩) 5 72 t87 r97 fun v95 H96 =>
  bnd (stz 1 (bc (xs60.tail.tail.tail.headD .any)) 0 v95) fun c98 =>
  bnd (aBinN .add (xs54.tail.tail.tail.tail.tail.headD .any) (.int .i64 1)) fun t99 =>
  ∃ n53, n53 < n52 ∧ Shr (I50 n53 [(.box (bc (xs60.headD .any))), (.box (bc (xs60.tail.headD .any))), (.box (bc (xs60.tail.tail.headD .any))), (.box c98), (xs60.tail.tail.tail.tail.headD .any), t99]) H96)
  (bnd (aBinN .add (xs54.tail.tail.tail.tail.tail.headD .any) (.int .i64 1)) fun t100 =>
  ∃ n53, n53 < n52 ∧ Shr (I50 n53 [(.box (bc (xs60.headD .any))), (.box (bc (xs60.tail.headD .any))), (.box (bc (xs60.tail.tail.headD .any))), (.box (bc (xs60.tail.tail.tail.headD .any))), (xs60.tail.tail.tail.tail.headD .any), t100]) H61))
  (bnd (aNot (xs54.tail.tail.tail.tail.headD .any)) fun t101 =>
  cnd t101
  (bnd (partOf false 1 (bc (xs54.tail.tail.tail.headD .any)) 0) fun t102 =>
  bnd (partOf true 5 (bc (xs54.tail.headD .any)) 0) fun t103 =>
  ACalls P n_s_l05Copy [t103] H55 fun v104 H105 =>
  bnd (bsl 5 1 [(.int .i64 0), (.int .i64 0), (.int .i64 0), .nils, .nils] [(0, v104)]) fun r106 =>
  ∀ o107, H105 o107 = none →
  bnd (rowsOf (upd H105 o107 ⟨5, r106⟩) 5 (.slice o107 0 1 (some 1))) fun r110 =>
  appendK (upd H105 o107 ⟨5, r106⟩) 5 72 t102 r110 fun v108 H109 =>
  bnd (stz 1 (bc (xs54.tail.tail.tail.headD .any)) 0 v108) fun c111 =>
  bnd (partOf true 1 c111 0) fun t112 =>
  bnd (stz 1 (bc (xs54.tail.tail.headD .any)) 0 t112) fun c113 =>
  bnd (partOf true 1 c113 0) fun t114 =>
  Ret R (.tup [t114, (.int .i64 0)]) H109)
  (bnd (partOf true 1 (bc (xs54.tail.tail.tail.headD .any)) 0) fun t115 =>
  bnd (stz 1 (bc (xs54.tail.tail.headD .any)) 0 t115) fun c116 =>
  bnd (partOf true 1 c116 0) fun t117 =>
  Ret R (.tup [t117, (.int .i64 0)]) H55))
end Go.Proofs.YtaippfedjjjpeaaGreat
/-
Contracts: an advertisement is installed (the reference's way); offers.
-/
namespace Go.Proofs.YtaippfedjjjpeaaGreat
open Go Go.Abs Go.Proofs

def offerR (xs : List TLsa) (l : TLsa) : Int :=
  if (findR xs l.origin).2 then (if newerR l (findR xs l.origin).1 = 1 then 0 else if newerR l (findR xs l.origin).1 = 0 then 1 else 2) else if l.age = 60 then 1 else 0
def stepP (l : TLsa) (o : List TLsa × Bool) (x : TLsa) : List TLsa × Bool :=
  let o1 := if o.2 = false ∧ l.origin ≤ x.origin then (o.1 ++ [l], true) else o
  if x.origin ≠ l.origin then (o1.1 ++ [x], o1.2) else o1
def foldP (l : TLsa) (xs : List TLsa) : List TLsa × Bool := xs.foldl (stepP l) ([], false)
def putL (l : TLsa) (xs : List TLsa) : List TLsa := if (foldP l xs).2 then (foldP l xs).1 else (foldP l xs).1 ++ [l]
def installR (xs : List TLsa) (l : TLsa) : List TLsa × Int := if dbOk xs ∧ lsaOk l then (if offerR xs l = 0 then (putL l xs, 0) else (xs, offerR xs l)) else (xs, 3)
theorem foldP_succ {l : TLsa} {xs : List TLsa} {i : Nat} (h : i < xs.length) : foldP l (xs.take (i + 1)) = stepP l (foldP l (xs.take i)) xs[i] := by
  unfold foldP
  rw [List.take_succ_eq_append_getElem h, List.foldl_append]
  rfl
theorem foldP_len (l : TLsa) : ∀ (xs : List TLsa), (foldP l xs).1.length ≤ 2 * xs.length := by
  have : ∀ (xs : List TLsa) (o : List TLsa × Bool), (xs.foldl (stepP l) o).1.length ≤ o.1.length + 2 * xs.length := by
    intro xs
    induction xs with
    | nil => intro o; simp
    | cons x xs ih =>
      intro o
      have h1 := ih (stepP l o x)
      have h2 : (stepP l o x).1.length ≤ o.1.length + 2 := by
        unfold stepP
        simp only
        split <;> split <;> simp
      simp only [List.foldl_cons, List.length_cons]
      omega
  intro xs
  have := this xs ([], false)
  unfold foldP
  simpa using this
theorem sign_in (z : Int) : signI z = -1 ∨ signI z = 0 ∨ signI z = 1 := by
  unfold signI
  repeat' split
  all_goals simp
theorem newer_in (x y : TLsa) : newerR x y = -1 ∨ newerR x y = 0 ∨ newerR x y = 1 := by
  unfold newerR
  repeat' split
  all_goals first | exact sign_in _ | simp

def InvIn (c : Bool) (H : Heap) (xs : List TLsa) (w : V) (l : TLsa) (r : List V) (m : Nat) (ys : List V) (Hc : Heap) : Prop :=
  ∃ (i : Nat) (u : V), i ≤ xs.length ∧ ys = [.box [w], .box r, .box [.nils], .box [u], .bool (foldP l (xs.take i)).2, .int .i64 (i : Nat)] ∧ m = xs.length - i ∧ Dp (dbT c) H (foldP l (xs.take i)).1 [u] Hc
def mid1 (l : TLsa) (o : List TLsa × Bool) (x : TLsa) : List TLsa × Bool := if o.2 = false ∧ l.origin ≤ x.origin then (o.1 ++ [l], true) else o
theorem step_mid (l : TLsa) (o : List TLsa × Bool) (x : TLsa) : stepP l o x = if x.origin ≠ l.origin then ((mid1 l o x).1 ++ [x], (mid1 l o x).2) else mid1 l o x := rfl
def JI (c : Bool) (H : Heap) (w : V) (r : List V) (o : List TLsa × Bool) (ys : List V) (Hc : Heap) : Prop :=
  ∃ u, ys = [.box [w], .box r, .box [.nils], .box [u], .bool o.2] ∧ Dp (dbT c) H o.1 [u] Hc
set_option maxHeartbeats 2000000 in
theorem inst_rest {b b' c : Bool} {xs : List TLsa} {w : V} {l : TLsa} {r : List V} {H : Heap} {K : V → Heap → Prop} (hv : (dbT b).rd H xs [w]) (hr : (lsaT b').rd H l r) (hd : dbOk xs) (hl : lsaOk l)
    (h : ∀ u H', Dp (dbT c) H (putL l xs) [u] H' → K (.tup [.agg [u], .int .i64 0]) H') : restsInstall_0 K [.box [w], .box r, .box [.nils]] H := by
  have hxl := db_len hd
  have cw := rdS_cell hv
  have hr' := hr
  obtain ⟨lv, sv, rfl, g1, g2⟩ := hr
  have hcc := lsa_cell g1 g2
  have hl4 := hl.2.2.2.1
  have hl5 := hl.2.2.2.2.1
  unfold restsInstall_0
  simp [fillZ, stz_eq, putCells]
  refine ⟨InvIn c H xs w l (lsaRow l lv sv), ⟨xs.length, Shr.of ⟨0, .nils, by omega, rfl, by omega, dpS_nil⟩⟩, ?_⟩
  rintro m ys Hc ⟨i, u, hi, rfl, rfl, hu⟩
  have cu := dpS_cell hu
  have hlen := foldP_len l (xs.take i)
  have hlen : (foldP l (xs.take i)).1.length ≤ 20 := by simp at hlen; omega
  simp [cw, rdS_len hv]
  refine ⟨fun hlt => ?_, fun hge => ?_⟩
  · have hsucc := foldP_succ (l := l) hlt
    rw [step_mid] at hsucc
    have hx := hd.1 i hlt
    have hxl4 := hx.2.2.2.1
    have hxl5 := hx.2.2.2.2.1
    generalize hfo : foldP l (xs.take i) = o at *
    obtain ⟨ob, op⟩ := o
    simp only at hu hlen ⊢
    refine ⟨JI c H w (lsaRow l lv sv) (mid1 l (ob, op) xs[i]), ?_, ?_⟩
    · refine ⟨H, hu.sub, ?_⟩
      have stay : ¬ (op = false ∧ l.origin ≤ xs[i].origin) → Shr (JI c H w (lsaRow l lv sv) (mid1 l (ob, op) xs[i]) [.box [w], .box (lsaRow l lv sv), .box [.nils], .box [u], .bool op]) Hc := fun hn => by
        refine Shr.of ⟨u, ?_, ?_⟩
        · rw [mid1, if_neg hn]
        · rw [mid1, if_neg hn]; exact hu
      cases op with
      | true =>
        simp
        exact stay (by simp)
      | false =>
        simp
        refine rdS_idx hv (by omega) (by simpa using hlt) fun p row hp hrw => hp.fld fun q hq => ?_
        simp only [Int.toNat_natCast] at hrw
        obtain ⟨l1, s1, rfl, _, _⟩ := hrw
        rw [hq.ld]
        simp
        refine ⟨fun hle => ?_, fun hgt => ?_⟩
        · have _ := hle
          refine C_s_l05Copy (b := b') (c := c) ((lsaT b').mono hr' hu.sub) (by omega) fun us H2 hus => ?_
          have hus' := hus
          obtain ⟨l', s', Hm, rfl, w1, w2⟩ := lsa_dp hus
          have c1 := w1.cell
          have c2 := w2.cell
          simp [bsl_one, c1, c2]
          intro o2 ho2
          refine dpS_app (T := lsaT c) hu hus' (sub_fresh ho2) (by omega) fun v' H' H'' ho' hs' => ?_
          have cv := dpS_cell ho'
          simp [stz_eq, putCells, cv]
          refine ⟨H'', hs', v', ?_, ?_⟩
          · rw [mid1, if_pos ⟨rfl, hle⟩]
          · rw [mid1, if_pos ⟨rfl, hle⟩]; exact ho'
        · exact stay (by simp; omega)
    · rintro ys Hd ⟨u, rfl, hu⟩
      have cu := dpS_cell hu
      have hml : (mid1 l (ob, op) xs[i]).1.length ≤ 21 := by
        unfold mid1
        split
        · simp; omega
        · simp; omega
      generalize mid1 l (ob, op) xs[i] = o1 at *
      refine ⟨H, hu.sub, ?_⟩
      simp [cw]
      refine rdS_idx hv (by omega) (by simpa using hlt) fun p row hp hrw => hp.fld fun q hq => ?_
      simp only [Int.toNat_natCast] at hrw
      obtain ⟨l1, s1, rfl, _, _⟩ := hrw
      rw [hq.ld]
      simp
      rw [i64_in (n := (i : Int) + 1) (by omega) (by omega)]
      refine ⟨fun hne => ?_, fun heq => ?_⟩
      · rw [if_pos hne] at hsucc
        refine rdS_idx ((dbT b).mono hv hu.sub) (by omega) (by simpa using hlt) fun p row hp hrw => ?_
        simp only [Int.toNat_natCast] at hrw
        rw [hp.ld]
        have hrw' := hrw
        obtain ⟨l2, s2, rfl, _, _⟩ := hrw
        simp
        refine C_s_l05Copy (b := b) (c := c) hrw' (by omega) fun us H2 hus => ?_
        have hus' := hus
        obtain ⟨l', s', Hm, rfl, w1, w2⟩ := lsa_dp hus
        have c1 := w1.cell
        have c2 := w2.cell
        simp [bsl_one, c1, c2]
        intro o2 ho2
        refine dpS_app (T := lsaT c) hu hus' (sub_fresh ho2) (by omega) fun v' H' H'' ho' hs' => ?_
        have cv := dpS_cell ho'
        simp [stz_eq, putCells, cv]
        refine ⟨xs.length - (i + 1), by omega, H'', hs', i + 1, v', by omega, ?_, rfl, ?_⟩
        · rw [hsucc]; simp
        · rw [hsucc]; exact ho'
      · rw [if_neg (by simpa using heq)] at hsucc
        refine ⟨xs.length - (i + 1), by omega, Shr.of ⟨i + 1, u, by omega, ?_, rfl, ?_⟩⟩
        · rw [hsucc]; simp
        · rw [hsucc]; exact hu
  · have : i = xs.length := by omega
    subst this
    rw [List.take_length] at hu hlen ⊢
    unfold putL at h
    refine ⟨fun hf => ?_, fun ht => ?_⟩
    · rw [if_neg (by simp [hf])] at h
      refine C_s_l05Copy (b := b') (c := c) ((lsaT b').mono hr' hu.sub) (by omega) fun us H2 hus => ?_
      have hus' := hus
      obtain ⟨l', s', Hm, rfl, w1, w2⟩ := lsa_dp hus
      have c1 := w1.cell
      have c2 := w2.cell
      simp [bsl_one, c1, c2]
      intro o2 ho2
      refine dpS_app (T := lsaT c) hu hus' (sub_fresh ho2) (by omega) fun v' H' H'' ho' hs' => ?_
      have cv := dpS_cell ho'
      simp [stz_eq, putCells, cv]
      exact Ret.shr (h _ _ ho') rfl hs'
    · rw [if_pos (by simpa using ht)] at h
      simp [stz_eq, putCells, cu]
      exact Ret.of (h _ _ hu)
end Go.Proofs.YtaippfedjjjpeaaGreat
/-
Contracts: offers; an advertisement is installed (the reference's way); what is lacking.
-/
namespace Go.Proofs.YtaippfedjjjpeaaGreat
open Go Go.Abs Go.Proofs

theorem find_case {xs : List TLsa} {o : Int} {i : Nat} (hd : dbOk xs) (h2 : ∀ j, j < i → og xs j < o) (h3 : ∀ j, i ≤ j → j < xs.length → o ≤ og xs j) :
    (∃ h : i < xs.length, og xs i = o ∧ findR xs o = (xs[i], true)) ∨ ((¬ (i < xs.length ∧ og xs i = o)) ∧ findR xs o = (zeroL, false)) := by
  by_cases hf : i < xs.length ∧ og xs i = o
  · exact .inl ⟨hf.1, hf.2, findR_at hd hf.1 hf.2⟩
  · refine .inr ⟨hf, findR_no fun j hj => ?_⟩
    by_cases e : j < i
    · have := h2 j e; omega
    · by_cases e2 : j = i
      · subst e2; exact fun hh => hf ⟨hj, hh⟩
      · have := og_lt hd (i := i) (j := j) (by omega) hj
        have := h3 i (by omega) (by omega)
        omega
theorem findR_ok {xs : List TLsa} {o : Int} (hd : dbOk xs) (h : (findR xs o).2 = true) : lsaOk (findR xs o).1 ∧ (findR xs o).1.origin = o := by
  unfold findR at *
  rw [if_pos hd] at *
  cases hf : xs.find? (fun a => a.origin == o) with
  | none => rw [hf] at h; simp at h
  | some a =>
    have h1 := List.mem_of_find?_eq_some hf
    have h2 := List.find?_some hf
    obtain ⟨i, hi, rfl⟩ := List.mem_iff_getElem.1 h1
    exact ⟨hd.1 i hi, by simpa using h2⟩
def JF (H : Heap) (w : V) (r : List V) (ys : List V) (Hc : Heap) : Prop := ys = [.box [w], .box r, .box [.nils]] ∧ Hc = H
end Go.Proofs.YtaippfedjjjpeaaGreat
