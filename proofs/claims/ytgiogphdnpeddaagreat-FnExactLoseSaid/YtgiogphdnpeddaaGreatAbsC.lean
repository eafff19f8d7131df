/-
The abstract layer, part C: the abstract operations and the predicate transformer.
-/
import Derived.Test.YtgiogphdnpeddaaGreatAbsB
set_option linter.all false
namespace Go.Abs

def bnd {α : Type} (o : Option α) (K : α → Prop) : Prop := match o with | some v => K v | none => False
@[simp] theorem bnd_some {α : Type} (v : α) (K : α → Prop) : bnd (some v) K = K v := rfl
theorem bnd_elim {α : Type} {o : Option α} {K : α → Prop} (h : bnd o K) : ∃ v, o = some v ∧ K v := by
  cases o with
  | none => exact h.elim
  | some v => exact ⟨v, rfl, h⟩

def vOf1 : Value → Option V
  | .int k n => some (.int k n)
  | .bool b => some (.bool b)
  | .pointer none => some .nilp
  | .slice none 0 0 => some .nils
  | .nilFunc => some .nilf
  | _ => none
def vOfs : List Value → Option (List V)
  | [] => some []
  | x :: xs => match vOf1 x, vOfs xs with | some v, some vs => some (v :: vs) | _, _ => none
def vOf : Value → Option V
  | .agg cs => match vOfs cs.toList with | some vs => some (.agg vs) | none => none
  | v => vOf1 v

def ev (g : Cfg) (env : List V) : Operand → Option V
  | .tmp t => match g.loc t with | true => none | false => env[t]?
  | .const v => vOf v
  | .func f => some (.fn f [])
  | .global _ => none
def evs (g : Cfg) (env : List V) : List Operand → Option (List V)
  | [] => some []
  | x :: xs => match ev g env x, evs g env xs with | some v, some vs => some (v :: vs) | _, _ => none
def evo (g : Cfg) (env : List V) : Option Operand → Option (Option V)
  | none => some none
  | some x => match ev g env x with | some v => some (some v) | none => none
def evp (g : Cfg) (env : List V) : List (Nat × Operand) → Option (List (Nat × V))
  | [] => some []
  | (i, x) :: xs => match ev g env x, evp g env xs with | some v, some vs => some ((i, v) :: vs) | _, _ => none

/-! #### types -/
def tSize (P : Program) (t : TypeId) : Option Nat := match P.info? t with | some i => some i.size | none => none
def tBytes (P : Program) (t : TypeId) : Option Nat := match P.info? t with | some i => some i.bytes | none => none
def tAgg (P : Program) (t : TypeId) : Option Bool := match P.underlying t with | some (.struct _) => some true | some (.array _ _) => some true | some _ => some false | none => none
def tElem (P : Program) (t : TypeId) : Option TypeId := match P.underlying t with | some (.slice e) => some e | _ => none
def tOff (P : Program) (t : TypeId) (f : Nat) : Option (Nat × TypeId) :=
  match P.underlying t with
  | some (.struct fs) => match fs[f]? with
    | some fd => match tSize P fd.type with | some (_ + 1) => some (fd.offset, fd.type) | _ => none
    | none => none
  | _ => none
def tZero (P : Program) (t : TypeId) : Option V := match P.info? t with
  | some i => match i.zero with | some z => vOf z | none => none
  | none => none

/-! #### memory -/
def partOf (agg : Bool) (sz : Nat) (cs : List V) (c : Nat) : Option V :=
  match agg with
  | true => if c + sz ≤ cs.length then some (.agg ((cs.drop c).take sz)) else none
  | false => cs[c]?
def ldc (P : Program) (t : TypeId) (cs : List V) (c : Nat) : Option V :=
  match tAgg P t, tSize P t with | some b, some sz => partOf b sz cs c | _, _ => none
def rowAt (H : Heap) (o r : Nat) : Option (List V) := match H o with | some ob => ob.rows[r]? | none => none
def aLd (b : Bool) (sz : Nat) (H : Heap) : V → Option V
  | .ptr o r c => match rowAt H o r with | some row => partOf b sz row c | none => none
  | .rop row c => partOf b sz row c
  | _ => none
def aLoad (P : Program) (H : Heap) (t : TypeId) (v : V) : Option V := match tAgg P t, tSize P t with | some b, some sz => aLd b sz H v | _, _ => none
def putCells (row : List V) (c : Nat) (cs : List V) : List V := row.take c ++ cs ++ row.drop (c + cs.length)
def notAny : V → Bool
  | .any => false
  | _ => true
def stz (sz : Nat) (row : List V) (c : Nat) (v : V) : Option (List V) :=
  if ((cellsOf v).length == sz && decide (c + sz ≤ row.length) && (cellsOf v).all cellOk) = true then some (putCells row c (cellsOf v)) else none
def stc (P : Program) (t : TypeId) (row : List V) (c : Nat) (v : V) : Option (List V) := match tSize P t with | some sz => stz sz row c v | none => none
def aSt (sz : Nat) (H : Heap) (p v : V) : Option Heap :=
  match p with
  | .ptr o r c => match H o with
    | some ob => match ob.rows[r]? with
      | some row => match stz sz row c v with
        | some row' => some (upd H o ⟨ob.w, ob.rows.set r row'⟩)
        | none => none
      | none => none
    | none => none
  | _ => none
def aStore (P : Program) (H : Heap) (t : TypeId) (p v : V) : Option Heap := match tSize P t with | some sz => aSt sz H p v | none => none
def aField (off : Nat) : V → Option V
  | .ptr o r c => some (.ptr o r (c + off))
  | .rop row c => some (.rop row (c + off))
  | _ => none
def natOf : V → Option Nat
  | .int _ k => if 0 ≤ k then some k.toNat else none
  | _ => none
def aIndex (H : Heap) (sz : Nat) (x i : V) : Option V :=
  match x, i with
  | .slice o s n _, .int _ k => if 0 ≤ k ∧ k < n then
      match H o with
      | some ob => if ob.w = sz then some (.ptr o (s + k.toNat) 0) else none
      | none => none
    else none
  | .ro rows, .int _ k => if 0 ≤ k then
      match rows[k.toNat]? with
      | some row => if row.length = sz then some (.rop row 0) else none
      | none => none
    else none
  | _, _ => none
def bound (d : Nat) : Option V → Option Nat
  | none => some d
  | some v => natOf v
def aSlice (H : Heap) (sz : Nat) (x : V) (lo hi mx : Option V) : Option V :=
  match x with
  | .slice o s n cap => match H o with
    | some ob => if ob.w = sz then
        match bound 0 lo, bound n hi, mx with
        | some l, some h, none => match cap with
          | some k => if l ≤ h ∧ h ≤ k then some (.slice o (s + l) (h - l) (some (k - l))) else none
          | none => if l ≤ h ∧ h ≤ n then some (.slice o (s + l) (h - l) none) else none
        | some l, some h, some mv => match natOf mv, hi with
          | some m, some _ => if l ≤ h ∧ h ≤ m ∧ m ≤ cap.getD n then some (.slice o (s + l) (h - l) (some (m - l))) else none
          | _, _ => none
        | _, _, _ => none
      else none
    | none => none
  | .nils => match bound 0 lo, bound 0 hi, mx with
    | some 0, some 0, none => some .nils
    | _, _, _ => none
  | _ => none
def rowsOf (H : Heap) (sz : Nat) : V → Option (List (List V))
  | .slice o s n _ => match H o with
    | some ob => if ob.w = sz ∧ s + n ≤ ob.rows.length then some ((ob.rows.drop s).take n) else none
    | none => none
  | .nils => some []
  | _ => none
def lenOf : V → Option Nat
  | .slice _ _ n _ => some n
  | .nils => some 0
  | .ro rows => some rows.length
  | _ => none

/-! #### numbers -/
def aEqFs (P : Program) (rec_ : TypeId → V → V → Option Bool) (xs ys : List V) : List Field → Option Bool
  | [] => some true
  | f :: fs => match f.name == "_" with
    | true => none
    | false => match ldc P f.type xs f.offset, ldc P f.type ys f.offset with
      | some a, some b => match rec_ f.type a b, aEqFs P rec_ xs ys fs with
        | some p, some q => some (p && q)
        | _, _ => none
      | _, _ => none
def aEqT (P : Program) : Nat → TypeId → V → V → Option Bool
  | 0, _, _, _ => none
  | d + 1, t, x, y => match x, y with
    | .int k a, .int k' b => match P.underlying t with | some (.int _) => if k = k' then some (a == b) else none | _ => none
    | .bool a, .bool b => match P.underlying t with | some .bool => some (a == b) | _ => none
    | .nils, .nils => match P.underlying t with | some (.slice _) => some true | _ => none
    | .slice _ _ _ _, .nils => match P.underlying t with | some (.slice _) => some false | _ => none
    | .nils, .slice _ _ _ _ => match P.underlying t with | some (.slice _) => some false | _ => none
    | .agg xs, .agg ys => match P.underlying t with
      | some (.struct fs) => match P.stoodInHeld t with
        | false => aEqFs P (aEqT P d) xs ys fs.toList
        | true => none
      | _ => none
    | _, _ => none
def aEq (P : Program) (t : TypeId) (x y : V) : Option Bool :=
  match x with
  | .agg _ => match P.eqGuardType P.depth t with | false => aEqT P 4 t x y | true => none
  | _ => aEqT P 4 t x y
def aNum (op : BinOp) (k : IntKind) (a : Int) (k' : IntKind) (b : Int) : Option V :=
    match op with
    | .shl => if b < 0 then none else some (.int k (k.wrap (a * 2 ^ (min b.toNat k.bits))))
    | .shr => if b < 0 then none else some (.int k (a.fdiv (2 ^ (min b.toNat k.bits))))
    | _ => if k = k' then
      match op with
      | .add => some (.int k (k.wrap (a + b)))
      | .sub => some (.int k (k.wrap (a - b)))
      | .mul => some (.int k (k.wrap (a * b)))
      | .quo => if b = 0 then none else some (.int k (k.wrap (a.tdiv b)))
      | .rem => if b = 0 then none else some (.int k (a.tmod b))
      | .and => some (.int k (k.wrap ((BitVec.ofInt k.bits a) &&& (BitVec.ofInt k.bits b)).toNat))
      | .or => some (.int k (k.wrap ((BitVec.ofInt k.bits a) ||| (BitVec.ofInt k.bits b)).toNat))
      | .xor => some (.int k (k.wrap ((BitVec.ofInt k.bits a) ^^^ (BitVec.ofInt k.bits b)).toNat))
      | .eql => some (.bool (a == b))
      | .neq => some (.bool (a != b))
      | .lss => some (.bool (decide (a < b)))
      | .leq => some (.bool (decide (a ≤ b)))
      | .gtr => some (.bool (decide (a > b)))
      | .geq => some (.bool (decide (a ≥ b)))
      | _ => none
      else none
def aBin (P : Program) (op : BinOp) (t : TypeId) (x y : V) : Option V :=
  match x, y with
  | .int k a, .int k' b => aNum op k a k' b
  | x, y => match op with
    | .eql => match aEq P t x y with | some b => some (.bool b) | none => none
    | .neq => match aEq P t x y with | some b => some (.bool (!b)) | none => none
    | _ => none
def aBinN (op : BinOp) (x y : V) : Option V := match x, y with | .int k a, .int k' b => aNum op k a k' b | _, _ => none
def aBinB (op : BinOp) (x y : V) : Option V := match x, y with
  | .bool a, .bool b => (match op with | .eql => some (.bool (a == b)) | .neq => some (.bool (!(a == b))) | _ => none)
  | _, _ => none
def isNil : V → Option Bool | .nils => some true | .slice _ _ _ _ => some false | _ => none
def aBinZ (op : BinOp) (x y : V) : Option V := match y with
  | .nils => (match isNil x with | some b => (match op with | .eql => some (.bool b) | .neq => some (.bool (!b)) | _ => none) | none => none)
  | _ => none
inductive Sh | num | bool | slice | other
def shOf (P : Program) (t : TypeId) : Sh := match P.underlying t with | some (.int _) => .num | some .bool => .bool | some (.slice _) => .slice | _ => .other
def aBinS (P : Program) (op : BinOp) (t : TypeId) (x y : V) : Option V := match shOf P t with
  | .num => aBinN op x y | .bool => aBinB op x y | .slice => aBinZ op x y | .other => aBin P op t x y
theorem aBinS_le {P : Program} {op : BinOp} {t : TypeId} {x y v : V} (h : aBinS P op t x y = some v) : aBin P op t x y = some v := by
  unfold aBinS at h
  split at h
  · unfold aBinN at h
    split at h
    · exact h
    · cases h
  · rename_i hs
    have hu : P.underlying t = some .bool := by
      unfold shOf at hs; split at hs <;> first | assumption | cases hs
    unfold aBinB at h
    split at h
    · split at h
      · simpa [aBin, aEq, aEqT, hu] using h
      · simpa [aBin, aEq, aEqT, hu] using h
      · cases h
    · cases h
  · rename_i hs
    obtain ⟨e, hu⟩ : ∃ e, P.underlying t = some (.slice e) := by
      unfold shOf at hs; split at hs <;> first | exact ⟨_, by assumption⟩ | cases hs
    unfold aBinZ at h
    split at h
    · unfold isNil at h
      cases x <;> simp at h <;> (split at h <;> first | cases h | skip) <;> (simp [aBin, aEq, aEqT, hu]; try exact h)
    · cases h
  · exact h
def aNot : V → Option V | .bool b => some (.bool (!b)) | _ => none
def aNeg : V → Option V | .int k n => some (.int k (k.wrap (0 - n))) | _ => none
def aCv (k : IntKind) : V → Option V | .int _ n => some (.int k (k.wrap n)) | _ => none
def convTo (P : Program) (s d : TypeId) : Option IntKind := match P.underlying s, P.underlying d with | some (.int _), some (.int k) => some k | _, _ => none
def aConv (P : Program) (s d : TypeId) (x : V) : Option V := match convTo P s d with | some k => aCv k x | none => none
def aPick (c a b : V) : Option V := match c with | .bool t => some (match t with | true => a | false => b) | _ => none
def aExtract (i : Nat) : V → Option V | .tup vs => vs[i]? | _ => none
def aMin2 (mx : Bool) : V → V → Option V
  | .int k x, .int k' y => if k = k' then some (.int k (match mx with | true => if y > x then y else x | false => if y < x then y else x)) else none
  | _, _ => none
def aMins (mx : Bool) : V → List V → Option V
  | x, [] => some x
  | x, y :: ys => match aMin2 mx x y with | some z => aMins mx z ys | none => none

def structOk (P : Program) (t : TypeId) : Bool := match P.underlying t with | some (.struct fs) => fs.toList.all fun f => (P.info? f.type).isSome | _ => false
def placesOf (P : Program) (t : TypeId) : List (Nat × V) → Option (List (Nat × Nat × V))
  | [] => some []
  | (i, v) :: rest => match tOff P t i, placesOf P t rest with
    | some (off, ft), some r => match tSize P ft with
      | some sz => some ((off, sz, v) :: r)
      | none => none
    | _, _ => none
def fillZ : List V → List (Nat × Nat × V) → Option (List V)
  | cs, [] => some cs
  | cs, (off, sz, v) :: rest => if ((cellsOf v).length == sz && decide (off + sz ≤ cs.length) && notAny v) = true then fillZ (putCells cs off (cellsOf v)) rest else none
def fillS (P : Program) (t : TypeId) (cs : List V) (ps : List (Nat × V)) : Option (List V) := match placesOf P t ps with | some r => fillZ cs r | none => none

/-! #### the predicate transformer -/

inductive Ex where
  | normal
  | exit (id : Nat)
  | ret

/-- A call, on the abstract side: whatever the rest of the memory. -/
structure ACalls (P : Program) (f : FuncId) (args : List V) (H : Heap) (R : V → Heap → Prop) : Prop where
  run : ∀ (w0 : World) (base : Nat) (F : Heap) (ι : Nat → Option Place) (G : Heap) (w : World) (cargs : List Value),
    RelH w0 base ι G w → sub H G → sub F G → disj H F → RelL w0 base ι args cargs →
    Calls P f cargs.toArray w fun e w' => ∃ v cv ι' G' H', e = .returned cv ∧ RelV w0 base ι' v cv ∧ ile ι ι' ∧ RelH w0 base ι' G' w' ∧ sub H' G' ∧ sub F G' ∧ disj H' F ∧ R v H'

/-- A slot is turned: the list is walked and handed on written out. -/
def setK : List V → Nat → V → (List V → Prop) → Prop
  | [], _, _, K => K []
  | _ :: r, 0, v, K => K (v :: r)
  | x :: r, n + 1, v, K => setK r n v fun ys => K (x :: ys)
theorem setK_eq : ∀ (xs : List V) (d : Nat) (v : V) (K : List V → Prop), setK xs d v K = K (xs.set d v)
  | [], _, _, _ => rfl
  | _ :: _, 0, _, _ => rfl
  | x :: r, n + 1, v, K => by simp only [setK, List.set]; rw [setK_eq]
def putK (g : Cfg) (env : List V) (dst : Option Tmp) (v : V) (K : List V → Prop) : Prop :=
  match dst with
  | none => K env
  | some d => match g.loc d with | true => False | false => setK env d v K

/-- What is passed over yields nothing. -/
def skipDst (g : Cfg) (env : List V) (dst : Option Tmp) : List V := match dst with | none => env | some d => (match g.loc d with | true => env.set d .any | false => env.set d (.tup []))

/-- A callee that may be entered. -/
def enterable (P : Program) (f : FuncId) : Bool := match P.funcs[f]? with
  | some fn => fn.body.isSome && !(fn.name == "runtime.NumGoroutine")
  | none => false

def clr (ds : List Nat) (env : List V) : List V := match ds with | [] => env | d :: ds => clr ds (env.set d .any)

def newBox (g : Cfg) (env : List V) (H : Heap) (dst : Option Tmp) (cs : List V) (K : List V → Heap → Prop) : Prop :=
  match dst with
  | none => False
  | some d => match g.L.contains d with
    | true => setK (clr g.R env) d (.box cs) fun e => K e H
    | false => match g.R.contains d with
      | true => False
      | false => ∀ o, H o = none → setK env d (.ptr o 0 0) fun e => K e (upd H o ⟨cs.length, [cs]⟩)

inductive Loc where
  | heap (v : V)
  | here (s c : Nat) (cs : List V)

/-- Where an address operand leads. -/
def locOf (g : Cfg) (env : List V) : Operand → Option Loc
  | .tmp t => match g.L.contains t with
    | true => match env[t]? with | some (.box cs) => some (.here t 0 cs) | _ => none
    | false => match g.R.contains t with
      | true => match env[t]? with
        | some (.lref s c) => match g.L.contains s with | true => (match env[s]? with | some (.box cs) => some (.here s c cs) | _ => none) | false => none
        | _ => none
      | false => match env[t]? with | some v => some (.heap v) | none => none
  | x => match ev g env x with | some v => some (.heap v) | none => none

def aLoadL (P : Program) (H : Heap) (t : TypeId) : Loc → Option V
  | .heap v => aLoad P H t v
  | .here _ c cs => ldc P t cs c

def storeK (P : Program) (env : List V) (H : Heap) (t : TypeId) (v : V) (l : Loc) (K : List V → Heap → Prop) : Prop :=
  match l with
  | .heap p => bnd (aStore P H t p v) fun H' => K env H'
  | .here s c cs => bnd (stc P t cs c v) fun cs' => setK env s (.box cs') fun e => K e H

def fieldK (g : Cfg) (env : List V) (dst : Option Tmp) (off : Nat) (l : Loc) (K : List V → Prop) : Prop :=
  match l with
  | .heap p => bnd (aField off p) fun v => putK g env dst v K
  | .here s c _ => match dst with
    | none => K env
    | some d => match g.L.contains d with
      | true => False
      | false => match g.R.contains d with
        | true => setK env d (.lref s (c + off)) K
        | false => False

def appendK (H : Heap) (sz bytes : Nat) (s : V) (xs : List (List V)) (K : V → Heap → Prop) : Prop :=
  match s with
  | .nils => (xs = [] → K .nils H) ∧ (xs ≠ [] → xs.length * bytes ≤ 140737488355328 ∧ ∀ o, H o = none → K (.slice o 0 xs.length none) (upd H o ⟨sz, xs⟩))
  | .slice o st n cap => match H o with
    | none => False
    | some ob => ob.w = sz ∧ st + n ≤ ob.rows.length ∧ (xs = [] → K (.slice o st n cap) H) ∧ (xs ≠ [] → (n + xs.length) * bytes ≤ 140737488355328 ∧
        match cap with
        | none => st = 0 ∧ ∀ o', H o' = none → K (.slice o' 0 (n + xs.length) none) (upd (del H o) o' ⟨sz, ob.rows.take n ++ xs⟩)
        | some k => (n + xs.length ≤ k → st + n + xs.length ≤ ob.rows.length ∧ K (.slice o st (n + xs.length) (some k)) (upd H o ⟨sz, ob.rows.take (st + n) ++ xs ++ ob.rows.drop (st + n + xs.length)⟩)) ∧
          (k < n + xs.length → ∀ o', H o' = none → K (.slice o' 0 (n + xs.length) none) (upd H o' ⟨sz, (ob.rows.drop st).take n ++ xs⟩)))
  | _ => False

def copyK (H : Heap) (sz : Nat) (d : V) (xs : List (List V)) (K : V → Heap → Prop) : Prop :=
  match d with
  | .nils => K (.int .i64 0) H
  | .slice o st n _ => match H o with
    | none => False
    | some ob => ob.w = sz ∧ st + n ≤ ob.rows.length ∧
      K (.int .i64 (min xs.length n)) (upd H o ⟨sz, ob.rows.take st ++ xs.take n ++ ob.rows.drop (st + min xs.length n)⟩)
  | _ => False

def clearK (H : Heap) (sz : Nat) (z : List V) (d : V) (K : V → Heap → Prop) : Prop :=
  match d with
  | .nils => K (.tup []) H
  | .slice o st n _ => match H o with
    | none => False
    | some ob => ob.w = sz ∧ st + n ≤ ob.rows.length ∧ z.length = sz ∧ K (.tup []) (upd H o ⟨sz, ob.rows.take st ++ List.replicate n z ++ ob.rows.drop (st + n)⟩)
  | _ => False

def capK (H : Heap) (x : V) (K : V → Heap → Prop) : Prop :=
  match x with
  | .slice _ _ n none => ∀ c, n ≤ c → K (.int .i64 (c : Nat)) H
  | .slice _ _ _ (some k) => K (.int .i64 (k : Nat)) H
  | .nils => K (.int .i64 0) H
  | _ => False

/-- So many new cells of nothing appended, with growth. -/
def growZ (H : Heap) (sz by_ : Nat) (z : List V) (s x : V) (K : V → Heap → Prop) : Prop :=
  match s, x with
  | .slice o st n (some k), .int _ m => match H o with
    | none => False
    | some ob => ob.w = sz ∧ st + n ≤ ob.rows.length ∧ 0 ≤ m ∧ m ≤ 9223372036854775807 ∧ k < n + m.toNat ∧ (n + m.toNat) * by_ ≤ 140737488355328 ∧
        ∀ o', H o' = none → K (.slice o' 0 (n + m.toNat) none) (upd H o' ⟨sz, (ob.rows.drop st).take n ++ List.replicate m.toNat z⟩)
  | _, _ => False
def tInt (P : Program) (t : TypeId) : Bool := match P.underlying t with | some (.int _) => true | _ => false

def builtinK (P : Program) (H : Heap) (b : Builtin) (tys : List TypeId) (args : List V) (K : V → Heap → Prop) : Prop :=
  match b, tys, args with
  | .len, [t], [x] => bnd (tElem P t) fun _ => bnd (lenOf x) fun n => K (.int .i64 n) H
  | .cap, [t], [x] => bnd (tElem P t) fun _ => capK H x K
  | .append, [t, t'], [s, x] => if t = t' then bnd (tElem P t) fun e => bnd (tSize P e) fun sz => bnd (tBytes P e) fun by_ => bnd (tZero P e) fun z => if (cellsOf z).length = sz ∧ 0 < sz ∧ 0 < by_ then bnd (rowsOf H sz x) fun xs => appendK H sz by_ s xs K else False else bnd (tElem P t) fun e => bnd (tSize P e) fun sz => bnd (tBytes P e) fun by_ => bnd (tZero P e) fun z => if tInt P t' = true ∧ (cellsOf z).length = sz ∧ 0 < sz ∧ 0 < by_ then growZ H sz by_ (cellsOf z) s x K else False
  | .copy, [t, _], [d, x] => bnd (tElem P t) fun e => bnd (tSize P e) fun sz => bnd (rowsOf H sz x) fun xs => copyK H sz d xs K
  | .clear, [t], [d] => bnd (tElem P t) fun e => bnd (tSize P e) fun sz => bnd (tZero P e) fun z => clearK H sz (cellsOf z) d K
  | .min, _, x :: xs => bnd (aMins false x xs) fun v => K v H
  | .max, _, x :: xs => bnd (aMins true x xs) fun v => K v H
  | _, _, _ => False

def allW (sz : Nat) : List (Nat × V) → Bool
  | [] => true
  | (_, v) :: r => (cellsOf v).length == sz && (cellsOf v).all cellOk && allW sz r
def fillR (rows : List (List V)) : List (Nat × V) → Option (List (List V))
  | [] => some rows
  | (i, v) :: rest => if i < rows.length then fillR (rows.set i (cellsOf v)) rest else none

def bsl (sz len : Nat) (z : List V) (ps : List (Nat × V)) : Option (List (List V)) :=
  if (allW sz ps && decide (len * sz ≤ 16777216) && decide (z.length = sz) && decide (0 < sz)) = true then fillR (List.replicate len z) ps else none

def callK (P : Program) (H : Heap) (f : V) (args : List V) (K : V → Heap → Prop) : Prop :=
  match f with
  | .fn f caps => match enterable P f with
    | true => ACalls P f (args ++ caps) H K
    | false => False
  | _ => False

def boxK (v : V) (K : Prop) : Prop := (cellsOf v).all cellOk = true ∧ K
def aggOf : V → Option (List V) | .agg cs => some cs | _ => none
def aNil : V → Option V | .ptr o r c => some (.ptr o r c) | .rop r c => some (.rop r c) | _ => none
def cnd (v : V) (A B : Prop) : Prop := match v with | .bool t => (match t with | true => A | false => B) | _ => False

def opK (P : Program) (g : Cfg) (o : Oper) (env : List V) (H : Heap) (K : List V → Heap → Prop) : Prop :=
  let put (v : V) : Prop := putK g env o.dst v fun env' => K env' H
  let putH (v : V) (H' : Heap) : Prop := putK g env o.dst v fun env' => K env' H'
  match o.op with
  | .move x => bnd (ev g env x) put
  | .assign x => bnd (ev g env x) put
  | .pick c a b => bnd (ev g env c) fun c => bnd (ev g env a) fun a => bnd (ev g env b) fun b => bnd (aPick c a b) put
  | .alloc t => bnd (tZero P t) fun z => newBox g env H o.dst (cellsOf z) K
  | .box _ x => bnd (ev g env x) fun v => boxK v (newBox g env H o.dst (cellsOf v) K)
  | .build t parts => bnd (evp g env parts.toList) fun ps => bnd (tZero P t) fun z => match structOk P t with
    | true => bnd (fillS P t (cellsOf z) ps) fun cs => put (.agg cs)
    | false => False
  | .buildSlice t len parts => bnd (evp g env parts.toList) fun ps => bnd (tElem P t) fun e => bnd (tSize P e) fun sz => bnd (tZero P e) fun z =>
    bnd (bsl sz len (cellsOf z) ps) fun rows => ∀ o, H o = none → putH (.slice o 0 len (some len)) (upd H o ⟨sz, rows⟩)
  | .load t x => bnd (locOf g env x) fun l => bnd (aLoadL P H t l) put
  | .store t x v => match o.dst with
    | none => bnd (locOf g env x) fun l => bnd (ev g env v) fun v => storeK P env H t v l K
    | some _ => False
  | .fieldAddr t x f => bnd (locOf g env x) fun l => bnd (tOff P t f) fun off => fieldK g env o.dst off.1 l fun env' => K env' H
  | .field t x f => bnd (ev g env x) fun v => bnd (tOff P t f) fun off => bnd (aggOf v) fun cs => bnd (ldc P off.2 cs off.1) put
  | .indexAddr t x i => bnd (ev g env x) fun x => bnd (ev g env i) fun i => bnd (tElem P t) fun e => bnd (tSize P e) fun sz => bnd (aIndex H sz x i) put
  | .slice t x lo hi mx => bnd (ev g env x) fun x => bnd (evo g env lo) fun lo => bnd (evo g env hi) fun hi => bnd (evo g env mx) fun mx =>
      bnd (tElem P t) fun e => bnd (tSize P e) fun sz => bnd (aSlice H sz x lo hi mx) put
  | .makeSlice t l c => bnd (ev g env l) fun l => bnd (ev g env c) fun c => bnd (natOf l) fun l => bnd (natOf c) fun c => bnd (tElem P t) fun e => bnd (tSize P e) fun sz => bnd (tBytes P e) fun by_ => bnd (tZero P e) fun z =>
      (l ≤ c ∧ c ≤ 140737488355328 ∧ by_ * c ≤ 281474976710656 ∧ (cellsOf z).length = sz ∧ 0 < sz) ∧ ∀ o, H o = none → putH (.slice o 0 l (some c)) (upd H o ⟨sz, List.replicate c (cellsOf z)⟩)
  | .binOp op t x y _ => bnd (ev g env x) fun x => bnd (ev g env y) fun y => bnd (aBinS P op t x y) put
  | .unOp .not _ x => bnd (ev g env x) fun x => bnd (aNot x) put
  | .unOp .neg _ x => bnd (ev g env x) fun x => bnd (aNeg x) put
  | .convert s d x => bnd (ev g env x) fun x => bnd (aConv P s d x) put
  | .extract x i => bnd (ev g env x) fun x => bnd (aExtract i x) put
  | .nilCheck x => bnd (ev g env x) fun x => bnd (aNil x) put
  | .makeFunc (.func f) first caps => match first.toList with
    | [] => bnd (evs g env caps.toList) fun cs => put (.fn f cs)
    | _ => False
  | .call c => match c.callee with
    | .value f => bnd (ev g env f) fun f => bnd (evs g env c.args.toList) fun args => callK P H f args putH
    | .builtin b => bnd (evs g env c.args.toList) fun args => builtinK P H b c.argTypes.toList args putH
    | _ => False
  | _ => False

/-- Two ways, by a Bool. -/
def gb (b : Bool) (A B : Prop) : Prop := match b with | true => A | false => B
/-- A guard that has yielded v: the operation is wanted, or it is passed over. -/
def gd (v : V) (want : Bool) (A B : Prop) : Prop := match v with
  | .bool b => match want with | true => gb b A B | false => gb b B A
  | _ => False
/-- A guard that may itself have been passed over. -/
def gd3 (v : V) (want : Bool) (A B C : Prop) : Prop := match v with
  | .bool b => match want with | true => gb b A B | false => gb b B A
  | .tup [] => C
  | _ => False
/-- Behind the guard its slot is known. -/
def guardK (ops : List Oper) (env : List V) (j : Nat) (want : Bool) (A B : List V → Prop) : Prop :=
  match ops[j]? with
  | some o => match o.dst with
    | some t => match env[t]? with
      | some v => match o.guard.isSome with
        | false => gd v want (setK env t (.bool want) A) (setK env t (.bool (!want)) B)
        | true => gd3 v want (setK env t (.bool want) A) (setK env t (.bool (!want)) B) (setK env t (.tup []) B)
      | none => False
    | none => False
  | none => False

/-- The operations of a region, in the order of the text. -/
def opsK (P : Program) (g : Cfg) (ops : List Oper) : List Oper → List V → Heap → (List V → Heap → Prop) → Prop
  | [], env, H, K => K env H
  | o :: rest, env, H, K =>
    match o.guard with
    | none => opK P g o env H fun env' H' => opsK P g ops rest env' H' K
    | some (j, want) => guardK ops env j want (fun env => opK P g o env H fun env' H' => opsK P g ops rest env' H' K)
        (fun env => opsK P g ops rest (skipDst g env o.dst) H K)

end Go.Abs
