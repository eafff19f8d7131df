/-
The abstract layer, part N: regions in the order of the text; the code of a function.
-/
import Derived.Test.YtgiogphdnpeddaaGreatAbsM
import Derived.Tactics
set_option linter.all false
namespace Go.Abs
open Go.RowKit (Below)

/-! #### annotations: which slots count where ways meet -/

inductive Ann where
  | leaf
  | draw (order : List Nat)
  | cut (live : List Nat)
  | drawh (order : List Nat)
  | drawp (phases : List (List Nat))
  | seq (a b : Ann)
  | seqc (a b : Ann) (live : List Nat)
  | cond (a b : Ann)
  | block (a : Ann)
  | loop (live : List Nat) (a : Ann)

def dstL (d : Option Tmp) : List Nat := match d with | some d => [d] | none => []
/-- The slots that an operation turns. -/
def omods (g : Cfg) (o : Oper) : List Nat :=
  dstL o.dst ++ (match o.op with | .store _ _ _ => g.L | .alloc _ => g.R | .box _ _ => g.R | _ => [])
def rmods (g : Cfg) : List Oper → List Nat
  | [] => []
  | o :: r => omods g o ++ rmods g r
def mods (g : Cfg) : Code → List Nat
  | .region _ ops _ => rmods g ops.toList
  | .seq a b => mods g a ++ mods g b
  | .cond _ a b => mods g a ++ mods g b
  | .block _ a => mods g a
  | .loop a => mods g a
  | _ => []

def bc : V → List V | .box cs => cs | _ => []
def setMany (g : Cfg) (ms : List Nat) : List Nat → List V → List V → List V
  | [], _, env => env
  | d :: ds, xs, env => setMany g ms ds xs.tail (match ms.contains d with | true => env.set d (match g.L.contains d with | true => .box (bc (xs.headD .any)) | false => xs.headD .any) | false => env)
def getMany (env : List V) : List Nat → List V
  | [] => []
  | d :: ds => env.getD d .any :: getMany env ds
def head (g : Cfg) (ms live : List Nat) (env xs : List V) : List V := setMany g ms live xs (clr ms env)
/-- The local boxes that count are there. -/
def okMany (g : Cfg) (env : List V) : List Nat → Bool
  | [] => true
  | d :: ds => match g.L.contains d with
    | true => (match env[d]? with | some (.box _) => okMany g env ds | _ => false)
    | false => okMany g env ds
/-- In a part of the heap. -/
def Shr (J : Heap → Prop) (H : Heap) : Prop := ∃ H', Abs.sub H' H ∧ J H'
/-- Where ways meet. -/
def meet (g : Cfg) (env : List V) (live : List Nat) (J : List V → Heap → Prop) (H : Heap) : Prop :=
  match okMany g env live with | true => Shr (J (getMany env live)) H | false => False

def regK (P : Program) (g : Cfg) (ops : Array Oper) (draw : Bool) (env : List V) (H : Heap) (K : List V → Heap → Prop) : Prop :=
  match draw with
  | false => opsK P g ops.toList ops.toList env H K
  | true => False

/-! #### regions whose order is left open -/

def opnds : Op → List Operand
  | .move x => [x]
  | .assign x => [x]
  | .pick c a b => [c, a, b]
  | .box _ x => [x]
  | .build _ ps => ps.toList.map (·.2)
  | .buildSlice _ _ ps => ps.toList.map (·.2)
  | .load _ x => [x]
  | .store _ x v => [x, v]
  | .fieldAddr _ x _ => [x]
  | .field _ x _ => [x]
  | .indexAddr _ x i => [x, i]
  | .slice _ x lo hi mx => x :: (lo.toList ++ hi.toList ++ mx.toList)
  | .makeSlice _ l c => [l, c]
  | .binOp _ _ x y _ => [x, y]
  | .unOp _ _ x => [x]
  | .convert _ _ x => [x]
  | .extract x _ => [x]
  | .nilCheck x => [x]
  | .makeFunc _ _ caps => caps.toList
  | .call c => (match c.callee with | .value f => [f] | _ => []) ++ c.args.toList
  | _ => []
def tmpsOf : List Operand → List Nat
  | [] => []
  | .tmp t :: r => t :: tmpsOf r
  | _ :: r => tmpsOf r
/-- The slots that an operation looks at. -/
def rds (g : Cfg) (o : Oper) : List Nat := tmpsOf (opnds o.op) ++ (match (tmpsOf (opnds o.op)).any g.R.contains with | true => g.L | false => [])
/-- The slot of its guard. -/
def gslot (ops : List Oper) (o : Oper) : List Nat := match o.guard with
  | some (j, _) => (match ops[j]? with | some o' => dstL o'.dst | none => [])
  | none => []
/-- The slots that it turns. -/
def wrs (g : Cfg) (o : Oper) : List Nat := dstL o.dst ++ (match o.op with
  | .store _ (.tmp t) _ => (match g.L.contains t with | true => [t] | false => (match g.R.contains t with | true => g.L | false => []))
  | .alloc _ => (match (dstL o.dst).any g.L.contains with | true => g.R | false => [])
  | .box _ _ => (match (dstL o.dst).any g.L.contains with | true => g.R | false => [])
  | _ => [])
/-- The operations that look at no more than the slots and the part HS of the heap, and turn slots alone. -/
def isE (g : Cfg) (o : Oper) : Bool := match o.op with
  | .move _ => true
  | .assign _ => true
  | .pick _ _ _ => true
  | .build _ _ => true
  | .load _ _ => true
  | .fieldAddr _ _ _ => true
  | .field _ _ _ => true
  | .indexAddr _ _ _ => true
  | .slice _ _ _ _ _ => true
  | .binOp _ _ _ _ _ => true
  | .unOp _ _ _ => true
  | .convert _ _ _ => true
  | .extract _ _ => true
  | .nilCheck _ => true
  | .makeFunc _ _ _ => true
  | .alloc _ => (match o.dst with | some d => g.L.contains d | none => false)
  | .box _ _ => (match o.dst with | some d => g.L.contains d | none => false)
  | .store _ (.tmp t) _ => g.L.contains t || g.R.contains t
  | .call c => (match c.callee with | .builtin .len => true | .builtin .min => true | .builtin .max => true | _ => false)
  | _ => false

def opD (P : Program) (g : Cfg) (HS : Heap) (o : Oper) (env : List V) (H : Heap) (K : List V → Heap → Prop) : Prop :=
  match isE g o with
  | true => opK P g o env HS fun env' _ => K env' H
  | false => opK P g o env H fun env' H' => Abs.sub HS H' ∧ K env' H'
def stepD (P : Program) (g : Cfg) (HS : Heap) (ops : List Oper) (o : Oper) (env : List V) (H : Heap) (K : List V → Heap → Prop) : Prop :=
  match o.guard with
  | none => opD P g HS o env H K
  | some (j, want) => guardK ops env j want (fun env => opD P g HS o env H K) (fun env => K (skipDst g env o.dst) H)
def seqD (P : Program) (g : Cfg) (HS : Heap) (ops : List Oper) : List Nat → List V → Heap → (List V → Heap → Prop) → Prop
  | [], env, H, K => K env H
  | i :: r, env, H, K => match ops[i]? with
    | some o => stepD P g HS ops o env H fun e h => seqD P g HS ops r e h K
    | none => False

def depsOf (o : Oper) : List Nat := (o.after.toList.filter (Region.binds .any)).map (·.on)
def maskOf (tab : List Nat) : List Nat → Nat
  | [] => 0
  | d :: r => (2 ^ d) ||| (tab.getD d 0) ||| maskOf tab r
/-- What stands ahead of an operation, itself or by others. -/
def tabOf (ops : List Oper) : List Nat → List Nat → List Nat
  | [], tab => tab
  | i :: r, tab => match ops[i]? with
    | some o => tabOf ops r (tab.set i (maskOf tab (depsOf o)))
    | none => tabOf ops r tab
def noneIn (a b : List Nat) : Bool := a.all fun s => !b.contains s
def swapOk (g : Cfg) (ops : List Oper) (x y : Oper) : Bool :=
  isE g x && noneIn (wrs g x) (rds g y) && noneIn (wrs g x) (gslot ops y) && noneIn (wrs g x) (wrs g y) && noneIn (wrs g y) (rds g x) && noneIn (wrs g y) (gslot ops x)
def okG (g : Cfg) (o : Oper) : Bool := o.guard.isNone || (wrs g o).all fun s => (dstL o.dst).contains s || (rds g o).contains s
/-- A new object of which all is known beforehand. -/
def obA (P : Program) (g : Cfg) (o : Oper) : Option (Ob × Bool × Nat × Nat) :=
  match o.dst with
  | some d => match g.loc d with
    | true => none
    | false => match o.op with
      | .alloc t => (match tZero P t with | some z => some (⟨(cellsOf z).length, [cellsOf z]⟩, false, 0, d) | none => none)
      | .buildSlice t len parts => (match evp g [] parts.toList with
        | some ps => (match tElem P t with
          | some e => (match tSize P e with
            | some sz => (match tZero P e with
              | some z => (match bsl sz len (cellsOf z) ps with | some rows => some (⟨sz, rows⟩, true, len, d) | none => none)
              | none => none)
            | none => none)
          | none => none)
        | none => none)
      | _ => none
  | none => none
def mkA (b : Bool) (n q : Nat) : V := match b with | true => .slice q 0 n (some n) | false => .ptr q 0 0
def isA0 (P : Program) (g : Cfg) (o : Oper) : Bool := o.guard.isNone && (obA P g o).isSome
def swapA (g : Cfg) (ops : List Oper) (x y : Oper) : Bool := noneIn (wrs g x) (rds g y) && noneIn (wrs g x) (wrs g y) && noneIn (wrs g y) (rds g x) && noneIn (wrs g y) (gslot ops x)
def swapD (P : Program) (g : Cfg) (ops : List Oper) (x y : Oper) : Bool := swapOk g ops x y || (isA0 P g y && swapA g ops x y)
def okTail (P : Program) (g : Cfg) (ops : List Oper) (tab : List Nat) (x : Nat) (o : Oper) : List Nat → Bool
  | [] => true
  | y :: r => (match ops[y]? with
    | some o' => (Nat.testBit (tab.getD y 0) x || swapD P g ops o o') && !(depsOf o).contains y
    | none => false) && okTail P g ops tab x o r
def okOrder (P : Program) (g : Cfg) (ops : List Oper) (tab : List Nat) : List Nat → Bool
  | [] => true
  | x :: r => (match ops[x]? with
    | some o => okTail P g ops tab x o r && !(depsOf o).contains x && okG g o && (depsOf o).all fun d => Nat.blt d ops.length
    | none => false) && !r.contains x && okOrder P g ops tab r
def okDraw (P : Program) (g : Cfg) (ops : List Oper) (order : List Nat) : Bool :=
  P.follows .mixedOrders && Nat.ble order.length ops.length && (List.range ops.length).all order.contains && okOrder P g ops (tabOf ops order (List.replicate ops.length 0)) order
def drawK (P : Program) (g : Cfg) (ops : List Oper) (order : List Nat) (env : List V) (H : Heap) (K : List V → Heap → Prop) : Prop :=
  match okDraw P g ops order with
  | true => ∃ HS, Abs.sub HS H ∧ seqD P g HS ops order env H K
  | false => False

/-! A region whose heap reads keep their place among its effects: no part of the heap need be named. -/
/-- The operations that look at no heap. -/
def isE0 (g : Cfg) (o : Oper) : Bool := isE g o && match o.op with
  | .load _ (.tmp t) => g.L.contains t || g.R.contains t
  | .load _ _ => false
  | .indexAddr _ _ _ => false
  | .slice _ _ _ _ _ => false
  | _ => true
def noHeap : Heap := fun _ => none
def opH (P : Program) (g : Cfg) (o : Oper) (env : List V) (H : Heap) (K : List V → Heap → Prop) : Prop :=
  match isE0 g o with
  | true => opK P g o env noHeap fun env' _ => K env' H
  | false => opK P g o env H K
def stepH (P : Program) (g : Cfg) (ops : List Oper) (o : Oper) (env : List V) (H : Heap) (K : List V → Heap → Prop) : Prop :=
  match o.guard with
  | none => opH P g o env H K
  | some (j, want) => guardK ops env j want (fun env => opH P g o env H K) (fun env => K (skipDst g env o.dst) H)
def seqH (P : Program) (g : Cfg) (ops : List Oper) : List Nat → List V → Heap → (List V → Heap → Prop) → Prop
  | [], env, H, K => K env H
  | i :: r, env, H, K => match ops[i]? with
    | some o => stepH P g ops o env H fun e h => seqH P g ops r e h K
    | none => False
def swapH (P : Program) (g : Cfg) (ops : List Oper) (x y : Oper) : Bool := ((isE0 g x || isE g y) && swapOk g ops x y) || (isA0 P g y && swapA g ops x y)
def okTailH (P : Program) (g : Cfg) (ops : List Oper) (tab : List Nat) (x : Nat) (o : Oper) : List Nat → Bool
  | [] => true
  | y :: r => (match ops[y]? with
    | some o' => (Nat.testBit (tab.getD y 0) x || swapH P g ops o o') && !(depsOf o).contains y
    | none => false) && okTailH P g ops tab x o r
def okOrderH (P : Program) (g : Cfg) (ops : List Oper) (tab : List Nat) : List Nat → Bool
  | [] => true
  | x :: r => (match ops[x]? with
    | some o => okTailH P g ops tab x o r && !(depsOf o).contains x && okG g o && (depsOf o).all fun d => Nat.blt d ops.length
    | none => false) && !r.contains x && okOrderH P g ops tab r
def okDrawH (P : Program) (g : Cfg) (ops : List Oper) (order : List Nat) : Bool :=
  P.follows .mixedOrders && Nat.ble order.length ops.length && (List.range ops.length).all order.contains && okOrderH P g ops (tabOf ops order (List.replicate ops.length 0)) order
def drawH (P : Program) (g : Cfg) (ops : List Oper) (order : List Nat) (env : List V) (H : Heap) (K : List V → Heap → Prop) : Prop :=
  match okDrawH P g ops order with
  | true => seqH P g ops order env H K
  | false => False

/-! A region in phases: each phase stands ahead of the next ones; each names the part of the heap that its reads look at. -/
/-- The slot of a number that is turned into another kind. -/
def cvD (g : Cfg) (o : Oper) : Option Nat := match o.guard with
  | none => (match o.op with
    | .convert _ _ _ => (match o.dst with | some t => (match g.loc t with | false => some t | true => none) | none => none)
    | _ => none)
  | some _ => none
/-- No other operation turns the slot. -/
def soleW (g : Cfg) (ops : List Oper) (c t : Nat) : Bool := (List.range ops.length).all fun j => Nat.beq j c || (match ops[j]? with | some o => !(wrs g o).contains t | none => true)
/-- The slot holds a number once what the operation waits for is done. -/
def intS (g : Cfg) (ops : List Oper) (y : Oper) (s : Nat) : Bool := (depsOf y).any fun c => match ops[c]? with
  | some oc => (match cvD g oc with | some t => Nat.beq t s && soleW g ops c s | none => false)
  | none => false
/-- A new object, known once its slots are. -/
def obE (P : Program) (g : Cfg) (env : List V) (o : Oper) : Option (Ob × Bool × Nat × Nat) :=
  match o.dst with
  | some d => match g.loc d with
    | true => none
    | false => match o.op with
      | .alloc t => (match tZero P t with | some z => some (⟨(cellsOf z).length, [cellsOf z]⟩, false, 0, d) | none => none)
      | .buildSlice t len parts => (match evp g env parts.toList with
        | some ps => (match tElem P t with
          | some e => (match tSize P e with
            | some sz => (match tZero P e with
              | some z => (match bsl sz len (cellsOf z) ps with | some rows => some (⟨sz, rows⟩, true, len, d) | none => none)
              | none => none)
            | none => none)
          | none => none)
        | none => none)
      | _ => none
  | none => none
def elem1 (P : Program) (t : TypeId) : Bool := match tElem P t with
  | some e => (match tSize P e with | some sz => (match tZero P e with | some z => Nat.beq sz 1 && Nat.beq (cellsOf z).length 1 | none => false) | none => false)
  | none => false
def one1 (g : Cfg) (ops : List Oper) (y : Oper) (len : Nat) : List (Nat × Operand) → Bool
  | [(i, .tmp s)] => Nat.beq i 0 && Nat.beq len 1 && !g.loc s && intS g ops y s
  | _ => false
def isA1 (P : Program) (g : Cfg) (ops : List Oper) (y : Oper) : Bool := y.guard.isNone && match y.dst with
  | some d => !g.loc d && (match y.op with | .buildSlice t len parts => elem1 P t && one1 g ops y len parts.toList | _ => false)
  | none => false
def swapP (P : Program) (g : Cfg) (ops : List Oper) (x y : Oper) : Bool := swapOk g ops x y || ((isA0 P g y || isA1 P g ops y) && swapA g ops x y)
def okTailP (P : Program) (g : Cfg) (ops : List Oper) (tab : List Nat) (x : Nat) (o : Oper) : List Nat → Bool
  | [] => true
  | y :: r => (match ops[y]? with
    | some o' => (Nat.testBit (tab.getD y 0) x || swapP P g ops o o') && !(depsOf o).contains y
    | none => false) && okTailP P g ops tab x o r
def okOrderP (P : Program) (g : Cfg) (ops : List Oper) (tab : List Nat) : List Nat → Bool
  | [] => true
  | x :: r => (match ops[x]? with
    | some o => okTailP P g ops tab x o r && !(depsOf o).contains x && okG g o && (depsOf o).all fun d => Nat.blt d ops.length
    | none => false) && !r.contains x && okOrderP P g ops tab r
def cat : List (List Nat) → List Nat
  | [] => []
  | p :: r => p ++ cat r
/-- All of a phase stands ahead of what follows. -/
def ahead (ops : List Oper) (tab : List Nat) (p q : List Nat) : Bool := p.all fun x => (match ops[x]? with
  | some o => q.all fun y => Nat.testBit (tab.getD y 0) x && !(depsOf o).contains y && !Nat.beq x y
  | none => false)
def okPh (P : Program) (g : Cfg) (ops : List Oper) (tab : List Nat) : List (List Nat) → Bool
  | [] => true
  | p :: r => okOrderP P g ops tab p && ahead ops tab p (cat r) && okPh P g ops tab r
def cvLen (g : Cfg) (ops : List Oper) (n : Nat) : Bool := ops.all fun o => match cvD g o with | some t => Nat.blt t n | none => true
def okDrawP (P : Program) (g : Cfg) (ops : List Oper) (ph : List (List Nat)) (n : Nat) : Bool :=
  P.follows .mixedOrders && Nat.ble (cat ph).length ops.length && (List.range ops.length).all (cat ph).contains && okPh P g ops (tabOf ops (cat ph) (List.replicate ops.length 0)) ph && cvLen g ops n
def phK (P : Program) (g : Cfg) (ops : List Oper) : List (List Nat) → List V → Heap → (List V → Heap → Prop) → Prop
  | [], env, H, K => K env H
  | p :: r, env, H, K => ∃ HS, Abs.sub HS H ∧ seqD P g HS ops p env H fun e h => phK P g ops r e h K
def drawP (P : Program) (g : Cfg) (ops : List Oper) (ph : List (List Nat)) (env : List V) (H : Heap) (K : List V → Heap → Prop) : Prop :=
  match okDrawP P g ops ph env.length with
  | true => phK P g ops ph env H K
  | false => False

def awp (P : Program) (g : Cfg) : Code → Ann → (Ex → List V → Heap → Prop) → List V → Heap → Prop
  | .skip, _, Q, env, H => Q .normal env H
  | .ret, _, Q, env, H => Q .ret env H
  | .exit id, _, Q, env, H => Q (.exit id) env H
  | .region _ ops draw, .cut live, Q, env, H => ∃ J : List V → Heap → Prop, regK P g ops draw env H (fun env' H' => meet g env' live J H') ∧
      ∀ xs H', J xs H' → Q .normal (head g (mods g (.region 0 ops draw)) live env xs) H'
  | .region _ ops draw, .draw order, Q, env, H => match draw with
    | true => drawK P g ops.toList order env H (fun env' H' => Q .normal env' H')
    | false => False
  | .region _ ops draw, .drawh order, Q, env, H => match draw with
    | true => drawH P g ops.toList order env H (fun env' H' => Q .normal env' H')
    | false => False
  | .region _ ops draw, .drawp ph, Q, env, H => match draw with
    | true => drawP P g ops.toList ph env H (fun env' H' => Q .normal env' H')
    | false => False
  | .region _ ops draw, _, Q, env, H => regK P g ops draw env H (fun env' H' => Q .normal env' H')
  | .seq a b, .seq x y, Q, env, H => awp P g a x (fun e env' H' => match e with | .normal => awp P g b y Q env' H' | e => Q e env' H') env H
  | .seq a b, .seqc x y live, Q, env, H => ∃ J : List V → Heap → Prop, awp P g a x (fun e env' H' => match e with | .normal => meet g env' live J H' | e => Q e env' H') env H ∧
      ∀ xs H', J xs H' → awp P g b y Q (head g (mods g a) live env xs) H'
  | .cond c a b, .cond x y, Q, env, H => bnd (ev g env c) fun v => cnd v (awp P g a x Q env H) (awp P g b y Q env H)
  | .block id a, .block x, Q, env, H => awp P g a x (fun e env' H' => match e with
      | .exit id' => match id' == id with | true => Q .normal env' H' | false => Q (.exit id') env' H'
      | e => Q e env' H') env H
  | .loop a, .loop live x, Q, env, H => ∃ (I : Nat → List V → Heap → Prop) (n0 : Nat), meet g env live (I n0) H ∧
      ∀ n xs H', I n xs H' → awp P g a x (fun e env' H'' => match e with
        | .normal => ∃ m, m < n ∧ meet g env' live (I m) H''
        | e => Q e env' H'') (head g (mods g a) live env xs) H'
  | _, _, _, _, _ => False

/-! #### which slots an operation turns -/

def agree (ms : List Nat) (e e' : List V) : Prop := e.length = e'.length ∧ ∀ s, s ∉ ms → e[s]? = e'[s]?
theorem agree.refl (ms : List Nat) (e : List V) : agree ms e e := ⟨rfl, fun _ _ => rfl⟩
theorem agree.trans {ms : List Nat} {a b c : List V} (h : agree ms a b) (k : agree ms b c) : agree ms a c := ⟨h.1.trans k.1, fun s hs => (h.2 s hs).trans (k.2 s hs)⟩
theorem agree.mono {ms ms' : List Nat} {a b : List V} (h : agree ms a b) (hm : ∀ s, s ∈ ms → s ∈ ms') : agree ms' a b := ⟨h.1, fun s hs => h.2 s (fun h' => hs (hm s h'))⟩
theorem agree.set {ms : List Nat} (e : List V) {d : Nat} (v : V) (hd : d ∈ ms) : agree ms e (e.set d v) :=
  ⟨by simp, fun s hs => by
    have : d ≠ s := by rintro rfl; exact hs hd
    simp [this]⟩
theorem agree.clr {ms : List Nat} : ∀ (ds : List Nat) (e : List V), (∀ d, d ∈ ds → d ∈ ms) → agree ms e (clr ds e)
  | [], e, _ => agree.refl _ _
  | d :: ds, e, h => (agree.set e .any (h d List.mem_cons_self)).trans (agree.clr ds _ (fun d hd => h d (List.mem_cons_of_mem _ hd)))


section
variable {P : Program} {g : Cfg} {w0 : World} {base : Nat} {F : Heap} {ι : Nat → Option Place} {β : Nat → Option Nat} {G : Heap} {env : List V} {H : Heap} {a : Act} {w : World}

theorem ACalls.mono {f : FuncId} {args : List V} {R R' : V → Heap → Prop} (h : ACalls P f args H R) (hr : ∀ v H', R v H' → R' v H') : ACalls P f args H R' :=
  ⟨fun w0 base F ι G w cargs h1 h2 h3 h4 h5 => (h.run w0 base F ι G w cargs h1 h2 h3 h4 h5).mono fun _ _ ⟨v, cv, ι', G', H', q1, q2, q3, q4, q5, q6, q7, q8⟩ => ⟨v, cv, ι', G', H', q1, q2, q3, q4, q5, q6, q7, hr _ _ q8⟩⟩

theorem bnd_mono {α : Type} {o : Option α} {K K' : α → Prop} (h : bnd o K) (hk : ∀ v, o = some v → K v → K' v) : bnd o K' := by
  obtain ⟨v, rfl, h⟩ := bnd_elim h; exact hk v rfl h

theorem putK_lift {dst : Option Tmp} {v : V} {K K' : List V → Prop} (h : putK g env dst v K) (hk : ∀ env', agree (dstL dst) env env' → K env' → K' env') : putK g env dst v K' := by
  cases dst with
  | none => exact hk env (agree.refl _ _) h
  | some d =>
    simp only [putK, setK_eq] at h ⊢
    revert h
    cases g.loc d with
    | true => exact fun h => h
    | false => exact fun h => hk _ (agree.set _ _ (by simp [dstL])) h

theorem newBox_lift {dst : Option Tmp} {cs : List V} {K K' : List V → Heap → Prop} (h : newBox g env H dst cs K) (hk : ∀ env' H', agree (dstL dst ++ g.R) env env' → K env' H' → K' env' H') : newBox g env H dst cs K' := by
  cases dst with
  | none => exact h
  | some d =>
    simp only [newBox, setK_eq] at h ⊢
    revert h
    cases g.L.contains d with
    | true =>
      refine fun h => hk _ _ ?_ h
      exact (agree.clr _ _ (fun d hd => List.mem_append_right _ hd)).trans (agree.set _ _ (by simp [dstL]))
    | false =>
      cases g.R.contains d with
      | true => exact fun h => h
      | false => exact fun h o ho => hk _ _ (agree.set _ _ (by simp [dstL])) (h o ho)

theorem fieldK_lift {dst : Option Tmp} {off : Nat} {l : Loc} {K K' : List V → Prop} (h : fieldK g env dst off l K) (hk : ∀ env', agree (dstL dst) env env' → K env' → K' env') : fieldK g env dst off l K' := by
  cases l with
  | heap p => exact bnd_mono h fun v _ h => putK_lift h hk
  | here s c cs =>
    cases dst with
    | none => exact hk env (agree.refl _ _) h
    | some d =>
      simp only [fieldK, setK_eq] at h ⊢
      revert h
      cases g.L.contains d with
      | true => exact fun h => h
      | false =>
        cases g.R.contains d with
        | true => exact fun h => hk _ (agree.set _ _ (by simp [dstL])) h
        | false => exact fun h => h

theorem appendK_mono {sz by_ : Nat} {s : V} {xs : List (List V)} {K K' : V → Heap → Prop} (h : appendK H sz by_ s xs K) (hk : ∀ v H', K v H' → K' v H') : appendK H sz by_ s xs K' := by
  unfold appendK at *
  split at h
  · exact ⟨fun e => hk _ _ (h.1 e), fun e => ⟨(h.2 e).1, fun o ho => hk _ _ ((h.2 e).2 o ho)⟩⟩
  · split at h
    · exact h.elim
    · obtain ⟨h1, h2, h3, h4⟩ := h
      refine ⟨h1, h2, fun e => hk _ _ (h3 e), fun e => ⟨(h4 e).1, ?_⟩⟩
      have h5 := (h4 e).2
      split at h5
      · exact ⟨h5.1, fun o ho => hk _ _ (h5.2 o ho)⟩
      · exact ⟨fun q => ⟨(h5.1 q).1, hk _ _ (h5.1 q).2⟩, fun q o ho => hk _ _ (h5.2 q o ho)⟩
  · exact h.elim

theorem copyK_mono {sz : Nat} {d : V} {xs : List (List V)} {K K' : V → Heap → Prop} (h : copyK H sz d xs K) (hk : ∀ v H', K v H' → K' v H') : copyK H sz d xs K' := by
  unfold copyK at *
  split at h
  · exact hk _ _ h
  · split at h
    · exact h.elim
    · exact ⟨h.1, h.2.1, hk _ _ h.2.2⟩
  · exact h.elim

theorem clearK_mono {sz : Nat} {z : List V} {d : V} {K K' : V → Heap → Prop} (h : clearK H sz z d K) (hk : ∀ v H', K v H' → K' v H') : clearK H sz z d K' := by
  unfold clearK at *
  split at h
  · exact hk _ _ h
  · split at h
    · exact h.elim
    · exact ⟨h.1, h.2.1, h.2.2.1, hk _ _ h.2.2.2⟩
  · exact h.elim

theorem growZ_mono {sz by_ : Nat} {z : List V} {s x : V} {K K' : V → Heap → Prop} (h : growZ H sz by_ z s x K) (hk : ∀ v H', K v H' → K' v H') : growZ H sz by_ z s x K' := by
  unfold growZ at *
  split at h
  · split at h
    · exact h.elim
    · obtain ⟨h1, h2, h3, h4, h5, h6, h7⟩ := h
      exact ⟨h1, h2, h3, h4, h5, h6, fun o' ho' => hk _ _ (h7 o' ho')⟩
  · exact h.elim
theorem builtinK_mono {b : Builtin} {tys : List TypeId} {args : List V} {K K' : V → Heap → Prop} (h : builtinK P H b tys args K) (hk : ∀ v H', K v H' → K' v H') : builtinK P H b tys args K' := by
  unfold builtinK at *
  split at h
  · exact bnd_mono h fun _ _ h => bnd_mono h fun _ _ h => hk _ _ h
  · refine bnd_mono h fun _ _ h => ?_
    unfold capK at *
    split at h
    · exact fun c hc => hk _ _ (h c hc)
    · exact hk _ _ h
    · exact hk _ _ h
    · exact h.elim
  · split at h
    · rename_i e
      rw [if_pos e]
      refine bnd_mono h fun _ _ h => bnd_mono h fun _ _ h => bnd_mono h fun _ _ h => bnd_mono h fun _ _ h => ?_
      split at h
      · rename_i hc; rw [if_pos hc]; exact bnd_mono h fun _ _ h => appendK_mono h hk
      · exact h.elim
    · rename_i e
      rw [if_neg e]
      refine bnd_mono h fun _ _ h => bnd_mono h fun _ _ h => bnd_mono h fun _ _ h => bnd_mono h fun _ _ h => ?_
      split at h
      · rename_i hc; rw [if_pos hc]; exact growZ_mono h hk
      · exact h.elim
  · exact bnd_mono h fun _ _ h => bnd_mono h fun _ _ h => bnd_mono h fun _ _ h => copyK_mono h hk
  · exact bnd_mono h fun _ _ h => bnd_mono h fun _ _ h => bnd_mono h fun _ _ h => clearK_mono h hk
  · exact bnd_mono h fun _ _ h => hk _ _ h
  · exact bnd_mono h fun _ _ h => hk _ _ h
  · exact h.elim

theorem locOf_here {x : Operand} {s c : Nat} {cs : List V} (h : locOf g env x = some (.here s c cs)) : g.L.contains s = true := by
  unfold locOf at h
  split at h
  · split at h
    · rename_i hl; split at h
      · cases h; exact hl
      · cases h
    · split at h
      · split at h
        · split at h
          · rename_i hl; split at h
            · cases h; exact hl
            · cases h
          · cases h
        · cases h
      · split at h
        · cases h
        · cases h
  · split at h
    · cases h
    · cases h

theorem agree_app {a b : List Nat} {e e' : List V} (h : agree a e e') : agree (a ++ b) e e' := h.mono fun s hs => List.mem_append_left _ hs

theorem opK_lift {o : Oper} {K K' : List V → Heap → Prop} (h : opK P g o env H K) (hk : ∀ env' H', agree (omods g o) env env' → K env' H' → K' env' H') : opK P g o env H K' := by
  have hput : ∀ {v : V} {H' : Heap}, putK g env o.dst v (fun env' => K env' H') → putK g env o.dst v (fun env' => K' env' H') := fun h => putK_lift h fun env' ha h => hk _ _ (agree_app ha) h
  unfold opK at *
  split at h
  · exact bnd_mono h fun _ _ h => hput h
  · exact bnd_mono h fun _ _ h => hput h
  · exact bnd_mono h fun _ _ h => bnd_mono h fun _ _ h => bnd_mono h fun _ _ h => bnd_mono h fun _ _ h => hput h
  · rename_i t ho
    exact bnd_mono h fun _ _ h => newBox_lift h fun env' H' ha h => hk _ _ (by unfold omods; rw [ho]; exact ha) h
  · rename_i t x ho
    exact bnd_mono h fun _ _ h => ⟨h.1, newBox_lift h.2 fun env' H' ha h => hk _ _ (by unfold omods; rw [ho]; exact ha) h⟩
  · refine bnd_mono h fun _ _ h => bnd_mono h fun _ _ h => ?_
    split at h
    · exact bnd_mono h fun _ _ h => hput h
    · exact h.elim
  · exact bnd_mono h fun _ _ h => bnd_mono h fun _ _ h => bnd_mono h fun _ _ h => bnd_mono h fun _ _ h => bnd_mono h fun _ _ h => fun o' ho' => hput (h o' ho')
  · exact bnd_mono h fun _ _ h => bnd_mono h fun _ _ h => hput h
  · rename_i t x v ho
    split at h
    · refine bnd_mono h fun l hl h => bnd_mono h fun _ _ h => ?_
      cases l with
      | heap p => exact bnd_mono h fun H' _ h => hk _ _ (agree.refl _ _) h
      | here s c cs =>
        refine bnd_mono h fun cs' _ h => ?_
        rw [setK_eq] at h
        show setK env s (.box cs') fun e => K' e H
        rw [setK_eq]
        refine hk _ _ (agree.set _ _ ?_) h
        unfold omods; rw [ho]
        have := locOf_here hl
        simp at this
        simp [this]
    · exact h.elim
  · exact bnd_mono h fun _ _ h => bnd_mono h fun _ _ h => fieldK_lift h fun env' ha h => hk _ _ (agree_app ha) h
  · exact bnd_mono h fun _ _ h => bnd_mono h fun _ _ h => bnd_mono h fun _ _ h => bnd_mono h fun _ _ h => hput h
  · exact bnd_mono h fun _ _ h => bnd_mono h fun _ _ h => bnd_mono h fun _ _ h => bnd_mono h fun _ _ h => bnd_mono h fun _ _ h => hput h
  · exact bnd_mono h fun _ _ h => bnd_mono h fun _ _ h => bnd_mono h fun _ _ h => bnd_mono h fun _ _ h => bnd_mono h fun _ _ h => bnd_mono h fun _ _ h => bnd_mono h fun _ _ h => hput h
  · exact bnd_mono h fun _ _ h => bnd_mono h fun _ _ h => bnd_mono h fun _ _ h => bnd_mono h fun _ _ h => bnd_mono h fun _ _ h => bnd_mono h fun _ _ h => bnd_mono h fun _ _ h => bnd_mono h fun _ _ h => ⟨h.1, fun o' ho' => hput (h.2 o' ho')⟩
  · exact bnd_mono h fun _ _ h => bnd_mono h fun _ _ h => bnd_mono h fun _ _ h => hput h
  · exact bnd_mono h fun _ _ h => bnd_mono h fun _ _ h => hput h
  · exact bnd_mono h fun _ _ h => bnd_mono h fun _ _ h => hput h
  · exact bnd_mono h fun _ _ h => bnd_mono h fun _ _ h => hput h
  · exact bnd_mono h fun _ _ h => bnd_mono h fun _ _ h => hput h
  · exact bnd_mono h fun _ _ h => bnd_mono h fun _ _ h => hput h
  · split at h
    · exact bnd_mono h fun _ _ h => hput h
    · exact h.elim
  · split at h
    · refine bnd_mono h fun _ _ h => bnd_mono h fun _ _ h => ?_
      unfold callK at *
      split at h
      · split at h
        · exact h.mono fun v H' h => hput h
        · exact h.elim
      · exact h.elim
    · exact bnd_mono h fun _ _ h => builtinK_mono h fun v H' h => hput h
    · exact h.elim
  · exact h.elim

end
end Go.Abs
