/- A plain machine beside Go's: values and lists in the place of memory. What it answers is told by its text alone; that Go's own machine answers the same is proved in the texts behind this one. Any program. -/
import Derived.Calls
import GoSem.Claim
set_option linter.unusedVariables false
namespace Go.Sx

inductive Ty where
  | int (k : IntKind) | bool | str
  | sl (e : Nat) (t : Ty)
  | ow (e : Nat) (t : Ty)
  | pair (a b : Ty) | wrap (t : Ty) | unit
  | fnc (f : Nat)
  /-- A new variable, by a pointer. -/
  | bx (ty : Nat) (t : Ty)
  /-- A cell of which nothing is told. -/
  | any
  /-- A list by links that stay: a pointer to a struct L of an element and the next pointer, or nil. -/
  | lk (L : Nat) (t : Ty)
  /-- A pointer to a variable that stays. -/
  | fp (t : Ty)
  /-- A map from numbers that is read; one of one's own. -/
  | mq (T : Nat) (t : Ty)
  | om (T : Nat) (t : Ty)
  /-- A row of one's own with all rows that are in it. -/
  | dw (e : Nat) (t : Ty)
  deriving DecidableEq

def el : Ty → Type
  | .int _ => Int
  | .bool => Bool
  | .str => ByteArray
  | .sl _ t => List (el t)
  | .ow _ t => List (el t)
  | .pair a b => el a × el b
  | .wrap t => el t
  | .unit => Unit
  | .fnc _ => Unit
  | .bx _ t => el t
  | .any => Unit
  | .lk _ t => List (el t)
  | .fp t => el t
  | .mq _ t => List (Int × el t)
  | .om _ t => List (Int × el t)
  | .dw _ t => List (el t)

def dflt : (t : Ty) → el t
  | .int _ => (0 : Int)
  | .bool => false
  | .str => ByteArray.empty
  | .sl _ _ => []
  | .ow _ _ => []
  | .pair a b => (dflt a, dflt b)
  | .wrap t => dflt t
  | .unit => ()
  | .fnc _ => ()
  | .bx _ t => dflt t
  | .any => ()
  | .lk _ _ => []
  | .fp t => dflt t
  | .mq _ _ => []
  | .om _ _ => []
  | .dw _ _ => []

def sz : Ty → Nat
  | .pair a b => sz a + sz b
  | .wrap t => sz t
  | .unit => 0
  | _ => 1

/-- No slice inside. -/
def flat : Ty → Bool
  | .sl _ _ | .ow _ _ | .fnc _ | .bx _ _ | .any | .lk _ _ | .fp _ | .mq _ _ | .om _ _ | .dw _ _ => false
  | .pair a b => flat a && flat b
  | .wrap t => flat t
  | _ => true
/-- Nothing of one's own, no function: what an element may be. -/
def rdo : Ty → Bool
  | .ow _ _ | .fnc _ | .bx _ _ | .any | .lk _ _ | .fp _ | .mq _ _ | .om _ _ | .dw _ _ => false
  | .sl _ t => rdo t
  | .pair a b => rdo a && rdo b
  | .wrap t => rdo t
  | _ => true
/-- Nothing of one's own. -/
def rdk : Ty → Bool
  | .ow _ _ | .bx _ _ | .om _ _ | .dw _ _ => false
  | .pair a b => rdk a && rdk b
  | .wrap t => rdk t
  | _ => true
/-- What may be owned with all that is in it. -/
def deepT : Ty → Bool
  | .int _ | .bool | .str | .unit => true
  | .sl _ t => deepT t
  | .pair a b => deepT a && deepT b
  | .wrap t => deepT t
  | _ => false
/-- Something that is shared may be in it. -/
def imm : Ty → Bool
  | .sl _ _ => true
  | .ow _ t => !flat t
  | .pair a b => imm a || imm b
  | .wrap t => imm t
  | .bx _ t => imm t
  | .any | .lk _ _ | .fp _ | .mq _ _ => true
  | .om _ t => !flat t
  | _ => false
def isAg : Ty → Bool
  | .pair _ _ | .wrap _ | .unit => true
  | _ => false

/-- A value of one cell. -/
inductive AC where
  | undef
  | int (k : IntKind) (n : Int)
  | bool (b : Bool)
  | str (s : ByteArray)
  | sl (e : Nat) (t : Ty) (xs : List (el t))
  | nilsl
  | o (id : Nat)
  | p (id off : Nat)
  | pe (id sz : Nat) (i : Int) (off : Nat)
  | pr (t : Ty) (x : el t) (off : Nat)
  | pnil
  | lk (L : Nat) (t : Ty) (xs : List (el t))
  /-- A map that is read. -/
  | mr (T : Nat) (t : Ty) (es : List (Int × el t))
  /-- A slice that is read, of which it is known whether it is nil. -/
  | slk (q : Bool) (e : Nat) (t : Ty) (xs : List (el t))
  | fn (f : Nat) (caps : List AC)

inductive Obj where
  | box (ty : Nat) (cells : List AC)
  | own (e : Nat) (t : Ty) (xs : List (el t))
  | fro (e : Nat) (t : Ty) (xs : List (el t))
  /-- A map from rows of n numbers to numbers, in the order in which they came. -/
  | mp (T n : Nat) (es : List (List Int × Int))
  /-- A map from numbers. -/
  | mq (T : Nat) (t : Ty) (es : List (Int × el t))
  /-- A row of one's own with all rows that are in it. -/
  | dp (e : Nat) (t : Ty) (xs : List (el t))
  /-- The same, but a row that is in it (of the i-th element, at its cell off) goes by a name of its own, nm. -/
  | dh (e : Nat) (t : Ty) (xs : List (el t)) (i off nm : Nat)

inductive AV where
  | one (c : AC)
  | agg (cs : List AC)
inductive TV where
  | v (a : AV)
  | tup (vs : List AV)
abbrev TV.c (c : AC) : TV := .v (.one c)
abbrev TV.u : TV := .v (.one .undef)

def AV.cells : AV → List AC
  | .one c => [c]
  | .agg cs => cs
def AC.isU : AC → Bool
  | .undef => true
  | _ => false

/-- Bytes as a string. -/
def strN (xs : List Int) : ByteArray := ⟨(xs.map fun n => UInt8.ofNat n.toNat).toArray⟩
/-- From this number on a 'function' with captures is something else that is made of them: the nil interface, a slice of a variable's cells, an interface value. -/
def ixB : Nat := 1000000
def fncC (f : Nat) : AC := .fn f (cond (Nat.beq f ixB) [.bool true] [])

def cells : (t : Ty) → el t → List AC
  | .int k, n => [.int k n]
  | .bool, b => [.bool b]
  | .str, s => [.str s]
  | .sl e t, xs => [.sl e t xs]
  | .ow e t, xs => [.sl e t xs]
  | .pair a b, x => cells a x.1 ++ cells b x.2
  | .wrap t, x => cells t x
  | .unit, _ => []
  | .fnc f, _ => [fncC f]
  | .bx _ _, _ => [.undef]
  | .any, _ => [.undef]
  | .lk L t, xs => [.lk L t xs]
  | .fp t, x => [.pr t x 0]
  | .mq T t, es => [.mr T t es]
  | .om T t, es => [.mr T t es]
  | .dw e t, xs => [.sl e t xs]

abbrev Hp := Nat → Option Obj

structure SlV where
  e : Nat
  t : Ty
  xs : List (el t)
/-- What a slice's cell says, by the heap. -/
def slc (h : Hp) : AC → Option SlV
  | .sl e t xs => some ⟨e, t, xs⟩
  | .slk _ e t xs => some ⟨e, t, xs⟩
  | .o id => match h id with
    | some (.own e t xs) => some ⟨e, t, xs⟩
    | some (.fro e t xs) => some ⟨e, t, xs⟩
    | _ => none
  | _ => none
def SlV.as (s : SlV) (e : Nat) (t : Ty) : Option (List (el t)) :=
  if h : s.t = t then cond (Nat.beq s.e e) (some (h ▸ s.xs)) none else none
def asOwn (h : Hp) (e : Nat) (t : Ty) : AC → Option (List (el t))
  | .nilsl => some []
  | .o id => match h id with
    | some (.own e' t' xs) => (SlV.mk e' t' xs).as e t
    | _ => none
  | _ => none
def asDp (h : Hp) (e : Nat) (t : Ty) : AC → Option (List (el t))
  | .nilsl => some []
  | .o id => match h id with
    | some (.dp e' t' xs) => (SlV.mk e' t' xs).as e t
    | _ => none
  | _ => none
def dpO (h : Hp) (e : Nat) (t : Ty) : AC → Option (Nat × List (el t))
  | .o id => match h id with
    | some (.dp e' t' xs) => match (SlV.mk e' t' xs).as e t with
      | some ys => some (id, ys)
      | none => none
    | _ => none
  | _ => none
def asRead (h : Hp) (e : Nat) (t : Ty) : AC → Option (List (el t))
  | .nilsl => some []
  | c => match slc h c with
    | some s => s.as e t
    | none => none

structure MqV where
  T : Nat
  t : Ty
  es : List (Int × el t)
/-- What a map's cell says, by the heap. -/
def mqc (h : Hp) : AC → Option MqV
  | .mr T t es => some ⟨T, t, es⟩
  | .o id => match h id with
    | some (.mq T t es) => some ⟨T, t, es⟩
    | _ => none
  | _ => none
def MqV.as (s : MqV) (T : Nat) (t : Ty) : Option (List (Int × el t)) :=
  if h : s.t = t then cond (Nat.beq s.T T) (some (h ▸ s.es)) none else none
def asMq (h : Hp) (T : Nat) (t : Ty) (c : AC) : Option (List (Int × el t)) := match mqc h c with
  | some s => s.as T t
  | none => none
def asOm (h : Hp) (T : Nat) (t : Ty) : AC → Option (List (Int × el t))
  | .o id => match h id with
    | some (.mq T' t' es) => (MqV.mk T' t' es).as T t
    | _ => none
  | _ => none
structure PrV where
  t : Ty
  x : el t
def PrV.as (s : PrV) (t : Ty) : Option (el t) := if h : s.t = t then some (h ▸ s.x) else none
def decInt (k : IntKind) : List AC → Option (Int × List AC)
  | .int k' n :: r => if k = k' then some (n, r) else none
  | _ => none
def decBool : List AC → Option (Bool × List AC)
  | .bool b :: r => some (b, r)
  | _ => none
def decStr : List AC → Option (ByteArray × List AC)
  | .str s :: r => some (s, r)
  | _ => none
def decFnc (f : Nat) : List AC → Option (Unit × List AC)
  | .fn g [] :: r => cond (Nat.beq f g && !Nat.beq f ixB) (some ((), r)) none
  | .fn g [.bool true] :: r => cond (Nat.beq f g && Nat.beq f ixB) (some ((), r)) none
  | _ => none
def decSl {α : Type} (rd : AC → Option α) : List AC → Option (α × List AC)
  | c :: r => match rd c with
    | some xs => some (xs, r)
    | none => none
  | [] => none
/-- A new variable's cells. -/
def decBx {α : Type} (h : Hp) (ty : Nat) (rd : List AC → Option (α × List AC)) : List AC → Option (α × List AC)
  | .p id 0 :: r => match h id with
    | some (.box ty' cs) => cond (Nat.beq ty ty') (match rd cs with
      | some (x, []) => some (x, r)
      | _ => none) none
    | _ => none
  | _ => none
/-- A variable that stays: told already, or from now on. -/
def decFp (h : Hp) (t : Ty) (rd : List AC → Option (el t × List AC)) : List AC → Option (el t × List AC)
  | .pr t' x off :: r => cond (Nat.beq off 0) (match (PrV.mk t' x).as t with
    | some y => some (y, r)
    | none => none) none
  | .p id off :: r => cond (Nat.beq off 0 && rdk t) (match h id with
    | some (.box _ cs) => match rd cs with
      | some (x, []) => some (x, r)
      | _ => none
    | _ => none) none
  | _ => none
/-- A value out of its cells. -/
def dec (h : Hp) : (t : Ty) → List AC → Option (el t × List AC)
  | .int k, cs => decInt k cs
  | .bool, cs => decBool cs
  | .str, cs => decStr cs
  | .sl e t, cs => decSl (asRead h e t) cs
  | .ow e t, cs => decSl (asOwn h e t) cs
  | .pair a b, cs => match dec h a cs with
    | some (x, r) => match dec h b r with
      | some (y, r') => some ((x, y), r')
      | none => none
    | none => none
  | .wrap t, cs => dec h t cs
  | .unit, cs => some ((), cs)
  | .fnc f, cs => decFnc f cs
  | .bx ty t, cs => decBx h ty (dec h t) cs
  | .any, _ => none
  | .lk _ _, _ => none
  | .fp t, cs => decFp h t (dec h t) cs
  | .mq T t, cs => decSl (asMq h T t) cs
  | .om T t, cs => decSl (asOm h T t) cs
  | .dw e t, cs => decSl (asDp h e t) cs
def decAll (h : Hp) (t : Ty) (cs : List AC) : Option (el t) :=
  match dec h t cs with
  | some (x, []) => some x
  | _ => none
def decN (h : Hp) (t : Ty) : Nat → List AC → Option (List (el t))
  | 0, [] => some []
  | n + 1, cs => match dec h t cs with
    | some (x, r) => match decN h t n r with
      | some xs => some (x :: xs)
      | none => none
    | none => none
  | _, _ => none

abbrev Upd := List (Nat × Option Obj)
/-- The rows of one's own that are kept inside something else: from now on they stay. -/
def frz (h : Hp) : List AC → Upd
  | [] => []
  | .o id :: r => match h id with
    | some (.own e t xs) => (id, some (.fro e t xs)) :: frz h r
    | some (.dp e t xs) => (id, some (.fro e t xs)) :: frz h r
    | _ => frz h r
  | _ :: r => frz h r

structure SR where
  conds : List Bool
  τ : Ty
  comp : Option (el τ)
  val : el τ → TV
  upd : el τ → Upd
def SR.now (conds : List Bool) (val : TV) (upd : Upd) : SR := ⟨conds, .unit, some (), fun _ => val, fun _ => upd⟩

def ofConst1 : Value → AC
  | .int k n => .int k n
  | .bool b => .bool b
  | .string s => .str s
  | .pointer none => .pnil
  | .slice none n c => cond (Nat.beq n 0 && Nat.beq c 0) .nilsl .undef
  | .func (.func f) fi ca => cond (Nat.beq fi.size 0 && Nat.beq ca.size 0) (.fn f []) .undef
  | .nilIface => .fn ixB [.bool true]
  | _ => .undef
def ofConst : Value → TV
  | .agg cs => .v (.agg (cs.toList.map ofConst1))
  | .tuple _ => .u
  | v => .c (ofConst1 v)

def assoc {α : Type} : List (Nat × α) → Nat → Option α
  | [], _ => none
  | (i, x) :: r, j => cond (Nat.beq i j) (some x) (assoc r j)

abbrev CallF := (f : Nat) → (τ : Ty) → List TV → List (Option Obj) → Option (el τ)
structure Env where
  P : Program
  tys : List (Nat × Ty)
  res : List (Nat × List Ty)
  keep : Nat → Nat → List (Nat × Option (Nat × Ty))
  ext : Nat → Option (CallF → (τ : Ty) → List TV → List (Option Obj) → Option (el τ))
  /-- How a function takes the rows that its arguments name: 0: it reads them; 1: it may write into them; 2: they are its own from then on. -/
  mode : Nat → Nat
  /-- Of what types the cells of variables are, where a nil slice is to be told. -/
  btys : List (Nat × Ty)
  /-- Slices that shorten a row of one's own: (where to, the type). -/
  cuts : List (Nat × Nat)
  /-- So many rounds of a loop are run at once (function, region of the head). -/
  unr : Nat → Nat → Nat

section
variable (E : Env)
def isAggT (t : TypeId) : Bool := match E.P.underlying t with
  | some (.struct _) | some (.array _ _) => true
  | _ => false
def partC (t : TypeId) (cs : List AC) (off : Nat) : Option AV :=
  match E.P.underlying t with
  | none => none
  | some _ => cond (isAggT E t) (cond (Nat.ble (off + E.P.cellsOf t) cs.length) (some (.agg ((cs.drop off).take (E.P.cellsOf t)))) none)
    (match cs[off]? with | some c => some (.one c) | none => none)
def fieldOf (t : TypeId) (f : Nat) : Option Field := match E.P.underlying t with
  | some (.struct fs) => fs[f]?
  | _ => none
def zeroOf (t : TypeId) : Option (List AC) := match E.P.info? t with
  | some i => match i.zero with
    | some v => some (v.cells.toList.map ofConst1)
    | none => none
  | none => none
/-- What is nothing yet is known: its slices are nil. -/
def zeroNil (t : TypeId) : Bool := match zeroOf E t with
  | some cs => !(cs.any AC.isU)
  | none => false
def elemOf (T : TypeId) : Option (Nat × Ty) := match E.P.underlying T with
  | some (.slice e) => match assoc E.tys e with
    | some t => some (e, t)
    | none => none
  | _ => none

def bits (k : IntKind) (r : BitVec k.bits) : AC := .int k (k.wrap r.toNat)
def binI (op : BinOp) (k : IntKind) (x y : Int) : List Bool × AC :=
  match op with
  | .add => ([], .int k (k.wrap (x + y)))
  | .sub => ([], .int k (k.wrap (x - y)))
  | .mul => ([], .int k (k.wrap (x * y)))
  | .eql => ([], .bool (x == y))
  | .neq => ([], .bool (x != y))
  | .lss => ([], .bool (decide (x < y)))
  | .leq => ([], .bool (decide (x ≤ y)))
  | .gtr => ([], .bool (decide (x > y)))
  | .geq => ([], .bool (decide (x ≥ y)))
  | .quo => ([!decide (y = 0)], .int k (k.wrap (x.tdiv y)))
  | .rem => ([!decide (y = 0)], .int k (x.tmod y))
  | .and => ([], bits k (BitVec.ofInt k.bits x &&& BitVec.ofInt k.bits y))
  | .or => ([], bits k (BitVec.ofInt k.bits x ||| BitVec.ofInt k.bits y))
  | .xor => ([], bits k (BitVec.ofInt k.bits x ^^^ BitVec.ofInt k.bits y))
  | .andNot => ([], bits k (BitVec.ofInt k.bits x &&& ~~~ BitVec.ofInt k.bits y))
  | .shl => ([!decide (y < 0)], .int k (k.wrap (x * 2 ^ (min y.toNat k.bits))))
  | .shr => ([!decide (y < 0)], .int k (x.fdiv (2 ^ (min y.toNat k.bits))))
def isShift : BinOp → Bool
  | .shl | .shr => true
  | _ => false

/-- Two rows of plain cells. -/
def eqC : List AC → List AC → Option Bool
  | [], [] => some true
  | .int k x :: r, .int k' y :: s => match eqC r s with
    | some q => cond (decide (k = k')) (some (x == y && q)) none
    | none => none
  | _, _ => none
/-- A struct of whole numbers, one cell each, in line. -/
def intFields (fs : List Field) (off : Nat) : Bool := match fs with
  | [] => true
  | f :: r => (match E.P.underlying f.type with | some (.int _) => true | _ => false) && Nat.beq f.offset off && (f.name != "_") && intFields r (off + 1)
def plainStruct (t : TypeId) (n : Nat) : Bool := match E.P.underlying t with
  | some (.struct fs) => Nat.beq fs.toList.length n && intFields E fs.toList 0 && !E.P.stoodInHeld t && !E.P.eqGuardType E.P.depth t
  | _ => false

def binV (op : BinOp) (T : TypeId) (x y : TV) : Option SR :=
  match x, y with
  | .v (.one (.int k a)), .v (.one (.int k' b)) =>
    cond (isShift op || decide (k = k')) (let r := binI op k a b; some (.now r.1 (.c r.2) [])) none
  | .v (.one (.bool a)), .v (.one (.bool b)) => match E.P.underlying T with
    | some .bool => match op with
      | .eql => some (.now [] (.c (.bool (a == b))) [])
      | .neq => some (.now [] (.c (.bool (!(a == b)))) [])
      | _ => none
    | _ => none
  | .v (.one (.str a)), .v (.one (.str b)) => match op with
    | .eql => some (.now [] (.c (.bool (a == b))) [])
    | .neq => some (.now [] (.c (.bool (a != b))) [])
    | .add => some (.now [decide (a.size + b.size ≤ 140737488351232)] (.c (.str (a ++ b))) [])
    | _ => none
  | .v (.one (.lk _ _ xs)), .v (.one .pnil) => match E.P.underlying T with
    | some (.pointer _) => match op with
      | .eql => some (.now [] (.c (.bool xs.isEmpty)) [])
      | .neq => some (.now [] (.c (.bool (!xs.isEmpty))) [])
      | _ => none
    | _ => none
  | .v (.one (.slk q _ _ _)), .v (.one .nilsl) => match E.P.underlying T with
    | some (.slice _) => match op with
      | .eql => some (.now [] (.c (.bool q)) [])
      | .neq => some (.now [] (.c (.bool (!q))) [])
      | _ => none
    | _ => none
  | .v (.agg a), .v (.agg b) => cond (plainStruct E T a.length) (match eqC a b with
    | some q => match op with
      | .eql => some (.now [] (.c (.bool q)) [])
      | .neq => some (.now [] (.c (.bool (!q))) [])
      | _ => none
    | none => none) none
  | _, _ => none

def setAt : List AC → Nat → List AC → List AC
  | cs, _, [] => cs
  | cs, off, v :: r => setAt (cs.set off v) (off + 1) r
/-- The parts of a literal, at their places (offset, size). -/
def fillP (place : Nat → Option (Nat × Nat)) : List AC → List (Nat × TV) → Option (List AC)
  | cs, [] => some cs
  | cs, (i, .v a) :: r => match place i with
    | some (off, n) => cond (Nat.beq a.cells.length n && Nat.ble (off + n) cs.length && !(a.cells.any AC.isU)) (fillP place (setAt cs off a.cells) r) none
    | none => none
  | _, _ => none

def lenS (h : Hp) : AC → Option Nat
  | .nilsl => some 0
  | .fn f [.p _ _, .int _ n] => cond (Nat.beq f (ixB + 1)) (some n.toNat) none
  | .o id => match h id with
    | some (.dp _ _ xs) => some xs.length
    | _ => match slc h (.o id) with | some s => some s.xs.length | none => none
  | c => match slc h c with | some s => some s.xs.length | none => none

/-- The cells of what a call made. -/
def cellsOwn : (t : Ty) → Nat → el t → List AC × Upd × Nat
  | .ow e t, n, xs => ([.o n], [(n, some (.own e t xs))], Nat.succ n)
  | .pair a b, n, x => match cellsOwn a n x.1 with
    | (c, u, m) => match cellsOwn b m x.2 with
      | (c', u', m') => (c ++ c', u ++ u', m')
  | .wrap t, n, x => cellsOwn t n x
  | .int k, n, x => ([.int k x], [], n)
  | .bool, n, x => ([.bool x], [], n)
  | .str, n, x => ([.str x], [], n)
  | .sl e t, n, x => ([.sl e t x], [], n)
  | .unit, n, _ => ([], [], n)
  | .fnc f, n, _ => ([fncC f], [], n)
  | .any, n, _ => ([.undef], [], n)
  | .lk L t, n, x => ([.lk L t x], [], n)
  | .fp t, n, x => ([.pr t x 0], [], n)
  | .mq T t, n, x => ([.mr T t x], [], n)
  | .om T t, n, es => ([.o n], [(n, some (.mq T t es))], Nat.succ n)
  | .dw e t, n, xs => ([.o n], [(n, some (.dp e t xs))], Nat.succ n)
  | .bx ty t, n, x => match cellsOwn t (Nat.succ n) x with
    | (c, u, m) => ([.p n 0], (n, some (.box ty c)) :: u, m)

def getTys (tys : List (Nat × Ty)) : List Nat → Option (List Ty)
  | [] => some []
  | t :: r => match assoc tys t, getTys tys r with
    | some a, some b => some (a :: b)
    | _, _ => none
def resTys (f : Nat) : Option (List Ty) := match E.P.funcs[f]? with
  | some fn => cond fn.body.isSome (match assoc E.res f with
    | some ts => some ts
    | none => getTys E.tys fn.resultTypes.toList) none
  | none => none
def joinTy : List Ty → Ty
  | [] => .unit
  | [t] => t
  | t :: r => .pair t (joinTy r)

/-- What a call answers, as values. -/
def oneV (t : Ty) (cs : List AC) : AV := cond (isAg t) (.agg (cs.take (sz t))) (.one (cs.getD 0 .undef))
def splitVs : List Ty → List AC → List AV
  | [], _ => []
  | t :: r, cs => oneV t cs :: splitVs r (cs.drop (sz t))
def splitV (ts : List Ty) (cs : List AC) : TV :=
  match ts with
  | [t] => .v (oneV t cs)
  | ts => .tup (splitVs ts cs)

/-! names of objects -/
def idsC : AC → List Nat
  | .o id | .p id _ | .pe id _ _ _ => [id]
  | .fn _ caps => caps.flatMap fun
    | .o id | .p id _ | .pe id _ _ _ => [id]
    | _ => []
  | _ => []
def idsV : TV → List Nat
  | .v a => a.cells.flatMap idsC
  | .tup vs => vs.flatMap fun a => a.cells.flatMap idsC
def idsO : Option Obj → List Nat
  | some (.box _ cs) => cs.flatMap idsC
  | _ => []
def addNew : List Nat → List Nat → List Nat
  | acc, [] => acc
  | acc, i :: r => addNew (cond (acc.elem i) acc (acc ++ [i])) r
def closeIds (h : Hp) : Nat → List Nat → List Nat
  | 0, acc => acc
  | n + 1, acc => closeIds h n (acc.foldl (fun a i => addNew a (idsO (h i))) acc)
def indexOf : List Nat → Nat → Option Nat
  | [], _ => none
  | i :: r, j => cond (Nat.beq i j) (some 0) (match indexOf r j with | some n => some (Nat.succ n) | none => none)
def renC0 (l : List Nat) : AC → AC
  | .o id => match indexOf l id with | some j => .o j | none => .undef
  | .p id a => match indexOf l id with | some j => .p j a | none => .undef
  | .pe id s a b => match indexOf l id with | some j => .pe j s a b | none => .undef
  | .fn _ _ => .undef
  | c => c
def renC (l : List Nat) : AC → AC
  | .fn f caps => .fn f (caps.map (renC0 l))
  | c => renC0 l c
def renA (l : List Nat) : AV → AV
  | .one c => .one (renC l c)
  | .agg cs => .agg (cs.map (renC l))
def renV (l : List Nat) : TV → TV
  | .v a => .v (renA l a)
  | .tup vs => .tup (vs.map (renA l))
def renO (l : List Nat) : Option Obj → Option Obj
  | some (.box t cs) => some (.box t (cs.map (renC l)))
  | some (.dh _ _ _ _ _ _) => none
  | o => o

end
end Go.Sx
