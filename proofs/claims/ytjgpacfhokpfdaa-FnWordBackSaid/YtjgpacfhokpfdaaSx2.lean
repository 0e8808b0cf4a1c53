/- The plain machine's steps: one operation, a region, a function's code, a call. Any program. -/
import Derived.Test.YtjgpacfhokpfdaaSx
set_option linter.unusedVariables false
namespace Go.Sx

section
variable (E : Env)
def leafs : Ty → List Ty
  | .pair a b => leafs a ++ leafs b
  | .wrap t => leafs t
  | .unit => []
  | t => [t]
/-- Of what type a variable's cells are when a call that may write it has come back. -/
def cellTy (h : Hp) (d : Option Ty) : AC → Option Ty
  | .int k _ => some (.int k)
  | .bool _ => some .bool
  | .str _ => some .str
  | .sl e t _ => some (.sl e t)
  | .o id => match h id with
    | some (.own e t _) => some (.ow e t)
    | some (.fro e t _) => some (.sl e t)
    | some (.mq T t _) => some (.om T t)
    | some (.dp e t _) => some (.dw e t)
    | _ => none
  | .pr t _ off => cond (Nat.beq off 0) (some (.fp t)) none
  | .mr T t _ => some (.mq T t)
  | .nilsl => match d with
    | some (.sl e t) => some (.ow e t)
    | _ => none
  | .fn f [] => some (.fnc f)
  | .fn f [.bool true] => some (.fnc f)
  | _ => none
def cellTys (h : Hp) : List Ty → List AC → Option (List Ty)
  | _, [] => some []
  | ds, c :: cs => match cellTy h ds.head? c, cellTys h ds.tail cs with
    | some t, some ts => some (t :: ts)
    | _, _ => none
def tupTy : List Ty → Ty
  | [] => .unit
  | t :: r => .pair t (tupTy r)
/-- The variables that a call may write: (its name, its type, the type of what is in it). -/
def boxTys (h : Hp) : List Nat → Option (List (Nat × Nat × Ty))
  | [] => some []
  | id :: r => match h id, boxTys h r with
    | some (.box ty cs), some l => match cellTys h (match assoc E.btys ty with | some t => leafs t | none => []) cs with
      | some ts => some ((id, ty, tupTy ts) :: l)
      | none => none
    | some _, some l => some l
    | _, _ => none
def boxPut : List (Nat × Nat × Ty) → List AC → Upd
  | [], _ => []
  | b :: r, cs => (b.1, some (.box b.2.1 (cs.take (sz b.2.2)))) :: boxPut r (cs.drop (sz b.2.2))
def resT (τ : Ty) (bs : List (Nat × Nat × Ty)) : Ty := match bs with
  | [] => τ
  | _ => .pair τ (tupTy (bs.map (·.2.2)))
def nodupB : List Nat → Bool
  | [] => true
  | i :: r => !(r.elem i) && nodupB r

/-- An argument as the callee has it: slices are read. -/
def argC (h : Hp) : AC → AC
  | .o id => match slc h (.o id) with
    | some s => .sl s.e s.t s.xs
    | none => match h id with
      | some (.dp e t xs) => .sl e t xs
      | _ => .undef
  | c => c
def argV (h : Hp) : TV → TV
  | .v (.one c) => .v (.one (argC h c))
  | .v (.agg cs) => .v (.agg (cs.map (argC h)))
  | x => x
def ptrC : AC → List Nat
  | .p id _ => [id]
  | .fn _ caps => caps.flatMap fun
    | .p id _ => [id]
    | _ => []
  | _ => []
def ptrV : TV → List Nat
  | .v a => a.cells.flatMap ptrC
  | .tup vs => vs.flatMap fun a => a.cells.flatMap ptrC
def ownOf : TV → List AC
  | .v a => a.cells
  | .tup vs => vs.flatMap fun a => a.cells
def gone : Hp → List Nat → Upd
  | _, [] => []
  | h, id :: r => match h id with
    | some (.own _ _ _) => (id, none) :: gone h r
    | some (.mp _ _ _) => (id, none) :: gone h r
    | some (.mq _ _ _) => (id, none) :: gone h r
    | some (.dp _ _ _) => (id, none) :: gone h r
    | some (.dh _ _ _ _ _ _) => (id, none) :: gone h r
    | _ => gone h r
/-- The rows that the arguments name are others than those that the call may write. -/
def apartC (ids : List Nat) : List AC → Bool
  | [] => true
  | .o id :: r => !(ids.elem id) && apartC ids r
  | _ :: r => apartC ids r
/-- The names of rows among the cells. -/
def oIds : List AC → List Nat
  | [] => []
  | .o id :: r => id :: oIds r
  | _ :: r => oIds r
def callSR (call : CallF) (mv : Bool) (h : Hp) (next : Nat) (f : Nat) (args : List TV) : Option SR :=
  match resTys E f with
  | none => none
  | some ts =>
    let τ := joinTy ts
    let ids := closeIds h 2 ((args.flatMap ptrV).foldl (fun a i => addNew a [i]) []) ++ cond mv (oIds (args.flatMap ownOf)) []
    let own := cond mv [] (args.flatMap ownOf)
    match boxTys E h ids with
    | some bs => cond (apartC ids own && nodupB ids)
      (some ⟨[], resT τ bs, call f (resT τ bs) (args.map fun v => renV ids (cond mv v (argV h v))) (ids.map fun id => renO ids (h id)),
        fun x => splitV ts ((cellsOwn (resT τ bs) next x).1.take (sz τ)),
        fun x => (cond (imm (resT τ bs)) (frz h own) []) ++ gone h ids ++ (cellsOwn (resT τ bs) next x).2.1 ++ boxPut bs ((cellsOwn (resT τ bs) next x).1.drop (sz τ))⟩) none
    | none => none

def noO : List AC → Bool
  | [] => true
  | .o _ :: _ => false
  | _ :: r => noO r
def rowTys (h : Hp) : List Nat → Option (List Ty)
  | [] => some []
  | id :: r => match h id, rowTys h r with
    | some (.own e t _), some l => some (.ow e t :: l)
    | some (.dp e t _), some l => some (.dw e t :: l)
    | _, _ => none
def rowPut : List Nat → Upd → Upd
  | id :: r, p :: u => (id, p.2) :: rowPut r u
  | _, _ => []
/-- A call that may write into the rows that the arguments name. -/
def refSR (call : CallF) (h : Hp) (f : Nat) (args : List TV) : Option SR :=
  match resTys E f with
  | none => none
  | some ts =>
    let τ := joinTy ts
    let ids := oIds (args.flatMap ownOf)
    match rowTys h ids with
    | some rts => cond (nodupB ids && (rdo τ && !imm τ && !imm (tupTy rts)))
      (some ⟨[], .pair τ (tupTy rts), call f (.pair τ (tupTy rts)) (args.map (renV ids)) (ids.map h),
        fun x => splitV ts (cells τ x.1), fun x => rowPut ids (cellsOwn (tupTy rts) 0 x.2).2.1⟩) none
    | none => none

def appSR (h : Hp) (next : Nat) (T : TypeId) (s x : TV) : Option SR :=
  match elemOf E T with
  | some (e, t) => match s, x with
    | .v (.one c), .v (.one d) =>
      match asOwn h e t c, asRead h e t d with
      | some xs, some ys =>
        some (.now [decide ((xs.length + ys.length) * E.P.bytesOf e ≤ 140737488351232)] (.c (.o next))
          ((match c with | .o id => [(id, none)] | _ => []) ++ [(next, some (.own e t (xs ++ ys)))]))
      | _, _ => none
    | _, _ => none
  | none => none

/-- So many that are nothing yet, behind nil. -/
def appZ (next : Nat) (T T' : TypeId) (s x : TV) : Option SR :=
  match E.P.underlying T', elemOf E T with
  | some (.int _), some (e, t) => match s, x with
    | .v (.one .nilsl), .v (.one (.int _ n)) => some (.now [decide (1 ≤ n), decide (n.toNat * E.P.bytesOf e ≤ 140737488351232)] (.c (.o next)) [(next, some (.own e t (List.replicate n.toNat (dflt t))))])
    | _, _ => none
  | _, _ => none

def placesL : List Field → Option (List (Nat × Nat))
  | [] => some []
  | f :: r => match E.P.info? f.type, placesL r with
    | some i, some l => some ((f.offset, i.size) :: l)
    | _, _ => none

/-- A bound of a slice expression. -/
def bnd (ρ : Operand → TV) (o : Option Operand) (d : Int) : Option Int := match o with
  | none => some d
  | some x => match ρ x with
    | .v (.one (.int _ n)) => some n
    | _ => none
def frzC (h : Hp) : AC → Upd
  | .o id => match h id with
    | some (.own e t xs) => [(id, some (.fro e t xs))]
    | some (.dp e t xs) => [(id, some (.fro e t xs))]
    | _ => []
  | _ => []
def sliceSR (ρ : Operand → TV) (h : Hp) (T : TypeId) (x : Operand) (lo hi : Option Operand) : Option SR :=
  match E.P.underlying T with
  | some .string => match ρ x with
    | .v (.one (.str s)) => match bnd ρ lo 0, bnd ρ hi (s.size : Int) with
      | some l, some u => some (.now [decide (0 ≤ l), decide (l ≤ u), decide (u ≤ (s.size : Int))] (.c (.str (s.extract l.toNat u.toNat))) [])
      | _, _ => none
    | _ => none
  | some (.slice e) => match assoc E.tys e, ρ x with
    | some t, .v (.one c) => match asRead h e t c with
      | some xs => match bnd ρ lo 0, bnd ρ hi (xs.length : Int) with
        | some l, some u => some (.now [decide (0 ≤ l), decide (l ≤ u), decide (u ≤ (xs.length : Int))] (.c (.sl e t ((xs.take u.toNat).drop l.toNat))) (frzC h c))
        | _, _ => none
      | none => match dpO h e t c with
        | some (id, xs) => match bnd ρ lo 0, bnd ρ hi (xs.length : Int) with
          | some l, some u => some (.now [decide (0 ≤ l), decide (l ≤ u), decide (u ≤ (xs.length : Int))] (.c (.sl e t ((xs.take u.toNat).drop l.toNat))) [(id, some (.fro e t xs))])
          | _, _ => none
        | none => none
    | _, _ => none
  | some (.array n e) => match lo, hi, assoc E.tys e, ρ x with
    | none, none, some t, .v (.one (.p id 0)) => match h id with
      | some (.box _ cs) => match decN h t n cs with
        | some xs => cond (noO cs) (some (.now [] (.c (.sl e t xs)) [(id, none)])) none
        | none => none
      | _ => none
    | _, _, _, _ => none
  | _ => none
def isCut (cuts : List (Nat × Nat)) (d : Option Nat) (T : Nat) : Bool := match cuts, d with
  | [], _ => false
  | _, none => false
  | (a, b) :: r, some d => (Nat.beq a d && Nat.beq b T) || isCut r (some d) T
/-- The beginning of a row of one's own, in its place. -/
def cutSR (ρ : Operand → TV) (h : Hp) (next : Nat) (T : TypeId) (x : Operand) (lo hi : Option Operand) : Option SR :=
  match E.P.underlying T with
  | some (.slice e) => match assoc E.tys e, ρ x, lo, hi with
    | some t, .v (.one (.o id)), none, some y => match asOwn h e t (.o id), ρ y with
      | some xs, .v (.one (.int _ u)) => some (.now [decide (0 ≤ u), decide (u ≤ (xs.length : Int))] (.c (.o next)) [(id, none), (next, some (.own e t (xs.take u.toNat)))])
      | _, _ => none
    | some t, .v (.one .nilsl), none, some y => match ρ y with
      | .v (.one (.int _ u)) => some (.now [decide (u = 0)] (.c .nilsl) [])
      | _ => none
    | _, _, _, _ => none
  | _ => none
def orD {α : Type} : Option α → α → α
  | some y, _ => y
  | none, x => x
/-- An element in which some cells are others. -/
def modF (h : Hp) (t : Ty) (off : Nat) (cs : List AC) : el t → el t := fun x => orD (decAll h t (setAt (cells t x) off cs)) x
/-! A nil slice that is only read is an empty one. -/
def hasNil : List AC → Bool
  | [] => false
  | .nilsl :: _ => true
  | _ :: r => hasNil r
def nilCs : List Ty → List AC → List AC
  | .sl e t :: ds, .nilsl :: cs => .sl e t [] :: nilCs ds cs
  | _ :: ds, c :: cs => c :: nilCs ds cs
  | [], cs => cs
  | _, [] => []
def nilV (d : Option Ty) : TV → TV
  | .v (.one c) => match d with
    | some (.sl e t) => match c with
      | .nilsl => .v (.one (.sl e t []))
      | c => .v (.one c)
    | _ => .v (.one c)
  | .v (.agg cs) => match d with
    | some t => .v (.agg (nilCs (leafs t) cs))
    | none => .v (.agg cs)
  | x => x
def nilVs (tys : List (Nat × Ty)) : List Nat → List TV → List TV
  | t :: ts, a :: as => nilV (assoc tys t) a :: nilVs tys ts as
  | [], as => as
  | _, [] => []
def paramsOf (f : Nat) : List Nat := match E.P.funcs[f]? with
  | some fn => fn.params.toList
  | none => []
def plainArgs (f : Nat) (mv : Bool) (args : List TV) : List TV := cond (!mv && hasNil (args.flatMap ownOf)) (nilVs E.tys (paramsOf E f) args) args
/-- What is copied over a row. -/
def cpyL {α : Type} (xs ys : List α) : List α := ys.take xs.length ++ xs.drop ys.length
def copySR (h : Hp) (T : TypeId) (s x : TV) : Option SR := match elemOf E T with
  | some (e, t) => match s, x with
    | .v (.one (.o id)), .v (.one d) => match asOwn h e t (.o id), asRead h e t d with
      | some xs, some ys => cond (apartC [id] [d]) (some (.now [] (.c (.int .i64 ((Nat.min ys.length xs.length : Nat) : Int))) [(id, some (.own e t (cpyL xs ys)))])) none
      | _, _ => none
    | _, _ => none
  | none => none
/-! maps -/
def intsOf : List AC → Option (List Int)
  | [] => some []
  | .int .i64 n :: r => match intsOf r with
    | some l => some (n :: l)
    | none => none
  | _ => none
def mfind : List (List Int × Int) → List Int → Nat → Option (Nat × Int)
  | [], _, _ => none
  | e :: r, k, i => if e.1 = k then some (i, e.2) else mfind r k (i + 1)
def mval (es : List (List Int × Int)) (k : List Int) : Int := match mfind es k 0 with
  | some p => p.2
  | none => 0
def mix (es : List (List Int × Int)) (k : List Int) : Nat := match mfind es k 0 with
  | some p => p.1
  | none => es.length
def madd (es : List (List Int × Int)) (k : List Int) : List (List Int × Int) := match mfind es k 0 with
  | some _ => es
  | none => es ++ [(k, 0)]
def mput (es : List (List Int × Int)) (i : Nat) (v : Int) : List (List Int × Int) := es.modify i fun e => (e.1, v)
/-- How many numbers a key is. -/
def keyN (P : Program) (kt : Nat) : Option Nat := match P.underlying kt with
  | some (.array n e) => match P.underlying e with
    | some (.int .i64) => cond (Nat.beq (P.cellsOf kt) n && Nat.beq (P.cellsOf e) 1 && Nat.blt kt P.types.size) (some n) none
    | _ => none
  | _ => none
def zeroI (P : Program) (vt : Nat) : Bool := match P.info? vt with
  | some i => match i.zero with
    | some (.int .i64 0) => true
    | _ => false
  | none => false
def mapN (T : Nat) : Option Nat := match E.P.underlying T with
  | some (.map kt vt) => match keyN E.P kt, assoc E.tys kt, E.P.underlying vt with
    | some n, some _, some (.int .i64) => cond (zeroI E.P vt) (some n) none
    | _, _, _ => none
  | _ => none
def wfs (ns : List Int) : List Bool := ns.map fun n => (Lit.int .i64 n).wf
def makeMapSR (next T : Nat) : Option SR := match mapN E T with
  | some n => some (.now [] (.c (.o next)) [(next, some (.mp T n []))])
  | none => none
def mapEntrySR (h : Hp) (T : Nat) (m k : TV) : Option SR := match m, k with
  | .v (.one (.o id)), .v (.agg cs) => match h id, intsOf cs, mapN E T with
    | some (.mp T' n es), some ns, some n' => cond (Nat.beq T T' && (Nat.beq n n' && Nat.beq ns.length n))
      (some (.now (wfs ns) (.tup [.one (.int .i64 (mval es ns)), .one (.int .i64 (mix es ns : Int))]) [(id, some (.mp T n (madd es ns)))])) none
    | _, _, _ => none
  | _, _ => none
def entryStoreSR (h : Hp) (m s x : TV) : Option SR := match m, s, x with
  | .v (.one (.o id)), .v (.one (.int .i64 i)), .v (.one (.int .i64 v)) => match h id with
    | some (.mp T n es) => some (.now [decide (0 ≤ i), decide (i.toNat < es.length)] (.tup []) [(id, some (.mp T n (mput es i.toNat v)))])
    | _ => none
  | _, _, _ => none
def lookupSR (h : Hp) (T : Nat) (m k : TV) : Option SR := match m, k with
  | .v (.one (.o id)), .v (.agg cs) => match h id, intsOf cs, mapN E T with
    | some (.mp T' n es), some ns, some n' => cond (Nat.beq T T' && (Nat.beq n n' && Nat.beq ns.length n))
      (some (.now (wfs ns) (.c (.int .i64 (mval es ns))) [])) none
    | _, _, _ => none
  | _, _ => none
/-! maps from numbers to what is read -/
def formsOk1 (t : Ty) : AV → Bool
  | .agg cs => isAg t && Nat.beq cs.length (sz t)
  | .one _ => !(isAg t) && Nat.beq (sz t) 1
def mqget {α : Type} (es : List (Int × α)) (k : Int) (d : α) : α := match es.find? fun e => e.1 == k with
  | some e => e.2
  | none => d
def mqput {α : Type} : List (Int × α) → Int → α → List (Int × α)
  | [], k, v => [(k, v)]
  | e :: r, k, v => cond (e.1 == k) ((k, v) :: r) (e :: mqput r k v)
/-- The values of a map from numbers: their type. -/
def mqT (T : Nat) : Option (Nat × Ty) := match E.P.underlying T with
  | some (.map kt vt) => match E.P.underlying kt, assoc E.tys vt, E.P.info? vt with
    | some (.int .i64), some t, some i => match i.zero with
      | some (.agg _) => cond (isAg t) (some (vt, t)) none
      | some _ => cond (isAg t) none (some (vt, t))
      | none => none
    | _, _, _ => none
  | _ => none
def makeMqSR (next T : Nat) : Option SR := match mqT E T with
  | some (_, t) => some (.now [] (.c (.o next)) [(next, some (.mq T t []))])
  | none => none
def mapUpdateSR (h : Hp) (T : Nat) (m k x : TV) : Option SR := match m, k, x with
  | .v (.one (.o id)), .v (.one (.int .i64 n)), .v a => match h id, mqT E T with
    | some (.mq T' t es), some (_, t') => match decAll h t' a.cells, (MqV.mk T' t es).as T t' with
      | some y, some es => cond (formsOk1 t' a && apartC [id] a.cells && !(a.cells.any AC.isU)) (some (.now (wfs [n]) (.tup []) (frz h a.cells ++ [(id, some (.mq T t' (mqput es n y)))]))) none
      | _, _ => none
    | _, _ => none
  | _, _, _ => none
def lookupMqSR (T : Nat) (m k : TV) : Option SR := match m, k with
  | .v (.one (.mr T' t es)), .v (.one (.int .i64 n)) => match mqT E T with
    | some (_, t') => match (MqV.mk T' t es).as T t' with
      | some es => some (.now (wfs [n]) (.v (oneV t' (cells t' (mqget es n (dflt t'))))) [])
      | none => none
    | none => none
  | _, _ => none
/-- A slice's cell whose row may move with all that is in it. -/
def asDeep (h : Hp) (e : Nat) (t : Ty) : AC → Option (List (el t))
  | .nilsl => some []
  | .o id => match h id with
    | some (.own e' t' xs) => cond (flat t') ((SlV.mk e' t' xs).as e t) none
    | some (.dp e' t' xs) => (SlV.mk e' t' xs).as e t
    | _ => none
  | _ => none
def decD (h : Hp) : (t : Ty) → List AC → Option (el t × List AC)
  | .int k, cs => decInt k cs
  | .bool, cs => decBool cs
  | .str, cs => decStr cs
  | .sl e t, cs => decSl (asDeep h e t) cs
  | .pair a b, cs => match decD h a cs with
    | some (x, r) => match decD h b r with
      | some (y, r') => some ((x, y), r')
      | none => none
    | none => none
  | .wrap t, cs => decD h t cs
  | .unit, cs => some ((), cs)
  | .ow _ _, _ | .fnc _, _ | .bx _ _, _ | .any, _ | .lk _ _, _ | .fp _, _ | .mq _ _, _ | .om _ _, _ | .dw _ _, _ => none
def decDN (h : Hp) (t : Ty) : Nat → List AC → Option (List (el t))
  | 0, [] => some []
  | n + 1, cs => match decD h t cs with
    | some (x, r) => match decDN h t n r with
      | some xs => some (x :: xs)
      | none => none
    | none => none
  | _, _ => none
/-- What is put behind a row of one's own, both with all rows that are in them. -/
def appDpSR (h : Hp) (next : Nat) (T : TypeId) (s x : TV) : Option SR := match elemOf E T with
  | some (e, t) => match s, x with
    | .v (.one c), .v (.one d) => cond (deepT t && !(flat t) && nodupB (oIds [c, d])) (match asDeep h e t c, asDeep h e t d with
      | some xs, some ys => some (.now [decide ((xs.length + ys.length) * E.P.bytesOf e ≤ 140737488351232)] (.c (.o next)) ((oIds [c, d]).map (fun k => (k, none)) ++ [(next, some (.dp e t (xs ++ ys)))]))
      | _, _ => none) none
    | _, _ => none
  | none => none
def isSca : AC → Bool
  | .int _ _ | .bool _ | .str _ => true
  | _ => false
/-- Nothing is there. -/
def noH : Hp := fun _ => none
/-- A row that is owned with what is in it is written: plain cells, or a whole element. -/
def storeDp (h : Hp) (n id : Nat) (i : Int) (off : Nat) (e : Nat) (t : Ty) (xs : List (el t)) (cs : List AC) : Option SR :=
  cond (cs.all isSca)
    (cond (Nat.beq cs.length n && Nat.ble 1 cs.length && Nat.ble (off + cs.length) (sz t)) (match decAll noH t (setAt (cells t (xs.getD i.toNat (dflt t))) off cs) with
      | some y => cond (Nat.beq cs.length (sz t)) (some (.now [decide (i.toNat < xs.length)] (.tup []) [(id, some (.dp e t (xs.set i.toNat y)))]))
          (some (.now [decide (i.toNat < xs.length)] (.tup []) [(id, some (.dp e t (xs.modify i.toNat (modF noH t off cs))))]))
      | none => none) none)
    (cond (Nat.beq cs.length n && Nat.ble 1 cs.length && Nat.beq off 0 && Nat.beq cs.length (sz t) && nodupB (id :: oIds cs)) (match decD h t cs with
      | some (y, []) => some (.now [decide (i.toNat < xs.length)] (.tup []) ((oIds cs).map (fun k => (k, none)) ++ [(id, some (.dp e t (xs.set i.toNat y)))]))
      | _ => none) none)
/-- A row that is in it: from now on by its own name. -/
def loadDp (next id : Nat) (i : Int) (off : Nat) (e : Nat) (t : Ty) (xs : List (el t)) : Option AV → Option SR
  | some (.one (.sl e' t' ys)) => some (.now [decide (i.toNat < xs.length)] (.c (.o next)) [(id, some (.dh e t xs i.toNat off next)), (next, some (cond (flat t') (.own e' t' ys) (.dp e' t' ys)))])
  | some (.one c) => cond (isSca c) (some (.now [decide (i.toNat < xs.length)] (.v (.one c)) [])) none
  | _ => none
/-- What went by its own name is put back. -/
def joinPut (e : Nat) (t : Ty) (xs : List (el t)) (i off id nm : Nat) (c : AC) : Upd := match decAll noH t (setAt (cells t (xs.getD i (dflt t))) off [c]) with
  | some _ => [(nm, none), (id, some (.dp e t (xs.modify i (modF noH t off [c]))))]
  | none => []
def joinU (h : Hp) (id : Nat) : Option Obj → Upd
  | some (.dh e t xs i off nm) => match h nm with
    | some (.own e' t' ys) => cond (flat t') (joinPut e t xs i off id nm (.sl e' t' ys)) []
    | some (.dp e' t' ys) => joinPut e t xs i off id nm (.sl e' t' ys)
    | _ => []
  | _ => []
def hasDh : List (Option Obj) → Bool
  | [] => false
  | some (.dh _ _ _ _ _ _) :: _ => true
  | _ :: r => hasDh r
/-- The less of two numbers. -/
def imin (a b : Int) : Int := cond (decide (b < a)) b a
def orS : Option SR → Option SR → Option SR
  | some q, _ => some q
  | none, q => q
def capC : TV → AC
  | .v (.one (.fn _ _)) => .undef
  | .v (.one c) => c
  | _ => .undef
/-- A method that is bound to what it is called on: its function's number is told by one that is greater by this. -/
def bmB : Nat := 1000
def fnNum (g : Nat) (caps : List AC) : Nat := cond (Nat.blt g bmB || caps.isEmpty) g (g - bmB)
def fnArgs (g : Nat) (caps : List AC) (l : List TV) : List TV := cond (Nat.blt g bmB || caps.isEmpty) (l ++ caps.map fun c => TV.c c) ((caps.map fun c => TV.c c) ++ l)
/-- A nil interface held against nil. -/
def nilEqSR (op : BinOp) (T : TypeId) (y : Operand) (a b : TV) : Option SR := match a, b, E.P.underlying T with
  | .v (.one (.fn f [.bool true])), .v (.one (.fn g [.bool true])), some (.interface _) => match y with
    | .const _ => cond (Nat.beq f ixB && Nat.beq g ixB) (match op with
      | .eql => some (.now [] (.c (.bool true)) [])
      | .neq => some (.now [] (.c (.bool false)) [])
      | _ => none) none
    | _ => none
  | .v (.one (.fn f [.bool true])), .v (.one (.fn g [.int _ _])), some (.interface _) => cond (Nat.beq f ixB && Nat.ble (ixB + 2) g) (match op with
      | .eql => some (.now [] (.c (.bool false)) [])
      | .neq => some (.now [] (.c (.bool true)) [])
      | _ => none) none
  | _, _, _ => none
/-- A row of pointers to variables, as a variable. -/
def ptrRowSR (next : Nat) (T : TypeId) (len : Nat) (parts : List (Nat × TV)) : Option SR := match E.P.underlying T with
  | some (.slice e) => match zeroOf E e with
    | some z => match fillP (fun i => some (i * E.P.cellsOf e, E.P.cellsOf e)) ((List.replicate len z).flatten) parts with
      | some cs => cond (Nat.ble (len * E.P.cellsOf e) 16777216 && Nat.ble 1 (E.P.cellsOf e) && Nat.beq z.length (E.P.cellsOf e)) (some (.now [] (.c (.fn (ixB + 1) [.p next 0, .int .i64 (len : Int)])) [(next, some (.box e cs))])) none
      | none => none
    | none => none
  | _ => none
def ixSlSR (T : TypeId) (a b : TV) : Option SR := match E.P.underlying T, a, b with
  | some (.slice e), .v (.one (.fn f [.p id off, .int _ m])), .v (.one (.int _ i)) => match E.P.info? e with
    | some _ => cond (Nat.beq f (ixB + 1)) (some (.now [decide (0 ≤ i), decide (i < (m.toNat : Int))] (.c (.p id (off + i.toNat * E.P.cellsOf e))) [])) none
    | none => none
  | _, _, _ => none
/-- Bytes as a string. -/
def convSlSR (h : Hp) (src dst : TypeId) (a : TV) : Option SR := match E.P.underlying dst, elemOf E src, a with
  | some .string, some (e, .int .u8), .v (.one c) => match E.P.underlying e, asRead h e (.int .u8) c with
    | some (.int .u8), some xs => some (.now [] (.c (.str (strN xs))) [])
    | _, _ => none
  | _, _, _ => none
def mkIfaceSR (T : TypeId) (a : TV) : Option SR := match E.P.underlying T with
  | some (.int _) => match a with
    | .v (.one (.int k n)) => some (.now [] (.c (.fn (T + (ixB + 2)) [.int k n])) [])
    | _ => none
  | _ => none
def aop (call : CallF) (ρ : Operand → TV) (h : Hp) (next : Nat) (o : Oper) : Option SR :=
  match o.op with
  | .move x => some (.now [] (ρ x) [])
  | .assign x => some (.now [] (ρ x) [])
  | .pick c a b => match ρ c with
    | .v (.one (.bool q)) => match q with
      | true => some (.now [] (ρ a) [])
      | false => some (.now [] (ρ b) [])
    | _ => none
  | .alloc T => match zeroOf E T with
    | some cs => some (.now [] (.c (.p next 0)) [(next, some (.box T cs))])
    | none => none
  | .box T x => match ρ x with
    | .v (.agg cs) => some (.now [] (.c (.p next 0)) [(next, some (.box T cs))])
    | .v (.one c) => cond c.isU none (some (.now [] (.c (.p next 0)) [(next, some (.box T [c]))]))
    | _ => none
  | .build t parts => match E.P.underlying t, zeroOf E t with
    | some (.struct fs), some z => match placesL E fs.toList with
      | some pl => match fillP (fun i => pl[i]?) z (parts.toList.map fun (i, x) => (i, ρ x)) with
        | some cs => some (.now [] (.v (.agg cs)) [])
        | none => none
      | none => none
    | some (.array n e), some z => match fillP (fun i => cond (Nat.blt i n) (some (i * E.P.cellsOf e, E.P.cellsOf e)) none) z (parts.toList.map fun (i, x) => (i, ρ x)) with
      | some cs => match E.P.info? e with
        | some _ => some (.now [] (.v (.agg cs)) [])
        | none => none
      | none => none
    | _, _ => none
  | .slice T x lo hi mx => match mx with
    | none => cond (isCut E.cuts o.dst T) (cutSR E ρ h next T x lo hi) (sliceSR E ρ h T x lo hi)
    | some _ => none
  | .buildSlice T len parts => match elemOf E T with
    | some (e, t) => match zeroOf E e with
      | some z => match fillP (fun i => some (i * E.P.cellsOf e, E.P.cellsOf e)) ((List.replicate len z).flatten) (parts.toList.map fun (i, x) => (i, ρ x)) with
        | some cs => cond (isCut E.cuts o.dst T && (deepT t && !(flat t))) (match decDN h t len cs with
            | some xs => cond (Nat.ble (len * E.P.cellsOf e) 16777216 && nodupB (oIds cs)) (some (.now [] (.c (.o next)) ((oIds cs).map (fun k => (k, none)) ++ [(next, some (.dp e t xs))]))) none
            | none => none)
          (match decN h t len cs with
          | some xs => cond (Nat.ble (len * E.P.cellsOf e) 16777216) (some (.now [] (.c (.o next)) (frz h cs ++ [(next, some (.own e t xs))]))) none
          | none => none)
        | none => none
      | none => none
    | none => ptrRowSR E next T len (parts.toList.map fun (i, x) => (i, ρ x))
  | .load T a => match ρ a with
    | .v (.one (.p id off)) => match h id with
      | some (.box _ cs) => match partC E T cs off with
        | some v => some (.now [] (.v v) [])
        | none => none
      | _ => none
    | .v (.one (.pr t x off)) => match partC E T (cells t x) off with
      | some v => some (.now [] (.v v) [])
      | none => none
    | .v (.one (.pe id s i off)) => match h id with
      | some (.own _ t xs) => cond (Nat.beq s (sz t)) (match partC E T (cells t (xs.getD i.toNat (dflt t))) off with
        | some v => some (.now [decide (i.toNat < xs.length)] (.v v) [])
        | none => none) none
      | some (.dp e t xs) => cond (Nat.beq s (sz t)) (loadDp next id i off e t xs (partC E T (cells t (xs.getD i.toNat (dflt t))) off)) none
      | _ => none
    | _ => none
  | .store T a x => match ρ a, ρ x with
    | .v (.one (.p id off)), .v x => match h id with
      | some (.box ty cs) => cond (Nat.beq x.cells.length (E.P.cellsOf T) && Nat.ble 1 x.cells.length && Nat.ble (off + x.cells.length) cs.length && !(x.cells.any AC.isU))
        (some (.now [] (.tup []) [(id, some (.box ty (setAt cs off x.cells)))])) none
      | _ => none
    | .v (.one (.pe id s i off)), .v x => match h id with
      | some (.own e t xs) => cond (Nat.beq s (sz t) && rdo t && Nat.beq x.cells.length (E.P.cellsOf T) && Nat.ble 1 x.cells.length && Nat.ble (off + x.cells.length) (sz t) && apartC [id] x.cells && !(x.cells.any AC.isU))
        (match decAll h t (setAt (cells t (xs.getD i.toNat (dflt t))) off x.cells) with
          | some y => cond (Nat.beq x.cells.length (sz t)) (some (.now [decide (i.toNat < xs.length)] (.tup []) (frz h x.cells ++ [(id, some (.own e t (xs.set i.toNat y)))])))
              (some (.now [decide (i.toNat < xs.length)] (.tup []) (frz h x.cells ++ [(id, some (.own e t (xs.modify i.toNat (modF h t off x.cells))))])))
          | none => none) none
      | some (.dp e t xs) => cond (Nat.beq s (sz t) && !(x.cells.any AC.isU)) (storeDp h (E.P.cellsOf T) id i off e t xs x.cells) none
      | _ => none
    | _, _ => none
  | .nilCheck x => match ρ x with
    | .v (.one (.p id off)) => some (.now [] (.c (.p id off)) [])
    | .v (.one (.pr t y off)) => some (.now [] (.c (.pr t y off)) [])
    | .v (.one (.pe id s i off)) => some (.now [] (.c (.pe id s i off)) [])
    | .v (.one (.fn f caps)) => cond (Nat.blt f ixB) (some (.now [] (.c (.fn f caps)) [])) none
    | .v (.one (.lk L t xs)) => some (.now [!xs.isEmpty] (.c (.pr (.pair t (.lk L t)) (xs.headD (dflt t), xs.tail) 0)) [])
    | _ => none
  | .binOp op T x y _ => orS (nilEqSR E op T y (ρ x) (ρ y)) (binV E op T (ρ x) (ρ y))
  | .makeInterface T x => mkIfaceSR E T (ρ x)
  | .unOp op _ x => match op, ρ x with
    | .not, .v (.one (.bool b)) => some (.now [] (.c (.bool (!b))) [])
    | .neg, .v (.one (.int k n)) => some (.now [] (.c (.int k (k.wrap (0 - n)))) [])
    | _, _ => none
  | .convert src dst x => orS (convSlSR E h src dst (ρ x)) (match ρ x, E.P.underlying dst, E.P.underlying src with
    | .v (.one (.int _ n)), some (.int k), some _ => some (.now [] (.c (.int k (k.wrap n))) [])
    | _, _, _ => none)
  | .fieldAddr T x f => match fieldOf E T f with
    | some fd => cond (Nat.beq (E.P.cellsOf fd.type) 0) none (match ρ x with
      | .v (.one (.p id off)) => some (.now [] (.c (.p id (off + fd.offset))) [])
      | .v (.one (.pr t y off)) => some (.now [] (.c (.pr t y (off + fd.offset))) [])
      | .v (.one (.pe id s i off)) => some (.now [] (.c (.pe id s i (off + fd.offset))) [])
      | _ => none)
    | none => none
  | .field T x f => match fieldOf E T f, ρ x with
    | some fd, .v (.agg cs) => match partC E fd.type cs fd.offset with
      | some v => some (.now [] (.v v) [])
      | none => none
    | _, _ => none
  | .indexAddr T x i => match E.P.underlying T with
    | some (.array n e) => match ρ x, ρ i, E.P.info? e with
      | .v (.one (.p id off)), .v (.one (.int _ m)), some _ => some (.now [decide (0 ≤ m), decide (m < (n : Int))] (.c (.p id (off + m.toNat * E.P.cellsOf e))) [])
      | _, _, _ => none
    | _ => orS (ixSlSR E T (ρ x) (ρ i)) (match elemOf E T, ρ x, ρ i with
      | some (e, t), .v (.one c), .v (.one (.int _ n)) => match asRead h e t c with
        | some xs => match c with
          | .o id => match h id with
            | some (.own _ _ _) => some (.now [decide (0 ≤ n), decide (n < (xs.length : Int))] (.c (.pe id (sz t) n 0)) [])
            | _ => some (.now [decide (0 ≤ n), decide (n < (xs.length : Int))] (.c (.pr t (xs.getD n.toNat (dflt t)) 0)) [])
          | _ => some (.now [decide (0 ≤ n), decide (n < (xs.length : Int))] (.c (.pr t (xs.getD n.toNat (dflt t)) 0)) [])
        | none => match dpO h e t c with
          | some (id, xs) => some (.now [decide (0 ≤ n), decide (n < (xs.length : Int))] (.c (.pe id (sz t) n 0)) [])
          | none => none
      | _, _, _ => none)
  | .index T x i => match ρ x, ρ i, E.P.underlying T with
    | .v (.one (.str s)), .v (.one (.int _ n)), some .string => some (.now [decide (0 ≤ n), decide (n < (s.size : Int))] (.c (.int .u8 (s.data.toList.getD n.toNat 0).toNat)) [])
    | _, _, _ => none
  | .makeSlice T l c => match elemOf E T, ρ l, ρ c with
    | some (e, t), .v (.one (.int _ n)), .v (.one (.int _ m)) =>
      cond (isCut E.cuts o.dst T && (deepT t && !(flat t)) && zeroNil E e) (some (.now [decide (0 ≤ n), decide (n ≤ m), decide (m.toNat * E.P.bytesOf e ≤ 140737488351232)] (.c (.o next)) [(next, some (.dp e t (List.replicate n.toNat (dflt t))))]))
        (some (.now [decide (0 ≤ n), decide (n ≤ m), decide (m.toNat * E.P.bytesOf e ≤ 140737488351232)] (.c (.o next)) [(next, some (.own e t (List.replicate n.toNat (dflt t))))]))
    | _, _, _ => none
  | .makeMap T r => match r with
    | none => orS (makeMapSR E next T) (makeMqSR E next T)
    | some _ => none
  | .mapUpdate T m k x => mapUpdateSR E h T (ρ m) (ρ k) (ρ x)
  | .mapEntry T m k => mapEntrySR E h T (ρ m) (ρ k)
  | .entryStore _ m s x => entryStoreSR h (ρ m) (ρ s) (ρ x)
  | .lookup T m k ok => match ok with
    | false => orS (lookupSR E h T (ρ m) (ρ k)) (lookupMqSR E T (ρ m) (ρ k))
    | true => none
  | .extract t i => match ρ t with
    | .tup vs => match vs[i]? with | some a => some (.now [] (.v a) []) | none => none
    | _ => none
  | .makeFunc fn first caps => match fn with
    | .func f => cond (Nat.beq first.size 0 && Nat.blt f bmB) (some (.now [] (.c (.fn f (caps.toList.map fun x => capC (ρ x)))) [])) (cond (Nat.beq caps.size 0 && !Nat.beq first.size 0 && Nat.blt (f + bmB) ixB) (some (.now [] (.c (.fn (f + bmB) (first.toList.map fun x => capC (ρ x)))) [])) none)
    | _ => none
  | .call c => match c.callee with
    | .builtin .len => match c.args.toList, c.argTypes.toList with
      | [x], [T] => match E.P.underlying T, ρ x with
        | some (.slice _), .v (.one c) => match lenS h c with
          | some n => some (.now [] (.c (.int .i64 (n : Int))) [])
          | none => none
        | some .string, .v (.one (.str s)) => some (.now [] (.c (.int .i64 (s.size : Int))) [])
        | _, _ => none
      | _, _ => none
    | .builtin .min => match c.args.toList with
      | [x, y] => match ρ x, ρ y with
        | .v (.one (.int k a)), .v (.one (.int _ b)) => some (.now [] (.c (.int k (imin a b))) [])
        | _, _ => none
      | _ => none
    | .builtin .cap => match c.args.toList, c.argTypes.toList with
      | [x], [T] => match E.P.underlying T, ρ x with
        | some (.slice _), .v (.one .nilsl) => some (.now [] (.c (.int .i64 0)) [])
        | _, _ => none
      | _, _ => none
    | .builtin .append => match c.args.toList, c.argTypes.toList with
      | [s, x], [T, T'] => cond (Nat.beq T T') (orS (appSR E h next T (ρ s) (ρ x)) (appDpSR E h next T (ρ s) (ρ x))) (appZ E next T T' (ρ s) (ρ x))
      | _, _ => none
    | .builtin .copy => match c.args.toList, c.argTypes.toList with
      | [s, x], [T, _] => copySR E h T (ρ s) (ρ x)
      | _, _ => none
    | .value f => match ρ f with
      | .v (.one (.fn g caps)) => cond (Nat.blt g ixB) (cond (Nat.beq (E.mode (fnNum g caps)) 1 && !noO ((fnArgs g caps (c.args.toList.map ρ)).flatMap ownOf)) (refSR E call h (fnNum g caps) (fnArgs g caps (c.args.toList.map ρ))) (callSR E call (Nat.beq (E.mode (fnNum g caps)) 2) h next (fnNum g caps) (plainArgs E (fnNum g caps) (Nat.beq (E.mode (fnNum g caps)) 2) (fnArgs g caps (c.args.toList.map ρ))))) none
      | _ => none
    | _ => none
  | _ => none
end

/-! values made plain, one after the other -/
section
variable {R : Type}
def forceN (n : Nat) (K : Nat → R) : R := match n with
  | 0 => K 0
  | m + 1 => K (Nat.succ m)
def forceC0 (c : AC) (K : AC → R) : R := match c with
  | .undef => K .undef
  | .int k n => K (.int k n)
  | .bool b => K (.bool b)
  | .str s => K (.str s)
  | .sl e t xs => K (.sl e t xs)
  | .nilsl => K .nilsl
  | .o id => forceN id fun id => K (.o id)
  | .p id a => forceN id fun id => forceN a fun a => K (.p id a)
  | .pe id s i a => forceN id fun id => forceN a fun a => K (.pe id s i a)
  | .pr t x a => forceN a fun a => K (.pr t x a)
  | .pnil => K .pnil
  | .lk L t xs => K (.lk L t xs)
  | .mr T t es => K (.mr T t es)
  | .slk q e t xs => match q with
    | true => K (.slk true e t xs)
    | false => K (.slk false e t xs)
  | .fn f cs => K (.fn f cs)
def forceC0s : List AC → (List AC → R) → R
  | [], K => K []
  | c :: r, K => forceC0 c fun c => forceC0s r fun r => K (c :: r)
def forceC (c : AC) (K : AC → R) : R := match c with
  | .fn f cs => forceC0s cs fun cs => K (.fn f cs)
  | c => forceC0 c K
def forceCs : List AC → (List AC → R) → R
  | [], K => K []
  | c :: r, K => forceC c fun c => forceCs r fun r => K (c :: r)
def forceA (a : AV) (K : AV → R) : R := match a with
  | .one c => forceC c fun c => K (.one c)
  | .agg cs => forceCs cs fun cs => K (.agg cs)
def forceAs : List AV → (List AV → R) → R
  | [], K => K []
  | c :: r, K => forceA c fun c => forceAs r fun r => K (c :: r)
def forceV (v : TV) (K : TV → R) : R := match v with
  | .v a => forceA a fun a => K (.v a)
  | .tup vs => forceAs vs fun vs => K (.tup vs)
def forceVs : List TV → (List TV → R) → R
  | [], K => K []
  | c :: r, K => forceV c fun c => forceVs r fun r => K (c :: r)
def forceO (o : Option Obj) (K : Option Obj → R) : R := match o with
  | some (.box t cs) => forceCs cs fun cs => K (some (.box t cs))
  | some (.own e t xs) => K (some (.own e t xs))
  | some (.fro e t xs) => K (some (.fro e t xs))
  | some (.mp T n es) => K (some (.mp T n es))
  | some (.mq T t es) => K (some (.mq T t es))
  | some (.dp e t xs) => K (some (.dp e t xs))
  | some (.dh e t xs i off nm) => forceN off fun off => forceN nm fun nm => K (some (.dh e t xs i off nm))
  | none => K none
def forceH : List (Option Obj) → (List (Option Obj) → R) → R
  | [], K => K []
  | c :: r, K => forceO c fun c => forceH r fun r => K (c :: r)
end
section
variable {R : Type}
def setK {α : Type} : List α → Nat → α → (List α → Option R) → Option R
  | [], _, _, _ => none
  | _ :: xs, 0, v, K => K (v :: xs)
  | x :: xs, d + 1, v, K => setK xs d v fun ys => K (x :: ys)
def snocK {α : Type} : List α → α → (List α → R) → R
  | [], v, K => K [v]
  | x :: xs, v, K => snocK xs v fun ys => K (x :: ys)

abbrev Tm := List TV
abbrev HpL := List (Option Obj)
def hpf (h : HpL) : Hp := fun i => h.getD i none
def tmf (s : Tm) : Nat → TV := fun i => s.getD i .u
def evl (s : Nat → TV) : Operand → TV
  | .tmp t => s t
  | .const v => ofConst v
  | .func f => .c (.fn f [])
  | .global _ => .u
def putK (s : Tm) (d : Option Nat) (v : TV) (K : Tm → Option R) : Option R := match d with
  | some d => forceV v fun v => setK s d v K
  | none => K s
def updK (h : HpL) (us : Upd) (K : HpL → Option R) : Option R := match us with
  | [] => K h
  | (i, o) :: r => forceO o fun o => cond (Nat.blt i h.length) (setK h i o fun h => updK h r K) (cond (Nat.beq i h.length) (snocK h o fun h => updK h r K) none)

inductive Sig where
  | next | exit (id : Nat) | ret

/-- At a region's end what went by its own name is put back. -/
def joinL : List (Option Obj) → Nat → HpL → (HpL → Option R) → Option R
  | [], _, h, K => K h
  | _ :: r, i, h, K => updK h (joinU (hpf h) i (hpf h i)) fun h => joinL r (Nat.succ i) h K
def joinK (h : HpL) (K : HpL → Option R) : Option R := cond (hasDh h) (joinL h 0 h K) (K h)

def guardAll : List Bool → Option R → Option R
  | [], r => r
  | c :: cs, r => cond c (guardAll cs r) none

variable (E : Env)
def stepOp (call : CallF) (s : Tm) (h : HpL) (o : Oper) (K : Tm → HpL → Option R) : Option R :=
  match aop E call (evl (tmf s)) (hpf h) h.length o with
  | some q => guardAll q.conds (q.comp.bind fun x => putK s o.dst (q.val x) fun s' => updK h (q.upd x) fun h' => K s' h')
  | none => none

def runOps (call : CallF) (ops : Array Oper) : List Oper → Tm → HpL → (Tm → HpL → Option R) → Option R
  | [], s, h, K => K s h
  | o :: rest, s, h, K =>
    match o.guard with
    | none => stepOp E call s h o fun s' h' => runOps call ops rest s' h' K
    | some (j, want) =>
      match (ops[j]?).bind (·.dst) with
      | some t => match tmf s t with
        | .v (.one (.bool b)) =>
          match b with
          | true => setK s t (.c (.bool true)) fun s1 => cond want (stepOp E call s1 h o (fun s' h' => runOps call ops rest s' h' K)) (putK s1 o.dst (.tup []) fun s1 => runOps call ops rest s1 h K)
          | false => setK s t (.c (.bool false)) fun s1 => cond want (putK s1 o.dst (.tup []) fun s1 => runOps call ops rest s1 h K) (stepOp E call s1 h o (fun s' h' => runOps call ops rest s' h' K))
        | .tup [] => putK s o.dst (.tup []) fun s1 => runOps call ops rest s1 h K
        | _ => none
      | none => none

/-! a region that draws its order: what two operations that are not in line touch must be apart -/
def bitsOf (c : Nat) : List Nat → Nat → Nat
  | [], acc => acc
  | i :: r, acc => bitsOf c r (acc ||| 2 ^ (2 * i + c))
def beforeM (ops : List Oper) : List Nat → List Nat
  | acc => match ops with
    | [] => acc
    | o :: r => beforeM r (acc ++ [o.after.toList.foldl (fun s e => cond (Region.binds .any e) (s ||| 2 ^ e.on ||| acc.getD e.on 0) s) 0])
def befOk : List Nat → Nat → Bool
  | [], _ => true
  | b :: r, j => Nat.blt b (2 ^ j) && befOk r (j + 1)
def tmpsOf (l : List Operand) : List Nat := l.flatMap fun
  | .tmp t => [t]
  | _ => []
def restr (h : Hp) (ids : List Nat) : Hp := fun i => cond (ids.elem i) (h i) none
structure Hist where
  i : Nat
  r : Nat
  w : Nat
def fits (bef r w : Nat) : List Hist → Bool
  | [] => true
  | x :: xs => (Nat.testBit bef x.i || (Nat.beq (x.w &&& (r ||| w)) 0 && Nat.beq (x.r &&& w) 0)) && fits bef r w xs
/-- What an operation looks at. -/
def footIds (o : Op) (h : Hp) (base : List Nat) : List Nat := match o with
  | .move _ | .assign _ | .nilCheck _ | .fieldAddr _ _ _ | .binOp _ _ _ _ _ | .unOp _ _ _ | .pick _ _ _ | .extract _ _ | .field _ _ _ | .index _ _ _ => []
  | .load _ _ | .store _ _ _ | .indexAddr _ _ _ | .slice _ _ _ _ _ | .buildSlice _ _ _ | .convert _ _ _ => base
  | .call c => match c.callee with
    | .builtin _ => base
    | _ => closeIds h 2 base
  | _ => closeIds h 2 base
/-- Where a slot's value comes from, if it was moved in this region. -/
def srcOf (ops : List Oper) (t : Nat) : Nat := match ops with
  | [] => t
  | o :: r => match o.dst, o.op with
    | some d, .move (.tmp t') => cond (Nat.beq d t) t' (srcOf r t)
    | _, _ => srcOf r t
/-- The rows that a region takes slices of. -/
def slicedIn (all : List Oper) (cuts : List (Nat × Nat)) (s : Nat → TV) : List Oper → List AC
  | [] => []
  | o :: r => match o.op with
    | .slice T (.tmp t) _ _ _ => cond (isCut cuts o.dst T) (slicedIn all cuts s r) (match s (srcOf all t) with
      | .v (.one (.o id)) => .o id :: slicedIn all cuts s r
      | _ => slicedIn all cuts s r)
    | _ => slicedIn all cuts s r
/-- Of a map what it holds and what its keys tell are two: a lookup touches only this, a new key only that. -/
def rIds (o : Op) (ids : List Nat) : List Nat := match o with
  | .lookup _ _ _ _ => ids.map fun i => 2 * i + 1
  | _ => ids.map fun i => 2 * i
def wIds (o : Op) (ids : List Nat) : List Nat := match o with
  | .mapEntry _ _ _ => ids.map fun i => 2 * i
  | _ => ids.flatMap fun i => [2 * i, 2 * i + 1]
def stepD (call : CallF) (bef j : Nat) (hist : List Hist) (g : List Nat) (s : Tm) (h : HpL) (o : Oper) (K : List Hist → Tm → HpL → Option R) : Option R :=
  let ins := o.op.operands.toList
  let ids := footIds o.op (hpf h) (ins.foldl (fun a x => addNew a (idsV (evl (tmf s) x))) [])
  match aop E call (evl (tmf s)) (restr (hpf h) ids) h.length o with
  | some q => guardAll q.conds (q.comp.bind fun x =>
      let r := bitsOf 0 (tmpsOf ins ++ g) (bitsOf 1 (rIds o.op ids) 0)
      let w := bitsOf 0 o.dst.toList (bitsOf 1 (wIds o.op ((q.upd x).map (·.1))) 0)
      cond (fits bef r w hist) (putK s o.dst (q.val x) fun s' => updK h (q.upd x) fun h' => K (⟨j, r, w⟩ :: hist) s' h') none)
  | none => none
def skipD (bef j : Nat) (hist : List Hist) (g : List Nat) (s : Tm) (h : HpL) (o : Oper) (K : List Hist → Tm → HpL → Option R) : Option R :=
  let r := bitsOf 0 g 0
  let w := bitsOf 0 o.dst.toList 0
  cond (fits bef r w hist) (putK s o.dst (.tup []) fun s' => K (⟨j, r, w⟩ :: hist) s' h) none
def runD (call : CallF) (ops : Array Oper) : List Nat → Nat → List Oper → List Hist → Tm → HpL → (Tm → HpL → Option R) → Option R
  | b :: bs, j, o :: rest, hist, s, h, K =>
    match o.guard with
    | none => stepD E call b j hist [] s h o fun hist s' h' => runD call ops bs (j + 1) rest hist s' h' K
    | some (g, want) =>
      match (ops[g]?).bind (·.dst) with
      | some t => match tmf s t with
        | .v (.one (.bool v)) =>
          match v with
          | true => setK s t (.c (.bool true)) fun s1 => cond want (stepD E call b j hist [t] s1 h o (fun hist s' h' => runD call ops bs (j + 1) rest hist s' h' K)) (skipD b j hist [t] s1 h o fun hist s1 h => runD call ops bs (j + 1) rest hist s1 h K)
          | false => setK s t (.c (.bool false)) fun s1 => cond want (skipD b j hist [t] s1 h o fun hist s1 h => runD call ops bs (j + 1) rest hist s1 h K) (stepD E call b j hist [t] s1 h o (fun hist s' h' => runD call ops bs (j + 1) rest hist s' h' K))
        | .tup [] => skipD b j hist [t] s h o fun hist s1 h => runD call ops bs (j + 1) rest hist s1 h K
        | _ => none
      | none => none
  | _, _, [], _, s, h, K => K s h
  | _, _, _, _, _, _, _ => none

/-- An empty row of one's own; one that is told '.dw' is owned with what comes into it. -/
def nilO (e : Nat) : Ty → Option Obj
  | .dw e' t => some (.dp e' t [])
  | t => some (.own e t [])
/-- An empty row of one's own in the place of nil: in the slots that are told so, and in variables. -/
def denilT : List (Nat × Option (Nat × Ty)) → Tm → HpL → (Tm → HpL → Option R) → Option R
  | [], s, h, K => K s h
  | (_, none) :: r, s, h, K => denilT r s h K
  | (d, some (e, t)) :: r, s, h, K => match tmf s d with
    | .v (.one .nilsl) => forceN h.length fun n => setK s d (.c (.o n)) fun s => snocK h (nilO e t) fun h => denilT r s h K
    | _ => denilT r s h K
def denilC : List Ty → List AC → Nat → List AC × HpL
  | .sl e t :: ds, .nilsl :: cs, n => match denilC ds cs (Nat.succ n) with
    | (cs', h') => (.o n :: cs', some (.own e t []) :: h')
  | .dw e t :: ds, .nilsl :: cs, n => match denilC ds cs (Nat.succ n) with
    | (cs', h') => (.o n :: cs', some (.dp e t []) :: h')
  | _ :: ds, c :: cs, n => match denilC ds cs n with
    | (cs', h') => (c :: cs', h')
  | [], cs, _ => (cs, [])
  | _, [], _ => ([], [])
def denilH (tys : List (Nat × Ty)) : HpL → Nat → HpL × HpL
  | [], _ => ([], [])
  | some (.box ty cs) :: r, n => match assoc tys ty with
    | some t => match denilC (leafs t) cs n with
      | (cs', a) => match denilH tys r (n + a.length) with
        | (r', b) => (some (.box ty cs') :: r', a ++ b)
    | none => match denilH tys r n with
      | (r', b) => (some (.box ty cs) :: r', b)
  | o :: r, n => match denilH tys r n with
    | (r', b) => (o :: r', b)
/-- What is kept of the slots. -/
def keepF (keep ids : List Nat) : Tm → Nat → Tm
  | [], _ => []
  | v :: r, i => cond (keep.elem i) (renV ids v) .u :: keepF keep ids r (Nat.succ i)
/-- What the boxes name of which the loop says so: it is only read from then on. -/
def frzBox (h : Hp) (s : Nat → TV) : List (Nat × Option (Nat × Ty)) → List AC
  | [] => []
  | (d, some (0, .unit)) :: r => match s d with
    | .v (.one (.p id _)) => match h id with
      | some (.box _ cs) => cs ++ frzBox h s r
      | _ => frzBox h s r
    | _ => frzBox h s r
  | _ :: r => frzBox h s r
/-- The state at a loop's head: what is kept, under new names. -/
def canonK (tys : List (Nat × Ty)) (m : Nat) (keep : List (Nat × Option (Nat × Ty))) (s : Tm) (h : HpL) (K : Tm → HpL → Option R) : Option R :=
  denilT keep s h fun s h =>
    forceH ((denilH tys h h.length).1 ++ (denilH tys h h.length).2) fun h =>
    updK h (frz (hpf h) (frzBox (hpf h) (tmf s) keep)) fun h =>
    let ids := (closeIds (hpf h) 3 (keep.foldl (fun a t => addNew a (idsV (tmf s t.1))) (List.range m))).filter fun i => Nat.blt i m || ((hpf h) i).isSome
    cond (nodupB ids) (forceVs (keepF (keep.map (·.1)) ids s 0) fun s' => forceH (ids.map fun i => renO ids ((hpf h) i)) fun h' => K s' h') none

def firstReg : Code → Nat
  | .region id _ _ => id
  | .seq a _ => firstReg a
  | .block _ b => firstReg b
  | .scope b => firstReg b
  | .cond _ a _ => firstReg a
  | .loop b => firstReg b
  | _ => 0

abbrev Kt (R : Type) := Sig → Tm → HpL → Option R
def kSeq (next : Tm → HpL → Option R) (K : Kt R) : Kt R := fun sig s h => match sig with
  | .next => next s h
  | .exit i => K (.exit i) s h
  | .ret => K .ret s h
def kBlock (id : Nat) (K : Kt R) : Kt R := fun sig s h => match sig with
  | .next => K .next s h
  | .exit i => cond (Nat.beq i id) (K .next s h) (K (.exit i) s h)
  | .ret => K .ret s h
def kLoop (tys : List (Nat × Ty)) (m : Nat) (keep : List (Nat × Option (Nat × Ty))) (again : Tm → HpL → Option R) (K : Kt R) : Kt R := fun sig s h => match sig with
  | .next => canonK tys m keep s h again
  | .exit i => K (.exit i) s h
  | .ret => K .ret s h
noncomputable def loopRun (tys : List (Nat × Ty)) (m : Nat) (keep : List (Nat × Option (Nat × Ty))) (body : Tm → HpL → Kt R → Option R) (n : Nat) : Tm → HpL → Kt R → Option R :=
  Nat.rec (fun _ _ _ => none) (fun _ ih s h K => body s h (kLoop tys m keep (fun s h => ih s h K) K)) n

noncomputable def run (call : CallF) (f : Nat) (m k : Nat) (c : Code) : Tm → HpL → Kt R → Option R :=
  Code.rec (motive := fun _ => Tm → HpL → Kt R → Option R)
    (fun s h K => K .next s h)
    (fun _ ops draw s h K => cond draw (cond (befOk (beforeM ops.toList []) 0) (updK h (frz (hpf h) (slicedIn ops.toList E.cuts (tmf s) ops.toList)) fun h => runD E call ops (beforeM ops.toList []) 0 ops.toList [] s h fun s' h' => joinK h' fun h' => K .next s' h') none) (runOps E call ops ops.toList s h fun s' h' => joinK h' fun h' => K .next s' h'))
    (fun _ _ ra rb s h K => ra s h (kSeq (fun s h => rb s h K) K))
    (fun c _ _ ra rb s h K => match evl (tmf s) c with
      | .v (.one (.bool q)) => match q with
        | true => ra s h K
        | false => rb s h K
      | _ => none)
    (fun id _ rb s h K => rb s h (kBlock id K))
    (fun b rb s h K => canonK E.btys m (E.keep f (firstReg b)) s h fun s h => loopRun E.btys m (E.keep f (firstReg b)) rb (k + E.unr f (firstReg b)) s h K)
    (fun _ _ _ _ _ _ _ _ _ => none)
    (fun id s h K => K (.exit id) s h)
    (fun _ rb s h K => rb s h K)
    (fun _ s h K => K .next s h)
    (fun _ _ _ _ => none)
    (fun s h K => K .ret s h)
    (fun _ _ _ _ => none)
    c

def resOf (s : Tm) (h : HpL) : List ResultVar → Option (List AV)
  | [] => some []
  | .tmp t :: r => match tmf s t, resOf s h r with
    | .v a, some cs => some (a :: cs)
    | _, _ => none
  | .cell a T :: r => match tmf s a with
    | .v (.one (.p id off)) => match (hpf h) id, resOf s h r with
      | some (.box _ cs), some cs' => match partC E T cs off with
        | some v => some (v :: cs')
        | none => none
      | _, _ => none
    | _ => none
def formsOk : List Ty → List AV → Bool
  | [], [] => true
  | t :: ts, .agg cs :: vs => isAg t && Nat.beq cs.length (sz t) && formsOk ts vs
  | t :: ts, .one _ :: vs => !(isAg t) && Nat.beq (sz t) 1 && formsOk ts vs
  | _, _ => false
/-- The variables that came in, as they are left. -/
def outOf (h : HpL) : Nat → HpL → Option (List AC)
  | _, [] => some []
  | i, some (.box ty cs0) :: r => match hpf h i, outOf h (i + 1) r with
    | some (.box ty' cs), some cs' => cond (Nat.beq ty ty' && Nat.beq cs.length cs0.length) (some (cs ++ cs')) none
    | _, _ => none
  | i, _ :: r => outOf h (i + 1) r
/-- Each row of one's own is named once. -/
def owS : List AC → List Nat × List Nat × List AC
  | .o id :: r => ([], [id], r)
  | _ :: r => ([], [], r)
  | [] => ([], [], [])
def owO : List AC → List Nat × List Nat × List AC
  | .o id :: r => ([id], [], r)
  | _ :: r => ([], [], r)
  | [] => ([], [], [])
def owBx (h : Hp) (rd : List AC → List Nat × List Nat × List AC) : List AC → List Nat × List Nat × List AC
  | .p id _ :: r => match h id with
    | some (.box _ cs) => match rd cs with
      | (w, s, _) => (id :: w, s, r)
    | _ => ([id], [], r)
  | _ :: r => ([], [], r)
  | [] => ([], [], [])
def owFp (h : Hp) (rd : List AC → List Nat × List Nat × List AC) : List AC → List Nat × List Nat × List AC
  | .p id _ :: r => match h id with
    | some (.box _ cs) => match rd cs with
      | (_, s, _) => ([], s, r)
    | _ => ([], [], r)
  | _ :: r => ([], [], r)
  | [] => ([], [], [])
def owIds (h : Hp) : Ty → List AC → List Nat × List Nat × List AC
  | .sl _ _, cs => owS cs
  | .ow _ _, cs => owO cs
  | .pair a b, cs => match owIds h a cs with
    | (w, s, r) => match owIds h b r with
      | (w', s', r') => (w ++ w', s ++ s', r')
  | .wrap t, cs => owIds h t cs
  | .unit, cs => ([], [], cs)
  | .int _, cs => ([], [], cs.tail)
  | .bool, cs => ([], [], cs.tail)
  | .str, cs => ([], [], cs.tail)
  | .fnc _, cs => ([], [], cs.tail)
  | .any, cs => ([], [], cs.tail)
  | .lk _ _, cs => ([], [], cs.tail)
  | .fp t, cs => owFp h (owIds h t) cs
  | .mq _ _, cs => ([], [], cs.tail)
  | .om _ _, cs => owO cs
  | .dw _ _, cs => owO cs
  | .bx _ t, cs => owBx h (owIds h t) cs
/-- The variables and maps that stay from now on. -/
def fzFp (h : Hp) (rd : List AC → List Nat) : List AC → List Nat
  | .p id _ :: _ => match h id with
    | some (.box _ cs) => id :: rd cs
    | _ => [id]
  | _ => []
def fzBx (h : Hp) (rd : List AC → List Nat) : List AC → List Nat
  | .p id _ :: _ => match h id with
    | some (.box _ cs) => rd cs
    | _ => []
  | _ => []
def fzMq : List AC → List Nat
  | .o id :: _ => [id]
  | _ => []
def fzIds (h : Hp) : Ty → List AC → List Nat
  | .pair a b, cs => fzIds h a cs ++ fzIds h b (owIds h a cs).2.2
  | .wrap t, cs => fzIds h t cs
  | .fp t, cs => fzFp h (fzIds h t) cs
  | .bx _ t, cs => fzBx h (fzIds h t) cs
  | .mq _ _, cs => fzMq cs
  | _, _ => []
def notBox : Option Obj → Bool
  | some (.box _ _) => false
  | _ => true
def ownsOnce (h : Hp) (h0 : HpL) (τ : Ty) (cs : List AC) : Bool := match owIds h τ cs with
  | (w, s, _) => nodupB w && !(w.any s.elem) && (w.all fun id => notBox (hpf h0 id)) && !(w.any (fzIds h τ cs).elem) && (fzIds h τ cs).all fun id => notBox (hpf h0 id)
/-- Rows that are owned with what is in them, among such as are handed back to be read. -/
def dpS (h : Hp) : List Nat → List AC
  | [] => []
  | id :: r => match h id with
    | some (.dp _ _ _) => .o id :: dpS h r
    | _ => dpS h r
def finish0 (f : Nat) (τ : Ty) (fn : Func) (h0 : HpL) (rs : List Nat) (s : Tm) (h : HpL) : Option (el τ) :=
  match resTys E f, resOf E s h fn.results.toList, outOf h 0 h0 with
    | some ts, some vs, some cs' => cond (formsOk ts vs && ownsOnce (hpf h) h0 τ (vs.flatMap AV.cells ++ (cs' ++ rs.map AC.o))) (decAll (hpf h) τ (vs.flatMap AV.cells ++ (cs' ++ rs.map AC.o))) none
    | _, _, _ => none
def finish (f : Nat) (τ : Ty) (fn : Func) (h0 : HpL) (rs : List Nat) : Kt (el τ) := fun sig s h => match sig with
  | .exit _ => none
  | _ => match resOf E s h fn.results.toList, outOf h 0 h0 with
    | some vs, some cs' => updK h (frz (hpf h) (dpS (hpf h) (owIds (hpf h) τ (vs.flatMap AV.cells ++ (cs' ++ rs.map AC.o))).2.1)) fun h => finish0 E f τ fn h0 rs s h
    | _, _ => none

/-- So many names hold still: up to the last variable that came in. -/
def pinLen : HpL → Nat
  | [] => 0
  | o :: r => match pinLen r with
    | 0 => match o with
      | some (.box _ _) => 1
      | _ => 0
    | n + 1 => Nat.succ (Nat.succ n)
/-- Up to the last row that came in by its name. -/
def refLen : List Nat → Nat
  | [] => 0
  | i :: r => match refLen r with
    | m => cond (Nat.blt i m) m (Nat.succ i)
def maxN (a b : Nat) : Nat := cond (Nat.blt a b) b a
def refsOf (s : Tm) : List Nat := oIds (s.flatMap ownOf)
def forceNs {R : Type} : List Nat → (List Nat → R) → R
  | [], K => K []
  | i :: r, K => forceN i fun i => forceNs r fun r => K (i :: r)
/-- Of the variables that came in only how they are laid. -/
def shapeO : Option Obj → Option Obj
  | some (.box ty cs) => some (.box ty (cs.map fun _ => .undef))
  | _ => none
noncomputable def evalS (k : Nat) (call : CallF) : CallF := fun f τ args h0 => match E.ext f with
  | some g => g call τ args h0
  | none => match E.P.funcs[f]? with
    | some fn => match fn.body with
      | some c => forceVs (args ++ List.replicate (fn.ntmps - args.length) (.tup [])) fun s => forceH h0 fun h0 => forceH (h0.map shapeO) fun hs => forceNs (cond (Nat.beq (E.mode f) 1) (refsOf s) []) fun rs => forceN (maxN (pinLen hs) (refLen rs)) fun m => run E call f m k c s h0 (finish E f τ fn hs rs)
      | none => none
    | none => none
noncomputable def evalT (k : Nat) : CallF := Nat.rec (fun _ _ _ _ => none) (fun k ih => evalS E k ih) k

/-- The code at a place of a function's code, and what follows it. -/
noncomputable def contOf {R : Type} (call : CallF) (f m k : Nat) : List Bool → List Nat → Code → Kt R → Code × Kt R
  | [], _, c, K => (c, K)
  | false :: p, js, .seq a b, K => contOf call f m k p js a (kSeq (fun s h => run E call f m k b s h K) K)
  | true :: p, js, .seq _ b, K => contOf call f m k p js b K
  | false :: p, js, .cond _ a _, K => contOf call f m k p js a K
  | true :: p, js, .cond _ _ b, K => contOf call f m k p js b K
  | _ :: p, js, .block id b, K => contOf call f m k p js b (kBlock id K)
  | _ :: p, js, .scope b, K => contOf call f m k p js b K
  | _ :: p, j :: js, .loop b, K => contOf call f m k p js b (kLoop E.btys m (E.keep f (firstReg b)) (fun s h => loopRun E.btys m (E.keep f (firstReg b)) (run E call f m k b) j s h K) K)
  | _, _, c, K => (c, K)
/-- A loop of a function, from a state on. -/
noncomputable def loopAt (f : Nat) (τ : Ty) (p : List Bool) (h0 : HpL) (rs : List Nat) (k : Nat) (js : List Nat) (j : Nat) (s : Tm) (h : HpL) : Option (el τ) :=
  match E.P.funcs[f]? with
  | some fn => match fn.body with
    | some c => match contOf E (evalT E k) f (maxN (pinLen h0) (refLen rs)) k p js c (finish E f τ fn h0 rs) with
      | (.loop b, K) => loopRun E.btys (maxN (pinLen h0) (refLen rs)) (E.keep f (firstReg b)) (run E (evalT E k) f (maxN (pinLen h0) (refLen rs)) k b) j s h K
      | _ => none
    | none => none
  | none => none
def inp (t : Ty) (x : el t) : TV := cond (isAg t) (.v (.agg (cells t x))) (.c ((cells t x).getD 0 .undef))
def mkS (n : Nat) (l : List (Nat × TV)) : Tm := (List.range n).map fun i => match assoc l i with | some v => v | none => .u
end
/-! functions whose answers are proved by hand -/
abbrev ExtF := (τ : Ty) → List TV → List (Option Obj) → Option (el τ)
/-- The same, by calls of other functions. -/
abbrev ExtC := CallF → (τ : Ty) → List TV → List (Option Obj) → Option (el τ)
/-- No call is needed. -/
def pX (F : ExtF) : ExtC := fun _ => F
def castT (a b : Ty) (x : el a) : Option (el b) := if h : a = b then some (h ▸ x) else none
/-- Of one slice that is read. -/
def extSl (e : Nat) (t r : Ty) (F : List (el t) → el r) : ExtF := fun τ args h0 => match args, h0 with
  | [.v (.one c)], [] => match asRead (fun _ => none) e t c with
    | some xs => castT r τ (F xs)
    | none => none
  | _, _ => none
/-- The same, of a slice that is not too long. -/
def extSlB (e : Nat) (t r : Ty) (F : List (el t) → el r) : ExtF := fun τ args h0 => match args, h0 with
  | [.v (.one c)], [] => match asRead (fun _ => none) e t c with
    | some xs => cond (decide (xs.length ≤ 140737488351232)) (castT r τ (F xs)) none
    | none => none
  | _, _ => none
/-- The same, of a slice that is put behind an empty one. -/
def extSlN (n e : Nat) (t r : Ty) (F : List (el t) → el r) : ExtF := fun τ args h0 => match args, h0 with
  | [.v (.one c)], [] => match asRead (fun _ => none) e t c with
    | some xs => cond (decide ((0 + xs.length) * n ≤ 140737488351232)) (castT r τ (F xs)) none
    | none => none
  | _, _ => none
def noExt (E : Env) : Env := { E with ext := fun _ => none }
end Go.Sx
