import Derived.Test.YtkmbllgoepcojaaDoorLx02
/- From the loaded program's code to the L-language: a function that is computed. -/
set_option linter.unusedVariables false
namespace Go.Lx

def cOf : Value → Option C
  | .int k n => some (.int k n)
  | .bool b => some (.bool b)
  | .float .f64 n => some (.flt n)
  | .string s => some (.str s)
  | .pointer none => some (.nil .ptr)
  | .nilFunc => some (.nil .func)
  | .nilIface => some (.nil .iface)
  | .map none => some (.nil .map)
  | .chan none => some (.nil .chan)
  | .slice none 0 0 => some (.sl [])
  | _ => none
def dOf : Value → Option DC
  | .slice none 0 0 => some (.full [])
  | v => (cOf v).map .c
def vOf (v : Value) : Option V := (dOf v).map .s
def xOf (nm : FuncId → Option Nat) : Operand → Option X
  | .tmp t => some (.t t)
  | .const v => (vOf v).map .c
  | .func k => (nm k).map fun f => .c (.s (.clo f [] []))
  | .global _ => none

variable (P : Program)
def zeroV (t : TypeId) : Option Value := (P.info? t).bind (·.zero)
def zeroU (t : TypeId) : Option U := (zeroV P t).bind fun z => z.cells.toList.mapM cOf
def zeroD (t : TypeId) : Option (List DC) := (zeroV P t).bind fun z => z.cells.toList.mapM dOf
/-- a type's zero value -/
def zeroW (t : TypeId) : Option V := match zeroV P t with
  | some (.agg cs) => (cs.toList.mapM cOf).map .a
  | some v => (cOf v).map (.s ∘ .c)
  | none => none
def sizeT (t : TypeId) : Option Nat := (P.info? t).map (·.size)
def bytesT (t : TypeId) : Option Nat := (P.info? t).map (·.bytes)
def aggD : TypeDesc → Bool
  | .struct _ => true
  | .array _ _ => true
  | _ => false
def aggT (t : TypeId) : Option Bool := (P.underlying t).map aggD
def fieldsT (t : TypeId) : Option (Array Field) := match P.underlying t with
  | some (.struct fs) => some fs
  | _ => none
def elemT (t : TypeId) : Option TypeId := match P.underlying t with
  | some (.slice e) => some e
  | _ => none
def optM {α β : Type} (f : α → Option β) : Option α → Option (Option β)
  | none => some none
  | some x => (f x).map some

/-- the kinds of a type's cells, if its values can be compared cell by cell ('n': how deep) -/
def eqFs (f : TypeId → Option (List EK)) : List Field → Nat → Option (List EK)
  | [], _ => some []
  | fl :: r, off => if fl.name = "_" ∨ fl.offset ≠ off then none else
    match f fl.type with
    | none => none
    | some a => match eqFs f r (off + a.length) with
      | none => none
      | some b => some (a ++ b)
def eqKs : Nat → TypeId → Option (List EK)
  | 0, _ => none
  | n + 1, t => match P.underlying t, sizeT P t with
    | some (.int k), some 1 => some [.int k]
    | some .bool, some 1 => some [.bool]
    | some .string, some 1 => some [.str]
    | some (.float .f64), some 1 => some [.flt]
    | some (.struct fs), some k => if P.stoodInHeld t = false then
        match eqFs (eqKs n) fs.toList 0 with
        | some l => if l.length = k then some l else none
        | none => none
      else none
    | _, _ => none

inductive Kd where
  | int | flt | str | bool | struct | ptr | func | other
def kindT (t : TypeId) : Kd := match P.underlying t with
  | some (.int _) => .int
  | some (.float .f64) => .flt
  | some .string => .str
  | some .bool => .bool
  | some (.struct _) => .struct
  | some (.pointer _) => .ptr
  | some (.func _ _ _) => .func
  | _ => .other

def binT (op : BinOp) (t : TypeId) : Option Bin :=
  match kindT P t with
  | .int | .flt | .str => some (.plain op)
  | .bool => match op with
    | .eql => some (.eqb true)
    | .neq => some (.eqb false)
    | _ => none
  | .struct => if P.eqGuardType P.depth t = false then (match op with | .eql => (eqKs P 100 t).map .eqs | .neq => (eqKs P 100 t).map .neqs | _ => none) else none
  | .ptr => match op with
    | .eql => some (.eqn .ptr true)
    | .neq => some (.eqn .ptr false)
    | _ => none
  | .func => match op with
    | .eql => some (.eqn .func true)
    | .neq => some (.eqn .func false)
    | _ => none
  | .other => none

def convT (src dst : TypeId) : Option Conv :=
  match P.underlying src, P.underlying dst with
  | some (.int _), some (.int k) => some (.int k)
  | some (.int _), some (.float .f64) => some .toFlt
  | some (.float .f64), some (.int k) => some (.toInt k)
  | some .string, some .string => some .same
  | some (.int _), some .string => some .rune
  | _, _ => none

variable (nm : FuncId → Option Nat)
/-- where a struct's parts lie, how many cells they have -/
def placesT (fs : Array Field) : Option (List (Nat × Nat)) := fs.toList.mapM fun f => (P.info? f.type).map fun i => (f.offset, i.size)
/-- the operands, the places of a struct's parts -/
def partsS (pl : List (Nat × Nat)) (ps : Array (Nat × Operand)) : Option (List (Nat × Nat × X)) :=
  ps.toList.mapM fun p => match pl[p.1]?, xOf nm p.2 with
    | some q, some x => some (q.1, q.2, x)
    | _, _ => none
def partsL (ps : Array (Nat × Operand)) : Option (List (Nat × X)) :=
  ps.toList.mapM fun p => (xOf nm p.2).map fun x => (p.1, x)
def xs (l : Array Operand) : Option (List X) := l.toList.mapM (xOf nm)

def lowBuiltin (b : Builtin) (args : Array Operand) (ts : Array TypeId) : Option Op :=
  match b, args.toList, ts.toList with
  | .len, [x], t :: _ => match P.underlying t with
    | some .string => (xOf nm x).map (.len true)
    | some (.slice _) => (xOf nm x).map (.len false)
    | _ => none
  | .max, [x, y], _ => do pure (.max [← xOf nm x, ← xOf nm y])
  | .min, [x, y], _ => do pure (.min [← xOf nm x, ← xOf nm y])
  | .append, [s, x], [t, t'] => do
    let e ← elemT P t
    let e' ← elemT P t'
    let z ← zeroU P e
    if sizeT P e = some z.length then pure (.append (← bytesT P e) z (← xOf nm s) (← xOf nm x)) else none
  | .copy, [d, s], [t, t'] => do
    let e ← elemT P t
    let e' ← elemT P t'
    pure (.copy (← sizeT P e) (← xOf nm d) (← xOf nm s))
  | _, _, _ => none

/-- an operation ('pr': zero values told exactly) -/
def lowOp (pr : Bool) : Go.Op → Option Op
  | .move x | .assign x => (xOf nm x).map .mv
  | .pick c a b => do pure (.pick (← xOf nm c) (← xOf nm a) (← xOf nm b))
  | .alloc t => if pr then (zeroD P t).map .allocx else (zeroU P t).map .alloc
  | .box t x => do pure (.box (← sizeT P t) (← xOf nm x))
  | .build t ps => do
    let fs ← fieldsT P t
    let l ← partsS nm (← placesT P fs) ps
    if pr then pure (.buildx (← zeroD P t) l) else pure (.build (← zeroU P t) l)
  | .buildSlice t len ps => do
    let e ← elemT P t
    let z ← zeroU P e
    if sizeT P e = some z.length ∧ 0 < z.length ∧ len * z.length ≤ 16777216 then pure (.mkSl z len (← partsL nm ps)) else none
  | .load t x => do pure (.load (← sizeT P t) (← aggT P t) (← xOf nm x))
  | .store t a x => do pure (.store (← sizeT P t) (← xOf nm a) (← xOf nm x))
  | .nilCheck x => (xOf nm x).map .nilchk
  | .binOp op t x y _ => do pure (.bin (← binT P op t) (← xOf nm x) (← xOf nm y))
  | .unOp op _ x => (xOf nm x).map (.un op)
  | .convert s d x => do pure (.conv (← convT P s d) (← xOf nm x))
  | .makeFunc (.func k) a b => do pure (.mkFn (← nm k) (← xs nm a) (← xs nm b))
  | .makeMap t r => match P.underlying t with
    | some (.map _ _) => (optM (xOf nm) r).map .mkMap
    | _ => none
  | .makeSlice t l c => do
    let e ← elemT P t
    let z ← zeroU P e
    if sizeT P e = some z.length then pure (.mkRow (← bytesT P e) z (← xOf nm l) (← xOf nm c)) else none
  | .slice t x lo hi mx => do
    let lo ← optM (xOf nm) lo
    let hi ← optM (xOf nm) hi
    let mx ← optM (xOf nm) mx
    match P.underlying t, mx with
    | some .string, none => pure (.sliceS (← xOf nm x) lo hi)
    | some (.slice e), mx => pure (.slice (← sizeT P e) (← xOf nm x) lo hi mx)
    | _, _ => none
  | .fieldAddr t x j => do
    let fs ← fieldsT P t
    let f ← fs[j]?
    let n ← sizeT P f.type
    if n = 0 then none else pure (.fld f.offset (← xOf nm x))
  | .field t x j => do
    let fs ← fieldsT P t
    let f ← fs[j]?
    pure (.fldv f.offset (← sizeT P f.type) (← aggT P f.type) (← xOf nm x))
  | .indexAddr t x i => do
    let e ← elemT P t
    pure (.idxA (← sizeT P e) (← xOf nm x) (← xOf nm i))
  | .index t x i => match P.underlying t with
    | some .string => do pure (.idxS (← xOf nm x) (← xOf nm i))
    | _ => none
  | .lookup t m k ok => match P.underlying t with
    | some (.map kt e) => do
      let ks ← eqKs P 100 kt
      let agg ← aggT P kt
      let z ← zeroW P e
      pure (.lookup agg ks z ok (← xOf nm m) (← xOf nm k))
    | _ => none
  | .mapUpdate t m k x | .insert t m k x => match P.underlying t with
    | some (.map kt _) => do
      let ks ← eqKs P 100 kt
      let agg ← aggT P kt
      pure (.mapUpd agg ks (← xOf nm m) (← xOf nm k) (← xOf nm x))
    | _ => none
  | .makeInterface t x => match P.underlying t with
    | some (.interface _) => none
    | some _ => (xOf nm x).map (.mkIf t)
    | none => none
  | .extract x i => (xOf nm x).map (.extract · i)
  | .call c => match c.callee with
    | .builtin b => lowBuiltin P nm b c.args c.argTypes
    | .value (.func k) => do pure (.call (← nm k) (← xs nm c.args))
    | .value x => do pure (.callv (← xOf nm x) (← xs nm c.args))
    | .invoke _ _ => none
  | _ => none

/-- a guard: the temporary that it looks at -/
def lowG (ops : Array Go.Oper) : Option (Nat × Bool) → Option (Option (Nat × Bool))
  | none => some none
  | some (j, w) => match (ops[j]?).bind (·.dst) with
    | some d => some (some (d, w))
    | none => none
/-- an operation with its target and its guard: 'N': how many temporaries there are -/
def lowOper (pr : Bool) (N : Nat) (ops : Array Go.Oper) (o : Go.Oper) : Option Oper :=
  match lowOp P nm pr o.op, lowG ops o.guard with
  | some op, some g => if o.dst.all (· < N) then some ⟨o.dst, op, g⟩ else none
  | _, _ => none

/-- the code of the division of floats whose answer may be any not-a-number -/
def quoCode : Nat := 4000100
def lowQuo : Go.Op → Option Op
  | .binOp .quo t x y _ => match P.underlying t with
    | some (.float .f64) => do pure (.call quoCode [← xOf nm x, ← xOf nm y])
    | _ => none
  | _ => none
/-- .. in a region with an order, unguarded -/
def lowOperQ (pr : Bool) (N : Nat) (ops : Array Go.Oper) (o : Go.Oper) : Option Oper :=
  match (if o.guard.isNone then lowQuo P nm o.op else none) with
  | some op => if o.dst.all (· < N) then some ⟨o.dst, op, none⟩ else none
  | none => lowOper P nm pr N ops o

/-- what an operation does to memory: nothing, reads, makes, calls, writes -/
inductive Cls where
  | n | r | a | c | w
  deriving DecidableEq
def Op.cls : Op → Cls
  | .load _ _ _ | .lookup _ _ _ _ _ _ => .r
  | .alloc _ | .allocx _ | .box _ _ | .mkSl _ _ _ | .mkRow _ _ _ _ | .mkMap _ => .a
  | .call _ _ | .callv _ _ => .c
  | .store _ _ _ | .append _ _ _ _ | .appendS _ _ | .copy _ _ _ | .mapUpd _ _ _ _ _ => .w
  | _ => .n

/-- all operands -/
def Op.allX : Op → List X
  | .pick a b c => [a, b, c]
  | op => op.xs
def X.tmp? : X → Option Nat
  | .t n => some n
  | .c _ => none
/-- the temporaries that an operation looks at -/
def Oper.reads (o : Oper) : List Nat := o.op.allX.filterMap X.tmp? ++ (match o.g with | some (d, _) => [d] | none => [])
/-- those that must be done before -/
def predsO (o : Go.Oper) : List Nat := o.after.toList.filterMap fun e => if Region.binds .any e then some e.on else none
/-- .. and those before these -/
def befs : List (List Nat) → List (List Nat) → List (List Nat)
  | acc, [] => acc
  | acc, p :: r => befs (acc ++ [(p ++ p.flatMap fun j => (acc[j]?).getD []).eraseDups]) r
/-- where the writes begin; the loads that may come behind one -/
def splitD (qs : List Oper) (b : List (List Nat)) : Nat × List Nat :=
  let m := (qs.findIdx? fun q => q.op.cls == .w).getD qs.length
  (m, (List.range m).filter fun i => ((qs[i]?).map (·.op.cls == .r)).getD false && (List.range qs.length).any fun j => decide (m ≤ j) && ((qs[j]?).map (·.op.cls == .w)).getD false && !((b[j]?).getD []).contains i)
def zipI {α : Type} (l : List α) : List (Nat × α) := (List.range l.length).zip l
/-- is a region without an order one whose order is of no weight? -/
def drawOk (ps : List (List Nat)) (qs : List Oper) (b : List (List Nat)) (m : Nat) (late : List Nat) : Bool :=
  decide (m ≤ qs.length) && decide (ps.length = qs.length) &&
  ((zipI ps).all fun p => p.2.all fun j => decide (j < p.1)) &&
  ((zipI qs).all fun p =>
    let bj := (b[p.1]?).getD []
    (p.2.reads.all fun t => (zipI qs).all fun p' => p'.2.dst != some t || bj.contains p'.1) &&
    ((zipI qs).all fun p' => p'.1 == p.1 || p'.2.dst == none || p'.2.dst != p.2.dst) &&
    (match p.2.op.cls with
     | .n => true
     | .w => decide (m ≤ p.1) && ((zipI qs).all fun p' => decide (p.1 ≤ p'.1) || bj.contains p'.1 || p'.2.op.cls == .n || (p'.2.op.cls == .r && late.contains p'.1))
     | .a => decide (p.1 < m) && ((zipI qs).all fun p' => decide (p.1 ≤ p'.1) || bj.contains p'.1 || p'.2.op.cls != .a)
     | _ => decide (p.1 < m)))

def lowC (pr : Bool) (N : Nat) : Go.Code → Option Code
  | .skip => some .skip
  | .region _ ops false => (ops.toList.mapM (lowOperQ P nm pr N ops)).map (.region · none)
  | .region _ ops true => match ops.toList.mapM (lowOper P nm pr N ops) with
    | some qs =>
      let ps := ops.toList.map predsO
      let b := befs [] ps
      let r := splitD qs b
      if drawOk ps qs b r.1 r.2 = true then some (.region qs (some r)) else none
    | none => none
  | .seq a b => do pure (.seq (← lowC pr N a) (← lowC pr N b))
  | .cond c t e => do pure (.cond (← xOf nm c) (← lowC pr N t) (← lowC pr N e))
  | .block id b => (lowC pr N b).map (.block id)
  | .loop b => (lowC pr N b).map .loop
  | .exit id => some (.exit id)
  | .ret => some .ret
  | _ => none

def lowRes (N : Nat) : ResultVar → Option Res
  | .tmp t => some (.tmp t)
  | .cell t ty => do pure (.cell t (← sizeT P ty) (← aggT P ty))
def lowFn (pr : Bool) (f : Func) : Option Fn := do
  let c ← f.body
  pure ⟨← lowC P nm pr f.ntmps c, ← f.results.toList.mapM (lowRes P f.ntmps)⟩
end Go.Lx
