import GoSem.Dispatch
/- The L-language: a small language of straight regions and structured control, its values without addresses, and what a piece of it comes to (a predicate transformer). No program and no machine memory in it. -/
set_option linter.unusedVariables false
namespace Go.Lx

/-- What a nil is. -/
inductive Nil where
  | ptr | func | iface | map | chan
  deriving DecidableEq

/-- A cell of pure data. -/
inductive C where
  | int (k : IntKind) (n : Int)
  | bool (b : Bool)
  | flt (n : Nat)
  | str (s : ByteArray)
  | nil (k : Nil)
  | sl (l : List (List C))

/-- Pure data: its cells. -/
abbrev U := List C

/-- A cell that may name memory of the call's own. -/
inductive DC where
  | c (x : C)
  /-- a slice that is only read and has no room behind it -/
  | full (l : List U)
  /-- a slice of an own row: the row, its generation, from where, how long -/
  | ref (id gen sz off len : Nat)
  /-- the address of a cell in an own box -/
  | ptr (id off : Nat)
  /-- the address of a cell of an element of an own row -/
  | eptr (id gen i off : Nat)
  /-- the address of a cell of data that is only read -/
  | iptr (u : U) (off : Nat)
  /-- a function value -/
  | clo (f : Nat) (first caps : List DC)
  /-- an own map -/
  | mp (id : Nat)
  /-- a value of the machine that nothing looks into -/
  | raw (v : Value)
  /-- an interface value: its type, what it holds -/
  | ifc (t : Nat) (d : DC)

/-- A value. -/
inductive V where
  | s (c : DC)
  | a (u : U)
  | m (l : List DC)
  | tup (l : List V)
  | bot

/-- A block of the call's own. -/
inductive Root where
  | boxu (u : U)
  | boxd (l : List DC)
  /-- a row: generation, cells of an element, elements -/
  | row (gen sz : Nat) (l : List U)
  /-- a row that is only read from now on -/
  | lock (gen sz : Nat) (l : List U)
  | map (l : List (V × V))
  | dead

/-- An operand. -/
inductive X where
  | t (n : Nat)
  | c (v : V)

/-- Kinds of cells that can be compared. -/
inductive EK where
  | int (k : IntKind)
  | bool
  | str
  | flt
  deriving DecidableEq

/-- Comparisons and arithmetic that need the types. -/
inductive Bin where
  /-- on integers, floats, strings, bools -/
  | plain (op : BinOp)
  /-- '==' (true) or '!=' of bools -/
  | eqb (pos : Bool)
  /-- '==' and '!=' of structs of scalars -/
  | eqs (ks : List EK)
  | neqs (ks : List EK)
  /-- a pointer, function, interface, map, slice against nil: '==', '!=' -/
  | eqn (k : Nil) (pos : Bool)

inductive Conv where
  | int (k : IntKind)
  | toFlt
  | toInt (k : IntKind)
  | same
  | rune
  | bytesStr
  | strBytes

inductive Op where
  | mv (x : X)
  | pick (c a b : X)
  | alloc (z : U)
  | allocx (z : List DC)
  | box (n : Nat) (x : X)
  | build (z : U) (parts : List (Nat × Nat × X))
  | buildx (z : List DC) (parts : List (Nat × Nat × X))
  | mkSl (z : U) (len : Nat) (parts : List (Nat × X))
  | load (n : Nat) (agg : Bool) (x : X)
  | store (n : Nat) (a x : X)
  | fld (off : Nat) (x : X)
  | fldv (off n : Nat) (agg : Bool) (x : X)
  | idxA (sz : Nat) (x i : X)
  | idxS (x i : X)
  | sliceS (x : X) (lo hi : Option X)
  | slice (sz : Nat) (x : X) (lo hi mx : Option X)
  | bin (op : Bin) (x y : X)
  | un (op : UnOp) (x : X)
  | conv (k : Conv) (x : X)
  | extract (x : X) (i : Nat)
  | nilchk (x : X)
  | mkFn (f : Nat) (first caps : List X)
  | mkIf (t : Nat) (x : X)
  | len (str : Bool) (x : X)
  | max (x : List X)
  | min (x : List X)
  | append (bytes : Nat) (z : U) (s x : X)
  | appendS (s x : X)
  | copy (sz : Nat) (d s : X)
  | mkRow (bytes : Nat) (z : U) (l c : X)
  | mkMap (r : Option X)
  | lookup (agg : Bool) (ks : List EK) (z : V) (ok : Bool) (m k : X)
  | mapUpd (agg : Bool) (ks : List EK) (m k x : X)
  | call (f : Nat) (args : List X)
  | callv (x : X) (args : List X)

structure Oper where
  dst : Option Nat
  op : Op
  g : Option (Nat × Bool)

inductive Code where
  | skip
  | region (ops : List Oper) (draw : Option (Nat × List Nat))
  | seq (a b : Code)
  | cond (c : X) (t e : Code)
  | block (id : Nat) (b : Code)
  | loop (b : Code)
  | exit (id : Nat)
  | ret

inductive Res where
  | tmp (t : Nat)
  | cell (t n : Nat) (agg : Bool)

structure Fn where
  body : Code
  res : List Res


/-- The state: the temporaries (a flag: is it there at all?), the own blocks. -/
structure St where
  t : List (Nat × (Bool × V))
  h : List Root

namespace St
def get (s : St) (n : Nat) : Bool × V := (s.t.lookup n).getD (false, .bot)
def put (s : St) (d : Option Nat) (b : Bool) (v : V) : St :=
  match d with
  | some d => ⟨(d, (b, v)) :: s.t, s.h⟩
  | none => s
end St

def X.val (s : St) : X → V
  | .t n => (s.get n).2
  | .c v => v
def X.there (s : St) : X → Bool
  | .t n => (s.get n).1
  | .c _ => true

/-! ### pure pieces -/
def IntKind.wrapped (k : IntKind) (n : Int) : C := .int k (k.wrap n)

/-- an integer's operation -/
def binInt (op : BinOp) (k : IntKind) (a b : Int) : Option C :=
  match op with
  | .add => some (.int k (k.wrap (a + b)))
  | .sub => some (.int k (k.wrap (a - b)))
  | .mul => some (.int k (k.wrap (a * b)))
  | .quo => some (.int k (k.wrap (a.tdiv b)))
  | .rem => some (.int k (a.tmod b))
  | .and => some (.int k (k.wrap (BitVec.ofInt k.bits a &&& BitVec.ofInt k.bits b).toNat))
  | .or => some (.int k (k.wrap (BitVec.ofInt k.bits a ||| BitVec.ofInt k.bits b).toNat))
  | .xor => some (.int k (k.wrap (BitVec.ofInt k.bits a ^^^ BitVec.ofInt k.bits b).toNat))
  | .andNot => some (.int k (k.wrap (BitVec.ofInt k.bits a &&& ~~~(BitVec.ofInt k.bits b)).toNat))
  | .eql => some (.bool (decide (a = b)))
  | .neq => some (.bool (!decide (a = b)))
  | .lss => some (.bool (decide (a < b)))
  | .leq => some (.bool (decide (a ≤ b)))
  | .gtr => some (.bool (decide (b < a)))
  | .geq => some (.bool (decide (b ≤ a)))
  | _ => none

def shl (k : IntKind) (a n : Int) : Int := k.wrap (a * 2 ^ min n.toNat k.bits)
def shr (k : IntKind) (a n : Int) : Int := a.fdiv (2 ^ min n.toNat k.bits)

/-- floats, by their bits -/
def feq (a b : Nat) : Bool := Ieee.double.order a b == some .eq
def flt (a b : Nat) : Bool := Ieee.double.order a b == some .lt
def fgt (a b : Nat) : Bool := Ieee.double.order a b == some .gt
def fadd (a b : Nat) : Option Nat := Ieee.double.add a b
def fsub (a b : Nat) : Option Nat := Ieee.double.sub a b
def fmul (a b : Nat) : Option Nat := Ieee.double.mul a b
def fdiv (a b : Nat) : Option Nat := Ieee.double.div a b
def fneg (a : Nat) : Nat := a ^^^ 2 ^ 63
def ofInt (n : Int) : Nat := FloatKind.f64.nearest n
/-- a float as an integer, if it is told -/
def toInt (k : IntKind) (a : Nat) : Option Int :=
  match (FloatKind.f64.decode a).toInt .zero with
  | some n => if k.min ≤ n ∧ n ≤ k.max then some n else none
  | none => none

def binFlt (op : BinOp) (a b : Nat) : Option C :=
  match op with
  | .eql => some (.bool (feq a b))
  | .neq => some (.bool (!feq a b))
  | .lss => some (.bool (flt a b))
  | .leq => some (.bool (flt a b || feq a b))
  | .gtr => some (.bool (fgt a b))
  | .geq => some (.bool (fgt a b || feq a b))
  | _ => none

def sless (a b : ByteArray) : Bool := Op.bytesLess a.toList b.toList
def binStr (op : BinOp) (a b : ByteArray) : Option C :=
  match op with
  | .add => some (.str (a ++ b))
  | .eql => some (.bool (decide (a = b)))
  | .neq => some (.bool (!decide (a = b)))
  | .lss => some (.bool (sless a b))
  | .leq => some (.bool (sless a b || decide (a = b)))
  | .gtr => some (.bool (!(sless a b || decide (a = b))))
  | .geq => some (.bool (!sless a b))
  | _ => none

/-- '==' of two cells that are scalars -/
def ceq : C → C → Bool
  | .int _ a, .int _ b => decide (a = b)
  | .bool a, .bool b => a == b
  | .flt a, .flt b => feq a b
  | .str a, .str b => decide (a = b)
  | _, _ => false
def ueq : U → U → Bool
  | [], [] => true
  | a :: l, b :: r => ceq a b && ueq l r
  | _, _ => false

def cut (u : U) (off n : Nat) : U := (u.drop off).take n
def upd (u : U) (off : Nat) (v : U) : U := u.take off ++ v ++ u.drop (off + v.length)
def dcut (u : List DC) (off n : Nat) : List DC := (u.drop off).take n
def dupd (u : List DC) (off : Nat) (v : List DC) : List DC := u.take off ++ v ++ u.drop (off + v.length)

/-- a value's cells -/
def V.cells : V → Option (List DC)
  | .s c => some [c]
  | .a u => some (u.map .c)
  | .m l => some l
  | _ => none
/-- .. if they are pure -/
def V.pure? : V → Option U
  | .s (.c x) => some [x]
  | .a u => some u
  | _ => none
def V.ofU (agg : Bool) (u : U) : V :=
  if agg then .a u else match u with | [x] => .s (.c x) | _ => .bot
def V.ofD (agg : Bool) (u : List DC) : V :=
  if agg then .m u else match u with | [x] => .s x | _ => .bot
def V.nat : V → Option Int
  | .s (.c (.int _ n)) => some n
  | _ => none

def elemAt (l : List U) (i : Nat) : U := (l[i]?).getD []

/-- The pieces of a value that a fill writes, one behind the other. -/
def fillU (z : U) : List (Nat × Nat × V) → Option U
  | [] => some z
  | (o, n, v) :: r => match v.pure? with
    | some u => if u.length = n ∧ o + n ≤ z.length then fillU (upd z o u) r else none
    | none => none
def fillD (z : List DC) : List (Nat × Nat × V) → Option (List DC)
  | [] => some z
  | (o, n, v) :: r => match v.cells with
    | some u => if u.length = n ∧ o + n ≤ z.length then fillD (dupd z o u) r else none
    | none => none
def fillL (z : U) (l : List U) : List (Nat × V) → Option (List U)
  | [] => some l
  | (i, v) :: r => match v.pure? with
    | some u => if u.length = z.length ∧ i < l.length then fillL z (l.set i u) r else none
    | none => none

end Go.Lx
