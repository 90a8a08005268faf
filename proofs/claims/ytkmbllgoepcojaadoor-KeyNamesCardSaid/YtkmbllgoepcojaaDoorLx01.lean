import Derived.Test.YtkmbllgoepcojaaDoorLx00
/- What an operation of the L-language comes to: values of pure operations and what they ask; predicate transformers of operations, regions, code; calls as a least fixed point. -/
set_option linter.unusedVariables false
namespace Go.Lx

/-! ### operations that only make a value -/
def idxOf (v : V) : Int := (v.nat).getD 0

/-- a bound of a slice expression -/
def bnd (x : Option V) (d : Nat) : Int := match x with | some x => idxOf x | none => d

def V.dc? : V → Option DC
  | .s d => some d
  | _ => none

/-! the single operations -/
def pvPick : V → V → V → Option V
  | .s (.c (.bool true)), p, _ => some p
  | .s (.c (.bool false)), _, q => some q
  | _, _, _ => none
theorem pvPick_bool {g p q : Bool} : pvPick (.s (.c (.bool g))) (.s (.c (.bool p))) (.s (.c (.bool q))) = some (.s (.c (.bool (bif g then p else q)))) := by cases g <;> rfl
def ldU (n : Nat) (agg : Bool) (u : U) (off : Nat) : Option V := if off + n ≤ u.length ∧ (agg = true ∨ n = 1) then some (V.ofU agg (cut u off n)) else none
def ldD (n : Nat) (agg : Bool) (u : List DC) (off : Nat) : Option V := if off + n ≤ u.length ∧ (agg = true ∨ n = 1) then some (V.ofD agg (dcut u off n)) else none
def ldR (n : Nat) (agg : Bool) (r : Option Root) (off : Nat) : Option V :=
  match r with
  | some (.boxu u) => ldU n agg u off
  | some (.boxd l) => ldD n agg l off
  | _ => none
def ldE (n : Nat) (agg : Bool) (r : Option Root) (g i off : Nat) : Option V :=
  match r with
  | some (.row g' sz l) | some (.lock g' sz l) => if g = g' ∧ off + n ≤ sz ∧ (agg = true ∨ n = 1) then some (V.ofU agg (cut (elemAt l i) off n)) else none
  | _ => none
def pvLoad (h : List Root) (n : Nat) (agg : Bool) : V → Option V
  | .s (.iptr u off) => ldU n agg u off
  | .s (.ptr id off) => ldR n agg h[id]? off
  | .s (.eptr id g i off) => ldE n agg h[id]? g i off
  | _ => none
def pvFld (off : Nat) : V → Option V
  | .s (.iptr u o) => some (.s (.iptr u (o + off)))
  | .s (.ptr id o) => some (.s (.ptr id (o + off)))
  | .s (.eptr id g i o) => some (.s (.eptr id g i (o + off)))
  | _ => none
def pvFldv (off n : Nat) (agg : Bool) : V → Option V
  | .a u => ldU n agg u off
  | .m l => ldD n agg l off
  | _ => none
def pvIdxA : V → Int → Option V
  | .s (.c (.sl l)), i | .s (.full l), i => some (.s (.iptr (elemAt l i.toNat) 0))
  | .s (.ref id g sz off n), i => some (.s (.eptr id g (off + i.toNat) 0))
  | _, _ => none
def byteAt (s : ByteArray) (i : Nat) : Int := ((s.data[i]?).getD 0).toNat
def pvIdxS : V → Int → Option V
  | .s (.c (.str s)), i => some (.s (.c (.int .u8 (byteAt s i.toNat))))
  | _, _ => none
def pvSliceS (lo hi : Option V) : V → Option V
  | .s (.c (.str s)) => some (.s (.c (.str (s.extract (bnd lo 0).toNat (bnd hi s.size).toNat))))
  | _ => none
def sub (l : List U) (lo hi : Int) : List U := (l.take hi.toNat).drop lo.toNat
def pvSlice (lo hi mx : Option V) : V → Option V
  | .s (.c (.sl l)) =>
    match mx with
    | none => some (.s (.c (.sl (sub l (bnd lo 0) (bnd hi l.length)))))
    | some m => if bnd hi 0 = idxOf m then some (.s (.full (sub l (bnd lo 0) (bnd hi l.length)))) else none
  | .s (.full l) =>
    match mx with
    | none => some (.s (.c (.sl (sub l (bnd lo 0) (bnd hi l.length)))))
    | some m => if bnd hi 0 = idxOf m then some (.s (.full (sub l (bnd lo 0) (bnd hi l.length)))) else none
  | .s (.ref id g sz off n) =>
    match mx with
    | none => some (.s (.ref id g sz (off + (bnd lo 0).toNat) ((bnd hi n).toNat - (bnd lo 0).toNat)))
    | some _ => none
  | _ => none
def fltArith (op : BinOp) (a b : Nat) : Option C :=
  match op with
  | .add => (fadd a b).map .flt
  | .sub => (fsub a b).map .flt
  | .mul => (fmul a b).map .flt
  | .quo => (fdiv a b).map .flt
  | _ => binFlt op a b
def pvEqb (pos : Bool) : V → V → Option V
  | .s (.c (.bool a)), .s (.c (.bool b)) => some (.s (.c (.bool ((a == b) == pos))))
  | _, _ => none
def intAny (op : BinOp) (k k' : IntKind) (a b : Int) : Option C :=
  match op with
  | .shl => some (.int k (shl k a b))
  | .shr => some (.int k (shr k a b))
  | _ => if k = k' then binInt op k a b else none
def C.v (c : Option C) : Option V := c.map fun c => .s (.c c)
def pvBin (op : BinOp) : V → V → Option V
  | .s (.c (.int k a)), .s (.c (.int k' b)) => C.v (intAny op k k' a b)
  | .s (.c (.flt a)), .s (.c (.flt b)) => C.v (fltArith op a b)
  | .s (.c (.str a)), .s (.c (.str b)) => C.v (binStr op a b)
  | _, _ => none
def isNil : Nil → V → Option Bool
  | .ptr, .s (.c (.nil .ptr)) => some true
  | .ptr, .s (.ptr _ _) | .ptr, .s (.eptr _ _ _ _) | .ptr, .s (.iptr _ _) => some false
  | .func, .s (.c (.nil .func)) => some true
  | .func, .s (.clo _ _ _) => some false
  | _, _ => none
def pvEqn (k : Nil) (pos : Bool) (x y : V) : Option V :=
  match isNil k x, isNil k y with
  | some true, some b => some (.s (.c (.bool (b == pos))))
  | some false, some true => some (.s (.c (.bool (false == pos))))
  | _, _ => none
def pvEqs (pos : Bool) : V → V → Option V
  | .a u, .a v => some (.s (.c (.bool (if pos then ueq u v else !ueq u v))))
  | _, _ => none
def pvUn (op : UnOp) : V → Option V
  | .s (.c (.bool b)) => match op with
    | .not => some (.s (.c (.bool (!b))))
    | _ => none
  | .s (.c (.int k n)) => match op with
    | .neg => some (.s (.c (.int k (k.wrap (0 - n)))))
    | .xor => C.v (binInt .xor k (if k.signed then -1 else k.max) n)
    | _ => none
  | .s (.c (.flt n)) => match op with
    | .neg => some (.s (.c (.flt (fneg n))))
    | _ => none
  | _ => none
def pvConv (c : Conv) : V → Option V
  | .s (.c (.int _ n)) => match c with
    | .int k => some (.s (.c (.int k (k.wrap n))))
    | .toFlt => some (.s (.c (.flt (ofInt n))))
    | .rune => some (.s (.c (.str (Utf8.encode n))))
    | _ => none
  | .s (.c (.flt n)) => match c with
    | .toInt k => (toInt k n).map fun x => .s (.c (.int k x))
    | _ => none
  | .s (.c (.str s)) => match c with
    | .same => some (.s (.c (.str s)))
    | _ => none
  | _ => none
def pvExtract (i : Nat) : V → Option V
  | .tup l => l[i]?
  | _ => none
def pvNilchk : V → Option V
  | .s (.ptr id off) => some (.s (.ptr id off))
  | .s (.eptr id g i off) => some (.s (.eptr id g i off))
  | .s (.iptr u off) => some (.s (.iptr u off))
  | .s (.clo f a b) => some (.s (.clo f a b))
  | _ => none
def pvLen : Bool → V → Option V
  | true, .s (.c (.str s)) => some (.s (.c (.int .i64 s.size)))
  | false, .s (.c (.sl l)) | false, .s (.full l) => some (.s (.c (.int .i64 l.length)))
  | false, .s (.ref _ _ _ _ n) => some (.s (.c (.int .i64 n)))
  | _, _ => none
def pvMkFn (f : Nat) (a b : List V) : Option V :=
  match a.mapM V.dc?, b.mapM V.dc? with
  | some p, some q => some (.s (.clo f p q))
  | _, _ => none
def pvMkIf (t : Nat) : V → Option V
  | .s d => some (.s (.ifc t d))
  | _ => none
def pvMax (mx : Bool) : List V → Option V
  | [.s (.c (.int k a)), .s (.c (.int k' b))] => if k = k' then some (.s (.c (.int k (if mx then (if a < b then b else a) else (if b < a then b else a))))) else none
  | _ => none

/-- a value made, or read, by an operation that changes nothing of the heap -/
def pv (ρ : X → V) (h : List Root) : Op → Option V
  | .mv x => some (ρ x)
  | .pick c a b => pvPick (ρ c) (ρ a) (ρ b)
  | .build z ps => (fillU z (ps.map fun p => (p.1, p.2.1, ρ p.2.2))).map .a
  | .buildx z ps => (fillD z (ps.map fun p => (p.1, p.2.1, ρ p.2.2))).map .m
  | .load n agg x => pvLoad h n agg (ρ x)
  | .fld off x => pvFld off (ρ x)
  | .fldv off n agg x => pvFldv off n agg (ρ x)
  | .idxA _ x i => pvIdxA (ρ x) (idxOf (ρ i))
  | .idxS x i => pvIdxS (ρ x) (idxOf (ρ i))
  | .sliceS x lo hi => pvSliceS (lo.map ρ) (hi.map ρ) (ρ x)
  | .slice _ x lo hi mx => pvSlice (lo.map ρ) (hi.map ρ) (mx.map ρ) (ρ x)
  | .bin op x y => match op with
    | .plain op => pvBin op (ρ x) (ρ y)
    | .eqb pos => pvEqb pos (ρ x) (ρ y)
    | .eqs _ => pvEqs true (ρ x) (ρ y)
    | .neqs _ => pvEqs false (ρ x) (ρ y)
    | .eqn k pos => pvEqn k pos (ρ x) (ρ y)
  | .un op x => pvUn op (ρ x)
  | .conv c x => pvConv c (ρ x)
  | .extract x i => pvExtract i (ρ x)
  | .nilchk x => pvNilchk (ρ x)
  | .mkFn f a b => pvMkFn f (a.map ρ) (b.map ρ)
  | .mkIf t x => pvMkIf t (ρ x)
  | .len b x => pvLen b (ρ x)
  | .max l => pvMax true (l.map ρ)
  | .min l => pvMax false (l.map ρ)
  | .alloc _ | .allocx _ | .box _ _ | .mkSl _ _ _ | .store _ _ _ | .append _ _ _ _ | .appendS _ _ | .copy _ _ _ | .mkRow _ _ _ _ | .mkMap _ | .lookup _ _ _ _ _ _ | .mapUpd _ _ _ _ _ | .call _ _ | .callv _ _ => none

/-! what they ask besides -/
def C.ek : C → Option EK
  | .int k _ => some (.int k)
  | .bool _ => some .bool
  | .str _ => some .str
  | .flt _ => some .flt
  | _ => none
def hasKs (ks : List EK) : V → Prop
  | .a u => u.map C.ek = ks.map some
  | _ => False
def vcPick (a b : Bool) : V → Prop
  | .s (.c (.bool g)) => (g = true → a = true) ∧ (g = false → b = true)
  | _ => False
def isInt (v : V) : Prop := ∃ n, v.nat = some n
def isIntO : Option V → Prop
  | some v => isInt v
  | none => True
def vcLoad (h : List Root) : V → Prop
  | .s (.eptr id _ i _) => match h[id]? with
    | some (.row _ _ l) | some (.lock _ _ l) => i < l.length
    | _ => False
  | _ => True
def vcIdxA (sz : Nat) (i : V) : V → Prop
  | .s (.c (.sl l)) | .s (.full l) => isInt i ∧ 0 ≤ idxOf i ∧ idxOf i < l.length ∧ (elemAt l (idxOf i).toNat).length = sz
  | .s (.ref _ _ sz' _ n) => isInt i ∧ 0 ≤ idxOf i ∧ idxOf i < n ∧ sz' = sz
  | _ => False
def vcIdxS (i : V) : V → Prop
  | .s (.c (.str s)) => isInt i ∧ 0 ≤ idxOf i ∧ idxOf i < s.size
  | _ => False
def vcRange (lo hi : Option V) (n : Nat) : Prop := isIntO lo ∧ isIntO hi ∧ 0 ≤ bnd lo 0 ∧ bnd lo 0 ≤ bnd hi n ∧ bnd hi n ≤ n
def vcSliceS (lo hi : Option V) : V → Prop
  | .s (.c (.str s)) => vcRange lo hi s.size
  | _ => False
def vcSlice (sz : Nat) (lo hi mx : Option V) : V → Prop
  | .s (.c (.sl l)) | .s (.full l) => vcRange lo hi l.length ∧ isIntO mx ∧ (mx.isSome = true → hi.isSome = true) ∧ (∀ e, e ∈ l → e.length = sz)
  | .s (.ref _ _ sz' _ n) => vcRange lo hi n ∧ sz' = sz
  | _ => False
def vcBin (op : BinOp) : V → V → Prop
  | _, .s (.c (.int _ b)) => match op with
    | .shl | .shr => 0 ≤ b
    | .quo | .rem => b ≠ 0
    | _ => True
  | .s (.c (.str a)), .s (.c (.str b)) => match op with
    | .add => a.size + b.size ≤ 9223372036854775807
    | _ => True
  | _, _ => True

/-- what such an operation asks besides -/
def pvc (θ : X → Bool) (ρ : X → V) (h : List Root) : Op → Prop
  | .pick c a b => vcPick (θ a) (θ b) (ρ c)
  | .load _ _ x => vcLoad h (ρ x)
  | .idxA sz x i => vcIdxA sz (ρ i) (ρ x)
  | .idxS x i => vcIdxS (ρ i) (ρ x)
  | .sliceS x lo hi => vcSliceS (lo.map ρ) (hi.map ρ) (ρ x)
  | .slice sz x lo hi mx => vcSlice sz (lo.map ρ) (hi.map ρ) (mx.map ρ) (ρ x)
  | .bin (.plain op) x y => vcBin op (ρ x) (ρ y)
  | .bin (.eqs ks) x y | .bin (.neqs ks) x y => hasKs ks (ρ x) ∧ hasKs ks (ρ y)
  | _ => True

def Op.isPure : Op → Bool
  | .mv _ | .pick _ _ _ | .build _ _ | .buildx _ _ | .load _ _ _ | .fld _ _ | .fldv _ _ _ _ | .idxA _ _ _ | .idxS _ _ | .sliceS _ _ _ | .slice _ _ _ _ _ | .bin _ _ _ | .un _ _ | .conv _ _ | .extract _ _ | .nilchk _ | .mkFn _ _ _ | .mkIf _ _ | .len _ _ | .max _ | .min _ => true
  | .alloc _ | .allocx _ | .box _ _ | .mkSl _ _ _ | .store _ _ _ | .append _ _ _ _ | .appendS _ _ | .copy _ _ _ | .mkRow _ _ _ _ | .mkMap _ | .lookup _ _ _ _ _ _ | .mapUpd _ _ _ _ _ | .call _ _ | .callv _ _ => false

def Op.xs : Op → List X
  | .mv x | .box _ x | .load _ _ x | .fld _ x | .fldv _ _ _ x | .un _ x | .conv _ x | .extract x _ | .nilchk x | .mkIf _ x | .len _ x => [x]
  | .pick a _ _ => [a]
  | .build _ ps | .buildx _ ps => ps.map fun p => p.2.2
  | .mkSl _ _ ps => ps.map fun p => p.2
  | .store _ a x => [a, x]
  | .idxA _ x i | .idxS x i | .bin _ x i => [x, i]
  | .sliceS x a b => x :: (a.toList ++ b.toList)
  | .slice _ x a b c => x :: (a.toList ++ b.toList ++ c.toList)
  | .mkFn _ a b => a ++ b
  | .max l | .min l => l
  | .append _ _ a b | .appendS a b | .copy _ a b => [a, b]
  | .mkRow _ _ a b => [a, b]
  | .mkMap r => r.toList
  | .lookup _ _ _ _ a b => [a, b]
  | .mapUpd _ _ a b c => [a, b, c]
  | .call _ l => l
  | .callv x l => x :: l
  | _ => []


/-! ### what is handed over -/
def C.flat : C → Bool
  | .sl l => l.isEmpty
  | _ => true
/-- a cell as pure data -/
def DC.fz (h : List Root) : DC → Option C
  | .c x => some x
  | .full l => some (.sl l)
  | .ref id g _ off n => match h[id]? with
    | some (.row g' _ l) | some (.lock g' _ l) => if g = g' ∧ off + n ≤ l.length then some (.sl ((l.drop off).take n)) else none
    | _ => none
  | _ => none
/-- a value as pure data (an address of what is only read stays) -/
def V.fz (h : List Root) : V → Option V
  | .s (.iptr u o) => some (.s (.iptr u o))
  | .s d => (d.fz h).map (.s ∘ .c)
  | .a u => some (.a u)
  | .m l => (l.mapM (DC.fz h)).map .a
  | _ => none
/-- no memory of the call's own is named -/
def DC.isU : DC → Bool
  | .c _ | .full _ | .iptr _ _ => true
  | _ => false
def V.isU : V → Bool
  | .s d => d.isU
  | .a _ => true
  | .m l => l.all DC.isU
  | _ => false
/-- nothing that is only read is named -/
def DC.plain : DC → Bool
  | .c x => x.flat
  | .full l => l.isEmpty
  | .ref _ _ _ _ _ | .ptr _ _ | .eptr _ _ _ _ | .mp _ => true
  | _ => false
mutual
def V.plain : V → Bool
  | .s d => d.plain
  | .a u => u.all C.flat
  | .m l => l.all DC.plain
  | .tup l => V.plains l
  | .bot => true
def V.plains : List V → Bool
  | [] => true
  | v :: l => v.plain && V.plains l
end
@[simp] theorem V.plains_eq : ∀ {l : List V}, V.plains l = l.all V.plain
  | [] => rfl
  | v :: l => by simp only [V.plains, List.all_cons, V.plains_eq]
def Root.plain : Root → Bool
  | .boxu u => u.all C.flat
  | .boxd l => l.all DC.plain
  | .row _ _ l => l.all fun u => u.all C.flat
  | .lock _ _ _ => false
  | .map l => l.all fun p => p.1.plain && p.2.plain
  | .dead => true
/-! ids moved up -/
mutual
def DC.shift (n : Nat) : DC → DC
  | .c x => .c x
  | .full l => .full l
  | .iptr u o => .iptr u o
  | .raw v => .raw v
  | .ifc t d => .ifc t (d.shift n)
  | .ref id g sz off k => .ref (id + n) g sz off k
  | .ptr id off => .ptr (id + n) off
  | .eptr id g i off => .eptr (id + n) g i off
  | .clo f a b => .clo f (DC.shifts n a) (DC.shifts n b)
  | .mp id => .mp (id + n)
def DC.shifts (n : Nat) : List DC → List DC
  | [] => []
  | d :: l => d.shift n :: DC.shifts n l
end
@[simp] theorem DC.shifts_eq {n : Nat} : ∀ {l : List DC}, DC.shifts n l = l.map (DC.shift n)
  | [] => rfl
  | v :: l => by simp only [DC.shifts, List.map_cons, DC.shifts_eq]
mutual
def V.shift (n : Nat) : V → V
  | .s d => .s (d.shift n)
  | .a u => .a u
  | .m l => .m (l.map (DC.shift n))
  | .tup l => .tup (V.shifts n l)
  | .bot => .bot
def V.shifts (n : Nat) : List V → List V
  | [] => []
  | v :: l => v.shift n :: V.shifts n l
end
@[simp] theorem V.shifts_eq {n : Nat} : ∀ {l : List V}, V.shifts n l = l.map (V.shift n)
  | [] => rfl
  | v :: l => by simp only [V.shifts, List.map_cons, V.shifts_eq]
def Root.shift (n : Nat) : Root → Root
  | .boxd l => .boxd (l.map (DC.shift n))
  | r => r
/-- the rows that values name -/
def DC.ids : DC → List Nat
  | .ref id _ _ _ _ => [id]
  | _ => []
def V.ids : V → List Nat
  | .s d => d.ids
  | .m l => l.flatMap DC.ids
  | _ => []
def lockRoot : Root → Root
  | .row g sz l => .lock g sz l
  | r => r
def lockIds (ids : List Nat) (h : List Root) : List Root := ids.foldl (fun h i => h.modify i lockRoot) h

abbrev Orc := Nat → List V → List Root → (V → List Root → Prop) → Prop

/-- A call: within the own blocks; or over data alone, what it makes laid behind them (where what it answers names what was handed over, this is only read from now on). -/
def callR (O : Orc) (f : Nat) (args : List V) (h : List Root) (K : V → List Root → Prop) : Prop :=
  O f args h K
  ∨ (∃ us, args.mapM (V.fz h) = some us ∧ O f us [] fun d h' => (args.all V.isU = true ∨ (d.plain = true ∧ h'.all Root.plain = true)) ∧ K (d.shift h.length) (h ++ h'.map (Root.shift h.length)))
  ∨ (∃ us, args.mapM (V.fz h) = some us ∧ O f us [] fun d h' => K (d.shift h.length) (lockIds (args.flatMap V.ids) h ++ h'.map (Root.shift h.length)))

/-! ### operations that change the heap, or make something in it -/
/-- the elements of a slice -/
def V.elems (h : List Root) : V → Option (List U)
  | .s (.c (.sl l)) | .s (.full l) => some l
  | .s (.ref id g sz off n) => match h[id]? with
    | some (.row g' _ l) | some (.lock g' _ l) => if g = g' ∧ off + n ≤ l.length then some ((l.drop off).take n) else none
    | _ => none
  | _ => none

/-- a store into a block -/
def Root.st (r : Root) (i : Option (Nat × Nat)) (off n : Nat) (v : V) : Option Root :=
  match r, i, v.pure? with
  | .boxu u, none, some x => if x.length = n ∧ off + n ≤ u.length then some (.boxu (upd u off x)) else none
  | .boxd l, none, some x => if x.length = n ∧ off + n ≤ l.length then some (.boxd (dupd l off (x.map .c))) else none
  | .boxu u, none, none => match v.cells with
    | some x => if x.length = n ∧ off + n ≤ u.length then some (.boxd (dupd (u.map .c) off x)) else none
    | none => none
  | .boxd l, none, none => match v.cells with
    | some x => if x.length = n ∧ off + n ≤ l.length then some (.boxd (dupd l off x)) else none
    | none => none
  | .row g sz l, some (g', k), some x => if g = g' ∧ x.length = n ∧ off + n ≤ sz ∧ k < l.length then some (.row g sz (l.set k (upd (elemAt l k) off x))) else none
  | _, _, _ => none

/-- '==' of two pure values -/
def veq : V → V → Bool
  | .s (.c a), .s (.c b) => ceq a b
  | .a u, .a v => ueq u v
  | _, _ => false
def V.isPure : V → Bool
  | .s (.c _) | .a _ => true
  | _ => false
def mget (l : List (V × V)) (k : V) : Option V := (l.find? fun p => veq k p.1).map (·.2)
/-- a value that can be a key: its cells have these kinds -/
def isKey (agg : Bool) (ks : List EK) : V → Prop
  | .s (.c c) => agg = false ∧ [c.ek] = ks.map some
  | .a u => agg = true ∧ u.map C.ek = ks.map some
  | _ => False

def eff (O : Orc) (ρ : X → V) (h : List Root) (K : V → List Root → Prop) : Op → Prop
  | .alloc z => K (.s (.ptr h.length 0)) (h ++ [.boxu z])
  | .allocx z => K (.s (.ptr h.length 0)) (h ++ [.boxd z])
  | .box n x => match (ρ x).pure?, (ρ x).cells with
    | some u, _ => u.length = n ∧ K (.s (.ptr h.length 0)) (h ++ [.boxu u])
    | none, some l => l.length = n ∧ K (.s (.ptr h.length 0)) (h ++ [.boxd l])
    | _, _ => False
  | .mkSl z len ps => match fillL z (List.replicate len z) (ps.map fun (i, x) => (i, ρ x)) with
    | some l => 0 < z.length ∧ K (.s (.ref h.length 0 z.length 0 len)) (h ++ [.row 0 z.length l])
    | none => False
  | .store n a x => match ρ a with
    | .s (.ptr id off) => ∃ r, (h[id]?).bind (fun r => r.st none off n (ρ x)) = some r ∧ K .bot (h.set id r)
    | .s (.eptr id g i off) => ∃ r, (h[id]?).bind (fun r => r.st (some (g, i)) off n (ρ x)) = some r ∧ K .bot (h.set id r)
    | _ => False
  | .append bytes z s x => match (ρ x).elems h with
    | some e => (0 < z.length ∧ 0 < bytes ∧ bytes ≤ 1024 ∧ ∀ u, u ∈ e → u.length = z.length) ∧ match ρ s with
      | .s (.full l) => (l.length + e.length ≤ 4294967296 ∧ (∀ u, u ∈ l → u.length = z.length) ∧ (l = [] ∨ e ≠ [])) ∧ K (.s (.ref h.length 0 z.length 0 (l.length + e.length))) (h ++ [.row 0 z.length (l ++ e)])
      | .s (.ref id g _ 0 n) => match h[id]? with
        | some (.row g' sz l) => (g = g' ∧ sz = z.length ∧ n = l.length ∧ n + e.length ≤ 4294967296) ∧ K (.s (.ref id (g + 1) sz 0 (n + e.length))) (h.set id (.row (g + 1) sz (l ++ e)))
        | _ => False
      | _ => False
    | none => False
  | .copy sz d s => match (ρ s).elems h, ρ d with
    | some e, .s (.ref id g _ off n) => match h[id]? with
      | some (.row g' sz' l) => (g = g' ∧ sz = sz' ∧ off + n ≤ l.length ∧ ∀ u, u ∈ e → u.length = sz) ∧
          K (.s (.c (.int .i64 (min e.length n : Nat)))) (h.set id (.row g sz (l.take off ++ e.take (min e.length n) ++ l.drop (off + min e.length n))))
      | _ => False
    | _, _ => False
  | .mkRow bytes z l c => ∃ n : Nat, (ρ l).nat = some (n : Int) ∧ (ρ c).nat = some (n : Int) ∧ bytes * n ≤ 281474976710656 ∧ 0 < z.length ∧ 0 < bytes ∧
      K (.s (.ref h.length 0 z.length 0 n)) (h ++ [.row 0 z.length (List.replicate n z)])
  | .mkMap r => isIntO (r.map ρ) ∧ K (.s (.mp h.length)) (h ++ [.map []])
  | .lookup agg ks z ok m k => match ρ m with
    | .s (.mp id) => match h[id]? with
      | some (.map l) => (isKey agg ks (ρ k) ∧ ∀ p, p ∈ l → isKey agg ks p.1) ∧ K (if ok then .tup [(mget l (ρ k)).getD z, .s (.c (.bool (mget l (ρ k)).isSome))] else (mget l (ρ k)).getD z) h
      | _ => False
    | _ => False
  | .mapUpd agg ks m k x => match ρ m with
    | .s (.mp id) => match h[id]? with
      | some (.map l) => ((isKey agg ks (ρ k) ∧ (ρ x).isPure = true) ∧ (∀ p, p ∈ l → isKey agg ks p.1) ∧ mget l (ρ k) = none) ∧ K .bot (h.set id (.map (l ++ [(ρ k, ρ x)])))
      | _ => False
    | _ => False
  | .call f args => callR O f (args.map ρ) h K
  | .callv x args => match ρ x with
    | .s (.clo f a b) => callR O f (a.map .s ++ args.map ρ ++ b.map .s) h K
    | _ => False
  | _ => False

/-! ### regions -/
/-- is an operation carried out? -/
def gval (want : Bool) : Bool × V → Bool
  | (b, .s (.c (.bool v))) => b && (v == want)
  | _ => false
def Oper.gb (o : Oper) (s : St) : Bool :=
  match o.g with
  | none => true
  | some (n, want) => gval want (s.get n)
def isBool : V → Prop
  | .s (.c (.bool _)) => True
  | _ => False
def Oper.gok (o : Oper) (s : St) : Prop :=
  match o.g with
  | none => True
  | some (n, _) => isBool (s.get n).2

def Op.isCall : Op → Bool
  | .call _ _ | .callv _ _ => true
  | .mv _ | .pick _ _ _ | .build _ _ | .buildx _ _ | .load _ _ _ | .fld _ _ | .fldv _ _ _ _ | .idxA _ _ _ | .idxS _ _ | .sliceS _ _ _ | .slice _ _ _ _ _ | .bin _ _ _ | .un _ _ | .conv _ _ | .extract _ _ | .nilchk _ | .mkFn _ _ _ | .mkIf _ _ | .len _ _ | .max _ | .min _ | .alloc _ | .allocx _ | .box _ _ | .mkSl _ _ _ | .store _ _ _ | .append _ _ _ _ | .appendS _ _ | .copy _ _ _ | .mkRow _ _ _ _ | .mkMap _ | .lookup _ _ _ _ _ _ | .mapUpd _ _ _ _ _ => false

/-- One operation. -/
def wpOp (O : Orc) (o : Oper) (s : St) (K : St → Prop) : Prop :=
  o.gok s ∧
  if o.op.isPure then
    ∃ v, (o.gb s = true → pv (X.val s) s.h o.op = some v ∧ o.op.xs.all (X.there s) = true ∧ pvc (X.there s) (X.val s) s.h o.op) ∧ K (s.put o.dst (o.gb s) v)
  else
    (o.gb s = true → o.op.xs.all (X.there s) = true ∧ eff O (X.val s) s.h (fun d h' => K ((⟨s.t, h'⟩ : St).put o.dst true d)) o.op) ∧
    (o.gb s = false → ∃ v, K (s.put o.dst false v))

def wpOps (O : Orc) : List Oper → St → (St → Prop) → Prop
  | [], s, K => K s
  | o :: l, s, K => wpOp O o s fun s' => wpOps O l s' K

end Go.Lx
