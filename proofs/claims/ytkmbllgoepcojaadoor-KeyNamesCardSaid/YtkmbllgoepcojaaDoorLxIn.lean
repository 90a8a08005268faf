import Derived.Test.YtkmbllgoepcojaaDoorLx02
/- An interpreter of the L-language, and that it tells the truth. -/
set_option linter.unusedVariables false
set_option linter.unusedSimpArgs false
namespace Go.Lx

/-! ### what operations ask, as Bools -/
def ekB : EK → C → Bool
  | .int k, .int k' _ => decide (k' = k)
  | .bool, .bool _ => true
  | .str, .str _ => true
  | .flt, .flt _ => true
  | _, _ => false
def eksB : List EK → U → Bool
  | [], [] => true
  | k :: ks, c :: u => ekB k c && eksB ks u
  | _, _ => false
theorem eksB_sound : ∀ {ks : List EK} {u : U}, eksB ks u = true → u.map C.ek = ks.map some
  | [], [], _ => rfl
  | k :: ks, c :: u, h => by
    simp only [eksB, Bool.and_eq_true] at h
    simp only [List.map_cons, eksB_sound h.2, List.cons.injEq, and_true]
    have h1 := h.1
    cases k <;> cases c <;> simp [ekB, C.ek] at h1 ⊢
    exact h1
  | [], _ :: _, h => by simp [eksB] at h
  | _ :: _, [], h => by simp [eksB] at h
def hasKsB (ks : List EK) : V → Bool
  | .a u => eksB ks u
  | _ => false
theorem hasKsB_sound {ks : List EK} {v : V} (h : hasKsB ks v = true) : hasKs ks v := by
  cases v <;> simp only [hasKsB, Bool.false_eq_true] at h
  exact eksB_sound h
def isKeyB (agg : Bool) (ks : List EK) : V → Bool
  | .s (.c c) => !agg && eksB ks [c]
  | .a u => agg && eksB ks u
  | _ => false
theorem isKeyB_sound {agg : Bool} {ks : List EK} {v : V} (h : isKeyB agg ks v = true) : isKey agg ks v := by
  cases v with
  | s d =>
    cases d with
    | c c =>
      simp only [isKeyB, Bool.and_eq_true, Bool.not_eq_true'] at h
      exact ⟨h.1, eksB_sound h.2⟩
    | _ => simp [isKeyB] at h
  | a u =>
    simp only [isKeyB, Bool.and_eq_true] at h
    exact ⟨h.1, eksB_sound h.2⟩
  | _ => simp [isKeyB] at h
def isIntB (v : V) : Bool := v.nat.isSome
def isIntOB : Option V → Bool
  | some v => isIntB v
  | none => true
theorem isIntB_sound {v : V} (h : isIntB v = true) : isInt v := Option.isSome_iff_exists.1 h
theorem isIntOB_sound {v : Option V} (h : isIntOB v = true) : isIntO v := by
  cases v with
  | none => trivial
  | some v => exact isIntB_sound h
def vcPickB (a b : Bool) : V → Bool
  | .s (.c (.bool g)) => bif g then a else b
  | _ => false
def vcLoadB (h : List Root) : V → Bool
  | .s (.eptr id _ i _) => match h[id]? with
    | some (.row _ _ l) | some (.lock _ _ l) => decide (i < l.length)
    | _ => false
  | _ => true
def vcIdxAB (sz : Nat) (i : V) : V → Bool
  | .s (.c (.sl l)) | .s (.full l) => isIntB i && decide (0 ≤ idxOf i) && decide (idxOf i < l.length) && decide ((elemAt l (idxOf i).toNat).length = sz)
  | .s (.ref _ _ sz' _ n) => isIntB i && decide (0 ≤ idxOf i) && decide (idxOf i < n) && decide (sz' = sz)
  | _ => false
def vcIdxSB (i : V) : V → Bool
  | .s (.c (.str s)) => isIntB i && decide (0 ≤ idxOf i) && decide (idxOf i < s.size)
  | _ => false
def vcRangeB (lo hi : Option V) (n : Nat) : Bool := isIntOB lo && isIntOB hi && decide (0 ≤ bnd lo 0) && decide (bnd lo 0 ≤ bnd hi n) && decide (bnd hi n ≤ n)
theorem vcRangeB_sound {lo hi : Option V} {n : Nat} (h : vcRangeB lo hi n = true) : vcRange lo hi n := by
  simp only [vcRangeB, Bool.and_eq_true, decide_eq_true_eq] at h
  obtain ⟨⟨⟨⟨h1, h2⟩, h3⟩, h4⟩, h5⟩ := h
  exact ⟨isIntOB_sound h1, isIntOB_sound h2, h3, h4, h5⟩
def vcSliceSB (lo hi : Option V) : V → Bool
  | .s (.c (.str s)) => vcRangeB lo hi s.size
  | _ => false
def vcSliceB (sz : Nat) (lo hi mx : Option V) : V → Bool
  | .s (.c (.sl l)) | .s (.full l) => vcRangeB lo hi l.length && isIntOB mx && (!mx.isSome || hi.isSome) && l.all fun e => decide (e.length = sz)
  | .s (.ref _ _ sz' _ n) => vcRangeB lo hi n && decide (sz' = sz)
  | _ => false
def vcBinB (op : BinOp) : V → V → Bool
  | _, .s (.c (.int _ b)) => match op with
    | .shl | .shr => decide (0 ≤ b)
    | .quo | .rem => decide (b ≠ 0)
    | _ => true
  | .s (.c (.str a)), .s (.c (.str b)) => match op with
    | .add => decide (a.size + b.size ≤ 9223372036854775807)
    | _ => true
  | _, _ => true
def pvcB (θ : X → Bool) (ρ : X → V) (h : List Root) : Op → Bool
  | .pick c a b => vcPickB (θ a) (θ b) (ρ c)
  | .load _ _ x => vcLoadB h (ρ x)
  | .idxA sz x i => vcIdxAB sz (ρ i) (ρ x)
  | .idxS x i => vcIdxSB (ρ i) (ρ x)
  | .sliceS x lo hi => vcSliceSB (lo.map ρ) (hi.map ρ) (ρ x)
  | .slice sz x lo hi mx => vcSliceB sz (lo.map ρ) (hi.map ρ) (mx.map ρ) (ρ x)
  | .bin (.plain op) x y => vcBinB op (ρ x) (ρ y)
  | .bin (.eqs ks) x y | .bin (.neqs ks) x y => hasKsB ks (ρ x) && hasKsB ks (ρ y)
  | _ => true

theorem pvcB_sound {θ : X → Bool} {ρ : X → V} {h : List Root} {op : Op} (H : pvcB θ ρ h op = true) : pvc θ ρ h op := by
  cases op with
  | pick c a b =>
    simp only [pvcB] at H
    simp only [pvc]
    generalize ρ c = v at H ⊢
    cases v with
    | s d => cases d with
      | c c => cases c with
        | bool g =>
          simp only [vcPickB, vcPick] at H ⊢
          cases g
          · exact ⟨fun h => (by cases h), fun _ => H⟩
          · exact ⟨fun _ => H, fun h => (by cases h)⟩
        | _ => simp [vcPickB] at H
      | _ => simp [vcPickB] at H
    | _ => simp [vcPickB] at H
  | load n agg x =>
    simp only [pvcB] at H
    simp only [pvc]
    generalize ρ x = v at H ⊢
    unfold vcLoad
    unfold vcLoadB at H
    split
    · rename_i id g i off
      simp only at H
      split
      · rename_i e; rw [e] at H; simpa using H
      · rename_i e; rw [e] at H; simpa using H
      · rename_i e1 e2
        split at H
        · rename_i e; exact (e1 _ _ _ e).elim
        · rename_i e; exact (e2 _ _ _ e).elim
        · cases H
    · trivial
  | idxA sz x i =>
    simp only [pvcB] at H
    simp only [pvc]
    generalize ρ x = v at H ⊢
    unfold vcIdxA
    unfold vcIdxAB at H
    split
    · simp only [Bool.and_eq_true, decide_eq_true_eq] at H; exact ⟨isIntB_sound H.1.1.1, H.1.1.2, H.1.2, H.2⟩
    · simp only [Bool.and_eq_true, decide_eq_true_eq] at H; exact ⟨isIntB_sound H.1.1.1, H.1.1.2, H.1.2, H.2⟩
    · simp only [Bool.and_eq_true, decide_eq_true_eq] at H; exact ⟨isIntB_sound H.1.1.1, H.1.1.2, H.1.2, H.2⟩
    · rename_i a b c
      split at H
      · exact (a _ rfl).elim
      · exact (b _ rfl).elim
      · exact (c _ _ _ _ _ rfl).elim
      · cases H
  | idxS x i =>
    simp only [pvcB] at H
    simp only [pvc]
    generalize ρ x = v at H ⊢
    unfold vcIdxS
    unfold vcIdxSB at H
    split
    · simp only [Bool.and_eq_true, decide_eq_true_eq] at H; exact ⟨isIntB_sound H.1.1, H.1.2, H.2⟩
    · rename_i a
      split at H
      · exact (a _ rfl).elim
      · cases H
  | sliceS x lo hi =>
    simp only [pvcB] at H
    simp only [pvc]
    generalize ρ x = v at H ⊢
    unfold vcSliceS
    unfold vcSliceSB at H
    split
    · exact vcRangeB_sound H
    · rename_i a
      split at H
      · exact (a _ rfl).elim
      · cases H
  | slice sz x lo hi mx =>
    simp only [pvcB] at H
    simp only [pvc]
    generalize ρ x = v at H ⊢
    have key : ∀ {l : List U}, (vcRangeB (lo.map ρ) (hi.map ρ) l.length && isIntOB (mx.map ρ) && (!(mx.map ρ).isSome || (hi.map ρ).isSome) && l.all fun e => decide (e.length = sz)) = true →
        vcRange (lo.map ρ) (hi.map ρ) l.length ∧ isIntO (mx.map ρ) ∧ ((mx.map ρ).isSome = true → (hi.map ρ).isSome = true) ∧ (∀ e, e ∈ l → e.length = sz) := by
      intro l H
      simp only [Bool.and_eq_true, Bool.or_eq_true, Bool.not_eq_true'] at H
      obtain ⟨⟨⟨h1, h2⟩, h3⟩, h4⟩ := H
      refine ⟨vcRangeB_sound h1, isIntOB_sound h2, fun h => ?_, fun e he => by simpa using List.all_eq_true.1 h4 e he⟩
      rcases h3 with h3 | h3
      · rw [h3] at h; cases h
      · exact h3
    unfold vcSlice
    unfold vcSliceB at H
    split
    · exact key H
    · exact key H
    · simp only [Bool.and_eq_true, decide_eq_true_eq] at H; exact ⟨vcRangeB_sound H.1, H.2⟩
    · rename_i a b c
      split at H
      · exact (a _ rfl).elim
      · exact (b _ rfl).elim
      · exact (c _ _ _ _ _ rfl).elim
      · cases H
  | bin op x y =>
    cases op with
    | plain op =>
      simp only [pvcB] at H
      simp only [pvc]
      generalize ρ x = a at H ⊢
      generalize ρ y = b at H ⊢
      unfold vcBin
      unfold vcBinB at H
      split
      · split <;> simp_all
      · split <;> simp_all
      · trivial
    | eqs ks => simp only [pvcB, Bool.and_eq_true] at H; exact ⟨hasKsB_sound H.1, hasKsB_sound H.2⟩
    | neqs ks => simp only [pvcB, Bool.and_eq_true] at H; exact ⟨hasKsB_sound H.1, hasKsB_sound H.2⟩
    | eqb p => trivial
    | eqn k p => trivial
  | _ => trivial

/-! ### the interpreter -/
abbrev Call := Nat → List V → List Root → Option (V × List Root)

def Root.sameB : List Root → List Root → Bool := fun a b => a.length == b.length

/-- a call: over data alone where that goes; else within the blocks -/
def callF (call : Call) (f : Nat) (args : List V) (h : List Root) : Option (V × List Root) :=
  match args.mapM (V.fz h) with
  | some us => match call f us [] with
    | some (d, h') =>
      if args.all V.isU || (d.plain && h'.all Root.plain) then some (d.shift h.length, h ++ h'.map (Root.shift h.length))
      else some (d.shift h.length, lockIds (args.flatMap V.ids) h ++ h'.map (Root.shift h.length))
    | none => none
  | none => call f args h

/-- a call that makes nothing -/
def callG (call : Call) (f : Nat) (args : List V) (h : List Root) : Option V :=
  match args.mapM (V.fz h) with
  | some us => match call f us [] with
    | some (d, []) => if args.all V.isU || d.plain then some (d.shift h.length) else none
    | _ => none
  | none => none

def effF (call : Call) (ρ : X → V) (h : List Root) : Op → Option (V × List Root)
  | .alloc z => some (.s (.ptr h.length 0), h ++ [.boxu z])
  | .allocx z => some (.s (.ptr h.length 0), h ++ [.boxd z])
  | .box n x => match (ρ x).pure? with
    | some u => if u.length = n then some (.s (.ptr h.length 0), h ++ [.boxu u]) else none
    | none => match (ρ x).cells with
      | some l => if l.length = n then some (.s (.ptr h.length 0), h ++ [.boxd l]) else none
      | none => none
  | .mkSl z len ps => match fillL z (List.replicate len z) (ps.map fun (i, x) => (i, ρ x)) with
    | some l => if 0 < z.length then some (.s (.ref h.length 0 z.length 0 len), h ++ [.row 0 z.length l]) else none
    | none => none
  | .store n a x => match ρ a with
    | .s (.ptr id off) => ((h[id]?).bind fun r => r.st none off n (ρ x)).map fun r => (.bot, h.set id r)
    | .s (.eptr id g i off) => ((h[id]?).bind fun r => r.st (some (g, i)) off n (ρ x)).map fun r => (.bot, h.set id r)
    | _ => none
  | .append bytes z s x => match (ρ x).elems h with
    | some e => if 0 < z.length ∧ 0 < bytes ∧ bytes ≤ 1024 ∧ (e.all fun u => decide (u.length = z.length)) = true then
        match ρ s with
        | .s (.full l) => if l.length + e.length ≤ 4294967296 ∧ (l.all fun u => decide (u.length = z.length)) = true ∧ (l.isEmpty = true ∨ e.isEmpty = false) then
            some (.s (.ref h.length 0 z.length 0 (l.length + e.length)), h ++ [.row 0 z.length (l ++ e)]) else none
        | .s (.ref id g _ 0 n) => match h[id]? with
          | some (.row g' sz l) => if g = g' ∧ sz = z.length ∧ n = l.length ∧ n + e.length ≤ 4294967296 then
              some (.s (.ref id (g + 1) sz 0 (n + e.length)), h.set id (.row (g + 1) sz (l ++ e))) else none
          | _ => none
        | _ => none
      else none
    | none => none
  | .copy sz d s => match (ρ s).elems h with
    | some e => match ρ d with
      | .s (.ref id g _ off n) => match h[id]? with
        | some (.row g' sz' l) => if g = g' ∧ sz = sz' ∧ off + n ≤ l.length ∧ (e.all fun u => decide (u.length = sz)) = true then
            some (.s (.c (.int .i64 (min e.length n : Nat))), h.set id (.row g sz (l.take off ++ e.take (min e.length n) ++ l.drop (off + min e.length n)))) else none
        | _ => none
      | _ => none
    | none => none
  | .mkRow bytes z l c => match (ρ l).nat, (ρ c).nat with
    | some n, some n' => if 0 ≤ n ∧ n' = n ∧ bytes * n.toNat ≤ 281474976710656 ∧ 0 < z.length ∧ 0 < bytes then
        some (.s (.ref h.length 0 z.length 0 n.toNat), h ++ [.row 0 z.length (List.replicate n.toNat z)]) else none
    | _, _ => none
  | .mkMap r => if isIntOB (r.map ρ) = true then some (.s (.mp h.length), h ++ [.map []]) else none
  | .lookup agg ks z ok m k => match ρ m with
    | .s (.mp id) => match h[id]? with
      | some (.map l) => if isKeyB agg ks (ρ k) = true ∧ (l.all fun p => isKeyB agg ks p.1) = true then
          some (if ok then .tup [(mget l (ρ k)).getD z, .s (.c (.bool (mget l (ρ k)).isSome))] else (mget l (ρ k)).getD z, h) else none
      | _ => none
    | _ => none
  | .mapUpd agg ks m k x => match ρ m with
    | .s (.mp id) => match h[id]? with
      | some (.map l) => if (isKeyB agg ks (ρ k) = true ∧ (ρ x).isPure = true) ∧ (l.all fun p => isKeyB agg ks p.1) = true ∧ (mget l (ρ k)).isNone = true then some (.bot, h.set id (.map (l ++ [(ρ k, ρ x)]))) else none
      | _ => none
    | _ => none
  | .call f args => callF call f (args.map ρ) h
  | .callv x args => match ρ x with
    | .s (.clo f a b) => callF call f (a.map .s ++ args.map ρ ++ b.map .s) h
    | _ => none
  | _ => none

def isBoolB : V → Bool
  | .s (.c (.bool _)) => true
  | _ => false
def Oper.gokB (o : Oper) (s : St) : Bool :=
  match o.g with
  | none => true
  | some (n, _) => isBoolB (s.get n).2

/-- a guarded call -/
def gcallF (call : Call) (ρ : X → V) (h : List Root) : Op → Option V
  | .call f args => callG call f (args.map ρ) h
  | .callv x args => match ρ x with
    | .s (.clo f a b) => callG call f (a.map .s ++ args.map ρ ++ b.map .s) h
    | _ => none
  | _ => none

/-- a value worked out under a guard: if it is asked, it must be there -/
def underF (gb : Bool) (v : Option V) (vc : Bool) : Option V :=
  match v with
  | some v => if !gb || vc then some v else none
  | none => if gb then none else some .bot

def opF (call : Call) (o : Oper) (s : St) : Option St :=
  if o.gokB s then
    if o.op.isPure then
      (underF (o.gb s) (pv (X.val s) s.h o.op) (o.op.xs.all (X.there s) && pvcB (X.there s) (X.val s) s.h o.op)).map fun v => s.put o.dst (o.gb s) v
    else if o.gb s then
      (if o.op.xs.all (X.there s) then (effF call (X.val s) s.h o.op).map fun p => (⟨s.t, p.2⟩ : St).put o.dst true p.1 else none)
    else some (s.put o.dst false .bot)
  else none
def opsF (call : Call) : List Oper → St → Option St
  | [], s => some s
  | o :: l, s => match opF call o s with
    | some s' => opsF call l s'
    | none => none
def isMakeB : Op → Bool
  | .alloc _ | .allocx _ | .box _ _ | .mkSl _ _ _ => true
  | _ => false
def opA (call : Call) (h0 : List Root) (o : Oper) (s : St) : Option St :=
  if o.gokB s then
    if o.op.isPure then
      (underF (o.gb s) (pv (X.val s) h0 o.op) (o.op.xs.all (X.there s) && pvcB (X.there s) (X.val s) h0 o.op)).map fun v => s.put o.dst (o.gb s) v
    else if o.op.isCall then
      (underF (o.gb s) (gcallF call (X.val s) h0 o.op) (o.op.xs.all (X.there s))).map fun v => s.put o.dst (o.gb s) v
    else if isMakeB o.op && o.g.isNone && o.op.xs.all (X.there s) then (effF call (X.val s) s.h o.op).map fun p => (⟨s.t, p.2⟩ : St).put o.dst true p.1
    else none
  else none
def opsAF (call : Call) (h0 : List Root) : List Oper → St → Option St
  | [], s => some s
  | o :: l, s => match opA call h0 o s with
    | some s' => opsAF call h0 l s'
    | none => none

/-! what names which blocks: one above the greatest -/
mutual
def DC.top : DC → Nat
  | .ref id _ _ _ _ => id + 1
  | .ptr id _ => id + 1
  | .eptr id _ _ _ => id + 1
  | .mp id => id + 1
  | .clo _ a b => max (DC.tops a) (DC.tops b)
  | .c _ | .full _ | .iptr _ _ | .raw _ => 0
  | .ifc _ d => d.top
def DC.tops : List DC → Nat
  | [] => 0
  | d :: l => max d.top (DC.tops l)
end
mutual
def V.top : V → Nat
  | .s d => d.top
  | .m l => DC.tops l
  | .tup l => V.tops l
  | .a _ | .bot => 0
def V.tops : List V → Nat
  | [] => 0
  | d :: l => max d.top (V.tops l)
end
/-- the state at a loop's head: these temporaries, the blocks that they name -/
def St.trim (keys : List Nat) (n0 : Nat) (s : St) : St :=
  let t := keys.filterMap fun k => (s.t.lookup k).map fun p => (k, p)
  let n := (t.map fun p => p.2.2.top).foldl max n0
  let h := s.h.take n
  if h.all (Root.under h.length) && t.all (fun p => p.2.2.under h.length) then ⟨t, h⟩ else ⟨t, s.h⟩

def loopF (keys : List Nat) (n0 : Nat) (f : St → Option Out) : Nat → St → Option Out
  | 0, _ => none
  | n + 1, s =>
    let s0 := s.trim keys n0
    if s0.closed && decide (n0 ≤ s0.h.length) then
      match f s0 with
      | some (.norm s') => loopF keys n0 f n s'
      | r => r
    else none

def evC (call : Call) (n0 fuel : Nat) : Code → St → Option Out
  | .skip, s => some (.norm s)
  | .region ops none, s => (opsF call ops s).map .norm
  | .region ops (some (m, late)), s => match opsAF call s.h (ops.take m) s with
    | some s' => match opsF call (ops.drop m) s' with
      | some s'' => if lateOk s'' (ops.take m) (ops.drop m) late then some (.norm s'') else none
      | none => none
    | none => none
  | .seq a b, s => match evC call n0 fuel a s with
    | some (.norm s') => evC call n0 fuel b s'
    | r => r
  | .cond c t e, s => if X.there s c then
      match X.val s c with
      | .s (.c (.bool g)) => bif g then evC call n0 fuel t s else evC call n0 fuel e s
      | _ => none
    else none
  | .block id b, s => match evC call n0 fuel b s with
    | some (.exit i s') => if i = id then some (.norm s') else some (.exit i s')
    | r => r
  | .loop b, s => loopF ((s.t.map (·.1)).eraseDups) n0 (evC call n0 fuel b) fuel s
  | .exit i, s => some (.exit i s)
  | .ret, s => some (.ret s)

def evEnd (rs : List Res) (n0 : Nat) (s : St) : Option (V × List Root) :=
  match resAll s rs with
  | some v =>
    let n := max n0 v.top
    if v.under n && (s.h.take n).all (Root.under n) then some (v, s.h.take n)
    else if v.under s.h.length && s.h.all (Root.under s.h.length) && decide (n0 ≤ s.h.length) then some (v, s.h) else none
  | none => none
def evF (call : Call) (fuel : Nat) (fn : Fn) (args : List V) (h : List Root) : Option (V × List Root) :=
  match evC call h.length fuel fn.body ⟨args0 args 0, h⟩ with
  | some (.norm s) | some (.ret s) => evEnd fn.res h.length s
  | _ => none
/-- calls, as deep as this -/
def run (fn : Nat → Option Fn) (prim : Call) (fuel : Nat) : Nat → Call
  | 0, _, _, _ => none
  | d + 1, f, args, h => match fn f with
    | some g => evF (run fn prim fuel d) fuel g args h
    | none => prim f args h
end Go.Lx

/- The interpreter tells the truth. -/
set_option linter.unusedVariables false
set_option linter.unusedSimpArgs false
namespace Go.Lx

def CallOk (O : Orc) (call : Call) : Prop := ∀ f args h v h', call f args h = some (v, h') → O f args h fun w k => w = v ∧ k = h'

section
variable {O : Orc} {call : Call}

theorem gokB_sound {o : Oper} {s : St} (h : o.gokB s = true) : o.gok s := by
  unfold Oper.gokB at h
  unfold Oper.gok
  cases hg : o.g with
  | none => trivial
  | some p =>
    obtain ⟨n, w⟩ := p
    rw [hg] at h
    simp only at h ⊢
    generalize (s.get n).2 = v at h ⊢
    cases v with
    | s d => cases d with
      | c c => cases c <;> first | trivial | simp [isBoolB] at h
      | _ => simp [isBoolB] at h
    | _ => simp [isBoolB] at h

theorem callF_sound (hO : CallOk O call) (hm : O.Mono) {f args h v h'} (H : callF call f args h = some (v, h')) : callR O f args h fun w k => w = v ∧ k = h' := by
  unfold callF at H
  split at H
  · rename_i us hus
    split at H
    · rename_i d k hk
      have hd := hO _ _ _ _ _ hk
      split at H
      · rename_i hc
        injection H with H
        simp only [Bool.or_eq_true, Bool.and_eq_true] at hc
        refine .inr (.inl ⟨us, hus, hm _ _ _ _ _ ?_ hd⟩)
        rintro w k' ⟨rfl, rfl⟩
        exact ⟨hc, by simpa using congrArg Prod.fst H, by simpa using congrArg Prod.snd H⟩
      · injection H with H
        refine .inr (.inr ⟨us, hus, hm _ _ _ _ _ ?_ hd⟩)
        rintro w k' ⟨rfl, rfl⟩
        exact ⟨by simpa using congrArg Prod.fst H, by simpa using congrArg Prod.snd H⟩
    · cases H
  · exact .inl (hO _ _ _ _ _ H)

theorem callG_sound (hO : CallOk O call) (hm : O.Mono) {f args h v} (H : callG call f args h = some v) : (∃ us d, args.mapM (V.fz h) = some us ∧ (args.all V.isU = true ∨ d.plain = true) ∧ v = d.shift h.length ∧ O f us [] fun w k => w = d ∧ k = []) := by
  unfold callG at H
  split at H
  · rename_i us hus
    split at H
    · rename_i d hk
      split at H
      · rename_i hc
        injection H with H
        simp only [Bool.or_eq_true] at hc
        exact ⟨us, d, hus, hc, H.symm, hO _ _ _ _ _ hk⟩
      · cases H
    · cases H
  · cases H

theorem effF_sound (hO : CallOk O call) (hm : O.Mono) {ρ : X → V} {h : List Root} {op : Op} {v : V} {h' : List Root} (H : effF call ρ h op = some (v, h')) : eff O ρ h (fun w k => w = v ∧ k = h') op := by
  cases op <;> simp only [effF, reduceCtorEq] at H <;> simp only [eff]
  case alloc z => injection H with H; injection H with e1 e2; exact ⟨e1, e2⟩
  case allocx z => injection H with H; injection H with e1 e2; exact ⟨e1, e2⟩
  case box n x =>
    cases hp : (ρ x).pure? with
    | some u =>
      rw [hp] at H
      simp only at H ⊢
      split at H
      · rename_i hc; injection H with H; injection H with e1 e2; exact ⟨hc, e1, e2⟩
      · cases H
    | none =>
      rw [hp] at H
      simp only at H
      cases hc : (ρ x).cells with
      | none => rw [hc] at H; cases H
      | some l =>
        rw [hc] at H
        simp only at H ⊢
        split at H
        · rename_i hc; injection H with H; injection H with e1 e2; exact ⟨hc, e1, e2⟩
        · cases H
  case mkSl z n ps =>
    cases hf : fillL z (List.replicate n z) (ps.map fun (i, x) => (i, ρ x)) with
    | none => rw [hf] at H; cases H
    | some l =>
      rw [hf] at H
      simp only at H ⊢
      split at H
      · rename_i hc; injection H with H; injection H with e1 e2; exact ⟨hc, e1, e2⟩
      · cases H
  case store n a x =>
    cases ha : ρ a with
    | s d =>
      rw [ha] at H
      cases d <;> simp only [reduceCtorEq] at H ⊢
      · rw [Option.map_eq_some_iff] at H
        obtain ⟨r, h1, h2⟩ := H
        injection h2 with e1 e2
        exact ⟨r, h1, e1, e2⟩
      · rw [Option.map_eq_some_iff] at H
        obtain ⟨r, h1, h2⟩ := H
        injection h2 with e1 e2
        exact ⟨r, h1, e1, e2⟩
    | _ => rw [ha] at H; cases H
  case append bytes z s x =>
    cases he : (ρ x).elems h with
    | none => rw [he] at H; cases H
    | some e =>
      rw [he] at H
      simp only at H ⊢
      split at H
      · rename_i hc
        obtain ⟨c1, c2, c3, c4⟩ := hc
        refine ⟨⟨c1, c2, c3, fun u hu => by simpa using List.all_eq_true.1 c4 u hu⟩, ?_⟩
        cases hs : ρ s with
        | s d =>
          rw [hs] at H
          cases d with
          | full l =>
            simp only at H ⊢
            split at H
            · rename_i hc
              obtain ⟨d1, d2, d3⟩ := hc
              injection H with H
              injection H with e1 e2
              refine ⟨⟨d1, fun u hu => by simpa using List.all_eq_true.1 d2 u hu, ?_⟩, e1, e2⟩
              rcases d3 with d3 | d3
              · exact .inl (by simpa using d3)
              · exact .inr (by simpa using d3)
            · cases H
          | ref id g sz0 off n =>
            cases off with
            | succ off => simp at H
            | zero =>
              simp only at H ⊢
              cases hr : h[id]? with
              | none => rw [hr] at H; cases H
              | some r =>
                rw [hr] at H
                cases r <;> simp only [reduceCtorEq] at H ⊢
                split at H
                · rename_i hc; injection H with H; injection H with e1 e2; exact ⟨hc, e1, e2⟩
                · cases H
          | _ => simp at H
        | _ => rw [hs] at H; simp at H
      · cases H
  case copy sz d s =>
    cases he : (ρ s).elems h with
    | none => rw [he] at H; cases H
    | some e =>
      rw [he] at H
      simp only at H
      cases hs : ρ d with
      | s dd =>
        rw [hs] at H
        cases dd with
        | ref id g sz0 off n =>
          simp only at H ⊢
          cases hr : h[id]? with
          | none => rw [hr] at H; cases H
          | some r =>
            rw [hr] at H
            cases r <;> simp only [reduceCtorEq] at H ⊢
            split at H
            · rename_i hc
              obtain ⟨c1, c2, c3, c4⟩ := hc
              injection H with H
              injection H with e1 e2
              exact ⟨⟨c1, c2, c3, fun u hu => by simpa using List.all_eq_true.1 c4 u hu⟩, e1, e2⟩
            · cases H
        | _ => simp at H
      | _ => rw [hs] at H; simp at H
  case mkRow bytes z l c =>
    split at H
    · rename_i n n' e1 e2
      split at H
      · rename_i hc
        obtain ⟨c1, rfl, c3, c4, c5⟩ := hc
        injection H with H
        injection H with f1 f2
        exact ⟨n'.toNat, by rw [e1, Int.toNat_of_nonneg c1], by rw [e2, Int.toNat_of_nonneg c1], c3, c4, c5, f1, f2⟩
      · cases H
    · cases H
  case mkMap r =>
    split at H
    · rename_i hc; injection H with H; injection H with e1 e2; exact ⟨isIntOB_sound hc, e1, e2⟩
    · cases H
  case lookup agg ks z ok m k =>
    cases hs : ρ m with
    | s dd =>
      rw [hs] at H
      cases dd with
      | mp id =>
        simp only at H ⊢
        cases hr : h[id]? with
        | none => rw [hr] at H; cases H
        | some r =>
          rw [hr] at H
          cases r <;> simp only [reduceCtorEq] at H ⊢
          split at H
          · rename_i hc
            injection H with H
            injection H with e1 e2
            exact ⟨⟨isKeyB_sound hc.1, fun p hp => isKeyB_sound (List.all_eq_true.1 hc.2 p hp)⟩, e1, e2⟩
          · cases H
      | _ => simp at H
    | _ => rw [hs] at H; simp at H
  case mapUpd agg ks m k x =>
    cases hs : ρ m with
    | s dd =>
      rw [hs] at H
      cases dd with
      | mp id =>
        simp only at H ⊢
        cases hr : h[id]? with
        | none => rw [hr] at H; cases H
        | some r =>
          rw [hr] at H
          cases r <;> simp only [reduceCtorEq] at H ⊢
          split at H
          · rename_i hc
            obtain ⟨⟨c1, c2⟩, c3, c4⟩ := hc
            injection H with H
            injection H with e1 e2
            exact ⟨⟨⟨isKeyB_sound c1, c2⟩, fun p hp => isKeyB_sound (List.all_eq_true.1 c3 p hp), by simpa using c4⟩, e1, e2⟩
          · cases H
      | _ => simp at H
    | _ => rw [hs] at H; simp at H
  case call f args => exact callF_sound hO hm H
  case callv x args =>
    split at H
    · rename_i f a b hx
      rw [hx]
      exact callF_sound hO hm H
    · cases H

theorem gcall_eff (hO : CallOk O call) (hm : O.Mono) {ρ : X → V} {h : List Root} {op : Op} {v : V} (H : gcallF call ρ h op = some v) : eff O ρ h (fun w k => w = v ∧ k = h) op := by
  have key : ∀ {f args}, callG call f args h = some v → callR O f args h fun w k => w = v ∧ k = h := by
    intro f args H
    obtain ⟨us, d, h1, h2, rfl, h4⟩ := callG_sound hO hm H
    refine .inr (.inl ⟨us, h1, hm _ _ _ _ _ ?_ h4⟩)
    rintro w k ⟨rfl, rfl⟩
    exact ⟨h2.imp (fun h => h) (fun h => ⟨h, rfl⟩), rfl, by simp⟩
  cases op <;> simp only [gcallF, reduceCtorEq] at H
  case call f args => exact key H
  case callv x args =>
    simp only [eff]
    split at H
    · rename_i f a b hx
      rw [hx]
      exact key H
    · cases H

theorem underF_sound {gb vc : Bool} {v : Option V} {w : V} (H : underF gb v vc = some w) : gb = true → v = some w ∧ vc = true := by
  intro hg
  unfold underF at H
  subst hg
  cases v with
  | none => simp at H
  | some v =>
    simp only [Bool.not_true, Bool.false_or] at H
    split at H
    · rename_i hc; exact ⟨H, hc⟩
    · cases H

theorem opF_sound (hO : CallOk O call) (hm : O.Mono) {o : Oper} {s s' : St} (H : opF call o s = some s') : wpOp O o s fun t => t = s' := by
  unfold opF at H
  split at H
  case isFalse => cases H
  rename_i hg
  refine ⟨gokB_sound hg, ?_⟩
  split at H
  · rename_i hp
    rw [if_pos hp]
    rw [Option.map_eq_some_iff] at H
    obtain ⟨v, h1, h2⟩ := H
    refine ⟨v, fun hb => ?_, h2⟩
    obtain ⟨k1, k2⟩ := underF_sound h1 hb
    simp only [Bool.and_eq_true] at k2
    exact ⟨k1, k2.1, pvcB_sound k2.2⟩
  · rename_i hp
    rw [if_neg hp]
    split at H
    · rename_i hb
      split at H
      · rename_i ht
        rw [Option.map_eq_some_iff] at H
        obtain ⟨p, h1, h2⟩ := H
        refine ⟨fun _ => ⟨ht, eff_mono (fun _ _ _ _ h => h) hm ?_ (effF_sound hO hm (v := p.1) (h' := p.2) h1)⟩, fun h => by rw [hb] at h; cases h⟩
        rintro w k ⟨rfl, rfl⟩
        exact h2
      · cases H
    · rename_i hb
      injection H with H
      exact ⟨fun h => absurd h hb, fun _ => ⟨_, H⟩⟩

theorem opsF_sound (hO : CallOk O call) (hm : O.Mono) : ∀ {l : List Oper} {s s' : St}, opsF call l s = some s' → wpOps O l s fun t => t = s'
  | [], s, s', H => by simp only [opsF, Option.some.injEq] at H; exact H
  | o :: l, s, s', H => by
    simp only [opsF] at H
    split at H
    · rename_i s1 h1
      exact wpOp_mono (fun _ _ _ _ h => h) hm (fun t ht => by subst ht; exact opsF_sound hO hm H) (opF_sound hO hm h1)
    · cases H

theorem opA_sound (hO : CallOk O call) (hm : O.Mono) {h0 : List Root} {o : Oper} {s s' : St} (H : opA call h0 o s = some s') : wpOpA O h0 o s fun t => t = s' := by
  unfold opA at H
  split at H
  case isFalse => cases H
  rename_i hg
  refine ⟨gokB_sound hg, ?_⟩
  split at H
  · rename_i hp
    rw [if_pos hp]
    rw [Option.map_eq_some_iff] at H
    obtain ⟨v, h1, h2⟩ := H
    refine ⟨v, fun hb => ?_, h2⟩
    obtain ⟨k1, k2⟩ := underF_sound h1 hb
    simp only [Bool.and_eq_true] at k2
    exact ⟨k1, k2.1, pvcB_sound k2.2⟩
  · rename_i hp
    rw [if_neg hp]
    split at H
    · rename_i hc
      rw [if_pos hc]
      rw [Option.map_eq_some_iff] at H
      obtain ⟨v, h1, h2⟩ := H
      refine ⟨v, fun hb => ?_, h2⟩
      obtain ⟨k1, k2⟩ := underF_sound h1 hb
      refine ⟨k2, ?_⟩
      have key : ∀ {f args}, callG call f args h0 = some v → callA O f args h0 v := by
        intro f args H
        obtain ⟨us, d, g1, g2, rfl, g4⟩ := callG_sound hO hm H
        refine ⟨us, g1, hm _ _ _ _ _ ?_ g4⟩
        rintro w k ⟨rfl, rfl⟩
        exact ⟨g2, rfl, rfl⟩
      obtain ⟨dst, op, g⟩ := o
      cases op <;> simp only [gcallF, reduceCtorEq] at k1
      case call f args => exact key k1
      case callv x args =>
        simp only [effA]
        split at k1
        · rename_i f a b hx
          rw [hx]
          exact key k1
        · cases k1
    · rename_i hc
      rw [if_neg hc]
      split at H
      · rename_i hm'
        simp only [Bool.and_eq_true, Option.isNone_iff_eq_none] at hm'
        obtain ⟨⟨m1, m2⟩, m3⟩ := hm'
        rw [Option.map_eq_some_iff] at H
        obtain ⟨p, h1, h2⟩ := H
        have heff := effF_sound hO hm (v := p.1) (h' := p.2) h1
        obtain ⟨dst, op, g⟩ := o
        simp only at m1 m2 m3 heff h2 ⊢
        cases op <;> simp only [isMakeB, Bool.false_eq_true] at m1
        case alloc z => obtain ⟨e1, e2⟩ := heff; exact ⟨m2, by rw [← h2, ← e1, ← e2]⟩
        case allocx z => obtain ⟨e1, e2⟩ := heff; exact ⟨m2, by rw [← h2, ← e1, ← e2]⟩
        case box n x =>
          refine ⟨m2, by simpa [Op.xs] using m3, ?_⟩
          simp only [eff] at heff
          revert heff
          generalize (X.val s x).pure? = q
          generalize (X.val s x).cells = q'
          intro heff
          cases q with
          | some u => exact ⟨heff.1, by rw [← h2, ← heff.2.1, ← heff.2.2]⟩
          | none => cases q' with
            | some u => exact ⟨heff.1, by rw [← h2, ← heff.2.1, ← heff.2.2]⟩
            | none => exact heff.elim
        case mkSl z n ps =>
          refine ⟨m2, m3, ?_⟩
          simp only [eff] at heff
          revert heff
          generalize fillL z (List.replicate n z) (ps.map fun p => (p.1, X.val s p.2)) = q
          intro heff
          cases q with
          | some u => exact ⟨heff.1, by rw [← h2, ← heff.2.1, ← heff.2.2]⟩
          | none => exact heff.elim
      · cases H

theorem opsAF_sound (hO : CallOk O call) (hm : O.Mono) {h0 : List Root} : ∀ {l : List Oper} {s s' : St}, opsAF call h0 l s = some s' → wpOpsA O h0 l s fun t => t = s'
  | [], s, s', H => by simp only [opsAF, Option.some.injEq] at H; exact H
  | o :: l, s, s', H => by
    simp only [opsAF] at H
    split at H
    · rename_i s1 h1
      exact wpOpA_mono (fun _ _ _ _ h => h) hm (fun t ht => by subst ht; exact opsAF_sound hO hm H) (opA_sound hO hm h1)
    · cases H

theorem lookup_filterMap {s : St} : ∀ {keys : List Nat} {n : Nat} {x : Bool × V}, (keys.filterMap fun k => (s.t.lookup k).map fun p => (k, p)).lookup n = some x → s.t.lookup n = some x
  | [], n, x, h => by simp at h
  | k :: keys, n, x, h => by
    rw [List.filterMap_cons] at h
    cases hk : s.t.lookup k with
    | none => rw [hk] at h; exact lookup_filterMap (keys := keys) h
    | some p =>
      rw [hk] at h
      simp only [Option.map_some, List.lookup_cons] at h
      by_cases e : n = k
      · subst e
        simp only [beq_self_eq_true, Option.some.injEq] at h
        rw [hk, h]
      · have : (n == k) = false := by simpa using e
        simp only [this] at h
        exact lookup_filterMap (keys := keys) h

theorem trim_le (keys : List Nat) (n0 : Nat) (s : St) : s.le (s.trim keys n0) := by
  unfold St.trim
  dsimp only
  split
  · exact ⟨fun n x h => lookup_filterMap h, List.take_prefix _ _⟩
  · exact ⟨fun n x h => lookup_filterMap h, List.prefix_refl _⟩

theorem loopF_sound {n0 : Nat} {keys : List Nat} {b : Code} {f : St → Option Out} (hm : O.Mono) (hf : ∀ s o, f s = some o → wpC O n0 b s fun t => t = o) {n : Nat} {s : St} {o : Out} (H : loopF keys n0 f n s = some o) : wpC O n0 (.loop b) s fun t => t = o := by
  have hn : ∃ m, n = m + 1 := by
    cases n with
    | zero => simp [loopF] at H
    | succ m => exact ⟨m, rfl⟩
  obtain ⟨m, rfl⟩ := hn
  refine ⟨fun k t => f t = some o ∧ (∀ s', o ≠ .norm s') ∨ ∃ s' , f t = some (.norm s') ∧ loopF keys n0 f k s' = some o, ⟨m, s.trim keys n0, ?_⟩, ?_⟩
  · simp only [loopF] at H
    split at H
    · rename_i hc
      simp only [Bool.and_eq_true, decide_eq_true_eq] at hc
      refine ⟨.inl ⟨trim_le _ _ _, hc.1, hc.2⟩, ?_⟩
      split at H
      · rename_i s' h1
        exact .inr ⟨s', h1, H⟩
      · rename_i h1
        exact .inl ⟨H, fun s' e => h1 s' (by rw [H, e])⟩
    · cases H
  · intro k t hI
    rcases hI with ⟨h1, h2⟩ | ⟨s', h1, h2⟩
    · refine wpC_mono (fun _ _ _ _ h => h) hm b (fun o' ho => ?_) (hf t o h1)
      subst ho
      cases o' with
      | norm s' => exact absurd rfl (h2 s')
      | ret s' => rfl
      | exit i s' => rfl
    · refine wpC_mono (fun _ _ _ _ h => h) hm b (fun o' ho => ?_) (hf t _ h1)
      subst ho
      have hk : ∃ j, k = j + 1 := by
        cases k with
        | zero => simp [loopF] at h2
        | succ j => exact ⟨j, rfl⟩
      obtain ⟨j, rfl⟩ := hk
      simp only [loopF] at h2
      split at h2
      · rename_i hc
        simp only [Bool.and_eq_true, decide_eq_true_eq] at hc
        refine ⟨j, s'.trim keys n0, Nat.lt_succ_self _, .inl ⟨trim_le _ _ _, hc.1, hc.2⟩, ?_⟩
        split at h2
        · rename_i s'' h3
          exact .inr ⟨s'', h3, h2⟩
        · rename_i h3
          exact .inl ⟨h2, fun s'' e => h3 s'' (by rw [h2, e])⟩
      · cases h2

theorem evC_sound (hO : CallOk O call) (hm : O.Mono) {n0 fuel : Nat} (c : Code) : ∀ {s : St} {o : Out}, evC call n0 fuel c s = some o → wpC O n0 c s fun t => t = o := by
  induction c with
  | skip => intro s o H; simp only [evC, Option.some.injEq] at H; exact H
  | exit i => intro s o H; simp only [evC, Option.some.injEq] at H; exact H
  | ret => intro s o H; simp only [evC, Option.some.injEq] at H; exact H
  | region ops draw =>
    intro s o H
    cases draw with
    | none =>
      simp only [evC, Option.map_eq_some_iff] at H
      obtain ⟨s', h1, rfl⟩ := H
      exact wpOps_mono (fun _ _ _ _ h => h) hm (fun t ht => by rw [ht]) (opsF_sound hO hm h1)
    | some p =>
      obtain ⟨m, late⟩ := p
      simp only [evC] at H
      split at H
      · rename_i s1 h1
        split at H
        · rename_i s2 h2
          split at H
          · rename_i hl
            injection H with H
            refine wpOpsA_mono (fun _ _ _ _ h => h) hm (fun t ht => ?_) (opsAF_sound hO hm h1)
            subst ht
            refine wpOps_mono (fun _ _ _ _ h => h) hm (fun t ht => ?_) (opsF_sound hO hm h2)
            subst ht
            exact ⟨hl, H⟩
          · cases H
        · cases H
      · cases H
  | seq a b iha ihb =>
    intro s o H
    simp only [evC] at H
    split at H
    · rename_i s' h1
      refine wpC_mono (fun _ _ _ _ h => h) hm a (fun t ht => ?_) (iha h1)
      subst ht
      exact ihb H
    · rename_i h1
      refine wpC_mono (fun _ _ _ _ h => h) hm a (fun t ht => ?_) (iha H)
      subst ht
      cases t with
      | norm s' => exact absurd H (h1 s')
      | ret s' => rfl
      | exit i s' => rfl
  | cond c t e iht ihe =>
    intro s o H
    simp only [evC] at H
    split at H
    · rename_i hc
      split at H
      · rename_i g hg
        refine ⟨g, hc, hg, fun e1 => ?_, fun e1 => ?_⟩
        · subst e1; exact iht H
        · subst e1; exact ihe H
      · cases H
    · cases H
  | block id b ih =>
    intro s o H
    simp only [evC] at H
    split at H
    · rename_i i s' h1
      refine wpC_mono (fun _ _ _ _ h => h) hm b (fun t ht => ?_) (ih h1)
      subst ht
      dsimp only
      split at H
      · rename_i hi; rw [if_pos hi]; injection H
      · rename_i hi; rw [if_neg hi]; injection H
    · rename_i h1
      refine wpC_mono (fun _ _ _ _ h => h) hm b (fun t ht => ?_) (ih H)
      subst ht
      cases t with
      | norm s' => rfl
      | ret s' => rfl
      | exit i s' => exact absurd H (h1 i s')
  | loop b ih =>
    intro s o H
    simp only [evC] at H
    exact loopF_sound hm (fun s o h => ih h) H

theorem evEnd_sound {rs : List Res} {n0 : Nat} {s : St} {v : V} {h' : List Root} (H : evEnd rs n0 s = some (v, h')) :
    ∃ w n, resAll s rs = some w ∧ w.under n = true ∧ (s.h.take n).all (Root.under n) = true ∧ n0 ≤ n ∧ (w = v ∧ s.h.take n = h') := by
  unfold evEnd at H
  split at H
  · rename_i w hw
    dsimp only at H
    split at H
    · rename_i hc
      simp only [Bool.and_eq_true] at hc
      injection H with H
      injection H with e1 e2
      exact ⟨w, _, hw, hc.1, hc.2, Nat.le_max_left _ _, e1, e2⟩
    · split at H
      · rename_i hc
        simp only [Bool.and_eq_true, decide_eq_true_eq] at hc
        injection H with H
        injection H with e1 e2
        exact ⟨w, s.h.length, hw, hc.1.1, by rw [List.take_length]; exact hc.1.2, hc.2, e1, by rw [List.take_length]; exact e2⟩
      · cases H
  · cases H

theorem evF_sound (hO : CallOk O call) (hm : O.Mono) {fuel : Nat} {fn : Fn} {args : List V} {h : List Root} {v : V} {h' : List Root} (H : evF call fuel fn args h = some (v, h')) : wpF O fn args h fun w k => w = v ∧ k = h' := by
  unfold evF at H
  split at H
  · rename_i s h1
    refine wpC_mono (fun _ _ _ _ h => h) hm _ (fun t ht => ?_) (evC_sound hO hm _ h1)
    subst ht
    exact Or.inl (evEnd_sound H)
  · rename_i s h1
    refine wpC_mono (fun _ _ _ _ h => h) hm _ (fun t ht => ?_) (evC_sound hO hm _ h1)
    subst ht
    exact Or.inl (evEnd_sound H)
  · cases H
end

/-- What the interpreter answers is told of a call. -/
theorem run_sound {E : Env} {prim : Call} (hp : ∀ f args h v h', prim f args h = some (v, h') → Does E f args h fun w k => w = v ∧ k = h') {fuel : Nat} : ∀ d, CallOk (Does E) (run E.fn prim fuel d)
  | 0 => fun f args h v h' H => by simp [run] at H
  | d + 1 => fun f args h v h' H => by
    simp only [run] at H
    split at H
    · rename_i g hg
      exact Does.mk hg (evF_sound (run_sound hp d) Does.mono H)
    · exact hp _ _ _ _ _ H
end Go.Lx
