import Derived.Test.YtkmbllgoepcojaaDoorLx01
/- Predicate transformers of code; calls as the least fixed point; monotonicity. -/
set_option linter.unusedVariables false
namespace Go.Lx

mutual
def DC.under (n : Nat) : DC → Bool
  | .c _ | .full _ | .iptr _ _ | .raw _ => true
  | .ifc _ d => d.under n
  | .ref id _ _ _ _ => decide (id < n)
  | .ptr id _ => decide (id < n)
  | .eptr id _ _ _ => decide (id < n)
  | .mp id => decide (id < n)
  | .clo _ a b => DC.unders n a && DC.unders n b
def DC.unders (n : Nat) : List DC → Bool
  | [] => true
  | d :: l => d.under n && DC.unders n l
end
@[simp] theorem DC.unders_eq {n : Nat} : ∀ {l : List DC}, DC.unders n l = l.all (DC.under n)
  | [] => rfl
  | v :: l => by simp only [DC.unders, List.all_cons, DC.unders_eq]
mutual
def V.under (n : Nat) : V → Bool
  | .s d => d.under n
  | .m l => l.all (DC.under n)
  | .tup l => V.unders n l
  | .a _ | .bot => true
def V.unders (n : Nat) : List V → Bool
  | [] => true
  | d :: l => d.under n && V.unders n l
end
@[simp] theorem V.unders_eq {n : Nat} : ∀ {l : List V}, V.unders n l = l.all (V.under n)
  | [] => rfl
  | v :: l => by simp only [V.unders, List.all_cons, V.unders_eq]
def Root.under (n : Nat) : Root → Bool
  | .boxd l => l.all (DC.under n)
  | _ => true

/-! ids that fulfil p; ids renamed -/
mutual
def DC.inn (p : Nat → Bool) : DC → Bool
  | .c _ | .full _ | .iptr _ _ | .raw _ => true
  | .ifc _ d => d.inn p
  | .ref id _ _ _ _ => p id
  | .ptr id _ => p id
  | .eptr id _ _ _ => p id
  | .mp id => p id
  | .clo _ a b => DC.inns p a && DC.inns p b
def DC.inns (p : Nat → Bool) : List DC → Bool
  | [] => true
  | d :: l => d.inn p && DC.inns p l
end
@[simp] theorem DC.inns_eq {p : Nat → Bool} : ∀ {l : List DC}, DC.inns p l = l.all (DC.inn p)
  | [] => rfl
  | v :: l => by simp only [DC.inns, List.all_cons, DC.inns_eq]
mutual
def V.inn (p : Nat → Bool) : V → Bool
  | .s d => d.inn p
  | .m l => l.all (DC.inn p)
  | .tup l => V.inns p l
  | .a _ | .bot => true
def V.inns (p : Nat → Bool) : List V → Bool
  | [] => true
  | d :: l => d.inn p && V.inns p l
end
@[simp] theorem V.inns_eq {p : Nat → Bool} : ∀ {l : List V}, V.inns p l = l.all (V.inn p)
  | [] => rfl
  | v :: l => by simp only [V.inns, List.all_cons, V.inns_eq]
def Root.inn (p : Nat → Bool) : Root → Bool
  | .boxd l => l.all (DC.inn p)
  | _ => true
mutual
def DC.ren (f : Nat → Nat) : DC → DC
  | .c x => .c x
  | .full l => .full l
  | .iptr u o => .iptr u o
  | .raw v => .raw v
  | .ifc t d => .ifc t (d.ren f)
  | .ref id g sz off k => .ref (f id) g sz off k
  | .ptr id off => .ptr (f id) off
  | .eptr id g i off => .eptr (f id) g i off
  | .clo k a b => .clo k (DC.rens f a) (DC.rens f b)
  | .mp id => .mp (f id)
def DC.rens (f : Nat → Nat) : List DC → List DC
  | [] => []
  | d :: l => d.ren f :: DC.rens f l
end
@[simp] theorem DC.rens_eq {f : Nat → Nat} : ∀ {l : List DC}, DC.rens f l = l.map (DC.ren f)
  | [] => rfl
  | v :: l => by simp only [DC.rens, List.map_cons, DC.rens_eq]
mutual
def V.ren (f : Nat → Nat) : V → V
  | .s d => .s (d.ren f)
  | .a u => .a u
  | .m l => .m (l.map (DC.ren f))
  | .tup l => .tup (V.rens f l)
  | .bot => .bot
def V.rens (f : Nat → Nat) : List V → List V
  | [] => []
  | v :: l => v.ren f :: V.rens f l
end
@[simp] theorem V.rens_eq {f : Nat → Nat} : ∀ {l : List V}, V.rens f l = l.map (V.ren f)
  | [] => rfl
  | v :: l => by simp only [V.rens, List.map_cons, V.rens_eq]
def Root.ren (f : Nat → Nat) : Root → Root
  | .boxd l => .boxd (l.map (DC.ren f))
  | r => r

/-- The state with these temporaries alone, and these blocks, in this order. -/
def St.gc (keep sel : List Nat) (s : St) : St := ⟨keep.map fun n => (n, ((s.get n).1, (s.get n).2.ren fun i => sel.idxOf i)), sel.map fun i => ((s.h[i]?).getD .dead).ren fun i => sel.idxOf i⟩
def St.has (s : St) (n : Nat) : Bool := (s.t.lookup n).isSome
def gcOk (n0 : Nat) (keep sel : List Nat) (s : St) : Bool :=
  sel.all (fun i => decide (i < s.h.length)) && decide sel.Nodup && (sel.take n0 == List.range n0) && keep.all (fun n => s.has n && (s.get n).2.inn sel.contains) && sel.all fun i => ((s.h[i]?).getD .dead).inn sel.contains
/-- A slice that is nil, looked at as an own row without elements. -/
def St.view (t sz : Nat) (s : St) : St := ⟨(t, (true, .s (.ref s.h.length 0 sz 0 0))) :: s.t, s.h ++ [.row 0 sz []]⟩
/-- The same memory, looked at with other names. -/
inductive St.Gc (n0 : Nat) : St → St → Prop where
  | gc (keep sel : List Nat) (s : St) (h : gcOk n0 keep sel s = true) : St.Gc n0 s (s.gc keep sel)
  | view (t sz : Nat) (s s' : St) (h : s.get t = (true, .s (.full []))) (hz : 0 < sz) (h' : St.Gc n0 (s.view t sz) s') : St.Gc n0 s s'

/-- A call over data alone, that makes no block. -/
def callA (O : Orc) (f : Nat) (args : List V) (h : List Root) (v : V) : Prop :=
  ∃ us, args.mapM (V.fz h) = some us ∧ O f us [] fun d h' => (args.all V.isU = true ∨ d.plain = true) ∧ d.shift h.length = v ∧ h' = []
def effA (O : Orc) (ρ : X → V) (h : List Root) (v : V) : Op → Prop
  | .call f args => callA O f (args.map ρ) h v
  | .callv x args => match ρ x with
    | .s (.clo f a b) => callA O f (a.map .s ++ args.map ρ ++ b.map .s) h v
    | _ => False
  | _ => False

/-! loads behind stores of a region without an order -/
def Op.loadX : Op → Option X
  | .load _ _ x => some x
  | _ => none
def Op.storeX : Op → Option X
  | .store _ a _ => some a
  | _ => none
def V.box : V → Option Nat
  | .s (.ptr id _) | .s (.eptr id _ _ _) => some id
  | _ => none
/-- what is loaded isn't what is stored to -/
def apartB (a b : V) : Bool := match b.box with
  | some j => match a.box with
    | some i => i != j
    | none => true
  | none => false
def lateOk (s : St) (first second : List Oper) (late : List Nat) : Bool := late.all fun i => match (first[i]?).bind (·.op.loadX) with
  | some x => second.all fun q => match q.op.storeX with
    | some a => apartB (X.val s x) (X.val s a)
    | none => q.op.isPure
  | none => false

/-- Which heap may be read by an operation of a region without an order: the one at its begin (h0). Operations that make blocks lay them behind. -/
def wpOpA (O : Orc) (h0 : List Root) (o : Oper) (s : St) (K : St → Prop) : Prop :=
  o.gok s ∧
  if o.op.isPure then
    ∃ v, (o.gb s = true → pv (X.val s) h0 o.op = some v ∧ o.op.xs.all (X.there s) = true ∧ pvc (X.there s) (X.val s) h0 o.op) ∧ K (s.put o.dst (o.gb s) v)
  else if o.op.isCall then
    ∃ v, (o.gb s = true → (o.op.xs.all (X.there s) = true ∧ effA O (X.val s) h0 v o.op)) ∧ K (s.put o.dst (o.gb s) v)
  else match o.op with
    | .alloc z => o.g = none ∧ K ((⟨s.t, s.h ++ [.boxu z]⟩ : St).put o.dst true (.s (.ptr s.h.length 0)))
    | .allocx z => o.g = none ∧ K ((⟨s.t, s.h ++ [.boxd z]⟩ : St).put o.dst true (.s (.ptr s.h.length 0)))
    | .box n x => o.g = none ∧ X.there s x = true ∧ match (X.val s x).pure?, (X.val s x).cells with
      | some u, _ => u.length = n ∧ K ((⟨s.t, s.h ++ [.boxu u]⟩ : St).put o.dst true (.s (.ptr s.h.length 0)))
      | none, some l => l.length = n ∧ K ((⟨s.t, s.h ++ [.boxd l]⟩ : St).put o.dst true (.s (.ptr s.h.length 0)))
      | _, _ => False
    | .mkSl z len ps => o.g = none ∧ o.op.xs.all (X.there s) = true ∧ match fillL z (List.replicate len z) (ps.map fun (i, x) => (i, X.val s x)) with
      | some l => 0 < z.length ∧ K ((⟨s.t, s.h ++ [.row 0 z.length l]⟩ : St).put o.dst true (.s (.ref s.h.length 0 z.length 0 len)))
      | none => False
    | _ => False
def wpOpsA (O : Orc) (h0 : List Root) : List Oper → St → (St → Prop) → Prop
  | [], s, K => K s
  | o :: l, s, K => wpOpA O h0 o s fun s' => wpOpsA O h0 l s' K

inductive Out where
  | norm (s : St)
  | ret (s : St)
  | exit (id : Nat) (s : St)

/-- A state that says less. -/
def St.le (s s' : St) : Prop :=
  (∀ n x, s'.t.lookup n = some x → s.t.lookup n = some x) ∧ s'.h <+: s.h

/-- all that is named is there -/
def St.closed (s : St) : Bool := s.t.all (fun p => p.2.2.under s.h.length) && s.h.all (Root.under s.h.length)

/-- a state that can be taken for another one -/
def St.Lw (n0 : Nat) (s s0 : St) : Prop := (s.le s0 ∧ s0.closed = true ∧ n0 ≤ s0.h.length) ∨ s.Gc n0 s0

def wpC (O : Orc) (n0 : Nat) : Code → St → (Out → Prop) → Prop
  | .skip, s, Q => Q (.norm s)
  | .region ops draw, s, Q => match draw with
    | none => wpOps O ops s fun s' => Q (.norm s')
    | some (m, late) => wpOpsA O s.h (ops.take m) s fun s' => wpOps O (ops.drop m) s' fun s'' => lateOk s'' (ops.take m) (ops.drop m) late = true ∧ Q (.norm s'')
  | .seq a b, s, Q => wpC O n0 a s fun
    | .norm s' => wpC O n0 b s' Q
    | o => Q o
  | .cond c t e, s, Q => ∃ g, X.there s c = true ∧ X.val s c = .s (.c (.bool g)) ∧ (g = true → wpC O n0 t s Q) ∧ (g = false → wpC O n0 e s Q)
  | .block id b, s, Q => wpC O n0 b s fun
    | .exit i s' => if i = id then Q (.norm s') else Q (.exit i s')
    | o => Q o
  | .loop b, s, Q => ∃ I : Nat → St → Prop, (∃ n s0, s.Lw n0 s0 ∧ I n s0) ∧ ∀ n s, I n s → wpC O n0 b s fun
    | .norm s' => ∃ m s0, m < n ∧ s'.Lw n0 s0 ∧ I m s0
    | o => Q o
  | .exit i, s, Q => Q (.exit i s)
  | .ret, s, Q => Q (.ret s)

def resOf (s : St) : Res → Option V
  | .tmp t => match s.get t with
    | (true, v) => some v
    | _ => none
  | .cell t n agg => match s.get t with
    | (true, .s (.ptr id off)) => ldR n agg s.h[id]? off
    | _ => none
def resAll (s : St) (l : List Res) : Option V :=
  match l with
  | [r] => resOf s r
  | l => (l.mapM (resOf s)).map .tup

def args0 (l : List V) (i : Nat) : List (Nat × (Bool × V)) :=
  match l with
  | [] => []
  | v :: r => (i, (true, v)) :: args0 r (i + 1)

/-- The end of a function: blocks behind the n-th are given up, if nothing names them; or all is looked at with other names. -/
def endF (rs : List Res) (n0 : Nat) (R : V → List Root → Prop) (s : St) : Prop :=
  (∃ v n, resAll s rs = some v ∧ v.under n = true ∧ (s.h.take n).all (Root.under n) = true ∧ n0 ≤ n ∧ R v (s.h.take n)) ∨ (∃ v s0, s.Gc n0 s0 ∧ resAll s0 rs = some v ∧ R v s0.h)
/-- What a function's body makes of a call. -/
def wpF (O : Orc) (fn : Fn) (args : List V) (h : List Root) (R : V → List Root → Prop) : Prop :=
  wpC O h.length fn.body ⟨args0 args 0, h⟩ fun
    | .norm s | .ret s => endF fn.res h.length R s
    | .exit _ _ => False

def Orc.Mono (O : Orc) : Prop := ∀ f args h (R R' : V → List Root → Prop), (∀ v h', R v h' → R' v h') → O f args h R → O f args h R'
/-- what is known of calls, compared -/
def Orc.Le (O O' : Orc) : Prop := ∀ f args h R, O f args h R → O' f args h R
structure Env where
  fn : Nat → Option Fn
  /-- what is known of functions that are not told in this language, out of what is known of others -/
  prim : Orc → Orc
  pmono : ∀ O O' : Orc, O.Le O' → O'.Mono → (prim O).Le (prim O')

/-- closed under the functions' bodies -/
structure Closed (E : Env) (O : Orc) : Prop where
  body : ∀ f fn args h R, E.fn f = some fn → wpF O fn args h R → O f args h R
  mono : O.Mono
  prim : ∀ f args h R, E.prim O f args h R → O f args h R

/-- The least that is closed under the functions' bodies. -/
def Does (E : Env) : Orc := fun f args h R => ∀ O : Orc, Closed E O → O f args h R

/-! ### monotonicity -/
theorem callR_mono {O O' : Orc} (hO : O.Le O') (hm : O'.Mono) {f args h} {K K' : V → List Root → Prop} (hK : ∀ v h', K v h' → K' v h') (H : callR O f args h K) : callR O' f args h K' := by
  rcases H with H | ⟨us, e, H⟩ | ⟨us, e, H⟩
  · exact .inl (hm _ _ _ _ _ hK (hO _ _ _ _ H))
  · exact .inr (.inl ⟨us, e, hm _ _ _ _ _ (fun v h' h => ⟨h.1, hK _ _ h.2⟩) (hO _ _ _ _ H)⟩)
  · exact .inr (.inr ⟨us, e, hm _ _ _ _ _ (fun v h' h => hK _ _ h) (hO _ _ _ _ H)⟩)

theorem eff_mono {O O' : Orc} (hO : O.Le O') (hm : O'.Mono) {ρ h op} {K K' : V → List Root → Prop} (hK : ∀ v h', K v h' → K' v h') (H : eff O ρ h K op) : eff O' ρ h K' op := by
  cases op <;> simp only [eff] at H ⊢ <;> try exact H
  case alloc => exact hK _ _ H
  case allocx => exact hK _ _ H
  case box n x =>
    split <;> simp_all
  case mkSl =>
    split <;> simp_all
  case store =>
    split <;> simp_all
    · obtain ⟨r, h1, h2⟩ := H
      exact ⟨r, h1, hK _ _ h2⟩
    · obtain ⟨r, h1, h2⟩ := H
      exact ⟨r, h1, hK _ _ h2⟩
  case append bytes z s x =>
    generalize (ρ x).elems h = q at H ⊢
    cases q with
    | none => exact H
    | some e =>
      obtain ⟨H0, H⟩ := H
      refine ⟨H0, ?_⟩
      clear H0 hO hm
      generalize ρ s = v at H ⊢
      split
      · exact ⟨H.1, hK _ _ H.2⟩
      · rename_i id g _ n
        cases hr : h[id]? with
        | none => simp [hr] at H
        | some r => cases r <;> simp [hr] at H ⊢; exact ⟨H.1, hK _ _ H.2⟩
      · simp_all
  case copy sz d s =>
    generalize (ρ s).elems h = q at H ⊢
    generalize ρ d = v at H ⊢
    split
    · rename_i e id g _ off n
      cases hr : h[id]? with
      | none => simp [hr] at H
      | some r => cases r <;> simp [hr] at H ⊢; exact ⟨H.1, hK _ _ H.2⟩
    · simp_all
  case mkRow =>
    obtain ⟨n, h1, h2, h3, h4, h5, h6⟩ := H
    exact ⟨n, h1, h2, h3, h4, h5, hK _ _ h6⟩
  case mkMap => exact ⟨H.1, hK _ _ H.2⟩
  case lookup agg ks z ok m k =>
    generalize ρ m = v at H ⊢
    split
    · rename_i id
      cases hr : h[id]? with
      | none => simp [hr] at H
      | some r => cases r <;> simp [hr] at H ⊢; exact ⟨H.1, hK _ _ H.2⟩
    · simp_all
  case mapUpd agg ks m k x =>
    generalize ρ m = v at H ⊢
    split
    · rename_i id
      cases hr : h[id]? with
      | none => simp [hr] at H
      | some r => cases r <;> simp [hr] at H ⊢; exact ⟨H.1, hK _ _ H.2⟩
    · simp_all
  case call => exact callR_mono hO hm hK H
  case callv =>
    split <;> simp_all
    exact callR_mono hO hm (by simpa using hK) H

theorem wpOp_mono {O O' : Orc} (hO : O.Le O') (hm : O'.Mono) {o s} {K K' : St → Prop} (hK : ∀ s, K s → K' s) (H : wpOp O o s K) : wpOp O' o s K' := by
  obtain ⟨hg, H⟩ := H
  refine ⟨hg, ?_⟩
  split at H
  · rename_i hp
    rw [if_pos hp]
    obtain ⟨v, h1, h2⟩ := H
    exact ⟨v, h1, hK _ h2⟩
  · rename_i hp
    rw [if_neg hp]
    exact ⟨fun hb => ⟨(H.1 hb).1, eff_mono hO hm (fun _ _ h => hK _ h) (H.1 hb).2⟩, fun hb => (H.2 hb).imp fun v h => hK _ h⟩

theorem wpOps_mono {O O' : Orc} (hO : O.Le O') (hm : O'.Mono) : ∀ {l s} {K K' : St → Prop} (hK : ∀ s, K s → K' s) (H : wpOps O l s K), wpOps O' l s K'
  | [], s, K, K', hK, H => hK _ H
  | o :: l, s, K, K', hK, H => wpOp_mono hO hm (fun s h => wpOps_mono hO hm hK h) H

theorem callA_mono {O O' : Orc} (hO : O.Le O') (hm : O'.Mono) {f args h v} (H : callA O f args h v) : callA O' f args h v := by
  obtain ⟨us, h1, h2⟩ := H
  exact ⟨us, h1, hO _ _ _ _ h2⟩
theorem effA_mono {O O' : Orc} (hO : O.Le O') (hm : O'.Mono) {ρ h v op} (H : effA O ρ h v op) : effA O' ρ h v op := by
  cases op <;> simp only [effA] at H ⊢
  case call => exact callA_mono hO hm H
  case callv =>
    split at H
    · exact callA_mono hO hm H
    · exact H.elim

theorem wpOpA_mono {O O' : Orc} (hO : O.Le O') (hm : O'.Mono) {h0 o s} {K K' : St → Prop} (hK : ∀ s, K s → K' s) (H : wpOpA O h0 o s K) : wpOpA O' h0 o s K' := by
  obtain ⟨hg, H⟩ := H
  refine ⟨hg, ?_⟩
  split at H
  · rename_i hp
    rw [if_pos hp]
    obtain ⟨v, h1, h2⟩ := H
    exact ⟨v, h1, hK _ h2⟩
  · rename_i hp
    rw [if_neg hp]
    split at H
    · rename_i hc
      rw [if_pos hc]
      obtain ⟨v, h1, h2⟩ := H
      exact ⟨v, fun hb => ⟨(h1 hb).1, effA_mono hO hm (h1 hb).2⟩, hK _ h2⟩
    · rename_i hc
      rw [if_neg hc]
      obtain ⟨dst, op, g⟩ := o
      cases op <;> simp only at H ⊢ <;> try exact H
      case alloc => exact ⟨H.1, hK _ H.2⟩
      case allocx => exact ⟨H.1, hK _ H.2⟩
      case box =>
        refine ⟨H.1, H.2.1, ?_⟩
        have H := H.2.2
        split <;> simp_all
      case mkSl =>
        refine ⟨H.1, H.2.1, ?_⟩
        have H := H.2.2
        split <;> simp_all

theorem wpOpsA_mono {O O' : Orc} (hO : O.Le O') (hm : O'.Mono) {h0} : ∀ {l s} {K K' : St → Prop} (hK : ∀ s, K s → K' s) (H : wpOpsA O h0 l s K), wpOpsA O' h0 l s K'
  | [], s, K, K', hK, H => hK _ H
  | o :: l, s, K, K', hK, H => wpOpA_mono hO hm (fun s h => wpOpsA_mono hO hm hK h) H

theorem wpC_mono {O O' : Orc} (hO : O.Le O') (hm : O'.Mono) {n0 : Nat} (c : Code) : ∀ {s} {Q Q' : Out → Prop} (hQ : ∀ o, Q o → Q' o) (H : wpC O n0 c s Q), wpC O' n0 c s Q' := by
  induction c with
  | skip => exact fun hQ H => hQ _ H
  | exit => exact fun hQ H => hQ _ H
  | ret => exact fun hQ H => hQ _ H
  | region ops draw =>
    intro s Q Q' hQ H
    cases draw with
    | none => exact wpOps_mono hO hm (fun _ h => hQ _ h) H
    | some m =>
      obtain ⟨m, late⟩ := m
      exact wpOpsA_mono hO hm (fun _ h => wpOps_mono hO hm (fun _ h => ⟨h.1, hQ _ h.2⟩) h) H
  | seq a b iha ihb =>
    intro s Q Q' hQ H
    refine iha (fun o h => ?_) H
    cases o with
    | norm s' => exact ihb hQ h
    | ret s' => exact hQ _ h
    | exit i s' => exact hQ _ h
  | cond c t e iht ihe =>
    intro s Q Q' hQ H
    obtain ⟨g, h0, h1, h2, h3⟩ := H
    exact ⟨g, h0, h1, fun hg => iht hQ (h2 hg), fun hg => ihe hQ (h3 hg)⟩
  | block id b ih =>
    intro s Q Q' hQ H
    refine ih (fun o h => ?_) H
    cases o with
    | norm s' => exact hQ _ h
    | ret s' => exact hQ _ h
    | exit i s' =>
      dsimp only at h ⊢
      split
      · rename_i hi
        rw [if_pos hi] at h
        exact hQ _ h
      · rename_i hi
        rw [if_neg hi] at h
        exact hQ _ h
  | loop b ih =>
    intro s Q Q' hQ H
    obtain ⟨I, h1, h2⟩ := H
    refine ⟨I, h1, fun n s hI => ih (fun o h => ?_) (h2 n s hI)⟩
    cases o with
    | norm s' => exact h
    | ret s' => exact hQ _ h
    | exit i s' => exact hQ _ h

theorem wpF_mono {O O' : Orc} (hO : O.Le O') (hm : O'.Mono) {fn args} {h' : List Root} {R R' : V → List Root → Prop} (hR : ∀ v h', R v h' → R' v h') (H : wpF O fn args h' R) : wpF O' fn args h' R' := by
  refine wpC_mono hO hm _ (fun o h => ?_) H
  have fin : ∀ {s : St}, endF fn.res h'.length R s → endF fn.res h'.length R' s := by
    rintro s (⟨v, n, h1, h2, h3, h4, h5⟩ | ⟨v, s0, h1, h2, h3⟩)
    · exact .inl ⟨v, n, h1, h2, h3, h4, hR _ _ h5⟩
    · exact .inr ⟨v, s0, h1, h2, hR _ _ h3⟩
  cases o with
  | norm s => exact fin h
  | ret s => exact fin h
  | exit i s => exact h

theorem Does.mono {E : Env} : (Does E).Mono := fun f args h R R' hR H O hO => hO.mono _ _ _ _ _ hR (H O hO)

/-- A call does what the body does. -/
theorem Does.mk {E : Env} {f fn args h R} (hf : E.fn f = some fn) (H : wpF (Does E) fn args h R) : Does E f args h R := by
  intro O hO
  exact hO.body _ _ _ _ _ hf (wpF_mono (fun f args h R H => H O hO) hO.mono (fun _ _ h => h) H)

theorem Does.prim {E : Env} {f args h R} (H : E.prim (Does E) f args h R) : Does E f args h R := fun O hO => hO.prim _ _ _ _ (E.pmono _ _ (fun f args h R H => H O hO) hO.mono _ _ _ _ H)

end Go.Lx
