import Derived.Test.YtkmbllgoepcojaaDoorLx10
/- The pure operations, together. -/
set_option linter.unusedVariables false
set_option linter.unusedSimpArgs false
namespace Go.Lx
section
variable {P : Program} {nm : FuncId → Option Nat} {x : Cx}

abbrev Fn_ (nm : FuncId → Option Nat) : Nums := fun f k => nm k = some f

theorem cOf_rel {v : Value} {c : C} (h : cOf v = some c) {w F} : RelC w F c v := by
  unfold cOf at h
  split at h <;> simp only [Option.some.injEq, reduceCtorEq] at h <;> subst h <;> simp [RelC, Nil.val]
theorem cOf_one {v : Value} {c : C} (h : cOf v = some c) : v.cells = #[v] := by
  unfold cOf at h
  split at h <;> first | rfl | cases h
theorem dOf_rel {v : Value} {d : DC} (h : dOf v = some d) {fn : Nums} : RelDC fn x d v := by
  unfold dOf at h
  split at h
  · injection h with h
    subst h
    simp [RelDC]
  · rename_i hne
    cases hc : cOf v with
    | none => simp [hc] at h
    | some c => simp only [hc, Option.map_some, Option.some.injEq] at h; subst h; simp only [RelDC]; exact cOf_rel hc
theorem mapM_cons {α β : Type} {f : α → Option β} {a : α} {l : List α} {r : List β} (h : (a :: l).mapM f = some r) : ∃ b r', f a = some b ∧ l.mapM f = some r' ∧ r = b :: r' := by
  rw [List.mapM_cons] at h
  cases hb : f a with
  | none => simp [hb] at h
  | some b =>
    cases hr : l.mapM f with
    | none => simp [hb, hr] at h
    | some r' => simp [hb, hr] at h; exact ⟨b, r', rfl, rfl, h.symm⟩
theorem mapM_nil {α β : Type} {f : α → Option β} {r : List β} (h : ([] : List α).mapM f = some r) : r = [] := by simpa using h.symm
theorem cOfs_rel {w F} : ∀ {vs : List Value} {u : U}, vs.mapM cOf = some u → RelCs w F u vs
  | [], u, h => by rw [mapM_nil h]; trivial
  | v :: vs, u, h => by obtain ⟨c, r, h1, h2, rfl⟩ := mapM_cons h; exact ⟨cOf_rel h1, cOfs_rel h2⟩
theorem dOfs_rel {fn : Nums} : ∀ {vs : List Value} {u : List DC}, vs.mapM dOf = some u → RelDCs fn x u vs
  | [], u, h => by rw [mapM_nil h]; simp [RelDCs]
  | v :: vs, u, h => by obtain ⟨c, r, h1, h2, rfl⟩ := mapM_cons h; simp only [RelDCs]; exact ⟨dOf_rel h1, dOfs_rel h2⟩

/-- the temporaries -/
def RelT (fn : Nums) (x : Cx) (s : St) (a : Act) : Prop := ∀ n p, s.t.lookup n = some p → (p.1 = true ∧ RelV fn x p.2 (a.tmps.getD n undef)) ∨ (p.1 = false ∧ a.tmps.getD n undef = undef)

theorem RelT.get {fn : Nums} {s : St} {a : Act} (h : RelT fn x s a) {n : Nat} (h1 : (s.get n).1 = true) : RelV fn x (s.get n).2 (a.tmps.getD n undef) := by
  unfold St.get at h1 ⊢
  cases hl : s.t.lookup n with
  | none => simp [hl] at h1
  | some p =>
    simp only [hl, Option.getD_some] at h1 ⊢
    rcases h n p hl with h | h
    · exact h.2
    · rw [h.1] at h1; cases h1

theorem xOf_rel {s : St} {a : Act} (hT : RelT (Fn_ nm) x s a) {o : Operand} {X : X} (h : xOf nm o = some X) (ht : X.there s = true) : RelV (Fn_ nm) x (X.val s) (a.eval o) := by
  cases o with
  | tmp t => simp only [xOf, Option.some.injEq] at h; subst h; exact hT.get ht
  | const v =>
    simp only [xOf] at h
    cases hv : vOf v with
    | none => simp [hv] at h
    | some V =>
      simp only [hv, Option.map_some, Option.some.injEq] at h
      subst h
      unfold vOf at hv
      cases hd : dOf v with
      | none => simp [hd] at hv
      | some d =>
        simp only [hd, Option.map_some, Option.some.injEq] at hv
        subst hv
        simp only [X.val, RelV]
        exact dOf_rel hd
  | func k =>
    simp only [xOf] at h
    cases hk : nm k with
    | none => simp [hk] at h
    | some f =>
      simp only [hk, Option.map_some, Option.some.injEq] at h
      subst h
      simp only [X.val, RelV, RelDC]
      exact ⟨k, #[], #[], rfl, hk, by simp [RelDCs], by simp [RelDCs]⟩
  | global g => simp [xOf] at h

theorem xs_rel {s : St} {a : Act} (hT : RelT (Fn_ nm) x s a) : ∀ {l : List Operand} {Xs : List X}, l.mapM (xOf nm) = some Xs → Xs.all (X.there s) = true → RelVs (Fn_ nm) x (Xs.map (X.val s)) (l.map a.eval)
  | [], Xs, h, _ => by rw [mapM_nil h]; simp [RelVs]
  | o :: l, Xs, h, ht => by
    obtain ⟨c, r, h1, h2, rfl⟩ := mapM_cons h
    simp only [List.all_cons, Bool.and_eq_true] at ht
    simp only [List.map_cons, RelVs]
    exact ⟨xOf_rel hT h1 ht.1, xs_rel hT h2 ht.2⟩

theorem xs_dc {fn : Nums} : ∀ {l : List V} {vs : List Value} {ds : List DC}, RelVs fn x l vs → l.mapM V.dc? = some ds → RelDCs fn x ds vs
  | [], [], ds, _, h => by rw [mapM_nil h]; simp [RelDCs]
  | v :: l, u :: vs, ds, hr, h => by
    obtain ⟨c, r, h1, h2, rfl⟩ := mapM_cons h
    simp only [RelVs] at hr
    simp only [RelDCs]
    refine ⟨?_, xs_dc hr.2 h2⟩
    cases v <;> simp only [V.dc?, Option.some.injEq, reduceCtorEq] at h1
    subst h1
    simpa [RelV] using hr.1
  | [], _ :: _, _, h, _ => by simp [RelVs] at h
  | _ :: _, [], _, h, _ => by simp [RelVs] at h

/-! ### what is left of the single ones -/
theorem isNil_ptr {fn : Nums} {A : V} {a : Value} {b : Bool} (h : isNil .ptr A = some b) (hA : RelV fn x A a) : (b = true ∧ a = .pointer none) ∨ (b = false ∧ ∃ p, a = .pointer (some p)) := by
  unfold isNil at h
  split at h <;> simp only [Option.some.injEq, reduceCtorEq] at h <;> subst h <;> simp_all only [reduceCtorEq]
  · left; exact ⟨trivial, inv_nil hA⟩
  · right; simp only [RelV, RelDC] at hA; obtain ⟨b, r, _, _, rfl, _⟩ := hA; exact ⟨trivial, _, rfl⟩
  · right; simp only [RelV, RelDC] at hA; obtain ⟨b, rfl, _⟩ := hA; exact ⟨trivial, _, rfl⟩
  · right; simp only [RelV, RelDC] at hA; obtain ⟨b, r, rfl, _⟩ := hA; exact ⟨trivial, _, rfl⟩
theorem isNil_func {fn : Nums} {A : V} {a : Value} {b : Bool} (h : isNil .func A = some b) (hA : RelV fn x A a) : (b = true ∧ a = .nilFunc) ∨ (b = false ∧ ∃ p q r, a = .func p q r) := by
  unfold isNil at h
  split at h <;> simp only [Option.some.injEq, reduceCtorEq] at h <;> subst h <;> simp_all only [reduceCtorEq]
  · left; exact ⟨trivial, inv_nil hA⟩
  · right; simp only [RelV, RelDC] at hA; obtain ⟨k, fs, cs, rfl, _⟩ := hA; exact ⟨trivial, _, _, _, rfl⟩

theorem eq_pn {t e : TypeId} (hu : P.underlying t = some (.pointer e)) (b : Option Addr) (d : Nat) (w : World) : (Op.equalIn (d + 1) t (.pointer none) (.pointer b)).run P w = .ok b.isNone w := by simp [Op.equalIn, run_underlying hu]
theorem eq_np {t e : TypeId} (hu : P.underlying t = some (.pointer e)) (b : Addr) (d : Nat) (w : World) : (Op.equalIn (d + 1) t (.pointer (some b)) (.pointer none)).run P w = .ok false w := by simp [Op.equalIn, run_underlying hu]
theorem eq_fnn {t : TypeId} {a b c} (hu : P.underlying t = some (.func a b c)) (d : Nat) (w : World) : (Op.equalIn (d + 1) t .nilFunc .nilFunc).run P w = .ok true w := by simp [Op.equalIn, run_underlying hu]
theorem eq_fnf {t : TypeId} {a b c} (hu : P.underlying t = some (.func a b c)) (p q r) (d : Nat) (w : World) : (Op.equalIn (d + 1) t .nilFunc (.func p q r)).run P w = .ok false w := by simp [Op.equalIn, run_underlying hu]
theorem eq_ffn {t : TypeId} {a b c} (hu : P.underlying t = some (.func a b c)) (p q r) (d : Nat) (w : World) : (Op.equalIn (d + 1) t (.func p q r) .nilFunc).run P w = .ok false w := by simp [Op.equalIn, run_underlying hu]

theorem eqn_sound {fn : Nums} {t : TypeId} {ox oy : Operand} {k : Nil} {pos : Bool} (hk : (k = .ptr ∧ ∃ e, P.underlying t = some (.pointer e)) ∨ (k = .func ∧ ∃ a b c, P.underlying t = some (.func a b c))) {A B v : V} {a b : Value} (hA : RelV fn x A a) (hB : RelV fn x B b) (hp : pvEqn k pos A B = some v) :
    ∃ r, (do eqGuard (if pos then .eql else .neq) t ox oy a b; binOp (if pos then .eql else .neq) t a b : Sem Value).run P x.w = .ok r x.w ∧ RelV fn x v r := by
  have key : ∀ (a b : Value) (q : Bool), (eqGuard .eql t ox oy a b).run P x.w = .ok () x.w → (eqGuard .neq t ox oy a b).run P x.w = .ok () x.w → (Op.equal t a b).run P x.w = .ok q x.w → (∀ w, (binOp .eql t a b).run P w = ((Op.equal t a b).run P w).andThen fun c w' => .ok (.bool c) w') → (∀ w, (binOp .neq t a b).run P w = ((Op.equal t a b).run P w).andThen fun c w' => .ok (.bool (!c)) w') →
      (do eqGuard (if pos then .eql else .neq) t ox oy a b; binOp (if pos then .eql else .neq) t a b : Sem Value).run P x.w = .ok (.bool (q == pos)) x.w := by
    intro a b q g1 g2 h1 h2 h3
    cases pos
    · simp only [Bool.false_eq_true, if_false, Sem.run_bind, g2, Result.andThen_ok, h3, h1]; cases q <;> rfl
    · simp only [if_true, Sem.run_bind, g1, Result.andThen_ok, h2, h1]; cases q <;> rfl
  unfold pvEqn at hp
  rcases hk with ⟨rfl, e, hu⟩ | ⟨rfl, a1, b1, c1, hu⟩
  · split at hp
    · rename_i q h1 h2
      injection hp with hp
      subst hp
      obtain ⟨-, rfl⟩ := (isNil_ptr h1 hA).resolve_right (by simp)
      rcases isNil_ptr h2 hB with ⟨rfl, rfl⟩ | ⟨rfl, p, rfl⟩
      · exact ⟨_, key _ _ true rfl rfl (eq_pn hu none 9999 x.w) (fun w => by simp only [binOp, Sem.run_bind, Sem.run_pure]) (fun w => by simp only [binOp, Sem.run_bind, Sem.run_pure]), rel_bool⟩
      · exact ⟨_, key _ _ false rfl rfl (eq_pn hu (some p) 9999 x.w) (fun w => by simp only [binOp, Sem.run_bind, Sem.run_pure]) (fun w => by simp only [binOp, Sem.run_bind, Sem.run_pure]), rel_bool⟩
    · rename_i h1 h2
      injection hp with hp
      subst hp
      obtain ⟨-, p, rfl⟩ := (isNil_ptr h1 hA).resolve_left (by simp)
      obtain ⟨-, rfl⟩ := (isNil_ptr h2 hB).resolve_right (by simp)
      exact ⟨_, key _ _ false rfl rfl (eq_np hu p 9999 x.w) (fun w => by simp only [binOp, Sem.run_bind, Sem.run_pure]) (fun w => by simp only [binOp, Sem.run_bind, Sem.run_pure]), rel_bool⟩
    · cases hp
  · split at hp
    · rename_i q h1 h2
      injection hp with hp
      subst hp
      obtain ⟨-, rfl⟩ := (isNil_func h1 hA).resolve_right (by simp)
      rcases isNil_func h2 hB with ⟨rfl, rfl⟩ | ⟨rfl, p, p', p'', rfl⟩
      · exact ⟨_, key _ _ true rfl rfl (eq_fnn hu 9999 x.w) (fun w => by simp only [binOp, Sem.run_bind, Sem.run_pure]) (fun w => by simp only [binOp, Sem.run_bind, Sem.run_pure]), rel_bool⟩
      · exact ⟨_, key _ _ false rfl rfl (eq_fnf hu _ _ _ 9999 x.w) (fun w => by simp only [binOp, Sem.run_bind, Sem.run_pure]) (fun w => by simp only [binOp, Sem.run_bind, Sem.run_pure]), rel_bool⟩
    · rename_i h1 h2
      injection hp with hp
      subst hp
      obtain ⟨-, p, p', p'', rfl⟩ := (isNil_func h1 hA).resolve_left (by simp)
      obtain ⟨-, rfl⟩ := (isNil_func h2 hB).resolve_right (by simp)
      exact ⟨_, key _ _ false rfl rfl (eq_ffn hu _ _ _ 9999 x.w) (fun w => by simp only [binOp, Sem.run_bind, Sem.run_pure]) (fun w => by simp only [binOp, Sem.run_bind, Sem.run_pure]), rel_bool⟩
    · cases hp

theorem un_sound {fn : Nums} {op : UnOp} {A v : V} {a : Value} (hA : RelV fn x A a) (hp : pvUn op A = some v) : ∃ r, (Op.unary op a).run P x.w = .ok r x.w ∧ RelV fn x v r := by
  unfold pvUn at hp
  split at hp
  · rename_i b
    rw [inv_bool hA]
    cases op <;> simp only [reduceCtorEq, Option.some.injEq] at hp
    subst hp
    exact ⟨_, by simp [Op.unary], rel_bool⟩
  · rename_i k n
    rw [inv_int hA]
    cases op <;> simp only [reduceCtorEq, Option.some.injEq] at hp
    · subst hp
      exact ⟨_, by simp [Op.unary, Op.intArith], rel_int⟩
    · obtain ⟨d, h1, rfl⟩ := v_some hp
      simp only [binInt, Option.some.injEq] at h1
      subst h1
      exact ⟨_, by simp [Op.unary, Op.intBits], rel_int⟩
  · rename_i n
    rw [inv_flt hA]
    cases op <;> simp only [reduceCtorEq, Option.some.injEq] at hp
    subst hp
    exact ⟨_, by simp [Op.unary, Op.negFloat, fneg]; rfl, rel_flt⟩
  · cases hp

theorem conv_sound {fn : Nums} {src dst : TypeId} {c : Conv} (hc : convT P src dst = some c) {A v : V} {a : Value} (hA : RelV fn x A a) (hp : pvConv c A = some v) : ∃ r, (convert src dst a).run P x.w = .ok r x.w ∧ RelV fn x v r := by
  unfold convT at hc
  unfold pvConv at hp
  split at hp
  · rename_i k n
    rw [inv_int hA]
    split at hc <;> simp only [Option.some.injEq, reduceCtorEq] at hc <;> subst hc <;> simp only [reduceCtorEq, Option.some.injEq] at hp
    · rename_i h1 h2
      subst hp
      exact ⟨_, by simp [convert, run_underlying h1, run_underlying h2, Conv.intToInt], rel_int⟩
    · rename_i h1 h2
      subst hp
      exact ⟨_, by simp [convert, run_underlying h1, run_underlying h2, Conv.intToFloat]; rfl, rel_flt⟩
    · rename_i h1 h2
      subst hp
      exact ⟨_, by simp [convert, run_underlying h1, run_underlying h2, Conv.intToString], rel_str⟩
  · rename_i n
    rw [inv_flt hA]
    split at hc <;> simp only [Option.some.injEq, reduceCtorEq] at hc <;> subst hc <;> simp only [reduceCtorEq, Option.map_eq_some_iff] at hp
    rename_i k h1 h2
    obtain ⟨m, hm, rfl⟩ := hp
    unfold toInt at hm
    split at hm
    · rename_i m' he
      split at hm
      · rename_i hr
        injection hm with hm
        subst hm
        refine ⟨.int k m', ?_, rel_int⟩
        simp only [convert, Sem.run_bind, run_underlying h1, run_underlying h2, Result.andThen_ok, Conv.floatToInt]
        have he' : (FloatKind.f64.decode n).toInt Ieee.Toward.zero = some m' := he
        simp [he', hr]
      · cases hm
    · cases hm
  · rename_i s
    rw [inv_str hA]
    split at hc <;> simp only [Option.some.injEq, reduceCtorEq] at hc <;> subst hc <;> simp only [reduceCtorEq, Option.some.injEq] at hp
    rename_i h1 h2
    subst hp
    exact ⟨_, by simp [convert, run_underlying h1, run_underlying h2], rel_str⟩
  · cases hp

theorem extract_sound {fn : Nums} {i : Nat} {A v : V} {a : Value} (hA : RelV fn x A a) (hp : pvExtract i A = some v) : ∃ r, (Instr.extract a i).run P x.w = .ok r x.w ∧ RelV fn x v r := by
  unfold pvExtract at hp
  split at hp
  · simp only [RelV] at hA
    obtain ⟨vs, rfl, h⟩ := hA
    obtain ⟨r, h1, h2⟩ := h.get hp
    refine ⟨r, ?_, h2⟩
    have : vs[i]? = some r := by simpa using h1
    simp [Instr.extract, this]
  · cases hp

theorem nilchk_sound {fn : Nums} {a : Act} {y : Operand} {dst ty pos after guard} {A v : V} (hA : RelV fn x A (a.eval y)) (hp : pvNilchk A = some v) :
    (execOp a.eval ⟨dst, .nilCheck y, ty, pos, after, guard⟩).run P x.w = .ok (.value (a.eval y)) x.w ∧ RelV fn x v (a.eval y) := by
  have hv : v = A := by
    unfold pvNilchk at hp
    split at hp <;> first | (cases hp; rfl) | cases hp
  subst hv
  refine ⟨?_, hA⟩
  generalize hq : a.eval y = q at hA
  simp only [execOp, hq]
  unfold pvNilchk at hp
  split at hp <;> first | (cases hp; done) | skip
  all_goals simp only [RelV, RelDC] at hA
  · obtain ⟨b, r, _, _, rfl, _⟩ := hA; rfl
  · obtain ⟨a, rfl, _⟩ := hA; rfl
  · obtain ⟨g, o, rfl, _⟩ := hA; rfl
  · obtain ⟨k, fs, cs, rfl, _⟩ := hA; rfl

theorem len_sound {fn : Nums} {t : TypeId} {ty : TypeId} {ts : List TypeId} {sb : Bool} (ht : (sb = true ∧ P.underlying t = some .string) ∨ (sb = false ∧ ∃ e, P.underlying t = some (.slice e))) {A v : V} {a : Value} (hA : RelV fn x A a) (hp : pvLen sb A = some v) {tt : Array TypeId} (htt : tt[0]? = some t) :
    ∃ r, (Builtin.len_ tt ty #[a]).run P x.w = .ok r x.w ∧ RelV fn x v r := by
  unfold pvLen at hp
  rcases ht with ⟨rfl, ht⟩ | ⟨rfl, e, ht⟩
  · split at hp <;> first | cases hp; done | skip
    all_goals simp_all only [reduceCtorEq, Option.some.injEq]
    subst hp
    rw [inv_str hA]
    exact ⟨_, by simp [Builtin.len_, htt, run_underlying ht, goInt], rel_int⟩
  · split at hp <;> first | cases hp; done | skip
    all_goals simp_all only [reduceCtorEq, Option.some.injEq]
    all_goals subst hp
    all_goals simp only [RelV, RelDC, RelC] at hA
    · obtain ⟨a, cap, rfl, _⟩ := hA
      exact ⟨_, by simp [Builtin.len_, htt, run_underlying ht, goInt], rel_int⟩
    · obtain ⟨a, rfl, _⟩ := hA
      exact ⟨_, by simp [Builtin.len_, htt, run_underlying ht, goInt], rel_int⟩
    · obtain ⟨a, cap, rfl, _⟩ := hA
      exact ⟨_, by simp [Builtin.len_, htt, run_underlying ht, goInt], rel_int⟩

theorem max_sound {fn : Nums} {mx : Bool} {A B v : V} {a b : Value} {ts : Array TypeId} {ty : TypeId} (hA : RelV fn x A a) (hB : RelV fn x B b) (hp : pvMax mx [A, B] = some v) :
    ∃ r, (if mx then Builtin.max_ ts ty #[a, b] else Builtin.min_ ts ty #[a, b] : Sem Value).run P x.w = .ok r x.w ∧ RelV fn x v r := by
  unfold pvMax at hp
  split at hp
  · rename_i k n k' m heq
    injection heq with e1 e2
    injection e2 with e2 e3
    subst e1 e2
    split at hp
    · rename_i hk
      subst hk
      injection hp with hp
      subst hp
      rw [inv_int hA, inv_int hB]
      refine ⟨_, ?_, rel_int⟩
      cases mx
      · simp [Builtin.min_, Builtin.min2]
      · simp [Builtin.max_, Builtin.max2]
    · cases hp
  · cases hp

theorem pick_sound {fn : Nums} {a : Act} {s : St} {c p q : Operand} {C A B : X} {v : V} (hC : RelV fn x (X.val s C) (a.eval c)) (hA : X.there s A = true → RelV fn x (X.val s A) (a.eval p)) (hB : X.there s B = true → RelV fn x (X.val s B) (a.eval q))
    (hp : pvPick (X.val s C) (X.val s A) (X.val s B) = some v) (hvc : vcPick (X.there s A) (X.there s B) (X.val s C)) : ∃ r, (do pure (if ← asBool (a.eval c) then a.eval p else a.eval q) : Sem Value).run P x.w = .ok r x.w ∧ RelV fn x v r := by
  unfold pvPick at hp
  split at hp
  · rename_i p' q' h1
    injection hp with hp
    subst hp
    rw [h1] at hC hvc
    rw [inv_bool hC]
    exact ⟨a.eval p, by simp [asBool], hA (hvc.1 rfl)⟩
  · rename_i p' q' h1
    injection hp with hp
    subst hp
    rw [h1] at hC hvc
    rw [inv_bool hC]
    exact ⟨a.eval q, by simp [asBool], hB (hvc.2 rfl)⟩
  · cases hp
end
end Go.Lx
