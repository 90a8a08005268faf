import Derived.Test.YtkmbllgoepcojaaDoorLx31
/- Functions that are not told in the language: those of math that the model answers. -/
set_option linter.unusedVariables false
set_option linter.unusedSimpArgs false
namespace Go.Lx

/-- what math.archTrunc may make of a float -/
def TruncTo (b b' : Nat) : Prop := match FloatKind.f64.decode b with
  | .nan s t => if FloatKind.f64.format.quiet t = t then b' = b else b' = b ∨ b' = FloatKind.f64.encode (.nan s (FloatKind.f64.format.quiet t))
  | d => b' = FloatKind.f64.encode (d.integral .zero)

section
variable {P : Program} {nm : FuncId → Option Nat}

/-- a function that an entry of the model's answers -/
structure IsExtern (P : Program) (k : FuncId) (e : Array Value → Sem Value) : Prop where
  ex : ∃ func, P.funcs[k]? = some func ∧ func.body = none ∧ func.name ≠ "runtime.NumGoroutine" ∧ Extern.findNext func = none ∧ Extern.find func = some e

theorem IsExtern.run {k : FuncId} {e : Array Value → Sem Value} (h : IsExtern P k e) (us : Array Value) (w : World) : (callFunc k us).run P w = (do pure (.value (← e us)) : Sem Next).run P w := by
  obtain ⟨func, h1, h2, h3, h4, h5⟩ := h.ex
  simp [callFunc, h1, h2, h3, h4, h5]

theorem IsExtern.rel {k : FuncId} {e : Array Value → Sem Value} (h : IsExtern P k e) {us : Array Value} {w : World} {u : Value} {w' : World} {R : Value → World → Prop} (hr : (e us).run P w = .ok u w') (hR : R u w') : CallsTo P k us w R := by
  refine .inl ⟨u, w', ?_, hR⟩
  rw [h.run]
  simp [hr]

theorem one_flt {fn : Nums} {x : Cx} {b : Nat} {us : Array Value} (h : RelVs fn x [.s (.c (.flt b))] us.toList) : us = #[.float .f64 b] := by
  obtain ⟨l⟩ := us
  cases l with
  | nil => simp [RelVs] at h
  | cons u l =>
    cases l with
    | nil => simp only [RelVs] at h; rw [inv_flt h.1]
    | cons _ _ => simp [RelVs] at h
theorem one_int {fn : Nums} {x : Cx} {k : IntKind} {b : Int} {us : Array Value} (h : RelVs fn x [.s (.c (.int k b))] us.toList) : us = #[.int k b] := by
  obtain ⟨l⟩ := us
  cases l with
  | nil => simp [RelVs] at h
  | cons u l =>
    cases l with
    | nil => simp only [RelVs] at h; rw [inv_int h.1]
    | cons _ _ => simp [RelVs] at h

theorem bits_eq (b : Nat) : Extern.MathFloatBits.float64bits #[.float .f64 b] = pure (.int .u64 b) := rfl
theorem frombits_eq (n : Int) : Extern.MathFloatBits.float64frombits #[.int .u64 n] = pure (.float .f64 n.toNat) := rfl
theorem integral_eq (name : String) (way : Ieee.Toward) (b : Nat) : Extern.MathFloor.toIntegral name way #[.float .f64 b] = (match FloatKind.f64.decode b with
    | .nan s t =>
      if FloatKind.f64.format.quiet t = t then pure (.float .f64 b) else do
      let kept ← choose (.extern "math.Floor,Ceil,Trunc,RoundToEven.signallingNaN kept" 2)
      pure (.float .f64 (if kept == 1 then b else FloatKind.f64.encode (.nan s (FloatKind.f64.format.quiet t))))
    | d => pure (.float .f64 (FloatKind.f64.encode (d.integral way)))) := rfl

theorem bits_rel {c : Nat} {k : FuncId} (hk : ∀ j, nm j = some c → j = k) (he : IsExtern P k Extern.MathFloatBits.float64bits) {b : Nat} {h : List Root} {R : V → List Root → Prop} (hR : R (.s (.c (.int .u64 b))) h) : CallsRel0 P nm c [.s (.c (.flt b))] h R := by
  intro j hj x hx hg us hus
  obtain rfl := hk j hj
  subst hx
  obtain rfl := one_flt hus
  exact he.rel (u := .int .u64 b) (w' := x.w) (by rw [bits_eq]; simp) ⟨_, x, rfl, hg, Nx.refl _ _, rel_int, hR⟩
theorem frombits_rel {c : Nat} {k : FuncId} (hk : ∀ j, nm j = some c → j = k) (he : IsExtern P k Extern.MathFloatBits.float64frombits) {n : Int} {h : List Root} {R : V → List Root → Prop} (hR : R (.s (.c (.flt n.toNat))) h) : CallsRel0 P nm c [.s (.c (.int .u64 n))] h R := by
  intro j hj x hx hg us hus
  obtain rfl := hk j hj
  subst hx
  obtain rfl := one_int hus
  exact he.rel (u := .float .f64 n.toNat) (w' := x.w) (by rw [frombits_eq]; simp) ⟨_, x, rfl, hg, Nx.refl _ _, rel_flt, hR⟩
theorem trunc_rel {c : Nat} {k : FuncId} {name : String} (hk : ∀ j, nm j = some c → j = k) (he : IsExtern P k (Extern.MathFloor.toIntegral name .zero)) {b : Nat} {h : List Root} {R : V → List Root → Prop} (hR : ∀ b', TruncTo b b' → R (.s (.c (.flt b'))) h) : CallsRel0 P nm c [.s (.c (.flt b))] h R := by
  intro j hj x hx hg us hus
  obtain rfl := hk j hj
  subst hx
  obtain rfl := one_flt hus
  cases hd : FloatKind.f64.decode b with
  | nan s t =>
    by_cases hq : FloatKind.f64.format.quiet t = t
    · refine he.rel (u := .float .f64 b) (w' := x.w) (by rw [integral_eq, hd]; simp [hq]) ⟨_, x, rfl, hg, Nx.refl _ _, rel_flt, hR b ?_⟩
      simp [TruncTo, hd, hq]
    · have : ∃ (b' : Nat) (n : Nat), (Extern.MathFloor.toIntegral name .zero #[.float .f64 b]).run P x.w = .ok (.float .f64 b') { x.w with drawn := x.w.drawn + n } ∧ TruncTo b b' := by
        rw [integral_eq, hd]
        simp only [hq, if_false]
        have hc : (choose (.extern "math.Floor,Ceil,Trunc,RoundToEven.signallingNaN kept" 2)).run P x.w = .ok (Question.cut (.extern "math.Floor,Ceil,Trunc,RoundToEven.signallingNaN kept" 2) (x.w.tape x.w.drawn (.extern "math.Floor,Ceil,Trunc,RoundToEven.signallingNaN kept" 2))) { x.w with drawn := x.w.drawn + 1 } := by
          simp [choose, Sem.run, Question.forced]
        refine ⟨_, 1, by simp only [Sem.run_bind, hc, Result.andThen_ok, Sem.run_pure]; rfl, ?_⟩
        unfold TruncTo
        rw [hd]
        simp only [hq, if_false]
        split
        · exact .inl rfl
        · exact .inr rfl
      obtain ⟨b', n, h1, h2⟩ := this
      obtain ⟨g1, g2⟩ := step_same (fn := Fn_ nm) (w' := { x.w with drawn := x.w.drawn + n }) hg rfl rfl rfl rfl
      exact he.rel h1 ⟨_, { x with w := { x.w with drawn := x.w.drawn + n } }, rfl, g1, g2 _, rel_flt, hR b' h2⟩
  | _ =>
    all_goals
      refine he.rel (u := .float .f64 _) (w' := x.w) (by rw [integral_eq, hd]; rfl) ⟨_, x, rfl, hg, Nx.refl _ _, rel_flt, hR _ ?_⟩
      simp [TruncTo, hd]
end
end Go.Lx
