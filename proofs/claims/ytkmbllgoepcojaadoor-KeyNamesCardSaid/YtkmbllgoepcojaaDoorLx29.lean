import Derived.Test.YtkmbllgoepcojaaDoorLx28
/- What the language tells of a function holds of the program's. -/
set_option linter.unusedVariables false
set_option linter.unusedSimpArgs false
namespace Go.Lx
section
variable {P : Program} {nm : FuncId → Option Nat} {x : Cx}

theorem args0_lookup : ∀ {l : List V} {i n : Nat} {p : Bool × V}, (args0 l i).lookup n = some p → ∃ v, i ≤ n ∧ l[n - i]? = some v ∧ p = (true, v)
  | [], i, n, p, h => by simp [args0] at h
  | v :: l, i, n, p, h => by
    simp only [args0, List.lookup_cons] at h
    by_cases e : n = i
    · subst e
      simp only [beq_self_eq_true, Option.some.injEq] at h
      exact ⟨v, Nat.le_refl _, by simp, h.symm⟩
    · have : (n == i) = false := by simpa using e
      simp only [this] at h
      obtain ⟨w, h1, h2, h3⟩ := args0_lookup h
      refine ⟨w, by omega, ?_, h3⟩
      rw [show n - i = (n - (i + 1)) + 1 by omega]
      simpa using h2

theorem run_mapM {α : Type} {f : α → Sem Value} {w : World} : ∀ {l : List α} {us : List Value}, (∀ (i : Nat) (y : α), l[i]? = some y → ∃ u, us[i]? = some u ∧ (f y).run P w = .ok u w) → l.length = us.length → (l.mapM f).run P w = .ok us w
  | [], [], _, _ => by simp
  | y :: l, u :: us, h, hl => by
    obtain ⟨u', h1, h2⟩ := h 0 y rfl
    simp only [List.getElem?_cons_zero, Option.some.injEq] at h1
    subst h1
    have := run_mapM (l := l) (us := us) (f := f) (fun i z hz => by
      have := h (i + 1) z (by simpa using hz)
      simpa using this) (by simpa using hl)
    simp [List.mapM_cons, h2, this]
  | [], _ :: _, _, h => by simp at h
  | _ :: _, [], _, h => by simp at h

def resVal (tmps : Array Value) : ResultVar → Sem Value
  | .tmp t => pure (tmps.getD t undef)
  | .cell b t => do loadVar t (← asAddr (tmps.getD b undef))
theorem results_eq (f : Func) (tmps : Array Value) : results f tmps = (do
  let vs ← f.results.mapM (resVal tmps)
  pure (if h : vs.size = 1 then vs[0] else .tuple vs)) := rfl

theorem res_one {N : Nat} {s : St} {a : Act} (hR : RelS nm N x s a) {r : ResultVar} {q : Res} {M : Nat} (hl : lowRes P M r = some q) {v : V} (hv : resOf s q = some v) :
    ∃ u, (resVal a.tmps r).run P x.w = .ok u x.w ∧ RelV (Fn_ nm) x v u := by
  cases r with
  | tmp t =>
    simp only [lowRes, Option.some.injEq] at hl
    subst hl
    simp only [resOf] at hv
    cases hg : s.get t with
    | mk b w =>
      rw [hg] at hv
      cases b <;> simp only [Option.some.injEq, reduceCtorEq] at hv
      subst hv
      refine ⟨_, rfl, ?_⟩
      have := hR.t.get (n := t) (by rw [hg])
      rwa [hg] at this
  | cell b t =>
    simp only [lowRes, Option.bind_eq_bind, Option.bind_eq_some_iff, Option.pure_def, Option.some.injEq] at hl
    obtain ⟨n, h1, agg, h2, rfl⟩ := hl
    simp only [resOf] at hv
    split at hv
    · rename_i id off hg
      have hr := hR.t.get (n := b) (by rw [hg])
      rw [hg] at hr
      obtain ⟨u, k1, k2⟩ := load_sound hR.good (h0 := s.h) (by rw [hR.h]; exact List.prefix_refl _) h1 h2 hr (v := v) hv trivial
      refine ⟨u, ?_, k2⟩
      simp only [RelV, RelDC] at hr
      obtain ⟨bb, _, _, _, e, _⟩ := hr
      rw [e] at k1
      simp only [resVal, e]
      simpa [Instr.loadAt, Instr.sureAddr, asAddr] using k1
    · cases hv

theorem results_sound {N M : Nat} {s : St} {a : Act} (hR : RelS nm N x s a) {f : Func} {rs : List Res} (hl : f.results.toList.mapM (lowRes P M) = some rs) {v : V} (hv : resAll s rs = some v) :
    ∃ u, (results f a.tmps).run P x.w = .ok u x.w ∧ RelV (Fn_ nm) x v u := by
  have list : ∀ {l : List ResultVar} {rs : List Res} {vs : List V}, l.mapM (lowRes P M) = some rs → rs.mapM (resOf s) = some vs → ∃ us : List Value, RelVs (Fn_ nm) x vs us ∧ us.length = l.length ∧
      ∀ (i : Nat) (y : ResultVar), l[i]? = some y → ∃ u, us[i]? = some u ∧ (resVal a.tmps y).run P x.w = .ok u x.w := by
    intro l
    induction l with
    | nil =>
      intro rs vs h1 h2
      rw [mapM_nil h1] at h2
      rw [mapM_nil h2]
      exact ⟨[], by simp [RelVs], rfl, fun i y h => by simp at h⟩
    | cons r l ih =>
      intro rs vs h1 h2
      obtain ⟨q, rs', k1, k2, rfl⟩ := mapM_cons h1
      obtain ⟨v, vs', k3, k4, rfl⟩ := mapM_cons h2
      obtain ⟨u, m1, m2⟩ := res_one hR k1 k3
      obtain ⟨us, m3, m4, m5⟩ := ih k2 k4
      refine ⟨u :: us, by simp only [RelVs]; exact ⟨m2, m3⟩, by simp [m4], fun i y h => ?_⟩
      cases i with
      | zero =>
        simp only [List.getElem?_cons_zero, Option.some.injEq] at h ⊢
        subst h
        exact ⟨u, rfl, m1⟩
      | succ i => simpa using m5 i y (by simpa using h)
  have run : ∀ {vs : List V}, rs.mapM (resOf s) = some vs → ∃ us : List Value, RelVs (Fn_ nm) x vs us ∧ us.length = f.results.size ∧ (results f a.tmps).run P x.w = .ok (if h : us.toArray.size = 1 then us.toArray[0] else .tuple us.toArray) x.w := by
    intro vs h
    obtain ⟨us, h1, h2, h3⟩ := list hl h
    refine ⟨us, h1, by simpa using h2, ?_⟩
    rw [results_eq]
    rw [Array.mapM_eq_mapM_toList]
    simp only [map_eq_pure_bind, Sem.run_bind]
    have := run_mapM (P := P) (w := x.w) (l := f.results.toList) (us := us) (fun i y hy => h3 i y hy) h2.symm
    rw [this]
    simp
  unfold resAll at hv
  split at hv
  · rename_i r
    have hm : [r].mapM (resOf s) = some [v] := by simp [hv]
    obtain ⟨us, h1, h2, h3⟩ := run hm
    obtain ⟨u, rfl⟩ : ∃ u, us = [u] := by
      have := RelVs.length h1
      exact List.length_eq_one_iff.1 this.symm
    simp only [RelVs] at h1
    exact ⟨u, by simpa using h3, h1.1⟩
  · rename_i hne
    cases hm : rs.mapM (resOf s) with
    | none => simp [hm] at hv
    | some vs =>
      simp only [hm, Option.map_some, Option.some.injEq] at hv
      subst hv
      obtain ⟨us, h1, h2, h3⟩ := run hm
      have hlen : us.length ≠ 1 := by
        intro e
        have hl1 : rs.length = f.results.size := by
          have : ∀ {l : List ResultVar} {rs : List Res}, l.mapM (lowRes P M) = some rs → rs.length = l.length := by
            intro l
            induction l with
            | nil => intro rs h; rw [mapM_nil h]; rfl
            | cons a l ih => intro rs h; obtain ⟨b, r, _, h2, rfl⟩ := mapM_cons h; simp [ih h2]
          simpa using this hl
        obtain ⟨r, hr⟩ := List.length_eq_one_iff.1 (hl1.trans (h2.symm.trans e))
        exact hne r hr
      refine ⟨.tuple us.toArray, by rw [h3, dif_neg (by simpa using hlen)], ?_⟩
      simp only [RelV]
      exact ⟨_, rfl, h1⟩

/-- the program's functions are those of the language -/
structure Linked (P : Program) (nm : FuncId → Option Nat) (E : Env) : Prop where
  mixed : P.follows .mixedOrders = true
  fn : ∀ k f fn, nm k = some f → E.fn f = some fn → ∃ func c, P.funcs[k]? = some func ∧ func.body = some c ∧ func.name ≠ "runtime.NumGoroutine" ∧ ∃ pr, lowFn P nm pr func = some fn
  prim : ∀ f args h R, E.prim (CallsRel P nm) f args h R → CallsRel P nm f args h R
  quo : E.fn quoCode = none

theorem run_callFunc {k : FuncId} {func : Func} {c : Go.Code} (hf : P.funcs[k]? = some func) (hb : func.body = some c) (hn : func.name ≠ "runtime.NumGoroutine") (us : Array Value) (w : World) : (callFunc k us).run P w = .ok (.enter k us) w := by
  simp [callFunc, hf, hb, hn]

theorem body_sound (hm : P.follows .mixedOrders = true) {k : FuncId} {func : Func} {c : Go.Code} {pr : Bool} {fn : Fn} (hf : P.funcs[k]? = some func) (hb : func.body = some c) (hn : func.name ≠ "runtime.NumGoroutine") (hl : lowFn P nm pr func = some fn)
    {args : List V} {R : V → List Root → Prop} (hg : Good (Fn_ nm) x) {us : Array Value} (hus : RelVs (Fn_ nm) x args us.toList) (h : wpF (CallsRel P nm) fn args x.h R) :
    CallsTo P k us x.w fun u w' => ∃ v x', x'.w = w' ∧ Good (Fn_ nm) x' ∧ Nx x.h.length x x' ∧ RelV (Fn_ nm) x' v u ∧ R v x'.h := by
  simp only [lowFn, Option.bind_eq_bind, Option.bind_eq_some_iff, Option.pure_def, Option.some.injEq] at hl
  obtain ⟨c', h1, cc, h2, rs, h3, rfl⟩ := hl
  rw [hb] at h1
  injection h1 with h1
  subst h1
  refine .inr ⟨run_callFunc hf hb hn us x.w, calls_of_wp hf hb ?_⟩
  have hR0 : RelS nm func.ntmps x ⟨args0 args 0, x.h⟩ { tmps := us ++ Array.replicate (func.ntmps - us.size) undef, defers := [] } := by
    refine ⟨rfl, hg, fun n p hp => ?_, by simp; omega, rfl⟩
    obtain ⟨v, k1, k2, rfl⟩ := args0_lookup hp
    obtain ⟨u, k3, k4⟩ := RelVs.get hus (i := n) (by simpa using k2)
    have hlt : n < us.size := by
      have := (List.getElem?_eq_some_iff.1 k3).1
      simpa using this
    left
    refine ⟨rfl, ?_⟩
    have : (us ++ Array.replicate (func.ntmps - us.size) undef).getD n undef = u := by
      rw [Array.getD_eq_getD_getElem?, Array.getElem?_append_left hlt]
      rw [Array.getElem?_toList] at k3
      rw [k3]
      rfl
    rw [this]
    exact k4
  refine wp_mono (wpC_sound hm c h2 hR0 h) fun e a w hp => ?_
  obtain ⟨x', s', rfl, hR', hn', ho⟩ := hp
  have fin : endF rs x.h.length R s' → ∃ u, (results func a.tmps).run P x'.w = .ok u x'.w ∧
      ∃ v y, y.w = x'.w ∧ Good (Fn_ nm) y ∧ Nx x.h.length x y ∧ RelV (Fn_ nm) y v u ∧ R v y.h := by
    rintro (⟨v, n, k1, k2, k3, k4, k5⟩ | ⟨v, s0, k1, k2, k3⟩)
    rotate_left
    · obtain ⟨x0, e0, hR0, hn0⟩ := gc_sound k1 hR'
      obtain ⟨u, m1, m2⟩ := results_sound hR0 h3 k2
      exact ⟨u, by rw [← e0]; exact m1, v, x0, e0, hR0.good, hn'.trans hn0, m2, by rw [hR0.h]; exact k3⟩
    obtain ⟨u, m1, m2⟩ := results_sound hR' h3 k1
    refine ⟨u, m1, v, ?_⟩
    by_cases hle : s'.h.length ≤ n
    · rw [List.take_of_length_le hle] at k5
      exact ⟨x', rfl, hR'.good, hn', m2, by rw [hR'.h]; exact k5⟩
    · have hlen : (s'.h.take n).length = n := by simp; omega
      have hp : s'.h.take n <+: x'.h := by rw [hR'.h]; exact List.take_prefix _ _
      obtain ⟨g1, g2⟩ := fewer hR'.good hp (by rw [hlen]; exact k3)
      exact ⟨{ x' with h := s'.h.take n }, rfl, g1, hn'.trans (g2 _ (by rw [hlen]; exact k4)), RelV.fewer hp (by rw [hlen]; exact k2) m2, k5⟩
  cases e with
  | normal => obtain ⟨u, m1, m2⟩ := fin ho; exact ⟨hR'.defers, u, m1, m2⟩
  | ret => obtain ⟨u, m1, m2⟩ := fin ho; exact ⟨hR'.defers, u, m1, m2⟩
  | exit i => exact ho.elim
  | _ => exact ho.elim

theorem linked_closed {E : Env} (hL : Linked P nm E) : Closed E (CallsRel P nm) where
  body f fn args h R hf hw := by
    refine ⟨fun e => (by rw [e, hL.quo] at hf; cases hf), ?_⟩
    intro k hk x hx hg us hus
    subst hx
    obtain ⟨func, c, h1, h2, h3, pr, h4⟩ := hL.fn k f fn hk hf
    exact body_sound hL.mixed h1 h2 h3 h4 hg hus hw
  mono := CallsRel.mono
  prim := hL.prim

/-- What is told of a call holds of the program's. -/
theorem does_calls {E : Env} (hL : Linked P nm E) {f : Nat} {args : List V} {h : List Root} {R : V → List Root → Prop} (H : Does E f args h R) : CallsRel P nm f args h R := H _ (linked_closed hL)
end
end Go.Lx
