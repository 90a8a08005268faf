import Derived.Test.YtkmbllgoepcojaaDoorLx17
/- Calls: within the own blocks, over data alone, rows lent. -/
set_option linter.unusedVariables false
set_option linter.unusedSimpArgs false
namespace Go.Lx
section
variable {P : Program} {nm : FuncId → Option Nat} {x : Cx}

/-- a call of a function comes to R -/
def CallsTo (P : Program) (k : FuncId) (args : Array Value) (w : World) (R : Value → World → Prop) : Prop :=
  (∃ u w', (callFunc k args).run P w = .ok (.value u) w' ∧ R u w') ∨
  ((callFunc k args).run P w = .ok (.enter k args) w ∧ Calls P k args w fun
    | .returned u, w' => R u w'
    | _, _ => False)
theorem CallsTo.mono {k : FuncId} {args : Array Value} {w : World} {R R' : Value → World → Prop} (hR : ∀ u w', R u w' → R' u w') (h : CallsTo P k args w R) : CallsTo P k args w R' := by
  rcases h with ⟨u, w', h1, h2⟩ | ⟨h1, h2⟩
  · exact .inl ⟨u, w', h1, hR _ _ h2⟩
  · refine .inr ⟨h1, h2.mono fun e w' h => ?_⟩
    cases e with
    | returned u => exact hR _ _ h
    | panicked c => exact h
    | outgrown => exact h

/-- what is known of a call, told of the machine -/
def CallsRel0 (P : Program) (nm : FuncId → Option Nat) : Orc := fun f args h R =>
  ∀ k, nm k = some f → ∀ x : Cx, x.h = h → Good (Fn_ nm) x → ∀ us : Array Value, RelVs (Fn_ nm) x args us.toList →
    CallsTo P k us x.w fun u w' => ∃ v x', x'.w = w' ∧ Good (Fn_ nm) x' ∧ Nx x.h.length x x' ∧ RelV (Fn_ nm) x' v u ∧ R v x'.h

/-- what a division of floats may answer -/
def FDiv (a b c : Nat) : Prop := fdiv a b = some c ∨ (fdiv a b = none ∧ ∃ t : Nat, c = (t % 2) * 2 ^ 63 + 0x7ff0000000000000 + 1 + (t / 2) % (2 ^ 52 - 1))
def QuoRel : Orc := fun f args h R => ∃ a b, args = [.s (.c (.flt a)), .s (.c (.flt b))] ∧ ∀ c, FDiv a b c → R (.s (.c (.flt c))) h
/-- .. of the program's functions; and of the division of floats -/
def CallsRel (P : Program) (nm : FuncId → Option Nat) : Orc := fun f args h R => (f = quoCode → QuoRel f args h R) ∧ CallsRel0 P nm f args h R

theorem CallsRel0.mono : (CallsRel0 P nm).Mono := by
  intro f args h R R' hR H k hk x hx hg us hus
  exact (H k hk x hx hg us hus).mono fun u w' ⟨v, x', h1, h2, h3, h4, h5⟩ => ⟨v, x', h1, h2, h3, h4, hR _ _ h5⟩
theorem CallsRel.mono : (CallsRel P nm).Mono := by
  intro f args h R R' hR H
  refine ⟨fun e => ?_, CallsRel0.mono _ _ _ _ _ hR H.2⟩
  obtain ⟨a, b, h1, h2⟩ := H.1 e
  exact ⟨a, b, h1, fun c hc => hR _ _ (h2 c hc)⟩

/-! ### a call that is given data alone -/
def lentF (x : Cx) (ids : List Nat) (b : Nat) : Prop := x.F b ∨ ∃ id, id ∈ ids ∧ ∃ g sz l, x.h[id]? = some (.row g sz l) ∧ x.at_ id = some b
/-- memory as such a call looks at it -/
def Cx.lent (x : Cx) (ids : List Nat) : Cx := { w := x.w, F := lentF x ids, at_ := fun _ => none, h := [] }

theorem Good.lent {fn : Nums} (hg : Good fn x) (ids : List Nat) : Good fn (x.lent ids) where
  root id r h := by simp [Cx.lent] at h
  one id id' r r' b h := by simp [Cx.lent] at h
  apart b := by rintro ⟨id, r, h, _⟩; simp [Cx.lent] at h
  lt b h := by
    rcases h with h | ⟨id, _, g, sz, l, h1, h2⟩
    · exact hg.lt b h
    · exact hg.ltOwn b ⟨id, _, h1, rfl, h2⟩
  ltOwn b := by rintro ⟨id, r, h, _⟩; simp [Cx.lent] at h
  base := hg.base_mv fun b h => ⟨.inl h, rfl⟩

theorem lent_F (ids : List Nat) : ∀ b, x.F b → (x.lent ids).F b ∧ (x.lent ids).w.heap[b]? = x.w.heap[b]? := fun b h => ⟨.inl h, rfl⟩

theorem dfz_rel {fn : Nums} (hg : Good fn x) {ids : List Nat} {d : DC} {c : C} {u : Value} (h : RelDC fn x d u) (hf : d.fz x.h = some c) (hi : ∀ i, i ∈ d.ids → i ∈ ids) : RelC x.w (lentF x ids) c u := by
  cases d with
  | c y =>
    simp only [DC.fz, Option.some.injEq] at hf
    subst hf
    simp only [RelDC] at h
    exact RelC.stay (lent_F ids) h
  | full l =>
    simp only [DC.fz, Option.some.injEq] at hf
    subst hf
    simp only [RelDC] at h
    obtain ⟨a, rfl, h⟩ := h
    simp only [RelC]
    refine ⟨a, _, rfl, Nat.le_refl _, ?_⟩
    rcases h with h | ⟨g, o, sz, h1, h2, h3⟩
    · exact .inl h
    · exact .inr ⟨g, o, sz, h1, .inl h2, RelRows.stay (lent_F ids) rfl h3⟩
  | ref id g sz off n =>
    have hel : ∃ l, V.elems x.h (.s (.ref id g sz off n)) = some l ∧ c = .sl l := by
      simp only [DC.fz] at hf
      simp only [V.elems]
      split at hf
      · split at hf
        · rename_i hc; rw [if_pos hc]; injection hf with hf; exact ⟨_, rfl, hf.symm⟩
        · cases hf
      · split at hf
        · rename_i hc; rw [if_pos hc]; injection hf with hf; exact ⟨_, rfl, hf.symm⟩
        · cases hf
      · cases hf
    obtain ⟨l, h1, rfl⟩ := hel
    obtain ⟨a, cap, rfl, h2, h3⟩ := elems_rel (fn := fn) hg (A := .s (.ref id g sz off n)) (by simpa only [RelV] using h) h1
    simp only [RelC]
    refine ⟨a, cap, rfl, h2, ?_⟩
    rcases h3 with h3 | ⟨b, o, sz', h3, h4⟩
    · exact .inl h3
    · rcases Nat.eq_zero_or_pos l.length with e0 | e0
      · exact .inl (List.eq_nil_of_length_eq_zero e0)
      · refine .inr ⟨b, o, sz', h3, ?_, RelRows.stay (lent_F ids) rfl h4⟩
        simp only [RelDC] at h
        obtain ⟨a', cap', e1, _, _, r, hr, hrr⟩ := h
        injection e1 with e1 e2 e3
        subst e1 e3
        cases r with
        | row g' sz'' l' =>
          have hgg : g = g' := by
            simp only [V.elems, hr] at h1
            split at h1
            · rename_i hc; exact hc.1
            · cases h1
          obtain ⟨-, k⟩ := hrr
          obtain ⟨-, k⟩ := k hgg
          obtain ⟨b', cs, t, f, k1, k2, _⟩ := k.resolve_left (by omega)
          rw [h3] at k2
          injection k2 with k2
          injection k2 with k2 _
          subst k2
          exact .inr ⟨id, hi id (by simp [DC.ids]), _, _, _, hr, k1⟩
        | lock g' sz'' l' =>
          have hgg : g = g' := by
            simp only [V.elems, hr] at h1
            split at h1
            · rename_i hc; exact hc.1
            · cases h1
          obtain ⟨-, k⟩ := hrr
          obtain ⟨-, k⟩ := k hgg
          obtain ⟨b', cs, t, f, k1, k2, _⟩ := k.resolve_left (by omega)
          rw [h3] at k2
          injection k2 with k2
          injection k2 with k2 _
          subst k2
          rcases (hg.root id _ hr).2 with k | ⟨b', k3, k4, _⟩
          · rw [k.2] at k1; cases k1
          · rw [k1] at k3; injection k3 with k3; subst k3; exact .inl k4
        | _ => exact hrr.elim
  | _ => simp [DC.fz] at hf

theorem dfzs_rel {fn : Nums} (hg : Good fn x) {ids : List Nat} : ∀ {l : List DC} {u : U} {vs : List Value}, RelDCs fn x l vs → l.mapM (DC.fz x.h) = some u → (∀ i, i ∈ l.flatMap DC.ids → i ∈ ids) → RelCs x.w (lentF x ids) u vs
  | [], u, [], _, h, _ => by rw [mapM_nil h]; trivial
  | d :: l, u, v :: vs, h, hm, hi => by
    obtain ⟨c, r, h1, h2, rfl⟩ := mapM_cons hm
    simp only [RelDCs] at h
    exact ⟨dfz_rel hg h.1 h1 (fun i hi' => hi i (by simp [hi'])), dfzs_rel hg h.2 h2 (fun i hi' => hi i (by simp only [List.flatMap_cons, List.mem_append]; exact .inr hi'))⟩
  | [], u, _ :: _, h, _, _ => by simp [RelDCs] at h
  | _ :: _, u, [], h, _, _ => by simp [RelDCs] at h

theorem fz_rel {fn : Nums} (hg : Good fn x) {ids : List Nat} {A B : V} {u : Value} (h : RelV fn x A u) (hf : A.fz x.h = some B) (hi : ∀ i, i ∈ A.ids → i ∈ ids) : RelV fn (x.lent ids) B u := by
  cases A with
  | s d =>
    by_cases hd : ∃ y o, d = .iptr y o
    · obtain ⟨y, o, rfl⟩ := hd
      simp only [V.fz, Option.some.injEq] at hf
      subst hf
      simp only [RelV, RelDC] at h ⊢
      obtain ⟨g, o', h1, h2, h3⟩ := h
      exact ⟨g, o', h1, .inl h2, RelAt.stay (lent_F ids) rfl h3⟩
    · have : ∃ c, d.fz x.h = some c ∧ B = .s (.c c) := by
        cases d <;> simp only [V.fz] at hf <;> first
          | (exfalso; exact hd ⟨_, _, rfl⟩)
          | (rw [Option.map_eq_some_iff] at hf; obtain ⟨c, h1, h2⟩ := hf; exact ⟨c, h1, h2.symm⟩)
      obtain ⟨c, h1, rfl⟩ := this
      simp only [RelV, RelDC] at h ⊢
      exact dfz_rel hg h h1 hi
  | a y =>
    simp only [V.fz, Option.some.injEq] at hf
    subst hf
    simp only [RelV] at h ⊢
    obtain ⟨cs, h1, h2⟩ := h
    exact ⟨cs, h1, RelCs.stay (lent_F ids) h2⟩
  | m l =>
    simp only [V.fz, Option.map_eq_some_iff] at hf
    obtain ⟨y, h1, rfl⟩ := hf
    simp only [RelV] at h ⊢
    obtain ⟨cs, h2, h3⟩ := h
    exact ⟨cs, h2, dfzs_rel hg h3 h1 hi⟩
  | _ => simp [V.fz] at hf

theorem fzs_rel {fn : Nums} (hg : Good fn x) {ids : List Nat} : ∀ {l r : List V} {vs : List Value}, RelVs fn x l vs → l.mapM (V.fz x.h) = some r → (∀ i, i ∈ l.flatMap V.ids → i ∈ ids) → RelVs fn (x.lent ids) r vs
  | [], u, [], _, h, _ => by rw [mapM_nil h]; simp [RelVs]
  | d :: l, u, v :: vs, h, hm, hi => by
    obtain ⟨c, r, h1, h2, rfl⟩ := mapM_cons hm
    simp only [RelVs] at h ⊢
    exact ⟨fz_rel hg h.1 h1 (fun i hi' => hi i (by simp [hi'])), fzs_rel hg h.2 h2 (fun i hi' => hi i (by simp only [List.flatMap_cons, List.mem_append]; exact .inr hi'))⟩
  | [], u, _ :: _, h, _, _ => by simp [RelVs] at h
  | _ :: _, u, [], h, _, _ => by simp [RelVs] at h

/-! ### what it made, laid behind -/
/-- memory with the blocks of y laid behind those of x (of which hl tells now) -/
def glue (x y : Cx) (hl : List Root) (F : Nat → Prop) : Cx := { w := y.w, F := F, at_ := fun i => if i < hl.length then x.at_ i else y.at_ (i - hl.length), h := hl ++ y.h.map (Root.shift hl.length) }

theorem glue_at {y : Cx} {hl : List Root} {F} (i : Nat) : (glue x y hl F).at_ (i + hl.length) = y.at_ i := by
  simp only [glue]
  rw [if_neg (by omega)]
  congr 1
  omega
theorem glue_h {y : Cx} {hl : List Root} {F} (i : Nat) : (glue x y hl F).h[i + hl.length]? = (y.h[i]?).map (Root.shift hl.length) := by
  simp only [glue]
  rw [List.getElem?_append, if_neg (by omega)]
  simp

theorem relC_flat {w : World} {F F' : Nat → Prop} {c : C} {v : Value} (h : c.flat = true) (hr : RelC w F c v) : RelC w F' c v := by
  cases c with
  | sl l =>
    simp only [C.flat, List.isEmpty_iff] at h
    subst h
    simp only [RelC] at hr ⊢
    obtain ⟨a, cap, h1, h2, _⟩ := hr
    exact ⟨a, cap, h1, h2, .inl trivial⟩
  | _ => simpa only [RelC] using hr
theorem relCs_flat {w : World} {F F' : Nat → Prop} : ∀ {c : U} {v : List Value}, c.all C.flat = true → RelCs w F c v → RelCs w F' c v
  | [], [], _, _ => trivial
  | c :: r, v :: s, h, hr => by
    simp only [List.all_cons, Bool.and_eq_true] at h
    exact ⟨relC_flat h.1 hr.1, relCs_flat h.2 hr.2⟩
  | [], _ :: _, _, h => h.elim
  | _ :: _, [], _, h => h.elim

section
variable {fn : Nums} {y : Cx} {hl : List Root} {F : Nat → Prop}

theorem glueC (hF : ∀ b, y.F b → F b) {c : C} {v : Value} (h : RelC y.w y.F c v) : RelC y.w F c v := RelC.stay (fun b hb => ⟨hF b hb, rfl⟩) h

mutual
theorem glueDC : ∀ {d : DC} {v : Value}, (d.plain = true ∨ ∀ b, y.F b → F b) → RelDC fn y d v → RelDC fn (glue x y hl F) (d.shift hl.length) v
  | .c c, v, hp, h => by
    simp only [RelDC, DC.shift] at h ⊢
    rcases hp with hp | hF
    · exact relC_flat hp h
    · exact glueC hF h
  | .full l, v, hp, h => by
    simp only [RelDC, DC.shift] at h ⊢
    obtain ⟨a, h1, h2⟩ := h
    refine ⟨a, h1, ?_⟩
    rcases h2 with h2 | ⟨g, o, sz, h3, h4, h5⟩
    · exact .inl h2
    · rcases hp with hp | hF
      · simp only [DC.plain, List.isEmpty_iff] at hp
        exact .inl hp
      exact .inr ⟨g, o, sz, h3, hF _ h4, RelRows.stay (fun b hb => ⟨hF b hb, rfl⟩) rfl h5⟩
  | .raw u, v, hp, h => by simpa only [RelDC, DC.shift] using h
  | .ifc t d, v, hp, h => by
    have hF := hp.resolve_left (by simp [DC.plain])
    simp only [RelDC, DC.shift] at h ⊢
    obtain ⟨u, h1, h2⟩ := h
    exact ⟨u, h1, glueDC (.inr hF) h2⟩
  | .iptr u o, v, hp, h => by
    simp only [RelDC, DC.shift] at h ⊢
    have hF := hp.resolve_left (by simp [DC.plain])
    obtain ⟨g, o', h1, h2, h3⟩ := h
    exact ⟨g, o', h1, hF _ h2, RelAt.stay (fun b hb => ⟨hF b hb, rfl⟩) rfl h3⟩
  | .ref id g sz off n, v, hp, h => by
    simp only [RelDC, DC.shift] at h ⊢
    obtain ⟨a, cap, h1, h2, h3, r, h4, h5⟩ := h
    refine ⟨a, cap, h1, h2, h3, r.shift hl.length, by rw [glue_h, h4]; rfl, ?_⟩
    cases r <;> simp only [Root.shift] at h5 ⊢
    all_goals exact ⟨h5.1, fun e => ⟨(h5.2 e).1, by rw [glue_at]; exact (h5.2 e).2⟩⟩
  | .ptr id off, v, hp, h => by
    simp only [RelDC, DC.shift] at h ⊢
    obtain ⟨b, r, h1, h2, h3, h4⟩ := h
    refine ⟨b, r.shift hl.length, by rw [glue_h, h1]; rfl, by rw [glue_at]; exact h2, h3, ?_⟩
    cases r <;> simp only [Root.shift] at h4 ⊢
  | .eptr id g i off, v, hp, h => by
    simp only [RelDC, DC.shift] at h ⊢
    obtain ⟨a, h1, r, h2, h3⟩ := h
    refine ⟨a, h1, r.shift hl.length, by rw [glue_h, h2]; rfl, ?_⟩
    cases r <;> simp only [Root.shift] at h3 ⊢
    all_goals exact ⟨h3.1, fun e => by rw [glue_at]; exact h3.2 e⟩
  | .clo f p q, v, hp, h => by
    have hF := hp.resolve_left (by simp [DC.plain])
    simp only [RelDC, DC.shift, DC.shifts_eq] at h ⊢
    obtain ⟨k, fs, cs, h1, h2, h3, h4⟩ := h
    exact ⟨k, fs, cs, h1, h2, glueDCs (.inr hF) h3, glueDCs (.inr hF) h4⟩
  | .mp id, v, hp, h => by
    simp only [RelDC, DC.shift] at h ⊢
    obtain ⟨b, l, h1, h2, h3⟩ := h
    exact ⟨b, l, by rw [glue_h, h1]; rfl, by rw [glue_at]; exact h2, h3⟩
theorem glueDCs : ∀ {d : List DC} {v : List Value}, (d.all DC.plain = true ∨ ∀ b, y.F b → F b) → RelDCs fn y d v → RelDCs fn (glue x y hl F) (d.map (DC.shift hl.length)) v
  | [], [], _, _ => by simp [RelDCs]
  | c :: r, v :: s, hp, h => by
    simp only [RelDCs, List.map_cons] at h ⊢
    simp only [List.all_cons, Bool.and_eq_true] at hp
    exact ⟨glueDC (hp.imp_left (·.1)) h.1, glueDCs (hp.imp_left (·.2)) h.2⟩
  | [], _ :: _, _, h => by simp [RelDCs] at h
  | _ :: _, [], _, h => by simp [RelDCs] at h
end

mutual
theorem glueV : ∀ {d : V} {v : Value}, (d.plain = true ∨ ∀ b, y.F b → F b) → RelV fn y d v → RelV fn (glue x y hl F) (d.shift hl.length) v
  | .s d, v, hp, h => by simp only [RelV, V.shift] at h ⊢; exact glueDC (hp.imp_left (by simp [V.plain])) h
  | .a u, v, hp, h => by
    simp only [RelV, V.shift] at h ⊢
    obtain ⟨cs, h1, h2⟩ := h
    refine ⟨cs, h1, ?_⟩
    rcases hp with hp | hF
    · exact relCs_flat (by simpa [V.plain] using hp) h2
    · exact RelCs.stay (fun b hb => ⟨hF b hb, rfl⟩) h2
  | .m l, v, hp, h => by
    simp only [RelV, V.shift] at h ⊢
    obtain ⟨cs, h1, h2⟩ := h
    exact ⟨cs, h1, glueDCs (hp.imp_left (by simp [V.plain])) h2⟩
  | .tup l, v, hp, h => by
    simp only [RelV, V.shift, V.shifts_eq] at h ⊢
    obtain ⟨vs, h1, h2⟩ := h
    refine ⟨vs, h1, glueVs (hp.imp_left (fun h => ?_)) h2⟩
    simpa only [V.plain, V.plains_eq] using h
  | .bot, v, hp, h => by simp [RelV, V.shift]
theorem glueVs : ∀ {d : List V} {v : List Value}, (d.all V.plain = true ∨ ∀ b, y.F b → F b) → RelVs fn y d v → RelVs fn (glue x y hl F) (d.map (V.shift hl.length)) v
  | [], [], _, _ => by simp [RelVs]
  | c :: r, v :: s, hp, h => by
    simp only [RelVs, List.map_cons] at h ⊢
    simp only [List.all_cons, Bool.and_eq_true] at hp
    exact ⟨glueV (hp.imp_left (·.1)) h.1, glueVs (hp.imp_left (·.2)) h.2⟩
  | [], _ :: _, _, h => by simp [RelVs] at h
  | _ :: _, [], _, h => by simp [RelVs] at h
end
end
end
end Go.Lx
