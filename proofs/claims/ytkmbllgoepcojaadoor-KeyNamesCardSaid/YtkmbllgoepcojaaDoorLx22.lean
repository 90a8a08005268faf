import Derived.Test.YtkmbllgoepcojaaDoorLx21
/- Every operation of the machine does what the L-language tells. -/
set_option linter.unusedVariables false
set_option linter.unusedSimpArgs false
namespace Go.Lx
section
variable {P : Program} {nm : FuncId → Option Nat} {x : Cx}

/-- an operation, done: what follows is told of a value, a memory, that K tells -/
def OpDid (P : Program) (nm : FuncId → Option Nat) (x : Cx) (o : Go.Oper) (a : Act) (K : V → List Root → Prop) : Prop :=
  ∀ (next : Act → World → Prop) (Q : Exit → Act → World → Prop), (∀ u x' v, Good (Fn_ nm) x' → Nx x.h.length x x' → RelV (Fn_ nm) x' v u → K v x'.h → next (a.put o.dst u) x'.w) → o.wp P a x.w next Q

theorem OpDid.mono {o : Go.Oper} {a : Act} {K K' : V → List Root → Prop} (hK : ∀ v h, K v h → K' v h) (h : OpDid P nm x o a K) : OpDid P nm x o a K' :=
  fun next Q hn => h next Q (fun u x' v h1 h2 h3 h4 => hn u x' v h1 h2 h3 (hK _ _ h4))

theorem Done.did {o : Go.Oper} {a : Act} {e : Sem Next} {K : V → List Root → Prop} (he : execOp a.eval o = e) (h : Done P nm x e K) : OpDid P nm x o a K := by
  intro next Q hn
  obtain ⟨nx, u, x', v, h1, h2, h3, h4, h5, h6⟩ := h
  unfold Oper.wp
  rw [he, h1]
  rcases h2 with rfl | ⟨rfl, rfl⟩
  · exact hn u x' v h3 h4 h5 h6
  · exact hn undef x' v h3 h4 h5 h6

theorem call_did (hg : Good (Fn_ nm) x) {o : Go.Oper} {a : Act} {k : FuncId} {f : Nat} (hk : nm k = some f) {args : List V} {us : Array Value} (hus : RelVs (Fn_ nm) x args us.toList) (he : ∀ w, (execOp a.eval o).run P w = (callFunc k us).run P w) {K : V → List Root → Prop} (h : callR (CallsRel P nm) f args x.h K) : OpDid P nm x o a K := by
  intro next Q hn
  unfold Oper.wp
  rw [he]
  rcases (callR_sound h).2 k hk x rfl hg us hus with ⟨u, w', h1, v, x', h2, h3, h4, h5, h6⟩ | ⟨h1, h2⟩
  · rw [h1]
    subst h2
    exact hn u x' v h3 h4 h5 h6
  · rw [h1]
    show Calls P k us x.w _
    refine h2.mono fun e w' h => ?_
    cases e with
    | returned u =>
      obtain ⟨v, x', h2, h3, h4, h5, h6⟩ := h
      subst h2
      exact hn u x' v h3 h4 h5 h6
    | panicked c => exact h.elim
    | outgrown => exact h.elim

theorem rels_append {fn : Nums} : ∀ {l l' : List V} {u u' : List Value}, RelVs fn x l u → RelVs fn x l' u' → RelVs fn x (l ++ l') (u ++ u')
  | [], l', [], u', _, h => h
  | a :: l, l', b :: u, u', h, h' => by simp only [RelVs, List.cons_append] at h ⊢; exact ⟨h.1, rels_append h.2 h'⟩
  | [], _, _ :: _, _, h, _ => by simp [RelVs] at h
  | _ :: _, _, [], _, h, _ => by simp [RelVs] at h
theorem rels_dc {fn : Nums} : ∀ {l : List DC} {u : List Value}, RelDCs fn x l u → RelVs fn x (l.map .s) u
  | [], [], _ => by simp [RelVs]
  | a :: l, b :: u, h => by simp only [RelDCs] at h; simp only [RelVs, List.map_cons, RelV]; exact ⟨h.1, rels_dc h.2⟩
  | [], _ :: _, h => by simp [RelDCs] at h
  | _ :: _, [], h => by simp [RelDCs] at h

theorem eff_sound (hg : Good (Fn_ nm) x) {s : St} {a : Act} (hT : RelT (Fn_ nm) x s a) {pr : Bool} {o : Go.Oper} {op : Op} (hl : lowOp P nm pr o.op = some op) (hp : op.isPure = false)
    (ht : op.xs.all (X.there s) = true) {K : V → List Root → Prop} (h : eff (CallsRel P nm) (X.val s) x.h K op) : OpDid P nm x o a K := by
  obtain ⟨dst, gop, ty, pos, after, guard⟩ := o
  simp only at hl
  cases gop <;> simp only [lowOp, reduceCtorEq] at hl
  case alloc t =>
    split at hl
    · cases hz : zeroD P t with
      | none => simp [hz] at hl
      | some z => simp only [hz, Option.map_some, Option.some.injEq] at hl; subst hl; exact Done.did rfl (allocx_sound hg hz h)
    · cases hz : zeroU P t with
      | none => simp [hz] at hl
      | some z => simp only [hz, Option.map_some, Option.some.injEq] at hl; subst hl; exact Done.did rfl (alloc_sound hg hz h)
  case box t y =>
    simp only [Option.bind_eq_bind, Option.bind_eq_some_iff, Option.pure_def, Option.some.injEq] at hl
    obtain ⟨n, h1, X, h2, rfl⟩ := hl
    simp only [Op.xs, List.all_cons, List.all_nil, Bool.and_true] at ht
    exact Done.did rfl (box_sound hg (xOf_rel hT h2 ht) h)
  case build t ps =>
    simp only [Option.bind_eq_bind, Option.bind_eq_some_iff] at hl
    obtain ⟨fs, h1, pl, h2, l, h3, h4⟩ := hl
    split at h4
    · simp only [Option.bind_eq_some_iff, Option.pure_def, Option.some.injEq] at h4
      obtain ⟨z, h5, rfl⟩ := h4
      cases hp
    · simp only [Option.bind_eq_some_iff, Option.pure_def, Option.some.injEq] at h4
      obtain ⟨z, h5, rfl⟩ := h4
      cases hp
  case buildSlice t n ps =>
    simp only [Option.bind_eq_bind, Option.bind_eq_some_iff] at hl
    obtain ⟨e, h1, z, h2, h3⟩ := hl
    split at h3
    · rename_i hc
      simp only [Option.bind_eq_some_iff, Option.pure_def, Option.some.injEq] at h3
      obtain ⟨l, h4, rfl⟩ := h3
      exact Done.did rfl (mkSl_sound hg hT h1 h2 hc.1 hc.2.1 hc.2.2 h4 (by simpa [Op.xs] using ht) (by exact h))
    · cases h3
  case store t y z =>
    simp only [Option.bind_eq_bind, Option.bind_eq_some_iff, Option.pure_def, Option.some.injEq] at hl
    obtain ⟨n, h1, A, h2, X, h3, rfl⟩ := hl
    simp only [Op.xs, List.all_cons, List.all_nil, Bool.and_true, Bool.and_eq_true] at ht
    exact Done.did rfl (store_sound hg h1 (xOf_rel hT h2 ht.1) (xOf_rel hT h3 ht.2) (by exact h))
  case lookup t m k ok =>
    split at hl
    · rename_i kt e hu
      simp only [Option.bind_eq_bind, Option.bind_eq_some_iff, Option.pure_def, Option.some.injEq] at hl
      obtain ⟨ks, h1, agg, h2, z, h3, M, h4, K', h5, rfl⟩ := hl
      simp only [Op.xs, List.all_cons, List.all_nil, Bool.and_true, Bool.and_eq_true] at ht
      exact Done.did rfl (lookup_sound hg hu h1 h2 h3 (xOf_rel hT h4 ht.1) (xOf_rel hT h5 ht.2) (by exact h))
    · cases hl
  case mapUpdate t m k y =>
    split at hl
    · rename_i kt e hu
      simp only [Option.bind_eq_bind, Option.bind_eq_some_iff, Option.pure_def, Option.some.injEq] at hl
      obtain ⟨ks, h1, agg, h2, M, h4, K', h5, Y, h6, rfl⟩ := hl
      simp only [Op.xs, List.all_cons, List.all_nil, Bool.and_true, Bool.and_eq_true] at ht
      exact Done.did rfl (mapUpd_sound hg hu h1 h2 (xOf_rel hT h4 ht.1) (xOf_rel hT h5 ht.2.1) (xOf_rel hT h6 ht.2.2) (by exact h))
    · cases hl
  case insert t m k y =>
    split at hl
    · rename_i kt e hu
      simp only [Option.bind_eq_bind, Option.bind_eq_some_iff, Option.pure_def, Option.some.injEq] at hl
      obtain ⟨ks, h1, agg, h2, M, h4, K', h5, Y, h6, rfl⟩ := hl
      simp only [Op.xs, List.all_cons, List.all_nil, Bool.and_true, Bool.and_eq_true] at ht
      exact Done.did rfl (mapUpd_sound hg hu h1 h2 (xOf_rel hT h4 ht.1) (xOf_rel hT h5 ht.2.1) (xOf_rel hT h6 ht.2.2) (by exact h))
    · cases hl
  case makeMap t r =>
    split at hl
    · rename_i k e hu
      cases hr : optM (xOf nm) r with
      | none => simp [hr] at hl
      | some R =>
        simp only [hr, Option.map_some, Option.some.injEq] at hl
        subst hl
        obtain ⟨h1, h2⟩ := optM_rel hT hr (by simpa [Op.xs] using ht)
        exact Done.did rfl (mkMap_sound hg ⟨k, e, hu⟩ h1 h2 (by exact h))
    · cases hl
  case makeSlice t l c =>
    simp only [Option.bind_eq_bind, Option.bind_eq_some_iff] at hl
    obtain ⟨e, h1, z, h2, h3⟩ := hl
    split at h3
    · rename_i hc
      simp only [Option.bind_eq_some_iff, Option.pure_def, Option.some.injEq] at h3
      obtain ⟨b, h4, L, h5, C, h6, rfl⟩ := h3
      simp only [Op.xs, List.all_cons, List.all_nil, Bool.and_true, Bool.and_eq_true] at ht
      exact Done.did rfl (mkRow_sound hg h1 h2 hc h4 (xOf_rel hT h5 ht.1) (xOf_rel hT h6 ht.2) (by exact h))
    · cases h3
  case slice t y lo hi mx =>
    simp only [Option.bind_eq_bind, Option.bind_eq_some_iff] at hl
    obtain ⟨lo', h1, hi', h2, mx', h3, h4⟩ := hl
    split at h4
    · simp only [Option.bind_eq_some_iff, Option.pure_def, Option.some.injEq] at h4
      obtain ⟨A, h5, rfl⟩ := h4
      cases hp
    · simp only [Option.bind_eq_some_iff, Option.pure_def, Option.some.injEq] at h4
      obtain ⟨n, h5, A, h6, rfl⟩ := h4
      cases hp
    · cases h4
  case call c =>
    obtain ⟨callee, args, tys⟩ := c
    simp only at hl
    split at hl
    · rename_i b
      unfold lowBuiltin at hl
      split at hl
      · split at hl
        · rw [Option.map_eq_some_iff] at hl
          obtain ⟨_, _, rfl⟩ := hl
          cases hp
        · rw [Option.map_eq_some_iff] at hl
          obtain ⟨_, _, rfl⟩ := hl
          cases hp
        · cases hl
      · simp only [Option.bind_eq_bind, Option.bind_eq_some_iff, Option.pure_def, Option.some.injEq] at hl
        obtain ⟨A, h1, B, h2, rfl⟩ := hl
        cases hp
      · simp only [Option.bind_eq_bind, Option.bind_eq_some_iff, Option.pure_def, Option.some.injEq] at hl
        obtain ⟨A, h1, B, h2, rfl⟩ := hl
        cases hp
      · rename_i y z t t' ha htys
        have harg : args.map a.eval = #[a.eval y, a.eval z] := by
          apply Array.ext'
          simp [ha]
        have htt : tys = #[t, t'] := by
          apply Array.ext'
          simp [htys]
        subst htt
        simp only [Option.bind_eq_bind, Option.bind_eq_some_iff] at hl
        obtain ⟨e, h1, e', h2, zz, h3, h4⟩ := hl
        split at h4
        · rename_i hc
          simp only [Option.bind_eq_some_iff, Option.pure_def, Option.some.injEq] at h4
          obtain ⟨bb, h5, A, h6, B, h7, rfl⟩ := h4
          simp only [Op.xs, List.all_cons, List.all_nil, Bool.and_true, Bool.and_eq_true] at ht
          refine Done.did ?_ (append_sound (ty := ty) hg h1 h2 h3 hc h5 (xOf_rel hT h6 ht.1) (xOf_rel hT h7 ht.2) (by exact h))
          simp only [execOp, resolve, harg, invoke, builtin, pure_bind]
        · cases h4
      · rename_i y z t t' ha htys
        have harg : args.map a.eval = #[a.eval y, a.eval z] := by
          apply Array.ext'
          simp [ha]
        have htt : tys = #[t, t'] := by
          apply Array.ext'
          simp [htys]
        subst htt
        simp only [Option.bind_eq_bind, Option.bind_eq_some_iff, Option.pure_def, Option.some.injEq] at hl
        obtain ⟨e, h1, e', h2, n, h3, A, h4, B, h5, rfl⟩ := hl
        simp only [Op.xs, List.all_cons, List.all_nil, Bool.and_true, Bool.and_eq_true] at ht
        refine Done.did ?_ (copy_sound (ty := ty) (t' := t') hg h1 h3 (xOf_rel hT h4 ht.1) (xOf_rel hT h5 ht.2) (by exact h))
        simp only [execOp, resolve, harg, invoke, builtin, pure_bind]
      · cases hl
    · rename_i k
      simp only [Option.bind_eq_bind, Option.bind_eq_some_iff, Option.pure_def, Option.some.injEq] at hl
      obtain ⟨f, h1, Xs, h2, rfl⟩ := hl
      simp only [Op.xs] at ht
      have hr := xs_rel hT h2 ht
      refine call_did hg h1 (us := args.map a.eval) (by simpa using hr) (fun w => ?_) (by exact h)
      simp [execOp, resolve, Deferred.ofValue, Act.eval, invoke]
    · rename_i y _
      simp only [Option.bind_eq_bind, Option.bind_eq_some_iff, Option.pure_def, Option.some.injEq] at hl
      obtain ⟨X, h1, Xs, h2, rfl⟩ := hl
      simp only [Op.xs, List.all_cons, Bool.and_eq_true] at ht
      have hr := xs_rel hT h2 ht.2
      have hx := xOf_rel hT h1 ht.1
      simp only [eff] at h
      split at h
      · rename_i f p q hX
        rw [hX] at hx
        simp only [RelV, RelDC] at hx
        obtain ⟨k, fs, cs, h3, h4, h5, h6⟩ := hx
        refine call_did hg h4 (us := fs ++ args.map a.eval ++ cs) ?_ (fun w => ?_) h
        · simpa [List.append_assoc] using rels_append (rels_append (rels_dc h5) hr) (rels_dc h6)
        · simp [execOp, resolve, Deferred.ofValue, h3, invoke]
      · exact h.elim
    · cases hl
  case move y => rw [Option.map_eq_some_iff] at hl; obtain ⟨_, _, rfl⟩ := hl; cases hp
  case assign y => rw [Option.map_eq_some_iff] at hl; obtain ⟨_, _, rfl⟩ := hl; cases hp
  case nilCheck y => rw [Option.map_eq_some_iff] at hl; obtain ⟨_, _, rfl⟩ := hl; cases hp
  case unOp q t y => rw [Option.map_eq_some_iff] at hl; obtain ⟨_, _, rfl⟩ := hl; cases hp
  case makeInterface t y =>
    split at hl
    · cases hl
    · rw [Option.map_eq_some_iff] at hl; obtain ⟨_, _, rfl⟩ := hl; cases hp
    · cases hl
  case extract y i => rw [Option.map_eq_some_iff] at hl; obtain ⟨_, _, rfl⟩ := hl; cases hp
  case pick =>
    simp only [Option.bind_eq_bind, Option.bind_eq_some_iff, Option.pure_def, Option.some.injEq] at hl
    obtain ⟨_, _, _, _, _, _, rfl⟩ := hl
    cases hp
  case load =>
    simp only [Option.bind_eq_bind, Option.bind_eq_some_iff, Option.pure_def, Option.some.injEq] at hl
    obtain ⟨_, _, _, _, _, _, rfl⟩ := hl
    cases hp
  case binOp =>
    simp only [Option.bind_eq_bind, Option.bind_eq_some_iff, Option.pure_def, Option.some.injEq] at hl
    obtain ⟨_, _, _, _, _, _, rfl⟩ := hl
    cases hp
  case convert =>
    simp only [Option.bind_eq_bind, Option.bind_eq_some_iff, Option.pure_def, Option.some.injEq] at hl
    obtain ⟨_, _, _, _, rfl⟩ := hl
    cases hp
  case makeFunc f p q =>
    cases f with
    | func k =>
      simp only [lowOp, Option.bind_eq_bind, Option.bind_eq_some_iff, Option.pure_def, Option.some.injEq] at hl
      obtain ⟨_, _, _, _, _, _, rfl⟩ := hl
      cases hp
    | _ => simp [lowOp] at hl
  case fieldAddr =>
    simp only [Option.bind_eq_bind, Option.bind_eq_some_iff] at hl
    obtain ⟨_, _, _, _, _, _, hl⟩ := hl
    split at hl
    · cases hl
    · simp only [Option.bind_eq_some_iff, Option.pure_def, Option.some.injEq] at hl
      obtain ⟨_, _, rfl⟩ := hl
      cases hp
  case field =>
    simp only [Option.bind_eq_bind, Option.bind_eq_some_iff, Option.pure_def, Option.some.injEq] at hl
    obtain ⟨_, _, _, _, _, _, _, _, _, _, rfl⟩ := hl
    cases hp
  case indexAddr =>
    simp only [Option.bind_eq_bind, Option.bind_eq_some_iff, Option.pure_def, Option.some.injEq] at hl
    obtain ⟨_, _, _, _, _, _, _, _, rfl⟩ := hl
    cases hp
  case index =>
    split at hl
    · simp only [Option.bind_eq_bind, Option.bind_eq_some_iff, Option.pure_def, Option.some.injEq] at hl
      obtain ⟨_, _, _, _, rfl⟩ := hl
      cases hp
    · cases hl
end
end Go.Lx
