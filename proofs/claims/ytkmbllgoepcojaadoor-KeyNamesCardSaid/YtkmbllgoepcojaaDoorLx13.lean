import Derived.Test.YtkmbllgoepcojaaDoorLx12
/- A pure operation of the machine makes the value that the L-language tells. -/
set_option linter.unusedVariables false
set_option linter.unusedSimpArgs false
namespace Go.Lx
section
variable {P : Program} {nm : FuncId → Option Nat} {x : Cx}

theorem optM_rel {s : St} {a : Act} (hT : RelT (Fn_ nm) x s a) {o : Option Operand} {Y : Option X} (h : optM (xOf nm) o = some Y) (ht : Y.toList.all (fun y => y.there s) = true) :
    (∀ v, Y.map (fun y => y.val s) = some v → ∃ u, o.map a.eval = some u ∧ RelV (Fn_ nm) x v u) ∧ (Y.map (fun y => y.val s) = none → o.map a.eval = none) := by
  cases o with
  | none =>
    simp only [optM, Option.some.injEq] at h
    subst h
    simp
  | some o =>
    simp only [optM] at h
    cases hx : xOf nm o with
    | none => simp [hx] at h
    | some y =>
      simp only [hx, Option.map_some, Option.some.injEq] at h
      subst h
      simp only [Option.toList_some, List.all_cons, List.all_nil, Bool.and_true] at ht
      refine ⟨fun v hv => ?_, by simp⟩
      simp only [Option.map_some, Option.some.injEq] at hv ⊢
      subst hv
      exact ⟨_, rfl, xOf_rel hT hx ht⟩

theorem run_v {e : Sem Value} {r : Value} {w w' : World} (h : e.run P w = .ok r w') : (do pure (.value (← e)) : Sem Next).run P w = .ok (.value r) w' := by simp [h]

theorem aggT_some {t : TypeId} {b : Bool} (h : aggT P t = some b) : ∃ d, P.underlying t = some d ∧ aggD d = b := by
  unfold aggT at h
  cases hd : P.underlying t with
  | none => simp [hd] at h
  | some d => simp [hd] at h; exact ⟨d, rfl, h⟩

theorem pure_sound (hg : Good (Fn_ nm) x) {h0 : List Root} (hh : h0 <+: x.h) {s : St} {a : Act} (hT : RelT (Fn_ nm) x s a) {pr : Bool} {o : Go.Oper} {op : Op} (hl : lowOp P nm pr o.op = some op) (hp : op.isPure = true)
    {v : V} (hv : pv (X.val s) h0 op = some v) (ht : op.xs.all (X.there s) = true) (hc : pvc (X.there s) (X.val s) h0 op) :
    ∃ r, (execOp a.eval o).run P x.w = .ok (.value r) x.w ∧ RelV (Fn_ nm) x v r := by
  obtain ⟨dst, gop, ty, pos, after, guard⟩ := o
  simp only at hl
  cases gop <;> simp only [lowOp, reduceCtorEq] at hl
  case move y =>
    cases hy : xOf nm y with
    | none => simp [hy] at hl
    | some X =>
      simp only [hy, Option.map_some, Option.some.injEq] at hl
      subst hl
      simp only [pv, Option.some.injEq] at hv
      subst hv
      simp only [Op.xs, List.all_cons, List.all_nil, Bool.and_true] at ht
      exact ⟨_, rfl, xOf_rel hT hy ht⟩
  case assign y =>
    cases hy : xOf nm y with
    | none => simp [hy] at hl
    | some X =>
      simp only [hy, Option.map_some, Option.some.injEq] at hl
      subst hl
      simp only [pv, Option.some.injEq] at hv
      subst hv
      simp only [Op.xs, List.all_cons, List.all_nil, Bool.and_true] at ht
      exact ⟨_, rfl, xOf_rel hT hy ht⟩
  case pick c p q =>
    simp only [Option.bind_eq_bind, Option.bind_eq_some_iff, Option.pure_def, Option.some.injEq] at hl
    obtain ⟨C, hC, A, hA, B, hB, rfl⟩ := hl
    simp only [Op.xs, List.all_cons, List.all_nil, Bool.and_true] at ht
    obtain ⟨r, h1, h2⟩ := pick_sound (P := P) (xOf_rel hT hC ht) (fun h => xOf_rel hT hA h) (fun h => xOf_rel hT hB h) hv hc
    refine ⟨r, ?_, h2⟩
    simp only [execOp]
    have := h1
    simp only [Sem.run_bind, Sem.run_pure] at this ⊢
    cases hb : (asBool (a.eval c)).run P x.w with
    | ok b w' => rw [hb] at this; simp only [Result.andThen_ok, Result.ok.injEq] at this ⊢; exact ⟨by rw [this.1], this.2⟩
    | halt h w' => rw [hb] at this; simp at this
  case alloc t =>
    split at hl
    · cases hz : zeroD P t with
      | none => simp [hz] at hl
      | some z => simp only [hz, Option.map_some, Option.some.injEq] at hl; subst hl; cases hp
    · cases hz : zeroU P t with
      | none => simp [hz] at hl
      | some z => simp only [hz, Option.map_some, Option.some.injEq] at hl; subst hl; cases hp
  case box t y =>
    simp only [Option.bind_eq_bind, Option.bind_eq_some_iff, Option.pure_def, Option.some.injEq] at hl
    obtain ⟨n, h1, X, h2, rfl⟩ := hl
    cases hp
  case build t ps =>
    simp only [Option.bind_eq_bind, Option.bind_eq_some_iff] at hl
    obtain ⟨fs, h1, pl, h2, l, h3, h4⟩ := hl
    have hrun : ∀ {r : Value}, (Instr.build t (ps.map fun (i, y) => (i, a.eval y))).run P x.w = .ok r x.w → (execOp a.eval ⟨dst, .build t ps, ty, pos, after, guard⟩).run P x.w = .ok (.value r) x.w := fun h => run_v h
    split at h4
    · simp only [Option.bind_eq_some_iff, Option.pure_def, Option.some.injEq] at h4
      obtain ⟨z, h5, rfl⟩ := h4
      simp only [pv, Option.map_eq_some_iff] at hv
      obtain ⟨r, h6, rfl⟩ := hv
      unfold zeroD at h5
      cases hz : zeroV P t with
      | none => simp [hz] at h5
      | some zz =>
        simp only [hz, Option.bind_some] at h5
        obtain ⟨q, k1, k2⟩ := (build_sound hT h1 h2 hz h3 (by simpa [Op.xs] using ht)).2 z r h5 h6
        exact ⟨q, hrun k1, k2⟩
    · simp only [Option.bind_eq_some_iff, Option.pure_def, Option.some.injEq] at h4
      obtain ⟨z, h5, rfl⟩ := h4
      simp only [pv, Option.map_eq_some_iff] at hv
      obtain ⟨r, h6, rfl⟩ := hv
      unfold zeroU at h5
      cases hz : zeroV P t with
      | none => simp [hz] at h5
      | some zz =>
        simp only [hz, Option.bind_some] at h5
        obtain ⟨q, k1, k2⟩ := (build_sound hT h1 h2 hz h3 (by simpa [Op.xs] using ht)).1 z r h5 h6
        exact ⟨q, hrun k1, k2⟩
  case buildSlice t n ps =>
    simp only [Option.bind_eq_bind, Option.bind_eq_some_iff] at hl
    obtain ⟨e, h1, z, h2, h3⟩ := hl
    split at h3
    · simp only [Option.bind_eq_some_iff, Option.pure_def, Option.some.injEq] at h3
      obtain ⟨l, h4, rfl⟩ := h3
      cases hp
    · cases h3
  case load t y =>
    simp only [Option.bind_eq_bind, Option.bind_eq_some_iff, Option.pure_def, Option.some.injEq] at hl
    obtain ⟨n, h1, agg, h2, X, h3, rfl⟩ := hl
    simp only [Op.xs, List.all_cons, List.all_nil, Bool.and_true] at ht
    obtain ⟨r, k1, k2⟩ := load_sound hg hh h1 h2 (xOf_rel hT h3 ht) hv hc
    exact ⟨r, run_v k1, k2⟩
  case makeInterface t y =>
    split at hl
    · cases hl
    · rename_i d hnot hu
      rw [Option.map_eq_some_iff] at hl
      obtain ⟨X, hX, rfl⟩ := hl
      simp only [Op.xs, List.all_cons, List.all_nil, Bool.and_true] at ht
      have hr := xOf_rel hT hX ht
      simp only [pv] at hv
      generalize Lx.X.val s X = A at hv hr
      cases A with
      | s dd =>
        simp only [pvMkIf, Option.some.injEq] at hv
        subst hv
        simp only [RelV] at hr
        refine ⟨.iface t (a.eval y), run_v ?_, by simp only [RelV, RelDC]; exact ⟨_, rfl, hr⟩⟩
        simp [Instr.makeInterface, run_underlying hu]
      | _ => simp [pvMkIf] at hv
    · cases hl
  case lookup t m k ok =>
    split at hl
    · simp only [Option.bind_eq_bind, Option.bind_eq_some_iff, Option.pure_def, Option.some.injEq] at hl
      obtain ⟨_, _, _, _, _, _, _, _, _, _, rfl⟩ := hl
      cases hp
    · cases hl
  case mapUpdate t m k y =>
    split at hl
    · simp only [Option.bind_eq_bind, Option.bind_eq_some_iff, Option.pure_def, Option.some.injEq] at hl
      obtain ⟨_, _, _, _, _, _, _, _, _, _, rfl⟩ := hl
      cases hp
    · cases hl
  case insert t m k y =>
    split at hl
    · simp only [Option.bind_eq_bind, Option.bind_eq_some_iff, Option.pure_def, Option.some.injEq] at hl
      obtain ⟨_, _, _, _, _, _, _, _, _, _, rfl⟩ := hl
      cases hp
    · cases hl
  case store t y z =>
    simp only [Option.bind_eq_bind, Option.bind_eq_some_iff, Option.pure_def, Option.some.injEq] at hl
    obtain ⟨n, h1, A, h2, X, h3, rfl⟩ := hl
    cases hp
  case nilCheck y =>
    cases hy : xOf nm y with
    | none => simp [hy] at hl
    | some X =>
      simp only [hy, Option.map_some, Option.some.injEq] at hl
      subst hl
      simp only [Op.xs, List.all_cons, List.all_nil, Bool.and_true] at ht
      obtain ⟨k1, k2⟩ := nilchk_sound (P := P) (xOf_rel hT hy ht) hv
      exact ⟨_, k1, k2⟩
  case binOp op t y z yt =>
    simp only [Option.bind_eq_bind, Option.bind_eq_some_iff, Option.pure_def, Option.some.injEq] at hl
    obtain ⟨b, h1, A, h2, B, h3, rfl⟩ := hl
    simp only [Op.xs, List.all_cons, List.all_nil, Bool.and_true, Bool.and_eq_true] at ht
    have rA := xOf_rel hT h2 ht.1
    have rB := xOf_rel hT h3 ht.2
    have fin : ∀ {w : V}, (∃ r, (do eqGuard op t y z (a.eval y) (a.eval z); binOp op t (a.eval y) (a.eval z) : Sem Value).run P x.w = .ok r x.w ∧ RelV (Fn_ nm) x w r) →
        ∃ r, (execOp a.eval ⟨dst, .binOp op t y z yt, ty, pos, after, guard⟩).run P x.w = .ok (.value r) x.w ∧ RelV (Fn_ nm) x w r := fun ⟨r, k1, k2⟩ => ⟨r, run_v k1, k2⟩
    unfold binT at h1
    split at h1
    · injection h1 with h1; subst h1; exact fin (bin_sound rA rB hv hc)
    · injection h1 with h1; subst h1; exact fin (bin_sound rA rB hv hc)
    · injection h1 with h1; subst h1; exact fin (bin_sound rA rB hv hc)
    · rename_i hk
      split at h1 <;> simp only [Option.some.injEq, reduceCtorEq] at h1
      · subst h1; exact fin (eqb_sound (pos := true) (kindT_bool hk) rA rB hv)
      · subst h1; exact fin (eqb_sound (pos := false) (kindT_bool hk) rA rB hv)
    · rename_i hk
      have hst : ∃ fs, P.underlying t = some (.struct fs) := by
        unfold kindT at hk
        split at hk <;> first | (cases hk; done) | skip
        all_goals first | exact ⟨_, ‹_›⟩ | cases hk
      split at h1
      · rename_i hgt
        split at h1
        · simp only [Option.map_eq_some_iff] at h1
          obtain ⟨ks, h4, rfl⟩ := h1
          exact fin (eqs_sound (pos := true) hgt h4 hst rA rB hv hc)
        · simp only [Option.map_eq_some_iff] at h1
          obtain ⟨ks, h4, rfl⟩ := h1
          exact fin (eqs_sound (pos := false) hgt h4 hst rA rB hv hc)
        · cases h1
      · cases h1
    · rename_i hk
      have hst : ∃ e, P.underlying t = some (.pointer e) := by
        unfold kindT at hk
        split at hk <;> first | (cases hk; done) | skip
        all_goals first | exact ⟨_, ‹_›⟩ | cases hk
      split at h1 <;> simp only [Option.some.injEq, reduceCtorEq] at h1
      · subst h1; exact fin (eqn_sound (pos := true) (.inl ⟨rfl, hst⟩) rA rB hv)
      · subst h1; exact fin (eqn_sound (pos := false) (.inl ⟨rfl, hst⟩) rA rB hv)
    · rename_i hk
      have hst : ∃ a b c, P.underlying t = some (.func a b c) := by
        unfold kindT at hk
        split at hk <;> first | (cases hk; done) | skip
        all_goals first | exact ⟨_, _, _, ‹_›⟩ | cases hk
      split at h1 <;> simp only [Option.some.injEq, reduceCtorEq] at h1
      · subst h1; exact fin (eqn_sound (pos := true) (.inr ⟨rfl, hst⟩) rA rB hv)
      · subst h1; exact fin (eqn_sound (pos := false) (.inr ⟨rfl, hst⟩) rA rB hv)
    · cases h1
  case unOp op t y =>
    cases hy : xOf nm y with
    | none => simp [hy] at hl
    | some X =>
      simp only [hy, Option.map_some, Option.some.injEq] at hl
      subst hl
      simp only [Op.xs, List.all_cons, List.all_nil, Bool.and_true] at ht
      obtain ⟨r, k1, k2⟩ := un_sound (P := P) (xOf_rel hT hy ht) hv
      exact ⟨r, run_v k1, k2⟩
  case convert s' d y =>
    simp only [Option.bind_eq_bind, Option.bind_eq_some_iff, Option.pure_def, Option.some.injEq] at hl
    obtain ⟨c, h1, X, h2, rfl⟩ := hl
    simp only [Op.xs, List.all_cons, List.all_nil, Bool.and_true] at ht
    obtain ⟨r, k1, k2⟩ := conv_sound (P := P) h1 (xOf_rel hT h2 ht) hv
    exact ⟨r, run_v k1, k2⟩
  case makeFunc f p q =>
    cases f <;> simp only [lowOp, reduceCtorEq] at hl
    simp only [Option.bind_eq_bind, Option.bind_eq_some_iff, Option.pure_def, Option.some.injEq] at hl
    obtain ⟨k, h1, A, h2, B, h3, rfl⟩ := hl
    simp only [Op.xs, List.all_append, Bool.and_eq_true] at ht
    simp only [pv, pvMkFn] at hv
    split at hv
    · rename_i pd qd e1 e2
      injection hv with hv
      subst hv
      refine ⟨_, by simp only [execOp, Instr.makeFunc]; rfl, ?_⟩
      simp only [RelV, RelDC]
      refine ⟨_, _, _, rfl, h1, ?_, ?_⟩
      · have := xs_dc (xs_rel hT h2 ht.1) e1
        simpa using this
      · have := xs_dc (xs_rel hT h3 ht.2) e2
        simpa using this
    · cases hv
  case makeMap t r =>
    split at hl
    · cases hr : optM (xOf nm) r with
      | none => simp [hr] at hl
      | some z => simp only [hr, Option.map_some, Option.some.injEq] at hl; subst hl; cases hp
    · cases hl
  case makeSlice t l c =>
    simp only [Option.bind_eq_bind, Option.bind_eq_some_iff] at hl
    obtain ⟨e, h1, z, h2, h3⟩ := hl
    split at h3
    · simp only [Option.bind_eq_some_iff, Option.pure_def, Option.some.injEq] at h3
      obtain ⟨_, _, _, _, _, _, rfl⟩ := h3
      cases hp
    · cases h3
  case slice t y lo hi mx =>
    simp only [Option.bind_eq_bind, Option.bind_eq_some_iff] at hl
    obtain ⟨lo', h1, hi', h2, mx', h3, h4⟩ := hl
    split at h4
    · rename_i hu
      simp only [Option.bind_eq_some_iff, Option.pure_def, Option.some.injEq] at h4
      obtain ⟨X, h5, rfl⟩ := h4
      simp only [Op.xs, List.all_cons, List.all_append, Bool.and_eq_true] at ht
      obtain ⟨l1, l2⟩ := optM_rel hT h1 ht.2.1
      obtain ⟨u1, u2⟩ := optM_rel hT h2 ht.2.2
      have hmx : mx = none := by
        cases mx with
        | none => rfl
        | some m => simp only [optM] at h3; cases hx : xOf nm m <;> simp [hx] at h3
      subst hmx
      obtain ⟨r, k1, k2⟩ := sliceS_sound (P := P) hu (xOf_rel hT h5 ht.1) l1 l2 u1 u2 hv hc
      exact ⟨r, run_v k1, k2⟩
    · rename_i d e hu
      simp only [Option.bind_eq_some_iff, Option.pure_def, Option.some.injEq] at h4
      obtain ⟨n, h5, X, h6, rfl⟩ := h4
      simp only [Op.xs, List.all_cons, List.all_append, Bool.and_eq_true] at ht
      obtain ⟨l1, l2⟩ := optM_rel hT h1 ht.2.1.1
      obtain ⟨u1, u2⟩ := optM_rel hT h2 ht.2.1.2
      obtain ⟨m1, m2⟩ := optM_rel hT h3 ht.2.2
      obtain ⟨r, k1, k2⟩ := slice_sound (P := P) hu h5 (xOf_rel hT h6 ht.1) l1 l2 u1 u2 m1 m2 hv hc
      exact ⟨r, run_v k1, k2⟩
    · cases h4
  case fieldAddr t y j =>
    simp only [Option.bind_eq_bind, Option.bind_eq_some_iff] at hl
    obtain ⟨fs, h1, f, h2, n, h3, h4⟩ := hl
    split at h4
    · cases h4
    · rename_i hn
      simp only [Option.bind_eq_some_iff, Option.pure_def, Option.some.injEq] at h4
      obtain ⟨X, h5, rfl⟩ := h4
      simp only [Op.xs, List.all_cons, List.all_nil, Bool.and_true] at ht
      obtain ⟨g, o, k⟩ := fld_sound (xOf_rel hT h5 ht) hv
      rcases k with ⟨k1, k2⟩ | ⟨p, k1, k2⟩
      · refine ⟨_, run_v (e := Instr.fieldAt t (a.eval y) j) (by rw [k1]; exact fieldAt_run h1 h2 h3 hn _ _), ?_⟩
        rw [add_none]
        exact k2
      · exact ⟨_, run_v (e := Instr.fieldAt t (a.eval y) j) (by rw [k1]; exact fieldAt_run h1 h2 h3 hn _ _), k2 _⟩
  case field t y j =>
    simp only [Option.bind_eq_bind, Option.bind_eq_some_iff, Option.pure_def, Option.some.injEq] at hl
    obtain ⟨fs, h1, f, h2, n, h3, agg, h4, X, h5, rfl⟩ := hl
    simp only [Op.xs, List.all_cons, List.all_nil, Bool.and_true] at ht
    obtain ⟨r, k1, k2⟩ := fldv_sound (P := P) h1 h2 h3 h4 (xOf_rel hT h5 ht) hv
    exact ⟨r, run_v k1, k2⟩
  case indexAddr t y i =>
    simp only [Option.bind_eq_bind, Option.bind_eq_some_iff, Option.pure_def, Option.some.injEq] at hl
    obtain ⟨e, h1, n, h2, X, h3, I, h4, rfl⟩ := hl
    simp only [Op.xs, List.all_cons, List.all_nil, Bool.and_true, Bool.and_eq_true] at ht
    obtain ⟨r, k1, k2⟩ := idxA_sound (P := P) h1 h2 (xOf_rel hT h3 ht.1) (xOf_rel hT h4 ht.2) hv hc
    exact ⟨r, run_v k1, k2⟩
  case index t y i =>
    split at hl
    · rename_i hu
      simp only [Option.bind_eq_bind, Option.bind_eq_some_iff, Option.pure_def, Option.some.injEq] at hl
      obtain ⟨X, h3, I, h4, rfl⟩ := hl
      simp only [Op.xs, List.all_cons, List.all_nil, Bool.and_true, Bool.and_eq_true] at ht
      obtain ⟨r, k1, k2⟩ := idxS_sound (P := P) hu (xOf_rel hT h3 ht.1) (xOf_rel hT h4 ht.2) hv hc
      exact ⟨r, run_v k1, k2⟩
    · cases hl
  case extract y i =>
    cases hy : xOf nm y with
    | none => simp [hy] at hl
    | some X =>
      simp only [hy, Option.map_some, Option.some.injEq] at hl
      subst hl
      simp only [Op.xs, List.all_cons, List.all_nil, Bool.and_true] at ht
      obtain ⟨r, k1, k2⟩ := extract_sound (P := P) (xOf_rel hT hy ht) hv
      exact ⟨r, run_v k1, k2⟩
  case call c =>
    obtain ⟨callee, args, tys⟩ := c
    cases callee with
    | invoke => simp at hl
    | value f =>
      cases f <;> simp only [Option.bind_eq_bind, Option.bind_eq_some_iff, Option.pure_def, Option.some.injEq] at hl
      all_goals
        obtain ⟨_, _, _, _, rfl⟩ := hl
        cases hp
    | builtin b =>
      simp only [lowBuiltin] at hl
      have hexec : ∀ (e : Sem Value), (∀ r, e.run P x.w = .ok r x.w → (do let v ← e; pure (Next.value v) : Sem Next).run P x.w = .ok (.value r) x.w) := fun e r h => run_v h
      split at hl
      · rename_i y t rest ha hts
        have htt : tys[0]? = some t := by rw [← Array.getElem?_toList, hts]; rfl
        have harg : args.map a.eval = #[a.eval y] := by
          apply Array.ext'
          simp [ha]
        split at hl
        · rename_i hu
          cases hy : xOf nm y with
          | none => simp [hy] at hl
          | some X =>
            simp only [hy, Option.map_some, Option.some.injEq] at hl
            subst hl
            simp only [Op.xs, List.all_cons, List.all_nil, Bool.and_true] at ht
            obtain ⟨r, k1, k2⟩ := len_sound (P := P) (ty := ty) (ts := []) (.inl ⟨rfl, hu⟩) (xOf_rel hT hy ht) hv htt
            refine ⟨r, ?_, k2⟩
            simp only [execOp, resolve, Sem.run_bind, Sem.run_pure, Result.andThen_ok, invoke, builtin, harg, k1]
        · rename_i e hu
          cases hy : xOf nm y with
          | none => simp [hy] at hl
          | some X =>
            simp only [hy, Option.map_some, Option.some.injEq] at hl
            subst hl
            simp only [Op.xs, List.all_cons, List.all_nil, Bool.and_true] at ht
            obtain ⟨r, k1, k2⟩ := len_sound (P := P) (ty := ty) (ts := []) (.inr ⟨rfl, e, hu⟩) (xOf_rel hT hy ht) hv htt
            refine ⟨r, ?_, k2⟩
            simp only [execOp, resolve, Sem.run_bind, Sem.run_pure, Result.andThen_ok, invoke, builtin, harg, k1]
        · cases hl
      · rename_i ts y z ha
        have harg : args.map a.eval = #[a.eval y, a.eval z] := by
          apply Array.ext'
          simp [ha]
        simp only [Option.bind_eq_bind, Option.bind_eq_some_iff, Option.pure_def, Option.some.injEq] at hl
        obtain ⟨A, h1, B, h2, rfl⟩ := hl
        simp only [Op.xs, List.all_cons, List.all_nil, Bool.and_true, Bool.and_eq_true] at ht
        obtain ⟨r, k1, k2⟩ := max_sound (P := P) (mx := true) (ts := tys) (ty := ty) (xOf_rel hT h1 ht.1) (xOf_rel hT h2 ht.2) hv
        refine ⟨r, ?_, k2⟩
        simp only [if_true] at k1
        simp only [execOp, resolve, Sem.run_bind, Sem.run_pure, Result.andThen_ok, invoke, builtin, harg, k1]
      · rename_i ts y z ha
        have harg : args.map a.eval = #[a.eval y, a.eval z] := by
          apply Array.ext'
          simp [ha]
        simp only [Option.bind_eq_bind, Option.bind_eq_some_iff, Option.pure_def, Option.some.injEq] at hl
        obtain ⟨A, h1, B, h2, rfl⟩ := hl
        simp only [Op.xs, List.all_cons, List.all_nil, Bool.and_true, Bool.and_eq_true] at ht
        obtain ⟨r, k1, k2⟩ := max_sound (P := P) (mx := false) (ts := tys) (ty := ty) (xOf_rel hT h1 ht.1) (xOf_rel hT h2 ht.2) hv
        refine ⟨r, ?_, k2⟩
        simp only [Bool.false_eq_true, if_false] at k1
        simp only [execOp, resolve, Sem.run_bind, Sem.run_pure, Result.andThen_ok, invoke, builtin, harg, k1]
      · simp only [Option.bind_eq_bind, Option.bind_eq_some_iff] at hl
        obtain ⟨e, h1, e', h2, z, h3, h4⟩ := hl
        split at h4
        · simp only [Option.bind_eq_some_iff, Option.pure_def, Option.some.injEq] at h4
          obtain ⟨_, _, _, _, _, _, rfl⟩ := h4
          cases hp
        · cases h4
      · simp only [Option.bind_eq_bind, Option.bind_eq_some_iff, Option.pure_def, Option.some.injEq] at hl
        obtain ⟨_, _, _, _, _, _, _, _, _, _, rfl⟩ := hl
        cases hp
      · cases hl
end
end Go.Lx
