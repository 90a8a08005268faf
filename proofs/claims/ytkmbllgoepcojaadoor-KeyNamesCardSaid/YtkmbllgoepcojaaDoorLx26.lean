import Derived.Test.YtkmbllgoepcojaaDoorLx25
/- Regions without an order: one operation, at any time. -/
set_option linter.unusedVariables false
set_option linter.unusedSimpArgs false
namespace Go.Lx

/-! ### operations that look at no heap; loads -/
theorem pv_nheap {ρ : X → V} {h h' : List Root} {op : Op} (hc : op.cls = .n) : pv ρ h op = pv ρ h' op := by
  cases op <;> first | rfl | (simp [Op.cls] at hc)
theorem pvc_nheap {θ : X → Bool} {ρ : X → V} {h h' : List Root} {op : Op} (hc : op.cls = .n) : pvc θ ρ h op = pvc θ ρ h' op := by
  cases op
  case bin op x y => cases op <;> rfl
  all_goals first | rfl | (exfalso; simp [Op.cls] at hc; done)
theorem cls_r {op : Op} (h : op.cls = .r) : (∃ n agg y, op = .load n agg y) ∨ (op.isPure = false ∧ op.isCall = false ∧ ∀ {O h0 dst g s K}, wpOpA O h0 ⟨dst, op, g⟩ s K → False) := by
  cases op <;> simp [Op.cls] at h
  case load n agg y => exact .inl ⟨n, agg, y, rfl⟩
  case lookup => exact .inr ⟨rfl, rfl, fun H => H.2⟩

/-- heaps that are alike where a value points -/
def alikeAt (h h' : List Root) (v : V) : Prop := ∀ id, v.box = some id → ∀ r, h[id]? = some r → h'[id]? = some r
theorem load_alike {h h' : List Root} {A : V} (ha : alikeAt h h' A) {n : Nat} {agg : Bool} {v : V} (hp : pvLoad h n agg A = some v) (hc : vcLoad h A) : pvLoad h' n agg A = some v ∧ vcLoad h' A := by
  cases A with
  | s d =>
    cases d with
    | ptr id off =>
      simp only [pvLoad] at hp ⊢
      refine ⟨?_, trivial⟩
      cases hr : h[id]? with
      | none => simp [hr, ldR] at hp
      | some r => rw [ha id rfl r hr, ← hr]; exact hp
    | eptr id g i off =>
      simp only [pvLoad, vcLoad] at hp hc ⊢
      cases hr : h[id]? with
      | none => simp [hr, ldE] at hp
      | some r => rw [ha id rfl r hr, ← hr]; exact ⟨hp, hc⟩
    | iptr u off => exact ⟨hp, trivial⟩
    | _ => simp [pvLoad] at hp
  | _ => simp [pvLoad] at hp
theorem prefix_alike {h h' : List Root} (hp : h <+: h') (A : V) : alikeAt h h' A := by
  intro id _ r hr
  obtain ⟨t, rfl⟩ := hp
  rw [List.getElem?_append, if_pos (List.getElem?_eq_some_iff.1 hr).1]
  exact hr

theorem fz_prefix {h h' : List Root} (hp : h <+: h') {v u : V} (hv : v.fz h = some u) : v.fz h' = some u := by
  have hd : ∀ {d : DC} {c : C}, d.fz h = some c → d.fz h' = some c := by
    intro d c hd
    cases d with
    | ref id g sz off n =>
      simp only [DC.fz] at hd ⊢
      cases hr : h[id]? with
      | none => simp [hr] at hd
      | some r =>
        have : h'[id]? = some r := by
          obtain ⟨t, rfl⟩ := hp
          rw [List.getElem?_append, if_pos (List.getElem?_eq_some_iff.1 hr).1]
          exact hr
        rw [this, ← hr]
        exact hd
    | _ => exact hd
  cases v with
  | s d =>
    cases d <;> simp only [V.fz] at hv ⊢ <;> first
      | exact hv
      | (rw [Option.map_eq_some_iff] at hv ⊢; obtain ⟨c, h1, h2⟩ := hv; exact ⟨c, hd h1, h2⟩)
  | a x => exact hv
  | m l =>
    simp only [V.fz, Option.map_eq_some_iff] at hv ⊢
    obtain ⟨c, h1, h2⟩ := hv
    refine ⟨c, ?_, h2⟩
    clear h2
    induction l generalizing c with
    | nil => simpa using h1
    | cons d l ih =>
      obtain ⟨b, r, k1, k2, rfl⟩ := mapM_cons h1
      simp [List.mapM_cons, hd k1, ih r k2]
  | _ => exact hv
theorem fzs_prefix {h h' : List Root} (hp : h <+: h') : ∀ {l u : List V}, l.mapM (V.fz h) = some u → l.mapM (V.fz h') = some u
  | [], u, hv => by simpa using hv
  | v :: l, u, hv => by
    obtain ⟨b, r, k1, k2, rfl⟩ := mapM_cons hv
    simp [List.mapM_cons, fz_prefix hp k1, fzs_prefix hp k2]

mutual
theorem shift_none : ∀ {d : DC}, d.under 0 = true → ∀ n, d.shift n = d
  | .c _, _, n | .full _, _, n | .iptr _ _, _, n | .raw _, _, n => by simp [DC.shift]
  | .ifc t d, h, n => by simp only [DC.under] at h; simp only [DC.shift, shift_none h n]
  | .ref id g sz off k, h, n => by simp [DC.under] at h
  | .ptr id off, h, n => by simp [DC.under] at h
  | .eptr id g i off, h, n => by simp [DC.under] at h
  | .mp id, h, n => by simp [DC.under] at h
  | .clo f p q, h, n => by
    simp only [DC.under, Bool.and_eq_true] at h
    have e1 : p.all (DC.under 0) = true := by simpa using h.1
    have e2 : q.all (DC.under 0) = true := by simpa using h.2
    simp only [DC.shift, DC.shifts_eq]
    rw [shifts_none e1, shifts_none e2]
theorem shifts_none : ∀ {l : List DC}, l.all (DC.under 0) = true → ∀ n, l.map (DC.shift n) = l
  | [], _, _ => rfl
  | d :: l, h, n => by
    simp only [List.all_cons, Bool.and_eq_true] at h
    simp only [List.map_cons, shift_none h.1 n, shifts_none h.2 n]
end
mutual
theorem vshift_none : ∀ {v : V}, v.under 0 = true → ∀ n, v.shift n = v
  | .s d, h, n => by simp only [V.under] at h; simp only [V.shift, shift_none h n]
  | .a u, _, n => by simp [V.shift]
  | .bot, _, n => by simp [V.shift]
  | .m l, h, n => by simp only [V.under] at h; simp only [V.shift, shifts_none h n]
  | .tup l, h, n => by
    have e1 : l.all (V.under 0) = true := by simpa [V.under] using h
    simp only [V.shift, V.shifts_eq]
    rw [vshifts_none e1]
theorem vshifts_none : ∀ {l : List V}, l.all (V.under 0) = true → ∀ n, l.map (V.shift n) = l
  | [], _, _ => rfl
  | d :: l, h, n => by
    simp only [List.all_cons, Bool.and_eq_true] at h
    simp only [List.map_cons, vshift_none h.1 n, vshifts_none h.2 n]
end

section
variable {P : Program} {nm : FuncId → Option Nat}
theorem callsRel_under {f : Nat} {args : List V} {h : List Root} {R : V → List Root → Prop} (H : CallsRel P nm f args h R) : CallsRel P nm f args h fun d h' => R d h' ∧ d.under h'.length = true := by
  refine ⟨fun e => ?_, ?_⟩
  · obtain ⟨a, b, h1, h2⟩ := H.1 e
    exact ⟨a, b, h1, fun c hc => ⟨h2 c hc, rfl⟩⟩
  intro k hk x hx hg us hus
  exact (H.2 k hk x hx hg us hus).mono fun u w' ⟨v, x', h1, h2, h3, h4, h5⟩ => ⟨v, x', h1, h2, h3, h4, h5, RelV.under h4⟩

theorem callA_callR {f : Nat} {args : List V} {h0 h : List Root} {v : V} (hp : h0 <+: h) (H : callA (CallsRel P nm) f args h0 v) : callR (CallsRel P nm) f args h fun d h' => d = v ∧ h' = h := by
  obtain ⟨us, h1, h2⟩ := H
  refine .inr (.inl ⟨us, fzs_prefix hp h1, CallsRel.mono _ _ _ _ _ ?_ (callsRel_under h2)⟩)
  rintro d h' ⟨⟨k1, rfl, rfl⟩, k2⟩
  refine ⟨?_, by rw [vshift_none k2, vshift_none k2], by simp⟩
  rcases k1 with k1 | k1
  · exact .inl k1
  · exact .inr ⟨k1, rfl⟩
theorem effA_eff {ρ : X → V} {h0 h : List Root} {v : V} {op : Op} (hp : h0 <+: h) (H : effA (CallsRel P nm) ρ h0 v op) : eff (CallsRel P nm) ρ h (fun d h' => d = v ∧ h' = h) op := by
  cases op <;> simp only [effA] at H <;> try exact H.elim
  case call f args => exact callA_callR hp H
  case callv x args =>
    simp only [eff]
    split at H
    · rename_i hx
      rw [hx]
      exact callA_callR hp H
    · exact H.elim
end

section
variable {O : Orc} {ps : List (List Nat)} {qs : List Oper} {m : Nat} {late : List Nat} {h0 : List Root} {σ : Nat → St}

/-- an operation looks at what the text's order gives it -/
theorem Run.reads (hr : Run O qs m late h0 σ) (hf : Facts ps qs m late) {i : Nat} {q : Oper} (hq : qs[i]? = some q) {t : Nat} (ht : t ∈ q.reads) : (σ i).t.lookup t = (σ qs.length).t.lookup t := by
  have hlt := (List.getElem?_eq_some_iff.1 hq).1
  refine hr.lookup hf (k := qs.length - i) (by omega) (fun j p hj hp hd => ?_)
  have := (hf.reads i q hq t ht j p hp hd).lt hf.preLt
  omega
theorem val_of {s s' : St} {y : X} (h : ∀ n, y = .t n → s.t.lookup n = s'.t.lookup n) : X.val s y = X.val s' y ∧ X.there s y = X.there s' y := by
  cases y with
  | t n => simp only [X.val, X.there, St.get, h n rfl]; exact ⟨trivial, trivial⟩
  | c v => exact ⟨rfl, rfl⟩
theorem allX_reads {q : Oper} {n : Nat} (h : X.t n ∈ q.op.allX) : n ∈ q.reads := by
  unfold Oper.reads
  exact List.mem_append_left _ (List.mem_filterMap.2 ⟨_, h, rfl⟩)
theorem g_reads {q : Oper} {d : Nat} {w : Bool} (h : q.g = some (d, w)) : d ∈ q.reads := by
  unfold Oper.reads
  rw [h]
  exact List.mem_append_right _ (by simp)

/-- what a late load looks at isn't written -/
theorem Run.lateGet (hr : Run O qs m late h0 σ) (hf : Facts ps qs m late) {i : Nat} (hi : i ∈ late) {dst g} {n : Nat} {agg : Bool} {y : X} (hq : qs[i]? = some ⟨dst, .load n agg y, g⟩) (him : i < m) :
    ∀ {k : Nat}, m + k ≤ qs.length → alikeAt (σ m).h (σ (m + k)).h (X.val (σ qs.length) y)
  | 0, _ => fun id _ r h => h
  | k + 1, hk => by
    have ih := hr.lateGet hf hi hq him (k := k) (by omega)
    have hqj : qs[m + k]? = some qs[m + k] := List.getElem?_eq_getElem (by omega)
    intro id hid r hr0
    have hr1 := ih id hid r hr0
    obtain ⟨hg, H⟩ := hr.snd (m + k) _ hqj (Nat.le_add_right _ _)
    have hl := List.all_eq_true.1 hr.late i hi
    rw [List.getElem?_take, if_pos him, hq] at hl
    simp only [Option.bind_some, Op.loadX] at hl
    have hl := List.all_eq_true.1 hl qs[m + k] (List.mem_of_getElem? (i := k) (by rw [List.getElem?_drop]; exact hqj))
    cases hs : qs[m + k].op.storeX with
    | none =>
      rw [hs] at hl
      rw [if_pos hl] at H
      obtain ⟨v, _, h3⟩ := H
      rw [← Nat.add_assoc, ← h3, put_h]
      exact hr1
    | some a =>
      rw [hs] at hl
      simp only at hl
      have hop : ∃ nn z, qs[m + k].op = .store nn a z := by
        cases hop : qs[m + k].op <;> rw [hop] at hs <;> simp only [Op.storeX, Option.some.injEq, reduceCtorEq] at hs
        subst hs
        exact ⟨_, _, rfl⟩
      obtain ⟨nn, z, hop⟩ := hop
      rw [if_neg (by rw [hop]; simp [Op.isPure])] at H
      obtain ⟨h1, h2⟩ := H
      cases hb : qs[m + k].gb (σ (m + k)) with
      | false =>
        obtain ⟨v, this⟩ := h2 hb
        rw [← Nat.add_assoc, ← this, put_h]
        exact hr1
      | true =>
        obtain ⟨_, h4⟩ := h1 hb
        rw [hop] at h4
        simp only [eff] at h4
        have hva : X.val (σ (m + k)) a = X.val (σ qs.length) a := (val_of (s := σ (m + k)) (s' := σ qs.length) (fun t ht => hr.reads hf hqj (allX_reads (by rw [hop]; simp [Op.allX, Op.xs, ht])))).1
        rw [hva] at h4
        unfold apartB at hl
        split at h4
        · rename_i id' off hA
          rw [hA] at hl
          have hl : id ≠ id' := by
            rw [show (X.val (σ qs.length) y).box = some id from hid] at hl
            simpa [V.box] using hl
          obtain ⟨r', _, h6⟩ := h4
          rw [← Nat.add_assoc, ← h6, put_h]
          show ((σ (m + k)).h.set id' r')[id]? = some r
          rw [List.getElem?_set_ne (fun e => hl e.symm)]
          exact hr1
        · rename_i id' g' i' off hA
          rw [hA] at hl
          have hl : id ≠ id' := by
            rw [show (X.val (σ qs.length) y).box = some id from hid] at hl
            simpa [V.box] using hl
          obtain ⟨r', _, h6⟩ := h4
          rw [← Nat.add_assoc, ← h6, put_h]
          show ((σ (m + k)).h.set id' r')[id]? = some r
          rw [List.getElem?_set_ne (fun e => hl e.symm)]
          exact hr1
        · exact h4.elim
end
end Go.Lx
