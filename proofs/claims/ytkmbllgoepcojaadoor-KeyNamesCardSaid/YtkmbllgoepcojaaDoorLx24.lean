import Derived.Test.YtkmbllgoepcojaaDoorLx23
/- What an operation comes to hangs on its operands alone; runs told step by step. -/
set_option linter.unusedVariables false
set_option linter.unusedSimpArgs false
namespace Go.Lx

theorem opt_congr {α β : Type} {f g : α → β} {o : Option α} (h : ∀ y, y ∈ o.toList → f y = g y) : o.map f = o.map g := by
  cases o with
  | none => rfl
  | some y => simp [h y (by simp)]
theorem list_congr {α β : Type} {f g : α → β} {l : List α} (h : ∀ y, y ∈ l → f y = g y) : l.map f = l.map g := List.map_congr_left h

section
variable {ρ ρ' : X → V} {θ θ' : X → Bool} {h : List Root}
theorem pv_congr {op : Op} (hρ : ∀ y, y ∈ op.allX → ρ y = ρ' y) : pv ρ h op = pv ρ' h op := by
  cases op <;> simp only [pv] <;> simp only [Op.allX, Op.xs] at hρ
  case mv x => rw [hρ x (by simp)]
  case pick c a b => rw [hρ c (by simp), hρ a (by simp), hρ b (by simp)]
  case build z ps => rw [list_congr (g := fun p : Nat × Nat × X => (p.1, p.2.1, ρ' p.2.2)) fun p hp => by rw [hρ p.2.2 (List.mem_map.2 ⟨p, hp, rfl⟩)]]
  case buildx z ps => rw [list_congr (g := fun p : Nat × Nat × X => (p.1, p.2.1, ρ' p.2.2)) fun p hp => by rw [hρ p.2.2 (List.mem_map.2 ⟨p, hp, rfl⟩)]]
  case load n agg x => rw [hρ x (by simp)]
  case fld off x => rw [hρ x (by simp)]
  case fldv off n agg x => rw [hρ x (by simp)]
  case idxA sz x i => rw [hρ x (by simp), hρ i (by simp)]
  case idxS x i => rw [hρ x (by simp), hρ i (by simp)]
  case sliceS x lo hi => rw [hρ x (by simp), opt_congr (o := lo) (g := ρ') fun y hy => hρ y (by simp [hy]), opt_congr (o := hi) (g := ρ') fun y hy => hρ y (by simp [hy])]
  case slice sz x lo hi mx => rw [hρ x (by simp), opt_congr (o := lo) (g := ρ') fun y hy => hρ y (by simp [hy]), opt_congr (o := hi) (g := ρ') fun y hy => hρ y (by simp [hy]), opt_congr (o := mx) (g := ρ') fun y hy => hρ y (by simp [hy])]
  case bin op x y => rw [hρ x (by simp), hρ y (by simp)]
  case un op x => rw [hρ x (by simp)]
  case conv c x => rw [hρ x (by simp)]
  case extract x i => rw [hρ x (by simp)]
  case nilchk x => rw [hρ x (by simp)]
  case mkFn f a b => rw [list_congr (l := a) (g := ρ') fun y hy => hρ y (by simp [hy]), list_congr (l := b) (g := ρ') fun y hy => hρ y (by simp [hy])]
  case len b x => rw [hρ x (by simp)]
  case mkIf t x => rw [hρ x (by simp)]
  case max l => rw [list_congr (l := l) (g := ρ') hρ]
  case min l => rw [list_congr (l := l) (g := ρ') hρ]

theorem xs_allX {op : Op} {y : X} (hy : y ∈ op.xs) : y ∈ op.allX := by
  cases op <;> simp only [Op.allX] <;> first | exact hy | (simp only [Op.xs] at hy; simp at hy; simp [hy])
theorem there_congr {op : Op} (hθ : ∀ y, y ∈ op.allX → θ y = θ' y) : op.xs.all θ = op.xs.all θ' := by
  rw [Bool.eq_iff_iff, List.all_eq_true, List.all_eq_true]
  exact ⟨fun H y hy => by rw [← hθ y (xs_allX hy)]; exact H y hy, fun H y hy => by rw [hθ y (xs_allX hy)]; exact H y hy⟩
theorem pvc_congr {op : Op} (hρ : ∀ y, y ∈ op.allX → ρ y = ρ' y) (hθ : ∀ y, y ∈ op.allX → θ y = θ' y) : pvc θ ρ h op = pvc θ' ρ' h op := by
  cases op <;> simp only [pvc] <;> simp only [Op.allX, Op.xs] at hρ hθ
  case pick c a b => rw [hρ c (by simp), hθ a (by simp), hθ b (by simp)]
  case load n agg x => rw [hρ x (by simp)]
  case idxA sz x i => rw [hρ x (by simp), hρ i (by simp)]
  case idxS x i => rw [hρ x (by simp), hρ i (by simp)]
  case sliceS x lo hi => rw [hρ x (by simp), opt_congr (o := lo) (g := ρ') fun y hy => hρ y (by simp [hy]), opt_congr (o := hi) (g := ρ') fun y hy => hρ y (by simp [hy])]
  case slice sz x lo hi mx => rw [hρ x (by simp), opt_congr (o := lo) (g := ρ') fun y hy => hρ y (by simp [hy]), opt_congr (o := hi) (g := ρ') fun y hy => hρ y (by simp [hy]), opt_congr (o := mx) (g := ρ') fun y hy => hρ y (by simp [hy])]
  case bin op x y =>
    have e1 := hρ x (by simp)
    have e2 := hρ y (by simp)
    cases op <;> simp only [pvc] <;> rw [e1, e2]
theorem eff_congr {O : Orc} {K : V → List Root → Prop} {op : Op} (hρ : ∀ y, y ∈ op.allX → ρ y = ρ' y) : eff O ρ h K op = eff O ρ' h K op := by
  cases op <;> simp only [eff] <;> simp only [Op.allX, Op.xs] at hρ
  case box n x => rw [hρ x (by simp)]
  case mkSl z n ps => rw [list_congr (g := fun p : Nat × X => (p.1, ρ' p.2)) fun p hp => by rw [hρ p.2 (List.mem_map.2 ⟨p, hp, rfl⟩)]]
  case store n a x => rw [hρ a (by simp), hρ x (by simp)]
  case append b z s x => rw [hρ s (by simp), hρ x (by simp)]
  case copy sz d s => rw [hρ s (by simp), hρ d (by simp)]
  case mkRow b z l c => rw [hρ l (by simp), hρ c (by simp)]
  case mkMap r => rw [opt_congr (o := r) (g := ρ') hρ]
  case lookup agg ks z ok m k => rw [hρ m (by simp), hρ k (by simp)]
  case mapUpd agg ks m k x => rw [hρ m (by simp), hρ k (by simp), hρ x (by simp)]
  case call f args => rw [list_congr (l := args) (g := ρ') hρ]
  case callv x args => rw [hρ x (by simp), list_congr (l := args) (g := ρ') fun y hy => hρ y (by simp [hy])]
theorem effA_congr {O : Orc} {v : V} {op : Op} (hρ : ∀ y, y ∈ op.allX → ρ y = ρ' y) : effA O ρ h v op = effA O ρ' h v op := by
  cases op <;> simp only [effA] <;> simp only [Op.allX, Op.xs] at hρ
  case call f args => rw [list_congr (l := args) (g := ρ') hρ]
  case callv x args => rw [hρ x (by simp), list_congr (l := args) (g := ρ') fun y hy => hρ y (by simp [hy])]
end

/-! ### runs, step by step -/
theorem eff_det {O : Orc} {ρ h} {K : V → List Root → Prop} {op : Op} (hc : op.isCall = false) (H : eff O ρ h K op) : ∃ d h', (∀ K' : V → List Root → Prop, K' d h' → eff O ρ h K' op) ∧ K d h' := by
  cases op <;> simp only [eff] at H ⊢ <;> try exact H.elim
  case alloc z => exact ⟨_, _, fun K' k => k, H⟩
  case allocx z => exact ⟨_, _, fun K' k => k, H⟩
  case box n x =>
    generalize (ρ x).pure? = p at H ⊢
    generalize (ρ x).cells = q at H ⊢
    cases p with
    | some u => exact ⟨_, _, fun K' k => ⟨H.1, k⟩, H.2⟩
    | none => cases q with
      | none => exact H.elim
      | some l => exact ⟨_, _, fun K' k => ⟨H.1, k⟩, H.2⟩
  case mkSl z n ps =>
    generalize fillL z (List.replicate n z) (ps.map fun p => (p.1, ρ p.2)) = q at H ⊢
    cases q with
    | none => exact H.elim
    | some l => exact ⟨_, _, fun K' k => ⟨H.1, k⟩, H.2⟩
  case store n a x =>
    generalize ρ a = A at H ⊢
    split at H
    · obtain ⟨r, h1, h2⟩ := H
      exact ⟨_, _, fun K' k => ⟨r, h1, k⟩, h2⟩
    · obtain ⟨r, h1, h2⟩ := H
      exact ⟨_, _, fun K' k => ⟨r, h1, k⟩, h2⟩
    · exact H.elim
  case append bytes z s x =>
    generalize (ρ x).elems h = q at H ⊢
    cases q with
    | none => exact H.elim
    | some e =>
      obtain ⟨H0, H⟩ := H
      generalize ρ s = v at H ⊢
      split at H
      · exact ⟨_, _, fun K' k => ⟨H0, H.1, k⟩, H.2⟩
      · rename_i id g _ n
        cases hr : h[id]? with
        | none => simp [hr] at H
        | some r => cases r <;> simp [hr] at H ⊢; exact ⟨_, _, fun K' k => ⟨H0, H.1, k⟩, H.2⟩
      · exact H.elim
  case copy sz d s =>
    generalize (ρ s).elems h = q at H ⊢
    generalize ρ d = v at H ⊢
    split at H
    · rename_i e id g _ off n
      cases hr : h[id]? with
      | none => simp [hr] at H
      | some r => cases r <;> simp [hr] at H ⊢; exact ⟨_, _, fun K' k => ⟨H.1, k⟩, H.2⟩
    · exact H.elim
  case mkRow =>
    obtain ⟨n, h1, h2, h3, h4, h5, h6⟩ := H
    exact ⟨_, _, fun K' k => ⟨n, h1, h2, h3, h4, h5, k⟩, h6⟩
  case mkMap => exact ⟨_, _, fun K' k => ⟨H.1, k⟩, H.2⟩
  case lookup agg ks z ok m k =>
    generalize ρ m = v at H ⊢
    split at H
    · rename_i id
      cases hr : h[id]? with
      | none => simp [hr] at H
      | some r => cases r <;> simp [hr] at H ⊢; exact ⟨_, _, fun K' k => ⟨H.1, k⟩, H.2⟩
    · exact H.elim
  case mapUpd agg ks m k x =>
    generalize ρ m = v at H ⊢
    split at H
    · rename_i id
      cases hr : h[id]? with
      | none => simp [hr] at H
      | some r => cases r <;> simp [hr] at H ⊢; exact ⟨_, _, fun K' k => ⟨H.1, k⟩, H.2⟩
    · exact H.elim
  case call => simp [Op.isCall] at hc
  case callv => simp [Op.isCall] at hc

theorem op_det {O : Orc} {q : Oper} {s : St} {K : St → Prop} (hc : q.op.isCall = false) (H : wpOp O q s K) : ∃ s1, wpOp O q s (fun t => t = s1) ∧ K s1 := by
  obtain ⟨hg, H⟩ := H
  unfold wpOp
  split at H
  · rename_i hp
    obtain ⟨v, h1, h3⟩ := H
    exact ⟨_, ⟨hg, by rw [if_pos hp]; exact ⟨v, h1, rfl⟩⟩, h3⟩
  · rename_i hp
    obtain ⟨h1, h2⟩ := H
    cases hb : q.gb s with
    | false =>
      obtain ⟨v, h2⟩ := h2 hb
      exact ⟨_, ⟨hg, by rw [if_neg hp]; exact ⟨fun h => by simp at h, fun _ => ⟨v, rfl⟩⟩⟩, h2⟩
    | true =>
      obtain ⟨h3, h4⟩ := h1 hb
      obtain ⟨d, h', h5, h6⟩ := eff_det hc h4
      refine ⟨_, ⟨hg, ?_⟩, h6⟩
      rw [if_neg hp]
      exact ⟨fun _ => ⟨h3, h5 _ rfl⟩, fun h => by simp at h⟩

theorem opA_det {O : Orc} {h0 : List Root} {q : Oper} {s : St} {K : St → Prop} (H : wpOpA O h0 q s K) : ∃ s1, wpOpA O h0 q s (fun t => t = s1) ∧ K s1 := by
  obtain ⟨hg, H⟩ := H
  unfold wpOpA
  split at H
  · rename_i hp
    obtain ⟨v, h1, h3⟩ := H
    exact ⟨_, ⟨hg, by rw [if_pos hp]; exact ⟨v, h1, rfl⟩⟩, h3⟩
  · rename_i hp
    split at H
    · rename_i hc
      obtain ⟨v, h1, h3⟩ := H
      exact ⟨_, ⟨hg, by rw [if_neg hp, if_pos hc]; exact ⟨v, h1, rfl⟩⟩, h3⟩
    · rename_i hc
      obtain ⟨dst, op, g⟩ := q
      cases op <;> simp only at H hp hc ⊢ <;> try exact H.elim
      case alloc z => exact ⟨_, ⟨hg, by rw [if_neg hp, if_neg hc]; exact ⟨H.1, rfl⟩⟩, H.2⟩
      case allocx z => exact ⟨_, ⟨hg, by rw [if_neg hp, if_neg hc]; exact ⟨H.1, rfl⟩⟩, H.2⟩
      case box n x =>
        obtain ⟨h1, h2, H⟩ := H
        generalize hpu : (Lx.X.val s x).pure? = p at H
        generalize hce : (Lx.X.val s x).cells = q at H
        cases p with
        | some u => exact ⟨_, ⟨hg, by rw [if_neg hp, if_neg hc]; exact ⟨h1, h2, H.1, rfl⟩⟩, H.2⟩
        | none => cases q with
          | none => exact H.elim
          | some l => exact ⟨_, ⟨hg, by rw [if_neg hp, if_neg hc]; exact ⟨h1, h2, H.1, rfl⟩⟩, H.2⟩
      case mkSl z n ps =>
        obtain ⟨h1, h2, H⟩ := H
        generalize hf : fillL z (List.replicate n z) (ps.map fun p => (p.1, Lx.X.val s p.2)) = q at H
        cases q with
        | none => exact H.elim
        | some l => exact ⟨_, ⟨hg, by rw [if_neg hp, if_neg hc]; exact ⟨h1, h2, H.1, rfl⟩⟩, H.2⟩

theorem opsA_trace {O : Orc} {h0 : List Root} : ∀ {l : List Oper} {s : St} {K : St → Prop}, wpOpsA O h0 l s K → ∃ σ : Nat → St, σ 0 = s ∧ (∀ i q, l[i]? = some q → wpOpA O h0 q (σ i) (fun t => t = σ (i + 1))) ∧ K (σ l.length)
  | [], s, K, H => ⟨fun _ => s, rfl, fun i q h => by simp at h, H⟩
  | q :: l, s, K, H => by
    obtain ⟨s1, h1, h2⟩ := opA_det H
    obtain ⟨σ, k1, k2, k3⟩ := opsA_trace h2
    refine ⟨fun | 0 => s | i + 1 => σ i, rfl, fun i p hp => ?_, k3⟩
    cases i with
    | zero =>
      simp only [List.getElem?_cons_zero, Option.some.injEq] at hp
      subst hp
      show wpOpA O h0 q s fun t => t = σ 0
      rw [k1]
      exact h1
    | succ i => exact k2 i p (by simpa using hp)
theorem ops_trace {O : Orc} : ∀ {l : List Oper} {s : St} {K : St → Prop}, (∀ q, q ∈ l → q.op.isCall = false) → wpOps O l s K → ∃ σ : Nat → St, σ 0 = s ∧ (∀ i q, l[i]? = some q → wpOp O q (σ i) (fun t => t = σ (i + 1))) ∧ K (σ l.length)
  | [], s, K, _, H => ⟨fun _ => s, rfl, fun i q h => by simp at h, H⟩
  | q :: l, s, K, hc, H => by
    obtain ⟨s1, h1, h2⟩ := op_det (hc q (by simp)) H
    obtain ⟨σ, k1, k2, k3⟩ := ops_trace (fun q hq => hc q (by simp [hq])) h2
    refine ⟨fun | 0 => s | i + 1 => σ i, rfl, fun i p hp => ?_, k3⟩
    cases i with
    | zero =>
      simp only [List.getElem?_cons_zero, Option.some.injEq] at hp
      subst hp
      show wpOp O q s fun t => t = σ 0
      rw [k1]
      exact h1
    | succ i => exact k2 i p (by simpa using hp)
end Go.Lx
