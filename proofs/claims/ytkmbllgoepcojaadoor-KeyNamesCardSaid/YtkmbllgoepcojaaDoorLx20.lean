import Derived.Test.YtkmbllgoepcojaaDoorLx19
/- A call is sound, whatever it is given. -/
set_option linter.unusedVariables false
set_option linter.unusedSimpArgs false
namespace Go.Lx
section
variable {P : Program} {nm : FuncId → Option Nat} {x : Cx} {fn : Nums} {y : Cx}

theorem isU_ids {v : V} (h : v.isU = true) : v.ids = [] := by
  have hd : ∀ d : DC, d.isU = true → d.ids = [] := fun d h => by cases d <;> simp_all [DC.isU, DC.ids]
  cases v with
  | s d => exact hd d h
  | a u => rfl
  | m l =>
    simp only [V.isU, List.all_eq_true] at h
    simp only [V.ids, List.flatMap_eq_nil_iff]
    exact fun d hm => hd d (h d hm)
  | _ => simp [V.isU] at h
theorem isUs_ids {l : List V} (h : l.all V.isU = true) : l.flatMap V.ids = [] := by
  simp only [List.all_eq_true] at h
  simp only [List.flatMap_eq_nil_iff]
  exact fun d hm => isU_ids (h d hm)

theorem fz_flt {h : List Root} {v : V} {a : Nat} (e : V.fz h v = some (.s (.c (.flt a)))) : v = .s (.c (.flt a)) := by
  cases v with
  | s d =>
    cases d with
    | c c => simp only [V.fz, DC.fz, Option.map_some, Option.some.injEq] at e; simpa using e
    | ref id g sz off n =>
      simp only [V.fz, DC.fz] at e
      split at e <;> try (cases e; done)
      all_goals (split at e <;> simp at e)
    | _ => simp [V.fz, DC.fz] at e
  | m l =>
    simp only [V.fz] at e
    cases hl : l.mapM (DC.fz h) <;> simp [hl] at e
  | _ => simp [V.fz] at e
theorem fz_two {h : List Root} {args : List V} {a b : Nat} (e : args.mapM (V.fz h) = some [.s (.c (.flt a)), .s (.c (.flt b))]) : args = [.s (.c (.flt a)), .s (.c (.flt b))] := by
  match args, e with
  | [], e => simp at e
  | [v], e =>
    simp only [List.mapM_cons, List.mapM_nil, Option.bind_eq_bind, Option.bind_eq_some_iff, Option.pure_def, Option.some.injEq] at e
    obtain ⟨u, h1, r, rfl, h3⟩ := e
    simp at h3
  | [v, w], e =>
    simp only [List.mapM_cons, List.mapM_nil, Option.bind_eq_bind, Option.bind_eq_some_iff, Option.pure_def, Option.some.injEq] at e
    obtain ⟨u, h1, r, ⟨u2, h2, r2, rfl, rfl⟩, h3⟩ := e
    simp only [List.cons.injEq, and_true] at h3
    obtain ⟨rfl, rfl⟩ := h3
    rw [fz_flt h1, fz_flt h2]
  | v :: w :: z :: l, e =>
    simp only [List.mapM_cons, Option.bind_eq_bind, Option.bind_eq_some_iff, Option.pure_def, Option.some.injEq] at e
    obtain ⟨u, h1, r, ⟨u2, h2, r2, ⟨u3, h3, r3, h4, rfl⟩, rfl⟩, h5⟩ := e
    simp at h5
theorem callR_sound {f : Nat} {args : List V} {h : List Root} {K : V → List Root → Prop} (H : callR (CallsRel P nm) f args h K) : CallsRel P nm f args h K := by
  rcases H with H | ⟨fz, hf, H⟩ | ⟨fz, hf, H⟩
  · exact H
  · refine ⟨fun e => ?_, ?_⟩
    · obtain ⟨a, b, h1, h2⟩ := H.1 e
      subst h1
      exact ⟨a, b, fz_two hf, fun c hc => by simpa [V.shift, DC.shift] using (h2 c hc).2⟩
    replace H := H.2
    intro k hk x hx hg us hus
    subst hx
    obtain ⟨ids, hids⟩ : ∃ ids, ids = args.flatMap V.ids := ⟨_, rfl⟩
    have hrel := fzs_rel hg (ids := ids) hus hf (by rw [hids]; exact fun _ h => h)
    refine (H k hk (x.lent ids) rfl (hg.lent ids) us hrel).mono fun u w' ⟨v, y, hw, hy, hn, hv, hc, hK⟩ => ?_
    have hynot : ∀ b, (x.lent ids).own b → False := by rintro b ⟨id, r, h, _⟩; simp [Cx.lent] at h
    rcases hc with hU | ⟨hpl, hpr⟩
    · have hnil : ids = [] := by rw [hids]; exact isUs_ids hU
      obtain ⟨g1, g2⟩ := glue_step (hl := x.h) (F := fun b => x.F b ∨ y.F b) hg hy hn (told_none x) (by simp) (fun b h => .inl h) (fun i g sz l b h1 h2 => by rw [h1] at h2; injection h2 with h2; cases h2)
        (fun b h => by rcases h with h | h; exact .inl h; exact .inr (.inl h)) (fun b _ hyF i r hr hb ho _ => by
          rcases hn.fout b hyF with k | k | k
          · rcases k with k | ⟨id, hm, _⟩
            · exact hg.apart b ⟨i, r, hr, ho, hb⟩ k
            · rw [hnil] at hm; simp at hm
          · exact hynot b k
          · have := hg.ltOwn b ⟨i, r, hr, ho, hb⟩
            have e : (x.lent ids).w = x.w := rfl
            rw [e] at k
            omega) (.inl fun b h => .inr h)
      exact ⟨_, glue x y x.h fun b => x.F b ∨ y.F b, hw, g1, g2, glueV (.inr fun b h => .inr h) hv, hK⟩
    · obtain ⟨g1, g2⟩ := glue_step (hl := x.h) (F := x.F) hg hy hn (told_none x) (by simp) (fun b h => h) (fun i g sz l b h1 h2 => by rw [h1] at h2; injection h2 with h2; cases h2)
        (fun b h => .inl h) (fun b hF _ i r hr hb ho _ => hg.apart b ⟨i, r, hr, ho, hb⟩ hF) (.inr fun r hr => by
          simp only [List.all_eq_true] at hpr
          exact hpr r hr)
      exact ⟨_, glue x y x.h x.F, hw, g1, g2, glueV (.inl hpl) hv, hK⟩
  · refine ⟨fun e => ?_, ?_⟩
    · obtain ⟨a, b, h1, h2⟩ := H.1 e
      subst h1
      have e2 := fz_two hf
      subst e2
      exact ⟨a, b, rfl, fun c hc => by simpa [V.shift, DC.shift, V.ids, DC.ids, lockIds] using h2 c hc⟩
    replace H := H.2
    intro k hk x hx hg us hus
    subst hx
    obtain ⟨ids, hids⟩ : ∃ ids, ids = args.flatMap V.ids := ⟨_, rfl⟩
    have hrel := fzs_rel hg (ids := ids) hus hf (by rw [hids]; exact fun _ h => h)
    rw [← hids] at H
    refine (H k hk (x.lent ids) rfl (hg.lent ids) us hrel).mono fun u w' ⟨v, y, hw, hy, hn, hv, hK⟩ => ?_
    have hynot : ∀ b, (x.lent ids).own b → False := by rintro b ⟨id, r, h, _⟩; simp [Cx.lent] at h
    have hlk : ∀ i g sz l, x.h[i]? = some (.row g sz l) → i ∈ ids → (lockIds ids x.h)[i]? = some (.lock g sz l) := fun i g sz l h hm => by
      rcases lockIds_get ids _ i _ h with ⟨m, _⟩ | ⟨_, k⟩
      · exact absurd hm m
      · exact k
    obtain ⟨g1, g2⟩ := glue_step (hl := lockIds ids x.h) (F := fun b => lentF x ids b ∨ y.F b) hg hy hn (told_lock ids x) (fun i h => h) (fun b h => .inl (.inl h)) (fun i g sz l b h1 h2 h3 => by
        rcases lockIds_get ids _ i _ h1 with ⟨_, k⟩ | ⟨m, k⟩
        · rw [h2] at k; injection k with k; cases k
        · exact .inl (.inr ⟨i, m, g, sz, l, h1, h3⟩))
      (fun b h => by
        rcases h with (h | ⟨i, m, g, sz, l, h1, h2⟩) | h
        · exact .inl h
        · exact .inr (.inr ⟨i, g, sz, l, hlk i g sz l h1 m, h1, h2⟩)
        · exact .inr (.inl h)) (fun b _ hyF i r hr hb ho hsame => by
          rcases hn.fout b hyF with k | k | k
          · rcases k with k | ⟨id, hm, g, sz, l, k1, k2⟩
            · exact hg.apart b ⟨i, r, hr, ho, hb⟩ k
            · have := hg.one i id _ _ b hr k1 ho rfl hb k2
              subst this
              rw [hr] at k1; injection k1 with k1; subst k1
              rw [hlk i g sz l hr hm] at hsame
              injection hsame with hsame
              cases hsame
          · exact hynot b k
          · have := hg.ltOwn b ⟨i, r, hr, ho, hb⟩
            have e : (x.lent ids).w = x.w := rfl
            rw [e] at k
            omega) (.inl fun b h => .inr h)
    have hl := lockIds_length ids x.h
    refine ⟨_, glue x y (lockIds ids x.h) fun b => lentF x ids b ∨ y.F b, hw, g1, g2, glueV (.inr fun b h => .inr h) hv, ?_⟩
    rw [hl]
    simp only [glue, hl]
    exact hK
end
end Go.Lx
