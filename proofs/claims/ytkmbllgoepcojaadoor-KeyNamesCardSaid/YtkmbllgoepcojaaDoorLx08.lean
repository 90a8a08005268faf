import Derived.Test.YtkmbllgoepcojaaDoorLx07
/- The pure operations, one by one (second part). -/
set_option linter.unusedVariables false
set_option linter.unusedSimpArgs false
namespace Go.Lx
section
variable {P : Program} {fn : Nums} {x : Cx}

theorem fieldsT_some {t : TypeId} {fs : Array Field} (h : fieldsT P t = some fs) : P.underlying t = some (.struct fs) := by
  unfold fieldsT at h
  split at h
  · rename_i fs' e; injection h with h; rw [e, h]
  · cases h
theorem elemT_some {t e : TypeId} (h : elemT P t = some e) : P.underlying t = some (.slice e) := by
  unfold elemT at h
  split at h
  · rename_i e' e1; injection h with h; rw [e1, h]
  · cases h

theorem fld_sound {off : Nat} {V v : Lx.V} {u : Value} (hV : RelV fn x V u) (hp : pvFld off V = some v) : ∃ g o, u = .pointer (some ⟨g, o, none⟩) ∧ RelV fn x v (.pointer (some ⟨g, o + off, none⟩)) ∨ (∃ a, u = .pointer (some a) ∧ ∀ a', RelV fn x v (.pointer (some a'))) := by
  unfold pvFld at hp
  split at hp
  · injection hp with hp
    subst hp
    simp only [RelV, RelDC] at hV ⊢
    obtain ⟨g, o, rfl, h1, h2⟩ := hV
    exact ⟨g, _, .inl ⟨rfl, g, o, by rw [Nat.add_assoc], h1, h2⟩⟩
  · injection hp with hp
    subst hp
    simp only [RelV, RelDC] at hV ⊢
    obtain ⟨b, r, h1, h2, rfl, h3⟩ := hV
    exact ⟨b, _, .inl ⟨rfl, b, r, h1, h2, rfl, h3⟩⟩
  · rename_i id gen i oo
    injection hp with hp
    subst hp
    simp only [RelV, RelDC] at hV ⊢
    obtain ⟨a, rfl, r, h1, h2⟩ := hV
    cases r <;> simp only at h2
    all_goals
      rename_i g' sz l
      by_cases he : gen = g'
      · obtain ⟨b, h3, rfl⟩ := h2.2 he
        exact ⟨b, _, .inl ⟨rfl, _, rfl, _, h1, h2.1, fun _ => ⟨b, h3, by rw [Nat.add_assoc]⟩⟩⟩
      · exact ⟨0, 0, .inr ⟨a, rfl, fun a' => ⟨a', rfl, _, h1, h2.1, fun h => absurd h he⟩⟩⟩
  · cases hp

theorem fieldAt_run {t : TypeId} {fs : Array Field} {j : Nat} {f : Field} (h1 : fieldsT P t = some fs) (h2 : fs[j]? = some f) {n : Nat} (h3 : sizeT P f.type = some n) (h4 : n ≠ 0) (a : Addr) (w : World) :
    (Instr.fieldAt t (.pointer (some a)) j).run P w = .ok (.pointer (some (a.add f.offset))) w := by
  simp [Instr.fieldAt, run_underlying (fieldsT_some h1), h2, Instr.sureAddr, fieldPlace, run_sizeT h3, h4]

theorem fldv_sound {t : TypeId} {fs : Array Field} {j : Nat} {f : Field} (h1 : fieldsT P t = some fs) (h2 : fs[j]? = some f) {n : Nat} (h3 : sizeT P f.type = some n) {agg : Bool} (h4 : aggT P f.type = some agg)
    {V v : Lx.V} {u : Value} (hV : RelV fn x V u) (hp : pvFldv f.offset n agg V = some v) : ∃ r, (Instr.field t u j).run P x.w = .ok r x.w ∧ RelV fn x v r := by
  have key : ∀ (cs : Array Value), u = .agg cs → f.offset + n ≤ cs.size → (agg = true ∨ n = 1) →
      (Instr.field t u j).run P x.w = .ok (if agg then .agg ((cs.toList.drop f.offset).take n).toArray else ((cs.toList.drop f.offset).take n).headD undef) x.w := by
    intro cs hu hle ha
    subst hu
    simp only [Instr.field, Sem.run_bind, run_underlying (fieldsT_some h1), Result.andThen_ok, h2, asAgg, Sem.run_pure, part, run_isAgg h4]
    cases agg with
    | true =>
      simp only [if_true, Sem.run_bind, run_sizeT h3, Result.andThen_ok, Sem.run_pure]
      congr 2
      apply Array.ext'
      simp
    | false =>
      have : n = 1 := ha.resolve_left (by simp)
      subst this
      have hlt : f.offset < cs.size := by omega
      simp [hlt, List.head?_take, List.head?_drop]
  unfold pvFldv at hp
  split at hp
  · rename_i uu
    simp only [RelV] at hV
    obtain ⟨cs, hu, hc⟩ := hV
    unfold ldU at hp
    split at hp
    · rename_i hcond
      injection hp with hp
      have hlen := RelCs.length hc
      refine ⟨_, key cs hu (by simp at hlen; omega) hcond.2, ?_⟩
      have h5 : RelCs x.w x.F (cut uu f.offset n) ((cs.toList.drop f.offset).take n) := (hc.drop _).take _
      rcases ofU_rel (fn := fn) h5 hp (by
        subst hp
        cases agg with
        | true => simp [V.ofU]
        | false =>
          have : n = 1 := hcond.2.resolve_left (by simp)
          obtain ⟨c, hc'⟩ := List.length_eq_one_iff.1 (show (cut uu f.offset n).length = 1 by rw [cut_length hcond.1, this])
          simp [V.ofU, hc']) with ⟨e, h⟩ | ⟨e, c, e2, h⟩
      · simpa [e] using h
      · simpa [e, e2] using h
    · cases hp
  · rename_i l
    simp only [RelV] at hV
    obtain ⟨cs, hu, hc⟩ := hV
    unfold ldD at hp
    split at hp
    · rename_i hcond
      injection hp with hp
      have hlen := RelDCs.length hc
      refine ⟨_, key cs hu (by simp at hlen; omega) hcond.2, ?_⟩
      have h5 : RelDCs fn x (dcut l f.offset n) ((cs.toList.drop f.offset).take n) := (hc.drop _).take _
      subst hp
      cases agg with
      | true => simp only [V.ofD, if_true, RelV]; exact ⟨_, rfl, by simpa using h5⟩
      | false =>
        have : n = 1 := hcond.2.resolve_left (by simp)
        obtain ⟨d, hd⟩ := List.length_eq_one_iff.1 (show (dcut l f.offset n).length = 1 by rw [dcut_length hcond.1, this])
        rw [hd] at h5 ⊢
        match hv : (cs.toList.drop f.offset).take n, h5 with
        | [c], h5 => simp only [RelDCs] at h5; simpa [V.ofD, RelV, hv] using h5.1
        | [], h5 => simp [RelDCs] at h5
        | _ :: _ :: _, h5 => simp [RelDCs] at h5
    · cases hp
  · cases hp

theorem idxA_sound {t e : TypeId} (h1 : elemT P t = some e) {sz : Nat} (h2 : sizeT P e = some sz) {V I v : Lx.V} {u i : Value} (hV : RelV fn x V u) (hI : RelV fn x I i) (hp : pvIdxA V (idxOf I) = some v) (hvc : vcIdxA sz I V) :
    ∃ r, (Instr.indexAt t u i).run P x.w = .ok r x.w ∧ RelV fn x v r := by
  have hrun : ∀ (a : Addr) (n cap : Nat) (k : IntKind), 0 ≤ idxOf I → idxOf I < n → (Instr.indexAt t (.slice (some a) n cap) (.int k (idxOf I))).run P x.w = .ok (.pointer (some (a.add ((idxOf I).toNat * sz)))) x.w := by
    intro a n cap k h3 h4
    simp [Instr.indexAt, asIntOf, run_underlying (elemT_some h1), h3, h4, run_sizeT h2]
  have himm : ∀ (l : List U) (a : Option Addr) (cap : Nat), u = .slice a l.length cap → (l = [] ∨ ∃ g o sz, a = some ⟨g, o, none⟩ ∧ x.F g ∧ RelRows x.w x.F g sz l o) →
      (isInt I ∧ 0 ≤ idxOf I ∧ idxOf I < l.length ∧ (elemAt l (idxOf I).toNat).length = sz) → v = .s (.iptr (elemAt l (idxOf I).toNat) 0) → ∃ r, (Instr.indexAt t u i).run P x.w = .ok r x.w ∧ RelV fn x v r := by
    intro l a cap hu hr hc hv
    obtain ⟨c1, c2, c3, c4⟩ := hc
    obtain ⟨k, rfl⟩ := isInt_int c1 hI
    rcases hr with rfl | ⟨g, o, sz', rfl, hF, hr⟩
    · simp at c3; omega
    · obtain ⟨e1, e2⟩ := hr.get (i := (idxOf I).toNat) (by omega)
      have : sz' = sz := by omega
      subst this
      subst hu hv
      refine ⟨_, hrun _ _ _ _ c2 c3, ?_⟩
      simp only [RelV, RelDC]
      exact ⟨g, o + (idxOf I).toNat * sz', by rw [add_none]; simp, hF, e2⟩
  unfold pvIdxA at hp
  split at hp
  · rename_i l
    injection hp with hp
    simp only [RelV, RelDC, RelC] at hV
    obtain ⟨a, cap, h3, h4, h5⟩ := hV
    exact himm l a cap h3 h5 hvc hp.symm
  · rename_i l
    injection hp with hp
    simp only [RelV, RelDC] at hV
    obtain ⟨a, h3, h5⟩ := hV
    exact himm l a _ h3 h5 hvc hp.symm
  · rename_i id g sz' off n
    injection hp with hp
    simp only [vcIdxA] at hvc
    obtain ⟨c1, c2, c3, c4⟩ := hvc
    obtain ⟨k, rfl⟩ := isInt_int c1 hI
    simp only [RelV, RelDC] at hV
    obtain ⟨a, cap, rfl, hle, hsm, r, h3, h4⟩ := hV
    obtain ⟨g2, o2, rfl⟩ := hsm.resolve_left (by omega)
    refine ⟨_, hrun _ _ _ _ c2 c3, ?_⟩
    subst hp
    simp only [RelV, RelDC]
    refine ⟨_, rfl, r, h3, ?_⟩
    cases r <;> simp only at h4 ⊢
    all_goals
      refine ⟨h4.1, fun he => ?_⟩
      obtain ⟨e0, e⟩ := h4.2 he
      rcases e with e | ⟨b, cs, ty, f, e1, e2, e3, e4⟩
      · omega
      · refine ⟨b, e1, ?_⟩
        injection e2 with e2
        rw [e2, add_none, ← e0, c4, Nat.add_mul]
        rfl
  · cases hp
end
end Go.Lx
