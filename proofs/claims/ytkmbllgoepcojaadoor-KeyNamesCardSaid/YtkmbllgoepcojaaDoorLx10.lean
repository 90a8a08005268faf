import Derived.Test.YtkmbllgoepcojaaDoorLx09
/- The pure operations, one by one (fourth part). -/
set_option linter.unusedVariables false
set_option linter.unusedSimpArgs false
namespace Go.Lx
section
variable {P : Program} {fn : Nums} {x : Cx}

theorem beq_str (a b : ByteArray) : (a == b) = decide (a = b) := by
  rw [beq_toListBytes]
  by_cases h : a = b
  · subst h; simp
  · have : ¬ a.toList = b.toList := fun e => h (by
      rw [ByteArray.toList_eq, ByteArray.toList_eq] at e
      cases a; cases b
      simp at e
      simp [e])
    simp [h, this]
theorem beq_toStr (a b : ByteArray) : (a.toList == b.toList) = decide (a = b) := by rw [← beq_toListBytes, beq_str]

/-! ### arithmetic and comparisons -/
theorem v_some {c : Option C} {v : V} (h : C.v c = some v) : ∃ d, c = some d ∧ v = .s (.c d) := by
  cases c with
  | none => simp [C.v] at h
  | some d => simp only [C.v, Option.map_some, Option.some.injEq] at h; exact ⟨d, rfl, h.symm⟩

theorem bin_sound {op : BinOp} {t : TypeId} {ox oy : Operand} {A B v : V} {a b : Value} (hA : RelV fn x A a) (hB : RelV fn x B b) (hp : pvBin op A B = some v) (hvc : vcBin op A B) :
    ∃ r, (do eqGuard op t ox oy a b; binOp op t a b : Sem Value).run P x.w = .ok r x.w ∧ RelV fn x v r := by
  unfold pvBin at hp
  split at hp
  · rename_i k n k' m
    obtain ⟨d, h1, rfl⟩ := v_some hp
    rw [inv_int hA, inv_int hB]
    have hg : (eqGuard op t ox oy (.int k n) (.int k' m)).run P x.w = .ok () x.w := by
      unfold eqGuard
      cases op <;> rfl
    simp only [Sem.run_bind, hg, Result.andThen_ok]
    unfold intAny at h1
    split at h1
    · injection h1 with h1
      subst h1
      simp only [vcBin] at hvc
      refine ⟨_, ?_, rel_int⟩
      simp [binOp, Op.shift, show ¬ m < 0 by omega, shl]
    · injection h1 with h1
      subst h1
      simp only [vcBin] at hvc
      refine ⟨_, ?_, rel_int⟩
      simp [binOp, Op.shift, show ¬ m < 0 by omega, shr]
    · split at h1
      · rename_i hk
        subst hk
        cases op <;> simp only [binInt, Option.some.injEq, reduceCtorEq] at h1 <;> try (subst h1)
        all_goals simp only [vcBin] at hvc
        all_goals first
          | exact ⟨_, by first | (simp [binOp, Op.intArith]; done) | (simp [binOp, Op.intArith]; rfl), rel_int⟩
          | exact ⟨_, by first | (simp [binOp, Op.intDiv, hvc]; done) | (simp [binOp, Op.intDiv, hvc]; rfl), rel_int⟩
          | exact ⟨_, by first | (simp [binOp, Op.intBits]; done) | (simp [binOp, Op.intBits]; rfl), rel_int⟩
          | exact ⟨.bool _, by first | (simp [binOp, Op.intCmp]; done) | (simp [binOp, Op.intCmp]; rfl), rel_bool⟩
      · cases h1
  · rename_i n m
    obtain ⟨d, h1, rfl⟩ := v_some hp
    rw [inv_flt hA, inv_flt hB]
    have hg : (eqGuard op t ox oy (.float .f64 n) (.float .f64 m)).run P x.w = .ok () x.w := by
      unfold eqGuard
      cases op <;> rfl
    simp only [Sem.run_bind, hg, Result.andThen_ok]
    have hf : FloatKind.f64.format = Ieee.double := rfl
    cases op <;> simp only [fltArith, binFlt, Option.some.injEq, reduceCtorEq, Option.map_eq_some_iff] at h1
    case add =>
      obtain ⟨r, h2, rfl⟩ := h1
      exact ⟨_, by first | (simp [binOp, Op.floatArith, hf, show Ieee.double.add n m = some r from h2]; done) | (simp [binOp, Op.floatArith, hf, show Ieee.double.add n m = some r from h2]; rfl), rel_flt⟩
    case sub =>
      obtain ⟨r, h2, rfl⟩ := h1
      exact ⟨_, by first | (simp [binOp, Op.floatArith, hf, show Ieee.double.sub n m = some r from h2]; done) | (simp [binOp, Op.floatArith, hf, show Ieee.double.sub n m = some r from h2]; rfl), rel_flt⟩
    case mul =>
      obtain ⟨r, h2, rfl⟩ := h1
      exact ⟨_, by first | (simp [binOp, Op.floatArith, hf, show Ieee.double.mul n m = some r from h2]; done) | (simp [binOp, Op.floatArith, hf, show Ieee.double.mul n m = some r from h2]; rfl), rel_flt⟩
    case quo =>
      obtain ⟨r, h2, rfl⟩ := h1
      exact ⟨_, by first | (simp [binOp, Op.floatArith, hf, show Ieee.double.div n m = some r from h2]; done) | (simp [binOp, Op.floatArith, hf, show Ieee.double.div n m = some r from h2]; rfl), rel_flt⟩
    all_goals
      subst h1
      exact ⟨.bool _, by first | (simp [binOp, Op.floatCmp, hf]; done) | (simp [binOp, Op.floatCmp, hf]; rfl), rel_bool⟩
  · rename_i n m
    obtain ⟨d, h1, rfl⟩ := v_some hp
    rw [inv_str hA, inv_str hB]
    have hg : (eqGuard op t ox oy (.string n) (.string m)).run P x.w = .ok () x.w := by
      unfold eqGuard
      cases op <;> rfl
    simp only [Sem.run_bind, hg, Result.andThen_ok]
    cases op <;> simp only [binStr, Option.some.injEq, reduceCtorEq] at h1 <;> try (subst h1)
    case add =>
      simp only [vcBin] at hvc
      have hmx : IntKind.i64.max = 9223372036854775807 := by decide
      exact ⟨_, by simp [binOp, Op.stringOp, hmx]; omega, rel_str⟩
    all_goals exact ⟨.bool _, by first | (simp [binOp, Op.stringOp, beq_toStr, sless]; done) | (simp only [binOp, Op.stringOp, beq_toStr, sless]; rfl), rel_bool⟩
  · cases hp

theorem kindT_bool {t : TypeId} (h : kindT P t = .bool) : P.underlying t = some .bool := by
  unfold kindT at h
  split at h <;> first | assumption | cases h

theorem eqb_sound {t : TypeId} {ox oy : Operand} {pos : Bool} (ht : P.underlying t = some .bool) {A B v : V} {a b : Value} (hA : RelV fn x A a) (hB : RelV fn x B b) (hp : pvEqb pos A B = some v) :
    ∃ r, (do eqGuard (if pos then .eql else .neq) t ox oy a b; binOp (if pos then .eql else .neq) t a b : Sem Value).run P x.w = .ok r x.w ∧ RelV fn x v r := by
  unfold pvEqb at hp
  split at hp
  · rename_i n m
    injection hp with hp
    subst hp
    rw [inv_bool hA, inv_bool hB]
    have he := run_equalIn_bool' (P := P) x.w 9999 t n m ht
    cases pos
    · refine ⟨_, ?_, rel_bool⟩
      have hg : (eqGuard .neq t ox oy (.bool n) (.bool m)).run P x.w = .ok () x.w := rfl
      simp only [Bool.false_eq_true, if_false, Sem.run_bind, hg, Result.andThen_ok]
      simp [binOp, Op.equal, Op.maxDepth, he]
    · refine ⟨_, ?_, rel_bool⟩
      have hg : (eqGuard .eql t ox oy (.bool n) (.bool m)).run P x.w = .ok () x.w := rfl
      simp only [if_true, Sem.run_bind, hg, Result.andThen_ok]
      simp [binOp, Op.equal, Op.maxDepth, he]
  · cases hp

/-! ### structs compared -/
theorem ks_len {u : U} {ks : List EK} (h : u.map C.ek = ks.map some) : u.length = ks.length := by simpa using congrArg List.length h

theorem ueq_append : ∀ {a b c d : U}, a.length = b.length → ueq (a ++ c) (b ++ d) = (ueq a b && ueq c d)
  | [], [], c, d, _ => by simp [ueq]
  | x :: a, y :: b, c, d, h => by
    simp only [List.cons_append, ueq]
    rw [ueq_append (by simpa using h), Bool.and_assoc]
  | [], _ :: _, _, _, h => by simp at h
  | _ :: _, [], _, _, h => by simp at h

/-- a part of a struct's cells -/
theorem run_part {t : TypeId} {agg : Bool} {n : Nat} (ha : aggT P t = some agg) (hs : sizeT P t = some n) {cs : Array Value} {off : Nat} (h : off + n ≤ cs.size) (h1 : agg = false → n = 1) (w : World) :
    (part t cs off).run P w = .ok (if agg then .agg ((cs.toList.drop off).take n).toArray else ((cs.toList.drop off).take n).headD undef) w := by
  simp only [part, Sem.run_bind, run_isAgg ha, Result.andThen_ok]
  cases agg with
  | true =>
    simp only [if_true, Sem.run_bind, run_sizeT hs, Result.andThen_ok, Sem.run_pure]
    congr 2
    apply Array.ext'
    simp
  | false =>
    obtain rfl := h1 rfl
    have hlt : off < cs.size := by omega
    simp [hlt, List.head?_take, List.head?_drop]

theorem cell_eq {k : EK} {c d : C} {a b : Value} {w : World} {F : Nat → Prop} (hc : RelC w F c a) (hd : RelC w F d b) (h1 : c.ek = some k) (h2 : d.ek = some k) :
    (∃ K n m, k = .int K ∧ a = .int K n ∧ b = .int K m ∧ ceq c d = (n == m)) ∨ (∃ n m, k = .bool ∧ a = .bool n ∧ b = .bool m ∧ ceq c d = (n == m)) ∨ (∃ n m, k = .str ∧ a = .string n ∧ b = .string m ∧ ceq c d = (n == m)) ∨ (∃ n m, k = .flt ∧ a = .float .f64 n ∧ b = .float .f64 m ∧ ceq c d = feq n m) := by
  cases c <;> simp only [C.ek, Option.some.injEq, reduceCtorEq] at h1 <;> subst h1 <;> cases d <;> simp only [C.ek, Option.some.injEq, reduceCtorEq, EK.int.injEq] at h2
  · subst h2
    simp only [RelC] at hc hd
    left
    refine ⟨_, _, _, rfl, hc, hd, ?_⟩
    simp only [ceq]
    rw [Bool.eq_iff_iff]
    simp
  · simp only [RelC] at hc hd
    right; left
    exact ⟨_, _, rfl, hc, hd, by simp [ceq]⟩
  · simp only [RelC] at hc hd
    right; right; right
    exact ⟨_, _, rfl, hc, hd, by simp [ceq]⟩
  · simp only [RelC] at hc hd
    right; right; left
    exact ⟨_, _, rfl, hc, hd, by simp [ceq, beq_str]⟩

/-- '==' of values of a type whose cells have kinds ks: as the cells are. -/
theorem eqKs_sound {w : World} {F : Nat → Prop} : ∀ (n : Nat) {t : TypeId} {ks : List EK}, eqKs P n t = some ks → (∃ agg, aggT P t = some agg ∧ sizeT P t = some ks.length ∧ (agg = false → ks.length = 1) ∧
    ∀ (d : Nat), n ≤ d → ∀ {u v : U} {us vs : List Value}, RelCs w F u us → RelCs w F v vs → u.map C.ek = ks.map some → v.map C.ek = ks.map some →
      (Op.equalIn d t (if agg then .agg us.toArray else us.headD undef) (if agg then .agg vs.toArray else vs.headD undef)).run P w = .ok (ueq u v) w) := by
  intro n
  induction n with
  | zero => intro t ks h; simp [eqKs] at h
  | succ n ih =>
    intro t ks h
    simp only [eqKs] at h
    have scal : ∀ {k : EK} {dsc : TypeDesc}, P.underlying t = some dsc → aggD dsc = false → sizeT P t = some 1 → some [k] = some ks →
        (∀ d a b c e, RelC w F c a → RelC w F e b → c.ek = some k → e.ek = some k → (Op.equalIn (d + 1) t a b).run P w = .ok (ceq c e) w) →
        (∃ agg, aggT P t = some agg ∧ sizeT P t = some ks.length ∧ (agg = false → ks.length = 1) ∧
          ∀ (d : Nat), n + 1 ≤ d → ∀ {u v : U} {us vs : List Value}, RelCs w F u us → RelCs w F v vs → u.map C.ek = ks.map some → v.map C.ek = ks.map some →
            (Op.equalIn d t (if agg then .agg us.toArray else us.headD undef) (if agg then .agg vs.toArray else vs.headD undef)).run P w = .ok (ueq u v) w) := by
      intro k dsc h1 h2 h3 h4 h5
      injection h4 with h4
      subst h4
      refine ⟨false, by simp [aggT, h1, h2], h3, fun _ => rfl, fun d hd u v us vs hu hv ku kv => ?_⟩
      obtain ⟨d, rfl⟩ : ∃ m, d = m + 1 := ⟨d - 1, by omega⟩
      obtain ⟨c, rfl⟩ : ∃ c, u = [c] := List.length_eq_one_iff.1 (by simpa using congrArg List.length ku)
      obtain ⟨e, rfl⟩ : ∃ c, v = [c] := List.length_eq_one_iff.1 (by simpa using congrArg List.length kv)
      obtain ⟨a, rfl⟩ : ∃ c, us = [c] := List.length_eq_one_iff.1 (by rw [← RelCs.length hu]; rfl)
      obtain ⟨b, rfl⟩ : ∃ c, vs = [c] := List.length_eq_one_iff.1 (by rw [← RelCs.length hv]; rfl)
      have := h5 d a b c e hu.1 hv.1 (by simpa using ku) (by simpa using kv)
      simpa [ueq] using this
    split at h
    · rename_i k h1 h2
      refine scal h1 rfl h2 h (fun d a b c e hc he kc ke => ?_)
      rcases cell_eq hc he kc ke with ⟨K, n, m, e0, rfl, rfl, e1⟩ | ⟨n, m, e0, _⟩ | ⟨n, m, e0, _⟩ | ⟨n, m, e0, _⟩
      · rw [e1, run_equalIn_int w d t K _ n m h1]
      all_goals cases e0
    · rename_i h1 h2
      refine scal h1 rfl h2 h (fun d a b c e hc he kc ke => ?_)
      rcases cell_eq hc he kc ke with ⟨K, n, m, e0, _⟩ | ⟨n, m, e0, rfl, rfl, e1⟩ | ⟨n, m, e0, _⟩ | ⟨n, m, e0, _⟩
      · cases e0
      · rw [e1, run_equalIn_bool' w d t n m h1]
      all_goals cases e0
    · rename_i h1 h2
      refine scal h1 rfl h2 h (fun d a b c e hc he kc ke => ?_)
      rcases cell_eq hc he kc ke with ⟨K, n, m, e0, _⟩ | ⟨n, m, e0, _⟩ | ⟨n, m, e0, rfl, rfl, e1⟩ | ⟨n, m, e0, _⟩
      · cases e0
      · cases e0
      · rw [e1, run_equalIn_string w d t n m h1, beq_toListBytes]
      · cases e0
    · rename_i h1 h2
      refine scal h1 rfl h2 h (fun d a b c e hc he kc ke => ?_)
      rcases cell_eq hc he kc ke with ⟨K, n, m, e0, _⟩ | ⟨n, m, e0, _⟩ | ⟨n, m, e0, _⟩ | ⟨n, m, e0, rfl, rfl, e1⟩
      · cases e0
      · cases e0
      · cases e0
      · rw [e1]
        simp [Op.equalIn, run_underlying h1, Op.floatEq, feq, FloatKind.format]
    · rename_i fs k h1 h2
      split at h
      · rename_i hst
        split at h
        · rename_i l hl
          split at h
          · rename_i hlen
            injection h with h
            subst h
            refine ⟨true, by simp [aggT, h1, aggD], by rw [hlen]; exact h2, fun h => by simp at h, fun d hd u v us vs hu hv ku kv => ?_⟩
            obtain ⟨d, rfl⟩ : ∃ m, d = m + 1 := ⟨d - 1, by omega⟩
            simp only [if_true]
            have hfo : P.fieldsOf t = fs := by simp [Program.fieldsOf, h1]
            rw [run_equalIn_struct (P := P) w d t us.toArray vs.toArray (by rw [hfo]; exact h1) hst, hfo]
            -- field by field
            have key : ∀ (fl : List Field) (off : Nat) (l : List EK), eqFs (eqKs P n) fl off = some l → off + l.length = us.length → off + l.length = vs.length →
                (u.drop off).map C.ek = l.map some → (v.drop off).map C.ek = l.map some →
                (Op.eqFields d us.toArray vs.toArray fl).run P w = .ok (ueq (u.drop off) (v.drop off)) w := by
              intro fl
              induction fl with
              | nil =>
                intro off l hl e1 e2 k1 k2
                simp only [eqFs, Option.some.injEq] at hl
                subst hl
                have z1 : u.drop off = [] := by simpa using k1
                have z2 : v.drop off = [] := by simpa using k2
                rw [z1, z2]
                simp [Op.eqFields, ueq]
              | cons f r ihr =>
                intro off l hl e1 e2 k1 k2
                simp only [eqFs] at hl
                split at hl
                · cases hl
                · rename_i hn
                  have hn1 : f.name ≠ "_" := fun e => hn (.inl e)
                  have hn2 : f.offset = off := Classical.byContradiction fun e => hn (.inr e)
                  split at hl
                  · cases hl
                  · rename_i la hla
                    split at hl
                    · cases hl
                    · rename_i lb hlb
                      injection hl with hl
                      subst hl
                      obtain ⟨agg, ha, hs, h1', heq⟩ := ih hla
                      have hlu : u.length = us.length := RelCs.length hu
                      have hlv : v.length = vs.length := RelCs.length hv
                      simp only [List.length_append] at e1 e2
                      have pu := run_part ha hs (cs := us.toArray) (off := off) (by simp; omega) h1' w
                      have pv' := run_part ha hs (cs := vs.toArray) (off := off) (by simp; omega) h1' w
                      have ru : RelCs w F ((u.drop off).take la.length) ((us.drop off).take la.length) := (hu.drop _).take _
                      have rv : RelCs w F ((v.drop off).take la.length) ((vs.drop off).take la.length) := (hv.drop _).take _
                      have ku' : ((u.drop off).take la.length).map C.ek = la.map some := by rw [List.map_take, k1]; simp
                      have kv' : ((v.drop off).take la.length).map C.ek = la.map some := by rw [List.map_take, k2]; simp
                      have he := heq d (by omega) ru rv ku' kv'
                      have hr := ihr (off + la.length) lb hlb (by omega) (by omega) (by rw [← List.drop_drop, List.map_drop, k1]; simp) (by rw [← List.drop_drop, List.map_drop, k2]; simp)
                      rw [Op.eqFields]
                      simp only [if_pos hn1, Sem.run_bind, hn2, pu, pv', Result.andThen_ok]
                      try simp only [List.toList_toArray] at he ⊢
                      rw [he]
                      have hsplit : ueq (u.drop off) (v.drop off) = (ueq ((u.drop off).take la.length) ((v.drop off).take la.length) && ueq (u.drop (off + la.length)) (v.drop (off + la.length))) := by
                        rw [← ueq_append (by simp; omega), ← List.drop_drop, ← List.drop_drop, List.take_append_drop, List.take_append_drop]
                      rw [hsplit]
                      simp only [Result.andThen_ok]
                      cases hq : ueq ((u.drop off).take la.length) ((v.drop off).take la.length)
                      · simp
                      · simpa using hr
            have hlu : u.length = us.length := RelCs.length hu
            have hlv : v.length = vs.length := RelCs.length hv
            have := key fs.toList 0 l hl (by rw [← hlu, ks_len ku]; omega) (by rw [← hlv, ks_len kv]; omega) (by simpa using ku) (by simpa using kv)
            simpa using this
          · cases h
        · cases h
      · cases h
    · cases h

theorem eqs_sound {t : TypeId} {ox oy : Operand} {pos : Bool} {ks : List EK} (hg : P.eqGuardType P.depth t = false) (hk : eqKs P 100 t = some ks) (hst : ∃ fs, P.underlying t = some (.struct fs)) {A B v : V} {a b : Value} (hA : RelV fn x A a) (hB : RelV fn x B b) (hp : pvEqs pos A B = some v)
    (hvc : hasKs ks A ∧ hasKs ks B) : ∃ r, (do eqGuard (if pos then .eql else .neq) t ox oy a b; binOp (if pos then .eql else .neq) t a b : Sem Value).run P x.w = .ok r x.w ∧ RelV fn x v r := by
  unfold pvEqs at hp
  split at hp
  · rename_i u u'
    injection hp with hp
    subst hp
    simp only [RelV] at hA hB
    obtain ⟨cs, rfl, hc⟩ := hA
    obtain ⟨cs', rfl, hc'⟩ := hB
    obtain ⟨fs, hst⟩ := hst
    obtain ⟨agg, ha, hs, h1, he⟩ := eqKs_sound (P := P) (w := x.w) (F := x.F) 100 hk
    have hagg : agg = true := by
      simp only [aggT, hst, Option.map_some, aggD, Option.some.injEq] at ha
      exact ha.symm
    subst hagg
    have he := he 10000 (by omega) hc hc' hvc.1 hvc.2
    simp only [if_true, Array.toArray_toList] at he
    cases pos
    · refine ⟨_, ?_, rel_bool⟩
      simp only [Bool.false_eq_true, if_false, Sem.run_bind, run_eqGuard_agg x.w _ t ox oy cs cs' hg, Result.andThen_ok, run_neq_struct, he]
    · refine ⟨_, ?_, rel_bool⟩
      simp only [if_true, Sem.run_bind, run_eqGuard_agg x.w _ t ox oy cs cs' hg, Result.andThen_ok, run_eql_struct, he]
  · cases hp
end
end Go.Lx
