import Derived.Test.YtkmbllgoepcojaaDoorLx24
import Derived.Orders
/- Regions without an order: whatever the order, what the text's order tells. -/
set_option linter.unusedVariables false
set_option linter.unusedSimpArgs false
namespace Go.Lx

inductive Anc (ps : List (List Nat)) : Nat → Nat → Prop
  | one {i j p} : ps[i]? = some p → j ∈ p → Anc ps i j
  | more {i k j p} : ps[i]? = some p → k ∈ p → Anc ps k j → Anc ps i j

theorem befs_sound {ps : List (List Nat)} : ∀ {r pre acc : List (List Nat)}, ps = pre ++ r → acc.length = pre.length → (∀ i b, acc[i]? = some b → ∀ j, j ∈ b → Anc ps i j) → ∀ i b, (befs acc r)[i]? = some b → ∀ j, j ∈ b → Anc ps i j
  | [], pre, acc, _, _, h => h
  | p :: r, pre, acc, hp, hl, h => by
    refine befs_sound (r := r) (pre := pre ++ [p]) (by simp [hp]) (by simp [hl]) ?_
    intro i b hb j hj
    rw [List.getElem?_append] at hb
    split at hb
    · exact h i b hb j hj
    · rename_i hlt
      have hi : i = acc.length := by
        have := (List.getElem?_eq_some_iff.1 hb).1
        simp at this
        omega
      subst hi
      simp only [Nat.sub_self, List.getElem?_cons_zero, Option.some.injEq] at hb
      subst hb
      have hpi : ps[acc.length]? = some p := by rw [hp, hl]; simp
      rw [List.mem_eraseDups, List.mem_append] at hj
      rcases hj with hj | hj
      · exact .one hpi hj
      · obtain ⟨k, hk, hj⟩ := List.mem_flatMap.1 hj
        cases hak : acc[k]? with
        | none => simp [hak] at hj
        | some bk =>
          simp only [hak, Option.getD_some] at hj
          exact .more hpi hk (h k bk hak j hj)

theorem mem_zipI {α : Type} {l : List α} {i : Nat} {q : α} (h : l[i]? = some q) : (i, q) ∈ zipI l := by
  unfold zipI
  refine List.mem_of_getElem? (i := i) ?_
  have := (List.getElem?_eq_some_iff.1 h).1
  rw [List.getElem?_zip_eq_some]
  exact ⟨by simp [this], h⟩

def Op.heapy (o : Op) : Prop := o.cls = .a ∨ o.cls = .w

structure Facts (ps : List (List Nat)) (qs : List Oper) (m : Nat) (late : List Nat) : Prop where
  mle : m ≤ qs.length
  len : ps.length = qs.length
  preLt : ∀ (i : Nat) (p : List Nat), ps[i]? = some p → ∀ j, j ∈ p → j < i
  reads : ∀ (i : Nat) (q : Oper), qs[i]? = some q → ∀ t, t ∈ q.reads → ∀ (j : Nat) (p : Oper), qs[j]? = some p → p.dst = some t → Anc ps i j
  dsts : ∀ (i j : Nat) (p q : Oper) (t : Nat), qs[i]? = some p → qs[j]? = some q → p.dst = some t → q.dst = some t → i = j
  heap : ∀ (i j : Nat) (p q : Oper), i < j → qs[i]? = some p → qs[j]? = some q → p.op.heapy → q.op.heapy → Anc ps j i
  war : ∀ (i j : Nat) (p q : Oper), i < j → qs[i]? = some p → qs[j]? = some q → q.op.cls = .w → (p.op.cls = .r ∨ p.op.cls = .c) → Anc ps j i ∨ (p.op.cls = .r ∧ i ∈ late)
  low : ∀ (i : Nat) (q : Oper), qs[i]? = some q → (q.op.cls = .a ∨ q.op.cls = .r ∨ q.op.cls = .c) → i < m
  high : ∀ (i : Nat) (q : Oper), qs[i]? = some q → q.op.cls = .w → m ≤ i

theorem facts_of {ps : List (List Nat)} {qs : List Oper} {m : Nat} {late : List Nat} (h : drawOk ps qs (befs [] ps) m late = true) : Facts ps qs m late := by
  have hb : ∀ i j, (((befs [] ps)[i]?).getD []).contains j = true → Anc ps i j := by
    intro i j hc
    cases hbi : (befs [] ps)[i]? with
    | none => simp [hbi] at hc
    | some b =>
      simp only [hbi, Option.getD_some, List.contains_iff_mem] at hc
      exact befs_sound (pre := []) rfl rfl (fun i b h => by simp at h) i b hbi j hc
  simp only [drawOk, Bool.and_eq_true, decide_eq_true_eq] at h
  obtain ⟨⟨⟨h1, h2⟩, h3⟩, h4⟩ := h
  have g4 : ∀ i q, qs[i]? = some q → _ := fun i q hq => List.all_eq_true.1 h4 (i, q) (mem_zipI hq)
  simp only [Bool.and_eq_true] at g4
  have hw : ∀ j q, qs[j]? = some q → q.op.cls = .w → m ≤ j ∧ ∀ i p, qs[i]? = some p → i < j → Anc ps j i ∨ p.op.cls = .n ∨ (p.op.cls = .r ∧ i ∈ late) := by
    intro j q hq hc
    have := (g4 j q hq).2
    rw [hc] at this
    simp only [Bool.and_eq_true, decide_eq_true_eq] at this
    refine ⟨this.1, fun i p hp hlt => ?_⟩
    have := List.all_eq_true.1 this.2 (i, p) (mem_zipI hp)
    simp only [Bool.or_eq_true, decide_eq_true_eq, Bool.and_eq_true, beq_iff_eq, List.contains_iff_mem] at this
    rcases this with ((h | h) | h) | h
    · omega
    · exact .inl (hb j i (by simpa using h))
    · exact .inr (.inl h)
    · exact .inr (.inr h)
  have ha : ∀ j q, qs[j]? = some q → q.op.cls = .a → j < m ∧ ∀ i p, qs[i]? = some p → i < j → Anc ps j i ∨ p.op.cls ≠ .a := by
    intro j q hq hc
    have := (g4 j q hq).2
    rw [hc] at this
    simp only [Bool.and_eq_true, decide_eq_true_eq] at this
    refine ⟨this.1, fun i p hp hlt => ?_⟩
    have := List.all_eq_true.1 this.2 (i, p) (mem_zipI hp)
    simp only [Bool.or_eq_true, decide_eq_true_eq, bne_iff_ne] at this
    rcases this with (h | h) | h
    · omega
    · exact .inl (hb j i h)
    · exact .inr h
  refine ⟨h1, h2, ?_, ?_, ?_, ?_, ?_, ?_, fun i q hq hc => (hw i q hq hc).1⟩
  · intro i p hp j hj
    have := List.all_eq_true.1 h3 (i, p) (mem_zipI hp)
    simpa using List.all_eq_true.1 this j hj
  · intro i q hq t ht j p hp hd
    have := List.all_eq_true.1 (g4 i q hq).1.1 t ht
    have := List.all_eq_true.1 this (j, p) (mem_zipI hp)
    simp only [Bool.or_eq_true, bne_iff_ne, ne_eq] at this
    rcases this with h | h
    · exact absurd hd h
    · exact hb i j h
  · intro i j p q t hp hq hd1 hd2
    have := List.all_eq_true.1 (g4 i p hp).1.2 (j, q) (mem_zipI hq)
    simp only [Bool.or_eq_true, beq_iff_eq, bne_iff_ne, ne_eq] at this
    rcases this with (h | h) | h
    · exact h.symm
    · rw [hd2] at h; cases h
    · exact absurd (hd2.trans hd1.symm) h
  · intro i j p q hlt hp hq hc1 hc2
    rcases hc2 with hc2 | hc2
    · obtain ⟨k1, k2⟩ := ha j q hq hc2
      rcases hc1 with hc1 | hc1
      · rcases k2 i p hp hlt with h | h
        · exact h
        · exact absurd hc1 h
      · have := (hw i p hp hc1).1
        omega
    · rcases (hw j q hq hc2).2 i p hp hlt with h | h | h
      · exact h
      · rcases hc1 with hc1 | hc1 <;> rw [h] at hc1 <;> cases hc1
      · rcases hc1 with hc1 | hc1 <;> rw [h.1] at hc1 <;> cases hc1
  · intro i j p q hlt hp hq hc1 hc2
    rcases (hw j q hq hc1).2 i p hp hlt with h | h | h
    · exact .inl h
    · rcases hc2 with hc2 | hc2 <;> rw [h] at hc2 <;> cases hc2
    · exact .inr h
  · intro i q hq hc
    rcases hc with hc | hc | hc
    · exact (ha i q hq hc).1
    · have := (g4 i q hq).2; rw [hc] at this; simpa using this
    · have := (g4 i q hq).2; rw [hc] at this; simpa using this

theorem Anc.lt {ps : List (List Nat)} (h : ∀ (i : Nat) (p : List Nat), ps[i]? = some p → ∀ j, j ∈ p → j < i) {i j : Nat} (ha : Anc ps i j) : j < i := by
  induction ha with
  | one h1 h2 => exact h _ _ h1 _ h2
  | more h1 h2 _ ih => exact Nat.lt_trans ih (h _ _ h1 _ h2)

/-- the run in the text's order -/
structure Run (O : Orc) (qs : List Oper) (m : Nat) (late : List Nat) (h0 : List Root) (σ : Nat → St) : Prop where
  fst : ∀ i q, qs[i]? = some q → i < m → wpOpA O h0 q (σ i) (fun t => t = σ (i + 1))
  snd : ∀ i q, qs[i]? = some q → m ≤ i → wpOp O q (σ i) (fun t => t = σ (i + 1))
  h0 : (σ 0).h = h0
  late : lateOk (σ qs.length) (qs.take m) (qs.drop m) late = true

theorem run_of {O : Orc} {qs : List Oper} {m : Nat} {late : List Nat} {s : St} {K : St → Prop} (hm : m ≤ qs.length) (hc : ∀ q, q ∈ qs.drop m → q.op.isCall = false)
    (H : wpOpsA O s.h (qs.take m) s fun s' => wpOps O (qs.drop m) s' fun s'' => lateOk s'' (qs.take m) (qs.drop m) late = true ∧ K s'') : ∃ σ, Run O qs m late s.h σ ∧ σ 0 = s ∧ K (σ qs.length) := by
  obtain ⟨σ1, a1, a2, a3⟩ := opsA_trace H
  obtain ⟨σ2, b1, b2, b3, b4⟩ := ops_trace hc a3
  have hl1 : (qs.take m).length = m := by simp; omega
  have hl2 : (qs.drop m).length = qs.length - m := by simp
  rw [hl1] at b1
  rw [hl2] at b3 b4
  have hend : (fun i => if i ≤ m then σ1 i else σ2 (i - m)) qs.length = σ2 (qs.length - m) := by
    show (if qs.length ≤ m then σ1 qs.length else σ2 (qs.length - m)) = _
    split
    · have : qs.length = m := by omega
      rw [this, Nat.sub_self, b1]
    · rfl
  refine ⟨fun i => if i ≤ m then σ1 i else σ2 (i - m), ⟨fun i q hq hi => ?_, fun i q hq hi => ?_, by simp [a1], by have := hend; simp only at this ⊢; rw [this]; exact b3⟩, by simp [a1], by have := hend; simp only at this ⊢; rw [this]; exact b4⟩
  · have := a2 i q (by rw [List.getElem?_take, if_pos hi]; exact hq)
    simpa [Nat.le_of_lt hi, Nat.succ_le_of_lt hi] using this
  · have := b2 (i - m) q (by rw [List.getElem?_drop, Nat.add_sub_cancel' hi]; exact hq)
    have e1 : ¬ (i + 1 ≤ m) := by omega
    have e2 : i + 1 - m = i - m + 1 := by omega
    simp only [e1, if_false, e2]
    by_cases h : i ≤ m
    · have : i = m := by omega
      subst this
      simp only [Nat.le_refl, if_true, Nat.sub_self] at this ⊢
      rw [← b1]
      simpa using this
    · simpa [h] using this

theorem cls_pure {op : Op} (h : op.cls = .n) : op.isPure = true := by cases op <;> simp [Op.cls, Op.isPure] at h ⊢
theorem cls_call {op : Op} (h : op.isCall = true) : op.cls = .c := by cases op <;> simp [Op.cls, Op.isCall] at h ⊢
theorem cls_w {op : Op} (h : op.cls = .w) : op.isPure = false ∧ op.isCall = false := by cases op <;> simp [Op.cls, Op.isPure, Op.isCall] at h ⊢
theorem cls_a {op : Op} (h : op.cls = .a) : op.isPure = false ∧ op.isCall = false := by cases op <;> simp [Op.cls, Op.isPure, Op.isCall] at h ⊢
theorem cls_c {op : Op} (h : op.cls = .c) : op.isPure = false ∧ op.isCall = true := by cases op <;> simp [Op.cls, Op.isPure, Op.isCall] at h ⊢

section
variable {O : Orc} {ps : List (List Nat)} {qs : List Oper} {m : Nat} {late : List Nat} {h0 : List Root} {σ : Nat → St}

/-- a step's shape -/
theorem Run.shape (hr : Run O qs m late h0 σ) (hf : Facts ps qs m late) {i : Nat} {q : Oper} (hq : qs[i]? = some q) :
    ∃ v h1, σ (i + 1) = (⟨(σ i).t, h1⟩ : St).put q.dst (q.gb (σ i)) v ∧ (¬ q.op.heapy → h1 = (σ i).h) ∧ (q.op.cls = .a → ∃ r, h1 = (σ i).h ++ [r]) := by
  by_cases hi : i < m
  · obtain ⟨hg, H⟩ := hr.fst i q hq hi
    split at H
    · rename_i hp
      obtain ⟨v, _, h3⟩ := H
      exact ⟨v, (σ i).h, h3.symm, fun _ => rfl, fun h => by rw [(cls_a h).1] at hp; cases hp⟩
    · split at H
      · rename_i hp
        obtain ⟨v, _, h3⟩ := H
        exact ⟨v, (σ i).h, h3.symm, fun _ => rfl, fun h => by rw [(cls_a h).2] at hp; cases hp⟩
      · obtain ⟨dst, op, g⟩ := q
        have gb : ∀ {s : St}, g = none → Oper.gb ⟨dst, op, g⟩ s = true := fun h => by simp [Oper.gb, h]
        cases op <;> simp only at H <;> try exact H.elim
        case alloc z => exact ⟨_, _, by rw [gb H.1]; exact H.2.symm, fun h => (h (.inl rfl)).elim, fun _ => ⟨_, rfl⟩⟩
        case allocx z => exact ⟨_, _, by rw [gb H.1]; exact H.2.symm, fun h => (h (.inl rfl)).elim, fun _ => ⟨_, rfl⟩⟩
        case box n x =>
          obtain ⟨h1, h2, H⟩ := H
          split at H
          · exact ⟨_, _, by rw [gb h1]; exact H.2.symm, fun h => (h (.inl rfl)).elim, fun _ => ⟨_, rfl⟩⟩
          · exact ⟨_, _, by rw [gb h1]; exact H.2.symm, fun h => (h (.inl rfl)).elim, fun _ => ⟨_, rfl⟩⟩
          · exact H.elim
        case mkSl z n l =>
          obtain ⟨h1, h2, H⟩ := H
          split at H
          · exact ⟨_, _, by rw [gb h1]; exact H.2.symm, fun h => (h (.inl rfl)).elim, fun _ => ⟨_, rfl⟩⟩
          · exact H.elim
  · have hnot : q.op.cls = .n ∨ q.op.cls = .w := by
      cases hc : q.op.cls with
      | n => exact .inl rfl
      | w => exact .inr rfl
      | a => exact absurd (hf.low i q hq (.inl hc)) hi
      | r => exact absurd (hf.low i q hq (.inr (.inl hc))) hi
      | c => exact absurd (hf.low i q hq (.inr (.inr hc))) hi
    obtain ⟨hg, H⟩ := hr.snd i q hq (Nat.le_of_not_lt hi)
    rcases hnot with hc | hc
    · rw [if_pos (cls_pure hc)] at H
      obtain ⟨v, _, h3⟩ := H
      exact ⟨v, (σ i).h, h3.symm, fun _ => rfl, fun h => by rw [hc] at h; cases h⟩
    · rw [if_neg (by simp [(cls_w hc).1])] at H
      obtain ⟨h1, h2⟩ := H
      cases hb : q.gb (σ i) with
      | false =>
        obtain ⟨v, h2⟩ := h2 hb
        exact ⟨v, (σ i).h, h2.symm, fun h => absurd (.inr hc) h, fun h => by rw [hc] at h; cases h⟩
      | true =>
        obtain ⟨_, h4⟩ := h1 hb
        obtain ⟨d, h', _, h6⟩ := eff_det (cls_w hc).2 h4
        exact ⟨d, h', h6.symm, fun h => absurd (.inr hc) h, fun h => by rw [hc] at h; cases h⟩

theorem put_lookup_ne {s : St} {d : Option Nat} {b : Bool} {v : V} {t : Nat} (h : d ≠ some t) : (s.put d b v).t.lookup t = s.t.lookup t := by
  cases d with
  | none => rfl
  | some d =>
    have : (t == d) = false := by simpa using fun e : t = d => h (by rw [e])
    simp [St.put, List.lookup_cons, this]
theorem put_lookup {s : St} {b : Bool} {v : V} {t : Nat} : (s.put (some t) b v).t.lookup t = some (b, v) := by simp [St.put]

/-- what no later operation sets stays -/
theorem Run.lookup (hr : Run O qs m late h0 σ) (hf : Facts ps qs m late) {t : Nat} : ∀ {k i : Nat}, i + k = qs.length → (∀ j p, i ≤ j → qs[j]? = some p → p.dst ≠ some t) → (σ i).t.lookup t = (σ qs.length).t.lookup t
  | 0, i, hk, _ => by rw [← hk]; rfl
  | k + 1, i, hk, h => by
    have hlt : i < qs.length := by omega
    have hq : qs[i]? = some qs[i] := List.getElem?_eq_getElem hlt
    obtain ⟨v, h1, e, _⟩ := hr.shape hf hq
    rw [← hr.lookup hf (k := k) (i := i + 1) (by omega) (fun j p hj => h j p (by omega)), e, put_lookup_ne (h i _ (Nat.le_refl _) hq)]

theorem Run.heap_const (hr : Run O qs m late h0 σ) (hf : Facts ps qs m late) : ∀ {k i : Nat}, i + k ≤ qs.length → (∀ j p, i ≤ j → j < i + k → qs[j]? = some p → ¬ p.op.heapy) → (σ (i + k)).h = (σ i).h
  | 0, i, hk, _ => rfl
  | k + 1, i, hk, h => by
    have hlt : i + k < qs.length := by omega
    have hq : qs[i + k]? = some qs[i + k] := List.getElem?_eq_getElem hlt
    obtain ⟨v, h1, e, e1, _⟩ := hr.shape hf hq
    rw [← Nat.add_assoc, e, put_h, ← hr.heap_const hf (k := k) (i := i) (by omega) (fun j p h1 h2 => h j p h1 (by omega))]
    exact e1 (h _ _ (by omega) (by omega) hq)

theorem Run.front (hr : Run O qs m late h0 σ) (hf : Facts ps qs m late) : ∀ {i : Nat}, i ≤ qs.length → (∀ j p, j < i → qs[j]? = some p → p.op.cls ≠ .w) → h0 <+: (σ i).h
  | 0, _, _ => by rw [hr.h0]; exact List.prefix_refl _
  | i + 1, hi, h => by
    have hq : qs[i]? = some qs[i] := List.getElem?_eq_getElem (by omega)
    obtain ⟨v, h1, e, e1, e2⟩ := hr.shape hf hq
    have ih := hr.front hf (i := i) (by omega) (fun j p hj => h j p (by omega))
    rw [e, put_h]
    show h0 <+: h1
    by_cases hc : qs[i].op.cls = .a
    · obtain ⟨r, e3⟩ := e2 hc
      rw [e3]
      exact ih.trans (List.prefix_append _ _)
    · rw [e1 (fun hh => by rcases hh with k | k; exact hc k; exact h i _ (Nat.lt_succ_self _) hq k)]
      exact ih
end
end Go.Lx
