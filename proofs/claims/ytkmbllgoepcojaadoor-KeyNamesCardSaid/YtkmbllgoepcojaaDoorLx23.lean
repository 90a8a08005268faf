import Derived.Test.YtkmbllgoepcojaaDoorLx22
/- Regions whose order is the text's; blocks given up. -/
set_option linter.unusedVariables false
set_option linter.unusedSimpArgs false
namespace Go.Lx
section
variable {P : Program} {nm : FuncId → Option Nat} {x : Cx}

theorem Nx.any {n0 : Nat} {x x' : Cx} (h : Nx x.h.length x x') : Nx n0 x x' where
  os := h.os
  tape := h.tape
  output := h.output
  size := h.size
  keep := h.keep
  own := h.own
  fout := h.fout
  mv fn v u _ hv := h.mv fn v u (RelV.under hv) hv

/-- a state of the language, found in the machine's -/
structure RelS (nm : FuncId → Option Nat) (N : Nat) (x : Cx) (s : St) (a : Act) : Prop where
  h : x.h = s.h
  good : Good (Fn_ nm) x
  t : RelT (Fn_ nm) x s a
  size : N ≤ a.tmps.size
  defers : a.defers = []

theorem put_getD {a : Act} {d : Nat} {u : Value} (hd : d < a.tmps.size) (n : Nat) : (a.put (some d) u).tmps.getD n undef = if n = d then u else a.tmps.getD n undef := by
  simp only [Act.put, Array.getD_eq_getD_getElem?]
  by_cases e : n = d
  · subst e; simp [hd]
  · simp [e, Array.getElem?_setIfInBounds, Ne.symm e]

theorem RelT.put {fn : Nums} {s : St} {a : Act} {h' : List Root} (h : RelT fn x s a) {d : Option Nat} (hd : ∀ n, d = some n → n < a.tmps.size) {v : V} {u : Value} (hv : RelV fn x v u) : RelT fn x ((⟨s.t, h'⟩ : St).put d true v) (a.put d u) := by
  cases d with
  | none => exact h
  | some d =>
    intro n p hp
    rw [put_getD (hd d rfl)]
    simp only [St.put, List.lookup_cons] at hp
    by_cases e : n = d
    · subst e
      simp only [beq_self_eq_true, Option.some.injEq] at hp
      subst hp
      simpa using hv
    · have : (n == d) = false := by simpa using e
      simp only [this] at hp
      simpa [e] using h n p hp
theorem RelT.drop {fn : Nums} {s : St} {a : Act} {h' : List Root} (h : RelT fn x s a) {d : Option Nat} (hd : ∀ n, d = some n → n < a.tmps.size) {v : V} : RelT fn x ((⟨s.t, h'⟩ : St).put d false v) (a.put d undef) := by
  cases d with
  | none => exact h
  | some d =>
    intro n p hp
    rw [put_getD (hd d rfl)]
    simp only [St.put, List.lookup_cons] at hp
    by_cases e : n = d
    · subst e
      simp only [beq_self_eq_true, Option.some.injEq] at hp
      subst hp
      simp
    · have : (n == d) = false := by simpa using e
      simp only [this] at hp
      simpa [e] using h n p hp

theorem put_h (s : St) (d b v) : (s.put d b v).h = s.h := by cases d <;> rfl
theorem actput_size (a : Act) (d u) : (a.put d u).tmps.size = a.tmps.size := by cases d <;> simp [Act.put]
theorem actput_defers (a : Act) (d u) : (a.put d u).defers = a.defers := by cases d <;> rfl

theorem lowOper_parts {pr : Bool} {N : Nat} {ops : Array Go.Oper} {o : Go.Oper} {q : Oper} (h : lowOper P nm pr N ops o = some q) :
    lowOp P nm pr o.op = some q.op ∧ q.dst = o.dst ∧ (∀ n, o.dst = some n → n < N) ∧ ((o.guard = none ∧ q.g = none) ∨ ∃ j w d, o.guard = some (j, w) ∧ (ops[j]?).bind (·.dst) = some d ∧ q.g = some (d, w)) := by
  unfold lowOper at h
  split at h
  · rename_i op g h1 h2
    split at h
    · rename_i hd
      injection h with h
      subst h
      refine ⟨h1, rfl, fun n hn => by rw [hn] at hd; simpa using hd, ?_⟩
      unfold lowG at h2
      split at h2
      · rename_i hg
        injection h2 with h2
        subst h2
        exact .inl ⟨hg, rfl⟩
      · rename_i j w hg
        split at h2
        · rename_i d hd'
          injection h2 with h2
          subst h2
          exact .inr ⟨j, w, d, hg, hd', rfl⟩
        · cases h2
    · cases h
  · cases h

theorem wanted_eq {pr : Bool} {N : Nat} {ops : Array Go.Oper} {o : Go.Oper} {q : Oper} (h : lowOper P nm pr N ops o = some q) {s : St} {a : Act} (hT : RelT (Fn_ nm) x s a) (hg : q.gok s) :
    Region.wanted o (yielded ops a.tmps) = q.gb s := by
  obtain ⟨_, _, _, h4⟩ := lowOper_parts h
  rcases h4 with ⟨h1, h2⟩ | ⟨j, w, d, h1, h2, h3⟩
  · simp [Region.wanted, h1, Oper.gb, h2]
  · simp only [Region.wanted, h1, Oper.gb, h3, yielded, h2, Option.bind_some]
    simp only [Oper.gok, h3] at hg
    unfold St.get at hg ⊢
    cases hl : s.t.lookup d with
    | none => simp [hl, isBool] at hg
    | some p =>
      simp only [hl, Option.getD_some] at hg ⊢
      obtain ⟨b, v⟩ := p
      have hv : ∃ c, v = .s (.c (.bool c)) := by
        cases v with
        | s d => cases d with
          | c c => cases c <;> simp only [isBool] at hg; exact ⟨_, rfl⟩
          | _ => simp [isBool] at hg
        | _ => simp [isBool] at hg
      obtain ⟨c, rfl⟩ := hv
      rcases hT d _ hl with ⟨e1, e2⟩ | ⟨e1, e2⟩
      · simp only at e1 e2
        subst e1
        have e3 := inv_bool e2
        rw [Array.getD_eq_getD_getElem?] at e3
        cases ht : a.tmps[d]? with
        | none => rw [ht] at e3; cases e3
        | some u =>
          rw [ht] at e3
          simp only [Option.getD_some] at e3
          subst e3
          simp only [gval, Bool.true_and]
          cases c <;> cases w <;> rfl
      · simp only at e1 e2
        subst e1
        rw [Array.getD_eq_getD_getElem?] at e2
        simp only [gval, Bool.false_and]
        cases ht : a.tmps[d]? with
        | none => rfl
        | some u =>
          rw [ht] at e2
          simp only [Option.getD_some] at e2
          subst e2
          rfl

/-- one operation of a region -/
theorem oper_sound {n0 N : Nat} {pr : Bool} {ops : Array Go.Oper} {o : Go.Oper} {q : Oper} (h : lowOper P nm pr N ops o = some q) {s : St} {a : Act} (hR : RelS nm N x s a) {K : St → Prop} (hw : wpOp (CallsRel P nm) q s K)
    {next : Act → World → Prop} {Q : Exit → Act → World → Prop} (hn : ∀ x' s' a', RelS nm N x' s' a' → Nx n0 x x' → K s' → next a' x'.w) :
    if Region.wanted o (yielded ops a.tmps) then o.wp P a x.w next Q else next (a.put o.dst undef) x.w := by
  obtain ⟨hg, hw⟩ := hw
  obtain ⟨l1, l2, l3, _⟩ := lowOper_parts h
  have hd : ∀ n, q.dst = some n → n < a.tmps.size := fun n hn => Nat.lt_of_lt_of_le (l3 n (by rw [← l2]; exact hn)) hR.size
  rw [wanted_eq h hR.t hg, ← l2]
  have off : ∀ {v : V}, q.gb s = false → K (s.put q.dst false v) → next (a.put q.dst undef) x.w := fun hb hK =>
    hn x _ _ ⟨by rw [put_h]; exact hR.h, hR.good, hR.t.drop (h' := s.h) hd, by rw [actput_size]; exact hR.size, by rw [actput_defers]; exact hR.defers⟩ (Nx.refl _ _) hK
  have on : ∀ {x' : Cx} {v : V} {u : Value} {h' : List Root}, Good (Fn_ nm) x' → Nx x.h.length x x' → RelV (Fn_ nm) x' v u → x'.h = h' → K ((⟨s.t, h'⟩ : St).put q.dst true v) → next (a.put q.dst u) x'.w := fun {x' v u h'} hg' hnx hv e hK =>
    hn x' _ _ ⟨by rw [put_h]; exact e, hg', (hR.t.mv hnx).put (h' := h') hd hv, by rw [actput_size]; exact hR.size, by rw [actput_defers]; exact hR.defers⟩ hnx.any hK
  split at hw
  · rename_i hp
    obtain ⟨v, h2, h3⟩ := hw
    cases hb : q.gb s with
    | false => rw [hb] at h3; simpa using off hb h3
    | true =>
      rw [hb] at h3
      obtain ⟨h1, h4, h5⟩ := h2 hb
      obtain ⟨r, k1, k2⟩ := pure_sound hR.good (by rw [hR.h]; exact List.prefix_refl _) hR.t (o := o) l1 hp h1 h4 h5
      simp only [if_true]
      unfold Oper.wp
      rw [k1]
      show next (a.put o.dst r) x.w
      rw [← l2]
      exact on (h' := s.h) hR.good (Nx.refl _ _) k2 hR.h h3
  · rename_i hp
    have hp : q.op.isPure = false := by simpa using hp
    obtain ⟨h1, h2⟩ := hw
    cases hb : q.gb s with
    | false => obtain ⟨v, h2⟩ := h2 hb; simpa using off hb h2
    | true =>
      obtain ⟨h3, h4⟩ := h1 hb
      rw [← hR.h] at h4
      have := eff_sound hR.good hR.t (o := o) l1 hp h3 h4
      simp only [if_true]
      refine this next Q (fun u x' d k1 k2 k3 k4 => ?_)
      rw [← l2]
      exact on k1 k2 k3 rfl k4

theorem opers_sound {n0 N : Nat} {pr : Bool} {ops : Array Go.Oper} {Q : Exit → Act → World → Prop} : ∀ {l : List Go.Oper} {ql : List Oper} {x : Cx} {s : St} {a : Act}, l.mapM (lowOper P nm pr N ops) = some ql → RelS nm N x s a → ∀ {K : St → Prop}, wpOps (CallsRel P nm) ql s K →
    (∀ x' s' a', RelS nm N x' s' a' → Nx n0 x x' → K s' → Q .normal a' x'.w) → wpList P ops Q l a x.w
  | [], ql, x, s, a, hl, hR, K, hw, hQ => by
    rw [mapM_nil hl] at hw
    exact hQ x s a hR (Nx.refl _ _) hw
  | o :: l, ql, x, s, a, hl, hR, K, hw, hQ => by
    obtain ⟨q, ql', h1, h2, rfl⟩ := mapM_cons hl
    refine wpList_step fun K' hK' => ?_
    refine oper_sound (n0 := n0) h1 hR hw (fun x' s' a' hR' hnx hw' => hK' _ _ ?_)
    exact opers_sound (n0 := n0) h2 hR' hw' (fun x'' s'' a'' hR'' hnx' hk => hQ x'' s'' a'' hR'' (hnx.trans hnx') hk)

theorem quo_sound {o : Go.Oper} {op : Op} (hl : lowQuo P nm o.op = some op) (hg : Good (Fn_ nm) x) {s : St} {a : Act} (hT : RelT (Fn_ nm) x s a) (ht : op.xs.all (X.there s) = true) {K : V → List Root → Prop} (h : eff (CallsRel P nm) (X.val s) x.h K op) : OpDid P nm x o a K := by
  obtain ⟨dst, gop, ty, pos, after, guard⟩ := o
  simp only at hl
  unfold lowQuo at hl
  split at hl
  · rename_i t y z yt
    split at hl
    · rename_i hu
      simp only [Option.bind_eq_bind, Option.bind_eq_some_iff, Option.pure_def, Option.some.injEq] at hl
      obtain ⟨A, h1, B, h2, rfl⟩ := hl
      simp only [Op.xs, List.all_cons, List.all_nil, Bool.and_true, Bool.and_eq_true] at ht
      have rA := xOf_rel hT h1 ht.1
      have rB := xOf_rel hT h2 ht.2
      obtain ⟨m, n, e, hK⟩ := (callR_sound h).1 rfl
      simp only [List.map_cons, List.map_nil, List.cons.injEq, and_true] at e
      rw [e.1] at rA
      rw [e.2] at rB
      have ea := inv_flt rA
      have eb := inv_flt rB
      have hq : (eqGuard .quo t y z (.float .f64 m) (.float .f64 n)).run P x.w = .ok () x.w := by
        unfold eqGuard
        rfl
      have hf : FloatKind.f64.format = Ieee.double := rfl
      have key : ∃ (c k : Nat), FDiv m n c ∧ (do eqGuard .quo t y z (.float .f64 m) (.float .f64 n); binOp .quo t (.float .f64 m) (.float .f64 n) : Sem Value).run P x.w = .ok (.float .f64 c) { x.w with drawn := x.w.drawn + k } := by
        simp only [Sem.run_bind, hq, Result.andThen_ok]
        cases hd : Ieee.double.div m n with
        | some r => exact ⟨r, 0, .inl hd, by first | (simp [binOp, Op.floatArith, hf, hd]; done) | (simp [binOp, Op.floatArith, hf, hd]; rfl)⟩
        | none =>
          have hc : (choose (.nanBits .f64 m n)).run P x.w = .ok (Question.cut (.nanBits .f64 m n) (x.w.tape x.w.drawn (.nanBits .f64 m n))) { x.w with drawn := x.w.drawn + 1 } := by
            simp [choose, Sem.run, Question.forced]
          refine ⟨Question.cut (.nanBits .f64 m n) (x.w.tape x.w.drawn (.nanBits .f64 m n)), 1, .inr ⟨hd, x.w.tape x.w.drawn (.nanBits .f64 m n), rfl⟩, ?_⟩
          simp [binOp, Op.floatArith, hf, hd, hc]
      obtain ⟨c, k, k1, k2⟩ := key
      obtain ⟨g1, g2⟩ := step_same hg (w' := { x.w with drawn := x.w.drawn + k }) rfl rfl rfl rfl
      intro next Q hn
      unfold Oper.wp
      have he : (execOp a.eval ⟨dst, .binOp .quo t y z yt, ty, pos, after, guard⟩).run P x.w = .ok (.value (.float .f64 c)) { x.w with drawn := x.w.drawn + k } := by
        have := run_v k2
        rw [← ea, ← eb] at this
        exact this
      rw [he]
      exact hn (.float .f64 c) { x with w := { x.w with drawn := x.w.drawn + k } } (.s (.c (.flt c))) g1 (g2 _) rel_flt (hK c k1)
    · cases hl
  · cases hl
theorem lowOperQ_parts {pr : Bool} {N : Nat} {ops : Array Go.Oper} {o : Go.Oper} {q : Oper} (h : lowOperQ P nm pr N ops o = some q) :
    lowOper P nm pr N ops o = some q ∨ (o.guard = none ∧ lowQuo P nm o.op = some q.op ∧ q.dst = o.dst ∧ (∀ n, o.dst = some n → n < N) ∧ q.g = none) := by
  unfold lowOperQ at h
  split at h
  · rename_i op h1
    split at h1
    · rename_i hg
      split at h
      · rename_i hd
        injection h with h
        subst h
        exact .inr ⟨by simpa using hg, h1, rfl, fun n hn => by rw [hn] at hd; simpa using hd, rfl⟩
      · cases h
    · cases h1
  · exact .inl h
theorem operQ_sound {n0 N : Nat} {pr : Bool} {ops : Array Go.Oper} {o : Go.Oper} {q : Oper} (h : lowOperQ P nm pr N ops o = some q) {s : St} {a : Act} (hR : RelS nm N x s a) {K : St → Prop} (hw : wpOp (CallsRel P nm) q s K)
    {next : Act → World → Prop} {Q : Exit → Act → World → Prop} (hn : ∀ x' s' a', RelS nm N x' s' a' → Nx n0 x x' → K s' → next a' x'.w) :
    if Region.wanted o (yielded ops a.tmps) then o.wp P a x.w next Q else next (a.put o.dst undef) x.w := by
  rcases lowOperQ_parts h with h | ⟨g1, l1, l2, l3, g2⟩
  · exact oper_sound h hR hw hn
  · have hd : ∀ n, q.dst = some n → n < a.tmps.size := fun n hn => Nat.lt_of_lt_of_le (l3 n (by rw [← l2]; exact hn)) hR.size
    have hwant : Region.wanted o (yielded ops a.tmps) = true := by simp [Region.wanted, g1]
    rw [hwant]
    simp only [if_true]
    obtain ⟨hg, hw⟩ := hw
    have hp : q.op.isPure = false := by
      have := l1
      unfold lowQuo at this
      split at this
      · split at this
        · simp only [Option.bind_eq_bind, Option.bind_eq_some_iff, Option.pure_def, Option.some.injEq] at this
          obtain ⟨A, _, B, _, e⟩ := this
          rw [← e]; rfl
        · cases this
      · cases this
    rw [if_neg (by simp [hp])] at hw
    obtain ⟨h3, h4⟩ := hw.1 (by simp [Oper.gb, g2])
    rw [← hR.h] at h4
    refine quo_sound l1 hR.good hR.t h3 h4 next Q (fun u x' d k1 k2 k3 k4 => ?_)
    rw [← l2]
    exact hn x' _ _ ⟨by rw [put_h], k1, (hR.t.mv k2).put (h' := x'.h) hd k3, by rw [actput_size]; exact hR.size, by rw [actput_defers]; exact hR.defers⟩ k2.any k4
theorem opersQ_sound {n0 N : Nat} {pr : Bool} {ops : Array Go.Oper} {Q : Exit → Act → World → Prop} : ∀ {l : List Go.Oper} {ql : List Oper} {x : Cx} {s : St} {a : Act}, l.mapM (lowOperQ P nm pr N ops) = some ql → RelS nm N x s a → ∀ {K : St → Prop}, wpOps (CallsRel P nm) ql s K →
    (∀ x' s' a', RelS nm N x' s' a' → Nx n0 x x' → K s' → Q .normal a' x'.w) → wpList P ops Q l a x.w
  | [], ql, x, s, a, hl, hR, K, hw, hQ => by
    rw [mapM_nil hl] at hw
    exact hQ x s a hR (Nx.refl _ _) hw
  | o :: l, ql, x, s, a, hl, hR, K, hw, hQ => by
    obtain ⟨q, ql', h1, h2, rfl⟩ := mapM_cons hl
    refine wpList_step fun K' hK' => ?_
    refine operQ_sound (n0 := n0) h1 hR hw (fun x' s' a' hR' hnx hw' => hK' _ _ ?_)
    exact opersQ_sound (n0 := n0) h2 hR' hw' (fun x'' s'' a'' hR'' hnx' hk => hQ x'' s'' a'' hR'' (hnx.trans hnx') hk)

theorem prefix_get_lt {h0 : List Root} (hp : h0 <+: x.h) {id : Nat} (hl : id < h0.length) : h0[id]? = x.h[id]? := by
  obtain ⟨t, ht⟩ := hp
  rw [← ht, List.getElem?_append, if_pos hl]

mutual
theorem DC.under_le {n m : Nat} (h : n ≤ m) : ∀ {d : DC}, d.under n = true → d.under m = true
  | .c _, _ | .full _, _ | .iptr _ _, _ | .raw _, _ => by simp [DC.under]
  | .ifc t d, hu => by simp only [DC.under] at hu ⊢; exact DC.under_le h hu
  | .ref id g sz off k, hu => by simp only [DC.under, decide_eq_true_eq] at hu ⊢; omega
  | .ptr id off, hu => by simp only [DC.under, decide_eq_true_eq] at hu ⊢; omega
  | .eptr id g i off, hu => by simp only [DC.under, decide_eq_true_eq] at hu ⊢; omega
  | .mp id, hu => by simp only [DC.under, decide_eq_true_eq] at hu ⊢; omega
  | .clo f p q, hu => by
    simp only [DC.under, Bool.and_eq_true] at hu ⊢
    have e1 : p.all (DC.under n) = true := by simpa using hu.1
    have e2 : q.all (DC.under n) = true := by simpa using hu.2
    have k1 := DCs.under_le h e1
    have k2 := DCs.under_le h e2
    exact ⟨by simpa using k1, by simpa using k2⟩
theorem DCs.under_le {n m : Nat} (h : n ≤ m) : ∀ {l : List DC}, l.all (DC.under n) = true → l.all (DC.under m) = true
  | [], _ => rfl
  | d :: l, hu => by
    simp only [List.all_cons, Bool.and_eq_true] at hu ⊢
    exact ⟨DC.under_le h hu.1, DCs.under_le h hu.2⟩
end
mutual
theorem V.under_le {n m : Nat} (h : n ≤ m) : ∀ {d : V}, d.under n = true → d.under m = true
  | .s d, hu => by simp only [V.under] at hu ⊢; exact DC.under_le h hu
  | .a u, _ => by simp [V.under]
  | .bot, _ => by simp [V.under]
  | .m l, hu => by simp only [V.under] at hu ⊢; exact DCs.under_le h hu
  | .tup l, hu => by
    have e1 : l.all (V.under n) = true := by simpa [V.under] using hu
    simpa [V.under] using Vs.under_le h e1
theorem Vs.under_le {n m : Nat} (h : n ≤ m) : ∀ {l : List V}, l.all (V.under n) = true → l.all (V.under m) = true
  | [], _ => rfl
  | d :: l, hu => by
    simp only [List.all_cons, Bool.and_eq_true] at hu ⊢
    exact ⟨V.under_le h hu.1, Vs.under_le h hu.2⟩
end

/-! ### blocks given up -/
section
variable {fn : Nums} {h0 : List Root}
mutual
theorem RelDC.fewer (hp : h0 <+: x.h) : ∀ {d : DC} {v}, d.under h0.length = true → RelDC fn x d v → RelDC fn { x with h := h0 } d v
  | .c _, v, _, h | .full _, v, _, h | .iptr _ _, v, _, h | .raw _, v, _, h => by simpa only [RelDC] using h
  | .ifc t d, v, hu, h => by
    simp only [RelDC, DC.under] at h hu ⊢
    obtain ⟨u, h1, h2⟩ := h
    exact ⟨u, h1, RelDC.fewer hp hu h2⟩
  | .ref id g sz off n, v, hu, h => by
    simp only [RelDC, DC.under, decide_eq_true_eq] at h hu ⊢
    obtain ⟨a, cap, h1, h2, h3, r, h4, h5⟩ := h
    exact ⟨a, cap, h1, h2, h3, r, by rw [← h4, prefix_get_lt hp hu], h5⟩
  | .ptr id off, v, hu, h => by
    simp only [RelDC, DC.under, decide_eq_true_eq] at h hu ⊢
    obtain ⟨b, r, h4, h5⟩ := h
    exact ⟨b, r, by rw [← h4, prefix_get_lt hp hu], h5⟩
  | .eptr id g i off, v, hu, h => by
    simp only [RelDC, DC.under, decide_eq_true_eq] at h hu ⊢
    obtain ⟨a, h1, r, h4, h5⟩ := h
    exact ⟨a, h1, r, by rw [← h4, prefix_get_lt hp hu], h5⟩
  | .mp id, v, hu, h => by
    simp only [RelDC, DC.under, decide_eq_true_eq] at h hu ⊢
    obtain ⟨b, l, h4, h5⟩ := h
    exact ⟨b, l, by rw [← h4, prefix_get_lt hp hu], h5⟩
  | .clo f p q, v, hu, h => by
    simp only [RelDC] at h ⊢
    obtain ⟨k, fs, cs, h1, h2, h3, h4⟩ := h
    simp only [DC.under, Bool.and_eq_true] at hu
    have e1 : p.all (DC.under h0.length) = true := by simpa using hu.1
    have e2 : q.all (DC.under h0.length) = true := by simpa using hu.2
    exact ⟨k, fs, cs, h1, h2, RelDCs.fewer hp e1 h3, RelDCs.fewer hp e2 h4⟩
theorem RelDCs.fewer (hp : h0 <+: x.h) : ∀ {l : List DC} {vs}, l.all (DC.under h0.length) = true → RelDCs fn x l vs → RelDCs fn { x with h := h0 } l vs
  | [], [], _, _ => by simp [RelDCs]
  | c :: r, v :: s, hu, h => by
    simp only [List.all_cons, Bool.and_eq_true] at hu
    simp only [RelDCs] at h ⊢
    exact ⟨RelDC.fewer hp hu.1 h.1, RelDCs.fewer hp hu.2 h.2⟩
  | [], _ :: _, _, h => by simp [RelDCs] at h
  | _ :: _, [], _, h => by simp [RelDCs] at h
end
mutual
theorem RelV.fewer (hp : h0 <+: x.h) : ∀ {d : V} {v}, d.under h0.length = true → RelV fn x d v → RelV fn { x with h := h0 } d v
  | .s d, v, hu, h => by simp only [RelV, V.under] at h hu ⊢; exact RelDC.fewer hp hu h
  | .a u, v, hu, h => by simpa only [RelV] using h
  | .m l, v, hu, h => by
    simp only [RelV, V.under] at h hu ⊢
    obtain ⟨cs, h1, h2⟩ := h
    exact ⟨cs, h1, RelDCs.fewer hp hu h2⟩
  | .tup l, v, hu, h => by
    simp only [RelV] at h ⊢
    obtain ⟨vs, h1, h2⟩ := h
    have e1 : l.all (V.under h0.length) = true := by simpa [V.under] using hu
    exact ⟨vs, h1, RelVs.fewer hp e1 h2⟩
  | .bot, v, _, h => by simp [RelV]
theorem RelVs.fewer (hp : h0 <+: x.h) : ∀ {l : List V} {vs}, l.all (V.under h0.length) = true → RelVs fn x l vs → RelVs fn { x with h := h0 } l vs
  | [], [], _, _ => by simp [RelVs]
  | c :: r, v :: s, hu, h => by
    simp only [List.all_cons, Bool.and_eq_true] at hu
    simp only [RelVs] at h ⊢
    exact ⟨RelV.fewer hp hu.1 h.1, RelVs.fewer hp hu.2 h.2⟩
  | [], _ :: _, _, h => by simp [RelVs] at h
  | _ :: _, [], _, h => by simp [RelVs] at h
end
theorem pure_under {v : V} {n : Nat} (h : v.isPure = true) : v.under n = true := by
  cases v with
  | s d => cases d <;> first | (simp [V.isPure] at h; done) | simp [V.under, DC.under]
  | a u => simp [V.under]
  | _ => simp [V.isPure] at h
theorem RelEs.fewer (hp : h0 <+: x.h) : ∀ {l : List (V × V)} {vs}, RelEs fn x l vs → RelEs fn { x with h := h0 } l vs
  | [], [], _ => trivial
  | c :: r, v :: s, h => ⟨⟨h.1.1, h.1.2.1, RelV.fewer hp (pure_under h.1.1) h.1.2.2.1, RelV.fewer hp (pure_under h.1.2.1) h.1.2.2.2⟩, RelEs.fewer hp h.2⟩
  | [], _ :: _, h => h.elim
  | _ :: _, [], h => h.elim

theorem fewer (hg : Good fn x) (hp : h0 <+: x.h) (hc : h0.all (Root.under h0.length) = true) : Good fn { x with h := h0 } ∧ ∀ n, n ≤ h0.length → Nx n x { x with h := h0 } := by
  have hget : ∀ {id r}, h0[id]? = some r → x.h[id]? = some r := fun h => prefix_get hp h
  have hown : ∀ b, ({ x with h := h0 } : Cx).own b → x.own b := by
    rintro b ⟨id, r, h1, h2, h3⟩
    exact ⟨id, r, hget h1, h2, h3⟩
  refine ⟨⟨fun id r hr => ?_, fun id id' r r' b h1 h2 => hg.one id id' r r' b (hget h1) (hget h2), fun b hb => hg.apart b (hown b hb), hg.lt, fun b hb => hg.ltOwn b (hown b hb), hg.base_mv fun b h => ⟨h, rfl⟩⟩, fun n hn => ⟨rfl, rfl, rfl, Nat.le_refl _, fun _ _ _ => rfl, fun b hb => .inl (hown b hb), fun b hb => .inl hb, fun fn v u hu hv => RelV.fewer hp ?_ hv⟩⟩
  · have := hg.root id r (hget hr)
    have hu : r.under h0.length = true := by
      simp only [List.all_eq_true] at hc
      exact hc r (List.mem_of_getElem? hr)
    cases r with
    | boxd l =>
      obtain ⟨b, cs, t, h1, h2, h3⟩ := this
      exact ⟨b, cs, t, h1, h2, RelDCs.fewer hp hu h3⟩
    | map l =>
      obtain ⟨b, es, n, h1, h2, h3⟩ := this
      exact ⟨b, es, n, h1, h2, RelEs.fewer hp h3⟩
    | _ => exact this
  · exact V.under_le hn hu
end
end
end Go.Lx
