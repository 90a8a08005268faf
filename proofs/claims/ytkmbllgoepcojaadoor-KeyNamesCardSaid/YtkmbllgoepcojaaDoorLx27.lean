import Derived.Test.YtkmbllgoepcojaaDoorLx26
/- Regions without an order are sound. -/
set_option linter.unusedVariables false
set_option linter.unusedSimpArgs false
namespace Go.Lx

def pend (qs : List Oper) (listed : Array Bool) (t : Nat) : Bool := (zipI qs).any fun p => p.2.dst == some t && !listed.getD p.1 false
def avail (qs : List Oper) (listed : Array Bool) (T : List (Nat × (Bool × V))) : List (Nat × (Bool × V)) := T.filter fun p => !pend qs listed p.1

theorem lookup_filter {α : Type} {f : Nat → Bool} : ∀ {l : List (Nat × α)} {t : Nat}, (l.filter fun p => f p.1).lookup t = if f t = true then l.lookup t else none
  | [], t => by simp
  | (n, q) :: l, t => by
    rw [List.filter_cons]
    by_cases e : t = n
    · subst e
      cases hf : f t
      · simp only [hf, Bool.false_eq_true, if_false]
        rw [lookup_filter, hf]
        simp
      · simp [hf]
    · have hne : (t == n) = false := by simpa using e
      cases hf : f n
      · simp only [hf, Bool.false_eq_true, if_false]
        rw [lookup_filter, List.lookup_cons, hne]
      · simp only [hf, if_true, List.lookup_cons, hne]
        exact lookup_filter

theorem avail_lookup {qs : List Oper} {listed : Array Bool} {T : List (Nat × (Bool × V))} {t : Nat} : (avail qs listed T).lookup t = if pend qs listed t = false then T.lookup t else none := by
  have := lookup_filter (f := fun n => !pend qs listed n) (l := T) (t := t)
  unfold avail
  rw [this]
  cases pend qs listed t <;> rfl

theorem mem_zipI' {α : Type} {l : List α} {i : Nat} {q : α} (h : (i, q) ∈ zipI l) : l[i]? = some q := by
  unfold zipI at h
  obtain ⟨j, hj⟩ := List.mem_iff_getElem?.1 h
  rw [List.getElem?_zip_eq_some] at hj
  obtain ⟨h1, h2⟩ := hj
  have hlt : j < l.length := (List.getElem?_eq_some_iff.1 h2).1
  have : i = j := by simpa [hlt] using h1.symm
  subst this
  exact h2

theorem pend_false {qs : List Oper} {listed : Array Bool} {t : Nat} (h : ∀ j p, qs[j]? = some p → p.dst = some t → listed.getD j false = true) : pend qs listed t = false := by
  unfold pend
  rw [List.any_eq_false]
  rintro ⟨j, p⟩ hm
  have := mem_zipI' hm
  simp only [Bool.and_eq_true, beq_iff_eq, Bool.not_eq_true', not_and, Bool.not_eq_false]
  exact fun hd => h j p this hd
theorem pend_true {qs : List Oper} {listed : Array Bool} {t : Nat} {j : Nat} {p : Oper} (h : qs[j]? = some p) (hd : p.dst = some t) (hl : listed.getD j false = false) : pend qs listed t = true := by
  unfold pend
  rw [List.any_eq_true]
  exact ⟨(j, p), mem_zipI h, by simp [hd, hl]⟩

section
variable {P : Program} {nm : FuncId → Option Nat} {ps : List (List Nat)} {qs : List Oper} {m N n0 : Nat} {late : List Nat} {h0 : List Root} {σ : Nat → St} {x0 : Cx}

structure Inv (nm : FuncId → Option Nat) (N n0 : Nat) (x0 : Cx) (ps : List (List Nat)) (qs : List Oper) (σ : Nat → St) (listed : Array Bool) (x : Cx) (a : Act) : Prop where
  good : Good (Fn_ nm) x
  nx : Nx n0 x0 x
  size : N ≤ a.tmps.size
  defers : a.defers = []
  len : listed.size = qs.length
  closed : ∀ j, listed.getD j false = true → ∀ k, Anc ps j k → listed.getD k false = true
  t : RelT (Fn_ nm) x ⟨avail qs listed (σ qs.length).t, x.h⟩ a
  cut : ∃ c, c ≤ qs.length ∧ x.h = (σ c).h ∧ ∀ (i : Nat) (q : Oper), qs[i]? = some q → q.op.heapy → (listed.getD i false = true ↔ i < c)

theorem set_getD {listed : Array Bool} {i j : Nat} (hi : i < listed.size) : (listed.setIfInBounds i true).getD j false = if j = i then true else listed.getD j false := by
  simp only [Array.getD_eq_getD_getElem?, Array.getElem?_setIfInBounds]
  by_cases e : j = i
  · subst e; simp [hi]
  · simp [e, Ne.symm e]

theorem draw_step {gops : Array Go.Oper} {pr : Bool} (hf : Facts ps qs m late) (hr : Run (CallsRel P nm) qs m late h0 σ) {listed : Array Bool} {x : Cx} {a : Act} (hI : Inv nm N n0 x0 ps qs σ listed x a)
    {i : Nat} {o : Go.Oper} {q : Oper} (hq : qs[i]? = some q) (hlo : lowOper P nm pr N gops o = some q) (hun : listed.getD i false = false) (hanc : ∀ j, Anc ps i j → listed.getD j false = true)
    {K : Act → World → Prop} {Q : Exit → Act → World → Prop} (hK : ∀ x' a', Inv nm N n0 x0 ps qs σ (listed.setIfInBounds i true) x' a' → K a' x'.w) :
    if Region.wanted o (yielded gops a.tmps) then o.wp P a x.w K Q else K (a.put o.dst undef) x.w := by
  obtain ⟨l1, l2, l3, _⟩ := lowOper_parts hlo
  have hilt : i < qs.length := (List.getElem?_eq_some_iff.1 hq).1
  have his : i < listed.size := by rw [hI.len]; exact hilt
  have hd : ∀ n, q.dst = some n → n < a.tmps.size := fun n hn => Nat.lt_of_lt_of_le (l3 n (by rw [← l2]; exact hn)) hI.size
  obtain ⟨vs, hvs⟩ : ∃ vs : St, vs = ⟨avail qs listed (σ qs.length).t, x.h⟩ := ⟨_, rfl⟩
  have hT : RelT (Fn_ nm) x vs a := by rw [hvs]; exact hI.t
  have hlook : ∀ t, t ∈ q.reads → vs.t.lookup t = (σ i).t.lookup t := by
    intro t ht
    rw [hr.reads hf hq ht, hvs]
    show (avail qs listed (σ qs.length).t).lookup t = _
    rw [avail_lookup, if_pos (pend_false (fun j p hp hdst => hanc j (hf.reads i q hq t ht j p hp hdst)))]
  have hval : ∀ y, y ∈ q.op.allX → X.val (σ i) y = X.val vs y ∧ X.there (σ i) y = X.there vs y := fun y hy => val_of (fun n e => (hlook n (allX_reads (by rw [← e]; exact hy))).symm)
  have hv1 : ∀ y, y ∈ q.op.allX → X.val (σ i) y = X.val vs y := fun y hy => (hval y hy).1
  have hv2 : ∀ y, y ∈ q.op.allX → X.there (σ i) y = X.there vs y := fun y hy => (hval y hy).2
  have hgget : ∀ d w, q.g = some (d, w) → (σ i).get d = vs.get d := fun d w hg => by simp only [St.get, hlook d (g_reads hg)]
  have hgok : q.gok (σ i) → q.gok vs := by
    unfold Oper.gok
    cases hg : q.g with
    | none => exact fun h => h
    | some p => obtain ⟨d, w⟩ := p; simp only [hgget d w hg]; exact fun h => h
  have hgb : q.gb (σ i) = q.gb vs := by
    unfold Oper.gb
    cases hg : q.g with
    | none => rfl
    | some p => obtain ⟨d, w⟩ := p; simp only [hgget d w hg]
  -- what follows
  have after : ∀ {x' : Cx} {b : Bool} {v : V} {h1 : List Root} {u : Value}, σ (i + 1) = (⟨(σ i).t, h1⟩ : St).put q.dst b v → Good (Fn_ nm) x' → Nx x.h.length x x' → ((b = true ∧ RelV (Fn_ nm) x' v u) ∨ (b = false ∧ u = undef)) →
      (∃ c, c ≤ qs.length ∧ x'.h = (σ c).h ∧ ∀ (j : Nat) (p : Oper), qs[j]? = some p → p.op.heapy → ((if j = i then true else listed.getD j false) = true ↔ j < c)) → K (a.put q.dst u) x'.w := by
    intro x' b v h1 u hσ hg' hnx hbv hcut
    refine hK x' _ ⟨hg', hI.nx.trans hnx.any, by rw [actput_size]; exact hI.size, by rw [actput_defers]; exact hI.defers, by simp [hI.len], fun j hj k hjk => ?_, fun t p hp => ?_, ?_⟩
    · rw [set_getD his] at hj ⊢
      by_cases ek : k = i
      · simp [ek]
      · simp only [ek, if_false]
        by_cases ej : j = i
        · subst ej; exact hanc k hjk
        · simp only [ej, if_false] at hj
          exact hI.closed j hj k hjk
    · change (avail qs (listed.setIfInBounds i true) (σ qs.length).t).lookup t = some p at hp
      rw [avail_lookup] at hp
      split at hp
      case isFalse => cases hp
      rename_i hpend
      by_cases hdt : q.dst = some t
      · have hTl : (σ qs.length).t.lookup t = some (b, v) := by
          rw [← hr.lookup hf (k := qs.length - (i + 1)) (i := i + 1) (by omega) (fun j p hj hp hd => by
            have := hf.dsts i j q p t hq hp hdt hd
            omega), hσ, hdt, put_lookup]
        rw [hTl] at hp
        injection hp with hp
        subst hp
        rw [hdt, put_getD (hd t hdt)]
        simpa using hbv
      · have hold : (avail qs listed (σ qs.length).t).lookup t = some p := by
          rw [avail_lookup, if_pos (pend_false (fun j p' hp' hdst => ?_))]
          · exact hp
          · have hji : j ≠ i := fun e => by subst e; rw [hq] at hp'; injection hp' with hp'; subst hp'; exact hdt hdst
            cases hl : listed.getD j false with
            | true => rfl
            | false =>
              have := pend_true (listed := listed.setIfInBounds i true) hp' hdst (by rw [set_getD his]; simp [hji, hl])
              rw [this] at hpend
              cases hpend
        have htm : (a.put q.dst u).tmps.getD t undef = a.tmps.getD t undef := by
          cases hdd : q.dst with
          | none => rfl
          | some d =>
            rw [put_getD (hd d hdd), if_neg (fun e => hdt (by rw [hdd, e]))]
        rw [htm]
        rcases hI.t t p hold with ⟨e1, e2⟩ | e
        · exact .inl ⟨e1, hnx.mv _ _ _ (RelV.under e2) e2⟩
        · exact .inr e
    · obtain ⟨c, c1, c2, c3⟩ := hcut
      exact ⟨c, c1, c2, fun j p hp hh => by rw [set_getD his]; exact c3 j p hp hh⟩
  obtain ⟨c, c1, c2, c3⟩ := hI.cut
  have hcutN : ¬ q.op.heapy → ∀ {x' : Cx}, x'.h = x.h → ∃ c, c ≤ qs.length ∧ x'.h = (σ c).h ∧ ∀ (j : Nat) (p : Oper), qs[j]? = some p → p.op.heapy → ((if j = i then true else listed.getD j false) = true ↔ j < c) := by
    intro hnh x' hx'
    refine ⟨c, c1, hx'.trans c2, fun j p hp hh => ?_⟩
    have hji : j ≠ i := fun e => by subst e; rw [hq] at hp; injection hp with hp; subst hp; exact hnh hh
    simp only [hji, if_false]
    exact c3 j p hp hh
  have hheap : q.op.heapy → x.h = (σ i).h ∧ ∀ {x' : Cx}, x'.h = (σ (i + 1)).h → ∃ c, c ≤ qs.length ∧ x'.h = (σ c).h ∧ ∀ (j : Nat) (p : Oper), qs[j]? = some p → p.op.heapy → ((if j = i then true else listed.getD j false) = true ↔ j < c) := by
    intro hh
    have hci : c ≤ i := by
      rcases Nat.lt_or_ge i c with h | h
      · have := (c3 i q hq hh).2 h
        rw [hun] at this; cases this
      · exact h
    refine ⟨?_, fun {x'} hx' => ⟨i + 1, by omega, hx', fun j p hp hh' => ?_⟩⟩
    · rw [c2]
      have := hr.heap_const hf (k := i - c) (i := c) (by omega) (fun j p h1 h2 hp hh' => by
        have e1 := (hf.heap j i p q (by omega) hp hq hh' hh)
        have e2 := (c3 j p hp hh').1 (hanc j e1)
        omega)
      rw [show c + (i - c) = i by omega] at this
      exact this.symm
    · rcases Nat.lt_trichotomy j i with h | h | h
      · simp only [Nat.ne_of_lt h, if_false]
        exact ⟨fun _ => by omega, fun _ => hanc j (hf.heap j i p q h hp hq hh' hh)⟩
      · simp [h]
      · simp only [Nat.ne_of_gt h, if_false]
        refine ⟨fun hl => ?_, fun h' => by omega⟩
        have := hI.closed j hl i (hf.heap i j q p h hq hp hh hh')
        rw [hun] at this; cases this
  -- no write has been done where one must come behind
  have hnow : (q.op.cls = .c ∨ (q.op.cls = .r ∧ i ∉ late)) → h0 <+: x.h := by
    intro hc
    rw [c2]
    refine hr.front hf c1 (fun j p hj hp hw => ?_)
    have hl := (c3 j p hp (.inr hw)).2 hj
    have him : i < m := hf.low i q hq (.inr (hc.symm.imp (·.1) (fun h => h)))
    have hmj := hf.high j p hp hw
    rcases hf.war i j q p (by omega) hq hp hw (hc.symm.imp (·.1) (fun h => h)) with h | h
    · have := hI.closed j hl i h
      rw [hun] at this; cases this
    · rcases hc with hc | hc
      · rw [h.1] at hc; cases hc
      · exact hc.2 h.2
  have off : ∀ {v : V} {h1 : List Root}, σ (i + 1) = (⟨(σ i).t, h1⟩ : St).put q.dst false v → (q.op.heapy → (σ (i + 1)).h = (σ i).h) → K (a.put q.dst undef) x.w := by
    intro v h1 hσ hh
    by_cases hhp : q.op.heapy
    · obtain ⟨k1, k2⟩ := hheap hhp
      exact after hσ hI.good (Nx.refl _ _) (.inr ⟨rfl, rfl⟩) (k2 (by rw [hh hhp]; exact k1))
    · exact after hσ hI.good (Nx.refl _ _) (.inr ⟨rfl, rfl⟩) (hcutN hhp rfl)
  have fin : q.gok (σ i) → (q.gb (σ i) = true → o.wp P a x.w K Q) → (q.gb (σ i) = false → K (a.put q.dst undef) x.w) → if Region.wanted o (yielded gops a.tmps) then o.wp P a x.w K Q else K (a.put o.dst undef) x.w := by
    intro hg h1 h2
    rw [wanted_eq hlo hT (hgok hg), ← hgb, ← l2]
    cases hb : q.gb (σ i) with
    | true => simpa using h1 hb
    | false => simpa using h2 hb
  -- the pure ones
  have pureCase : q.gok (σ i) → q.op.isPure = true → ¬ q.op.heapy → ∀ {v : V}, (q.gb (σ i) = true → pv (X.val vs) x.h q.op = some v ∧ q.op.xs.all (X.there vs) = true ∧ pvc (X.there vs) (X.val vs) x.h q.op) → (σ i).put q.dst (q.gb (σ i)) v = σ (i + 1) →
      if Region.wanted o (yielded gops a.tmps) then o.wp P a x.w K Q else K (a.put o.dst undef) x.w := by
    intro hg hp hnh v h1 h2
    refine fin hg (fun hb => ?_) (fun hb => ?_)
    · obtain ⟨k1, k2, k3⟩ := h1 hb
      obtain ⟨r, k4, k5⟩ := pure_sound hI.good (List.prefix_refl _) hT (o := o) l1 hp k1 k2 k3
      rw [hb] at h2
      unfold Oper.wp
      rw [k4]
      show K (a.put o.dst r) x.w
      rw [← l2]
      exact after (h1 := (σ i).h) h2.symm hI.good (Nx.refl _ _) (.inl ⟨rfl, k5⟩) (hcutN hnh rfl)
    · rw [hb] at h2
      exact off (h1 := (σ i).h) h2.symm (fun h => absurd h hnh)
  by_cases him : i < m
  · have hA := hr.fst i q hq him
    cases hc : q.op.cls with
    | n =>
      obtain ⟨hg, H⟩ := hA
      rw [if_pos (cls_pure hc)] at H
      obtain ⟨v, k2, k3⟩ := H
      refine pureCase hg (cls_pure hc) (fun h => by rcases h with h | h <;> rw [hc] at h <;> cases h) (v := v) (fun hb => ?_) k3
      obtain ⟨k1, k4, k5⟩ := k2 hb
      exact ⟨by rw [← pv_congr hv1, pv_nheap (h' := h0) hc]; exact k1, by rw [← there_congr hv2]; exact k4, by rw [← pvc_congr hv1 hv2, pvc_nheap (h' := h0) hc]; exact k5⟩
    | r =>
      rcases cls_r hc with ⟨n, agg, y, hop⟩ | ⟨_, _, hno⟩
      · obtain ⟨hg, H⟩ := hA
        have hp : q.op.isPure = true := by rw [hop]; rfl
        rw [if_pos hp] at H
        obtain ⟨v, k2, k3⟩ := H
        refine pureCase hg hp (fun h => by rcases h with h | h <;> rw [hc] at h <;> cases h) (v := v) (fun hb => ?_) k3
        obtain ⟨k1, k4, k5⟩ := k2 hb
        have hal : alikeAt h0 x.h (X.val (σ i) y) := by
          by_cases hlate : i ∈ late
          · rcases Nat.lt_or_ge m c with hmc | hmc
            · obtain ⟨dst, op, g⟩ := q
              simp only at hop
              subst hop
              have := hr.lateGet hf hlate hq him (k := c - m) (by omega)
              rw [show m + (c - m) = c by omega, ← c2] at this
              have hy : X.val (σ i) y = X.val (σ qs.length) y := (val_of (s := σ i) (s' := σ qs.length) (fun t ht => hr.reads hf hq (allX_reads (by simp [Op.allX, Op.xs, ht])))).1
              rw [hy]
              intro id hid r hr0
              refine this id hid r ?_
              exact prefix_alike (hr.front hf hf.mle (fun j p hj hp hw => by have := hf.high j p hp hw; omega)) _ id hid r hr0
            · rw [c2]
              exact prefix_alike (hr.front hf c1 (fun j p hj hp hw => by have := hf.high j p hp hw; omega)) _
          · exact prefix_alike (hnow (.inr ⟨hc, hlate⟩)) _
        have hld : pvLoad h0 n agg (X.val (σ i) y) = some v ∧ vcLoad h0 (X.val (σ i) y) := by
          rw [hop] at k1 k5
          exact ⟨k1, k5⟩
        obtain ⟨m1, m2⟩ := load_alike hal hld.1 hld.2
        refine ⟨?_, by rw [← there_congr hv2]; exact k4, ?_⟩
        · rw [← pv_congr hv1, hop]; exact m1
        · rw [← pvc_congr hv1 hv2, hop]; exact m2
      · obtain ⟨dst, op, g⟩ := q
        exact (hno hA).elim
    | c =>
      obtain ⟨hg, H⟩ := hA
      rw [if_neg (by simp [(cls_c hc).1]), if_pos (cls_c hc).2] at H
      obtain ⟨v, k1, k2⟩ := H
      have hnh : ¬ q.op.heapy := fun h => by rcases h with h | h <;> rw [hc] at h <;> cases h
      refine fin hg (fun hb => ?_) (fun hb => ?_)
      · obtain ⟨k3, k4⟩ := k1 hb
        rw [hb] at k2
        rw [effA_congr hv1] at k4
        have := eff_sound hI.good hT (o := o) l1 (cls_c hc).1 (by rw [← there_congr hv2]; exact k3) (effA_eff (hnow (.inl hc)) k4)
        refine this K Q (fun u x' d m1 m2 m3 m4 => ?_)
        rw [← l2]
        obtain ⟨rfl, m4⟩ := m4
        exact after (h1 := (σ i).h) k2.symm m1 m2 (.inl ⟨rfl, m3⟩) (hcutN hnh m4)
      · rw [hb] at k2
        exact off (h1 := (σ i).h) k2.symm (fun h => absurd h hnh)
    | a =>
      obtain ⟨k1, k2⟩ := hheap (.inl hc)
      have hpc := cls_a hc
      have heff : q.gok (σ i) ∧ q.g = none ∧ q.op.xs.all (X.there (σ i)) = true ∧ eff (CallsRel P nm) (X.val (σ i)) (σ i).h (fun d h' => σ (i + 1) = (⟨(σ i).t, h'⟩ : St).put q.dst true d) q.op := by
        obtain ⟨hg, H⟩ := hA
        rw [if_neg (by simp [hpc.1]), if_neg (by simp [hpc.2])] at H
        obtain ⟨dst, op, g⟩ := q
        cases op <;> simp only at H <;> try exact H.elim
        case alloc z => exact ⟨hg, H.1, rfl, H.2.symm⟩
        case allocx z => exact ⟨hg, H.1, rfl, H.2.symm⟩
        case box n y =>
          obtain ⟨h1, h2, H⟩ := H
          refine ⟨hg, h1, by simpa [Op.xs] using h2, ?_⟩
          simp only [eff]
          revert H
          generalize (X.val (σ i) _).pure? = p
          generalize (X.val (σ i) _).cells = p'
          intro H
          cases p with
          | some u => exact ⟨H.1, H.2.symm⟩
          | none => cases p' with
            | some u => exact ⟨H.1, H.2.symm⟩
            | none => exact H.elim
        case mkSl z n l =>
          obtain ⟨h1, h2, H⟩ := H
          refine ⟨hg, h1, h2, ?_⟩
          simp only [eff]
          split at H
          · rename_i l' hl'
            rw [hl']
            exact ⟨H.1, H.2.symm⟩
          · exact H.elim
      obtain ⟨hg, hgn, hth, heff⟩ := heff
      refine fin hg (fun hb => ?_) (fun hb => by simp [Oper.gb, hgn] at hb)
      rw [eff_congr hv1, ← k1] at heff
      have := eff_sound hI.good hT (o := o) l1 hpc.1 (by rw [← there_congr hv2]; exact hth) heff
      refine this K Q (fun u x' d m1 m2 m3 m4 => ?_)
      rw [← l2]
      exact after m4 m1 m2 (.inl ⟨rfl, m3⟩) (k2 (by rw [m4, put_h]))
    | w => exact absurd (hf.high i q hq hc) (by omega)
  · have hB := hr.snd i q hq (Nat.le_of_not_lt him)
    obtain ⟨hg, H⟩ := hB
    cases hc : q.op.cls with
    | n =>
      rw [if_pos (cls_pure hc)] at H
      obtain ⟨v, k2, k3⟩ := H
      refine pureCase hg (cls_pure hc) (fun h => by rcases h with h | h <;> rw [hc] at h <;> cases h) (v := v) (fun hb => ?_) k3
      obtain ⟨k1, k4, k5⟩ := k2 hb
      exact ⟨by rw [← pv_congr hv1, pv_nheap (h' := (σ i).h) hc]; exact k1, by rw [← there_congr hv2]; exact k4, by rw [← pvc_congr hv1 hv2, pvc_nheap (h' := (σ i).h) hc]; exact k5⟩
    | w =>
      obtain ⟨k1, k2⟩ := hheap (.inr hc)
      have hpc := cls_w hc
      rw [if_neg (by simp [hpc.1])] at H
      obtain ⟨h1, h2⟩ := H
      refine fin hg (fun hb => ?_) (fun hb => ?_)
      · obtain ⟨h3, h4⟩ := h1 hb
        rw [eff_congr hv1, ← k1] at h4
        have := eff_sound hI.good hT (o := o) l1 hpc.1 (by rw [← there_congr hv2]; exact h3) h4
        refine this K Q (fun u x' d m1 m2 m3 m4 => ?_)
        rw [← l2]
        exact after m4.symm m1 m2 (.inl ⟨rfl, m3⟩) (k2 (by rw [← m4, put_h]))
      · obtain ⟨v, this⟩ := h2 hb
        exact off (h1 := (σ i).h) this.symm (fun _ => by rw [← this, put_h])
    | a => exact absurd (hf.low i q hq (.inl hc)) him
    | r => exact absurd (hf.low i q hq (.inr (.inl hc))) him
    | c => exact absurd (hf.low i q hq (.inr (.inr hc))) him

/-- how many are not done -/
def leftN (listed : Array Bool) : Nat := listed.toList.countP fun b => !b

theorem leftN_set {listed : Array Bool} {i : Nat} (h : listed[i]? = some false) : leftN (listed.setIfInBounds i true) + 1 = leftN listed := by
  unfold leftN
  have hlt := (Array.getElem?_eq_some_iff.1 h).1
  rw [Array.toList_setIfInBounds]
  have hl : listed.toList[i]? = some false := by simpa using h
  generalize listed.toList = l at hl
  clear h hlt
  induction l generalizing i with
  | nil => simp at hl
  | cons b l ih =>
    cases i with
    | zero =>
      simp only [List.getElem?_cons_zero, Option.some.injEq] at hl
      subst hl
      simp
    | succ i =>
      have := ih (i := i) (by simpa using hl)
      simp only [List.set_cons_succ, List.countP_cons]
      omega

theorem draw_any {gops : Array Go.Oper} {pr : Bool} (hf : Facts ps qs m late) (hr : Run (CallsRel P nm) qs m late h0 σ) (hps : ps = gops.toList.map predsO) (hlow : gops.toList.mapM (lowOper P nm pr N gops) = some qs)
    {Q : Exit → Act → World → Prop} (hQ : ∀ x' a', RelS nm N x' (σ qs.length) a' → Nx n0 x0 x' → Q .normal a' x'.w) : ∀ (fuel : Nat) (listed : Array Bool) (x : Cx) (a : Act), Inv nm N n0 x0 ps qs σ listed x a → leftN listed ≤ fuel → wpAny P .any gops Q fuel listed a x.w := by
  have hql : qs.length = gops.size := by
    have : ∀ {l : List Go.Oper} {r : List Oper}, l.mapM (lowOper P nm pr N gops) = some r → r.length = l.length := by
      intro l
      induction l with
      | nil => intro r h; rw [mapM_nil h]; rfl
      | cons a l ih => intro r h; obtain ⟨b, r, _, h2, rfl⟩ := mapM_cons h; simp [ih h2]
    simpa using this hlow
  have hget : ∀ (i : Nat) (o : Go.Oper), gops[i]? = some o → ∃ q, qs[i]? = some q ∧ lowOper P nm pr N gops o = some q := by
    have : ∀ {l : List Go.Oper} {r : List Oper}, l.mapM (lowOper P nm pr N gops) = some r → ∀ (i : Nat) (o : Go.Oper), l[i]? = some o → ∃ q, r[i]? = some q ∧ lowOper P nm pr N gops o = some q := by
      intro l
      induction l with
      | nil => intro r h i o ho; simp at ho
      | cons a l ih =>
        intro r h i o ho
        obtain ⟨b, r, h1, h2, rfl⟩ := mapM_cons h
        cases i with
        | zero => simp only [List.getElem?_cons_zero, Option.some.injEq] at ho; subst ho; exact ⟨b, rfl, h1⟩
        | succ i => simpa using ih h2 i o (by simpa using ho)
    intro i o ho
    exact this hlow i o (by simpa using ho)
  -- the ready ones
  have ready : ∀ {listed : Array Bool} {x : Cx} {a : Act}, Inv nm N n0 x0 ps qs σ listed x a → ∀ i, i ∈ Region.ready .any gops listed → ∃ o q, gops[i]? = some o ∧ qs[i]? = some q ∧ lowOper P nm pr N gops o = some q ∧ listed[i]? = some false ∧ ∀ j, Anc ps i j → listed.getD j false = true := by
    intro listed x a hI i hi
    obtain ⟨h1, o, h2, h3⟩ := mem_ready.1 hi
    obtain ⟨q, h4, h5⟩ := hget i o h2
    have hil : i < listed.size := by rw [hI.len]; exact (List.getElem?_eq_some_iff.1 h4).1
    refine ⟨o, q, h2, h4, h5, ?_, fun j hj => ?_⟩
    · have : listed.getD i true = listed[i] := by simp [hil]
      rw [this] at h1
      rw [Array.getElem?_eq_getElem hil, h1]
    · have hpi : ps[i]? = some (predsO o) := by rw [hps]; simp [h2]
      have hpre : ∀ k, k ∈ predsO o → listed.getD k false = true := by
        intro k hk
        unfold predsO at hk
        obtain ⟨e, he, hek⟩ := List.mem_filterMap.1 hk
        split at hek
        · rename_i hb
          injection hek with hek
          subst hek
          exact h3 e (by simpa using he) hb
        · cases hek
      cases hj with
      | one k1 k2 => rw [hpi] at k1; injection k1 with k1; subst k1; exact hpre j k2
      | more k1 k2 k3 => rw [hpi] at k1; injection k1 with k1; subst k1; exact hI.closed _ (hpre _ k2) _ k3
  have done : ∀ {listed : Array Bool} {x : Cx} {a : Act}, Inv nm N n0 x0 ps qs σ listed x a → (∀ i, i < qs.length → listed.getD i false = true) → Q .normal a x.w := by
    intro listed x a hI hall
    refine hQ x a ⟨?_, hI.good, fun t p hp => ?_, hI.size, hI.defers⟩ hI.nx
    · obtain ⟨c, c1, c2, c3⟩ := hI.cut
      rw [c2]
      have := hr.heap_const hf (k := qs.length - c) (i := c) (by omega) (fun j p h1 h2 hp hh => by
        have := (c3 j p hp hh).1 (hall j (List.getElem?_eq_some_iff.1 hp).1)
        omega)
      rw [show c + (qs.length - c) = qs.length by omega] at this
      exact this.symm
    · refine hI.t t p ?_
      show (avail qs listed (σ qs.length).t).lookup t = some p
      rw [avail_lookup, if_pos (pend_false (fun j p' hp' _ => hall j (List.getElem?_eq_some_iff.1 hp').1))]
      exact hp
  have none_all : ∀ {listed : Array Bool} {x : Cx} {a : Act}, Inv nm N n0 x0 ps qs σ listed x a → Region.ready .any gops listed = [] → ∀ i, i < qs.length → listed.getD i false = true := by
    intro listed x a hI hnil i
    induction i using Nat.strongRecOn with
    | _ i ih =>
      intro hi
      cases hl : listed.getD i false with
      | true => rfl
      | false =>
        exfalso
        have hig : i < gops.size := by omega
        have hil : i < listed.size := by rw [hI.len]; exact hi
        have hm : i ∈ Region.ready .any gops listed := by
          refine mem_ready.2 ⟨by simp [hil] at hl ⊢; exact hl, gops[i], by simp [hig], fun e he hb => ?_⟩
          have hpi : ps[i]? = some (predsO gops[i]) := by rw [hps]; simp [hig]
          have hlt := hf.preLt i _ hpi e.on (by
            unfold predsO
            exact List.mem_filterMap.2 ⟨e, by simpa using he, by rw [if_pos hb]⟩)
          exact ih e.on hlt (by omega)
        rw [hnil] at hm
        cases hm
  intro fuel
  induction fuel with
  | zero =>
    intro listed x a hI hle
    have hall : ∀ i, i < qs.length → listed.getD i false = true := by
      intro i hi
      have hil : i < listed.size := by rw [hI.len]; exact hi
      have h0 : leftN listed = 0 := by omega
      unfold leftN at h0
      rw [List.countP_eq_zero] at h0
      have := h0 listed[i] (by simp)
      simpa [hil] using this
    refine ⟨?_, done hI hall⟩
    cases hrd : Region.ready .any gops listed with
    | nil => rfl
    | cons i l =>
      obtain ⟨o, q, h1, h2, h3, h4, h5⟩ := ready hI i (by rw [hrd]; simp)
      have := hall i (List.getElem?_eq_some_iff.1 h2).1
      simp [h4] at this
  | succ fuel ih =>
    intro listed x a hI hle
    refine ⟨fun hnil => done hI (none_all hI hnil), fun i hi => ?_⟩
    obtain ⟨o, q, h1, h2, h3, h4, h5⟩ := ready hI i hi
    have hstep := draw_step (K := wpAny P .any gops Q fuel (listed.setIfInBounds i true)) (Q := Q) hf hr hI h2 h3 (by simp [h4]) h5 (fun x' a' hI' => ih _ x' a' hI' (by
      have := leftN_set h4
      omega))
    unfold Go.wpOp
    simp only [h1]
    split
    · rename_i hw; rw [if_pos hw] at hstep; exact .inl hstep
    · rename_i hw; rw [if_neg hw] at hstep; exact hstep

theorem draw_sound {gops : Array Go.Oper} {pr : Bool} {id : Nat} (hm : P.follows .mixedOrders = true) (hlow : gops.toList.mapM (lowOper P nm pr N gops) = some qs) (hok : drawOk (gops.toList.map predsO) qs (befs [] (gops.toList.map predsO)) m late = true)
    {x : Cx} {s : St} {a : Act} (hR : RelS nm N x s a) {K : St → Prop} (hw : wpOpsA (CallsRel P nm) s.h (qs.take m) s fun s' => wpOps (CallsRel P nm) (qs.drop m) s' fun s'' => lateOk s'' (qs.take m) (qs.drop m) late = true ∧ K s'')
    {Q : Exit → Act → World → Prop} (hQ : ∀ x' s' a', RelS nm N x' s' a' → Nx n0 x x' → K s' → Q .normal a' x'.w) : (Go.Code.region id gops true).wp P Q a x.w := by
  have hf := facts_of hok
  obtain ⟨σ, hr, hs0, hK⟩ := run_of hf.mle (fun q hq => by
    obtain ⟨j, hj⟩ := List.mem_iff_getElem?.1 hq
    rw [List.getElem?_drop] at hj
    cases hc : q.op.isCall with
    | false => rfl
    | true =>
      have := hf.low _ q hj (.inr (.inr (cls_call hc)))
      omega) hw
  obtain ⟨g1, g2⟩ := step_same (fn := Fn_ nm) (w' := { x.w with drawn := x.w.drawn + 1 }) hR.good rfl rfl rfl rfl
  have hql : qs.length = gops.size := by
    have := hf.len
    simpa using this.symm
  refine wp_region_any hm ?_
  refine draw_any (n0 := n0) (x0 := x) hf hr rfl hlow (fun x' a' hR' hn => hQ x' _ a' hR' hn hK) gops.size _ { x with w := { x.w with drawn := x.w.drawn + 1 } } a ?_ ?_
  · have hnl : ∀ j, (Array.replicate gops.size false).getD j false = false := by
      intro j
      by_cases h : j < gops.size <;> simp [h]
    refine ⟨g1, g2 _, hR.size, hR.defers, by simp [hql], fun j hj => (by rw [hnl] at hj; cases hj), fun t p hp => ?_, ⟨0, Nat.zero_le _, (by rw [hs0]; exact hR.h), fun i q hq _ => (by rw [hnl]; simp)⟩⟩
    change (avail qs (Array.replicate gops.size false) (σ qs.length).t).lookup t = some p at hp
    rw [avail_lookup] at hp
    split at hp
    case isFalse => cases hp
    rename_i hpend
    have hno : ∀ j p, 0 ≤ j → qs[j]? = some p → p.dst ≠ some t := by
      intro j p _ hp hd
      rw [pend_true hp hd (hnl j)] at hpend
      cases hpend
    rw [← hr.lookup hf (k := qs.length) (i := 0) (by omega) hno, hs0] at hp
    rcases hR.t t p hp with ⟨e1, e2⟩ | e
    · exact .inl ⟨e1, (g2 x.h.length).mv _ _ _ (RelV.under e2) e2⟩
    · exact .inr e
  · unfold leftN
    exact Nat.le_trans (List.countP_le_length) (by simp)
end
end Go.Lx
