import Derived.Test.YtkmbllgoepcojaaDoorLx23
/- The same memory looked at with other names: blocks left out, the others renumbered; a nil slice seen as an own empty row. -/
set_option linter.unusedVariables false
set_option linter.unusedSimpArgs false
namespace Go.Lx
section
variable {fn : Nums} {x y : Cx} {sel : List Nat}

/-- y is x with the blocks of sel -/
structure RenTo (sel : List Nat) (x y : Cx) : Prop where
  w : y.w = x.w
  F : y.F = x.F
  h : ∀ i, i ∈ sel → ∀ r, x.h[i]? = some r → y.h[sel.idxOf i]? = some (r.ren fun i => sel.idxOf i)
  at_ : ∀ i, i ∈ sel → y.at_ (sel.idxOf i) = x.at_ i

theorem mem_of_contains {i : Nat} (h : sel.contains i = true) : i ∈ sel := by simpa using h

mutual
theorem RelDC.ren (hr : RenTo sel x y) : ∀ {d : DC} {v}, d.inn sel.contains = true → RelDC fn x d v → RelDC fn y (d.ren fun i => sel.idxOf i) v
  | .c _, v, _, h | .full _, v, _, h | .iptr _ _, v, _, h | .raw _, v, _, h => by
    simp only [DC.ren, RelDC, hr.w, hr.F] at h ⊢
    exact h
  | .ifc t d, v, hu, h => by
    simp only [RelDC, DC.inn, DC.ren] at h hu ⊢
    obtain ⟨u, h1, h2⟩ := h
    exact ⟨u, h1, RelDC.ren hr hu h2⟩
  | .ref id g sz off n, v, hu, h => by
    simp only [RelDC, DC.inn, DC.ren] at h hu ⊢
    have hu := mem_of_contains hu
    obtain ⟨a, cap, h1, h2, h3, r, h4, h5⟩ := h
    refine ⟨a, cap, h1, h2, h3, _, hr.h _ hu _ h4, ?_⟩
    rw [hr.w, hr.at_ _ hu]
    cases r <;> exact h5
  | .ptr id off, v, hu, h => by
    simp only [RelDC, DC.inn, DC.ren] at h hu ⊢
    have hu := mem_of_contains hu
    obtain ⟨b, r, h4, h5, h6, h7⟩ := h
    refine ⟨b, _, hr.h _ hu _ h4, by rw [hr.at_ _ hu]; exact h5, h6, ?_⟩
    cases r <;> exact h7
  | .eptr id g i off, v, hu, h => by
    simp only [RelDC, DC.inn, DC.ren] at h hu ⊢
    have hu := mem_of_contains hu
    obtain ⟨a, h1, r, h4, h5⟩ := h
    refine ⟨a, h1, _, hr.h _ hu _ h4, ?_⟩
    rw [hr.at_ _ hu]
    cases r <;> exact h5
  | .mp id, v, hu, h => by
    simp only [RelDC, DC.inn, DC.ren] at h hu ⊢
    have hu := mem_of_contains hu
    obtain ⟨b, l, h4, h5, h6⟩ := h
    exact ⟨b, l, hr.h _ hu _ h4, by rw [hr.at_ _ hu]; exact h5, h6⟩
  | .clo f p q, v, hu, h => by
    simp only [DC.inn, Bool.and_eq_true, DC.inns_eq] at hu
    simp only [RelDC, DC.ren, DC.rens_eq] at h ⊢
    obtain ⟨k, fs, cs, h1, h2, h3, h4⟩ := h
    exact ⟨k, fs, cs, h1, h2, RelDCs.ren hr hu.1 h3, RelDCs.ren hr hu.2 h4⟩
theorem RelDCs.ren (hr : RenTo sel x y) : ∀ {l : List DC} {vs}, l.all (DC.inn sel.contains) = true → RelDCs fn x l vs → RelDCs fn y (l.map (DC.ren fun i => sel.idxOf i)) vs
  | [], [], _, _ => by simp [RelDCs]
  | c :: r, v :: s, hu, h => by
    simp only [List.all_cons, Bool.and_eq_true] at hu
    simp only [RelDCs, List.map_cons] at h ⊢
    exact ⟨RelDC.ren hr hu.1 h.1, RelDCs.ren hr hu.2 h.2⟩
  | [], _ :: _, _, h => by simp [RelDCs] at h
  | _ :: _, [], _, h => by simp [RelDCs] at h
end
mutual
theorem RelV.ren (hr : RenTo sel x y) : ∀ {d : V} {v}, d.inn sel.contains = true → RelV fn x d v → RelV fn y (d.ren fun i => sel.idxOf i) v
  | .s d, v, hu, h => by simp only [RelV, V.inn, V.ren] at h hu ⊢; exact RelDC.ren hr hu h
  | .a u, v, hu, h => by simp only [RelV, V.ren, hr.w, hr.F] at h ⊢; exact h
  | .m l, v, hu, h => by
    simp only [RelV, V.inn, V.ren] at h hu ⊢
    obtain ⟨cs, h1, h2⟩ := h
    exact ⟨cs, h1, RelDCs.ren hr hu h2⟩
  | .tup l, v, hu, h => by
    simp only [RelV, V.ren, V.rens_eq] at h ⊢
    obtain ⟨vs, h1, h2⟩ := h
    have e1 : l.all (V.inn sel.contains) = true := by simpa [V.inn] using hu
    exact ⟨vs, h1, RelVs.ren hr e1 h2⟩
  | .bot, v, _, h => by simp [RelV, V.ren]
theorem RelVs.ren (hr : RenTo sel x y) : ∀ {l : List V} {vs}, l.all (V.inn sel.contains) = true → RelVs fn x l vs → RelVs fn y (l.map (V.ren fun i => sel.idxOf i)) vs
  | [], [], _, _ => by simp [RelVs]
  | c :: r, v :: s, hu, h => by
    simp only [List.all_cons, Bool.and_eq_true] at hu
    simp only [RelVs, List.map_cons] at h ⊢
    exact ⟨RelV.ren hr hu.1 h.1, RelVs.ren hr hu.2 h.2⟩
  | [], _ :: _, _, h => by simp [RelVs] at h
  | _ :: _, [], _, h => by simp [RelVs] at h
end

/-! names that stay -/
mutual
theorem DC.inn_under {n : Nat} {p : Nat → Bool} {f : Nat → Nat} (hp : ∀ i, i < n → p i = true ∧ f i = i) : ∀ {d : DC}, d.under n = true → d.inn p = true ∧ d.ren f = d
  | .c _, _ | .full _, _ | .iptr _ _, _ | .raw _, _ => by simp [DC.inn, DC.ren]
  | .ifc t d, hu => by
    simp only [DC.under, DC.inn, DC.ren] at hu ⊢
    have := DC.inn_under hp hu
    exact ⟨this.1, by rw [this.2]⟩
  | .ref id g sz off k, hu => by simp only [DC.under, decide_eq_true_eq, DC.inn, DC.ren] at hu ⊢; have := hp id hu; exact ⟨this.1, by rw [this.2]⟩
  | .ptr id off, hu => by simp only [DC.under, decide_eq_true_eq, DC.inn, DC.ren] at hu ⊢; have := hp id hu; exact ⟨this.1, by rw [this.2]⟩
  | .eptr id g i off, hu => by simp only [DC.under, decide_eq_true_eq, DC.inn, DC.ren] at hu ⊢; have := hp id hu; exact ⟨this.1, by rw [this.2]⟩
  | .mp id, hu => by simp only [DC.under, decide_eq_true_eq, DC.inn, DC.ren] at hu ⊢; have := hp id hu; exact ⟨this.1, by rw [this.2]⟩
  | .clo k a b, hu => by
    simp only [DC.under, Bool.and_eq_true, DC.unders_eq] at hu
    have h1 := DCs.inn_under hp hu.1
    have h2 := DCs.inn_under hp hu.2
    simp only [DC.inn, DC.inns_eq, DC.ren, DC.rens_eq, h1.1, h1.2, h2.1, h2.2, Bool.and_self, and_self]
theorem DCs.inn_under {n : Nat} {p : Nat → Bool} {f : Nat → Nat} (hp : ∀ i, i < n → p i = true ∧ f i = i) : ∀ {l : List DC}, l.all (DC.under n) = true → l.all (DC.inn p) = true ∧ l.map (DC.ren f) = l
  | [], _ => by simp
  | d :: l, hu => by
    simp only [List.all_cons, Bool.and_eq_true] at hu
    have h1 := DC.inn_under hp hu.1
    have h2 := DCs.inn_under hp hu.2
    simp only [List.all_cons, List.map_cons, h1.1, h1.2, h2.1, h2.2, Bool.and_self, and_self]
end
mutual
theorem V.inn_under {n : Nat} {p : Nat → Bool} {f : Nat → Nat} (hp : ∀ i, i < n → p i = true ∧ f i = i) : ∀ {d : V}, d.under n = true → d.inn p = true ∧ d.ren f = d
  | .s d, hu => by
    simp only [V.under, V.inn, V.ren] at hu ⊢
    have := DC.inn_under hp hu
    exact ⟨this.1, by rw [this.2]⟩
  | .a _, _ => by simp [V.inn, V.ren]
  | .bot, _ => by simp [V.inn, V.ren]
  | .m l, hu => by
    simp only [V.under, V.inn, V.ren] at hu ⊢
    have := DCs.inn_under hp hu
    exact ⟨this.1, by rw [this.2]⟩
  | .tup l, hu => by
    have e1 : l.all (V.under n) = true := by simpa [V.under] using hu
    have := Vs.inn_under hp e1
    simp only [V.inn, V.inns_eq, V.ren, V.rens_eq, this.1, this.2, and_self]
theorem Vs.inn_under {n : Nat} {p : Nat → Bool} {f : Nat → Nat} (hp : ∀ i, i < n → p i = true ∧ f i = i) : ∀ {l : List V}, l.all (V.under n) = true → l.all (V.inn p) = true ∧ l.map (V.ren f) = l
  | [], _ => by simp
  | d :: l, hu => by
    simp only [List.all_cons, Bool.and_eq_true] at hu
    have h1 := V.inn_under hp hu.1
    have h2 := Vs.inn_under hp hu.2
    simp only [List.all_cons, List.map_cons, h1.1, h1.2, h2.1, h2.2, Bool.and_self, and_self]
end

theorem relEs_same {y : Cx} (hw : y.w = x.w) (hF : y.F = x.F) : ∀ {l : List (V × V)} {es : List MapEntry}, RelEs fn x l es → RelEs fn y l es
  | [], [], _ => trivial
  | p :: r, e :: s, h => by
    have one : ∀ {v : V} {u : Value}, v.isPure = true → RelV fn x v u → RelV fn y v u := by
      intro v u hp hv
      cases v with
      | s d => cases d with
        | c c => simp only [RelV, RelDC, hw, hF] at hv ⊢; exact hv
        | _ => simp [V.isPure] at hp
      | a u => simp only [RelV, hw, hF] at hv ⊢; exact hv
      | _ => simp [V.isPure] at hp
    exact ⟨⟨h.1.1, h.1.2.1, one h.1.1 h.1.2.2.1, one h.1.2.1 h.1.2.2.2⟩, relEs_same hw hF h.2⟩
  | [], _ :: _, h => h.elim
  | _ :: _, [], h => h.elim

/-- x with the blocks of sel -/
def Cx.pickd (x : Cx) (sel : List Nat) : Cx := { w := x.w, F := x.F, at_ := fun j => (sel[j]?).bind x.at_, h := sel.map fun i => ((x.h[i]?).getD .dead).ren fun i => sel.idxOf i }

theorem idxOf_get {i : Nat} (h : i ∈ sel) : sel[sel.idxOf i]? = some i := by
  have := List.idxOf_lt_length_iff.2 h
  rw [List.getElem?_eq_getElem this]
  simp

theorem owns_ren (r : Root) (f : Nat → Nat) : (r.ren f).owns = r.owns := by cases r <;> rfl

theorem nodup_get {l : List Nat} (h : l.Nodup) {i j a : Nat} (hi : l[i]? = some a) (hj : l[j]? = some a) : i = j := by
  exact (List.getElem?_inj (List.getElem?_eq_some_iff.1 hi).1 h).1 (hi.trans hj.symm)

theorem pickd_ren (hlt : ∀ i, i ∈ sel → i < x.h.length) : RenTo sel x (x.pickd sel) where
  w := rfl
  F := rfl
  h i hi r hr := by
    show (sel.map _)[sel.idxOf i]? = _
    rw [List.getElem?_map, idxOf_get hi]
    simp [hr]
  at_ i hi := by
    show (sel[sel.idxOf i]?).bind x.at_ = _
    rw [idxOf_get hi]
    rfl

theorem take_range {l : List Nat} {n0 : Nat} (h : l.take n0 = List.range n0) {i : Nat} (hi : i < n0) : l[i]? = some i := by
  have : (l.take n0)[i]? = some i := by rw [h]; simp [hi]
  rw [List.getElem?_take, if_pos hi] at this
  exact this

theorem pickd_good (hg : Good fn x) {n0 : Nat} (hlt : ∀ i, i ∈ sel → i < x.h.length) (hnd : sel.Nodup) (hn0 : sel.take n0 = List.range n0) (hroot : ∀ i, i ∈ sel → ∀ r, x.h[i]? = some r → r.inn sel.contains = true) :
    Good fn (x.pickd sel) ∧ Nx n0 x (x.pickd sel) := by
  have hr := pickd_ren (x := x) hlt
  have hget : ∀ {j : Nat} {r' : Root}, (x.pickd sel).h[j]? = some r' → ∃ i r, sel[j]? = some i ∧ x.h[i]? = some r ∧ r' = r.ren fun i => sel.idxOf i := by
    intro j r' h
    have h : (sel.map fun i => ((x.h[i]?).getD .dead).ren fun i => sel.idxOf i)[j]? = some r' := h
    rw [List.getElem?_map, Option.map_eq_some_iff] at h
    obtain ⟨i, h1, h2⟩ := h
    have hi := hlt i (List.mem_of_getElem? h1)
    have hx : x.h[i]? = some x.h[i] := List.getElem?_eq_getElem hi
    rw [hx] at h2
    exact ⟨i, _, h1, hx, h2.symm⟩
  have hat : ∀ {j i : Nat}, sel[j]? = some i → (x.pickd sel).at_ j = x.at_ i := by
    intro j i h
    show (sel[j]?).bind x.at_ = _
    rw [h]; rfl
  have hown : ∀ b, (x.pickd sel).own b → x.own b := by
    rintro b ⟨j, r', h1, h2, h3⟩
    obtain ⟨i, r, k1, k2, rfl⟩ := hget h1
    rw [hat k1] at h3
    rw [owns_ren] at h2
    exact ⟨i, r, k2, h2, h3⟩
  have hid : ∀ i, i < n0 → sel.contains i = true ∧ sel.idxOf i = i := by
    intro i hi
    have h1 := take_range hn0 hi
    have hm := List.mem_of_getElem? h1
    exact ⟨by simpa using hm, nodup_get hnd (idxOf_get hm) h1⟩
  refine ⟨⟨fun j r' h => ?_, fun j j' r1 r2 b h1 h2 h3 h4 h5 h6 => ?_, fun b hb => hg.apart b (hown b hb), hg.lt, fun b hb => hg.ltOwn b (hown b hb), hg.base_mv fun b h => ⟨h, rfl⟩⟩, ⟨rfl, rfl, rfl, Nat.le_refl _, fun _ _ _ => rfl, fun b hb => .inl (hown b hb), fun b hb => .inl hb, fun fn v u hu hv => ?_⟩⟩
  · obtain ⟨i, r, k1, k2, rfl⟩ := hget h
    have hroot' := hroot i (List.mem_of_getElem? k1) r k2
    have := hg.root i r k2
    cases r with
    | boxu u =>
      obtain ⟨b, cs, t, m1, m2, m3⟩ := this
      exact ⟨b, cs, t, by rw [hat k1]; exact m1, m2, m3⟩
    | boxd l =>
      obtain ⟨b, cs, t, m1, m2, m3⟩ := this
      exact ⟨b, cs, t, by rw [hat k1]; exact m1, m2, RelDCs.ren hr hroot' m3⟩
    | row g sz l =>
      obtain ⟨m0, m1⟩ := this
      refine ⟨m0, ?_⟩
      rw [hat k1]
      exact m1
    | lock g sz l =>
      obtain ⟨m0, m1⟩ := this
      refine ⟨m0, ?_⟩
      rw [hat k1]
      exact m1
    | map l =>
      obtain ⟨b, es, n, m1, m2, m3⟩ := this
      exact ⟨b, es, n, by rw [hat k1]; exact m1, m2, relEs_same (x := x) (y := x.pickd sel) rfl rfl m3⟩
    | dead => trivial
  · obtain ⟨i, r, k1, k2, rfl⟩ := hget h1
    obtain ⟨i', r', k1', k2', rfl⟩ := hget h2
    rw [hat k1] at h5
    rw [hat k1'] at h6
    rw [owns_ren] at h3 h4
    have := hg.one i i' r r' b k2 k2' h3 h4 h5 h6
    subst this
    exact nodup_get hnd k1 k1'
  · have := V.inn_under hid hu
    have h := RelV.ren hr this.1 hv
    rwa [this.2] at h
end

section
variable {nm : FuncId → Option Nat} {x : Cx}
theorem lookup_map_mem {f : Nat → Bool × V} : ∀ {keep : List Nat} {n : Nat} {p : Bool × V}, (keep.map fun n => (n, f n)).lookup n = some p → n ∈ keep ∧ p = f n
  | [], n, p, h => by simp at h
  | k :: keep, n, p, h => by
    simp only [List.map_cons, List.lookup_cons] at h
    by_cases e : n = k
    · subst e
      simp only [beq_self_eq_true, Option.some.injEq] at h
      exact ⟨by simp, h.symm⟩
    · have : (n == k) = false := by simpa using e
      simp only [this] at h
      have := lookup_map_mem h
      exact ⟨by simp [this.1], this.2⟩

theorem gc_sound {N n0 : Nat} {s s0 : St} {a : Act} (h : s.Gc n0 s0) : ∀ {x : Cx}, RelS nm N x s a → ∃ x0 : Cx, x0.w = x.w ∧ RelS nm N x0 s0 a ∧ Nx n0 x x0 := by
  induction h with
  | gc keep sel s h =>
    intro x hR
    simp only [gcOk, Bool.and_eq_true, List.all_eq_true, decide_eq_true_eq, beq_iff_eq] at h
    obtain ⟨⟨⟨⟨h1, h2⟩, h3⟩, h4⟩, h5⟩ := h
    have hlt : ∀ i, i ∈ sel → i < x.h.length := fun i hi => by rw [hR.h]; exact h1 i hi
    obtain ⟨g1, g2⟩ := pickd_good hR.good hlt h2 h3 (fun i hi r hr => by
      have := h5 i hi
      rw [← hR.h, hr] at this
      exact this)
    refine ⟨x.pickd sel, rfl, ⟨?_, g1, fun n p hp => ?_, hR.size, hR.defers⟩, g2⟩
    · show sel.map _ = sel.map _
      rw [hR.h]
    · obtain ⟨m1, rfl⟩ := lookup_map_mem hp
      obtain ⟨hs, hin⟩ := h4 n m1
      unfold St.get at hin ⊢
      unfold St.has at hs
      cases hl : s.t.lookup n with
      | none => rw [hl] at hs; cases hs
      | some q =>
        rcases hR.t n q hl with ⟨k1, k2⟩ | ⟨k1, k2⟩
        · left
          simp only [hl, Option.getD_some] at hin ⊢
          exact ⟨k1, RelV.ren (pickd_ren hlt) hin k2⟩
        · right
          simp only [hl, Option.getD_some]
          exact ⟨k1, k2⟩
  | view t sz s s' h hz h' ih =>
    intro x hR
    obtain ⟨g1, g2⟩ := step_new (x' := { x with h := x.h ++ [.row 0 sz []], at_ := setAt x.at_ x.h.length none }) hR.good (r' := .row 0 sz []) rfl rfl rfl rfl rfl rfl rfl (Nat.le_refl _) (fun _ _ => rfl) (fun b hb => by cases hb)
      (fun _ => ⟨hz, .inl ⟨rfl, by simp [setAt]⟩⟩)
    have hv := hR.t.get (n := t) (by rw [h])
    have hT : RelT (Fn_ nm) { x with h := x.h ++ [.row 0 sz []], at_ := setAt x.at_ x.h.length none } (s.view t sz) a := by
      intro n p hp
      simp only [St.view, List.lookup_cons] at hp
      by_cases e : n = t
      · subst e
        simp only [beq_self_eq_true, Option.some.injEq] at hp
        subst hp
        left
        refine ⟨rfl, ?_⟩
        rw [h] at hv
        simp only [RelV, RelDC] at hv ⊢
        obtain ⟨a', hv, _⟩ := hv
        refine ⟨a', 0, hv, Nat.le_refl _, .inl rfl, .row 0 sz [], by rw [← hR.h]; simp, Nat.le_refl _, fun _ => ⟨rfl, .inl rfl⟩⟩
      · have : (n == t) = false := by simpa using e
        simp only [this] at hp
        rcases hR.t n p hp with ⟨m1, m2⟩ | m
        · exact .inl ⟨m1, (g2 x.h.length).mv _ _ _ m2.under m2⟩
        · exact .inr m
    obtain ⟨x0, k1, k2, k3⟩ := ih (x := { x with h := x.h ++ [.row 0 sz []], at_ := setAt x.at_ x.h.length none }) ⟨by show x.h ++ _ = _; rw [hR.h]; rfl, g1, hT, hR.size, hR.defers⟩
    exact ⟨x0, k1, k2, (g2 n0).trans k3⟩
end
end Go.Lx
