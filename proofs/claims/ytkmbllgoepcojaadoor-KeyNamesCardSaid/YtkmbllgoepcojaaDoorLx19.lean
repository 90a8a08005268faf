import Derived.Test.YtkmbllgoepcojaaDoorLx18
/- A call is sound. -/
set_option linter.unusedVariables false
set_option linter.unusedSimpArgs false
namespace Go.Lx
section
variable {P : Program} {nm : FuncId → Option Nat} {x : Cx} {fn : Nums} {y : Cx}

theorem pure_plain_mv {x' : Cx} {v : V} {u : Value} (hp : v.isPure = true) (hr : (v.plain = true) ∨ ∀ b, y.F b → x'.F b) (hw : x'.w = y.w) (h : RelV fn y v u) : RelV fn x' v u := by
  cases v with
  | s d =>
    cases d with
    | c c =>
      simp only [RelV, RelDC] at h ⊢
      rw [hw]
      rcases hr with hr | hr
      · exact relC_flat (by simpa [V.plain, DC.plain] using hr) h
      · exact RelC.stay (fun b hb => ⟨hr b hb, rfl⟩) h
    | _ => simp [V.isPure] at hp
  | a l =>
    simp only [RelV] at h ⊢
    obtain ⟨cs, h1, h2⟩ := h
    refine ⟨cs, h1, ?_⟩
    rw [hw]
    rcases hr with hr | hr
    · exact relCs_flat (by simpa [V.plain] using hr) h2
    · exact RelCs.stay (fun b hb => ⟨hr b hb, rfl⟩) h2
  | _ => simp [V.isPure] at hp

theorem flat_rows {w : World} {F F' : Nat → Prop} {g sz : Nat} : ∀ {l : List U} {o : Nat}, (l.all fun u => u.all C.flat) = true → RelRows w F g sz l o → RelRows w F' g sz l o
  | [], o, _, _ => by simp [RelRows]
  | u :: l, o, h, hr => by
    simp only [List.all_cons, Bool.and_eq_true] at h
    simp only [RelRows] at hr ⊢
    refine ⟨hr.1, ?_, flat_rows h.2 hr.2.2⟩
    have : ∀ {u : U} {o : Nat}, u.all C.flat = true → RelAt w F g u o → RelAt w F' g u o := by
      intro u
      induction u with
      | nil => intro o _ _; simp [RelAt]
      | cons c r ih =>
        intro o h hr
        simp only [List.all_cons, Bool.and_eq_true] at h
        simp only [RelAt] at hr ⊢
        obtain ⟨⟨v, h1, h2⟩, h3⟩ := hr
        exact ⟨⟨v, h1, relC_flat h.1 h2⟩, ih h.2 h3⟩
    exact this h.1 hr.2.1

theorem glueEs {hl : List Root} {F : Nat → Prop} : ∀ {l : List (V × V)} {es : List MapEntry}, ((l.all fun p => p.1.plain && p.2.plain) = true ∨ ∀ b, y.F b → F b) → RelEs fn y l es → RelEs fn (glue x y hl F) l es
  | [], [], _, _ => trivial
  | p :: r, e :: s, hp, h => by
    simp only [List.all_cons, Bool.and_eq_true] at hp
    exact ⟨⟨h.1.1, h.1.2.1, pure_plain_mv h.1.1 (hp.imp (·.1.1) (fun h => h)) rfl h.1.2.2.1, pure_plain_mv h.1.2.1 (hp.imp (·.1.2) (fun h => h)) rfl h.1.2.2.2⟩, glueEs (hp.imp_left (·.2)) h.2⟩
  | [], _ :: _, _, h => h.elim
  | _ :: _, [], _, h => h.elim

theorem glueRoot {hl : List Root} {F : Nat → Prop} {id : Nat} : ∀ {r : Root}, (r.plain = true ∨ ∀ b, y.F b → F b) → RelRoot fn y id r → RelRoot fn (glue x y hl F) (id + hl.length) (r.shift hl.length)
  | .boxu u, hp, h => by
    obtain ⟨b, cs, t, h1, h2, h3⟩ := h
    refine ⟨b, cs, t, by rw [glue_at]; exact h1, h2, ?_⟩
    rcases hp with hp | hF
    · exact relCs_flat (by simpa [Root.plain] using hp) h3
    · exact RelCs.stay (fun b hb => ⟨hF b hb, rfl⟩) h3
  | .boxd u, hp, h => by
    obtain ⟨b, cs, t, h1, h2, h3⟩ := h
    exact ⟨b, cs, t, by rw [glue_at]; exact h1, h2, glueDCs (hp.imp_left (by simp [Root.plain])) h3⟩
  | .row g sz l, hp, h => by
    refine ⟨h.1, ?_⟩
    rw [glue_at]
    rcases h.2 with h2 | ⟨b, cs, t, h1, h2, h3⟩
    · exact .inl h2
    · refine .inr ⟨b, cs, t, h1, h2, ?_⟩
      rcases hp with hp | hF
      · exact flat_rows (by simpa [Root.plain] using hp) h3
      · exact RelRows.stay (fun b hb => ⟨hF b hb, rfl⟩) rfl h3
  | .lock g sz l, hp, h => by
    refine ⟨h.1, ?_⟩
    rw [glue_at]
    rcases h.2 with h2 | ⟨b, h1, h2, h3⟩
    · exact .inl h2
    · have hF := hp.resolve_left (by simp [Root.plain])
      exact .inr ⟨b, h1, hF _ h2, RelRows.stay (fun b hb => ⟨hF b hb, rfl⟩) rfl h3⟩
  | .map l, hp, h => by
    obtain ⟨b, es, n, h1, h2, h3⟩ := h
    exact ⟨b, es, n, by rw [glue_at]; exact h1, h2, glueEs (hp.imp_left (by simp [Root.plain])) h3⟩
  | .dead, _, _ => trivial

theorem owns_shift (r : Root) (n : Nat) : (r.shift n).owns = r.owns := by cases r <;> rfl

/-- Blocks of x as they are told afterwards: as before, or a row lent. -/
def Told (ids : List Nat) (x : Cx) (hl : List Root) : Prop := hl.length = x.h.length ∧ ∀ (i : Nat) (r : Root), x.h[i]? = some r → hl[i]? = some r ∨ i ∈ ids ∧ ∃ g sz l, r = .row g sz l ∧ hl[i]? = some (.lock g sz l)

theorem lockIds_length : ∀ (ids : List Nat) (h : List Root), (lockIds ids h).length = h.length
  | [], h => rfl
  | i :: ids, h => by
    show (lockIds ids (h.modify i lockRoot)).length = _
    rw [lockIds_length]
    simp
theorem lockIds_get : ∀ (ids : List Nat) (h : List Root) (i : Nat) (r : Root), h[i]? = some r → (i ∉ ids ∧ (lockIds ids h)[i]? = some r) ∨ (i ∈ ids ∧ (lockIds ids h)[i]? = some (lockRoot r))
  | [], h, i, r, hr => .inl ⟨by simp, hr⟩
  | j :: ids, h, i, r, hr => by
    show (_ ∧ (lockIds ids (h.modify j lockRoot))[i]? = _) ∨ (_ ∧ (lockIds ids (h.modify j lockRoot))[i]? = _)
    by_cases e : j = i
    · subst e
      have : (h.modify j lockRoot)[j]? = some (lockRoot r) := by simp [hr]
      have hll : lockRoot (lockRoot r) = lockRoot r := by cases r <;> rfl
      rcases lockIds_get ids _ j _ this with ⟨_, k⟩ | ⟨_, k⟩
      · exact .inr ⟨by simp, k⟩
      · rw [hll] at k; exact .inr ⟨by simp, k⟩
    · have : (h.modify j lockRoot)[i]? = some r := by simp [List.getElem?_modify, e, hr]
      rcases lockIds_get ids _ i _ this with ⟨m, k⟩ | ⟨m, k⟩
      · exact .inl ⟨by simp [m, Ne.symm e], k⟩
      · exact .inr ⟨by simp [m], k⟩

theorem told_none (x : Cx) : Told [] x x.h := ⟨rfl, fun i r h => .inl h⟩
theorem told_lock (ids : List Nat) (x : Cx) : Told ids x (lockIds ids x.h) := ⟨lockIds_length _ _, fun i r h => by
  rcases lockIds_get ids _ i r h with ⟨_, k⟩ | ⟨m, k⟩
  · exact .inl k
  · cases r <;> first | exact .inl k | exact .inr ⟨m, _, _, _, rfl, k⟩⟩

/-- after a call that was given data alone: its blocks behind those that were there -/
theorem glue_step (hg : Good fn x) {ids lids : List Nat} (hy : Good fn y) (hn : Nx 0 (x.lent ids) y) {hl : List Root} (ht : Told lids x hl) (hall : ∀ i ∈ lids, i ∈ ids) {F : Nat → Prop}
    (hF1 : ∀ b, x.F b → F b) (hF2 : ∀ i g sz l b, x.h[i]? = some (.row g sz l) → hl[i]? = some (.lock g sz l) → x.at_ i = some b → F b)
    (hF3 : ∀ b, F b → x.F b ∨ y.F b ∨ ∃ i g sz l, hl[i]? = some (.lock g sz l) ∧ x.h[i]? = some (.row g sz l) ∧ x.at_ i = some b)
    (hF4 : ∀ b, F b → y.F b → ∀ i r, x.h[i]? = some r → x.at_ i = some b → r.owns = true → hl[i]? ≠ some r)
    (hp : (∀ b, y.F b → F b) ∨ ∀ r, r ∈ y.h → r.plain = true) :
    Good fn (glue x y hl F) ∧ Nx x.h.length x (glue x y hl F) := by
  have hyo : ∀ b, y.own b → x.w.heap.size ≤ b := fun b hb => by
    rcases hn.own b hb with ⟨id, r, h, _⟩ | h
    · simp [Cx.lent] at h
    · exact h
  have hkeep : ∀ b, b < x.w.heap.size → y.w.heap[b]? = x.w.heap[b]? := fun b hb => hn.keep b hb (by rintro ⟨id, r, h, _⟩; simp [Cx.lent] at h)
  have hlen := ht.1
  have hold : ∀ i r', i < hl.length → (glue x y hl F).h[i]? = some r' → ∃ r, x.h[i]? = some r ∧ hl[i]? = some r' ∧ (r' = r ∨ i ∈ lids ∧ ∃ g sz l, r = .row g sz l ∧ r' = .lock g sz l) := by
    intro i r' hi h
    simp only [glue] at h
    rw [List.getElem?_append, if_pos hi] at h
    have hx : i < x.h.length := by omega
    have hxr : x.h[i]? = some x.h[i] := List.getElem?_eq_getElem hx
    refine ⟨_, hxr, h, ?_⟩
    rcases ht.2 i _ hxr with k | ⟨k1, g, sz, l, k2, k3⟩
    · rw [k] at h; injection h with h; exact .inl h.symm
    · rw [k3] at h; injection h with h; exact .inr ⟨k1, g, sz, l, k2, h.symm⟩
  have hnew : ∀ i r', ¬ i < hl.length → (glue x y hl F).h[i]? = some r' → ∃ j r, i = j + hl.length ∧ y.h[j]? = some r ∧ r' = r.shift hl.length := by
    intro i r' hi h
    obtain ⟨j, rfl⟩ : ∃ j, i = j + hl.length := ⟨i - hl.length, by omega⟩
    rw [glue_h, Option.map_eq_some_iff] at h
    obtain ⟨r, h1, h2⟩ := h
    exact ⟨j, r, rfl, h1, h2.symm⟩
  have hat : ∀ i, i < hl.length → (glue x y hl F).at_ i = x.at_ i := fun i hi => by simp [glue, hi]
  have hm : Mv x (glue x y hl F) := by
    refine ⟨fun b hb => ⟨hF1 b hb, hkeep b (hg.lt b hb)⟩, fun i r hr => ?_⟩
    have hi : i < hl.length := by rw [hlen]; exact (List.getElem?_eq_some_iff.1 hr).1
    have hb : ∀ b, x.at_ i = some b → r ≠ .dead → (glue x y hl F).w.heap[b]? = x.w.heap[b]? := by
      intro b hb hd
      rcases hg.block hr hb with ⟨_, h⟩ | h | h
      · exact hkeep b (hg.ltOwn b h)
      · exact hkeep b (hg.lt b h)
      · exact absurd h hd
    have hget : ∀ r', hl[i]? = some r' → (glue x y hl F).h[i]? = some r' := fun r' h => by simp only [glue]; rw [List.getElem?_append, if_pos hi]; exact h
    rcases ht.2 i r hr with k | ⟨k1, g, sz, l, k2, k3⟩
    · refine ⟨r, hget _ k, ?_⟩
      by_cases hd : r = .dead
      · subst hd; exact trivial
      · exact RootLe.refl (hat i hi) (fun b h => hb b h hd) r
    · subst k2
      exact ⟨_, hget _ k3, .inr ⟨rfl, rfl, hat i hi, fun b cs t f h1 h2 => ⟨cs, t, f, by rw [hb b h1 (by simp)]; exact h2, Nat.le_refl _⟩⟩⟩
  have hownO : ∀ i r' b, i < hl.length → (glue x y hl F).h[i]? = some r' → r'.owns = true → (glue x y hl F).at_ i = some b → x.h[i]? = some r' ∧ hl[i]? = some r' ∧ x.at_ i = some b := by
    intro i r' b hi h1 h2 h3
    obtain ⟨r, k1, k2, k3⟩ := hold i r' hi h1
    rw [hat i hi] at h3
    rcases k3 with k3 | ⟨_, g, sz, l, k3, k4⟩
    · subst k3; exact ⟨k1, k2, h3⟩
    · subst k4; cases h2
  have hownN : ∀ i r' b, ¬ i < hl.length → (glue x y hl F).h[i]? = some r' → r'.owns = true → (glue x y hl F).at_ i = some b → ∃ j r, i = j + hl.length ∧ y.h[j]? = some r ∧ r.owns = true ∧ y.at_ j = some b := by
    intro i r' b hi h1 h2 h3
    obtain ⟨j, r, rfl, k1, rfl⟩ := hnew i r' hi h1
    rw [owns_shift] at h2
    rw [glue_at] at h3
    exact ⟨j, r, rfl, k1, h2, h3⟩
  have hown : ∀ b, (glue x y hl F).own b → (x.own b ∧ ∃ i r, x.h[i]? = some r ∧ hl[i]? = some r ∧ x.at_ i = some b ∧ r.owns = true) ∨ y.own b := by
    rintro b ⟨i, r', h1, h2, h3⟩
    by_cases hi : i < hl.length
    · obtain ⟨k1, k2, k3⟩ := hownO i r' b hi h1 h2 h3
      exact .inl ⟨⟨i, r', k1, h2, k3⟩, i, r', k1, k2, k3, h2⟩
    · obtain ⟨j, r, _, k1, k2, k3⟩ := hownN i r' b hi h1 h2 h3
      exact .inr ⟨j, r, k1, k2, k3⟩
  have hFlt : ∀ b, F b → b < y.w.heap.size := by
    intro b hb
    rcases hF3 b hb with h | h | ⟨i, g, sz, l, _, h1, h2⟩
    · exact Nat.lt_of_lt_of_le (hg.lt b h) hn.size
    · exact hy.lt b h
    · exact Nat.lt_of_lt_of_le (hg.ltOwn b ⟨i, _, h1, rfl, h2⟩) hn.size
  refine ⟨⟨fun i r' hr => ?_, ?_, ?_, hFlt, ?_, hg.base_mv hm.F⟩, ⟨hn.os, hn.tape, hn.output, hn.size, fun b hb _ => hkeep b hb, ?_, ?_, fun fn v u _ h => RelV.mv hm h⟩⟩
  · by_cases hi : i < hl.length
    · obtain ⟨r, k1, k2, k3⟩ := hold i r' hi hr
      have hb : ∀ b, x.at_ i = some b → r ≠ .dead → (glue x y hl F).w.heap[b]? = x.w.heap[b]? := by
        intro b hb hd
        rcases hg.block k1 hb with ⟨_, h⟩ | h | h
        · exact hkeep b (hg.ltOwn b h)
        · exact hkeep b (hg.lt b h)
        · exact absurd h hd
      rcases k3 with k3 | ⟨_, g, sz, l, k3, k4⟩
      · subst k3
        by_cases hd : r' = .dead
        · subst hd; exact trivial
        · exact RelRoot.mv hm (hat i hi) (fun b h => hb b h hd) (hg.root i _ k1)
      · subst k3 k4
        have hr0 := hg.root i _ k1
        refine ⟨hr0.1, ?_⟩
        rw [hat i hi]
        rcases hr0.2 with h | ⟨b, cs, t, h1, h2, h3⟩
        · exact .inl h
        · exact .inr ⟨b, h1, hF2 i g sz l b k1 k2 h1, RelRows.stay hm.F (hb b h1 (by simp)) h3⟩
    · obtain ⟨j, r, rfl, k1, rfl⟩ := hnew i r' hi hr
      exact glueRoot (hp.symm.imp (fun h => h _ (List.mem_of_getElem? k1)) (fun h => h)) (hy.root j r k1)
  · intro i i' r r' b h1 h2 o1 o2 a1 a2
    by_cases hi : i < hl.length <;> by_cases hi' : i' < hl.length
    · obtain ⟨k1, _, k2⟩ := hownO i r b hi h1 o1 a1
      obtain ⟨k3, _, k4⟩ := hownO i' r' b hi' h2 o2 a2
      exact hg.one i i' r r' b k1 k3 o1 o2 k2 k4
    · obtain ⟨k1, _, k2⟩ := hownO i r b hi h1 o1 a1
      obtain ⟨j, q, _, k3, k4, k5⟩ := hownN i' r' b hi' h2 o2 a2
      have := hg.ltOwn b ⟨i, r, k1, o1, k2⟩
      have := hyo b ⟨j, q, k3, k4, k5⟩
      omega
    · obtain ⟨k1, _, k2⟩ := hownO i' r' b hi' h2 o2 a2
      obtain ⟨j, q, _, k3, k4, k5⟩ := hownN i r b hi h1 o1 a1
      have := hg.ltOwn b ⟨i', r', k1, o2, k2⟩
      have := hyo b ⟨j, q, k3, k4, k5⟩
      omega
    · obtain ⟨j, q, e1, k1, k2, k3⟩ := hownN i r b hi h1 o1 a1
      obtain ⟨j', q', e2, k1', k2', k3'⟩ := hownN i' r' b hi' h2 o2 a2
      have := hy.one j j' q q' b k1 k1' k2 k2' k3 k3'
      omega
  · intro b hb hf
    rcases hown b hb with ⟨ho, i, r, k1, k2, k3, k4⟩ | ho
    · rcases hF3 b hf with h | h | ⟨i', g, sz, l, h1, h2, h3⟩
      · exact hg.apart b ho h
      · exact hF4 b hf h i r k1 k3 k4 k2
      · have := hg.one i i' _ _ b k1 h2 k4 rfl k3 h3
        subst this
        rw [h1] at k2; injection k2 with k2; subst k2; cases k4
    · rcases hF3 b hf with h | h | ⟨i', g, sz, l, h1, h2, h3⟩
      · have := hg.lt b h; have := hyo b ho; omega
      · exact hy.apart b ho h
      · have := hg.ltOwn b ⟨i', _, h2, rfl, h3⟩; have := hyo b ho; omega
  · intro b hb
    rcases hown b hb with ⟨ho, _⟩ | ho
    · exact Nat.lt_of_lt_of_le (hg.ltOwn b ho) hn.size
    · exact hy.ltOwn b ho
  · intro b hb
    rcases hown b hb with ⟨ho, _⟩ | ho
    · exact .inl ho
    · exact .inr (hyo b ho)
  · intro b hb
    rcases hF3 b hb with h | h | ⟨i', g, sz, l, h1, h2, h3⟩
    · exact .inl h
    · rcases hn.fout b h with k | k | k
      · rcases k with k | ⟨id, _, g, sz, l, k1, k2⟩
        · exact .inl k
        · exact .inr (.inl ⟨id, _, k1, rfl, k2⟩)
      · obtain ⟨id, r, h, _⟩ := k; simp [Cx.lent] at h
      · exact .inr (.inr k)
    · exact .inr (.inl ⟨i', _, h2, rfl, h3⟩)
end
end Go.Lx
