import Derived.Test.YtkmbllgoepcojaaDoorLx03
/- Steps of memory: what is drawn, laid new, written in an own block; given up. -/
set_option linter.unusedVariables false
namespace Go.Lx

theorem RelRoot.mv {fn : Nums} {x x' : Cx} (hm : Mv x x') {id : Nat} (ha : x'.at_ id = x.at_ id) : ∀ {r : Root} (hb : ∀ b, x.at_ id = some b → x'.w.heap[b]? = x.w.heap[b]?), RelRoot fn x id r → RelRoot fn x' id r
  | .boxu u, hb, h => by
    obtain ⟨b, cs, t, h1, h2, h3⟩ := h
    exact ⟨b, cs, t, by rw [ha]; exact h1, by rw [hb b h1]; exact h2, RelCs.stay hm.F h3⟩
  | .boxd u, hb, h => by
    obtain ⟨b, cs, t, h1, h2, h3⟩ := h
    exact ⟨b, cs, t, by rw [ha]; exact h1, by rw [hb b h1]; exact h2, RelDCs.mv hm h3⟩
  | .row g sz l, hb, h => by
    refine ⟨h.1, ?_⟩
    rcases h.2 with ⟨h1, h2⟩ | ⟨b, cs, t, h1, h2, h3⟩
    · exact .inl ⟨h1, by rw [ha]; exact h2⟩
    · exact .inr ⟨b, cs, t, by rw [ha]; exact h1, by rw [hb b h1]; exact h2, RelRows.stay hm.F (hb b h1) h3⟩
  | .lock g sz l, hb, h => by
    refine ⟨h.1, ?_⟩
    rcases h.2 with ⟨h1, h2⟩ | ⟨b, h1, h2, h3⟩
    · exact .inl ⟨h1, by rw [ha]; exact h2⟩
    · exact .inr ⟨b, by rw [ha]; exact h1, (hm.F b h2).1, RelRows.stay hm.F (hb b h1) h3⟩
  | .map l, hb, h => by
    obtain ⟨b, es, n, h1, h2, h3⟩ := h
    exact ⟨b, es, n, by rw [ha]; exact h1, by rw [hb b h1]; exact h2, RelEs.mv hm h3⟩
  | .dead, _, _ => trivial

theorem RootLe.refl {x x' : Cx} {id : Nat} (ha : x'.at_ id = x.at_ id) (hb : ∀ b, x.at_ id = some b → x'.w.heap[b]? = x.w.heap[b]?) : ∀ r, RootLe x x' id r r
  | .boxu _ | .boxd _ | .map _ => ha
  | .row _ _ _ | .lock _ _ _ => .inr ⟨rfl, rfl, ha, fun b cs t f h1 h2 => ⟨cs, t, f, by rw [hb b h1]; exact h2, Nat.le_refl _⟩⟩
  | .dead => trivial

/-- where a block lies -/
theorem Good.block {fn : Nums} {x : Cx} (hg : Good fn x) {id r b} (h : x.h[id]? = some r) (hb : x.at_ id = some b) : (r.owns = true ∧ x.own b) ∨ x.F b ∨ r = .dead := by
  cases r with
  | lock g sz l =>
    rcases (hg.root id _ h).2 with ⟨_, h1⟩ | ⟨b', h1, h2, _⟩
    · rw [hb] at h1
      cases h1
    · rw [hb] at h1
      injection h1 with h1
      subst h1
      exact .inr (.inl h2)
  | dead => exact .inr (.inr rfl)
  | _ => exact .inl ⟨rfl, id, _, h, rfl, hb⟩

/-- the same heap -/
theorem step_same {fn : Nums} {x : Cx} (hg : Good fn x) {w' : World} (hh : w'.heap = x.w.heap) (h1 : w'.os = x.w.os) (h2 : w'.tape = x.w.tape) (h3 : w'.output = x.w.output) :
    Good fn { x with w := w' } ∧ ∀ n0, Nx n0 x { x with w := w' } := by
  have hm : Mv x { x with w := w' } := ⟨fun b hb => ⟨hb, by rw [hh]⟩, fun id r h => ⟨r, h, RootLe.refl (x := x) (x' := { x with w := w' }) rfl (fun b _ => by rw [hh]) r⟩⟩
  refine ⟨⟨fun id r h => RelRoot.mv hm rfl (fun b _ => by rw [hh]) (hg.root id r h), hg.one, hg.apart, fun b hb => by simpa [hh] using hg.lt b hb, fun b hb => by simpa [hh] using hg.ltOwn b hb, hg.base_mv hm.F⟩, ?_⟩
  exact fun n0 => ⟨h1, h2, h3, by simp [hh], fun b _ _ => by simp [hh], fun b h => .inl h, fun b h => .inl h, fun fn v u _ h => RelV.mv hm h⟩

def setAt (f : Nat → Option Nat) (id : Nat) (b : Option Nat) : Nat → Option Nat := fun i => if i = id then b else f i
@[simp] theorem setAt_self {f id b} : setAt f id b id = b := by simp [setAt]
theorem setAt_ne {f id b i} (h : i ≠ id) : setAt f id b i = f i := by simp [setAt, h]

/-- A change of one own block (id), which may be laid anew behind all others; all else stays. -/
theorem step_put {fn : Nums} {x x' : Cx} (hg : Good fn x) {id : Nat} {r r' : Root} {b' : Option Nat} (hF : x'.F = x.F) (hat : x'.at_ = setAt x.at_ id b') (hh : x'.h = x.h.set id r')
    (hr : x.h[id]? = some r) (ho : r.owns = true) (ho' : r'.owns = true)
    (h1 : x'.w.os = x.w.os) (h2 : x'.w.tape = x.w.tape) (h3 : x'.w.output = x.w.output) (hs : x.w.heap.size ≤ x'.w.heap.size)
    (hk : ∀ b, b < x.w.heap.size → x.at_ id ≠ some b → x'.w.heap[b]? = x.w.heap[b]?)
    (hb : ∀ b, b' = some b → (x.at_ id = some b ∨ x.w.heap.size ≤ b) ∧ b < x'.w.heap.size)
    (hle : RootLe x x' id r r') (hrel : Mv x x' → RelRoot fn x' id r') :
    Good fn x' ∧ ∀ n0, Nx n0 x x' := by
  have hid : id < x.h.length := (List.getElem?_eq_some_iff.1 hr).1
  have hFk : ∀ b, x.F b → x'.w.heap[b]? = x.w.heap[b]? := fun b hb => hk b (hg.lt b hb) (fun he => hg.apart b ⟨id, r, hr, ho, he⟩ hb)
  have hother : ∀ i ri, i ≠ id → x'.h[i]? = some ri → x.h[i]? = some ri := by
    intro i ri hi h
    rw [hh] at h
    simpa [List.getElem?_set_ne (Ne.symm hi)] using h
  have hother' : ∀ i ri, i ≠ id → x.h[i]? = some ri → x'.h[i]? = some ri := by
    intro i ri hi h
    rw [hh]
    simpa [List.getElem?_set_ne (Ne.symm hi)] using h
  have hself : x'.h[id]? = some r' := by rw [hh]; simp [hid]
  have hne : ∀ i ri, i ≠ id → x.h[i]? = some ri → ∀ b, x.at_ i = some b → ri = .dead ∨ x'.w.heap[b]? = x.w.heap[b]? := by
    intro i ri hi hri b hbi
    rcases hg.block hri hbi with ⟨h, h'⟩ | h | h
    · exact .inr (hk b (hg.ltOwn b h') (fun he => hi (hg.one i id ri r b hri hr h ho hbi he)))
    · exact .inr (hFk b h)
    · exact .inl h
  have hm : Mv x x' := by
    refine ⟨fun b hb => ⟨by rw [hF]; exact hb, hFk b hb⟩, fun i ri hri => ?_⟩
    by_cases hi : i = id
    · subst hi
      rw [hr] at hri
      injection hri with hri
      subst hri
      exact ⟨r', hself, hle⟩
    · refine ⟨ri, hother' i ri hi hri, ?_⟩
      by_cases hd : ri = .dead
      · subst hd; exact trivial
      · refine RootLe.refl (by rw [hat]; exact setAt_ne hi) (fun b hb => ?_) _
        rcases hne i ri hi hri b hb with h | h
        · exact absurd h hd
        · exact h
  have hown : ∀ b, x'.own b → x.own b ∨ x.w.heap.size ≤ b := by
    rintro b ⟨i, ri, hi1, hi2, hi3⟩
    by_cases hi : i = id
    · subst hi
      rw [hat, setAt_self] at hi3
      rcases (hb b hi3).1 with h | h
      · exact .inl ⟨i, r, hr, ho, h⟩
      · exact .inr h
    · rw [hat, setAt_ne hi] at hi3
      exact .inl ⟨i, ri, hother i ri hi hi1, hi2, hi3⟩
  refine ⟨⟨fun i ri hri => ?_, ?_, ?_, ?_, ?_, hg.base_mv hm.F⟩, fun n0 => ⟨h1, h2, h3, hs, ?_, hown, fun b h => .inl (by rw [← hF]; exact h), fun fn v u _ h => RelV.mv hm h⟩⟩
  · by_cases hi : i = id
    · subst hi
      rw [hself] at hri
      injection hri with hri
      subst hri
      exact hrel hm
    · have hri' := hother i ri hi hri
      by_cases hd : ri = .dead
      · subst hd; exact trivial
      · refine RelRoot.mv hm (by rw [hat]; exact setAt_ne hi) (fun b hb => ?_) (hg.root i ri hri')
        rcases hne i ri hi hri' b hb with h | h
        · exact absurd h hd
        · exact h
  · intro i j ri rj b hi hj oi oj ai aj
    by_cases ei : i = id <;> by_cases ej : j = id
    · rw [ei, ej]
    · exfalso
      subst ei
      rw [hat, setAt_self] at ai
      rw [hat, setAt_ne ej] at aj
      have hj' := hother j rj ej hj
      have := hg.ltOwn b ⟨j, rj, hj', oj, aj⟩
      rcases (hb b ai).1 with h | h
      · exact ej (hg.one j i rj r b hj' hr oj ho aj h)
      · omega
    · exfalso
      subst ej
      rw [hat, setAt_self] at aj
      rw [hat, setAt_ne ei] at ai
      have hi' := hother i ri ei hi
      have := hg.ltOwn b ⟨i, ri, hi', oi, ai⟩
      rcases (hb b aj).1 with h | h
      · exact ei (hg.one i j ri r b hi' hr oi ho ai h)
      · omega
    · rw [hat, setAt_ne ei] at ai
      rw [hat, setAt_ne ej] at aj
      exact hg.one i j ri rj b (hother i ri ei hi) (hother j rj ej hj) oi oj ai aj
  · intro b hb' hf
    rw [hF] at hf
    rcases hown b hb' with h | h
    · exact hg.apart b h hf
    · have := hg.lt b hf
      omega
  · intro b hf
    rw [hF] at hf
    exact Nat.lt_of_lt_of_le (hg.lt b hf) hs
  · rintro b ⟨i, ri, hi1, hi2, hi3⟩
    by_cases hi : i = id
    · subst hi
      rw [hat, setAt_self] at hi3
      exact (hb b hi3).2
    · rw [hat, setAt_ne hi] at hi3
      exact Nat.lt_of_lt_of_le (hg.ltOwn b ⟨i, ri, hother i ri hi hi1, hi2, hi3⟩) hs
  · intro b hbl hbo
    exact hk b hbl (fun he => hbo ⟨id, r, hr, ho, he⟩)

/-- A block of the call's own more, laid behind all others (or none, for an empty row). -/
theorem step_new {fn : Nums} {x x' : Cx} (hg : Good fn x) {r' : Root} {b' : Option Nat} (hF : x'.F = x.F) (hat : x'.at_ = setAt x.at_ x.h.length b') (hh : x'.h = x.h ++ [r']) (ho' : r'.owns = true)
    (h1 : x'.w.os = x.w.os) (h2 : x'.w.tape = x.w.tape) (h3 : x'.w.output = x.w.output) (hs : x.w.heap.size ≤ x'.w.heap.size)
    (hk : ∀ b, b < x.w.heap.size → x'.w.heap[b]? = x.w.heap[b]?)
    (hb : ∀ b, b' = some b → x.w.heap.size ≤ b ∧ b < x'.w.heap.size)
    (hrel : Mv x x' → RelRoot fn x' x.h.length r') :
    Good fn x' ∧ ∀ n0, Nx n0 x x' := by
  have hother : ∀ i ri, i ≠ x.h.length → x'.h[i]? = some ri → x.h[i]? = some ri := by
    intro i ri hi h
    rw [hh, List.getElem?_append] at h
    split at h
    · exact h
    · rename_i hlt
      obtain ⟨j, hj⟩ : ∃ j, i - x.h.length = j + 1 := ⟨i - x.h.length - 1, by omega⟩
      rw [hj] at h
      simp at h
  have hother' : ∀ i ri, x.h[i]? = some ri → x'.h[i]? = some ri ∧ i ≠ x.h.length := by
    intro i ri h
    have := (List.getElem?_eq_some_iff.1 h).1
    rw [hh, List.getElem?_append, if_pos this]
    exact ⟨h, by omega⟩
  have hself : x'.h[x.h.length]? = some r' := by rw [hh]; simp
  have hFk : ∀ b, x.F b → x'.w.heap[b]? = x.w.heap[b]? := fun b hb => hk b (hg.lt b hb)
  have hne : ∀ i ri, x.h[i]? = some ri → ∀ b, x.at_ i = some b → ri = .dead ∨ x'.w.heap[b]? = x.w.heap[b]? := by
    intro i ri hri b hbi
    rcases hg.block hri hbi with ⟨h, h'⟩ | h | h
    · exact .inr (hk b (hg.ltOwn b h'))
    · exact .inr (hFk b h)
    · exact .inl h
  have hm : Mv x x' := by
    refine ⟨fun b hb => ⟨by rw [hF]; exact hb, hFk b hb⟩, fun i ri hri => ?_⟩
    refine ⟨ri, (hother' i ri hri).1, ?_⟩
    by_cases hd : ri = .dead
    · subst hd; exact trivial
    · refine RootLe.refl (by rw [hat]; exact setAt_ne (hother' i ri hri).2) (fun b hb => ?_) _
      rcases hne i ri hri b hb with h | h
      · exact absurd h hd
      · exact h
  have hown : ∀ b, x'.own b → x.own b ∨ x.w.heap.size ≤ b := by
    rintro b ⟨i, ri, hi1, hi2, hi3⟩
    by_cases hi : i = x.h.length
    · subst hi
      rw [hat, setAt_self] at hi3
      exact .inr (hb b hi3).1
    · rw [hat, setAt_ne hi] at hi3
      exact .inl ⟨i, ri, hother i ri hi hi1, hi2, hi3⟩
  refine ⟨⟨fun i ri hri => ?_, ?_, ?_, ?_, ?_, hg.base_mv hm.F⟩, fun n0 => ⟨h1, h2, h3, hs, ?_, hown, fun b h => .inl (by rw [← hF]; exact h), fun fn v u _ h => RelV.mv hm h⟩⟩
  · by_cases hi : i = x.h.length
    · subst hi
      rw [hself] at hri
      injection hri with hri
      subst hri
      exact hrel hm
    · have hri' := hother i ri hi hri
      by_cases hd : ri = .dead
      · subst hd; exact trivial
      · refine RelRoot.mv hm (by rw [hat]; exact setAt_ne hi) (fun b hb => ?_) (hg.root i ri hri')
        rcases hne i ri hri' b hb with h | h
        · exact absurd h hd
        · exact h
  · intro i j ri rj b hi hj oi oj ai aj
    by_cases ei : i = x.h.length <;> by_cases ej : j = x.h.length
    · rw [ei, ej]
    · exfalso
      subst ei
      rw [hat, setAt_self] at ai
      rw [hat, setAt_ne ej] at aj
      have hj' := hother j rj ej hj
      have := hg.ltOwn b ⟨j, rj, hj', oj, aj⟩
      have := (hb b ai).1
      omega
    · exfalso
      subst ej
      rw [hat, setAt_self] at aj
      rw [hat, setAt_ne ei] at ai
      have hi' := hother i ri ei hi
      have := hg.ltOwn b ⟨i, ri, hi', oi, ai⟩
      have := (hb b aj).1
      omega
    · rw [hat, setAt_ne ei] at ai
      rw [hat, setAt_ne ej] at aj
      exact hg.one i j ri rj b (hother i ri ei hi) (hother j rj ej hj) oi oj ai aj
  · intro b hb' hf
    rw [hF] at hf
    rcases hown b hb' with h | h
    · exact hg.apart b h hf
    · have := hg.lt b hf
      omega
  · intro b hf
    rw [hF] at hf
    exact Nat.lt_of_lt_of_le (hg.lt b hf) hs
  · rintro b ⟨i, ri, hi1, hi2, hi3⟩
    by_cases hi : i = x.h.length
    · subst hi
      rw [hat, setAt_self] at hi3
      exact (hb b hi3).2
    · rw [hat, setAt_ne hi] at hi3
      exact Nat.lt_of_lt_of_le (hg.ltOwn b ⟨i, ri, hother i ri hi hi1, hi2, hi3⟩) hs
  · intro b hbl _
    exact hk b hbl

end Go.Lx
