import Derived.Test.YtkmbllgoepcojaaDoorLx04
import Derived.Test.YtkmbllgoepcojaaDoorLx05
import Derived.Laws.Cells
import Derived.Laws.CopyRow
/- The pure operations of the L-language are those of the machine. -/
set_option linter.unusedVariables false
set_option linter.unusedSimpArgs false
namespace Go.Lx

section
variable {P : Program} {fn : Nums} {x : Cx}

theorem add_none (g o j : Nat) : (⟨g, o, none⟩ : Addr).add j = ⟨g, o + j, none⟩ := by unfold Addr.add; split <;> simp_all

/-! ### cells -/
theorem RelCs.length {w F} : ∀ {u : U} {vs}, RelCs w F u vs → u.length = vs.length
  | [], [], _ => rfl
  | _ :: r, _ :: s, h => by simp [RelCs.length h.2]
  | [], _ :: _, h => h.elim
  | _ :: _, [], h => h.elim
theorem RelDCs.length : ∀ {u : List DC} {vs}, RelDCs fn x u vs → u.length = vs.length
  | [], [], _ => rfl
  | _ :: r, _ :: s, h => by simp only [RelDCs] at h; simp [RelDCs.length h.2]
  | [], _ :: _, h => by simp [RelDCs] at h
  | _ :: _, [], h => by simp [RelDCs] at h
theorem RelVs.length : ∀ {u : List V} {vs}, RelVs fn x u vs → u.length = vs.length
  | [], [], _ => rfl
  | _ :: r, _ :: s, h => by simp only [RelVs] at h; simp [RelVs.length h.2]
  | [], _ :: _, h => by simp [RelVs] at h
  | _ :: _, [], h => by simp [RelVs] at h

theorem RelCs.drop {w F} : ∀ (n : Nat) {u : U} {vs}, RelCs w F u vs → RelCs w F (u.drop n) (vs.drop n)
  | 0, u, vs, h => by simpa using h
  | n + 1, [], [], _ => trivial
  | n + 1, _ :: r, _ :: s, h => by simpa using RelCs.drop n h.2
  | _ + 1, [], _ :: _, h => h.elim
  | _ + 1, _ :: _, [], h => h.elim
theorem RelCs.take {w F} : ∀ (n : Nat) {u : U} {vs}, RelCs w F u vs → RelCs w F (u.take n) (vs.take n)
  | 0, u, vs, h => by simp [RelCs]
  | n + 1, [], [], _ => trivial
  | n + 1, _ :: r, _ :: s, h => by simpa [RelCs] using ⟨h.1, RelCs.take n h.2⟩
  | _ + 1, [], _ :: _, h => h.elim
  | _ + 1, _ :: _, [], h => h.elim
theorem RelCs.append {w F} : ∀ {u u' : U} {vs vs'}, RelCs w F u vs → RelCs w F u' vs' → RelCs w F (u ++ u') (vs ++ vs')
  | [], u', [], vs', _, h => by simpa using h
  | _ :: r, u', _ :: s, vs', h, k => ⟨h.1, RelCs.append h.2 k⟩
  | [], _, _ :: _, _, h, _ => h.elim
  | _ :: _, _, [], _, h, _ => h.elim
theorem RelDCs.drop : ∀ (n : Nat) {u : List DC} {vs}, RelDCs fn x u vs → RelDCs fn x (u.drop n) (vs.drop n)
  | 0, u, vs, h => by simpa using h
  | n + 1, [], [], _ => by simp [RelDCs]
  | n + 1, _ :: r, _ :: s, h => by simp only [RelDCs] at h; simpa using RelDCs.drop n h.2
  | _ + 1, [], _ :: _, h => by simp [RelDCs] at h
  | _ + 1, _ :: _, [], h => by simp [RelDCs] at h
theorem RelDCs.take : ∀ (n : Nat) {u : List DC} {vs}, RelDCs fn x u vs → RelDCs fn x (u.take n) (vs.take n)
  | 0, u, vs, h => by simp [RelDCs]
  | n + 1, [], [], _ => by simp [RelDCs]
  | n + 1, _ :: r, _ :: s, h => by simp only [RelDCs] at h; simpa [RelDCs] using ⟨h.1, RelDCs.take n h.2⟩
  | _ + 1, [], _ :: _, h => by simp [RelDCs] at h
  | _ + 1, _ :: _, [], h => by simp [RelDCs] at h
theorem RelDCs.append : ∀ {u u' : List DC} {vs vs'}, RelDCs fn x u vs → RelDCs fn x u' vs' → RelDCs fn x (u ++ u') (vs ++ vs')
  | [], u', [], vs', _, h => by simpa using h
  | _ :: r, u', _ :: s, vs', h, k => by simp only [RelDCs] at h; simp only [List.cons_append, RelDCs]; exact ⟨h.1, RelDCs.append h.2 k⟩
  | [], _, _ :: _, _, h, _ => by simp [RelDCs] at h
  | _ :: _, _, [], _, h, _ => by simp [RelDCs] at h
theorem RelDCs.get : ∀ {u : List DC} {vs : List Value} {i : Nat} {d : DC}, RelDCs fn x u vs → u[i]? = some d → ∃ v, vs[i]? = some v ∧ RelDC fn x d v
  | [], [], i, d, _, h => by simp at h
  | d0 :: r, v0 :: s, 0, d, h, hd => by simp only [RelDCs] at h; simp at hd; subst hd; exact ⟨v0, rfl, h.1⟩
  | d0 :: r, v0 :: s, i + 1, d, h, hd => by simp only [RelDCs] at h; simp at hd; simpa using RelDCs.get h.2 hd
  | [], _ :: _, _, _, h, _ => by simp [RelDCs] at h
  | _ :: _, [], _, _, h, _ => by simp [RelDCs] at h
theorem RelVs.get : ∀ {u : List V} {vs : List Value} {i : Nat} {d : V}, RelVs fn x u vs → u[i]? = some d → ∃ v, vs[i]? = some v ∧ RelV fn x d v
  | [], [], i, d, _, h => by simp at h
  | d0 :: r, v0 :: s, 0, d, h, hd => by simp only [RelVs] at h; simp at hd; subst hd; exact ⟨v0, rfl, h.1⟩
  | d0 :: r, v0 :: s, i + 1, d, h, hd => by simp only [RelVs] at h; simp at hd; simpa using RelVs.get h.2 hd
  | [], _ :: _, _, _, h, _ => by simp [RelVs] at h
  | _ :: _, [], _, _, h, _ => by simp [RelVs] at h
/-- pure cells, as cells that may name own memory -/
theorem RelCs.dc : ∀ {u : U} {vs}, RelCs x.w x.F u vs → RelDCs fn x (u.map .c) vs
  | [], [], _ => by simp [RelDCs]
  | c :: r, v :: s, h => by simp only [List.map_cons, RelDCs]; exact ⟨by simp only [RelDC]; exact h.1, RelCs.dc h.2⟩
  | [], _ :: _, h => h.elim
  | _ :: _, [], h => h.elim

theorem RelAt.drop {w F g} : ∀ (n : Nat) {u : U} {o}, RelAt w F g u o → RelAt w F g (u.drop n) (o + n)
  | 0, u, o, h => by simpa using h
  | n + 1, [], o, _ => by simp [RelAt]
  | n + 1, c :: r, o, h => by
    simp only [RelAt] at h
    have := RelAt.drop n h.2
    simpa [Nat.add_assoc, Nat.add_comm 1 n] using this
theorem RelAt.take {w F g} : ∀ (n : Nat) {u : U} {o}, RelAt w F g u o → RelAt w F g (u.take n) o
  | 0, u, o, h => by simp [RelAt]
  | n + 1, [], o, _ => by simp [RelAt]
  | n + 1, c :: r, o, h => by
    simp only [RelAt] at h
    simp only [List.take_succ_cons, RelAt]
    exact ⟨h.1, RelAt.take n h.2⟩
theorem RelAt.cut {w F g} {off n : Nat} {u : U} {o} (h : RelAt w F g u o) : RelAt w F g (cut u off n) (o + off) := (h.drop off).take n
/-- what a load of all of them brings -/
theorem RelAt.load {w F g} : ∀ {u : U} {o}, RelAt w F g u o → ∃ vs, RelCs w F u vs ∧ ∀ (j : Nat) (v : Value), vs[j]? = some v → w.cell? ⟨g, o + j, none⟩ = some v
  | [], o, _ => ⟨[], trivial, fun j v h => by simp at h⟩
  | c :: r, o, h => by
    simp only [RelAt] at h
    obtain ⟨⟨v, h1, h2⟩, h3⟩ := h
    obtain ⟨vs, h4, h5⟩ := RelAt.load h3
    refine ⟨v :: vs, ⟨h2, h4⟩, fun j u hu => ?_⟩
    cases j with
    | zero => simp at hu; subst hu; simpa using h1
    | succ j => simp at hu; have := h5 j u hu; rwa [show o + 1 + j = o + (j + 1) by omega] at this
theorem RelCs.at {w F} {g : Nat} {cs : Array Value} {t f} (hb : w.heap[g]? = some (.cells cs t f)) : ∀ {u : U} {o}, RelCs w F u (cs.toList.drop o) → RelAt w F g u o
  | [], o, _ => by simp [RelAt]
  | c :: r, o, h => by
    cases hd : cs.toList.drop o with
    | nil => rw [hd] at h; exact h.elim
    | cons v s =>
      rw [hd] at h
      have hlt : o < cs.size := by
        rcases Nat.lt_or_ge o cs.size with h' | h'
        · exact h'
        · rw [List.drop_eq_nil_of_le (by simpa using h')] at hd; cases hd
      have hv : cs[o] = v := by
        have := List.drop_eq_getElem_cons (l := cs.toList) (i := o) (by simpa using hlt)
        rw [hd] at this
        injection this with this
        simpa using this.symm
      have hs : s = cs.toList.drop (o + 1) := by
        have := List.drop_eq_getElem_cons (l := cs.toList) (i := o) (by simpa using hlt)
        rw [hd] at this
        injection this with _ this
      simp only [RelAt]
      exact ⟨⟨v, by simp [World.cell?, hb, hlt, hv], h.1⟩, RelCs.at hb (by rw [← hs]; exact h.2)⟩

theorem RelRows.get {w F g sz} : ∀ {l : List U} {o i : Nat}, RelRows w F g sz l o → i < l.length → (elemAt l i).length = sz ∧ RelAt w F g (elemAt l i) (o + i * sz)
  | [], o, i, _, h => by simp at h
  | u :: r, o, 0, h, _ => by
    simp only [RelRows] at h
    exact ⟨by simpa [elemAt] using h.1, by simpa [elemAt] using h.2.1⟩
  | u :: r, o, i + 1, h, hi => by
    simp only [RelRows] at h
    have := RelRows.get (i := i) h.2.2 (by simpa using hi)
    refine ⟨by simpa [elemAt] using this.1, ?_⟩
    have h2 := this.2
    rw [show o + sz + i * sz = o + (i + 1) * sz by rw [Nat.add_mul]; omega] at h2
    simpa [elemAt] using h2
theorem RelRows.drop {w F g sz} : ∀ (n : Nat) {l : List U} {o : Nat}, RelRows w F g sz l o → RelRows w F g sz (l.drop n) (o + n * sz)
  | 0, l, o, h => by simpa using h
  | n + 1, [], o, _ => by simp [RelRows]
  | n + 1, u :: r, o, h => by
    simp only [RelRows] at h
    have := RelRows.drop n h.2.2
    rw [show o + sz + n * sz = o + (n + 1) * sz by rw [Nat.add_mul]; omega] at this
    simpa using this
theorem RelRows.take {w F g sz} : ∀ (n : Nat) {l : List U} {o : Nat}, RelRows w F g sz l o → RelRows w F g sz (l.take n) o
  | 0, l, o, h => by simp [RelRows]
  | n + 1, [], o, _ => by simp [RelRows]
  | n + 1, u :: r, o, h => by
    simp only [RelRows] at h
    simp only [List.take_succ_cons, RelRows]
    exact ⟨h.1, h.2.1, RelRows.take n h.2.2⟩
theorem RelRows.append {w F g sz} : ∀ {l l' : List U} {o : Nat}, RelRows w F g sz l o → RelRows w F g sz l' (o + l.length * sz) → RelRows w F g sz (l ++ l') o
  | [], l', o, _, h => by simpa using h
  | u :: r, l', o, h, k => by
    simp only [RelRows] at h
    simp only [List.cons_append, RelRows]
    refine ⟨h.1, h.2.1, RelRows.append h.2.2 ?_⟩
    rw [show o + sz + r.length * sz = o + (u :: r).length * sz by simp [Nat.add_mul]; omega]
    exact k
theorem RelRows.sizes {w F g sz} : ∀ {l : List U} {o : Nat}, RelRows w F g sz l o → ∀ u, u ∈ l → u.length = sz
  | [], _, _, u, h => by simp at h
  | v :: r, o, h, u, hu => by
    simp only [RelRows] at h
    rcases List.mem_cons.1 hu with e | e
    · rw [e]; exact h.1
    · exact RelRows.sizes h.2.2 u e

/-! ### loads -/
theorem run_isAgg {t : TypeId} {b : Bool} (h : aggT P t = some b) (w : World) : (isAgg t).run P w = .ok b w := by
  unfold aggT at h
  cases hu : P.underlying t with
  | none => simp [hu] at h
  | some d =>
    simp only [hu, Option.map_some, Option.some.injEq] at h
    subst h
    simp only [isAgg, Sem.run_bind, run_underlying hu, Result.andThen_ok]
    cases d <;> rfl
theorem run_sizeT {t : TypeId} {n : Nat} (h : sizeT P t = some n) (w : World) : (sizeOf t).run P w = .ok n w := by
  unfold sizeT at h
  cases hi : P.info? t with
  | none => simp [hi] at h
  | some i =>
    simp only [hi, Option.map_some, Option.some.injEq] at h
    simp [sizeOf, typeInfo, hi, h]

theorem ofU_rel {agg : Bool} {u : U} {vs : List Value} {v : V} (h : RelCs x.w x.F u vs) (hv : V.ofU agg u = v) (hne : v ≠ .bot) :
    (agg = true ∧ RelV fn x v (.agg vs.toArray)) ∨ (agg = false ∧ ∃ c, vs = [c] ∧ RelV fn x v c) := by
  cases agg with
  | true => left; refine ⟨rfl, ?_⟩; simp only [V.ofU, if_true] at hv; subst hv; simp only [RelV]; exact ⟨vs.toArray, rfl, by simpa using h⟩
  | false =>
    right
    refine ⟨rfl, ?_⟩
    match u, vs, h with
    | [c], [w], h =>
      simp only [V.ofU, Bool.false_eq_true, if_false] at hv
      subst hv
      exact ⟨w, rfl, by simp only [RelV, RelDC]; exact h.1⟩
    | [], [], _ => exact absurd hv.symm (by simpa [V.ofU] using hne)
    | _ :: _ :: _, _, _ => exact absurd hv.symm (by simpa [V.ofU] using hne)

/-- a load of n cells from an address where they lie -/
theorem run_load_at {w : World} {t : TypeId} {n : Nat} {agg : Bool} (hs : sizeT P t = some n) (ha : aggT P t = some agg) {g o : Nat} {vs : List Value} (hl : vs.length = n)
    (hc : ∀ (j : Nat) (v : Value), vs[j]? = some v → w.cell? ⟨g, o + j, none⟩ = some v) (h1 : agg = false → ∃ c, vs = [c]) :
    (loadVar t ⟨g, o, none⟩).run P w = .ok (if agg then .agg vs.toArray else vs.headD undef) w := by
  have hc' : ∀ (j : Nat) (v : Value), vs[j]? = some v → w.cell? ((⟨g, o, none⟩ : Addr).add j) = some v := fun j v h => by rw [add_none]; exact hc j v h
  simp only [loadVar, Sem.run_bind, run_isAgg ha, Result.andThen_ok]
  cases agg with
  | true =>
    simp only [if_true, Sem.run_bind, run_sizeT hs, Result.andThen_ok]
    rw [← hl, run_loadCells_list w _ vs hc']
    simp
  | false =>
    obtain ⟨c, rfl⟩ := h1 rfl
    have := hc 0 c rfl
    simp only [Nat.add_zero] at this
    simp [this]
end
end Go.Lx
