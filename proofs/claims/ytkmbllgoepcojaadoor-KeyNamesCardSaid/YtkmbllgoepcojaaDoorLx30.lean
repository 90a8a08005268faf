import Derived.Test.YtkmbllgoepcojaaDoorLx29
import Derived.Deep.Slices
/- What a claim hands in, as values of the language. -/
set_option linter.unusedVariables false
set_option linter.unusedSimpArgs false
namespace Go.Lx

/-- the shape of a cell of data -/
inductive Sh where
  | int (k : IntKind)
  | bool
  | flt
  | str
  | sl (e : List Sh)

mutual
def HasC : C → Sh → Prop
  | .int k n, .int k' => k = k' ∧ k.min ≤ n ∧ n ≤ k.max
  | .bool _, .bool => True
  | .flt b, .flt => b < 2 ^ 64
  | .str s, .str => s.size ≤ maxLen
  | .sl l, .sl e => l.length ≤ maxLen ∧ HasRow l e
  | _, _ => False
def HasRow : List (List C) → List Sh → Prop
  | [], _ => True
  | u :: l, e => HasSh u e ∧ HasRow l e
def HasSh : List C → List Sh → Prop
  | [], [] => True
  | c :: u, s :: e => HasC c s ∧ HasSh u e
  | _, _ => False
end

def shapeFs (P : Program) (f : TypeId → Option (List Sh)) : List Field → Nat → Option (List Sh)
  | [], _ => some []
  | fl :: r, off => if fl.offset ≠ off then none else
    match f fl.type with
    | none => none
    | some a => if P.cellsOf fl.type ≠ a.length then none else
      match shapeFs P f r (off + a.length) with
      | none => none
      | some b => some (a ++ b)
def shapeT (P : Program) : Nat → TypeId → Option (List Sh)
  | 0, _ => none
  | n + 1, t => match P.underlying t with
    | some (.int k) => some [.int k]
    | some .bool => some [.bool]
    | some .string => some [.str]
    | some (.float .f64) => some [.flt]
    | some (.slice e) => match shapeT P n e with
      | some s => if P.cellsOf e = s.length ∧ s ≠ [] then some [.sl s] else none
      | none => none
    | some (.struct fs) => match shapeFs P (shapeT P n) fs.toList 0 with
      | some s => if P.cellsOf t = s.length then some s else none
      | none => none
    | _ => none

/-- all that lies there, only read -/
def Cx.start (w : World) : Cx := { w := w, F := fun b => b < w.heap.size, at_ := fun _ => none, h := [] }
theorem Good.start (fn : Nums) (w : World) (ht : ∀ c b, fn (tabCode + c) (b + tabOff) → b < w.heap.size ∧ TabAt w c b) : Good fn (Cx.start w) where
  base := ht
  root id r h := by simp [Cx.start] at h
  one id id' r r' b h := by simp [Cx.start] at h
  apart b := by rintro ⟨id, r, h, _⟩; simp [Cx.start] at h
  lt b h := h
  ltOwn b := by rintro ⟨id, r, h, _⟩; simp [Cx.start] at h
theorem start_own {w : World} {b : Nat} : ¬ (Cx.start w).own b := by rintro ⟨id, r, h, _⟩; simp [Cx.start] at h

theorem HasSh.length : ∀ {u : List C} {e : List Sh}, HasSh u e → u.length = e.length
  | [], [], _ => rfl
  | c :: u, s :: e, h => by simp only [HasSh] at h; simp [HasSh.length h.2]
  | [], _ :: _, h => by simp [HasSh] at h
  | _ :: _, [], h => by simp [HasSh] at h
theorem HasSh.append : ∀ {u u' : List C} {e e' : List Sh}, HasSh u e → HasSh u' e' → HasSh (u ++ u') (e ++ e')
  | [], _, [], _, _, h => h
  | c :: u, _, s :: e, _, h, h' => by simp only [HasSh, List.cons_append] at h ⊢; exact ⟨h.1, h.2.append h'⟩
  | [], _, _ :: _, _, h, _ => by simp [HasSh] at h
  | _ :: _, _, [], _, h, _ => by simp [HasSh] at h

section
variable {H : Type} {enc : TypeId × Value → H} {P : Program} {w : World} {spare : Nat → Bool} {held : Bool}

theorem cells_get {a : Addr} {n : Nat} {cs : List Value} (h : w.cells? 0 a n = some cs) : cs.length = n ∧ ∀ i, i < n → w.cell? (a.add i) = cs[i]? := by
  unfold World.cells? at h
  rw [if_pos (Nat.zero_le _)] at h
  have : ∀ {l : List Nat} {cs : List Value}, l.mapM (fun i => w.cell? (a.add i)) = some cs → cs.length = l.length ∧ ∀ (i j : Nat), l[i]? = some j → w.cell? (a.add j) = cs[i]? := by
    intro l
    induction l with
    | nil => intro cs h; rw [mapM_nil h]; exact ⟨rfl, fun i j h => by simp at h⟩
    | cons y l ih =>
      intro cs h
      obtain ⟨b, r, h1, h2, rfl⟩ := mapM_cons h
      obtain ⟨k1, k2⟩ := ih h2
      refine ⟨by simp [k1], fun i j hj => ?_⟩
      cases i with
      | zero => simp only [List.getElem?_cons_zero, Option.some.injEq] at hj ⊢; subst hj; exact h1
      | succ i => simpa using k2 i j (by simpa using hj)
  obtain ⟨k1, k2⟩ := this h
  refine ⟨by simpa using k1, fun i hi => k2 i i (by simp [hi])⟩

theorem cell_none {a : Addr} {v : Value} (h : w.cell? a = some v) : a.spot = none ∧ a.block < w.heap.size := by
  unfold World.cell? at h
  split at h
  · rename_i hb
    split at h
    · cases h
    · rename_i hs
      exact ⟨by simpa using hs, (Array.getElem?_eq_some_iff.1 hb).1⟩
  · cases h

theorem relAt_of {F : Nat → Prop} {g : Nat} : ∀ {u : U} {vs : List Value} {o : Nat}, RelCs w F u vs → (∀ j v, vs[j]? = some v → w.cell? ⟨g, o + j, none⟩ = some v) → RelAt w F g u o
  | [], [], o, _, _ => by simp [RelAt]
  | c :: u, v :: vs, o, h, hc => by
    simp only [RelAt]
    exact ⟨⟨v, by simpa using hc 0 v rfl, h.1⟩, relAt_of h.2 fun j v hj => by have := hc (j + 1) v (by simpa using hj); rwa [show o + (j + 1) = o + 1 + j by omega] at this⟩
  | [], _ :: _, o, h, _ => h.elim
  | _ :: _, [], o, h, _ => h.elim

theorem open_sh : ∀ (n : Nat) {t : TypeId} {sh : List Sh}, shapeT P n t = some sh → ∀ {fuel : Nat} {cs : List Value} {x : DataW H × List MemPlace}, DataW.trod enc P w 0 spare held fuel t cs = some x → ∃ u, RelCs w (fun b => b < w.heap.size) u cs ∧ HasSh u sh := by
  intro n
  induction n with
  | zero => intro t sh h; simp [shapeT] at h
  | succ n ih =>
    intro t sh h fuel cs x hx
    have hf : ∃ f, fuel = f + 1 := by
      cases fuel with
      | zero => simp [DataW.trod] at hx
      | succ f => exact ⟨f, rfl⟩
    obtain ⟨f, rfl⟩ := hf
    simp only [shapeT] at h
    split at h
    · rename_i k hu
      injection h with h
      subst h
      rcases cs with _ | ⟨v, _ | ⟨v', r⟩⟩
      · simp [DataW.trod, hu] at hx
      · cases v <;> simp only [DataW.trod, hu, reduceCtorEq] at hx
        rename_i k' n'
        split at hx
        · rename_i hc
          obtain ⟨rfl, hwf⟩ := hc
          simp only [Lit.wf, Bool.and_eq_true, decide_eq_true_eq] at hwf
          exact ⟨[.int k' n'], ⟨by simp only [RelC], trivial⟩, by simp only [HasSh, HasC]; exact ⟨⟨trivial, hwf⟩, trivial⟩⟩
        · cases hx
      · simp [DataW.trod, hu] at hx
    · rename_i hu
      injection h with h
      subst h
      rcases cs with _ | ⟨v, _ | ⟨v', r⟩⟩
      · simp [DataW.trod, hu] at hx
      · cases v <;> simp only [DataW.trod, hu, reduceCtorEq] at hx
        rename_i b
        exact ⟨[.bool b], ⟨by simp only [RelC], trivial⟩, by simp only [HasSh, HasC]; exact ⟨trivial, trivial⟩⟩
      · simp [DataW.trod, hu] at hx
    · rename_i hu
      injection h with h
      subst h
      rcases cs with _ | ⟨v, _ | ⟨v', r⟩⟩
      · simp [DataW.trod, hu] at hx
      · cases v <;> simp only [DataW.trod, hu, reduceCtorEq] at hx
        rename_i b
        split at hx
        · rename_i hc
          exact ⟨[.str b], ⟨by simp only [RelC], trivial⟩, by simp only [HasSh, HasC]; exact ⟨hc, trivial⟩⟩
        · cases hx
      · simp [DataW.trod, hu] at hx
    · rename_i hu
      injection h with h
      subst h
      rcases cs with _ | ⟨v, _ | ⟨v', r⟩⟩
      · simp [DataW.trod, hu] at hx
      · cases v <;> simp only [DataW.trod, hu, reduceCtorEq] at hx
        rename_i k b
        split at hx
        · rename_i hc
          obtain ⟨rfl, hwf⟩ := hc
          simp only [Lit.wf, decide_eq_true_eq] at hwf
          exact ⟨[.flt b], ⟨by simp only [RelC], trivial⟩, by simp only [HasSh, HasC]; exact ⟨hwf, trivial⟩⟩
        · cases hx
      · simp [DataW.trod, hu] at hx
    · rename_i e hu
      split at h
      · rename_i s hs
        split at h
        · rename_i hc
          injection h with h
          subst h
          rcases Go.Deep.open_slice hu hx with ⟨rfl, -⟩ | ⟨a, len, cap, m, k, D, Pl, rfl, _, hl, hcap, hm, _, hel⟩
          · exact ⟨[.sl []], ⟨by simp only [RelC]; exact ⟨none, 0, rfl, Nat.le_refl _, .inl trivial⟩, trivial⟩, by simp only [HasSh, HasC, HasRow]; exact ⟨⟨Nat.zero_le _, trivial⟩, trivial⟩⟩
          · have hml : len ≤ m := by rw [hm]; split <;> omega
            have hpos : 0 < s.length := by
              have := hc.2
              cases s with
              | nil => exact absurd rfl this
              | cons _ _ => simp
            have hsp : len ≠ 0 → a.spot = none ∧ a.block < w.heap.size := by
              intro hl0
              obtain ⟨cs', k1, k2⟩ := hel 0 (by omega)
              rw [hc.1] at k1
              obtain ⟨k5, k6⟩ := cells_get k1
              have h0 := k6 0 hpos
              rw [List.getElem?_eq_getElem (by omega)] at h0
              have := cell_none h0
              simpa [Addr.add] using this
            have hadd : len ≠ 0 → ∀ k i, (a.add k).add i = ⟨a.block, a.off + k + i, none⟩ := by
              intro hl0 k i
              obtain ⟨b, o, sp⟩ := a
              have := (hsp hl0).1
              simp only at this
              subst this
              rw [add_none, add_none]
            -- the elements
            have rows : ∀ j, j ≤ len → ∃ l : List U, l.length = j ∧ HasRow l s ∧ RelRows w (fun b => b < w.heap.size) a.block s.length l (a.off + (len - j) * s.length) := by
              intro j
              induction j with
              | zero => exact fun _ => ⟨[], rfl, by simp [HasRow], by simp [RelRows]⟩
              | succ j ihj =>
                intro hj
                obtain ⟨l, l1, l2, l4⟩ := ihj (by omega)
                obtain ⟨cs', k1, k2⟩ := hel (len - (j + 1)) (by omega)
                obtain ⟨u, k3, k4⟩ := ih hs k2
                rw [hc.1] at k1
                obtain ⟨k5, k6⟩ := cells_get k1
                have hu := HasSh.length k4
                refine ⟨u :: l, by simp [l1], by simp only [HasRow]; exact ⟨k4, l2⟩, ?_⟩
                simp only [RelRows]
                refine ⟨hu, relAt_of k3 fun i v hi => ?_, ?_⟩
                · have hlt := (List.getElem?_eq_some_iff.1 hi).1
                  have := k6 i (by omega)
                  rw [hi, hadd (by omega)] at this
                  exact this
                · rw [show a.off + (len - (j + 1)) * s.length + s.length = a.off + (len - j) * s.length by
                    rw [show len - j = len - (j + 1) + 1 by omega, Nat.add_mul]; omega]
                  exact l4
            obtain ⟨l, l1, l2, l4⟩ := rows len (Nat.le_refl _)
            refine ⟨[.sl l], ⟨?_, trivial⟩, by simp only [HasSh, HasC]; exact ⟨⟨by omega, l2⟩, trivial⟩⟩
            simp only [RelC]
            refine ⟨some a, cap, by rw [l1], by omega, ?_⟩
            by_cases hl0 : len = 0
            · exact .inl (List.eq_nil_of_length_eq_zero (by omega))
            · have l3 := hsp hl0
              refine .inr ⟨a.block, a.off, s.length, by obtain ⟨b, o, sp⟩ := a; simp only at l3; rw [l3.1], l3.2, ?_⟩
              simpa using l4
        · cases h
      · cases h
    · rename_i fs hu
      split at h
      · rename_i s hs
        split at h
        · rename_i hc
          injection h with h
          subst h
          simp only [DataW.trod, hu] at hx
          split at hx
          · rename_i hlen
            rw [Option.map_eq_some_iff] at hx
            obtain ⟨xs, hx, -⟩ := hx
            have key : ∀ {fl : List Field} {off : Nat} {s : List Sh} {xs : List (DataW H × List MemPlace)}, shapeFs P (shapeT P n) fl off = some s → fl.mapM (fun f' => DataW.trod enc P w 0 spare held f f'.type ((cs.drop f'.offset).take (P.cellsOf f'.type))) = some xs → off + s.length ≤ cs.length →
                ∃ u, RelCs w (fun b => b < w.heap.size) u ((cs.drop off).take s.length) ∧ HasSh u s := by
              intro fl
              induction fl with
              | nil =>
                intro off s xs h1 h2 h3
                simp only [shapeFs, Option.some.injEq] at h1
                subst h1
                exact ⟨[], by simp [RelCs], by simp [HasSh]⟩
              | cons g fl ihf =>
                intro off s xs h1 h2 h3
                obtain ⟨y, ys, k1, k2, rfl⟩ := mapM_cons h2
                simp only [shapeFs] at h1
                split at h1
                · cases h1
                · rename_i ho
                  have ho : g.offset = off := Classical.byContradiction ho
                  split at h1
                  · cases h1
                  · rename_i sa hsa
                    split at h1
                    · cases h1
                    · rename_i hca
                      have hca : P.cellsOf g.type = sa.length := Classical.byContradiction hca
                      split at h1
                      · cases h1
                      · rename_i sb hsb
                        injection h1 with h1
                        subst h1
                        rw [ho, hca] at k1
                        obtain ⟨u1, m1, m2⟩ := ih hsa k1
                        simp only [List.length_append] at h3
                        obtain ⟨u2, m3, m4⟩ := ihf hsb k2 (by omega)
                        refine ⟨u1 ++ u2, ?_, m2.append m4⟩
                        have : (cs.drop off).take (sa ++ sb).length = (cs.drop off).take sa.length ++ (cs.drop (off + sa.length)).take sb.length := by
                          rw [List.length_append, List.take_add, List.drop_drop]
                        rw [this]
                        exact m1.append m3
            obtain ⟨u, k1, k2⟩ := key hs hx (by omega)
            refine ⟨u, ?_, k2⟩
            rw [List.drop_zero, List.take_of_length_le (by omega)] at k1
            exact k1
          · cases hx
        · cases h
      · cases h
    · cases h
end
end Go.Lx
