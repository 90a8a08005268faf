import Derived.Test.YtkmbllgoepcojaaLx31
import Derived.Test.YtkmbllgoepcojaaLxTy
/- What a law is handed, as values of the program's types. -/
set_option linter.unusedVariables false
set_option linter.unusedSimpArgs false
namespace Go.Lx

/-- a type's shape, and whether its values have several cells -/
def shT (P : Program) (n : Nat) (t : TypeId) : Option (Bool × List Sh) := match P.underlying t with
  | some (.struct _) => (shapeT P n t).map fun s => (true, s)
  | some (.array _ _) => none
  | some _ => (shapeT P n t).map fun s => (false, s)
  | none => none
/-- a value of a shape -/
def HasV (s : Bool × List Sh) (v : V) : Prop := if s.1 = true then ∃ u, v = .a u ∧ HasSh u s.2 else ∃ c, v = .s (.c c) ∧ HasSh [c] s.2
def HasVs : List (Bool × List Sh) → List V → Prop
  | [], [] => True
  | s :: ss, v :: vs => HasV s v ∧ HasVs ss vs
  | _, _ => False

theorem shT_shape {P : Program} {n : Nat} {t : TypeId} {s : Bool × List Sh} (h : shT P n t = some s) : shapeT P n t = some s.2 := by
  unfold shT at h
  split at h
  · simp only [Option.map_eq_some_iff] at h; obtain ⟨a, h1, rfl⟩ := h; exact h1
  · cases h
  · simp only [Option.map_eq_some_iff] at h; obtain ⟨a, h1, rfl⟩ := h; exact h1
  · cases h

section
variable {H : Type} {enc : TypeId × Value → H} {P : Program} {W : World} {nm : FuncId → Option Nat}
theorem open_arg {n : Nat} {t : TypeId} {v : Value} {d : DataW H} {ps : List MemPlace} {r : Reach} {base : Nat} {s : Bool × List Sh} (hs : shT P n t = some s) (hv : Value.okWide P W r base t v) (h : DataW.Trod enc P W 0 (fun _ => true) true t v d ps) :
    ∃ u, RelV (Fn_ nm) (Cx.start W) u v ∧ HasV s u := by
  obtain ⟨fuel, h⟩ := h
  obtain ⟨u, h1, h2⟩ := open_sh n (shT_shape hs) h
  unfold shT at hs
  unfold Value.okWide at hv
  split at hs
  · rename_i fs hu
    rw [hu] at hv
    obtain ⟨cs, rfl, _⟩ := hv
    simp only [Option.map_eq_some_iff] at hs
    obtain ⟨a, _, rfl⟩ := hs
    refine ⟨.a u, ?_, ?_⟩
    · simp only [RelV]
      exact ⟨cs, rfl, h1⟩
    · simp only [HasV, if_true]
      exact ⟨u, rfl, h2⟩
  · cases hs
  · rename_i ut hn1 hn2 hu
    simp only [Option.map_eq_some_iff] at hs
    obtain ⟨a, ha, rfl⟩ := hs
    have hone : a.length = 1 := by
      unfold shapeT at ha
      cases n with
      | zero => cases ha
      | succ n =>
        simp only [hu] at ha
        split at ha
        all_goals first | (cases ha; rfl) | skip
        · split at ha
          · split at ha
            · cases ha; rfl
            · cases ha
          · cases ha
        · rename_i e; exact (hn1 _ (by injection e)).elim
        · cases ha
    have hl := HasSh.length h2
    obtain ⟨c, rfl⟩ := List.length_eq_one_iff.1 (hl.trans hone)
    refine ⟨.s (.c c), ?_, ?_⟩
    · have hlen := RelCs.length h1
      simp only [List.length_cons, List.length_nil] at hlen
      simp only [RelV, RelDC]
      have hcs : v.cells.toList = [v] := by
        cases v with
        | agg cs =>
          exfalso
          rw [hu] at hv
          cases ut with
          | struct fs => exact hn1 _ rfl
          | array a b => exact hn2 _ _ rfl
          | _ => simp [Cell.okWide, Cell.ok, hu] at hv
        | _ => rfl
      rw [hcs] at h1
      simp only [RelCs] at h1
      exact h1.1
    · simp only [HasV, Bool.false_eq_true, if_false]
      exact ⟨c, rfl, h2⟩
  · cases hs

/-- all arguments at once -/
theorem open_args {n : Nat} {r : Reach} {base : Nat} : ∀ {ts : List TypeId} {ss : List (Bool × List Sh)} {vs : List Value} {ds : List (DataW H)} {ps : List MemPlace}, ts.mapM (shT P n) = some ss →
    (∀ (j : Nat) t v, ts[j]? = some t → vs[j]? = some v → Value.okWide P W r base t v) → DataW.TrodAll enc P W 0 (fun _ => true) true ts vs ds ps → ∃ us, RelVs (Fn_ nm) (Cx.start W) us vs ∧ HasVs ss us
  | [], ss, [], [], ps, hs, _, _ => by
    rw [mapM_nil hs]
    exact ⟨[], by simp [RelVs], trivial⟩
  | t :: ts, ss, v :: vs, d :: ds, ps, hs, hv, h => by
    obtain ⟨p, q, h1, h2, _⟩ := h
    obtain ⟨s, ss', k1, k2, rfl⟩ := mapM_cons hs
    obtain ⟨u, m1, m2⟩ := open_arg (nm := nm) k1 (hv 0 t v rfl rfl) h1
    obtain ⟨us, m3, m4⟩ := open_args k2 (fun j t v hj hj' => hv (j + 1) t v (by simpa using hj) (by simpa using hj')) h2
    exact ⟨u :: us, by simp only [RelVs]; exact ⟨m1, m3⟩, m2, m4⟩
  | [], _, _ :: _, _, _, _, _, h => by cases h
  | [], _, [], _ :: _, _, _, _, h => by cases h
  | _ :: _, _, [], _, _, _, _, h => by cases h
  | _ :: _, _, _ :: _, [], _, _, _, h => by cases h
theorem plain_of {n : Nat} : ∀ {ts : List TypeId} {ss : List (Bool × List Sh)}, ts.mapM (shT P n) = some ss → plainTypes P n ts
  | [], _, _ => by intro t ht; cases ht
  | t :: ts, ss, hs => by
    obtain ⟨s, ss', k1, k2, rfl⟩ := mapM_cons hs
    intro t' ht
    rcases List.mem_cons.1 ht with rfl | ht
    · rw [shT_shape k1]; rfl
    · exact plain_of k2 t' ht
end

/-! ### the program's types -/
abbrev shKey : List Sh := [.str, .int .i64]
abbrev shVal : List Sh := [.int .u8, .flt, .str, .int .i64]
abbrev shDesc : List Sh := .int .u8 :: (shVal ++ shVal ++ shVal ++ [.bool, .bool, .bool])
abbrev shProp : List Sh := shKey ++ shDesc
theorem i64_min : IntKind.i64.min = -9223372036854775808 := by decide
theorem i64_max : IntKind.i64.max = 9223372036854775807 := by decide
theorem u8_min : IntKind.u8.min = 0 := by decide
theorem u8_max : IntKind.u8.max = 255 := by decide
theorem has_append {u : U} : ∀ {a b : List Sh}, HasSh u (a ++ b) → ∃ x y, u = x ++ y ∧ HasSh x a ∧ HasSh y b := by
  intro a
  induction a generalizing u with
  | nil => intro b h; exact ⟨[], u, rfl, by simp [HasSh], h⟩
  | cons s a ih =>
    intro b h
    cases u with
    | nil => simp [HasSh] at h
    | cons c u =>
      simp only [List.cons_append, HasSh] at h
      obtain ⟨x, y, rfl, h1, h2⟩ := ih h.2
      exact ⟨c :: x, y, rfl, by simp only [HasSh]; exact ⟨h.1, h1⟩, h2⟩
end Go.Lx
