import Derived.Test.YtkmbllgoepcojaaDoorLx31
import Derived.Test.YtkmbllgoepcojaaDoorLxTy
import Derived.Test.YtkmbllgoepcojaaDoorLxS3
/- What a law is handed, as values of the program's types. -/
set_option linter.unusedVariables false
set_option linter.unusedSimpArgs false
namespace Go.Lx

/-- a type's shape, and whether its values have several cells -/
def shT (P : Program) (n : Nat) (t : TypeId) : Option (Bool × List Sh) := match P.underlying t with
  | some (.struct _) => (shapeT P n t).map fun s => (true, s)
  | some (.array _ _) => none
  | some _ => (shapeT P n t).map fun s => (false, s)
  | none => none
/-- a value of a shape -/
def HasV (s : Bool × List Sh) (v : V) : Prop := if s.1 = true then ∃ u, v = .a u ∧ HasSh u s.2 else ∃ c, v = .s (.c c) ∧ HasSh [c] s.2
def HasVs : List (Bool × List Sh) → List V → Prop
  | [], [] => True
  | s :: ss, v :: vs => HasV s v ∧ HasVs ss vs
  | _, _ => False

theorem shT_shape {P : Program} {n : Nat} {t : TypeId} {s : Bool × List Sh} (h : shT P n t = some s) : shapeT P n t = some s.2 := by
  unfold shT at h
  split at h
  · simp only [Option.map_eq_some_iff] at h; obtain ⟨a, h1, rfl⟩ := h; exact h1
  · cases h
  · simp only [Option.map_eq_some_iff] at h; obtain ⟨a, h1, rfl⟩ := h; exact h1
  · cases h

section
variable {H : Type} {enc : TypeId × Value → H} {P : Program} {W : World} {nm : FuncId → Option Nat}
theorem open_arg {n : Nat} {t : TypeId} {v : Value} {d : DataW H} {ps : List MemPlace} {r : Reach} {base : Nat} {s : Bool × List Sh} (hs : shT P n t = some s) (hv : Value.okWide P W r base t v) (h : DataW.Trod enc P W 0 (fun _ => true) true t v d ps) :
    ∃ u, RelV (Fn_ nm) (Cx.start W) u v ∧ HasV s u := by
  obtain ⟨fuel, h⟩ := h
  obtain ⟨u, h1, h2⟩ := open_sh n (shT_shape hs) h
  unfold shT at hs
  unfold Value.okWide at hv
  split at hs
  · rename_i fs hu
    rw [hu] at hv
    obtain ⟨cs, rfl, _⟩ := hv
    simp only [Option.map_eq_some_iff] at hs
    obtain ⟨a, _, rfl⟩ := hs
    refine ⟨.a u, ?_, ?_⟩
    · simp only [RelV]
      exact ⟨cs, rfl, h1⟩
    · simp only [HasV, if_true]
      exact ⟨u, rfl, h2⟩
  · cases hs
  · rename_i ut hn1 hn2 hu
    simp only [Option.map_eq_some_iff] at hs
    obtain ⟨a, ha, rfl⟩ := hs
    have hone : a.length = 1 := by
      unfold shapeT at ha
      cases n with
      | zero => cases ha
      | succ n =>
        simp only [hu] at ha
        split at ha
        all_goals first | (cases ha; rfl) | skip
        · split at ha
          · split at ha
            · cases ha; rfl
            · cases ha
          · cases ha
        · rename_i e; exact (hn1 _ (by injection e)).elim
        · cases ha
    have hl := HasSh.length h2
    obtain ⟨c, rfl⟩ := List.length_eq_one_iff.1 (hl.trans hone)
    refine ⟨.s (.c c), ?_, ?_⟩
    · have hlen := RelCs.length h1
      simp only [List.length_cons, List.length_nil] at hlen
      simp only [RelV, RelDC]
      have hcs : v.cells.toList = [v] := by
        cases v with
        | agg cs =>
          exfalso
          rw [hu] at hv
          cases ut with
          | struct fs => exact hn1 _ rfl
          | array a b => exact hn2 _ _ rfl
          | _ => simp [Cell.okWide, Cell.ok, hu] at hv
        | _ => rfl
      rw [hcs] at h1
      simp only [RelCs] at h1
      exact h1.1
    · simp only [HasV, Bool.false_eq_true, if_false]
      exact ⟨c, rfl, h2⟩
  · cases hs

/-- all arguments at once -/
theorem open_args {n : Nat} {r : Reach} {base : Nat} : ∀ {ts : List TypeId} {ss : List (Bool × List Sh)} {vs : List Value} {ds : List (DataW H)} {ps : List MemPlace}, ts.mapM (shT P n) = some ss →
    (∀ (j : Nat) t v, ts[j]? = some t → vs[j]? = some v → Value.okWide P W r base t v) → DataW.TrodAll enc P W 0 (fun _ => true) true ts vs ds ps → ∃ us, RelVs (Fn_ nm) (Cx.start W) us vs ∧ HasVs ss us
  | [], ss, [], [], ps, hs, _, _ => by
    rw [mapM_nil hs]
    exact ⟨[], by simp [RelVs], trivial⟩
  | t :: ts, ss, v :: vs, d :: ds, ps, hs, hv, h => by
    obtain ⟨p, q, h1, h2, _⟩ := h
    obtain ⟨s, ss', k1, k2, rfl⟩ := mapM_cons hs
    obtain ⟨u, m1, m2⟩ := open_arg (nm := nm) k1 (hv 0 t v rfl rfl) h1
    obtain ⟨us, m3, m4⟩ := open_args k2 (fun j t v hj hj' => hv (j + 1) t v (by simpa using hj) (by simpa using hj')) h2
    exact ⟨u :: us, by simp only [RelVs]; exact ⟨m1, m3⟩, m2, m4⟩
  | [], _, _ :: _, _, _, _, _, h => by cases h
  | [], _, [], _ :: _, _, _, _, h => by cases h
  | _ :: _, _, [], _, _, _, _, h => by cases h
  | _ :: _, _, _ :: _, [], _, _, _, h => by cases h
theorem plain_of {n : Nat} : ∀ {ts : List TypeId} {ss : List (Bool × List Sh)}, ts.mapM (shT P n) = some ss → plainTypes P n ts
  | [], _, _ => by intro t ht; cases ht
  | t :: ts, ss, hs => by
    obtain ⟨s, ss', k1, k2, rfl⟩ := mapM_cons hs
    intro t' ht
    rcases List.mem_cons.1 ht with rfl | ht
    · rw [shT_shape k1]; rfl
    · exact plain_of k2 t' ht
end

/-! ### the program's types -/
abbrev shKey : List Sh := [.str, .int .i64]
abbrev shVal : List Sh := [.int .u8, .flt, .str, .int .i64]
abbrev shDesc : List Sh := .int .u8 :: (shVal ++ shVal ++ shVal ++ [.bool, .bool, .bool])
abbrev shProp : List Sh := shKey ++ shDesc
theorem i64_min : IntKind.i64.min = -9223372036854775808 := by decide
theorem i64_max : IntKind.i64.max = 9223372036854775807 := by decide
theorem u8_min : IntKind.u8.min = 0 := by decide
theorem u8_max : IntKind.u8.max = 255 := by decide
theorem has_append {u : U} : ∀ {a b : List Sh}, HasSh u (a ++ b) → ∃ x y, u = x ++ y ∧ HasSh x a ∧ HasSh y b := by
  intro a
  induction a generalizing u with
  | nil => intro b h; exact ⟨[], u, rfl, by simp [HasSh], h⟩
  | cons s a ih =>
    intro b h
    cases u with
    | nil => simp [HasSh] at h
    | cons c u =>
      simp only [List.cons_append, HasSh] at h
      obtain ⟨x, y, rfl, h1, h2⟩ := ih h.2
      exact ⟨c :: x, y, rfl, by simp only [HasSh]; exact ⟨h.1, h1⟩, h2⟩
end Go.Lx

/- Keys, values, descriptors, properties that are handed in. -/
set_option linter.unusedVariables false
set_option linter.unusedSimpArgs false
namespace Go.Lx
theorem open_key {u : U} (h : HasSh u shKey) : ∃ k : Key, u = encKey k ∧ k.wf := by
  match u, h with
  | [.str s, .int k n], h =>
    simp only [HasSh, HasC] at h
    obtain ⟨h1, ⟨rfl, h2, h3⟩, _⟩ := h
    rw [i64_min] at h2
    rw [i64_max] at h3
    exact ⟨⟨s, n⟩, rfl, h1, h2, h3⟩
theorem open_val {u : U} (h : HasSh u shVal) : ∃ k : Val, u = encVal k ∧ k.wf := by
  match u, h with
  | [.int k0 n0, .flt b, .str s, .int k n], h =>
    simp only [HasSh, HasC] at h
    obtain ⟨⟨rfl, h4, h5⟩, h6, h1, ⟨rfl, h2, h3⟩, _⟩ := h
    rw [i64_min] at h2
    rw [i64_max] at h3
    rw [u8_min] at h4
    rw [u8_max] at h5
    exact ⟨⟨n0, b, s, n⟩, rfl, ⟨h4, h5⟩, h6, h1, h2, h3⟩
theorem open_desc {u : U} (h : HasSh u shDesc) : ∃ d : Desc, u = encDesc d ∧ d.wf := by
  cases u with
  | nil => simp [HasSh] at h
  | cons c u =>
    simp only [HasSh] at h
    obtain ⟨hc, h⟩ := h
    rw [List.append_assoc, List.append_assoc] at h
    obtain ⟨u1, r1, rfl, h1, h⟩ := has_append h
    obtain ⟨u2, r2, rfl, h2, h⟩ := has_append h
    obtain ⟨u3, r3, rfl, h3, h⟩ := has_append h
    obtain ⟨v1, rfl, w1⟩ := open_val h1
    obtain ⟨v2, rfl, w2⟩ := open_val h2
    obtain ⟨v3, rfl, w3⟩ := open_val h3
    match c, hc, r3, h with
    | .int k n, hc, [.bool a, .bool b, .bool e], h =>
      simp only [HasC] at hc
      obtain ⟨rfl, h4, h5⟩ := hc
      rw [u8_min] at h4
      rw [u8_max] at h5
      refine ⟨⟨n, v1, v2, v3, a, b, e⟩, ?_, ⟨h4, h5⟩, w1, w2, w3⟩
      simp [encDesc]
theorem open_prop {u : U} (h : HasSh u shProp) : ∃ p : Prp, u = encProp p ∧ p.wf := by
  obtain ⟨a, b, rfl, h1, h2⟩ := has_append h
  obtain ⟨k, rfl, hk⟩ := open_key h1
  obtain ⟨d, rfl, hd⟩ := open_desc h2
  exact ⟨⟨k, d⟩, rfl, hk, hd⟩
theorem wfP_nil : wfP [] := by intro i hi; cases hi
theorem wfP_cons {p : Prp} {l : List Prp} (hp : p.wf) (hl : wfP l) : wfP (p :: l) := by
  intro i hi
  cases i with
  | zero => exact hp
  | succ i => exact hl i (by simpa using hi)
theorem open_props : ∀ {l : List U}, HasRow l shProp → ∃ ps : List Prp, l = ps.map encProp ∧ wfP ps
  | [], _ => ⟨[], rfl, wfP_nil⟩
  | u :: l, h => by
    simp only [HasRow] at h
    obtain ⟨p, rfl, hp⟩ := open_prop h.1
    obtain ⟨ps, rfl, hps⟩ := open_props h.2
    exact ⟨p :: ps, rfl, wfP_cons hp hps⟩
def wfK (l : List Key) : Prop := ∀ k, k ∈ l → k.wf
theorem open_keys : ∀ {l : List U}, HasRow l shKey → ∃ ks : List Key, l = ks.map encKey ∧ wfK ks
  | [], _ => ⟨[], rfl, by intro k hk; cases hk⟩
  | u :: l, h => by
    simp only [HasRow] at h
    obtain ⟨p, rfl, hp⟩ := open_key h.1
    obtain ⟨ps, rfl, hps⟩ := open_keys h.2
    exact ⟨p :: ps, rfl, by intro k hk; rcases List.mem_cons.1 hk with rfl | hk; exact hp; exact hps k hk⟩
theorem hasV_key {v : V} (h : HasV (true, shKey) v) : ∃ k : Key, v = vK k ∧ k.wf := by
  obtain ⟨u, rfl, h⟩ := h
  obtain ⟨k, rfl, hk⟩ := open_key h
  exact ⟨k, rfl, hk⟩
theorem hasV_val {v : V} (h : HasV (true, shVal) v) : ∃ k : Val, v = vV k ∧ k.wf := by
  obtain ⟨u, rfl, h⟩ := h
  obtain ⟨k, rfl, hk⟩ := open_val h
  exact ⟨k, rfl, hk⟩
theorem hasV_desc {v : V} (h : HasV (true, shDesc) v) : ∃ k : Desc, v = vD k ∧ k.wf := by
  obtain ⟨u, rfl, h⟩ := h
  obtain ⟨k, rfl, hk⟩ := open_desc h
  exact ⟨k, rfl, hk⟩
theorem hasV_props {v : V} (h : HasV (false, [.sl shProp]) v) : ∃ l : List Prp, v = vPs l ∧ wfP l := by
  obtain ⟨c, rfl, h⟩ := h
  cases c with
  | sl l =>
    simp only [HasSh, HasC] at h
    obtain ⟨ps, rfl, hps⟩ := open_props h.1.2
    exact ⟨ps, rfl, hps⟩
  | _ => simp [HasSh, HasC] at h
theorem hasV_keys {v : V} (h : HasV (false, [.sl shKey]) v) : ∃ l : List Key, v = vKs l ∧ wfK l := by
  obtain ⟨c, rfl, h⟩ := h
  cases c with
  | sl l =>
    simp only [HasSh, HasC] at h
    obtain ⟨ps, rfl, hps⟩ := open_keys h.1.2
    exact ⟨ps, rfl, hps⟩
  | _ => simp [HasSh, HasC] at h
theorem hasV_int {v : V} {k : IntKind} (h : HasV (false, [.int k]) v) : ∃ n : Int, v = .s (.c (.int k n)) ∧ k.min ≤ n ∧ n ≤ k.max := by
  obtain ⟨c, rfl, h⟩ := h
  cases c with
  | int k' n =>
    simp only [HasSh, HasC] at h
    obtain ⟨⟨rfl, h1, h2⟩, _⟩ := h
    exact ⟨n, rfl, h1, h2⟩
  | _ => simp [HasSh, HasC] at h
theorem has_one {s : Bool × List Sh} {us : List V} (h : HasVs [s] us) : ∃ a, us = [a] ∧ HasV s a := by
  match us, h with
  | [a], h => exact ⟨a, rfl, h.1⟩
theorem has_two {s t : Bool × List Sh} {us : List V} (h : HasVs [s, t] us) : ∃ a b, us = [a, b] ∧ HasV s a ∧ HasV t b := by
  match us, h with
  | [a, b], h => exact ⟨a, b, rfl, h.1, h.2.1⟩
theorem has_three {s t r : Bool × List Sh} {us : List V} (h : HasVs [s, t, r] us) : ∃ a b c, us = [a, b, c] ∧ HasV s a ∧ HasV t b ∧ HasV r c := by
  match us, h with
  | [a, b, c], h => exact ⟨a, b, c, rfl, h.1, h.2.1, h.2.2.1⟩
theorem has_four {s t r q : Bool × List Sh} {us : List V} (h : HasVs [s, t, r, q] us) : ∃ a b c d, us = [a, b, c, d] ∧ HasV s a ∧ HasV t b ∧ HasV r c ∧ HasV q d := by
  match us, h with
  | [a, b, c, d], h => exact ⟨a, b, c, d, rfl, h.1, h.2.1, h.2.2.1, h.2.2.2.1⟩
end Go.Lx
