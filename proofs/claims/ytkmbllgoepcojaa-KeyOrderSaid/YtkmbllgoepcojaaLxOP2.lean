import Derived.Test.YtkmbllgoepcojaaLxOP
import Derived.Test.YtkmbllgoepcojaaLxS3
/- Keys, values, descriptors, properties that are handed in. -/
set_option linter.unusedVariables false
set_option linter.unusedSimpArgs false
namespace Go.Lx
theorem open_key {u : U} (h : HasSh u shKey) : ∃ k : Key, u = encKey k ∧ k.wf := by
  match u, h with
  | [.str s, .int k n], h =>
    simp only [HasSh, HasC] at h
    obtain ⟨h1, ⟨rfl, h2, h3⟩, _⟩ := h
    rw [i64_min] at h2
    rw [i64_max] at h3
    exact ⟨⟨s, n⟩, rfl, h1, h2, h3⟩
theorem open_val {u : U} (h : HasSh u shVal) : ∃ k : Val, u = encVal k ∧ k.wf := by
  match u, h with
  | [.int k0 n0, .flt b, .str s, .int k n], h =>
    simp only [HasSh, HasC] at h
    obtain ⟨⟨rfl, h4, h5⟩, h6, h1, ⟨rfl, h2, h3⟩, _⟩ := h
    rw [i64_min] at h2
    rw [i64_max] at h3
    rw [u8_min] at h4
    rw [u8_max] at h5
    exact ⟨⟨n0, b, s, n⟩, rfl, ⟨h4, h5⟩, h6, h1, h2, h3⟩
theorem open_desc {u : U} (h : HasSh u shDesc) : ∃ d : Desc, u = encDesc d ∧ d.wf := by
  cases u with
  | nil => simp [HasSh] at h
  | cons c u =>
    simp only [HasSh] at h
    obtain ⟨hc, h⟩ := h
    rw [List.append_assoc, List.append_assoc] at h
    obtain ⟨u1, r1, rfl, h1, h⟩ := has_append h
    obtain ⟨u2, r2, rfl, h2, h⟩ := has_append h
    obtain ⟨u3, r3, rfl, h3, h⟩ := has_append h
    obtain ⟨v1, rfl, w1⟩ := open_val h1
    obtain ⟨v2, rfl, w2⟩ := open_val h2
    obtain ⟨v3, rfl, w3⟩ := open_val h3
    match c, hc, r3, h with
    | .int k n, hc, [.bool a, .bool b, .bool e], h =>
      simp only [HasC] at hc
      obtain ⟨rfl, h4, h5⟩ := hc
      rw [u8_min] at h4
      rw [u8_max] at h5
      refine ⟨⟨n, v1, v2, v3, a, b, e⟩, ?_, ⟨h4, h5⟩, w1, w2, w3⟩
      simp [encDesc]
theorem open_prop {u : U} (h : HasSh u shProp) : ∃ p : Prp, u = encProp p ∧ p.wf := by
  obtain ⟨a, b, rfl, h1, h2⟩ := has_append h
  obtain ⟨k, rfl, hk⟩ := open_key h1
  obtain ⟨d, rfl, hd⟩ := open_desc h2
  exact ⟨⟨k, d⟩, rfl, hk, hd⟩
theorem wfP_nil : wfP [] := by intro i hi; cases hi
theorem wfP_cons {p : Prp} {l : List Prp} (hp : p.wf) (hl : wfP l) : wfP (p :: l) := by
  intro i hi
  cases i with
  | zero => exact hp
  | succ i => exact hl i (by simpa using hi)
theorem open_props : ∀ {l : List U}, HasRow l shProp → ∃ ps : List Prp, l = ps.map encProp ∧ wfP ps
  | [], _ => ⟨[], rfl, wfP_nil⟩
  | u :: l, h => by
    simp only [HasRow] at h
    obtain ⟨p, rfl, hp⟩ := open_prop h.1
    obtain ⟨ps, rfl, hps⟩ := open_props h.2
    exact ⟨p :: ps, rfl, wfP_cons hp hps⟩
def wfK (l : List Key) : Prop := ∀ k, k ∈ l → k.wf
theorem open_keys : ∀ {l : List U}, HasRow l shKey → ∃ ks : List Key, l = ks.map encKey ∧ wfK ks
  | [], _ => ⟨[], rfl, by intro k hk; cases hk⟩
  | u :: l, h => by
    simp only [HasRow] at h
    obtain ⟨p, rfl, hp⟩ := open_key h.1
    obtain ⟨ps, rfl, hps⟩ := open_keys h.2
    exact ⟨p :: ps, rfl, by intro k hk; rcases List.mem_cons.1 hk with rfl | hk; exact hp; exact hps k hk⟩
theorem hasV_key {v : V} (h : HasV (true, shKey) v) : ∃ k : Key, v = vK k ∧ k.wf := by
  obtain ⟨u, rfl, h⟩ := h
  obtain ⟨k, rfl, hk⟩ := open_key h
  exact ⟨k, rfl, hk⟩
theorem hasV_val {v : V} (h : HasV (true, shVal) v) : ∃ k : Val, v = vV k ∧ k.wf := by
  obtain ⟨u, rfl, h⟩ := h
  obtain ⟨k, rfl, hk⟩ := open_val h
  exact ⟨k, rfl, hk⟩
theorem hasV_desc {v : V} (h : HasV (true, shDesc) v) : ∃ k : Desc, v = vD k ∧ k.wf := by
  obtain ⟨u, rfl, h⟩ := h
  obtain ⟨k, rfl, hk⟩ := open_desc h
  exact ⟨k, rfl, hk⟩
theorem hasV_props {v : V} (h : HasV (false, [.sl shProp]) v) : ∃ l : List Prp, v = vPs l ∧ wfP l := by
  obtain ⟨c, rfl, h⟩ := h
  cases c with
  | sl l =>
    simp only [HasSh, HasC] at h
    obtain ⟨ps, rfl, hps⟩ := open_props h.1.2
    exact ⟨ps, rfl, hps⟩
  | _ => simp [HasSh, HasC] at h
theorem hasV_keys {v : V} (h : HasV (false, [.sl shKey]) v) : ∃ l : List Key, v = vKs l ∧ wfK l := by
  obtain ⟨c, rfl, h⟩ := h
  cases c with
  | sl l =>
    simp only [HasSh, HasC] at h
    obtain ⟨ps, rfl, hps⟩ := open_keys h.1.2
    exact ⟨ps, rfl, hps⟩
  | _ => simp [HasSh, HasC] at h
theorem hasV_int {v : V} {k : IntKind} (h : HasV (false, [.int k]) v) : ∃ n : Int, v = .s (.c (.int k n)) ∧ k.min ≤ n ∧ n ≤ k.max := by
  obtain ⟨c, rfl, h⟩ := h
  cases c with
  | int k' n =>
    simp only [HasSh, HasC] at h
    obtain ⟨⟨rfl, h1, h2⟩, _⟩ := h
    exact ⟨n, rfl, h1, h2⟩
  | _ => simp [HasSh, HasC] at h
theorem has_one {s : Bool × List Sh} {us : List V} (h : HasVs [s] us) : ∃ a, us = [a] ∧ HasV s a := by
  match us, h with
  | [a], h => exact ⟨a, rfl, h.1⟩
theorem has_two {s t : Bool × List Sh} {us : List V} (h : HasVs [s, t] us) : ∃ a b, us = [a, b] ∧ HasV s a ∧ HasV t b := by
  match us, h with
  | [a, b], h => exact ⟨a, b, rfl, h.1, h.2.1⟩
theorem has_three {s t r : Bool × List Sh} {us : List V} (h : HasVs [s, t, r] us) : ∃ a b c, us = [a, b, c] ∧ HasV s a ∧ HasV t b ∧ HasV r c := by
  match us, h with
  | [a, b, c], h => exact ⟨a, b, c, rfl, h.1, h.2.1, h.2.2.1⟩
theorem has_four {s t r q : Bool × List Sh} {us : List V} (h : HasVs [s, t, r, q] us) : ∃ a b c d, us = [a, b, c, d] ∧ HasV s a ∧ HasV t b ∧ HasV r c ∧ HasV q d := by
  match us, h with
  | [a, b, c, d], h => exact ⟨a, b, c, d, rfl, h.1, h.2.1, h.2.2.1, h.2.2.2.1⟩
end Go.Lx
