import Derived.Test.YtkmbllgoepcojaaDoorLx27
import Derived.Test.YtkmbllgoepcojaaDoorLxG
import Derived.Tactics
/- Code is sound. -/
set_option linter.unusedVariables false
set_option linter.unusedSimpArgs false
namespace Go.Lx
section
variable {P : Program} {nm : FuncId → Option Nat} {x : Cx}

def outOf (Q : Out → Prop) (s : St) : Exit → Prop
  | .normal => Q (.norm s)
  | .ret => Q (.ret s)
  | .exit i => Q (.exit i s)
  | _ => False

def Post (nm : FuncId → Option Nat) (N n0 : Nat) (x : Cx) (Q : Out → Prop) : Exit → Act → World → Prop :=
  fun e a w => ∃ x' s', x'.w = w ∧ RelS nm N x' s' a ∧ Nx n0 x x' ∧ outOf Q s' e

theorem Post.later {N n0 : Nat} {x y : Cx} {Q : Out → Prop} (h : Nx n0 x y) {e a w} (hp : Post nm N n0 y Q e a w) : Post nm N n0 x Q e a w := by
  obtain ⟨x', s', h1, h2, h3, h4⟩ := hp
  exact ⟨x', s', h1, h2, h.trans h3, h4⟩

theorem lookup_mem {α : Type} : ∀ {l : List (Nat × α)} {n : Nat} {p : α}, l.lookup n = some p → (n, p) ∈ l
  | [], n, p, h => by simp at h
  | (m, q) :: l, n, p, h => by
    rw [List.lookup_cons] at h
    by_cases e : n = m
    · subst e
      simp only [beq_self_eq_true, Option.some.injEq] at h
      subst h
      simp
    · have : (n == m) = false := by simpa using e
      simp only [this] at h
      exact List.mem_cons_of_mem _ (lookup_mem h)

theorem trim {N n0 : Nat} {s s0 : St} {a : Act} (hR : RelS nm N x s a) (hle : s.le s0) (hc : s0.closed = true) (hn : n0 ≤ s0.h.length) :
    ∃ x0 : Cx, x0.w = x.w ∧ RelS nm N x0 s0 a ∧ Nx n0 x x0 := by
  have hp : s0.h <+: x.h := by rw [hR.h]; exact hle.2
  simp only [St.closed, Bool.and_eq_true] at hc
  obtain ⟨g1, g2⟩ := fewer hR.good hp hc.2
  refine ⟨{ x with h := s0.h }, rfl, ⟨rfl, g1, fun n p hl => ?_, hR.size, hR.defers⟩, g2 _ hn⟩
  rcases hR.t n p (hle.1 n p hl) with ⟨h1, h2⟩ | h
  · have hm := lookup_mem hl
    have hu := List.all_eq_true.1 hc.1 _ hm
    exact .inl ⟨h1, RelV.fewer hp hu h2⟩
  · exact .inr h

theorem look {N n0 : Nat} {s s0 : St} {a : Act} (hR : RelS nm N x s a) (h : s.Lw n0 s0) : ∃ x0 : Cx, x0.w = x.w ∧ RelS nm N x0 s0 a ∧ Nx n0 x x0 := by
  rcases h with ⟨h1, h2, h3⟩ | h
  · exact trim hR h1 h2 h3
  · exact gc_sound h hR

theorem least (p : Nat → Prop) (h : ∃ n, p n) : ∃ n, p n ∧ ∀ m, p m → n ≤ m := by
  obtain ⟨n, hn⟩ := h
  induction n using Nat.strongRecOn with
  | _ n ih =>
    by_cases hm : ∃ m, m < n ∧ p m
    · obtain ⟨m, hlt, hp⟩ := hm
      exact ih m hlt hp
    · exact ⟨n, hn, fun m hp => Nat.le_of_not_lt fun hlt => hm ⟨m, hlt, hp⟩⟩

theorem wpC_sound (hm : P.follows .mixedOrders = true) {n0 N : Nat} {pr : Bool} (gc : Go.Code) : ∀ {c : Code}, lowC P nm pr N gc = some c → ∀ {x : Cx} {s : St} {a : Act}, RelS nm N x s a → ∀ {Q : Out → Prop}, wpC (CallsRel P nm) n0 c s Q → gc.wp P (Post nm N n0 x Q) a x.w := by
  induction gc with
  | skip =>
    intro c hc x s a hR Q hw
    simp only [lowC, Option.some.injEq] at hc
    subst hc
    exact wp_skip ⟨x, s, rfl, hR, Nx.refl _ _, hw⟩
  | region id ops draw =>
    intro c hc x s a hR Q hw
    cases draw with
    | true =>
      simp only [lowC] at hc
      split at hc
      · rename_i qs hqs
        split at hc
        · rename_i hok
          injection hc with hc
          subst hc
          exact draw_sound (n0 := n0) hm hqs hok hR hw fun x' s' a' hR' hn hQ => ⟨x', s', rfl, hR', hn, hQ⟩
        · cases hc
      · cases hc
    | false =>
      simp only [lowC, Option.map_eq_some_iff] at hc
      obtain ⟨ql, h1, rfl⟩ := hc
      refine wp_region_list (opersQ_sound (n0 := n0) h1 hR hw fun x' s' a' hR' hn hQ => ⟨x', s', rfl, hR', hn, hQ⟩)
  | seq p q ihp ihq =>
    intro c hc x s a hR Q hw
    simp only [lowC, Option.bind_eq_bind, Option.bind_eq_some_iff, Option.pure_def, Option.some.injEq] at hc
    obtain ⟨cp, h1, cq, h2, rfl⟩ := hc
    refine wp_seq (wp_mono (ihp h1 hR hw) fun e a' w' hp => ?_)
    obtain ⟨x', s', rfl, hR', hn, ho⟩ := hp
    cases e with
    | normal => exact wp_mono (ihq h2 hR' ho) fun e a' w' hp => hp.later hn
    | ret => exact ⟨x', s', rfl, hR', hn, ho⟩
    | exit i => exact ⟨x', s', rfl, hR', hn, ho⟩
    | _ => exact ho.elim
  | cond o p q ihp ihq =>
    intro c hc x s a hR Q hw
    simp only [lowC, Option.bind_eq_bind, Option.bind_eq_some_iff, Option.pure_def, Option.some.injEq] at hc
    obtain ⟨X, h0, cp, h1, cq, h2, rfl⟩ := hc
    obtain ⟨g, k1, k2, k3, k4⟩ := hw
    have hv := xOf_rel hR.t h0 k1
    rw [k2] at hv
    have hv := inv_bool hv
    exact wp_cond_split hv (fun e => ihp h1 hR (k3 e)) (fun e => ihq h2 hR (k4 e))
  | block id p ih =>
    intro c hc x s a hR Q hw
    simp only [lowC, Option.map_eq_some_iff] at hc
    obtain ⟨cp, h1, rfl⟩ := hc
    refine wp_block (wp_mono (ih h1 hR hw) fun e a' w' hp => ?_)
    obtain ⟨x', s', rfl, hR', hn, ho⟩ := hp
    cases e with
    | normal => exact ⟨x', s', rfl, hR', hn, ho⟩
    | ret => exact ⟨x', s', rfl, hR', hn, ho⟩
    | exit i =>
      simp only [outOf] at ho
      simp only [Exit.inBlock]
      by_cases hi : i = id
      · rw [if_pos hi] at ho ⊢
        exact ⟨x', s', rfl, hR', hn, ho⟩
      · rw [if_neg hi] at ho ⊢
        exact ⟨x', s', rfl, hR', hn, ho⟩
    | _ => exact ho.elim
  | loop p ih =>
    intro c hc x s a hR Q hw
    simp only [lowC, Option.map_eq_some_iff] at hc
    obtain ⟨cp, h1, rfl⟩ := hc
    obtain ⟨I, ⟨m, s0, hlw, hI⟩, hstep⟩ := hw
    obtain ⟨x0, hw0, hR0, hnx0⟩ := look (n0 := n0) hR hlw
    classical
    let J : Nat → Act → World → Prop := fun k a w => ∃ y t, y.w = w ∧ RelS nm N y t a ∧ Nx n0 x y ∧ I k t
    let μ : Act → World → Nat := fun a w => if h : ∃ k, J k a w then (least _ h).choose else 0
    refine wp_loop (fun a w => ∃ k, J k a w) μ ⟨m, x0, s0, hw0, hR0, hnx0, hI⟩ fun a' w' hJ => ?_
    have hμ : J (μ a' w') a' w' := by
      show J (if h : ∃ k, J k a' w' then (least _ h).choose else 0) a' w'
      rw [dif_pos hJ]
      exact (least _ hJ).choose_spec.1
    obtain ⟨y, t, rfl, hRy, hny, hIy⟩ := hμ
    refine wp_mono (ih h1 hRy (hstep _ _ hIy)) fun e a'' w'' hp => ?_
    obtain ⟨x', s', rfl, hR', hn, ho⟩ := hp
    cases e with
    | normal =>
      obtain ⟨k, t0, hlt, hlw', hI'⟩ := ho
      obtain ⟨x1, hw1, hR1, hnx1⟩ := look (n0 := n0) hR' hlw'
      have hJ' : J k a'' x'.w := ⟨x1, t0, hw1, hR1, (hny.trans hn).trans hnx1, hI'⟩
      refine ⟨⟨k, hJ'⟩, ?_⟩
      show (if h : ∃ k, J k a'' x'.w then (least _ h).choose else 0) < μ a' y.w
      rw [dif_pos ⟨k, hJ'⟩]
      exact Nat.lt_of_le_of_lt ((least _ ⟨k, hJ'⟩).choose_spec.2 k hJ') hlt
    | ret => exact ⟨x', s', rfl, hR', hny.trans hn, ho⟩
    | exit i => exact ⟨x', s', rfl, hR', hny.trans hn, ho⟩
    | _ => exact ho.elim
  | exit i =>
    intro c hc x s a hR Q hw
    simp only [lowC, Option.some.injEq] at hc
    subst hc
    exact wp_exit ⟨x, s, rfl, hR, Nx.refl _ _, hw⟩
  | ret =>
    intro c hc x s a hR Q hw
    simp only [lowC, Option.some.injEq] at hc
    subst hc
    exact wp_ret ⟨x, s, rfl, hR, Nx.refl _ _, hw⟩
  | _ => intro c hc; simp [lowC] at hc
end
end Go.Lx
