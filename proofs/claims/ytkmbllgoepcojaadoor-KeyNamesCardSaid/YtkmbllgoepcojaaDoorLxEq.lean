import Derived.Test.YtkmbllgoepcojaaDoorLx34
import Derived.Test.YtkmbllgoepcojaaDoorLxTy
import Derived.Attr
/- A strict evaluator of the language, and its equations: what 'simp only [go_sem]' steps by. -/
set_option linter.unusedVariables false
set_option linter.unusedSimpArgs false
namespace Go.Lx

/-! ### the strict evaluator -/
/-- a call that leaves the heap as it is; in a region without an order: over data alone -/
def effG (O : Orc) (h0 : Option (List Root)) (s : St) (v : V) (op : Op) : Prop := match h0 with
  | none => eff O (X.val s) s.h (fun d h' => d = v ∧ h' = s.h) op
  | some h => effA O (X.val s) h v op
/-- a call under a guard that may make blocks -/
def gdE (O : Orc) (o : Oper) (s : St) (K : St → Prop) : Prop :=
  (o.gb s = true → o.op.xs.all (X.there s) = true ∧ eff O (X.val s) s.h (fun d h' => K ((⟨s.t, h'⟩ : St).put o.dst true d)) o.op) ∧ (o.gb s = false → ∃ v, K (s.put o.dst false v))
def xOp (O : Orc) (h0 : Option (List Root)) (o : Oper) (s : St) (K : St → Prop) : Prop :=
  if o.op.isPure then
    o.gok s ∧ (o.gb s = true → o.op.xs.all (X.there s) = true ∧ pvc (X.there s) (X.val s) (h0.getD s.h) o.op) ∧
      (match pv (X.val s) (h0.getD s.h) o.op with
       | some v => K (s.put o.dst (o.gb s) v)
       | none => o.gb s = false ∧ K (s.put o.dst (o.gb s) .bot))
  else if o.op.isCall && (h0.isSome || o.g.isSome) then
    o.gok s ∧ ((∃ v, (o.gb s = true → o.op.xs.all (X.there s) = true ∧ effG O h0 s v o.op) ∧ K (s.put o.dst (o.gb s) v)) ∨ (h0 = none ∧ gdE O o s K))
  else match h0 with
    | some h0 => wpOpA O h0 o s K
    | none => o.g = none ∧ o.op.xs.all (X.there s) = true ∧ eff O (X.val s) s.h (fun d h' => K ((⟨s.t, h'⟩ : St).put o.dst true d)) o.op

def xOps (O : Orc) (h0 : Option (List Root)) : List Oper → St → (St → Prop) → Prop
  | [], s, K => K s
  | o :: l, s, K => xOp O h0 o s fun s' => xOps O h0 l s' K

def xC (O : Orc) (n0 : Nat) : Code → St → (Out → Prop) → Prop
  | .skip, s, Q => Q (.norm s)
  | .region ops draw, s, Q => match draw with
    | none => xOps O none ops s fun s' => Q (.norm s')
    | some (m, late) => xOps O (some s.h) (ops.take m) s fun s' => xOps O none (ops.drop m) s' fun s'' => lateOk s'' (ops.take m) (ops.drop m) late = true ∧ Q (.norm s'')
  | .seq a b, s, Q => xC O n0 a s fun
    | .norm s' => xC O n0 b s' Q
    | o => Q o
  | .cond c t e, s, Q => ∃ g, X.there s c = true ∧ X.val s c = .s (.c (.bool g)) ∧ (g = true → xC O n0 t s Q) ∧ (g = false → xC O n0 e s Q)
  | .block id b, s, Q => xC O n0 b s fun
    | .exit i s' => if i = id then Q (.norm s') else Q (.exit i s')
    | o => Q o
  | .loop b, s, Q => ∃ I : Nat → St → Prop, (∃ n s0, s.Lw n0 s0 ∧ I n s0) ∧ ∀ n s, I n s → xC O n0 b s fun
    | .norm s' => ∃ m s0, m < n ∧ s'.Lw n0 s0 ∧ I m s0
    | o => Q o
  | .exit i, s, Q => Q (.exit i s)
  | .ret, s, Q => Q (.ret s)

theorem callA_callR' {O : Orc} (hm : O.Mono) {f args h v} (H : callA O f args h v) : callR O f args h fun d h' => d = v ∧ h' = h := by
  obtain ⟨us, h1, h2⟩ := H
  refine .inr (.inl ⟨us, h1, hm _ _ _ _ _ ?_ h2⟩)
  rintro d h' ⟨k1, k2, rfl⟩
  exact ⟨by rcases k1 with k | k; exact .inl k; exact .inr ⟨k, rfl⟩, k2, by simp⟩
theorem effA_eff' {O : Orc} (hm : O.Mono) {ρ h v op} (H : effA O ρ h v op) : eff O ρ h (fun d h' => d = v ∧ h' = h) op := by
  cases op <;> simp only [effA] at H <;> try exact H.elim
  case call f args => exact callA_callR' hm H
  case callv x args =>
    simp only [eff]
    split at H
    · rename_i hx
      rw [hx]
      exact callA_callR' hm H
    · exact H.elim

theorem xOp_wp {O : Orc} (hm : O.Mono) {o : Oper} {s : St} {K : St → Prop} (H : xOp O none o s K) : wpOp O o s K := by
  unfold xOp at H
  unfold wpOp
  split at H
  · rename_i hp
    rw [if_pos hp]
    obtain ⟨h1, h2, h3⟩ := H
    refine ⟨h1, ?_⟩
    simp only [Option.getD_none] at h2 h3
    split at h3
    · rename_i v hv
      exact ⟨v, fun hb => ⟨hv, h2 hb⟩, h3⟩
    · exact ⟨.bot, fun hb => (by rw [h3.1] at hb; cases hb), h3.2⟩
  · rename_i hp
    rw [if_neg hp]
    split at H
    · obtain ⟨h1, ⟨v, h2, h3⟩ | ⟨_, h2, h3⟩⟩ := H
      case inr => exact ⟨h1, h2, h3⟩
      refine ⟨h1, fun hb => ⟨(h2 hb).1, ?_⟩, fun hb => ⟨v, by rw [hb] at h3; exact h3⟩⟩
      have h4 : eff O (X.val s) s.h (fun d h' => d = v ∧ h' = s.h) o.op := by
        cases h : o.op.isCall
        · rename_i hc
          simp [h] at hc
        · exact (h2 hb).2
      refine eff_mono (fun _ _ _ _ h => h) hm ?_ h4
      rintro d h' ⟨rfl, rfl⟩
      rw [hb] at h3
      exact h3
    · obtain ⟨h1, h2, h3⟩ := H
      have hgb : o.gb s = true := by unfold Oper.gb; rw [h1]
      exact ⟨by unfold Oper.gok; rw [h1]; trivial, fun _ => ⟨h2, h3⟩, fun hb => by rw [hgb] at hb; cases hb⟩
theorem xOp_wpA {O : Orc} {h0 : List Root} {o : Oper} {s : St} {K : St → Prop} (H : xOp O (some h0) o s K) : wpOpA O h0 o s K := by
  unfold xOp at H
  split at H
  · rename_i hp
    unfold wpOpA
    rw [if_pos hp]
    obtain ⟨h1, h2, h3⟩ := H
    refine ⟨h1, ?_⟩
    simp only [Option.getD_some] at h2 h3
    split at h3
    · rename_i v hv
      exact ⟨v, fun hb => ⟨hv, h2 hb⟩, h3⟩
    · exact ⟨.bot, fun hb => (by rw [h3.1] at hb; cases hb), h3.2⟩
  · rename_i hp
    split at H
    · rename_i hc
      simp only [Option.isSome_some, Bool.true_or, Bool.and_true] at hc
      unfold wpOpA
      rw [if_neg hp, if_pos hc]
      obtain ⟨h1, h2 | ⟨h2, _⟩⟩ := H
      · exact ⟨h1, h2⟩
      · cases h2
    · exact H

theorem xOps_wp {O : Orc} (hm : O.Mono) : ∀ {l : List Oper} {s : St} {K : St → Prop}, xOps O none l s K → wpOps O l s K
  | [], s, K, H => H
  | o :: l, s, K, H => wpOp_mono (fun _ _ _ _ h => h) hm (fun s' h => xOps_wp hm h) (xOp_wp hm H)
theorem xOps_wpA {O : Orc} (hm : O.Mono) {h0 : List Root} : ∀ {l : List Oper} {s : St} {K : St → Prop}, xOps O (some h0) l s K → wpOpsA O h0 l s K
  | [], s, K, H => H
  | o :: l, s, K, H => wpOpA_mono (fun _ _ _ _ h => h) hm (fun s' h => xOps_wpA hm h) (xOp_wpA H)

theorem xC_wp {O : Orc} (hm : O.Mono) {n0 : Nat} (c : Code) : ∀ {s : St} {Q : Out → Prop}, xC O n0 c s Q → wpC O n0 c s Q := by
  induction c with
  | skip => exact fun H => H
  | exit => exact fun H => H
  | ret => exact fun H => H
  | region ops draw =>
    intro s Q H
    cases draw with
    | none => exact xOps_wp hm H
    | some m =>
      obtain ⟨m, late⟩ := m
      exact wpOpsA_mono (fun _ _ _ _ h => h) hm (fun _ h => xOps_wp hm h) (xOps_wpA hm H)
  | seq a b iha ihb =>
    intro s Q H
    refine wpC_mono (fun _ _ _ _ h => h) hm a (fun o h => ?_) (iha H)
    cases o with
    | norm s' => exact ihb h
    | ret s' => exact h
    | exit i s' => exact h
  | cond c t e iht ihe =>
    intro s Q H
    obtain ⟨g, h0, h1, h2, h3⟩ := H
    exact ⟨g, h0, h1, fun hg => iht (h2 hg), fun hg => ihe (h3 hg)⟩
  | block id b ih =>
    intro s Q H
    exact ih H
  | loop b ih =>
    intro s Q H
    obtain ⟨I, h1, h2⟩ := H
    exact ⟨I, h1, fun n s hI => ih (h2 n s hI)⟩

/-! ### what follows -/
inductive Item where
  | c (c : Code)
  | blk (id : Nat)
  | late (a b : List Oper) (l : List Nat)

def contK (O : Orc) (n0 : Nat) : List Item → (Out → Prop) → Out → Prop
  | [], Q, o => Q o
  | .c c :: k, Q, .norm s => xC O n0 c s (contK O n0 k Q)
  | .c _ :: k, Q, .ret s => contK O n0 k Q (.ret s)
  | .c _ :: k, Q, .exit i s => contK O n0 k Q (.exit i s)
  | .blk id :: k, Q, .norm s => contK O n0 k Q (.norm s)
  | .late a b l :: k, Q, .norm s => lateOk s a b l = true ∧ contK O n0 k Q (.norm s)
  | .late a b l :: k, Q, .ret s => contK O n0 k Q (.ret s)
  | .late a b l :: k, Q, .exit i s => contK O n0 k Q (.exit i s)
  | .blk id :: k, Q, .ret s => contK O n0 k Q (.ret s)
  | .blk id :: k, Q, .exit i s => if i = id then contK O n0 k Q (.norm s) else contK O n0 k Q (.exit i s)

def xK (O : Orc) (n0 : Nat) (k : List Item) (s : St) (Q : Out → Prop) : Prop := contK O n0 k Q (.norm s)
def exK (O : Orc) (n0 : Nat) (i : Nat) (k : List Item) (s : St) (Q : Out → Prop) : Prop := contK O n0 k Q (.exit i s)
def reK (O : Orc) (n0 : Nat) (k : List Item) (s : St) (Q : Out → Prop) : Prop := contK O n0 k Q (.ret s)
/-- how operations are carried out: in the text's order; or reading the heap at the region's begin, then the others in their order -/
abbrev Mode := Option (List Root × List Oper)
def xR (O : Orc) (n0 : Nat) (M : Mode) (l : List Oper) (k : List Item) (s : St) (Q : Out → Prop) : Prop :=
  match M with
  | none => xOps O none l s fun s' => xK O n0 k s' Q
  | some (h0, l2) => xOps O (some h0) l s fun s' => xOps O none l2 s' fun s'' => xK O n0 k s'' Q
def rdh (M : Mode) (s : St) : List Root := match M with
  | none => s.h
  | some (h0, _) => h0

section
variable {O : Orc} {n0 : Nat} {M : Mode} {k : List Item} {s : St} {Q : Out → Prop}

@[congr] theorem xK_congr {s'} (h : s = s') : xK O n0 k s Q = xK O n0 k s' Q := by rw [h]
@[congr] theorem xR_congr {l s'} (h : s = s') : xR O n0 M l k s Q = xR O n0 M l k s' Q := by rw [h]
theorem xK_nil : xK O n0 [] s Q = Q (.norm s) := (rfl)
theorem xK_skip : xK O n0 (.c .skip :: k) s Q = xK O n0 k s Q := (rfl)
theorem xK_seq {a b : Code} : xK O n0 (.c (.seq a b) :: k) s Q = xK O n0 (.c a :: .c b :: k) s Q := by
  show xC O n0 a s _ = xC O n0 a s _
  congr 1
  funext o
  cases o <;> rfl
theorem xK_block {id b} : xK O n0 (.c (.block id b) :: k) s Q = xK O n0 (.c b :: .blk id :: k) s Q := by
  show xC O n0 b s _ = xC O n0 b s _
  congr 1
  funext o
  cases o <;> rfl
theorem xK_blk {id} : xK O n0 (.blk id :: k) s Q = xK O n0 k s Q := (rfl)
theorem xK_region {ops} : xK O n0 (.c (.region ops none) :: k) s Q = xR O n0 none ops k s Q := (rfl)
theorem xK_draw {ops m late} : xK O n0 (.c (.region ops (some (m, late))) :: k) s Q = xR O n0 (some (s.h, ops.drop m)) (ops.take m) (.late (ops.take m) (ops.drop m) late :: k) s Q := (rfl)
theorem xK_late {a b l} : xK O n0 (.late a b l :: k) s Q = (lateOk s a b l = true ∧ xK O n0 k s Q) := (rfl)
theorem xK_late0 {a b} : xK O n0 (.late a b [] :: k) s Q = xK O n0 k s Q := by rw [xK_late]; simp [lateOk]
theorem rdh_none : rdh none s = s.h := rfl
theorem rdh_some {h0 l2} : rdh (some (h0, l2)) s = h0 := rfl
theorem xK_exit {i} : xK O n0 (.c (.exit i) :: k) s Q = exK O n0 i k s Q := by
  show xC O n0 (.exit i) s _ = _
  rfl
theorem xK_ret : xK O n0 (.c .ret :: k) s Q = reK O n0 k s Q := (rfl)
theorem exK_nil {i} : exK O n0 i [] s Q = Q (.exit i s) := (rfl)
theorem exK_c {i c} : exK O n0 i (.c c :: k) s Q = exK O n0 i k s Q := (rfl)
theorem exK_same {i} : exK O n0 i (.blk i :: k) s Q = xK O n0 k s Q := by simp [exK, xK, contK]
theorem exK_blk {i id} (h : (i == id) = false) : exK O n0 i (.blk id :: k) s Q = exK O n0 i k s Q := by
  have : ¬ i = id := by simpa using h
  simp [exK, contK, this]
theorem reK_nil : reK O n0 [] s Q = Q (.ret s) := (rfl)
theorem reK_c {c} : reK O n0 (.c c :: k) s Q = reK O n0 k s Q := (rfl)
theorem reK_blk {id} : reK O n0 (.blk id :: k) s Q = reK O n0 k s Q := (rfl)
theorem reK_late {a b l} : reK O n0 (.late a b l :: k) s Q = reK O n0 k s Q := (rfl)
theorem xR_nil : xR O n0 none [] k s Q = xK O n0 k s Q := (rfl)
theorem xR_nilA {h0 l} : xR O n0 (some (h0, l)) [] k s Q = xR O n0 none l k s Q := (rfl)

/-- a test: its value first, then both ways -/
def brK (O : Orc) (n0 : Nat) (v : Bool × V) (t e : List Item) (s : St) (Q : Out → Prop) : Prop :=
  match v with
  | (true, .s (.c (.bool g))) => (g = true → xK O n0 t s Q) ∧ (g = false → xK O n0 e s Q)
  | _ => False
theorem xK_cond {c t e} : xK O n0 (.c (.cond c t e) :: k) s Q = brK O n0 (X.there s c, X.val s c) (.c t :: k) (.c e :: k) s Q := by
  apply propext
  show xC O n0 (.cond c t e) s _ ↔ _
  simp only [xC, brK]
  constructor
  · rintro ⟨g, h0, h1, h2, h3⟩
    rw [h0, h1]
    exact ⟨h2, h3⟩
  · intro h
    split at h
    · rename_i g heq
      simp only [Prod.mk.injEq] at heq
      exact ⟨g, heq.1, heq.2, h.1, h.2⟩
    · exact h.elim
@[congr] theorem brK_congr {v v' : Bool × V} {t e : List Item} (h : v = v') : brK O n0 v t e s Q = brK O n0 v' t e s Q := by rw [h]
theorem brK_bool {g : Bool} {t e} : brK O n0 (true, .s (.c (.bool g))) t e s Q = ((g = true → xK O n0 t s Q) ∧ (g = false → xK O n0 e s Q)) := (rfl)
theorem brK_true {t e} : brK O n0 (true, .s (.c (.bool true))) t e s Q = xK O n0 t s Q := by simp [brK]
theorem brK_false {t e} : brK O n0 (true, .s (.c (.bool false))) t e s Q = xK O n0 e s Q := by simp [brK]

/-- a test of a bool -/
def brB (O : Orc) (n0 : Nat) (g : Bool) (t e : List Item) (s : St) (Q : Out → Prop) : Prop := (g = true → xK O n0 t s Q) ∧ (g = false → xK O n0 e s Q)
@[congr] theorem brB_congr {g g' : Bool} {t e : List Item} (h : g = g') : brB O n0 g t e s Q = brB O n0 g' t e s Q := by rw [h]
theorem brK_brB {g : Bool} {t e} : brK O n0 (true, .s (.c (.bool g))) t e s Q = brB O n0 g t e s Q := (rfl)
theorem brB_true {t e} : brB O n0 true t e s Q = xK O n0 t s Q := by simp [brB]
theorem brB_false {t e} : brB O n0 false t e s Q = xK O n0 e s Q := by simp [brB]
theorem brB_not {g : Bool} {t e} : brB O n0 (!g) t e s Q = brB O n0 g e t s Q := by simp [brB, and_comm]
theorem brB_split {g : Bool} {t e} (h1 : g = true → xK O n0 t s Q) (h2 : g = false → xK O n0 e s Q) : brB O n0 g t e s Q := ⟨h1, h2⟩
theorem brB_dec {p : Prop} [Decidable p] {t e} (h1 : p → xK O n0 t s Q) (h2 : ¬p → xK O n0 e s Q) : brB O n0 (decide p) t e s Q := ⟨fun h => h1 (by simpa using h), fun h => h2 (by simpa using h)⟩

/-- a pure operation: its value first -/
def puR (O : Orc) (n0 : Nat) (M : Mode) (v : Option V) (dst : Option Nat) (gb : Bool) (l : List Oper) (k : List Item) (s : St) (Q : Out → Prop) : Prop :=
  match v with
  | some v => xR O n0 M l k (s.put dst gb v) Q
  | none => gb = false ∧ xR O n0 M l k (s.put dst gb .bot) Q
@[congr] theorem puR_congr {v v' : Option V} {gb gb' : Bool} {dst l} (h : v = v') (hg : gb = gb') : puR O n0 M v dst gb l k s Q = puR O n0 M v' dst gb' l k s Q := by rw [h, hg]
theorem puR_some {v dst gb l} : puR O n0 M (some v) dst gb l k s Q = xR O n0 M l k (s.put dst gb v) Q := (rfl)
theorem puR_none {dst gb l} : puR O n0 M none dst gb l k s Q = (gb = false ∧ xR O n0 M l k (s.put dst gb .bot) Q) := (rfl)
theorem xR_pure {o : Oper} {l} (hp : o.op.isPure = true) :
    xR O n0 M (o :: l) k s Q = (o.gok s ∧ (o.gb s = true → (o.op.xs.all (X.there s) = true ∧ pvc (X.there s) (X.val s) (rdh M s) o.op)) ∧ puR O n0 M (pv (X.val s) (rdh M s) o.op) o.dst (o.gb s) l k s Q) := by
  cases M with
  | none =>
    rw [show xR O n0 none (o :: l) k s Q = xOp O none o s (fun s' => xOps O none l s' fun s' => xK O n0 k s' Q) from rfl]
    simp only [xOp, hp, if_true, rdh, Option.getD_none]
    cases pv (X.val s) s.h o.op <;> rfl
  | some p =>
    obtain ⟨hh, l2⟩ := p
    rw [show xR O n0 (some (hh, l2)) (o :: l) k s Q = xOp O (some hh) o s (fun s' => xOps O (some hh) l s' fun s' => xOps O none l2 s' fun s'' => xK O n0 k s'' Q) from rfl]
    simp only [xOp, hp, if_true, rdh, Option.getD_some]
    cases pv (X.val s) hh o.op <;> rfl

theorem ev_mv {x : X} {dst l} : xR O n0 M (⟨dst, .mv x, none⟩ :: l) k s Q = ((X.there s x = true) ∧ puR O n0 M (some (X.val s x)) dst true l k s Q) := by
  rw [xR_pure rfl]; simp [Oper.gok, Oper.gb, Op.xs, pvc, pv, and_assoc]
theorem evg_mv {x : X} {dst l m w} : xR O n0 M (⟨dst, .mv x, some (m, w)⟩ :: l) k s Q = (isBool (s.get m).2 ∧ (gval w (s.get m) = true → (X.there s x = true)) ∧ puR O n0 M (some (X.val s x)) dst (gval w (s.get m)) l k s Q) := by
  rw [xR_pure rfl]; simp [Oper.gok, Oper.gb, Op.xs, pvc, pv, and_assoc]
theorem ev_pick {c a b : X} {dst l} : xR O n0 M (⟨dst, .pick c a b, none⟩ :: l) k s Q = ((X.there s c = true ∧ vcPick (X.there s a) (X.there s b) (X.val s c)) ∧ puR O n0 M (pvPick (X.val s c) (X.val s a) (X.val s b)) dst true l k s Q) := by
  rw [xR_pure rfl]; simp [Oper.gok, Oper.gb, Op.xs, pvc, pv, and_assoc]
theorem evg_pick {c a b : X} {dst l m w} : xR O n0 M (⟨dst, .pick c a b, some (m, w)⟩ :: l) k s Q = (isBool (s.get m).2 ∧ (gval w (s.get m) = true → (X.there s c = true ∧ vcPick (X.there s a) (X.there s b) (X.val s c))) ∧ puR O n0 M (pvPick (X.val s c) (X.val s a) (X.val s b)) dst (gval w (s.get m)) l k s Q) := by
  rw [xR_pure rfl]; simp [Oper.gok, Oper.gb, Op.xs, pvc, pv, and_assoc]
theorem ev_build {z ps} {dst l} : xR O n0 M (⟨dst, .build z ps, none⟩ :: l) k s Q = (((ps.map fun p => p.2.2).all (X.there s) = true) ∧ puR O n0 M ((fillU z (ps.map fun p => (p.1, p.2.1, X.val s p.2.2))).map .a) dst true l k s Q) := by
  rw [xR_pure rfl]; simp [Oper.gok, Oper.gb, Op.xs, pvc, pv, and_assoc]
theorem evg_build {z ps} {dst l m w} : xR O n0 M (⟨dst, .build z ps, some (m, w)⟩ :: l) k s Q = (isBool (s.get m).2 ∧ (gval w (s.get m) = true → ((ps.map fun p => p.2.2).all (X.there s) = true)) ∧ puR O n0 M ((fillU z (ps.map fun p => (p.1, p.2.1, X.val s p.2.2))).map .a) dst (gval w (s.get m)) l k s Q) := by
  rw [xR_pure rfl]; simp [Oper.gok, Oper.gb, Op.xs, pvc, pv, and_assoc]
theorem ev_buildx {z ps} {dst l} : xR O n0 M (⟨dst, .buildx z ps, none⟩ :: l) k s Q = (((ps.map fun p => p.2.2).all (X.there s) = true) ∧ puR O n0 M ((fillD z (ps.map fun p => (p.1, p.2.1, X.val s p.2.2))).map .m) dst true l k s Q) := by
  rw [xR_pure rfl]; simp [Oper.gok, Oper.gb, Op.xs, pvc, pv, and_assoc]
theorem evg_buildx {z ps} {dst l m w} : xR O n0 M (⟨dst, .buildx z ps, some (m, w)⟩ :: l) k s Q = (isBool (s.get m).2 ∧ (gval w (s.get m) = true → ((ps.map fun p => p.2.2).all (X.there s) = true)) ∧ puR O n0 M ((fillD z (ps.map fun p => (p.1, p.2.1, X.val s p.2.2))).map .m) dst (gval w (s.get m)) l k s Q) := by
  rw [xR_pure rfl]; simp [Oper.gok, Oper.gb, Op.xs, pvc, pv, and_assoc]
theorem ev_load {n agg} {x : X} {dst l} : xR O n0 M (⟨dst, .load n agg x, none⟩ :: l) k s Q = ((X.there s x = true ∧ vcLoad (rdh M s) (X.val s x)) ∧ puR O n0 M (pvLoad (rdh M s) n agg (X.val s x)) dst true l k s Q) := by
  rw [xR_pure rfl]; simp [Oper.gok, Oper.gb, Op.xs, pvc, pv, and_assoc]
theorem evg_load {n agg} {x : X} {dst l m w} : xR O n0 M (⟨dst, .load n agg x, some (m, w)⟩ :: l) k s Q = (isBool (s.get m).2 ∧ (gval w (s.get m) = true → (X.there s x = true ∧ vcLoad (rdh M s) (X.val s x))) ∧ puR O n0 M (pvLoad (rdh M s) n agg (X.val s x)) dst (gval w (s.get m)) l k s Q) := by
  rw [xR_pure rfl]; simp [Oper.gok, Oper.gb, Op.xs, pvc, pv, and_assoc]
theorem ev_fld {off} {x : X} {dst l} : xR O n0 M (⟨dst, .fld off x, none⟩ :: l) k s Q = ((X.there s x = true) ∧ puR O n0 M (pvFld off (X.val s x)) dst true l k s Q) := by
  rw [xR_pure rfl]; simp [Oper.gok, Oper.gb, Op.xs, pvc, pv, and_assoc]
theorem evg_fld {off} {x : X} {dst l m w} : xR O n0 M (⟨dst, .fld off x, some (m, w)⟩ :: l) k s Q = (isBool (s.get m).2 ∧ (gval w (s.get m) = true → (X.there s x = true)) ∧ puR O n0 M (pvFld off (X.val s x)) dst (gval w (s.get m)) l k s Q) := by
  rw [xR_pure rfl]; simp [Oper.gok, Oper.gb, Op.xs, pvc, pv, and_assoc]
theorem ev_fldv {off n agg} {x : X} {dst l} : xR O n0 M (⟨dst, .fldv off n agg x, none⟩ :: l) k s Q = ((X.there s x = true) ∧ puR O n0 M (pvFldv off n agg (X.val s x)) dst true l k s Q) := by
  rw [xR_pure rfl]; simp [Oper.gok, Oper.gb, Op.xs, pvc, pv, and_assoc]
theorem evg_fldv {off n agg} {x : X} {dst l m w} : xR O n0 M (⟨dst, .fldv off n agg x, some (m, w)⟩ :: l) k s Q = (isBool (s.get m).2 ∧ (gval w (s.get m) = true → (X.there s x = true)) ∧ puR O n0 M (pvFldv off n agg (X.val s x)) dst (gval w (s.get m)) l k s Q) := by
  rw [xR_pure rfl]; simp [Oper.gok, Oper.gb, Op.xs, pvc, pv, and_assoc]
theorem ev_idxA {sz} {x i : X} {dst l} : xR O n0 M (⟨dst, .idxA sz x i, none⟩ :: l) k s Q = ((X.there s x = true ∧ X.there s i = true ∧ vcIdxA sz (X.val s i) (X.val s x)) ∧ puR O n0 M (pvIdxA (X.val s x) (idxOf (X.val s i))) dst true l k s Q) := by
  rw [xR_pure rfl]; simp [Oper.gok, Oper.gb, Op.xs, pvc, pv, and_assoc]
theorem evg_idxA {sz} {x i : X} {dst l m w} : xR O n0 M (⟨dst, .idxA sz x i, some (m, w)⟩ :: l) k s Q = (isBool (s.get m).2 ∧ (gval w (s.get m) = true → (X.there s x = true ∧ X.there s i = true ∧ vcIdxA sz (X.val s i) (X.val s x))) ∧ puR O n0 M (pvIdxA (X.val s x) (idxOf (X.val s i))) dst (gval w (s.get m)) l k s Q) := by
  rw [xR_pure rfl]; simp [Oper.gok, Oper.gb, Op.xs, pvc, pv, and_assoc]
theorem ev_idxS {x i : X} {dst l} : xR O n0 M (⟨dst, .idxS x i, none⟩ :: l) k s Q = ((X.there s x = true ∧ X.there s i = true ∧ vcIdxS (X.val s i) (X.val s x)) ∧ puR O n0 M (pvIdxS (X.val s x) (idxOf (X.val s i))) dst true l k s Q) := by
  rw [xR_pure rfl]; simp [Oper.gok, Oper.gb, Op.xs, pvc, pv, and_assoc]
theorem evg_idxS {x i : X} {dst l m w} : xR O n0 M (⟨dst, .idxS x i, some (m, w)⟩ :: l) k s Q = (isBool (s.get m).2 ∧ (gval w (s.get m) = true → (X.there s x = true ∧ X.there s i = true ∧ vcIdxS (X.val s i) (X.val s x))) ∧ puR O n0 M (pvIdxS (X.val s x) (idxOf (X.val s i))) dst (gval w (s.get m)) l k s Q) := by
  rw [xR_pure rfl]; simp [Oper.gok, Oper.gb, Op.xs, pvc, pv, and_assoc]
theorem ev_sliceS {x : X} {lo hi : Option X} {dst l} : xR O n0 M (⟨dst, .sliceS x lo hi, none⟩ :: l) k s Q = (((x :: (lo.toList ++ hi.toList)).all (X.there s) = true ∧ vcSliceS (lo.map (X.val s)) (hi.map (X.val s)) (X.val s x)) ∧ puR O n0 M (pvSliceS (lo.map (X.val s)) (hi.map (X.val s)) (X.val s x)) dst true l k s Q) := by
  rw [xR_pure rfl]; simp [Oper.gok, Oper.gb, Op.xs, pvc, pv, and_assoc]
theorem evg_sliceS {x : X} {lo hi : Option X} {dst l m w} : xR O n0 M (⟨dst, .sliceS x lo hi, some (m, w)⟩ :: l) k s Q = (isBool (s.get m).2 ∧ (gval w (s.get m) = true → ((x :: (lo.toList ++ hi.toList)).all (X.there s) = true ∧ vcSliceS (lo.map (X.val s)) (hi.map (X.val s)) (X.val s x))) ∧ puR O n0 M (pvSliceS (lo.map (X.val s)) (hi.map (X.val s)) (X.val s x)) dst (gval w (s.get m)) l k s Q) := by
  rw [xR_pure rfl]; simp [Oper.gok, Oper.gb, Op.xs, pvc, pv, and_assoc]
theorem ev_slice {sz} {x : X} {lo hi mx : Option X} {dst l} : xR O n0 M (⟨dst, .slice sz x lo hi mx, none⟩ :: l) k s Q = (((x :: (lo.toList ++ hi.toList ++ mx.toList)).all (X.there s) = true ∧ vcSlice sz (lo.map (X.val s)) (hi.map (X.val s)) (mx.map (X.val s)) (X.val s x)) ∧ puR O n0 M (pvSlice (lo.map (X.val s)) (hi.map (X.val s)) (mx.map (X.val s)) (X.val s x)) dst true l k s Q) := by
  rw [xR_pure rfl]; simp [Oper.gok, Oper.gb, Op.xs, pvc, pv, and_assoc]
theorem evg_slice {sz} {x : X} {lo hi mx : Option X} {dst l m w} : xR O n0 M (⟨dst, .slice sz x lo hi mx, some (m, w)⟩ :: l) k s Q = (isBool (s.get m).2 ∧ (gval w (s.get m) = true → ((x :: (lo.toList ++ hi.toList ++ mx.toList)).all (X.there s) = true ∧ vcSlice sz (lo.map (X.val s)) (hi.map (X.val s)) (mx.map (X.val s)) (X.val s x))) ∧ puR O n0 M (pvSlice (lo.map (X.val s)) (hi.map (X.val s)) (mx.map (X.val s)) (X.val s x)) dst (gval w (s.get m)) l k s Q) := by
  rw [xR_pure rfl]; simp [Oper.gok, Oper.gb, Op.xs, pvc, pv, and_assoc]
theorem ev_bin {op} {x y : X} {dst l} : xR O n0 M (⟨dst, .bin (.plain op) x y, none⟩ :: l) k s Q = ((X.there s x = true ∧ X.there s y = true ∧ vcBin op (X.val s x) (X.val s y)) ∧ puR O n0 M (pvBin op (X.val s x) (X.val s y)) dst true l k s Q) := by
  rw [xR_pure rfl]; simp [Oper.gok, Oper.gb, Op.xs, pvc, pv, and_assoc]
theorem evg_bin {op} {x y : X} {dst l m w} : xR O n0 M (⟨dst, .bin (.plain op) x y, some (m, w)⟩ :: l) k s Q = (isBool (s.get m).2 ∧ (gval w (s.get m) = true → (X.there s x = true ∧ X.there s y = true ∧ vcBin op (X.val s x) (X.val s y))) ∧ puR O n0 M (pvBin op (X.val s x) (X.val s y)) dst (gval w (s.get m)) l k s Q) := by
  rw [xR_pure rfl]; simp [Oper.gok, Oper.gb, Op.xs, pvc, pv, and_assoc]
theorem ev_eqb {pos} {x y : X} {dst l} : xR O n0 M (⟨dst, .bin (.eqb pos) x y, none⟩ :: l) k s Q = ((X.there s x = true ∧ X.there s y = true) ∧ puR O n0 M (pvEqb pos (X.val s x) (X.val s y)) dst true l k s Q) := by
  rw [xR_pure rfl]; simp [Oper.gok, Oper.gb, Op.xs, pvc, pv, and_assoc]
theorem evg_eqb {pos} {x y : X} {dst l m w} : xR O n0 M (⟨dst, .bin (.eqb pos) x y, some (m, w)⟩ :: l) k s Q = (isBool (s.get m).2 ∧ (gval w (s.get m) = true → (X.there s x = true ∧ X.there s y = true)) ∧ puR O n0 M (pvEqb pos (X.val s x) (X.val s y)) dst (gval w (s.get m)) l k s Q) := by
  rw [xR_pure rfl]; simp [Oper.gok, Oper.gb, Op.xs, pvc, pv, and_assoc]
theorem ev_eqs {ks} {x y : X} {dst l} : xR O n0 M (⟨dst, .bin (.eqs ks) x y, none⟩ :: l) k s Q = ((X.there s x = true ∧ X.there s y = true ∧ hasKs ks (X.val s x) ∧ hasKs ks (X.val s y)) ∧ puR O n0 M (pvEqs true (X.val s x) (X.val s y)) dst true l k s Q) := by
  rw [xR_pure rfl]; simp [Oper.gok, Oper.gb, Op.xs, pvc, pv, and_assoc]
theorem evg_eqs {ks} {x y : X} {dst l m w} : xR O n0 M (⟨dst, .bin (.eqs ks) x y, some (m, w)⟩ :: l) k s Q = (isBool (s.get m).2 ∧ (gval w (s.get m) = true → (X.there s x = true ∧ X.there s y = true ∧ hasKs ks (X.val s x) ∧ hasKs ks (X.val s y))) ∧ puR O n0 M (pvEqs true (X.val s x) (X.val s y)) dst (gval w (s.get m)) l k s Q) := by
  rw [xR_pure rfl]; simp [Oper.gok, Oper.gb, Op.xs, pvc, pv, and_assoc]
theorem ev_neqs {ks} {x y : X} {dst l} : xR O n0 M (⟨dst, .bin (.neqs ks) x y, none⟩ :: l) k s Q = ((X.there s x = true ∧ X.there s y = true ∧ hasKs ks (X.val s x) ∧ hasKs ks (X.val s y)) ∧ puR O n0 M (pvEqs false (X.val s x) (X.val s y)) dst true l k s Q) := by
  rw [xR_pure rfl]; simp [Oper.gok, Oper.gb, Op.xs, pvc, pv, and_assoc]
theorem evg_neqs {ks} {x y : X} {dst l m w} : xR O n0 M (⟨dst, .bin (.neqs ks) x y, some (m, w)⟩ :: l) k s Q = (isBool (s.get m).2 ∧ (gval w (s.get m) = true → (X.there s x = true ∧ X.there s y = true ∧ hasKs ks (X.val s x) ∧ hasKs ks (X.val s y))) ∧ puR O n0 M (pvEqs false (X.val s x) (X.val s y)) dst (gval w (s.get m)) l k s Q) := by
  rw [xR_pure rfl]; simp [Oper.gok, Oper.gb, Op.xs, pvc, pv, and_assoc]
theorem ev_eqn {nk pos} {x y : X} {dst l} : xR O n0 M (⟨dst, .bin (.eqn nk pos) x y, none⟩ :: l) k s Q = ((X.there s x = true ∧ X.there s y = true) ∧ puR O n0 M (pvEqn nk pos (X.val s x) (X.val s y)) dst true l k s Q) := by
  rw [xR_pure rfl]; simp [Oper.gok, Oper.gb, Op.xs, pvc, pv, and_assoc]
theorem evg_eqn {nk pos} {x y : X} {dst l m w} : xR O n0 M (⟨dst, .bin (.eqn nk pos) x y, some (m, w)⟩ :: l) k s Q = (isBool (s.get m).2 ∧ (gval w (s.get m) = true → (X.there s x = true ∧ X.there s y = true)) ∧ puR O n0 M (pvEqn nk pos (X.val s x) (X.val s y)) dst (gval w (s.get m)) l k s Q) := by
  rw [xR_pure rfl]; simp [Oper.gok, Oper.gb, Op.xs, pvc, pv, and_assoc]
theorem ev_un {op} {x : X} {dst l} : xR O n0 M (⟨dst, .un op x, none⟩ :: l) k s Q = ((X.there s x = true) ∧ puR O n0 M (pvUn op (X.val s x)) dst true l k s Q) := by
  rw [xR_pure rfl]; simp [Oper.gok, Oper.gb, Op.xs, pvc, pv, and_assoc]
theorem evg_un {op} {x : X} {dst l m w} : xR O n0 M (⟨dst, .un op x, some (m, w)⟩ :: l) k s Q = (isBool (s.get m).2 ∧ (gval w (s.get m) = true → (X.there s x = true)) ∧ puR O n0 M (pvUn op (X.val s x)) dst (gval w (s.get m)) l k s Q) := by
  rw [xR_pure rfl]; simp [Oper.gok, Oper.gb, Op.xs, pvc, pv, and_assoc]
theorem ev_conv {op} {x : X} {dst l} : xR O n0 M (⟨dst, .conv op x, none⟩ :: l) k s Q = ((X.there s x = true) ∧ puR O n0 M (pvConv op (X.val s x)) dst true l k s Q) := by
  rw [xR_pure rfl]; simp [Oper.gok, Oper.gb, Op.xs, pvc, pv, and_assoc]
theorem evg_conv {op} {x : X} {dst l m w} : xR O n0 M (⟨dst, .conv op x, some (m, w)⟩ :: l) k s Q = (isBool (s.get m).2 ∧ (gval w (s.get m) = true → (X.there s x = true)) ∧ puR O n0 M (pvConv op (X.val s x)) dst (gval w (s.get m)) l k s Q) := by
  rw [xR_pure rfl]; simp [Oper.gok, Oper.gb, Op.xs, pvc, pv, and_assoc]
theorem ev_extract {x : X} {i} {dst l} : xR O n0 M (⟨dst, .extract x i, none⟩ :: l) k s Q = ((X.there s x = true) ∧ puR O n0 M (pvExtract i (X.val s x)) dst true l k s Q) := by
  rw [xR_pure rfl]; simp [Oper.gok, Oper.gb, Op.xs, pvc, pv, and_assoc]
theorem evg_extract {x : X} {i} {dst l m w} : xR O n0 M (⟨dst, .extract x i, some (m, w)⟩ :: l) k s Q = (isBool (s.get m).2 ∧ (gval w (s.get m) = true → (X.there s x = true)) ∧ puR O n0 M (pvExtract i (X.val s x)) dst (gval w (s.get m)) l k s Q) := by
  rw [xR_pure rfl]; simp [Oper.gok, Oper.gb, Op.xs, pvc, pv, and_assoc]
theorem ev_nilchk {x : X} {dst l} : xR O n0 M (⟨dst, .nilchk x, none⟩ :: l) k s Q = ((X.there s x = true) ∧ puR O n0 M (pvNilchk (X.val s x)) dst true l k s Q) := by
  rw [xR_pure rfl]; simp [Oper.gok, Oper.gb, Op.xs, pvc, pv, and_assoc]
theorem evg_nilchk {x : X} {dst l m w} : xR O n0 M (⟨dst, .nilchk x, some (m, w)⟩ :: l) k s Q = (isBool (s.get m).2 ∧ (gval w (s.get m) = true → (X.there s x = true)) ∧ puR O n0 M (pvNilchk (X.val s x)) dst (gval w (s.get m)) l k s Q) := by
  rw [xR_pure rfl]; simp [Oper.gok, Oper.gb, Op.xs, pvc, pv, and_assoc]
theorem ev_mkFn {f} {a b : List X} {dst l} : xR O n0 M (⟨dst, .mkFn f a b, none⟩ :: l) k s Q = (((a ++ b).all (X.there s) = true) ∧ puR O n0 M (pvMkFn f (a.map (X.val s)) (b.map (X.val s))) dst true l k s Q) := by
  rw [xR_pure rfl]; simp [Oper.gok, Oper.gb, Op.xs, pvc, pv, and_assoc]
theorem evg_mkFn {f} {a b : List X} {dst l m w} : xR O n0 M (⟨dst, .mkFn f a b, some (m, w)⟩ :: l) k s Q = (isBool (s.get m).2 ∧ (gval w (s.get m) = true → ((a ++ b).all (X.there s) = true)) ∧ puR O n0 M (pvMkFn f (a.map (X.val s)) (b.map (X.val s))) dst (gval w (s.get m)) l k s Q) := by
  rw [xR_pure rfl]; simp [Oper.gok, Oper.gb, Op.xs, pvc, pv, and_assoc]
theorem ev_mkIf {t} {x : X} {dst l} : xR O n0 M (⟨dst, .mkIf t x, none⟩ :: l) k s Q = ((X.there s x = true) ∧ puR O n0 M (pvMkIf t (X.val s x)) dst true l k s Q) := by
  rw [xR_pure rfl]; simp [Oper.gok, Oper.gb, Op.xs, pvc, pv, and_assoc]
theorem evg_mkIf {t} {x : X} {dst l m w} : xR O n0 M (⟨dst, .mkIf t x, some (m, w)⟩ :: l) k s Q = (isBool (s.get m).2 ∧ (gval w (s.get m) = true → (X.there s x = true)) ∧ puR O n0 M (pvMkIf t (X.val s x)) dst (gval w (s.get m)) l k s Q) := by
  rw [xR_pure rfl]; simp [Oper.gok, Oper.gb, Op.xs, pvc, pv, and_assoc]
theorem ev_len {sb} {x : X} {dst l} : xR O n0 M (⟨dst, .len sb x, none⟩ :: l) k s Q = ((X.there s x = true) ∧ puR O n0 M (pvLen sb (X.val s x)) dst true l k s Q) := by
  rw [xR_pure rfl]; simp [Oper.gok, Oper.gb, Op.xs, pvc, pv, and_assoc]
theorem evg_len {sb} {x : X} {dst l m w} : xR O n0 M (⟨dst, .len sb x, some (m, w)⟩ :: l) k s Q = (isBool (s.get m).2 ∧ (gval w (s.get m) = true → (X.there s x = true)) ∧ puR O n0 M (pvLen sb (X.val s x)) dst (gval w (s.get m)) l k s Q) := by
  rw [xR_pure rfl]; simp [Oper.gok, Oper.gb, Op.xs, pvc, pv, and_assoc]
theorem ev_max {ls : List X} {dst l} : xR O n0 M (⟨dst, .max ls, none⟩ :: l) k s Q = ((ls.all (X.there s) = true) ∧ puR O n0 M (pvMax true (ls.map (X.val s))) dst true l k s Q) := by
  rw [xR_pure rfl]; simp [Oper.gok, Oper.gb, Op.xs, pvc, pv, and_assoc]
theorem evg_max {ls : List X} {dst l m w} : xR O n0 M (⟨dst, .max ls, some (m, w)⟩ :: l) k s Q = (isBool (s.get m).2 ∧ (gval w (s.get m) = true → (ls.all (X.there s) = true)) ∧ puR O n0 M (pvMax true (ls.map (X.val s))) dst (gval w (s.get m)) l k s Q) := by
  rw [xR_pure rfl]; simp [Oper.gok, Oper.gb, Op.xs, pvc, pv, and_assoc]
theorem ev_min {ls : List X} {dst l} : xR O n0 M (⟨dst, .min ls, none⟩ :: l) k s Q = ((ls.all (X.there s) = true) ∧ puR O n0 M (pvMax false (ls.map (X.val s))) dst true l k s Q) := by
  rw [xR_pure rfl]; simp [Oper.gok, Oper.gb, Op.xs, pvc, pv, and_assoc]
theorem evg_min {ls : List X} {dst l m w} : xR O n0 M (⟨dst, .min ls, some (m, w)⟩ :: l) k s Q = (isBool (s.get m).2 ∧ (gval w (s.get m) = true → (ls.all (X.there s) = true)) ∧ puR O n0 M (pvMax false (ls.map (X.val s))) dst (gval w (s.get m)) l k s Q) := by
  rw [xR_pure rfl]; simp [Oper.gok, Oper.gb, Op.xs, pvc, pv, and_assoc]

def St.seth (s : St) (h : List Root) : St := ⟨s.t, h⟩
/-- .. that works on the heap: what it answers, the heap behind it -/
def efR (O : Orc) (n0 : Nat) (M : Mode) (v : V) (h : List Root) (dst : Option Nat) (l : List Oper) (k : List Item) (s : St) (Q : Out → Prop) : Prop :=
  xR O n0 M l k ((s.seth h).put dst true v) Q
@[congr] theorem efR_congr {v v' h h' dst l} (e : v = v') (e' : h = h') : efR O n0 M v h dst l k s Q = efR O n0 M v' h' dst l k s Q := by rw [e, e']
theorem efR_eq {v h dst l} : efR O n0 M v h dst l k s Q = xR O n0 M l k ((s.seth h).put dst true v) Q := (rfl)
theorem xR_eff {op : Op} {dst l} (hp : op.isPure = false) :
    xR O n0 none (⟨dst, op, none⟩ :: l) k s Q = (op.xs.all (X.there s) = true ∧ eff O (X.val s) s.h (fun d h' => efR O n0 none d h' dst l k s Q) op) := by
  apply propext
  rw [show xR O n0 none (⟨dst, op, none⟩ :: l) k s Q = xOp O none ⟨dst, op, none⟩ s (fun s' => xOps O none l s' fun s' => xK O n0 k s' Q) from rfl]
  simp [xOp, hp, efR, xR, St.seth]
theorem xR_A {h0 l2 o l} (hp : o.op.isPure = false) (hc : o.op.isCall = false) : xR O n0 (some (h0, l2)) (o :: l) k s Q = wpOpA O h0 o s (fun s' => xR O n0 (some (h0, l2)) l k s' Q) := by
  rw [show xR O n0 (some (h0, l2)) (o :: l) k s Q = xOp O (some h0) o s (fun s' => xOps O (some h0) l s' fun s' => xOps O none l2 s' fun s'' => xK O n0 k s'' Q) from rfl]
  simp only [xOp, hp, hc, Bool.false_eq_true, if_false, Bool.false_and]
  rfl

def bxR (O : Orc) (n0 : Nat) (M : Mode) (v : V) (n : Nat) (dst : Option Nat) (l : List Oper) (k : List Item) (s : St) (Q : Out → Prop) : Prop :=
  match v.pure?, v.cells with
  | some u, _ => u.length = n ∧ efR O n0 M (.s (.ptr s.h.length 0)) (s.h ++ [.boxu u]) dst l k s Q
  | none, some u => u.length = n ∧ efR O n0 M (.s (.ptr s.h.length 0)) (s.h ++ [.boxd u]) dst l k s Q
  | _, _ => False
@[congr] theorem bxR_congr {v v' n dst l} (h : v = v') : bxR O n0 M v n dst l k s Q = bxR O n0 M v' n dst l k s Q := by rw [h]
theorem bxR_a {u n dst l} : bxR O n0 M (.a u) n dst l k s Q = (u.length = n ∧ efR O n0 M (.s (.ptr s.h.length 0)) (s.h ++ [.boxu u]) dst l k s Q) := (rfl)
theorem bxR_c {u n dst l} : bxR O n0 M (.s (.c u)) n dst l k s Q = (1 = n ∧ efR O n0 M (.s (.ptr s.h.length 0)) (s.h ++ [.boxu [u]]) dst l k s Q) := (rfl)
theorem bxR_m {u n dst l} : bxR O n0 M (.m u) n dst l k s Q = (u.length = n ∧ efR O n0 M (.s (.ptr s.h.length 0)) (s.h ++ [.boxd u]) dst l k s Q) := (rfl)
theorem bxR_ref {id g sz off m n dst l} : bxR O n0 M (.s (.ref id g sz off m)) n dst l k s Q = (1 = n ∧ efR O n0 M (.s (.ptr s.h.length 0)) (s.h ++ [.boxd [.ref id g sz off m]]) dst l k s Q) := (rfl)
theorem bxR_full {r n dst l} : bxR O n0 M (.s (.full r)) n dst l k s Q = (1 = n ∧ efR O n0 M (.s (.ptr s.h.length 0)) (s.h ++ [.boxd [.full r]]) dst l k s Q) := (rfl)
theorem ev_box {n x dst l} : xR O n0 M (⟨dst, .box n x, none⟩ :: l) k s Q = (X.there s x = true ∧ bxR O n0 M (X.val s x) n dst l k s Q) := by
  cases M with
  | none => rw [xR_eff rfl]; simp only [Op.xs, List.all_cons, List.all_nil, Bool.and_true, eff, bxR]; rfl
  | some p =>
    obtain ⟨h0, l2⟩ := p
    rw [xR_A rfl rfl]
    simp only [wpOpA, Oper.gok, Op.isPure, Op.isCall, Bool.false_eq_true, if_false, true_and]
    rfl
theorem ev_alloc {z dst l} : xR O n0 M (⟨dst, .alloc z, none⟩ :: l) k s Q = efR O n0 M (.s (.ptr s.h.length 0)) (s.h ++ [.boxu z]) dst l k s Q := by
  cases M with
  | none => rw [xR_eff rfl]; simp only [Op.xs, List.all_nil, eff, true_and]
  | some p =>
    obtain ⟨h0, l2⟩ := p
    rw [xR_A rfl rfl]
    simp only [wpOpA, Oper.gok, Op.isPure, Op.isCall, Bool.false_eq_true, if_false, true_and]
    rfl
theorem ev_allocx {z dst l} : xR O n0 M (⟨dst, .allocx z, none⟩ :: l) k s Q = efR O n0 M (.s (.ptr s.h.length 0)) (s.h ++ [.boxd z]) dst l k s Q := by
  cases M with
  | none => rw [xR_eff rfl]; simp only [Op.xs, List.all_nil, eff, true_and]
  | some p =>
    obtain ⟨h0, l2⟩ := p
    rw [xR_A rfl rfl]
    simp only [wpOpA, Oper.gok, Op.isPure, Op.isCall, Bool.false_eq_true, if_false, true_and]
    rfl
/-- a slice of these elements -/
def slR (O : Orc) (n0 : Nat) (M : Mode) (v : Option (List U)) (sz n : Nat) (dst : Option Nat) (l : List Oper) (k : List Item) (s : St) (Q : Out → Prop) : Prop :=
  match v with
  | some r => 0 < sz ∧ efR O n0 M (.s (.ref s.h.length 0 sz 0 n)) (s.h ++ [.row 0 sz r]) dst l k s Q
  | none => False
@[congr] theorem slR_congr {v v' sz sz' n dst l} (h : v = v') (h' : sz = sz') : slR O n0 M v sz n dst l k s Q = slR O n0 M v' sz' n dst l k s Q := by rw [h, h']
theorem slR_some {r sz n dst l} : slR O n0 M (some r) sz n dst l k s Q = (0 < sz ∧ efR O n0 M (.s (.ref s.h.length 0 sz 0 n)) (s.h ++ [.row 0 sz r]) dst l k s Q) := (rfl)
theorem ev_mkSl {z n ps dst l} : xR O n0 M (⟨dst, .mkSl z n ps, none⟩ :: l) k s Q = ((ps.map fun p => p.2).all (X.there s) = true ∧ slR O n0 M (fillL z (List.replicate n z) (ps.map fun p => (p.1, X.val s p.2))) z.length n dst l k s Q) := by
  cases M with
  | none =>
    rw [xR_eff rfl]
    simp only [Op.xs, eff, slR]
    cases fillL z (List.replicate n z) (ps.map fun p => (p.1, X.val s p.2)) <;> rfl
  | some p =>
    obtain ⟨h0, l2⟩ := p
    rw [xR_A rfl rfl]
    simp only [wpOpA, Oper.gok, Op.isPure, Op.isCall, Bool.false_eq_true, if_false, true_and, Op.xs, slR]
    cases fillL z (List.replicate n z) (ps.map fun p => (p.1, X.val s p.2)) <;> rfl

/-- a store: the block as it becomes, first -/
def stR (O : Orc) (n0 : Nat) (id : Nat) (r : Option Root) (dst : Option Nat) (l : List Oper) (k : List Item) (s : St) (Q : Out → Prop) : Prop :=
  match r with
  | some r => efR O n0 none .bot (s.h.set id r) dst l k s Q
  | none => False
@[congr] theorem stR_congr {id r r' dst l} (h : r = r') : stR O n0 id r dst l k s Q = stR O n0 id r' dst l k s Q := by rw [h]
theorem stR_some {id r dst l} : stR O n0 id (some r) dst l k s Q = efR O n0 none .bot (s.h.set id r) dst l k s Q := (rfl)
def saR (O : Orc) (n0 : Nat) (a x : V) (n : Nat) (dst : Option Nat) (l : List Oper) (k : List Item) (s : St) (Q : Out → Prop) : Prop :=
  match a with
  | .s (.ptr id off) => stR O n0 id ((s.h[id]?).bind fun r => r.st none off n x) dst l k s Q
  | .s (.eptr id g i off) => stR O n0 id ((s.h[id]?).bind fun r => r.st (some (g, i)) off n x) dst l k s Q
  | _ => False
@[congr] theorem saR_congr {a a' x x' n dst l} (h : a = a') (hx : x = x') : saR O n0 a x n dst l k s Q = saR O n0 a' x' n dst l k s Q := by rw [h, hx]
theorem saR_ptr {id off x n dst l} : saR O n0 (.s (.ptr id off)) x n dst l k s Q = stR O n0 id ((s.h[id]?).bind fun r => r.st none off n x) dst l k s Q := (rfl)
theorem saR_eptr {id g i off x n dst l} : saR O n0 (.s (.eptr id g i off)) x n dst l k s Q = stR O n0 id ((s.h[id]?).bind fun r => r.st (some (g, i)) off n x) dst l k s Q := (rfl)
theorem ev_store {n a x dst l} : xR O n0 none (⟨dst, .store n a x, none⟩ :: l) k s Q = ((X.there s a = true ∧ X.there s x = true) ∧ saR O n0 (X.val s a) (X.val s x) n dst l k s Q) := by
  rw [xR_eff rfl]
  simp only [Op.xs, List.all_cons, List.all_nil, Bool.and_true, Bool.and_eq_true, eff]
  congr 1
  apply propext
  generalize X.val s a = v
  cases v with
  | s d =>
    cases d with
    | ptr id off =>
      rw [saR_ptr]
      constructor
      · rintro ⟨r, h1, h2⟩
        rw [h1]
        exact h2
      · intro h
        cases hq : (s.h[id]?).bind fun r => r.st none off n (X.val s x) with
        | none => rw [hq] at h; exact h.elim
        | some r => rw [hq] at h; exact ⟨r, hq, h⟩
    | eptr id g i off =>
      rw [saR_eptr]
      constructor
      · rintro ⟨r, h1, h2⟩
        rw [h1]
        exact h2
      · intro h
        cases hq : (s.h[id]?).bind fun r => r.st (some (g, i)) off n (X.val s x) with
        | none => rw [hq] at h; exact h.elim
        | some r => rw [hq] at h; exact ⟨r, hq, h⟩
    | _ => exact Iff.rfl
  | _ => exact Iff.rfl
/-- a call -/
def caR (O : Orc) (n0 : Nat) (f : Nat) (args : List V) (dst : Option Nat) (l : List Oper) (k : List Item) (s : St) (Q : Out → Prop) : Prop :=
  callR O f args s.h (fun d h' => efR O n0 none d h' dst l k s Q)
@[congr] theorem caR_congr {f args args' dst l} (h : args = args') : caR O n0 f args dst l k s Q = caR O n0 f args' dst l k s Q := by rw [h]
theorem ev_call {f args dst l} : xR O n0 none (⟨dst, .call f args, none⟩ :: l) k s Q = (args.all (X.there s) = true ∧ caR O n0 f (args.map (X.val s)) dst l k s Q) := by
  rw [xR_eff rfl]; simp only [Op.xs, eff]; rfl
/-- .. of a function value -/
def cvR (O : Orc) (n0 : Nat) (v : V) (args : List V) (dst : Option Nat) (l : List Oper) (k : List Item) (s : St) (Q : Out → Prop) : Prop :=
  match v with
  | .s (.clo f a b) => caR O n0 f (a.map .s ++ args ++ b.map .s) dst l k s Q
  | _ => False
@[congr] theorem cvR_congr {v v' args args' dst l} (h : v = v') (h' : args = args') : cvR O n0 v args dst l k s Q = cvR O n0 v' args' dst l k s Q := by rw [h, h']
theorem cvR_clo {f a b args dst l} : cvR O n0 (.s (.clo f a b)) args dst l k s Q = caR O n0 f (a.map .s ++ args ++ b.map .s) dst l k s Q := (rfl)
theorem ev_callv {x args dst l} : xR O n0 none (⟨dst, .callv x args, none⟩ :: l) k s Q = (X.there s x = true ∧ args.all (X.there s) = true ∧ cvR O n0 (X.val s x) (args.map (X.val s)) dst l k s Q) := by
  rw [xR_eff rfl]
  simp only [Op.xs, eff, List.all_cons, Bool.and_eq_true, and_assoc]
  rfl
def callGd (O : Orc) (M : Mode) (s : St) (f : Nat) (args : List V) (v : V) : Prop := match M with
  | none => callR O f args s.h fun d h' => d = v ∧ h' = s.h
  | some (h0, _) => callA O f args h0 v
theorem callA_Gd (hm : O.Mono) {f args v} (H : callA O f args (rdh M s) v) : callGd O M s f args v := by
  cases M with
  | none => exact callA_callR' hm H
  | some p => exact H
/-- a call under a guard, or in a region without an order: over data alone, nothing made -/
def gcR (O : Orc) (n0 : Nat) (M : Mode) (f : Nat) (args : List V) (gb ok : Bool) (dst : Option Nat) (l : List Oper) (k : List Item) (s : St) (Q : Out → Prop) : Prop :=
  (∃ v, (gb = true → ok = true ∧ callGd O M s f args v) ∧ xR O n0 M l k (s.put dst gb v) Q) ∨ (M = none ∧ (gb = true → ok = true ∧ caR O n0 f args dst l k s Q) ∧ (gb = false → ∃ v, xR O n0 none l k (s.put dst false v) Q))
@[congr] theorem gcR_congr {f args args' gb gb' ok ok' dst l} (h : args = args') (h' : gb = gb') (h'' : ok = ok') : gcR O n0 M f args gb ok dst l k s Q = gcR O n0 M f args' gb' ok' dst l k s Q := by rw [h, h', h'']
theorem evg_call {f args dst l m w} : xR O n0 M (⟨dst, .call f args, some (m, w)⟩ :: l) k s Q = (isBool (s.get m).2 ∧ gcR O n0 M f (args.map (X.val s)) (gval w (s.get m)) (args.all (X.there s)) dst l k s Q) := by
  cases M with
  | none =>
    rw [show xR O n0 none (⟨dst, .call f args, some (m, w)⟩ :: l) k s Q = xOp O none ⟨dst, .call f args, some (m, w)⟩ s (fun s' => xOps O none l s' fun s' => xK O n0 k s' Q) from rfl]
    simp only [xOp, gdE, gcR, Op.isPure, Op.isCall, Bool.false_eq_true, if_false, Option.isSome_some, Bool.or_true, Bool.and_true, if_true, Oper.gok, Oper.gb, Op.xs, effG, eff, true_and]
    rfl
  | some p =>
    obtain ⟨hh, l2⟩ := p
    rw [show xR O n0 (some (hh, l2)) (⟨dst, .call f args, some (m, w)⟩ :: l) k s Q = xOp O (some hh) ⟨dst, .call f args, some (m, w)⟩ s (fun s' => xOps O (some hh) l s' fun s' => xOps O none l2 s' fun s'' => xK O n0 k s'' Q) from rfl]
    simp only [xOp, gcR, Op.isPure, Op.isCall, Bool.false_eq_true, if_false, Option.isSome_some, Bool.or_true, Bool.and_true, if_true, Oper.gok, Oper.gb, Op.xs, effG, effA, reduceCtorEq, false_and, or_false]
    rfl
theorem evd_call {f args dst l h0 l2} : xR O n0 (some (h0, l2)) (⟨dst, .call f args, none⟩ :: l) k s Q = gcR O n0 (some (h0, l2)) f (args.map (X.val s)) true (args.all (X.there s)) dst l k s Q := by
  rw [show xR O n0 (some (h0, l2)) (⟨dst, .call f args, none⟩ :: l) k s Q = xOp O (some h0) ⟨dst, .call f args, none⟩ s (fun s' => xOps O (some h0) l s' fun s' => xOps O none l2 s' fun s'' => xK O n0 k s'' Q) from rfl]
  simp only [xOp, Op.isPure, Op.isCall, Bool.false_eq_true, if_false, Option.isSome_some, Bool.true_or, Bool.and_true, if_true, Oper.gok, Oper.gb, Op.xs, effG, effA, true_and, gcR, rdh, true_implies, reduceCtorEq, false_and, or_false]
  rfl

/-- a guarded call of a function value -/
def gvR (O : Orc) (n0 : Nat) (v : V) (args : List V) (gb ok : Bool) (dst : Option Nat) (l : List Oper) (k : List Item) (s : St) (Q : Out → Prop) : Prop :=
  (∃ w, (gb = true → ok = true ∧ match v with | .s (.clo f a b) => callR O f (a.map .s ++ args ++ b.map .s) s.h (fun d h' => d = w ∧ h' = s.h) | _ => False) ∧ xR O n0 none l k (s.put dst gb w) Q) ∨ ((gb = true → ok = true ∧ cvR O n0 v args dst l k s Q) ∧ (gb = false → ∃ w, xR O n0 none l k (s.put dst false w) Q))
@[congr] theorem gvR_congr {v v' args args' gb gb' ok ok' dst l} (h0 : v = v') (h : args = args') (h' : gb = gb') (h'' : ok = ok') : gvR O n0 v args gb ok dst l k s Q = gvR O n0 v' args' gb' ok' dst l k s Q := by rw [h0, h, h', h'']
theorem evg_callv {x args dst l m w} : xR O n0 none (⟨dst, .callv x args, some (m, w)⟩ :: l) k s Q = (isBool (s.get m).2 ∧ gvR O n0 (X.val s x) (args.map (X.val s)) (gval w (s.get m)) ((x :: args).all (X.there s)) dst l k s Q) := by
  rw [show xR O n0 none (⟨dst, .callv x args, some (m, w)⟩ :: l) k s Q = xOp O none ⟨dst, .callv x args, some (m, w)⟩ s (fun s' => xOps O none l s' fun s' => xK O n0 k s' Q) from rfl]
  simp only [xOp, gdE, Op.isPure, Op.isCall, Bool.false_eq_true, if_false, Option.isSome_some, Bool.or_true, Bool.and_true, if_true, Oper.gok, Oper.gb, Op.xs, effG, eff, true_and]
  unfold gvR cvR
  generalize X.val s x = v
  cases v with
  | s d => cases d <;> rfl
  | _ => rfl
theorem gvR_no {v args ok dst l} (K : xR O n0 none l k (s.put dst false .bot) Q) : gvR O n0 v args false ok dst l k s Q := .inl ⟨.bot, nofun, K⟩

/-! append, copy, new rows, maps -/
def apR (O : Orc) (n0 : Nat) (bytes sz : Nat) (s1 : V) (e : Option (List U)) (dst : Option Nat) (l : List Oper) (k : List Item) (s : St) (Q : Out → Prop) : Prop :=
  match e with
  | some e => (0 < sz ∧ 0 < bytes ∧ bytes ≤ 1024 ∧ ∀ u, u ∈ e → u.length = sz) ∧ match s1 with
    | .s (.full r) => (r.length + e.length ≤ 4294967296 ∧ (∀ u, u ∈ r → u.length = sz) ∧ (r = [] ∨ e ≠ [])) ∧ efR O n0 none (.s (.ref s.h.length 0 sz 0 (r.length + e.length))) (s.h ++ [.row 0 sz (r ++ e)]) dst l k s Q
    | .s (.ref id g _ 0 n) => match s.h[id]? with
      | some (.row g' sz' r) => (g = g' ∧ sz' = sz ∧ n = r.length ∧ n + e.length ≤ 4294967296) ∧ efR O n0 none (.s (.ref id (g + 1) sz' 0 (n + e.length))) (s.h.set id (.row (g + 1) sz' (r ++ e))) dst l k s Q
      | _ => False
    | _ => False
  | none => False
@[congr] theorem apR_congr {bytes sz sz' s1 s1' e e' dst l} (h : sz = sz') (h' : s1 = s1') (h'' : e = e') : apR O n0 bytes sz s1 e dst l k s Q = apR O n0 bytes sz' s1' e' dst l k s Q := by rw [h, h', h'']
theorem ev_append {bytes z a x dst l} : xR O n0 none (⟨dst, .append bytes z a x, none⟩ :: l) k s Q = ((X.there s a = true ∧ X.there s x = true) ∧ apR O n0 bytes z.length (X.val s a) ((X.val s x).elems s.h) dst l k s Q) := by
  rw [xR_eff rfl]
  simp only [Op.xs, List.all_cons, List.all_nil, Bool.and_true, Bool.and_eq_true, eff]
  congr 1
theorem apR_full {bytes sz r e dst l} : apR O n0 bytes sz (.s (.full r)) (some e) dst l k s Q = ((0 < sz ∧ 0 < bytes ∧ bytes ≤ 1024 ∧ ∀ u, u ∈ e → u.length = sz) ∧ (r.length + e.length ≤ 4294967296 ∧ (∀ u, u ∈ r → u.length = sz) ∧ (r = [] ∨ e ≠ [])) ∧ efR O n0 none (.s (.ref s.h.length 0 sz 0 (r.length + e.length))) (s.h ++ [.row 0 sz (r ++ e)]) dst l k s Q) := (rfl)
/-- an append to an own row -/
def aqR (O : Orc) (n0 : Nat) (sz id g n : Nat) (q : Option Root) (e : List U) (dst : Option Nat) (l : List Oper) (k : List Item) (s : St) (Q : Out → Prop) : Prop :=
  match q with
  | some (.row g' sz' r) => (g = g' ∧ sz' = sz ∧ n = r.length ∧ n + e.length ≤ 4294967296) ∧ efR O n0 none (.s (.ref id (g + 1) sz' 0 (n + e.length))) (s.h.set id (.row (g + 1) sz' (r ++ e))) dst l k s Q
  | _ => False
@[congr] theorem aqR_congr {sz id g n q q' e dst l} (h : q = q') : aqR O n0 sz id g n q e dst l k s Q = aqR O n0 sz id g n q' e dst l k s Q := by rw [h]
theorem apR_ref {bytes sz id g z n e dst l} : apR O n0 bytes sz (.s (.ref id g z 0 n)) (some e) dst l k s Q = ((0 < sz ∧ 0 < bytes ∧ bytes ≤ 1024 ∧ ∀ u, u ∈ e → u.length = sz) ∧ aqR O n0 sz id g n s.h[id]? e dst l k s Q) := (rfl)
theorem aqR_row {sz id g n g' sz' r e dst l} : aqR O n0 sz id g n (some (.row g' sz' r)) e dst l k s Q = ((g = g' ∧ sz' = sz ∧ n = r.length ∧ n + e.length ≤ 4294967296) ∧ efR O n0 none (.s (.ref id (g + 1) sz' 0 (n + e.length))) (s.h.set id (.row (g + 1) sz' (r ++ e))) dst l k s Q) := (rfl)

def mrR (O : Orc) (n0 : Nat) (bytes sz : Nat) (z : U) (a b : Option Int) (dst : Option Nat) (l : List Oper) (k : List Item) (s : St) (Q : Out → Prop) : Prop :=
  ∃ n : Nat, a = some (n : Int) ∧ b = some (n : Int) ∧ bytes * n ≤ 281474976710656 ∧ 0 < sz ∧ 0 < bytes ∧ efR O n0 none (.s (.ref s.h.length 0 sz 0 n)) (s.h ++ [.row 0 sz (List.replicate n z)]) dst l k s Q
@[congr] theorem mrR_congr {bytes sz sz' z a a' b b' dst l} (h : sz = sz') (h' : a = a') (h'' : b = b') : mrR O n0 bytes sz z a b dst l k s Q = mrR O n0 bytes sz' z a' b' dst l k s Q := by rw [h, h', h'']
theorem ev_mkRow {bytes z a b dst l} : xR O n0 none (⟨dst, .mkRow bytes z a b, none⟩ :: l) k s Q = ((X.there s a = true ∧ X.there s b = true) ∧ mrR O n0 bytes z.length z (X.val s a).nat (X.val s b).nat dst l k s Q) := by
  rw [xR_eff rfl]
  simp only [Op.xs, List.all_cons, List.all_nil, Bool.and_true, Bool.and_eq_true, eff]
  congr 1
theorem mrR_nat {bytes sz z n m dst l} : mrR O n0 bytes sz z (some ((n : Nat) : Int)) (some ((m : Nat) : Int)) dst l k s Q = (m = n ∧ bytes * n ≤ 281474976710656 ∧ 0 < sz ∧ 0 < bytes ∧ efR O n0 none (.s (.ref s.h.length 0 sz 0 n)) (s.h ++ [.row 0 sz (List.replicate n z)]) dst l k s Q) := by
  apply propext
  constructor
  · rintro ⟨a, h1, h2, h3⟩
    simp only [Option.some.injEq] at h1 h2
    have e1 : n = a := by omega
    have e2 : m = a := by omega
    subst e1 e2
    exact ⟨rfl, h3⟩
  · rintro ⟨rfl, h3⟩
    exact ⟨m, rfl, rfl, h3⟩

def mmR (O : Orc) (n0 : Nat) (ok : Prop) (dst : Option Nat) (l : List Oper) (k : List Item) (s : St) (Q : Out → Prop) : Prop := ok ∧ efR O n0 none (.s (.mp s.h.length)) (s.h ++ [.map []]) dst l k s Q
theorem ev_mkMap {r dst l} : xR O n0 none (⟨dst, .mkMap r, none⟩ :: l) k s Q = (r.toList.all (X.there s) = true ∧ isIntO (r.map (X.val s)) ∧ efR O n0 none (.s (.mp s.h.length)) (s.h ++ [.map []]) dst l k s Q) := by
  rw [xR_eff rfl]; simp only [Op.xs, eff]

def loR (O : Orc) (n0 : Nat) (agg : Bool) (ks : List EK) (z : V) (ok : Bool) (q : Option Root) (kv : V) (dst : Option Nat) (l : List Oper) (k : List Item) (s : St) (Q : Out → Prop) : Prop :=
  match q with
  | some (.map r) => (isKey agg ks kv ∧ ∀ p, p ∈ r → isKey agg ks p.1) ∧ efR O n0 none (if ok then .tup [(mget r kv).getD z, .s (.c (.bool (mget r kv).isSome))] else (mget r kv).getD z) s.h dst l k s Q
  | _ => False
@[congr] theorem loR_congr {agg ks z ok q q' kv kv' dst l} (h : q = q') (h' : kv = kv') : loR O n0 agg ks z ok q kv dst l k s Q = loR O n0 agg ks z ok q' kv' dst l k s Q := by rw [h, h']
def mpOf : V → List Root → Option Root
  | .s (.mp id), h => h[id]?
  | _, _ => none
theorem mpOf_mp {id h} : mpOf (.s (.mp id)) h = h[id]? := rfl
theorem ev_lookup {agg ks z ok a b dst l} : xR O n0 none (⟨dst, .lookup agg ks z ok a b, none⟩ :: l) k s Q = ((X.there s a = true ∧ X.there s b = true) ∧ loR O n0 agg ks z ok (mpOf (X.val s a) s.h) (X.val s b) dst l k s Q) := by
  rw [xR_eff rfl]
  simp only [Op.xs, List.all_cons, List.all_nil, Bool.and_true, Bool.and_eq_true, eff]
  congr 1
  generalize X.val s a = v
  cases v with
  | s d => cases d <;> rfl
  | _ => rfl
theorem loR_map {agg ks z ok r kv dst l} : loR O n0 agg ks z ok (some (.map r)) kv dst l k s Q = ((isKey agg ks kv ∧ ∀ p, p ∈ r → isKey agg ks p.1) ∧ efR O n0 none (if ok then .tup [(mget r kv).getD z, .s (.c (.bool (mget r kv).isSome))] else (mget r kv).getD z) s.h dst l k s Q) := (rfl)

def muR (O : Orc) (n0 : Nat) (agg : Bool) (ks : List EK) (m : V) (q : Option Root) (kv xv : V) (dst : Option Nat) (l : List Oper) (k : List Item) (s : St) (Q : Out → Prop) : Prop :=
  match m, q with
  | .s (.mp id), some (.map r) => ((isKey agg ks kv ∧ xv.isPure = true) ∧ (∀ p, p ∈ r → isKey agg ks p.1) ∧ mget r kv = none) ∧ efR O n0 none .bot (s.h.set id (.map (r ++ [(kv, xv)]))) dst l k s Q
  | _, _ => False
@[congr] theorem muR_congr {agg ks m m' q q' kv kv' xv xv' dst l} (h : q = q') (h' : kv = kv') (h'' : xv = xv') (h3 : m = m') : muR O n0 agg ks m q kv xv dst l k s Q = muR O n0 agg ks m' q' kv' xv' dst l k s Q := by rw [h, h', h'', h3]
theorem ev_mapUpd {agg ks a b c dst l} : xR O n0 none (⟨dst, .mapUpd agg ks a b c, none⟩ :: l) k s Q = ((X.there s a = true ∧ X.there s b = true ∧ X.there s c = true) ∧ muR O n0 agg ks (X.val s a) (mpOf (X.val s a) s.h) (X.val s b) (X.val s c) dst l k s Q) := by
  rw [xR_eff rfl]
  simp only [Op.xs, List.all_cons, List.all_nil, Bool.and_true, Bool.and_eq_true, eff]
  congr 1
  generalize X.val s a = v
  cases v with
  | s d =>
    cases d with
    | mp id => simp only [muR, mpOf]; cases s.h[id]? with
      | none => rfl
      | some r => cases r <;> rfl
    | _ => rfl
  | _ => rfl
theorem muR_map {agg ks id r kv xv dst l} : muR O n0 agg ks (.s (.mp id)) (some (.map r)) kv xv dst l k s Q = (((isKey agg ks kv ∧ xv.isPure = true) ∧ (∀ p, p ∈ r → isKey agg ks p.1) ∧ mget r kv = none) ∧ efR O n0 none .bot (s.h.set id (.map (r ++ [(kv, xv)]))) dst l k s Q) := (rfl)

def cpR (O : Orc) (n0 : Nat) (sz : Nat) (d : V) (q : Option Root) (e : Option (List U)) (dst : Option Nat) (l : List Oper) (k : List Item) (s : St) (Q : Out → Prop) : Prop :=
  match e, d, q with
  | some e, .s (.ref id g _ off n), some (.row g' sz' r) => (g = g' ∧ sz = sz' ∧ off + n ≤ r.length ∧ ∀ u, u ∈ e → u.length = sz) ∧
      efR O n0 none (.s (.c (.int .i64 (min e.length n : Nat)))) (s.h.set id (.row g sz (r.take off ++ e.take (min e.length n) ++ r.drop (off + min e.length n)))) dst l k s Q
  | _, _, _ => False
@[congr] theorem cpR_congr {sz d d' q q' e e' dst l} (h : q = q') (h' : d = d') (h'' : e = e') : cpR O n0 sz d q e dst l k s Q = cpR O n0 sz d' q' e' dst l k s Q := by rw [h, h', h'']
def rowOf : V → List Root → Option Root
  | .s (.ref id _ _ _ _), h => h[id]?
  | _, _ => none
theorem rowOf_ref {id g sz off n h} : rowOf (.s (.ref id g sz off n)) h = h[id]? := rfl
theorem ev_copy {sz a b dst l} : xR O n0 none (⟨dst, .copy sz a b, none⟩ :: l) k s Q = ((X.there s a = true ∧ X.there s b = true) ∧ cpR O n0 sz (X.val s a) (rowOf (X.val s a) s.h) ((X.val s b).elems s.h) dst l k s Q) := by
  rw [xR_eff rfl]
  simp only [Op.xs, List.all_cons, List.all_nil, Bool.and_true, Bool.and_eq_true, eff]
  congr 1
  generalize (X.val s b).elems s.h = e
  generalize X.val s a = v
  cases e with
  | none => rfl
  | some e =>
    cases v with
    | s d =>
      cases d with
      | ref id g z off n => simp only [cpR, rowOf]; cases s.h[id]? with
        | none => rfl
        | some r => cases r <;> rfl
      | _ => rfl
    | _ => rfl
theorem cpR_row {sz id g z off n g' sz' r e dst l} : cpR O n0 sz (.s (.ref id g z off n)) (some (.row g' sz' r)) (some e) dst l k s Q = ((g = g' ∧ sz = sz' ∧ off + n ≤ r.length ∧ ∀ u, u ∈ e → u.length = sz) ∧
      efR O n0 none (.s (.c (.int .i64 (min e.length n : Nat)))) (s.h.set id (.row g sz (r.take off ++ e.take (min e.length n) ++ r.drop (off + min e.length n)))) dst l k s Q) := rfl

/-! the state -/
theorem get_self {d b v} : (s.put (some d) b v).get d = (b, v) := by simp [St.put, St.get]
theorem get_ne {n d b v} (h : (n == d) = false) : (s.put (some d) b v).get n = s.get n := by simp [St.put, St.get, List.lookup_cons, h]
theorem get_none {n b v} : (s.put none b v).get n = s.get n := rfl
theorem h_put {d b v} : (s.put d b v).h = s.h := by cases d <;> rfl
theorem get_seth {n h} : (s.seth h).get n = s.get n := rfl
theorem h_seth {h} : (s.seth h).h = h := rfl
theorem val_t {n} : X.val s (.t n) = (s.get n).2 := rfl
theorem val_c {v} : X.val s (.c v) = v := rfl
theorem there_t {n} : X.there s (.t n) = (s.get n).1 := rfl
theorem there_c {v} : X.there s (.c v) = true := rfl
theorem gval_bool {w b v} : gval w (b, .s (.c (.bool v))) = (b && (v == w)) := rfl
theorem h_mk {t h} : (⟨t, h⟩ : St).h = h := rfl
theorem get_mk_self {n x r h} : (⟨(n, x) :: r, h⟩ : St).get n = x := by simp [St.get]
theorem get_mk_ne {n m x r h} (e : (n == m) = false) : (⟨(m, x) :: r, h⟩ : St).get n = (⟨r, h⟩ : St).get n := by simp [St.get, List.lookup_cons, e]
theorem args0_cons {v l i} : args0 (v :: l) i = (i, (true, v)) :: args0 l (i + 1) := rfl
theorem args0_nil {i} : args0 [] i = [] := rfl
theorem has_self {d b v} : (s.put (some d) b v).has d = true := by simp [St.put, St.has]
theorem has_ne {n d b v} (h : (n == d) = false) : (s.put (some d) b v).has n = s.has n := by simp [St.put, St.has, List.lookup_cons, h]
theorem has_none {n b v} : (s.put none b v).has n = s.has n := rfl
theorem has_seth {n h} : (s.seth h).has n = s.has n := rfl
theorem has_mk_self {n x r h} : (⟨(n, x) :: r, h⟩ : St).has n = true := by simp [St.has]
theorem has_mk_ne {n m x r h} (e : (n == m) = false) : (⟨(m, x) :: r, h⟩ : St).has n = (⟨r, h⟩ : St).has n := by simp [St.has, List.lookup_cons, e]
theorem ofU_a {u} : V.ofU true u = .a u := rfl
theorem ofU_s {c} : V.ofU false [c] = .s (.c c) := rfl
theorem ofD_a {u} : V.ofD true u = .m u := rfl
theorem ofD_s {c} : V.ofD false [c] = .s c := rfl

theorem pick_or {g q} : pvPick (.s (.c (.bool g))) (.s (.c (.bool true))) (.s (.c (.bool q))) = some (.s (.c (.bool (g || q)))) := by cases g <;> rfl
theorem pick_and {g p} : pvPick (.s (.c (.bool g))) (.s (.c (.bool p))) (.s (.c (.bool false))) = some (.s (.c (.bool (g && p)))) := by cases g <;> rfl
theorem pick_bot_r {g p} : pvPick (.s (.c (.bool g))) (.s (.c (.bool p))) .bot = if g then some (.s (.c (.bool p))) else some .bot := by cases g <;> rfl

theorem pick_true {p q} : pvPick (.s (.c (.bool true))) p q = some p := rfl
theorem pick_false {p q} : pvPick (.s (.c (.bool false))) p q = some q := rfl
theorem pick_bl {g q} : pvPick (.s (.c (.bool g))) .bot q = some (bif g then .bot else q) := by cases g <;> rfl
theorem pick_br {g p} : pvPick (.s (.c (.bool g))) p .bot = some (bif g then p else .bot) := by cases g <;> rfl
theorem pvBin_bot_l {op v} : pvBin op .bot v = none := by cases v <;> rfl
theorem pvBin_bot_r {op v} : pvBin op v .bot = none := by
  cases v with
  | s d => cases d with
    | c c => cases c <;> rfl
    | _ => rfl
  | _ => rfl
theorem pvUn_bot {op} : pvUn op .bot = none := rfl
theorem cv_none : C.v none = none := rfl
/-! operations' values -/
theorem pvBin_int {op k k' a b} : pvBin op (.s (.c (.int k a))) (.s (.c (.int k' b))) = C.v (intAny op k k' a b) := rfl
theorem pvBin_flt {op a b} : pvBin op (.s (.c (.flt a))) (.s (.c (.flt b))) = C.v (fltArith op a b) := rfl
theorem pvBin_str {op a b} : pvBin op (.s (.c (.str a))) (.s (.c (.str b))) = C.v (binStr op a b) := rfl
theorem ia_add {k a b} : intAny .add k k a b = some (.int k (k.wrap (a + b))) := by simp [intAny, binInt]
theorem ia_sub {k a b} : intAny .sub k k a b = some (.int k (k.wrap (a - b))) := by simp [intAny, binInt]
theorem ia_mul {k a b} : intAny .mul k k a b = some (.int k (k.wrap (a * b))) := by simp [intAny, binInt]
theorem ia_quo {k a b} : intAny .quo k k a b = some (.int k (k.wrap (a.tdiv b))) := by simp [intAny, binInt]
theorem ia_rem {k a b} : intAny .rem k k a b = some (.int k (a.tmod b)) := by simp [intAny, binInt]
def kAnd (k : IntKind) (a b : Int) : Int := k.wrap (BitVec.ofInt k.bits a &&& BitVec.ofInt k.bits b).toNat
theorem ia_and {k a b} : intAny .and k k a b = some (.int k (kAnd k a b)) := by simp [intAny, binInt, kAnd]
def kOr (k : IntKind) (a b : Int) : Int := k.wrap (BitVec.ofInt k.bits a ||| BitVec.ofInt k.bits b).toNat
theorem ia_or {k a b} : intAny .or k k a b = some (.int k (kOr k a b)) := by simp [intAny, binInt, kOr]
def kXor (k : IntKind) (a b : Int) : Int := k.wrap (BitVec.ofInt k.bits a ^^^ BitVec.ofInt k.bits b).toNat
theorem ia_xor {k a b} : intAny .xor k k a b = some (.int k (kXor k a b)) := by simp [intAny, binInt, kXor]
def kAndNot (k : IntKind) (a b : Int) : Int := k.wrap (BitVec.ofInt k.bits a &&& ~~~(BitVec.ofInt k.bits b)).toNat
theorem ia_andNot {k a b} : intAny .andNot k k a b = some (.int k (kAndNot k a b)) := by simp [intAny, binInt, kAndNot]
theorem ia_eql {k a b} : intAny .eql k k a b = some (.bool (decide (a = b))) := by simp [intAny, binInt]
theorem ia_neq {k a b} : intAny .neq k k a b = some (.bool (!decide (a = b))) := by simp [intAny, binInt]
theorem ia_lss {k a b} : intAny .lss k k a b = some (.bool (decide (a < b))) := by simp [intAny, binInt]
theorem ia_leq {k a b} : intAny .leq k k a b = some (.bool (decide (a ≤ b))) := by simp [intAny, binInt]
theorem ia_gtr {k a b} : intAny .gtr k k a b = some (.bool (decide (b < a))) := by simp [intAny, binInt]
theorem ia_geq {k a b} : intAny .geq k k a b = some (.bool (decide (b ≤ a))) := by simp [intAny, binInt]
theorem ia_shl {k k' a b} : intAny .shl k k' a b = some (.int k (shl k a b)) := rfl
theorem ia_shr {k k' a b} : intAny .shr k k' a b = some (.int k (shr k a b)) := rfl
def kNot (k : IntKind) (a : Int) : Int := kXor k (if k.signed then -1 else k.max) a
theorem un_xor {k n} : pvUn .xor (.s (.c (.int k n))) = some (.s (.c (.int k (kNot k n)))) := rfl
theorem un_neg {k n} : pvUn .neg (.s (.c (.int k n))) = some (.s (.c (.int k (k.wrap (0 - n))))) := rfl
theorem un_not {b} : pvUn .not (.s (.c (.bool b))) = some (.s (.c (.bool (!b)))) := rfl
theorem un_fneg {n} : pvUn .neg (.s (.c (.flt n))) = some (.s (.c (.flt (fneg n)))) := rfl
theorem cv_some {c} : C.v (some c) = some (.s (.c c)) := rfl
theorem ldR_boxu {n agg u off} : ldR n agg (some (.boxu u)) off = ldU n agg u off := rfl
theorem ldR_boxd {n agg u off} : ldR n agg (some (.boxd u)) off = ldD n agg u off := rfl
theorem ldE_row {n agg g' sz l g i off} : ldE n agg (some (.row g' sz l)) g i off = if g = g' ∧ off + n ≤ sz ∧ (agg = true ∨ n = 1) then some (V.ofU agg (cut (elemAt l i) off n)) else none := rfl
theorem ldE_lock {n agg g' sz l g i off} : ldE n agg (some (.lock g' sz l)) g i off = if g = g' ∧ off + n ≤ sz ∧ (agg = true ∨ n = 1) then some (V.ofU agg (cut (elemAt l i) off n)) else none := rfl
theorem vcBin_int {op v k b} : vcBin op v (.s (.c (.int k b))) = (match op with
    | .shl | .shr => 0 ≤ b
    | .quo | .rem => b ≠ 0
    | _ => True) := by cases v <;> rfl
theorem vcBin_flt {op a b} : vcBin op (.s (.c (.flt a))) (.s (.c (.flt b))) = True := rfl
theorem vcBin_str {op a b} : vcBin op (.s (.c (.str a))) (.s (.c (.str b))) = (match op with
    | .add => a.size + b.size ≤ 9223372036854775807
    | _ => True) := rfl
theorem isKey_a {agg ks u} : isKey agg ks (.a u) = (agg = true ∧ u.map C.ek = ks.map some) := rfl
theorem isKey_c {agg ks c} : isKey agg ks (.s (.c c)) = (agg = false ∧ [c.ek] = ks.map some) := rfl
theorem mapM_nil' {h} : ([] : List V).mapM (V.fz h) = some [] := rfl
theorem mapM_cons' {h v l} : (v :: l).mapM (V.fz h) = (V.fz h v).bind fun x => (l.mapM (V.fz h)).bind fun r => some (x :: r) := by simp [List.mapM_cons]
theorem dmapM_nil {h} : ([] : List DC).mapM (DC.fz h) = some [] := rfl
theorem dmapM_cons {h v l} : (v :: l).mapM (DC.fz h) = (DC.fz h v).bind fun x => (l.mapM (DC.fz h)).bind fun r => some (x :: r) := by simp [List.mapM_cons]
theorem fz_c {h c} : V.fz h (.s (.c c)) = some (.s (.c c)) := rfl
theorem fz_full {h l} : V.fz h (.s (.full l)) = some (.s (.c (.sl l))) := rfl
theorem fz_a {h u} : V.fz h (.a u) = some (.a u) := rfl
theorem fz_m {h l} : V.fz h (.m l) = (l.mapM (DC.fz h)).map .a := rfl
theorem fz_iptr {h u o} : V.fz h (.s (.iptr u o)) = some (.s (.iptr u o)) := rfl
def fzRow (q : Option Root) (g off n : Nat) : Option C := match q with
    | some (.row g' _ l) | some (.lock g' _ l) => if g = g' ∧ off + n ≤ l.length then some (.sl ((l.drop off).take n)) else none
    | _ => none
theorem fz_ref {h id g sz off n} : V.fz h (.s (.ref id g sz off n)) = (fzRow h[id]? g off n).map (.s ∘ .c) := rfl
theorem dfz_ref {h id g sz off n} : DC.fz h (.ref id g sz off n) = fzRow h[id]? g off n := rfl
theorem dfz_c {h c} : DC.fz h (.c c) = some c := rfl
theorem dfz_full {h l} : DC.fz h (.full l) = some (.sl l) := rfl
theorem fzRow_row {g' sz l g off n} : fzRow (some (.row g' sz l)) g off n = if g = g' ∧ off + n ≤ l.length then some (.sl ((l.drop off).take n)) else none := rfl
theorem fzRow_lock {g' sz l g off n} : fzRow (some (.lock g' sz l)) g off n = if g = g' ∧ off + n ≤ l.length then some (.sl ((l.drop off).take n)) else none := rfl
def elRow (q : Option Root) (g off n : Nat) : Option (List U) := match q with
    | some (.row g' _ l) | some (.lock g' _ l) => if g = g' ∧ off + n ≤ l.length then some ((l.drop off).take n) else none
    | _ => none
theorem elems_ref {h id g sz off n} : V.elems h (.s (.ref id g sz off n)) = elRow h[id]? g off n := rfl
theorem elems_sl {h l} : V.elems h (.s (.c (.sl l))) = some l := rfl
theorem elems_full {h l} : V.elems h (.s (.full l)) = some l := rfl
theorem elRow_row {g' sz l g off n} : elRow (some (.row g' sz l)) g off n = if g = g' ∧ off + n ≤ l.length then some ((l.drop off).take n) else none := rfl
theorem elRow_lock {g' sz l g off n} : elRow (some (.lock g' sz l)) g off n = if g = g' ∧ off + n ≤ l.length then some ((l.drop off).take n) else none := rfl

/-! ### ends, calls by what is known of them, loops -/
theorem endF_of {rs : List Res} {R : V → List Root → Prop} {v : V} (h : resAll s rs = some v) (hv : v.under 0 = true) (hR : R v []) : endF rs 0 R s := .inl ⟨v, 0, h, hv, by simp, Nat.le_refl _, by simpa using hR⟩
/-- .. with blocks -/
theorem endF_gc {rs : List Res} {R : V → List Root → Prop} (keep sel : List Nat) {v : V} {s0 : St} (h : gcOk n0 keep sel s = true) (e : s.gc keep sel = s0) (hv : resAll s0 rs = some v) (hR : R v s0.h) : endF rs n0 R s := by
  subst e
  exact .inr ⟨v, _, .gc keep sel s h, hv, hR⟩
theorem endF_all {rs : List Res} {R : V → List Root → Prop} {v : V} (h : resAll s rs = some v) (hv : v.under s.h.length = true) (hu : s.h.all (Root.under s.h.length) = true) (hn : n0 ≤ s.h.length) (hR : R v s.h) : endF rs n0 R s := .inl ⟨v, s.h.length, h, hv, by simpa using hu, hn, by simpa using hR⟩

theorem resAll2 {a b : Res} {x y : V} (h : resOf s a = some x) (h' : resOf s b = some y) : resAll s [a, b] = some (.tup [x, y]) := by simp [resAll, h, h']
theorem resAll3 {a b c : Res} {x y z : V} (h : resOf s a = some x) (h' : resOf s b = some y) (h'' : resOf s c = some z) : resAll s [a, b, c] = some (.tup [x, y, z]) := by simp [resAll, h, h', h'']
/-- the begin of a function -/
theorem does_start {E : Env} {f : Nat} {b : Code} {rs : List Res} {args h R} (hf : E.fn f = some (Fn.mk b rs)) (H : xK (Does E) h.length [.c b] ⟨args0 args 0, h⟩ (fun
    | .norm s | .ret s => endF rs h.length R s
    | .exit _ _ => False)) : Does E f args h R :=
  Does.mk hf (xC_wp Does.mono _ H)

/-- a function over data alone, that answers so -/
def Fun (E : Env) (f : Nat) (args : List V) (v : V) : Prop := Does E f args [] fun w h' => w = v ∧ h' = []

theorem callA_fun {E : Env} {f : Nat} {args us : List V} {h : List Root} {v w : V} (H : Fun E f us v) (hu : args.mapM (V.fz h) = some us) (hp : args.all V.isU = true ∨ v.plain = true) (hw : v.shift h.length = w) : callA (Does E) f args h w := by
  refine ⟨us, hu, Does.mono _ _ _ _ _ ?_ H⟩
  rintro d h' ⟨rfl, rfl⟩
  exact ⟨hp, hw, rfl⟩
theorem caR_fun {E : Env} {f : Nat} {args us : List V} {v w : V} {dst l} (H : Fun E f us v) (hu : args.mapM (V.fz s.h) = some us) (hp : args.all V.isU = true ∨ v.plain = true) (hw : v.shift s.h.length = w)
    (K : efR (Does E) n0 none w s.h dst l k s Q) : caR (Does E) n0 f args dst l k s Q := by
  refine callR_mono (fun _ _ _ _ h => h) Does.mono ?_ (callA_callR' Does.mono (callA_fun H hu hp hw))
  rintro v h' ⟨rfl, rfl⟩
  exact K
theorem gcR_fun {E : Env} {f : Nat} {args us : List V} {v w : V} {gb ok : Bool} {dst l} (H : gb = true → Fun E f us v) (hok : gb = true → ok = true) (hu : args.mapM (V.fz (rdh M s)) = some us) (hp : args.all V.isU = true ∨ v.plain = true) (hw : v.shift (rdh M s).length = w)
    (K : xR (Does E) n0 M l k (s.put dst gb w) Q) : gcR (Does E) n0 M f args gb ok dst l k s Q :=
  .inl ⟨w, fun hg => ⟨hok hg, callA_Gd Does.mono (callA_fun (H hg) hu hp hw)⟩, K⟩
/-- .. whose guard is true: as if there were none -/
theorem gcR_yes {f args dst l} (K : caR O n0 f args dst l k s Q) : gcR O n0 none f args true true dst l k s Q := .inr ⟨rfl, fun _ => ⟨rfl, K⟩, nofun⟩
theorem gcR_no {f args ok dst l} (K : xR O n0 none l k (s.put dst false .bot) Q) : gcR O n0 none f args false ok dst l k s Q := .inl ⟨.bot, nofun, K⟩
theorem gvR_yes {E : Env} {f : Nat} {a b args v dst l} (H : Does E f (a.map .s ++ args ++ b.map .s) s.h fun d h' => d = v ∧ h' = s.h) (K : xR (Does E) n0 none l k (s.put dst true v) Q) : gvR (Does E) n0 (.s (.clo f a b)) args true true dst l k s Q :=
  .inl ⟨v, fun _ => ⟨rfl, .inl H⟩, K⟩
/-- a call that makes blocks, of its own data alone -/
theorem caR_does {E : Env} {f : Nat} {args us : List V} {R : V → List Root → Prop} {dst l} (H : Does E f us [] R) (hu : args.mapM (V.fz s.h) = some us)
    (K : ∀ d h', R d h' → (args.all V.isU = true ∨ (d.plain = true ∧ h'.all Root.plain = true)) ∧ efR (Does E) n0 none (d.shift s.h.length) (s.h ++ h'.map (Root.shift s.h.length)) dst l k s Q) : caR (Does E) n0 f args dst l k s Q :=
  .inr (.inl ⟨us, hu, Does.mono _ _ _ _ _ K H⟩)
/-- .. within the own blocks -/
theorem caR_own {E : Env} {f : Nat} {args : List V} {R : V → List Root → Prop} {dst l} (H : Does E f args s.h R) (K : ∀ d h', R d h' → efR (Does E) n0 none d h' dst l k s Q) : caR (Does E) n0 f args dst l k s Q :=
  .inl (Does.mono _ _ _ _ _ K H)

theorem caR_cut {f args dst l} (P : St → Prop) (h : P s) (H : ∀ s, P s → caR O n0 f args dst l k s Q) : caR O n0 f args dst l k s Q := H s h
theorem gcR_cut {f args gb ok dst l} (P : St → Prop) (h : P s) (H : ∀ s, P s → gcR O n0 M f args gb ok dst l k s Q) : gcR O n0 M f args gb ok dst l k s Q := H s h
theorem brB_cut {g : Bool} {t e : List Item} (P : St → Prop) (h : P s) (H : ∀ s, P s → brB O n0 g t e s Q) : brB O n0 g t e s Q := H s h
theorem efR_cut {v h dst l} (v' : V) (h' : List Root) (P : St → Prop) (ev : v = v') (eh : h = h') (hp : P s) (H : ∀ s, P s → efR O n0 M v' h' dst l k s Q) : efR O n0 M v h dst l k s Q := by subst ev eh; exact H s hp

theorem lw_gc {s0 : St} (keep sel : List Nat) (h : gcOk n0 keep sel s = true) (e : s.gc keep sel = s0) : s.Lw n0 s0 := by
  subst e
  exact .inr (.gc keep sel s h)
theorem lw_gc' {s0 s1 : St} (keep sel : List Nat) (h : gcOk n0 keep sel s = true) (e : s.gc keep sel = s1) (e' : s1 = s0) : s.Lw n0 s0 := lw_gc keep sel h (e.trans e')
theorem lw_view {s0 : St} (t sz : Nat) (h : s.get t = (true, .s (.full []))) (hz : 0 < sz) (h' : (s.view t sz).Lw n0 s0) (hg : (s.view t sz).Gc n0 s0) : s.Lw n0 s0 := .inr (.view t sz s s0 h hz hg)
theorem lw_view1 {s0 : St} (t sz : Nat) (keep sel : List Nat) (h : s.get t = (true, .s (.full []))) (hz : 0 < sz) (hg : gcOk n0 keep sel (s.view t sz) = true) (e : (s.view t sz).gc keep sel = s0) : s.Lw n0 s0 := by
  subst e
  exact .inr (.view t sz s _ h hz (.gc keep sel _ hg))

/-- what a round of a loop must come to -/
def loopQ {α : Type} (O : Orc) (n0 : Nat) (st : α → St) (P : α → Prop) (m : α → Nat) (x : α) (k : List Item) (Q : Out → Prop) : Out → Prop
  | .norm s' => ∃ y, m y < m x ∧ s'.Lw n0 (st y) ∧ P y
  | .ret s' => reK O n0 k s' Q
  | .exit i s' => exK O n0 i k s' Q
theorem loopQ_norm {α : Type} {st : α → St} {P : α → Prop} {m : α → Nat} {x : α} : loopQ O n0 st P m x k Q (.norm s) = ∃ y, m y < m x ∧ s.Lw n0 (st y) ∧ P y := (rfl)
theorem loopQ_ret {α : Type} {st : α → St} {P : α → Prop} {m : α → Nat} {x : α} : loopQ O n0 st P m x k Q (.ret s) = reK O n0 k s Q := (rfl)
theorem loopQ_exit {α : Type} {st : α → St} {P : α → Prop} {m : α → Nat} {x : α} {i} : loopQ O n0 st P m x k Q (.exit i s) = exK O n0 i k s Q := (rfl)
theorem xK_loop {α : Type} {b : Code} (st : α → St) (P : α → Prop) (m : α → Nat) (x0 : α) (h0 : s.Lw n0 (st x0)) (hP : P x0) (hb : ∀ x, P x → xK O n0 [.c b] (st x) (loopQ O n0 st P m x k Q)) : xK O n0 (.c (.loop b) :: k) s Q := by
  show xC O n0 (.loop b) s _
  refine ⟨fun n s => ∃ x, P x ∧ m x = n ∧ s = st x, ⟨m x0, st x0, h0, x0, hP, rfl, rfl⟩, ?_⟩
  rintro n s ⟨x, hx, rfl, rfl⟩
  have := hb x hx
  have this : xC O n0 b (st x) (contK O n0 [] (loopQ O n0 st P m x k Q)) := this
  have e : contK O n0 [] (loopQ O n0 st P m x k Q) = fun o => match o with
    | .norm s' => ∃ j s0, j < m x ∧ s'.Lw n0 s0 ∧ ∃ x, P x ∧ m x = j ∧ s0 = st x
    | o => contK O n0 k Q o := by
    funext o
    cases o with
    | norm s' =>
      apply propext
      constructor
      · rintro ⟨y, h1, h2, h3⟩
        exact ⟨m y, st y, h1, h2, y, h3, rfl, rfl⟩
      · rintro ⟨j, s0, h1, h2, y, h3, rfl, rfl⟩
        exact ⟨y, h1, h2, h3⟩
    | ret s' => rfl
    | exit i s' => rfl
  rw [e] at this
  exact this
end

attribute [go_sem] ev_mv evg_mv ev_pick evg_pick ev_build evg_build ev_buildx evg_buildx ev_load evg_load ev_fld evg_fld ev_fldv evg_fldv ev_idxA evg_idxA ev_idxS evg_idxS ev_sliceS evg_sliceS ev_slice evg_slice ev_bin evg_bin ev_eqb evg_eqb ev_eqs evg_eqs ev_neqs evg_neqs ev_eqn evg_eqn ev_un evg_un ev_conv evg_conv ev_extract evg_extract ev_nilchk evg_nilchk ev_mkFn evg_mkFn ev_mkIf evg_mkIf ev_len evg_len ev_max evg_max ev_min evg_min
  ev_box ev_alloc ev_allocx ev_mkSl ev_store ev_call ev_callv evg_call evg_callv evd_call ev_append ev_mkRow ev_mkMap ev_lookup ev_mapUpd ev_copy
  xK_nil xK_skip xK_seq xK_block xK_blk xK_region xK_draw xK_late0 xK_exit xK_ret xK_cond exK_nil exK_c exK_same exK_blk reK_nil reK_c reK_blk reK_late xR_nil xR_nilA rdh_none rdh_some
  brK_brB brB_true brB_false brB_not puR_some efR_eq bxR_a bxR_c bxR_m bxR_ref bxR_full slR_some stR_some saR_ptr saR_eptr cvR_clo apR_full apR_ref aqR_row mrR_nat loR_map muR_map cpR_row mpOf_mp rowOf_ref
  get_self get_ne get_none h_put get_seth h_seth val_t val_c there_t there_c gval_bool h_mk get_mk_self get_mk_ne args0_cons args0_nil ofU_a ofU_s ofD_a ofD_s pick_or pick_and
  pick_true pick_false pick_bl pick_br pvBin_bot_l pvBin_bot_r pvUn_bot cv_none puR_none Bool.false_or Bool.or_false Bool.true_or Bool.or_true Bool.false_and Bool.and_false pvBin_int pvBin_flt pvBin_str ia_add ia_sub ia_mul ia_quo ia_rem ia_and ia_or ia_xor ia_andNot ia_eql ia_neq ia_lss ia_leq ia_gtr ia_geq ia_shl ia_shr un_xor un_neg un_not un_fneg cv_some binStr fltArith binFlt
  ldR_boxu ldR_boxd ldE_row ldE_lock ldU ldD pvLoad vcLoad pvFld pvFldv pvIdxA pvIdxS pvSliceS pvSlice pvEqb pvEqs pvEqn isNil pvConv pvExtract pvNilchk pvLen pvMkFn pvMkIf pvMax vcBin_int vcBin_flt vcBin_str vcIdxA vcIdxS vcSliceS vcSlice vcRange bnd isIntO idxOf isBool vcPick hasKs isKey_a isKey_c
  mapM_nil' mapM_cons' dmapM_nil dmapM_cons fz_c fz_full fz_a fz_m fz_iptr fz_ref dfz_ref dfz_c dfz_full fzRow_row fzRow_lock elems_ref elems_sl elems_full elRow_row elRow_lock
  loopQ_norm loopQ_ret loopQ_exit V.shift DC.shift V.shifts_eq DC.shifts_eq Root.shift
  Nat.reduceBEq List.length_nil List.length_cons List.length_append List.length_map List.nil_append List.cons_append List.getElem?_cons_zero List.getElem?_cons_succ List.map_cons List.map_nil List.all_cons List.all_nil List.take_succ_cons List.take_zero List.drop_succ_cons List.drop_zero List.append_assoc
  Option.map_some Option.map_none Option.bind_some Option.toList_some Option.toList_none Option.getD_some Option.getD_none Option.isSome_some Option.isSome_none Option.getD_none Option.isSome_some Option.isSome_none
  Bool.false_eq_true Bool.true_eq_false false_implies not_false_eq_true not_true_eq_false and_self cond_true cond_false decide_true decide_false eq_self Bool.and_eq_true Bool.or_eq_true Bool.not_not Bool.not_eq_true' Bool.not_eq_false' and_imp true_implies forall_const if_true ite_true if_false ite_false true_and and_true Bool.true_and Bool.and_true imp_self implies_true true_or or_true beq_false beq_true Bool.not_true Bool.not_false Nat.zero_add Nat.add_zero
  cutK cutK0 cutK1 cutV cutV0 cutV1 cutV2 cutV3 cutD cutD0 cutD1 cutD1k cutD1n cutD5 cutD9 cutD13 cutD14 cutD15 cutP cutP0 cutP2 encKey_len encVal_len encDesc_len encProp_len
end Go.Lx
