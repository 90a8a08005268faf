import Derived.Test.YtkmbllgoepcojaaDoorLx16
/- Appends and copies. -/
set_option linter.unusedVariables false
set_option linter.unusedSimpArgs false
namespace Go.Lx
section
variable {P : Program} {nm : FuncId → Option Nat} {x : Cx}

/-- a slice that reads as elements -/
def Reads (x : Cx) (e : List U) (u : Value) : Prop := ∃ a cap, u = .slice a e.length cap ∧ e.length ≤ cap ∧ (e = [] ∨ ∃ g o sz, a = some ⟨g, o, none⟩ ∧ RelRows x.w x.F g sz e o)

theorem elems_rel {fn : Nums} (hg : Good fn x) {A : V} {u : Value} {e : List U} (hA : RelV fn x A u) (h : A.elems x.h = some e) : Reads x e u := by
  cases A with
  | s d =>
    cases d with
    | c c =>
      cases c <;> simp only [V.elems, Option.some.injEq, reduceCtorEq] at h
      subst h
      simp only [RelV, RelDC, RelC] at hA
      obtain ⟨a, cap, rfl, h1, h2⟩ := hA
      refine ⟨a, cap, rfl, h1, ?_⟩
      rcases h2 with h2 | ⟨g, o, sz, h3, h4, h5⟩
      · exact .inl h2
      · exact .inr ⟨g, o, sz, h3, h5⟩
    | full l =>
      simp only [V.elems, Option.some.injEq] at h
      subst h
      simp only [RelV, RelDC] at hA
      obtain ⟨a, rfl, h2⟩ := hA
      refine ⟨a, _, rfl, Nat.le_refl _, ?_⟩
      rcases h2 with h2 | ⟨g, o, sz, h3, h4, h5⟩
      · exact .inl h2
      · exact .inr ⟨g, o, sz, h3, h5⟩
    | ref id g sz off n =>
      simp only [RelV, RelDC] at hA
      obtain ⟨a, cap, rfl, hle, hsm, r, hr, hrr⟩ := hA
      have key : ∀ {g' sz' : Nat} {l : List U}, (r = .row g' sz' l ∨ r = .lock g' sz' l) → (if g = g' ∧ off + n ≤ l.length then some ((l.drop off).take n) else none) = some e → Reads x e (.slice a n cap) := by
        intro g' sz' l hrl h
        split at h
        · rename_i hc
          injection h with h
          have hlen : e.length = n := by rw [← h]; simp; omega
          refine ⟨a, cap, by rw [hlen], by omega, ?_⟩
          rcases Nat.eq_zero_or_pos n with e0 | e0
          · left; exact List.eq_nil_of_length_eq_zero (by omega)
          · right
            have hex : ∃ b, x.at_ id = some b ∧ a = some ⟨b, off * sz', none⟩ ∧ RelRows x.w x.F b sz' l 0 := by
              rcases hrl with rfl | rfl
              all_goals
                obtain ⟨-, h2⟩ := hrr
                obtain ⟨-, h2⟩ := h2 hc.1
                obtain ⟨b, cs, t, f, h3, h4, h5, h6⟩ := h2.resolve_left (by omega)
                refine ⟨b, h3, h4, ?_⟩
                rcases (hg.root id _ hr).2 with k | k
                · rw [k.1] at hc; simp at hc; omega
                · first
                  | (obtain ⟨b', cs', t', k1, k2, k3⟩ := k; rw [h3] at k1; injection k1 with k1; subst k1; exact k3)
                  | (obtain ⟨b', k1, k2, k3⟩ := k; rw [h3] at k1; injection k1 with k1; subst k1; exact k3)
            obtain ⟨b, h3, h4, h5⟩ := hex
            refine ⟨b, _, sz', h4, ?_⟩
            rw [← h]
            have := (h5.drop off).take n
            simpa using this
        · cases h
      simp only [V.elems, hr] at h
      cases r <;> simp only at h hrr
      · exact key (.inl rfl) h
      · exact key (.inr rfl) h
    | _ => simp [V.elems] at h
  | _ => simp [V.elems] at h

theorem run_app_room {t t' ty e e' : TypeId} {i : TypeInfo} (ht : P.underlying t = some (.slice e)) (ht' : P.underlying t' = some (.slice e')) (hi : P.info? e = some i) {w : World} {base : Option Addr} {n cap : Nat} {u : Value} {k : Nat} {vs : List Value}
    (hl : (Builtin.lenOf u).run P w = .ok k w) (hf : (Builtin.firstCells i.size k u).run P w = .ok vs.toArray w) (hroom : n + k ≤ cap) {w' : World}
    (hst : ∀ a, base = some a → (storeCells (a.add (n * i.size)) vs).run P w = .ok () w') (hn : base = none → w' = w) :
    (Builtin.append_ #[t, t'] ty #[.slice base n cap, u]).run P w = .ok (.slice base (n + k) cap) w' := by
  cases base with
  | none =>
    rw [hn rfl]
    simp [Builtin.append_, run_underlying ht, run_underlying ht', sizeOf, typeInfo, hi, hl, hroom, hf]
  | some a =>
    have := hst a rfl
    simp [Builtin.append_, run_underlying ht, run_underlying ht', sizeOf, typeInfo, hi, hl, hroom, hf, this]

theorem run_app_grow {t t' ty e e' : TypeId} {i : TypeInfo} {z : Value} (ht : P.underlying t = some (.slice e)) (ht' : P.underlying t' = some (.slice e')) (hi : P.info? e = some i) (hz : i.zero = some z) {w : World} {base : Option Addr} {n cap : Nat} {u : Value} {k : Nat} {olds vs : List Value}
    (hl : (Builtin.lenOf u).run P w = .ok k w) (hf : ∀ w' : World, w'.heap = w.heap → (Builtin.firstCells i.size k u).run P w' = .ok vs.toArray w') (ho : ∀ w' : World, w'.heap = w.heap → (Builtin.firstCells i.size n (.slice base n cap)).run P w' = .ok olds.toArray w')
    (hg : cap < n + k) (h63 : n + k ≤ 4294967296) (hb0 : 0 < i.bytes) (hb : i.bytes ≤ 1024) :
    (Builtin.append_ #[t, t'] ty #[.slice base n cap, u]).run P w =
      .ok (.slice (some ⟨w.heap.size, 0, none⟩) (n + k) (grownCap w (n + k) cap e)) (w.drew.alloc (.cells (olds.toArray ++ vs.toArray ++ Builtin.zeroCells z.cells (grownCap w (n + k) cap e - (n + k))) e)) := by
  have hn : ¬ (n + k ≤ cap) := by omega
  have h63' : ¬ (9223372036854775807 < ((n : Int) + (k : Int))) := by omega
  have hfit : Builtin.nextslicecap (n + k) cap * i.bytes ≤ 281474976710656 := growslice_fits hg (Nat.le_trans (Nat.mul_le_mul h63 hb) (by decide))
  have h48' : ¬ (281474976710656 < Builtin.nextslicecap (n + k) cap * i.bytes) := by omega
  have hf' := hf w.drew rfl
  have ho' := ho w.drew rfl
  have hne : ¬ (i.bytes = 0) := by omega
  simp [Builtin.append_, run_underlying ht, run_underlying ht', sizeOf, typeInfo, zeroValue, hi, hz, hl, hn, h63', h48', hne, Question.forced, hf', ho', newRow, grownCap]
  congr 2
  apply Array.ext'
  simp [List.append_assoc]

theorem first_any {e : List U} {u : Value} (h : Reads x e u) {size : Nat} (hs : ∀ y, y ∈ e → y.length = size) : ∃ vs, RelCs x.w x.F e.flatten vs ∧ vs.length = e.length * size ∧ ∀ w' : World, w'.heap = x.w.heap → (Builtin.firstCells size e.length u).run P w' = .ok vs.toArray w' := by
  obtain ⟨a, cap, rfl, hle, h⟩ := h
  rcases h with rfl | ⟨g, o, sz, rfl, h⟩
  · refine ⟨[], trivial, by simp, fun w' _ => ?_⟩
    cases a with
    | none => simp [Builtin.firstCells]
    | some a => simp [Builtin.firstCells, loadCells, loadCellsFrom]
  · obtain ⟨vs, h1, h2, h3⟩ := rows_load h
    by_cases he : e = []
    · subst he
      refine ⟨[], trivial, by simp, fun w' _ => ?_⟩
      simp [Builtin.firstCells, loadCells, loadCellsFrom]
    · obtain ⟨y, hy⟩ := List.exists_mem_of_ne_nil e he
      have : sz = size := by rw [← h.sizes y hy, hs y hy]
      subst this
      refine ⟨vs, h1, h2, fun w' hw => ?_⟩
      have := run_firstCells_some (P := P) w' sz e.length ⟨g, o, none⟩ e.length cap vs h2 (fun j v hj => by
        rw [add_none]
        have := h3 j v hj
        simpa [World.cell?, hw] using this)
      simpa using this

theorem run_lenOf_slice (a : Option Addr) (n cap : Nat) (w : World) : (Builtin.lenOf (.slice a n cap)).run P w = .ok n w := by simp [Builtin.lenOf]

/-- the cells of a grown row -/
theorem grown_cells {w : World} {F : Nat → Prop} {l e : List U} {olds vs : List Value} {zs : Array Value} (h1 : RelCs w F l.flatten olds) (h2 : RelCs w F e.flatten vs) :
    RelCs w F (l ++ e).flatten (olds ++ vs) ∧ (olds ++ vs) <+: (olds.toArray ++ vs.toArray ++ zs).toList := by
  refine ⟨by rw [List.flatten_append]; exact h1.append h2, ⟨zs.toList, by simp⟩⟩

theorem append_sound (hg : Good (Fn_ nm) x) {t t' e e' : TypeId} (he : elemT P t = some e) (he' : elemT P t' = some e') {z : U} (hz : zeroU P e = some z) (hs : sizeT P e = some z.length) {bytes : Nat} (hb : bytesT P e = some bytes)
    {A B : V} {a b : Value} (hA : RelV (Fn_ nm) x A a) (hB : RelV (Fn_ nm) x B b) {ty : TypeId} {K : V → List Root → Prop}
    (h : match (generalizing := false) B.elems x.h with
      | some e => (0 < z.length ∧ 0 < bytes ∧ bytes ≤ 1024 ∧ ∀ u, u ∈ e → u.length = z.length) ∧ match (generalizing := false) A with
        | .s (.full l) => (l.length + e.length ≤ 4294967296 ∧ (∀ u, u ∈ l → u.length = z.length) ∧ (l = [] ∨ e ≠ [])) ∧ K (.s (.ref x.h.length 0 z.length 0 (l.length + e.length))) (x.h ++ [.row 0 z.length (l ++ e)])
        | .s (.ref id g _ 0 n) => match x.h[id]? with
          | some (.row g' sz l) => (g = g' ∧ sz = z.length ∧ n = l.length ∧ n + e.length ≤ 4294967296) ∧ K (.s (.ref id (g + 1) sz 0 (n + e.length))) (x.h.set id (.row (g + 1) sz (l ++ e)))
          | _ => False
        | _ => False
      | none => False) : Done P nm x (do pure (.value (← Builtin.append_ #[t, t'] ty #[a, b]))) K := by
  split at h
  case h_2 => exact h.elim
  rename_i el hel
  obtain ⟨⟨hz0, hb0, hb1, hsz⟩, h⟩ := h
  have hRB := elems_rel hg hB hel
  obtain ⟨i, zz, i1, i2, i3⟩ := zeroU_parts hz
  have hzr := cOfs_rel (w := x.w) (F := x.F) i3
  have hzl : zz.cells.size = z.length := by have := RelCs.length hzr; simp at this; exact this.symm
  have hisz : i.size = z.length := by simpa [sizeT, i1] using hs
  have hib : i.bytes = bytes := by simpa [bytesT, i1] using hb
  obtain ⟨vs, v1, v2, v3⟩ := first_any (P := P) hRB hsz
  have hvsu : ∀ w' : World, w'.heap = x.w.heap → (Builtin.firstCells i.size el.length b).run P w' = .ok vs.toArray w' := by rw [hisz]; exact v3
  have hlenb : ∀ w' : World, (Builtin.lenOf b).run P w' = .ok el.length w' := by
    obtain ⟨a0, c0, e0, _, _⟩ := hRB
    intro w'
    rw [e0]
    exact run_lenOf_slice _ _ _ _
  have ht := elemT_some he
  have ht' := elemT_some he'
  have key : ∀ {l : List U} {base : Option Addr} {n cap : Nat}, a = .slice base n cap → n = l.length → l.length ≤ cap → Reads x l a → (∀ u, u ∈ l → u.length = z.length) → ¬ (n + el.length ≤ cap) → n + el.length ≤ 4294967296 →
      ∃ (c : Nat) (cs : Array Value) (us : List Value), n + el.length ≤ c ∧ (n + el.length) * z.length ≤ cs.size ∧ c * z.length ≤ cs.size ∧ (do pure (.value (← Builtin.append_ #[t, t'] ty #[a, b])) : Sem Next).run P x.w = .ok (.value (.slice (some ⟨x.w.heap.size, 0, none⟩) (n + el.length) c)) (x.w.drew.alloc (.cells cs e)) ∧ RelCs x.w x.F (l ++ el).flatten us ∧ us <+: cs.toList := by
    intro l base n cap ha hn hcap hRA hl hroom hle
    subst ha hn
    obtain ⟨olds, o1, o2, o3⟩ := first_any (P := P) hRA hl
    have hrun := run_app_grow (P := P) (ty := ty) ht ht' i1 i2 (hlenb x.w) hvsu (fun w' hw => by rw [hisz]; exact o3 w' hw) (by omega) hle (by omega) (by omega) (w := x.w) (base := base) (n := l.length) (cap := cap)
    have hge := grownCap_ge x.w (l.length + el.length) cap e
    have hzc : (Builtin.zeroCells zz.cells (grownCap x.w (l.length + el.length) cap e - (l.length + el.length))).size = (grownCap x.w (l.length + el.length) cap e - (l.length + el.length)) * z.length := by rw [size_zeroCells, hzl]
    obtain ⟨f1, f2⟩ := grown_cells (zs := Builtin.zeroCells zz.cells (grownCap x.w (l.length + el.length) cap e - (l.length + el.length))) o1 v1
    have hcs : (olds.toArray ++ vs.toArray ++ Builtin.zeroCells zz.cells (grownCap x.w (l.length + el.length) cap e - (l.length + el.length))).size = grownCap x.w (l.length + el.length) cap e * z.length := by
      simp only [Array.size_append, List.size_toArray, hzc, o2, v2, ← Nat.add_mul]
      congr 1
      omega
    exact ⟨_, _, olds ++ vs, hge, by rw [hcs]; exact Nat.mul_le_mul_right _ hge, by rw [hcs]; exact Nat.le_refl _, run_v hrun, f1, f2⟩
  cases A with
  | s d =>
    cases d with
    | full l =>
      obtain ⟨⟨hn, hl, hne⟩, hK⟩ := h
      simp only [RelV, RelDC] at hA
      obtain ⟨base, rfl, hA⟩ := hA
      have hRA : Reads x l (.slice base l.length l.length) := ⟨base, l.length, rfl, Nat.le_refl _, by
          rcases hA with h | ⟨g, o, sz, h1, _, h2⟩
          · exact .inl h
          · exact .inr ⟨g, o, sz, h1, h2⟩⟩
      by_cases hel0 : el = []
      · subst hel0
        have hl0 : l = [] := by rcases hne with h | h; exact h; exact absurd rfl h
        subst hl0
        have hrun := run_app_room (P := P) (ty := ty) (base := base) (n := 0) (cap := 0) (u := b) (k := 0) (vs := vs) (w' := x.w) ht ht' i1 (hlenb x.w) (hvsu x.w rfl) (by simp) (fun a _ => by
          have : vs = [] := List.eq_nil_of_length_eq_zero (by simpa using v2)
          subst this
          simp [storeCells]) (fun _ => rfl)
        obtain ⟨g1, g2⟩ := step_new (fn := Fn_ nm) (x' := { x with at_ := setAt x.at_ x.h.length none, h := x.h ++ [.row 0 z.length []] }) (r' := .row 0 z.length []) (b' := none) hg rfl rfl rfl rfl rfl rfl rfl (Nat.le_refl _) (fun _ _ => rfl) (fun b hb => by cases hb) (fun hm => ⟨hz0, .inl ⟨rfl, by simp⟩⟩)
        refine ⟨_, _, { x with at_ := setAt x.at_ x.h.length none, h := x.h ++ [.row 0 z.length []] }, _, run_v hrun, .inl rfl, g1, g2 _, ?_, hK⟩
        simp only [RelV, RelDC]
        exact ⟨base, 0, rfl, by simp, .inl rfl, .row 0 z.length [], by simp, Nat.le_refl _, fun _ => ⟨rfl, .inl rfl⟩⟩
      · have hk0 : 0 < el.length := List.length_pos_iff.2 hel0
        obtain ⟨c, cs, us, q1, q2, q3, q4, q5, q6⟩ := key (l := l) rfl rfl (Nat.le_refl _) hRA hl (by omega) hn
        obtain ⟨d1, d2⟩ := step_same (fn := Fn_ nm) (w' := x.w.drew) hg rfl rfl rfl rfl
        obtain ⟨g1, g2, g3⟩ := new_row (t := e) (cap := c) (l := l ++ el) (sz := z.length) (vs := us) (cs := cs) d1 hz0 (fun u hu => by
          rcases List.mem_append.1 hu with h | h
          · exact hl u h
          · exact hsz u h) (by exact RelCs.stay (w := x.w) (w' := x.w.drew) (F := x.F) (F' := x.F) (fun b h => ⟨h, rfl⟩) q5) q6 (by simpa using q1) q3
        refine ⟨_, _, _, _, q4, .inl rfl, g1, (d2 _).trans (g2 _), ?_, hK⟩
        simpa using g3
    | ref id g sz0 off n =>
      cases off with
      | succ off => exact h.elim
      | zero =>
        simp only at h
        cases hr : x.h[id]? with
        | none => simp [hr] at h
        | some r =>
          cases r with
          | row g' sz l =>
            simp only [hr] at h
            obtain ⟨⟨rfl, rfl, rfl, hn⟩, hK⟩ := h
            have hRA := elems_rel hg hA (e := l) (by simp [V.elems, hr])
            simp only [RelV, RelDC] at hA
            obtain ⟨base, cap, rfl, hcap, hbase, r, hr', hA⟩ := hA
            rw [hr] at hr'
            injection hr' with hr'
            subst hr'
            obtain ⟨-, hA⟩ := hA
            obtain ⟨e0, hA2⟩ := hA rfl
            clear hA
            subst e0
            have hid : id < x.h.length := (List.getElem?_eq_some_iff.1 hr).1
            have hlsz : ∀ u, u ∈ l → u.length = z.length := by
              rcases (hg.root id _ hr).2 with ⟨e, _⟩ | ⟨b, cs, t, _, _, h3⟩
              · subst e; simp
              · exact h3.sizes
            have hasz : ∀ u, u ∈ l ++ el → u.length = z.length := fun u hu => by
              rcases List.mem_append.1 hu with h | h
              · exact hlsz u h
              · exact hsz u h
            by_cases hroom : l.length + el.length ≤ cap
            · rcases hA2 with hc0 | ⟨bb, cs, tt, ff, hat, rfl, hb1', hb2⟩
              · subst hc0
                have hl0 : l = [] := List.eq_nil_of_length_eq_zero (by omega)
                have hel0 : el = [] := List.eq_nil_of_length_eq_zero (by omega)
                subst hl0 hel0
                have hrun := run_app_room (P := P) (ty := ty) (base := base) (n := 0) (cap := 0) (u := b) (k := 0) (vs := vs) (w' := x.w) ht ht' i1 (hlenb x.w) (hvsu x.w rfl) (by simp) (fun a _ => by
                  have : vs = [] := List.eq_nil_of_length_eq_zero (by simpa using v2)
                  subst this
                  simp [storeCells]) (fun _ => rfl)
                have hlt : ∀ b, x.at_ id = some b → b < x.w.heap.size := fun b hb => hg.ltOwn b ⟨id, _, hr, rfl, hb⟩
                obtain ⟨g1, g2⟩ := step_put (fn := Fn_ nm) (x' := { x with h := x.h.set id (.row (g + 1) z.length []) }) (r' := .row (g + 1) z.length []) (b' := x.at_ id) hg rfl (setAt_same rfl).symm rfl hr rfl rfl rfl rfl rfl (Nat.le_refl _) (fun _ _ _ => rfl) (fun b hb => ⟨.inl hb, hlt b hb⟩) (.inl (Nat.lt_succ_self _)) (fun hm => by
                  have := hg.root id _ hr
                  refine ⟨hz0, ?_⟩
                  rcases this.2 with h | h
                  · exact .inl h
                  · exact .inr h)
                refine ⟨_, _, { x with h := x.h.set id (.row (g + 1) z.length []) }, _, run_v hrun, .inl rfl, g1, g2 _, ?_, hK⟩
                simp only [RelV, RelDC]
                exact ⟨base, 0, rfl, by simp, .inl rfl, .row (g + 1) z.length [], by simp [hid], Nat.le_refl _, fun _ => ⟨rfl, .inl rfl⟩⟩
              · have hrow : ∃ cs ty, x.w.heap[bb]? = some (.cells cs ty (0, 0)) ∧ RelCs x.w x.F l.flatten (cs.toList.take (l.length * z.length)) ∧ l.length * z.length ≤ cs.size := by
                  rcases (hg.root id _ hr).2 with ⟨e, k⟩ | ⟨b', cs, ty, f1, f2, f3⟩
                  · rw [hat] at k; cases k
                  · rw [hat] at f1; injection f1 with f1; subst f1; exact ⟨cs, ty, f2, rows_flat f2 f3⟩
                obtain ⟨cs', ty', f2, f4, f5⟩ := hrow
                rw [f2] at hb1'
                injection hb1' with hb1'
                injection hb1' with e1 e2 e3
                subst e1 e2 e3
                rw [Nat.zero_add] at hb2
                have hfit : l.length * z.length + vs.length ≤ cs'.size := by
                  rw [v2, ← Nat.add_mul]
                  exact Nat.le_trans (Nat.mul_le_mul_right _ hroom) hb2
                have hst := run_storeCells_at P bb (l.length * z.length) ty' vs 0 cs' x.w f2 (by omega) (relCs_one v1)
                simp only [Nat.add_zero] at hst
                have hnew := setRow_heap x.w bb cs' (cs'.toList.take (l.length * z.length) ++ vs ++ cs'.toList.drop (l.length * z.length + vs.length)).toArray ty' (0, 0) f2
                have hlen : (cs'.toList.take (l.length * z.length) ++ vs ++ cs'.toList.drop (l.length * z.length + vs.length)).length = cs'.size := by simp; omega
                have hrun := run_app_room (P := P) (ty := ty) (base := some ⟨bb, 0 * z.length, none⟩) (n := l.length) (cap := cap) (u := b) (k := el.length) (vs := vs) (w := x.w) (w' := x.w.setRow bb (cs'.toList.take (l.length * z.length) ++ vs ++ cs'.toList.drop (l.length * z.length + vs.length)).toArray) ht ht' i1 (hlenb x.w) (hvsu x.w rfl) hroom (fun a ha => by
                  injection ha with ha
                  subst ha
                  rw [add_none, Nat.zero_mul, Nat.zero_add, hisz]
                  exact hst) (fun h => by cases h)
                obtain ⟨g1, g2⟩ := step_set (fn := Fn_ nm) (r' := .row (g + 1) z.length (l ++ el)) hg hr rfl rfl hat (w' := x.w.setRow bb (cs'.toList.take (l.length * z.length) ++ vs ++ cs'.toList.drop (l.length * z.length + vs.length)).toArray) rfl rfl rfl (setRow_size _ _ _) (fun c hc => setRow_other x.w bb c _ hc) (.inl (Nat.lt_succ_self _))
                  (fun hm => ⟨hz0, .inr ⟨bb, _, ty', hat, hnew, rows_of_flat hnew hasz (RelCs.stay hm.F (by rw [List.flatten_append]; exact f4.append v1)) (by simp [List.append_assoc])⟩⟩)
                refine ⟨_, _, _, _, run_v hrun, .inl rfl, g1, g2 _, ?_, hK⟩
                simp only [RelV, RelDC]
                exact ⟨_, cap, rfl, hroom, .inr ⟨_, _, rfl⟩, .row (g + 1) z.length (l ++ el), by simp [Cx.put, hid], Nat.le_refl _, fun _ => ⟨rfl, .inr ⟨bb, _, ty', (0, 0), hat, rfl, hnew, by rw [Nat.zero_add, List.size_toArray, hlen]; exact hb2⟩⟩⟩
            · obtain ⟨c, cs, us, q1, q2, q3, q4, q5, q6⟩ := key (l := l) rfl rfl hcap hRA hlsz hroom hn
              have hmore : (x.w.drew.alloc (.cells cs e)).heap[x.w.heap.size]? = some (.cells cs e (0, 0)) := push_new x.w.drew _
              have hsz' : (x.w.drew.alloc (.cells cs e)).heap.size = x.w.heap.size + 1 := by simp
              obtain ⟨g1, g2⟩ := step_put (fn := Fn_ nm) (x' := { w := x.w.drew.alloc (.cells cs e), F := x.F, at_ := setAt x.at_ id (some x.w.heap.size), h := x.h.set id (.row (g + 1) z.length (l ++ el)) }) (r' := .row (g + 1) z.length (l ++ el)) (b' := some x.w.heap.size) hg rfl rfl rfl hr rfl rfl rfl rfl rfl (by simp [hsz']) (fun b hb _ => push_old x.w.drew _ b hb) (fun b hb => by injection hb with hb; subst hb; exact ⟨.inr (Nat.le_refl _), by simp [hsz']⟩) (.inl (Nat.lt_succ_self _)) (fun hm => ⟨hz0, .inr ⟨_, cs, e, by simp, hmore, rows_of_flat hmore hasz (RelCs.stay hm.F q5) (by simpa using q6)⟩⟩)
              refine ⟨_, _, _, _, q4, .inl rfl, g1, g2 _, ?_, hK⟩
              simp only [RelV, RelDC]
              exact ⟨_, c, rfl, q1, .inr ⟨_, _, rfl⟩, .row (g + 1) z.length (l ++ el), by simp [hid], Nat.le_refl _, fun _ => ⟨rfl, .inr ⟨_, cs, e, (0, 0), by simp, by simp, hmore, by simpa using q3⟩⟩⟩
          | _ => simp [hr] at h
    | _ => exact h.elim
  | _ => exact h.elim

theorem flat_take {sz : Nat} : ∀ {l : List U} (k : Nat), (∀ u, u ∈ l → u.length = sz) → (l.take k).flatten = l.flatten.take (k * sz)
  | [], k, _ => by simp
  | u :: l, 0, _ => by simp
  | u :: l, k + 1, h => by
    simp only [List.take_succ_cons, List.flatten_cons]
    rw [flat_take k (fun v hv => h v (by simp [hv])), show (k + 1) * sz = u.length + k * sz by rw [h u (by simp), Nat.add_mul]; omega, List.take_length_add_append]
theorem flat_drop {sz : Nat} : ∀ {l : List U} (k : Nat), (∀ u, u ∈ l → u.length = sz) → (l.drop k).flatten = l.flatten.drop (k * sz)
  | [], k, _ => by simp
  | u :: l, 0, _ => by simp
  | u :: l, k + 1, h => by
    simp only [List.drop_succ_cons, List.flatten_cons]
    rw [flat_drop k (fun v hv => h v (by simp [hv])), show (k + 1) * sz = u.length + k * sz by rw [h u (by simp), Nat.add_mul]; omega, List.drop_length_add_append]

theorem first_len (sz k : Nat) (a : Option Addr) (n n' c c' : Nat) : Builtin.firstCells sz k (.slice a n c) = Builtin.firstCells sz k (.slice a n' c') := by
  cases a <;> simp [Builtin.firstCells]

theorem copy_sound (hg : Good (Fn_ nm) x) {t t' e : TypeId} (he : elemT P t = some e) {sz : Nat} (hs : sizeT P e = some sz) {A B : V} {a b : Value} (hA : RelV (Fn_ nm) x A a) (hB : RelV (Fn_ nm) x B b) {ty : TypeId} {K : V → List Root → Prop}
    (h : match (generalizing := false) B.elems x.h, A with
    | some e, .s (.ref id g _ off n) => match x.h[id]? with
      | some (.row g' sz' l) => (g = g' ∧ sz = sz' ∧ off + n ≤ l.length ∧ ∀ u, u ∈ e → u.length = sz) ∧
          K (.s (.c (.int .i64 (min e.length n : Nat)))) (x.h.set id (.row g sz (l.take off ++ e.take (min e.length n) ++ l.drop (off + min e.length n))))
      | _ => False
    | _, _ => False) : Done P nm x (do pure (.value (← Builtin.copy_ #[t, t'] ty #[a, b]))) K := by
  cases hel : B.elems x.h with
  | none => simp [hel] at h
  | some el =>
  simp only [hel] at h
  cases A with
  | s d =>
    cases d with
    | ref id g sz0 off n =>
      simp only at h
      cases hr : x.h[id]? with
      | none => simp [hr] at h
      | some r =>
        cases r with
        | row g' sz' l =>
          simp only [hr] at h
          obtain ⟨⟨rfl, rfl, hoff, hsz⟩, hK⟩ := h
          obtain ⟨ab, cb, rfl, hcb, hrb⟩ := elems_rel hg hB hel
          obtain ⟨m, hm⟩ : ∃ m, m = min el.length n := ⟨_, rfl⟩
          have hRm : Reads x (el.take m) (.slice ab m cb) := ⟨ab, cb, by simp; omega, by simp; omega, by
            rcases hrb with h | ⟨g, o, sz, h1, h2⟩
            · left; simp [h]
            · exact .inr ⟨g, o, sz, h1, h2.take m⟩⟩
          obtain ⟨vs, v1, v2, v3⟩ := first_any (P := P) hRm (size := sz) (fun y hy => hsz y (List.mem_of_mem_take hy))
          have hml : (el.take m).length = m := by simp; omega
          have v3' : (Builtin.firstCells sz m (.slice ab el.length cb)).run P x.w = .ok vs.toArray x.w := by
            rw [first_len sz m ab el.length m cb cb]
            have := v3 x.w rfl
            rwa [hml] at this
          simp only [RelV, RelDC] at hA
          obtain ⟨base, cap, rfl, hcap, hbase, r, hr', hA⟩ := hA
          rw [hr] at hr'
          injection hr' with hr'
          subst hr'
          obtain ⟨-, hA⟩ := hA
          obtain ⟨e0, hA2⟩ := hA rfl
          clear hA
          have e0 := e0.symm
          subst e0
          have hrun : ∀ w' : World, (∀ a, base = some a → (storeCells a vs).run P x.w = .ok () w') → (base = none → w' = x.w) → (do pure (.value (← Builtin.copy_ #[t, t'] ty #[.slice base n cap, .slice ab el.length cb])) : Sem Next).run P x.w = .ok (.value (.int .i64 (m : Nat))) w' := by
            intro w' h1 h2
            refine run_v ?_
            have e1 : Nat.min el.length n = m := hm.symm
            cases base with
            | none =>
              rw [h2 rfl]
              simp [Builtin.copy_, run_underlying (elemT_some he), run_lenOf_slice, run_sizeT hs, e1, v3', goInt]
            | some a =>
              have := h1 a rfl
              simp [Builtin.copy_, run_underlying (elemT_some he), run_lenOf_slice, run_sizeT hs, e1, v3', goInt, this]
          rw [← hm] at hK
          rcases Nat.eq_zero_or_pos m with hm0 | hm0
          · subst hm0
            have hvs : vs = [] := List.eq_nil_of_length_eq_zero (by simpa using v2)
            subst hvs
            have hsame : x.h.set id (.row g sz (l.take off ++ el.take 0 ++ l.drop (off + 0))) = x.h := by
              simp only [List.take_zero, List.append_nil, Nat.add_zero, List.take_append_drop]
              apply List.ext_getElem?
              intro i
              by_cases hi : i = id
              · subst hi; simp [List.getElem?_set, (List.getElem?_eq_some_iff.1 hr).1, (List.getElem?_eq_some_iff.1 hr).2]
              · rw [List.getElem?_set_ne (Ne.symm hi)]
            rw [hsame] at hK
            exact ⟨_, _, x, _, hrun x.w (fun a _ => by simp [storeCells]) (fun _ => rfl), .inl rfl, hg, Nx.refl _ _, rel_int, hK⟩
          · have hn0 : 0 < n := by omega
            obtain ⟨bb, cs, tt, ff, hat, rfl, hb1, hb2⟩ := hA2.resolve_left (by omega)
            have hrow : ∃ ty, ff = (0, 0) ∧ tt = ty ∧ RelCs x.w x.F l.flatten (cs.toList.take (l.length * sz)) ∧ l.length * sz ≤ cs.size ∧ (∀ u, u ∈ l → u.length = sz) ∧ 0 < sz := by
              rcases (hg.root id _ hr).2 with ⟨e, k⟩ | ⟨b', cs', ty, f1, f2, f3⟩
              · rw [hat] at k; cases k
              · rw [hat] at f1; injection f1 with f1; subst f1
                rw [f2] at hb1
                injection hb1 with hb1
                injection hb1 with e1 e2 e3
                subst e1 e2 e3
                exact ⟨_, rfl, rfl, (rows_flat f2 f3).1, (rows_flat f2 f3).2, f3.sizes, (hg.root id _ hr).1⟩
            obtain ⟨ty', rfl, rfl, f4, f5, hlsz, hz0⟩ := hrow
            rw [hml] at v2
            have hoffm : off * sz + m * sz ≤ l.length * sz := by rw [← Nat.add_mul]; exact Nat.mul_le_mul_right _ (by omega)
            have hst := run_storeCells_at P bb (off * sz) tt vs 0 cs x.w hb1 (by omega) (relCs_one v1)
            simp only [Nat.add_zero, v2] at hst
            have hnew := setRow_heap x.w bb cs (cs.toList.take (off * sz) ++ vs ++ cs.toList.drop (off * sz + m * sz)).toArray tt (0, 0) hb1
            have hlen : (cs.toList.take (off * sz) ++ vs ++ cs.toList.drop (off * sz + m * sz)).length = cs.size := by simp; omega
            have hfl : (l.take off ++ el.take m ++ l.drop (off + m)).flatten = upd l.flatten (off * sz) (el.take m).flatten := by
              unfold upd
              rw [List.flatten_append, List.flatten_append, flat_take off hlsz, flat_drop (off + m) hlsz, flat_length (sz := sz) (fun u hu => hsz u (List.mem_of_mem_take hu)), hml, Nat.add_mul]
            have hsizes : ∀ u, u ∈ l.take off ++ el.take m ++ l.drop (off + m) → u.length = sz := by
              intro u hu
              simp only [List.mem_append] at hu
              rcases hu with (hu | hu) | hu
              · exact hlsz u (List.mem_of_mem_take hu)
              · exact hsz u (List.mem_of_mem_take hu)
              · exact hlsz u (List.mem_of_mem_drop hu)
            obtain ⟨g1, g2⟩ := step_set (fn := Fn_ nm) (r' := .row g sz (l.take off ++ el.take m ++ l.drop (off + m))) hg hr rfl rfl hat (w' := x.w.setRow bb (cs.toList.take (off * sz) ++ vs ++ cs.toList.drop (off * sz + m * sz)).toArray) rfl rfl rfl (setRow_size _ _ _) (fun c hc => setRow_other x.w bb c _ hc)
              (.inr ⟨rfl, rfl, rfl, fun b' cs' t' f' k1 k2 => by
                rw [hat] at k1; injection k1 with k1; subst k1
                rw [hb1] at k2; injection k2 with k2; injection k2 with k2 _ _; subst k2
                exact ⟨_, tt, (0, 0), hnew, by simpa using Nat.le_of_eq hlen.symm⟩⟩)
              (fun hm' => ⟨hz0, .inr ⟨bb, _, tt, hat, hnew, by
                refine rows_of_flat (vs := (cs.toList.take (off * sz) ++ vs ++ cs.toList.drop (off * sz + m * sz)).take (l.length * sz)) hnew hsizes ?_ (by simpa using List.take_prefix _ _)
                rw [hfl]
                refine RelCs.stay hm'.F ?_
                have := upd_rel f4 v1 (off := off * sz) (n := m * sz) (by rw [flat_length (sz := sz) (fun u hu => hsz u (List.mem_of_mem_take hu)), hml])
                rwa [take_upd cs.toList vs (off * sz) (m * sz) (l.length * sz) v2 hoffm (by simpa using f5)] at this⟩⟩)
            exact ⟨_, _, _, _, hrun _ (fun a ha => by injection ha with ha; subst ha; exact hst) (fun h => by cases h), .inl rfl, g1, g2 _, rel_int, hK⟩
        | _ => simp [hr] at h
    | _ => exact h.elim
  | _ => exact h.elim
end
end Go.Lx
