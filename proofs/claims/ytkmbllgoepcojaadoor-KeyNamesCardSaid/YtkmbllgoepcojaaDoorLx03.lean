import Derived.Test.YtkmbllgoepcojaaDoorLx02
import Derived.Below
/- How values without addresses are found in the machine's memory; what keeps being found when memory changes. -/
set_option linter.unusedVariables false
namespace Go.Lx

/-! ### pure data in memory -/
def Nil.val : Nil → Value
  | .ptr => .pointer none
  | .func => .nilFunc
  | .iface => .nilIface
  | .map => .map none
  | .chan => .chan none

mutual
/-- a cell that holds data; what it leads to lies in blocks of F -/
def RelC (w : World) (F : Nat → Prop) : C → Value → Prop
  | .int k n, v => v = .int k n
  | .bool b, v => v = .bool b
  | .flt n, v => v = .float .f64 n
  | .str s, v => v = .string s
  | .nil k, v => v = k.val
  | .sl l, v => ∃ a cap, v = .slice a l.length cap ∧ l.length ≤ cap ∧ (l = [] ∨ ∃ g o sz, a = some ⟨g, o, none⟩ ∧ F g ∧ RelRows w F g sz l o)
/-- elements one behind the other -/
def RelRows (w : World) (F : Nat → Prop) (g sz : Nat) : List (List C) → Nat → Prop
  | [], _ => True
  | x :: r, o => x.length = sz ∧ RelAt w F g x o ∧ RelRows w F g sz r (o + sz)
/-- cells one behind the other -/
def RelAt (w : World) (F : Nat → Prop) (g : Nat) : List C → Nat → Prop
  | [], _ => True
  | c :: r, o => (∃ v, w.cell? ⟨g, o, none⟩ = some v ∧ RelC w F c v) ∧ RelAt w F g r (o + 1)
end

/-- cells of a value -/
def RelCs (w : World) (F : Nat → Prop) : U → List Value → Prop
  | [], [] => True
  | c :: r, v :: s => RelC w F c v ∧ RelCs w F r s
  | _, _ => False

/-- memory as it may be looked at: the world, what is only read, where the own blocks lie, these -/
structure Cx where
  w : World
  F : Nat → Prop
  at_ : Nat → Option Nat
  h : List Root

/-- the numbers of functions -/
abbrev Nums := Nat → FuncId → Prop

mutual
def RelDC (fn : Nums) (x : Cx) : DC → Value → Prop
  | .c c, v => RelC x.w x.F c v
  | .full l, v => ∃ a, v = .slice a l.length l.length ∧ (l = [] ∨ ∃ g o sz, a = some ⟨g, o, none⟩ ∧ x.F g ∧ RelRows x.w x.F g sz l o)
  | .ref id gen sz' off len, v => ∃ a cap, v = .slice a len cap ∧ len ≤ cap ∧ (cap = 0 ∨ ∃ g o, a = some ⟨g, o, none⟩) ∧ ∃ r, x.h[id]? = some r ∧ match r with
    | .row g sz _ | .lock g sz _ => gen ≤ g ∧ (gen = g → sz' = sz ∧ (cap = 0 ∨ ∃ b cs t f, x.at_ id = some b ∧ a = some ⟨b, off * sz, none⟩ ∧ x.w.heap[b]? = some (.cells cs t f) ∧ (off + cap) * sz ≤ cs.size))
    | _ => False
  | .ptr id off, v => ∃ b r, x.h[id]? = some r ∧ x.at_ id = some b ∧ v = .pointer (some ⟨b, off, none⟩) ∧ match r with
    | .boxu _ | .boxd _ => True
    | _ => False
  | .eptr id gen i off, v => ∃ a, v = .pointer (some a) ∧ ∃ r, x.h[id]? = some r ∧ match r with
    | .row g sz _ | .lock g sz _ => gen ≤ g ∧ (gen = g → ∃ b, x.at_ id = some b ∧ a = ⟨b, i * sz + off, none⟩)
    | _ => False
  | .iptr u off, v => ∃ g o, v = .pointer (some ⟨g, o + off, none⟩) ∧ x.F g ∧ RelAt x.w x.F g u o
  | .raw u, v => v = u ∧ u.cells = #[u] ∧ u.oneCell' = true
  | .ifc t d, v => ∃ u, v = .iface t u ∧ RelDC fn x d u
  | .clo f first caps, v => ∃ k fs cs, v = .func (.func k) fs cs ∧ fn f k ∧ RelDCs fn x first fs.toList ∧ RelDCs fn x caps cs.toList
  | .mp id, v => ∃ b l, x.h[id]? = some (.map l) ∧ x.at_ id = some b ∧ v = .map (some b)
def RelDCs (fn : Nums) (x : Cx) : List DC → List Value → Prop
  | [], [] => True
  | c :: r, v :: s => RelDC fn x c v ∧ RelDCs fn x r s
  | _, _ => False
end

mutual
def RelV (fn : Nums) (x : Cx) : V → Value → Prop
  | .s d, v => RelDC fn x d v
  | .a u, v => ∃ cs, v = .agg cs ∧ RelCs x.w x.F u cs.toList
  | .m l, v => ∃ cs, v = .agg cs ∧ RelDCs fn x l cs.toList
  | .tup l, v => ∃ vs, v = .tuple vs ∧ RelVs fn x l vs.toList
  | .bot, _ => True
def RelVs (fn : Nums) (x : Cx) : List V → List Value → Prop
  | [], [] => True
  | c :: r, v :: s => RelV fn x c v ∧ RelVs fn x r s
  | _, _ => False
end

def RelEs (fn : Nums) (x : Cx) : List (V × V) → List MapEntry → Prop
  | [], [] => True
  | p :: r, e :: s => (p.1.isPure = true ∧ p.2.isPure = true ∧ RelV fn x p.1 e.key ∧ RelV fn x p.2 e.val) ∧ RelEs fn x r s
  | _, _ => False

/-- an own block -/
def RelRoot (fn : Nums) (x : Cx) (id : Nat) : Root → Prop
  | .boxu u => ∃ b cs t, x.at_ id = some b ∧ x.w.heap[b]? = some (.cells cs t (0, 0)) ∧ RelCs x.w x.F u cs.toList
  | .boxd l => ∃ b cs t, x.at_ id = some b ∧ x.w.heap[b]? = some (.cells cs t (0, 0)) ∧ RelDCs fn x l cs.toList
  | .row _ sz l => 0 < sz ∧ (l = [] ∧ x.at_ id = none ∨ ∃ b cs t, x.at_ id = some b ∧ x.w.heap[b]? = some (.cells cs t (0, 0)) ∧ RelRows x.w x.F b sz l 0)
  | .lock _ sz l => 0 < sz ∧ (l = [] ∧ x.at_ id = none ∨ ∃ b, x.at_ id = some b ∧ x.F b ∧ RelRows x.w x.F b sz l 0)
  | .map l => ∃ b es n, x.at_ id = some b ∧ x.w.heap[b]? = some (.map es n) ∧ RelEs fn x l es.toList
  | .dead => True

def Root.owns : Root → Bool
  | .lock _ _ _ | .dead => false
  | _ => true

/-- the own blocks' numbers -/
def Cx.own (x : Cx) (b : Nat) : Prop := ∃ id r, x.h[id]? = some r ∧ r.owns = true ∧ x.at_ id = some b

/-- the library's tables that the program's text lays, by number -/
def tabCode : Nat := 4000000
def tabOff : Nat := 1000000
def tabCells : Nat → Array Value
  | 0 => ((List.range 20).map fun i => Value.int .u64 ((10 ^ i : Nat) : Int)).toArray
  | _ => #[]
def TabAt (w : World) (c b : Nat) : Prop := ∃ t f, w.heap[b]? = some (.cells (tabCells c) t f)

structure Good (fn : Nums) (x : Cx) : Prop where
  root : ∀ id r, x.h[id]? = some r → RelRoot fn x id r
  one : ∀ id id' r r' b, x.h[id]? = some r → x.h[id']? = some r' → r.owns = true → r'.owns = true → x.at_ id = some b → x.at_ id' = some b → id = id'
  apart : ∀ b, x.own b → ¬ x.F b
  lt : ∀ b, x.F b → b < x.w.heap.size
  ltOwn : ∀ b, x.own b → b < x.w.heap.size
  base : ∀ c b, fn (tabCode + c) (b + tabOff) → x.F b ∧ TabAt x.w c b
theorem Good.base_mv {fn : Nums} {x x' : Cx} (hg : Good fn x) (hF : ∀ b, x.F b → x'.F b ∧ x'.w.heap[b]? = x.w.heap[b]?) : ∀ c b, fn (tabCode + c) (b + tabOff) → x'.F b ∧ TabAt x'.w c b := by
  intro c b h
  obtain ⟨h1, t, f, h2⟩ := hg.base c b h
  obtain ⟨h3, h4⟩ := hF b h1
  exact ⟨h3, t, f, by rw [h4]; exact h2⟩

/-! ### what stays -/
/-- cells that lie in blocks that stay as they are -/
theorem cell_same {w w' : World} {g : Nat} (h : w'.heap[g]? = w.heap[g]?) (o : Nat) : w'.cell? ⟨g, o, none⟩ = w.cell? ⟨g, o, none⟩ := by
  simp [World.cell?, h]

mutual
theorem RelC.stay {w w' : World} {F F' : Nat → Prop} (hF : ∀ b, F b → F' b ∧ w'.heap[b]? = w.heap[b]?) : ∀ {c : C} {v}, RelC w F c v → RelC w' F' c v
  | .int k n, v, h | .bool _, v, h | .flt _, v, h | .str _, v, h | .nil _, v, h => by simpa [RelC] using h
  | .sl l, v, h => by
    simp only [RelC] at h ⊢
    obtain ⟨a, cap, h1, h2, h3⟩ := h
    refine ⟨a, cap, h1, h2, ?_⟩
    rcases h3 with h3 | ⟨g, o, sz, h4, h5, h6⟩
    · exact .inl h3
    · exact .inr ⟨g, o, sz, h4, (hF g h5).1, RelRows.stay hF (hF g h5).2 h6⟩
theorem RelRows.stay {w w' : World} {F F' : Nat → Prop} (hF : ∀ b, F b → F' b ∧ w'.heap[b]? = w.heap[b]?) {g sz : Nat} (hg : w'.heap[g]? = w.heap[g]?) : ∀ {l : List (List C)} {o}, RelRows w F g sz l o → RelRows w' F' g sz l o
  | [], o, h => by simp [RelRows]
  | x :: r, o, h => by
    simp only [RelRows] at h ⊢
    exact ⟨h.1, RelAt.stay hF hg h.2.1, RelRows.stay hF hg h.2.2⟩
theorem RelAt.stay {w w' : World} {F F' : Nat → Prop} (hF : ∀ b, F b → F' b ∧ w'.heap[b]? = w.heap[b]?) {g : Nat} (hg : w'.heap[g]? = w.heap[g]?) : ∀ {l : List C} {o}, RelAt w F g l o → RelAt w' F' g l o
  | [], o, h => by simp [RelAt]
  | x :: r, o, h => by
    simp only [RelAt] at h ⊢
    obtain ⟨⟨v, h1, h2⟩, h3⟩ := h
    exact ⟨⟨v, by rw [cell_same hg]; exact h1, RelC.stay hF h2⟩, RelAt.stay hF hg h3⟩
end

theorem RelCs.stay {w w' : World} {F F' : Nat → Prop} (hF : ∀ b, F b → F' b ∧ w'.heap[b]? = w.heap[b]?) : ∀ {l : U} {vs}, RelCs w F l vs → RelCs w' F' l vs
  | [], [], _ => trivial
  | c :: r, v :: s, h => ⟨RelC.stay hF h.1, RelCs.stay hF h.2⟩
  | [], _ :: _, h => h.elim
  | _ :: _, [], h => h.elim

/-- an own block, seen from before and behind a change -/
def RootLe (x x' : Cx) (id : Nat) : Root → Root → Prop
  | .boxu _, .boxu _ | .boxu _, .boxd _ | .boxd _, .boxu _ | .boxd _, .boxd _ => x'.at_ id = x.at_ id
  | .map _, .map _ => x'.at_ id = x.at_ id
  | .row g sz _, .row g' sz' _ | .row g sz _, .lock g' sz' _ | .lock g sz _, .lock g' sz' _ =>
    g < g' ∨ (g = g' ∧ sz = sz' ∧ x'.at_ id = x.at_ id ∧ ∀ b cs t f, x.at_ id = some b → x.w.heap[b]? = some (.cells cs t f) → ∃ cs' t' f', x'.w.heap[b]? = some (.cells cs' t' f') ∧ cs.size ≤ cs'.size)
  | .dead, _ => True
  | _, _ => False

structure Mv (x x' : Cx) : Prop where
  F : ∀ b, x.F b → x'.F b ∧ x'.w.heap[b]? = x.w.heap[b]?
  root : ∀ (id : Nat) (r : Root), x.h[id]? = some r → ∃ r' : Root, x'.h[id]? = some r' ∧ RootLe x x' id r r'

mutual
theorem RelDC.mv {fn : Nums} {x x' : Cx} (hm : Mv x x') : ∀ {d : DC} {v}, RelDC fn x d v → RelDC fn x' d v
  | .c c, v, h => by simp only [RelDC] at h ⊢; exact RelC.stay hm.F h
  | .full l, v, h => by
    simp only [RelDC] at h ⊢
    obtain ⟨a, h1, h3⟩ := h
    refine ⟨a, h1, ?_⟩
    rcases h3 with h3 | ⟨g, o, sz, h4, h5, h6⟩
    · exact .inl h3
    · exact .inr ⟨g, o, sz, h4, (hm.F g h5).1, RelRows.stay hm.F (hm.F g h5).2 h6⟩
  | .ref id gen sz' off len, v, h => by
    simp only [RelDC] at h ⊢
    obtain ⟨a, cap, h1, hle, hsm, r, h2, h3⟩ := h
    refine ⟨a, cap, h1, hle, hsm, ?_⟩
    obtain ⟨r', h4, h5⟩ := hm.root id r h2
    refine ⟨r', h4, ?_⟩
    cases r <;> simp only at h3 <;> cases r' <;> simp only [RootLe] at h5 ⊢
    all_goals
      refine ⟨by rcases h5 with h5 | h5 <;> omega, fun he => ?_⟩
      rcases h5 with h5 | ⟨h5, h6, h7, h8⟩
      · omega
      · obtain ⟨e0, e3⟩ := h3.2 (by omega)
        refine ⟨by omega, ?_⟩
        rcases e3 with e3 | ⟨b, cs, t, f, e4, e5, e6, e7⟩
        · exact .inl e3
        · obtain ⟨cs', t', f', e8, e9⟩ := h8 b cs t f e4 e6
          exact .inr ⟨b, cs', t', f', by rw [h7]; exact e4, by rw [← h6]; exact e5, e8, by rw [← h6]; omega⟩
  | .ptr id off, v, h => by
    simp only [RelDC] at h ⊢
    obtain ⟨b, r, h1, h2, h3, h4⟩ := h
    obtain ⟨r', h5, h6⟩ := hm.root id r h1
    cases r <;> simp only at h4 <;> cases r' <;> simp only [RootLe] at h6
    all_goals exact ⟨b, _, h5, by rw [h6]; exact h2, h3, trivial⟩
  | .eptr id gen i off, v, h => by
    simp only [RelDC] at h ⊢
    obtain ⟨a, h1, r, h2, h3⟩ := h
    refine ⟨a, h1, ?_⟩
    obtain ⟨r', h4, h5⟩ := hm.root id r h2
    refine ⟨r', h4, ?_⟩
    cases r <;> simp only at h3 <;> cases r' <;> simp only [RootLe] at h5 ⊢
    all_goals
      refine ⟨by rcases h5 with h5 | h5 <;> omega, fun he => ?_⟩
      rcases h5 with h5 | ⟨h5, h6, h7, h8⟩
      · omega
      · obtain ⟨b, e1, e2⟩ := h3.2 (by omega)
        exact ⟨b, by rw [h7]; exact e1, by rw [← h6]; exact e2⟩
  | .iptr u off, v, h => by
    simp only [RelDC] at h ⊢
    obtain ⟨g, o, h1, h2, h3⟩ := h
    exact ⟨g, o, h1, (hm.F g h2).1, RelAt.stay hm.F (hm.F g h2).2 h3⟩
  | .raw u, v, h => by simpa only [RelDC] using h
  | .ifc t d, v, h => by
    simp only [RelDC] at h ⊢
    obtain ⟨u, h1, h2⟩ := h
    exact ⟨u, h1, RelDC.mv hm h2⟩
  | .clo f first caps, v, h => by
    simp only [RelDC] at h ⊢
    obtain ⟨k, fs, cs, h1, h2, h3, h4⟩ := h
    exact ⟨k, fs, cs, h1, h2, RelDCs.mv hm h3, RelDCs.mv hm h4⟩
  | .mp id, v, h => by
    simp only [RelDC] at h ⊢
    obtain ⟨b, l, h1, h2, h3⟩ := h
    obtain ⟨r', h4, h5⟩ := hm.root id _ h1
    cases r' <;> simp only [RootLe] at h5
    exact ⟨b, _, h4, by rw [h5]; exact h2, h3⟩
theorem RelDCs.mv {fn : Nums} {x x' : Cx} (hm : Mv x x') : ∀ {l : List DC} {vs}, RelDCs fn x l vs → RelDCs fn x' l vs
  | [], [], _ => by simp [RelDCs]
  | c :: r, v :: s, h => by simp only [RelDCs] at h ⊢; exact ⟨RelDC.mv hm h.1, RelDCs.mv hm h.2⟩
  | [], _ :: _, h => by simp [RelDCs] at h
  | _ :: _, [], h => by simp [RelDCs] at h
end

mutual
theorem RelV.mv {fn : Nums} {x x' : Cx} (hm : Mv x x') : ∀ {d : V} {v}, RelV fn x d v → RelV fn x' d v
  | .s d, v, h => by simp only [RelV] at h ⊢; exact RelDC.mv hm h
  | .a u, v, h => by simp only [RelV] at h ⊢; obtain ⟨cs, h1, h2⟩ := h; exact ⟨cs, h1, RelCs.stay hm.F h2⟩
  | .m l, v, h => by simp only [RelV] at h ⊢; obtain ⟨cs, h1, h2⟩ := h; exact ⟨cs, h1, RelDCs.mv hm h2⟩
  | .tup l, v, h => by simp only [RelV] at h ⊢; obtain ⟨cs, h1, h2⟩ := h; exact ⟨cs, h1, RelVs.mv hm h2⟩
  | .bot, v, h => by simp [RelV]
theorem RelVs.mv {fn : Nums} {x x' : Cx} (hm : Mv x x') : ∀ {l : List V} {vs}, RelVs fn x l vs → RelVs fn x' l vs
  | [], [], _ => by simp [RelVs]
  | c :: r, v :: s, h => by simp only [RelVs] at h ⊢; exact ⟨RelV.mv hm h.1, RelVs.mv hm h.2⟩
  | [], _ :: _, h => by simp [RelVs] at h
  | _ :: _, [], h => by simp [RelVs] at h
end

theorem RelEs.mv {fn : Nums} {x x' : Cx} (hm : Mv x x') : ∀ {l : List (V × V)} {vs}, RelEs fn x l vs → RelEs fn x' l vs
  | [], [], _ => trivial
  | c :: r, v :: s, h => ⟨⟨h.1.1, h.1.2.1, RelV.mv hm h.1.2.2.1, RelV.mv hm h.1.2.2.2⟩, RelEs.mv hm h.2⟩
  | [], _ :: _, h => h.elim
  | _ :: _, [], h => h.elim

/-- The step from one look at memory to a later one: what was not the call's own stays, what is its own was or is new, what could be read can be read. -/
structure Nx (n0 : Nat) (x x' : Cx) : Prop where
  os : x'.w.os = x.w.os
  tape : x'.w.tape = x.w.tape
  output : x'.w.output = x.w.output
  size : x.w.heap.size ≤ x'.w.heap.size
  keep : ∀ b, b < x.w.heap.size → ¬ x.own b → x'.w.heap[b]? = x.w.heap[b]?
  own : ∀ b, x'.own b → x.own b ∨ x.w.heap.size ≤ b
  fout : ∀ b, x'.F b → x.F b ∨ x.own b ∨ x.w.heap.size ≤ b
  mv : ∀ (fn : Nums) (v : V) (u : Value), v.under n0 = true → RelV fn x v u → RelV fn x' v u

theorem Nx.refl (n0 : Nat) (x : Cx) : Nx n0 x x := ⟨rfl, rfl, rfl, Nat.le_refl _, fun _ _ _ => rfl, fun _ h => .inl h, fun _ h => .inl h, fun _ _ _ _ h => h⟩
theorem Nx.trans {n0 : Nat} {x y z : Cx} (h : Nx n0 x y) (k : Nx n0 y z) : Nx n0 x z where
  os := k.os.trans h.os
  tape := k.tape.trans h.tape
  output := k.output.trans h.output
  size := Nat.le_trans h.size k.size
  keep b hb ho := by
    rw [k.keep b (Nat.lt_of_lt_of_le hb h.size) (fun hy => ?_), h.keep b hb ho]
    rcases h.own b hy with hx | hx
    · exact ho hx
    · omega
  own b hb := by
    rcases k.own b hb with hy | hy
    · exact h.own b hy
    · exact .inr (Nat.le_trans h.size hy)
  fout b hb := by
    rcases k.fout b hb with hy | hy | hy
    · exact h.fout b hy
    · rcases h.own b hy with hx | hx
      · exact .inr (.inl hx)
      · exact .inr (.inr hx)
    · exact .inr (.inr (Nat.le_trans h.size hy))
  mv fn v u hn hv := k.mv fn v u hn (h.mv fn v u hn hv)

end Go.Lx
