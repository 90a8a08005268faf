import Derived.Test.YtkmbllgoepcojaaDoorLx13
import Derived.Laws.AppendOwn
import Derived.Laws.MakeOwn
/- Operations that make or change blocks of the call's own: what the machine does, first part. -/
set_option linter.unusedVariables false
set_option linter.unusedSimpArgs false
namespace Go.Lx
section
variable {P : Program} {fn : Nums} {x : Cx}

/-! ### what is named is there -/
mutual
theorem RelDC.under : ∀ {d : DC} {v}, RelDC fn x d v → d.under x.h.length = true
  | .c _, v, h | .full _, v, h | .iptr _ _, v, h | .raw _, v, h => by simp [DC.under]
  | .ifc t d, v, h => by
    simp only [RelDC] at h
    obtain ⟨u, _, h⟩ := h
    simp only [DC.under]
    exact RelDC.under h
  | .ref id g sz off n, v, h => by
    simp only [RelDC] at h
    obtain ⟨a, cap, _, _, _, r, h1, _⟩ := h
    simp [DC.under, (List.getElem?_eq_some_iff.1 h1).1]
  | .ptr id off, v, h => by
    simp only [RelDC] at h
    obtain ⟨b, r, h1, _⟩ := h
    simp [DC.under, (List.getElem?_eq_some_iff.1 h1).1]
  | .eptr id g i off, v, h => by
    simp only [RelDC] at h
    obtain ⟨a, _, r, h1, _⟩ := h
    simp [DC.under, (List.getElem?_eq_some_iff.1 h1).1]
  | .mp id, v, h => by
    simp only [RelDC] at h
    obtain ⟨b, l, h1, _⟩ := h
    simp [DC.under, (List.getElem?_eq_some_iff.1 h1).1]
  | .clo f p q, v, h => by
    simp only [RelDC] at h
    obtain ⟨k, fs, cs, _, _, h1, h2⟩ := h
    have k1 := RelDCs.under h1
    have k2 := RelDCs.under h2
    simp only [DC.under, DC.unders_eq, Bool.and_eq_true]
    exact ⟨k1, k2⟩
theorem RelDCs.under : ∀ {l : List DC} {vs}, RelDCs fn x l vs → l.all (DC.under x.h.length) = true
  | [], [], _ => rfl
  | c :: r, v :: s, h => by simp only [RelDCs] at h; simp [RelDC.under h.1, RelDCs.under h.2]
  | [], _ :: _, h => by simp [RelDCs] at h
  | _ :: _, [], h => by simp [RelDCs] at h
end
mutual
theorem RelV.under : ∀ {d : V} {v}, RelV fn x d v → d.under x.h.length = true
  | .s d, v, h => by simp only [RelV] at h; simp [V.under, RelDC.under h]
  | .a u, v, h => by simp [V.under]
  | .m l, v, h => by simp only [RelV] at h; obtain ⟨cs, _, h1⟩ := h; simp only [V.under]; exact RelDCs.under h1
  | .tup l, v, h => by
    simp only [RelV] at h
    obtain ⟨vs, _, h1⟩ := h
    have := RelVs.under h1
    simp only [V.under, V.unders_eq]
    exact this
  | .bot, v, h => by simp [V.under]
theorem RelVs.under : ∀ {l : List V} {vs}, RelVs fn x l vs → l.all (V.under x.h.length) = true
  | [], [], _ => rfl
  | c :: r, v :: s, h => by simp only [RelVs] at h; simp [RelV.under h.1, RelVs.under h.2]
  | [], _ :: _, h => by simp [RelVs] at h
  | _ :: _, [], h => by simp [RelVs] at h
end

theorem RelT.mv {s : St} {a : Act} {x' : Cx} (h : RelT fn x s a) (hn : Nx x.h.length x x') : RelT fn x' s a := by
  intro n p hp
  rcases h n p hp with ⟨h1, h2⟩ | h1
  · exact .inl ⟨h1, hn.mv fn _ _ h2.under h2⟩
  · exact .inr h1

/-! ### rows out of cells -/
theorem RelCs.at' {w F} {g : Nat} {cs : Array Value} {t f} (hb : w.heap[g]? = some (.cells cs t f)) : ∀ {u : U} {vs : List Value} {o}, RelCs w F u vs → vs <+: cs.toList.drop o → RelAt w F g u o
  | [], _, o, _, _ => by simp [RelAt]
  | c :: r, [], o, h, _ => h.elim
  | c :: r, v :: s, o, h, hp => by
    obtain ⟨t', ht⟩ := hp
    have hlt : o < cs.size := by
      rcases Nat.lt_or_ge o cs.size with h' | h'
      · exact h'
      · rw [List.drop_eq_nil_of_le (by simpa using h')] at ht; simp at ht
    have hd := List.drop_eq_getElem_cons (l := cs.toList) (i := o) (by simpa using hlt)
    rw [hd] at ht
    simp only [List.cons_append, List.cons.injEq] at ht
    simp only [RelAt]
    exact ⟨⟨v, by simp only [World.cell?, hb]; simp [hlt, ht.1], h.1⟩, RelCs.at' hb h.2 ⟨t', ht.2⟩⟩

theorem RelCs.split {w F} : ∀ {u u' : U} {vs}, RelCs w F (u ++ u') vs → ∃ v1 v2, vs = v1 ++ v2 ∧ RelCs w F u v1 ∧ RelCs w F u' v2
  | [], u', vs, h => ⟨[], vs, rfl, trivial, h⟩
  | c :: u, u', v :: vs, h => by
    obtain ⟨v1, v2, rfl, h1, h2⟩ := RelCs.split (u := u) h.2
    exact ⟨v :: v1, v2, rfl, ⟨h.1, h1⟩, h2⟩
  | _ :: _, _, [], h => h.elim

theorem rows_of_flat {w F} {g : Nat} {cs : Array Value} {t f} (hb : w.heap[g]? = some (.cells cs t f)) {sz : Nat} : ∀ {l : List U} {vs : List Value} {o : Nat}, (∀ u, u ∈ l → u.length = sz) → RelCs w F l.flatten vs → vs <+: cs.toList.drop o → RelRows w F g sz l o
  | [], vs, o, _, _, _ => by simp [RelRows]
  | u :: l, vs, o, hs, h, hp => by
    rw [List.flatten_cons] at h
    obtain ⟨v1, v2, rfl, h1, h2⟩ := RelCs.split h
    have hl : v1.length = sz := by rw [← RelCs.length h1]; exact hs u (by simp)
    obtain ⟨t', ht⟩ := hp
    simp only [RelRows]
    refine ⟨hs u (by simp), RelCs.at' hb h1 ⟨v2 ++ t', by rw [← ht, List.append_assoc]⟩, rows_of_flat hb (fun u hu => hs u (by simp [hu])) h2 ⟨t', ?_⟩⟩
    rw [← List.drop_drop, ← ht, ← hl, List.append_assoc, List.drop_left]

/-- the cells of elements that lie somewhere -/
theorem rows_load {w F g sz} : ∀ {l : List U} {o : Nat}, RelRows w F g sz l o → ∃ vs, RelCs w F l.flatten vs ∧ vs.length = l.length * sz ∧ ∀ (j : Nat) (v : Value), vs[j]? = some v → w.cell? ⟨g, o + j, none⟩ = some v
  | [], o, _ => ⟨[], trivial, by simp, fun j v h => by simp at h⟩
  | u :: l, o, h => by
    simp only [RelRows] at h
    obtain ⟨v1, h1, h2⟩ := h.2.1.load
    obtain ⟨v2, h3, h4, h5⟩ := rows_load h.2.2
    have hl : v1.length = sz := by rw [← RelCs.length h1, h.1]
    refine ⟨v1 ++ v2, by rw [List.flatten_cons]; exact h1.append h3, by simp [hl, h4, Nat.add_mul]; omega, fun j v hj => ?_⟩
    rw [List.getElem?_append] at hj
    split at hj
    · exact h2 j v hj
    · have := h5 _ v hj
      rwa [show o + sz + (j - v1.length) = o + j by omega] at this

theorem relCs_one {w F} : ∀ {u : U} {vs}, RelCs w F u vs → ∀ v ∈ vs, v.oneCell' = true
  | [], [], _, v, h => by simp at h
  | c :: r, v0 :: s, h, v, hv => by
    rcases List.mem_cons.1 hv with e | e
    · rw [e]; exact (relC_cells h.1).2
    · exact relCs_one h.2 v e
  | [], _ :: _, h, _, _ => h.elim
  | _ :: _, [], h, _, _ => h.elim
theorem relDCs_one : ∀ {u : List DC} {vs}, RelDCs fn x u vs → ∀ v ∈ vs, v.oneCell' = true
  | [], [], _, v, h => by simp at h
  | c :: r, v0 :: s, h, v, hv => by
    simp only [RelDCs] at h
    rcases List.mem_cons.1 hv with e | e
    · rw [e]; exact (relDC_cells h.1).2
    · exact relDCs_one h.2 v e
  | [], _ :: _, h, _, _ => by simp [RelDCs] at h
  | _ :: _, [], h, _, _ => by simp [RelDCs] at h

/-! ### a block laid new -/
theorem push_old (w : World) (o : Obj) (b : Nat) (h : b < w.heap.size) : (w.heap.push o)[b]? = w.heap[b]? := by
  rw [Array.getElem?_push_lt h]
  simp [h]
theorem push_new (w : World) (o : Obj) : (w.heap.push o)[w.heap.size]? = some o := by simp

/-- a new block, told by r' -/
def Cx.more (x : Cx) (o : Obj) (r' : Root) : Cx := { w := x.w.alloc o, F := x.F, at_ := setAt x.at_ x.h.length (some x.w.heap.size), h := x.h ++ [r'] }

theorem step_more (hg : Good fn x) {o : Obj} {r' : Root} (ho : r'.owns = true) (hrel : Mv x (x.more o r') → RelRoot fn (x.more o r') x.h.length r') : Good fn (x.more o r') ∧ ∀ n0, Nx n0 x (x.more o r') :=
  step_new hg (x' := x.more o r') rfl rfl rfl ho rfl rfl rfl (by show x.w.heap.size ≤ (x.w.heap.push o).size; simp) (fun b hb => push_old _ _ _ hb) (fun b hb => by injection hb with hb; subst hb; exact ⟨Nat.le_refl _, by show x.w.heap.size < (x.w.heap.push o).size; simp⟩) hrel

theorem more_cell (o : Obj) (r' : Root) : (x.more o r').w.heap[x.w.heap.size]? = some o := push_new _ _

theorem new_boxu (hg : Good fn x) {u : U} {cs : Array Value} {t : TypeId} (h : RelCs x.w x.F u cs.toList) :
    Good fn (x.more (.cells cs t) (.boxu u)) ∧ (∀ n0, Nx n0 x (x.more (.cells cs t) (.boxu u))) ∧ RelV fn (x.more (.cells cs t) (.boxu u)) (.s (.ptr x.h.length 0)) (.pointer (some ⟨x.w.heap.size, 0, none⟩)) := by
  obtain ⟨h1, h2⟩ := step_more (fn := fn) (o := .cells cs t) (r' := .boxu u) hg rfl (fun hm => ⟨_, cs, t, by simp [Cx.more], more_cell _ _, RelCs.stay hm.F h⟩)
  refine ⟨h1, h2, ?_⟩
  simp only [RelV, RelDC]
  exact ⟨_, .boxu u, by simp [Cx.more], by simp [Cx.more], rfl, trivial⟩
theorem new_boxd (hg : Good fn x) {u : List DC} {cs : Array Value} {t : TypeId} (h : RelDCs fn x u cs.toList) :
    Good fn (x.more (.cells cs t) (.boxd u)) ∧ (∀ n0, Nx n0 x (x.more (.cells cs t) (.boxd u))) ∧ RelV fn (x.more (.cells cs t) (.boxd u)) (.s (.ptr x.h.length 0)) (.pointer (some ⟨x.w.heap.size, 0, none⟩)) := by
  obtain ⟨h1, h2⟩ := step_more (fn := fn) (o := .cells cs t) (r' := .boxd u) hg rfl (fun hm => ⟨_, cs, t, by simp [Cx.more], more_cell _ _, RelDCs.mv hm h⟩)
  refine ⟨h1, h2, ?_⟩
  simp only [RelV, RelDC]
  exact ⟨_, .boxd u, by simp [Cx.more], by simp [Cx.more], rfl, trivial⟩
theorem new_row (hg : Good fn x) {l : List U} {sz : Nat} {cs : Array Value} {t : TypeId} {vs : List Value} (hsz : 0 < sz) (hs : ∀ u, u ∈ l → u.length = sz) (h : RelCs x.w x.F l.flatten vs) (hp : vs <+: cs.toList) {cap : Nat} (hc : l.length ≤ cap) (hcs : cap * sz ≤ cs.size) :
    Good fn (x.more (.cells cs t) (.row 0 sz l)) ∧ (∀ n0, Nx n0 x (x.more (.cells cs t) (.row 0 sz l))) ∧ RelV fn (x.more (.cells cs t) (.row 0 sz l)) (.s (.ref x.h.length 0 sz 0 l.length)) (.slice (some ⟨x.w.heap.size, 0, none⟩) l.length cap) := by
  obtain ⟨h1, h2⟩ := step_more (fn := fn) (o := .cells cs t) (r' := .row 0 sz l) hg rfl (fun hm => ⟨hsz, .inr ⟨_, cs, t, by simp [Cx.more], more_cell _ _, rows_of_flat (more_cell _ _) hs (RelCs.stay hm.F h) (by simpa using hp)⟩⟩)
  refine ⟨h1, h2, ?_⟩
  simp only [RelV, RelDC]
  refine ⟨_, cap, rfl, hc, .inr ⟨_, _, rfl⟩, .row 0 sz l, by simp [Cx.more], Nat.le_refl _, fun _ => ⟨rfl, .inr ⟨_, cs, t, (0, 0), by simp [Cx.more], by simp, more_cell _ _, by simpa using hcs⟩⟩⟩
theorem new_map (hg : Good fn x) : Good fn (x.more (.map #[] 0) (.map [])) ∧ (∀ n0, Nx n0 x (x.more (.map #[] 0) (.map []))) ∧ RelV fn (x.more (.map #[] 0) (.map [])) (.s (.mp x.h.length)) (.map (some x.w.heap.size)) := by
  obtain ⟨h1, h2⟩ := step_more (fn := fn) (o := .map #[] 0) (r' := .map []) hg rfl (fun hm => ⟨_, #[], 0, by simp [Cx.more], more_cell _ _, trivial⟩)
  refine ⟨h1, h2, ?_⟩
  simp only [RelV, RelDC]
  exact ⟨_, [], by simp [Cx.more], by simp [Cx.more], rfl⟩

/-- an own box written -/
def Cx.put (x : Cx) (w' : World) (id : Nat) (r' : Root) : Cx := { w := w', F := x.F, at_ := x.at_, h := x.h.set id r' }
theorem setAt_same {f : Nat → Option Nat} {id : Nat} {b : Option Nat} (h : f id = b) : setAt f id b = f := by
  funext i
  by_cases e : i = id
  · subst e; simp [h]
  · exact setAt_ne e
theorem step_set (hg : Good fn x) {id b : Nat} {r r' : Root} (hr : x.h[id]? = some r) (ho : r.owns = true) (ho' : r'.owns = true) (hat : x.at_ id = some b) {w' : World}
    (h1 : w'.os = x.w.os) (h2 : w'.tape = x.w.tape) (h3 : w'.output = x.w.output) (hs : w'.heap.size = x.w.heap.size) (hk : ∀ c, c ≠ b → w'.heap[c]? = x.w.heap[c]?)
    (hle : RootLe x (x.put w' id r') id r r') (hrel : Mv x (x.put w' id r') → RelRoot fn (x.put w' id r') id r') : Good fn (x.put w' id r') ∧ ∀ n0, Nx n0 x (x.put w' id r') := by
  have hlt := hg.ltOwn b ⟨id, r, hr, ho, hat⟩
  exact step_put hg (b' := some b) rfl (by rw [setAt_same hat]; rfl) rfl hr ho ho' h1 h2 h3 (by rw [← hs]; exact Nat.le_refl _) (fun c _ hc => hk c (fun e => hc (by rw [e]; exact hat))) (fun c hc => by injection hc with hc; subst hc; exact ⟨.inl hat, by show b < w'.heap.size; omega⟩) hle hrel
end
end Go.Lx
