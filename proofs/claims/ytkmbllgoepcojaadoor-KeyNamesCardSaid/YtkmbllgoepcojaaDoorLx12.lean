import Derived.Test.YtkmbllgoepcojaaDoorLx11
import Derived.Laws.Tables
/- Struct literals; all pure operations together. -/
set_option linter.unusedVariables false
set_option linter.unusedSimpArgs false
namespace Go.Lx
section
variable {P : Program} {nm : FuncId → Option Nat} {x : Cx}

theorem relC_cells {w F} {c : C} {v : Value} (h : RelC w F c v) : v.cells = #[v] ∧ v.oneCell' = true := by
  cases c <;> simp only [RelC] at h
  case nil k => subst h; cases k <;> exact ⟨rfl, rfl⟩
  case sl l => obtain ⟨a, cap, rfl, _⟩ := h; exact ⟨rfl, rfl⟩
  all_goals subst h; exact ⟨rfl, rfl⟩
theorem relDC_cells {fn : Nums} {c : DC} {v : Value} (h : RelDC fn x c v) : v.cells = #[v] ∧ v.oneCell' = true := by
  cases c <;> simp only [RelDC] at h
  case c c => exact relC_cells h
  case full l => obtain ⟨a, rfl, _⟩ := h; exact ⟨rfl, rfl⟩
  case ref => obtain ⟨a, cap, rfl, _⟩ := h; exact ⟨rfl, rfl⟩
  case ptr => obtain ⟨b, r, _, _, rfl, _⟩ := h; exact ⟨rfl, rfl⟩
  case eptr => obtain ⟨a, rfl, _⟩ := h; exact ⟨rfl, rfl⟩
  case iptr => obtain ⟨g, o, rfl, _⟩ := h; exact ⟨rfl, rfl⟩
  case clo => obtain ⟨k, fs, cs, rfl, _⟩ := h; exact ⟨rfl, rfl⟩
  case mp => obtain ⟨b, l, _, _, rfl⟩ := h; exact ⟨rfl, rfl⟩
  case raw => obtain ⟨rfl, h1, h2⟩ := h; exact ⟨h1, h2⟩
  case ifc => obtain ⟨u, rfl, _⟩ := h; exact ⟨rfl, rfl⟩

theorem pure_cells {fn : Nums} {A : V} {v : Value} {u : U} (hv : RelV fn x A v) (h : A.pure? = some u) : RelCs x.w x.F u v.cells.toList := by
  unfold V.pure? at h
  split at h
  · injection h with h
    subst h
    simp only [RelV, RelDC] at hv
    rw [(relC_cells hv).1]
    exact ⟨hv, trivial⟩
  · injection h with h
    subst h
    simp only [RelV] at hv
    obtain ⟨cs, rfl, hc⟩ := hv
    exact hc
  · cases h
theorem cells_rel {fn : Nums} {A : V} {v : Value} {u : List DC} (hv : RelV fn x A v) (h : A.cells = some u) : RelDCs fn x u v.cells.toList := by
  unfold V.cells at h
  split at h
  · injection h with h
    subst h
    simp only [RelV] at hv
    rw [(relDC_cells hv).1]
    simp only [RelDCs]
    exact ⟨hv, trivial⟩
  · injection h with h
    subst h
    simp only [RelV] at hv
    obtain ⟨cs, rfl, hc⟩ := hv
    exact RelCs.dc hc
  · injection h with h
    subst h
    simp only [RelV] at hv
    obtain ⟨cs, rfl, hc⟩ := hv
    exact hc
  · cases h

theorem foldl_set (off : Nat) : ∀ (vs : List Value) (j : Nat) (cs : List Value), off + j + vs.length ≤ cs.length →
    (vs.zipIdx j).foldl (fun cs p => cs.set (off + p.2) p.1) cs = cs.take (off + j) ++ vs ++ cs.drop (off + j + vs.length)
  | [], j, cs, _ => by simp
  | v :: vs, j, cs, h => by
    simp only [List.length_cons] at h
    rw [List.zipIdx_cons, List.foldl_cons, foldl_set off vs (j + 1) _ (by simp; omega)]
    have := list_seg_step cs (off + j) v vs (by omega)
    simpa [Nat.add_assoc] using this

theorem fold_cells (off : Nat) (v : Array Value) (cs : Array Value) (h : off + v.size ≤ cs.size) :
    (v.zipIdx.foldl (fun cs (p : Value × Nat) => cs.setIfInBounds (off + p.2) p.1) cs).toList = cs.toList.take off ++ v.toList ++ cs.toList.drop (off + v.size) := by
  rw [← Array.foldl_toList, Array.toList_zipIdx]
  have key : ∀ (l : List (Value × Nat)) (cs : Array Value), (l.foldl (fun cs (p : Value × Nat) => cs.setIfInBounds (off + p.2) p.1) cs).toList = l.foldl (fun cs p => cs.set (off + p.2) p.1) cs.toList := by
    intro l
    induction l with
    | nil => intro cs; rfl
    | cons p l ih => intro cs; simp [ih]
  rw [key, foldl_set off v.toList 0 cs.toList (by simpa using h)]
  simp

theorem fillU_sound {fn : Nums} {place : Nat → Option (Nat × Nat)} : ∀ {l : List (Nat × Nat × V)} {z r : U} {cells : Array Value} {ps : List (Nat × Value)}, fillU z l = some r → RelCs x.w x.F z cells.toList →
    (∀ q ∈ l.zip ps, place q.2.1 = some (q.1.1, q.1.2.1) ∧ RelV fn x q.1.2.2 q.2.2) → l.length = ps.length → ∃ cells', Instr.fill place cells ps = some cells' ∧ RelCs x.w x.F r cells'.toList
  | [], z, r, cells, ps, h, hz, hp, hl => by
    obtain rfl : ps = [] := List.eq_nil_of_length_eq_zero (by simpa using hl.symm)
    simp only [fillU, Option.some.injEq] at h
    subst h
    exact ⟨cells, rfl, hz⟩
  | (o, n, v) :: l, z, r, cells, [], h, hz, hp, hl => by simp at hl
  | (o, n, v) :: l, z, r, cells, (i, u) :: ps, h, hz, hp, hl => by
    obtain ⟨h1, h2⟩ := hp ((o, n, v), (i, u)) (by simp)
    simp only [fillU] at h
    split at h
    · rename_i uu hpu
      split at h
      · rename_i hc
        have hrel := pure_cells h2 hpu
        have hlen := RelCs.length hrel
        have hzl := RelCs.length hz
        have hsz : u.cells.size = n := by simp at hlen; omega
        have hle : o + u.cells.size ≤ cells.size := by simp at hzl; omega
        have hz' : RelCs x.w x.F (upd z o uu) (u.cells.zipIdx.foldl (fun cs (p : Value × Nat) => cs.setIfInBounds (o + p.2) p.1) cells).toList := by
          rw [fold_cells o u.cells cells hle]
          unfold upd
          refine ((hz.take _).append hrel).append ?_
          have : uu.length = u.cells.size := by simpa using hlen
          rw [this]
          exact hz.drop _
        obtain ⟨cells', h3, h4⟩ := fillU_sound h hz' (fun q hq => hp q (by rw [List.zip_cons_cons]; exact List.mem_cons_of_mem _ hq)) (by simpa using hl)
        refine ⟨cells', ?_, h4⟩
        simp only [Instr.fill, h1]
        rw [if_neg (by simp [hsz]; omega)]
        exact h3
      · cases h
    · cases h

theorem fillD_sound {fn : Nums} {place : Nat → Option (Nat × Nat)} : ∀ {l : List (Nat × Nat × V)} {z r : List DC} {cells : Array Value} {ps : List (Nat × Value)}, fillD z l = some r → RelDCs fn x z cells.toList →
    (∀ q ∈ l.zip ps, place q.2.1 = some (q.1.1, q.1.2.1) ∧ RelV fn x q.1.2.2 q.2.2) → l.length = ps.length → ∃ cells', Instr.fill place cells ps = some cells' ∧ RelDCs fn x r cells'.toList
  | [], z, r, cells, ps, h, hz, hp, hl => by
    obtain rfl : ps = [] := List.eq_nil_of_length_eq_zero (by simpa using hl.symm)
    simp only [fillD, Option.some.injEq] at h
    subst h
    exact ⟨cells, rfl, hz⟩
  | (o, n, v) :: l, z, r, cells, [], h, hz, hp, hl => by simp at hl
  | (o, n, v) :: l, z, r, cells, (i, u) :: ps, h, hz, hp, hl => by
    obtain ⟨h1, h2⟩ := hp ((o, n, v), (i, u)) (by simp)
    simp only [fillD] at h
    split at h
    · rename_i uu hpu
      split at h
      · rename_i hc
        have hrel := cells_rel h2 hpu
        have hlen := RelDCs.length hrel
        have hzl := RelDCs.length hz
        have hsz : u.cells.size = n := by simp at hlen; omega
        have hle : o + u.cells.size ≤ cells.size := by simp at hzl; omega
        have hz' : RelDCs fn x (dupd z o uu) (u.cells.zipIdx.foldl (fun cs (p : Value × Nat) => cs.setIfInBounds (o + p.2) p.1) cells).toList := by
          rw [fold_cells o u.cells cells hle]
          unfold dupd
          refine ((hz.take _).append hrel).append ?_
          have : uu.length = u.cells.size := by simpa using hlen
          rw [this]
          exact hz.drop _
        obtain ⟨cells', h3, h4⟩ := fillD_sound h hz' (fun q hq => hp q (by rw [List.zip_cons_cons]; exact List.mem_cons_of_mem _ hq)) (by simpa using hl)
        refine ⟨cells', ?_, h4⟩
        simp only [Instr.fill, h1]
        rw [if_neg (by simp [hsz]; omega)]
        exact h3
      · cases h
    · cases h

theorem partsS_rel {s : St} {a : Act} (hT : RelT (Fn_ nm) x s a) {pl : List (Nat × Nat)} : ∀ {ps : List (Nat × Operand)} {l : List (Nat × Nat × X)},
    (ps.mapM fun p => match pl[p.1]?, xOf nm p.2 with
      | some q, some x => some (q.1, q.2, x)
      | _, _ => none) = some l → (l.map fun p => p.2.2).all (X.there s) = true →
    (∀ q ∈ (l.map fun p => (p.1, p.2.1, X.val s p.2.2)).zip (ps.map fun p => (p.1, a.eval p.2)), pl[q.2.1]? = some (q.1.1, q.1.2.1) ∧ RelV (Fn_ nm) x q.1.2.2 q.2.2) ∧ l.length = ps.length
  | [], l, h, _ => by rw [mapM_nil h]; simp
  | p :: ps, l, h, ht => by
    obtain ⟨c, r, h1, h2, rfl⟩ := mapM_cons h
    simp only [List.map_cons, List.all_cons, Bool.and_eq_true] at ht
    obtain ⟨k1, k2⟩ := partsS_rel hT h2 ht.2
    split at h1
    · rename_i q X e1 e2
      injection h1 with h1
      subst h1
      refine ⟨fun q' hq => ?_, by simp [k2]⟩
      simp only [List.map_cons, List.zip_cons_cons, List.mem_cons] at hq
      rcases hq with rfl | hq
      · exact ⟨by rw [e1], xOf_rel hT e2 ht.1⟩
      · exact k1 q' hq
    · cases h1

theorem zero_parts {t : TypeId} {z : Value} (h : zeroV P t = some z) : ∃ i, P.info? t = some i ∧ i.zero = some z := by
  unfold zeroV at h
  cases hi : P.info? t with
  | none => simp [hi] at h
  | some i => simp [hi] at h; exact ⟨i, rfl, h⟩

theorem build_sound {s : St} {a : Act} (hT : RelT (Fn_ nm) x s a) {t : TypeId} {fs : Array Field} (hf : fieldsT P t = some fs) {pl : List (Nat × Nat)} (hpl : placesT P fs = some pl) {z : Value} (hz : zeroV P t = some z) {ps : Array (Nat × Operand)} {l : List (Nat × Nat × X)} (hl : partsS nm pl ps = some l)
    (ht : (l.map fun p => p.2.2).all (X.there s) = true) :
    (∀ (u r : U), z.cells.toList.mapM cOf = some u → fillU u (l.map fun p => (p.1, p.2.1, X.val s p.2.2)) = some r → ∃ v, (Instr.build t (ps.map fun (i, y) => (i, a.eval y))).run P x.w = .ok v x.w ∧ RelV (Fn_ nm) x (.a r) v) ∧
    (∀ (u r : List DC), z.cells.toList.mapM dOf = some u → fillD u (l.map fun p => (p.1, p.2.1, X.val s p.2.2)) = some r → ∃ v, (Instr.build t (ps.map fun (i, y) => (i, a.eval y))).run P x.w = .ok v x.w ∧ RelV (Fn_ nm) x (.m r) v) := by
  obtain ⟨i, hi, hiz⟩ := zero_parts hz
  obtain ⟨k1, k2⟩ := partsS_rel hT (ps := ps.toList) hl ht
  have hbuilt : ∀ cells, Instr.fill (pl.toArray[·]?) z.cells (ps.toList.map fun p => (p.1, a.eval p.2)) = some cells → (Instr.build t (ps.map fun (i, y) => (i, a.eval y))).run P x.w = .ok (.agg cells) x.w := by
    intro cells hfill
    refine run_build x.w t _ cells ?_
    unfold Program.built
    simp only [hi, fieldsT_some hf, hiz]
    rw [show (fs.toList.mapM fun f => (P.info? f.type).map fun i => (f.offset, i.size)) = some pl from hpl]
    simpa using hfill
  constructor
  · intro u r hu hr
    obtain ⟨cells, h1, h2⟩ := fillU_sound (fn := Fn_ nm) (place := (pl.toArray[·]?)) hr (cOfs_rel (w := x.w) (F := x.F) hu) (fun q hq => by simpa using k1 q hq) (by simpa using k2)
    exact ⟨_, hbuilt cells h1, by simp only [RelV]; exact ⟨cells, rfl, h2⟩⟩
  · intro u r hu hr
    obtain ⟨cells, h1, h2⟩ := fillD_sound (fn := Fn_ nm) (place := (pl.toArray[·]?)) hr (dOfs_rel (fn := Fn_ nm) (x := x) hu) (fun q hq => by simpa using k1 q hq) (by simpa using k2)
    exact ⟨_, hbuilt cells h1, by simp only [RelV]; exact ⟨cells, rfl, h2⟩⟩
end
end Go.Lx
