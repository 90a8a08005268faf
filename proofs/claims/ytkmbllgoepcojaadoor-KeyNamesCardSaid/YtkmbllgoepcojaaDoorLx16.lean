import Derived.Test.YtkmbllgoepcojaaDoorLx15
/- The making of blocks, appends, copies. -/
set_option linter.unusedVariables false
set_option linter.unusedSimpArgs false
namespace Go.Lx
section
variable {P : Program} {nm : FuncId → Option Nat} {x : Cx}

theorem zeroU_parts {t : TypeId} {u : U} (h : zeroU P t = some u) : ∃ i z, P.info? t = some i ∧ i.zero = some z ∧ z.cells.toList.mapM cOf = some u := by
  unfold zeroU at h
  cases hz : zeroV P t with
  | none => simp [hz] at h
  | some z =>
    simp only [hz, Option.bind_some] at h
    obtain ⟨i, h1, h2⟩ := zero_parts hz
    exact ⟨i, z, h1, h2, h⟩
theorem zeroD_parts {t : TypeId} {u : List DC} (h : zeroD P t = some u) : ∃ i z, P.info? t = some i ∧ i.zero = some z ∧ z.cells.toList.mapM dOf = some u := by
  unfold zeroD at h
  cases hz : zeroV P t with
  | none => simp [hz] at h
  | some z =>
    simp only [hz, Option.bind_some] at h
    obtain ⟨i, h1, h2⟩ := zero_parts hz
    exact ⟨i, z, h1, h2, h⟩

theorem run_allocOp {t : TypeId} {i : TypeInfo} {z : Value} (h1 : P.info? t = some i) (h2 : i.zero = some z) (w : World) :
    (do pure (.value (← Instr.alloc t true (.tuple #[]))) : Sem Next).run P w = .ok (.value (.pointer (some ⟨w.heap.size, 0, none⟩))) (w.alloc (.cells z.cells t)) := by
  simp [Instr.alloc, zeroValue, typeInfo, h1, h2, newVar, newRow]

theorem alloc_sound (hg : Good (Fn_ nm) x) {t : TypeId} {u : U} (hz : zeroU P t = some u) {K : V → List Root → Prop} (hK : K (.s (.ptr x.h.length 0)) (x.h ++ [.boxu u])) :
    Done P nm x (do pure (.value (← Instr.alloc t true (.tuple #[])))) K := by
  obtain ⟨i, z, h1, h2, h3⟩ := zeroU_parts hz
  obtain ⟨g1, g2, g3⟩ := new_boxu (t := t) hg (cOfs_rel (w := x.w) (F := x.F) h3)
  exact ⟨_, _, _, _, run_allocOp h1 h2 x.w, .inl rfl, g1, g2 _, g3, hK⟩
theorem allocx_sound (hg : Good (Fn_ nm) x) {t : TypeId} {u : List DC} (hz : zeroD P t = some u) {K : V → List Root → Prop} (hK : K (.s (.ptr x.h.length 0)) (x.h ++ [.boxd u])) :
    Done P nm x (do pure (.value (← Instr.alloc t true (.tuple #[])))) K := by
  obtain ⟨i, z, h1, h2, h3⟩ := zeroD_parts hz
  obtain ⟨g1, g2, g3⟩ := new_boxd (t := t) hg (dOfs_rel (x := x) (fn := Fn_ nm) h3)
  exact ⟨_, _, _, _, run_allocOp h1 h2 x.w, .inl rfl, g1, g2 _, g3, hK⟩

theorem box_sound (hg : Good (Fn_ nm) x) {t : TypeId} {A : V} {a : Value} (hA : RelV (Fn_ nm) x A a) {K : V → List Root → Prop} {n : Nat}
    (h : match (generalizing := false) A.pure?, A.cells with
      | some u, _ => u.length = n ∧ K (.s (.ptr x.h.length 0)) (x.h ++ [.boxu u])
      | none, some l => l.length = n ∧ K (.s (.ptr x.h.length 0)) (x.h ++ [.boxd l])
      | _, _ => False) : Done P nm x (do pure (.value (← Instr.box t a))) K := by
  have hrun : (do pure (.value (← Instr.box t a)) : Sem Next).run P x.w = .ok (.value (.pointer (some ⟨x.w.heap.size, 0, none⟩))) (x.w.alloc (.cells a.cells t)) := by simp [Instr.box, newVar, newRow]
  split at h
  · rename_i u _ e
    obtain ⟨g1, g2, g3⟩ := new_boxu (t := t) hg (pure_cells hA e)
    exact ⟨_, _, _, _, hrun, .inl rfl, g1, g2 _, g3, h.2⟩
  · rename_i l e1 e
    obtain ⟨g1, g2, g3⟩ := new_boxd (t := t) hg (cells_rel hA e)
    exact ⟨_, _, _, _, hrun, .inl rfl, g1, g2 _, g3, h.2⟩
  · exact h.elim

theorem madeCells_flat (z : Array Value) (n : Nat) : (madeCells z (n * z.size)).toList = (List.replicate n z.toList).flatten := by
  apply List.ext_getElem?
  intro j
  rcases Nat.eq_zero_or_pos z.size with h0 | h0
  · have : z = #[] := Array.eq_empty_of_size_eq_zero h0
    subst this
    simp [madeCells]
  · have hlen : ((List.replicate n z.toList).flatten).length = n * z.size := by simp [List.length_flatten]
    by_cases hj : j < n * z.size
    · rw [List.getElem?_eq_getElem (by simpa [madeCells] using hj), List.getElem?_eq_getElem (by omega)]
      congr 1
      have hm : j % z.size < z.size := Nat.mod_lt _ h0
      have e1 : (madeCells z (n * z.size)).toList[j]'(by simpa [madeCells] using hj) = z[j % z.size] := by simp [madeCells, hm]
      rw [e1]
      clear e1
      induction n generalizing j with
      | zero => simp at hj
      | succ n ih =>
        simp only [List.replicate_succ, List.flatten_cons]
        rw [List.getElem_append]
        split
        · rename_i hlt
          simp at hlt
          simp [Nat.mod_eq_of_lt hlt]
        · rename_i hge
          simp at hge
          have hj' : j - z.size < n * z.size := by rw [Nat.add_mul] at hj; omega
          have := ih (j - z.size) (by simp [List.length_flatten]) hj' (Nat.mod_lt _ h0)
          simp only [Array.length_toList]
          rw [← this]
          congr 1
          rw [Nat.mod_eq_sub_mod hge]
    · rw [List.getElem?_eq_none (by simpa [madeCells] using Nat.le_of_not_lt hj), List.getElem?_eq_none (by omega)]

theorem replicate_rel {w F} {u : U} {vs : List Value} (h : RelCs w F u vs) : ∀ n, RelCs w F (List.replicate n u).flatten (List.replicate n vs).flatten
  | 0 => trivial
  | n + 1 => by simp only [List.replicate_succ, List.flatten_cons]; exact h.append (replicate_rel h n)

theorem partsL_rel {s : St} {a : Act} (hT : RelT (Fn_ nm) x s a) : ∀ {ps : List (Nat × Operand)} {l : List (Nat × X)}, (ps.mapM fun p => (xOf nm p.2).map fun y => (p.1, y)) = some l → (l.map fun p => p.2).all (X.there s) = true →
    (∀ q ∈ (l.map fun p => (p.1, X.val s p.2)).zip (ps.map fun p => (p.1, a.eval p.2)), q.2.1 = q.1.1 ∧ RelV (Fn_ nm) x q.1.2 q.2.2) ∧ l.length = ps.length
  | [], l, h, _ => by rw [mapM_nil h]; simp
  | p :: ps, l, h, ht => by
    obtain ⟨c, r, h1, h2, rfl⟩ := mapM_cons h
    simp only [List.map_cons, List.all_cons, Bool.and_eq_true] at ht
    obtain ⟨k1, k2⟩ := partsL_rel hT h2 ht.2
    cases hx : xOf nm p.2 with
    | none => simp [hx] at h1
    | some y =>
      simp only [hx, Option.map_some, Option.some.injEq] at h1
      subst h1
      refine ⟨fun q' hq => ?_, by simp [k2]⟩
      simp only [List.map_cons, List.zip_cons_cons, List.mem_cons] at hq
      rcases hq with rfl | hq
      · exact ⟨rfl, xOf_rel hT hx ht.1⟩
      · exact k1 q' hq

theorem fillL_sound {fn : Nums} {z : U} : ∀ {ps : List (Nat × V)} {l r : List U} {cells : Array Value} {vs : List (Nat × Value)}, fillL z l ps = some r → (∀ u, u ∈ l → u.length = z.length) → RelCs x.w x.F l.flatten cells.toList →
    (∀ q ∈ ps.zip vs, q.2.1 = q.1.1 ∧ RelV fn x q.1.2 q.2.2) → ps.length = vs.length → ∃ cells', Instr.fill (fun i => some (i * z.length, z.length)) cells vs = some cells' ∧ RelCs x.w x.F r.flatten cells'.toList ∧ (∀ u, u ∈ r → u.length = z.length) ∧ r.length = l.length
  | [], l, r, cells, vs, h, hs, hz, hp, hl => by
    obtain rfl : vs = [] := List.eq_nil_of_length_eq_zero (by simpa using hl.symm)
    simp only [fillL, Option.some.injEq] at h
    subst h
    exact ⟨cells, rfl, hz, hs, rfl⟩
  | (i, v) :: ps, l, r, cells, [], h, hs, hz, hp, hl => by simp at hl
  | (i, v) :: ps, l, r, cells, (j, u) :: vs, h, hs, hz, hp, hl => by
    obtain ⟨h1, h2⟩ := hp ((i, v), (j, u)) (by simp)
    simp only at h1 h2
    subst h1
    simp only [fillL] at h
    split at h
    · rename_i uu hpu
      split at h
      · rename_i hc
        obtain ⟨c1, c2⟩ := hc
        have hrel := pure_cells h2 hpu
        have hlen := RelCs.length hrel
        have hzl := RelCs.length hz
        rw [flat_length hs] at hzl
        simp at hlen hzl
        have hle : j * z.length + u.cells.size ≤ cells.size := by
          have : (j + 1) * z.length ≤ l.length * z.length := Nat.mul_le_mul_right _ c2
          rw [Nat.add_mul] at this
          omega
        have hself : upd (elemAt l j) 0 uu = uu := by
          have : (elemAt l j).length = z.length := by
            have hm : elemAt l j ∈ l := by simp [elemAt, c2]
            exact hs _ hm
          simp [upd]
          omega
        have hset := flat_set (l := l) (k := j) (off := 0) (v := uu) hs c2 (by omega)
        rw [hself, Nat.add_zero] at hset
        have hz' : RelCs x.w x.F (l.set j uu).flatten (u.cells.zipIdx.foldl (fun cs (p : Value × Nat) => cs.setIfInBounds (j * z.length + p.2) p.1) cells).toList := by
          rw [fold_cells _ u.cells cells hle, hset]
          have := upd_rel (off := j * z.length) hz hrel hlen
          exact this
        obtain ⟨cells', h3, h4, h5, h6⟩ := fillL_sound h (fun y hy => by
          rcases List.mem_or_eq_of_mem_set hy with e | e
          · exact hs y e
          · rw [e]; exact c1) hz' (fun q hq => hp q (by rw [List.zip_cons_cons]; exact List.mem_cons_of_mem _ hq)) (by simpa using hl)
        refine ⟨cells', ?_, h4, h5, by simpa using h6⟩
        simp only [Instr.fill]
        rw [if_neg (by simp; omega)]
        exact h3
      · cases h
    · cases h

theorem mkSl_sound (hg : Good (Fn_ nm) x) {s : St} {a : Act} (hT : RelT (Fn_ nm) x s a) {t e : TypeId} (he : elemT P t = some e) {z : U} (hz : zeroU P e = some z) (hs : sizeT P e = some z.length) {n : Nat} (h0 : 0 < z.length) (hn : n * z.length ≤ 16777216) {ps : Array (Nat × Operand)} {l : List (Nat × X)}
    (hl : partsL nm ps = some l) (ht : (l.map fun p => p.2).all (X.there s) = true) {K : V → List Root → Prop}
    (h : match fillL z (List.replicate n z) (l.map fun p => (p.1, X.val s p.2)) with
      | some r => 0 < z.length ∧ K (.s (.ref x.h.length 0 z.length 0 n)) (x.h ++ [.row 0 z.length r])
      | none => False) : Done P nm x (do pure (.value (← Instr.buildSlice t n (ps.map fun (i, y) => (i, a.eval y))))) K := by
  split at h
  · rename_i r hr
    obtain ⟨i, zz, h1, h2, h3⟩ := zeroU_parts hz
    have hzr := cOfs_rel (w := x.w) (F := x.F) h3
    have hzl : zz.cells.size = z.length := by have := RelCs.length hzr; simp at this; exact this.symm
    obtain ⟨k1, k2⟩ := partsL_rel hT (ps := ps.toList) hl ht
    have hbase : RelCs x.w x.F (List.replicate n z).flatten (madeCells zz.cells (n * zz.cells.size)).toList := by rw [madeCells_flat]; exact replicate_rel hzr n
    obtain ⟨cells', f1, f2, f3, f4⟩ := fillL_sound (fn := Fn_ nm) (vs := ps.toList.map fun p => (p.1, a.eval p.2)) hr (fun u hu => by rw [List.eq_of_mem_replicate hu]) hbase k1 (by simpa using k2)
    have hlen : r.length = n := by rw [f4]; simp
    have hcs : cells'.size = n * z.length := by
      have := RelCs.length f2
      rw [flat_length f3, hlen] at this
      simpa using this.symm
    have hrun : (do pure (.value (← Instr.buildSlice t n (ps.map fun (i, y) => (i, a.eval y)))) : Sem Next).run P x.w = .ok (.value (.slice (some ⟨x.w.heap.size, 0, none⟩) n n)) (x.w.alloc (.cells cells' e)) := by
      have hn' : ¬ (16777216 < n * z.length) := by omega
      have hfill : Instr.fill (fun i => some (i * z.length, z.length)) ((Array.range (n * z.length)).map (zz.cells[· % zz.cells.size]!)) (ps.map fun (i, y) => (i, a.eval y)).toList = some cells' := by
        rw [hzl] at f1
        simpa [madeCells] using f1
      simp only [Instr.buildSlice, Sem.run_bind, run_underlying (elemT_some he), Result.andThen_ok, run_sizeT hs]
      rw [if_neg (by simpa using hn')]
      by_cases e0 : n * z.length = 0
      · rw [e0] at hfill ⊢
        have e1 : Array.range 0 = (#[] : Array Nat) := rfl
        simp only [e1, Array.map_empty] at hfill
        simp only [if_true, Sem.run_bind, Sem.run_pure, Result.andThen_ok, e1, Array.map_empty, hfill]
        simp [newRow]
      · simp only [e0, if_false, Sem.run_bind, zeroValue, typeInfo, run_program, Result.andThen_ok, h1, Sem.run_pure, h2]
        simp only [hfill]
        simp [newRow]
    obtain ⟨g1, g2, g3⟩ := new_row (t := e) (cap := n) hg h0 f3 f2 (List.prefix_refl _) (by omega) (by omega)
    rw [hlen] at g3
    exact ⟨_, _, _, _, hrun, .inl rfl, g1, g2 _, g3, h.2⟩
  · exact h.elim

theorem mkMap_sound (hg : Good (Fn_ nm) x) {t : TypeId} (hu : ∃ k e, P.underlying t = some (.map k e)) {r : Option V} {u : Option Value} (hr : ∀ v, r = some v → ∃ y, u = some y ∧ RelV (Fn_ nm) x v y) (hr' : r = none → u = none) {K : V → List Root → Prop}
    (h : isIntO r ∧ K (.s (.mp x.h.length)) (x.h ++ [.map []])) : Done P nm x (do pure (.value (← Instr.makeMap t u))) K := by
  obtain ⟨g1, g2, g3⟩ := new_map hg
  obtain ⟨k, e, hu⟩ := hu
  refine ⟨_, _, _, _, ?_, .inl rfl, g1, g2 _, g3, h.2⟩
  cases r with
  | none => rw [hr' rfl]; simp [Instr.makeMap, Cx.more]
  | some v =>
    obtain ⟨y, rfl, hy⟩ := hr v rfl
    obtain ⟨k', rfl⟩ := isInt_int h.1 hy
    simp [Instr.makeMap, run_underlying hu, asInt, asIntOf, Cx.more]

theorem mkRow_sound (hg : Good (Fn_ nm) x) {t e : TypeId} (he : elemT P t = some e) {z : U} (hz : zeroU P e = some z) (hs : sizeT P e = some z.length) {bytes : Nat} (hb : bytesT P e = some bytes) {L C : V} {l c : Value} (hL : RelV (Fn_ nm) x L l) (hC : RelV (Fn_ nm) x C c) {K : V → List Root → Prop}
    (h : ∃ n : Nat, L.nat = some (n : Int) ∧ C.nat = some (n : Int) ∧ bytes * n ≤ 281474976710656 ∧ 0 < z.length ∧ 0 < bytes ∧ K (.s (.ref x.h.length 0 z.length 0 n)) (x.h ++ [.row 0 z.length (List.replicate n z)])) : Done P nm x (do pure (.value (← Instr.makeSlice t l c))) K := by
  obtain ⟨n, h1, h2, h3, h4, h5, hK⟩ := h
  obtain ⟨k1, rfl⟩ := nat_int h1 hL
  obtain ⟨k2, rfl⟩ := nat_int h2 hC
  obtain ⟨i, zz, i1, i2, i3⟩ := zeroU_parts hz
  have hzr := cOfs_rel (w := x.w) (F := x.F) i3
  have hzl : zz.cells.size = z.length := by have := RelCs.length hzr; simp at this; exact this.symm
  have hisz : i.size = z.length := by simpa [sizeT, i1] using hs
  have hib : i.bytes = bytes := by simpa [bytesT, i1] using hb
  have hn63 : n ≤ 281474976710656 := Nat.le_trans (Nat.le_mul_of_pos_left n h5) h3
  have hbi : (i.bytes : Int) * (n : Int) ≤ 281474976710656 := by
    have : ((i.bytes * n : Nat) : Int) ≤ 281474976710656 := by rw [hib]; omega
    rwa [Int.natCast_mul] at this
  have hrun := run_make (P := P) x.w t e i zz (elemT_some he) i1 i2 k1 k2 n n (by omega) (Int.le_refl _) hbi (by omega)
  simp only [Int.toNat_natCast, hisz] at hrun
  have hrel : RelCs x.w x.F (List.replicate n z).flatten (madeCells zz.cells (n * z.length)).toList := by rw [← hzl, madeCells_flat]; exact replicate_rel hzr n
  obtain ⟨g1, g2, g3⟩ := new_row (t := e) (cap := n) (l := List.replicate n z) (sz := z.length) hg h4 (fun u hu => by rw [List.eq_of_mem_replicate hu]) hrel (List.prefix_refl _) (by simp) (by simp [madeCells])
  refine ⟨_, _, _, _, run_v hrun, .inl rfl, g1, g2 _, ?_, hK⟩
  simpa using g3
end
end Go.Lx
