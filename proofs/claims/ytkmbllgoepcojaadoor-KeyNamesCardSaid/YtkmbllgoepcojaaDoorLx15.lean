import Derived.Test.YtkmbllgoepcojaaDoorLx14
/- Stores and the making of blocks. -/
set_option linter.unusedVariables false
set_option linter.unusedSimpArgs false
namespace Go.Lx
section
variable {P : Program} {nm : FuncId → Option Nat} {x : Cx}

theorem setRow_size (w : World) (g : Nat) (cs : Array Value) : (w.setRow g cs).heap.size = w.heap.size := by simp [World.setRow]

theorem run_storeVar {t : TypeId} {n : Nat} (hs : sizeT P t = some n) {v : Value} (hv : v.cells.size = n) {w : World} {b off : Nat} {cur : Array Value} {ty : TypeId} (hb : w.heap[b]? = some (.cells cur ty (0, 0))) (hle : off + n ≤ cur.size) (h1 : ∀ c ∈ v.cells.toList, c.oneCell' = true) :
    (storeVar t ⟨b, off, none⟩ v).run P w = .ok () (w.setRow b (cur.toList.take off ++ v.cells.toList ++ cur.toList.drop (off + n)).toArray) := by
  have := run_storeCells_at P b off ty v.cells.toList 0 cur w hb (by simp; omega) h1
  simp only [Nat.add_zero, Array.length_toList, hv] at this
  simp only [storeVar, Sem.run_bind, run_sizeT hs, Result.andThen_ok, hv]
  simp [this]

/-- what an operation with an effect comes to -/
def Done (P : Program) (nm : FuncId → Option Nat) (x : Cx) (e : Sem Next) (K : V → List Root → Prop) : Prop :=
  ∃ (nx : Next) (u : Value) (x' : Cx) (v : V), e.run P x.w = .ok nx x'.w ∧ (nx = .value u ∨ nx = .skip ∧ u = undef) ∧ Good (Fn_ nm) x' ∧ Nx x.h.length x x' ∧ RelV (Fn_ nm) x' v u ∧ K v x'.h

theorem upd_rel {w F} {u v : U} {cs vs : List Value} {off n : Nat} (h : RelCs w F u cs) (k : RelCs w F v vs) (hn : v.length = n) : RelCs w F (upd u off v) (cs.take off ++ vs ++ cs.drop (off + n)) := by
  unfold upd
  rw [hn]
  exact ((h.take _).append k).append (h.drop _)
theorem dupd_rel {fn : Nums} {u v : List DC} {cs vs : List Value} {off n : Nat} (h : RelDCs fn x u cs) (k : RelDCs fn x v vs) (hn : v.length = n) : RelDCs fn x (dupd u off v) (cs.take off ++ vs ++ cs.drop (off + n)) := by
  unfold dupd
  rw [hn]
  exact ((h.take _).append k).append (h.drop _)

theorem flat_length {l : List U} {sz : Nat} (h : ∀ u, u ∈ l → u.length = sz) : l.flatten.length = l.length * sz := by
  induction l with
  | nil => simp
  | cons u l ih => simp only [List.flatten_cons, List.length_append, List.length_cons, ih (fun v hv => h v (by simp [hv])), h u (by simp), Nat.add_mul]; omega
theorem upd_length {u v : U} {off : Nat} (h : off + v.length ≤ u.length) : (upd u off v).length = u.length := by simp [upd]; omega

/-- an element of a row written, among the row's cells -/
theorem flat_set {sz : Nat} : ∀ {l : List U} {k off : Nat} {v : U}, (∀ u, u ∈ l → u.length = sz) → k < l.length → off + v.length ≤ sz → (l.set k (upd (elemAt l k) off v)).flatten = upd l.flatten (k * sz + off) v
  | [], k, off, v, _, h, _ => by simp at h
  | u :: l, 0, off, v, hs, _, ho => by
    have hu := hs u (by simp)
    simp only [List.set_cons_zero, List.flatten_cons, elemAt, List.getElem?_cons_zero, Option.getD_some, Nat.zero_mul, Nat.zero_add]
    unfold upd
    rw [List.take_append_of_le_length (by omega), List.drop_append_of_le_length (by omega)]
    simp
  | u :: l, k + 1, off, v, hs, hk, ho => by
    have hu := hs u (by simp)
    have ih := flat_set (l := l) (k := k) (off := off) (v := v) (fun u hu => hs u (by simp [hu])) (by simpa using hk) ho
    simp only [List.set_cons_succ, List.flatten_cons]
    rw [show elemAt (u :: l) (k + 1) = elemAt l k by simp [elemAt], ih]
    unfold upd
    have e : (k + 1) * sz + off = u.length + (k * sz + off) := by rw [hu, Nat.add_mul]; omega
    rw [e, List.take_length_add_append, show u.length + (k * sz + off) + v.length = u.length + (k * sz + off + v.length) by omega, List.drop_length_add_append]
    simp

/-- a row's cells lie one behind the other in its block -/
theorem rows_flat {w F} {g : Nat} {cs : Array Value} {t f} (hb : w.heap[g]? = some (.cells cs t f)) {sz : Nat} {l : List U} (h : RelRows w F g sz l 0) : RelCs w F l.flatten (cs.toList.take (l.length * sz)) ∧ l.length * sz ≤ cs.size := by
  obtain ⟨vs, h1, h2, h3⟩ := rows_load h
  have hle : l.length * sz ≤ cs.size := by
    rcases Nat.eq_zero_or_pos (l.length * sz) with e | e
    · omega
    · have hj : vs[l.length * sz - 1]? = some vs[l.length * sz - 1] := List.getElem?_eq_getElem (by omega)
      have := h3 _ _ hj
      simp only [World.cell?, hb, Nat.zero_add] at this
      have := (Array.getElem?_eq_some_iff.1 (by simpa using this)).1
      omega
  refine ⟨?_, hle⟩
  have : vs = cs.toList.take (l.length * sz) := by
    apply List.ext_getElem?
    intro j
    by_cases hj : j < l.length * sz
    · have hv : vs[j]? = some vs[j] := List.getElem?_eq_getElem (by omega)
      have := h3 _ _ hv
      simp only [World.cell?, hb, Nat.zero_add] at this
      rw [hv, List.getElem?_take, if_pos hj, Array.getElem?_toList]
      exact (by simpa using this.symm)
    · rw [List.getElem?_eq_none (by omega), List.getElem?_eq_none (by simp; omega)]
  rw [← this]
  exact h1

theorem take_upd {α : Type} (cs vs : List α) (a n m : Nat) (hv : vs.length = n) (h : a + n ≤ m) (hm : m ≤ cs.length) :
    (cs.take m).take a ++ vs ++ (cs.take m).drop (a + n) = (cs.take a ++ vs ++ cs.drop (a + n)).take m := by
  subst hv
  rw [List.append_assoc, List.append_assoc, List.take_append, List.take_append, List.take_take, List.take_take, List.drop_take]
  simp only [List.length_take]
  rw [Nat.min_eq_left (by omega : a ≤ m), Nat.min_eq_right (by omega : a ≤ m), Nat.min_eq_left (by omega : a ≤ cs.length), List.take_of_length_le (l := vs) (by omega)]
  congr 3
  omega

/-- a store into a block of the call's own -/
theorem store_sound (hg : Good (Fn_ nm) x) {t : TypeId} {n : Nat} (hs : sizeT P t = some n) {A B : V} {a b : Value} (hA : RelV (Fn_ nm) x A a) (hB : RelV (Fn_ nm) x B b) {K : V → List Root → Prop}
    (h : match (generalizing := false) A with
      | .s (.ptr id off) => ∃ r, (x.h[id]?).bind (fun r => r.st none off n B) = some r ∧ K .bot (x.h.set id r)
      | .s (.eptr id g i off) => ∃ r, (x.h[id]?).bind (fun r => r.st (some (g, i)) off n B) = some r ∧ K .bot (x.h.set id r)
      | _ => False) : Done P nm x (do Instr.storeAt t a b; pure .skip) K := by
  -- a box
  have box : ∀ {id off bb : Nat} {r r' : Root} {cs : Array Value} {ty : TypeId}, a = .pointer (some ⟨bb, off, none⟩) → x.h[id]? = some r → x.at_ id = some bb → x.w.heap[bb]? = some (.cells cs ty (0, 0)) → b.cells.size = n → off + n ≤ cs.size →
      (∀ c ∈ b.cells.toList, c.oneCell' = true) → r.owns = true → r'.owns = true → K .bot (x.h.set id r') →
      (RootLe x (x.put (x.w.setRow bb (cs.toList.take off ++ b.cells.toList ++ cs.toList.drop (off + n)).toArray) id r') id r r') →
      (∀ x' : Cx, x'.at_ = x.at_ → x'.w = x.w.setRow bb (cs.toList.take off ++ b.cells.toList ++ cs.toList.drop (off + n)).toArray → x'.w.heap[bb]? = some (.cells (cs.toList.take off ++ b.cells.toList ++ cs.toList.drop (off + n)).toArray ty (0, 0)) → Mv x x' → RelRoot (Fn_ nm) x' id r') →
      Done P nm x (do Instr.storeAt t a b; pure .skip) K := by
    intro id off bb r r' cs ty ha hr hat hb hsz hle hone ho ho' hK hle' hrel
    have hrun := run_storeVar (P := P) hs hsz hb hle hone
    have hnew := setRow_heap x.w bb cs (cs.toList.take off ++ b.cells.toList ++ cs.toList.drop (off + n)).toArray ty (0, 0) hb
    obtain ⟨g1, g2⟩ := step_set (fn := Fn_ nm) (r' := r') hg hr ho ho' hat (w' := x.w.setRow bb (cs.toList.take off ++ b.cells.toList ++ cs.toList.drop (off + n)).toArray) rfl rfl rfl (setRow_size _ _ _) (fun c hc => setRow_other x.w bb c _ hc) hle' (fun hm => hrel _ rfl rfl hnew hm)
    refine ⟨.skip, undef, _, .bot, ?_, .inr ⟨rfl, rfl⟩, g1, g2 _, by simp [RelV], hK⟩
    subst ha
    simp only [Instr.storeAt, Instr.sureAddr, pure_bind, Sem.run_bind, hrun, Result.andThen_ok, Sem.run_pure]
    rfl
  cases A with
  | s d =>
    cases d with
    | ptr id off =>
      obtain ⟨r', h1, hK⟩ := h
      simp only [RelV, RelDC] at hA
      obtain ⟨bb, r, hr, hat, ha, -⟩ := hA
      rw [hr, Option.bind_some] at h1
      unfold Root.st at h1
      split at h1
      · rename_i u y e1 e2 e3
        split at h1
        · rename_i hc
          injection h1 with h1
          subst h1
          obtain ⟨bb', cs, ty, f1, f2, f3⟩ := hg.root id _ hr
          rw [hat] at f1; injection f1 with f1; subst f1
          have hrel := pure_cells hB e3
          have l1 := RelCs.length hrel
          have l2 := RelCs.length f3
          simp at l1 l2
          refine box ha hr hat f2 (by omega) (by omega) (relCs_one hrel) rfl rfl hK rfl (fun x' e1 e2 e3 hm => ⟨bb, _, ty, by rw [e1]; exact hat, e3, ?_⟩)
          exact RelCs.stay hm.F (by simpa using upd_rel f3 hrel hc.1)
        · cases h1
      · rename_i l y e1 e2 e3
        split at h1
        · rename_i hc
          injection h1 with h1
          subst h1
          obtain ⟨bb', cs, ty, f1, f2, f3⟩ := hg.root id _ hr
          rw [hat] at f1; injection f1 with f1; subst f1
          have hrel := pure_cells hB e3
          have l1 := RelCs.length hrel
          have l2 := RelDCs.length f3
          simp at l1 l2
          refine box ha hr hat f2 (by omega) (by omega) (relCs_one hrel) rfl rfl hK rfl (fun x' e1 e2 e3 hm => ⟨bb, _, ty, by rw [e1]; exact hat, e3, ?_⟩)
          exact RelDCs.mv hm (by simpa using dupd_rel f3 (RelCs.dc hrel) (by simpa using hc.1))
        · cases h1
      · rename_i u e1 e2 e3
        split at h1
        · rename_i y e4
          split at h1
          · rename_i hc
            injection h1 with h1
            subst h1
            obtain ⟨bb', cs, ty, f1, f2, f3⟩ := hg.root id _ hr
            rw [hat] at f1; injection f1 with f1; subst f1
            have hrel := cells_rel hB e4
            have l1 := RelDCs.length hrel
            have l2 := RelCs.length f3
            simp at l1 l2
            refine box ha hr hat f2 (by omega) (by omega) (relDCs_one hrel) rfl rfl hK rfl (fun x' e1 e2 e3 hm => ⟨bb, _, ty, by rw [e1]; exact hat, e3, ?_⟩)
            exact RelDCs.mv hm (by simpa using dupd_rel (RelCs.dc f3) hrel hc.1)
          · cases h1
        · cases h1
      · rename_i l e1 e2 e3
        split at h1
        · rename_i y e4
          split at h1
          · rename_i hc
            injection h1 with h1
            subst h1
            obtain ⟨bb', cs, ty, f1, f2, f3⟩ := hg.root id _ hr
            rw [hat] at f1; injection f1 with f1; subst f1
            have hrel := cells_rel hB e4
            have l1 := RelDCs.length hrel
            have l2 := RelDCs.length f3
            simp at l1 l2
            refine box ha hr hat f2 (by omega) (by omega) (relDCs_one hrel) rfl rfl hK rfl (fun x' e1 e2 e3 hm => ⟨bb, _, ty, by rw [e1]; exact hat, e3, ?_⟩)
            exact RelDCs.mv hm (by simpa using dupd_rel f3 hrel hc.1)
          · cases h1
        · cases h1
      · simp_all
      · cases h1
    | eptr id g i off =>
      obtain ⟨r', h1, hK⟩ := h
      simp only [RelV, RelDC] at hA
      obtain ⟨ad, ha, r, hr, had⟩ := hA
      rw [hr, Option.bind_some] at h1
      cases r with
      | row g' sz l =>
        simp only [Root.st] at h1
        cases e3 : B.pure? with
        | none => simp [e3] at h1
        | some y =>
          simp only [e3] at h1
          split at h1
          · rename_i hc
            obtain ⟨c1, c2, c3, c4⟩ := hc
            injection h1 with h1
            subst h1
            obtain ⟨-, had⟩ := had
            obtain ⟨bb, hat, e5⟩ := had c1.symm
            subst ha e5
            have hrow : ∃ cs ty, x.w.heap[bb]? = some (.cells cs ty (0, 0)) ∧ RelRows x.w x.F bb sz l 0 := by
              rcases (hg.root id _ hr).2 with ⟨e, _⟩ | ⟨b', cs, ty, f1, f2, f3⟩
              · rw [e] at c4; simp at c4
              · rw [hat] at f1; injection f1 with f1; subst f1; exact ⟨cs, ty, f2, f3⟩
            obtain ⟨cs, ty, f2, f3⟩ := hrow
            have hsz := (hg.root id _ hr).1
            have hsizes := f3.sizes
            obtain ⟨f4, f5⟩ := rows_flat f2 f3
            have hrel := pure_cells hB e3
            have l1 := RelCs.length hrel
            simp at l1
            have hki : i * sz + off + n ≤ l.length * sz := by
              have : (i + 1) * sz ≤ l.length * sz := Nat.mul_le_mul_right _ c4
              rw [Nat.add_mul] at this
              omega
            have hrun := run_storeVar (P := P) hs (v := b) (by omega) (off := i * sz + off) f2 (by omega) (relCs_one hrel)
            have hnew := setRow_heap x.w bb cs (cs.toList.take (i * sz + off) ++ b.cells.toList ++ cs.toList.drop (i * sz + off + n)).toArray ty (0, 0) f2
            have hlen : (cs.toList.take (i * sz + off) ++ b.cells.toList ++ cs.toList.drop (i * sz + off + n)).length = cs.size := by simp; omega
            obtain ⟨g1, g2⟩ := step_set (fn := Fn_ nm) (r' := .row g' sz (l.set i (upd (elemAt l i) off y))) hg hr rfl rfl hat (w' := x.w.setRow bb (cs.toList.take (i * sz + off) ++ b.cells.toList ++ cs.toList.drop (i * sz + off + n)).toArray) rfl rfl rfl (setRow_size _ _ _) (fun c hc => setRow_other x.w bb c _ hc)
              (.inr ⟨rfl, rfl, rfl, fun b' cs' t' f' k1 k2 => by
                rw [hat] at k1; injection k1 with k1; subst k1
                rw [f2] at k2; injection k2 with k2; injection k2 with k2 _ _; subst k2
                exact ⟨_, ty, (0, 0), hnew, by simpa using Nat.le_of_eq hlen.symm⟩⟩)
              (fun hm => ⟨hsz, .inr ⟨bb, _, ty, hat, hnew, by
                refine rows_of_flat (vs := (cs.toList.take (i * sz + off) ++ b.cells.toList ++ cs.toList.drop (i * sz + off + n)).take (l.length * sz)) hnew (fun u hu => ?_) ?_ ?_
                · rcases List.mem_or_eq_of_mem_set hu with h | h
                  · exact hsizes u h
                  · rw [h, upd_length (by rw [(f3.get c4).1]; omega)]; exact (f3.get c4).1
                · rw [flat_set hsizes c4 (by omega)]
                  refine RelCs.stay hm.F ?_
                  have := upd_rel f4 hrel c2 (off := i * sz + off)
                  have e := take_upd cs.toList b.cells.toList (i * sz + off) n (l.length * sz) (by simp; omega) hki (by simpa using f5)
                  rw [e] at this
                  exact this
                · simpa using List.take_prefix _ _⟩⟩)
            refine ⟨.skip, undef, _, .bot, ?_, .inr ⟨rfl, rfl⟩, g1, g2 _, by simp [RelV], hK⟩
            simp only [Instr.storeAt, Instr.sureAddr, pure_bind, Sem.run_bind, hrun, Result.andThen_ok, Sem.run_pure]
            rfl
          · cases h1
      | _ => simp [Root.st] at h1
    | _ => exact h.elim
  | _ => exact h.elim
end
end Go.Lx
