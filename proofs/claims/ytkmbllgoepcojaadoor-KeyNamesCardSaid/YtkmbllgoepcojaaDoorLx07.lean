import Derived.Test.YtkmbllgoepcojaaDoorLx06
/- The pure operations, one by one. -/
set_option linter.unusedVariables false
set_option linter.unusedSimpArgs false
namespace Go.Lx
section
variable {P : Program} {fn : Nums} {x : Cx}

/-! ### what a value is -/
theorem inv_int {k n u} (h : RelV fn x (.s (.c (.int k n))) u) : u = .int k n := by simpa [RelV, RelDC, RelC] using h
theorem inv_bool {b u} (h : RelV fn x (.s (.c (.bool b))) u) : u = .bool b := by simpa [RelV, RelDC, RelC] using h
theorem inv_flt {n u} (h : RelV fn x (.s (.c (.flt n))) u) : u = .float .f64 n := by simpa [RelV, RelDC, RelC] using h
theorem inv_str {s u} (h : RelV fn x (.s (.c (.str s))) u) : u = .string s := by simpa [RelV, RelDC, RelC] using h
theorem inv_nil {k u} (h : RelV fn x (.s (.c (.nil k))) u) : u = k.val := by simpa [RelV, RelDC, RelC] using h
theorem rel_int {k n} : RelV fn x (.s (.c (.int k n))) (.int k n) := by simp [RelV, RelDC, RelC]
theorem rel_bool {b} : RelV fn x (.s (.c (.bool b))) (.bool b) := by simp [RelV, RelDC, RelC]
theorem rel_flt {n} : RelV fn x (.s (.c (.flt n))) (.float .f64 n) := by simp [RelV, RelDC, RelC]
theorem rel_str {s} : RelV fn x (.s (.c (.str s))) (.string s) := by simp [RelV, RelDC, RelC]
theorem nat_int {v : V} {n : Int} {u : Value} (hn : v.nat = some n) (h : RelV fn x v u) : ∃ k, u = .int k n := by
  unfold V.nat at hn
  split at hn
  · injection hn with hn
    subst hn
    exact ⟨_, inv_int h⟩
  · cases hn
theorem isInt_int {v : V} {u : Value} (hn : isInt v) (h : RelV fn x v u) : ∃ k, u = .int k (idxOf v) := by
  obtain ⟨n, hn⟩ := hn
  obtain ⟨k, hk⟩ := nat_int hn h
  exact ⟨k, by simpa [idxOf, hn] using hk⟩

theorem prefix_get {h0 : List Root} (hh : h0 <+: x.h) {id : Nat} {r : Root} (h : h0[id]? = some r) : x.h[id]? = some r := by
  obtain ⟨t, ht⟩ := hh
  rw [← ht, List.getElem?_append_left (List.getElem?_eq_some_iff.1 h).1]
  exact h

theorem cut_length {u : U} {off n : Nat} (h : off + n ≤ u.length) : (cut u off n).length = n := by simp [cut]; omega
theorem dcut_length {u : List DC} {off n : Nat} (h : off + n ≤ u.length) : (dcut u off n).length = n := by simp [dcut]; omega

theorem ldU_sound {w : World} {F : Nat → Prop} {n : Nat} {agg : Bool} {t : TypeId} (hs : sizeT P t = some n) (ha : aggT P t = some agg) {u : U} {off : Nat} {v : V} (hp : ldU n agg u off = some v)
    {g o : Nat} (hr : RelAt x.w x.F g u o) : ∃ r, (loadVar t ⟨g, o + off, none⟩).run P x.w = .ok r x.w ∧ RelV fn x v r := by
  unfold ldU at hp
  split at hp
  · rename_i hc
    injection hp with hp
    obtain ⟨vs, h1, h2⟩ := (hr.cut (off := off) (n := n)).load
    have hl : vs.length = n := by rw [← RelCs.length h1, cut_length hc.1]
    have hone : agg = false → ∃ c, vs = [c] := fun e => by
      have : n = 1 := hc.2.resolve_left (by simp [e])
      exact List.length_eq_one_iff.1 (by omega)
    refine ⟨_, run_load_at hs ha hl h2 hone, ?_⟩
    rcases ofU_rel (fn := fn) h1 hp (by
      subst hp
      cases agg with
      | true => simp [V.ofU]
      | false =>
        have : n = 1 := hc.2.resolve_left (by simp)
        obtain ⟨c, hc'⟩ := List.length_eq_one_iff.1 (show (cut u off n).length = 1 by rw [cut_length hc.1, this])
        simp [V.ofU, hc']) with ⟨e, h⟩ | ⟨e, c, e2, h⟩
    · simpa [e] using h
    · simpa [e, e2] using h
  · cases hp

theorem ldD_sound {n : Nat} {agg : Bool} {t : TypeId} (hs : sizeT P t = some n) (ha : aggT P t = some agg) {u : List DC} {off : Nat} {v : V} (hp : ldD n agg u off = some v)
    {b : Nat} {cs : Array Value} {ty f} (hb : x.w.heap[b]? = some (.cells cs ty f)) (hr : RelDCs fn x u cs.toList) : ∃ r, (loadVar t ⟨b, off, none⟩).run P x.w = .ok r x.w ∧ RelV fn x v r := by
  unfold ldD at hp
  split at hp
  · rename_i hc
    injection hp with hp
    have h1 : RelDCs fn x (dcut u off n) ((cs.toList.drop off).take n) := (hr.drop off).take n
    have hl : ((cs.toList.drop off).take n).length = n := by rw [← RelDCs.length h1, dcut_length hc.1]
    have hone : agg = false → ∃ c, (cs.toList.drop off).take n = [c] := fun e => by
      have : n = 1 := hc.2.resolve_left (by simp [e])
      exact List.length_eq_one_iff.1 (by omega)
    refine ⟨_, run_load_at hs ha hl (fun j v hv => ?_) hone, ?_⟩
    · rw [List.getElem?_take] at hv
      split at hv
      · rw [List.getElem?_drop] at hv
        simpa [World.cell?, hb] using hv
      · cases hv
    · subst hp
      cases agg with
      | true => simp only [V.ofD, if_true, RelV]; exact ⟨_, rfl, by simpa using h1⟩
      | false =>
        obtain ⟨c, hc'⟩ := hone rfl
        rw [hc'] at h1 ⊢
        match hd : dcut u off n, h1 with
        | [d], h1 =>
          simp only [RelDCs] at h1
          simpa [V.ofD, RelV] using h1.1
        | [], h1 => simp [RelDCs] at h1
        | _ :: _ :: _, h1 => simp [RelDCs] at h1
  · cases hp

theorem load_sound (hg : Good fn x) {h0 : List Root} (hh : h0 <+: x.h) {n : Nat} {agg : Bool} {t : TypeId} (hs : sizeT P t = some n) (ha : aggT P t = some agg) {V : V} {u : Value} (hV : RelV fn x V u) {v : Lx.V}
    (hp : pvLoad h0 n agg V = some v) (hvc : vcLoad h0 V) : ∃ r, (Instr.loadAt t u).run P x.w = .ok r x.w ∧ RelV fn x v r := by
  unfold pvLoad at hp
  split at hp
  · rename_i uu off
    simp only [RelV, RelDC] at hV
    obtain ⟨g, o, rfl, h1, h2⟩ := hV
    obtain ⟨r, h3, h4⟩ := ldU_sound (fn := fn) (w := x.w) (F := x.F) hs ha hp h2
    exact ⟨r, by simpa [Instr.loadAt, Instr.sureAddr] using h3, h4⟩
  · rename_i id off
    simp only [RelV, RelDC] at hV
    obtain ⟨b, r0, h1, h2, rfl, _⟩ := hV
    unfold ldR at hp
    split at hp
    · rename_i uu hr
      obtain ⟨b', cs, ty, e1, e2, e3⟩ := hg.root id _ (prefix_get hh hr)
      rw [h2] at e1
      injection e1 with e1
      subst e1
      obtain ⟨r, h3, h4⟩ := ldU_sound (fn := fn) (w := x.w) (F := x.F) hs ha hp (RelCs.at (o := 0) e2 (by simpa using e3))
      exact ⟨r, by simpa [Instr.loadAt, Instr.sureAddr] using h3, h4⟩
    · rename_i uu hr
      obtain ⟨b', cs, ty, e1, e2, e3⟩ := hg.root id _ (prefix_get hh hr)
      rw [h2] at e1
      injection e1 with e1
      subst e1
      obtain ⟨r, h3, h4⟩ := ldD_sound (fn := fn) hs ha hp e2 e3
      exact ⟨r, by simpa [Instr.loadAt, Instr.sureAddr] using h3, h4⟩
    · cases hp
  · rename_i id g i off
    simp only [RelV, RelDC] at hV
    obtain ⟨a, rfl, r0, h1, h2⟩ := hV
    simp only [vcLoad] at hvc
    unfold ldE at hp
    have key : ∀ {g' sz : Nat} {l : List U}, x.h[id]? = some (.row g' sz l) ∨ x.h[id]? = some (.lock g' sz l) → i < l.length → (if g = g' ∧ off + n ≤ sz ∧ (agg = true ∨ n = 1) then some (V.ofU agg (cut (elemAt l i) off n)) else none) = some v →
        ∃ r, (Instr.loadAt t (.pointer (some a))).run P x.w = .ok r x.w ∧ RelV fn x v r := by
      intro g' sz l hx hi hp
      split at hp
      · rename_i hc
        have hrow : ∃ b, x.at_ id = some b ∧ RelRows x.w x.F b sz l 0 := by
          rcases hx with hx | hx
          · rcases (hg.root id _ hx).2 with ⟨e, _⟩ | ⟨b, cs, ty, e1, e2, e3⟩
            · rw [e] at hi; simp at hi
            · exact ⟨b, e1, e3⟩
          · rcases (hg.root id _ hx).2 with ⟨e, _⟩ | ⟨b, e1, e2, e3⟩
            · rw [e] at hi; simp at hi
            · exact ⟨b, e1, e3⟩
        obtain ⟨b, e1, e2⟩ := hrow
        have ha' : a = ⟨b, i * sz + off, none⟩ := by
          rcases hx with hx | hx
          all_goals
            rw [h1] at hx
            injection hx with hx
            subst hx
            obtain ⟨b', e3, e4⟩ := h2.2 hc.1
            rw [e1] at e3
            injection e3 with e3
            subst e3
            exact e4
        obtain ⟨e5, e6⟩ := e2.get hi
        obtain ⟨r, h3, h4⟩ := ldU_sound (fn := fn) (w := x.w) (F := x.F) (v := v) hs ha (u := elemAt l i) (off := off) (by rw [ldU, if_pos ⟨by rw [e5]; exact hc.2.1, hc.2.2⟩]; exact hp) e6
        refine ⟨r, ?_, h4⟩
        rw [ha']
        simpa [Instr.loadAt, Instr.sureAddr] using h3
      · cases hp
    split at hp
    · rename_i g' sz l hr
      rw [hr] at hvc
      exact key (.inl (prefix_get hh hr)) hvc hp
    · rename_i g' sz l hr
      rw [hr] at hvc
      exact key (.inr (prefix_get hh hr)) hvc hp
    · cases hp
  · cases hp
end
end Go.Lx
