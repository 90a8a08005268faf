import Derived.Test.YtkmbllgoepcojaaDoorLx32
import Derived.Lib.ReflectliteSlice
/- Functions that are not told in the language: what sort.SliceStable needs of reflectlite. -/
set_option linter.unusedVariables false
set_option linter.unusedSimpArgs false
namespace Go.Lx
def swapL (l : List U) (i j : Nat) : List U := (l.set i (elemAt l j)).set j (elemAt l i)

section
variable {P : Program} {nm : FuncId → Option Nat}
theorem run_kind_slice {t e : TypeId} {i : TypeInfo} (h : P.info? t = some i) (hd : i.desc = .slice e) (w : World) : (Extern.Rtype.kind t).run P w = .ok 23 w := by
  simp [Extern.Rtype.kind, Extern.Rtype.under, typeInfo, h, hd]
theorem run_elem_slice {t e : TypeId} {i : TypeInfo} (h : P.info? t = some i) (hd : i.desc = .slice e) (w : World) : (Extern.Rtype.elem? t).run P w = .ok (some e) w := by
  simp [Extern.Rtype.elem?, Extern.Rtype.under, typeInfo, h, hd]

/-- reflectlite.ValueOf of a slice in an interface -/
theorem valueOf_rel {c : Nat} {k : FuncId} (hk : ∀ j, nm j = some c → j = k) (he : IsExtern P k fun args => Extern.ReflectliteValue.unpack (args.getD 0 (.tuple #[]))) {t e : TypeId} {i : TypeInfo} (hi : P.info? t = some i) (hd : i.desc = .slice e) {d : DC} {h : List Root} {R : V → List Root → Prop}
    (hR : R (.m [.raw (typeHandle P t), .ptr h.length 0, .c (.int .u64 151)]) (h ++ [.boxd [d]])) : CallsRel0 P nm c [.s (.ifc t d)] h R := by
  intro j hj x hx hg us hus
  obtain rfl := hk j hj
  subst hx
  have hu : ∃ u, us = #[.iface t u] ∧ RelDC (Fn_ nm) x d u := by
    obtain ⟨l⟩ := us
    cases l with
    | nil => simp [RelVs] at hus
    | cons u l =>
      cases l with
      | nil =>
        simp only [RelVs, RelV, RelDC] at hus
        obtain ⟨⟨u', rfl, h2⟩, _⟩ := hus
        exact ⟨u', rfl, h2⟩
      | cons _ _ => simp [RelVs] at hus
  obtain ⟨u, rfl, hdu⟩ := hu
  obtain ⟨g1, g2, g3⟩ := new_boxd (t := t) (u := [d]) (cs := u.cells) hg (by rw [(relDC_cells hdu).1]; simp only [RelDCs]; exact ⟨hdu, trivial⟩)
  refine he.rel (u := .agg #[typeHandle P t, .pointer (some ⟨x.w.heap.size, 0, none⟩), .int .u64 151]) (w' := x.w.alloc (.cells u.cells t)) ?_ ⟨_, x.more (.cells u.cells t) (.boxd [d]), rfl, g1, g2 _, ?_, hR⟩
  · simp [Extern.ReflectliteValue.unpack, Extern.ReflectliteValue.mk, Extern.Rtype.handle, newVar, newRow, run_kind_slice hi hd, Extern.ReflectliteValue.flagIndir]
  · simp only [RelV] at g3 ⊢
    refine ⟨_, rfl, ?_⟩
    simp only [RelDCs]
    refine ⟨?_, g3, ?_, trivial⟩
    · simp only [RelDC, true_and]; exact ⟨rfl, rfl⟩
    · simp only [RelDC, RelC]

/-- a value of one argument -/
theorem one_rel {fn : Nums} {x : Cx} {v : V} {us : Array Value} (h : RelVs fn x [v] us.toList) : ∃ u, us = #[u] ∧ RelV fn x v u := by
  obtain ⟨l⟩ := us
  cases l with
  | nil => simp [RelVs] at h
  | cons u l =>
    cases l with
    | nil => simp only [RelVs] at h; exact ⟨u, rfl, h.1⟩
    | cons _ _ => simp [RelVs] at h

/-- how many elements a slice has -/
def DC.count : DC → Option Nat
  | .ref _ _ _ _ n => some n
  | .full l | .c (.sl l) => some l.length
  | _ => none
theorem count_slice {fn : Nums} {x : Cx} {d : DC} {n : Nat} {v : Value} (hc : d.count = some n) (h : RelDC fn x d v) : ∃ p c, v = .slice p n c := by
  cases d with
  | ref id g sz off k =>
    simp only [DC.count, Option.some.injEq] at hc
    subst hc
    simp only [RelDC] at h
    obtain ⟨a, cap, h1, _⟩ := h
    exact ⟨a, cap, h1⟩
  | full l =>
    simp only [DC.count, Option.some.injEq] at hc
    subst hc
    simp only [RelDC] at h
    obtain ⟨a, h1, _⟩ := h
    exact ⟨a, _, h1⟩
  | c y =>
    cases y with
    | sl l =>
      simp only [DC.count, Option.some.injEq] at hc
      subst hc
      simp only [RelDC, RelC] at h
      obtain ⟨a, cap, h1, _⟩ := h
      exact ⟨a, cap, h1⟩
    | _ => simp [DC.count] at hc
  | _ => simp [DC.count] at hc

/-- (reflectlite.Value).Len of a slice's value -/
theorem len_rel {c : Nat} {k : FuncId} (hk : ∀ j, nm j = some c → j = k) (he : IsExtern P k (Extern.ReflectliteValue.method (Extern.ReflectliteValue.valueError "reflectlite.Value.Len" 0) Extern.ReflectliteValue.len)) {t e : TypeId} {i : TypeInfo} (hi : P.info? t = some i) (hd : i.desc = .slice e) (hpk : P.packed t = false)
    {h : List Root} {id n : Nat} {d : DC} (hr : h[id]? = some (.boxd [d])) (hn : d.count = some n) {R : V → List Root → Prop} (hR : R (.s (.c (.int .i64 n))) h) : CallsRel0 P nm c [.m [.raw (typeHandle P t), .ptr id 0, .c (.int .u64 151)]] h R := by
  intro j hj x hx hg us hus
  obtain rfl := hk j hj
  subst hx
  obtain ⟨u, rfl, hu⟩ := one_rel hus
  simp only [RelV] at hu
  obtain ⟨⟨cs⟩, rfl, hu⟩ := hu
  match cs, hu with
  | [], hu => simp [RelDCs] at hu
  | [_], hu => simp [RelDCs] at hu
  | [_, _], hu => simp [RelDCs] at hu
  | _ :: _ :: _ :: _ :: _, hu => simp [RelDCs] at hu
  | [a, b, f], hu =>
    simp only [RelDCs, RelDC, RelC] at hu
    obtain ⟨⟨rfl, _⟩, ⟨bb, r, h1, h2, rfl, _⟩, rfl, _⟩ := hu
    obtain ⟨b', cs, ty, h3, h4, h5⟩ := hg.root id _ hr
    rw [h2] at h3; injection h3 with h3; subst h3
    obtain ⟨⟨cs⟩⟩ := cs
    · simp [RelDCs] at h5
    · rename_i v cs
      simp only [RelDCs] at h5
      obtain ⟨p, cp, rfl⟩ := count_slice hn h5.1
      have hc : x.w.cell? ⟨bb, 0, none⟩ = some (.slice p n cp) := by simp [World.cell?, h4]
      exact he.rel (u := .int .i64 n) (w' := x.w) (Lib.run_valueLen_slice t e i hi hd hpk ⟨bb, 0, none⟩ p n cp x.w hc) ⟨_, x, rfl, hg, Nx.refl _ _, rel_int, hR⟩

/-- which of swapper.go's literals -/
def swapNo (n : Nat) : Nat := if n = 0 then 1 else if n = 1 then 2 else 9
/-- reflectlite.Swapper of a slice of structs -/
theorem swapper_rel {c : Nat} {k : FuncId} (hk : ∀ j, nm j = some c → j = k) (he : IsExtern P k (Extern.ReflectliteSwapper.swapper "internal/reflectlite" (Extern.ReflectliteValue.valueError "Swapper"))) {t e : TypeId} {i ie : TypeInfo} (hi : P.info? t = some i) (hd : i.desc = .slice e)
    (hie : P.info? e = some ie) {ke : Nat} (hke : ∀ w, (Extern.Rtype.kind e).run P w = .ok ke w) (hp : ie.hasPointers = true) (hb : ie.bytes ≠ 8) (h24 : ke ≠ 24)
    {d : DC} {n f : Nat} (hn : d.count = some n) {h : List Root} {cc : Nat} (hf : P.funcs.findIdx? (·.name == "internal/reflectlite" ++ ".Swapper$" ++ toString (swapNo n)) = some f) (hnm : nm f = some cc)
    {R : V → List Root → Prop} (hR : R (.s (.clo cc [] (if n ≤ 1 then [] else [d, .raw (typeHandle P e)]))) h) : CallsRel0 P nm c [.s (.ifc t d)] h R := by
  intro j hj x hx hg us hus
  obtain rfl := hk j hj
  subst hx
  obtain ⟨u, rfl, hu⟩ := one_rel hus
  simp only [RelV, RelDC] at hu
  obtain ⟨u, rfl, hu⟩ := hu
  obtain ⟨p, cp, rfl⟩ := count_slice hn hu
  have hK : Lib.swapperK n ie ke = swapNo n := by
    unfold Lib.swapperK swapNo
    by_cases h0 : n = 0
    · simp [h0]
    · by_cases h1 : n = 1
      · simp [h1]
      · simp [h0, h1, hp, hb, h24]
  have hle : (swapNo n ≤ 2) = (n ≤ 1) := by
    unfold swapNo
    by_cases h0 : n = 0
    · simp [h0]
    · by_cases h1 : n = 1
      · simp [h1]
      · simp only [h0, h1, if_false, eq_iff_iff]; omega
  have hrun := Lib.run_swapper_slice t e i ie hi hd hie ke hke p n cp f (by rw [hK]; exact hf) x.w
  rw [hK] at hrun
  simp only [hle] at hrun
  refine he.rel hrun ⟨_, x, rfl, hg, Nx.refl _ _, ?_, hR⟩
  simp only [RelV, RelDC]
  refine ⟨f, _, _, rfl, hnm, by simp [RelDCs], ?_⟩
  split
  · simp [RelDCs]
  · simp only [RelDCs]
    refine ⟨hu, ?_, trivial⟩
    simp only [RelDC, true_and]
    exact ⟨rfl, rfl⟩

theorem rl_swap (i j : Int) (a : Addr) (n c : Nat) (h : Value) : Extern.ReflectliteSwapper.swap false #[.int .i64 i, .int .i64 j, .slice (some a) n c, h] = (do
    if i < 0 || i ≥ n || j < 0 || j ≥ n then Extern.ReflectliteSwapper.outOfRange
    Extern.ReflectliteSwapper.exchange (← Extern.Rtype.ofHandle h) a i.toNat j.toNat) := rfl

theorem four_rel {fn : Nums} {x : Cx} {a b c d : V} {us : Array Value} (h : RelVs fn x [a, b, c, d] us.toList) : ∃ p q r s, us = #[p, q, r, s] ∧ RelV fn x a p ∧ RelV fn x b q ∧ RelV fn x c r ∧ RelV fn x d s := by
  obtain ⟨l⟩ := us
  match l, h with
  | [p, q, r, s], h => simp only [RelVs] at h; exact ⟨p, q, r, s, rfl, h.1, h.2.1, h.2.2.1, h.2.2.2.1⟩
  | [], h => simp [RelVs] at h
  | [_], h => simp [RelVs] at h
  | [_, _], h => simp [RelVs] at h
  | [_, _, _], h => simp [RelVs] at h
  | _ :: _ :: _ :: _ :: _ :: _, h => simp [RelVs] at h

/-- the literal that exchanges two structs of an own row -/
theorem swap_rel {c : Nat} {k : FuncId} (hk : ∀ j, nm j = some c → j = k) (he : IsExtern P k (Extern.ReflectliteSwapper.swap false)) {e : TypeId} {sz : Nat} (hs : sizeT P e = some sz) (ha : aggT P e = some true)
    {i j : Int} {id g off n : Nat} {l : List U} {h : List Root} (hr : h[id]? = some (.row g sz l)) (hi : 0 ≤ i) (hj : 0 ≤ j) (hi' : i < n) (hj' : j < n) (hn : off + n ≤ l.length) {R : V → List Root → Prop}
    (hR : R (.tup []) (h.set id (.row g sz (swapL l (off + i.toNat) (off + j.toNat))))) : CallsRel0 P nm c [.s (.c (.int .i64 i)), .s (.c (.int .i64 j)), .s (.ref id g sz off n), .s (.raw (typeHandle P e))] h R := by
  intro q hq x hx hg us hus
  obtain rfl := hk q hq
  subst hx
  obtain ⟨u1, u2, u3, u4, rfl, h1, h2, h3, h4⟩ := four_rel hus
  have e1 := inv_int h1
  have e2 := inv_int h2
  subst e1 e2
  simp only [RelV, RelDC] at h3 h4
  obtain ⟨rfl, _⟩ := h4
  obtain ⟨a, cap, rfl, hle, _, r, hr', h5⟩ := h3
  rw [hr] at hr'
  injection hr' with hr'
  subst hr'
  obtain ⟨_, h6⟩ := h5
  obtain ⟨_, h6⟩ := h6 rfl
  obtain ⟨b, cs, ty, fz, hat, rfl, _, _⟩ := h6.resolve_left (by omega)
  have hsz := (hg.root id _ hr).1
  have hrows : ∃ cs ty, x.w.heap[b]? = some (.cells cs ty (0, 0)) ∧ RelRows x.w x.F b sz l 0 := by
    rcases (hg.root id _ hr).2 with ⟨e, _⟩ | ⟨b', cs, ty, f1, f2, f3⟩
    · rw [e] at hn; simp at hn; omega
    · rw [hat] at f1; injection f1 with f1; subst f1; exact ⟨cs, ty, f2, f3⟩
  obtain ⟨_, _, _, f3⟩ := hrows
  have hsizes := f3.sizes
  obtain ⟨a, rfl⟩ := Int.eq_ofNat_of_zero_le hi
  obtain ⟨c, rfl⟩ := Int.eq_ofNat_of_zero_le hj
  simp only [Int.toNat_natCast, Int.ofNat_lt] at hi' hj' hR
  have la : (elemAt l (off + a)).length = sz := (f3.get (by omega)).1
  have lc : (elemAt l (off + c)).length = sz := (f3.get (by omega)).1
  have pt : ∀ k, k < n → RelV (Fn_ nm) x (.s (.eptr id g (off + k) 0)) (.pointer (some ⟨b, off * sz + k * sz, none⟩)) := by
    intro k hk
    simp only [RelV, RelDC]
    refine ⟨_, rfl, _, hr, Nat.le_refl _, fun _ => ⟨b, hat, ?_⟩⟩
    rw [Nat.add_mul, Nat.add_zero]
  have ld : ∀ k, k < n → ∃ r, (loadVar e ⟨b, off * sz + k * sz, none⟩).run P x.w = .ok r x.w ∧ RelV (Fn_ nm) x (.a (elemAt l (off + k))) r := by
    intro k hk
    have lk : (elemAt l (off + k)).length = sz := (f3.get (by omega)).1
    obtain ⟨r, m1, m2⟩ := load_sound hg (h0 := x.h) (List.prefix_refl _) hs ha (pt k hk) (v := .a (elemAt l (off + k))) (by
      simp only [pvLoad, hr, ldE, cut, List.drop_zero, Nat.zero_add, Nat.le_refl, true_and, true_or, and_self, if_true, V.ofU]
      rw [List.take_of_length_le (by omega)]) (by simp only [vcLoad, hr]; omega)
    exact ⟨r, by simpa [Instr.loadAt, Instr.sureAddr] using m1, m2⟩
  obtain ⟨ra, ma, va⟩ := ld a (by omega)
  obtain ⟨rc, mc, vc⟩ := ld c (by omega)
  -- the first store
  obtain ⟨nx1, u1, x1, v1, s1, s1', hg1, hn1, -, hK1⟩ := store_sound (nm := nm) hg hs (pt a (by omega)) vc (K := fun _ h => h = x.h.set id (.row g sz (l.set (off + a) (elemAt l (off + c))))) (by
    refine ⟨.row g sz (l.set (off + a) (upd (elemAt l (off + a)) 0 (elemAt l (off + c)))), ?_, ?_⟩
    · rw [hr, Option.bind_some]
      simp only [Root.st, V.pure?]
      rw [if_pos ⟨trivial, by omega, by omega, by omega⟩]
    · have : upd (elemAt l (off + a)) 0 (elemAt l (off + c)) = elemAt l (off + c) := by simp [upd, la, lc, List.drop_of_length_le]
      rw [this])
  have hr1 : x1.h[id]? = some (.row g sz (l.set (off + a) (elemAt l (off + c)))) := by
    rw [hK1]
    simp [(List.getElem?_eq_some_iff.1 hr).1]
  have idlt : id < x.h.length := (List.getElem?_eq_some_iff.1 hr).1
  have ptc := hn1.mv (Fn_ nm) _ _ (by simp [V.under, DC.under, idlt]) (pt c (by omega))
  have va' := hn1.mv (Fn_ nm) _ _ (by simp [V.under]) va
  obtain ⟨nx2, u2, x2, v2, s2, s2', hg2, hn2, -, hK2⟩ := store_sound (nm := nm) hg1 hs ptc va' (K := fun _ h => h = x1.h.set id (.row g sz (swapL l (off + a) (off + c)))) (by
    have l2 : (elemAt (l.set (off + a) (elemAt l (off + c))) (off + c)).length = sz := by
      unfold elemAt
      rw [List.getElem?_set]
      split
      · rw [if_pos (by omega)]; exact lc
      · exact lc
    refine ⟨.row g sz ((l.set (off + a) (elemAt l (off + c))).set (off + c) (upd (elemAt (l.set (off + a) (elemAt l (off + c))) (off + c)) 0 (elemAt l (off + a)))), ?_, ?_⟩
    · rw [hr1, Option.bind_some]
      simp only [Root.st, V.pure?]
      rw [if_pos ⟨trivial, by omega, by omega, by simp; omega⟩]
    · have : upd (elemAt (l.set (off + a) (elemAt l (off + c))) (off + c)) 0 (elemAt l (off + a)) = elemAt l (off + a) := by simp [upd, la, l2, List.drop_of_length_le]
      rw [this]
      rfl)
  have hl : x1.h.length = x.h.length := by rw [hK1]; simp
  rw [hl] at hn2
  have hh : x2.h = x.h.set id (.row g sz (swapL l (off + a) (off + c))) := by rw [hK2, hK1, List.set_set]
  have run_st : ∀ {w w' : World} {nx : Next} {o : Nat} {v : Value}, (do Instr.storeAt e (.pointer (some ⟨b, o, none⟩)) v; pure Next.skip : Sem Next).run P w = .ok nx w' → (storeVar e ⟨b, o, none⟩ v).run P w = .ok () w' := by
    intro w w' nx o v h
    simp only [Instr.storeAt, Instr.sureAddr, pure_bind, Sem.run_bind] at h
    cases hq : (storeVar e ⟨b, o, none⟩ v).run P w with
    | ok u w2 => rw [hq] at h; simp at h; rw [h.2]
    | _ => rw [hq] at h; simp [Result.andThen] at h
  refine he.rel (u := .tuple #[]) (w' := x2.w) ?_ ⟨.tup [], x2, rfl, hg2, hn1.trans hn2, by simp [RelV, RelVs], by rw [hh]; exact hR⟩
  rw [rl_swap]
  have e1 : ((a : Int) < 0 || (a : Int) ≥ n || (c : Int) < 0 || (c : Int) ≥ n) = false := by simp; omega
  simp only [e1, Bool.false_eq_true, if_false, pure_bind]
  have ho : (Extern.Rtype.ofHandle (typeHandle P e)).run P x.w = .ok e x.w := by simp [Extern.Rtype.ofHandle, handleType, typeHandle]
  simp only [Sem.run_bind, ho, Result.andThen_ok, Extern.ReflectliteSwapper.exchange, run_sizeT hs, add_none, Int.toNat_natCast, ma, mc, run_st s1, run_st s2, Sem.run_pure]
end
end Go.Lx
