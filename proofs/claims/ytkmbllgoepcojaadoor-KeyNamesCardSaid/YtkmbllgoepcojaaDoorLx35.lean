import Derived.Test.YtkmbllgoepcojaaDoorLx32
import Derived.Lib.ItoaNum
import Derived.Lib.LaidTab
import Derived.Sort.Grow
import Derived.Deep.Draws
/- strconv's FormatInt at base 10: what the library's contract says of it, told of the language. -/
set_option linter.unusedVariables false
set_option linter.unusedSimpArgs false
namespace Go.Lx

/-- decimal digits, by recursion on a count -/
def digF : Nat → Nat → List UInt8
  | 0, n => [UInt8.ofNat (48 + n)]
  | f + 1, n => if n < 10 then [UInt8.ofNat (48 + n)] else digF f (n / 10) ++ [UInt8.ofNat (48 + n % 10)]
theorem digF_eq : ∀ {f n : Nat}, n < 10 ^ (f + 1) → digF f n = Lib.decDigits n
  | 0, n, h => by rw [Lib.decDigits, dif_pos (by omega)]; rfl
  | f + 1, n, h => by
    rw [Lib.decDigits]
    by_cases hn : n < 10
    · rw [dif_pos hn]; simp [digF, hn]
    · rw [dif_neg hn, ← digF_eq (f := f) (by rw [Nat.pow_succ] at h; omega)]; simp [digF, hn]
/-- the numeral of an int -/
def itoaL (n : Int) : List UInt8 := if n < 0 then 45 :: digF 20 n.natAbs else digF 20 n.toNat
theorem itoaL_eq {n : Int} (h0 : -9223372036854775808 ≤ n) (h1 : n ≤ 9223372036854775807) : Lib.itoa n = itoaL n := by
  unfold Lib.itoa itoaL
  have e : (10 : Nat) ^ (20 + 1) = 1000000000000000000000 := by decide
  split
  · rw [digF_eq (by omega)]
  · rw [digF_eq (by omega)]
def itoaS (n : Int) : ByteArray := ⟨(itoaL n).toArray⟩

/-- str.Quote: how a byte is written -/
def hexD (n : Nat) : UInt8 := UInt8.ofNat (if n < 10 then 48 + n else 87 + n)
def quB (c : UInt8) : List UInt8 :=
  if c.toNat = 34 ∨ c.toNat = 92 then [92, c] else if c.toNat = 10 then [92, 110] else if c.toNat = 9 then [92, 116] else if c.toNat = 13 then [92, 114]
  else if c.toNat < 32 ∨ 126 < c.toNat then [92, 120, hexD (c.toNat / 16), hexD (c.toNat % 16)] else [c]
def quL (l : List UInt8) : List UInt8 := 34 :: l.flatMap quB
def quoS (s : ByteArray) : ByteArray := ⟨(quL s.data.toList ++ [34]).toArray⟩

section
variable {P : Program} {nm : FuncId → Option Nat}

/-- the world grows, all that was there stays -/
theorem step_grown {fn : Nums} {x : Cx} (hg : Good fn x) {w' : World} (hs : x.w.heap.size ≤ w'.heap.size) (hk : ∀ b, b < x.w.heap.size → w'.heap[b]? = x.w.heap[b]?) (h1 : w'.os = x.w.os) (h2 : w'.tape = x.w.tape) (h3 : w'.output = x.w.output) :
    Good fn { x with w := w' } ∧ ∀ n0, Nx n0 x { x with w := w' } := by
  have hb : ∀ (id : Nat) (r : Root), x.h[id]? = some r → ∀ b, x.at_ id = some b → r = .dead ∨ w'.heap[b]? = x.w.heap[b]? := by
    intro id r hr b hb
    rcases hg.block hr hb with ⟨_, h⟩ | h | h
    · exact .inr (hk b (hg.ltOwn b h))
    · exact .inr (hk b (hg.lt b h))
    · exact .inl h
  have hm : Mv x { x with w := w' } := by
    refine ⟨fun b hb => ⟨hb, hk b (hg.lt b hb)⟩, fun id r hr => ⟨r, hr, ?_⟩⟩
    by_cases hd : r = .dead
    · subst hd; exact trivial
    · exact RootLe.refl (x := x) (x' := { x with w := w' }) rfl (fun b h => (hb id r hr b h).resolve_left hd) r
  refine ⟨⟨fun id r hr => ?_, hg.one, hg.apart, fun b hb => Nat.lt_of_lt_of_le (hg.lt b hb) hs, fun b hb => Nat.lt_of_lt_of_le (hg.ltOwn b hb) hs, hg.base_mv hm.F⟩, ?_⟩
  · by_cases hd : r = .dead
    · subst hd; exact trivial
    · exact RelRoot.mv hm rfl (fun b h => (hb id r hr b h).resolve_left hd) (hg.root id r hr)
  · exact fun n0 => ⟨h1, h2, h3, hs, fun b hb _ => hk b hb, fun b h => .inl h, fun b h => .inl h, fun fn v u _ h => RelV.mv hm h⟩

/-- the library's contract on internal/strconv.FormatInt at base 10; its table is laid -/
structure IsFmt (P : Program) (nm : FuncId → Option Nat) (k : FuncId) : Prop where
  calls : ∀ (n : Int) (w : World), -9223372036854775808 ≤ n → n ≤ 9223372036854775807 → Lib.TabIs P w "internal/strconv.uint64pow10" .u64 Lib.pow10Tab →
    Calls P k #[.int .i64 n, .int .i64 10] w fun e w' => e = .returned (.string ⟨(Lib.itoa n).toArray⟩) ∧ ∃ k os, w' = Sort.grow (w.drewN k) os
  enter : ∃ func b, P.funcs[k]? = some func ∧ func.body = some b ∧ func.name ≠ "runtime.NumGoroutine"
  tab : ∃ g, P.globalNamed "internal/strconv.uint64pow10" = some g ∧ nm (g + tabOff) = some (tabCode + 0)

theorem two_ints {fn : Nums} {x : Cx} {k k' : IntKind} {a b : Int} {us : Array Value} (h : RelVs fn x [.s (.c (.int k a)), .s (.c (.int k' b))] us.toList) : us = #[.int k a, .int k' b] := by
  obtain ⟨l⟩ := us
  match l, h with
  | [u, v], h => simp only [RelVs] at h; rw [inv_int h.1, inv_int h.2.1]
theorem tab_is {x : Cx} (hg : Good (Fn_ nm) x) {g : Nat} (h1 : P.globalNamed "internal/strconv.uint64pow10" = some g) (h2 : nm (g + tabOff) = some (tabCode + 0)) : Lib.TabIs P x.w "internal/strconv.uint64pow10" .u64 Lib.pow10Tab := by
  obtain ⟨_, t, f, h⟩ := hg.base 0 g h2
  unfold Lib.TabIs World.var?
  rw [h1, Option.bind_some, h]
  simp only [tabCells, Lib.pow10Tab, List.map_map]
  rfl

theorem fmt_rel {c : Nat} {k : FuncId} (hk : ∀ j, nm j = some c → j = k) (he : IsFmt P nm k) {n : Int} {h : List Root} {R : V → List Root → Prop} (h0 : -9223372036854775808 ≤ n) (h1 : n ≤ 9223372036854775807) (hR : R (.s (.c (.str (itoaS n)))) h) :
    CallsRel0 P nm c [.s (.c (.int .i64 n)), .s (.c (.int .i64 10))] h R := by
  intro j hj x hx hg us hus
  obtain rfl := hk j hj
  subst hx
  obtain rfl := two_ints hus
  obtain ⟨func, b, e1, e2, e3⟩ := he.enter
  obtain ⟨g, g1, g2⟩ := he.tab
  refine .inr ⟨run_callFunc e1 e2 e3 _ _, (he.calls n x.w h0 h1 (tab_is hg g1 g2)).mono ?_⟩
  rintro e w' ⟨rfl, m, os, rfl⟩
  obtain ⟨h5, h6⟩ := step_grown hg (w' := Sort.grow (x.w.drewN m) os) (by simp [Sort.grow, World.drewN]) (fun b hb => by simp [Sort.grow, World.drewN, Array.getElem?_append, hb]) rfl rfl rfl
  refine ⟨_, _, rfl, h5, h6 _, ?_, hR⟩
  rw [itoaL_eq h0 h1]
  simp [RelV, RelDC, RelC, itoaS]

/-- what is known of str.Quote -/
structure IsQuote (P : Program) (k : FuncId) : Prop where
  calls : ∀ (s : ByteArray) (w : World), s.size ≤ 1000000 → Calls P k #[.string s] w fun e w' => e = .returned (.string ⟨(quL s.data.toList ++ [34]).toArray⟩) ∧ RowKit.Below w.heap.size w w'
  enter : ∃ func b, P.funcs[k]? = some func ∧ func.body = some b ∧ func.name ≠ "runtime.NumGoroutine"
theorem one_str {fn : Nums} {x : Cx} {s : ByteArray} {us : Array Value} (h : RelVs fn x [.s (.c (.str s))] us.toList) : us = #[.string s] := by
  obtain ⟨l⟩ := us
  match l, h with
  | [u], h => simp only [RelVs] at h; rw [inv_str h.1]
theorem quote_rel {c : Nat} {k : FuncId} (hk : ∀ j, nm j = some c → j = k) (he : IsQuote P k) {s : ByteArray} {h : List Root} {R : V → List Root → Prop} (h0 : s.size ≤ 1000000) (hR : R (.s (.c (.str (quoS s)))) h) :
    CallsRel0 P nm c [.s (.c (.str s))] h R := by
  intro j hj x hx hg us hus
  obtain rfl := hk j hj
  subst hx
  obtain rfl := one_str hus
  obtain ⟨func, b, e1, e2, e3⟩ := he.enter
  refine .inr ⟨run_callFunc e1 e2 e3 _ _, (he.calls s x.w h0).mono ?_⟩
  rintro e w' ⟨rfl, hb⟩
  obtain ⟨h5, h6⟩ := step_grown hg (w' := w') hb.size (fun b hlt => hb.block b hlt) hb.os hb.tape hb.output
  exact ⟨_, _, rfl, h5, h6 _, by simp [RelV, RelDC, RelC, quoS], hR⟩
end
end Go.Lx
