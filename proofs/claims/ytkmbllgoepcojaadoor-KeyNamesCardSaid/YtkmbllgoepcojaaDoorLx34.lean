import Derived.Test.YtkmbllgoepcojaaDoorLx33
import Derived.Test.YtkmbllgoepcojaaDoorLx35
import Derived.Test.YtkmbllgoepcojaaDoorLxIn
/- The functions that are not told in the language, put together: what is known of them; the environment of a program; what the interpreter says of a law. -/
set_option linter.unusedVariables false
set_option linter.unusedSimpArgs false
namespace Go.Lx

/-- the handle of a type: the globals' block, the type -/
def hdl (G t : Nat) : Value := .pointer (some ⟨G, t, none⟩)

/-- what is known of the functions without a body (G: the block of the globals; T: the slice type, E: its elements' type) -/
def primO (G T E : Nat) : Orc := fun f args h R =>
  match f, args with
  | 82, [.s (.c (.flt b))] => R (.s (.c (.int .u64 b))) h
  | 83, [.s (.c (.int .u64 n))] => R (.s (.c (.flt n.toNat))) h
  | 80, [.s (.c (.flt b))] => ∀ b', TruncTo b b' → R (.s (.c (.flt b'))) h
  | 50, [.s (.ifc t d)] => t = T ∧ R (.m [.raw (hdl G T), .ptr h.length 0, .c (.int .u64 151)]) (h ++ [.boxd [d]])
  | 184, [.m [.raw v, .ptr id 0, .c (.int .u64 151)]] => v = hdl G T ∧ ∃ d n, h[id]? = some (.boxd [d]) ∧ d.count = some n ∧ R (.s (.c (.int .i64 (n : Nat)))) h
  | 185, [.s (.ifc t d)] => t = T ∧ ∃ n, d.count = some n ∧ R (.s (.clo (if n = 0 then 187 else if n = 1 then 188 else 195) [] (if n ≤ 1 then [] else [d, .raw (hdl G E)]))) h
  | 195, [.s (.c (.int .i64 i)), .s (.c (.int .i64 j)), .s (.ref id g sz off n), .s (.raw v)] => v = hdl G E ∧ sz = 2 ∧ ∃ l, h[id]? = some (.row g sz l) ∧ 0 ≤ i ∧ 0 ≤ j ∧ i < n ∧ j < n ∧ off + n ≤ l.length ∧ R (.tup []) (h.set id (.row g sz (swapL l (off + i.toNat) (off + j.toNat))))
  | 228, [.s (.c (.int .i64 n)), .s (.c (.int .i64 10))] => -9223372036854775808 ≤ n ∧ n ≤ 9223372036854775807 ∧ R (.s (.c (.str (itoaS n)))) h
  | 219, [.s (.c (.str s))] => s.size ≤ 1000000 ∧ R (.s (.c (.str (quoS s)))) h
  | 4000100, [.s (.c (.flt a)), .s (.c (.flt b))] => ∀ c, FDiv a b c → R (.s (.c (.flt c))) h
  | _, _ => False

theorem primO_mono {G T E : Nat} {f args h} {R R' : V → List Root → Prop} (hR : ∀ v h', R v h' → R' v h') (H : primO G T E f args h R) : primO G T E f args h R' := by
  unfold primO at H ⊢
  split at H
  · exact hR _ _ H
  · exact hR _ _ H
  · exact fun b' hb => hR _ _ (H b' hb)
  · exact ⟨H.1, hR _ _ H.2⟩
  · obtain ⟨h1, d, n, h2, h3, h4⟩ := H; exact ⟨h1, d, n, h2, h3, hR _ _ h4⟩
  · obtain ⟨h1, n, h2, h3⟩ := H; exact ⟨h1, n, h2, hR _ _ h3⟩
  · obtain ⟨h1, h0, l, h2, h3, h4, h5, h6, h7, h8⟩ := H; exact ⟨h1, h0, l, h2, h3, h4, h5, h6, h7, hR _ _ h8⟩
  · exact ⟨H.1, H.2.1, hR _ _ H.2.2⟩
  · exact ⟨H.1, hR _ _ H.2⟩
  · exact fun c hc => hR _ _ (H c hc)
  · exact H.elim

/-- the environment of functions told, and these -/
def envOf (fns : List (Nat × Fn)) (G T E : Nat) : Env where
  fn f := fns.lookup f
  prim _ := primO G T E
  pmono _ _ _ _ f args h R H := H

/-! ### the interpreter's part -/
def truncB (b : Nat) : Option Nat := match FloatKind.f64.decode b with
  | .nan s t => if FloatKind.f64.format.quiet t = t then some b else none
  | d => some (FloatKind.f64.encode (d.integral .zero))
theorem truncB_sound {b b' c : Nat} (h : truncB b = some c) (ht : TruncTo b b') : b' = c := by
  unfold truncB at h
  unfold TruncTo at ht
  cases hd : FloatKind.f64.decode b <;> simp only [hd] at h ht
  case nan s t =>
    split at h
    · rename_i hq
      rw [if_pos hq] at ht
      injection h with h
      rw [ht, h]
    · cases h
  all_goals
    injection h with h
    rw [ht, h]

def isHdl (G t : Nat) : Value → Bool
  | .pointer (some ⟨g, o, none⟩) => g == G && o == t
  | _ => false
theorem isHdl_sound {G t : Nat} {v : Value} (h : isHdl G t v = true) : v = hdl G t := by
  unfold isHdl at h
  split at h
  · simp only [Bool.and_eq_true, beq_iff_eq] at h
    obtain ⟨rfl, rfl⟩ := h
    rfl
  · cases h

def primC (G T E : Nat) : Call := fun f args h =>
  match f, args with
  | 82, [.s (.c (.flt b))] => some (.s (.c (.int .u64 b)), h)
  | 83, [.s (.c (.int .u64 n))] => some (.s (.c (.flt n.toNat)), h)
  | 80, [.s (.c (.flt b))] => (truncB b).map fun c => (.s (.c (.flt c)), h)
  | 50, [.s (.ifc t d)] => if t == T then some (.m [.raw (hdl G T), .ptr h.length 0, .c (.int .u64 151)], h ++ [.boxd [d]]) else none
  | 184, [.m [.raw v, .ptr id 0, .c (.int .u64 151)]] => if isHdl G T v then match h[id]? with
    | some (.boxd [d]) => d.count.map fun n => (.s (.c (.int .i64 (n : Nat))), h)
    | _ => none else none
  | 185, [.s (.ifc t d)] => if t == T then d.count.map fun n => (.s (.clo (if n = 0 then 187 else if n = 1 then 188 else 195) [] (if n ≤ 1 then [] else [d, .raw (hdl G E)])), h) else none
  | 195, [.s (.c (.int .i64 i)), .s (.c (.int .i64 j)), .s (.ref id g sz off n), .s (.raw v)] => match h[id]? with
    | some (.row g' sz' l) => if isHdl G E v && sz == 2 && g == g' && sz == sz' && decide (0 ≤ i) && decide (0 ≤ j) && decide (i < n) && decide (j < n) && decide (off + n ≤ l.length) then some (.tup [], h.set id (.row g sz (swapL l (off + i.toNat) (off + j.toNat)))) else none
    | _ => none
  | 228, [.s (.c (.int .i64 n)), .s (.c (.int .i64 10))] => if decide (-9223372036854775808 ≤ n) && decide (n ≤ 9223372036854775807) then some (.s (.c (.str (itoaS n))), h) else none
  | 219, [.s (.c (.str s))] => if decide (s.size ≤ 1000000) then some (.s (.c (.str (quoS s))), h) else none
  | 4000100, [.s (.c (.flt a)), .s (.c (.flt b))] => (fdiv a b).map fun c => (.s (.c (.flt c)), h)
  | _, _ => none

theorem primC_sound {G T E : Nat} {f args h v h'} (H : primC G T E f args h = some (v, h')) : primO G T E f args h fun w k => w = v ∧ k = h' := by
  unfold primC at H
  split at H
  · simp only [Option.some.injEq, Prod.mk.injEq] at H; exact H
  · simp only [Option.some.injEq, Prod.mk.injEq] at H; exact H
  · simp only [Option.map_eq_some_iff, Prod.mk.injEq] at H
    obtain ⟨c, h1, h2, h3⟩ := H
    intro b' hb
    rw [truncB_sound h1 hb]
    exact ⟨h2, h3⟩
  · split at H
    · rename_i ht
      simp only [Option.some.injEq, Prod.mk.injEq] at H
      exact ⟨by simpa using ht, H.1, H.2⟩
    · cases H
  · split at H
    · rename_i hv
      split at H
      · rename_i d hd
        simp only [Option.map_eq_some_iff, Prod.mk.injEq] at H
        obtain ⟨n, h1, h2, h3⟩ := H
        exact ⟨isHdl_sound hv, d, n, hd, h1, h2, h3⟩
      · cases H
    · cases H
  · split at H
    · rename_i ht
      simp only [Option.map_eq_some_iff, Prod.mk.injEq] at H
      obtain ⟨n, h1, h2, h3⟩ := H
      exact ⟨by simpa using ht, n, h1, h2, h3⟩
    · cases H
  · split at H
    · rename_i g' sz' l hl
      split at H
      · rename_i hc
        simp only [Bool.and_eq_true, decide_eq_true_eq, beq_iff_eq] at hc
        obtain ⟨⟨⟨⟨⟨⟨⟨⟨c1, c2⟩, c3⟩, c4⟩, c5⟩, c6⟩, c7⟩, c8⟩, c9⟩ := hc
        subst c3 c4
        simp only [Option.some.injEq, Prod.mk.injEq] at H
        exact ⟨isHdl_sound c1, c2, l, hl, c5, c6, c7, c8, c9, H.1, H.2⟩
      · cases H
    · cases H
  · split at H
    · rename_i hc
      simp only [Bool.and_eq_true, decide_eq_true_eq] at hc
      simp only [Option.some.injEq, Prod.mk.injEq] at H
      exact ⟨hc.1, hc.2, H.1, H.2⟩
    · cases H
  · split at H
    · rename_i hc
      simp only [Option.some.injEq, Prod.mk.injEq] at H
      exact ⟨of_decide_eq_true hc, H.1, H.2⟩
    · cases H
  · simp only [Option.map_eq_some_iff, Prod.mk.injEq] at H
    obtain ⟨c, h1, h2, h3⟩ := H
    intro d hd
    rcases hd with hd | ⟨hd, _⟩
    · rw [h1] at hd
      injection hd with hd
      subst hd
      exact ⟨h2, h3⟩
    · rw [h1] at hd; cases hd
  · cases H

/-- what the interpreter answers -/
def saysTrue : Option (V × List Root) → Bool
  | some (.s (.c (.bool b)), _) => b
  | _ => false
/-- A law without arguments that the interpreter answers by true. -/
theorem does_of_run {fns : List (Nat × Fn)} {G T E : Nat} {fuel d c : Nat} (h : saysTrue (run (fun f => fns.lookup f) (primC G T E) fuel d c [] []) = true) : Does (envOf fns G T E) c [] [] fun v _ => v = .s (.c (.bool true)) := by
  have hs := run_sound (E := envOf fns G T E) (prim := primC G T E) (fun f args h v h' H => Does.prim (E := envOf fns G T E) (primC_sound H)) (fuel := fuel) d
  cases hr : run (fun f => fns.lookup f) (primC G T E) fuel d c [] [] with
  | none => rw [hr] at h; simp [saysTrue] at h
  | some p =>
    obtain ⟨v, h'⟩ := p
    rw [hr] at h
    refine Does.mono _ _ _ _ _ ?_ (hs _ _ _ _ _ hr)
    rintro w k ⟨rfl, rfl⟩
    unfold saysTrue at h
    split at h
    · rename_i b _ e
      injection e with e
      injection e with e1 e2
      subst e1
      rw [h]
    · cases h

/-! ### the link -/
theorem lookup_mem' {α : Type} : ∀ {l : List (Nat × α)} {k : Nat} {c : α}, l.lookup k = some c → (k, c) ∈ l
  | [], k, c, h => by simp at h
  | (j, d) :: l, k, c, h => by
    simp only [List.lookup_cons] at h
    split at h
    · rename_i e
      have e : k = j := by simpa using e
      injection h with h
      subst e h
      simp
    · exact List.mem_cons_of_mem _ (lookup_mem' h)

/-- one number for a code -/
def oneOf (l : List (Nat × Nat)) (c k : Nat) : Bool := l.all fun p => p.2 != c || p.1 == k
theorem oneOf_sound {l : List (Nat × Nat)} {c k j : Nat} (h : oneOf l c k = true) (hj : l.lookup j = some c) : j = k := by
  have := List.all_eq_true.1 h _ (lookup_mem' hj)
  simpa using this

/-- what the program must have for 'primO' -/
structure Prims (P : Program) (nm : FuncId → Option Nat) (G T E : Nat) : Prop where
  bits : ∃ k, (∀ j, nm j = some 82 → j = k) ∧ ((∃ j, nm j = some 82) → IsExtern P k Extern.MathFloatBits.float64bits)
  frombits : ∃ k, (∀ j, nm j = some 83 → j = k) ∧ ((∃ j, nm j = some 83) → IsExtern P k Extern.MathFloatBits.float64frombits)
  trunc : ∃ k, (∀ j, nm j = some 80 → j = k) ∧ ((∃ j, nm j = some 80) → ∃ name, IsExtern P k (Extern.MathFloor.toIntegral name .zero))
  valueOf : ∃ k, (∀ j, nm j = some 50 → j = k) ∧ ((∃ j, nm j = some 50) → IsExtern P k fun args => Extern.ReflectliteValue.unpack (args.getD 0 (.tuple #[])))
  len : ∃ k, (∀ j, nm j = some 184 → j = k) ∧ ((∃ j, nm j = some 184) → IsExtern P k (Extern.ReflectliteValue.method (Extern.ReflectliteValue.valueError "reflectlite.Value.Len" 0) Extern.ReflectliteValue.len))
  swapper : ∃ k, (∀ j, nm j = some 185 → j = k) ∧ ((∃ j, nm j = some 185) → IsExtern P k (Extern.ReflectliteSwapper.swapper "internal/reflectlite" (Extern.ReflectliteValue.valueError "Swapper")))
  swap : ∃ k, (∀ j, nm j = some 195 → j = k) ∧ ((∃ j, nm j = some 195) → IsExtern P k (Extern.ReflectliteSwapper.swap false))
  fmt : ∃ k, (∀ j, nm j = some 228 → j = k) ∧ ((∃ j, nm j = some 228) → IsFmt P nm k)
  quote : ∃ k, (∀ j, nm j = some 219 → j = k) ∧ ((∃ j, nm j = some 219) → IsQuote P k)
  noquo : ∀ j, nm j ≠ some 4000100
  types : (∃ j, nm j = some 50 ∨ nm j = some 184 ∨ nm j = some 185 ∨ nm j = some 195) →
    P.globals.size = G ∧ (∃ i ie ke, P.info? T = some i ∧ i.desc = .slice E ∧ P.packed T = false ∧ P.info? E = some ie ∧ (∀ w, (Extern.Rtype.kind E).run P w = .ok ke w) ∧ ie.hasPointers = true ∧ ie.bytes ≠ 8 ∧ ke ≠ 24) ∧ sizeT P E = some 2 ∧ aggT P E = some true ∧
    (∃ f, P.funcs.findIdx? (·.name == "internal/reflectlite" ++ ".Swapper$" ++ toString 1) = some f ∧ nm f = some 187) ∧
    (∃ f, P.funcs.findIdx? (·.name == "internal/reflectlite" ++ ".Swapper$" ++ toString 2) = some f ∧ nm f = some 188) ∧
    (∃ f, P.funcs.findIdx? (·.name == "internal/reflectlite" ++ ".Swapper$" ++ toString 9) = some f ∧ nm f = some 195)

theorem prims_rel {P : Program} {nm : FuncId → Option Nat} {G T E : Nat} (hp : Prims P nm G T E) {f args h R} (H : primO G T E f args h R) : CallsRel P nm f args h R := by
  unfold primO at H
  split at H
  · refine ⟨fun e => absurd e (by decide), ?_⟩
    obtain ⟨k, h1, h2⟩ := hp.bits
    intro j hj
    exact bits_rel h1 (h2 ⟨j, hj⟩) H j hj
  · refine ⟨fun e => absurd e (by decide), ?_⟩
    obtain ⟨k, h1, h2⟩ := hp.frombits
    intro j hj
    exact frombits_rel h1 (h2 ⟨j, hj⟩) H j hj
  · refine ⟨fun e => absurd e (by decide), ?_⟩
    obtain ⟨k, h1, h2⟩ := hp.trunc
    intro j hj
    obtain ⟨name, h2⟩ := h2 ⟨j, hj⟩
    exact trunc_rel h1 h2 H j hj
  · refine ⟨fun e => absurd e (by decide), ?_⟩
    obtain ⟨k, h1, h2⟩ := hp.valueOf
    intro j hj
    obtain ⟨rfl, H⟩ := H
    obtain ⟨t1, ⟨i, ie, ke, t2, t3, t4, t5, t6, t7, t8, t9⟩, t10, t11, t12, t13, t14⟩ := hp.types ⟨j, .inl hj⟩
    subst t1
    exact valueOf_rel h1 (h2 ⟨j, hj⟩) t2 t3 H j hj
  · refine ⟨fun e => absurd e (by decide), ?_⟩
    obtain ⟨k, h1, h2⟩ := hp.len
    intro j hj
    obtain ⟨rfl, d, n, hd, hn, H⟩ := H
    obtain ⟨t1, ⟨i, ie, ke, t2, t3, t4, t5, t6, t7, t8, t9⟩, t10, t11, t12, t13, t14⟩ := hp.types ⟨j, .inr (.inl hj)⟩
    subst t1
    exact len_rel h1 (h2 ⟨j, hj⟩) t2 t3 t4 hd hn H j hj
  · refine ⟨fun e => absurd e (by decide), ?_⟩
    obtain ⟨k, h1, h2⟩ := hp.swapper
    intro j hj
    obtain ⟨rfl, n, hn, H⟩ := H
    obtain ⟨t1, ⟨i, ie, ke, t2, t3, t4, t5, t6, t7, t8, t9⟩, t10, t11, ⟨f1, a1, b1⟩, ⟨f2, a2, b2⟩, ⟨f9, a9, b9⟩⟩ := hp.types ⟨j, .inr (.inr (.inl hj))⟩
    subst t1
    by_cases n0 : n = 0
    · subst n0
      exact swapper_rel h1 (h2 ⟨j, hj⟩) t2 t3 t5 t6 t7 t8 t9 hn (f := f1) (cc := 187) a1 b1 H j hj
    · by_cases n1 : n = 1
      · subst n1
        exact swapper_rel h1 (h2 ⟨j, hj⟩) t2 t3 t5 t6 t7 t8 t9 hn (f := f2) (cc := 188) a2 b2 H j hj
      · rw [if_neg n0, if_neg n1] at H
        exact swapper_rel h1 (h2 ⟨j, hj⟩) t2 t3 t5 t6 t7 t8 t9 hn (f := f9) (cc := 195) (by unfold swapNo; rw [if_neg n0, if_neg n1]; exact a9) b9 H j hj
  · refine ⟨fun e => absurd e (by decide), ?_⟩
    obtain ⟨k, h1, h2⟩ := hp.swap
    intro j hj
    obtain ⟨rfl, rfl, l, hl, i1, i2, i3, i4, i5, H⟩ := H
    obtain ⟨t1, ⟨i, ie, ke, t2, t3, t4, t5, t6, t7, t8, t9⟩, t10, t11, t12, t13, t14⟩ := hp.types ⟨j, .inr (.inr (.inr hj))⟩
    subst t1
    exact swap_rel h1 (h2 ⟨j, hj⟩) t10 t11 hl i1 i2 i3 i4 i5 H j hj
  · refine ⟨fun e => absurd e (by decide), ?_⟩
    obtain ⟨k, h1, h2⟩ := hp.fmt
    intro j hj
    exact fmt_rel h1 (h2 ⟨j, hj⟩) H.1 H.2.1 H.2.2 j hj
  · refine ⟨fun e => absurd e (by decide), ?_⟩
    obtain ⟨k, h1, h2⟩ := hp.quote
    intro j hj
    exact quote_rel h1 (h2 ⟨j, hj⟩) H.1 H.2 j hj
  · refine ⟨fun _ => ⟨_, _, rfl, H⟩, fun j hj => absurd hj (hp.noquo j)⟩
  · exact H.elim

/-- the link names no function by the code of the division -/
theorem noquo_of {l : List (Nat × Nat)} (h : (l.all fun p => decide (p.2 ≠ 4000100)) = true) : ∀ j, l.lookup j ≠ some 4000100 := by
  intro j e
  exact (of_decide_eq_true (List.all_eq_true.1 h _ (lookup_mem' e))) rfl
/-! ### the tables at a law's begin -/
/-- a link without tables -/
theorem notab {l : List (Nat × Nat)} (h : (l.all fun p => decide (p.2 < 4000000)) = true) {Q : Nat → Nat → Prop} : ∀ c b, l.lookup (b + tabOff) = some (tabCode + c) → Q c b := by
  intro c b e
  have h2 : tabCode + c < 4000000 := of_decide_eq_true (List.all_eq_true.1 h _ (lookup_mem' e))
  unfold tabCode at h2
  omega
/-- a link with the one table of powers of ten -/
theorem onetab {P : Program} {W : World} {l : List (Nat × Nat)} {g : Nat} (h : (l.all fun p => decide (p.2 < 4000000) || p == (g + tabOff, tabCode)) = true) (hg : P.globalNamed "internal/strconv.uint64pow10" = some g)
    (ht : Lib.TabIs P W "internal/strconv.uint64pow10" .u64 Lib.pow10Tab) : ∀ c b, l.lookup (b + tabOff) = some (tabCode + c) → b < W.heap.size ∧ TabAt W c b := by
  intro c b e
  have h2 := List.all_eq_true.1 h _ (lookup_mem' e)
  simp only [Bool.or_eq_true, decide_eq_true_eq, beq_iff_eq, Prod.mk.injEq] at h2
  obtain ⟨rfl, rfl⟩ : b = g ∧ c = 0 := by
    unfold tabCode at h2
    omega
  unfold Lib.TabIs World.var? at ht
  rw [hg, Option.bind_some] at ht
  have hlt : b < W.heap.size := by
    rcases Nat.lt_or_ge b W.heap.size with h' | h'
    · exact h'
    · rw [Array.getElem?_eq_none h'] at ht; simp at ht
  refine ⟨hlt, ?_⟩
  split at ht
  · rename_i cs t f hc
    injection ht with ht
    refine ⟨t, f, ?_⟩
    rw [hc, ht]
    simp only [tabCells, Lib.pow10Tab, List.map_map]
    rfl
  · cases ht
end Go.Lx
