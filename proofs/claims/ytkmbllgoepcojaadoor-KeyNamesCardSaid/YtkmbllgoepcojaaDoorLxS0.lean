import Derived.Test.YtkmbllgoepcojaaDoorLxEq
import Derived.Test.YtkmbllgoepcojaaDoorLxDf
/- Values of the program's types; floats; bits; what steps at them. -/
set_option linter.unusedVariables false
set_option linter.unusedSimpArgs false
set_option maxRecDepth 100000
namespace Go.Lx
abbrev Ev (T G E : Nat) : Env := envOf (fnsL T) G T E
abbrev vI (n : Int) : V := .s (.c (.int .i64 n))
abbrev vU (n : Int) : V := .s (.c (.int .u8 n))
abbrev vW (n : Int) : V := .s (.c (.int .u64 n))
abbrev vB (b : Bool) : V := .s (.c (.bool b))
abbrev vF (b : Nat) : V := .s (.c (.flt b))
abbrev vS (s : Str) : V := .s (.c (.str s))
abbrev vK (k : Key) : V := .a (encKey k)
abbrev vV (v : Val) : V := .a (encVal v)
abbrev vD (d : Desc) : V := .a (encDesc d)
abbrev vP (p : Prp) : V := .a (encProp p)
abbrev vKs (l : List Key) : V := .s (.c (.sl (l.map encKey)))
abbrev vPs (l : List Prp) : V := .s (.c (.sl (l.map encProp)))

/-! ### what is handed in -/
def inI64 (n : Int) : Prop := -9223372036854775808 ≤ n ∧ n ≤ 9223372036854775807
def inU8 (n : Int) : Prop := 0 ≤ n ∧ n ≤ 255
def Key.wf (k : Key) : Prop := k.str.size ≤ maxLen ∧ inI64 k.sym
def Val.wf (v : Val) : Prop := inU8 v.kind ∧ v.num < 2 ^ 64 ∧ v.str.size ≤ maxLen ∧ inI64 v.ref
def Desc.wf (d : Desc) : Prop := inU8 d.has ∧ d.value.wf ∧ d.get.wf ∧ d.set.wf
def Prp.wf (p : Prp) : Prop := p.key.wf ∧ p.desc.wf

/-! ### equality -/
theorem key_ext {a b : Key} : a = b ↔ a.str = b.str ∧ a.sym = b.sym := by cases a; cases b; simp
theorem ueq_key (a b : Key) : ueq (encKey a) (encKey b) = decide (a = b) := by
  simp only [encKey, ueq, ceq, Bool.and_true, key_ext]
  by_cases h : a.str = b.str <;> simp [h]
theorem ek_key (k : Key) : (encKey k).map C.ek = [some .str, some (.int .i64)] := rfl
def valEq (a b : Val) : Bool := decide (a.kind = b.kind) && (feq a.num b.num && (decide (a.str = b.str) && decide (a.ref = b.ref)))
theorem ueq_val (a b : Val) : ueq (encVal a) (encVal b) = valEq a b := by simp only [encVal, ueq, ceq, Bool.and_true, valEq]
theorem ek_val (v : Val) : (encVal v).map C.ek = [some (.int .u8), some .flt, some .str, some (.int .i64)] := rfl

/-! ### parts written -/
theorem updV0 (v : Val) (n : Int) : upd (encVal v) 0 [.int .u8 n] = encVal { v with kind := n } := rfl
theorem updV1 (v : Val) (n : Nat) : upd (encVal v) 1 [.flt n] = encVal { v with num := n } := rfl
theorem updV2 (v : Val) (n : Str) : upd (encVal v) 2 [.str n] = encVal { v with str := n } := rfl
theorem updV3 (v : Val) (n : Int) : upd (encVal v) 3 [.int .i64 n] = encVal { v with ref := n } := rfl
theorem updV (v w : Val) : upd (encVal v) 0 (encVal w) = encVal w := rfl
theorem updD (v w : Desc) : upd (encDesc v) 0 (encDesc w) = encDesc w := rfl
theorem updD0 (d : Desc) (n : Int) : upd (encDesc d) 0 [.int .u8 n] = encDesc { d with has := n } := rfl
theorem updD1 (d : Desc) (v : Val) : upd (encDesc d) 1 (encVal v) = encDesc { d with value := v } := rfl
theorem updD5 (d : Desc) (v : Val) : upd (encDesc d) 5 (encVal v) = encDesc { d with get := v } := rfl
theorem updD9 (d : Desc) (v : Val) : upd (encDesc d) 9 (encVal v) = encDesc { d with set := v } := rfl
theorem updD13 (d : Desc) (b : Bool) : upd (encDesc d) 13 [.bool b] = encDesc { d with writable := b } := rfl
theorem updD14 (d : Desc) (b : Bool) : upd (encDesc d) 14 [.bool b] = encDesc { d with enumerable := b } := rfl
theorem updD15 (d : Desc) (b : Bool) : upd (encDesc d) 15 [.bool b] = encDesc { d with configurable := b } := rfl
theorem updP (p q : Prp) : upd (encProp p) 0 (encProp q) = encProp q := rfl
theorem updP0 (p : Prp) (k : Key) : upd (encProp p) 0 (encKey k) = encProp { p with key := k } := rfl
theorem updP2 (p : Prp) (d : Desc) : upd (encProp p) 2 (encDesc d) = encProp { p with desc := d } := rfl
theorem updK (p q : Key) : upd (encKey p) 0 (encKey q) = encKey q := rfl
theorem updK0 (k : Key) (n : Str) : upd (encKey k) 0 [.str n] = encKey { k with str := n } := rfl
theorem updK1 (k : Key) (n : Int) : upd (encKey k) 1 [.int .i64 n] = encKey { k with sym := n } := rfl
theorem fillU_nil {z : U} : fillU z [] = some z := rfl
theorem fillU_c {z : U} {o n : Nat} {c : C} {r} : fillU z ((o, n, .s (.c c)) :: r) = if 1 = n ∧ o + n ≤ z.length then fillU (upd z o [c]) r else none := rfl
theorem fillU_a {z u : U} {o n : Nat} {r} : fillU z ((o, n, .a u) :: r) = if u.length = n ∧ o + n ≤ z.length then fillU (upd z o u) r else none := rfl
theorem fillL_nil {z : U} {l} : fillL z l [] = some l := rfl
theorem fillL_c {z : U} {l i c r} : fillL z l ((i, .s (.c c)) :: r) = if 1 = z.length ∧ i < l.length then fillL z (l.set i [c]) r else none := rfl
theorem fillL_a {z u : U} {l i r} : fillL z l ((i, .a u) :: r) = if u.length = z.length ∧ i < l.length then fillL z (l.set i u) r else none := rfl
theorem st_boxu_c {u : U} {off n : Nat} {c : C} : Root.st (.boxu u) none off n (.s (.c c)) = if 1 = n ∧ off + n ≤ u.length then some (.boxu (upd u off [c])) else none := rfl
theorem st_boxu_a {u x : U} {off n : Nat} : Root.st (.boxu u) none off n (.a x) = if x.length = n ∧ off + n ≤ u.length then some (.boxu (upd u off x)) else none := rfl
theorem st_row_c {g sz : Nat} {l : List U} {g' k off n : Nat} {c : C} : Root.st (.row g sz l) (some (g', k)) off n (.s (.c c)) = if g = g' ∧ 1 = n ∧ off + n ≤ sz ∧ k < l.length then some (.row g sz (l.set k (upd (elemAt l k) off [c]))) else none := rfl
theorem st_row_a {g sz : Nat} {l : List U} {x : U} {g' k off n : Nat} : Root.st (.row g sz l) (some (g', k)) off n (.a x) = if g = g' ∧ x.length = n ∧ off + n ≤ sz ∧ k < l.length then some (.row g sz (l.set k (upd (elemAt l k) off x))) else none := rfl

theorem allLen_nil {n : Nat} : (∀ u : U, u ∈ ([] : List U) → u.length = n) = True := by simp
theorem allLen_cons {n : Nat} {x : U} {l : List U} : (∀ u : U, u ∈ x :: l → u.length = n) = (x.length = n ∧ ∀ u : U, u ∈ l → u.length = n) := by simp
theorem allLen_append {n : Nat} {r l : List U} : (∀ u : U, u ∈ r ++ l → u.length = n) = ((∀ u : U, u ∈ r → u.length = n) ∧ ∀ u : U, u ∈ l → u.length = n) := by
  simp only [eq_iff_iff, List.mem_append]
  exact ⟨fun h => ⟨fun u hu => h u (.inl hu), fun u hu => h u (.inr hu)⟩, fun h u hu => hu.elim (h.1 u) (h.2 u)⟩
theorem len_P {l : List Prp} : (∀ e : U, e ∈ l.map encProp → e.length = 18) = True := by
  simp only [eq_iff_iff, iff_true]
  intro e he
  simp only [List.mem_map] at he
  obtain ⟨p, _, rfl⟩ := he
  rfl
theorem len_K {l : List Key} : (∀ e : U, e ∈ l.map encKey → e.length = 2) = True := by
  simp only [eq_iff_iff, iff_true]
  intro e he
  simp only [List.mem_map] at he
  obtain ⟨p, _, rfl⟩ := he
  rfl

/-! ### elements -/
def atK (l : List Key) (i : Nat) : Key := (l[i]?).getD .zero
def atP (l : List Prp) (i : Nat) : Prp := (l[i]?).getD .zero
theorem elemK {l : List Key} {i : Nat} (h : i < l.length) : elemAt (l.map encKey) i = encKey (atK l i) := by simp [elemAt, atK, h]
theorem elemP {l : List Prp} {i : Nat} (h : i < l.length) : elemAt (l.map encProp) i = encProp (atP l i) := by simp [elemAt, atP, h]

theorem wrap_i64 {n : Int} (h : inI64 n) : IntKind.i64.wrap n = n := by
  obtain ⟨h1, h2⟩ := h
  simp only [IntKind.wrap, IntKind.signed, IntKind.bits, Bool.true_and, decide_eq_true_eq, Nat.reduceSub, Int.reducePow, ge_iff_le]
  split <;> omega
theorem wrap_nat {n : Nat} (h : n ≤ 4294967296) : IntKind.i64.wrap ((n : Nat) : Int) = n := wrap_i64 ⟨by omega, by omega⟩
theorem wrap_succ {n : Nat} (h : n < 4294967296) : IntKind.i64.wrap ((n : Int) + 1) = ((n + 1 : Nat) : Int) := by
  rw [wrap_i64 ⟨by omega, by omega⟩]; rfl

theorem take_mapP {l : List Prp} : (l.map encProp).take l.length = l.map encProp := by simp [List.take_of_length_le]
theorem take_mapK {l : List Key} : (l.map encKey).take l.length = l.map encKey := by simp [List.take_of_length_le]
theorem cast_zero : ((0 : Nat) : Int) = 0 := rfl
theorem isInt_I {k : IntKind} {n : Int} : isInt (.s (.c (.int k n))) = True := by simp [isInt, V.nat]
theorem nat_int' {k : IntKind} {n : Int} : V.nat (.s (.c (.int k n))) = some n := rfl

/-! ### bytes' bits -/
theorem u8_all {p : Int → Prop} (h : ∀ n : Fin 256, p (n : Nat)) {n : Int} (hn : inU8 n) : p n := by
  obtain ⟨h0, h1⟩ := hn
  have := h ⟨n.toNat, by omega⟩
  simpa [Int.toNat_of_nonneg h0] using this
/-- has a byte a bit? -/
def hasB (n : Int) (bit : Nat) : Bool := n.toNat / bit % 2 == 1

attribute [go_sem] take_mapP take_mapK Int.toNat_zero Nat.sub_zero Function.comp_apply cast_zero Int.ofNat_lt Int.ofNat_le Nat.zero_le Nat.le_refl isInt_I nat_int' Int.toNat_natCast Int.natCast_nonneg ueq_key ek_key ueq_val ek_val updV0 updV1 updV2 updV3 updV updD updD0 updD1 updD5 updD9 updD13 updD14 updD15 updP updP0 updP2 updK updK0 updK1 fillU_nil fillU_c fillU_a fillL_nil fillL_c fillL_a st_boxu_c st_boxu_a st_row_c st_row_a
  ne_eq allLen_nil allLen_cons allLen_append len_P len_K List.set_cons_zero List.set_cons_succ List.replicate_succ List.replicate_zero
end Go.Lx

/- What the functions of num, value and desc answer, and those of the references. -/
set_option linter.unusedVariables false
set_option linter.unusedSimpArgs false
set_option maxRecDepth 100000
namespace Go.Lx
variable {T G E : Nat}

/-! ### floats -/
theorem s_bits (b : Nat) : Fun (Ev T G E) 82 [vF b] (vW b) := Does.prim ⟨rfl, rfl⟩
theorem s_frombits (n : Int) : Fun (Ev T G E) 83 [vW n] (vF n.toNat) := Does.prim ⟨rfl, rfl⟩
/-- what math.Trunc answers of a float that is a number -/
def truncW (b : Nat) : Nat := FloatKind.f64.encode ((FloatKind.f64.decode b).integral .zero)
def isNum (b : Nat) : Bool := !(FloatKind.f64.decode b).isNaN
theorem feq_self (b : Nat) : feq b b = isNum b := by
  unfold feq isNum Ieee.Format.order FloatKind.decode
  show (Ieee.Datum.order (Ieee.double.read b) (Ieee.double.read b) == _) = !(Ieee.double.read b).isNaN
  cases Ieee.double.read b <;> simp [Ieee.Datum.order, Ieee.Datum.isNaN]
theorem s_arch (b : Nat) (h : isNum b = true) : Fun (Ev T G E) 80 [vF b] (vF (truncW b)) := by
  refine Does.prim ?_
  intro b' hb
  unfold isNum at h
  unfold TruncTo at hb
  unfold truncW
  cases hd : FloatKind.f64.decode b <;> simp only [hd] at h hb ⊢
  case nan => simp [Ieee.Datum.isNaN] at h
  all_goals
    subst hb
    simp

def absW (b : Nat) : Nat := (kAndNot .u64 b 9223372036854775808).toNat
def signW (b : Nat) : Bool := decide (IntKind.i64.wrap b < 0)

theorem s_math_Trunc (b : Nat) (h : isNum b = true) : Fun (Ev T G E) c_math_Trunc [vF b] (vF (truncW b)) := by
  refine does_start rfl ?_
  repeat' first
    | simp +contextual only [go_sem, Nat.reduceAdd, Nat.reduceLeDiff, Nat.reduceSub, Nat.reduceLT, Int.reduceLT, Int.reduceLE, Int.reduceEq, reduceCtorEq]
    | refine brB_dec (fun hc => ?_) (fun hc => ?_)
    | refine brB_split (fun hc => ?_) (fun hc => ?_)
    | refine caR_fun (s_arch b h) (by rfl) (.inr (by rfl)) (by rfl) ?_
    | refine gcR_fun (fun hg => s_arch b h) (fun h => by first | exact h | rfl | simp_all) (by rfl) (.inr (by rfl)) (by rfl) ?_
  exact endF_of (by first | exact resAll2 (by rfl) (by rfl) | exact resAll3 (by rfl) (by rfl) (by rfl) | rfl) (by rfl) ⟨by rfl, rfl⟩
theorem s_math_Abs (b : Nat) : Fun (Ev T G E) c_math_Abs [vF b] (vF (absW b)) := by
  refine does_start rfl ?_
  repeat' first
    | simp +contextual only [go_sem, Nat.reduceAdd, Nat.reduceLeDiff, Nat.reduceSub, Nat.reduceLT, Int.reduceLT, Int.reduceLE, Int.reduceEq, reduceCtorEq]
    | refine brB_dec (fun hc => ?_) (fun hc => ?_)
    | refine brB_split (fun hc => ?_) (fun hc => ?_)
    | refine caR_fun (s_bits b) (by rfl) (.inr (by rfl)) (by rfl) ?_
    | refine gcR_fun (fun hg => s_bits b) (fun h => by first | exact h | rfl | simp_all) (by rfl) (.inr (by rfl)) (by rfl) ?_
    | refine caR_fun (s_frombits _) (by rfl) (.inr (by rfl)) (by rfl) ?_
    | refine gcR_fun (fun hg => s_frombits _) (fun h => by first | exact h | rfl | simp_all) (by rfl) (.inr (by rfl)) (by rfl) ?_
  exact endF_of (by first | exact resAll2 (by rfl) (by rfl) | exact resAll3 (by rfl) (by rfl) (by rfl) | rfl) (by rfl) ⟨by rfl, rfl⟩
theorem s_math_Signbit (b : Nat) : Fun (Ev T G E) c_math_Signbit [vF b] (vB (signW b)) := by
  refine does_start rfl ?_
  repeat' first
    | simp +contextual only [go_sem, Nat.reduceAdd, Nat.reduceLeDiff, Nat.reduceSub, Nat.reduceLT, Int.reduceLT, Int.reduceLE, Int.reduceEq, reduceCtorEq]
    | refine brB_dec (fun hc => ?_) (fun hc => ?_)
    | refine brB_split (fun hc => ?_) (fun hc => ?_)
    | refine caR_fun (s_bits b) (by rfl) (.inr (by rfl)) (by rfl) ?_
    | refine gcR_fun (fun hg => s_bits b) (fun h => by first | exact h | rfl | simp_all) (by rfl) (.inr (by rfl)) (by rfl) ?_
  exact endF_of (by first | exact resAll2 (by rfl) (by rfl) | exact resAll3 (by rfl) (by rfl) (by rfl) | rfl) (by rfl) ⟨by rfl, rfl⟩
def fle (a b : Nat) : Bool := flt a b || feq a b
def fge (a b : Nat) : Bool := fgt a b || feq a b
abbrev safeW : Nat := 4845873199050653695
abbrev oneW : Nat := 4607182418800017408
def numMay (b : Nat) : Bool := !feq b b || (feq (truncW b) b && fle (absW b) safeW && (!feq b 0 || !signW b))
theorem s_num_May (b : Nat) : Fun (Ev T G E) c_num_May [vF b] (vB (numMay b)) := by
  refine does_start rfl ?_
  repeat' first
    | simp +contextual only [go_sem, Nat.reduceAdd, Nat.reduceLeDiff, Nat.reduceSub, Nat.reduceLT, Int.reduceLT, Int.reduceLE, Int.reduceEq, reduceCtorEq]
    | refine brB_dec (fun hc => ?_) (fun hc => ?_)
    | refine brB_split (fun hc => ?_) (fun hc => ?_)
    | refine caR_fun (s_math_Trunc b (by simpa [feq_self] using hg)) (by rfl) (.inr (by rfl)) (by rfl) ?_
    | refine gcR_fun (fun hg => s_math_Trunc b (by simpa [feq_self] using hg)) (fun h => by first | exact h | rfl | simp_all) (by rfl) (.inr (by rfl)) (by rfl) ?_
    | refine caR_fun (s_math_Abs b) (by rfl) (.inr (by rfl)) (by rfl) ?_
    | refine gcR_fun (fun hg => s_math_Abs b) (fun h => by first | exact h | rfl | simp_all) (by rfl) (.inr (by rfl)) (by rfl) ?_
    | refine caR_fun (s_math_Signbit b) (by rfl) (.inr (by rfl)) (by rfl) ?_
    | refine gcR_fun (fun hg => s_math_Signbit b) (fun h => by first | exact h | rfl | simp_all) (by rfl) (.inr (by rfl)) (by rfl) ?_
  refine endF_of (by first | exact resAll2 (by rfl) (by rfl) | exact resAll3 (by rfl) (by rfl) (by rfl) | rfl) (by rfl) ⟨?_, rfl⟩
  simp [numMay, fle, Bool.and_assoc]
end Go.Lx

/- Floats: which are our numbers; the reference's way to say it. -/
set_option linter.unusedVariables false
set_option linter.unusedSimpArgs false
set_option maxRecDepth 100000
namespace Go.Lx
variable {T G E : Nat}
open Ieee

theorem order_eq (a b : Nat) : Ieee.double.order a b = Datum.order (double.read a) (double.read b) := rfl
theorem read_zero : double.read 0 = .number false 0 (-1074) := by decide +kernel
theorem read_nzero : double.read 9223372036854775808 = .number true 0 (-1074) := by decide +kernel
theorem read_safe : double.read safeW = .number false 9007199254740991 0 := by decide +kernel
theorem read_nsafe : double.read 14069245235905429503 = .number true 9007199254740991 0 := by decide +kernel

theorem sw_eq : double.signWeight = 9223372036854775808 := by decide +kernel
theorem bin_eq : double.binade = 4503599627370496 := by decide +kernel
theorem inf_eq : double.infRung = 9218868437227405312 := by decide +kernel
theorem read_def (b : Nat) : double.read b = if b % 9223372036854775808 < 4503599627370496 then .number (b / 9223372036854775808 % 2 == 1) (b % 9223372036854775808) double.leastPlace
  else if b % 9223372036854775808 < 9218868437227405312 then
    .number (b / 9223372036854775808 % 2 == 1) (4503599627370496 + b % 9223372036854775808 % 4503599627370496) (double.leastPlace + (b % 9223372036854775808 / 4503599627370496 - 1 : Nat))
  else if b % 9223372036854775808 = 9218868437227405312 then .infinity (b / 9223372036854775808 % 2 == 1)
  else .nan (b / 9223372036854775808 % 2 == 1) (b % 9223372036854775808 - 9218868437227405312) := by
  unfold Format.read
  rw [sw_eq, bin_eq, inf_eq]

theorem shl_zero_iff {m k : Nat} : m <<< k = 0 ↔ m = 0 := by
  rw [Nat.shiftLeft_eq]
  have := Nat.two_pow_pos k
  constructor
  · intro h
    rcases Nat.mul_eq_zero.1 h with h | h <;> omega
  · rintro rfl; simp
theorem signed_zero_iff {s : Bool} {m k : Nat} : signed s m k = 0 ↔ m = 0 := by
  unfold signed
  rw [← shl_zero_iff (m := m) (k := k)]
  split <;> omega

theorem cmp_eq {a b : Int} : (some (compare a b) == some Ordering.eq) = decide (a = b) := by
  have : (compare a b = .eq) = (a = b) := by simp [Int.compare_eq_eq]
  by_cases h : a = b
  · subst h; simp
  · have h' : compare a b ≠ .eq := fun e => h (by rw [← this]; exact e)
    simp [h]
theorem cmp_lt {a b : Int} : (some (compare a b) == some Ordering.lt) = decide (a < b) := by
  by_cases h : a < b
  · rw [Int.compare_eq_lt.2 h]; simp [h]
  · have : compare a b ≠ .lt := fun e => h (Int.compare_eq_lt.1 e)
    cases hc : compare a b <;> simp_all
theorem cmp_gt {a b : Int} : (some (compare a b) == some Ordering.gt) = decide (b < a) := by
  by_cases h : b < a
  · rw [Int.compare_eq_gt.2 h]; simp [h]
  · have : compare a b ≠ .gt := fun e => h (Int.compare_eq_gt.1 e)
    cases hc : compare a b <;> simp_all

/-- equal to nought: one of the two noughts -/
theorem feq_zero {b : Nat} (hb : b < 2 ^ 64) : feq b 0 = decide (b = 0 ∨ b = 9223372036854775808) := by
  unfold feq
  rw [order_eq, read_zero, read_def]
  have hd : b / 9223372036854775808 % 2 = b / 9223372036854775808 := by omega
  split
  · simp only [Datum.order, cmp_eq]
    rw [show signed false 0 _ = 0 from signed_zero_iff.2 rfl]
    simp only [decide_eq_decide, signed_zero_iff]
    omega
  · split
    · simp only [Datum.order, cmp_eq]
      rw [show signed false 0 _ = 0 from signed_zero_iff.2 rfl]
      simp only [decide_eq_decide, signed_zero_iff]
      omega
    · split
      · have : ¬ (b = 0 ∨ b = 9223372036854775808) := by omega
        simp only [Datum.order, this, decide_false]
        cases (b / 9223372036854775808 % 2 == 1) <;> decide
      · have : ¬ (b = 0 ∨ b = 9223372036854775808) := by omega
        simp only [Datum.order, this, decide_false]
        decide
theorem feq_comm (a b : Nat) : feq a b = feq b a := by
  unfold feq
  rw [order_eq, order_eq]
  cases double.read a <;> cases double.read b <;> simp only [Datum.order, cmp_eq]
  · rename_i s m i t n j
    rw [Int.min_comm]
    simp only [decide_eq_decide]
    exact eq_comm
  · rename_i s m i t; cases t <;> decide
  · rename_i s t n j; cases s <;> decide
  · rename_i s t; cases s <;> cases t <;> decide

/-! ### made whole -/
theorem cut_zero (s : Bool) (n d : Nat) : Toward.zero.cut s n d = n / 2 ^ d := by
  unfold Toward.cut
  simp only [Bool.toNat_false, Nat.add_zero]
  by_cases h : d ≤ n.log2 + 2
  · rw [Nat.min_eq_left h, Nat.shiftLeft_eq, Nat.one_mul]
  · have h' : n.log2 + 2 ≤ d := by omega
    rw [Nat.min_eq_right h', Nat.shiftLeft_eq, Nat.one_mul]
    have h1 : n < 2 ^ (n.log2 + 1) := Nat.lt_log2_self
    have h2 : 2 ^ (n.log2 + 1) ≤ 2 ^ (n.log2 + 2) := Nat.pow_le_pow_right (by omega) (by omega)
    have h3 : 2 ^ (n.log2 + 1) ≤ 2 ^ d := Nat.pow_le_pow_right (by omega) (by omega)
    rw [Nat.div_eq_of_lt (by omega), Nat.div_eq_of_lt (by omega)]

/-- a number's magnitude, made whole -/
def wholeMag (m : Nat) (i : Int) : Nat := (m <<< i.toNat) / 2 ^ (-i).toNat
theorem integral_num {s : Bool} {m : Nat} {i : Int} : (Datum.number s m i).integral .zero = .number s (wholeMag m i) 0 := by
  simp only [Datum.integral, cut_zero, wholeMag]
/-- a float as a whole number -/
def toI (b : Nat) : Int := ((FloatKind.f64.decode b).toInt .zero).getD 0
theorem decode_eq (b : Nat) : FloatKind.f64.decode b = double.read b := rfl

theorem fle_num {s : Bool} {m : Nat} {i : Int} {b : Nat} (h : double.read b = .number s m i) : fle b safeW = decide (s = true ∨ (m <<< i.toNat) ≤ 9007199254740991 <<< (-i).toNat) := by
  unfold fle flt feq
  rw [order_eq, h, read_safe]
  simp only [Datum.order, cmp_eq, cmp_lt]
  have e1 : (i - min i 0).toNat = i.toNat := by omega
  have e2 : ((0 : Int) - min i 0).toNat = (-i).toNat := by omega
  rw [e1, e2]
  simp only [signed, Bool.false_eq_true, if_false, ← Bool.decide_or, decide_eq_decide]
  generalize m <<< i.toNat = A
  generalize 9007199254740991 <<< (-i).toNat = B
  cases s <;> simp <;> omega
theorem fge_num {s : Bool} {m : Nat} {i : Int} {b : Nat} (h : double.read b = .number s m i) : fge b 14069245235905429503 = decide (s = false ∨ (m <<< i.toNat) ≤ 9007199254740991 <<< (-i).toNat) := by
  unfold fge fgt feq
  rw [order_eq, h, read_nsafe]
  simp only [Datum.order, cmp_eq, cmp_gt]
  have e1 : (i - min i 0).toNat = i.toNat := by omega
  have e2 : ((0 : Int) - min i 0).toNat = (-i).toNat := by omega
  rw [e1, e2]
  simp only [signed, Bool.false_eq_true, if_false, if_true, ← Bool.decide_or, decide_eq_decide]
  generalize m <<< i.toNat = A
  generalize 9007199254740991 <<< (-i).toNat = B
  cases s <;> simp <;> omega
theorem abs_eq {b : Nat} (hb : b < 2 ^ 64) : absW b = b % 9223372036854775808 := by
  show (IntKind.u64.wrap ((BitVec.ofInt 64 (b : Int) &&& ~~~(BitVec.ofInt 64 9223372036854775808)).toNat : Nat)).toNat = _
  have e1 : BitVec.ofInt 64 (b : Int) = BitVec.ofNat 64 b := by simp [IntKind.bits]
  have e2 : ~~~(BitVec.ofInt 64 9223372036854775808) = 9223372036854775807#64 := by decide +kernel
  rw [e1, e2]
  have e3 : (BitVec.ofNat 64 b &&& 9223372036854775807#64).toNat = b % 9223372036854775808 := by
    rw [BitVec.toNat_and]
    simp only [BitVec.toNat_ofNat]
    rw [Nat.mod_eq_of_lt hb]
    have : (9223372036854775807 % 2 ^ 64 : Nat) = 2 ^ 63 - 1 := by decide
    rw [this, Nat.and_two_pow_sub_one_eq_mod]
  rw [e3]
  simp only [IntKind.wrap, IntKind.signed, IntKind.bits, Bool.false_and, Bool.false_eq_true, if_false, Int.reducePow]
  omega
theorem read_abs {b : Nat} (hb : b < 2 ^ 64) : double.read (b % 9223372036854775808) = match double.read b with
    | .number _ m i => .number false m i
    | .infinity _ => .infinity false
    | .nan _ t => .nan false t := by
  rw [read_def, read_def]
  have e : b % 9223372036854775808 % 9223372036854775808 = b % 9223372036854775808 := by omega
  have e2 : (b % 9223372036854775808 / 9223372036854775808 % 2 == 1) = false := by
    rw [Nat.div_eq_of_lt (by omega)]; rfl
  rw [e, e2]
  split
  · rfl
  · split
    · rfl
    · split <;> rfl
theorem sign_eq {b : Nat} (hb : b < 2 ^ 64) : signW b = decide (9223372036854775808 ≤ b) := by
  simp only [signW, IntKind.wrap, IntKind.signed, IntKind.bits, Bool.true_and, decide_eq_true_eq, Nat.reduceSub, Int.reducePow, ge_iff_le, decide_eq_decide]
  split <;> omega

/-- whether a float is small enough for ours -/
def small (b : Nat) : Bool := match double.read b with
  | .number _ m i => decide ((m <<< i.toNat) ≤ 9007199254740991 <<< (-i).toNat)
  | _ => false
theorem fle_abs {b : Nat} (hb : b < 2 ^ 64) : fle (absW b) safeW = small b := by
  rw [abs_eq hb]
  have h := read_abs hb
  unfold small
  cases hr : double.read b with
  | number s m i =>
    rw [hr] at h
    rw [fle_num h]
    simp
  | infinity s =>
    rw [hr] at h
    simp only [fle, flt, feq]
    rw [order_eq, h, read_safe]
    rfl
  | nan s t =>
    rw [hr] at h
    simp only [fle, flt, feq]
    rw [order_eq, h, read_safe]
    rfl
theorem range_small {b : Nat} : (fge b 14069245235905429503 && fle b safeW) = small b := by
  unfold small
  cases hr : double.read b with
  | number s m i =>
    rw [fge_num hr, fle_num hr, ← Bool.decide_and, decide_eq_decide]
    cases s <;> simp
  | infinity s =>
    simp only [fge, fgt, fle, flt, feq]
    rw [order_eq, order_eq, hr, read_safe, read_nsafe]
    cases s <;> rfl
  | nan s t =>
    simp only [fge, fgt, fle, flt, feq]
    rw [order_eq, order_eq, hr, read_safe, read_nsafe]
    rfl
theorem small_le {m : Nat} {i : Int} (h : (m <<< i.toNat) ≤ 9007199254740991 <<< (-i).toNat) : wholeMag m i ≤ 9007199254740991 := by
  unfold wholeMag
  rw [Nat.shiftLeft_eq 9007199254740991] at h
  have := Nat.two_pow_pos (-i).toNat
  exact (Nat.div_le_iff_le_mul_add_pred this).2 (by rw [Nat.mul_comm]; omega)
/-- a float that is small enough, as an int64 -/
theorem toInt_small {b : Nat} (h : small b = true) : Lx.toInt .i64 b = some (toI b) ∧ -9007199254740991 ≤ toI b ∧ toI b ≤ 9007199254740991 := by
  unfold small at h
  unfold Lx.toInt toI
  rw [decode_eq]
  cases hr : double.read b with
  | number s m i =>
    rw [hr] at h
    simp only [decide_eq_true_eq] at h
    have hm := small_le h
    simp only [Datum.toInt, integral_num, Option.getD_some, signed, Nat.shiftLeft_zero]
    have e1 : IntKind.i64.min = -9223372036854775808 := by decide
    have e2 : IntKind.i64.max = 9223372036854775807 := by decide
    rw [e1, e2]
    cases s
    · simp only [Bool.false_eq_true, if_false]
      rw [if_pos (by omega)]
      exact ⟨rfl, by omega, by omega⟩
    · simp only [if_true]
      rw [if_pos (by omega)]
      exact ⟨rfl, by omega, by omega⟩
  | infinity s => rw [hr] at h; simp at h
  | nan s t => rw [hr] at h; simp at h

theorem write_zero (s : Bool) : double.write (.number s 0 0) = if s then 9223372036854775808 else 0 := by cases s <;> decide +kernel
theorem feq_nzero (b : Nat) : feq 9223372036854775808 b = feq 0 b := by
  unfold feq
  rw [order_eq, order_eq, read_zero, read_nzero]
  cases double.read b <;> simp only [Datum.order]
  simp only [cmp_eq, signed_zero_iff.2 rfl]
/-- made whole and back -/
theorem feq_trunc {b : Nat} (h : small b = true) : feq (ofInt (toI b)) b = feq (truncW b) b := by
  unfold small at h
  unfold toI truncW Lx.ofInt FloatKind.nearest FloatKind.encode
  rw [decode_eq]
  cases hr : double.read b with
  | number s m i =>
    simp only [Datum.toInt, integral_num, Option.getD_some]
    show feq (double.write _) b = feq (double.write _) b
    by_cases hz : wholeMag m i = 0
    · rw [hz]
      rw [show signed s 0 0 = 0 from signed_zero_iff.2 rfl, write_zero s]
      show feq (double.write (.number (decide ((0 : Int) < 0)) 0 0)) b = _
      rw [show decide ((0 : Int) < 0) = false from rfl, write_zero]
      cases s
      · rfl
      · simp only [Bool.false_eq_true, if_false, if_true]
        exact (feq_nzero b).symm
    · have e : Datum.number (decide (signed s (wholeMag m i) 0 < 0)) (signed s (wholeMag m i) 0).natAbs 0 = .number s (wholeMag m i) 0 := by
        cases s
        · simp [signed]
        · simp only [signed, if_true, Nat.shiftLeft_zero, Int.natAbs_neg, Int.natAbs_natCast, Datum.number.injEq, and_true, decide_eq_true_eq]
          omega
      rw [e]
  | infinity s => rw [hr] at h; simp at h
  | nan s t => rw [hr] at h; simp at h
theorem isNum_small {b : Nat} (h : small b = true) : isNum b = true := by
  unfold small at h
  unfold isNum
  rw [decode_eq]
  cases hr : double.read b <;> rw [hr] at h <;> simp [Datum.isNaN] at h ⊢

/-- our whole numbers, but for NaN -/
def whole (b : Nat) : Bool := small b && (feq (truncW b) b && decide (b ≠ 9223372036854775808))
theorem numMay_eq {b : Nat} (hb : b < 2 ^ 64) : numMay b = (!isNum b || whole b) := by
  unfold numMay whole
  rw [feq_self, fle_abs hb, feq_zero hb, sign_eq hb]
  cases isNum b
  · simp
  · by_cases h0 : b = 0
    · subst h0; simp; exact Bool.and_comm _ _
    · by_cases h1 : b = 9223372036854775808
      · subst h1; simp
      · simp [h0, h1]; exact Bool.and_comm _ _
end Go.Lx

/- What the references' functions of floats and values answer; value.May. -/
set_option linter.unusedVariables false
set_option linter.unusedSimpArgs false
set_option maxRecDepth 100000
namespace Go.Lx
variable {T G E : Nat}

theorem feq00 : feq 0 0 = true := by decide +kernel
theorem feqn0 : feq 9223372036854775808 0 = true := by decide +kernel
theorem inv0 : fdiv oneW 0 = some 9218868437227405312 := by decide +kernel
theorem invn : fdiv oneW 9223372036854775808 = some 18442240474082181120 := by decide +kernel
theorem flti : flt 9218868437227405312 0 = false := by decide +kernel
theorem fltn : flt 18442240474082181120 0 = true := by decide +kernel
theorem fgti : fgt 9218868437227405312 0 = true := by decide +kernel
theorem fgtn : fgt 18442240474082181120 0 = false := by decide +kernel

theorem s_ref01_whole {b : Nat} (hb : b < 2 ^ 64) : Fun (Ev T G E) c_bailiffref01_whole [vF b] (.tup [vI (if whole b then toI b else 0), vB (whole b)]) := by
  refine does_start rfl ?_
  simp +contextual only [go_sem, Nat.reduceAdd, Nat.reduceLeDiff, Nat.reduceSub, Nat.reduceLT, Int.reduceLT, Int.reduceLE, Int.reduceEq, reduceCtorEq]
  refine brB_split (fun hc => ?_) (fun hc => ?_)
  · have hs : small b = true := by
      rw [← range_small]
      simpa [fge, fle] using hc
    obtain ⟨h1, h2, h3⟩ := toInt_small hs
    simp +contextual only [go_sem, Nat.reduceAdd, Nat.reduceLeDiff, Nat.reduceSub, Nat.reduceLT, Int.reduceLT, Int.reduceLE, Int.reduceEq, reduceCtorEq, h1]
    rw [feq_trunc hs]
    by_cases h4 : feq (truncW b) b = true
    · by_cases h5 : b = 0
      · subst h5
        simp +contextual only [go_sem, Nat.reduceAdd, Nat.reduceLeDiff, Nat.reduceSub, Nat.reduceLT, Int.reduceLT, Int.reduceLE, Int.reduceEq, reduceCtorEq, h4, inv0, feq00, flti]
        refine endF_of (by first | exact resAll2 (by rfl) (by rfl) | exact resAll3 (by rfl) (by rfl) (by rfl) | rfl) (by rfl) ⟨?_, rfl⟩
        simp [whole, hs, h4]
      · by_cases h6 : b = 9223372036854775808
        · subst h6
          simp +contextual only [go_sem, Nat.reduceAdd, Nat.reduceLeDiff, Nat.reduceSub, Nat.reduceLT, Int.reduceLT, Int.reduceLE, Int.reduceEq, reduceCtorEq, h4, invn, feqn0, fltn]
          refine endF_of (by first | exact resAll2 (by rfl) (by rfl) | exact resAll3 (by rfl) (by rfl) (by rfl) | rfl) (by rfl) ⟨?_, rfl⟩
          simp [whole]
        · have h7 : feq b 0 = false := by rw [feq_zero hb]; simp [h5, h6]
          cases hq : fdiv oneW b
          all_goals
            simp +contextual only [go_sem, Nat.reduceAdd, Nat.reduceLeDiff, Nat.reduceSub, Nat.reduceLT, Int.reduceLT, Int.reduceLE, Int.reduceEq, reduceCtorEq, h4, h7, hq]
            refine endF_of (by first | exact resAll2 (by rfl) (by rfl) | exact resAll3 (by rfl) (by rfl) (by rfl) | rfl) (by rfl) ⟨?_, rfl⟩
            simp [whole, hs, h4, h6]
    · have h4 : feq (truncW b) b = false := by simpa using h4
      cases hq : fdiv oneW b
      all_goals
        simp +contextual only [go_sem, Nat.reduceAdd, Nat.reduceLeDiff, Nat.reduceSub, Nat.reduceLT, Int.reduceLT, Int.reduceLE, Int.reduceEq, reduceCtorEq, h4, hq]
        refine endF_of (by first | exact resAll2 (by rfl) (by rfl) | exact resAll3 (by rfl) (by rfl) (by rfl) | rfl) (by rfl) ⟨?_, rfl⟩
        simp [whole, h4]
  · simp +contextual only [go_sem, Nat.reduceAdd, Nat.reduceLeDiff, Nat.reduceSub, Nat.reduceLT, Int.reduceLT, Int.reduceLE, Int.reduceEq, reduceCtorEq]
    refine endF_of (by first | exact resAll2 (by rfl) (by rfl) | exact resAll3 (by rfl) (by rfl) (by rfl) | rfl) (by rfl) ⟨?_, rfl⟩
    have h : small b = false := by
      rw [← range_small]
      simpa [fge, fle] using hc
    simp [whole, h]

theorem s_ref01_May {b : Nat} (hb : b < 2 ^ 64) : Fun (Ev T G E) c_bailiffref01_May [vF b] (vB (numMay b)) := by
  refine does_start rfl ?_
  repeat' first
    | simp +contextual only [go_sem, Nat.reduceAdd, Nat.reduceLeDiff, Nat.reduceSub, Nat.reduceLT, Int.reduceLT, Int.reduceLE, Int.reduceEq, reduceCtorEq]
    | refine brB_dec (fun hc => ?_) (fun hc => ?_)
    | refine brB_split (fun hc => ?_) (fun hc => ?_)
    | refine caR_fun (s_ref01_whole hb) (by rfl) (.inr (by rfl)) (by rfl) ?_
    | refine gcR_fun (fun hg => s_ref01_whole hb) (fun h => by first | exact h | rfl | simp_all) (by rfl) (.inr (by rfl)) (by rfl) ?_
  refine endF_of (by first | exact resAll2 (by rfl) (by rfl) | exact resAll3 (by rfl) (by rfl) (by rfl) | rfl) (by rfl) ⟨?_, rfl⟩
  simp [numMay_eq hb, feq_self, Bool.or_comm]

theorem s_nought {b : Nat} (hb : b < 2 ^ 64) : Fun (Ev T G E) c_bailiffref07_nought [vF b] (vB (decide (b = 0))) := by
  refine does_start rfl ?_
  by_cases h5 : b = 0
  · subst h5
    simp +contextual only [go_sem, Nat.reduceAdd, Nat.reduceLeDiff, Nat.reduceSub, Nat.reduceLT, Int.reduceLT, Int.reduceLE, Int.reduceEq, reduceCtorEq, inv0, feq00, fgti]
    exact endF_of (by first | exact resAll2 (by rfl) (by rfl) | exact resAll3 (by rfl) (by rfl) (by rfl) | rfl) (by rfl) ⟨by rfl, rfl⟩
  · by_cases h6 : b = 9223372036854775808
    · subst h6
      simp +contextual only [go_sem, Nat.reduceAdd, Nat.reduceLeDiff, Nat.reduceSub, Nat.reduceLT, Int.reduceLT, Int.reduceLE, Int.reduceEq, reduceCtorEq, invn, feqn0, fgtn]
      exact endF_of (by first | exact resAll2 (by rfl) (by rfl) | exact resAll3 (by rfl) (by rfl) (by rfl) | rfl) (by rfl) ⟨by rfl, rfl⟩
    · have h7 : feq b 0 = false := by rw [feq_zero hb]; simp [h5, h6]
      cases hq : fdiv oneW b
      all_goals
        simp +contextual only [go_sem, Nat.reduceAdd, Nat.reduceLeDiff, Nat.reduceSub, Nat.reduceLT, Int.reduceLT, Int.reduceLE, Int.reduceEq, reduceCtorEq, h7, hq]
        refine endF_of (by first | exact resAll2 (by rfl) (by rfl) | exact resAll3 (by rfl) (by rfl) (by rfl) | rfl) (by rfl) ⟨?_, rfl⟩
        simp [h5]

theorem infeq : feq 9218868437227405312 9218868437227405312 = true := by decide +kernel
theorem infeqn : feq 18442240474082181120 18442240474082181120 = true := by decide +kernel
theorem infne : feq 18442240474082181120 9218868437227405312 = false := by decide +kernel
theorem s_ref01_Same_self {b : Nat} (hb : b < 2 ^ 64) : Fun (Ev T G E) c_bailiffref01_Same [vF b, vF b] (vB true) := by
  refine does_start rfl ?_
  by_cases h1 : feq b b = true
  · by_cases h5 : b = 0
    · subst h5
      simp +contextual only [go_sem, Nat.reduceAdd, Nat.reduceLeDiff, Nat.reduceSub, Nat.reduceLT, Int.reduceLT, Int.reduceLE, Int.reduceEq, reduceCtorEq, inv0, feq00, infeq]
      exact endF_of (by first | exact resAll2 (by rfl) (by rfl) | exact resAll3 (by rfl) (by rfl) (by rfl) | rfl) (by rfl) ⟨by rfl, rfl⟩
    · by_cases h6 : b = 9223372036854775808
      · subst h6
        simp +contextual only [go_sem, Nat.reduceAdd, Nat.reduceLeDiff, Nat.reduceSub, Nat.reduceLT, Int.reduceLT, Int.reduceLE, Int.reduceEq, reduceCtorEq, invn, feqn0, h1, infeqn]
        exact endF_of (by first | exact resAll2 (by rfl) (by rfl) | exact resAll3 (by rfl) (by rfl) (by rfl) | rfl) (by rfl) ⟨by rfl, rfl⟩
      · have h7 : feq b 0 = false := by rw [feq_zero hb]; simp [h5, h6]
        cases hq : fdiv oneW b
        all_goals
          simp +contextual only [go_sem, Nat.reduceAdd, Nat.reduceLeDiff, Nat.reduceSub, Nat.reduceLT, Int.reduceLT, Int.reduceLE, Int.reduceEq, reduceCtorEq, h7, hq, h1]
          exact endF_of (by first | exact resAll2 (by rfl) (by rfl) | exact resAll3 (by rfl) (by rfl) (by rfl) | rfl) (by rfl) ⟨by rfl, rfl⟩
  · have h1 : feq b b = false := by simpa using h1
    simp +contextual only [go_sem, Nat.reduceAdd, Nat.reduceLeDiff, Nat.reduceSub, Nat.reduceLT, Int.reduceLT, Int.reduceLE, Int.reduceEq, reduceCtorEq, h1]
    exact endF_of (by first | exact resAll2 (by rfl) (by rfl) | exact resAll3 (by rfl) (by rfl) (by rfl) | rfl) (by rfl) ⟨by rfl, rfl⟩
theorem s_ref01_Same_zero {b : Nat} (hb : b < 2 ^ 64) : Fun (Ev T G E) c_bailiffref01_Same [vF b, vF 0] (vB (decide (b = 0))) := by
  refine does_start rfl ?_
  by_cases h1 : feq b b = true
  · by_cases h5 : b = 0
    · subst h5
      simp +contextual only [go_sem, Nat.reduceAdd, Nat.reduceLeDiff, Nat.reduceSub, Nat.reduceLT, Int.reduceLT, Int.reduceLE, Int.reduceEq, reduceCtorEq, inv0, feq00, infeq]
      exact endF_of (by first | exact resAll2 (by rfl) (by rfl) | exact resAll3 (by rfl) (by rfl) (by rfl) | rfl) (by rfl) ⟨by rfl, rfl⟩
    · by_cases h6 : b = 9223372036854775808
      · subst h6
        simp +contextual only [go_sem, Nat.reduceAdd, Nat.reduceLeDiff, Nat.reduceSub, Nat.reduceLT, Int.reduceLT, Int.reduceLE, Int.reduceEq, reduceCtorEq, invn, inv0, feqn0, feq00, h1, infne]
        exact endF_of (by first | exact resAll2 (by rfl) (by rfl) | exact resAll3 (by rfl) (by rfl) (by rfl) | rfl) (by rfl) ⟨by rfl, rfl⟩
      · have h7 : feq b 0 = false := by rw [feq_zero hb]; simp [h5, h6]
        cases hq : fdiv oneW b
        all_goals
          simp +contextual only [go_sem, Nat.reduceAdd, Nat.reduceLeDiff, Nat.reduceSub, Nat.reduceLT, Int.reduceLT, Int.reduceLE, Int.reduceEq, reduceCtorEq, h7, hq, h1, inv0, feq00]
          refine endF_of (by first | exact resAll2 (by rfl) (by rfl) | exact resAll3 (by rfl) (by rfl) (by rfl) | rfl) (by rfl) ⟨?_, rfl⟩
          simp [h5]
  · have h1 : feq b b = false := by simpa using h1
    simp +contextual only [go_sem, Nat.reduceAdd, Nat.reduceLeDiff, Nat.reduceSub, Nat.reduceLT, Int.reduceLT, Int.reduceLE, Int.reduceEq, reduceCtorEq, h1, feq00]
    refine endF_of (by first | exact resAll2 (by rfl) (by rfl) | exact resAll3 (by rfl) (by rfl) (by rfl) | rfl) (by rfl) ⟨?_, rfl⟩
    have : b ≠ 0 := by rintro rfl; rw [feq00] at h1; cases h1
    simp [this]

/-! ### values -/
/-- may a value be? -/
def valMay (v : Val) : Bool :=
  decide (v.kind ≤ 8) && (if v.kind = 3 then numMay v.num else if v.kind = 2 then decide (v.num = 0) || feq v.num oneW else decide (v.num = 0)) &&
  (decide (v.str = Str.none) || (decide (v.kind = 4) && decide ((v.str.size : Int) ≤ 4096))) && (decide (v.ref = 0) || (decide (5 ≤ v.kind) && decide (0 < v.ref)))

theorem s_ref07_May {v : Val} (hv : v.wf) : Fun (Ev T G E) c_bailiffref07_May [vV v] (vB (valMay v)) := by
  obtain ⟨h1, h2, h3, h4⟩ := hv
  refine does_start rfl ?_
  repeat' first
    | simp +contextual only [go_sem, Nat.reduceAdd, Nat.reduceLeDiff, Nat.reduceSub, Nat.reduceLT, Int.reduceLT, Int.reduceLE, Int.reduceEq, reduceCtorEq]
    | refine brB_dec (fun hc => ?_) (fun hc => ?_)
    | refine brB_split (fun hc => ?_) (fun hc => ?_)
    | refine caR_fun (s_nought h2) (by rfl) (.inr (by rfl)) (by rfl) ?_
    | refine gcR_fun (fun hg => s_nought h2) (fun h => by first | exact h | rfl | simp_all) (by rfl) (.inr (by rfl)) (by rfl) ?_
    | refine caR_fun (s_ref01_May h2) (by rfl) (.inr (by rfl)) (by rfl) ?_
    | refine gcR_fun (fun hg => s_ref01_May h2) (fun h => by first | exact h | rfl | simp_all) (by rfl) (.inr (by rfl)) (by rfl) ?_
  all_goals refine endF_of (by first | exact resAll2 (by rfl) (by rfl) | exact resAll3 (by rfl) (by rfl) (by rfl) | rfl) (by rfl) ⟨?_, rfl⟩
  all_goals simp_all [valMay]
  intro h; omega

theorem updV_kind (v : Val) : upd zVal 0 [.int .u8 v.kind] = encVal { Val.zero with kind := v.kind } := rfl
theorem feq_one_zero : feq 0 oneW = false := by decide +kernel
theorem numMay_zero : numMay 0 = true := by decide +kernel
theorem numMay_nzero : numMay 9223372036854775808 = false := by decide +kernel
/-- nought, and one of ours: the one without a minus -/
theorem zero_may {b : Nat} (hb : b < 2 ^ 64) : (feq b 0 && numMay b) = decide (b = 0) := by
  rw [feq_zero hb]
  by_cases h : b = 0
  · subst h; simp [numMay_zero]
  · by_cases h' : b = 9223372036854775808
    · subst h'; simp [numMay_nzero]
    · simp [h, h']
theorem s_value_May {v : Val} (hv : v.wf) : Fun (Ev T G E) c_value_May [vV v] (vB (valMay v)) := by
  obtain ⟨h1, h2, h3, h4⟩ := hv
  have hz := zero_may h2
  have key : ∀ (k : Int) (t : Str) (r : Int), (valEq ⟨k, v.num, t, r⟩ ⟨k, 0, Str.none, 0⟩ && numMay v.num) = (decide (v.num = 0) && decide (t = Str.none) && decide (r = 0)) := by
    intro k t r
    rw [← hz]
    simp only [valEq, decide_true, Bool.true_and]
    cases feq v.num 0 <;> cases numMay v.num <;> simp
  have key0 : ∀ (k : Int) (t : Str) (r : Int), (valEq ⟨k, 0, t, r⟩ ⟨k, 0, Str.none, 0⟩ && numMay 0) = (decide (t = Str.none) && decide (r = 0)) := by
    intro k t r
    simp only [valEq, decide_true, Bool.true_and, feq00, numMay_zero, Bool.and_true]
  have hu := h1
  obtain ⟨u1, u2⟩ := hu
  refine does_start rfl ?_
  repeat' first
    | simp +contextual only [go_sem, Nat.reduceAdd, Nat.reduceLeDiff, Nat.reduceSub, Nat.reduceLT, Int.reduceLT, Int.reduceLE, Int.reduceEq, reduceCtorEq]
    | refine brB_dec (fun hc => ?_) (fun hc => ?_)
    | refine brB_split (fun hc => ?_) (fun hc => ?_)
    | refine caR_fun (s_num_May _) (by rfl) (.inr (by rfl)) (by rfl) ?_
    | refine gcR_fun (fun hg => s_num_May _) (fun h => by first | exact h | rfl | simp_all) (by rfl) (.inr (by rfl)) (by rfl) ?_
  all_goals refine endF_of (by first | exact resAll2 (by rfl) (by rfl) | exact resAll3 (by rfl) (by rfl) (by rfl) | rfl) (by rfl) ⟨?_, rfl⟩
  all_goals (try simp only [Val.zero, key, key0])
  all_goals (try (rw [show (valEq v ⟨v.kind, 0, Str.none, 0⟩ && numMay v.num) = _ from key v.kind v.str v.ref]))
  all_goals clear key key0
  all_goals simp only [Bool.or_eq_true, Bool.or_eq_false_iff, decide_eq_true_eq, decide_eq_false_iff_not, Int.not_lt, Bool.and_eq_true, Bool.and_eq_false_iff, Bool.not_eq_true', Bool.not_eq_false'] at *
  all_goals (try (exfalso; omega))
  all_goals have s0 : ByteArray.size Str.none = 0 := rfl
  all_goals (by_cases r0 : v.ref = 0 <;> by_cases t0 : v.str = Str.none <;> by_cases n0 : v.num = 0 <;> simp_all [valMay] <;> first | omega | grind)
end Go.Lx
