import Derived.Test.YtkmbllgoepcojaaDoorChecked
import Derived.Test.YtkmbllgoepcojaaDoorLx34
import Derived.Test.YtkmbllgoepcojaaDoorLxDf
import Derived.KernelRfl
import Derived.Test.YtkmbllgoepcojaaDoorLxShd
import Derived.Test.YtkmbllgoepcojaaDoorLxQuo
/- The tie of the seat's program to the language's functions (printed by mk.py). -/
set_option linter.unusedVariables false
set_option linter.unusedSimpArgs false
set_option maxRecDepth 100000
namespace Go.Proofs.YtkmbllgoepcojaaDoor
open Go.Lx
abbrev sT : Nat := 0
abbrev sE : Nat := 0
abbrev sG : Nat := 4
def nmL : List (Nat × Nat) := [(3, 236), (18, 44), (12, 42), (10, 41), (17, 204), (8, 201), (15, 202), (22, 208), (20, 206), (11, 32), (9, 49), (16, 203), (13, 30), (7, 200), (14, 27), (21, 207), (19, 205), (37, 53), (35, 51), (33, 214), (32, 115), (31, 59), (34, 215), (41, 220), (39, 218), (36, 216), (29, 212), (28, 64), (27, 67), (30, 213), (40, 219), (38, 217), (50, 63), (49, 75), (48, 70), (47, 69), (56, 227), (51, 222), (45, 73), (46, 221), (64, 228), (62, 78), (63, 79), (61, 77), (80, 82), (79, 83), (77, 80), (78, 81), (87, 84), (1000001, 4000000)]
def nm (k : Nat) : Option Nat := nmL.lookup k
theorem lk3 : lowFn Tryd.prog nm false Tryd.f3 = some (L_bailifflaw08_KeyOnes) := by kernel_rfl
theorem lk18 : lowFn Tryd.prog nm false Tryd.f18 = some (L_bailiffref07_Alike) := by kernel_rfl
theorem lk12 : lowFn Tryd.prog nm false Tryd.f12 = some (L_bailiffref08_Check) := by kernel_rfl
theorem lk10 : lowFn Tryd.prog nm false Tryd.f10 = some (L_bailiffref08_Index) := by kernel_rfl
theorem lk17 : lowFn Tryd.prog nm false Tryd.f17 = some (L_bailiffref08_Number) := by kernel_rfl
theorem lk8 : lowFn Tryd.prog nm false Tryd.f8 = some (L_bailiffref08_Prim) := by kernel_rfl
theorem lk15 : lowFn Tryd.prog nm false Tryd.f15 = some (L_bailiffref08_Sym) := by kernel_rfl
theorem lk22 : lowFn Tryd.prog nm false Tryd.f22 = some (L_bailiffref08_Text) := by kernel_rfl
theorem lk20 : lowFn Tryd.prog nm false Tryd.f20 = some (L_bailiffref08_Value) := by kernel_rfl
theorem lk11 : lowFn Tryd.prog nm false Tryd.f11 = some (L_key_Check) := by kernel_rfl
theorem lk9 : lowFn Tryd.prog nm false Tryd.f9 = some (L_key_Index) := by kernel_rfl
theorem lk16 : lowFn Tryd.prog nm false Tryd.f16 = some (L_key_Number) := by kernel_rfl
theorem lk13 : lowFn Tryd.prog nm false Tryd.f13 = some (L_key_Of) := by kernel_rfl
theorem lk7 : lowFn Tryd.prog nm false Tryd.f7 = some (L_key_Prim) := by kernel_rfl
theorem lk14 : lowFn Tryd.prog nm false Tryd.f14 = some (L_key_Sym) := by kernel_rfl
theorem lk21 : lowFn Tryd.prog nm false Tryd.f21 = some (L_key_Text) := by kernel_rfl
theorem lk19 : lowFn Tryd.prog nm false Tryd.f19 = some (L_key_Value) := by kernel_rfl
theorem lk37 : lowFn Tryd.prog nm false Tryd.f37 = some (L_bailiffref01_Same) := by kernel_rfl
theorem lk35 : lowFn Tryd.prog nm false Tryd.f35 = some (L_bailiffref07_Tens) := by kernel_rfl
theorem lk33 : lowFn Tryd.prog nm false Tryd.f33 = some (L_bailiffref01_Text) := by kernel_rfl
theorem lk32 : lowFn Tryd.prog nm false Tryd.f32 = some (L_bailiffref07_IsObject) := by kernel_rfl
theorem lk31 : lowFn Tryd.prog nm false Tryd.f31 = some (L_bailiffref07_May) := by kernel_rfl
theorem lk34 : lowFn Tryd.prog nm false Tryd.f34 = some (L_bailiffref07_Text) := by kernel_rfl
theorem lk41 : lowFn Tryd.prog nm false Tryd.f41 = some (L_bailiffref02_Quote) := by kernel_rfl
theorem lk39 : lowFn Tryd.prog nm false Tryd.f39 = some (L_bailiffref07_Str) := by kernel_rfl
theorem lk36 : lowFn Tryd.prog nm false Tryd.f36 = some (L_strconv_Itoa) := by kernel_rfl
theorem lk29 : lowFn Tryd.prog nm false Tryd.f29 = some (L_num_Text) := by kernel_rfl
theorem lk28 : lowFn Tryd.prog nm false Tryd.f28 = some (L_value_IsObject) := by kernel_rfl
theorem lk27 : lowFn Tryd.prog nm false Tryd.f27 = some (L_value_May) := by kernel_rfl
theorem lk30 : lowFn Tryd.prog nm false Tryd.f30 = some (L_value_Text) := by kernel_rfl
theorem lk38 : lowFn Tryd.prog nm false Tryd.f38 = some (L_value_Str) := by kernel_rfl
theorem lk50 : lowFn Tryd.prog nm false Tryd.f50 = some (L_bailiffref01_Tens) := by kernel_rfl
theorem lk49 : lowFn Tryd.prog nm false Tryd.f49 = some (L_bailiffref01_whole) := by kernel_rfl
theorem lk48 : lowFn Tryd.prog nm false Tryd.f48 = some (L_bailiffref01_May) := by kernel_rfl
theorem lk47 : lowFn Tryd.prog nm false Tryd.f47 = some (L_bailiffref07_nought) := by kernel_rfl
theorem lk56 : lowFn Tryd.prog nm false Tryd.f56 = some (L_bailiffref02_sign) := by kernel_rfl
theorem lk51 : lowFn Tryd.prog nm false Tryd.f51 = some (L_istrconv_Itoa) := by kernel_rfl
theorem lk45 : lowFn Tryd.prog nm false Tryd.f45 = some (L_num_May) := by kernel_rfl
theorem lk46 : lowFn Tryd.prog nm false Tryd.f46 = some (L_strconv_FormatInt) := by kernel_rfl
theorem lk62 : lowFn Tryd.prog nm false Tryd.f62 = some (L_math_Abs) := by kernel_rfl
theorem lk63 : lowFn Tryd.prog nm false Tryd.f63 = some (L_math_Signbit) := by kernel_rfl
theorem lk61 : lowFn Tryd.prog nm false Tryd.f61 = some (L_math_Trunc) := by kernel_rfl
theorem lk78 : lowFn Tryd.prog nm false Tryd.f78 = some (L_math_trunc) := by kernel_rfl
theorem lk87 : lowFn Tryd.prog nm false Tryd.f87 = some (L_math_Copysign) := by kernel_rfl
theorem entries : ∀ p, p ∈ nmL → ∀ fn, (fnsL sT).lookup p.2 = some fn → ∃ func c, Tryd.prog.funcs[p.1]? = some func ∧ func.body = some c ∧ func.name ≠ "runtime.NumGoroutine" ∧ ∃ pr, lowFn Tryd.prog nm pr func = some fn := by
  simp only [nmL, List.forall_mem_cons]
  refine ⟨?_, ?_, ?_, ?_, ?_, ?_, ?_, ?_, ?_, ?_, ?_, ?_, ?_, ?_, ?_, ?_, ?_, ?_, ?_, ?_, ?_, ?_, ?_, ?_, ?_, ?_, ?_, ?_, ?_, ?_, ?_, ?_, ?_, ?_, ?_, ?_, ?_, ?_, ?_, ?_, ?_, ?_, ?_, ?_, ?_, ?_, ?_, ?_, ?_, ?_, fun _ h => by cases h⟩
  · intro fn h; obtain rfl : L_bailifflaw08_KeyOnes = fn := Option.some.inj h; exact ⟨_, _, Tryd.func3, rfl, by decide, false, lk3⟩
  · intro fn h; obtain rfl : L_bailiffref07_Alike = fn := Option.some.inj h; exact ⟨_, _, Tryd.func18, rfl, by decide, false, lk18⟩
  · intro fn h; obtain rfl : L_bailiffref08_Check = fn := Option.some.inj h; exact ⟨_, _, Tryd.func12, rfl, by decide, false, lk12⟩
  · intro fn h; obtain rfl : L_bailiffref08_Index = fn := Option.some.inj h; exact ⟨_, _, Tryd.func10, rfl, by decide, false, lk10⟩
  · intro fn h; obtain rfl : L_bailiffref08_Number = fn := Option.some.inj h; exact ⟨_, _, Tryd.func17, rfl, by decide, false, lk17⟩
  · intro fn h; obtain rfl : L_bailiffref08_Prim = fn := Option.some.inj h; exact ⟨_, _, Tryd.func8, rfl, by decide, false, lk8⟩
  · intro fn h; obtain rfl : L_bailiffref08_Sym = fn := Option.some.inj h; exact ⟨_, _, Tryd.func15, rfl, by decide, false, lk15⟩
  · intro fn h; obtain rfl : L_bailiffref08_Text = fn := Option.some.inj h; exact ⟨_, _, Tryd.func22, rfl, by decide, false, lk22⟩
  · intro fn h; obtain rfl : L_bailiffref08_Value = fn := Option.some.inj h; exact ⟨_, _, Tryd.func20, rfl, by decide, false, lk20⟩
  · intro fn h; obtain rfl : L_key_Check = fn := Option.some.inj h; exact ⟨_, _, Tryd.func11, rfl, by decide, false, lk11⟩
  · intro fn h; obtain rfl : L_key_Index = fn := Option.some.inj h; exact ⟨_, _, Tryd.func9, rfl, by decide, false, lk9⟩
  · intro fn h; obtain rfl : L_key_Number = fn := Option.some.inj h; exact ⟨_, _, Tryd.func16, rfl, by decide, false, lk16⟩
  · intro fn h; obtain rfl : L_key_Of = fn := Option.some.inj h; exact ⟨_, _, Tryd.func13, rfl, by decide, false, lk13⟩
  · intro fn h; obtain rfl : L_key_Prim = fn := Option.some.inj h; exact ⟨_, _, Tryd.func7, rfl, by decide, false, lk7⟩
  · intro fn h; obtain rfl : L_key_Sym = fn := Option.some.inj h; exact ⟨_, _, Tryd.func14, rfl, by decide, false, lk14⟩
  · intro fn h; obtain rfl : L_key_Text = fn := Option.some.inj h; exact ⟨_, _, Tryd.func21, rfl, by decide, false, lk21⟩
  · intro fn h; obtain rfl : L_key_Value = fn := Option.some.inj h; exact ⟨_, _, Tryd.func19, rfl, by decide, false, lk19⟩
  · intro fn h; obtain rfl : L_bailiffref01_Same = fn := Option.some.inj h; exact ⟨_, _, Tryd.func37, rfl, by decide, false, lk37⟩
  · intro fn h; obtain rfl : L_bailiffref07_Tens = fn := Option.some.inj h; exact ⟨_, _, Tryd.func35, rfl, by decide, false, lk35⟩
  · intro fn h; obtain rfl : L_bailiffref01_Text = fn := Option.some.inj h; exact ⟨_, _, Tryd.func33, rfl, by decide, false, lk33⟩
  · intro fn h; obtain rfl : L_bailiffref07_IsObject = fn := Option.some.inj h; exact ⟨_, _, Tryd.func32, rfl, by decide, false, lk32⟩
  · intro fn h; obtain rfl : L_bailiffref07_May = fn := Option.some.inj h; exact ⟨_, _, Tryd.func31, rfl, by decide, false, lk31⟩
  · intro fn h; obtain rfl : L_bailiffref07_Text = fn := Option.some.inj h; exact ⟨_, _, Tryd.func34, rfl, by decide, false, lk34⟩
  · intro fn h; obtain rfl : L_bailiffref02_Quote = fn := Option.some.inj h; exact ⟨_, _, Tryd.func41, rfl, by decide, false, lk41⟩
  · intro fn h; obtain rfl : L_bailiffref07_Str = fn := Option.some.inj h; exact ⟨_, _, Tryd.func39, rfl, by decide, false, lk39⟩
  · intro fn h; obtain rfl : L_strconv_Itoa = fn := Option.some.inj h; exact ⟨_, _, Tryd.func36, rfl, by decide, false, lk36⟩
  · intro fn h; obtain rfl : L_num_Text = fn := Option.some.inj h; exact ⟨_, _, Tryd.func29, rfl, by decide, false, lk29⟩
  · intro fn h; obtain rfl : L_value_IsObject = fn := Option.some.inj h; exact ⟨_, _, Tryd.func28, rfl, by decide, false, lk28⟩
  · intro fn h; obtain rfl : L_value_May = fn := Option.some.inj h; exact ⟨_, _, Tryd.func27, rfl, by decide, false, lk27⟩
  · intro fn h; obtain rfl : L_value_Text = fn := Option.some.inj h; exact ⟨_, _, Tryd.func30, rfl, by decide, false, lk30⟩
  · intro fn h; cases (show (none : Option Lx.Fn) = some fn from h)
  · intro fn h; obtain rfl : L_value_Str = fn := Option.some.inj h; exact ⟨_, _, Tryd.func38, rfl, by decide, false, lk38⟩
  · intro fn h; obtain rfl : L_bailiffref01_Tens = fn := Option.some.inj h; exact ⟨_, _, Tryd.func50, rfl, by decide, false, lk50⟩
  · intro fn h; obtain rfl : L_bailiffref01_whole = fn := Option.some.inj h; exact ⟨_, _, Tryd.func49, rfl, by decide, false, lk49⟩
  · intro fn h; obtain rfl : L_bailiffref01_May = fn := Option.some.inj h; exact ⟨_, _, Tryd.func48, rfl, by decide, false, lk48⟩
  · intro fn h; obtain rfl : L_bailiffref07_nought = fn := Option.some.inj h; exact ⟨_, _, Tryd.func47, rfl, by decide, false, lk47⟩
  · intro fn h; obtain rfl : L_bailiffref02_sign = fn := Option.some.inj h; exact ⟨_, _, Tryd.func56, rfl, by decide, false, lk56⟩
  · intro fn h; obtain rfl : L_istrconv_Itoa = fn := Option.some.inj h; exact ⟨_, _, Tryd.func51, rfl, by decide, false, lk51⟩
  · intro fn h; obtain rfl : L_num_May = fn := Option.some.inj h; exact ⟨_, _, Tryd.func45, rfl, by decide, false, lk45⟩
  · intro fn h; obtain rfl : L_strconv_FormatInt = fn := Option.some.inj h; exact ⟨_, _, Tryd.func46, rfl, by decide, false, lk46⟩
  · intro fn h; cases (show (none : Option Lx.Fn) = some fn from h)
  · intro fn h; obtain rfl : L_math_Abs = fn := Option.some.inj h; exact ⟨_, _, Tryd.func62, rfl, by decide, false, lk62⟩
  · intro fn h; obtain rfl : L_math_Signbit = fn := Option.some.inj h; exact ⟨_, _, Tryd.func63, rfl, by decide, false, lk63⟩
  · intro fn h; obtain rfl : L_math_Trunc = fn := Option.some.inj h; exact ⟨_, _, Tryd.func61, rfl, by decide, false, lk61⟩
  · intro fn h; cases (show (none : Option Lx.Fn) = some fn from h)
  · intro fn h; cases (show (none : Option Lx.Fn) = some fn from h)
  · intro fn h; cases (show (none : Option Lx.Fn) = some fn from h)
  · intro fn h; obtain rfl : L_math_trunc = fn := Option.some.inj h; exact ⟨_, _, Tryd.func78, rfl, by decide, false, lk78⟩
  · intro fn h; obtain rfl : L_math_Copysign = fn := Option.some.inj h; exact ⟨_, _, Tryd.func87, rfl, by decide, false, lk87⟩
  · intro fn h; cases (show (none : Option Lx.Fn) = some fn from h)
theorem prims : Prims Tryd.prog nm sG sT sE where
  bits := ⟨80, fun j h => oneOf_sound (l := nmL) (by decide) h, fun _ => ⟨⟨_, Tryd.func80, rfl, by decide, by kernel_rfl, by kernel_rfl⟩⟩⟩
  frombits := ⟨79, fun j h => oneOf_sound (l := nmL) (by decide) h, fun _ => ⟨⟨_, Tryd.func79, rfl, by decide, by kernel_rfl, by kernel_rfl⟩⟩⟩
  trunc := ⟨77, fun j h => oneOf_sound (l := nmL) (by decide) h, fun _ => ⟨"math.archTrunc", ⟨⟨_, Tryd.func77, rfl, by decide, by kernel_rfl, by kernel_rfl⟩⟩⟩⟩
  valueOf := ⟨0, fun j h => oneOf_sound (l := nmL) (by decide) h, fun ⟨j, h⟩ => absurd ((oneOf_sound (l := nmL) (k := 0) (by decide) h).symm.trans (oneOf_sound (l := nmL) (k := 1) (by decide) h)) (by decide)⟩
  len := ⟨0, fun j h => oneOf_sound (l := nmL) (by decide) h, fun ⟨j, h⟩ => absurd ((oneOf_sound (l := nmL) (k := 0) (by decide) h).symm.trans (oneOf_sound (l := nmL) (k := 1) (by decide) h)) (by decide)⟩
  swapper := ⟨0, fun j h => oneOf_sound (l := nmL) (by decide) h, fun ⟨j, h⟩ => absurd ((oneOf_sound (l := nmL) (k := 0) (by decide) h).symm.trans (oneOf_sound (l := nmL) (k := 1) (by decide) h)) (by decide)⟩
  swap := ⟨0, fun j h => oneOf_sound (l := nmL) (by decide) h, fun ⟨j, h⟩ => absurd ((oneOf_sound (l := nmL) (k := 0) (by decide) h).symm.trans (oneOf_sound (l := nmL) (k := 1) (by decide) h)) (by decide)⟩
  fmt := ⟨64, fun j h => oneOf_sound (l := nmL) (by decide) h, fun _ => ⟨fun n w h0 h1 ht => Go.Proofs.Tryd.internal_strconv_FormatInt_10 n h0 h1 w ht, ⟨_, _, Tryd.func64, rfl, by decide⟩, ⟨1, by kernel_rfl, rfl⟩⟩⟩
  quote := ⟨40, fun j h => oneOf_sound (l := nmL) (by decide) h, fun _ => ⟨fun s w hs => Go.Proofs.Tryd.quote_walk s w hs, ⟨_, _, Tryd.func40, rfl, by decide⟩⟩⟩
  types h := by
    obtain ⟨j, h⟩ := h
    rcases h with h | h | h | h <;> exact absurd ((oneOf_sound (l := nmL) (k := 0) (by decide) h).symm.trans (oneOf_sound (l := nmL) (k := 1) (by decide) h)) (by decide)
abbrev En : Env := envOf (fnsL sT) sG sT sE
theorem linked : Linked Tryd.prog nm En where
  mixed := by kernel_rfl
  fn k f fn h1 h2 := entries (k, f) (lookup_mem' h1) fn h2
  prim f args h R H := prims_rel prims H
end Go.Proofs.YtkmbllgoepcojaaDoor
