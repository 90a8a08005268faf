import Derived.Test.YtkmbllgoepcojaaDoorChecked
import Derived.Test.YtkmbllgoepcojaaDoorLx34
import Derived.Test.YtkmbllgoepcojaaDoorLxDf
import Derived.KernelRfl
import Derived.Test.YtkmbllgoepcojaaDoorLxShd
/- The tie of the seat's program to the language's functions (printed by mk.py). -/
set_option linter.unusedVariables false
set_option linter.unusedSimpArgs false
set_option maxRecDepth 100000
namespace Go.Proofs.YtkmbllgoepcojaaDoor
open Go.Lx
abbrev sT : Nat := 42
abbrev sE : Nat := 23
abbrev sG : Nat := 4
def nmL : List (Nat × Nat) := [(5, 238), (23, 209), (11, 32), (9, 49), (16, 203), (13, 30), (24, 10), (7, 200), (14, 27), (21, 207), (36, 216), (42, 40), (44, 183), (29, 212), (28, 64), (27, 67), (30, 213), (40, 219), (51, 222), (43, 48), (60, 184), (58, 185), (57, 50), (59, 186), (66, 187), (67, 188), (68, 189), (69, 190), (70, 191), (71, 192), (72, 193), (73, 194), (74, 195), (45, 73), (46, 221), (64, 228), (75, 61), (76, 62), (62, 78), (63, 79), (61, 77), (86, 72), (80, 82), (79, 83), (77, 80), (78, 81), (93, 76), (87, 84), (1000001, 4000000)]
def nm (k : Nat) : Option Nat := nmL.lookup k
theorem lk5 : lowFn Tryd.prog nm false Tryd.f5 = some (L_bailifflaw08_KeyNames) := by kernel_rfl
theorem lk23 : lowFn Tryd.prog nm false Tryd.f23 = some (L_bailifflaw08_alive) := by kernel_rfl
theorem lk11 : lowFn Tryd.prog nm false Tryd.f11 = some (L_key_Check) := by kernel_rfl
theorem lk9 : lowFn Tryd.prog nm false Tryd.f9 = some (L_key_Index) := by kernel_rfl
theorem lk16 : lowFn Tryd.prog nm false Tryd.f16 = some (L_key_Number) := by kernel_rfl
theorem lk13 : lowFn Tryd.prog nm false Tryd.f13 = some (L_key_Of) := by kernel_rfl
theorem lk24 : lowFn Tryd.prog nm false Tryd.f24 = some (L_key_Order sT) := by kernel_rfl
theorem lk7 : lowFn Tryd.prog nm false Tryd.f7 = some (L_key_Prim) := by kernel_rfl
theorem lk14 : lowFn Tryd.prog nm false Tryd.f14 = some (L_key_Sym) := by kernel_rfl
theorem lk21 : lowFn Tryd.prog nm false Tryd.f21 = some (L_key_Text) := by kernel_rfl
theorem lk36 : lowFn Tryd.prog nm false Tryd.f36 = some (L_strconv_Itoa) := by kernel_rfl
theorem lk42 : lowFn Tryd.prog nm false Tryd.f42 = some (L_key_Order_1) := by kernel_rfl
theorem lk44 : lowFn Tryd.prog nm true Tryd.f44 = some (L_sort_SliceStable) := by kernel_rfl
theorem lk29 : lowFn Tryd.prog nm false Tryd.f29 = some (L_num_Text) := by kernel_rfl
theorem lk28 : lowFn Tryd.prog nm false Tryd.f28 = some (L_value_IsObject) := by kernel_rfl
theorem lk27 : lowFn Tryd.prog nm false Tryd.f27 = some (L_value_May) := by kernel_rfl
theorem lk30 : lowFn Tryd.prog nm false Tryd.f30 = some (L_value_Text) := by kernel_rfl
theorem lk51 : lowFn Tryd.prog nm false Tryd.f51 = some (L_istrconv_Itoa) := by kernel_rfl
theorem lk43 : lowFn Tryd.prog nm false Tryd.f43 = some (L_key_place) := by kernel_rfl
theorem lk59 : lowFn Tryd.prog nm false Tryd.f59 = some (L_sort_stable_func) := by kernel_rfl
theorem lk45 : lowFn Tryd.prog nm false Tryd.f45 = some (L_num_May) := by kernel_rfl
theorem lk46 : lowFn Tryd.prog nm false Tryd.f46 = some (L_strconv_FormatInt) := by kernel_rfl
theorem lk75 : lowFn Tryd.prog nm false Tryd.f75 = some (L_sort_insertionSort_func) := by kernel_rfl
theorem lk76 : lowFn Tryd.prog nm false Tryd.f76 = some (L_sort_symMerge_func) := by kernel_rfl
theorem lk62 : lowFn Tryd.prog nm false Tryd.f62 = some (L_math_Abs) := by kernel_rfl
theorem lk63 : lowFn Tryd.prog nm false Tryd.f63 = some (L_math_Signbit) := by kernel_rfl
theorem lk61 : lowFn Tryd.prog nm false Tryd.f61 = some (L_math_Trunc) := by kernel_rfl
theorem lk86 : lowFn Tryd.prog nm false Tryd.f86 = some (L_sort_rotate_func) := by kernel_rfl
theorem lk78 : lowFn Tryd.prog nm false Tryd.f78 = some (L_math_trunc) := by kernel_rfl
theorem lk93 : lowFn Tryd.prog nm false Tryd.f93 = some (L_sort_swapRange_func) := by kernel_rfl
theorem lk87 : lowFn Tryd.prog nm false Tryd.f87 = some (L_math_Copysign) := by kernel_rfl
theorem entries : ∀ p, p ∈ nmL → ∀ fn, (fnsL sT).lookup p.2 = some fn → ∃ func c, Tryd.prog.funcs[p.1]? = some func ∧ func.body = some c ∧ func.name ≠ "runtime.NumGoroutine" ∧ ∃ pr, lowFn Tryd.prog nm pr func = some fn := by
  simp only [nmL, List.forall_mem_cons]
  refine ⟨?_, ?_, ?_, ?_, ?_, ?_, ?_, ?_, ?_, ?_, ?_, ?_, ?_, ?_, ?_, ?_, ?_, ?_, ?_, ?_, ?_, ?_, ?_, ?_, ?_, ?_, ?_, ?_, ?_, ?_, ?_, ?_, ?_, ?_, ?_, ?_, ?_, ?_, ?_, ?_, ?_, ?_, ?_, ?_, ?_, ?_, ?_, ?_, ?_, fun _ h => by cases h⟩
  · intro fn h; obtain rfl : L_bailifflaw08_KeyNames = fn := Option.some.inj h; exact ⟨_, _, Tryd.func5, rfl, by decide, false, lk5⟩
  · intro fn h; obtain rfl : L_bailifflaw08_alive = fn := Option.some.inj h; exact ⟨_, _, Tryd.func23, rfl, by decide, false, lk23⟩
  · intro fn h; obtain rfl : L_key_Check = fn := Option.some.inj h; exact ⟨_, _, Tryd.func11, rfl, by decide, false, lk11⟩
  · intro fn h; obtain rfl : L_key_Index = fn := Option.some.inj h; exact ⟨_, _, Tryd.func9, rfl, by decide, false, lk9⟩
  · intro fn h; obtain rfl : L_key_Number = fn := Option.some.inj h; exact ⟨_, _, Tryd.func16, rfl, by decide, false, lk16⟩
  · intro fn h; obtain rfl : L_key_Of = fn := Option.some.inj h; exact ⟨_, _, Tryd.func13, rfl, by decide, false, lk13⟩
  · intro fn h; obtain rfl : L_key_Order sT = fn := Option.some.inj h; exact ⟨_, _, Tryd.func24, rfl, by decide, false, lk24⟩
  · intro fn h; obtain rfl : L_key_Prim = fn := Option.some.inj h; exact ⟨_, _, Tryd.func7, rfl, by decide, false, lk7⟩
  · intro fn h; obtain rfl : L_key_Sym = fn := Option.some.inj h; exact ⟨_, _, Tryd.func14, rfl, by decide, false, lk14⟩
  · intro fn h; obtain rfl : L_key_Text = fn := Option.some.inj h; exact ⟨_, _, Tryd.func21, rfl, by decide, false, lk21⟩
  · intro fn h; obtain rfl : L_strconv_Itoa = fn := Option.some.inj h; exact ⟨_, _, Tryd.func36, rfl, by decide, false, lk36⟩
  · intro fn h; obtain rfl : L_key_Order_1 = fn := Option.some.inj h; exact ⟨_, _, Tryd.func42, rfl, by decide, false, lk42⟩
  · intro fn h; obtain rfl : L_sort_SliceStable = fn := Option.some.inj h; exact ⟨_, _, Tryd.func44, rfl, by decide, true, lk44⟩
  · intro fn h; obtain rfl : L_num_Text = fn := Option.some.inj h; exact ⟨_, _, Tryd.func29, rfl, by decide, false, lk29⟩
  · intro fn h; obtain rfl : L_value_IsObject = fn := Option.some.inj h; exact ⟨_, _, Tryd.func28, rfl, by decide, false, lk28⟩
  · intro fn h; obtain rfl : L_value_May = fn := Option.some.inj h; exact ⟨_, _, Tryd.func27, rfl, by decide, false, lk27⟩
  · intro fn h; obtain rfl : L_value_Text = fn := Option.some.inj h; exact ⟨_, _, Tryd.func30, rfl, by decide, false, lk30⟩
  · intro fn h; cases (show (none : Option Lx.Fn) = some fn from h)
  · intro fn h; obtain rfl : L_istrconv_Itoa = fn := Option.some.inj h; exact ⟨_, _, Tryd.func51, rfl, by decide, false, lk51⟩
  · intro fn h; obtain rfl : L_key_place = fn := Option.some.inj h; exact ⟨_, _, Tryd.func43, rfl, by decide, false, lk43⟩
  · intro fn h; cases (show (none : Option Lx.Fn) = some fn from h)
  · intro fn h; cases (show (none : Option Lx.Fn) = some fn from h)
  · intro fn h; cases (show (none : Option Lx.Fn) = some fn from h)
  · intro fn h; obtain rfl : L_sort_stable_func = fn := Option.some.inj h; exact ⟨_, _, Tryd.func59, rfl, by decide, false, lk59⟩
  · intro fn h; cases (show (none : Option Lx.Fn) = some fn from h)
  · intro fn h; cases (show (none : Option Lx.Fn) = some fn from h)
  · intro fn h; cases (show (none : Option Lx.Fn) = some fn from h)
  · intro fn h; cases (show (none : Option Lx.Fn) = some fn from h)
  · intro fn h; cases (show (none : Option Lx.Fn) = some fn from h)
  · intro fn h; cases (show (none : Option Lx.Fn) = some fn from h)
  · intro fn h; cases (show (none : Option Lx.Fn) = some fn from h)
  · intro fn h; cases (show (none : Option Lx.Fn) = some fn from h)
  · intro fn h; cases (show (none : Option Lx.Fn) = some fn from h)
  · intro fn h; obtain rfl : L_num_May = fn := Option.some.inj h; exact ⟨_, _, Tryd.func45, rfl, by decide, false, lk45⟩
  · intro fn h; obtain rfl : L_strconv_FormatInt = fn := Option.some.inj h; exact ⟨_, _, Tryd.func46, rfl, by decide, false, lk46⟩
  · intro fn h; cases (show (none : Option Lx.Fn) = some fn from h)
  · intro fn h; obtain rfl : L_sort_insertionSort_func = fn := Option.some.inj h; exact ⟨_, _, Tryd.func75, rfl, by decide, false, lk75⟩
  · intro fn h; obtain rfl : L_sort_symMerge_func = fn := Option.some.inj h; exact ⟨_, _, Tryd.func76, rfl, by decide, false, lk76⟩
  · intro fn h; obtain rfl : L_math_Abs = fn := Option.some.inj h; exact ⟨_, _, Tryd.func62, rfl, by decide, false, lk62⟩
  · intro fn h; obtain rfl : L_math_Signbit = fn := Option.some.inj h; exact ⟨_, _, Tryd.func63, rfl, by decide, false, lk63⟩
  · intro fn h; obtain rfl : L_math_Trunc = fn := Option.some.inj h; exact ⟨_, _, Tryd.func61, rfl, by decide, false, lk61⟩
  · intro fn h; obtain rfl : L_sort_rotate_func = fn := Option.some.inj h; exact ⟨_, _, Tryd.func86, rfl, by decide, false, lk86⟩
  · intro fn h; cases (show (none : Option Lx.Fn) = some fn from h)
  · intro fn h; cases (show (none : Option Lx.Fn) = some fn from h)
  · intro fn h; cases (show (none : Option Lx.Fn) = some fn from h)
  · intro fn h; obtain rfl : L_math_trunc = fn := Option.some.inj h; exact ⟨_, _, Tryd.func78, rfl, by decide, false, lk78⟩
  · intro fn h; obtain rfl : L_sort_swapRange_func = fn := Option.some.inj h; exact ⟨_, _, Tryd.func93, rfl, by decide, false, lk93⟩
  · intro fn h; obtain rfl : L_math_Copysign = fn := Option.some.inj h; exact ⟨_, _, Tryd.func87, rfl, by decide, false, lk87⟩
  · intro fn h; cases (show (none : Option Lx.Fn) = some fn from h)
noncomputable def iT : TypeInfo := (Tryd.prog.info? sT).get (by kernel_rfl)
noncomputable def iE : TypeInfo := (Tryd.prog.info? sE).get (by kernel_rfl)
theorem prims : Prims Tryd.prog nm sG sT sE where
  bits := ⟨80, fun j h => oneOf_sound (l := nmL) (by decide) h, fun _ => ⟨⟨_, Tryd.func80, rfl, by decide, by kernel_rfl, by kernel_rfl⟩⟩⟩
  frombits := ⟨79, fun j h => oneOf_sound (l := nmL) (by decide) h, fun _ => ⟨⟨_, Tryd.func79, rfl, by decide, by kernel_rfl, by kernel_rfl⟩⟩⟩
  trunc := ⟨77, fun j h => oneOf_sound (l := nmL) (by decide) h, fun _ => ⟨"math.archTrunc", ⟨⟨_, Tryd.func77, rfl, by decide, by kernel_rfl, by kernel_rfl⟩⟩⟩⟩
  valueOf := ⟨57, fun j h => oneOf_sound (l := nmL) (by decide) h, fun _ => ⟨⟨_, Tryd.func57, rfl, by decide, by kernel_rfl, by kernel_rfl⟩⟩⟩
  len := ⟨60, fun j h => oneOf_sound (l := nmL) (by decide) h, fun _ => ⟨⟨_, Tryd.func60, rfl, by decide, by kernel_rfl, by kernel_rfl⟩⟩⟩
  swapper := ⟨58, fun j h => oneOf_sound (l := nmL) (by decide) h, fun _ => ⟨⟨_, Tryd.func58, rfl, by decide, by kernel_rfl, by kernel_rfl⟩⟩⟩
  swap := ⟨74, fun j h => oneOf_sound (l := nmL) (by decide) h, fun _ => ⟨⟨_, Tryd.func74, rfl, by decide, by kernel_rfl, by kernel_rfl⟩⟩⟩
  fmt := ⟨64, fun j h => oneOf_sound (l := nmL) (by decide) h, fun _ => ⟨fun n w h0 h1 ht => Go.Proofs.Tryd.internal_strconv_FormatInt_10 n h0 h1 w ht, ⟨_, _, Tryd.func64, rfl, by decide⟩, ⟨1, by kernel_rfl, rfl⟩⟩⟩
  quote := ⟨40, fun j h => oneOf_sound (l := nmL) (by decide) h, fun _ => ⟨fun s w hs => Go.Proofs.Tryd.quote_walk s w hs, ⟨_, _, Tryd.func40, rfl, by decide⟩⟩⟩
  noquo := noquo_of (l := nmL) (by decide)
  types _ := ⟨by kernel_rfl, ⟨iT, iE, 25, by kernel_rfl, by kernel_rfl, by kernel_rfl, by kernel_rfl, fun _ => by kernel_rfl, by kernel_rfl, by rw [show iE.bytes = 24 from by kernel_rfl]; decide, by decide⟩, by kernel_rfl, by kernel_rfl, ⟨66, by kernel_rfl, rfl⟩, ⟨67, by kernel_rfl, rfl⟩, ⟨74, by kernel_rfl, rfl⟩⟩
abbrev En : Env := envOf (fnsL sT) sG sT sE
theorem linked : Linked Tryd.prog nm En where
  mixed := by kernel_rfl
  fn k f fn h1 h2 := entries (k, f) (lookup_mem' h1) fn h2
  prim f args h R H := prims_rel prims H
  quo := rfl
end Go.Proofs.YtkmbllgoepcojaaDoor
