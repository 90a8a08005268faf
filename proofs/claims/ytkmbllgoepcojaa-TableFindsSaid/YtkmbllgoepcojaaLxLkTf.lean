import Derived.Test.YtkmbllgoepcojaaChecked
import Derived.Test.YtkmbllgoepcojaaLx34
import Derived.Test.YtkmbllgoepcojaaLxDf
import Derived.KernelRfl
/- The tie of the seat's program to the language's functions (printed by mk.py). -/
set_option linter.unusedVariables false
set_option linter.unusedSimpArgs false
set_option maxRecDepth 100000
namespace Go.Proofs.Ytkmbllgoepcojaa
open Go.Lx
abbrev sT : Nat := 42
abbrev sE : Nat := 24
abbrev sG : Nat := 1
def nmL : List (Nat × Nat) := [(7, 199), (38, 31), (8, 1), (40, 33), (39, 32), (20, 13), (12, 5), (22, 15), (30, 23), (24, 17), (10, 3), (28, 21), (35, 29), (37, 30), (36, 28), (54, 45), (43, 36), (41, 34), (42, 35), (17, 10), (65, 54), (55, 46), (47, 40), (49, 183), (84, 64), (66, 55), (67, 56), (48, 48), (61, 184), (59, 185), (58, 50), (60, 186), (72, 187), (73, 188), (74, 189), (75, 190), (76, 191), (77, 192), (78, 193), (79, 194), (80, 195), (86, 66), (85, 65), (88, 68), (87, 67), (57, 49), (81, 61), (82, 62), (94, 74), (93, 73), (92, 72), (98, 78), (99, 79), (97, 77), (96, 76), (103, 82), (102, 83), (100, 80), (101, 81), (104, 84)]
def nm (k : Nat) : Option Nat := nmL.lookup k
theorem lk7 : lowFn Try.prog nm false Try.f7 = some (L_bailifflaw10_TableFinds) := by kernel_rfl
theorem lk38 : lowFn Try.prog nm false Try.f38 = some (L_bailifflaw10_alive) := by kernel_rfl
theorem lk8 : lowFn Try.prog nm false Try.f8 = some (L_bailifflaw10_long) := by kernel_rfl
theorem lk40 : lowFn Try.prog nm false Try.f40 = some (L_desc_Same) := by kernel_rfl
theorem lk39 : lowFn Try.prog nm false Try.f39 = some (L_key_Check) := by kernel_rfl
theorem lk20 : lowFn Try.prog nm false Try.f20 = some (L_table_Check) := by kernel_rfl
theorem lk12 : lowFn Try.prog nm false Try.f12 = some (L_table_Drop) := by kernel_rfl
theorem lk22 : lowFn Try.prog nm false Try.f22 = some (L_table_Find) := by kernel_rfl
theorem lk30 : lowFn Try.prog nm false Try.f30 = some (L_table_Frozen) := by kernel_rfl
theorem lk24 : lowFn Try.prog nm false Try.f24 = some (L_table_Keys) := by kernel_rfl
theorem lk10 : lowFn Try.prog nm false Try.f10 = some (L_table_Put) := by kernel_rfl
theorem lk28 : lowFn Try.prog nm false Try.f28 = some (L_table_Sealed) := by kernel_rfl
theorem lk35 : lowFn Try.prog nm false Try.f35 = some (L_desc_Data) := by kernel_rfl
theorem lk37 : lowFn Try.prog nm false Try.f37 = some (L_key_Of) := by kernel_rfl
theorem lk36 : lowFn Try.prog nm false Try.f36 = some (L_value_Num) := by kernel_rfl
theorem lk54 : lowFn Try.prog nm false Try.f54 = some (L_value_Same) := by kernel_rfl
theorem lk43 : lowFn Try.prog nm false Try.f43 = some (L_table_whole) := by kernel_rfl
theorem lk41 : lowFn Try.prog nm false Try.f41 = some (L_table_asked) := by kernel_rfl
theorem lk42 : lowFn Try.prog nm false Try.f42 = some (L_table_at) := by kernel_rfl
theorem lk17 : lowFn Try.prog nm false Try.f17 = some (L_key_Order sT) := by kernel_rfl
theorem lk65 : lowFn Try.prog nm false Try.f65 = some (L_value_Strict) := by kernel_rfl
theorem lk55 : lowFn Try.prog nm false Try.f55 = some (L_desc_Complete) := by kernel_rfl
theorem lk47 : lowFn Try.prog nm false Try.f47 = some (L_key_Order_1) := by kernel_rfl
theorem lk49 : lowFn Try.prog nm true Try.f49 = some (L_sort_SliceStable) := by kernel_rfl
theorem lk84 : lowFn Try.prog nm false Try.f84 = some (L_value_IsObject) := by kernel_rfl
theorem lk66 : lowFn Try.prog nm false Try.f66 = some (L_desc_Check) := by kernel_rfl
theorem lk67 : lowFn Try.prog nm false Try.f67 = some (L_desc_whole) := by kernel_rfl
theorem lk48 : lowFn Try.prog nm false Try.f48 = some (L_key_place) := by kernel_rfl
theorem lk60 : lowFn Try.prog nm false Try.f60 = some (L_sort_stable_func) := by kernel_rfl
theorem lk86 : lowFn Try.prog nm false Try.f86 = some (L_desc_IsAccess) := by kernel_rfl
theorem lk85 : lowFn Try.prog nm false Try.f85 = some (L_desc_IsData) := by kernel_rfl
theorem lk88 : lowFn Try.prog nm false Try.f88 = some (L_desc_called) := by kernel_rfl
theorem lk87 : lowFn Try.prog nm false Try.f87 = some (L_value_May) := by kernel_rfl
theorem lk57 : lowFn Try.prog nm false Try.f57 = some (L_key_Index) := by kernel_rfl
theorem lk81 : lowFn Try.prog nm false Try.f81 = some (L_sort_insertionSort_func) := by kernel_rfl
theorem lk82 : lowFn Try.prog nm false Try.f82 = some (L_sort_symMerge_func) := by kernel_rfl
theorem lk94 : lowFn Try.prog nm false Try.f94 = some (L_value_Calls) := by kernel_rfl
theorem lk93 : lowFn Try.prog nm false Try.f93 = some (L_num_May) := by kernel_rfl
theorem lk92 : lowFn Try.prog nm false Try.f92 = some (L_sort_rotate_func) := by kernel_rfl
theorem lk98 : lowFn Try.prog nm false Try.f98 = some (L_math_Abs) := by kernel_rfl
theorem lk99 : lowFn Try.prog nm false Try.f99 = some (L_math_Signbit) := by kernel_rfl
theorem lk97 : lowFn Try.prog nm false Try.f97 = some (L_math_Trunc) := by kernel_rfl
theorem lk96 : lowFn Try.prog nm false Try.f96 = some (L_sort_swapRange_func) := by kernel_rfl
theorem lk101 : lowFn Try.prog nm false Try.f101 = some (L_math_trunc) := by kernel_rfl
theorem lk104 : lowFn Try.prog nm false Try.f104 = some (L_math_Copysign) := by kernel_rfl
theorem entries : ∀ p, p ∈ nmL → ∀ fn, (fnsL sT).lookup p.2 = some fn → ∃ func c, Try.prog.funcs[p.1]? = some func ∧ func.body = some c ∧ func.name ≠ "runtime.NumGoroutine" ∧ ∃ pr, lowFn Try.prog nm pr func = some fn := by
  simp only [nmL, List.forall_mem_cons]
  refine ⟨?_, ?_, ?_, ?_, ?_, ?_, ?_, ?_, ?_, ?_, ?_, ?_, ?_, ?_, ?_, ?_, ?_, ?_, ?_, ?_, ?_, ?_, ?_, ?_, ?_, ?_, ?_, ?_, ?_, ?_, ?_, ?_, ?_, ?_, ?_, ?_, ?_, ?_, ?_, ?_, ?_, ?_, ?_, ?_, ?_, ?_, ?_, ?_, ?_, ?_, ?_, ?_, ?_, ?_, ?_, ?_, ?_, ?_, ?_, ?_, fun _ h => by cases h⟩
  · intro fn h; obtain rfl : L_bailifflaw10_TableFinds = fn := Option.some.inj h; exact ⟨_, _, Try.func7, rfl, by decide, false, lk7⟩
  · intro fn h; obtain rfl : L_bailifflaw10_alive = fn := Option.some.inj h; exact ⟨_, _, Try.func38, rfl, by decide, false, lk38⟩
  · intro fn h; obtain rfl : L_bailifflaw10_long = fn := Option.some.inj h; exact ⟨_, _, Try.func8, rfl, by decide, false, lk8⟩
  · intro fn h; obtain rfl : L_desc_Same = fn := Option.some.inj h; exact ⟨_, _, Try.func40, rfl, by decide, false, lk40⟩
  · intro fn h; obtain rfl : L_key_Check = fn := Option.some.inj h; exact ⟨_, _, Try.func39, rfl, by decide, false, lk39⟩
  · intro fn h; obtain rfl : L_table_Check = fn := Option.some.inj h; exact ⟨_, _, Try.func20, rfl, by decide, false, lk20⟩
  · intro fn h; obtain rfl : L_table_Drop = fn := Option.some.inj h; exact ⟨_, _, Try.func12, rfl, by decide, false, lk12⟩
  · intro fn h; obtain rfl : L_table_Find = fn := Option.some.inj h; exact ⟨_, _, Try.func22, rfl, by decide, false, lk22⟩
  · intro fn h; obtain rfl : L_table_Frozen = fn := Option.some.inj h; exact ⟨_, _, Try.func30, rfl, by decide, false, lk30⟩
  · intro fn h; obtain rfl : L_table_Keys = fn := Option.some.inj h; exact ⟨_, _, Try.func24, rfl, by decide, false, lk24⟩
  · intro fn h; obtain rfl : L_table_Put = fn := Option.some.inj h; exact ⟨_, _, Try.func10, rfl, by decide, false, lk10⟩
  · intro fn h; obtain rfl : L_table_Sealed = fn := Option.some.inj h; exact ⟨_, _, Try.func28, rfl, by decide, false, lk28⟩
  · intro fn h; obtain rfl : L_desc_Data = fn := Option.some.inj h; exact ⟨_, _, Try.func35, rfl, by decide, false, lk35⟩
  · intro fn h; obtain rfl : L_key_Of = fn := Option.some.inj h; exact ⟨_, _, Try.func37, rfl, by decide, false, lk37⟩
  · intro fn h; obtain rfl : L_value_Num = fn := Option.some.inj h; exact ⟨_, _, Try.func36, rfl, by decide, false, lk36⟩
  · intro fn h; obtain rfl : L_value_Same = fn := Option.some.inj h; exact ⟨_, _, Try.func54, rfl, by decide, false, lk54⟩
  · intro fn h; obtain rfl : L_table_whole = fn := Option.some.inj h; exact ⟨_, _, Try.func43, rfl, by decide, false, lk43⟩
  · intro fn h; obtain rfl : L_table_asked = fn := Option.some.inj h; exact ⟨_, _, Try.func41, rfl, by decide, false, lk41⟩
  · intro fn h; obtain rfl : L_table_at = fn := Option.some.inj h; exact ⟨_, _, Try.func42, rfl, by decide, false, lk42⟩
  · intro fn h; obtain rfl : L_key_Order sT = fn := Option.some.inj h; exact ⟨_, _, Try.func17, rfl, by decide, false, lk17⟩
  · intro fn h; obtain rfl : L_value_Strict = fn := Option.some.inj h; exact ⟨_, _, Try.func65, rfl, by decide, false, lk65⟩
  · intro fn h; obtain rfl : L_desc_Complete = fn := Option.some.inj h; exact ⟨_, _, Try.func55, rfl, by decide, false, lk55⟩
  · intro fn h; obtain rfl : L_key_Order_1 = fn := Option.some.inj h; exact ⟨_, _, Try.func47, rfl, by decide, false, lk47⟩
  · intro fn h; obtain rfl : L_sort_SliceStable = fn := Option.some.inj h; exact ⟨_, _, Try.func49, rfl, by decide, true, lk49⟩
  · intro fn h; obtain rfl : L_value_IsObject = fn := Option.some.inj h; exact ⟨_, _, Try.func84, rfl, by decide, false, lk84⟩
  · intro fn h; obtain rfl : L_desc_Check = fn := Option.some.inj h; exact ⟨_, _, Try.func66, rfl, by decide, false, lk66⟩
  · intro fn h; obtain rfl : L_desc_whole = fn := Option.some.inj h; exact ⟨_, _, Try.func67, rfl, by decide, false, lk67⟩
  · intro fn h; obtain rfl : L_key_place = fn := Option.some.inj h; exact ⟨_, _, Try.func48, rfl, by decide, false, lk48⟩
  · intro fn h; cases (show (none : Option Lx.Fn) = some fn from h)
  · intro fn h; cases (show (none : Option Lx.Fn) = some fn from h)
  · intro fn h; cases (show (none : Option Lx.Fn) = some fn from h)
  · intro fn h; obtain rfl : L_sort_stable_func = fn := Option.some.inj h; exact ⟨_, _, Try.func60, rfl, by decide, false, lk60⟩
  · intro fn h; cases (show (none : Option Lx.Fn) = some fn from h)
  · intro fn h; cases (show (none : Option Lx.Fn) = some fn from h)
  · intro fn h; cases (show (none : Option Lx.Fn) = some fn from h)
  · intro fn h; cases (show (none : Option Lx.Fn) = some fn from h)
  · intro fn h; cases (show (none : Option Lx.Fn) = some fn from h)
  · intro fn h; cases (show (none : Option Lx.Fn) = some fn from h)
  · intro fn h; cases (show (none : Option Lx.Fn) = some fn from h)
  · intro fn h; cases (show (none : Option Lx.Fn) = some fn from h)
  · intro fn h; cases (show (none : Option Lx.Fn) = some fn from h)
  · intro fn h; obtain rfl : L_desc_IsAccess = fn := Option.some.inj h; exact ⟨_, _, Try.func86, rfl, by decide, false, lk86⟩
  · intro fn h; obtain rfl : L_desc_IsData = fn := Option.some.inj h; exact ⟨_, _, Try.func85, rfl, by decide, false, lk85⟩
  · intro fn h; obtain rfl : L_desc_called = fn := Option.some.inj h; exact ⟨_, _, Try.func88, rfl, by decide, false, lk88⟩
  · intro fn h; obtain rfl : L_value_May = fn := Option.some.inj h; exact ⟨_, _, Try.func87, rfl, by decide, false, lk87⟩
  · intro fn h; obtain rfl : L_key_Index = fn := Option.some.inj h; exact ⟨_, _, Try.func57, rfl, by decide, false, lk57⟩
  · intro fn h; obtain rfl : L_sort_insertionSort_func = fn := Option.some.inj h; exact ⟨_, _, Try.func81, rfl, by decide, false, lk81⟩
  · intro fn h; obtain rfl : L_sort_symMerge_func = fn := Option.some.inj h; exact ⟨_, _, Try.func82, rfl, by decide, false, lk82⟩
  · intro fn h; obtain rfl : L_value_Calls = fn := Option.some.inj h; exact ⟨_, _, Try.func94, rfl, by decide, false, lk94⟩
  · intro fn h; obtain rfl : L_num_May = fn := Option.some.inj h; exact ⟨_, _, Try.func93, rfl, by decide, false, lk93⟩
  · intro fn h; obtain rfl : L_sort_rotate_func = fn := Option.some.inj h; exact ⟨_, _, Try.func92, rfl, by decide, false, lk92⟩
  · intro fn h; obtain rfl : L_math_Abs = fn := Option.some.inj h; exact ⟨_, _, Try.func98, rfl, by decide, false, lk98⟩
  · intro fn h; obtain rfl : L_math_Signbit = fn := Option.some.inj h; exact ⟨_, _, Try.func99, rfl, by decide, false, lk99⟩
  · intro fn h; obtain rfl : L_math_Trunc = fn := Option.some.inj h; exact ⟨_, _, Try.func97, rfl, by decide, false, lk97⟩
  · intro fn h; obtain rfl : L_sort_swapRange_func = fn := Option.some.inj h; exact ⟨_, _, Try.func96, rfl, by decide, false, lk96⟩
  · intro fn h; cases (show (none : Option Lx.Fn) = some fn from h)
  · intro fn h; cases (show (none : Option Lx.Fn) = some fn from h)
  · intro fn h; cases (show (none : Option Lx.Fn) = some fn from h)
  · intro fn h; obtain rfl : L_math_trunc = fn := Option.some.inj h; exact ⟨_, _, Try.func101, rfl, by decide, false, lk101⟩
  · intro fn h; obtain rfl : L_math_Copysign = fn := Option.some.inj h; exact ⟨_, _, Try.func104, rfl, by decide, false, lk104⟩
noncomputable def iT : TypeInfo := (Try.prog.info? sT).get (by kernel_rfl)
noncomputable def iE : TypeInfo := (Try.prog.info? sE).get (by kernel_rfl)
theorem prims : Prims Try.prog nm sG sT sE where
  bits := ⟨103, fun j h => oneOf_sound (l := nmL) (by decide) h, fun _ => ⟨⟨_, Try.func103, rfl, by decide, by kernel_rfl, by kernel_rfl⟩⟩⟩
  frombits := ⟨102, fun j h => oneOf_sound (l := nmL) (by decide) h, fun _ => ⟨⟨_, Try.func102, rfl, by decide, by kernel_rfl, by kernel_rfl⟩⟩⟩
  trunc := ⟨100, fun j h => oneOf_sound (l := nmL) (by decide) h, fun _ => ⟨"math.archTrunc", ⟨⟨_, Try.func100, rfl, by decide, by kernel_rfl, by kernel_rfl⟩⟩⟩⟩
  valueOf := ⟨58, fun j h => oneOf_sound (l := nmL) (by decide) h, fun _ => ⟨⟨_, Try.func58, rfl, by decide, by kernel_rfl, by kernel_rfl⟩⟩⟩
  len := ⟨61, fun j h => oneOf_sound (l := nmL) (by decide) h, fun _ => ⟨⟨_, Try.func61, rfl, by decide, by kernel_rfl, by kernel_rfl⟩⟩⟩
  swapper := ⟨59, fun j h => oneOf_sound (l := nmL) (by decide) h, fun _ => ⟨⟨_, Try.func59, rfl, by decide, by kernel_rfl, by kernel_rfl⟩⟩⟩
  swap := ⟨80, fun j h => oneOf_sound (l := nmL) (by decide) h, fun _ => ⟨⟨_, Try.func80, rfl, by decide, by kernel_rfl, by kernel_rfl⟩⟩⟩
  types _ := ⟨by kernel_rfl, ⟨iT, iE, 25, by kernel_rfl, by kernel_rfl, by kernel_rfl, by kernel_rfl, fun _ => by kernel_rfl, by kernel_rfl, by rw [show iE.bytes = 24 from by kernel_rfl]; decide, by decide⟩, by kernel_rfl, by kernel_rfl, ⟨72, by kernel_rfl, rfl⟩, ⟨73, by kernel_rfl, rfl⟩, ⟨80, by kernel_rfl, rfl⟩⟩
abbrev En : Env := envOf (fnsL sT) sG sT sE
theorem linked : Linked Try.prog nm En where
  mixed := by kernel_rfl
  fn k f fn h1 h2 := entries (k, f) (lookup_mem' h1) fn h2
  prim f args h R H := prims_rel prims H
end Go.Proofs.Ytkmbllgoepcojaa
