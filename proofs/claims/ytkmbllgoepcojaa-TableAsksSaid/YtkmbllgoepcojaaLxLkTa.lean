import Derived.Test.YtkmbllgoepcojaaChecked
import Derived.Test.YtkmbllgoepcojaaLx34
import Derived.Test.YtkmbllgoepcojaaLxDf
import Derived.KernelRfl
/- The tie of the seat's program to the language's functions (printed by mk.py). -/
set_option linter.unusedVariables false
set_option linter.unusedSimpArgs false
set_option maxRecDepth 100000
namespace Go.Proofs.Ytkmbllgoepcojaa
open Go.Lx
abbrev sT : Nat := 42
abbrev sE : Nat := 24
abbrev sG : Nat := 1
def nmL : List (Nat × Nat) := [(5, 198), (8, 1), (15, 8), (9, 2), (19, 12), (32, 25), (21, 14), (23, 16), (31, 24), (25, 18), (27, 20), (29, 22), (20, 13), (22, 15), (30, 23), (24, 17), (26, 19), (28, 21), (14, 7), (53, 44), (51, 42), (45, 38), (46, 39), (44, 37), (52, 43), (18, 11), (39, 32), (43, 36), (41, 34), (42, 35), (17, 10), (64, 53), (56, 47), (63, 52), (50, 41), (55, 46), (47, 40), (49, 183), (70, 59), (68, 57), (69, 58), (71, 60), (62, 51), (66, 55), (67, 56), (48, 48), (61, 184), (59, 185), (58, 50), (60, 186), (72, 187), (73, 188), (74, 189), (75, 190), (76, 191), (77, 192), (78, 193), (79, 194), (80, 195), (90, 70), (89, 69), (91, 71), (83, 63), (86, 66), (85, 65), (88, 68), (87, 67), (57, 49), (81, 61), (82, 62), (95, 75), (94, 74), (93, 73), (92, 72), (98, 78), (99, 79), (97, 77), (96, 76), (103, 82), (102, 83), (100, 80), (101, 81), (104, 84)]
def nm (k : Nat) : Option Nat := nmL.lookup k
theorem lk5 : lowFn Try.prog nm false Try.f5 = some (L_bailifflaw10_TableAsks) := by kernel_rfl
theorem lk8 : lowFn Try.prog nm false Try.f8 = some (L_bailifflaw10_long) := by kernel_rfl
theorem lk15 : lowFn Try.prog nm false Try.f15 = some (L_bailifflaw10_stays) := by kernel_rfl
theorem lk9 : lowFn Try.prog nm false Try.f9 = some (L_bailifflaw10_twin) := by kernel_rfl
theorem lk19 : lowFn Try.prog nm false Try.f19 = some (L_bailiffref08_Same) := by kernel_rfl
theorem lk32 : lowFn Try.prog nm false Try.f32 = some (L_bailiffref09_Alike) := by kernel_rfl
theorem lk21 : lowFn Try.prog nm false Try.f21 = some (L_bailiffref10_Check) := by kernel_rfl
theorem lk23 : lowFn Try.prog nm false Try.f23 = some (L_bailiffref10_Find) := by kernel_rfl
theorem lk31 : lowFn Try.prog nm false Try.f31 = some (L_bailiffref10_Frozen) := by kernel_rfl
theorem lk25 : lowFn Try.prog nm false Try.f25 = some (L_bailiffref10_Keys) := by kernel_rfl
theorem lk27 : lowFn Try.prog nm false Try.f27 = some (L_bailiffref10_Names) := by kernel_rfl
theorem lk29 : lowFn Try.prog nm false Try.f29 = some (L_bailiffref10_Sealed) := by kernel_rfl
theorem lk20 : lowFn Try.prog nm false Try.f20 = some (L_table_Check) := by kernel_rfl
theorem lk22 : lowFn Try.prog nm false Try.f22 = some (L_table_Find) := by kernel_rfl
theorem lk30 : lowFn Try.prog nm false Try.f30 = some (L_table_Frozen) := by kernel_rfl
theorem lk24 : lowFn Try.prog nm false Try.f24 = some (L_table_Keys) := by kernel_rfl
theorem lk26 : lowFn Try.prog nm false Try.f26 = some (L_table_Names) := by kernel_rfl
theorem lk28 : lowFn Try.prog nm false Try.f28 = some (L_table_Sealed) := by kernel_rfl
theorem lk14 : lowFn Try.prog nm false Try.f14 = some (L_bailiffref10_Same) := by kernel_rfl
theorem lk53 : lowFn Try.prog nm false Try.f53 = some (L_bailiffref07_Alike) := by kernel_rfl
theorem lk51 : lowFn Try.prog nm false Try.f51 = some (L_bailiffref08_Check) := by kernel_rfl
theorem lk45 : lowFn Try.prog nm false Try.f45 = some (L_bailiffref09_IsWhole) := by kernel_rfl
theorem lk46 : lowFn Try.prog nm false Try.f46 = some (L_bailiffref10_Place) := by kernel_rfl
theorem lk44 : lowFn Try.prog nm false Try.f44 = some (L_bailiffref10_asked) := by kernel_rfl
theorem lk52 : lowFn Try.prog nm false Try.f52 = some (L_bailiffref09_IsData) := by kernel_rfl
theorem lk18 : lowFn Try.prog nm false Try.f18 = some (L_bailiffref08_Order) := by kernel_rfl
theorem lk39 : lowFn Try.prog nm false Try.f39 = some (L_key_Check) := by kernel_rfl
theorem lk43 : lowFn Try.prog nm false Try.f43 = some (L_table_whole) := by kernel_rfl
theorem lk41 : lowFn Try.prog nm false Try.f41 = some (L_table_asked) := by kernel_rfl
theorem lk42 : lowFn Try.prog nm false Try.f42 = some (L_table_at) := by kernel_rfl
theorem lk17 : lowFn Try.prog nm false Try.f17 = some (L_key_Order sT) := by kernel_rfl
theorem lk64 : lowFn Try.prog nm false Try.f64 = some (L_bailiffref01_Same) := by kernel_rfl
theorem lk56 : lowFn Try.prog nm false Try.f56 = some (L_bailiffref09_Check) := by kernel_rfl
theorem lk63 : lowFn Try.prog nm false Try.f63 = some (L_bailiffref09_Has) := by kernel_rfl
theorem lk50 : lowFn Try.prog nm false Try.f50 = some (L_bailiffref08_Index) := by kernel_rfl
theorem lk55 : lowFn Try.prog nm false Try.f55 = some (L_desc_Complete) := by kernel_rfl
theorem lk47 : lowFn Try.prog nm false Try.f47 = some (L_key_Order_1) := by kernel_rfl
theorem lk49 : lowFn Try.prog nm true Try.f49 = some (L_sort_SliceStable) := by kernel_rfl
theorem lk70 : lowFn Try.prog nm false Try.f70 = some (L_bailiffref07_May) := by kernel_rfl
theorem lk68 : lowFn Try.prog nm false Try.f68 = some (L_bailiffref09_IsAccess) := by kernel_rfl
theorem lk69 : lowFn Try.prog nm false Try.f69 = some (L_bailiffref09_bare) := by kernel_rfl
theorem lk71 : lowFn Try.prog nm false Try.f71 = some (L_bailiffref09_called) := by kernel_rfl
theorem lk62 : lowFn Try.prog nm false Try.f62 = some (L_bailiffref07_Tens) := by kernel_rfl
theorem lk66 : lowFn Try.prog nm false Try.f66 = some (L_desc_Check) := by kernel_rfl
theorem lk67 : lowFn Try.prog nm false Try.f67 = some (L_desc_whole) := by kernel_rfl
theorem lk48 : lowFn Try.prog nm false Try.f48 = some (L_key_place) := by kernel_rfl
theorem lk60 : lowFn Try.prog nm false Try.f60 = some (L_sort_stable_func) := by kernel_rfl
theorem lk90 : lowFn Try.prog nm false Try.f90 = some (L_bailiffref01_May) := by kernel_rfl
theorem lk89 : lowFn Try.prog nm false Try.f89 = some (L_bailiffref07_nought) := by kernel_rfl
theorem lk91 : lowFn Try.prog nm false Try.f91 = some (L_bailiffref07_Calls) := by kernel_rfl
theorem lk83 : lowFn Try.prog nm false Try.f83 = some (L_bailiffref01_Tens) := by kernel_rfl
theorem lk86 : lowFn Try.prog nm false Try.f86 = some (L_desc_IsAccess) := by kernel_rfl
theorem lk85 : lowFn Try.prog nm false Try.f85 = some (L_desc_IsData) := by kernel_rfl
theorem lk88 : lowFn Try.prog nm false Try.f88 = some (L_desc_called) := by kernel_rfl
theorem lk87 : lowFn Try.prog nm false Try.f87 = some (L_value_May) := by kernel_rfl
theorem lk57 : lowFn Try.prog nm false Try.f57 = some (L_key_Index) := by kernel_rfl
theorem lk81 : lowFn Try.prog nm false Try.f81 = some (L_sort_insertionSort_func) := by kernel_rfl
theorem lk82 : lowFn Try.prog nm false Try.f82 = some (L_sort_symMerge_func) := by kernel_rfl
theorem lk95 : lowFn Try.prog nm false Try.f95 = some (L_bailiffref01_whole) := by kernel_rfl
theorem lk94 : lowFn Try.prog nm false Try.f94 = some (L_value_Calls) := by kernel_rfl
theorem lk93 : lowFn Try.prog nm false Try.f93 = some (L_num_May) := by kernel_rfl
theorem lk92 : lowFn Try.prog nm false Try.f92 = some (L_sort_rotate_func) := by kernel_rfl
theorem lk98 : lowFn Try.prog nm false Try.f98 = some (L_math_Abs) := by kernel_rfl
theorem lk99 : lowFn Try.prog nm false Try.f99 = some (L_math_Signbit) := by kernel_rfl
theorem lk97 : lowFn Try.prog nm false Try.f97 = some (L_math_Trunc) := by kernel_rfl
theorem lk96 : lowFn Try.prog nm false Try.f96 = some (L_sort_swapRange_func) := by kernel_rfl
theorem lk101 : lowFn Try.prog nm false Try.f101 = some (L_math_trunc) := by kernel_rfl
theorem lk104 : lowFn Try.prog nm false Try.f104 = some (L_math_Copysign) := by kernel_rfl
theorem entries : ∀ p, p ∈ nmL → ∀ fn, (fnsL sT).lookup p.2 = some fn → ∃ func c, Try.prog.funcs[p.1]? = some func ∧ func.body = some c ∧ func.name ≠ "runtime.NumGoroutine" ∧ ∃ pr, lowFn Try.prog nm pr func = some fn := by
  simp only [nmL, List.forall_mem_cons]
  refine ⟨?_, ?_, ?_, ?_, ?_, ?_, ?_, ?_, ?_, ?_, ?_, ?_, ?_, ?_, ?_, ?_, ?_, ?_, ?_, ?_, ?_, ?_, ?_, ?_, ?_, ?_, ?_, ?_, ?_, ?_, ?_, ?_, ?_, ?_, ?_, ?_, ?_, ?_, ?_, ?_, ?_, ?_, ?_, ?_, ?_, ?_, ?_, ?_, ?_, ?_, ?_, ?_, ?_, ?_, ?_, ?_, ?_, ?_, ?_, ?_, ?_, ?_, ?_, ?_, ?_, ?_, ?_, ?_, ?_, ?_, ?_, ?_, ?_, ?_, ?_, ?_, ?_, ?_, ?_, ?_, ?_, ?_, ?_, fun _ h => by cases h⟩
  · intro fn h; obtain rfl : L_bailifflaw10_TableAsks = fn := Option.some.inj h; exact ⟨_, _, Try.func5, rfl, by decide, false, lk5⟩
  · intro fn h; obtain rfl : L_bailifflaw10_long = fn := Option.some.inj h; exact ⟨_, _, Try.func8, rfl, by decide, false, lk8⟩
  · intro fn h; obtain rfl : L_bailifflaw10_stays = fn := Option.some.inj h; exact ⟨_, _, Try.func15, rfl, by decide, false, lk15⟩
  · intro fn h; obtain rfl : L_bailifflaw10_twin = fn := Option.some.inj h; exact ⟨_, _, Try.func9, rfl, by decide, false, lk9⟩
  · intro fn h; obtain rfl : L_bailiffref08_Same = fn := Option.some.inj h; exact ⟨_, _, Try.func19, rfl, by decide, false, lk19⟩
  · intro fn h; obtain rfl : L_bailiffref09_Alike = fn := Option.some.inj h; exact ⟨_, _, Try.func32, rfl, by decide, false, lk32⟩
  · intro fn h; obtain rfl : L_bailiffref10_Check = fn := Option.some.inj h; exact ⟨_, _, Try.func21, rfl, by decide, false, lk21⟩
  · intro fn h; obtain rfl : L_bailiffref10_Find = fn := Option.some.inj h; exact ⟨_, _, Try.func23, rfl, by decide, false, lk23⟩
  · intro fn h; obtain rfl : L_bailiffref10_Frozen = fn := Option.some.inj h; exact ⟨_, _, Try.func31, rfl, by decide, false, lk31⟩
  · intro fn h; obtain rfl : L_bailiffref10_Keys = fn := Option.some.inj h; exact ⟨_, _, Try.func25, rfl, by decide, false, lk25⟩
  · intro fn h; obtain rfl : L_bailiffref10_Names = fn := Option.some.inj h; exact ⟨_, _, Try.func27, rfl, by decide, false, lk27⟩
  · intro fn h; obtain rfl : L_bailiffref10_Sealed = fn := Option.some.inj h; exact ⟨_, _, Try.func29, rfl, by decide, false, lk29⟩
  · intro fn h; obtain rfl : L_table_Check = fn := Option.some.inj h; exact ⟨_, _, Try.func20, rfl, by decide, false, lk20⟩
  · intro fn h; obtain rfl : L_table_Find = fn := Option.some.inj h; exact ⟨_, _, Try.func22, rfl, by decide, false, lk22⟩
  · intro fn h; obtain rfl : L_table_Frozen = fn := Option.some.inj h; exact ⟨_, _, Try.func30, rfl, by decide, false, lk30⟩
  · intro fn h; obtain rfl : L_table_Keys = fn := Option.some.inj h; exact ⟨_, _, Try.func24, rfl, by decide, false, lk24⟩
  · intro fn h; obtain rfl : L_table_Names = fn := Option.some.inj h; exact ⟨_, _, Try.func26, rfl, by decide, false, lk26⟩
  · intro fn h; obtain rfl : L_table_Sealed = fn := Option.some.inj h; exact ⟨_, _, Try.func28, rfl, by decide, false, lk28⟩
  · intro fn h; obtain rfl : L_bailiffref10_Same = fn := Option.some.inj h; exact ⟨_, _, Try.func14, rfl, by decide, false, lk14⟩
  · intro fn h; obtain rfl : L_bailiffref07_Alike = fn := Option.some.inj h; exact ⟨_, _, Try.func53, rfl, by decide, false, lk53⟩
  · intro fn h; obtain rfl : L_bailiffref08_Check = fn := Option.some.inj h; exact ⟨_, _, Try.func51, rfl, by decide, false, lk51⟩
  · intro fn h; obtain rfl : L_bailiffref09_IsWhole = fn := Option.some.inj h; exact ⟨_, _, Try.func45, rfl, by decide, false, lk45⟩
  · intro fn h; obtain rfl : L_bailiffref10_Place = fn := Option.some.inj h; exact ⟨_, _, Try.func46, rfl, by decide, false, lk46⟩
  · intro fn h; obtain rfl : L_bailiffref10_asked = fn := Option.some.inj h; exact ⟨_, _, Try.func44, rfl, by decide, false, lk44⟩
  · intro fn h; obtain rfl : L_bailiffref09_IsData = fn := Option.some.inj h; exact ⟨_, _, Try.func52, rfl, by decide, false, lk52⟩
  · intro fn h; obtain rfl : L_bailiffref08_Order = fn := Option.some.inj h; exact ⟨_, _, Try.func18, rfl, by decide, false, lk18⟩
  · intro fn h; obtain rfl : L_key_Check = fn := Option.some.inj h; exact ⟨_, _, Try.func39, rfl, by decide, false, lk39⟩
  · intro fn h; obtain rfl : L_table_whole = fn := Option.some.inj h; exact ⟨_, _, Try.func43, rfl, by decide, false, lk43⟩
  · intro fn h; obtain rfl : L_table_asked = fn := Option.some.inj h; exact ⟨_, _, Try.func41, rfl, by decide, false, lk41⟩
  · intro fn h; obtain rfl : L_table_at = fn := Option.some.inj h; exact ⟨_, _, Try.func42, rfl, by decide, false, lk42⟩
  · intro fn h; obtain rfl : L_key_Order sT = fn := Option.some.inj h; exact ⟨_, _, Try.func17, rfl, by decide, false, lk17⟩
  · intro fn h; obtain rfl : L_bailiffref01_Same = fn := Option.some.inj h; exact ⟨_, _, Try.func64, rfl, by decide, false, lk64⟩
  · intro fn h; obtain rfl : L_bailiffref09_Check = fn := Option.some.inj h; exact ⟨_, _, Try.func56, rfl, by decide, false, lk56⟩
  · intro fn h; obtain rfl : L_bailiffref09_Has = fn := Option.some.inj h; exact ⟨_, _, Try.func63, rfl, by decide, false, lk63⟩
  · intro fn h; obtain rfl : L_bailiffref08_Index = fn := Option.some.inj h; exact ⟨_, _, Try.func50, rfl, by decide, false, lk50⟩
  · intro fn h; obtain rfl : L_desc_Complete = fn := Option.some.inj h; exact ⟨_, _, Try.func55, rfl, by decide, false, lk55⟩
  · intro fn h; obtain rfl : L_key_Order_1 = fn := Option.some.inj h; exact ⟨_, _, Try.func47, rfl, by decide, false, lk47⟩
  · intro fn h; obtain rfl : L_sort_SliceStable = fn := Option.some.inj h; exact ⟨_, _, Try.func49, rfl, by decide, true, lk49⟩
  · intro fn h; obtain rfl : L_bailiffref07_May = fn := Option.some.inj h; exact ⟨_, _, Try.func70, rfl, by decide, false, lk70⟩
  · intro fn h; obtain rfl : L_bailiffref09_IsAccess = fn := Option.some.inj h; exact ⟨_, _, Try.func68, rfl, by decide, false, lk68⟩
  · intro fn h; obtain rfl : L_bailiffref09_bare = fn := Option.some.inj h; exact ⟨_, _, Try.func69, rfl, by decide, false, lk69⟩
  · intro fn h; obtain rfl : L_bailiffref09_called = fn := Option.some.inj h; exact ⟨_, _, Try.func71, rfl, by decide, false, lk71⟩
  · intro fn h; obtain rfl : L_bailiffref07_Tens = fn := Option.some.inj h; exact ⟨_, _, Try.func62, rfl, by decide, false, lk62⟩
  · intro fn h; obtain rfl : L_desc_Check = fn := Option.some.inj h; exact ⟨_, _, Try.func66, rfl, by decide, false, lk66⟩
  · intro fn h; obtain rfl : L_desc_whole = fn := Option.some.inj h; exact ⟨_, _, Try.func67, rfl, by decide, false, lk67⟩
  · intro fn h; obtain rfl : L_key_place = fn := Option.some.inj h; exact ⟨_, _, Try.func48, rfl, by decide, false, lk48⟩
  · intro fn h; cases (show (none : Option Lx.Fn) = some fn from h)
  · intro fn h; cases (show (none : Option Lx.Fn) = some fn from h)
  · intro fn h; cases (show (none : Option Lx.Fn) = some fn from h)
  · intro fn h; obtain rfl : L_sort_stable_func = fn := Option.some.inj h; exact ⟨_, _, Try.func60, rfl, by decide, false, lk60⟩
  · intro fn h; cases (show (none : Option Lx.Fn) = some fn from h)
  · intro fn h; cases (show (none : Option Lx.Fn) = some fn from h)
  · intro fn h; cases (show (none : Option Lx.Fn) = some fn from h)
  · intro fn h; cases (show (none : Option Lx.Fn) = some fn from h)
  · intro fn h; cases (show (none : Option Lx.Fn) = some fn from h)
  · intro fn h; cases (show (none : Option Lx.Fn) = some fn from h)
  · intro fn h; cases (show (none : Option Lx.Fn) = some fn from h)
  · intro fn h; cases (show (none : Option Lx.Fn) = some fn from h)
  · intro fn h; cases (show (none : Option Lx.Fn) = some fn from h)
  · intro fn h; obtain rfl : L_bailiffref01_May = fn := Option.some.inj h; exact ⟨_, _, Try.func90, rfl, by decide, false, lk90⟩
  · intro fn h; obtain rfl : L_bailiffref07_nought = fn := Option.some.inj h; exact ⟨_, _, Try.func89, rfl, by decide, false, lk89⟩
  · intro fn h; obtain rfl : L_bailiffref07_Calls = fn := Option.some.inj h; exact ⟨_, _, Try.func91, rfl, by decide, false, lk91⟩
  · intro fn h; obtain rfl : L_bailiffref01_Tens = fn := Option.some.inj h; exact ⟨_, _, Try.func83, rfl, by decide, false, lk83⟩
  · intro fn h; obtain rfl : L_desc_IsAccess = fn := Option.some.inj h; exact ⟨_, _, Try.func86, rfl, by decide, false, lk86⟩
  · intro fn h; obtain rfl : L_desc_IsData = fn := Option.some.inj h; exact ⟨_, _, Try.func85, rfl, by decide, false, lk85⟩
  · intro fn h; obtain rfl : L_desc_called = fn := Option.some.inj h; exact ⟨_, _, Try.func88, rfl, by decide, false, lk88⟩
  · intro fn h; obtain rfl : L_value_May = fn := Option.some.inj h; exact ⟨_, _, Try.func87, rfl, by decide, false, lk87⟩
  · intro fn h; obtain rfl : L_key_Index = fn := Option.some.inj h; exact ⟨_, _, Try.func57, rfl, by decide, false, lk57⟩
  · intro fn h; obtain rfl : L_sort_insertionSort_func = fn := Option.some.inj h; exact ⟨_, _, Try.func81, rfl, by decide, false, lk81⟩
  · intro fn h; obtain rfl : L_sort_symMerge_func = fn := Option.some.inj h; exact ⟨_, _, Try.func82, rfl, by decide, false, lk82⟩
  · intro fn h; obtain rfl : L_bailiffref01_whole = fn := Option.some.inj h; exact ⟨_, _, Try.func95, rfl, by decide, false, lk95⟩
  · intro fn h; obtain rfl : L_value_Calls = fn := Option.some.inj h; exact ⟨_, _, Try.func94, rfl, by decide, false, lk94⟩
  · intro fn h; obtain rfl : L_num_May = fn := Option.some.inj h; exact ⟨_, _, Try.func93, rfl, by decide, false, lk93⟩
  · intro fn h; obtain rfl : L_sort_rotate_func = fn := Option.some.inj h; exact ⟨_, _, Try.func92, rfl, by decide, false, lk92⟩
  · intro fn h; obtain rfl : L_math_Abs = fn := Option.some.inj h; exact ⟨_, _, Try.func98, rfl, by decide, false, lk98⟩
  · intro fn h; obtain rfl : L_math_Signbit = fn := Option.some.inj h; exact ⟨_, _, Try.func99, rfl, by decide, false, lk99⟩
  · intro fn h; obtain rfl : L_math_Trunc = fn := Option.some.inj h; exact ⟨_, _, Try.func97, rfl, by decide, false, lk97⟩
  · intro fn h; obtain rfl : L_sort_swapRange_func = fn := Option.some.inj h; exact ⟨_, _, Try.func96, rfl, by decide, false, lk96⟩
  · intro fn h; cases (show (none : Option Lx.Fn) = some fn from h)
  · intro fn h; cases (show (none : Option Lx.Fn) = some fn from h)
  · intro fn h; cases (show (none : Option Lx.Fn) = some fn from h)
  · intro fn h; obtain rfl : L_math_trunc = fn := Option.some.inj h; exact ⟨_, _, Try.func101, rfl, by decide, false, lk101⟩
  · intro fn h; obtain rfl : L_math_Copysign = fn := Option.some.inj h; exact ⟨_, _, Try.func104, rfl, by decide, false, lk104⟩
noncomputable def iT : TypeInfo := (Try.prog.info? sT).get (by kernel_rfl)
noncomputable def iE : TypeInfo := (Try.prog.info? sE).get (by kernel_rfl)
theorem prims : Prims Try.prog nm sG sT sE where
  bits := ⟨103, fun j h => oneOf_sound (l := nmL) (by decide) h, fun _ => ⟨⟨_, Try.func103, rfl, by decide, by kernel_rfl, by kernel_rfl⟩⟩⟩
  frombits := ⟨102, fun j h => oneOf_sound (l := nmL) (by decide) h, fun _ => ⟨⟨_, Try.func102, rfl, by decide, by kernel_rfl, by kernel_rfl⟩⟩⟩
  trunc := ⟨100, fun j h => oneOf_sound (l := nmL) (by decide) h, fun _ => ⟨"math.archTrunc", ⟨⟨_, Try.func100, rfl, by decide, by kernel_rfl, by kernel_rfl⟩⟩⟩⟩
  valueOf := ⟨58, fun j h => oneOf_sound (l := nmL) (by decide) h, fun _ => ⟨⟨_, Try.func58, rfl, by decide, by kernel_rfl, by kernel_rfl⟩⟩⟩
  len := ⟨61, fun j h => oneOf_sound (l := nmL) (by decide) h, fun _ => ⟨⟨_, Try.func61, rfl, by decide, by kernel_rfl, by kernel_rfl⟩⟩⟩
  swapper := ⟨59, fun j h => oneOf_sound (l := nmL) (by decide) h, fun _ => ⟨⟨_, Try.func59, rfl, by decide, by kernel_rfl, by kernel_rfl⟩⟩⟩
  swap := ⟨80, fun j h => oneOf_sound (l := nmL) (by decide) h, fun _ => ⟨⟨_, Try.func80, rfl, by decide, by kernel_rfl, by kernel_rfl⟩⟩⟩
  types _ := ⟨by kernel_rfl, ⟨iT, iE, 25, by kernel_rfl, by kernel_rfl, by kernel_rfl, by kernel_rfl, fun _ => by kernel_rfl, by kernel_rfl, by rw [show iE.bytes = 24 from by kernel_rfl]; decide, by decide⟩, by kernel_rfl, by kernel_rfl, ⟨72, by kernel_rfl, rfl⟩, ⟨73, by kernel_rfl, rfl⟩, ⟨80, by kernel_rfl, rfl⟩⟩
abbrev En : Env := envOf (fnsL sT) sG sT sE
theorem linked : Linked Try.prog nm En where
  mixed := by kernel_rfl
  fn k f fn h1 h2 := entries (k, f) (lookup_mem' h1) fn h2
  prim f args h R H := prims_rel prims H
end Go.Proofs.Ytkmbllgoepcojaa
