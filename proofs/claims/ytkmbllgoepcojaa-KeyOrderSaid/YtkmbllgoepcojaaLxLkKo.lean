import Derived.Test.YtkmbllgoepcojaaChecked
import Derived.Test.YtkmbllgoepcojaaLx34
import Derived.Test.YtkmbllgoepcojaaLxDf
import Derived.KernelRfl
/- The tie of the seat's program to the language's functions (printed by mk.py). -/
set_option linter.unusedVariables false
set_option linter.unusedSimpArgs false
set_option maxRecDepth 100000
namespace Go.Proofs.Ytkmbllgoepcojaa
open Go.Lx
abbrev sT : Nat := 42
abbrev sE : Nat := 24
abbrev sG : Nat := 1
def nmL : List (Nat × Nat) := [(4, 197), (18, 11), (19, 12), (17, 10), (50, 41), (47, 40), (49, 183), (62, 51), (48, 48), (61, 184), (59, 185), (58, 50), (60, 186), (72, 187), (73, 188), (74, 189), (75, 190), (76, 191), (77, 192), (78, 193), (79, 194), (80, 195), (83, 63), (57, 49), (81, 61), (82, 62), (92, 72), (96, 76)]
def nm (k : Nat) : Option Nat := nmL.lookup k
theorem lk4 : lowFn Try.prog nm false Try.f4 = some (L_bailifflaw08_KeyOrder) := by kernel_rfl
theorem lk18 : lowFn Try.prog nm false Try.f18 = some (L_bailiffref08_Order) := by kernel_rfl
theorem lk19 : lowFn Try.prog nm false Try.f19 = some (L_bailiffref08_Same) := by kernel_rfl
theorem lk17 : lowFn Try.prog nm false Try.f17 = some (L_key_Order sT) := by kernel_rfl
theorem lk50 : lowFn Try.prog nm false Try.f50 = some (L_bailiffref08_Index) := by kernel_rfl
theorem lk47 : lowFn Try.prog nm false Try.f47 = some (L_key_Order_1) := by kernel_rfl
theorem lk49 : lowFn Try.prog nm true Try.f49 = some (L_sort_SliceStable) := by kernel_rfl
theorem lk62 : lowFn Try.prog nm false Try.f62 = some (L_bailiffref07_Tens) := by kernel_rfl
theorem lk48 : lowFn Try.prog nm false Try.f48 = some (L_key_place) := by kernel_rfl
theorem lk60 : lowFn Try.prog nm false Try.f60 = some (L_sort_stable_func) := by kernel_rfl
theorem lk83 : lowFn Try.prog nm false Try.f83 = some (L_bailiffref01_Tens) := by kernel_rfl
theorem lk57 : lowFn Try.prog nm false Try.f57 = some (L_key_Index) := by kernel_rfl
theorem lk81 : lowFn Try.prog nm false Try.f81 = some (L_sort_insertionSort_func) := by kernel_rfl
theorem lk82 : lowFn Try.prog nm false Try.f82 = some (L_sort_symMerge_func) := by kernel_rfl
theorem lk92 : lowFn Try.prog nm false Try.f92 = some (L_sort_rotate_func) := by kernel_rfl
theorem lk96 : lowFn Try.prog nm false Try.f96 = some (L_sort_swapRange_func) := by kernel_rfl
theorem entries : ∀ p, p ∈ nmL → ∀ fn, (fnsL sT).lookup p.2 = some fn → ∃ func c, Try.prog.funcs[p.1]? = some func ∧ func.body = some c ∧ func.name ≠ "runtime.NumGoroutine" ∧ ∃ pr, lowFn Try.prog nm pr func = some fn := by
  simp only [nmL, List.forall_mem_cons]
  refine ⟨?_, ?_, ?_, ?_, ?_, ?_, ?_, ?_, ?_, ?_, ?_, ?_, ?_, ?_, ?_, ?_, ?_, ?_, ?_, ?_, ?_, ?_, ?_, ?_, ?_, ?_, ?_, ?_, fun _ h => by cases h⟩
  · intro fn h; obtain rfl : L_bailifflaw08_KeyOrder = fn := Option.some.inj h; exact ⟨_, _, Try.func4, rfl, by decide, false, lk4⟩
  · intro fn h; obtain rfl : L_bailiffref08_Order = fn := Option.some.inj h; exact ⟨_, _, Try.func18, rfl, by decide, false, lk18⟩
  · intro fn h; obtain rfl : L_bailiffref08_Same = fn := Option.some.inj h; exact ⟨_, _, Try.func19, rfl, by decide, false, lk19⟩
  · intro fn h; obtain rfl : L_key_Order sT = fn := Option.some.inj h; exact ⟨_, _, Try.func17, rfl, by decide, false, lk17⟩
  · intro fn h; obtain rfl : L_bailiffref08_Index = fn := Option.some.inj h; exact ⟨_, _, Try.func50, rfl, by decide, false, lk50⟩
  · intro fn h; obtain rfl : L_key_Order_1 = fn := Option.some.inj h; exact ⟨_, _, Try.func47, rfl, by decide, false, lk47⟩
  · intro fn h; obtain rfl : L_sort_SliceStable = fn := Option.some.inj h; exact ⟨_, _, Try.func49, rfl, by decide, true, lk49⟩
  · intro fn h; obtain rfl : L_bailiffref07_Tens = fn := Option.some.inj h; exact ⟨_, _, Try.func62, rfl, by decide, false, lk62⟩
  · intro fn h; obtain rfl : L_key_place = fn := Option.some.inj h; exact ⟨_, _, Try.func48, rfl, by decide, false, lk48⟩
  · intro fn h; cases (show (none : Option Lx.Fn) = some fn from h)
  · intro fn h; cases (show (none : Option Lx.Fn) = some fn from h)
  · intro fn h; cases (show (none : Option Lx.Fn) = some fn from h)
  · intro fn h; obtain rfl : L_sort_stable_func = fn := Option.some.inj h; exact ⟨_, _, Try.func60, rfl, by decide, false, lk60⟩
  · intro fn h; cases (show (none : Option Lx.Fn) = some fn from h)
  · intro fn h; cases (show (none : Option Lx.Fn) = some fn from h)
  · intro fn h; cases (show (none : Option Lx.Fn) = some fn from h)
  · intro fn h; cases (show (none : Option Lx.Fn) = some fn from h)
  · intro fn h; cases (show (none : Option Lx.Fn) = some fn from h)
  · intro fn h; cases (show (none : Option Lx.Fn) = some fn from h)
  · intro fn h; cases (show (none : Option Lx.Fn) = some fn from h)
  · intro fn h; cases (show (none : Option Lx.Fn) = some fn from h)
  · intro fn h; cases (show (none : Option Lx.Fn) = some fn from h)
  · intro fn h; obtain rfl : L_bailiffref01_Tens = fn := Option.some.inj h; exact ⟨_, _, Try.func83, rfl, by decide, false, lk83⟩
  · intro fn h; obtain rfl : L_key_Index = fn := Option.some.inj h; exact ⟨_, _, Try.func57, rfl, by decide, false, lk57⟩
  · intro fn h; obtain rfl : L_sort_insertionSort_func = fn := Option.some.inj h; exact ⟨_, _, Try.func81, rfl, by decide, false, lk81⟩
  · intro fn h; obtain rfl : L_sort_symMerge_func = fn := Option.some.inj h; exact ⟨_, _, Try.func82, rfl, by decide, false, lk82⟩
  · intro fn h; obtain rfl : L_sort_rotate_func = fn := Option.some.inj h; exact ⟨_, _, Try.func92, rfl, by decide, false, lk92⟩
  · intro fn h; obtain rfl : L_sort_swapRange_func = fn := Option.some.inj h; exact ⟨_, _, Try.func96, rfl, by decide, false, lk96⟩
noncomputable def iT : TypeInfo := (Try.prog.info? sT).get (by kernel_rfl)
noncomputable def iE : TypeInfo := (Try.prog.info? sE).get (by kernel_rfl)
theorem prims : Prims Try.prog nm sG sT sE where
  bits := ⟨0, fun j h => oneOf_sound (l := nmL) (by decide) h, fun ⟨j, h⟩ => absurd ((oneOf_sound (l := nmL) (k := 0) (by decide) h).symm.trans (oneOf_sound (l := nmL) (k := 1) (by decide) h)) (by decide)⟩
  frombits := ⟨0, fun j h => oneOf_sound (l := nmL) (by decide) h, fun ⟨j, h⟩ => absurd ((oneOf_sound (l := nmL) (k := 0) (by decide) h).symm.trans (oneOf_sound (l := nmL) (k := 1) (by decide) h)) (by decide)⟩
  trunc := ⟨0, fun j h => oneOf_sound (l := nmL) (by decide) h, fun ⟨j, h⟩ => absurd ((oneOf_sound (l := nmL) (k := 0) (by decide) h).symm.trans (oneOf_sound (l := nmL) (k := 1) (by decide) h)) (by decide)⟩
  valueOf := ⟨58, fun j h => oneOf_sound (l := nmL) (by decide) h, fun _ => ⟨⟨_, Try.func58, rfl, by decide, by kernel_rfl, by kernel_rfl⟩⟩⟩
  len := ⟨61, fun j h => oneOf_sound (l := nmL) (by decide) h, fun _ => ⟨⟨_, Try.func61, rfl, by decide, by kernel_rfl, by kernel_rfl⟩⟩⟩
  swapper := ⟨59, fun j h => oneOf_sound (l := nmL) (by decide) h, fun _ => ⟨⟨_, Try.func59, rfl, by decide, by kernel_rfl, by kernel_rfl⟩⟩⟩
  swap := ⟨80, fun j h => oneOf_sound (l := nmL) (by decide) h, fun _ => ⟨⟨_, Try.func80, rfl, by decide, by kernel_rfl, by kernel_rfl⟩⟩⟩
  types _ := ⟨by kernel_rfl, ⟨iT, iE, 25, by kernel_rfl, by kernel_rfl, by kernel_rfl, by kernel_rfl, fun _ => by kernel_rfl, by kernel_rfl, by rw [show iE.bytes = 24 from by kernel_rfl]; decide, by decide⟩, by kernel_rfl, by kernel_rfl, ⟨72, by kernel_rfl, rfl⟩, ⟨73, by kernel_rfl, rfl⟩, ⟨80, by kernel_rfl, rfl⟩⟩
abbrev En : Env := envOf (fnsL sT) sG sT sE
theorem linked : Linked Try.prog nm En where
  mixed := by kernel_rfl
  fn k f fn h1 h2 := entries (k, f) (lookup_mem' h1) fn h2
  prim f args h R H := prims_rel prims H
end Go.Proofs.Ytkmbllgoepcojaa
