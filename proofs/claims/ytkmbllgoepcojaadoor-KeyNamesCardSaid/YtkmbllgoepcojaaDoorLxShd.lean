import Derived.Shelf.LaysM
import Derived.Shelf.Strconv.Itoa3
import Derived.Test.YtkmbllgoepcojaaDoorProg
import Derived.Shelf.Strings.BuilderK
import Derived.Test.YtkmbllgoepcojaaDoorChecked
import Derived.Test.YtkmbllgoepcojaaDoorLx35
import Derived.Lib.Walk
import Derived.WalkKit
import Derived.BigCall
import Derived.BigGuard
/- The library's contract on strconv's FormatInt at base 10, laid at this seat (by the kit's lay-shelf and lay-plain). -/
namespace Go.Proofs
open Go.Shelf
def Tryd.laysM246_ren : Go.Shelf.Ren := ⟨fun | 246 => 64 | 283 => 81 | 284 => 82 | 285 => 83 | 286 => 84 | 129 => 89 | 317 => 88 | 318 => 90 | 319 => 91 | 320 => 92 | 337 => 94 | 338 => 95 | n => n, fun | 2 => 2 | 3 => 3 | 9 => 9 | 4 => 4 | 171 => 98 | 0 => 0 | 53 => 96 | 37 => 65 | 5 => 5 | 173 => 101 | 212 => 107 | 51 => 108 | 20 => 20 | 213 => 109 | 46 => 74 | 232 => 113 | 233 => 114 | n => n, fun | 17 => 1 | 18 => 2 | 19 => 3 | n => n⟩
theorem Tryd.laysM246 : Go.Proofs.LaysM.n246 Tryd.prog Tryd.laysM246_ren := {
  mixed := by kernel_rfl
  f129 := Tryd.func89.trans (congrArg some (by kernel_rfl))
  f246 := Tryd.func64.trans (congrArg some (by kernel_rfl))
  f283 := Tryd.func81.trans (congrArg some (by kernel_rfl))
  f284 := Tryd.func82.trans (congrArg some (by kernel_rfl))
  f285 := Tryd.func83.trans (congrArg some (by kernel_rfl))
  f286 := Tryd.func84.trans (congrArg some (by kernel_rfl))
  f317 := Tryd.func88.trans (congrArg some (by kernel_rfl))
  f318 := Tryd.func90.trans (congrArg some (by kernel_rfl))
  f319 := Tryd.func91.trans (congrArg some (by kernel_rfl))
  f320 := Tryd.func92.trans (congrArg some (by kernel_rfl))
  f337 := Tryd.func94.trans (congrArg some (by kernel_rfl))
  f338 := Tryd.func95.trans (congrArg some (by kernel_rfl))
  t0 := Tryd.underlying0
  a0 := Tryd.isAgg0
  z0 := Tryd.sizeOf0
  v0 := Tryd.zeroValue0
  t2 := Tryd.underlying2
  a2 := Tryd.isAgg2
  z2 := Tryd.sizeOf2
  v2 := Tryd.zeroValue2
  t3 := Tryd.underlying3
  a3 := Tryd.isAgg3
  z3 := Tryd.sizeOf3
  v3 := Tryd.zeroValue3
  t4 := Tryd.underlying4
  a4 := Tryd.isAgg4
  z4 := Tryd.sizeOf4
  v4 := Tryd.zeroValue4
  t5 := Tryd.underlying5
  a5 := Tryd.isAgg5
  z5 := Tryd.sizeOf5
  v5 := Tryd.zeroValue5
  t9 := Tryd.underlying9
  a9 := Tryd.isAgg9
  z9 := Tryd.sizeOf9
  v9 := Tryd.zeroValue9
  t20 := Tryd.underlying20
  a20 := Tryd.isAgg20
  z20 := Tryd.sizeOf20
  v20 := Tryd.zeroValue20
  t37 := Tryd.underlying65
  a37 := Tryd.isAgg65
  z37 := Tryd.sizeOf65
  v37 := Tryd.zeroValue65
  t46 := Tryd.underlying74
  a46 := Tryd.isAgg74
  z46 := Tryd.sizeOf74
  v46 := Tryd.zeroValue74
  t51 := Tryd.underlying108
  a51 := Tryd.isAgg108
  z51 := Tryd.sizeOf108
  v51 := Tryd.zeroValue108
  t53 := Tryd.underlying96
  a53 := Tryd.isAgg96
  z53 := Tryd.sizeOf96
  v53 := Tryd.zeroValue96
  t171 := Tryd.underlying98
  a171 := Tryd.isAgg98
  z171 := Tryd.sizeOf98
  v171 := Tryd.zeroValue98
  t173 := Tryd.underlying101
  a173 := Tryd.isAgg101
  z173 := Tryd.sizeOf101
  v173 := Tryd.zeroValue101
  t212 := Tryd.underlying107
  a212 := Tryd.isAgg107
  z212 := Tryd.sizeOf107
  v212 := Tryd.zeroValue107
  t213 := Tryd.underlying109
  a213 := Tryd.isAgg109
  z213 := Tryd.sizeOf109
  t232 := Tryd.underlying113
  a232 := Tryd.isAgg113
  z232 := Tryd.sizeOf113
  v232 := Tryd.zeroValue113
  t233 := Tryd.underlying114
  a233 := Tryd.isAgg114
  z233 := Tryd.sizeOf114
  v233 := Tryd.zeroValue114
  g17 := by kernel_rfl
  g18 := by kernel_rfl
  g19 := by kernel_rfl
  i0 := by kernel_rfl
  i2 := by kernel_rfl
  i3 := by kernel_rfl
  i4 := by kernel_rfl
  i5 := by kernel_rfl
  i9 := by kernel_rfl
  i20 := by kernel_rfl
  i37 := by kernel_rfl
  i46 := by kernel_rfl
  i51 := by kernel_rfl
  i53 := by kernel_rfl
  i171 := by kernel_rfl
  i173 := by kernel_rfl
  i212 := by kernel_rfl
  i232 := by kernel_rfl
  i233 := by kernel_rfl
  m17 := by kernel_rfl
  m18 := by kernel_rfl
  m19 := by kernel_rfl }
open Go.RowKit Go.Sort Go.Lib in
/-- internal/strconv.FormatInt: "FormatInt returns the string representation of i in the given base": AT BASE 10: i's decimal numeral, for every int64. The world behind the call: the world before it, new blocks behind the heap, draws. (LAID: no walk: one application.) -/
theorem Tryd.internal_strconv_FormatInt_10 (n : Int) (h0 : -9223372036854775808 ≤ n) (h1 : n ≤ 9223372036854775807) (w : World) (htab : Lib.TabIs Tryd.prog w "internal/strconv.uint64pow10" .u64 Lib.pow10Tab) :
    Calls Tryd.prog 64 #[.int .i64 n, .int .i64 10] w fun e w' => e = .returned (.string ⟨(Lib.itoa n).toArray⟩) ∧ ∃ k os, w' = grow (w.drewN k) os := Any.internal_strconv_FormatInt_10 Tryd.laysM246 n h0 h1 w htab
end Go.Proofs

/- strings.Builder's contracts at this seat: the shelf's own proofs, turned to a copyCheck whose last branch is refused instead of a panic. -/
set_option linter.unusedVariables false
namespace Go.Proofs
open Go.Shelf Go.RowKit

set_option maxHeartbeats 2000000 in
set_option maxRecDepth 100000 in
theorem Tryd.bld_copyCheck_used (b : Nat) (w : World) (h0 : w.cell? ⟨b, 0, none⟩ = some (.pointer (some ⟨b, 0, none⟩))) :
    Calls Tryd.prog 65 #[.pointer (some ⟨b, 0, none⟩)] w fun e w' => e = .returned (.tuple #[]) ∧ w' = w := by
  obtain ⟨j, hj, _⟩ := Option.map_eq_some_iff.1 (show (Tryd.prog.info? 67).map (·.size) = some 2 by kernel_rfl)
  have mixed := (show Tryd.prog.follows .mixedOrders = true by kernel_rfl)
  have t72 := Tryd.underlying67; have a72 := Tryd.isAgg67; have z72 := Tryd.sizeOf67; have v72 := Tryd.zeroValue67; have u72 := run_underlying Tryd.underlying67
  have t70 := Tryd.underlying64; have a70 := Tryd.isAgg64; have z70 := Tryd.sizeOf64; have v70 := Tryd.zeroValue64; have u70 := run_underlying Tryd.underlying64
  have t9 := Tryd.underlying9; have a9 := Tryd.isAgg9; have z9 := Tryd.sizeOf9; have v9 := Tryd.zeroValue9; have u9 := run_underlying Tryd.underlying9
  have t4 := Tryd.underlying4; have a4 := Tryd.isAgg4; have z4 := Tryd.sizeOf4; have v4 := Tryd.zeroValue4; have u4 := run_underlying Tryd.underlying4
  have t164 := Tryd.underlying77; have a164 := Tryd.isAgg77; have z164 := Tryd.sizeOf77; have v164 := Tryd.zeroValue77; have u164 := run_underlying Tryd.underlying77
  go_enter Tryd.func65, Tryd.ntmps65
  go_wp2
  rw [Lib.run_neq_ptr_same w _ Tryd.underlying64 hj]
  go_wp2
  go_end0
  exact ⟨rfl, rfl⟩

set_option maxHeartbeats 2000000 in
set_option maxRecDepth 100000 in
theorem Tryd.bld_copyCheck_fresh (b : Nat) (w : World) (h0 : w.cell? ⟨b, 0, none⟩ = some (.pointer none)) (hsh : w.shape? b = some (67, 2)) (hfz : w.frozen? ⟨b, 0, none⟩ = false) :
    Calls Tryd.prog 65 #[.pointer (some ⟨b, 0, none⟩)] w fun e w' => e = .returned (.tuple #[]) ∧ w' = w.setCell ⟨b, 0, none⟩ (.pointer (some ⟨b, 0, none⟩)) := by
  obtain ⟨j, hj, hjs⟩ := Option.map_eq_some_iff.1 (show (Tryd.prog.info? 67).map (·.size) = some 2 by kernel_rfl)
  have mixed := (show Tryd.prog.follows .mixedOrders = true by kernel_rfl)
  have t72 := Tryd.underlying67; have a72 := Tryd.isAgg67; have z72 := Tryd.sizeOf67; have v72 := Tryd.zeroValue67; have u72 := run_underlying Tryd.underlying67
  have t70 := Tryd.underlying64; have a70 := Tryd.isAgg64; have z70 := Tryd.sizeOf64; have v70 := Tryd.zeroValue64; have u70 := run_underlying Tryd.underlying64
  have t9 := Tryd.underlying9; have a9 := Tryd.isAgg9; have z9 := Tryd.sizeOf9; have v9 := Tryd.zeroValue9; have u9 := run_underlying Tryd.underlying9
  have t4 := Tryd.underlying4; have a4 := Tryd.isAgg4; have z4 := Tryd.sizeOf4; have v4 := Tryd.zeroValue4; have u4 := run_underlying Tryd.underlying4
  have t164 := Tryd.underlying77; have a164 := Tryd.isAgg77; have z164 := Tryd.sizeOf77; have v164 := Tryd.zeroValue77; have u164 := run_underlying Tryd.underlying77
  go_enter Tryd.func65, Tryd.ntmps65
  go_wp2
  rw [Lib.run_to_unsafe w ⟨b, 0, none⟩ Tryd.underlying64 Tryd.underlying77 hj (by rw [hjs]; decide) hsh (Nat.zero_lt_succ 1)]
  simp only [Result.andThen]
  rw [Oper.upon_value]
  go_wp2
  rw [run_callFunc_extern Tryd.func85 (by kernel_rfl) (by kernel_rfl) (by kernel_rfl) (e := Extern.AbiNoEscape.same) (by kernel_rfl)]
  rw [Lib.run_noEscape]
  simp only [Result.andThen]
  rw [Oper.upon_value]
  go_wp2
  rw [Lib.run_from_unsafe w ⟨b, 0, none⟩ Tryd.underlying77 Tryd.underlying64 hj hsh (show liesAt Tryd.prog Tryd.prog.depth 67 (2 / Tryd.prog.cellsOf 67) 0 67 1 = true by kernel_rfl)]
  simp only [Result.andThen]
  rw [Oper.upon_value]
  go_wp2
  go_end0
  exact ⟨rfl, rfl⟩

set_option maxHeartbeats 2000000 in
set_option maxRecDepth 100000 in
theorem Tryd.bld_copyCheck_k (B b : Nat) (bs : List Value) (w : World) (h : Lib.IsBuilderF 67 5 B b bs w) :
    Calls Tryd.prog 65 #[.pointer (some ⟨b, 0, none⟩)] w fun e w' => e = .returned (.tuple #[]) ∧ (Lib.BuilderAtF 67 5 B b (.pointer (some ⟨b, 0, none⟩)) bs w' ∧ Below B w w' ∧ Lib.OthersKept 5 (some b) w w') := by
  rcases h with h | h
  · refine (Tryd.bld_copyCheck_fresh b w h.cell0 h.shape h.frozen0).mono ?_
    rintro e w' ⟨rfl, rfl⟩
    exact ⟨rfl, h.used _, (Below.refl B w).setCell (p := ⟨b, 0, none⟩) h.1 _, (Lib.OthersKept.refl _ _ w).setCell ⟨b, 0, none⟩ rfl _⟩
  · refine (Tryd.bld_copyCheck_used b w h.cell0).mono ?_
    rintro e w' ⟨rfl, rfl⟩
    exact ⟨rfl, h, Below.refl B _, Lib.OthersKept.refl _ _ _⟩

set_option maxHeartbeats 2000000 in
set_option maxRecDepth 100000 in
theorem Tryd.bld_WriteByte_k (B b : Nat) (bs : List Value) (c : Int) (w : World) (h : Lib.IsBuilderF 67 5 B b bs w) (hlen : bs.length + 1 ≤ 140737488355328) (hBw : B ≤ w.heap.size) :
    Calls Tryd.prog 52 #[.pointer (some ⟨b, 0, none⟩), .int .u8 c] w fun e w' => e = .returned .nilIface ∧ (Lib.BuilderAtF 67 5 B b (.pointer (some ⟨b, 0, none⟩)) (bs ++ [.int .u8 c]) w' ∧ Below B w w' ∧ Lib.OthersKept 5 (some b) w w') := by
  obtain ⟨i0, hi, hz0, hz1, hz2⟩ := info_parts (show (Tryd.prog.info? 5).map (fun i => (i.zero, i.size, i.bytes)) = some (some (.int .u8 0), 1, 1) by kernel_rfl)
  have mixed := (show Tryd.prog.follows .mixedOrders = true by kernel_rfl)
  have t72 := Tryd.underlying67; have a72 := Tryd.isAgg67; have z72 := Tryd.sizeOf67; have v72 := Tryd.zeroValue67; have u72 := run_underlying Tryd.underlying67
  have t70 := Tryd.underlying64; have a70 := Tryd.isAgg64; have z70 := Tryd.sizeOf64; have v70 := Tryd.zeroValue64; have u70 := run_underlying Tryd.underlying64
  have t5 := Tryd.underlying5; have a5 := Tryd.isAgg5; have z5 := Tryd.sizeOf5; have v5 := Tryd.zeroValue5; have u5 := run_underlying Tryd.underlying5
  have t37 := Tryd.underlying65; have a37 := Tryd.isAgg65; have z37 := Tryd.sizeOf65; have v37 := Tryd.zeroValue65; have u37 := run_underlying Tryd.underlying65
  have t9 := Tryd.underlying9; have a9 := Tryd.isAgg9; have z9 := Tryd.sizeOf9; have v9 := Tryd.zeroValue9; have u9 := run_underlying Tryd.underlying9
  have t4 := Tryd.underlying4; have a4 := Tryd.isAgg4; have z4 := Tryd.sizeOf4; have v4 := Tryd.zeroValue4; have u4 := run_underlying Tryd.underlying4
  have t164 := Tryd.underlying77; have a164 := Tryd.isAgg77; have z164 := Tryd.sizeOf77; have v164 := Tryd.zeroValue77; have u164 := run_underlying Tryd.underlying77
  have e240 : ∀ args w, (callFunc 65 args).run Tryd.prog w = .ok (.enter 65 args) w := enters_of Tryd.func65 (by kernel_rfl) rfl
  go_enter Tryd.func52, Tryd.ntmps52
  go_wp2_with (go_at_call 65; refine (Tryd.bld_copyCheck_k B b bs _ h).mono ?_)
  rintro e w1 ⟨rfl, h1, hb1, hk1⟩
  obtain ⟨hB, v, hbk, hown, hne⟩ := h1
  have c0 : w1.cell? ⟨b, 0, none⟩ = some (.pointer (some ⟨b, 0, none⟩)) := by rw [Lib.cell_of_heap hbk]; rfl
  have c1 : w1.cell? ⟨b, 1, none⟩ = some v := by rw [Lib.cell_of_heap hbk]; rfl
  go_wp2_with (at_builtin; refine wpList_append_ownF _ rfl _ _ 65 rfl B 5 i0 (.int .u8 0) 1 1 Tryd.underlying65 hi hz0 hz1 hz2 rfl (by decide) _ _ _ rfl (hown.alloc _) ⟨w1.heap.size, 0, none⟩ 1 1 [.int .u8 c] rfl rfl ?c1 ?c2 ?c3 ?c4 ?c5 ?_)
  case c1 =>
    intro j u hj
    match j, hj with
    | 0, hj => simp at hj; subst hj; simp [Addr.add]
  case c2 => intro u hu; simp at hu; subst hu; rfl
  case c3 => unfold maxLen; omega
  case c4 => omega
  case c5 => have := hb1.size; simp; omega
  intro v' w2 hown' hgrow _
  have hlt : b < w1.heap.size := by
    rcases Nat.lt_or_ge b w1.heap.size with h' | h'
    · exact h'
    · simp [Array.getElem?_eq_none h'] at hbk
  have hb2 : w2.heap[b]? = some (.cells #[.pointer (some ⟨b, 0, none⟩), v] 67 (0, 0)) := by
    rw [hgrow.block b (by simp; omega) (fun e => hne e.symm), Lib.alloc_old w1 _ b hlt]
    exact hbk
  have d0 : w2.cell? ⟨b, 0, none⟩ = some (.pointer (some ⟨b, 0, none⟩)) := by rw [Lib.cell_of_heap hb2]; rfl
  have d1 : w2.cell? ⟨b, 1, none⟩ = some v := by rw [Lib.cell_of_heap hb2]; rfl
  have f1 : w2.frozen? ⟨b, 1, none⟩ = false := Lib.frozen_of_heap hb2 1
  obtain ⟨g, cap, rfl⟩ : ∃ g cap, v' = .slice (some ⟨g, 0, none⟩) (bs.length + 1) cap := by
    rcases hown'.2 with ⟨_, h0⟩ | ⟨g, cap, cur, fz, hv, _⟩
    · omega
    · exact ⟨g, cap, hv⟩
  go_wp2
  go_ret
  refine ⟨rfl, ?_, ?_, ((hk1.alloc _).grown hgrow (Lib.ownsRowF_kind (hown.alloc _))).setCell ⟨b, 1, none⟩ rfl _⟩
  · exact Lib.BuilderAtF.put (T := 67) (e := 5) hB hb2 (bs' := bs ++ [.int .u8 c]) (by simpa using hown') (by decide)
  · exact ((hb1.alloc (by have := hb1.size; omega) _).grown hgrow (by have := hb1.size; simp; omega) (fun k hk => (hown.lt k hk).1)).setCell (p := ⟨b, 1, none⟩) hB _

set_option maxHeartbeats 2000000 in
set_option maxRecDepth 100000 in
theorem Tryd.bld_WriteString_k (B b : Nat) (bs : List Value) (s : ByteArray) (w : World) (h : Lib.IsBuilderF 67 5 B b bs w) (hlen : bs.length + s.size ≤ 140737488355328) (hBw : B ≤ w.heap.size) :
    Calls Tryd.prog 53 #[.pointer (some ⟨b, 0, none⟩), .string s] w fun e w' => e = .returned (.tuple #[.int .i64 s.size, .nilIface]) ∧ (Lib.BuilderAtF 67 5 B b (.pointer (some ⟨b, 0, none⟩)) (bs ++ Lib.strCells s) w' ∧ Below B w w' ∧ Lib.OthersKept 5 (some b) w w') := by
  obtain ⟨i0, hi, hz0, hz1, hz2⟩ := info_parts (show (Tryd.prog.info? 5).map (fun i => (i.zero, i.size, i.bytes)) = some (some (.int .u8 0), 1, 1) by kernel_rfl)
  have mixed := (show Tryd.prog.follows .mixedOrders = true by kernel_rfl)
  have t72 := Tryd.underlying67; have a72 := Tryd.isAgg67; have z72 := Tryd.sizeOf67; have v72 := Tryd.zeroValue67; have u72 := run_underlying Tryd.underlying67
  have t70 := Tryd.underlying64; have a70 := Tryd.isAgg64; have z70 := Tryd.sizeOf64; have v70 := Tryd.zeroValue64; have u70 := run_underlying Tryd.underlying64
  have t37 := Tryd.underlying65; have a37 := Tryd.isAgg65; have z37 := Tryd.sizeOf65; have v37 := Tryd.zeroValue65; have u37 := run_underlying Tryd.underlying65
  have t3 := Tryd.underlying3; have a3 := Tryd.isAgg3; have z3 := Tryd.sizeOf3; have v3 := Tryd.zeroValue3; have u3 := run_underlying Tryd.underlying3
  have t9 := Tryd.underlying9; have a9 := Tryd.isAgg9; have z9 := Tryd.sizeOf9; have v9 := Tryd.zeroValue9; have u9 := run_underlying Tryd.underlying9
  have t4 := Tryd.underlying4; have a4 := Tryd.isAgg4; have z4 := Tryd.sizeOf4; have v4 := Tryd.zeroValue4; have u4 := run_underlying Tryd.underlying4
  have t164 := Tryd.underlying77; have a164 := Tryd.isAgg77; have z164 := Tryd.sizeOf77; have v164 := Tryd.zeroValue77; have u164 := run_underlying Tryd.underlying77
  have t5 := Tryd.underlying5; have a5 := Tryd.isAgg5; have z5 := Tryd.sizeOf5; have v5 := Tryd.zeroValue5; have u5 := run_underlying Tryd.underlying5
  have e240 : ∀ args w, (callFunc 65 args).run Tryd.prog w = .ok (.enter 65 args) w := enters_of Tryd.func65 (by kernel_rfl) rfl
  go_enter Tryd.func53, Tryd.ntmps53
  go_wp2_with (go_at_call 65; refine (Tryd.bld_copyCheck_k B b bs _ h).mono ?_)
  rintro e w1 ⟨rfl, h1, hb1, hk1⟩
  obtain ⟨hB, v, hbk, hown, hne⟩ := h1
  have c0 : w1.cell? ⟨b, 0, none⟩ = some (.pointer (some ⟨b, 0, none⟩)) := by rw [Lib.cell_of_heap hbk]; rfl
  have c1 : w1.cell? ⟨b, 1, none⟩ = some v := by rw [Lib.cell_of_heap hbk]; rfl
  go_wp2_with (at_builtin; refine Lib.wpList_append_own_stringF _ rfl _ _ 65 9 rfl B 5 i0 Tryd.underlying65 Tryd.underlying9 hi hz0 hz1 hz2 _ _ _ rfl hown s rfl ?c3 ?c4 ?c5 ?_)
  case c3 => unfold maxLen; omega
  case c4 => omega
  case c5 => have := hb1.size; omega
  intro v' w2 hown' hgrow _
  have hlt : b < w1.heap.size := by
    rcases Nat.lt_or_ge b w1.heap.size with h' | h'
    · exact h'
    · simp [Array.getElem?_eq_none h'] at hbk
  have hb2 : w2.heap[b]? = some (.cells #[.pointer (some ⟨b, 0, none⟩), v] 67 (0, 0)) := by
    rw [hgrow.block b hlt (fun e => hne e.symm)]
    exact hbk
  have d0 : w2.cell? ⟨b, 0, none⟩ = some (.pointer (some ⟨b, 0, none⟩)) := by rw [Lib.cell_of_heap hb2]; rfl
  have d1 : w2.cell? ⟨b, 1, none⟩ = some v := by rw [Lib.cell_of_heap hb2]; rfl
  have f1 : w2.frozen? ⟨b, 1, none⟩ = false := Lib.frozen_of_heap hb2 1
  obtain ⟨ao, n', cap, rfl⟩ : ∃ ao n' cap, v' = .slice ao n' cap := by
    rcases hown'.2 with ⟨hv, _⟩ | ⟨g, cap, cur, fz, hv, _⟩
    · exact ⟨_, _, _, hv⟩
    · exact ⟨_, _, _, hv⟩
  go_wp2
  go_ret2
  refine ⟨rfl, ?_, ?_, (hk1.grown hgrow (Lib.ownsRowF_kind hown)).setCell ⟨b, 1, none⟩ rfl _⟩
  · exact Lib.BuilderAtF.put (T := 67) (e := 5) hB hb2 (bs' := bs ++ Lib.strCells s) (by simpa [Lib.strCells_length] using hown') (by decide)
  · exact (hb1.grown hgrow (by have := hb1.size; omega) (fun k hk => (hown.lt k hk).1)).setCell (p := ⟨b, 1, none⟩) hB _
end Go.Proofs

/- str.Quote, walked at this seat. -/
set_option linter.unusedVariables false
namespace Go.Proofs
open Go.Shelf Go.RowKit Go.Lx

open Go.Shelf
def Tryd.lays169_ren : Go.Shelf.Ren := ⟨fun | 169 => 55 | n => n, fun | 70 => 64 | 9 => 9 | 0 => 0 | 72 => 67 | 37 => 65 | 127 => 89 | 3 => 3 | 5 => 5 | n => n, fun | n => n⟩
theorem Tryd.lays169 : Go.Proofs.Lays.n169 Tryd.prog Tryd.lays169_ren := {
  mixed := by kernel_rfl
  f169 := Tryd.func55.trans (congrArg some (by kernel_rfl))
  t0 := Tryd.underlying0
  a0 := Tryd.isAgg0
  z0 := Tryd.sizeOf0
  v0 := Tryd.zeroValue0
  t3 := Tryd.underlying3
  a3 := Tryd.isAgg3
  z3 := Tryd.sizeOf3
  v3 := Tryd.zeroValue3
  t9 := Tryd.underlying9
  a9 := Tryd.isAgg9
  z9 := Tryd.sizeOf9
  v9 := Tryd.zeroValue9
  t37 := Tryd.underlying65
  a37 := Tryd.isAgg65
  z37 := Tryd.sizeOf65
  v37 := Tryd.zeroValue65
  t70 := Tryd.underlying64
  a70 := Tryd.isAgg64
  z70 := Tryd.sizeOf64
  v70 := Tryd.zeroValue64
  t72 := Tryd.underlying67
  a72 := Tryd.isAgg67
  z72 := Tryd.sizeOf67
  v72 := Tryd.zeroValue67
  t127 := Tryd.underlying89
  a127 := Tryd.isAgg89
  z127 := Tryd.sizeOf89
  v127 := Tryd.zeroValue89 }
theorem Tryd.Builder_Extra_169 : Builder.Extra Tryd.prog Tryd.lays169_ren := {
  sizeBuilder := by kernel_rfl
  liesBuilder := by kernel_rfl
  t5 := Tryd.underlying5
  a5 := Tryd.isAgg5
  z5 := Tryd.sizeOf5
  v5 := Tryd.zeroValue5
  infoByte := by kernel_rfl
  cellsByte := by kernel_rfl
  sizeByte := by kernel_rfl
  neB5 := by decide }

theorem quB_len (c : UInt8) : (quB c).length ≤ 4 := by
  unfold quB
  repeat' split
  all_goals simp
theorem quL_len : ∀ l : List UInt8, (quL l).length ≤ 1 + 4 * l.length := by
  intro l
  induction l with
  | nil => simp [quL]
  | cons c l ih =>
    have := quB_len c
    simp only [quL, List.flatMap_cons, List.length_cons, List.length_append] at ih ⊢
    omega
theorem take_snocB {s : ByteArray} {k : Nat} (h : k < s.size) : s.data.toList.take (k + 1) = s.data.toList.take k ++ [s[k]] := by
  rw [List.take_add_one, List.getElem?_eq_getElem (by simpa using h)]
  rfl
theorem quL_snoc (l : List UInt8) (c : UInt8) : quL (l ++ [c]) = quL l ++ quB c := by simp [quL]

set_option maxRecDepth 100000 in
theorem Tryd.sixteen_walk (n : Nat) (hn : n < 16) (w : World) : Calls Tryd.prog 54 #[.int .u8 n] w fun e w' => e = .returned (.int .u8 (hexD n).toNat) ∧ w' = w := by
  have h1 : n < 10 → (48 + (n : Int)) = (hexD n).toNat := by
    intro h
    have : ∀ m : Nat, m < 10 → (48 + (m : Int)) = (hexD m).toNat := by decide
    exact this n h
  have h2 : ¬ n < 10 → (97 + (n : Int) - 10) = (hexD n).toNat := by
    intro h
    have : ∀ m : Nat, m < 16 → ¬ m < 10 → (97 + (m : Int) - 10) = (hexD m).toNat := by decide
    exact this n hn h
  go_enter Tryd.func54, Tryd.ntmps54
  go_wp2
  · go_ret; exact ⟨by rw [h1 (by omega)]; rfl, rfl⟩
  · go_ret; exact ⟨by rw [h2 (by omega)]; rfl, rfl⟩
theorem Tryd.sixteen_walk' (n : Nat) (hn : n < 16) (a : Int) (ha : a = n) (w : World) : Calls Tryd.prog 54 #[.int .u8 a] w fun e w' => e = .returned (.int .u8 (hexD n).toNat) ∧ w' = w := by
  subst ha; exact Tryd.sixteen_walk n hn w
set_option maxHeartbeats 4000000 in
set_option maxRecDepth 1000000 in
theorem Tryd.quote_walk (s : ByteArray) (w : World) (hs : s.size ≤ 1000000) :
    Calls Tryd.prog 40 #[.string s] w fun e w' => e = .returned (.string ⟨(quL s.data.toList ++ [34]).toArray⟩) ∧ Below w.heap.size w w' := by
  go_enter Tryd.func40, Tryd.ntmps40
  go_wp2_with (go_at_call 52; refine (Tryd.bld_WriteByte_k w.heap.size w.heap.size [] 34 _ (Lib.IsBuilderF.of (Lib.fresh_isBuilder 67 5 w)) (by simp) (by simp)).mono ?_)
  rintro e w1 ⟨rfl, h1, b1, k1⟩
  go_wp2
  go_loopw [9] (fun i wr => ∃ k : Nat, k ≤ s.size ∧ i = .int .i64 k ∧ Lib.IsBuilderF 67 5 w.heap.size w.heap.size (Lib.byteCells (quL (s.data.toList.take k))) wr ∧ Below w.heap.size w wr) (fun i _ => s.size - (intOf i).toNat)
  case atStart =>
    refine ⟨0, by omega, rfl, ?_, ?_⟩
    · exact Or.inr h1
    · exact ((Below.refl _ w).alloc (Nat.le_refl _) _).trans b1
  case round =>
    obtain ⟨k, hk, rfl, hI, hB⟩ := hrel
    have hsz := hB.size
    by_cases hlt : k < s.size
    · have hlen := quL_len (s.data.toList.take k)
      have hlen2 : (s.data.toList.take k).length ≤ 1000000 := by simp; omega
      have hq : quL (s.data.toList.take (k + 1)) = quL (s.data.toList.take k) ++ quB s[k] := by rw [take_snocB hlt, quL_snoc]
      by_cases c1 : s[k].toNat = 34 ∨ s[k].toNat = 92
      · have e : quB s[k] = [92, s[k]] := by simp [quB, c1]
        rcases c1 with c1 | c1
        · go_wp2_with (go_at_call 52; refine (Tryd.bld_WriteByte_k w.heap.size w.heap.size _ _ _ hI (by rw [Lib.byteCells_length]; omega) hsz).mono ?_)
          rintro e2 W1 ⟨rfl, h1, b1, k1⟩
          go_wp2_with (go_at_call 52; refine (Tryd.bld_WriteByte_k w.heap.size w.heap.size _ _ _ (Or.inr h1) (by rw [List.length_append, Lib.byteCells_length]; simp; omega) (hB.trans b1).size).mono ?_)
          rintro e2 W2 ⟨rfl, h2, b2, k2⟩
          go_wp2
          go_roundw
          case rel =>
            refine ⟨k + 1, by omega, by go_num, ?_, (hB.trans b1).trans b2⟩
            rw [hq, e, Lib.byteCells_append]
            refine Or.inr ?_
            simpa [Lib.byteCells, c1] using h2
          case measure => simp [intOf]; omega
        · go_wp2_with (go_at_call 52; refine (Tryd.bld_WriteByte_k w.heap.size w.heap.size _ _ _ hI (by rw [Lib.byteCells_length]; omega) hsz).mono ?_)
          rintro e2 W1 ⟨rfl, h1, b1, k1⟩
          go_wp2_with (go_at_call 52; refine (Tryd.bld_WriteByte_k w.heap.size w.heap.size _ _ _ (Or.inr h1) (by rw [List.length_append, Lib.byteCells_length]; simp; omega) (hB.trans b1).size).mono ?_)
          rintro e2 W2 ⟨rfl, h2, b2, k2⟩
          go_wp2
          go_roundw
          case rel =>
            refine ⟨k + 1, by omega, by go_num, ?_, (hB.trans b1).trans b2⟩
            rw [hq, e, Lib.byteCells_append]
            refine Or.inr ?_
            simpa [Lib.byteCells, c1] using h2
          case measure => simp [intOf]; omega
      · by_cases c2 : s[k].toNat = 10
        · have e : quB s[k] = [92, 110] := by simp [quB, c1, c2]
          go_wp2_with (go_at_call 53; refine (Tryd.bld_WriteString_k w.heap.size w.heap.size _ _ _ hI (by rw [Lib.byteCells_length]; simp [ByteArray.size]; omega) hsz).mono ?_)
          rintro e2 W1 ⟨rfl, h1, b1, k1⟩
          go_wp2
          go_roundw
          case rel =>
            refine ⟨k + 1, by omega, by go_num, ?_, hB.trans b1⟩
            rw [hq, e, Lib.byteCells_append]
            refine Or.inr ?_
            simpa [Lib.byteCells, Lib.strCells] using h1
          case measure => simp [intOf]; omega
        · by_cases c3 : s[k].toNat = 9
          · have e : quB s[k] = [92, 116] := by simp [quB, c1, c2, c3]
            go_wp2_with (go_at_call 53; refine (Tryd.bld_WriteString_k w.heap.size w.heap.size _ _ _ hI (by rw [Lib.byteCells_length]; simp [ByteArray.size]; omega) hsz).mono ?_)
            rintro e2 W1 ⟨rfl, h1, b1, k1⟩
            go_wp2
            go_roundw
            case rel =>
              refine ⟨k + 1, by omega, by go_num, ?_, hB.trans b1⟩
              rw [hq, e, Lib.byteCells_append]
              refine Or.inr ?_
              simpa [Lib.byteCells, Lib.strCells] using h1
            case measure => simp [intOf]; omega
          · by_cases c4 : s[k].toNat = 13
            · have e : quB s[k] = [92, 114] := by simp [quB, c1, c2, c3, c4]
              go_wp2_with (go_at_call 53; refine (Tryd.bld_WriteString_k w.heap.size w.heap.size _ _ _ hI (by rw [Lib.byteCells_length]; simp [ByteArray.size]; omega) hsz).mono ?_)
              rintro e2 W1 ⟨rfl, h1, b1, k1⟩
              go_wp2
              go_roundw
              case rel =>
                refine ⟨k + 1, by omega, by go_num, ?_, hB.trans b1⟩
                rw [hq, e, Lib.byteCells_append]
                refine Or.inr ?_
                simpa [Lib.byteCells, Lib.strCells] using h1
              case measure => simp [intOf]; omega
            · by_cases c5 : s[k].toNat < 32 ∨ 126 < s[k].toNat
              · have e : quB s[k] = [92, 120, hexD (s[k].toNat / 16), hexD (s[k].toNat % 16)] := by simp [quB, c1, c2, c3, c4, c5]
                have hlt256 := s[k].toNat_lt
                rcases c5 with c5 | c5
                · go_wp2_with (go_at_call 53; refine (Tryd.bld_WriteString_k w.heap.size w.heap.size _ _ _ hI (by rw [Lib.byteCells_length]; simp [ByteArray.size]; omega) hsz).mono ?_)
                  rintro e2 W1 ⟨rfl, h1, b1, k1⟩
                  go_wp2_with (go_at_call 54; refine (Tryd.sixteen_walk' (s[k].toNat / 16) (by omega) _ (by omega) _).mono ?_)
                  rintro e3 W2 ⟨rfl, rfl⟩
                  go_wp2_with (go_at_call 52; refine (Tryd.bld_WriteByte_k w.heap.size w.heap.size _ _ _ (Or.inr h1) (by rw [List.length_append, Lib.byteCells_length, Lib.strCells_length]; simp [ByteArray.size]; omega) (hB.trans b1).size).mono ?_)
                  rintro e4 W3 ⟨rfl, h2, b2, k2⟩
                  go_wp2_with (go_at_call 54; refine (Tryd.sixteen_walk' (s[k].toNat % 16) (by omega) _ (by omega) _).mono ?_)
                  rintro e5 W4 ⟨rfl, rfl⟩
                  go_wp2_with (go_at_call 52; refine (Tryd.bld_WriteByte_k w.heap.size w.heap.size _ _ _ (Or.inr h2) (by simp only [List.length_append, Lib.byteCells_length, Lib.strCells_length, List.length_cons, List.length_nil, ByteArray.size, List.size_toArray]; omega) ((hB.trans b1).trans b2).size).mono ?_)
                  rintro e6 W5 ⟨rfl, h3, b3, k3⟩
                  go_wp2
                  go_roundw
                  case rel =>
                    refine ⟨k + 1, by omega, by go_num, ?_, ((hB.trans b1).trans b2).trans b3⟩
                    rw [hq, e, Lib.byteCells_append]
                    refine Or.inr ?_
                    simpa [Lib.byteCells, Lib.strCells] using h3
                  case measure => simp [intOf]; omega
                · go_wp2_with (go_at_call 53; refine (Tryd.bld_WriteString_k w.heap.size w.heap.size _ _ _ hI (by rw [Lib.byteCells_length]; simp [ByteArray.size]; omega) hsz).mono ?_)
                  rintro e2 W1 ⟨rfl, h1, b1, k1⟩
                  go_wp2_with (go_at_call 54; refine (Tryd.sixteen_walk' (s[k].toNat / 16) (by omega) _ (by omega) _).mono ?_)
                  rintro e3 W2 ⟨rfl, rfl⟩
                  go_wp2_with (go_at_call 52; refine (Tryd.bld_WriteByte_k w.heap.size w.heap.size _ _ _ (Or.inr h1) (by rw [List.length_append, Lib.byteCells_length, Lib.strCells_length]; simp [ByteArray.size]; omega) (hB.trans b1).size).mono ?_)
                  rintro e4 W3 ⟨rfl, h2, b2, k2⟩
                  go_wp2_with (go_at_call 54; refine (Tryd.sixteen_walk' (s[k].toNat % 16) (by omega) _ (by omega) _).mono ?_)
                  rintro e5 W4 ⟨rfl, rfl⟩
                  go_wp2_with (go_at_call 52; refine (Tryd.bld_WriteByte_k w.heap.size w.heap.size _ _ _ (Or.inr h2) (by simp only [List.length_append, Lib.byteCells_length, Lib.strCells_length, List.length_cons, List.length_nil, ByteArray.size, List.size_toArray]; omega) ((hB.trans b1).trans b2).size).mono ?_)
                  rintro e6 W5 ⟨rfl, h3, b3, k3⟩
                  go_wp2
                  go_roundw
                  case rel =>
                    refine ⟨k + 1, by omega, by go_num, ?_, ((hB.trans b1).trans b2).trans b3⟩
                    rw [hq, e, Lib.byteCells_append]
                    refine Or.inr ?_
                    simpa [Lib.byteCells, Lib.strCells] using h3
                  case measure => simp [intOf]; omega
              · have e : quB s[k] = [s[k]] := by simp [quB, c1, c2, c3, c4, c5]
                simp only [not_or] at c1 c5
                obtain ⟨c11, c12⟩ := c1
                obtain ⟨c51, c52⟩ := c5
                go_wp2_with (go_at_call 52; refine (Tryd.bld_WriteByte_k w.heap.size w.heap.size _ _ _ hI (by rw [Lib.byteCells_length]; omega) hsz).mono ?_)
                rintro e2 W1 ⟨rfl, h1, b1, k1⟩
                go_wp2
                go_roundw
                case rel =>
                  refine ⟨k + 1, by omega, by go_num, ?_, hB.trans b1⟩
                  rw [hq, e, Lib.byteCells_append]
                  refine Or.inr ?_
                  simpa [Lib.byteCells, Lib.strCells] using h1
                case measure => simp [intOf]; omega
    · obtain rfl : k = s.size := by omega
      have e0 : s.data.toList.take s.size = s.data.toList := List.take_of_length_le (by simp)
      rw [e0] at hI
      have hlen := quL_len s.data.toList
      have hlen2 : s.data.toList.length ≤ 1000000 := by simpa using hs
      go_wp2_with (go_at_call 52; refine (Tryd.bld_WriteByte_k w.heap.size w.heap.size _ _ _ hI (by rw [Lib.byteCells_length]; omega) hsz).mono ?_)
      rintro e2 W1 ⟨rfl, h1, b1, k1⟩
      have h2 : Lib.IsBuilderF 67 5 w.heap.size w.heap.size (Lib.byteCells (quL s.data.toList ++ [34])) W1 := by
        rw [Lib.byteCells_append]
        exact Or.inr h1
      go_wp2_with (go_at_call 55; refine (Any.Builder_String_any_k Tryd.lays169 Tryd.Builder_Extra_169 w.heap.size w.heap.size _ _ h2 (hB.trans b1).size).mono ?_)
      rintro e2 W2 ⟨rfl, h3, b2, k2⟩
      go_wp2
      go_ret
      exact ⟨rfl, (hB.trans b1).trans b2⟩
end Go.Proofs
