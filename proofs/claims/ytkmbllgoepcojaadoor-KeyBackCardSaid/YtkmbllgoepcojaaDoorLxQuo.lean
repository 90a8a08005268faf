import Derived.Test.YtkmbllgoepcojaaDoorLxBld
import Derived.Test.YtkmbllgoepcojaaDoorLx35
import Derived.Lib.Walk
import Derived.WalkKit
import Derived.BigCall
import Derived.BigGuard
/- str.Quote, walked at this seat. -/
set_option linter.unusedVariables false
namespace Go.Proofs
open Go.Shelf Go.RowKit Go.Lx

open Go.Shelf
def Tryd.lays169_ren : Go.Shelf.Ren := ⟨fun | 169 => 55 | n => n, fun | 70 => 64 | 9 => 9 | 0 => 0 | 72 => 67 | 37 => 65 | 127 => 89 | 3 => 3 | 5 => 5 | n => n, fun | n => n⟩
theorem Tryd.lays169 : Go.Proofs.Lays.n169 Tryd.prog Tryd.lays169_ren := {
  mixed := by kernel_rfl
  f169 := Tryd.func55.trans (congrArg some (by kernel_rfl))
  t0 := Tryd.underlying0
  a0 := Tryd.isAgg0
  z0 := Tryd.sizeOf0
  v0 := Tryd.zeroValue0
  t3 := Tryd.underlying3
  a3 := Tryd.isAgg3
  z3 := Tryd.sizeOf3
  v3 := Tryd.zeroValue3
  t9 := Tryd.underlying9
  a9 := Tryd.isAgg9
  z9 := Tryd.sizeOf9
  v9 := Tryd.zeroValue9
  t37 := Tryd.underlying65
  a37 := Tryd.isAgg65
  z37 := Tryd.sizeOf65
  v37 := Tryd.zeroValue65
  t70 := Tryd.underlying64
  a70 := Tryd.isAgg64
  z70 := Tryd.sizeOf64
  v70 := Tryd.zeroValue64
  t72 := Tryd.underlying67
  a72 := Tryd.isAgg67
  z72 := Tryd.sizeOf67
  v72 := Tryd.zeroValue67
  t127 := Tryd.underlying89
  a127 := Tryd.isAgg89
  z127 := Tryd.sizeOf89
  v127 := Tryd.zeroValue89 }
theorem Tryd.Builder_Extra_169 : Builder.Extra Tryd.prog Tryd.lays169_ren := {
  sizeBuilder := by kernel_rfl
  liesBuilder := by kernel_rfl
  t5 := Tryd.underlying5
  a5 := Tryd.isAgg5
  z5 := Tryd.sizeOf5
  v5 := Tryd.zeroValue5
  infoByte := by kernel_rfl
  cellsByte := by kernel_rfl
  sizeByte := by kernel_rfl
  neB5 := by decide }

theorem quB_len (c : UInt8) : (quB c).length ≤ 4 := by
  unfold quB
  repeat' split
  all_goals simp
theorem quL_len : ∀ l : List UInt8, (quL l).length ≤ 1 + 4 * l.length := by
  intro l
  induction l with
  | nil => simp [quL]
  | cons c l ih =>
    have := quB_len c
    simp only [quL, List.flatMap_cons, List.length_cons, List.length_append] at ih ⊢
    omega
theorem take_snocB {s : ByteArray} {k : Nat} (h : k < s.size) : s.data.toList.take (k + 1) = s.data.toList.take k ++ [s[k]] := by
  rw [List.take_add_one, List.getElem?_eq_getElem (by simpa using h)]
  rfl
theorem quL_snoc (l : List UInt8) (c : UInt8) : quL (l ++ [c]) = quL l ++ quB c := by simp [quL]

set_option maxRecDepth 100000 in
theorem Tryd.sixteen_walk (n : Nat) (hn : n < 16) (w : World) : Calls Tryd.prog 54 #[.int .u8 n] w fun e w' => e = .returned (.int .u8 (hexD n).toNat) ∧ w' = w := by
  have h1 : n < 10 → (48 + (n : Int)) = (hexD n).toNat := by
    intro h
    have : ∀ m : Nat, m < 10 → (48 + (m : Int)) = (hexD m).toNat := by decide
    exact this n h
  have h2 : ¬ n < 10 → (97 + (n : Int) - 10) = (hexD n).toNat := by
    intro h
    have : ∀ m : Nat, m < 16 → ¬ m < 10 → (97 + (m : Int) - 10) = (hexD m).toNat := by decide
    exact this n hn h
  go_enter Tryd.func54, Tryd.ntmps54
  go_wp2
  · go_ret; exact ⟨by rw [h1 (by omega)]; rfl, rfl⟩
  · go_ret; exact ⟨by rw [h2 (by omega)]; rfl, rfl⟩
theorem Tryd.sixteen_walk' (n : Nat) (hn : n < 16) (a : Int) (ha : a = n) (w : World) : Calls Tryd.prog 54 #[.int .u8 a] w fun e w' => e = .returned (.int .u8 (hexD n).toNat) ∧ w' = w := by
  subst ha; exact Tryd.sixteen_walk n hn w
set_option maxHeartbeats 4000000 in
set_option maxRecDepth 1000000 in
theorem Tryd.quote_walk (s : ByteArray) (w : World) (hs : s.size ≤ 1000000) :
    Calls Tryd.prog 40 #[.string s] w fun e w' => e = .returned (.string ⟨(quL s.data.toList ++ [34]).toArray⟩) ∧ Below w.heap.size w w' := by
  go_enter Tryd.func40, Tryd.ntmps40
  go_wp2_with (go_at_call 52; refine (Tryd.bld_WriteByte_k w.heap.size w.heap.size [] 34 _ (Lib.IsBuilderF.of (Lib.fresh_isBuilder 67 5 w)) (by simp) (by simp)).mono ?_)
  rintro e w1 ⟨rfl, h1, b1, k1⟩
  go_wp2
  go_loopw [9] (fun i wr => ∃ k : Nat, k ≤ s.size ∧ i = .int .i64 k ∧ Lib.IsBuilderF 67 5 w.heap.size w.heap.size (Lib.byteCells (quL (s.data.toList.take k))) wr ∧ Below w.heap.size w wr) (fun i _ => s.size - (intOf i).toNat)
  case atStart =>
    refine ⟨0, by omega, rfl, ?_, ?_⟩
    · exact Or.inr h1
    · exact ((Below.refl _ w).alloc (Nat.le_refl _) _).trans b1
  case round =>
    obtain ⟨k, hk, rfl, hI, hB⟩ := hrel
    have hsz := hB.size
    by_cases hlt : k < s.size
    · have hlen := quL_len (s.data.toList.take k)
      have hlen2 : (s.data.toList.take k).length ≤ 1000000 := by simp; omega
      have hq : quL (s.data.toList.take (k + 1)) = quL (s.data.toList.take k) ++ quB s[k] := by rw [take_snocB hlt, quL_snoc]
      by_cases c1 : s[k].toNat = 34 ∨ s[k].toNat = 92
      · have e : quB s[k] = [92, s[k]] := by simp [quB, c1]
        rcases c1 with c1 | c1
        · go_wp2_with (go_at_call 52; refine (Tryd.bld_WriteByte_k w.heap.size w.heap.size _ _ _ hI (by rw [Lib.byteCells_length]; omega) hsz).mono ?_)
          rintro e2 W1 ⟨rfl, h1, b1, k1⟩
          go_wp2_with (go_at_call 52; refine (Tryd.bld_WriteByte_k w.heap.size w.heap.size _ _ _ (Or.inr h1) (by rw [List.length_append, Lib.byteCells_length]; simp; omega) (hB.trans b1).size).mono ?_)
          rintro e2 W2 ⟨rfl, h2, b2, k2⟩
          go_wp2
          go_roundw
          case rel =>
            refine ⟨k + 1, by omega, by go_num, ?_, (hB.trans b1).trans b2⟩
            rw [hq, e, Lib.byteCells_append]
            refine Or.inr ?_
            simpa [Lib.byteCells, c1] using h2
          case measure => simp [intOf]; omega
        · go_wp2_with (go_at_call 52; refine (Tryd.bld_WriteByte_k w.heap.size w.heap.size _ _ _ hI (by rw [Lib.byteCells_length]; omega) hsz).mono ?_)
          rintro e2 W1 ⟨rfl, h1, b1, k1⟩
          go_wp2_with (go_at_call 52; refine (Tryd.bld_WriteByte_k w.heap.size w.heap.size _ _ _ (Or.inr h1) (by rw [List.length_append, Lib.byteCells_length]; simp; omega) (hB.trans b1).size).mono ?_)
          rintro e2 W2 ⟨rfl, h2, b2, k2⟩
          go_wp2
          go_roundw
          case rel =>
            refine ⟨k + 1, by omega, by go_num, ?_, (hB.trans b1).trans b2⟩
            rw [hq, e, Lib.byteCells_append]
            refine Or.inr ?_
            simpa [Lib.byteCells, c1] using h2
          case measure => simp [intOf]; omega
      · by_cases c2 : s[k].toNat = 10
        · have e : quB s[k] = [92, 110] := by simp [quB, c1, c2]
          go_wp2_with (go_at_call 53; refine (Tryd.bld_WriteString_k w.heap.size w.heap.size _ _ _ hI (by rw [Lib.byteCells_length]; simp [ByteArray.size]; omega) hsz).mono ?_)
          rintro e2 W1 ⟨rfl, h1, b1, k1⟩
          go_wp2
          go_roundw
          case rel =>
            refine ⟨k + 1, by omega, by go_num, ?_, hB.trans b1⟩
            rw [hq, e, Lib.byteCells_append]
            refine Or.inr ?_
            simpa [Lib.byteCells, Lib.strCells] using h1
          case measure => simp [intOf]; omega
        · by_cases c3 : s[k].toNat = 9
          · have e : quB s[k] = [92, 116] := by simp [quB, c1, c2, c3]
            go_wp2_with (go_at_call 53; refine (Tryd.bld_WriteString_k w.heap.size w.heap.size _ _ _ hI (by rw [Lib.byteCells_length]; simp [ByteArray.size]; omega) hsz).mono ?_)
            rintro e2 W1 ⟨rfl, h1, b1, k1⟩
            go_wp2
            go_roundw
            case rel =>
              refine ⟨k + 1, by omega, by go_num, ?_, hB.trans b1⟩
              rw [hq, e, Lib.byteCells_append]
              refine Or.inr ?_
              simpa [Lib.byteCells, Lib.strCells] using h1
            case measure => simp [intOf]; omega
          · by_cases c4 : s[k].toNat = 13
            · have e : quB s[k] = [92, 114] := by simp [quB, c1, c2, c3, c4]
              go_wp2_with (go_at_call 53; refine (Tryd.bld_WriteString_k w.heap.size w.heap.size _ _ _ hI (by rw [Lib.byteCells_length]; simp [ByteArray.size]; omega) hsz).mono ?_)
              rintro e2 W1 ⟨rfl, h1, b1, k1⟩
              go_wp2
              go_roundw
              case rel =>
                refine ⟨k + 1, by omega, by go_num, ?_, hB.trans b1⟩
                rw [hq, e, Lib.byteCells_append]
                refine Or.inr ?_
                simpa [Lib.byteCells, Lib.strCells] using h1
              case measure => simp [intOf]; omega
            · by_cases c5 : s[k].toNat < 32 ∨ 126 < s[k].toNat
              · have e : quB s[k] = [92, 120, hexD (s[k].toNat / 16), hexD (s[k].toNat % 16)] := by simp [quB, c1, c2, c3, c4, c5]
                have hlt256 := s[k].toNat_lt
                rcases c5 with c5 | c5
                · go_wp2_with (go_at_call 53; refine (Tryd.bld_WriteString_k w.heap.size w.heap.size _ _ _ hI (by rw [Lib.byteCells_length]; simp [ByteArray.size]; omega) hsz).mono ?_)
                  rintro e2 W1 ⟨rfl, h1, b1, k1⟩
                  go_wp2_with (go_at_call 54; refine (Tryd.sixteen_walk' (s[k].toNat / 16) (by omega) _ (by omega) _).mono ?_)
                  rintro e3 W2 ⟨rfl, rfl⟩
                  go_wp2_with (go_at_call 52; refine (Tryd.bld_WriteByte_k w.heap.size w.heap.size _ _ _ (Or.inr h1) (by rw [List.length_append, Lib.byteCells_length, Lib.strCells_length]; simp [ByteArray.size]; omega) (hB.trans b1).size).mono ?_)
                  rintro e4 W3 ⟨rfl, h2, b2, k2⟩
                  go_wp2_with (go_at_call 54; refine (Tryd.sixteen_walk' (s[k].toNat % 16) (by omega) _ (by omega) _).mono ?_)
                  rintro e5 W4 ⟨rfl, rfl⟩
                  go_wp2_with (go_at_call 52; refine (Tryd.bld_WriteByte_k w.heap.size w.heap.size _ _ _ (Or.inr h2) (by simp only [List.length_append, Lib.byteCells_length, Lib.strCells_length, List.length_cons, List.length_nil, ByteArray.size, List.size_toArray]; omega) ((hB.trans b1).trans b2).size).mono ?_)
                  rintro e6 W5 ⟨rfl, h3, b3, k3⟩
                  go_wp2
                  go_roundw
                  case rel =>
                    refine ⟨k + 1, by omega, by go_num, ?_, ((hB.trans b1).trans b2).trans b3⟩
                    rw [hq, e, Lib.byteCells_append]
                    refine Or.inr ?_
                    simpa [Lib.byteCells, Lib.strCells] using h3
                  case measure => simp [intOf]; omega
                · go_wp2_with (go_at_call 53; refine (Tryd.bld_WriteString_k w.heap.size w.heap.size _ _ _ hI (by rw [Lib.byteCells_length]; simp [ByteArray.size]; omega) hsz).mono ?_)
                  rintro e2 W1 ⟨rfl, h1, b1, k1⟩
                  go_wp2_with (go_at_call 54; refine (Tryd.sixteen_walk' (s[k].toNat / 16) (by omega) _ (by omega) _).mono ?_)
                  rintro e3 W2 ⟨rfl, rfl⟩
                  go_wp2_with (go_at_call 52; refine (Tryd.bld_WriteByte_k w.heap.size w.heap.size _ _ _ (Or.inr h1) (by rw [List.length_append, Lib.byteCells_length, Lib.strCells_length]; simp [ByteArray.size]; omega) (hB.trans b1).size).mono ?_)
                  rintro e4 W3 ⟨rfl, h2, b2, k2⟩
                  go_wp2_with (go_at_call 54; refine (Tryd.sixteen_walk' (s[k].toNat % 16) (by omega) _ (by omega) _).mono ?_)
                  rintro e5 W4 ⟨rfl, rfl⟩
                  go_wp2_with (go_at_call 52; refine (Tryd.bld_WriteByte_k w.heap.size w.heap.size _ _ _ (Or.inr h2) (by simp only [List.length_append, Lib.byteCells_length, Lib.strCells_length, List.length_cons, List.length_nil, ByteArray.size, List.size_toArray]; omega) ((hB.trans b1).trans b2).size).mono ?_)
                  rintro e6 W5 ⟨rfl, h3, b3, k3⟩
                  go_wp2
                  go_roundw
                  case rel =>
                    refine ⟨k + 1, by omega, by go_num, ?_, ((hB.trans b1).trans b2).trans b3⟩
                    rw [hq, e, Lib.byteCells_append]
                    refine Or.inr ?_
                    simpa [Lib.byteCells, Lib.strCells] using h3
                  case measure => simp [intOf]; omega
              · have e : quB s[k] = [s[k]] := by simp [quB, c1, c2, c3, c4, c5]
                simp only [not_or] at c1 c5
                obtain ⟨c11, c12⟩ := c1
                obtain ⟨c51, c52⟩ := c5
                go_wp2_with (go_at_call 52; refine (Tryd.bld_WriteByte_k w.heap.size w.heap.size _ _ _ hI (by rw [Lib.byteCells_length]; omega) hsz).mono ?_)
                rintro e2 W1 ⟨rfl, h1, b1, k1⟩
                go_wp2
                go_roundw
                case rel =>
                  refine ⟨k + 1, by omega, by go_num, ?_, hB.trans b1⟩
                  rw [hq, e, Lib.byteCells_append]
                  refine Or.inr ?_
                  simpa [Lib.byteCells, Lib.strCells] using h1
                case measure => simp [intOf]; omega
    · obtain rfl : k = s.size := by omega
      have e0 : s.data.toList.take s.size = s.data.toList := List.take_of_length_le (by simp)
      rw [e0] at hI
      have hlen := quL_len s.data.toList
      have hlen2 : s.data.toList.length ≤ 1000000 := by simpa using hs
      go_wp2_with (go_at_call 52; refine (Tryd.bld_WriteByte_k w.heap.size w.heap.size _ _ _ hI (by rw [Lib.byteCells_length]; omega) hsz).mono ?_)
      rintro e2 W1 ⟨rfl, h1, b1, k1⟩
      have h2 : Lib.IsBuilderF 67 5 w.heap.size w.heap.size (Lib.byteCells (quL s.data.toList ++ [34])) W1 := by
        rw [Lib.byteCells_append]
        exact Or.inr h1
      go_wp2_with (go_at_call 55; refine (Any.Builder_String_any_k Tryd.lays169 Tryd.Builder_Extra_169 w.heap.size w.heap.size _ _ h2 (hB.trans b1).size).mono ?_)
      rintro e2 W2 ⟨rfl, h3, b2, k2⟩
      go_wp2
      go_ret
      exact ⟨rfl, (hB.trans b1).trans b2⟩
end Go.Proofs
