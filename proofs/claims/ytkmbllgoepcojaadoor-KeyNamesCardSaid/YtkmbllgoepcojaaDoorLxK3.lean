import Derived.Test.YtkmbllgoepcojaaDoorLxQ13
import Derived.Test.YtkmbllgoepcojaaDoorLxS6
/- Numerals: strconv's and the reference's. -/
set_option linter.unusedVariables false
set_option linter.unusedSimpArgs false
set_option maxRecDepth 100000
namespace Go.Lx
variable {T G E : Nat}

theorem tens_digF : ∀ {f n : Nat}, n < 10 ^ (f + 1) → tens n = digF f n
  | 0, n, h => by rw [tens_one (by omega)]; rfl
  | f + 1, n, h => by
    by_cases hn : n < 10
    · rw [tens_one hn]; simp [digF, hn, dig]
    · rw [tens_more hn, tens_digF (f := f) (by rw [Nat.pow_succ] at h; omega)]; simp [digF, hn, dig]
theorem digF_len : ∀ f n : Nat, (digF f n).length ≤ f + 1
  | 0, n => by simp [digF]
  | f + 1, n => by
    have := digF_len f (n / 10)
    unfold digF
    split
    · simp
    · simp; omega
theorem tens_len {n : Nat} (h : n < 1000000000000000000000) : (tens n).length ≤ 21 := by
  have e : (10 : Nat) ^ (20 + 1) = 1000000000000000000000 := by decide
  rw [tens_digF (f := 20) (by omega)]
  exact digF_len 20 n
theorem itoaS_nat {n : Nat} (h : n ≤ 9223372036854775808) : itoaS (n : Int) = strB (tens n) := by
  have e : (10 : Nat) ^ (20 + 1) = 1000000000000000000000 := by decide
  unfold itoaS itoaL strB
  rw [if_neg (by omega), tens_digF (f := 20) (by omega)]
  rfl
theorem itoaS_neg {n : Nat} (h1 : 1 ≤ n) (h : n ≤ 9223372036854775808) : itoaS (-(n : Int)) = strB (45 :: tens n) := by
  have e : (10 : Nat) ^ (20 + 1) = 1000000000000000000000 := by decide
  unfold itoaS itoaL strB
  rw [if_pos (by omega), tens_digF (f := 20) (by omega)]
  simp
theorem s_FormatInt {n : Int} (h : inI64 n) : Fun (Ev T G E) 228 [vI n, vI 10] (vStr (itoaS n)) := Does.prim ⟨h.1, h.2, rfl, rfl⟩
theorem s_strconv_FormatInt {n : Int} (h : inI64 n) : Fun (Ev T G E) c_strconv_FormatInt [vI n, vI 10] (vStr (itoaS n)) := by
  refine does_start rfl ?_
  simp +contextual only [go_sem, Nat.reduceAdd, Nat.reduceLeDiff, Nat.reduceSub, Nat.reduceLT, Int.reduceLT, Int.reduceLE, Int.reduceEq, reduceCtorEq]
  refine caR_fun (s_FormatInt h) (by rfl) (.inr (by rfl)) (by rfl) ?_
  simp +contextual only [go_sem, Nat.reduceAdd, Nat.reduceLeDiff, Nat.reduceSub, Nat.reduceLT, Int.reduceLT, Int.reduceLE, Int.reduceEq, reduceCtorEq]
  exact endF_of (by first | exact resAll2 (by rfl) (by rfl) | exact resAll3 (by rfl) (by rfl) (by rfl) | rfl) (by rfl) ⟨by rfl, rfl⟩
theorem s_istrconv_Itoa {n : Int} (h : inI64 n) : Fun (Ev T G E) c_istrconv_Itoa [vI n] (vStr (itoaS n)) := by
  refine does_start rfl ?_
  simp +contextual only [go_sem, Nat.reduceAdd, Nat.reduceLeDiff, Nat.reduceSub, Nat.reduceLT, Int.reduceLT, Int.reduceLE, Int.reduceEq, reduceCtorEq]
  refine caR_fun (s_FormatInt h) (by rfl) (.inr (by rfl)) (by rfl) ?_
  simp +contextual only [go_sem, Nat.reduceAdd, Nat.reduceLeDiff, Nat.reduceSub, Nat.reduceLT, Int.reduceLT, Int.reduceLE, Int.reduceEq, reduceCtorEq]
  exact endF_of (by first | exact resAll2 (by rfl) (by rfl) | exact resAll3 (by rfl) (by rfl) (by rfl) | rfl) (by rfl) ⟨by rfl, rfl⟩
theorem s_strconv_Itoa {n : Int} (h : inI64 n) : Fun (Ev T G E) c_strconv_Itoa [vI n] (vStr (itoaS n)) := by
  refine does_start rfl ?_
  simp +contextual only [go_sem, Nat.reduceAdd, Nat.reduceLeDiff, Nat.reduceSub, Nat.reduceLT, Int.reduceLT, Int.reduceLE, Int.reduceEq, reduceCtorEq]
  refine caR_fun (s_istrconv_Itoa h) (by rfl) (.inr (by rfl)) (by rfl) ?_
  simp +contextual only [go_sem, Nat.reduceAdd, Nat.reduceLeDiff, Nat.reduceSub, Nat.reduceLT, Int.reduceLT, Int.reduceLE, Int.reduceEq, reduceCtorEq]
  exact endF_of (by first | exact resAll2 (by rfl) (by rfl) | exact resAll3 (by rfl) (by rfl) (by rfl) | rfl) (by rfl) ⟨by rfl, rfl⟩
theorem wrap_big {n : Nat} (h : n ≤ 9223372036854775807) : IntKind.i64.wrap ((n : Nat) : Int) = n := wrap_i64 ⟨by omega, by omega⟩
theorem s_ref01_Tens_big {n : Nat} (hn : n ≤ 9223372036854775807) : Fun (Ev T G E) c_bailiffref01_Tens [vI n] (vStr (strB (tens n))) := by
  refine does_start rfl ?_
  simp +contextual only [go_sem, Nat.reduceAdd, Nat.reduceLeDiff, Nat.reduceSub, Nat.reduceLT, Int.reduceLT, Int.reduceLE, Int.reduceEq, reduceCtorEq, show ¬ (n : Int) ≤ -10 by omega, show ¬ (n : Int) < 0 by omega]
  refine xK_loop (fun x : Nat × List UInt8 => ⟨[(0, (true, vI x.1)), (3, (true, vStr (strB x.2)))], []⟩) (fun x => x.2.length + x.1 ≤ n ∧ (1 ≤ x.1 ∨ x.2.length = 0) ∧ tens n = tens x.1 ++ x.2) (fun x => x.1) (n, []) (lw_gc [0, 3] [] (by rfl) (by rfl)) ⟨by simp, by simp, by simp⟩ ?_
  rintro ⟨m, out⟩ ⟨hm, hz, ht⟩
  simp only at hm hz ht
  simp +contextual only [go_sem, Nat.reduceAdd, Nat.reduceLeDiff, Nat.reduceSub, Nat.reduceLT, Int.reduceLT, Int.reduceLE, Int.reduceEq, reduceCtorEq]
  refine brB_dec (fun hlt => ?_) (fun hlt => ?_)
  · simp +contextual only [go_sem, Nat.reduceAdd, Nat.reduceLeDiff, Nat.reduceSub, Nat.reduceLT, Int.reduceLT, Int.reduceLE, Int.reduceEq, reduceCtorEq, tmodN, tdivN, rune_dig (show m % 10 < 10 by omega), strB_app, strB_size, wrap_big (show m / 10 ≤ 9223372036854775807 by omega)]
    refine ⟨by omega, (m / 10, dig (m % 10) :: out), by simp only; omega, lw_gc [0, 3] [] (by rfl) (by rfl), by simp only [List.length_cons]; omega, by simp only; omega, ?_⟩
    rw [ht, tens_more (by omega)]
    simp
  · simp +contextual only [go_sem, Nat.reduceAdd, Nat.reduceLeDiff, Nat.reduceSub, Nat.reduceLT, Int.reduceLT, Int.reduceLE, Int.reduceEq, reduceCtorEq, rune_dig (show m < 10 by omega), strB_app, strB_size]
    refine ⟨by omega, ?_⟩
    refine endF_of (by first | exact resAll2 (by rfl) (by rfl) | exact resAll3 (by rfl) (by rfl) (by rfl) | rfl) (by rfl) ⟨?_, rfl⟩
    rw [ht, tens_one (by omega)]; rfl
theorem tdiv_neg {n : Nat} : (-(n : Int)).tdiv 10 = -((n / 10 : Nat) : Int) := by rw [Int.neg_tdiv, tdivN]
theorem tmod_neg {n : Nat} : (-(n : Int)).tmod 10 = -((n % 10 : Nat) : Int) := by rw [Int.neg_tmod, tmodN]
theorem wrap_mz {n : Nat} (h : n ≤ 9223372036854775808) : IntKind.i64.wrap (-((n : Nat) : Int)) = -(n : Int) := wrap_i64 ⟨by omega, by omega⟩
theorem wrap_mm {n : Nat} (h : n ≤ 9223372036854775807) : IntKind.i64.wrap (0 - -((n : Nat) : Int)) = n := by
  rw [show (0 : Int) - -((n : Nat) : Int) = n by omega]
  exact wrap_big h
theorem lit45 : ({ data := #[45] } : Str) = strB [45] := rfl
theorem s_ref01_Tens_neg {n : Nat} (h1 : 1 ≤ n) (hn : n ≤ 9223372036854775808) : Fun (Ev T G E) c_bailiffref01_Tens [vI (-(n : Int))] (vStr (strB (45 :: tens n))) := by
  refine does_start rfl ?_
  simp +contextual only [go_sem, Nat.reduceAdd, Nat.reduceLeDiff, Nat.reduceSub, Nat.reduceLT, Int.reduceLT, Int.reduceLE, Int.reduceEq, reduceCtorEq, tdiv_neg, tmod_neg]
  refine brB_dec (fun hc => ?_) (fun hc => ?_)
  · simp +contextual only [go_sem, Nat.reduceAdd, Nat.reduceLeDiff, Nat.reduceSub, Nat.reduceLT, Int.reduceLT, Int.reduceLE, Int.reduceEq, reduceCtorEq, tdiv_neg, tmod_neg, wrap_mz (show n / 10 ≤ 9223372036854775808 by omega), wrap_mm (show n / 10 ≤ 9223372036854775807 by omega), wrap_mz (show n % 10 ≤ 9223372036854775808 by omega), wrap_mm (show n % 10 ≤ 9223372036854775807 by omega)]
    refine caR_fun (s_ref01_Tens_big (n := n / 10) (by omega)) (by rfl) (.inr (by rfl)) (by rfl) ?_
    have el := tens_len (n := n / 10) (by omega)
    have el2 := tens_len (n := n % 10) (by omega)
    simp +contextual only [go_sem, Nat.reduceAdd, Nat.reduceLeDiff, Nat.reduceSub, Nat.reduceLT, Int.reduceLT, Int.reduceLE, Int.reduceEq, reduceCtorEq, tdiv_neg, tmod_neg, wrap_mz (show n % 10 ≤ 9223372036854775808 by omega), wrap_mm (show n % 10 ≤ 9223372036854775807 by omega), strB_app, strB_size, lit45]
    refine ⟨by first | omega | (simp only [List.length_cons, List.length_nil]; omega), ?_⟩
    refine caR_fun (s_ref01_Tens_big (n := n % 10) (by omega)) (by rfl) (.inr (by rfl)) (by rfl) ?_
    simp +contextual only [go_sem, Nat.reduceAdd, Nat.reduceLeDiff, Nat.reduceSub, Nat.reduceLT, Int.reduceLT, Int.reduceLE, Int.reduceEq, reduceCtorEq, strB_app, strB_size]
    refine ⟨by first | omega | (simp only [List.length_cons, List.length_nil, List.length_append]; omega), ?_⟩
    refine endF_of (by first | exact resAll2 (by rfl) (by rfl) | exact resAll3 (by rfl) (by rfl) (by rfl) | rfl) (by rfl) ⟨?_, rfl⟩
    rw [tens_more (n := n) (by omega), tens_one (n := n % 10) (by omega)]
    first | done | rfl | simp
  · simp +contextual only [go_sem, Nat.reduceAdd, Nat.reduceLeDiff, Nat.reduceSub, Nat.reduceLT, Int.reduceLT, Int.reduceLE, Int.reduceEq, reduceCtorEq, show -(n : Int) < 0 by omega, wrap_mm (show n ≤ 9223372036854775807 by omega)]
    refine caR_fun (s_ref01_Tens_big (n := n) (by omega)) (by rfl) (.inr (by rfl)) (by rfl) ?_
    have el := tens_len (n := n) (by omega)
    simp +contextual only [go_sem, Nat.reduceAdd, Nat.reduceLeDiff, Nat.reduceSub, Nat.reduceLT, Int.reduceLT, Int.reduceLE, Int.reduceEq, reduceCtorEq, strB_app, strB_size, lit45]
    refine ⟨by first | omega | (simp only [List.length_cons, List.length_nil]; omega), ?_⟩
    exact endF_of (by first | exact resAll2 (by rfl) (by rfl) | exact resAll3 (by rfl) (by rfl) (by rfl) | rfl) (by rfl) ⟨by rfl, rfl⟩
theorem s_ref07_Tens_most {n : Int} (h : inI64 n) (hne : n ≠ -9223372036854775808) : Fun (Ev T G E) c_bailiffref07_Tens [vI n] (vStr (itoaS n)) := by
  by_cases h0 : n < 0
  · obtain ⟨m, rfl⟩ : ∃ m : Nat, n = -(m : Int) := ⟨n.natAbs, by omega⟩
    obtain ⟨h1, h2⟩ := h
    refine does_start rfl ?_
    simp +contextual only [go_sem, Nat.reduceAdd, Nat.reduceLeDiff, Nat.reduceSub, Nat.reduceLT, Int.reduceLT, Int.reduceLE, Int.reduceEq, reduceCtorEq, h0, wrap_mm (show m ≤ 9223372036854775807 by omega), show ¬ (m : Int) < 0 by omega]
    refine caR_fun (s_ref01_Tens_neg (n := m) (by omega) (by omega)) (by rfl) (.inr (by rfl)) (by rfl) ?_
    simp +contextual only [go_sem, Nat.reduceAdd, Nat.reduceLeDiff, Nat.reduceSub, Nat.reduceLT, Int.reduceLT, Int.reduceLE, Int.reduceEq, reduceCtorEq]
    refine endF_of (by first | exact resAll2 (by rfl) (by rfl) | exact resAll3 (by rfl) (by rfl) (by rfl) | rfl) (by rfl) ⟨?_, rfl⟩
    rw [itoaS_neg (by omega) (by omega)]
  · obtain ⟨m, rfl⟩ : ∃ m : Nat, n = m := ⟨n.toNat, by omega⟩
    obtain ⟨h1, h2⟩ := h
    refine does_start rfl ?_
    simp +contextual only [go_sem, Nat.reduceAdd, Nat.reduceLeDiff, Nat.reduceSub, Nat.reduceLT, Int.reduceLT, Int.reduceLE, Int.reduceEq, reduceCtorEq, h0]
    refine caR_fun (s_ref01_Tens_big (n := m) (by omega)) (by rfl) (.inr (by rfl)) (by rfl) ?_
    simp +contextual only [go_sem, Nat.reduceAdd, Nat.reduceLeDiff, Nat.reduceSub, Nat.reduceLT, Int.reduceLT, Int.reduceLE, Int.reduceEq, reduceCtorEq]
    refine endF_of (by first | exact resAll2 (by rfl) (by rfl) | exact resAll3 (by rfl) (by rfl) (by rfl) | rfl) (by rfl) ⟨?_, rfl⟩
    rw [itoaS_nat (by omega)]
theorem wmin : IntKind.i64.wrap 9223372036854775808 = -9223372036854775808 := by decide
theorem wmin2 : IntKind.i64.wrap ((-9223372036854775808 : Int).tdiv 10) = -922337203685477580 := by decide
theorem wmin3 : IntKind.i64.wrap (0 - IntKind.i64.wrap ((-9223372036854775808 : Int).tmod 10)) = 8 := by decide
theorem smin : itoaS (-922337203685477580) ++ itoaS 8 = itoaS (-9223372036854775808) := by decide +kernel
theorem szmin : (itoaS (-922337203685477580)).size + (itoaS 8).size ≤ 9223372036854775807 := by decide +kernel
theorem s_ref07_Tens_all {n : Int} (h : inI64 n) : Fun (Ev T G E) c_bailiffref07_Tens [vI n] (vStr (itoaS n)) := by
  by_cases hne : n = -9223372036854775808
  · subst hne
    refine does_start rfl ?_
    simp +contextual only [go_sem, Nat.reduceAdd, Nat.reduceLeDiff, Nat.reduceSub, Nat.reduceLT, Int.reduceLT, Int.reduceLE, Int.reduceEq, reduceCtorEq, show (0 : Int) - -9223372036854775808 = 9223372036854775808 by decide, wmin, show ((-9223372036854775808 : Int) < 0) by decide, wmin2, wmin3]
    refine caR_fun (s_ref07_Tens_most (n := -922337203685477580) ⟨by decide, by decide⟩ (by decide)) (by rfl) (.inr (by rfl)) (by rfl) ?_
    simp +contextual only [go_sem, Nat.reduceAdd, Nat.reduceLeDiff, Nat.reduceSub, Nat.reduceLT, Int.reduceLT, Int.reduceLE, Int.reduceEq, reduceCtorEq, wmin3]
    refine caR_fun (s_ref07_Tens_most (n := 8) ⟨by decide, by decide⟩ (by decide)) (by rfl) (.inr (by rfl)) (by rfl) ?_
    simp +contextual only [go_sem, Nat.reduceAdd, Nat.reduceLeDiff, Nat.reduceSub, Nat.reduceLT, Int.reduceLT, Int.reduceLE, Int.reduceEq, reduceCtorEq, smin]
    refine ⟨szmin, ?_⟩
    exact endF_of (by first | exact resAll2 (by rfl) (by rfl) | exact resAll3 (by rfl) (by rfl) (by rfl) | rfl) (by rfl) ⟨by rfl, rfl⟩
  · exact s_ref07_Tens_most h hne
end Go.Lx

/- Quote, as the reference says it. -/
set_option linter.unusedVariables false
set_option linter.unusedSimpArgs false
set_option maxRecDepth 100000
namespace Go.Lx
variable {T G E : Nat}

theorem quB_le (c : UInt8) : (quB c).length ≤ 4 := by
  unfold quB
  repeat' split
  all_goals simp
theorem quL_le : ∀ l : List UInt8, (quL l).length ≤ 1 + 4 * l.length := by
  intro l
  induction l with
  | nil => simp [quL]
  | cons c l ih =>
    have := quB_le c
    simp only [quL, List.flatMap_cons, List.length_cons, List.length_append] at ih ⊢
    omega
theorem wrap_u8s {n : Nat} (h : n < 16) : IntKind.u8.wrap ((n : Int) + 1) = ((n + 1 : Nat) : Int) := by
  simp only [IntKind.wrap, IntKind.signed, IntKind.bits, Bool.false_and, Bool.false_eq_true, if_false, Int.reducePow]; omega
theorem sign_ext {n : Nat} (h : n < 16) : (⟨#[48, 49, 50, 51, 52, 53, 54, 55, 56, 57, 97, 98, 99, 100, 101, 102]⟩ : ByteArray).extract n (n + 1) = strB [hexD n] := by
  have : ∀ n : Nat, n < 16 → (⟨#[48, 49, 50, 51, 52, 53, 54, 55, 56, 57, 97, 98, 99, 100, 101, 102]⟩ : ByteArray).extract n (n + 1) = strB [hexD n] := by decide +kernel
  exact this n h
theorem s_ref02_sign {n : Nat} (h : n < 16) : Fun (Ev T G E) c_bailiffref02_sign [vU n] (vStr (strB [hexD n])) := by
  refine does_start rfl ?_
  simp +contextual only [go_sem, Nat.reduceAdd, Nat.reduceLeDiff, Nat.reduceSub, Nat.reduceLT, Int.reduceLT, Int.reduceLE, Int.reduceEq, reduceCtorEq, wrap_u8s h, sign_ext h]
  refine ⟨⟨by omega, ?_⟩, ?_⟩
  · show n + 1 ≤ 16
    omega
  exact endF_of (by first | exact resAll2 (by rfl) (by rfl) | exact resAll3 (by rfl) (by rfl) (by rfl) | rfl) (by rfl) ⟨by rfl, rfl⟩
/-- bytes of a string -/
def byL (s : Str) : List UInt8 := s.data.toList
def byU (s : Str) (i : Nat) : UInt8 := (s.data[i]?).getD 0
theorem byL_len {s : Str} : (byL s).length = s.size := by simp [byL]
theorem byteAt_U {s : Str} {i : Nat} : byteAt s i = ((byU s i).toNat : Int) := rfl
theorem byL_get {s : Str} {i : Nat} (h : i < s.size) : (byL s)[i]? = some (byU s i) := by
  have h' : i < s.data.size := h
  unfold byL byU
  rw [Array.getElem?_toList, Array.getElem?_eq_getElem h']
  rfl
theorem byL_take {s : Str} {i : Nat} (h : i < s.size) : (byL s).take (i + 1) = (byL s).take i ++ [byU s i] := by
  rw [List.take_add_one, byL_get h]; rfl
theorem quL_step {s : Str} {i : Nat} (h : i < s.size) : quL ((byL s).take (i + 1)) = quL ((byL s).take i) ++ quB (byU s i) := by
  rw [byL_take h]; simp [quL]
theorem ext_one {s : Str} {i : Nat} (h : i < s.size) : s.extract i (i + 1) = strB [byU s i] := by
  apply ByteArray.ext
  have h' : i < s.data.size := h
  simp only [ByteArray.data_extract, strB]
  apply Array.toList_inj.1
  rw [Array.toList_extract]
  have := byL_get h
  unfold byL at this
  simp only [List.extract_eq_take_drop, Nat.add_sub_cancel_left]
  rw [List.take_one, List.head?_drop, this]
  rfl
theorem q34 : ({ data := #[34] } : Str) = strB [34] := rfl
theorem q92 : ({ data := #[92] } : Str) = strB [92] := rfl
theorem q92n : ({ data := #[92, 110] } : Str) = strB [92, 110] := rfl
theorem q92t : ({ data := #[92, 116] } : Str) = strB [92, 116] := rfl
theorem q92r : ({ data := #[92, 114] } : Str) = strB [92, 114] := rfl
theorem q92x : ({ data := #[92, 120] } : Str) = strB [92, 120] := rfl
theorem u_div {n : Nat} (h : n < 256) : IntKind.u8.wrap ((n : Int).tdiv 16) = ((n / 16 : Nat) : Int) := by
  rw [Int.tdiv_eq_ediv_of_nonneg (by omega)]
  simp only [IntKind.wrap, IntKind.signed, IntKind.bits, Bool.false_and, Bool.false_eq_true, if_false, Int.reducePow]; omega
theorem u_mod {n : Nat} (h : n < 256) : IntKind.u8.wrap ((n : Int).tmod 16) = ((n % 16 : Nat) : Int) := by
  rw [Int.tmod_eq_emod_of_nonneg (by omega)]
  simp only [IntKind.wrap, IntKind.signed, IntKind.bits, Bool.false_and, Bool.false_eq_true, if_false, Int.reducePow]; omega
set_option maxHeartbeats 2000000 in
theorem s_ref02_Quote {s : Str} (hs : s.size ≤ 1000000) : Fun (Ev T G E) c_bailiffref02_Quote [vStr s] (vStr (quoS s)) := by
  refine does_start rfl ?_
  simp +contextual only [go_sem, Nat.reduceAdd, Nat.reduceLeDiff, Nat.reduceSub, Nat.reduceLT, Int.reduceLT, Int.reduceLE, Int.reduceEq, reduceCtorEq]
  refine xK_loop (fun i : Nat => ⟨[(0, (true, vStr s)), (3, (true, vStr (strB (quL ((byL s).take i))))), (4, (true, vI i))], []⟩) (fun i => i ≤ s.size) (fun i => s.size - i) 0 (lw_gc [0, 3, 4] [] (by rfl) (by rfl)) (Nat.zero_le _) ?_
  intro i hi
  have hl := quL_le ((byL s).take i)
  have hl2 : ((byL s).take i).length ≤ 1000000 := by rw [List.length_take, byL_len]; omega
  have hc := (byU s i).toNat_lt
  simp +contextual only [go_sem, Nat.reduceAdd, Nat.reduceLeDiff, Nat.reduceSub, Nat.reduceLT, Int.reduceLT, Int.reduceLE, Int.reduceEq, reduceCtorEq]
  refine brB_dec (fun hlt => ?_) (fun hlt => ?_)
  · have hq := quL_step hlt
    simp +contextual only [go_sem, Nat.reduceAdd, Nat.reduceLeDiff, Nat.reduceSub, Nat.reduceLT, Int.reduceLT, Int.reduceLE, Int.reduceEq, reduceCtorEq, hlt, byteAt_U]
    refine brB_split (fun c1 => ?_) (fun c1 => ?_)
    · have c1' : (byU s i).toNat = 34 ∨ (byU s i).toNat = 92 := by simp only [Bool.or_eq_true, decide_eq_true_eq] at c1; omega
      have e : quL ((byL s).take (i + 1)) = quL ((byL s).take i) ++ [92, byU s i] := by rw [hq]; simp [quB, c1']
      simp +contextual only [go_sem, Nat.reduceAdd, Nat.reduceLeDiff, Nat.reduceSub, Nat.reduceLT, Int.reduceLT, Int.reduceLE, Int.reduceEq, reduceCtorEq, hlt, byteAt_U, wrap_succ (show i < 4294967296 by omega), q92, q92n, q92t, q92r, q92x, strB_app, strB_size, ext_one hlt]
      refine ⟨by omega, ⟨by omega, by omega⟩, by omega, i + 1, by omega, lw_gc' [0, 3, 4] [] (by rfl) (by rfl) (by rw [e]; rfl), hlt⟩
    · have c1' : ¬ ((byU s i).toNat = 34 ∨ (byU s i).toNat = 92) := by simp only [Bool.or_eq_false_iff, decide_eq_false_iff_not] at c1; omega
      simp +contextual only [go_sem, Nat.reduceAdd, Nat.reduceLeDiff, Nat.reduceSub, Nat.reduceLT, Int.reduceLT, Int.reduceLE, Int.reduceEq, reduceCtorEq, hlt, byteAt_U]
      refine brB_dec (fun c2 => ?_) (fun c2 => ?_)
      · have e : quL ((byL s).take (i + 1)) = quL ((byL s).take i) ++ [92, 110] := by rw [hq]; simp [quB, show (byU s i).toNat = 10 by omega]
        simp +contextual only [go_sem, Nat.reduceAdd, Nat.reduceLeDiff, Nat.reduceSub, Nat.reduceLT, Int.reduceLT, Int.reduceLE, Int.reduceEq, reduceCtorEq, hlt, byteAt_U, wrap_succ (show i < 4294967296 by omega), q92, q92n, q92t, q92r, q92x, strB_app, strB_size, ext_one hlt]
        refine ⟨by omega, i + 1, by omega, lw_gc' [0, 3, 4] [] (by rfl) (by rfl) (by rw [e]; rfl), hlt⟩
      · simp +contextual only [go_sem, Nat.reduceAdd, Nat.reduceLeDiff, Nat.reduceSub, Nat.reduceLT, Int.reduceLT, Int.reduceLE, Int.reduceEq, reduceCtorEq, hlt, byteAt_U]
        refine brB_dec (fun c3 => ?_) (fun c3 => ?_)
        · have e : quL ((byL s).take (i + 1)) = quL ((byL s).take i) ++ [92, 116] := by rw [hq]; simp [quB, show (byU s i).toNat = 9 by omega]
          simp +contextual only [go_sem, Nat.reduceAdd, Nat.reduceLeDiff, Nat.reduceSub, Nat.reduceLT, Int.reduceLT, Int.reduceLE, Int.reduceEq, reduceCtorEq, hlt, byteAt_U, wrap_succ (show i < 4294967296 by omega), q92, q92n, q92t, q92r, q92x, strB_app, strB_size, ext_one hlt]
          refine ⟨by omega, i + 1, by omega, lw_gc' [0, 3, 4] [] (by rfl) (by rfl) (by rw [e]; rfl), hlt⟩
        · simp +contextual only [go_sem, Nat.reduceAdd, Nat.reduceLeDiff, Nat.reduceSub, Nat.reduceLT, Int.reduceLT, Int.reduceLE, Int.reduceEq, reduceCtorEq, hlt, byteAt_U]
          refine brB_dec (fun c4 => ?_) (fun c4 => ?_)
          · have e : quL ((byL s).take (i + 1)) = quL ((byL s).take i) ++ [92, 114] := by rw [hq]; simp [quB, show (byU s i).toNat = 13 by omega]
            simp +contextual only [go_sem, Nat.reduceAdd, Nat.reduceLeDiff, Nat.reduceSub, Nat.reduceLT, Int.reduceLT, Int.reduceLE, Int.reduceEq, reduceCtorEq, hlt, byteAt_U, wrap_succ (show i < 4294967296 by omega), q92, q92n, q92t, q92r, q92x, strB_app, strB_size, ext_one hlt]
            refine ⟨by omega, i + 1, by omega, lw_gc' [0, 3, 4] [] (by rfl) (by rfl) (by rw [e]; rfl), hlt⟩
          · simp +contextual only [go_sem, Nat.reduceAdd, Nat.reduceLeDiff, Nat.reduceSub, Nat.reduceLT, Int.reduceLT, Int.reduceLE, Int.reduceEq, reduceCtorEq, hlt, byteAt_U]
            refine brB_split (fun c5 => ?_) (fun c5 => ?_)
            · have c5' : (byU s i).toNat < 32 ∨ 126 < (byU s i).toNat := by simp only [Bool.or_eq_true, decide_eq_true_eq] at c5; omega
              have e : quL ((byL s).take (i + 1)) = quL ((byL s).take i) ++ [92, 120, hexD ((byU s i).toNat / 16), hexD ((byU s i).toNat % 16)] := by
                rw [hq]; simp [quB, c1', c5', show ¬ (byU s i).toNat = 10 by omega, show ¬ (byU s i).toNat = 9 by omega, show ¬ (byU s i).toNat = 13 by omega]
              simp +contextual only [go_sem, Nat.reduceAdd, Nat.reduceLeDiff, Nat.reduceSub, Nat.reduceLT, Int.reduceLT, Int.reduceLE, Int.reduceEq, reduceCtorEq, hlt, byteAt_U, wrap_succ (show i < 4294967296 by omega), q92, q92n, q92t, q92r, q92x, strB_app, strB_size, ext_one hlt, u_div (show (byU s i).toNat < 256 by omega), u_mod (show (byU s i).toNat < 256 by omega)]
              refine ⟨by omega, ?_⟩
              refine caR_fun (s_ref02_sign (n := (byU s i).toNat / 16) (by omega)) (by rfl) (.inr (by rfl)) (by rfl) ?_
              simp +contextual only [go_sem, Nat.reduceAdd, Nat.reduceLeDiff, Nat.reduceSub, Nat.reduceLT, Int.reduceLT, Int.reduceLE, Int.reduceEq, reduceCtorEq, hlt, byteAt_U, wrap_succ (show i < 4294967296 by omega), q92x, strB_app, strB_size, u_div (show (byU s i).toNat < 256 by omega), u_mod (show (byU s i).toNat < 256 by omega)]
              refine ⟨by omega, ?_⟩
              refine caR_fun (s_ref02_sign (n := (byU s i).toNat % 16) (by omega)) (by rfl) (.inr (by rfl)) (by rfl) ?_
              simp +contextual only [go_sem, Nat.reduceAdd, Nat.reduceLeDiff, Nat.reduceSub, Nat.reduceLT, Int.reduceLT, Int.reduceLE, Int.reduceEq, reduceCtorEq, hlt, byteAt_U, wrap_succ (show i < 4294967296 by omega), q92x, strB_app, strB_size, u_div (show (byU s i).toNat < 256 by omega), u_mod (show (byU s i).toNat < 256 by omega)]
              refine ⟨by omega, i + 1, by omega, lw_gc' [0, 3, 4] [] (by rfl) (by rfl) (by rw [e]; rfl), hlt⟩
            · have c5' : ¬ ((byU s i).toNat < 32 ∨ 126 < (byU s i).toNat) := by simp only [Bool.or_eq_false_iff, decide_eq_false_iff_not] at c5; omega
              have e : quL ((byL s).take (i + 1)) = quL ((byL s).take i) ++ [byU s i] := by
                rw [hq]; simp [quB, c1', c5', show ¬ (byU s i).toNat = 10 by omega, show ¬ (byU s i).toNat = 9 by omega, show ¬ (byU s i).toNat = 13 by omega]
              simp +contextual only [go_sem, Nat.reduceAdd, Nat.reduceLeDiff, Nat.reduceSub, Nat.reduceLT, Int.reduceLT, Int.reduceLE, Int.reduceEq, reduceCtorEq, hlt, byteAt_U, wrap_succ (show i < 4294967296 by omega), q92, q92n, q92t, q92r, q92x, strB_app, strB_size, ext_one hlt]
              refine ⟨⟨by omega, by omega⟩, by omega, i + 1, by omega, lw_gc' [0, 3, 4] [] (by rfl) (by rfl) (by rw [e]; rfl), hlt⟩
  · have e0 : i = s.size := by omega
    subst e0
    simp +contextual only [go_sem, Nat.reduceAdd, Nat.reduceLeDiff, Nat.reduceSub, Nat.reduceLT, Int.reduceLT, Int.reduceLE, Int.reduceEq, reduceCtorEq, q34, strB_size, strB_app]
    refine ⟨by first | omega | (simp only [List.length_cons, List.length_nil]; omega), ?_⟩
    refine endF_of (by first | exact resAll2 (by rfl) (by rfl) | exact resAll3 (by rfl) (by rfl) (by rfl) | rfl) (by rfl) ⟨?_, rfl⟩
    rw [List.take_of_length_le (by rw [byL_len]; omega)]
    rfl
end Go.Lx

/- What layer 8's functions answer, on both sides. -/
set_option linter.unusedVariables false
set_option linter.unusedSimpArgs false
set_option maxRecDepth 100000
namespace Go.Lx
variable {T G E : Nat}

def isObj (v : Val) : Bool := decide (6 ≤ v.kind) && decide (v.kind ≤ 8)
theorem s_value_IsObject (v : Val) : Fun (Ev T G E) c_value_IsObject [vV v] (vB (isObj v)) := by
  refine does_start rfl ?_
  simp +contextual only [go_sem, Nat.reduceAdd, Nat.reduceLeDiff, Nat.reduceSub, Nat.reduceLT, Int.reduceLT, Int.reduceLE, Int.reduceEq, reduceCtorEq]
  refine endF_of (by first | exact resAll2 (by rfl) (by rfl) | exact resAll3 (by rfl) (by rfl) (by rfl) | rfl) (by rfl) ⟨?_, rfl⟩
  rfl
theorem s_ref07_IsObject (v : Val) : Fun (Ev T G E) c_bailiffref07_IsObject [vV v] (vB (isObj v)) := by
  refine does_start rfl ?_
  simp +contextual only [go_sem, Nat.reduceAdd, Nat.reduceLeDiff, Nat.reduceSub, Nat.reduceLT, Int.reduceLT, Int.reduceLE, Int.reduceEq, reduceCtorEq]
  refine endF_of (by first | exact resAll2 (by rfl) (by rfl) | exact resAll3 (by rfl) (by rfl) (by rfl) | rfl) (by rfl) ⟨?_, rfl⟩
  congr 4
  rw [Bool.eq_iff_iff]
  simp only [isObj, Bool.or_eq_true, Bool.and_eq_true, decide_eq_true_eq]
  omega
def nanS : Str := ⟨#[78, 97, 78]⟩
def numText (b : Nat) : Str := if feq b b then (if whole b then itoaS (toI b) else Str.none) else nanS
theorem whole_small {b : Nat} (h : whole b = true) : small b = true := by
  unfold whole at h
  simp only [Bool.and_eq_true] at h
  exact h.1
theorem s_num_Text {b : Nat} (hb : b < 2 ^ 64) : Fun (Ev T G E) c_num_Text [vF b] (vStr (numText b)) := by
  refine does_start rfl ?_
  simp +contextual only [go_sem, Nat.reduceAdd, Nat.reduceLeDiff, Nat.reduceSub, Nat.reduceLT, Int.reduceLT, Int.reduceLE, Int.reduceEq, reduceCtorEq]
  cases hf : feq b b
  · simp +contextual only [go_sem, Nat.reduceAdd, Nat.reduceLeDiff, Nat.reduceSub, Nat.reduceLT, Int.reduceLT, Int.reduceLE, Int.reduceEq, reduceCtorEq, hf]
    refine endF_of (by first | exact resAll2 (by rfl) (by rfl) | exact resAll3 (by rfl) (by rfl) (by rfl) | rfl) (by rfl) ⟨?_, rfl⟩
    first | done | (simp [numText, hf, nanS]; done) | (simp [numText, hf, nanS]; rfl)
  · simp +contextual only [go_sem, Nat.reduceAdd, Nat.reduceLeDiff, Nat.reduceSub, Nat.reduceLT, Int.reduceLT, Int.reduceLE, Int.reduceEq, reduceCtorEq, hf]
    refine caR_fun (s_num_May b) (by rfl) (.inr (by rfl)) (by rfl) ?_
    have hm : numMay b = whole b := by rw [numMay_eq hb, ← feq_self, hf]; rfl
    simp +contextual only [go_sem, Nat.reduceAdd, Nat.reduceLeDiff, Nat.reduceSub, Nat.reduceLT, Int.reduceLT, Int.reduceLE, Int.reduceEq, reduceCtorEq, hm]
    cases hw : whole b
    · simp +contextual only [go_sem, Nat.reduceAdd, Nat.reduceLeDiff, Nat.reduceSub, Nat.reduceLT, Int.reduceLT, Int.reduceLE, Int.reduceEq, reduceCtorEq, hw]
      refine endF_of (by first | exact resAll2 (by rfl) (by rfl) | exact resAll3 (by rfl) (by rfl) (by rfl) | rfl) (by rfl) ⟨?_, rfl⟩
      simp [numText, hf, hw]
    · obtain ⟨h1, h2, h3⟩ := toInt_small (whole_small hw)
      simp +contextual only [go_sem, Nat.reduceAdd, Nat.reduceLeDiff, Nat.reduceSub, Nat.reduceLT, Int.reduceLT, Int.reduceLE, Int.reduceEq, reduceCtorEq, hw, h1]
      refine caR_fun (s_strconv_FormatInt (n := toI b) ⟨by omega, by omega⟩) (by rfl) (.inr (by rfl)) (by rfl) ?_
      simp +contextual only [go_sem, Nat.reduceAdd, Nat.reduceLeDiff, Nat.reduceSub, Nat.reduceLT, Int.reduceLT, Int.reduceLE, Int.reduceEq, reduceCtorEq]
      refine endF_of (by first | exact resAll2 (by rfl) (by rfl) | exact resAll3 (by rfl) (by rfl) (by rfl) | rfl) (by rfl) ⟨?_, rfl⟩
      simp [numText, hf, hw]
theorem s_ref01_Tens_all {n : Int} (h : inI64 n) : Fun (Ev T G E) c_bailiffref01_Tens [vI n] (vStr (itoaS n)) := by
  obtain ⟨h1, h2⟩ := h
  by_cases h0 : n < 0
  · obtain ⟨m, rfl⟩ : ∃ m : Nat, n = -(m : Int) := ⟨n.natAbs, by omega⟩
    rw [itoaS_neg (by omega) (by omega)]
    exact s_ref01_Tens_neg (by omega) (by omega)
  · obtain ⟨m, rfl⟩ : ∃ m : Nat, n = m := ⟨n.toNat, by omega⟩
    rw [itoaS_nat (by omega)]
    exact s_ref01_Tens_big (by omega)
theorem s_ref01_Text {b : Nat} (hb : b < 2 ^ 64) : Fun (Ev T G E) c_bailiffref01_Text [vF b] (vStr (numText b)) := by
  refine does_start rfl ?_
  simp +contextual only [go_sem, Nat.reduceAdd, Nat.reduceLeDiff, Nat.reduceSub, Nat.reduceLT, Int.reduceLT, Int.reduceLE, Int.reduceEq, reduceCtorEq]
  cases hf : feq b b
  · simp +contextual only [go_sem, Nat.reduceAdd, Nat.reduceLeDiff, Nat.reduceSub, Nat.reduceLT, Int.reduceLT, Int.reduceLE, Int.reduceEq, reduceCtorEq, hf]
    refine endF_of (by first | exact resAll2 (by rfl) (by rfl) | exact resAll3 (by rfl) (by rfl) (by rfl) | rfl) (by rfl) ⟨?_, rfl⟩
    simp [numText, hf, nanS]
  · simp +contextual only [go_sem, Nat.reduceAdd, Nat.reduceLeDiff, Nat.reduceSub, Nat.reduceLT, Int.reduceLT, Int.reduceLE, Int.reduceEq, reduceCtorEq, hf]
    refine caR_fun (s_ref01_whole hb) (by rfl) (.inr (by rfl)) (by rfl) ?_
    simp +contextual only [go_sem, Nat.reduceAdd, Nat.reduceLeDiff, Nat.reduceSub, Nat.reduceLT, Int.reduceLT, Int.reduceLE, Int.reduceEq, reduceCtorEq]
    cases hw : whole b
    · simp +contextual only [go_sem, Nat.reduceAdd, Nat.reduceLeDiff, Nat.reduceSub, Nat.reduceLT, Int.reduceLT, Int.reduceLE, Int.reduceEq, reduceCtorEq, hw]
      refine endF_of (by first | exact resAll2 (by rfl) (by rfl) | exact resAll3 (by rfl) (by rfl) (by rfl) | rfl) (by rfl) ⟨?_, rfl⟩
      simp [numText, hf, hw]
    · obtain ⟨h1, h2, h3⟩ := toInt_small (whole_small hw)
      simp +contextual only [go_sem, Nat.reduceAdd, Nat.reduceLeDiff, Nat.reduceSub, Nat.reduceLT, Int.reduceLT, Int.reduceLE, Int.reduceEq, reduceCtorEq, hw]
      refine caR_fun (s_ref01_Tens_all (n := toI b) ⟨by omega, by omega⟩) (by rfl) (.inr (by rfl)) (by rfl) ?_
      simp +contextual only [go_sem, Nat.reduceAdd, Nat.reduceLeDiff, Nat.reduceSub, Nat.reduceLT, Int.reduceLT, Int.reduceLE, Int.reduceEq, reduceCtorEq]
      refine endF_of (by first | exact resAll2 (by rfl) (by rfl) | exact resAll3 (by rfl) (by rfl) (by rfl) | rfl) (by rfl) ⟨?_, rfl⟩
      simp [numText, hf, hw]
def symK (n : Int) : Key := if n < 0 ∨ n = 9223372036854775807 then .zero else ⟨Str.none, n + 1⟩
theorem s_key_Sym {n : Int} (h : inI64 n) : Fun (Ev T G E) c_key_Sym [vI n] (vK (symK n)) := by
  obtain ⟨h1, h2⟩ := h
  refine does_start rfl ?_
  simp +contextual only [go_sem, Nat.reduceAdd, Nat.reduceLeDiff, Nat.reduceSub, Nat.reduceLT, Int.reduceLT, Int.reduceLE, Int.reduceEq, reduceCtorEq]
  refine brB_split (fun hc => ?_) (fun hc => ?_)
  · simp +contextual only [go_sem, Nat.reduceAdd, Nat.reduceLeDiff, Nat.reduceSub, Nat.reduceLT, Int.reduceLT, Int.reduceLE, Int.reduceEq, reduceCtorEq]
    refine endF_of (by first | exact resAll2 (by rfl) (by rfl) | exact resAll3 (by rfl) (by rfl) (by rfl) | rfl) (by rfl) ⟨?_, rfl⟩
    simp only [Bool.or_eq_true, decide_eq_true_eq] at hc
    simp [symK, hc]; rfl
  · simp only [Bool.or_eq_false_iff, decide_eq_false_iff_not] at hc
    simp +contextual only [go_sem, Nat.reduceAdd, Nat.reduceLeDiff, Nat.reduceSub, Nat.reduceLT, Int.reduceLT, Int.reduceLE, Int.reduceEq, reduceCtorEq, wrap_i64 (show inI64 (n + 1) from ⟨by omega, by omega⟩)]
    refine endF_of (by first | exact resAll2 (by rfl) (by rfl) | exact resAll3 (by rfl) (by rfl) (by rfl) | rfl) (by rfl) ⟨?_, rfl⟩
    simp [symK, hc]; rfl
theorem s_ref08_Sym {n : Int} (h : inI64 n) : Fun (Ev T G E) c_bailiffref08_Sym [vI n] (vK (symK n)) := by
  obtain ⟨h1, h2⟩ := h
  refine does_start rfl ?_
  simp +contextual only [go_sem, Nat.reduceAdd, Nat.reduceLeDiff, Nat.reduceSub, Nat.reduceLT, Int.reduceLT, Int.reduceLE, Int.reduceEq, reduceCtorEq]
  refine brB_split (fun hc => ?_) (fun hc => ?_)
  · simp +contextual only [go_sem, Nat.reduceAdd, Nat.reduceLeDiff, Nat.reduceSub, Nat.reduceLT, Int.reduceLT, Int.reduceLE, Int.reduceEq, reduceCtorEq]
    refine endF_of (by first | exact resAll2 (by rfl) (by rfl) | exact resAll3 (by rfl) (by rfl) (by rfl) | rfl) (by rfl) ⟨?_, rfl⟩
    simp only [Bool.or_eq_true, decide_eq_true_eq] at hc
    simp [symK, hc]; rfl
  · simp only [Bool.or_eq_false_iff, decide_eq_false_iff_not] at hc
    simp +contextual only [go_sem, Nat.reduceAdd, Nat.reduceLeDiff, Nat.reduceSub, Nat.reduceLT, Int.reduceLT, Int.reduceLE, Int.reduceEq, reduceCtorEq, wrap_i64 (show inI64 (n + 1) from ⟨by omega, by omega⟩)]
    refine endF_of (by first | exact resAll2 (by rfl) (by rfl) | exact resAll3 (by rfl) (by rfl) (by rfl) | rfl) (by rfl) ⟨?_, rfl⟩
    simp [symK, hc]; rfl
def strK (s : Str) : Key := ⟨s, 0⟩
theorem s_key_Of' (s : Str) : Fun (Ev T G E) c_key_Of [vStr s] (vK (strK s)) := by
  refine does_start rfl ?_
  simp +contextual only [go_sem, Nat.reduceAdd, Nat.reduceLeDiff, Nat.reduceSub, Nat.reduceLT, Int.reduceLT, Int.reduceLE, Int.reduceEq, reduceCtorEq]
  refine endF_of (by first | exact resAll2 (by rfl) (by rfl) | exact resAll3 (by rfl) (by rfl) (by rfl) | rfl) (by rfl) ⟨?_, rfl⟩
  rfl
theorem s_key_Number {n : Int} (h : inI64 n) : Fun (Ev T G E) c_key_Number [vI n] (vK (strK (itoaS n))) := by
  refine does_start rfl ?_
  simp +contextual only [go_sem, Nat.reduceAdd, Nat.reduceLeDiff, Nat.reduceSub, Nat.reduceLT, Int.reduceLT, Int.reduceLE, Int.reduceEq, reduceCtorEq]
  refine caR_fun (s_strconv_Itoa h) (by rfl) (.inr (by rfl)) (by rfl) ?_
  simp +contextual only [go_sem, Nat.reduceAdd, Nat.reduceLeDiff, Nat.reduceSub, Nat.reduceLT, Int.reduceLT, Int.reduceLE, Int.reduceEq, reduceCtorEq]
  refine caR_fun (s_key_Of' (itoaS n)) (by rfl) (.inr (by rfl)) (by rfl) ?_
  simp +contextual only [go_sem, Nat.reduceAdd, Nat.reduceLeDiff, Nat.reduceSub, Nat.reduceLT, Int.reduceLT, Int.reduceLE, Int.reduceEq, reduceCtorEq]
  refine endF_of (by first | exact resAll2 (by rfl) (by rfl) | exact resAll3 (by rfl) (by rfl) (by rfl) | rfl) (by rfl) ⟨?_, rfl⟩
  rfl
theorem s_ref08_Number {n : Int} (h : inI64 n) : Fun (Ev T G E) c_bailiffref08_Number [vI n] (vK (strK (itoaS n))) := by
  refine does_start rfl ?_
  simp +contextual only [go_sem, Nat.reduceAdd, Nat.reduceLeDiff, Nat.reduceSub, Nat.reduceLT, Int.reduceLT, Int.reduceLE, Int.reduceEq, reduceCtorEq]
  refine caR_fun (s_ref07_Tens_all h) (by rfl) (.inr (by rfl)) (by rfl) ?_
  simp +contextual only [go_sem, Nat.reduceAdd, Nat.reduceLeDiff, Nat.reduceSub, Nat.reduceLT, Int.reduceLT, Int.reduceLE, Int.reduceEq, reduceCtorEq]
  refine endF_of (by first | exact resAll2 (by rfl) (by rfl) | exact resAll3 (by rfl) (by rfl) (by rfl) | rfl) (by rfl) ⟨?_, rfl⟩
  rfl
def strV (s : Str) : Val := ⟨4, 0, s, 0⟩
theorem s_value_Str (s : Str) : Fun (Ev T G E) c_value_Str [vStr s] (vV (strV s)) := by
  refine does_start rfl ?_
  simp +contextual only [go_sem, Nat.reduceAdd, Nat.reduceLeDiff, Nat.reduceSub, Nat.reduceLT, Int.reduceLT, Int.reduceLE, Int.reduceEq, reduceCtorEq]
  refine endF_of (by first | exact resAll2 (by rfl) (by rfl) | exact resAll3 (by rfl) (by rfl) (by rfl) | rfl) (by rfl) ⟨?_, rfl⟩
  rfl
theorem s_ref07_Str (s : Str) : Fun (Ev T G E) c_bailiffref07_Str [vStr s] (vV (strV s)) := by
  refine does_start rfl ?_
  simp +contextual only [go_sem, Nat.reduceAdd, Nat.reduceLeDiff, Nat.reduceSub, Nat.reduceLT, Int.reduceLT, Int.reduceLE, Int.reduceEq, reduceCtorEq]
  refine endF_of (by first | exact resAll2 (by rfl) (by rfl) | exact resAll3 (by rfl) (by rfl) (by rfl) | rfl) (by rfl) ⟨?_, rfl⟩
  rfl
def valK (k : Key) : Val := if 0 < k.sym then ⟨5, 0, Str.none, k.sym - 1⟩ else strV k.str
theorem s_key_Value {k : Key} (h : k.wf) : Fun (Ev T G E) c_key_Value [vK k] (vV (valK k)) := by
  obtain ⟨h0, h1, h2⟩ := h
  refine does_start rfl ?_
  simp +contextual only [go_sem, Nat.reduceAdd, Nat.reduceLeDiff, Nat.reduceSub, Nat.reduceLT, Int.reduceLT, Int.reduceLE, Int.reduceEq, reduceCtorEq]
  refine brB_dec (fun hc => ?_) (fun hc => ?_)
  · simp +contextual only [go_sem, Nat.reduceAdd, Nat.reduceLeDiff, Nat.reduceSub, Nat.reduceLT, Int.reduceLT, Int.reduceLE, Int.reduceEq, reduceCtorEq, wrap_i64 (show inI64 (k.sym - 1) from ⟨by omega, by omega⟩)]
    refine endF_of (by first | exact resAll2 (by rfl) (by rfl) | exact resAll3 (by rfl) (by rfl) (by rfl) | rfl) (by rfl) ⟨?_, rfl⟩
    simp [valK, hc]; rfl
  · simp +contextual only [go_sem, Nat.reduceAdd, Nat.reduceLeDiff, Nat.reduceSub, Nat.reduceLT, Int.reduceLT, Int.reduceLE, Int.reduceEq, reduceCtorEq]
    refine caR_fun (s_value_Str k.str) (by rfl) (.inr (by rfl)) (by rfl) ?_
    simp +contextual only [go_sem, Nat.reduceAdd, Nat.reduceLeDiff, Nat.reduceSub, Nat.reduceLT, Int.reduceLT, Int.reduceLE, Int.reduceEq, reduceCtorEq]
    refine endF_of (by first | exact resAll2 (by rfl) (by rfl) | exact resAll3 (by rfl) (by rfl) (by rfl) | rfl) (by rfl) ⟨?_, rfl⟩
    simp [valK, hc]; rfl
theorem s_ref08_Value {k : Key} (h : k.wf) : Fun (Ev T G E) c_bailiffref08_Value [vK k] (vV (valK k)) := by
  obtain ⟨h0, h1, h2⟩ := h
  refine does_start rfl ?_
  simp +contextual only [go_sem, Nat.reduceAdd, Nat.reduceLeDiff, Nat.reduceSub, Nat.reduceLT, Int.reduceLT, Int.reduceLE, Int.reduceEq, reduceCtorEq]
  refine brB_dec (fun hc => ?_) (fun hc => ?_)
  · simp +contextual only [go_sem, Nat.reduceAdd, Nat.reduceLeDiff, Nat.reduceSub, Nat.reduceLT, Int.reduceLT, Int.reduceLE, Int.reduceEq, reduceCtorEq, wrap_i64 (show inI64 (k.sym - 1) from ⟨by omega, by omega⟩)]
    refine endF_of (by first | exact resAll2 (by rfl) (by rfl) | exact resAll3 (by rfl) (by rfl) (by rfl) | rfl) (by rfl) ⟨?_, rfl⟩
    simp [valK, hc]; rfl
  · simp +contextual only [go_sem, Nat.reduceAdd, Nat.reduceLeDiff, Nat.reduceSub, Nat.reduceLT, Int.reduceLT, Int.reduceLE, Int.reduceEq, reduceCtorEq]
    refine caR_fun (s_ref07_Str k.str) (by rfl) (.inr (by rfl)) (by rfl) ?_
    simp +contextual only [go_sem, Nat.reduceAdd, Nat.reduceLeDiff, Nat.reduceSub, Nat.reduceLT, Int.reduceLT, Int.reduceLE, Int.reduceEq, reduceCtorEq]
    refine endF_of (by first | exact resAll2 (by rfl) (by rfl) | exact resAll3 (by rfl) (by rfl) (by rfl) | rfl) (by rfl) ⟨?_, rfl⟩
    simp [valK, hc]; rfl
def symS : Str := ⟨#[115, 121, 109, 98, 111, 108, 32]⟩
def textK (k : Key) : Str := if 0 < k.sym then symS ++ itoaS (k.sym - 1) else quoS k.str
theorem s_Quote {s : Str} (h : s.size ≤ 1000000) : Fun (Ev T G E) 219 [vStr s] (vStr (quoS s)) := Does.prim ⟨h, rfl, rfl⟩
theorem itoaS_len {n : Int} : (itoaS n).size ≤ 22 := by
  unfold itoaS itoaL
  have := digF_len 20 n.natAbs
  have := digF_len 20 n.toNat
  split
  · show (45 :: digF 20 n.natAbs).length ≤ 22
    simp; omega
  · show (digF 20 n.toNat).length ≤ 22
    omega
theorem s_key_Text {k : Key} (h : k.wf) (hs : k.str.size ≤ 1000000) : Fun (Ev T G E) c_key_Text [vK k] (vStr (textK k)) := by
  obtain ⟨h0, h1, h2⟩ := h
  have hl := itoaS_len (n := k.sym - 1)
  refine does_start rfl ?_
  simp +contextual only [go_sem, Nat.reduceAdd, Nat.reduceLeDiff, Nat.reduceSub, Nat.reduceLT, Int.reduceLT, Int.reduceLE, Int.reduceEq, reduceCtorEq]
  refine brB_dec (fun hc => ?_) (fun hc => ?_)
  · simp +contextual only [go_sem, Nat.reduceAdd, Nat.reduceLeDiff, Nat.reduceSub, Nat.reduceLT, Int.reduceLT, Int.reduceLE, Int.reduceEq, reduceCtorEq, wrap_i64 (show inI64 (k.sym - 1) from ⟨by omega, by omega⟩)]
    refine caR_fun (s_strconv_Itoa (n := k.sym - 1) ⟨by omega, by omega⟩) (by rfl) (.inr (by rfl)) (by rfl) ?_
    simp +contextual only [go_sem, Nat.reduceAdd, Nat.reduceLeDiff, Nat.reduceSub, Nat.reduceLT, Int.reduceLT, Int.reduceLE, Int.reduceEq, reduceCtorEq]
    refine ⟨by show 7 + (itoaS (k.sym - 1)).size ≤ _; omega, ?_⟩
    refine endF_of (by first | exact resAll2 (by rfl) (by rfl) | exact resAll3 (by rfl) (by rfl) (by rfl) | rfl) (by rfl) ⟨?_, rfl⟩
    simp [textK, hc, symS]
  · simp +contextual only [go_sem, Nat.reduceAdd, Nat.reduceLeDiff, Nat.reduceSub, Nat.reduceLT, Int.reduceLT, Int.reduceLE, Int.reduceEq, reduceCtorEq]
    refine caR_fun (s_Quote hs) (by rfl) (.inr (by rfl)) (by rfl) ?_
    simp +contextual only [go_sem, Nat.reduceAdd, Nat.reduceLeDiff, Nat.reduceSub, Nat.reduceLT, Int.reduceLT, Int.reduceLE, Int.reduceEq, reduceCtorEq]
    refine endF_of (by first | exact resAll2 (by rfl) (by rfl) | exact resAll3 (by rfl) (by rfl) (by rfl) | rfl) (by rfl) ⟨?_, rfl⟩
    simp [textK, hc]
theorem s_ref08_Text {k : Key} (h : k.wf) (hs : k.str.size ≤ 1000000) : Fun (Ev T G E) c_bailiffref08_Text [vK k] (vStr (textK k)) := by
  obtain ⟨h0, h1, h2⟩ := h
  have hl := itoaS_len (n := k.sym - 1)
  refine does_start rfl ?_
  simp +contextual only [go_sem, Nat.reduceAdd, Nat.reduceLeDiff, Nat.reduceSub, Nat.reduceLT, Int.reduceLT, Int.reduceLE, Int.reduceEq, reduceCtorEq]
  refine brB_dec (fun hc => ?_) (fun hc => ?_)
  · simp +contextual only [go_sem, Nat.reduceAdd, Nat.reduceLeDiff, Nat.reduceSub, Nat.reduceLT, Int.reduceLT, Int.reduceLE, Int.reduceEq, reduceCtorEq, wrap_i64 (show inI64 (k.sym - 1) from ⟨by omega, by omega⟩)]
    refine caR_fun (s_ref07_Tens_all (n := k.sym - 1) ⟨by omega, by omega⟩) (by rfl) (.inr (by rfl)) (by rfl) ?_
    simp +contextual only [go_sem, Nat.reduceAdd, Nat.reduceLeDiff, Nat.reduceSub, Nat.reduceLT, Int.reduceLT, Int.reduceLE, Int.reduceEq, reduceCtorEq]
    refine ⟨by show 7 + (itoaS (k.sym - 1)).size ≤ _; omega, ?_⟩
    refine endF_of (by first | exact resAll2 (by rfl) (by rfl) | exact resAll3 (by rfl) (by rfl) (by rfl) | rfl) (by rfl) ⟨?_, rfl⟩
    simp [textK, hc, symS]
  · simp +contextual only [go_sem, Nat.reduceAdd, Nat.reduceLeDiff, Nat.reduceSub, Nat.reduceLT, Int.reduceLT, Int.reduceLE, Int.reduceEq, reduceCtorEq]
    refine caR_fun (s_ref02_Quote hs) (by rfl) (.inr (by rfl)) (by rfl) ?_
    simp +contextual only [go_sem, Nat.reduceAdd, Nat.reduceLeDiff, Nat.reduceSub, Nat.reduceLT, Int.reduceLT, Int.reduceLE, Int.reduceEq, reduceCtorEq]
    refine endF_of (by first | exact resAll2 (by rfl) (by rfl) | exact resAll3 (by rfl) (by rfl) (by rfl) | rfl) (by rfl) ⟨?_, rfl⟩
    simp [textK, hc]
def valText (v : Val) : Str := if v.kind = 0 then ⟨#[117, 110, 100, 101, 102, 105, 110, 101, 100]⟩ else if v.kind = 1 then ⟨#[110, 117, 108, 108]⟩ else if feq v.num 0 then ⟨#[102, 97, 108, 115, 101]⟩ else ⟨#[116, 114, 117, 101]⟩
theorem s_value_Text {v : Val} (h0 : 0 ≤ v.kind) (h : v.kind ≤ 2) : Fun (Ev T G E) c_value_Text [vV v] (vStr (valText v)) := by
  refine does_start rfl ?_
  simp +contextual only [go_sem, Nat.reduceAdd, Nat.reduceLeDiff, Nat.reduceSub, Nat.reduceLT, Int.reduceLT, Int.reduceLE, Int.reduceEq, reduceCtorEq]
  refine brB_dec (fun c0 => ?_) (fun c0 => ?_)
  · simp +contextual only [go_sem, Nat.reduceAdd, Nat.reduceLeDiff, Nat.reduceSub, Nat.reduceLT, Int.reduceLT, Int.reduceLE, Int.reduceEq, reduceCtorEq]
    refine endF_of (by first | exact resAll2 (by rfl) (by rfl) | exact resAll3 (by rfl) (by rfl) (by rfl) | rfl) (by rfl) ⟨?_, rfl⟩
    simp [valText, c0]
  · simp +contextual only [go_sem, Nat.reduceAdd, Nat.reduceLeDiff, Nat.reduceSub, Nat.reduceLT, Int.reduceLT, Int.reduceLE, Int.reduceEq, reduceCtorEq]
    refine brB_dec (fun c1 => ?_) (fun c1 => ?_)
    · simp +contextual only [go_sem, Nat.reduceAdd, Nat.reduceLeDiff, Nat.reduceSub, Nat.reduceLT, Int.reduceLT, Int.reduceLE, Int.reduceEq, reduceCtorEq]
      refine endF_of (by first | exact resAll2 (by rfl) (by rfl) | exact resAll3 (by rfl) (by rfl) (by rfl) | rfl) (by rfl) ⟨?_, rfl⟩
      simp [valText, c1]
    · have c2 : v.kind = 2 := by omega
      simp +contextual only [go_sem, Nat.reduceAdd, Nat.reduceLeDiff, Nat.reduceSub, Nat.reduceLT, Int.reduceLT, Int.reduceLE, Int.reduceEq, reduceCtorEq, c2]
      cases hf : feq v.num 0
      · simp +contextual only [go_sem, Nat.reduceAdd, Nat.reduceLeDiff, Nat.reduceSub, Nat.reduceLT, Int.reduceLT, Int.reduceLE, Int.reduceEq, reduceCtorEq, hf]
        refine endF_of (by first | exact resAll2 (by rfl) (by rfl) | exact resAll3 (by rfl) (by rfl) (by rfl) | rfl) (by rfl) ⟨?_, rfl⟩
        simp [valText, c2, hf]
      · simp +contextual only [go_sem, Nat.reduceAdd, Nat.reduceLeDiff, Nat.reduceSub, Nat.reduceLT, Int.reduceLT, Int.reduceLE, Int.reduceEq, reduceCtorEq, hf]
        refine endF_of (by first | exact resAll2 (by rfl) (by rfl) | exact resAll3 (by rfl) (by rfl) (by rfl) | rfl) (by rfl) ⟨?_, rfl⟩
        simp [valText, c2, hf]
theorem s_ref07_Text {v : Val} (h0 : 0 ≤ v.kind) (h : v.kind ≤ 2) : Fun (Ev T G E) c_bailiffref07_Text [vV v] (vStr (valText v)) := by
  refine does_start rfl ?_
  simp +contextual only [go_sem, Nat.reduceAdd, Nat.reduceLeDiff, Nat.reduceSub, Nat.reduceLT, Int.reduceLT, Int.reduceLE, Int.reduceEq, reduceCtorEq]
  refine brB_dec (fun c0 => ?_) (fun c0 => ?_)
  · simp +contextual only [go_sem, Nat.reduceAdd, Nat.reduceLeDiff, Nat.reduceSub, Nat.reduceLT, Int.reduceLT, Int.reduceLE, Int.reduceEq, reduceCtorEq]
    refine endF_of (by first | exact resAll2 (by rfl) (by rfl) | exact resAll3 (by rfl) (by rfl) (by rfl) | rfl) (by rfl) ⟨?_, rfl⟩
    simp [valText, c0]
  · simp +contextual only [go_sem, Nat.reduceAdd, Nat.reduceLeDiff, Nat.reduceSub, Nat.reduceLT, Int.reduceLT, Int.reduceLE, Int.reduceEq, reduceCtorEq]
    refine brB_dec (fun c1 => ?_) (fun c1 => ?_)
    · simp +contextual only [go_sem, Nat.reduceAdd, Nat.reduceLeDiff, Nat.reduceSub, Nat.reduceLT, Int.reduceLT, Int.reduceLE, Int.reduceEq, reduceCtorEq]
      refine endF_of (by first | exact resAll2 (by rfl) (by rfl) | exact resAll3 (by rfl) (by rfl) (by rfl) | rfl) (by rfl) ⟨?_, rfl⟩
      simp [valText, c1]
    · have c2 : v.kind = 2 := by omega
      simp +contextual only [go_sem, Nat.reduceAdd, Nat.reduceLeDiff, Nat.reduceSub, Nat.reduceLT, Int.reduceLT, Int.reduceLE, Int.reduceEq, reduceCtorEq, c2]
      cases hf : feq v.num 0
      · simp +contextual only [go_sem, Nat.reduceAdd, Nat.reduceLeDiff, Nat.reduceSub, Nat.reduceLT, Int.reduceLT, Int.reduceLE, Int.reduceEq, reduceCtorEq, hf]
        refine endF_of (by first | exact resAll2 (by rfl) (by rfl) | exact resAll3 (by rfl) (by rfl) (by rfl) | rfl) (by rfl) ⟨?_, rfl⟩
        simp [valText, c2, hf]
      · simp +contextual only [go_sem, Nat.reduceAdd, Nat.reduceLeDiff, Nat.reduceSub, Nat.reduceLT, Int.reduceLT, Int.reduceLE, Int.reduceEq, reduceCtorEq, hf]
        refine endF_of (by first | exact resAll2 (by rfl) (by rfl) | exact resAll3 (by rfl) (by rfl) (by rfl) | rfl) (by rfl) ⟨?_, rfl⟩
        simp [valText, c2, hf]
def primE (v : Val) : Bool := !valMay v || isObj v
def primK (v : Val) : Key := if primE v then .zero else if v.kind = 4 then strK v.str else if v.kind = 5 then symK v.ref else if v.kind = 3 then strK (numText v.num) else strK (valText v)
theorem s_key_Prim {v : Val} (hv : v.wf) : Fun (Ev T G E) c_key_Prim [vV v] (.tup [vK (primK v), vI (if primE v then 9 else 0)]) := by
  refine does_start rfl ?_
  simp +contextual only [go_sem, Nat.reduceAdd, Nat.reduceLeDiff, Nat.reduceSub, Nat.reduceLT, Int.reduceLT, Int.reduceLE, Int.reduceEq, reduceCtorEq]
  refine caR_fun (s_value_May hv) (by rfl) (.inr (by rfl)) (by rfl) ?_
  simp +contextual only [go_sem, Nat.reduceAdd, Nat.reduceLeDiff, Nat.reduceSub, Nat.reduceLT, Int.reduceLT, Int.reduceLE, Int.reduceEq, reduceCtorEq]
  refine gcR_fun (fun hg => s_value_IsObject v) (fun h => by first | exact h | rfl | simp_all) (by rfl) (.inr (by rfl)) (by rfl) ?_
  simp +contextual only [go_sem, Nat.reduceAdd, Nat.reduceLeDiff, Nat.reduceSub, Nat.reduceLT, Int.reduceLT, Int.reduceLE, Int.reduceEq, reduceCtorEq]
  refine brB_split (fun he => ?_) (fun he => ?_)
  · simp +contextual only [go_sem, Nat.reduceAdd, Nat.reduceLeDiff, Nat.reduceSub, Nat.reduceLT, Int.reduceLT, Int.reduceLE, Int.reduceEq, reduceCtorEq]
    refine endF_of (by first | exact resAll2 (by rfl) (by rfl) | exact resAll3 (by rfl) (by rfl) (by rfl) | rfl) (by rfl) ⟨?_, rfl⟩
    simp [primK, primE, he]; rfl
  · have hm : valMay v = true ∧ isObj v = false := by simpa using he
    have hk : v.kind ≤ 8 := by
      have := hm.1
      unfold valMay at this
      simp only [Bool.and_eq_true, decide_eq_true_eq] at this
      exact this.1.1.1
    have hk2 : v.kind ≤ 5 := by
      have := hm.2
      unfold isObj at this
      simp only [Bool.and_eq_false_iff, decide_eq_false_iff_not] at this
      omega
    simp +contextual only [go_sem, Nat.reduceAdd, Nat.reduceLeDiff, Nat.reduceSub, Nat.reduceLT, Int.reduceLT, Int.reduceLE, Int.reduceEq, reduceCtorEq]
    refine brB_dec (fun c4 => ?_) (fun c4 => ?_)
    · simp +contextual only [go_sem, Nat.reduceAdd, Nat.reduceLeDiff, Nat.reduceSub, Nat.reduceLT, Int.reduceLT, Int.reduceLE, Int.reduceEq, reduceCtorEq]
      refine caR_fun (s_key_Of' v.str) (by rfl) (.inr (by rfl)) (by rfl) ?_
      simp +contextual only [go_sem, Nat.reduceAdd, Nat.reduceLeDiff, Nat.reduceSub, Nat.reduceLT, Int.reduceLT, Int.reduceLE, Int.reduceEq, reduceCtorEq]
      refine endF_of (by first | exact resAll2 (by rfl) (by rfl) | exact resAll3 (by rfl) (by rfl) (by rfl) | rfl) (by rfl) ⟨?_, rfl⟩
      simp [primK, primE, he, c4]; rfl
    · simp +contextual only [go_sem, Nat.reduceAdd, Nat.reduceLeDiff, Nat.reduceSub, Nat.reduceLT, Int.reduceLT, Int.reduceLE, Int.reduceEq, reduceCtorEq]
      refine brB_dec (fun c5 => ?_) (fun c5 => ?_)
      · simp +contextual only [go_sem, Nat.reduceAdd, Nat.reduceLeDiff, Nat.reduceSub, Nat.reduceLT, Int.reduceLT, Int.reduceLE, Int.reduceEq, reduceCtorEq]
        refine caR_fun (s_key_Sym hv.2.2.2) (by rfl) (.inr (by rfl)) (by rfl) ?_
        simp +contextual only [go_sem, Nat.reduceAdd, Nat.reduceLeDiff, Nat.reduceSub, Nat.reduceLT, Int.reduceLT, Int.reduceLE, Int.reduceEq, reduceCtorEq]
        refine endF_of (by first | exact resAll2 (by rfl) (by rfl) | exact resAll3 (by rfl) (by rfl) (by rfl) | rfl) (by rfl) ⟨?_, rfl⟩
        simp [primK, primE, he, c5]; rfl
      · simp +contextual only [go_sem, Nat.reduceAdd, Nat.reduceLeDiff, Nat.reduceSub, Nat.reduceLT, Int.reduceLT, Int.reduceLE, Int.reduceEq, reduceCtorEq]
        refine brB_dec (fun c3 => ?_) (fun c3 => ?_)
        · simp +contextual only [go_sem, Nat.reduceAdd, Nat.reduceLeDiff, Nat.reduceSub, Nat.reduceLT, Int.reduceLT, Int.reduceLE, Int.reduceEq, reduceCtorEq]
          refine caR_fun (s_num_Text hv.2.1) (by rfl) (.inr (by rfl)) (by rfl) ?_
          simp +contextual only [go_sem, Nat.reduceAdd, Nat.reduceLeDiff, Nat.reduceSub, Nat.reduceLT, Int.reduceLT, Int.reduceLE, Int.reduceEq, reduceCtorEq]
          refine caR_fun (s_key_Of' (numText v.num)) (by rfl) (.inr (by rfl)) (by rfl) ?_
          simp +contextual only [go_sem, Nat.reduceAdd, Nat.reduceLeDiff, Nat.reduceSub, Nat.reduceLT, Int.reduceLT, Int.reduceLE, Int.reduceEq, reduceCtorEq]
          refine endF_of (by first | exact resAll2 (by rfl) (by rfl) | exact resAll3 (by rfl) (by rfl) (by rfl) | rfl) (by rfl) ⟨?_, rfl⟩
          simp [primK, primE, he, c3]; rfl
        · simp +contextual only [go_sem, Nat.reduceAdd, Nat.reduceLeDiff, Nat.reduceSub, Nat.reduceLT, Int.reduceLT, Int.reduceLE, Int.reduceEq, reduceCtorEq]
          refine caR_fun (s_value_Text hv.1.1 (show v.kind ≤ 2 by omega)) (by rfl) (.inr (by rfl)) (by rfl) ?_
          simp +contextual only [go_sem, Nat.reduceAdd, Nat.reduceLeDiff, Nat.reduceSub, Nat.reduceLT, Int.reduceLT, Int.reduceLE, Int.reduceEq, reduceCtorEq]
          refine caR_fun (s_key_Of' (valText v)) (by rfl) (.inr (by rfl)) (by rfl) ?_
          simp +contextual only [go_sem, Nat.reduceAdd, Nat.reduceLeDiff, Nat.reduceSub, Nat.reduceLT, Int.reduceLT, Int.reduceLE, Int.reduceEq, reduceCtorEq]
          refine endF_of (by first | exact resAll2 (by rfl) (by rfl) | exact resAll3 (by rfl) (by rfl) (by rfl) | rfl) (by rfl) ⟨?_, rfl⟩
          simp [primK, primE, he, c3, c4, c5]; rfl
theorem s_ref08_Prim {v : Val} (hv : v.wf) : Fun (Ev T G E) c_bailiffref08_Prim [vV v] (.tup [vK (primK v), vI (if primE v then 9 else 0)]) := by
  refine does_start rfl ?_
  simp +contextual only [go_sem, Nat.reduceAdd, Nat.reduceLeDiff, Nat.reduceSub, Nat.reduceLT, Int.reduceLT, Int.reduceLE, Int.reduceEq, reduceCtorEq]
  refine caR_fun (s_ref07_May hv) (by rfl) (.inr (by rfl)) (by rfl) ?_
  simp +contextual only [go_sem, Nat.reduceAdd, Nat.reduceLeDiff, Nat.reduceSub, Nat.reduceLT, Int.reduceLT, Int.reduceLE, Int.reduceEq, reduceCtorEq]
  refine gcR_fun (fun hg => s_ref07_IsObject v) (fun h => by first | exact h | rfl | simp_all) (by rfl) (.inr (by rfl)) (by rfl) ?_
  simp +contextual only [go_sem, Nat.reduceAdd, Nat.reduceLeDiff, Nat.reduceSub, Nat.reduceLT, Int.reduceLT, Int.reduceLE, Int.reduceEq, reduceCtorEq]
  refine brB_split (fun he => ?_) (fun he => ?_)
  · simp +contextual only [go_sem, Nat.reduceAdd, Nat.reduceLeDiff, Nat.reduceSub, Nat.reduceLT, Int.reduceLT, Int.reduceLE, Int.reduceEq, reduceCtorEq]
    refine endF_of (by first | exact resAll2 (by rfl) (by rfl) | exact resAll3 (by rfl) (by rfl) (by rfl) | rfl) (by rfl) ⟨?_, rfl⟩
    simp [primK, primE, he]; rfl
  · have hm : valMay v = true ∧ isObj v = false := by simpa using he
    have hk : v.kind ≤ 8 := by
      have := hm.1
      unfold valMay at this
      simp only [Bool.and_eq_true, decide_eq_true_eq] at this
      exact this.1.1.1
    have hk2 : v.kind ≤ 5 := by
      have := hm.2
      unfold isObj at this
      simp only [Bool.and_eq_false_iff, decide_eq_false_iff_not] at this
      omega
    simp +contextual only [go_sem, Nat.reduceAdd, Nat.reduceLeDiff, Nat.reduceSub, Nat.reduceLT, Int.reduceLT, Int.reduceLE, Int.reduceEq, reduceCtorEq]
    refine brB_dec (fun c4 => ?_) (fun c4 => ?_)
    · simp +contextual only [go_sem, Nat.reduceAdd, Nat.reduceLeDiff, Nat.reduceSub, Nat.reduceLT, Int.reduceLT, Int.reduceLE, Int.reduceEq, reduceCtorEq]
      refine endF_of (by first | exact resAll2 (by rfl) (by rfl) | exact resAll3 (by rfl) (by rfl) (by rfl) | rfl) (by rfl) ⟨?_, rfl⟩
      simp [primK, primE, he, c4]; rfl
    · simp +contextual only [go_sem, Nat.reduceAdd, Nat.reduceLeDiff, Nat.reduceSub, Nat.reduceLT, Int.reduceLT, Int.reduceLE, Int.reduceEq, reduceCtorEq]
      refine brB_dec (fun c5 => ?_) (fun c5 => ?_)
      · simp +contextual only [go_sem, Nat.reduceAdd, Nat.reduceLeDiff, Nat.reduceSub, Nat.reduceLT, Int.reduceLT, Int.reduceLE, Int.reduceEq, reduceCtorEq]
        refine caR_fun (s_ref08_Sym hv.2.2.2) (by rfl) (.inr (by rfl)) (by rfl) ?_
        simp +contextual only [go_sem, Nat.reduceAdd, Nat.reduceLeDiff, Nat.reduceSub, Nat.reduceLT, Int.reduceLT, Int.reduceLE, Int.reduceEq, reduceCtorEq]
        refine endF_of (by first | exact resAll2 (by rfl) (by rfl) | exact resAll3 (by rfl) (by rfl) (by rfl) | rfl) (by rfl) ⟨?_, rfl⟩
        simp [primK, primE, he, c5]; rfl
      · simp +contextual only [go_sem, Nat.reduceAdd, Nat.reduceLeDiff, Nat.reduceSub, Nat.reduceLT, Int.reduceLT, Int.reduceLE, Int.reduceEq, reduceCtorEq]
        refine brB_dec (fun c3 => ?_) (fun c3 => ?_)
        · simp +contextual only [go_sem, Nat.reduceAdd, Nat.reduceLeDiff, Nat.reduceSub, Nat.reduceLT, Int.reduceLT, Int.reduceLE, Int.reduceEq, reduceCtorEq]
          refine caR_fun (s_ref01_Text hv.2.1) (by rfl) (.inr (by rfl)) (by rfl) ?_
          simp +contextual only [go_sem, Nat.reduceAdd, Nat.reduceLeDiff, Nat.reduceSub, Nat.reduceLT, Int.reduceLT, Int.reduceLE, Int.reduceEq, reduceCtorEq]
          refine endF_of (by first | exact resAll2 (by rfl) (by rfl) | exact resAll3 (by rfl) (by rfl) (by rfl) | rfl) (by rfl) ⟨?_, rfl⟩
          simp [primK, primE, he, c3]; rfl
        · simp +contextual only [go_sem, Nat.reduceAdd, Nat.reduceLeDiff, Nat.reduceSub, Nat.reduceLT, Int.reduceLT, Int.reduceLE, Int.reduceEq, reduceCtorEq]
          refine caR_fun (s_ref07_Text hv.1.1 (show v.kind ≤ 2 by omega)) (by rfl) (.inr (by rfl)) (by rfl) ?_
          simp +contextual only [go_sem, Nat.reduceAdd, Nat.reduceLeDiff, Nat.reduceSub, Nat.reduceLT, Int.reduceLT, Int.reduceLE, Int.reduceEq, reduceCtorEq]
          refine endF_of (by first | exact resAll2 (by rfl) (by rfl) | exact resAll3 (by rfl) (by rfl) (by rfl) | rfl) (by rfl) ⟨?_, rfl⟩
          simp [primK, primE, he, c3, c4, c5]; rfl
end Go.Lx

/- KeyOnes answers true. -/
set_option linter.unusedVariables false
set_option linter.unusedSimpArgs false
set_option maxRecDepth 100000
namespace Go.Lx
variable {T G E : Nat}

theorem strK_eq {s : Str} : (strK s = ⟨s, Key.zero.sym⟩) = True := eq_true rfl
theorem valK_wf {k : Key} (h : k.wf) : (valK k).wf := by
  obtain ⟨h1, h2, h3⟩ := h
  unfold valK
  split
  · exact ⟨⟨show (0 : Int) ≤ 5 by decide, show (5 : Int) ≤ 255 by decide⟩, show 0 < 2 ^ 64 by decide, show (0 : Nat) ≤ maxLen by decide, ⟨by simp only; omega, by simp only; omega⟩⟩
  · exact ⟨⟨show (0 : Int) ≤ 4 by decide, show (4 : Int) ≤ 255 by decide⟩, show 0 < 2 ^ 64 by decide, h1, ⟨show (-9223372036854775808 : Int) ≤ 0 by decide, show (0 : Int) ≤ 9223372036854775807 by decide⟩⟩
set_option maxHeartbeats 4000000 in
theorem d_KeyOnes {k : Key} {n : Int} {v : Val} (hk : k.wf) (hn : inI64 n) (hv : v.wf) : Does (Ev T G E) c_bailifflaw08_KeyOnes [vK k, vI n, vV v] [] fun v _ => v = vB true := by
  refine does_start rfl ?_
  simp +contextual only [go_sem, Nat.reduceAdd, Nat.reduceLeDiff, Nat.reduceSub, Nat.reduceLT, Int.reduceLT, Int.reduceLE, Int.reduceEq, reduceCtorEq]
  refine brB_split (fun hbig => ?_) (fun hbig => ?_)
  · simp +contextual only [go_sem, Nat.reduceAdd, Nat.reduceLeDiff, Nat.reduceSub, Nat.reduceLT, Int.reduceLT, Int.reduceLE, Int.reduceEq, reduceCtorEq]
    exact endF_of (by rfl) (by rfl) rfl
  · have hb : (k.str.size : Int) ≤ 9000 ∧ (v.str.size : Int) ≤ 9000 := by
      simp only [Bool.or_eq_false_iff, decide_eq_false_iff_not] at hbig
      omega
    simp +contextual only [go_sem, Nat.reduceAdd, Nat.reduceLeDiff, Nat.reduceSub, Nat.reduceLT, Int.reduceLT, Int.reduceLE, Int.reduceEq, reduceCtorEq]
    refine caR_fun (s_key_Prim hv) (by rfl) (.inr (by rfl)) (by rfl) ?_
    simp +contextual only [go_sem, Nat.reduceAdd, Nat.reduceLeDiff, Nat.reduceSub, Nat.reduceLT, Int.reduceLT, Int.reduceLE, Int.reduceEq, reduceCtorEq]
    refine caR_fun (s_ref08_Prim hv) (by rfl) (.inr (by rfl)) (by rfl) ?_
    simp +contextual only [go_sem, Nat.reduceAdd, Nat.reduceLeDiff, Nat.reduceSub, Nat.reduceLT, Int.reduceLT, Int.reduceLE, Int.reduceEq, reduceCtorEq]
    refine caR_fun (s_key_Index k) (by rfl) (.inr (by rfl)) (by rfl) ?_
    simp +contextual only [go_sem, Nat.reduceAdd, Nat.reduceLeDiff, Nat.reduceSub, Nat.reduceLT, Int.reduceLT, Int.reduceLE, Int.reduceEq, reduceCtorEq]
    refine caR_fun (s_ref08_Index k) (by rfl) (.inr (by rfl)) (by rfl) ?_
    simp +contextual only [go_sem, Nat.reduceAdd, Nat.reduceLeDiff, Nat.reduceSub, Nat.reduceLT, Int.reduceLT, Int.reduceLE, Int.reduceEq, reduceCtorEq]
    simp +contextual only [go_sem, Nat.reduceAdd, Nat.reduceLeDiff, Nat.reduceSub, Nat.reduceLT, Int.reduceLT, Int.reduceLE, Int.reduceEq, reduceCtorEq, beq_self_eq_true]
    refine gcR_fun (fun hg => s_key_Check k) (fun h => by first | exact h | rfl | simp_all) (by rfl) (.inr (by rfl)) (by rfl) ?_
    simp +contextual only [go_sem, Nat.reduceAdd, Nat.reduceLeDiff, Nat.reduceSub, Nat.reduceLT, Int.reduceLT, Int.reduceLE, Int.reduceEq, reduceCtorEq, beq_self_eq_true]
    refine gcR_fun (fun hg => s_ref08_Check k) (fun h => by first | exact h | rfl | simp_all) (by rfl) (.inr (by rfl)) (by rfl) ?_
    simp +contextual only [go_sem, Nat.reduceAdd, Nat.reduceLeDiff, Nat.reduceSub, Nat.reduceLT, Int.reduceLT, Int.reduceLE, Int.reduceEq, reduceCtorEq, beq_self_eq_true]
    refine gcR_fun (fun hg => s_key_Of' k.str) (fun h => by first | exact h | rfl | simp_all) (by rfl) (.inr (by rfl)) (by rfl) ?_
    simp +contextual only [go_sem, Nat.reduceAdd, Nat.reduceLeDiff, Nat.reduceSub, Nat.reduceLT, Int.reduceLT, Int.reduceLE, Int.reduceEq, reduceCtorEq, beq_self_eq_true]
    refine gcR_fun (fun hg => s_key_Sym hn) (fun h => by first | exact h | rfl | simp_all) (by rfl) (.inr (by rfl)) (by rfl) ?_
    simp +contextual only [go_sem, Nat.reduceAdd, Nat.reduceLeDiff, Nat.reduceSub, Nat.reduceLT, Int.reduceLT, Int.reduceLE, Int.reduceEq, reduceCtorEq, beq_self_eq_true]
    refine gcR_fun (fun hg => s_ref08_Sym hn) (fun h => by first | exact h | rfl | simp_all) (by rfl) (.inr (by rfl)) (by rfl) ?_
    simp +contextual only [go_sem, Nat.reduceAdd, Nat.reduceLeDiff, Nat.reduceSub, Nat.reduceLT, Int.reduceLT, Int.reduceLE, Int.reduceEq, reduceCtorEq, beq_self_eq_true]
    refine gcR_fun (fun hg => s_key_Number hn) (fun h => by first | exact h | rfl | simp_all) (by rfl) (.inr (by rfl)) (by rfl) ?_
    simp +contextual only [go_sem, Nat.reduceAdd, Nat.reduceLeDiff, Nat.reduceSub, Nat.reduceLT, Int.reduceLT, Int.reduceLE, Int.reduceEq, reduceCtorEq, beq_self_eq_true]
    refine gcR_fun (fun hg => s_ref08_Number hn) (fun h => by first | exact h | rfl | simp_all) (by rfl) (.inr (by rfl)) (by rfl) ?_
    simp +contextual only [go_sem, Nat.reduceAdd, Nat.reduceLeDiff, Nat.reduceSub, Nat.reduceLT, Int.reduceLT, Int.reduceLE, Int.reduceEq, reduceCtorEq, beq_self_eq_true, strK_eq]
    refine gcR_fun (fun hg => s_key_Value hk) (fun h => by first | exact h | rfl | simp_all) (by rfl) (.inr (by rfl)) (by rfl) ?_
    simp +contextual only [go_sem, Nat.reduceAdd, Nat.reduceLeDiff, Nat.reduceSub, Nat.reduceLT, Int.reduceLT, Int.reduceLE, Int.reduceEq, reduceCtorEq, beq_self_eq_true, strK_eq]
    refine gcR_fun (fun hg => s_ref08_Value hk) (fun h => by first | exact h | rfl | simp_all) (by rfl) (.inr (by rfl)) (by rfl) ?_
    simp +contextual only [go_sem, Nat.reduceAdd, Nat.reduceLeDiff, Nat.reduceSub, Nat.reduceLT, Int.reduceLT, Int.reduceLE, Int.reduceEq, reduceCtorEq, beq_self_eq_true, strK_eq]
    refine gcR_fun (fun hg => s_ref07_Alike_self (valK_wf hk)) (fun h => by first | exact h | rfl | simp_all) (by rfl) (.inr (by rfl)) (by rfl) ?_
    simp +contextual only [go_sem, Nat.reduceAdd, Nat.reduceLeDiff, Nat.reduceSub, Nat.reduceLT, Int.reduceLT, Int.reduceLE, Int.reduceEq, reduceCtorEq, beq_self_eq_true, strK_eq]
    refine gcR_fun (fun hg => s_key_Text hk (by omega)) (fun h => by first | exact h | rfl | simp_all) (by rfl) (.inr (by rfl)) (by rfl) ?_
    simp +contextual only [go_sem, Nat.reduceAdd, Nat.reduceLeDiff, Nat.reduceSub, Nat.reduceLT, Int.reduceLT, Int.reduceLE, Int.reduceEq, reduceCtorEq, beq_self_eq_true, strK_eq]
    refine gcR_fun (fun hg => s_ref08_Text hk (by omega)) (fun h => by first | exact h | rfl | simp_all) (by rfl) (.inr (by rfl)) (by rfl) ?_
    simp +contextual only [go_sem, Nat.reduceAdd, Nat.reduceLeDiff, Nat.reduceSub, Nat.reduceLT, Int.reduceLT, Int.reduceLE, Int.reduceEq, reduceCtorEq, beq_self_eq_true, strK_eq]
    exact endF_of (by rfl) (by rfl) rfl
end Go.Lx
