import Derived.Test.YtkmbllgoepcojaaDoorLxS0
/- What the functions of desc, key and table that look at one property answer, and those of the references. -/
set_option linter.unusedVariables false
set_option linter.unusedSimpArgs false
set_option maxRecDepth 100000
namespace Go.Lx
variable {T G E : Nat}

/-! ### keys -/
def keyOk (k : Key) : Bool := decide (0 ≤ k.sym) && decide ((k.str.size : Int) ≤ 4096) && (decide (k.sym ≤ 0) || decide (k.str = Str.none))
def keyCheck (k : Key) : Int := if keyOk k then 0 else 9
theorem size_zero {s : Str} : (s.size : Int) ≤ 0 ↔ s = Str.none := by
  obtain ⟨⟨l⟩⟩ := s
  cases l with
  | nil => simp [ByteArray.size, ByteArray.empty]
  | cons a l =>
    simp only [ByteArray.size, Array.size, List.length_cons, ByteArray.mk.injEq, Array.mk.injEq, reduceCtorEq, iff_false]
    omega
theorem s_key_Check (k : Key) : Fun (Ev T G E) c_key_Check [vK k] (vI (keyCheck k)) := by
  refine does_start rfl ?_
  repeat' first
    | simp +contextual only [go_sem, Nat.reduceAdd, Nat.reduceLeDiff, Nat.reduceSub, Nat.reduceLT, Int.reduceLT, Int.reduceLE, Int.reduceEq, reduceCtorEq]
    | refine brB_dec (fun hc => ?_) (fun hc => ?_)
    | refine brB_split (fun hc => ?_) (fun hc => ?_)
  all_goals refine endF_of (by first | exact resAll2 (by rfl) (by rfl) | exact resAll3 (by rfl) (by rfl) (by rfl) | rfl) (by rfl) ⟨?_, rfl⟩
  all_goals simp only [keyCheck, keyOk]
  all_goals simp_all
  all_goals grind
theorem s_ref08_Check (k : Key) : Fun (Ev T G E) c_bailiffref08_Check [vK k] (vI (keyCheck k)) := by
  have hs := @size_zero k.str
  refine does_start rfl ?_
  repeat' first
    | simp +contextual only [go_sem, Nat.reduceAdd, Nat.reduceLeDiff, Nat.reduceSub, Nat.reduceLT, Int.reduceLT, Int.reduceLE, Int.reduceEq, reduceCtorEq]
    | refine brB_dec (fun hc => ?_) (fun hc => ?_)
    | refine brB_split (fun hc => ?_) (fun hc => ?_)
  all_goals refine endF_of (by first | exact resAll2 (by rfl) (by rfl) | exact resAll3 (by rfl) (by rfl) (by rfl) | rfl) (by rfl) ⟨?_, rfl⟩
  all_goals simp only [keyCheck, keyOk, ← hs]
  all_goals clear hs
  all_goals generalize (k.str.size : Nat) = z at *
  all_goals simp_all
  all_goals grind

/-! ### values that can be called -/
def calls (v : Val) : Bool := decide (v.kind = 7) || decide (v.kind = 8)
def calledB (v : Val) : Bool := valMay v && (decide (v.kind = 0) || calls v)
theorem s_value_Calls (v : Val) : Fun (Ev T G E) c_value_Calls [vV v] (vB (calls v)) := by
  refine does_start rfl ?_
  repeat' first
    | simp +contextual only [go_sem, Nat.reduceAdd, Nat.reduceLeDiff, Nat.reduceSub, Nat.reduceLT, Int.reduceLT, Int.reduceLE, Int.reduceEq, reduceCtorEq]
    | refine brB_dec (fun hc => ?_) (fun hc => ?_)
    | refine brB_split (fun hc => ?_) (fun hc => ?_)
  exact endF_of (by first | exact resAll2 (by rfl) (by rfl) | exact resAll3 (by rfl) (by rfl) (by rfl) | rfl) (by rfl) ⟨by rfl, rfl⟩
theorem s_ref07_Calls (v : Val) : Fun (Ev T G E) c_bailiffref07_Calls [vV v] (vB (calls v)) := by
  refine does_start rfl ?_
  repeat' first
    | simp +contextual only [go_sem, Nat.reduceAdd, Nat.reduceLeDiff, Nat.reduceSub, Nat.reduceLT, Int.reduceLT, Int.reduceLE, Int.reduceEq, reduceCtorEq]
    | refine brB_dec (fun hc => ?_) (fun hc => ?_)
    | refine brB_split (fun hc => ?_) (fun hc => ?_)
  exact endF_of (by first | exact resAll2 (by rfl) (by rfl) | exact resAll3 (by rfl) (by rfl) (by rfl) | rfl) (by rfl) ⟨by rfl, rfl⟩
theorem s_desc_called {v : Val} (hv : v.wf) : Fun (Ev T G E) c_desc_called [vV v] (vB (calledB v)) := by
  refine does_start rfl ?_
  repeat' first
    | simp +contextual only [go_sem, Nat.reduceAdd, Nat.reduceLeDiff, Nat.reduceSub, Nat.reduceLT, Int.reduceLT, Int.reduceLE, Int.reduceEq, reduceCtorEq]
    | refine brB_dec (fun hc => ?_) (fun hc => ?_)
    | refine brB_split (fun hc => ?_) (fun hc => ?_)
    | refine caR_fun (s_value_May hv) (by rfl) (.inr (by rfl)) (by rfl) ?_
    | refine gcR_fun (fun hg => s_value_May hv) (fun h => by first | exact h | rfl | simp_all) (by rfl) (.inr (by rfl)) (by rfl) ?_
    | refine caR_fun (s_value_Calls _) (by rfl) (.inr (by rfl)) (by rfl) ?_
    | refine gcR_fun (fun hg => s_value_Calls _) (fun h => by first | exact h | rfl | simp_all) (by rfl) (.inr (by rfl)) (by rfl) ?_
  exact endF_of (by first | exact resAll2 (by rfl) (by rfl) | exact resAll3 (by rfl) (by rfl) (by rfl) | rfl) (by rfl) ⟨by rfl, rfl⟩
theorem s_ref09_called {v : Val} (hv : v.wf) : Fun (Ev T G E) c_bailiffref09_called [vV v] (vB (calledB v)) := by
  refine does_start rfl ?_
  repeat' first
    | simp +contextual only [go_sem, Nat.reduceAdd, Nat.reduceLeDiff, Nat.reduceSub, Nat.reduceLT, Int.reduceLT, Int.reduceLE, Int.reduceEq, reduceCtorEq]
    | refine brB_dec (fun hc => ?_) (fun hc => ?_)
    | refine brB_split (fun hc => ?_) (fun hc => ?_)
    | refine caR_fun (s_ref07_May hv) (by rfl) (.inr (by rfl)) (by rfl) ?_
    | refine gcR_fun (fun hg => s_ref07_May hv) (fun h => by first | exact h | rfl | simp_all) (by rfl) (.inr (by rfl)) (by rfl) ?_
    | refine caR_fun (s_ref07_Calls _) (by rfl) (.inr (by rfl)) (by rfl) ?_
    | refine gcR_fun (fun hg => s_ref07_Calls _) (fun h => by first | exact h | rfl | simp_all) (by rfl) (.inr (by rfl)) (by rfl) ?_
  exact endF_of (by first | exact resAll2 (by rfl) (by rfl) | exact resAll3 (by rfl) (by rfl) (by rfl) | rfl) (by rfl) ⟨by rfl, rfl⟩

/-! ### bits -/
abbrev uAnd (n m : Int) : Int := kAnd .u8 n m
abbrev uOr (n m : Int) : Int := kOr .u8 n m
abbrev uAndNot (n m : Int) : Int := kAndNot .u8 n m
abbrev uNot (n : Int) : Int := kNot .u8 n
def hasR (n m : Int) : Bool := decide ((IntKind.u8.wrap (n.tdiv m)).tmod 2 = 1)
theorem band_1 {n : Int} (h : inU8 n) : decide (uAnd n 1 = 0) = !hasB n 1 := u8_all (p := fun n => decide (uAnd n 1 = 0) = !hasB n 1) (by decide +kernel) h
theorem band_2 {n : Int} (h : inU8 n) : decide (uAnd n 2 = 0) = !hasB n 2 := u8_all (p := fun n => decide (uAnd n 2 = 0) = !hasB n 2) (by decide +kernel) h
theorem band_4 {n : Int} (h : inU8 n) : decide (uAnd n 4 = 0) = !hasB n 4 := u8_all (p := fun n => decide (uAnd n 4 = 0) = !hasB n 4) (by decide +kernel) h
theorem band_8 {n : Int} (h : inU8 n) : decide (uAnd n 8 = 0) = !hasB n 8 := u8_all (p := fun n => decide (uAnd n 8 = 0) = !hasB n 8) (by decide +kernel) h
theorem band_16 {n : Int} (h : inU8 n) : decide (uAnd n 16 = 0) = !hasB n 16 := u8_all (p := fun n => decide (uAnd n 16 = 0) = !hasB n 16) (by decide +kernel) h
theorem band_32 {n : Int} (h : inU8 n) : decide (uAnd n 32 = 0) = !hasB n 32 := u8_all (p := fun n => decide (uAnd n 32 = 0) = !hasB n 32) (by decide +kernel) h
theorem bnot_1 {n : Int} (h : inU8 n) : decide (uAnd (uNot n) 1 = 0) = hasB n 1 := u8_all (p := fun n => decide (uAnd (uNot n) 1 = 0) = hasB n 1) (by decide +kernel) h
theorem bnot_2 {n : Int} (h : inU8 n) : decide (uAnd (uNot n) 2 = 0) = hasB n 2 := u8_all (p := fun n => decide (uAnd (uNot n) 2 = 0) = hasB n 2) (by decide +kernel) h
theorem bnot_4 {n : Int} (h : inU8 n) : decide (uAnd (uNot n) 4 = 0) = hasB n 4 := u8_all (p := fun n => decide (uAnd (uNot n) 4 = 0) = hasB n 4) (by decide +kernel) h
theorem bnot_8 {n : Int} (h : inU8 n) : decide (uAnd (uNot n) 8 = 0) = hasB n 8 := u8_all (p := fun n => decide (uAnd (uNot n) 8 = 0) = hasB n 8) (by decide +kernel) h
theorem bnot_16 {n : Int} (h : inU8 n) : decide (uAnd (uNot n) 16 = 0) = hasB n 16 := u8_all (p := fun n => decide (uAnd (uNot n) 16 = 0) = hasB n 16) (by decide +kernel) h
theorem bnot_32 {n : Int} (h : inU8 n) : decide (uAnd (uNot n) 32 = 0) = hasB n 32 := u8_all (p := fun n => decide (uAnd (uNot n) 32 = 0) = hasB n 32) (by decide +kernel) h
theorem band_3 {n : Int} (h : inU8 n) : decide (uAnd n 3 = 0) = (!hasB n 1 && !hasB n 2) := u8_all (p := fun n => decide (uAnd n 3 = 0) = (!hasB n 1 && !hasB n 2)) (by decide +kernel) h
theorem band_12 {n : Int} (h : inU8 n) : decide (uAnd n 12 = 0) = (!hasB n 4 && !hasB n 8) := u8_all (p := fun n => decide (uAnd n 12 = 0) = (!hasB n 4 && !hasB n 8)) (by decide +kernel) h
theorem band_63 {n : Int} (h : inU8 n) : decide (uAndNot n 63 = 0) = decide (n ≤ 63) := u8_all (p := fun n => decide (uAndNot n 63 = 0) = decide (n ≤ 63)) (by decide +kernel) h
theorem hasR_1 {n : Int} (h : inU8 n) : hasR n 1 = hasB n 1 := u8_all (p := fun n => hasR n 1 = hasB n 1) (by decide +kernel) h
theorem hasR_2 {n : Int} (h : inU8 n) : hasR n 2 = hasB n 2 := u8_all (p := fun n => hasR n 2 = hasB n 2) (by decide +kernel) h
theorem hasR_4 {n : Int} (h : inU8 n) : hasR n 4 = hasB n 4 := u8_all (p := fun n => hasR n 4 = hasB n 4) (by decide +kernel) h
theorem hasR_8 {n : Int} (h : inU8 n) : hasR n 8 = hasB n 8 := u8_all (p := fun n => hasR n 8 = hasB n 8) (by decide +kernel) h
theorem hasR_16 {n : Int} (h : inU8 n) : hasR n 16 = hasB n 16 := u8_all (p := fun n => hasR n 16 = hasB n 16) (by decide +kernel) h
theorem hasR_32 {n : Int} (h : inU8 n) : hasR n 32 = hasB n 32 := u8_all (p := fun n => hasR n 32 = hasB n 32) (by decide +kernel) h
/-- which bits a descriptor of the kind 'has both' has -/
theorem bor_51 {n : Int} (h : inU8 n) : n ≤ 63 → (hasB n 4 || hasB n 8) = false → uOr n 51 = 51 := u8_all (p := fun n => n ≤ 63 → (hasB n 4 || hasB n 8) = false → uOr n 51 = 51) (by decide +kernel) h
theorem bor_60 {n : Int} (h : inU8 n) : n ≤ 63 → (hasB n 1 || hasB n 2) = false → uOr n 60 = 60 := u8_all (p := fun n => n ≤ 63 → (hasB n 1 || hasB n 2) = false → uOr n 60 = 60) (by decide +kernel) h
theorem has_51 {n : Int} (h : inU8 n) : n = 51 → (hasB n 4 || hasB n 8) = false := u8_all (p := fun n => n = 51 → (hasB n 4 || hasB n 8) = false) (by decide +kernel) h
theorem has_60 {n : Int} (h : inU8 n) : n = 60 → (hasB n 4 || hasB n 8) = true := u8_all (p := fun n => n = 60 → (hasB n 4 || hasB n 8) = true) (by decide +kernel) h

def isData (d : Desc) : Bool := hasB d.has 1 || hasB d.has 2
def isAccess (d : Desc) : Bool := hasB d.has 4 || hasB d.has 8
theorem s_desc_IsData {d : Desc} (hd : inU8 d.has) : Fun (Ev T G E) c_desc_IsData [vD d] (vB (isData d)) := by
  refine does_start rfl ?_
  repeat' first
    | simp +contextual only [go_sem, Nat.reduceAdd, Nat.reduceLeDiff, Nat.reduceSub, Nat.reduceLT, Int.reduceLT, Int.reduceLE, Int.reduceEq, reduceCtorEq]
    | refine brB_dec (fun hc => ?_) (fun hc => ?_)
    | refine brB_split (fun hc => ?_) (fun hc => ?_)
  refine endF_of (by first | exact resAll2 (by rfl) (by rfl) | exact resAll3 (by rfl) (by rfl) (by rfl) | rfl) (by rfl) ⟨?_, rfl⟩
  rw [show isData d = !decide (uAnd d.has 3 = 0) by rw [band_3 hd]; simp [isData]]
theorem s_desc_IsAccess {d : Desc} (hd : inU8 d.has) : Fun (Ev T G E) c_desc_IsAccess [vD d] (vB (isAccess d)) := by
  refine does_start rfl ?_
  repeat' first
    | simp +contextual only [go_sem, Nat.reduceAdd, Nat.reduceLeDiff, Nat.reduceSub, Nat.reduceLT, Int.reduceLT, Int.reduceLE, Int.reduceEq, reduceCtorEq]
    | refine brB_dec (fun hc => ?_) (fun hc => ?_)
    | refine brB_split (fun hc => ?_) (fun hc => ?_)
  refine endF_of (by first | exact resAll2 (by rfl) (by rfl) | exact resAll3 (by rfl) (by rfl) (by rfl) | rfl) (by rfl) ⟨?_, rfl⟩
  rw [show isAccess d = !decide (uAnd d.has 12 = 0) by rw [band_12 hd]; simp [isAccess]]
theorem s_ref09_Has (d : Desc) {m : Int} (hm : m ≠ 0) : Fun (Ev T G E) c_bailiffref09_Has [vD d, vU m] (vB (hasR d.has m)) := by
  refine does_start rfl ?_
  simp +contextual only [go_sem, Nat.reduceAdd, Nat.reduceLeDiff, Nat.reduceSub, Nat.reduceLT, Int.reduceLT, Int.reduceLE, Int.reduceEq, reduceCtorEq, ne_eq, hm]
  exact endF_of (by first | exact resAll2 (by rfl) (by rfl) | exact resAll3 (by rfl) (by rfl) (by rfl) | rfl) (by rfl) ⟨by rfl, rfl⟩
attribute [irreducible] hasR
theorem s_ref09_IsData {d : Desc} (hd : inU8 d.has) : Fun (Ev T G E) c_bailiffref09_IsData [vD d] (vB (isData d)) := by
  refine does_start rfl ?_
  repeat' first
    | simp +contextual only [go_sem, Nat.reduceAdd, Nat.reduceLeDiff, Nat.reduceSub, Nat.reduceLT, Int.reduceLT, Int.reduceLE, Int.reduceEq, reduceCtorEq]
    | refine brB_dec (fun hc => ?_) (fun hc => ?_)
    | refine brB_split (fun hc => ?_) (fun hc => ?_)
    | refine caR_fun (s_ref09_Has d (m := 1) (by decide)) (by rfl) (.inr (by rfl)) (by rfl) ?_
    | refine gcR_fun (fun hg => s_ref09_Has d (m := 1) (by decide)) (fun h => by first | exact h | rfl | simp_all) (by rfl) (.inr (by rfl)) (by rfl) ?_
    | refine caR_fun (s_ref09_Has d (m := 2) (by decide)) (by rfl) (.inr (by rfl)) (by rfl) ?_
    | refine gcR_fun (fun hg => s_ref09_Has d (m := 2) (by decide)) (fun h => by first | exact h | rfl | simp_all) (by rfl) (.inr (by rfl)) (by rfl) ?_
  refine endF_of (by first | exact resAll2 (by rfl) (by rfl) | exact resAll3 (by rfl) (by rfl) (by rfl) | rfl) (by rfl) ⟨?_, rfl⟩
  simp only [isData, hasR_1 hd, hasR_2 hd]
theorem s_ref09_IsAccess {d : Desc} (hd : inU8 d.has) : Fun (Ev T G E) c_bailiffref09_IsAccess [vD d] (vB (isAccess d)) := by
  refine does_start rfl ?_
  repeat' first
    | simp +contextual only [go_sem, Nat.reduceAdd, Nat.reduceLeDiff, Nat.reduceSub, Nat.reduceLT, Int.reduceLT, Int.reduceLE, Int.reduceEq, reduceCtorEq]
    | refine brB_dec (fun hc => ?_) (fun hc => ?_)
    | refine brB_split (fun hc => ?_) (fun hc => ?_)
    | refine caR_fun (s_ref09_Has d (m := 4) (by decide)) (by rfl) (.inr (by rfl)) (by rfl) ?_
    | refine gcR_fun (fun hg => s_ref09_Has d (m := 4) (by decide)) (fun h => by first | exact h | rfl | simp_all) (by rfl) (.inr (by rfl)) (by rfl) ?_
    | refine caR_fun (s_ref09_Has d (m := 8) (by decide)) (by rfl) (.inr (by rfl)) (by rfl) ?_
    | refine gcR_fun (fun hg => s_ref09_Has d (m := 8) (by decide)) (fun h => by first | exact h | rfl | simp_all) (by rfl) (.inr (by rfl)) (by rfl) ?_
  refine endF_of (by first | exact resAll2 (by rfl) (by rfl) | exact resAll3 (by rfl) (by rfl) (by rfl) | rfl) (by rfl) ⟨?_, rfl⟩
  simp only [isAccess, hasR_4 hd, hasR_8 hd]

theorem val_ext {a b : Val} : a = b ↔ a.kind = b.kind ∧ a.num = b.num ∧ a.str = b.str ∧ a.ref = b.ref := by cases a; cases b; simp
theorem s_ref07_Alike_self {v : Val} (hv : v.wf) : Fun (Ev T G E) c_bailiffref07_Alike [vV v, vV v] (vB true) := by
  refine does_start rfl ?_
  repeat' first
    | simp +contextual only [go_sem, Nat.reduceAdd, Nat.reduceLeDiff, Nat.reduceSub, Nat.reduceLT, Int.reduceLT, Int.reduceLE, Int.reduceEq, reduceCtorEq]
    | refine brB_dec (fun hc => ?_) (fun hc => ?_)
    | refine brB_split (fun hc => ?_) (fun hc => ?_)
    | refine caR_fun (s_ref01_Same_self hv.2.1) (by rfl) (.inr (by rfl)) (by rfl) ?_
    | refine gcR_fun (fun hg => s_ref01_Same_self hv.2.1) (fun h => by first | exact h | rfl | simp_all) (by rfl) (.inr (by rfl)) (by rfl) ?_
  refine endF_of (by first | exact resAll2 (by rfl) (by rfl) | exact resAll3 (by rfl) (by rfl) (by rfl) | rfl) (by rfl) ⟨?_, rfl⟩
  simp
theorem s_ref07_Alike_zero {v : Val} (hv : v.wf) : Fun (Ev T G E) c_bailiffref07_Alike [vV v, vV .zero] (vB (decide (v = .zero))) := by
  refine does_start rfl ?_
  repeat' first
    | simp +contextual only [go_sem, Nat.reduceAdd, Nat.reduceLeDiff, Nat.reduceSub, Nat.reduceLT, Int.reduceLT, Int.reduceLE, Int.reduceEq, reduceCtorEq]
    | refine brB_dec (fun hc => ?_) (fun hc => ?_)
    | refine brB_split (fun hc => ?_) (fun hc => ?_)
    | refine caR_fun (s_ref01_Same_zero hv.2.1) (by rfl) (.inr (by rfl)) (by rfl) ?_
    | refine gcR_fun (fun hg => s_ref01_Same_zero hv.2.1) (fun h => by first | exact h | rfl | simp_all) (by rfl) (.inr (by rfl)) (by rfl) ?_
  refine endF_of (by first | exact resAll2 (by rfl) (by rfl) | exact resAll3 (by rfl) (by rfl) (by rfl) | rfl) (by rfl) ⟨?_, rfl⟩
  simp only [val_ext, Val.zero]
  simp
  grind
theorem s_ref09_bare {v : Val} (hv : v.wf) : Fun (Ev T G E) c_bailiffref09_bare [vV v] (vB (decide (v = .zero))) := by
  refine does_start rfl ?_
  repeat' first
    | simp +contextual only [go_sem, Nat.reduceAdd, Nat.reduceLeDiff, Nat.reduceSub, Nat.reduceLT, Int.reduceLT, Int.reduceLE, Int.reduceEq, reduceCtorEq]
    | refine brB_dec (fun hc => ?_) (fun hc => ?_)
    | refine brB_split (fun hc => ?_) (fun hc => ?_)
    | refine caR_fun (s_ref07_Alike_zero hv) (by rfl) (.inr (by rfl)) (by rfl) ?_
    | refine gcR_fun (fun hg => s_ref07_Alike_zero hv) (fun h => by first | exact h | rfl | simp_all) (by rfl) (.inr (by rfl)) (by rfl) ?_
  exact endF_of (by first | exact resAll2 (by rfl) (by rfl) | exact resAll3 (by rfl) (by rfl) (by rfl) | rfl) (by rfl) ⟨by rfl, rfl⟩

/-- may a descriptor be? -/
def descOk (d : Desc) : Bool :=
  decide (d.has ≤ 63) && !(isData d && isAccess d) && (if hasB d.has 1 then valMay d.value else decide (d.value = .zero)) &&
  (if hasB d.has 4 then calledB d.get else decide (d.get = .zero)) && (if hasB d.has 8 then calledB d.set else decide (d.set = .zero)) &&
  (!d.writable || hasB d.has 2) && (!d.enumerable || hasB d.has 16) && (!d.configurable || hasB d.has 32)
def descCheck (d : Desc) : Int := if descOk d then 0 else 90
set_option maxHeartbeats 4000000 in
theorem s_ref09_Check {d : Desc} (hd : d.wf) : Fun (Ev T G E) c_bailiffref09_Check [vD d] (vI (descCheck d)) := by
  obtain ⟨h0, h1, h2, h3⟩ := hd
  refine does_start rfl ?_
  repeat' first
    | simp +contextual only [go_sem, Nat.reduceAdd, Nat.reduceLeDiff, Nat.reduceSub, Nat.reduceLT, Int.reduceLT, Int.reduceLE, Int.reduceEq, reduceCtorEq]
    | refine brB_dec (fun hc => ?_) (fun hc => ?_)
    | refine brB_split (fun hc => ?_) (fun hc => ?_)
    | refine caR_fun (s_ref09_IsData h0) (by rfl) (.inr (by rfl)) (by rfl) ?_
    | refine gcR_fun (fun hg => s_ref09_IsData h0) (fun h => by first | exact h | rfl | simp_all) (by rfl) (.inr (by rfl)) (by rfl) ?_
    | refine caR_fun (s_ref09_IsAccess h0) (by rfl) (.inr (by rfl)) (by rfl) ?_
    | refine gcR_fun (fun hg => s_ref09_IsAccess h0) (fun h => by first | exact h | rfl | simp_all) (by rfl) (.inr (by rfl)) (by rfl) ?_
    | refine caR_fun (s_ref09_bare h1) (by rfl) (.inr (by rfl)) (by rfl) ?_
    | refine gcR_fun (fun hg => s_ref09_bare h1) (fun h => by first | exact h | rfl | simp_all) (by rfl) (.inr (by rfl)) (by rfl) ?_
    | refine caR_fun (s_ref09_bare h2) (by rfl) (.inr (by rfl)) (by rfl) ?_
    | refine gcR_fun (fun hg => s_ref09_bare h2) (fun h => by first | exact h | rfl | simp_all) (by rfl) (.inr (by rfl)) (by rfl) ?_
    | refine caR_fun (s_ref09_bare h3) (by rfl) (.inr (by rfl)) (by rfl) ?_
    | refine gcR_fun (fun hg => s_ref09_bare h3) (fun h => by first | exact h | rfl | simp_all) (by rfl) (.inr (by rfl)) (by rfl) ?_
    | refine caR_fun (s_ref07_May h1) (by rfl) (.inr (by rfl)) (by rfl) ?_
    | refine gcR_fun (fun hg => s_ref07_May h1) (fun h => by first | exact h | rfl | simp_all) (by rfl) (.inr (by rfl)) (by rfl) ?_
    | refine caR_fun (s_ref09_called h2) (by rfl) (.inr (by rfl)) (by rfl) ?_
    | refine gcR_fun (fun hg => s_ref09_called h2) (fun h => by first | exact h | rfl | simp_all) (by rfl) (.inr (by rfl)) (by rfl) ?_
    | refine caR_fun (s_ref09_called h3) (by rfl) (.inr (by rfl)) (by rfl) ?_
    | refine gcR_fun (fun hg => s_ref09_called h3) (fun h => by first | exact h | rfl | simp_all) (by rfl) (.inr (by rfl)) (by rfl) ?_
    | refine caR_fun (s_ref09_Has d (m := 1) (by decide)) (by rfl) (.inr (by rfl)) (by rfl) ?_
    | refine gcR_fun (fun hg => s_ref09_Has d (m := 1) (by decide)) (fun h => by first | exact h | rfl | simp_all) (by rfl) (.inr (by rfl)) (by rfl) ?_
    | refine caR_fun (s_ref09_Has d (m := 2) (by decide)) (by rfl) (.inr (by rfl)) (by rfl) ?_
    | refine gcR_fun (fun hg => s_ref09_Has d (m := 2) (by decide)) (fun h => by first | exact h | rfl | simp_all) (by rfl) (.inr (by rfl)) (by rfl) ?_
    | refine caR_fun (s_ref09_Has d (m := 4) (by decide)) (by rfl) (.inr (by rfl)) (by rfl) ?_
    | refine gcR_fun (fun hg => s_ref09_Has d (m := 4) (by decide)) (fun h => by first | exact h | rfl | simp_all) (by rfl) (.inr (by rfl)) (by rfl) ?_
    | refine caR_fun (s_ref09_Has d (m := 8) (by decide)) (by rfl) (.inr (by rfl)) (by rfl) ?_
    | refine gcR_fun (fun hg => s_ref09_Has d (m := 8) (by decide)) (fun h => by first | exact h | rfl | simp_all) (by rfl) (.inr (by rfl)) (by rfl) ?_
    | refine caR_fun (s_ref09_Has d (m := 16) (by decide)) (by rfl) (.inr (by rfl)) (by rfl) ?_
    | refine gcR_fun (fun hg => s_ref09_Has d (m := 16) (by decide)) (fun h => by first | exact h | rfl | simp_all) (by rfl) (.inr (by rfl)) (by rfl) ?_
    | refine caR_fun (s_ref09_Has d (m := 32) (by decide)) (by rfl) (.inr (by rfl)) (by rfl) ?_
    | refine gcR_fun (fun hg => s_ref09_Has d (m := 32) (by decide)) (fun h => by first | exact h | rfl | simp_all) (by rfl) (.inr (by rfl)) (by rfl) ?_
  all_goals refine endF_of (by first | exact resAll2 (by rfl) (by rfl) | exact resAll3 (by rfl) (by rfl) (by rfl) | rfl) (by rfl) ⟨?_, rfl⟩
  all_goals (try simp only [hasR_1 h0, hasR_2 h0, hasR_4 h0, hasR_8 h0, hasR_16 h0, hasR_32 h0] at *)
  all_goals simp_all [descCheck, descOk]
  all_goals grind

theorem valEq_zero {v : Val} (hv : v.wf) (h : valMay v = true) : valEq v .zero = decide (v = .zero) := by
  have hz := zero_may hv.2.1
  simp only [valEq, Val.zero, val_ext]
  by_cases hk : v.kind = 0
  · have : decide (v.num = 0) = true := by
      simp only [valMay, hk] at h
      simp at h
      simp [h]
    rw [this] at hz
    simp only [Bool.and_eq_true] at hz
    simp only [decide_eq_true_eq] at this
    simp [hz.1, hk, this]
    grind
  · simp [hk]
theorem zero_valMay : valMay .zero = true := by decide +kernel
theorem zero_called : calledB .zero = true := by decide +kernel
theorem called_valMay {v : Val} (h : calledB v = true) : valMay v = true := by simp only [calledB, Bool.and_eq_true] at h; exact h.1

set_option maxHeartbeats 4000000 in
theorem s_desc_Check {d : Desc} (hd : d.wf) : Fun (Ev T G E) c_desc_Check [vD d] (vI (descCheck d)) := by
  obtain ⟨h0, h1, h2, h3⟩ := hd
  have f1 := fun h => valEq_zero h1 h
  have f2 := fun h => valEq_zero h2 (called_valMay h)
  have f3 := fun h => valEq_zero h3 (called_valMay h)
  have g1 : d.value = .zero → valMay d.value = true := fun h => by rw [h]; exact zero_valMay
  have g2 : d.get = .zero → calledB d.get = true := fun h => by rw [h]; exact zero_called
  have g3 : d.set = .zero → calledB d.set = true := fun h => by rw [h]; exact zero_called
  refine does_start rfl ?_
  repeat' first
    | simp +contextual only [go_sem, Nat.reduceAdd, Nat.reduceLeDiff, Nat.reduceSub, Nat.reduceLT, Int.reduceLT, Int.reduceLE, Int.reduceEq, reduceCtorEq]
    | refine brB_dec (fun hc => ?_) (fun hc => ?_)
    | refine brB_split (fun hc => ?_) (fun hc => ?_)
    | refine caR_fun (s_desc_IsData h0) (by rfl) (.inr (by rfl)) (by rfl) ?_
    | refine gcR_fun (fun hg => s_desc_IsData h0) (fun h => by first | exact h | rfl | simp_all) (by rfl) (.inr (by rfl)) (by rfl) ?_
    | refine caR_fun (s_desc_IsAccess h0) (by rfl) (.inr (by rfl)) (by rfl) ?_
    | refine gcR_fun (fun hg => s_desc_IsAccess h0) (fun h => by first | exact h | rfl | simp_all) (by rfl) (.inr (by rfl)) (by rfl) ?_
    | refine caR_fun (s_value_May h1) (by rfl) (.inr (by rfl)) (by rfl) ?_
    | refine gcR_fun (fun hg => s_value_May h1) (fun h => by first | exact h | rfl | simp_all) (by rfl) (.inr (by rfl)) (by rfl) ?_
    | refine caR_fun (s_desc_called h2) (by rfl) (.inr (by rfl)) (by rfl) ?_
    | refine gcR_fun (fun hg => s_desc_called h2) (fun h => by first | exact h | rfl | simp_all) (by rfl) (.inr (by rfl)) (by rfl) ?_
    | refine caR_fun (s_desc_called h3) (by rfl) (.inr (by rfl)) (by rfl) ?_
    | refine gcR_fun (fun hg => s_desc_called h3) (fun h => by first | exact h | rfl | simp_all) (by rfl) (.inr (by rfl)) (by rfl) ?_
  all_goals refine endF_of (by first | exact resAll2 (by rfl) (by rfl) | exact resAll3 (by rfl) (by rfl) (by rfl) | rfl) (by rfl) ⟨?_, rfl⟩
  all_goals simp only [band_63 h0, bnot_1 h0, bnot_2 h0, bnot_4 h0, bnot_8 h0, bnot_16 h0, bnot_32 h0] at *
  all_goals simp_all [descCheck, descOk]
  all_goals grind
end Go.Lx

/- Whole descriptors; places of keys; checks of tables. -/
set_option linter.unusedVariables false
set_option linter.unusedSimpArgs false
set_option maxRecDepth 100000
namespace Go.Lx
variable {T G E : Nat}

def isWhole (d : Desc) : Bool := descOk d && (decide (d.has = 51) || decide (d.has = 60))
theorem s_ref09_IsWhole {d : Desc} (hd : d.wf) : Fun (Ev T G E) c_bailiffref09_IsWhole [vD d] (vB (isWhole d)) := by
  refine does_start rfl ?_
  repeat' first
    | simp +contextual only [go_sem, Nat.reduceAdd, Nat.reduceLeDiff, Nat.reduceSub, Nat.reduceLT, Int.reduceLT, Int.reduceLE, Int.reduceEq, reduceCtorEq]
    | refine brB_dec (fun hc => ?_) (fun hc => ?_)
    | refine brB_split (fun hc => ?_) (fun hc => ?_)
    | refine caR_fun (s_ref09_Check hd) (by rfl) (.inr (by rfl)) (by rfl) ?_
    | refine gcR_fun (fun hg => s_ref09_Check hd) (fun h => by first | exact h | rfl | simp_all) (by rfl) (.inr (by rfl)) (by rfl) ?_
  refine endF_of (by first | exact resAll2 (by rfl) (by rfl) | exact resAll3 (by rfl) (by rfl) (by rfl) | rfl) (by rfl) ⟨?_, rfl⟩
  simp [isWhole, descCheck]
/-- made complete -/
def wholeD (d : Desc) : Desc := { d with has := if isAccess d then uOr d.has 60 else uOr d.has 51 }
theorem s_desc_whole {d : Desc} (hd : inU8 d.has) : Fun (Ev T G E) c_desc_whole [vD d] (vD (wholeD d)) := by
  refine does_start rfl ?_
  repeat' first
    | simp +contextual only [go_sem, Nat.reduceAdd, Nat.reduceLeDiff, Nat.reduceSub, Nat.reduceLT, Int.reduceLT, Int.reduceLE, Int.reduceEq, reduceCtorEq]
    | refine brB_dec (fun hc => ?_) (fun hc => ?_)
    | refine brB_split (fun hc => ?_) (fun hc => ?_)
    | refine caR_fun (s_desc_IsAccess hd) (by rfl) (.inr (by rfl)) (by rfl) ?_
    | refine gcR_fun (fun hg => s_desc_IsAccess hd) (fun h => by first | exact h | rfl | simp_all) (by rfl) (.inr (by rfl)) (by rfl) ?_
  all_goals refine endF_of (by first | exact resAll2 (by rfl) (by rfl) | exact resAll3 (by rfl) (by rfl) (by rfl) | rfl) (by rfl) ⟨?_, rfl⟩
  all_goals simp_all [wholeD, ofU_a]
theorem s_desc_Complete {d : Desc} (hd : d.wf) : Fun (Ev T G E) c_desc_Complete [vD d] (.tup [if descOk d then vD (wholeD d) else vD .zero, vI (descCheck d)]) := by
  refine does_start rfl ?_
  repeat' first
    | simp +contextual only [go_sem, Nat.reduceAdd, Nat.reduceLeDiff, Nat.reduceSub, Nat.reduceLT, Int.reduceLT, Int.reduceLE, Int.reduceEq, reduceCtorEq]
    | refine brB_dec (fun hc => ?_) (fun hc => ?_)
    | refine brB_split (fun hc => ?_) (fun hc => ?_)
    | refine caR_fun (s_desc_Check hd) (by rfl) (.inr (by rfl)) (by rfl) ?_
    | refine gcR_fun (fun hg => s_desc_Check hd) (fun h => by first | exact h | rfl | simp_all) (by rfl) (.inr (by rfl)) (by rfl) ?_
    | refine caR_fun (s_desc_whole hd.1) (by rfl) (.inr (by rfl)) (by rfl) ?_
    | refine gcR_fun (fun hg => s_desc_whole hd.1) (fun h => by first | exact h | rfl | simp_all) (by rfl) (.inr (by rfl)) (by rfl) ?_
  all_goals refine endF_of (by first | exact resAll2 (by rfl) (by rfl) | exact resAll3 (by rfl) (by rfl) (by rfl) | rfl) (by rfl) ⟨?_, rfl⟩
  all_goals simp_all [descCheck, ofU_a]
theorem whole_access {n : Int} (h : inU8 n) : n ≤ 63 → (hasB n 4 || hasB n 8) = true → (hasB n 1 || hasB n 2) = false → (decide (uOr n 60 = n)) = (decide (n = 51) || decide (n = 60)) :=
  u8_all (p := fun n => n ≤ 63 → (hasB n 4 || hasB n 8) = true → (hasB n 1 || hasB n 2) = false → (decide (uOr n 60 = n)) = (decide (n = 51) || decide (n = 60))) (by decide +kernel) h
theorem whole_data {n : Int} (h : inU8 n) : n ≤ 63 → (hasB n 4 || hasB n 8) = false → (decide (uOr n 51 = n)) = (decide (n = 51) || decide (n = 60)) :=
  u8_all (p := fun n => n ≤ 63 → (hasB n 4 || hasB n 8) = false → (decide (uOr n 51 = n)) = (decide (n = 51) || decide (n = 60))) (by decide +kernel) h
theorem wholeD_has {d : Desc} (hd : d.wf) (h : descOk d = true) : decide ((wholeD d).has = d.has) = (decide (d.has = 51) || decide (d.has = 60)) := by
  simp only [descOk, Bool.and_eq_true, Bool.not_eq_true', Bool.and_eq_false_iff, decide_eq_true_eq] at h
  have h63 := h.1.1.1.1.1.1.1
  have hda := h.1.1.1.1.1.1.2
  unfold wholeD
  by_cases ha : isAccess d = true
  · have hdd : isData d = false := by rcases hda with k | k; exact k; rw [ha] at k; cases k
    simp only [ha, if_true]
    exact whole_access hd.1 h63 ha hdd
  · have ha : isAccess d = false := by simpa using ha
    simp only [ha, Bool.false_eq_true, if_false]
    exact whole_data hd.1 h63 ha
theorem s_table_whole {d : Desc} (hd : d.wf) : Fun (Ev T G E) c_table_whole [vD d] (vB (isWhole d)) := by
  by_cases h : descOk d = true
  · have hs := s_desc_Complete (T := T) (G := G) (E := E) hd
    simp only [h, if_true, descCheck] at hs
    have hw := wholeD_has hd h
    refine does_start rfl ?_
    repeat' first
      | simp +contextual only [go_sem, Nat.reduceAdd, Nat.reduceLeDiff, Nat.reduceSub, Nat.reduceLT, Int.reduceLT, Int.reduceLE, Int.reduceEq, reduceCtorEq]
      | refine brB_dec (fun hc => ?_) (fun hc => ?_)
      | refine brB_split (fun hc => ?_) (fun hc => ?_)
      | refine caR_fun (hs) (by rfl) (.inr (by rfl)) (by rfl) ?_
      | refine gcR_fun (fun hg => hs) (fun h => by first | exact h | rfl | simp_all) (by rfl) (.inr (by rfl)) (by rfl) ?_
    refine endF_of (by first | exact resAll2 (by rfl) (by rfl) | exact resAll3 (by rfl) (by rfl) (by rfl) | rfl) (by rfl) ⟨?_, rfl⟩
    simp [isWhole, h, hw]
  · have h : descOk d = false := by simpa using h
    have hs := s_desc_Complete (T := T) (G := G) (E := E) hd
    simp only [h, Bool.false_eq_true, if_false, descCheck] at hs
    refine does_start rfl ?_
    repeat' first
      | simp +contextual only [go_sem, Nat.reduceAdd, Nat.reduceLeDiff, Nat.reduceSub, Nat.reduceLT, Int.reduceLT, Int.reduceLE, Int.reduceEq, reduceCtorEq]
      | refine brB_dec (fun hc => ?_) (fun hc => ?_)
      | refine brB_split (fun hc => ?_) (fun hc => ?_)
      | refine caR_fun (hs) (by rfl) (.inr (by rfl)) (by rfl) ?_
      | refine gcR_fun (fun hg => hs) (fun h => by first | exact h | rfl | simp_all) (by rfl) (.inr (by rfl)) (by rfl) ?_
    refine endF_of (by first | exact resAll2 (by rfl) (by rfl) | exact resAll3 (by rfl) (by rfl) (by rfl) | rfl) (by rfl) ⟨?_, rfl⟩
    simp [isWhole, h]
theorem s_ref09_Alike_self {d : Desc} (hd : d.wf) : Fun (Ev T G E) c_bailiffref09_Alike [vD d, vD d] (vB true) := by
  refine does_start rfl ?_
  repeat' first
    | simp +contextual only [go_sem, Nat.reduceAdd, Nat.reduceLeDiff, Nat.reduceSub, Nat.reduceLT, Int.reduceLT, Int.reduceLE, Int.reduceEq, reduceCtorEq]
    | refine brB_dec (fun hc => ?_) (fun hc => ?_)
    | refine brB_split (fun hc => ?_) (fun hc => ?_)
    | refine caR_fun (s_ref07_Alike_self hd.2.1) (by rfl) (.inr (by rfl)) (by rfl) ?_
    | refine gcR_fun (fun hg => s_ref07_Alike_self hd.2.1) (fun h => by first | exact h | rfl | simp_all) (by rfl) (.inr (by rfl)) (by rfl) ?_
    | refine caR_fun (s_ref07_Alike_self hd.2.2.1) (by rfl) (.inr (by rfl)) (by rfl) ?_
    | refine gcR_fun (fun hg => s_ref07_Alike_self hd.2.2.1) (fun h => by first | exact h | rfl | simp_all) (by rfl) (.inr (by rfl)) (by rfl) ?_
    | refine caR_fun (s_ref07_Alike_self hd.2.2.2) (by rfl) (.inr (by rfl)) (by rfl) ?_
    | refine gcR_fun (fun hg => s_ref07_Alike_self hd.2.2.2) (fun h => by first | exact h | rfl | simp_all) (by rfl) (.inr (by rfl)) (by rfl) ?_
  refine endF_of (by first | exact resAll2 (by rfl) (by rfl) | exact resAll3 (by rfl) (by rfl) (by rfl) | rfl) (by rfl) ⟨?_, rfl⟩
  simp

/-! ### places -/
def place (l : List Prp) (k : Key) : Int := match l.findIdx? (fun p => decide (p.key = k)) with
  | some i => i
  | none => -1
theorem atP_get {l : List Prp} {i : Nat} (h : i < l.length) : l[i]? = some (atP l i) := by simp [atP, h]
theorem place_some {l : List Prp} {k : Key} {i : Nat} (h : i < l.length) (hk : (atP l i).key = k) (hj : ∀ j, j < i → (atP l j).key ≠ k) : place l k = i := by
  have : l.findIdx? (fun p => decide (p.key = k)) = some i := by
    rw [List.findIdx?_eq_some_iff_getElem]
    refine ⟨h, ?_, fun j hj' => ?_⟩
    · have := atP_get h
      rw [List.getElem?_eq_getElem h] at this
      injection this with this
      rw [this]; simpa using hk
    · have hjl : j < l.length := by omega
      have := atP_get hjl
      rw [List.getElem?_eq_getElem hjl] at this
      injection this with this
      rw [this]; simpa using hj j hj'
  simp [place, this]
theorem place_none {l : List Prp} {k : Key} (hj : ∀ j, j < l.length → (atP l j).key ≠ k) : place l k = -1 := by
  have : l.findIdx? (fun p => decide (p.key = k)) = none := by
    rw [List.findIdx?_eq_none_iff]
    intro p hp
    obtain ⟨j, hlt, rfl⟩ := List.getElem_of_mem hp
    have := atP_get hlt
    rw [List.getElem?_eq_getElem hlt] at this
    injection this with this
    rw [this]; simpa using hj j hlt
  simp [place, this]
theorem s_table_at {l : List Prp} (hl : l.length ≤ 4294967296) (k : Key) : Fun (Ev T G E) c_table_at [vPs l, vK k] (vI (place l k)) := by
  refine does_start rfl ?_
  simp +contextual only [go_sem, Nat.reduceAdd, Nat.reduceLeDiff, Nat.reduceSub, Nat.reduceLT, Int.reduceLT, Int.reduceLE, Int.reduceEq, reduceCtorEq]
  refine xK_loop (fun i : Nat => ⟨[(0, (true, vPs l)), (3, (true, .s (.ptr 0 0))), (7, (true, vI l.length)), (8, (true, vI i))], [.boxu (encKey k)]⟩) (fun i => i ≤ l.length ∧ ∀ j, j < i → (atP l j).key ≠ k) (fun i => l.length - i) 0 (lw_gc [0, 3, 7, 8] [0] (by rfl) (by rfl)) ⟨by omega, by omega⟩ ?_
  rintro i ⟨hi, hj⟩
  simp +contextual only [go_sem, Nat.reduceAdd, Nat.reduceLeDiff, Nat.reduceSub, Nat.reduceLT, Int.reduceLT, Int.reduceLE, Int.reduceEq, reduceCtorEq]
  refine brB_dec (fun hc => ?_) (fun hc => ?_)
  · have hi' : i < l.length := by omega
    simp +contextual only [go_sem, Nat.reduceAdd, Nat.reduceLeDiff, Nat.reduceSub, Nat.reduceLT, Int.reduceLT, Int.reduceLE, Int.reduceEq, reduceCtorEq, hc, elemP hi', hi']
    refine brB_dec (fun hk => ?_) (fun hk => ?_)
    · simp +contextual only [go_sem, Nat.reduceAdd, Nat.reduceLeDiff, Nat.reduceSub, Nat.reduceLT, Int.reduceLT, Int.reduceLE, Int.reduceEq, reduceCtorEq]
      refine endF_of (by first | exact resAll2 (by rfl) (by rfl) | exact resAll3 (by rfl) (by rfl) (by rfl) | rfl) (by rfl) ⟨?_, rfl⟩
      rw [place_some hi' hk hj]
    · simp +contextual only [go_sem, Nat.reduceAdd, Nat.reduceLeDiff, Nat.reduceSub, Nat.reduceLT, Int.reduceLT, Int.reduceLE, Int.reduceEq, reduceCtorEq, wrap_succ (show i < 4294967296 by omega)]
      exact ⟨i + 1, by omega, lw_gc [0, 3, 7, 8] [0] (by rfl) (by rfl), by omega, fun j hj' => by
        by_cases e : j = i
        · subst e; exact hk
        · exact hj j (by omega)⟩
  · simp +contextual only [go_sem, Nat.reduceAdd, Nat.reduceLeDiff, Nat.reduceSub, Nat.reduceLT, Int.reduceLT, Int.reduceLE, Int.reduceEq, reduceCtorEq]
    refine endF_of (by first | exact resAll2 (by rfl) (by rfl) | exact resAll3 (by rfl) (by rfl) (by rfl) | rfl) (by rfl) ⟨?_, rfl⟩
    rw [place_none (fun j hj' => hj j (by omega))]
theorem s_ref10_Place {l : List Prp} (hl : l.length ≤ 4294967296) (k : Key) : Fun (Ev T G E) c_bailiffref10_Place [vPs l, vK k] (vI (place l k)) := by
  refine does_start rfl ?_
  simp +contextual only [go_sem, Nat.reduceAdd, Nat.reduceLeDiff, Nat.reduceSub, Nat.reduceLT, Int.reduceLT, Int.reduceLE, Int.reduceEq, reduceCtorEq]
  refine xK_loop (fun i : Nat => ⟨[(0, (true, vPs l)), (3, (true, .s (.ptr 0 0))), (5, (true, vI i))], [.boxu (encKey k)]⟩) (fun i => i ≤ l.length ∧ ∀ j, j < i → (atP l j).key ≠ k) (fun i => l.length - i) 0 (lw_gc [0, 3, 5] [0] (by rfl) (by rfl)) ⟨by omega, by omega⟩ ?_
  rintro i ⟨hi, hj⟩
  simp +contextual only [go_sem, Nat.reduceAdd, Nat.reduceLeDiff, Nat.reduceSub, Nat.reduceLT, Int.reduceLT, Int.reduceLE, Int.reduceEq, reduceCtorEq]
  refine brB_dec (fun hc => ?_) (fun hc => ?_)
  · have hi' : i < l.length := by omega
    simp +contextual only [go_sem, Nat.reduceAdd, Nat.reduceLeDiff, Nat.reduceSub, Nat.reduceLT, Int.reduceLT, Int.reduceLE, Int.reduceEq, reduceCtorEq, hc, elemP hi', hi']
    refine brB_dec (fun hk => ?_) (fun hk => ?_)
    · simp +contextual only [go_sem, Nat.reduceAdd, Nat.reduceLeDiff, Nat.reduceSub, Nat.reduceLT, Int.reduceLT, Int.reduceLE, Int.reduceEq, reduceCtorEq]
      refine endF_of (by first | exact resAll2 (by rfl) (by rfl) | exact resAll3 (by rfl) (by rfl) (by rfl) | rfl) (by rfl) ⟨?_, rfl⟩
      rw [place_some hi' hk hj]
    · simp +contextual only [go_sem, Nat.reduceAdd, Nat.reduceLeDiff, Nat.reduceSub, Nat.reduceLT, Int.reduceLT, Int.reduceLE, Int.reduceEq, reduceCtorEq, wrap_succ (show i < 4294967296 by omega)]
      exact ⟨i + 1, by omega, lw_gc [0, 3, 5] [0] (by rfl) (by rfl), by omega, fun j hj' => by
        by_cases e : j = i
        · subst e; exact hk
        · exact hj j (by omega)⟩
  · simp +contextual only [go_sem, Nat.reduceAdd, Nat.reduceLeDiff, Nat.reduceSub, Nat.reduceLT, Int.reduceLT, Int.reduceLE, Int.reduceEq, reduceCtorEq]
    refine endF_of (by first | exact resAll2 (by rfl) (by rfl) | exact resAll3 (by rfl) (by rfl) (by rfl) | rfl) (by rfl) ⟨?_, rfl⟩
    rw [place_none (fun j hj' => hj j (by omega))]
end Go.Lx

/- Checks of tables. -/
set_option linter.unusedVariables false
set_option linter.unusedSimpArgs false
set_option maxRecDepth 100000
namespace Go.Lx
variable {T G E : Nat}

def wfP (l : List Prp) : Prop := ∀ i, i < l.length → (atP l i).wf
/-- what is wrong with a property of a table, as it stands behind others -/
def checkAt (l : List Prp) (i : Nat) : Int :=
  if keyCheck (atP l i).key ≠ 0 then 9 else if isWhole (atP l i).desc = false then 90 else if 0 ≤ place (l.take i) (atP l i).key then 100 else 0
def tableCheck (l : List Prp) : Int := if 1024 < l.length then 4 else match (List.range l.length).find? (fun i => decide (checkAt l i ≠ 0)) with
  | some i => checkAt l i
  | none => 0
theorem check_some {l : List Prp} {i : Nat} (h : l.length ≤ 1024) (hi : i < l.length) (hc : checkAt l i ≠ 0) (hj : ∀ j, j < i → checkAt l j = 0) : tableCheck l = checkAt l i := by
  have : (List.range l.length).find? (fun i => decide (checkAt l i ≠ 0)) = some i := by
    rw [List.find?_range_eq_some]
    refine ⟨by simpa using hc, by simpa using hi, fun j hj' => by simpa using hj j hj'⟩
  unfold tableCheck
  rw [if_neg (by omega), this]
theorem check_none {l : List Prp} (h : l.length ≤ 1024) (hj : ∀ j, j < l.length → checkAt l j = 0) : tableCheck l = 0 := by
  have : (List.range l.length).find? (fun i => decide (checkAt l i ≠ 0)) = none := by
    rw [List.find?_range_eq_none]
    exact fun j hj' => by simpa using hj j hj'
  unfold tableCheck
  rw [if_neg (by omega), this]
theorem atP_take {l : List Prp} {i j : Nat} (h : j < i) : atP (l.take i) j = atP l j := by simp [atP, List.getElem?_take, h]
theorem place_take {l : List Prp} {i : Nat} {k : Key} (hi : i ≤ l.length) : 0 ≤ place (l.take i) k ↔ ∃ j, j < i ∧ (atP l j).key = k := by
  have hlen : (l.take i).length = i := by simp; omega
  constructor
  · intro h
    apply Classical.byContradiction
    intro hn
    rw [place_none (fun j hj => fun e => hn ⟨j, by omega, by rw [← e, atP_take (by omega)]⟩)] at h
    omega
  · rintro ⟨j, hj, hk⟩
    unfold place
    split
    · omega
    · rename_i hf
      rw [List.findIdx?_eq_none_iff] at hf
      have hm : atP l j ∈ l.take i := by
        have := atP_get (l := l.take i) (i := j) (by omega)
        rw [atP_take hj] at this
        exact List.mem_of_getElem? this
      have := hf _ hm
      simp [hk] at this

/-- the keys seen so far -/
def mapOf (l : List Prp) : Nat → List (V × V)
  | 0 => []
  | i + 1 => mapOf l i ++ [(vK (atP l i).key, vI ((i + 1 : Nat) : Int))]
theorem mapOf_keys {l : List Prp} : ∀ {i : Nat} {p : V × V}, p ∈ mapOf l i → isKey true [.str, .int .i64] p.1
  | 0, p, h => by simp [mapOf] at h
  | i + 1, p, h => by
    simp only [mapOf, List.mem_append, List.mem_singleton] at h
    rcases h with h | rfl
    · exact mapOf_keys h
    · exact ⟨rfl, rfl⟩
theorem mget_append {r : List (V × V)} {k a b : V} : mget (r ++ [(a, b)]) k = match mget r k with
    | some x => some x
    | none => if veq k a then some b else none := by
  unfold mget
  rw [List.find?_append]
  cases hf : r.find? fun p => veq k p.1 with
  | some x => simp
  | none =>
    simp only [Option.none_or, Option.map_none, List.find?_cons, List.find?_nil]
    cases veq k a <;> simp
theorem mget_none {l : List Prp} {k : Key} : ∀ {i : Nat}, (∀ j, j < i → (atP l j).key ≠ k) → mget (mapOf l i) (vK k) = none
  | 0, _ => rfl
  | i + 1, h => by
    rw [mapOf, mget_append, mget_none (fun j hj => h j (by omega))]
    have : veq (vK k) (vK (atP l i).key) = false := by
      show ueq _ _ = false
      rw [ueq_key]
      have := h i (by omega)
      simpa using Ne.symm this
    simp [this]
theorem mget_some {l : List Prp} {k : Key} : ∀ {i : Nat}, (∃ j, j < i ∧ (atP l j).key = k) → ∃ m : Nat, mget (mapOf l i) (vK k) = some (vI ((m + 1 : Nat) : Int))
  | 0, h => by obtain ⟨j, hj, _⟩ := h; omega
  | i + 1, ⟨j, hj, hk⟩ => by
    rw [mapOf, mget_append]
    by_cases hp : ∃ j, j < i ∧ (atP l j).key = k
    · obtain ⟨m, hm⟩ := mget_some hp
      exact ⟨m, by rw [hm]⟩
    · rw [mget_none (fun j hj he => hp ⟨j, hj, he⟩)]
      have e : j = i := by
        apply Classical.byContradiction
        intro hne
        exact hp ⟨j, by omega, hk⟩
      subst e
      refine ⟨j, ?_⟩
      have : veq (vK k) (vK (atP l j).key) = true := by
        show ueq _ _ = true
        rw [ueq_key, hk]
        simp
      simp [this]

theorem s_table_Check {l : List Prp} (hl : wfP l) : Fun (Ev T G E) c_table_Check [vPs l] (vI (tableCheck l)) := by
  refine does_start rfl ?_
  simp +contextual only [go_sem, Nat.reduceAdd, Nat.reduceLeDiff, Nat.reduceSub, Nat.reduceLT, Int.reduceLT, Int.reduceLE, Int.reduceEq, reduceCtorEq]
  refine brB_dec (fun hc => ?_) (fun hc => ?_)
  · simp +contextual only [go_sem, Nat.reduceAdd, Nat.reduceLeDiff, Nat.reduceSub, Nat.reduceLT, Int.reduceLT, Int.reduceLE, Int.reduceEq, reduceCtorEq]
    refine endF_of (by first | exact resAll2 (by rfl) (by rfl) | exact resAll3 (by rfl) (by rfl) (by rfl) | rfl) (by rfl) ⟨?_, rfl⟩
    simp only [tableCheck]
    rw [if_pos (by omega)]
  · have hlen : l.length ≤ 1024 := by omega
    simp +contextual only [go_sem, Nat.reduceAdd, Nat.reduceLeDiff, Nat.reduceSub, Nat.reduceLT, Int.reduceLT, Int.reduceLE, Int.reduceEq, reduceCtorEq]
    refine xK_loop (fun i : Nat => ⟨[(3, (true, .s (.mp 0))), (13, (true, vPs l)), (14, (true, vI l.length)), (15, (true, vI i))], [.map (mapOf l i)]⟩) (fun i => i ≤ l.length ∧ ∀ j, j < i → checkAt l j = 0) (fun i => l.length - i) 0 (lw_gc [3, 13, 14, 15] [0] (by rfl) (by rfl)) ⟨by omega, by omega⟩ ?_
    rintro i ⟨hi, hj⟩
    simp +contextual only [go_sem, Nat.reduceAdd, Nat.reduceLeDiff, Nat.reduceSub, Nat.reduceLT, Int.reduceLT, Int.reduceLE, Int.reduceEq, reduceCtorEq]
    refine brB_dec (fun hlt => ?_) (fun hlt => ?_)
    · have hi' : i < l.length := by omega
      have hw := hl i hi'
      simp +contextual only [go_sem, Nat.reduceAdd, Nat.reduceLeDiff, Nat.reduceSub, Nat.reduceLT, Int.reduceLT, Int.reduceLE, Int.reduceEq, reduceCtorEq, hlt, elemP hi', hi']
      refine caR_fun (s_key_Check _) (by rfl) (.inr (by rfl)) (by rfl) ?_
      simp +contextual only [go_sem, Nat.reduceAdd, Nat.reduceLeDiff, Nat.reduceSub, Nat.reduceLT, Int.reduceLT, Int.reduceLE, Int.reduceEq, reduceCtorEq]
      refine brB_dec (fun hk => ?_) (fun hk => ?_)
      · simp +contextual only [go_sem, Nat.reduceAdd, Nat.reduceLeDiff, Nat.reduceSub, Nat.reduceLT, Int.reduceLT, Int.reduceLE, Int.reduceEq, reduceCtorEq]
        refine caR_fun (s_table_whole hw.2) (by rfl) (.inr (by rfl)) (by rfl) ?_
        simp +contextual only [go_sem, Nat.reduceAdd, Nat.reduceLeDiff, Nat.reduceSub, Nat.reduceLT, Int.reduceLT, Int.reduceLE, Int.reduceEq, reduceCtorEq]
        refine brB_split (fun hq => ?_) (fun hq => ?_)
        · by_cases hp : ∃ j, j < i ∧ (atP l j).key = (atP l i).key
          · obtain ⟨m, hm⟩ := mget_some hp
            simp +contextual only [go_sem, Nat.reduceAdd, Nat.reduceLeDiff, Nat.reduceSub, Nat.reduceLT, Int.reduceLT, Int.reduceLE, Int.reduceEq, reduceCtorEq, hm]
            refine ⟨fun p hp => mapOf_keys hp, ?_⟩
            refine brB_dec (fun hz => ?_) (fun hz => ?_)
            · simp +contextual only [go_sem, Nat.reduceAdd, Nat.reduceLeDiff, Nat.reduceSub, Nat.reduceLT, Int.reduceLT, Int.reduceLE, Int.reduceEq, reduceCtorEq]
              refine endF_of (by first | exact resAll2 (by rfl) (by rfl) | exact resAll3 (by rfl) (by rfl) (by rfl) | rfl) (by rfl) ⟨?_, rfl⟩
              have hc' : checkAt l i = 100 := by
                unfold checkAt
                rw [if_neg (by simp [hk]), if_neg (by simp [hq]), if_pos ((place_take hi).2 hp)]
              rw [check_some hlen hi' (by rw [hc']; decide) hj, hc']
            · exact absurd (show (0 : Int) < ((m + 1 : Nat) : Int) by omega) hz
          · have hm := mget_none (l := l) (k := (atP l i).key) (i := i) (fun j hj he => hp ⟨j, hj, he⟩)
            simp +contextual only [go_sem, Nat.reduceAdd, Nat.reduceLeDiff, Nat.reduceSub, Nat.reduceLT, Int.reduceLT, Int.reduceLE, Int.reduceEq, reduceCtorEq, hm, wrap_succ (show i < 4294967296 by omega), V.isPure]
            refine ⟨fun p hp => mapOf_keys hp, fun p hp => mapOf_keys hp, ?_⟩
            refine ⟨i + 1, by omega, lw_gc [3, 13, 14, 15] [0] (by rfl) (by rfl), by omega, fun j hj' => ?_⟩
            by_cases e : j = i
            · subst e
              unfold checkAt
              rw [if_neg (by simp [hk]), if_neg (by simp [hq]), if_neg (fun h => hp ((place_take hi).1 h))]
            · exact hj j (by omega)
        · simp +contextual only [go_sem, Nat.reduceAdd, Nat.reduceLeDiff, Nat.reduceSub, Nat.reduceLT, Int.reduceLT, Int.reduceLE, Int.reduceEq, reduceCtorEq]
          refine endF_of (by first | exact resAll2 (by rfl) (by rfl) | exact resAll3 (by rfl) (by rfl) (by rfl) | rfl) (by rfl) ⟨?_, rfl⟩
          have hc' : checkAt l i = 90 := by
            unfold checkAt
            rw [if_neg (by simp [hk]), if_pos hq]
          rw [check_some hlen hi' (by rw [hc']; decide) hj, hc']
      · simp +contextual only [go_sem, Nat.reduceAdd, Nat.reduceLeDiff, Nat.reduceSub, Nat.reduceLT, Int.reduceLT, Int.reduceLE, Int.reduceEq, reduceCtorEq]
        refine endF_of (by first | exact resAll2 (by rfl) (by rfl) | exact resAll3 (by rfl) (by rfl) (by rfl) | rfl) (by rfl) ⟨?_, rfl⟩
        have hk9 : keyCheck (atP l i).key = 9 := by
          unfold keyCheck at hk ⊢
          split at hk <;> simp_all
        have hc' : checkAt l i = 9 := by
          unfold checkAt
          rw [if_pos (by simp [hk])]
        rw [check_some hlen hi' (by rw [hc']; decide) hj, hc', hk9]
    · simp +contextual only [go_sem, Nat.reduceAdd, Nat.reduceLeDiff, Nat.reduceSub, Nat.reduceLT, Int.reduceLT, Int.reduceLE, Int.reduceEq, reduceCtorEq]
      refine endF_of (by first | exact resAll2 (by rfl) (by rfl) | exact resAll3 (by rfl) (by rfl) (by rfl) | rfl) (by rfl) ⟨?_, rfl⟩
      rw [check_none hlen (fun j hj' => hj j (by omega))]
end Go.Lx
