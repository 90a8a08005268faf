import Derived.Test.YtkmbllgoepcojaaLxS10
import Derived.Test.YtkmbllgoepcojaaLxQ13
/- What the reference's functions of a table that only tell answer. -/
set_option linter.unusedVariables false
set_option linter.unusedSimpArgs false
set_option maxRecDepth 100000
set_option maxHeartbeats 1000000
namespace Go.Lx
variable {T G E : Nat}

theorem s_ref10_Find {l : List Prp} {k : Key} (hl : wfP l) : Fun (Ev T G E) c_bailiffref10_Find [vPs l, vK k] (.tup [vD (findD l k), vB (findB l k), vI (tableAsked l k)]) := by
  refine does_start rfl ?_
  simp +contextual only [go_sem, Nat.reduceAdd, Nat.reduceLeDiff, Nat.reduceSub, Nat.reduceLT, Int.reduceLT, Int.reduceLE, Int.reduceEq, reduceCtorEq]
  refine caR_fun (s_ref10_asked hl _) (by rfl) (.inr (by rfl)) (by rfl) ?_
  simp +contextual only [go_sem, Nat.reduceAdd, Nat.reduceLeDiff, Nat.reduceSub, Nat.reduceLT, Int.reduceLT, Int.reduceLE, Int.reduceEq, reduceCtorEq]
  refine brB_dec (fun ha => ?_) (fun ha => ?_)
  · have hlen := asked_len ha
    simp +contextual only [go_sem, Nat.reduceAdd, Nat.reduceLeDiff, Nat.reduceSub, Nat.reduceLT, Int.reduceLT, Int.reduceLE, Int.reduceEq, reduceCtorEq]
    refine caR_fun (s_ref10_Place (l := l) (by omega) _) (by rfl) (.inr (by rfl)) (by rfl) ?_
    simp +contextual only [go_sem, Nat.reduceAdd, Nat.reduceLeDiff, Nat.reduceSub, Nat.reduceLT, Int.reduceLT, Int.reduceLE, Int.reduceEq, reduceCtorEq]
    rcases place_range l k with hp | ⟨i, hp, hi⟩
    · simp +contextual only [go_sem, Nat.reduceAdd, Nat.reduceLeDiff, Nat.reduceSub, Nat.reduceLT, Int.reduceLT, Int.reduceLE, Int.reduceEq, reduceCtorEq, hp]
      refine endF_of (by first | exact resAll2 (by rfl) (by rfl) | exact resAll3 (by rfl) (by rfl) (by rfl) | rfl) (by rfl) ⟨?_, rfl⟩
      simp [findD, findB, ha, hp]; rfl
    · simp +contextual only [go_sem, Nat.reduceAdd, Nat.reduceLeDiff, Nat.reduceSub, Nat.reduceLT, Int.reduceLT, Int.reduceLE, Int.reduceEq, reduceCtorEq, hp, hi, elemP hi, show ¬ (i : Int) < 0 by omega]
      refine endF_of (by first | exact resAll2 (by rfl) (by rfl) | exact resAll3 (by rfl) (by rfl) (by rfl) | rfl) (by rfl) ⟨?_, rfl⟩
      simp [findD, findB, ha, hp]; rfl
  · simp +contextual only [go_sem, Nat.reduceAdd, Nat.reduceLeDiff, Nat.reduceSub, Nat.reduceLT, Int.reduceLT, Int.reduceLE, Int.reduceEq, reduceCtorEq]
    refine endF_of (by first | exact resAll2 (by rfl) (by rfl) | exact resAll3 (by rfl) (by rfl) (by rfl) | rfl) (by rfl) ⟨?_, rfl⟩
    simp [findD, findB, ha]; rfl
theorem s_ref10_Keys_err {l : List Prp} (hl : wfP l) (hc : tableCheck l ≠ 0) : Fun (Ev T G E) c_bailiffref10_Keys [vPs l] (.tup [.s (.full []), vI (tableCheck l)]) := by
  refine does_start rfl ?_
  simp +contextual only [go_sem, Nat.reduceAdd, Nat.reduceLeDiff, Nat.reduceSub, Nat.reduceLT, Int.reduceLT, Int.reduceLE, Int.reduceEq, reduceCtorEq]
  refine caR_fun (s_ref10_Check hl) (by rfl) (.inr (by rfl)) (by rfl) ?_
  simp +contextual only [go_sem, Nat.reduceAdd, Nat.reduceLeDiff, Nat.reduceSub, Nat.reduceLT, Int.reduceLT, Int.reduceLE, Int.reduceEq, reduceCtorEq, hc]
  exact endF_of (by first | exact resAll2 (by rfl) (by rfl) | exact resAll3 (by rfl) (by rfl) (by rfl) | rfl) (by rfl) ⟨by rfl, rfl⟩
theorem s_ref10_Keys_ok {l : List Prp} (hl : wfP l) (hc : tableCheck l = 0) : Does (Ev T G E) c_bailiffref10_Keys [vPs l] [] (OwnK (ordL (keysL l))) := by
  have hlen := (check_zero hc).1
  refine does_start rfl ?_
  simp +contextual only [go_sem, Nat.reduceAdd, Nat.reduceLeDiff, Nat.reduceSub, Nat.reduceLT, Int.reduceLT, Int.reduceLE, Int.reduceEq, reduceCtorEq]
  refine caR_fun (s_ref10_Check hl) (by rfl) (.inr (by rfl)) (by rfl) ?_
  simp +contextual only [go_sem, Nat.reduceAdd, Nat.reduceLeDiff, Nat.reduceSub, Nat.reduceLT, Int.reduceLT, Int.reduceLE, Int.reduceEq, reduceCtorEq, hc]
  refine xK_loop (fun x : Nat × Nat => ⟨[(0, (true, vPs l)), (2, (true, .s (.full []))), (3, (true, vI 0)), (5, (true, .s (.ref 0 x.2 2 0 x.1))), (6, (true, vI x.1))], [.row x.2 2 ((keysL (l.take x.1)).map encKey)]⟩) (fun x => x.1 ≤ l.length) (fun x => l.length - x.1) (0, 0) (lw_view1 5 2 [0, 2, 3, 5, 6] [0] (by rfl) (by decide) (by rfl) (by rfl)) (Nat.zero_le _) ?_
  rintro ⟨i, g⟩ hi
  simp only at hi
  have hkl : (keysL (l.take i)).length = i := by simp [keysL]; omega
  simp +contextual only [go_sem, Nat.reduceAdd, Nat.reduceLeDiff, Nat.reduceSub, Nat.reduceLT, Int.reduceLT, Int.reduceLE, Int.reduceEq, reduceCtorEq]
  refine brB_dec (fun hlt => ?_) (fun hlt => ?_)
  · simp +contextual only [go_sem, Nat.reduceAdd, Nat.reduceLeDiff, Nat.reduceSub, Nat.reduceLT, Int.reduceLT, Int.reduceLE, Int.reduceEq, reduceCtorEq, hlt, elemP hlt, hkl, show i + 1 ≤ 4294967296 by omega, wrap_succ (show i < 4294967296 by omega)]
    refine ⟨(i + 1, g + 1), by simp only; omega, lw_gc' (s1 := ⟨[(0, (true, vPs l)), (2, (true, .s (.full []))), (3, (true, vI 0)), (5, (true, .s (.ref 0 (g + 1) 2 0 (i + 1)))), (6, (true, vI ((i + 1 : Nat) : Int)))], [.row (g + 1) 2 ((keysL (l.take i)).map encKey ++ [encKey (atP l i).key])]⟩) [0, 2, 3, 5, 6] [0] (by rfl) (by rfl) ?_, hlt⟩
    rw [keysL_succ hlt, List.map_append]; rfl
  · simp +contextual only [go_sem, Nat.reduceAdd, Nat.reduceLeDiff, Nat.reduceSub, Nat.reduceLT, Int.reduceLT, Int.reduceLE, Int.reduceEq, reduceCtorEq]
    have e : i = l.length := by omega
    subst e
    rw [List.take_length] at hkl
    refine caR_does (s_ref08_Order (l := keysL l) (by omega)) ?_ ?_
    · simp only [go_sem, List.take_length, hkl]
      rw [List.take_of_length_le (by simp [hkl])]
    rintro v h ⟨g', rfl, rfl⟩
    refine ⟨.inr ⟨by rfl, plain_rowK⟩, ?_⟩
    simp +contextual only [go_sem, Nat.reduceAdd, Nat.reduceLeDiff, Nat.reduceSub, Nat.reduceLT, Int.reduceLT, Int.reduceLE, Int.reduceEq, reduceCtorEq]
    refine endF_gc (v := .tup [.s (.ref 0 g' 2 0 (ordL (keysL l)).length), vI 0]) (s0 := ⟨[(2, (true, .s (.ref 0 g' 2 0 (ordL (keysL l)).length))), (3, (true, vI 0))], [.row g' 2 ((ordL (keysL l)).map encKey)]⟩) [2, 3] [1] (by rfl) (by rfl) (resAll2 (by rfl) (by rfl)) ?_
    exact ⟨g', rfl, rfl⟩
theorem s_ref10_Sealed {l : List Prp} (hl : wfP l) : Fun (Ev T G E) c_bailiffref10_Sealed [vPs l] (.tup [vB (decide (tableCheck l = 0) && noConf l), vI (tableCheck l)]) := by
  refine does_start rfl ?_
  simp +contextual only [go_sem, Nat.reduceAdd, Nat.reduceLeDiff, Nat.reduceSub, Nat.reduceLT, Int.reduceLT, Int.reduceLE, Int.reduceEq, reduceCtorEq]
  refine caR_fun (s_ref10_Check hl) (by rfl) (.inr (by rfl)) (by rfl) ?_
  simp +contextual only [go_sem, Nat.reduceAdd, Nat.reduceLeDiff, Nat.reduceSub, Nat.reduceLT, Int.reduceLT, Int.reduceLE, Int.reduceEq, reduceCtorEq]
  refine brB_dec (fun hc => ?_) (fun hc => ?_)
  · have hlen := (check_zero hc).1
    simp +contextual only [go_sem, Nat.reduceAdd, Nat.reduceLeDiff, Nat.reduceSub, Nat.reduceLT, Int.reduceLT, Int.reduceLE, Int.reduceEq, reduceCtorEq]
    refine xK_loop (fun i : Nat => ⟨[(0, (true, vPs l)), (2, (true, vB false)), (3, (true, vI 0)), (5, (true, vI i))], []⟩) (fun i => i ≤ l.length ∧ noConf (l.take i) = true) (fun i => l.length - i) 0 (lw_gc [0, 2, 3, 5] [] (by rfl) (by rfl)) ⟨Nat.zero_le _, rfl⟩ ?_
    rintro i ⟨hi, hq⟩
    simp +contextual only [go_sem, Nat.reduceAdd, Nat.reduceLeDiff, Nat.reduceSub, Nat.reduceLT, Int.reduceLT, Int.reduceLE, Int.reduceEq, reduceCtorEq]
    refine brB_dec (fun hlt => ?_) (fun hlt => ?_)
    · simp +contextual only [go_sem, Nat.reduceAdd, Nat.reduceLeDiff, Nat.reduceSub, Nat.reduceLT, Int.reduceLT, Int.reduceLE, Int.reduceEq, reduceCtorEq, hlt, elemP hlt]
      refine brB_split (fun hcf => ?_) (fun hcf => ?_)
      · simp +contextual only [go_sem, Nat.reduceAdd, Nat.reduceLeDiff, Nat.reduceSub, Nat.reduceLT, Int.reduceLT, Int.reduceLE, Int.reduceEq, reduceCtorEq]
        refine endF_of (by first | exact resAll2 (by rfl) (by rfl) | exact resAll3 (by rfl) (by rfl) (by rfl) | rfl) (by rfl) ⟨?_, rfl⟩
        have : noConf l = false := by
          unfold noConf
          rw [List.all_eq_false]
          exact ⟨atP l i, List.mem_of_getElem? (atP_get hlt), by simp [hcf]⟩
        simp [hc, this]
      · simp +contextual only [go_sem, Nat.reduceAdd, Nat.reduceLeDiff, Nat.reduceSub, Nat.reduceLT, Int.reduceLT, Int.reduceLE, Int.reduceEq, reduceCtorEq, wrap_succ (show i < 4294967296 by omega)]
        exact ⟨i + 1, by omega, lw_gc [0, 2, 3, 5] [] (by rfl) (by rfl), hlt, by unfold noConf at hq ⊢; rw [all_take hlt, hq, hcf]; rfl⟩
    · simp +contextual only [go_sem, Nat.reduceAdd, Nat.reduceLeDiff, Nat.reduceSub, Nat.reduceLT, Int.reduceLT, Int.reduceLE, Int.reduceEq, reduceCtorEq]
      refine endF_of (by first | exact resAll2 (by rfl) (by rfl) | exact resAll3 (by rfl) (by rfl) (by rfl) | rfl) (by rfl) ⟨?_, rfl⟩
      have e : i = l.length := by omega
      subst e
      rw [List.take_length] at hq
      simp [hc, hq]
  · simp +contextual only [go_sem, Nat.reduceAdd, Nat.reduceLeDiff, Nat.reduceSub, Nat.reduceLT, Int.reduceLT, Int.reduceLE, Int.reduceEq, reduceCtorEq]
    refine endF_of (by first | exact resAll2 (by rfl) (by rfl) | exact resAll3 (by rfl) (by rfl) (by rfl) | rfl) (by rfl) ⟨?_, rfl⟩
    simp [hc]
end Go.Lx

/- Names. -/
set_option linter.unusedVariables false
set_option linter.unusedSimpArgs false
set_option maxRecDepth 100000
set_option maxHeartbeats 1000000
namespace Go.Lx
variable {T G E : Nat}

theorem s_ref08_Same_self {l : List Key} (hlen : l.length ≤ 4294967295) : Fun (Ev T G E) c_bailiffref08_Same [vKs l, vKs l] (vB true) := by
  refine does_start rfl ?_
  simp +contextual only [go_sem, Nat.reduceAdd, Nat.reduceLeDiff, Nat.reduceSub, Nat.reduceLT, Int.reduceLT, Int.reduceLE, Int.reduceEq, reduceCtorEq]
  refine xK_loop (fun i : Nat => ⟨[(0, (true, vKs l)), (1, (true, vKs l)), (5, (true, vI i))], []⟩) (fun i => i ≤ l.length) (fun i => l.length - i) 0 (lw_gc [0, 1, 5] [] (by rfl) (by rfl)) (Nat.zero_le _) ?_
  intro i hi
  simp +contextual only [go_sem, Nat.reduceAdd, Nat.reduceLeDiff, Nat.reduceSub, Nat.reduceLT, Int.reduceLT, Int.reduceLE, Int.reduceEq, reduceCtorEq]
  refine brB_dec (fun hlt => ?_) (fun hlt => ?_)
  · simp +contextual only [go_sem, Nat.reduceAdd, Nat.reduceLeDiff, Nat.reduceSub, Nat.reduceLT, Int.reduceLT, Int.reduceLE, Int.reduceEq, reduceCtorEq, hlt, elemA hlt, ueq_key, wrap_succ (show i < 4294967296 by omega)]
    exact ⟨i + 1, by omega, lw_gc [0, 1, 5] [] (by rfl) (by rfl), hlt⟩
  · simp +contextual only [go_sem, Nat.reduceAdd, Nat.reduceLeDiff, Nat.reduceSub, Nat.reduceLT, Int.reduceLT, Int.reduceLE, Int.reduceEq, reduceCtorEq]
    exact endF_of (by first | exact resAll2 (by rfl) (by rfl) | exact resAll3 (by rfl) (by rfl) (by rfl) | rfl) (by rfl) ⟨by rfl, rfl⟩

theorem cutP1 {p : Prp} : cut (encProp p) 1 1 = [.int .i64 p.key.sym] := rfl
attribute [go_sem] cutP1
def isName (p : Prp) : Bool := p.desc.enumerable && decide (p.key.sym = 0)
def namesL (l : List Prp) : List Key := (l.filter isName).map Prp.key
theorem namesL_succ {l : List Prp} {i : Nat} (hi : i < l.length) : namesL (l.take (i + 1)) = if isName (atP l i) then namesL (l.take i) ++ [(atP l i).key] else namesL (l.take i) := by
  unfold namesL
  rw [List.take_add_one, atP_get hi, Option.toList_some, List.filter_append, List.filter_cons]
  split <;> simp
theorem namesL_len {l : List Prp} {i : Nat} : (namesL (l.take i)).length ≤ i := by
  unfold namesL
  rw [List.length_map]
  refine Nat.le_trans (List.length_filter_le _ _) ?_
  simp; omega
theorem s_table_Names_err {l : List Prp} (hl : wfP l) (hc : tableCheck l ≠ 0) : Fun (Ev T G E) c_table_Names [vPs l] (.tup [.s (.full []), vI (tableCheck l)]) := by
  refine does_start rfl ?_
  simp +contextual only [go_sem, Nat.reduceAdd, Nat.reduceLeDiff, Nat.reduceSub, Nat.reduceLT, Int.reduceLT, Int.reduceLE, Int.reduceEq, reduceCtorEq]
  refine caR_fun (s_table_Check hl) (by rfl) (.inr (by rfl)) (by rfl) ?_
  simp +contextual only [go_sem, Nat.reduceAdd, Nat.reduceLeDiff, Nat.reduceSub, Nat.reduceLT, Int.reduceLT, Int.reduceLE, Int.reduceEq, reduceCtorEq, hc]
  exact endF_of (by first | exact resAll2 (by rfl) (by rfl) | exact resAll3 (by rfl) (by rfl) (by rfl) | rfl) (by rfl) ⟨by rfl, rfl⟩
theorem s_table_Names_ok {l : List Prp} (hl : wfP l) (hc : tableCheck l = 0) : Does (Ev T G E) c_table_Names [vPs l] [] (OwnK (ordL (namesL l))) := by
  have hlen := (check_zero hc).1
  refine does_start rfl ?_
  simp +contextual only [go_sem, Nat.reduceAdd, Nat.reduceLeDiff, Nat.reduceSub, Nat.reduceLT, Int.reduceLT, Int.reduceLE, Int.reduceEq, reduceCtorEq]
  refine caR_fun (s_table_Check hl) (by rfl) (.inr (by rfl)) (by rfl) ?_
  simp +contextual only [go_sem, Nat.reduceAdd, Nat.reduceLeDiff, Nat.reduceSub, Nat.reduceLT, Int.reduceLT, Int.reduceLE, Int.reduceEq, reduceCtorEq, hc]
  refine xK_loop (fun x : Nat × Nat => ⟨[(2, (true, .s (.full []))), (3, (true, vI 0)), (5, (true, .s (.ref 0 x.2 2 0 (namesL (l.take x.1)).length))), (13, (true, vPs l)), (14, (true, vI l.length)), (15, (true, vI x.1))], [.row x.2 2 ((namesL (l.take x.1)).map encKey)]⟩) (fun x => x.1 ≤ l.length) (fun x => l.length - x.1) (0, 0) (lw_view1 5 2 [2, 3, 5, 13, 14, 15] [0] (by rfl) (by decide) (by rfl) (by rfl)) (Nat.zero_le _) ?_
  rintro ⟨i, g⟩ hi
  simp only at hi
  have hkl := namesL_len (l := l) (i := i)
  simp +contextual only [go_sem, Nat.reduceAdd, Nat.reduceLeDiff, Nat.reduceSub, Nat.reduceLT, Int.reduceLT, Int.reduceLE, Int.reduceEq, reduceCtorEq]
  refine brB_dec (fun hlt => ?_) (fun hlt => ?_)
  · simp +contextual only [go_sem, Nat.reduceAdd, Nat.reduceLeDiff, Nat.reduceSub, Nat.reduceLT, Int.reduceLT, Int.reduceLE, Int.reduceEq, reduceCtorEq, hlt, elemP hlt]
    refine brB_split (fun hn => ?_) (fun hn => ?_)
    · have hnm : isName (atP l i) = true := hn
      simp +contextual only [go_sem, Nat.reduceAdd, Nat.reduceLeDiff, Nat.reduceSub, Nat.reduceLT, Int.reduceLT, Int.reduceLE, Int.reduceEq, reduceCtorEq, hlt, elemP hlt, show (namesL (l.take i)).length + 1 ≤ 4294967296 by omega, wrap_succ (show i < 4294967296 by omega)]
      exact ⟨(i + 1, g + 1), by simp only; omega, lw_gc' (s1 := ⟨[(2, (true, .s (.full []))), (3, (true, vI 0)), (5, (true, .s (.ref 0 (g + 1) 2 0 ((namesL (l.take i)).length + 1)))), (13, (true, vPs l)), (14, (true, vI l.length)), (15, (true, vI ((i + 1 : Nat) : Int)))], [.row (g + 1) 2 ((namesL (l.take i)).map encKey ++ [encKey (atP l i).key])]⟩) [2, 3, 5, 13, 14, 15] [0] (by rfl) (by rfl) (by rw [namesL_succ hlt, if_pos hnm]; simp), hlt⟩
    · have hnm : ¬ isName (atP l i) = true := by rw [show isName (atP l i) = false from hn]; exact Bool.false_ne_true
      simp +contextual only [go_sem, Nat.reduceAdd, Nat.reduceLeDiff, Nat.reduceSub, Nat.reduceLT, Int.reduceLT, Int.reduceLE, Int.reduceEq, reduceCtorEq, wrap_succ (show i < 4294967296 by omega)]
      exact ⟨(i + 1, g), by simp only; omega, lw_gc' (s1 := ⟨[(2, (true, .s (.full []))), (3, (true, vI 0)), (5, (true, .s (.ref 0 g 2 0 (namesL (l.take i)).length))), (13, (true, vPs l)), (14, (true, vI l.length)), (15, (true, vI ((i + 1 : Nat) : Int)))], [.row g 2 ((namesL (l.take i)).map encKey)]⟩) [2, 3, 5, 13, 14, 15] [0] (by rfl) (by rfl) (by rw [namesL_succ hlt, if_neg hnm]), hlt⟩
  · simp +contextual only [go_sem, Nat.reduceAdd, Nat.reduceLeDiff, Nat.reduceSub, Nat.reduceLT, Int.reduceLT, Int.reduceLE, Int.reduceEq, reduceCtorEq]
    have e : i = l.length := by omega
    subst e
    rw [List.take_length] at hkl ⊢
    refine caR_does (s_key_Order (l := namesL l) (by omega)) ?_ ?_
    · simp only [go_sem, List.take_length]
      try rw [List.take_of_length_le (by simp)]
    rintro v h ⟨rfl, rfl, hlo⟩
    refine ⟨.inr ⟨by rfl, plain_rowK⟩, ?_⟩
    simp +contextual only [go_sem, Nat.reduceAdd, Nat.reduceLeDiff, Nat.reduceSub, Nat.reduceLT, Int.reduceLT, Int.reduceLE, Int.reduceEq, reduceCtorEq]
    refine endF_gc (v := .tup [.s (.ref 0 0 2 0 (namesL l).length), vI 0]) (s0 := ⟨[(2, (true, .s (.ref 0 0 2 0 (namesL l).length))), (3, (true, vI 0))], [.row 0 2 ((ordL (namesL l)).map encKey)]⟩) [2, 3] [1] (by rfl) (by rfl) (resAll2 (by rfl) (by rfl)) ?_
    exact ⟨0, by rw [hlo], rfl⟩
end Go.Lx
