import Derived.Test.YtkmbllgoepcojaaLxQ7
import Derived.Test.YtkmbllgoepcojaaLxS9
/- What the functions of a table that only tell answer. -/
set_option linter.unusedVariables false
set_option linter.unusedSimpArgs false
set_option maxRecDepth 100000
set_option maxHeartbeats 1000000
namespace Go.Lx
variable {T G E : Nat}

/-! ### found -/
def findB (l : List Prp) (k : Key) : Bool := decide (tableAsked l k = 0) && decide (0 ≤ place l k)
def findD (l : List Prp) (k : Key) : Desc := if findB l k then (atP l (place l k).toNat).desc else .zero
theorem s_table_Find {l : List Prp} {k : Key} (hl : wfP l) : Fun (Ev T G E) c_table_Find [vPs l, vK k] (.tup [vD (findD l k), vB (findB l k), vI (tableAsked l k)]) := by
  refine does_start rfl ?_
  simp +contextual only [go_sem, Nat.reduceAdd, Nat.reduceLeDiff, Nat.reduceSub, Nat.reduceLT, Int.reduceLT, Int.reduceLE, Int.reduceEq, reduceCtorEq]
  refine caR_fun (s_table_asked hl _) (by rfl) (.inr (by rfl)) (by rfl) ?_
  simp +contextual only [go_sem, Nat.reduceAdd, Nat.reduceLeDiff, Nat.reduceSub, Nat.reduceLT, Int.reduceLT, Int.reduceLE, Int.reduceEq, reduceCtorEq]
  refine brB_dec (fun ha => ?_) (fun ha => ?_)
  · have hlen := asked_len ha
    simp +contextual only [go_sem, Nat.reduceAdd, Nat.reduceLeDiff, Nat.reduceSub, Nat.reduceLT, Int.reduceLT, Int.reduceLE, Int.reduceEq, reduceCtorEq]
    refine caR_fun (s_table_at (l := l) (by omega) _) (by rfl) (.inr (by rfl)) (by rfl) ?_
    simp +contextual only [go_sem, Nat.reduceAdd, Nat.reduceLeDiff, Nat.reduceSub, Nat.reduceLT, Int.reduceLT, Int.reduceLE, Int.reduceEq, reduceCtorEq]
    rcases place_range l k with hp | ⟨i, hp, hi⟩
    · simp +contextual only [go_sem, Nat.reduceAdd, Nat.reduceLeDiff, Nat.reduceSub, Nat.reduceLT, Int.reduceLT, Int.reduceLE, Int.reduceEq, reduceCtorEq, hp]
      refine endF_of (by first | exact resAll2 (by rfl) (by rfl) | exact resAll3 (by rfl) (by rfl) (by rfl) | rfl) (by rfl) ⟨?_, rfl⟩
      simp [findD, findB, ha, hp]; rfl
    · simp +contextual only [go_sem, Nat.reduceAdd, Nat.reduceLeDiff, Nat.reduceSub, Nat.reduceLT, Int.reduceLT, Int.reduceLE, Int.reduceEq, reduceCtorEq, hp, hi, elemP hi, show (0 : Int) ≤ i by omega]
      refine endF_of (by first | exact resAll2 (by rfl) (by rfl) | exact resAll3 (by rfl) (by rfl) (by rfl) | rfl) (by rfl) ⟨?_, rfl⟩
      simp [findD, findB, ha, hp]; rfl
  · simp +contextual only [go_sem, Nat.reduceAdd, Nat.reduceLeDiff, Nat.reduceSub, Nat.reduceLT, Int.reduceLT, Int.reduceLE, Int.reduceEq, reduceCtorEq]
    refine endF_of (by first | exact resAll2 (by rfl) (by rfl) | exact resAll3 (by rfl) (by rfl) (by rfl) | rfl) (by rfl) ⟨?_, rfl⟩
    simp [findD, findB, ha]; rfl

/-! ### all of them -/
def keysL (l : List Prp) : List Key := l.map Prp.key
theorem keysL_succ {l : List Prp} {i : Nat} (hi : i < l.length) : keysL (l.take (i + 1)) = keysL (l.take i) ++ [(atP l i).key] := by
  unfold keysL
  rw [List.take_add_one, atP_get hi]
  simp
theorem flat_K {l : List Key} : ((l.map encKey).all fun u => u.all C.flat) = true := by
  simp only [List.all_map, List.all_eq_true]
  intro p _
  rfl
theorem plain_rowK {g sz : Nat} {l : List Key} : [Root.row g sz (l.map encKey)].all Root.plain = true := by
  simp only [List.all_cons, List.all_nil, Bool.and_true, Root.plain]
  exact flat_K
theorem s_table_Keys_err {l : List Prp} (hl : wfP l) (hc : tableCheck l ≠ 0) : Fun (Ev T G E) c_table_Keys [vPs l] (.tup [.s (.full []), vI (tableCheck l)]) := by
  refine does_start rfl ?_
  simp +contextual only [go_sem, Nat.reduceAdd, Nat.reduceLeDiff, Nat.reduceSub, Nat.reduceLT, Int.reduceLT, Int.reduceLE, Int.reduceEq, reduceCtorEq]
  refine caR_fun (s_table_Check hl) (by rfl) (.inr (by rfl)) (by rfl) ?_
  simp +contextual only [go_sem, Nat.reduceAdd, Nat.reduceLeDiff, Nat.reduceSub, Nat.reduceLT, Int.reduceLT, Int.reduceLE, Int.reduceEq, reduceCtorEq, hc]
  exact endF_of (by first | exact resAll2 (by rfl) (by rfl) | exact resAll3 (by rfl) (by rfl) (by rfl) | rfl) (by rfl) ⟨by rfl, rfl⟩
def OwnK (l : List Key) (v : V) (h : List Root) : Prop := ∃ g, v = .tup [.s (.ref 0 g 2 0 l.length), vI 0] ∧ h = [.row g 2 (l.map encKey)]
theorem s_table_Keys_ok {l : List Prp} (hl : wfP l) (hc : tableCheck l = 0) : Does (Ev T G E) c_table_Keys [vPs l] [] (fun v h => OwnK (ordL (keysL l)) v h ∧ (ordL (keysL l)).length = l.length) := by
  have hlen := (check_zero hc).1
  refine does_start rfl ?_
  simp +contextual only [go_sem, Nat.reduceAdd, Nat.reduceLeDiff, Nat.reduceSub, Nat.reduceLT, Int.reduceLT, Int.reduceLE, Int.reduceEq, reduceCtorEq]
  refine caR_fun (s_table_Check hl) (by rfl) (.inr (by rfl)) (by rfl) ?_
  simp +contextual only [go_sem, Nat.reduceAdd, Nat.reduceLeDiff, Nat.reduceSub, Nat.reduceLT, Int.reduceLT, Int.reduceLE, Int.reduceEq, reduceCtorEq, hc]
  refine xK_loop (fun x : Nat × Nat => ⟨[(2, (true, .s (.full []))), (3, (true, vI 0)), (5, (true, .s (.ref 0 x.2 2 0 x.1))), (13, (true, vPs l)), (14, (true, vI l.length)), (15, (true, vI x.1))], [.row x.2 2 ((keysL (l.take x.1)).map encKey)]⟩) (fun x => x.1 ≤ l.length) (fun x => l.length - x.1) (0, 0) (lw_view1 5 2 [2, 3, 5, 13, 14, 15] [0] (by rfl) (by decide) (by rfl) (by rfl)) (Nat.zero_le _) ?_
  rintro ⟨i, g⟩ hi
  simp only at hi
  have hkl : (keysL (l.take i)).length = i := by simp [keysL]; omega
  simp +contextual only [go_sem, Nat.reduceAdd, Nat.reduceLeDiff, Nat.reduceSub, Nat.reduceLT, Int.reduceLT, Int.reduceLE, Int.reduceEq, reduceCtorEq]
  refine brB_dec (fun hlt => ?_) (fun hlt => ?_)
  · simp +contextual only [go_sem, Nat.reduceAdd, Nat.reduceLeDiff, Nat.reduceSub, Nat.reduceLT, Int.reduceLT, Int.reduceLE, Int.reduceEq, reduceCtorEq, hlt, elemP hlt, hkl, show i + 1 ≤ 4294967296 by omega, wrap_succ (show i < 4294967296 by omega)]
    refine ⟨(i + 1, g + 1), by simp only; omega, lw_gc' (s1 := ⟨[(2, (true, .s (.full []))), (3, (true, vI 0)), (5, (true, .s (.ref 0 (g + 1) 2 0 (i + 1)))), (13, (true, vPs l)), (14, (true, vI l.length)), (15, (true, vI ((i + 1 : Nat) : Int)))], [.row (g + 1) 2 ((keysL (l.take i)).map encKey ++ [encKey (atP l i).key])]⟩) [2, 3, 5, 13, 14, 15] [0] (by rfl) (by rfl) ?_, hlt⟩
    rw [keysL_succ hlt, List.map_append]; rfl
  · simp +contextual only [go_sem, Nat.reduceAdd, Nat.reduceLeDiff, Nat.reduceSub, Nat.reduceLT, Int.reduceLT, Int.reduceLE, Int.reduceEq, reduceCtorEq]
    have e : i = l.length := by omega
    subst e
    rw [List.take_length] at hkl
    refine caR_does (s_key_Order (l := keysL l) (by omega)) ?_ ?_
    · simp only [go_sem, List.take_length, hkl]
      rw [List.take_of_length_le (by simp [hkl])]
    rintro v h ⟨rfl, rfl, hlo⟩
    refine ⟨.inr ⟨by rfl, plain_rowK⟩, ?_⟩
    simp +contextual only [go_sem, Nat.reduceAdd, Nat.reduceLeDiff, Nat.reduceSub, Nat.reduceLT, Int.reduceLT, Int.reduceLE, Int.reduceEq, reduceCtorEq]
    refine endF_gc (v := .tup [.s (.ref 0 0 2 0 (keysL l).length), vI 0]) (s0 := ⟨[(2, (true, .s (.ref 0 0 2 0 (keysL l).length))), (3, (true, vI 0))], [.row 0 2 ((ordL (keysL l)).map encKey)]⟩) [2, 3] [1] (by rfl) (by rfl) (resAll2 (by rfl) (by rfl)) ?_
    exact ⟨⟨0, by rw [hlo], rfl⟩, hlo.trans hkl⟩

/-! ### sealed, frozen -/
theorem cutP15 {p : Prp} : cut (encProp p) 15 1 = [.bool p.desc.writable] := rfl
theorem cutP16 {p : Prp} : cut (encProp p) 16 1 = [.bool p.desc.enumerable] := rfl
theorem cutP17 {p : Prp} : cut (encProp p) 17 1 = [.bool p.desc.configurable] := rfl
attribute [go_sem] cutP15 cutP16 cutP17
def noConf (l : List Prp) : Bool := l.all fun p => !p.desc.configurable
def noWrit (l : List Prp) : Bool := l.all fun p => !p.desc.writable
theorem all_take {f : Prp → Bool} {l : List Prp} {i : Nat} (hi : i < l.length) : (l.take (i + 1)).all f = ((l.take i).all f && f (atP l i)) := by
  rw [List.take_add_one, atP_get hi]
  simp
theorem s_table_Sealed {l : List Prp} (hl : wfP l) : Fun (Ev T G E) c_table_Sealed [vPs l] (.tup [vB (decide (tableCheck l = 0) && noConf l), vI (tableCheck l)]) := by
  refine does_start rfl ?_
  simp +contextual only [go_sem, Nat.reduceAdd, Nat.reduceLeDiff, Nat.reduceSub, Nat.reduceLT, Int.reduceLT, Int.reduceLE, Int.reduceEq, reduceCtorEq]
  refine caR_fun (s_table_Check hl) (by rfl) (.inr (by rfl)) (by rfl) ?_
  simp +contextual only [go_sem, Nat.reduceAdd, Nat.reduceLeDiff, Nat.reduceSub, Nat.reduceLT, Int.reduceLT, Int.reduceLE, Int.reduceEq, reduceCtorEq]
  refine brB_dec (fun hc => ?_) (fun hc => ?_)
  · have hlen := (check_zero hc).1
    simp +contextual only [go_sem, Nat.reduceAdd, Nat.reduceLeDiff, Nat.reduceSub, Nat.reduceLT, Int.reduceLT, Int.reduceLE, Int.reduceEq, reduceCtorEq]
    refine xK_loop (fun i : Nat => ⟨[(2, (true, vB false)), (3, (true, vI 0)), (12, (true, vPs l)), (13, (true, vI l.length)), (14, (true, vI i))], []⟩) (fun i => i ≤ l.length ∧ noConf (l.take i) = true) (fun i => l.length - i) 0 (lw_gc [2, 3, 12, 13, 14] [] (by rfl) (by rfl)) ⟨Nat.zero_le _, rfl⟩ ?_
    rintro i ⟨hi, hq⟩
    simp +contextual only [go_sem, Nat.reduceAdd, Nat.reduceLeDiff, Nat.reduceSub, Nat.reduceLT, Int.reduceLT, Int.reduceLE, Int.reduceEq, reduceCtorEq]
    refine brB_dec (fun hlt => ?_) (fun hlt => ?_)
    · simp +contextual only [go_sem, Nat.reduceAdd, Nat.reduceLeDiff, Nat.reduceSub, Nat.reduceLT, Int.reduceLT, Int.reduceLE, Int.reduceEq, reduceCtorEq, hlt, elemP hlt]
      refine brB_split (fun hcf => ?_) (fun hcf => ?_)
      · simp +contextual only [go_sem, Nat.reduceAdd, Nat.reduceLeDiff, Nat.reduceSub, Nat.reduceLT, Int.reduceLT, Int.reduceLE, Int.reduceEq, reduceCtorEq]
        refine endF_of (by first | exact resAll2 (by rfl) (by rfl) | exact resAll3 (by rfl) (by rfl) (by rfl) | rfl) (by rfl) ⟨?_, rfl⟩
        have : noConf l = false := by
          unfold noConf
          rw [List.all_eq_false]
          exact ⟨atP l i, List.mem_of_getElem? (atP_get hlt), by simp [hcf]⟩
        simp [hc, this]
      · simp +contextual only [go_sem, Nat.reduceAdd, Nat.reduceLeDiff, Nat.reduceSub, Nat.reduceLT, Int.reduceLT, Int.reduceLE, Int.reduceEq, reduceCtorEq, wrap_succ (show i < 4294967296 by omega)]
        exact ⟨i + 1, by omega, lw_gc [2, 3, 12, 13, 14] [] (by rfl) (by rfl), hlt, by unfold noConf at hq ⊢; rw [all_take hlt, hq, hcf]; rfl⟩
    · simp +contextual only [go_sem, Nat.reduceAdd, Nat.reduceLeDiff, Nat.reduceSub, Nat.reduceLT, Int.reduceLT, Int.reduceLE, Int.reduceEq, reduceCtorEq]
      refine endF_of (by first | exact resAll2 (by rfl) (by rfl) | exact resAll3 (by rfl) (by rfl) (by rfl) | rfl) (by rfl) ⟨?_, rfl⟩
      have e : i = l.length := by omega
      subst e
      rw [List.take_length] at hq
      simp [hc, hq]
  · simp +contextual only [go_sem, Nat.reduceAdd, Nat.reduceLeDiff, Nat.reduceSub, Nat.reduceLT, Int.reduceLT, Int.reduceLE, Int.reduceEq, reduceCtorEq]
    refine endF_of (by first | exact resAll2 (by rfl) (by rfl) | exact resAll3 (by rfl) (by rfl) (by rfl) | rfl) (by rfl) ⟨?_, rfl⟩
    simp [hc]
theorem s_table_Frozen {l : List Prp} (hl : wfP l) (hc : tableCheck l = 0) : Fun (Ev T G E) c_table_Frozen [vPs l] (.tup [vB (noConf l && noWrit l), vI 0]) := by
  have hlen := (check_zero hc).1
  refine does_start rfl ?_
  simp +contextual only [go_sem, Nat.reduceAdd, Nat.reduceLeDiff, Nat.reduceSub, Nat.reduceLT, Int.reduceLT, Int.reduceLE, Int.reduceEq, reduceCtorEq]
  refine caR_fun (s_table_Sealed hl) (by rfl) (.inr (by rfl)) (by rfl) ?_
  simp +contextual only [go_sem, Nat.reduceAdd, Nat.reduceLeDiff, Nat.reduceSub, Nat.reduceLT, Int.reduceLT, Int.reduceLE, Int.reduceEq, reduceCtorEq, hc]
  refine xK_loop (fun i : Nat => ⟨[(2, (true, vB false)), (3, (true, vI 0)), (4, (true, vB (noConf l && noWrit (l.take i)))), (5, (true, vI 0)), (13, (true, vPs l)), (14, (true, vI l.length)), (15, (true, vI i))], []⟩) (fun i => i ≤ l.length) (fun i => l.length - i) 0 (lw_gc' (s1 := ⟨[(2, (true, vB false)), (3, (true, vI 0)), (4, (true, vB (noConf l))), (5, (true, vI 0)), (13, (true, vPs l)), (14, (true, vI l.length)), (15, (true, vI 0))], []⟩) [2, 3, 4, 5, 13, 14, 15] [] (by rfl) (by rfl) (by simp [noWrit])) (Nat.zero_le _) ?_
  intro i hi
  simp +contextual only [go_sem, Nat.reduceAdd, Nat.reduceLeDiff, Nat.reduceSub, Nat.reduceLT, Int.reduceLT, Int.reduceLE, Int.reduceEq, reduceCtorEq]
  refine brB_dec (fun hlt => ?_) (fun hlt => ?_)
  · have hnw : (noConf l && noWrit (l.take (i + 1))) = ((noConf l && noWrit (l.take i)) && !(atP l i).desc.writable) := by
      have : noWrit (l.take (i + 1)) = (noWrit (l.take i) && !(atP l i).desc.writable) := all_take hlt
      rw [this, Bool.and_assoc]
    generalize (noConf l && noWrit (l.take i)) = q at *
    cases q
    all_goals
      simp +contextual only [go_sem, Nat.reduceAdd, Nat.reduceLeDiff, Nat.reduceSub, Nat.reduceLT, Int.reduceLT, Int.reduceLE, Int.reduceEq, reduceCtorEq, hlt, elemP hlt, wrap_succ (show i < 4294967296 by omega)]
      refine ⟨i + 1, by omega, lw_gc' (s1 := ⟨[(2, (true, vB false)), (3, (true, vI 0)), (4, (true, vB (noConf l && noWrit (l.take (i + 1))))), (5, (true, vI 0)), (13, (true, vPs l)), (14, (true, vI l.length)), (15, (true, vI ((i + 1 : Nat) : Int)))], []⟩) [2, 3, 4, 5, 13, 14, 15] [] (by rfl) (by rw [hnw]; rfl) rfl, hlt⟩
  · simp +contextual only [go_sem, Nat.reduceAdd, Nat.reduceLeDiff, Nat.reduceSub, Nat.reduceLT, Int.reduceLT, Int.reduceLE, Int.reduceEq, reduceCtorEq]
    have e : i = l.length := by omega
    subst e
    rw [List.take_length]
    exact endF_of (by first | exact resAll2 (by rfl) (by rfl) | exact resAll3 (by rfl) (by rfl) (by rfl) | rfl) (by rfl) ⟨by rfl, rfl⟩

/-! ### the same -/
theorem s_value_IsObject (v : Val) : Fun (Ev T G E) c_value_IsObject [vV v] (vB (decide (6 ≤ v.kind) && decide (v.kind ≤ 8))) := by
  refine does_start rfl ?_
  repeat' first
    | simp +contextual only [go_sem, Nat.reduceAdd, Nat.reduceLeDiff, Nat.reduceSub, Nat.reduceLT, Int.reduceLT, Int.reduceLE, Int.reduceEq, reduceCtorEq]
    | refine brB_dec (fun hc => ?_) (fun hc => ?_)
    | refine brB_split (fun hc => ?_) (fun hc => ?_)
  exact endF_of (by first | exact resAll2 (by rfl) (by rfl) | exact resAll3 (by rfl) (by rfl) (by rfl) | rfl) (by rfl) ⟨by rfl, rfl⟩
theorem s_value_Strict_self {v : Val} (hv : v.wf) (h : v.kind = 2 ∨ v.kind = 3 → feq v.num v.num = true) (hk : v.kind ≤ 8) : Fun (Ev T G E) c_value_Strict [vV v, vV v] (vB true) := by
  have h0 : 0 ≤ v.kind := hv.1.1
  refine does_start rfl ?_
  repeat' first
    | simp +contextual only [go_sem, Nat.reduceAdd, Nat.reduceLeDiff, Nat.reduceSub, Nat.reduceLT, Int.reduceLT, Int.reduceLE, Int.reduceEq, reduceCtorEq]
    | refine brB_dec (fun hc => ?_) (fun hc => ?_)
    | refine brB_split (fun hc => ?_) (fun hc => ?_)
    | refine caR_fun (s_value_IsObject _) (by rfl) (.inr (by rfl)) (by rfl) ?_
    | refine gcR_fun (fun hg => s_value_IsObject _) (fun h => by first | exact h | rfl | simp_all) (by rfl) (.inr (by rfl)) (by rfl) ?_
  all_goals refine endF_of (by first | exact resAll2 (by rfl) (by rfl) | exact resAll3 (by rfl) (by rfl) (by rfl) | rfl) (by rfl) ⟨?_, rfl⟩
  all_goals try simp_all
  all_goals omega
theorem feq_num {a b : Nat} (h : feq a b = true) : feq a a = true := by
  rw [feq_self]
  unfold feq Ieee.Format.order at h
  have h : (Ieee.Datum.order (Ieee.double.read a) (Ieee.double.read b) == some .eq) = true := h
  show (!(Ieee.double.read a).isNaN) = true
  cases hr : Ieee.double.read a <;> simp only [hr, Ieee.Datum.order, Ieee.Datum.isNaN] at h ⊢ <;> first | rfl | exact absurd h (by decide)
theorem s_value_Same_self {v : Val} (hv : v.wf) (hm : valMay v = true) : Fun (Ev T G E) c_value_Same [vV v, vV v] (vB true) := by
  have hk : v.kind ≤ 8 := by
    unfold valMay at hm
    simp only [Bool.and_eq_true, decide_eq_true_eq] at hm
    exact hm.1.1.1
  refine does_start rfl ?_
  simp +contextual only [go_sem, Nat.reduceAdd, Nat.reduceLeDiff, Nat.reduceSub, Nat.reduceLT, Int.reduceLT, Int.reduceLE, Int.reduceEq, reduceCtorEq]
  refine brB_split (fun hn => ?_) (fun hn => ?_)
  · simp +contextual only [go_sem, Nat.reduceAdd, Nat.reduceLeDiff, Nat.reduceSub, Nat.reduceLT, Int.reduceLT, Int.reduceLE, Int.reduceEq, reduceCtorEq]
    refine endF_of (by first | exact resAll2 (by rfl) (by rfl) | exact resAll3 (by rfl) (by rfl) (by rfl) | rfl) (by rfl) ⟨?_, rfl⟩
    simp_all
  · simp +contextual only [go_sem, Nat.reduceAdd, Nat.reduceLeDiff, Nat.reduceSub, Nat.reduceLT, Int.reduceLT, Int.reduceLE, Int.reduceEq, reduceCtorEq]
    have h23 : v.kind = 2 ∨ v.kind = 3 → feq v.num v.num = true := by
      rintro (h | h)
      · unfold valMay at hm
        simp only [Bool.and_eq_true, decide_eq_true_eq, h] at hm
        have := hm.1.1.2
        simp at this
        rcases this with h | h
        · rw [h]; exact feq00
        · exact feq_num h
      · simpa [h] using hn
    refine caR_fun (s_value_Strict_self hv h23 hk) (by rfl) (.inr (by rfl)) (by rfl) ?_
    simp +contextual only [go_sem, Nat.reduceAdd, Nat.reduceLeDiff, Nat.reduceSub, Nat.reduceLT, Int.reduceLT, Int.reduceLE, Int.reduceEq, reduceCtorEq]
    exact endF_of (by first | exact resAll2 (by rfl) (by rfl) | exact resAll3 (by rfl) (by rfl) (by rfl) | rfl) (by rfl) ⟨by rfl, rfl⟩
theorem desc_may {d : Desc} (ho : descOk d = true) : (hasB d.has 1 = true → valMay d.value = true) ∧ (hasB d.has 4 = true → valMay d.get = true) ∧ (hasB d.has 8 = true → valMay d.set = true) := by
  unfold descOk at ho
  simp only [Bool.and_eq_true] at ho
  obtain ⟨⟨⟨⟨⟨⟨⟨_, _⟩, h1⟩, h2⟩, h3⟩, _⟩, _⟩, _⟩ := ho
  refine ⟨fun h => ?_, fun h => ?_, fun h => ?_⟩
  · rw [if_pos h] at h1; exact h1
  · rw [if_pos h] at h2
    unfold calledB at h2
    simp only [Bool.and_eq_true] at h2
    exact h2.1
  · rw [if_pos h] at h3
    unfold calledB at h3
    simp only [Bool.and_eq_true] at h3
    exact h3.1
theorem s_desc_Same_self {d : Desc} (hd : d.wf) (ho : descOk d = true) : Fun (Ev T G E) c_desc_Same [vD d, vD d] (vB true) := by
  obtain ⟨m1, m2, m3⟩ := desc_may ho
  have b1 := band_1 hd.1
  have b2 := band_2 hd.1
  have b4 := band_4 hd.1
  have b8 := band_8 hd.1
  have b16 := band_16 hd.1
  have b32 := band_32 hd.1
  refine does_start rfl ?_
  simp +contextual only [go_sem, Nat.reduceAdd, Nat.reduceLeDiff, Nat.reduceSub, Nat.reduceLT, Int.reduceLT, Int.reduceLE, Int.reduceEq, reduceCtorEq]
  refine gcR_fun (fun hg => s_value_Same_self hd.2.1 (m1 (by simpa [b1] using hg))) (fun h => by first | exact h | rfl | simp_all) (by rfl) (.inr (by rfl)) (by rfl) ?_
  simp +contextual only [go_sem, Nat.reduceAdd, Nat.reduceLeDiff, Nat.reduceSub, Nat.reduceLT, Int.reduceLT, Int.reduceLE, Int.reduceEq, reduceCtorEq]
  refine gcR_fun (fun hg => s_value_Same_self hd.2.2.1 (m2 (by simpa [b4] using hg))) (fun h => by first | exact h | rfl | simp_all) (by rfl) (.inr (by rfl)) (by rfl) ?_
  simp +contextual only [go_sem, Nat.reduceAdd, Nat.reduceLeDiff, Nat.reduceSub, Nat.reduceLT, Int.reduceLT, Int.reduceLE, Int.reduceEq, reduceCtorEq]
  refine gcR_fun (fun hg => s_value_Same_self hd.2.2.2 (m3 (by simpa [b8] using hg))) (fun h => by first | exact h | rfl | simp_all) (by rfl) (.inr (by rfl)) (by rfl) ?_
  simp +contextual only [go_sem, Nat.reduceAdd, Nat.reduceLeDiff, Nat.reduceSub, Nat.reduceLT, Int.reduceLT, Int.reduceLE, Int.reduceEq, reduceCtorEq, beq_self_eq_true, Bool.not_true, Bool.and_false, Bool.not_beq_self]
  exact endF_of (by first | exact resAll2 (by rfl) (by rfl) | exact resAll3 (by rfl) (by rfl) (by rfl) | rfl) (by rfl) ⟨by rfl, rfl⟩
end Go.Lx

/- What is found behind a put and behind a drop. -/
set_option linter.unusedVariables false
set_option linter.unusedSimpArgs false
namespace Go.Lx

theorem check_all {l : List Prp} (h : l.length ≤ 1024) (hc : ∀ i, i < l.length → checkAt l i = 0) : tableCheck l = 0 := by
  unfold tableCheck
  rw [if_neg (by omega)]
  have : (List.range l.length).find? (fun i => decide (checkAt l i ≠ 0)) = none := by
    rw [List.find?_range_eq_none]
    intro i hi
    simpa using hc i hi
  rw [this]
theorem place_ge {l : List Prp} {k : Key} : 0 ≤ place l k ↔ ∃ p, p ∈ l ∧ p.key = k := by
  constructor
  · intro h
    rcases place_range l k with hp | ⟨i, hp, hi⟩
    · omega
    · exact ⟨atP l i, List.mem_of_getElem? (atP_get hi), place_spec hp⟩
  · rintro ⟨p, hp, hk⟩
    rcases place_range l k with hq | ⟨i, hq, hi⟩
    · obtain ⟨j, hj, rfl⟩ := mem_atP hp
      exact absurd hk (place_no hq hj)
    · omega
structure GoodT (l : List Prp) : Prop where
  len : l.length ≤ 1024
  ok : ∀ p, p ∈ l → keyCheck p.key = 0 ∧ isWhole p.desc = true
  nd : (keysL l).Nodup
theorem keysL_get {l : List Prp} {i : Nat} (hi : i < l.length) : (keysL l)[i]? = some (atP l i).key := by
  unfold keysL
  rw [List.getElem?_map, atP_get hi]
  rfl
theorem good_of {l : List Prp} (h : tableCheck l = 0) : GoodT l := by
  have h1 := check_zero h
  refine ⟨h1.1, fun p hp => ?_, ?_⟩
  · obtain ⟨j, hj, rfl⟩ := mem_atP hp
    have := h1.2 j hj
    unfold checkAt at this
    split at this
    · cases this
    · split at this
      · cases this
      · rename_i g1 g2
        exact ⟨by simpa using g1, by simpa using g2⟩
  · unfold List.Nodup
    rw [List.pairwise_iff_getElem]
    intro i j hi hj hij
    have hi' : i < l.length := by simpa [keysL] using hi
    have hj' : j < l.length := by simpa [keysL] using hj
    have e1 := keysL_get hi'
    have e2 := keysL_get hj'
    rw [List.getElem?_eq_getElem hi] at e1
    rw [List.getElem?_eq_getElem hj] at e2
    injection e1 with e1
    injection e2 with e2
    rw [e1, e2]
    exact distinct h hj' hij
theorem of_good {l : List Prp} (h : GoodT l) : tableCheck l = 0 := by
  refine check_all h.len fun i hi => ?_
  have h1 := h.ok _ (List.mem_of_getElem? (atP_get hi))
  unfold checkAt
  rw [if_neg (by simp [h1.1]), if_neg (by simp [h1.2]), if_neg]
  intro hp
  obtain ⟨j, hj, e⟩ := (place_take (l := l) (by omega)).1 hp
  have hn := h.nd
  unfold List.Nodup at hn
  rw [List.pairwise_iff_getElem] at hn
  have hj' : j < (keysL l).length := by simp [keysL]; omega
  have hi' : i < (keysL l).length := by simpa [keysL] using hi
  have := hn j i hj' hi' hj
  have e1 := keysL_get (l := l) (i := j) (by omega)
  have e2 := keysL_get hi
  rw [List.getElem?_eq_getElem hj'] at e1
  rw [List.getElem?_eq_getElem hi'] at e2
  injection e1 with e1
  injection e2 with e2
  rw [e1, e2] at this
  exact this e
theorem asked_of {l : List Prp} {k : Key} (h : tableCheck l = 0) (hk : keyCheck k = 0) : tableAsked l k = 0 := by
  unfold tableAsked
  rw [if_pos h, hk]
theorem find_in {l : List Prp} {k : Key} {p : Prp} (h : tableCheck l = 0) (hk : keyCheck k = 0) (hp : p ∈ l) (e : p.key = k) : findB l k = true ∧ findD l k = p.desc := by
  have h1 : 0 ≤ place l k := place_ge.2 ⟨p, hp, e⟩
  have hb : findB l k = true := by simp [findB, asked_of h hk, h1]
  refine ⟨hb, ?_⟩
  unfold findD
  rw [if_pos hb]
  rcases place_range l k with hq | ⟨i, hq, hi⟩
  · omega
  · rw [hq]
    obtain ⟨j, hj, rfl⟩ := mem_atP hp
    have e2 := place_spec hq
    by_cases e3 : i = j
    · subst e3; rfl
    · exfalso
      rcases Nat.lt_or_gt_of_ne e3 with g | g
      · exact distinct h hj g (e2.trans e.symm)
      · exact distinct h hi g (e.trans e2.symm)
theorem find_out {l : List Prp} {k : Key} (hp : ∀ p, p ∈ l → p.key ≠ k) : findB l k = false ∧ findD l k = .zero := by
  have hb : findB l k = false := by
    unfold findB
    rw [Bool.and_eq_false_iff]
    right
    simp only [decide_eq_false_iff_not]
    intro h
    obtain ⟨p, h1, h2⟩ := place_ge.1 h
    exact hp p h1 h2
  refine ⟨hb, ?_⟩
  unfold findD
  rw [hb]; rfl
theorem find_cong {l m : List Prp} {k : Key} (h : tableCheck l = 0) (h' : tableCheck m = 0) (hk : keyCheck k = 0) (e : ∀ p : Prp, p.key = k → (p ∈ l ↔ p ∈ m)) : findB m k = findB l k ∧ findD m k = findD l k := by
  by_cases g : ∃ p, p ∈ l ∧ p.key = k
  · obtain ⟨p, g1, g2⟩ := g
    have f1 := find_in h hk g1 g2
    have f2 := find_in h' hk ((e p g2).1 g1) g2
    exact ⟨f2.1.trans f1.1.symm, f2.2.trans f1.2.symm⟩
  · have f1 := find_out (l := l) (k := k) (fun p g1 g2 => g ⟨p, g1, g2⟩)
    have f2 := find_out (l := m) (k := k) (fun p g1 g2 => g ⟨p, (e p g2).2 g1, g2⟩)
    exact ⟨f2.1.trans f1.1.symm, f2.2.trans f1.2.symm⟩

/-! ### put -/
theorem put_cases {l : List Prp} {k : Key} {d : Desc} (h : tableCheck l = 0) (hk : keyCheck k = 0) : (findB l k = false ∧ (∀ p, p ∈ l → p.key ≠ k) ∧ putL l k d = l ++ [⟨k, d⟩] ∧ place l k < 0) ∨ (findB l k = true ∧ ∃ i, i < l.length ∧ (atP l i).key = k ∧ place l k = i ∧ putL l k d = l.set i ⟨k, d⟩) := by
  rcases place_range l k with hq | ⟨i, hq, hi⟩
  · have ho : ∀ p, p ∈ l → p.key ≠ k := fun p hp e => by
      have := place_ge.2 ⟨p, hp, e⟩
      omega
    exact .inl ⟨(find_out ho).1, ho, by unfold putL; rw [if_pos (by omega)], by omega⟩
  · have e := place_spec hq
    refine .inr ⟨(find_in h hk (List.mem_of_getElem? (atP_get hi)) e).1, i, hi, e, hq, ?_⟩
    unfold putL
    rw [if_neg (by omega), hq]
    simp only [Int.toNat_natCast]
    rw [show ({ atP l i with desc := d } : Prp) = ⟨k, d⟩ by rw [← e]]
theorem keysL_set {l : List Prp} {i : Nat} {k : Key} {d : Desc} (hi : i < l.length) (e : (atP l i).key = k) : keysL (l.set i ⟨k, d⟩) = keysL l := by
  unfold keysL
  rw [List.map_set]
  apply List.ext_getElem?
  intro j
  rw [List.getElem?_set]
  split
  · rename_i hj
    subst hj
    have := keysL_get hi
    unfold keysL at this
    rw [this, e]
    simp [hi]
  · rfl
theorem good_put {l : List Prp} {k : Key} {d : Desc} (h : tableCheck l = 0) (he : putE l k d = 0) : tableCheck (putL l k d) = 0 := by
  obtain ⟨ha, hw, hf⟩ := putE_zero he
  have hk := (asked_zero ha).2
  have hg := good_of h
  apply of_good
  rcases put_cases (d := d) h hk with ⟨_, h1, h2, h3⟩ | ⟨_, i, hi, e, _, h2⟩
  · rw [h2]
    refine ⟨?_, fun p hp => ?_, ?_⟩
    · have := hg.len
      simp only [List.length_append, List.length_cons, List.length_nil]
      have : ¬ l.length = 1024 := fun e => hf ⟨h3, by omega⟩
      omega
    · simp only [List.mem_append, List.mem_singleton] at hp
      rcases hp with hp | rfl
      · exact hg.ok p hp
      · exact ⟨hk, hw⟩
    · unfold keysL
      rw [List.map_append, List.nodup_append]
      refine ⟨hg.nd, by simp, fun a hma b hb => ?_⟩
      simp only [List.map_cons, List.map_nil, List.mem_singleton] at hb
      subst hb
      obtain ⟨p, hp, rfl⟩ := List.mem_map.1 hma
      exact h1 p hp
  · rw [h2]
    refine ⟨by rw [List.length_set]; exact hg.len, fun p hp => ?_, ?_⟩
    · rcases List.mem_or_eq_of_mem_set hp with hp | rfl
      · exact hg.ok p hp
      · exact ⟨hk, hw⟩
    · rw [keysL_set hi e]
      exact hg.nd
theorem put_mem {l : List Prp} {k : Key} {d : Desc} (h : tableCheck l = 0) (hk : keyCheck k = 0) : (⟨k, d⟩ : Prp) ∈ putL l k d := by
  rcases put_cases (d := d) h hk with ⟨_, h1, h2, h3⟩ | ⟨_, i, hi, e, _, h2⟩
  · rw [h2]; simp
  · rw [h2]
    exact List.mem_of_getElem? (i := i) (by simp [hi])
theorem put_other {l : List Prp} {k : Key} {d : Desc} (h : tableCheck l = 0) (hk : keyCheck k = 0) {p : Prp} (hp : p.key ≠ k) : p ∈ l ↔ p ∈ putL l k d := by
  rcases put_cases (d := d) h hk with ⟨_, h1, h2, h3⟩ | ⟨_, i, hi, e, _, h2⟩
  · rw [h2]
    simp only [List.mem_append, List.mem_singleton]
    constructor
    · exact .inl
    · rintro (h | rfl)
      · exact h
      · exact absurd rfl hp
  · rw [h2]
    constructor
    · intro hm
      obtain ⟨j, hj, rfl⟩ := mem_atP hm
      refine List.mem_of_getElem? (i := j) ?_
      rw [List.getElem?_set, if_neg (fun ej => hp (by rw [← ej]; exact e)), atP_get hj]
    · intro hm
      rcases List.mem_or_eq_of_mem_set hm with hm | rfl
      · exact hm
      · exact absurd rfl hp
theorem put_len {l : List Prp} {k : Key} {d : Desc} (h : tableCheck l = 0) (hk : keyCheck k = 0) : (putL l k d).length = if findB l k then l.length else l.length + 1 := by
  rcases put_cases (d := d) h hk with ⟨h0, h1, h2, h3⟩ | ⟨h0, i, hi, e, _, h2⟩
  · rw [h2, h0]; simp
  · rw [h2, h0]; simp
theorem put_keys {l : List Prp} {k : Key} {d : Desc} (h : tableCheck l = 0) (hk : keyCheck k = 0) {j : Nat} (hj : j < l.length) : (atP (putL l k d) j).key = (atP l j).key := by
  rcases put_cases (d := d) h hk with ⟨h0, h1, h2, h3⟩ | ⟨h0, i, hi, e, _, h2⟩
  · rw [h2]
    simp [atP, List.getElem?_append_left hj]
  · rw [h2]
    by_cases g : i = j
    · subst g
      rw [e]
      simp [atP, hi]
    · simp [atP, List.getElem?_set, g]

/-! ### drop -/
theorem good_drop {l : List Prp} {k : Key} (h : tableCheck l = 0) : tableCheck (dropL l k) = 0 := by
  have hg := good_of h
  apply of_good
  refine ⟨Nat.le_trans (List.length_filter_le _ _) hg.len, fun p hp => hg.ok p (List.mem_filter.1 hp).1, ?_⟩
  exact List.Nodup.sublist (List.Sublist.map _ List.filter_sublist) hg.nd
theorem drop_out {l : List Prp} {k : Key} : ∀ p, p ∈ dropL l k → p.key ≠ k := fun p hp => by simpa using (List.mem_filter.1 hp).2
theorem drop_other {l : List Prp} {k : Key} {p : Prp} (hp : p.key ≠ k) : p ∈ l ↔ p ∈ dropL l k := by
  unfold dropL
  rw [List.mem_filter]
  simp [hp]
theorem drop_at {l : List Prp} {k : Key} {i : Nat} (hi : i < l.length) (hk : (atP l i).key ≠ k) : (dropL (l.take i) k).length < (dropL l k).length ∧ atP (dropL l k) (dropL (l.take i) k).length = atP l i := by
  have e : dropL l k = dropL (l.take (i + 1)) k ++ dropL (l.drop (i + 1)) k := by
    unfold dropL
    rw [← List.filter_append, List.take_append_drop]
  rw [dropL_step hi, if_neg hk] at e
  rw [e]
  exact ⟨by simp, by simp [atP]⟩
theorem findD_may {l : List Prp} {k : Key} (h : tableCheck l = 0) (hk : keyCheck k = 0) : descOk (findD l k) = true := by
  by_cases g : ∃ p, p ∈ l ∧ p.key = k
  · obtain ⟨p, g1, g2⟩ := g
    rw [(find_in h hk g1 g2).2]
    have := ((good_of h).ok p g1).2
    unfold isWhole at this
    simp only [Bool.and_eq_true] at this
    exact this.1
  · rw [(find_out (l := l) (k := k) (fun p g1 g2 => g ⟨p, g1, g2⟩)).2]
    decide +kernel
theorem zero_wf : Val.zero.wf := ⟨⟨by decide, by decide⟩, by decide, by decide, ⟨by decide, by decide⟩⟩
theorem findD_wf {l : List Prp} {k : Key} (hl : wfP l) : (findD l k).wf := by
  unfold findD
  split
  · rename_i h
    simp only [findB, Bool.and_eq_true, decide_eq_true_eq] at h
    rcases place_range l k with hq | ⟨i, hq, hi⟩
    · omega
    · rw [hq]
      exact (hl i hi).2
  · exact ⟨⟨by decide, by decide⟩, zero_wf, zero_wf, zero_wf⟩
end Go.Lx
