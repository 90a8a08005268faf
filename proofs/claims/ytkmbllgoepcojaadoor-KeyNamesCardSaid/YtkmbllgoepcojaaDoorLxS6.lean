import Derived.Test.YtkmbllgoepcojaaDoorLxS3
/- The reference's check of tables; asks. -/
set_option linter.unusedVariables false
set_option linter.unusedSimpArgs false
set_option maxRecDepth 100000
namespace Go.Lx
variable {T G E : Nat}

theorem sub_P {l : List Prp} {i : Nat} : sub (l.map encProp) 0 (i : Int) = (l.take i).map encProp := by simp [sub, List.map_take]
attribute [go_sem] sub_P
theorem s_ref10_Check {l : List Prp} (hl : wfP l) : Fun (Ev T G E) c_bailiffref10_Check [vPs l] (vI (tableCheck l)) := by
  refine does_start rfl ?_
  simp +contextual only [go_sem, Nat.reduceAdd, Nat.reduceLeDiff, Nat.reduceSub, Nat.reduceLT, Int.reduceLT, Int.reduceLE, Int.reduceEq, reduceCtorEq]
  refine brB_dec (fun hc => ?_) (fun hc => ?_)
  · simp +contextual only [go_sem, Nat.reduceAdd, Nat.reduceLeDiff, Nat.reduceSub, Nat.reduceLT, Int.reduceLT, Int.reduceLE, Int.reduceEq, reduceCtorEq]
    refine endF_of (by first | exact resAll2 (by rfl) (by rfl) | exact resAll3 (by rfl) (by rfl) (by rfl) | rfl) (by rfl) ⟨?_, rfl⟩
    simp only [tableCheck]
    rw [if_pos (by omega)]
  · have hlen : l.length ≤ 1024 := by omega
    simp +contextual only [go_sem, Nat.reduceAdd, Nat.reduceLeDiff, Nat.reduceSub, Nat.reduceLT, Int.reduceLT, Int.reduceLE, Int.reduceEq, reduceCtorEq]
    refine xK_loop (fun i : Nat => ⟨[(0, (true, vPs l)), (3, (true, vI i))], []⟩) (fun i => i ≤ l.length ∧ ∀ j, j < i → checkAt l j = 0) (fun i => l.length - i) 0 (lw_gc [0, 3] [] (by rfl) (by rfl)) ⟨by omega, by omega⟩ ?_
    rintro i ⟨hi, hj⟩
    simp +contextual only [go_sem, Nat.reduceAdd, Nat.reduceLeDiff, Nat.reduceSub, Nat.reduceLT, Int.reduceLT, Int.reduceLE, Int.reduceEq, reduceCtorEq]
    refine brB_dec (fun hlt => ?_) (fun hlt => ?_)
    · have hi' : i < l.length := by omega
      have hw := hl i hi'
      simp +contextual only [go_sem, Nat.reduceAdd, Nat.reduceLeDiff, Nat.reduceSub, Nat.reduceLT, Int.reduceLT, Int.reduceLE, Int.reduceEq, reduceCtorEq, hlt, elemP hi', hi']
      refine caR_fun (s_ref08_Check _) (by rfl) (.inr (by rfl)) (by rfl) ?_
      simp +contextual only [go_sem, Nat.reduceAdd, Nat.reduceLeDiff, Nat.reduceSub, Nat.reduceLT, Int.reduceLT, Int.reduceLE, Int.reduceEq, reduceCtorEq]
      refine brB_dec (fun hk => ?_) (fun hk => ?_)
      · simp +contextual only [go_sem, Nat.reduceAdd, Nat.reduceLeDiff, Nat.reduceSub, Nat.reduceLT, Int.reduceLT, Int.reduceLE, Int.reduceEq, reduceCtorEq, hlt, elemP hi', hi']
        refine caR_fun (s_ref09_IsWhole hw.2) (by rfl) (.inr (by rfl)) (by rfl) ?_
        simp +contextual only [go_sem, Nat.reduceAdd, Nat.reduceLeDiff, Nat.reduceSub, Nat.reduceLT, Int.reduceLT, Int.reduceLE, Int.reduceEq, reduceCtorEq]
        refine brB_split (fun hq => ?_) (fun hq => ?_)
        · simp +contextual only [go_sem, Nat.reduceAdd, Nat.reduceLeDiff, Nat.reduceSub, Nat.reduceLT, Int.reduceLT, Int.reduceLE, Int.reduceEq, reduceCtorEq, hlt, elemP hi', hi', Nat.le_of_lt hi']
          refine gcR_fun (fun hg => s_ref10_Place (l := l.take i) (by rw [List.length_take]; omega) _) (fun h => by first | exact h | rfl | simp_all) (by rfl) (.inr (by rfl)) (by rfl) ?_
          simp +contextual only [go_sem, Nat.reduceAdd, Nat.reduceLeDiff, Nat.reduceSub, Nat.reduceLT, Int.reduceLT, Int.reduceLE, Int.reduceEq, reduceCtorEq]
          refine brB_dec (fun hp => ?_) (fun hp => ?_)
          · simp +contextual only [go_sem, Nat.reduceAdd, Nat.reduceLeDiff, Nat.reduceSub, Nat.reduceLT, Int.reduceLT, Int.reduceLE, Int.reduceEq, reduceCtorEq]
            refine endF_of (by first | exact resAll2 (by rfl) (by rfl) | exact resAll3 (by rfl) (by rfl) (by rfl) | rfl) (by rfl) ⟨?_, rfl⟩
            have hc' : checkAt l i = 100 := by
              unfold checkAt
              rw [if_neg (by simp [hk]), if_neg (by simp [hq]), if_pos hp]
            rw [check_some hlen hi' (by rw [hc']; decide) hj, hc']
          · simp +contextual only [go_sem, Nat.reduceAdd, Nat.reduceLeDiff, Nat.reduceSub, Nat.reduceLT, Int.reduceLT, Int.reduceLE, Int.reduceEq, reduceCtorEq, wrap_succ (show i < 4294967296 by omega)]
            refine ⟨i + 1, by omega, lw_gc [0, 3] [] (by rfl) (by rfl), by omega, fun j hj' => ?_⟩
            by_cases e : j = i
            · subst e
              unfold checkAt
              rw [if_neg (by simp [hk]), if_neg (by simp [hq]), if_neg hp]
            · exact hj j (by omega)
        · simp +contextual only [go_sem, Nat.reduceAdd, Nat.reduceLeDiff, Nat.reduceSub, Nat.reduceLT, Int.reduceLT, Int.reduceLE, Int.reduceEq, reduceCtorEq]
          refine endF_of (by first | exact resAll2 (by rfl) (by rfl) | exact resAll3 (by rfl) (by rfl) (by rfl) | rfl) (by rfl) ⟨?_, rfl⟩
          have hc' : checkAt l i = 90 := by
            unfold checkAt
            rw [if_neg (by simp [hk]), if_pos hq]
          rw [check_some hlen hi' (by rw [hc']; decide) hj, hc']
      · simp +contextual only [go_sem, Nat.reduceAdd, Nat.reduceLeDiff, Nat.reduceSub, Nat.reduceLT, Int.reduceLT, Int.reduceLE, Int.reduceEq, reduceCtorEq]
        refine endF_of (by first | exact resAll2 (by rfl) (by rfl) | exact resAll3 (by rfl) (by rfl) (by rfl) | rfl) (by rfl) ⟨?_, rfl⟩
        have hk9 : keyCheck (atP l i).key = 9 := by
          unfold keyCheck at hk ⊢
          split at hk <;> simp_all
        have hc' : checkAt l i = 9 := by
          unfold checkAt
          rw [if_pos (by simp [hk])]
        rw [check_some hlen hi' (by rw [hc']; decide) hj, hc']
    · simp +contextual only [go_sem, Nat.reduceAdd, Nat.reduceLeDiff, Nat.reduceSub, Nat.reduceLT, Int.reduceLT, Int.reduceLE, Int.reduceEq, reduceCtorEq]
      refine endF_of (by first | exact resAll2 (by rfl) (by rfl) | exact resAll3 (by rfl) (by rfl) (by rfl) | rfl) (by rfl) ⟨?_, rfl⟩
      rw [check_none hlen (fun j hj' => hj j (by omega))]

def tableAsked (l : List Prp) (k : Key) : Int := if tableCheck l = 0 then keyCheck k else tableCheck l
theorem s_table_asked {l : List Prp} (hl : wfP l) (k : Key) : Fun (Ev T G E) c_table_asked [vPs l, vK k] (vI (tableAsked l k)) := by
  refine does_start rfl ?_
  repeat' first
    | simp +contextual only [go_sem, Nat.reduceAdd, Nat.reduceLeDiff, Nat.reduceSub, Nat.reduceLT, Int.reduceLT, Int.reduceLE, Int.reduceEq, reduceCtorEq]
    | refine brB_dec (fun hc => ?_) (fun hc => ?_)
    | refine brB_split (fun hc => ?_) (fun hc => ?_)
    | refine caR_fun (s_table_Check hl) (by rfl) (.inr (by rfl)) (by rfl) ?_
    | refine gcR_fun (fun hg => s_table_Check hl) (fun h => by first | exact h | rfl | simp_all) (by rfl) (.inr (by rfl)) (by rfl) ?_
    | refine caR_fun (s_key_Check _) (by rfl) (.inr (by rfl)) (by rfl) ?_
    | refine gcR_fun (fun hg => s_key_Check _) (fun h => by first | exact h | rfl | simp_all) (by rfl) (.inr (by rfl)) (by rfl) ?_
  all_goals refine endF_of (by first | exact resAll2 (by rfl) (by rfl) | exact resAll3 (by rfl) (by rfl) (by rfl) | rfl) (by rfl) ⟨?_, rfl⟩
  all_goals simp_all [tableAsked]
theorem s_ref10_asked {l : List Prp} (hl : wfP l) (k : Key) : Fun (Ev T G E) c_bailiffref10_asked [vPs l, vK k] (vI (tableAsked l k)) := by
  refine does_start rfl ?_
  repeat' first
    | simp +contextual only [go_sem, Nat.reduceAdd, Nat.reduceLeDiff, Nat.reduceSub, Nat.reduceLT, Int.reduceLT, Int.reduceLE, Int.reduceEq, reduceCtorEq]
    | refine brB_dec (fun hc => ?_) (fun hc => ?_)
    | refine brB_split (fun hc => ?_) (fun hc => ?_)
    | refine caR_fun (s_ref10_Check hl) (by rfl) (.inr (by rfl)) (by rfl) ?_
    | refine gcR_fun (fun hg => s_ref10_Check hl) (fun h => by first | exact h | rfl | simp_all) (by rfl) (.inr (by rfl)) (by rfl) ?_
    | refine caR_fun (s_ref08_Check _) (by rfl) (.inr (by rfl)) (by rfl) ?_
    | refine gcR_fun (fun hg => s_ref08_Check _) (fun h => by first | exact h | rfl | simp_all) (by rfl) (.inr (by rfl)) (by rfl) ?_
  all_goals refine endF_of (by first | exact resAll2 (by rfl) (by rfl) | exact resAll3 (by rfl) (by rfl) (by rfl) | rfl) (by rfl) ⟨?_, rfl⟩
  all_goals simp_all [tableAsked]
end Go.Lx

/- Properties put and dropped. -/
set_option linter.unusedVariables false
set_option linter.unusedSimpArgs false
set_option maxRecDepth 100000
namespace Go.Lx
variable {T G E : Nat}

/-- what comes of a put -/
def putE (l : List Prp) (k : Key) (d : Desc) : Int :=
  if tableAsked l k ≠ 0 then tableAsked l k else if isWhole d = false then 90 else if place l k < 0 ∧ l.length = 1024 then 100 else 0
def putL (l : List Prp) (k : Key) (d : Desc) : List Prp := if place l k < 0 then l ++ [⟨k, d⟩] else l.set (place l k).toNat { atP l (place l k).toNat with desc := d }
/-- an own row of properties, and no error -/
def OwnP (l : List Prp) (v : V) (h : List Root) : Prop := ∃ g, v = .tup [.s (.ref 0 g 18 0 l.length), vI 0] ∧ h = [.row g 18 (l.map encProp)]

theorem asked_len {l : List Prp} {k : Key} (h : tableAsked l k = 0) : l.length ≤ 1024 := by
  apply Classical.byContradiction
  intro hn
  have h4 : tableCheck l = 4 := by unfold tableCheck; rw [if_pos (by omega)]
  unfold tableAsked at h
  rw [h4, if_neg (by decide)] at h
  cases h
theorem place_range (l : List Prp) (k : Key) : place l k = -1 ∨ ∃ i : Nat, place l k = i ∧ i < l.length := by
  unfold place
  split
  · rename_i i hi
    exact .inr ⟨i, rfl, (List.findIdx?_eq_some_iff_getElem.1 hi).1⟩
  · exact .inl rfl
theorem sub_allP {l : List Prp} : sub (l.map encProp) 0 (l.length : Int) = l.map encProp := by simp [sub, List.take_of_length_le]
theorem sub_none {l : List U} : sub l 0 0 = [] := by simp [sub]

theorem s_table_Put_err {l : List Prp} {k : Key} {d : Desc} (hl : wfP l) (hd : d.wf) (he : putE l k d ≠ 0) : Fun (Ev T G E) c_table_Put [vPs l, vK k, vD d] (.tup [.s (.full []), vI (putE l k d)]) := by
  refine does_start rfl ?_
  simp +contextual only [go_sem, Nat.reduceAdd, Nat.reduceLeDiff, Nat.reduceSub, Nat.reduceLT, Int.reduceLT, Int.reduceLE, Int.reduceEq, reduceCtorEq]
  refine caR_fun (s_table_asked hl _) (by rfl) (.inr (by rfl)) (by rfl) ?_
  simp +contextual only [go_sem, Nat.reduceAdd, Nat.reduceLeDiff, Nat.reduceSub, Nat.reduceLT, Int.reduceLT, Int.reduceLE, Int.reduceEq, reduceCtorEq]
  refine brB_dec (fun ha => ?_) (fun ha => ?_)
  · have hlen := asked_len ha
    simp +contextual only [go_sem, Nat.reduceAdd, Nat.reduceLeDiff, Nat.reduceSub, Nat.reduceLT, Int.reduceLT, Int.reduceLE, Int.reduceEq, reduceCtorEq]
    refine caR_fun (s_table_at (l := l) (by omega) _) (by rfl) (.inr (by rfl)) (by rfl) ?_
    simp +contextual only [go_sem, Nat.reduceAdd, Nat.reduceLeDiff, Nat.reduceSub, Nat.reduceLT, Int.reduceLT, Int.reduceLE, Int.reduceEq, reduceCtorEq]
    refine caR_fun (s_table_whole hd) (by rfl) (.inr (by rfl)) (by rfl) ?_
    simp +contextual only [go_sem, Nat.reduceAdd, Nat.reduceLeDiff, Nat.reduceSub, Nat.reduceLT, Int.reduceLT, Int.reduceLE, Int.reduceEq, reduceCtorEq]
    refine brB_split (fun hw => ?_) (fun hw => ?_)
    · simp +contextual only [go_sem, Nat.reduceAdd, Nat.reduceLeDiff, Nat.reduceSub, Nat.reduceLT, Int.reduceLT, Int.reduceLE, Int.reduceEq, reduceCtorEq]
      refine brB_split (fun hf => ?_) (fun hf => ?_)
      · simp +contextual only [go_sem, Nat.reduceAdd, Nat.reduceLeDiff, Nat.reduceSub, Nat.reduceLT, Int.reduceLT, Int.reduceLE, Int.reduceEq, reduceCtorEq]
        refine endF_of (by first | exact resAll2 (by rfl) (by rfl) | exact resAll3 (by rfl) (by rfl) (by rfl) | rfl) (by rfl) ⟨?_, rfl⟩
        simp only [Bool.and_eq_true, decide_eq_true_eq] at hf
        unfold putE
        rw [if_neg (by simp [ha]), if_neg (by simp [hw]), if_pos (by omega)]
      · exfalso
        simp only [Bool.and_eq_false_iff, decide_eq_false_iff_not] at hf
        apply he
        unfold putE
        rw [if_neg (by simp [ha]), if_neg (by simp [hw]), if_neg (by omega)]
    · simp +contextual only [go_sem, Nat.reduceAdd, Nat.reduceLeDiff, Nat.reduceSub, Nat.reduceLT, Int.reduceLT, Int.reduceLE, Int.reduceEq, reduceCtorEq]
      refine endF_of (by first | exact resAll2 (by rfl) (by rfl) | exact resAll3 (by rfl) (by rfl) (by rfl) | rfl) (by rfl) ⟨?_, rfl⟩
      unfold putE
      rw [if_neg (by simp [ha]), if_pos hw]
  · simp +contextual only [go_sem, Nat.reduceAdd, Nat.reduceLeDiff, Nat.reduceSub, Nat.reduceLT, Int.reduceLT, Int.reduceLE, Int.reduceEq, reduceCtorEq]
    refine endF_of (by first | exact resAll2 (by rfl) (by rfl) | exact resAll3 (by rfl) (by rfl) (by rfl) | rfl) (by rfl) ⟨?_, rfl⟩
    unfold putE
    rw [if_pos ha]
theorem s_table_Put_ok {l : List Prp} {k : Key} {d : Desc} (hl : wfP l) (hd : d.wf) (he : putE l k d = 0) : Does (Ev T G E) c_table_Put [vPs l, vK k, vD d] [] (OwnP (putL l k d)) := by
  have ha : tableAsked l k = 0 := by
    apply Classical.byContradiction
    intro ha
    unfold putE at he
    rw [if_pos ha] at he
    exact ha he
  have hw : isWhole d = true := by
    unfold putE at he
    rw [if_neg (by simp [ha])] at he
    cases hw : isWhole d
    · rw [if_pos hw] at he; cases he
    · rfl
  have hf : ¬ (place l k < 0 ∧ l.length = 1024) := by
    unfold putE at he
    rw [if_neg (by simp [ha]), if_neg (by simp [hw])] at he
    intro hf
    rw [if_pos hf] at he
    cases he
  have hlen := asked_len ha
  refine does_start rfl ?_
  simp +contextual only [go_sem, Nat.reduceAdd, Nat.reduceLeDiff, Nat.reduceSub, Nat.reduceLT, Int.reduceLT, Int.reduceLE, Int.reduceEq, reduceCtorEq]
  refine caR_fun (s_table_asked hl _) (by rfl) (.inr (by rfl)) (by rfl) ?_
  simp +contextual only [go_sem, Nat.reduceAdd, Nat.reduceLeDiff, Nat.reduceSub, Nat.reduceLT, Int.reduceLT, Int.reduceLE, Int.reduceEq, reduceCtorEq, ha]
  refine caR_fun (s_table_at (l := l) (by omega) _) (by rfl) (.inr (by rfl)) (by rfl) ?_
  simp +contextual only [go_sem, Nat.reduceAdd, Nat.reduceLeDiff, Nat.reduceSub, Nat.reduceLT, Int.reduceLT, Int.reduceLE, Int.reduceEq, reduceCtorEq]
  refine caR_fun (s_table_whole hd) (by rfl) (.inr (by rfl)) (by rfl) ?_
  simp +contextual only [go_sem, Nat.reduceAdd, Nat.reduceLeDiff, Nat.reduceSub, Nat.reduceLT, Int.reduceLT, Int.reduceLE, Int.reduceEq, reduceCtorEq, hw]
  rcases place_range l k with hp | ⟨i, hp, hi⟩
  · have hne : ¬ (l.length : Int) = 1024 := by omega
    simp +contextual only [go_sem, Nat.reduceAdd, Nat.reduceLeDiff, Nat.reduceSub, Nat.reduceLT, Int.reduceLT, Int.reduceLE, Int.reduceEq, reduceCtorEq, hp, hne, show l.length + 1 ≤ 4294967296 by omega, sub_allP]
    refine endF_gc (v := .tup [.s (.ref 0 0 18 0 (l.length + 1)), vI 0]) (s0 := ⟨[(6, (true, .s (.ref 0 0 18 0 (l.length + 1)))), (7, (true, vI 0))], [.row 0 18 (l.map encProp ++ [encProp ⟨k, d⟩])]⟩) [6, 7] [3] (by rfl) (by rfl) (resAll2 (by rfl) (by rfl)) ?_
    have hput : putL l k d = l ++ [⟨k, d⟩] := by unfold putL; rw [if_pos (by omega)]
    exact ⟨0, by simp [hput], by simp [hput]⟩
  · have hn : ¬ (i : Int) < 0 := by omega
    simp +contextual only [go_sem, Nat.reduceAdd, Nat.reduceLeDiff, Nat.reduceSub, Nat.reduceLT, Int.reduceLT, Int.reduceLE, Int.reduceEq, reduceCtorEq, hp, hn, show 0 + l.length ≤ 4294967296 by omega, show l.length ≤ 4294967296 by omega, sub_none, hi, elemP hi]
    refine endF_gc (v := .tup [.s (.ref 0 0 18 0 l.length), vI 0]) (s0 := ⟨[(6, (true, .s (.ref 0 0 18 0 l.length))), (7, (true, vI 0))], [.row 0 18 ((l.map encProp).set i (encProp { atP l i with desc := d }))]⟩) [6, 7] [2] (by rfl) (by rfl) (resAll2 (by rfl) (by rfl)) ?_
    have hput : putL l k d = l.set i { atP l i with desc := d } := by unfold putL; rw [if_neg (by omega), hp]; rfl
    exact ⟨0, by simp [hput], by simp [hput, List.map_set]⟩

/-- the reference's -/
theorem s_ref10_Put_err {l : List Prp} {k : Key} {d : Desc} (hl : wfP l) (hd : d.wf) (he : putE l k d ≠ 0) : Fun (Ev T G E) c_bailiffref10_Put [vPs l, vK k, vD d] (.tup [.s (.full []), vI (putE l k d)]) := by
  refine does_start rfl ?_
  simp +contextual only [go_sem, Nat.reduceAdd, Nat.reduceLeDiff, Nat.reduceSub, Nat.reduceLT, Int.reduceLT, Int.reduceLE, Int.reduceEq, reduceCtorEq]
  refine caR_fun (s_ref10_asked hl _) (by rfl) (.inr (by rfl)) (by rfl) ?_
  simp +contextual only [go_sem, Nat.reduceAdd, Nat.reduceLeDiff, Nat.reduceSub, Nat.reduceLT, Int.reduceLT, Int.reduceLE, Int.reduceEq, reduceCtorEq]
  refine brB_dec (fun ha => ?_) (fun ha => ?_)
  · have hlen := asked_len ha
    simp +contextual only [go_sem, Nat.reduceAdd, Nat.reduceLeDiff, Nat.reduceSub, Nat.reduceLT, Int.reduceLT, Int.reduceLE, Int.reduceEq, reduceCtorEq]
    refine caR_fun (s_ref09_IsWhole hd) (by rfl) (.inr (by rfl)) (by rfl) ?_
    simp +contextual only [go_sem, Nat.reduceAdd, Nat.reduceLeDiff, Nat.reduceSub, Nat.reduceLT, Int.reduceLT, Int.reduceLE, Int.reduceEq, reduceCtorEq]
    refine brB_split (fun hw => ?_) (fun hw => ?_)
    · simp +contextual only [go_sem, Nat.reduceAdd, Nat.reduceLeDiff, Nat.reduceSub, Nat.reduceLT, Int.reduceLT, Int.reduceLE, Int.reduceEq, reduceCtorEq]
      refine caR_fun (s_ref10_Place (l := l) (by omega) _) (by rfl) (.inr (by rfl)) (by rfl) ?_
      simp +contextual only [go_sem, Nat.reduceAdd, Nat.reduceLeDiff, Nat.reduceSub, Nat.reduceLT, Int.reduceLT, Int.reduceLE, Int.reduceEq, reduceCtorEq]
      refine brB_split (fun hf => ?_) (fun hf => ?_)
      · simp +contextual only [go_sem, Nat.reduceAdd, Nat.reduceLeDiff, Nat.reduceSub, Nat.reduceLT, Int.reduceLT, Int.reduceLE, Int.reduceEq, reduceCtorEq]
        refine endF_of (by first | exact resAll2 (by rfl) (by rfl) | exact resAll3 (by rfl) (by rfl) (by rfl) | rfl) (by rfl) ⟨?_, rfl⟩
        simp only [Bool.and_eq_true, decide_eq_true_eq] at hf
        unfold putE
        rw [if_neg (by simp [ha]), if_neg (by simp [hw]), if_pos (by omega)]
      · exfalso
        simp only [Bool.and_eq_false_iff, decide_eq_false_iff_not] at hf
        apply he
        unfold putE
        rw [if_neg (by simp [ha]), if_neg (by simp [hw]), if_neg (by omega)]
    · simp +contextual only [go_sem, Nat.reduceAdd, Nat.reduceLeDiff, Nat.reduceSub, Nat.reduceLT, Int.reduceLT, Int.reduceLE, Int.reduceEq, reduceCtorEq]
      refine endF_of (by first | exact resAll2 (by rfl) (by rfl) | exact resAll3 (by rfl) (by rfl) (by rfl) | rfl) (by rfl) ⟨?_, rfl⟩
      unfold putE
      rw [if_neg (by simp [ha]), if_pos hw]
  · simp +contextual only [go_sem, Nat.reduceAdd, Nat.reduceLeDiff, Nat.reduceSub, Nat.reduceLT, Int.reduceLT, Int.reduceLE, Int.reduceEq, reduceCtorEq]
    refine endF_of (by first | exact resAll2 (by rfl) (by rfl) | exact resAll3 (by rfl) (by rfl) (by rfl) | rfl) (by rfl) ⟨?_, rfl⟩
    unfold putE
    rw [if_pos ha]
theorem putE_zero {l : List Prp} {k : Key} {d : Desc} (he : putE l k d = 0) : tableAsked l k = 0 ∧ isWhole d = true ∧ ¬ (place l k < 0 ∧ l.length = 1024) := by
  have ha : tableAsked l k = 0 := by
    apply Classical.byContradiction
    intro ha
    unfold putE at he
    rw [if_pos ha] at he
    exact ha he
  have hw : isWhole d = true := by
    unfold putE at he
    rw [if_neg (by simp [ha])] at he
    cases hw : isWhole d
    · rw [if_pos hw] at he; cases he
    · rfl
  refine ⟨ha, hw, fun hf => ?_⟩
  unfold putE at he
  rw [if_neg (by simp [ha]), if_neg (by simp [hw]), if_pos hf] at he
  cases he
theorem s_ref10_Put_ok {l : List Prp} {k : Key} {d : Desc} (hl : wfP l) (hd : d.wf) (he : putE l k d = 0) : Does (Ev T G E) c_bailiffref10_Put [vPs l, vK k, vD d] [] (OwnP (putL l k d)) := by
  obtain ⟨ha, hw, hf⟩ := putE_zero he
  have hlen := asked_len ha
  refine does_start rfl ?_
  simp +contextual only [go_sem, Nat.reduceAdd, Nat.reduceLeDiff, Nat.reduceSub, Nat.reduceLT, Int.reduceLT, Int.reduceLE, Int.reduceEq, reduceCtorEq]
  refine caR_fun (s_ref10_asked hl _) (by rfl) (.inr (by rfl)) (by rfl) ?_
  simp +contextual only [go_sem, Nat.reduceAdd, Nat.reduceLeDiff, Nat.reduceSub, Nat.reduceLT, Int.reduceLT, Int.reduceLE, Int.reduceEq, reduceCtorEq, ha]
  refine caR_fun (s_ref09_IsWhole hd) (by rfl) (.inr (by rfl)) (by rfl) ?_
  simp +contextual only [go_sem, Nat.reduceAdd, Nat.reduceLeDiff, Nat.reduceSub, Nat.reduceLT, Int.reduceLT, Int.reduceLE, Int.reduceEq, reduceCtorEq, hw]
  refine caR_fun (s_ref10_Place (l := l) (by omega) _) (by rfl) (.inr (by rfl)) (by rfl) ?_
  simp +contextual only [go_sem, Nat.reduceAdd, Nat.reduceLeDiff, Nat.reduceSub, Nat.reduceLT, Int.reduceLT, Int.reduceLE, Int.reduceEq, reduceCtorEq]
  rcases place_range l k with hp | ⟨i, hp, hi⟩
  · have hne : ¬ (l.length : Int) = 1024 := by omega
    simp +contextual only [go_sem, Nat.reduceAdd, Nat.reduceLeDiff, Nat.reduceSub, Nat.reduceLT, Int.reduceLT, Int.reduceLE, Int.reduceEq, reduceCtorEq, hp, hne, show 0 + l.length ≤ 4294967296 by omega, show l.length ≤ 4294967296 by omega, show l.length + 1 ≤ 4294967296 by omega]
    refine endF_gc (v := .tup [.s (.ref 0 1 18 0 (l.length + 1)), vI 0]) (s0 := ⟨[(6, (true, .s (.ref 0 1 18 0 (l.length + 1)))), (7, (true, vI 0))], [.row 1 18 (l.map encProp ++ [encProp ⟨k, d⟩])]⟩) [6, 7] [2] (by rfl) (by rfl) (resAll2 (by rfl) (by rfl)) ?_
    have hput : putL l k d = l ++ [⟨k, d⟩] := by unfold putL; rw [if_pos (by omega)]
    exact ⟨1, by simp [hput], by simp [hput]⟩
  · have hn : ¬ (i : Int) < 0 := by omega
    simp +contextual only [go_sem, Nat.reduceAdd, Nat.reduceLeDiff, Nat.reduceSub, Nat.reduceLT, Int.reduceLT, Int.reduceLE, Int.reduceEq, reduceCtorEq, hp, hn, show 0 + l.length ≤ 4294967296 by omega, show l.length ≤ 4294967296 by omega, hi, elemP hi]
    refine endF_gc (v := .tup [.s (.ref 0 0 18 0 l.length), vI 0]) (s0 := ⟨[(6, (true, .s (.ref 0 0 18 0 l.length))), (7, (true, vI 0))], [.row 0 18 ((l.map encProp).set i (encProp { atP l i with desc := d }))]⟩) [6, 7] [2] (by rfl) (by rfl) (resAll2 (by rfl) (by rfl)) ?_
    have hput : putL l k d = l.set i { atP l i with desc := d } := by unfold putL; rw [if_neg (by omega), hp]; rfl
    exact ⟨0, by simp [hput], by simp [hput, List.map_set]⟩

/-! ### dropped -/
def dropL (l : List Prp) (k : Key) : List Prp := l.filter fun p => decide (p.key ≠ k)
theorem s_table_Drop_err {l : List Prp} {k : Key} (hl : wfP l) (he : tableAsked l k ≠ 0) : Fun (Ev T G E) c_table_Drop [vPs l, vK k] (.tup [.s (.full []), vI (tableAsked l k)]) := by
  refine does_start rfl ?_
  simp +contextual only [go_sem, Nat.reduceAdd, Nat.reduceLeDiff, Nat.reduceSub, Nat.reduceLT, Int.reduceLT, Int.reduceLE, Int.reduceEq, reduceCtorEq]
  refine caR_fun (s_table_asked hl _) (by rfl) (.inr (by rfl)) (by rfl) ?_
  simp +contextual only [go_sem, Nat.reduceAdd, Nat.reduceLeDiff, Nat.reduceSub, Nat.reduceLT, Int.reduceLT, Int.reduceLE, Int.reduceEq, reduceCtorEq, he]
  exact endF_of (by first | exact resAll2 (by rfl) (by rfl) | exact resAll3 (by rfl) (by rfl) (by rfl) | rfl) (by rfl) ⟨by rfl, rfl⟩
theorem s_ref10_Drop_err {l : List Prp} {k : Key} (hl : wfP l) (he : tableAsked l k ≠ 0) : Fun (Ev T G E) c_bailiffref10_Drop [vPs l, vK k] (.tup [.s (.full []), vI (tableAsked l k)]) := by
  refine does_start rfl ?_
  simp +contextual only [go_sem, Nat.reduceAdd, Nat.reduceLeDiff, Nat.reduceSub, Nat.reduceLT, Int.reduceLT, Int.reduceLE, Int.reduceEq, reduceCtorEq]
  refine caR_fun (s_ref10_asked hl _) (by rfl) (.inr (by rfl)) (by rfl) ?_
  simp +contextual only [go_sem, Nat.reduceAdd, Nat.reduceLeDiff, Nat.reduceSub, Nat.reduceLT, Int.reduceLT, Int.reduceLE, Int.reduceEq, reduceCtorEq, he]
  exact endF_of (by first | exact resAll2 (by rfl) (by rfl) | exact resAll3 (by rfl) (by rfl) (by rfl) | rfl) (by rfl) ⟨by rfl, rfl⟩
theorem check_zero {l : List Prp} (h : tableCheck l = 0) : l.length ≤ 1024 ∧ ∀ j, j < l.length → checkAt l j = 0 := by
  unfold tableCheck at h
  by_cases hl : 1024 < l.length
  · rw [if_pos hl] at h; cases h
  · rw [if_neg hl] at h
    refine ⟨by omega, fun j hj => ?_⟩
    cases hf : (List.range l.length).find? (fun i => decide (checkAt l i ≠ 0)) with
    | some i =>
      rw [hf] at h
      rw [List.find?_range_eq_some] at hf
      exact absurd h (by simpa using hf.1)
    | none =>
      rw [List.find?_range_eq_none] at hf
      simpa using hf j hj
theorem asked_zero {l : List Prp} {k : Key} (h : tableAsked l k = 0) : tableCheck l = 0 ∧ keyCheck k = 0 := by
  unfold tableAsked at h
  by_cases hc : tableCheck l = 0
  · rw [if_pos hc] at h; exact ⟨hc, h⟩
  · rw [if_neg hc] at h; exact absurd h hc
/-- keys stand in a table once -/
theorem distinct {l : List Prp} (h : tableCheck l = 0) {a b : Nat} (hb : b < l.length) (hab : a < b) : (atP l a).key ≠ (atP l b).key := by
  intro he
  have := (check_zero h).2 b hb
  unfold checkAt at this
  split at this
  · cases this
  · split at this
    · cases this
    · split at this
      · cases this
      · rename_i hp
        exact hp ((place_take (by omega)).2 ⟨a, hab, he⟩)
theorem place_spec {l : List Prp} {k : Key} {i : Nat} (h : place l k = i) : (atP l i).key = k := by
  unfold place at h
  split at h
  · rename_i j hj
    obtain ⟨h1, h2, _⟩ := List.findIdx?_eq_some_iff_getElem.1 hj
    have e : j = i := by omega
    subst e
    have := atP_get h1
    rw [List.getElem?_eq_getElem h1] at this
    injection this with this
    rw [← this]
    simpa using h2
  · omega
theorem place_no {l : List Prp} {k : Key} (h : place l k = -1) {j : Nat} (hj : j < l.length) : (atP l j).key ≠ k := by
  intro he
  have : 0 ≤ place (l.take l.length) k := (place_take (Nat.le_refl _)).2 ⟨j, hj, he⟩
  rw [List.take_length, h] at this
  omega
theorem mem_atP {l : List Prp} {p : Prp} (h : p ∈ l) : ∃ j, j < l.length ∧ atP l j = p := by
  obtain ⟨j, hj, rfl⟩ := List.getElem_of_mem h
  have := atP_get hj
  rw [List.getElem?_eq_getElem hj] at this
  injection this with this
  exact ⟨j, hj, this.symm⟩
theorem dropL_none {l : List Prp} {k : Key} (h : place l k = -1) : dropL l k = l := by
  unfold dropL
  rw [List.filter_eq_self]
  intro p hp
  obtain ⟨j, hj, rfl⟩ := mem_atP hp
  simpa using place_no h hj
theorem split_at {l : List Prp} {i : Nat} (hi : i < l.length) : l = l.take i ++ atP l i :: l.drop (i + 1) := by
  conv => lhs; rw [← List.take_append_drop i l, List.drop_eq_getElem_cons hi]
  have := atP_get hi
  rw [List.getElem?_eq_getElem hi] at this
  injection this with this
  rw [this]
theorem atP_drop {l : List Prp} {i j : Nat} : atP (l.drop i) j = atP l (i + j) := by simp [atP, List.getElem?_drop]
theorem dropL_some {l : List Prp} {k : Key} {i : Nat} (hc : tableCheck l = 0) (hi : i < l.length) (hk : (atP l i).key = k) : dropL l k = l.take i ++ l.drop (i + 1) := by
  unfold dropL
  conv => lhs; rw [split_at hi]
  rw [List.filter_append, List.filter_cons, if_neg (by simp [hk])]
  congr 1
  · rw [List.filter_eq_self]
    intro p hp
    obtain ⟨j, hj, rfl⟩ := mem_atP hp
    have hj' : j < i := by simp at hj; omega
    rw [atP_take hj']
    have := distinct hc hi hj'
    rw [hk] at this
    simpa using this
  · rw [List.filter_eq_self]
    intro p hp
    obtain ⟨j, hj, rfl⟩ := mem_atP hp
    have hj' : i + 1 + j < l.length := by simp at hj; omega
    rw [atP_drop]
    have := distinct hc hj' (show i < i + 1 + j by omega)
    rw [hk] at this
    simpa using Ne.symm this
theorem sub_drop {l : List Prp} {i : Nat} : sub (l.map encProp) (((i + 1 : Nat) : Nat) : Int) (l.length : Int) = (l.drop (i + 1)).map encProp := by
  simp only [sub, Int.toNat_natCast, List.map_drop]
  rw [List.take_of_length_le (by simp)]
theorem s_table_Drop_ok {l : List Prp} {k : Key} (hl : wfP l) (ha : tableAsked l k = 0) : Does (Ev T G E) c_table_Drop [vPs l, vK k] [] (OwnP (dropL l k)) := by
  have hlen := asked_len ha
  have hc := (asked_zero ha).1
  refine does_start rfl ?_
  simp +contextual only [go_sem, Nat.reduceAdd, Nat.reduceLeDiff, Nat.reduceSub, Nat.reduceLT, Int.reduceLT, Int.reduceLE, Int.reduceEq, reduceCtorEq]
  refine caR_fun (s_table_asked hl _) (by rfl) (.inr (by rfl)) (by rfl) ?_
  simp +contextual only [go_sem, Nat.reduceAdd, Nat.reduceLeDiff, Nat.reduceSub, Nat.reduceLT, Int.reduceLT, Int.reduceLE, Int.reduceEq, reduceCtorEq, ha]
  refine caR_fun (s_table_at (l := l) (by omega) _) (by rfl) (.inr (by rfl)) (by rfl) ?_
  simp +contextual only [go_sem, Nat.reduceAdd, Nat.reduceLeDiff, Nat.reduceSub, Nat.reduceLT, Int.reduceLT, Int.reduceLE, Int.reduceEq, reduceCtorEq]
  rcases place_range l k with hp | ⟨i, hp, hi⟩
  · simp +contextual only [go_sem, Nat.reduceAdd, Nat.reduceLeDiff, Nat.reduceSub, Nat.reduceLT, Int.reduceLT, Int.reduceLE, Int.reduceEq, reduceCtorEq, hp, show l.length ≤ 4294967296 by omega, sub_none]
    refine endF_gc (v := .tup [.s (.ref 0 0 18 0 l.length), vI 0]) (s0 := ⟨[(4, (true, .s (.ref 0 0 18 0 l.length))), (5, (true, vI 0))], [.row 0 18 (l.map encProp)]⟩) [4, 5] [1] (by rfl) (by rfl) (resAll2 (by rfl) (by rfl)) ?_
    rw [dropL_none hp]
    exact ⟨0, rfl, rfl⟩
  · have hn : ¬ (i : Int) < 0 := by omega
    have h1 : (l.take i).length = i := by simp; omega
    have h2 : (l.drop (i + 1)).length = l.length - (i + 1) := by simp
    simp +contextual only [go_sem, Nat.reduceAdd, Nat.reduceLeDiff, Nat.reduceSub, Nat.reduceLT, Int.reduceLT, Int.reduceLE, Int.reduceEq, reduceCtorEq, hp, hn, show i ≤ l.length by omega, sub_none, wrap_succ (show i < 4294967296 by omega), sub_drop, h1, h2, show i ≤ 4294967296 by omega, show i + 1 ≤ l.length by omega, show i + (l.length - (i + 1)) ≤ 4294967296 by omega]
    refine endF_gc (v := .tup [.s (.ref 0 1 18 0 (i + (l.length - (i + 1)))), vI 0]) (s0 := ⟨[(4, (true, .s (.ref 0 1 18 0 (i + (l.length - (i + 1)))))), (5, (true, vI 0))], [.row 1 18 ((l.take i).map encProp ++ (l.drop (i + 1)).map encProp)]⟩) [4, 5] [1] (by rfl) (by rfl) (resAll2 (by rfl) (by rfl)) ?_
    rw [dropL_some hc hi (place_spec hp)]
    refine ⟨1, ?_, by simp⟩
    rw [List.length_append, h1, h2]
theorem dropL_step {l : List Prp} {k : Key} {i : Nat} (hi : i < l.length) : dropL (l.take (i + 1)) k = if (atP l i).key = k then dropL (l.take i) k else dropL (l.take i) k ++ [atP l i] := by
  have : l.take (i + 1) = l.take i ++ [atP l i] := by
    rw [List.take_add_one, atP_get hi]; rfl
  unfold dropL
  rw [this, List.filter_append, List.filter_cons, List.filter_nil]
  split <;> simp_all
theorem dropL_len {l : List Prp} {k : Key} {i : Nat} : (dropL (l.take i) k).length ≤ i := by
  refine Nat.le_trans (List.length_filter_le _ _) ?_
  simp; omega
theorem s_ref10_Drop_ok {l : List Prp} {k : Key} (hl : wfP l) (ha : tableAsked l k = 0) : Does (Ev T G E) c_bailiffref10_Drop [vPs l, vK k] [] (OwnP (dropL l k)) := by
  have hlen := asked_len ha
  refine does_start rfl ?_
  simp +contextual only [go_sem, Nat.reduceAdd, Nat.reduceLeDiff, Nat.reduceSub, Nat.reduceLT, Int.reduceLT, Int.reduceLE, Int.reduceEq, reduceCtorEq]
  refine caR_fun (s_ref10_asked hl _) (by rfl) (.inr (by rfl)) (by rfl) ?_
  simp +contextual only [go_sem, Nat.reduceAdd, Nat.reduceLeDiff, Nat.reduceSub, Nat.reduceLT, Int.reduceLT, Int.reduceLE, Int.reduceEq, reduceCtorEq, ha]
  refine xK_loop (fun x : Nat × Nat => ⟨[(0, (true, vPs l)), (3, (true, .s (.ptr 0 0))), (7, (true, .s (.ref 1 x.2 18 0 (dropL (l.take x.1) k).length))), (8, (true, vI x.1))], [.boxu (encKey k), .row x.2 18 ((dropL (l.take x.1) k).map encProp)]⟩) (fun x => x.1 ≤ l.length) (fun x => l.length - x.1) (0, 0) (lw_view1 7 18 [0, 3, 7, 8] [0, 1] (by rfl) (by decide) (by rfl) (by rfl)) (Nat.zero_le _) ?_
  rintro ⟨i, g⟩ hi
  have hdl := dropL_len (l := l) (k := k) (i := i)
  simp +contextual only [go_sem, Nat.reduceAdd, Nat.reduceLeDiff, Nat.reduceSub, Nat.reduceLT, Int.reduceLT, Int.reduceLE, Int.reduceEq, reduceCtorEq]
  refine brB_dec (fun hlt => ?_) (fun hlt => ?_)
  · simp +contextual only [go_sem, Nat.reduceAdd, Nat.reduceLeDiff, Nat.reduceSub, Nat.reduceLT, Int.reduceLT, Int.reduceLE, Int.reduceEq, reduceCtorEq, hlt, elemP hlt]
    refine brB_dec (fun hk => ?_) (fun hk => ?_)
    · simp +contextual only [go_sem, Nat.reduceAdd, Nat.reduceLeDiff, Nat.reduceSub, Nat.reduceLT, Int.reduceLT, Int.reduceLE, Int.reduceEq, reduceCtorEq, wrap_succ (show i < 4294967296 by omega)]
      refine ⟨(i + 1, g), by simp only; omega, lw_gc' (s1 := ⟨[(0, (true, vPs l)), (3, (true, .s (.ptr 0 0))), (7, (true, .s (.ref 1 g 18 0 (dropL (l.take i) k).length))), (8, (true, vI ((i + 1 : Nat) : Int)))], [.boxu (encKey k), .row g 18 ((dropL (l.take i) k).map encProp)]⟩) [0, 3, 7, 8] [0, 1] (by rfl) (by rfl) (by rw [dropL_step hlt, if_pos hk]), hlt⟩
    · simp +contextual only [go_sem, Nat.reduceAdd, Nat.reduceLeDiff, Nat.reduceSub, Nat.reduceLT, Int.reduceLT, Int.reduceLE, Int.reduceEq, reduceCtorEq, hlt, elemP hlt, wrap_succ (show i < 4294967296 by omega), show (dropL (l.take i) k).length + 1 ≤ 4294967296 by omega]
      refine ⟨(i + 1, g + 1), by simp only; omega, lw_gc' (s1 := ⟨[(0, (true, vPs l)), (3, (true, .s (.ptr 0 0))), (7, (true, .s (.ref 1 (g + 1) 18 0 ((dropL (l.take i) k).length + 1)))), (8, (true, vI ((i + 1 : Nat) : Int)))], [.boxu (encKey k), .row (g + 1) 18 ((dropL (l.take i) k).map encProp ++ [encProp (atP l i)])]⟩) [0, 3, 7, 8] [0, 1] (by rfl) (by rfl) (by rw [dropL_step hlt, if_neg hk]; simp), hlt⟩
  · simp +contextual only [go_sem, Nat.reduceAdd, Nat.reduceLeDiff, Nat.reduceSub, Nat.reduceLT, Int.reduceLT, Int.reduceLE, Int.reduceEq, reduceCtorEq]
    have e : i = l.length := by simp only at hi; omega
    subst e
    refine endF_gc (v := .tup [.s (.ref 0 g 18 0 (dropL (l.take l.length) k).length), vI 0]) (s0 := ⟨[(4, (true, .s (.ref 0 g 18 0 (dropL (l.take l.length) k).length))), (5, (true, vI 0))], [.row g 18 ((dropL (l.take l.length) k).map encProp)]⟩) [4, 5] [1] (by rfl) (by rfl) (resAll2 (by rfl) (by rfl)) ?_
    rw [List.take_length]
    exact ⟨g, rfl, rfl⟩
end Go.Lx

/- The law of puts and drops. -/
set_option linter.unusedVariables false
set_option linter.unusedSimpArgs false
set_option maxRecDepth 100000
namespace Go.Lx
variable {T G E : Nat}

theorem s_ref10_Same_self {l : List Prp} (hl : wfP l) (hlen : l.length ≤ 4294967295) : Fun (Ev T G E) c_bailiffref10_Same [vPs l, vPs l] (vB true) := by
  refine does_start rfl ?_
  simp +contextual only [go_sem, Nat.reduceAdd, Nat.reduceLeDiff, Nat.reduceSub, Nat.reduceLT, Int.reduceLT, Int.reduceLE, Int.reduceEq, reduceCtorEq]
  refine xK_loop (fun i : Nat => ⟨[(0, (true, vPs l)), (1, (true, vPs l)), (5, (true, vI i))], []⟩) (fun i => i ≤ l.length) (fun i => l.length - i) 0 (lw_gc [0, 1, 5] [] (by rfl) (by rfl)) (Nat.zero_le _) ?_
  intro i hi
  simp +contextual only [go_sem, Nat.reduceAdd, Nat.reduceLeDiff, Nat.reduceSub, Nat.reduceLT, Int.reduceLT, Int.reduceLE, Int.reduceEq, reduceCtorEq]
  refine brB_dec (fun hlt => ?_) (fun hlt => ?_)
  · simp +contextual only [go_sem, Nat.reduceAdd, Nat.reduceLeDiff, Nat.reduceSub, Nat.reduceLT, Int.reduceLT, Int.reduceLE, Int.reduceEq, reduceCtorEq, hlt, elemP hlt]
    refine gcR_fun (fun hg => s_ref09_Alike_self (hl i hlt).2) (fun h => by first | exact h | rfl | simp_all) (by rfl) (.inr (by rfl)) (by rfl) ?_
    simp +contextual only [go_sem, Nat.reduceAdd, Nat.reduceLeDiff, Nat.reduceSub, Nat.reduceLT, Int.reduceLT, Int.reduceLE, Int.reduceEq, reduceCtorEq, wrap_succ (show i < 4294967296 by omega)]
    exact ⟨i + 1, by omega, lw_gc [0, 1, 5] [] (by rfl) (by rfl), hlt⟩
  · simp +contextual only [go_sem, Nat.reduceAdd, Nat.reduceLeDiff, Nat.reduceSub, Nat.reduceLT, Int.reduceLT, Int.reduceLE, Int.reduceEq, reduceCtorEq]
    exact endF_of (by first | exact resAll2 (by rfl) (by rfl) | exact resAll3 (by rfl) (by rfl) (by rfl) | rfl) (by rfl) ⟨by rfl, rfl⟩

def longL (n : Int) : Bool := decide (200 < n) && decide (n < 1020) || decide (1100 < n)
theorem s_law10_long (l : List Prp) : Fun (Ev T G E) c_bailifflaw10_long [vPs l] (vB (longL l.length)) := by
  refine does_start rfl ?_
  simp +contextual only [go_sem, Nat.reduceAdd, Nat.reduceLeDiff, Nat.reduceSub, Nat.reduceLT, Int.reduceLT, Int.reduceLE, Int.reduceEq, reduceCtorEq]
  exact endF_of (by first | exact resAll2 (by rfl) (by rfl) | exact resAll3 (by rfl) (by rfl) (by rfl) | rfl) (by rfl) ⟨by rfl, rfl⟩

/-- the one that stands behind -/
def p77 : Prp := ⟨⟨⟨#[55, 55]⟩, 0⟩, .zero⟩
theorem s_law10_twin {l : List Prp} (hlen : l.length ≤ 4294967295) : Does (Ev T G E) c_bailifflaw10_twin [vPs l] [] fun v h => v = .s (.ref 0 1 18 0 (l.length + 1)) ∧ h = [.row 1 18 ((l ++ [p77]).map encProp)] := by
  refine does_start rfl ?_
  simp +contextual only [go_sem, Nat.reduceAdd, Nat.reduceLeDiff, Nat.reduceSub, Nat.reduceLT, Int.reduceLT, Int.reduceLE, Int.reduceEq, reduceCtorEq, show l.length ≤ 4294967296 by omega, show l.length + 1 ≤ 4294967296 by omega]
  refine endF_gc (v := .s (.ref 0 1 18 0 (l.length + 1))) (s0 := ⟨[(2, (true, .s (.ref 0 1 18 0 (l.length + 1))))], [.row 1 18 (l.map encProp ++ [encProp p77])]⟩) [2] [0] (by rfl) (by rfl) (by rfl) ?_
  exact ⟨rfl, by simp⟩

theorem atP_append {l : List Prp} {p : Prp} : atP (l ++ [p]) l.length = p := by simp [atP]
theorem take_app {l : List Prp} {p : Prp} : (l ++ [p]).take l.length = l := by simp
theorem ueq_desc_zero : ueq (encDesc ⟨0, .zero, .zero, .zero, false, false, false⟩) (encDesc ⟨0, .zero, .zero, .zero, false, false, false⟩) = true := by decide +kernel
theorem key77 : p77.key = ⟨⟨#[55, 55]⟩, 0⟩ := rfl
theorem desc77 : p77.desc = ⟨0, .zero, .zero, .zero, false, false, false⟩ := rfl
theorem ek_desc (d : Desc) : (encDesc d).map C.ek = [some (.int .u8), some (.int .u8), some .flt, some .str, some (.int .i64), some (.int .u8), some .flt, some .str, some (.int .i64), some (.int .u8), some .flt, some .str, some (.int .i64), some .bool, some .bool, some .bool] := rfl
theorem s_law10_stays {l : List Prp} (hl : wfP l) (hlen : l.length ≤ 4294967295) : Fun (Ev T G E) c_bailifflaw10_stays [vPs (l ++ [p77]), vPs l] (vB true) := by
  have h1 : l.length < (l ++ [p77]).length := by simp
  refine does_start rfl ?_
  simp +contextual only [go_sem, Nat.reduceAdd, Nat.reduceLeDiff, Nat.reduceSub, Nat.reduceLT, Int.reduceLT, Int.reduceLE, Int.reduceEq, reduceCtorEq, elemP h1, h1, take_app, show l.length ≤ l.length + 1 by omega]
  refine caR_fun (s_ref10_Same_self hl hlen) (by rfl) (.inr (by rfl)) (by rfl) ?_
  simp +contextual only [go_sem, Nat.reduceAdd, Nat.reduceLeDiff, Nat.reduceSub, Nat.reduceLT, Int.reduceLT, Int.reduceLE, Int.reduceEq, reduceCtorEq, elemP h1, h1, take_app, show l.length < l.length + 1 by omega, atP_append, key77, desc77, Key.zero, Desc.zero, ueq_desc_zero, ek_desc]
  exact endF_of (by first | exact resAll2 (by rfl) (by rfl) | exact resAll3 (by rfl) (by rfl) (by rfl) | rfl) (by rfl) ⟨by rfl, rfl⟩

/-- spoilt rows stay rows -/
theorem s_law10_spoil_nil : Fun (Ev T G E) c_bailifflaw10_spoil [.s (.c (.sl []))] (.tup []) := by
  refine does_start rfl ?_
  simp +contextual only [go_sem, Nat.reduceAdd, Nat.reduceLeDiff, Nat.reduceSub, Nat.reduceLT, Int.reduceLT, Int.reduceLE, Int.reduceEq, reduceCtorEq]
  refine xK_loop (fun i : Nat => ⟨[(0, (true, .s (.c (.sl [])))), (2, (true, vI 0))], []⟩) (fun i => True) (fun i => i) 0 (lw_gc [0, 2] [] (by rfl) (by rfl)) trivial ?_
  intro i hi
  simp +contextual only [go_sem, Nat.reduceAdd, Nat.reduceLeDiff, Nat.reduceSub, Nat.reduceLT, Int.reduceLT, Int.reduceLE, Int.reduceEq, reduceCtorEq]
  exact endF_of (by first | exact resAll2 (by rfl) (by rfl) | exact resAll3 (by rfl) (by rfl) (by rfl) | rfl) (by rfl) ⟨by rfl, rfl⟩

/-- a row in the heap, another in its place -/
theorem set_get {h : List Root} {id : Nat} {r : Root} (hr : h[id]? = some r) : h.set id r = h := by
  obtain ⟨h1, h2⟩ := List.getElem?_eq_some_iff.1 hr
  rw [← h2, List.set_getElem_self]
theorem get_set {h : List Root} {id : Nat} {r r' : Root} (hr : h[id]? = some r) : (h.set id r')[id]? = some r' := by
  have := (List.getElem?_eq_some_iff.1 hr).1
  simp [this]
theorem set_under {h : List Root} {id g sz n : Nat} {l : List U} (hu : h.all (Root.under n) = true) : (h.set id (.row g sz l)).all (Root.under n) = true := by
  simp only [List.all_eq_true] at hu ⊢
  intro r hr
  rcases List.mem_or_eq_of_mem_set hr with h | rfl
  · exact hu r h
  · rfl
/-- some temporaries kept, the heap as it is -/
theorem lw_keep {n0 : Nat} {s s0 : St} (keys : List Nat) (h1 : keys.all s.has = true) (h2 : (keys.all fun n => (s.get n).2.under s.h.length) = true) (h3 : s.h.all (Root.under s.h.length) = true) (h4 : n0 ≤ s.h.length)
    (e : (⟨keys.map fun n => (n, s.get n), s.h⟩ : St) = s0) : s.Lw n0 s0 := by
  subst e
  left
  refine ⟨⟨fun n x hx => ?_, List.prefix_refl _⟩, ?_, h4⟩
  · have : ∀ {keys : List Nat}, keys.all s.has = true → (keys.map fun n => (n, s.get n)).lookup n = some x → s.t.lookup n = some x := by
      intro keys
      induction keys with
      | nil => intro _ h; simp at h
      | cons k keys ih =>
        intro hk h
        simp only [List.all_cons, Bool.and_eq_true] at hk
        simp only [List.map_cons, List.lookup_cons] at h
        by_cases e : n = k
        · subst e
          simp only [beq_self_eq_true, Option.some.injEq] at h
          subst h
          have := hk.1
          unfold St.has at this
          unfold St.get
          cases hl : s.t.lookup n with
          | none => rw [hl] at this; cases this
          | some p => rfl
        · have e' : (n == k) = false := by simpa using e
          simp only [e'] at h
          exact ih hk.2 h
    exact this h1 hx
  · simp only [St.closed, Bool.and_eq_true]
    refine ⟨?_, h3⟩
    simp only [List.all_eq_true] at h2 ⊢
    rintro ⟨n, p⟩ hp
    simp only [List.mem_map] at hp
    obtain ⟨m, hm, e⟩ := hp
    injection e with e1 e2
    subst e1 e2
    exact h2 m hm
theorem s_law10_spoil {h : List Root} {id g n : Nat} {rows : List U} (hr : h[id]? = some (.row g 18 rows)) (hn : n = rows.length) (hn' : n ≤ 4294967295) (hu : h.all (Root.under h.length) = true) :
    Does (Ev T G E) c_bailifflaw10_spoil [.s (.ref id g 18 0 n)] h fun v h' => v = .tup [] ∧ ∃ rows' : List U, rows'.length = rows.length ∧ h' = h.set id (.row g 18 rows') := by
  have hid := (List.getElem?_eq_some_iff.1 hr).1
  refine does_start rfl ?_
  simp +contextual only [go_sem, Nat.reduceAdd, Nat.reduceLeDiff, Nat.reduceSub, Nat.reduceLT, Int.reduceLT, Int.reduceLE, Int.reduceEq, reduceCtorEq]
  refine xK_loop (fun x : Nat × {r : List U // r.length = rows.length} => ⟨[(0, (true, .s (.ref id g 18 0 n))), (2, (true, vI x.1))], h.set id (.row g 18 x.2.1)⟩) (fun x => x.1 ≤ n) (fun x => n - x.1) (0, ⟨rows, rfl⟩)
    (lw_keep [0, 2] (by rfl) (by simp [go_sem, V.under, DC.under, hid]) hu (Nat.le_refl _) (by simp only [set_get hr]; rfl)) (Nat.zero_le _) ?_
  rintro ⟨i, rows', hrl⟩ hi
  have hr' := get_set (r' := .row g 18 rows') hr
  simp +contextual only [go_sem, Nat.reduceAdd, Nat.reduceLeDiff, Nat.reduceSub, Nat.reduceLT, Int.reduceLT, Int.reduceLE, Int.reduceEq, reduceCtorEq, hr']
  refine brB_dec (fun hlt => ?_) (fun hlt => ?_)
  · simp +contextual only [go_sem, Nat.reduceAdd, Nat.reduceLeDiff, Nat.reduceSub, Nat.reduceLT, Int.reduceLT, Int.reduceLE, Int.reduceEq, reduceCtorEq, hlt, hr', show i < rows'.length by omega, wrap_succ (show i < 4294967296 by omega), List.set_set]
    exact ⟨(i + 1, ⟨rows'.set i (upd (elemAt rows' i) 0 (encProp ⟨⟨⟨#[120]⟩, Key.zero.sym⟩, Prp.zero.desc⟩)), by simp [hrl]⟩), by simp only; omega,
      lw_keep [0, 2] (by rfl) (by simp [go_sem, V.under, DC.under, hid]) (by simpa [go_sem] using set_under (id := id) hu) (by simp [go_sem]) (by rfl), hlt⟩
  · simp +contextual only [go_sem, Nat.reduceAdd, Nat.reduceLeDiff, Nat.reduceSub, Nat.reduceLT, Int.reduceLT, Int.reduceLE, Int.reduceEq, reduceCtorEq]
    refine endF_all (by rfl) (by rfl) ?_ ?_ ⟨rfl, rows', hrl, rfl⟩
    · have := set_under (id := id) (g := g) (sz := 18) (l := rows') hu
      simpa [go_sem] using this
    · simp [go_sem]
end Go.Lx
