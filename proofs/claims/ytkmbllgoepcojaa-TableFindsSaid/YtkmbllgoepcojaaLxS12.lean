import Derived.Test.YtkmbllgoepcojaaLxS10
/- TableFinds answers true. -/
set_option linter.unusedVariables false
set_option linter.unusedSimpArgs false
set_option maxRecDepth 100000
namespace Go.Lx
variable {T G E : Nat}

set_option maxHeartbeats 8000000 in
theorem d_TableFinds (alive : Fun (Ev T G E) c_bailifflaw10_alive [] (vB true)) {l : List Prp} {k o : Key} {d : Desc} (hl : wfP l) (hk : k.wf) (hd : d.wf) (ho : o.wf) :
    Does (Ev T G E) c_bailifflaw10_TableFinds [vPs l, vK k, vD d, vK o] [] fun v _ => v = vB true := by
  refine does_start rfl ?_
  simp +contextual only [go_sem, Nat.reduceAdd, Nat.reduceLeDiff, Nat.reduceSub, Nat.reduceLT, Int.reduceLT, Int.reduceLE, Int.reduceEq, reduceCtorEq]
  refine caR_fun (alive) (by rfl) (.inl (by rfl)) (by rfl) ?_
  simp +contextual only [go_sem, Nat.reduceAdd, Nat.reduceLeDiff, Nat.reduceSub, Nat.reduceLT, Int.reduceLT, Int.reduceLE, Int.reduceEq, reduceCtorEq]
  refine caR_fun (s_law10_long l) (by rfl) (.inr (by rfl)) (by rfl) ?_
  simp +contextual only [go_sem, Nat.reduceAdd, Nat.reduceLeDiff, Nat.reduceSub, Nat.reduceLT, Int.reduceLT, Int.reduceLE, Int.reduceEq, reduceCtorEq]
  refine gcR_fun (fun hg => s_table_Check hl) (fun h => by first | exact h | rfl | simp_all) (by rfl) (.inr (by rfl)) (by rfl) ?_
  simp +contextual only [go_sem, Nat.reduceAdd, Nat.reduceLeDiff, Nat.reduceSub, Nat.reduceLT, Int.reduceLT, Int.reduceLE, Int.reduceEq, reduceCtorEq]
  refine gcR_fun (fun hg => s_key_Check k) (fun h => by first | exact h | rfl | simp_all) (by rfl) (.inr (by rfl)) (by rfl) ?_
  simp +contextual only [go_sem, Nat.reduceAdd, Nat.reduceLeDiff, Nat.reduceSub, Nat.reduceLT, Int.reduceLT, Int.reduceLE, Int.reduceEq, reduceCtorEq]
  refine gcR_fun (fun hg => s_key_Check o) (fun h => by first | exact h | rfl | simp_all) (by rfl) (.inr (by rfl)) (by rfl) ?_
  simp +contextual only [go_sem, Nat.reduceAdd, Nat.reduceLeDiff, Nat.reduceSub, Nat.reduceLT, Int.reduceLT, Int.reduceLE, Int.reduceEq, reduceCtorEq]
  refine brB_split (fun hc => ?_) (fun hc => ?_)
  · simp +contextual only [go_sem, Nat.reduceAdd, Nat.reduceLeDiff, Nat.reduceSub, Nat.reduceLT, Int.reduceLT, Int.reduceLE, Int.reduceEq, reduceCtorEq]
    exact endF_of (by rfl) (by rfl) rfl
  · simp only [Bool.or_eq_false_iff, Bool.not_eq_false', decide_eq_true_eq] at hc
    obtain ⟨⟨⟨hlong, hT⟩, hK⟩, hO⟩ := hc
    have hlen := (good_of hT).len
    have hAk := asked_of hT hK
    have hAo := asked_of hT hO
    have hwp := wfP_put hl hk hd
    have hwd := wfP_drop (k := k) hl
    simp +contextual only [go_sem, Nat.reduceAdd, Nat.reduceLeDiff, Nat.reduceSub, Nat.reduceLT, Int.reduceLT, Int.reduceLE, Int.reduceEq, reduceCtorEq]
    refine caR_fun (s_table_Find (k := o) hl) (by rfl) (.inr (by rfl)) (by rfl) ?_
    simp +contextual only [go_sem, Nat.reduceAdd, Nat.reduceLeDiff, Nat.reduceSub, Nat.reduceLT, Int.reduceLT, Int.reduceLE, Int.reduceEq, reduceCtorEq, hAo]
    refine caR_fun (s_table_Find (k := k) hl) (by rfl) (.inr (by rfl)) (by rfl) ?_
    simp +contextual only [go_sem, Nat.reduceAdd, Nat.reduceLeDiff, Nat.reduceSub, Nat.reduceLT, Int.reduceLT, Int.reduceLE, Int.reduceEq, reduceCtorEq, hAk]
    have hTd := good_drop (k := k) hT
    have hdk := asked_of hTd hK
    have hdo := asked_of hTd hO
    have fd1 := find_out (l := dropL l k) (k := k) drop_out
    have fd2 : ((o = k) = True) ∨ ((o = k) = False ∧ findB (dropL l k) o = findB l o ∧ findD (dropL l k) o = findD l o) := by
      by_cases hok : o = k
      · exact .inl (eq_true hok)
      · exact .inr ⟨eq_false hok, find_cong hT hTd hO (fun p e => drop_other (by rw [e]; exact hok))⟩
    by_cases he : putE l k d = 0
    · have hTp := good_put hT he
      have hpo := asked_of hTp hO
      have hpk := asked_of hTp hK
      have hdok : descOk d = true := by
        have := (putE_zero he).2.1
        unfold isWhole at this
        simp only [Bool.and_eq_true] at this
        exact this.1
      have f1 := find_in hTp hK (put_mem (d := d) hT hK) rfl
      have f2 : ((o = k) = True) ∨ ((o = k) = False ∧ findB (putL l k d) o = findB l o ∧ findD (putL l k d) o = findD l o) := by
        by_cases hok : o = k
        · exact .inl (eq_true hok)
        · exact .inr ⟨eq_false hok, find_cong hT hTp hO (fun p e => put_other hT hK (by rw [e]; exact hok))⟩
      have hpl := put_len (d := d) hT hK
      refine caR_does (s_table_Put_ok hl hd he) (by rfl) ?_
      rintro v h ⟨g1, rfl, rfl⟩
      refine ⟨.inr ⟨by rfl, plain_row⟩, ?_⟩
      simp +contextual only [go_sem, Nat.reduceAdd, Nat.reduceLeDiff, Nat.reduceSub, Nat.reduceLT, Int.reduceLT, Int.reduceLE, Int.reduceEq, reduceCtorEq]
      refine caR_fun (s_table_Find (k := k) hwp) ?_ (.inr (by rfl)) (by rfl) ?_
      · simp only [go_sem]
      simp +contextual only [go_sem, Nat.reduceAdd, Nat.reduceLeDiff, Nat.reduceSub, Nat.reduceLT, Int.reduceLT, Int.reduceLE, Int.reduceEq, reduceCtorEq, hpk, f1.1, f1.2]
      refine caR_fun (s_table_Find (k := o) hwp) ?_ (.inr (by rfl)) (by rfl) ?_
      · simp only [go_sem]
      cases hb : findB l k
      all_goals
        simp only [hb, if_true, if_false, Bool.false_eq_true] at hpl
        have hle : ((putL l k d).length : Int) = _ := congrArg Nat.cast hpl
        simp +contextual only [go_sem, Nat.reduceAdd, Nat.reduceLeDiff, Nat.reduceSub, Nat.reduceLT, Int.reduceLT, Int.reduceLE, Int.reduceEq, reduceCtorEq, hpo, hb, wrap_succ (show l.length < 4294967296 by omega)]
        refine gcR_fun (fun hg => s_desc_Same_self hd hdok) (fun h => by first | exact h | rfl | simp_all) (by rfl) (.inr (by rfl)) (by rfl) ?_
        simp +contextual only [go_sem, Nat.reduceAdd, Nat.reduceLeDiff, Nat.reduceSub, Nat.reduceLT, Int.reduceLT, Int.reduceLE, Int.reduceEq, reduceCtorEq, hle]
        refine gcR_fun (fun hg => s_table_Check hwp) (fun h => by first | exact h | rfl | simp_all) ?_ (.inr (by rfl)) (by rfl) ?_
        · simp only [go_sem]
        rcases f2 with hok | ⟨hok, e1, e2⟩
        all_goals
          try simp only [e1, e2]
          simp +contextual only [go_sem, Nat.reduceAdd, Nat.reduceLeDiff, Nat.reduceSub, Nat.reduceLT, Int.reduceLT, Int.reduceLE, Int.reduceEq, reduceCtorEq, hTp, ueq_key, beq_self_eq_true, Bool.not_true, hok]
          first
            | (refine gcR_fun (fun hg => s_desc_Same_self (findD_wf hl) (findD_may hT hO)) (fun h => by first | exact h | rfl | simp_all) (by rfl) (.inr (by rfl)) (by rfl) ?_)
            | (refine ⟨.bot, nofun, ?_⟩)
          simp +contextual only [go_sem, Nat.reduceAdd, Nat.reduceLeDiff, Nat.reduceSub, Nat.reduceLT, Int.reduceLT, Int.reduceLE, Int.reduceEq, reduceCtorEq, beq_self_eq_true, Bool.not_true]
          refine xK_loop (fun i : Nat => ⟨[(0, (true, vPs l)), (5, (true, .s (.ptr 0 0))), (7, (true, .s (.ptr 1 0))), (10, (true, .s (.ptr 2 0))), (11, (true, vB (findB l o))), (16, (true, .s (.ref 3 g1 18 0 (putL l k d).length))), (24, (true, vI i))], [.boxu (encKey k), .boxu (encKey o), .boxu (encDesc (findD l o)), .row g1 18 ((putL l k d).map encProp)]⟩) (fun i => i ≤ l.length) (fun i => l.length - i) 0 (lw_gc [0, 5, 7, 10, 11, 16, 24] [0, 2, 3, 5] (by rfl) (by rfl)) (Nat.zero_le _) ?_
          intro i hi
          simp +contextual only [go_sem, Nat.reduceAdd, Nat.reduceLeDiff, Nat.reduceSub, Nat.reduceLT, Int.reduceLT, Int.reduceLE, Int.reduceEq, reduceCtorEq]
          refine brB_dec (fun hlt => ?_) (fun hlt => ?_)
          · have hip : i < (putL l k d).length := by omega
            simp +contextual only [go_sem, Nat.reduceAdd, Nat.reduceLeDiff, Nat.reduceSub, Nat.reduceLT, Int.reduceLT, Int.reduceLE, Int.reduceEq, reduceCtorEq, hlt, elemP hlt, hip, elemP hip, put_keys hT hK hlt, ueq_key, wrap_succ (show i < 4294967296 by omega)]
            refine ⟨i + 1, by omega, lw_gc [0, 5, 7, 10, 11, 16, 24] [0, 1, 2, 3] (by rfl) (by rfl), hlt⟩
          · simp +contextual only [go_sem, Nat.reduceAdd, Nat.reduceLeDiff, Nat.reduceSub, Nat.reduceLT, Int.reduceLT, Int.reduceLE, Int.reduceEq, reduceCtorEq]
            skip
            refine caR_does (s_table_Drop_ok hl hAk) (by rfl) ?_
            rintro v h ⟨g3, rfl, rfl⟩
            refine ⟨.inr ⟨by rfl, plain_row⟩, ?_⟩
            simp +contextual only [go_sem, Nat.reduceAdd, Nat.reduceLeDiff, Nat.reduceSub, Nat.reduceLT, Int.reduceLT, Int.reduceLE, Int.reduceEq, reduceCtorEq]
            refine caR_fun (s_table_Find (k := k) hwd) ?_ (.inr (by rfl)) (by rfl) ?_
            · simp only [go_sem]
            simp +contextual only [go_sem, Nat.reduceAdd, Nat.reduceLeDiff, Nat.reduceSub, Nat.reduceLT, Int.reduceLT, Int.reduceLE, Int.reduceEq, reduceCtorEq, hdk, fd1.1, fd1.2]
            refine caR_fun (s_table_Find (k := o) hwd) ?_ (.inr (by rfl)) (by rfl) ?_
            · simp only [go_sem]
            simp +contextual only [go_sem, Nat.reduceAdd, Nat.reduceLeDiff, Nat.reduceSub, Nat.reduceLT, Int.reduceLT, Int.reduceLE, Int.reduceEq, reduceCtorEq, hdo]
            rcases fd2 with hok | ⟨hok, e1, e2⟩
            all_goals
              try simp only [e1, e2]
              simp +contextual only [go_sem, Nat.reduceAdd, Nat.reduceLeDiff, Nat.reduceSub, Nat.reduceLT, Int.reduceLT, Int.reduceLE, Int.reduceEq, reduceCtorEq, ueq_key, beq_self_eq_true, Bool.not_true, hok]
              first
                | (refine gcR_fun (fun hg => s_desc_Same_self (findD_wf hl) (findD_may hT hO)) (fun h => by first | exact h | rfl | simp_all) (by rfl) (.inr (by rfl)) (by rfl) ?_)
                | (refine ⟨.bot, nofun, ?_⟩)
              simp +contextual only [go_sem, Nat.reduceAdd, Nat.reduceLeDiff, Nat.reduceSub, Nat.reduceLT, Int.reduceLT, Int.reduceLE, Int.reduceEq, reduceCtorEq, beq_self_eq_true]
              refine xK_loop (fun i : Nat => ⟨[(0, (true, vPs l)), (5, (true, .s (.ptr 0 0))), (25, (true, .s (.ref 1 g3 18 0 (dropL l k).length))), (31, (true, vI (dropL (l.take i) k).length)), (32, (true, vI i))], [.boxu (encKey k), .row g3 18 ((dropL l k).map encProp)]⟩) (fun i => i ≤ l.length) (fun i => l.length - i) 0 (lw_gc [0, 5, 25, 31, 32] [0, 4] (by rfl) (by rfl)) (Nat.zero_le _) ?_
              intro i hi
              have hdi := dropL_len (l := l) (k := k) (i := i)
              simp +contextual only [go_sem, Nat.reduceAdd, Nat.reduceLeDiff, Nat.reduceSub, Nat.reduceLT, Int.reduceLT, Int.reduceLE, Int.reduceEq, reduceCtorEq]
              refine brB_dec (fun hlt => ?_) (fun hlt => ?_)
              · simp +contextual only [go_sem, Nat.reduceAdd, Nat.reduceLeDiff, Nat.reduceSub, Nat.reduceLT, Int.reduceLT, Int.reduceLE, Int.reduceEq, reduceCtorEq, hlt, elemP hlt, ueq_key]
                refine brB_dec (fun hki => ?_) (fun hki => ?_)
                · simp +contextual only [go_sem, Nat.reduceAdd, Nat.reduceLeDiff, Nat.reduceSub, Nat.reduceLT, Int.reduceLT, Int.reduceLE, Int.reduceEq, reduceCtorEq, wrap_succ (show i < 4294967296 by omega)]
                  refine ⟨i + 1, by omega, lw_gc' (s1 := ⟨[(0, (true, vPs l)), (5, (true, .s (.ptr 0 0))), (25, (true, .s (.ref 1 g3 18 0 (dropL l k).length))), (31, (true, vI (dropL (l.take i) k).length)), (32, (true, vI ((i + 1 : Nat) : Int)))], [.boxu (encKey k), .row g3 18 ((dropL l k).map encProp)]⟩) [0, 5, 25, 31, 32] [0, 1] (by rfl) (by rfl) (by rw [dropL_step hlt, if_pos hki]), hlt⟩
                · obtain ⟨q1, q2⟩ := drop_at hlt hki
                  simp +contextual only [go_sem, Nat.reduceAdd, Nat.reduceLeDiff, Nat.reduceSub, Nat.reduceLT, Int.reduceLT, Int.reduceLE, Int.reduceEq, reduceCtorEq, hlt, elemP hlt, q1, elemP q1, q2, ueq_key, show ¬ ((dropL l k).length : Int) ≤ (dropL (l.take i) k).length by omega, wrap_succ (show i < 4294967296 by omega), wrap_succ (show (dropL (l.take i) k).length < 4294967296 by omega)]
                  refine ⟨i + 1, by omega, lw_gc' (s1 := ⟨[(0, (true, vPs l)), (5, (true, .s (.ptr 0 0))), (25, (true, .s (.ref 1 g3 18 0 (dropL l k).length))), (31, (true, vI (((dropL (l.take i) k).length + 1 : Nat) : Int))), (32, (true, vI ((i + 1 : Nat) : Int)))], [.boxu (encKey k), .row g3 18 ((dropL l k).map encProp)]⟩) [0, 5, 25, 31, 32] [0, 1] (by rfl) (by rfl) (by rw [dropL_step hlt, if_neg hki]; simp), hlt⟩
              · have e : i = l.length := by omega
                subst e
                simp +contextual only [go_sem, Nat.reduceAdd, Nat.reduceLeDiff, Nat.reduceSub, Nat.reduceLT, Int.reduceLT, Int.reduceLE, Int.reduceEq, reduceCtorEq]
                refine caR_does (s_table_Keys_ok hl hT) (by rfl) ?_
                rintro v h ⟨⟨g4, rfl, rfl⟩, hkl⟩
                refine ⟨.inr ⟨by rfl, plain_rowK⟩, ?_⟩
                simp +contextual only [go_sem, Nat.reduceAdd, Nat.reduceLeDiff, Nat.reduceSub, Nat.reduceLT, Int.reduceLT, Int.reduceLE, Int.reduceEq, reduceCtorEq]
                refine caR_fun (s_table_Sealed hl) (by rfl) (.inr (by rfl)) (by rfl) ?_
                simp +contextual only [go_sem, Nat.reduceAdd, Nat.reduceLeDiff, Nat.reduceSub, Nat.reduceLT, Int.reduceLT, Int.reduceLE, Int.reduceEq, reduceCtorEq, hT]
                refine caR_fun (s_table_Frozen hl hT) (by rfl) (.inr (by rfl)) (by rfl) ?_
                cases noConf l <;> cases noWrit l
                all_goals
                  simp +contextual only [go_sem, Nat.reduceAdd, Nat.reduceLeDiff, Nat.reduceSub, Nat.reduceLT, Int.reduceLT, Int.reduceLE, Int.reduceEq, reduceCtorEq, List.take_length, hkl]
                  exact endF_of (by rfl) (by rfl) rfl
    · refine caR_fun (s_table_Put_err hl hd he) (by rfl) (.inr (by rfl)) (by rfl) ?_
      simp +contextual only [go_sem, Nat.reduceAdd, Nat.reduceLeDiff, Nat.reduceSub, Nat.reduceLT, Int.reduceLT, Int.reduceLE, Int.reduceEq, reduceCtorEq, he]
      skip
      refine caR_does (s_table_Drop_ok hl hAk) (by rfl) ?_
      rintro v h ⟨g3, rfl, rfl⟩
      refine ⟨.inr ⟨by rfl, plain_row⟩, ?_⟩
      simp +contextual only [go_sem, Nat.reduceAdd, Nat.reduceLeDiff, Nat.reduceSub, Nat.reduceLT, Int.reduceLT, Int.reduceLE, Int.reduceEq, reduceCtorEq]
      refine caR_fun (s_table_Find (k := k) hwd) ?_ (.inr (by rfl)) (by rfl) ?_
      · simp only [go_sem]
      simp +contextual only [go_sem, Nat.reduceAdd, Nat.reduceLeDiff, Nat.reduceSub, Nat.reduceLT, Int.reduceLT, Int.reduceLE, Int.reduceEq, reduceCtorEq, hdk, fd1.1, fd1.2]
      refine caR_fun (s_table_Find (k := o) hwd) ?_ (.inr (by rfl)) (by rfl) ?_
      · simp only [go_sem]
      simp +contextual only [go_sem, Nat.reduceAdd, Nat.reduceLeDiff, Nat.reduceSub, Nat.reduceLT, Int.reduceLT, Int.reduceLE, Int.reduceEq, reduceCtorEq, hdo]
      rcases fd2 with hok | ⟨hok, e1, e2⟩
      all_goals
        try simp only [e1, e2]
        simp +contextual only [go_sem, Nat.reduceAdd, Nat.reduceLeDiff, Nat.reduceSub, Nat.reduceLT, Int.reduceLT, Int.reduceLE, Int.reduceEq, reduceCtorEq, ueq_key, beq_self_eq_true, Bool.not_true, hok]
        first
          | (refine gcR_fun (fun hg => s_desc_Same_self (findD_wf hl) (findD_may hT hO)) (fun h => by first | exact h | rfl | simp_all) (by rfl) (.inr (by rfl)) (by rfl) ?_)
          | (refine ⟨.bot, nofun, ?_⟩)
        simp +contextual only [go_sem, Nat.reduceAdd, Nat.reduceLeDiff, Nat.reduceSub, Nat.reduceLT, Int.reduceLT, Int.reduceLE, Int.reduceEq, reduceCtorEq, beq_self_eq_true]
        refine xK_loop (fun i : Nat => ⟨[(0, (true, vPs l)), (5, (true, .s (.ptr 0 0))), (25, (true, .s (.ref 1 g3 18 0 (dropL l k).length))), (31, (true, vI (dropL (l.take i) k).length)), (32, (true, vI i))], [.boxu (encKey k), .row g3 18 ((dropL l k).map encProp)]⟩) (fun i => i ≤ l.length) (fun i => l.length - i) 0 (lw_gc [0, 5, 25, 31, 32] [0, 5] (by rfl) (by rfl)) (Nat.zero_le _) ?_
        intro i hi
        have hdi := dropL_len (l := l) (k := k) (i := i)
        simp +contextual only [go_sem, Nat.reduceAdd, Nat.reduceLeDiff, Nat.reduceSub, Nat.reduceLT, Int.reduceLT, Int.reduceLE, Int.reduceEq, reduceCtorEq]
        refine brB_dec (fun hlt => ?_) (fun hlt => ?_)
        · simp +contextual only [go_sem, Nat.reduceAdd, Nat.reduceLeDiff, Nat.reduceSub, Nat.reduceLT, Int.reduceLT, Int.reduceLE, Int.reduceEq, reduceCtorEq, hlt, elemP hlt, ueq_key]
          refine brB_dec (fun hki => ?_) (fun hki => ?_)
          · simp +contextual only [go_sem, Nat.reduceAdd, Nat.reduceLeDiff, Nat.reduceSub, Nat.reduceLT, Int.reduceLT, Int.reduceLE, Int.reduceEq, reduceCtorEq, wrap_succ (show i < 4294967296 by omega)]
            refine ⟨i + 1, by omega, lw_gc' (s1 := ⟨[(0, (true, vPs l)), (5, (true, .s (.ptr 0 0))), (25, (true, .s (.ref 1 g3 18 0 (dropL l k).length))), (31, (true, vI (dropL (l.take i) k).length)), (32, (true, vI ((i + 1 : Nat) : Int)))], [.boxu (encKey k), .row g3 18 ((dropL l k).map encProp)]⟩) [0, 5, 25, 31, 32] [0, 1] (by rfl) (by rfl) (by rw [dropL_step hlt, if_pos hki]), hlt⟩
          · obtain ⟨q1, q2⟩ := drop_at hlt hki
            simp +contextual only [go_sem, Nat.reduceAdd, Nat.reduceLeDiff, Nat.reduceSub, Nat.reduceLT, Int.reduceLT, Int.reduceLE, Int.reduceEq, reduceCtorEq, hlt, elemP hlt, q1, elemP q1, q2, ueq_key, show ¬ ((dropL l k).length : Int) ≤ (dropL (l.take i) k).length by omega, wrap_succ (show i < 4294967296 by omega), wrap_succ (show (dropL (l.take i) k).length < 4294967296 by omega)]
            refine ⟨i + 1, by omega, lw_gc' (s1 := ⟨[(0, (true, vPs l)), (5, (true, .s (.ptr 0 0))), (25, (true, .s (.ref 1 g3 18 0 (dropL l k).length))), (31, (true, vI (((dropL (l.take i) k).length + 1 : Nat) : Int))), (32, (true, vI ((i + 1 : Nat) : Int)))], [.boxu (encKey k), .row g3 18 ((dropL l k).map encProp)]⟩) [0, 5, 25, 31, 32] [0, 1] (by rfl) (by rfl) (by rw [dropL_step hlt, if_neg hki]; simp), hlt⟩
        · have e : i = l.length := by omega
          subst e
          simp +contextual only [go_sem, Nat.reduceAdd, Nat.reduceLeDiff, Nat.reduceSub, Nat.reduceLT, Int.reduceLT, Int.reduceLE, Int.reduceEq, reduceCtorEq]
          refine caR_does (s_table_Keys_ok hl hT) (by rfl) ?_
          rintro v h ⟨⟨g4, rfl, rfl⟩, hkl⟩
          refine ⟨.inr ⟨by rfl, plain_rowK⟩, ?_⟩
          simp +contextual only [go_sem, Nat.reduceAdd, Nat.reduceLeDiff, Nat.reduceSub, Nat.reduceLT, Int.reduceLT, Int.reduceLE, Int.reduceEq, reduceCtorEq]
          refine caR_fun (s_table_Sealed hl) (by rfl) (.inr (by rfl)) (by rfl) ?_
          simp +contextual only [go_sem, Nat.reduceAdd, Nat.reduceLeDiff, Nat.reduceSub, Nat.reduceLT, Int.reduceLT, Int.reduceLE, Int.reduceEq, reduceCtorEq, hT]
          refine caR_fun (s_table_Frozen hl hT) (by rfl) (.inr (by rfl)) (by rfl) ?_
          cases noConf l <;> cases noWrit l
          all_goals
            simp +contextual only [go_sem, Nat.reduceAdd, Nat.reduceLeDiff, Nat.reduceSub, Nat.reduceLT, Int.reduceLT, Int.reduceLE, Int.reduceEq, reduceCtorEq, List.take_length, hkl]
            exact endF_of (by rfl) (by rfl) rfl
end Go.Lx
