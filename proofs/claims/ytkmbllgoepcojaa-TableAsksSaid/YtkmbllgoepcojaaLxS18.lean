import Derived.Test.YtkmbllgoepcojaaLxS14
/- TableAsks answers true. -/
set_option linter.unusedVariables false
set_option linter.unusedSimpArgs false
set_option maxRecDepth 100000
namespace Go.Lx
variable {T G E : Nat}

theorem take_map_app' {l : List Prp} : (l.map encProp ++ [encProp p77]).take l.length = l.map encProp := by simp
theorem take_all_app' {l : List Prp} : (l.map encProp ++ [encProp p77]).take (l.length + 1) = l.map encProp ++ [encProp p77] := by rw [List.take_of_length_le]; simp
set_option maxHeartbeats 8000000 in
theorem d_TableAsks {l : List Prp} {k : Key} (hl : wfP l) (hk : k.wf) : Does (Ev T G E) c_bailifflaw10_TableAsks [vPs l, vK k] [] fun v _ => v = vB true := by
  refine does_start rfl ?_
  simp +contextual only [go_sem, Nat.reduceAdd, Nat.reduceLeDiff, Nat.reduceSub, Nat.reduceLT, Int.reduceLT, Int.reduceLE, Int.reduceEq, reduceCtorEq]
  refine caR_fun (s_law10_long l) (by rfl) (.inr (by rfl)) (by rfl) ?_
  simp +contextual only [go_sem, Nat.reduceAdd, Nat.reduceLeDiff, Nat.reduceSub, Nat.reduceLT, Int.reduceLT, Int.reduceLE, Int.reduceEq, reduceCtorEq]
  refine brB_split (fun hlong => ?_) (fun hlong => ?_)
  · simp +contextual only [go_sem, Nat.reduceAdd, Nat.reduceLeDiff, Nat.reduceSub, Nat.reduceLT, Int.reduceLT, Int.reduceLE, Int.reduceEq, reduceCtorEq]
    exact endF_of (by rfl) (by rfl) rfl
  · simp +contextual only [go_sem, Nat.reduceAdd, Nat.reduceLeDiff, Nat.reduceSub, Nat.reduceLT, Int.reduceLT, Int.reduceLE, Int.reduceEq, reduceCtorEq]
    refine brB_dec (fun hbig => ?_) (fun hbig => ?_)
    · simp +contextual only [go_sem, Nat.reduceAdd, Nat.reduceLeDiff, Nat.reduceSub, Nat.reduceLT, Int.reduceLT, Int.reduceLE, Int.reduceEq, reduceCtorEq]
      refine caR_fun (s_table_Check hl) (by rfl) (.inr (by rfl)) (by rfl) ?_
      simp +contextual only [go_sem, Nat.reduceAdd, Nat.reduceLeDiff, Nat.reduceSub, Nat.reduceLT, Int.reduceLT, Int.reduceLE, Int.reduceEq, reduceCtorEq]
      refine caR_fun (s_ref10_Check hl) (by rfl) (.inr (by rfl)) (by rfl) ?_
      simp +contextual only [go_sem, Nat.reduceAdd, Nat.reduceLeDiff, Nat.reduceSub, Nat.reduceLT, Int.reduceLT, Int.reduceLE, Int.reduceEq, reduceCtorEq]
      exact endF_of (by rfl) (by rfl) rfl
    · have hlen : l.length ≤ 1000 := by omega
      simp +contextual only [go_sem, Nat.reduceAdd, Nat.reduceLeDiff, Nat.reduceSub, Nat.reduceLT, Int.reduceLT, Int.reduceLE, Int.reduceEq, reduceCtorEq]
      refine caR_does (s_law10_twin (l := l) (by omega)) (by rfl) ?_
      rintro v h ⟨rfl, rfl⟩
      refine ⟨.inl (by rfl), ?_⟩
      have hsz : l.length ≤ l.length + 1 := by omega
      simp +contextual only [go_sem, Nat.reduceAdd, Nat.reduceLeDiff, Nat.reduceSub, Nat.reduceLT, Int.reduceLT, Int.reduceLE, Int.reduceEq, reduceCtorEq, len_app, hsz]
      refine caR_fun (s_table_Find (k := k) hl) ?_ (.inr (by rfl)) (by rfl) ?_
      · simp only [go_sem, take_map_app', len_app, hsz]
      simp +contextual only [go_sem, Nat.reduceAdd, Nat.reduceLeDiff, Nat.reduceSub, Nat.reduceLT, Int.reduceLT, Int.reduceLE, Int.reduceEq, reduceCtorEq]
      refine caR_fun (s_ref10_Find (k := k) hl) (by rfl) (.inr (by rfl)) (by rfl) ?_
      simp +contextual only [go_sem, Nat.reduceAdd, Nat.reduceLeDiff, Nat.reduceSub, Nat.reduceLT, Int.reduceLT, Int.reduceLE, Int.reduceEq, reduceCtorEq]
      by_cases hc : tableCheck l = 0
      · refine caR_does (s_table_Keys_ok hl hc) ?_ ?_
        · simp only [go_sem, take_map_app', len_app, hsz]
        rintro v h ⟨⟨g1, rfl, rfl⟩, hkn⟩
        refine ⟨.inr ⟨by rfl, plain_rowK⟩, ?_⟩
        have hnn : (ordL (namesL l)).length ≤ l.length := by
          rw [← names_eq hc, ← hkn]; exact List.length_filter_le _ _
        simp +contextual only [go_sem, Nat.reduceAdd, Nat.reduceLeDiff, Nat.reduceSub, Nat.reduceLT, Int.reduceLT, Int.reduceLE, Int.reduceEq, reduceCtorEq]
        refine caR_does (s_ref10_Keys_ok hl hc) (by rfl) ?_
        rintro v h ⟨g2, rfl, rfl⟩
        refine ⟨.inl (by rfl), ?_⟩
        simp +contextual only [go_sem, Nat.reduceAdd, Nat.reduceLeDiff, Nat.reduceSub, Nat.reduceLT, Int.reduceLT, Int.reduceLE, Int.reduceEq, reduceCtorEq]
        refine caR_does (s_table_Names_ok hl hc) ?_ ?_
        · simp only [go_sem, take_map_app', len_app, hsz]
        rintro v h ⟨g3, rfl, rfl⟩
        refine ⟨.inr ⟨by rfl, plain_rowK⟩, ?_⟩
        simp +contextual only [go_sem, Nat.reduceAdd, Nat.reduceLeDiff, Nat.reduceSub, Nat.reduceLT, Int.reduceLT, Int.reduceLE, Int.reduceEq, reduceCtorEq]
        refine caR_does (s_ref10_Names_ok hl hc hkn) (by rfl) ?_
        rintro v h ⟨g4, rfl, rfl⟩
        refine ⟨.inl (by rfl), ?_⟩
        simp +contextual only [go_sem, Nat.reduceAdd, Nat.reduceLeDiff, Nat.reduceSub, Nat.reduceLT, Int.reduceLT, Int.reduceLE, Int.reduceEq, reduceCtorEq]
        refine caR_fun (s_table_Sealed hl) ?_ (.inr (by rfl)) (by rfl) ?_
        · simp only [go_sem, take_map_app', len_app, hsz]
        simp +contextual only [go_sem, Nat.reduceAdd, Nat.reduceLeDiff, Nat.reduceSub, Nat.reduceLT, Int.reduceLT, Int.reduceLE, Int.reduceEq, reduceCtorEq]
        refine caR_fun (s_ref10_Sealed hl) (by rfl) (.inr (by rfl)) (by rfl) ?_
        simp +contextual only [go_sem, Nat.reduceAdd, Nat.reduceLeDiff, Nat.reduceSub, Nat.reduceLT, Int.reduceLT, Int.reduceLE, Int.reduceEq, reduceCtorEq]
        refine caR_fun (s_table_Frozen hl hc) ?_ (.inr (by rfl)) (by rfl) ?_
        · simp only [go_sem, take_map_app', len_app, hsz]
        simp +contextual only [go_sem, Nat.reduceAdd, Nat.reduceLeDiff, Nat.reduceSub, Nat.reduceLT, Int.reduceLT, Int.reduceLE, Int.reduceEq, reduceCtorEq]
        refine caR_fun (s_ref10_Frozen hl hc) (by rfl) (.inr (by rfl)) (by rfl) ?_
        simp +contextual only [go_sem, Nat.reduceAdd, Nat.reduceLeDiff, Nat.reduceSub, Nat.reduceLT, Int.reduceLT, Int.reduceLE, Int.reduceEq, reduceCtorEq, hc, beq_self_eq_true]
        refine gcR_fun (fun hg => s_ref09_Alike_self (findD_wf hl)) (fun h => by first | exact h | rfl | simp_all) (by rfl) (.inr (by rfl)) (by rfl) ?_
        simp +contextual only [go_sem, Nat.reduceAdd, Nat.reduceLeDiff, Nat.reduceSub, Nat.reduceLT, Int.reduceLT, Int.reduceLE, Int.reduceEq, reduceCtorEq]
        refine gcR_fun (fun hg => s_ref08_Same_self (l := ordL (keysL l)) (by omega)) (fun h => by rfl) ?_ (.inr (by rfl)) (by rfl) ?_
        · simp only [go_sem]
        simp +contextual only [go_sem, Nat.reduceAdd, Nat.reduceLeDiff, Nat.reduceSub, Nat.reduceLT, Int.reduceLT, Int.reduceLE, Int.reduceEq, reduceCtorEq]
        refine gcR_fun (fun hg => s_ref08_Same_self (l := ordL (namesL l)) (by omega)) (fun h => by rfl) ?_ (.inr (by rfl)) (by rfl) ?_
        · simp only [go_sem]
        simp +contextual only [go_sem, Nat.reduceAdd, Nat.reduceLeDiff, Nat.reduceSub, Nat.reduceLT, Int.reduceLT, Int.reduceLE, Int.reduceEq, reduceCtorEq, beq_self_eq_true]
        refine gcR_fun (fun hg => s_table_Check hl) (fun h => by first | exact h | rfl | simp_all) ?_ (.inr (by rfl)) (by rfl) ?_
        · simp only [go_sem, take_map_app', len_app, hsz]
        simp +contextual only [go_sem, Nat.reduceAdd, Nat.reduceLeDiff, Nat.reduceSub, Nat.reduceLT, Int.reduceLT, Int.reduceLE, Int.reduceEq, reduceCtorEq]
        refine gcR_fun (fun hg => s_ref10_Check hl) (fun h => by first | exact h | rfl | simp_all) (by rfl) (.inr (by rfl)) (by rfl) ?_
        simp +contextual only [go_sem, Nat.reduceAdd, Nat.reduceLeDiff, Nat.reduceSub, Nat.reduceLT, Int.reduceLT, Int.reduceLE, Int.reduceEq, reduceCtorEq]
        refine gcR_fun (fun hg => s_law10_stays hl (by omega)) (fun h => by first | exact h | rfl | simp_all) ?_ (.inr (by rfl)) (by rfl) ?_
        · simp only [go_sem, len_app, take_all_app', vPs]
        simp +contextual only [go_sem, Nat.reduceAdd, Nat.reduceLeDiff, Nat.reduceSub, Nat.reduceLT, Int.reduceLT, Int.reduceLE, Int.reduceEq, reduceCtorEq]
        exact endF_of (by rfl) (by rfl) rfl
      · refine caR_fun (s_table_Keys_err hl hc) ?_ (.inr (by rfl)) (by rfl) ?_
        · simp only [go_sem, take_map_app', len_app, hsz]
        simp +contextual only [go_sem, Nat.reduceAdd, Nat.reduceLeDiff, Nat.reduceSub, Nat.reduceLT, Int.reduceLT, Int.reduceLE, Int.reduceEq, reduceCtorEq]
        refine caR_fun (s_ref10_Keys_err hl hc) (by rfl) (.inr (by rfl)) (by rfl) ?_
        simp +contextual only [go_sem, Nat.reduceAdd, Nat.reduceLeDiff, Nat.reduceSub, Nat.reduceLT, Int.reduceLT, Int.reduceLE, Int.reduceEq, reduceCtorEq]
        refine caR_fun (s_table_Names_err hl hc) ?_ (.inr (by rfl)) (by rfl) ?_
        · simp only [go_sem, take_map_app', len_app, hsz]
        simp +contextual only [go_sem, Nat.reduceAdd, Nat.reduceLeDiff, Nat.reduceSub, Nat.reduceLT, Int.reduceLT, Int.reduceLE, Int.reduceEq, reduceCtorEq]
        refine caR_fun (s_ref10_Names_err hl hc) (by rfl) (.inr (by rfl)) (by rfl) ?_
        simp +contextual only [go_sem, Nat.reduceAdd, Nat.reduceLeDiff, Nat.reduceSub, Nat.reduceLT, Int.reduceLT, Int.reduceLE, Int.reduceEq, reduceCtorEq]
        refine caR_fun (s_table_Sealed hl) ?_ (.inr (by rfl)) (by rfl) ?_
        · simp only [go_sem, take_map_app', len_app, hsz]
        simp +contextual only [go_sem, Nat.reduceAdd, Nat.reduceLeDiff, Nat.reduceSub, Nat.reduceLT, Int.reduceLT, Int.reduceLE, Int.reduceEq, reduceCtorEq]
        refine caR_fun (s_ref10_Sealed hl) (by rfl) (.inr (by rfl)) (by rfl) ?_
        simp +contextual only [go_sem, Nat.reduceAdd, Nat.reduceLeDiff, Nat.reduceSub, Nat.reduceLT, Int.reduceLT, Int.reduceLE, Int.reduceEq, reduceCtorEq]
        refine caR_fun (s_table_Frozen_err hl (by omega) hc) ?_ (.inr (by rfl)) (by rfl) ?_
        · simp only [go_sem, take_map_app', len_app, hsz]
        simp +contextual only [go_sem, Nat.reduceAdd, Nat.reduceLeDiff, Nat.reduceSub, Nat.reduceLT, Int.reduceLT, Int.reduceLE, Int.reduceEq, reduceCtorEq]
        refine caR_fun (s_ref10_Frozen_err hl hc) (by rfl) (.inr (by rfl)) (by rfl) ?_
        simp +contextual only [go_sem, Nat.reduceAdd, Nat.reduceLeDiff, Nat.reduceSub, Nat.reduceLT, Int.reduceLT, Int.reduceLE, Int.reduceEq, reduceCtorEq, hc, beq_self_eq_true]
        refine gcR_fun (fun hg => s_ref09_Alike_self (findD_wf hl)) (fun h => by first | exact h | rfl | simp_all) (by rfl) (.inr (by rfl)) (by rfl) ?_
        simp +contextual only [go_sem, Nat.reduceAdd, Nat.reduceLeDiff, Nat.reduceSub, Nat.reduceLT, Int.reduceLT, Int.reduceLE, Int.reduceEq, reduceCtorEq]
        refine gcR_fun (fun hg => s_ref08_Same_self (l := []) (by simp)) (fun h => by rfl) (by rfl) (.inr (by rfl)) (by rfl) ?_
        simp +contextual only [go_sem, Nat.reduceAdd, Nat.reduceLeDiff, Nat.reduceSub, Nat.reduceLT, Int.reduceLT, Int.reduceLE, Int.reduceEq, reduceCtorEq]
        refine gcR_fun (fun hg => s_ref08_Same_self (l := []) (by simp)) (fun h => by rfl) (by rfl) (.inr (by rfl)) (by rfl) ?_
        simp +contextual only [go_sem, Nat.reduceAdd, Nat.reduceLeDiff, Nat.reduceSub, Nat.reduceLT, Int.reduceLT, Int.reduceLE, Int.reduceEq, reduceCtorEq, beq_self_eq_true]
        refine gcR_fun (fun hg => s_table_Check hl) (fun h => by first | exact h | rfl | simp_all) ?_ (.inr (by rfl)) (by rfl) ?_
        · simp only [go_sem, take_map_app', len_app, hsz]
        simp +contextual only [go_sem, Nat.reduceAdd, Nat.reduceLeDiff, Nat.reduceSub, Nat.reduceLT, Int.reduceLT, Int.reduceLE, Int.reduceEq, reduceCtorEq]
        refine gcR_fun (fun hg => s_ref10_Check hl) (fun h => by first | exact h | rfl | simp_all) (by rfl) (.inr (by rfl)) (by rfl) ?_
        simp +contextual only [go_sem, Nat.reduceAdd, Nat.reduceLeDiff, Nat.reduceSub, Nat.reduceLT, Int.reduceLT, Int.reduceLE, Int.reduceEq, reduceCtorEq]
        refine gcR_fun (fun hg => s_law10_stays hl (by omega)) (fun h => by first | exact h | rfl | simp_all) ?_ (.inr (by rfl)) (by rfl) ?_
        · simp only [go_sem, len_app, take_all_app', vPs]
        simp +contextual only [go_sem, Nat.reduceAdd, Nat.reduceLeDiff, Nat.reduceSub, Nat.reduceLT, Int.reduceLT, Int.reduceLE, Int.reduceEq, reduceCtorEq]
        exact endF_of (by rfl) (by rfl) rfl
end Go.Lx
