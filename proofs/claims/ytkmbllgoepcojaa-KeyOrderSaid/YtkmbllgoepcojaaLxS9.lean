import Derived.Test.YtkmbllgoepcojaaLxS6
/- TableTurns answers true. -/
set_option linter.unusedVariables false
set_option linter.unusedSimpArgs false
set_option maxRecDepth 100000
namespace Go.Lx
variable {T G E : Nat}

theorem take_map_app {l : List Prp} : ((l ++ [p77]).map encProp).take l.length = l.map encProp := by simp
theorem take_all_app {l : List Prp} : ((l ++ [p77]).map encProp).take (l.length + 1) = (l ++ [p77]).map encProp := by rw [List.take_of_length_le]; simp
theorem len_app {l : List Prp} : (l ++ [p77]).length = l.length + 1 := by simp
theorem flat_P {l : List Prp} : ((l.map encProp).all fun u => u.all C.flat) = true := by
  simp only [List.all_map, List.all_eq_true]
  intro p _
  rfl
theorem plain_row {g sz : Nat} {l : List Prp} : [Root.row g sz (l.map encProp)].all Root.plain = true := by
  simp only [List.all_cons, List.all_nil, Bool.and_true, Root.plain]
  exact flat_P
theorem wfP_put {l : List Prp} {k : Key} {d : Desc} (hl : wfP l) (hk : k.wf) (hd : d.wf) : wfP (putL l k d) := by
  unfold putL
  split
  · intro i hi
    simp only [List.length_append, List.length_cons, List.length_nil] at hi
    by_cases h : i < l.length
    · have : atP (l ++ [⟨k, d⟩]) i = atP l i := by simp only [atP, List.getElem?_append_left h]
      rw [this]
      exact hl i h
    · have e : i = l.length := by omega
      subst e
      rw [show atP (l ++ [⟨k, d⟩]) l.length = ⟨k, d⟩ by simp [atP]]
      exact ⟨hk, hd⟩
  · intro i hi
    simp only [List.length_set] at hi
    by_cases h : (place l k).toNat = i
    · subst h
      rw [show atP (l.set (place l k).toNat { atP l (place l k).toNat with desc := d }) (place l k).toNat = { atP l (place l k).toNat with desc := d } by simp [atP, hi]]
      exact ⟨(hl _ hi).1, hd⟩
    · rw [show atP (l.set (place l k).toNat { atP l (place l k).toNat with desc := d }) i = atP l i by simp [atP, List.getElem?_set, h]]
      exact hl i hi
theorem putL_len {l : List Prp} {k : Key} {d : Desc} : (putL l k d).length ≤ l.length + 1 := by
  unfold putL
  split <;> simp
theorem wfP_mem {l : List Prp} : wfP l ↔ ∀ p, p ∈ l → p.wf := by
  constructor
  · intro h p hp
    obtain ⟨j, hj, rfl⟩ := mem_atP hp
    exact h j hj
  · intro h i hi
    exact h _ (List.mem_of_getElem? (atP_get hi))
theorem wfP_drop {l : List Prp} {k : Key} (hl : wfP l) : wfP (dropL l k) := by
  rw [wfP_mem] at hl ⊢
  intro p hp
  exact hl p (List.mem_filter.1 hp).1

set_option maxHeartbeats 4000000 in
theorem d_TableTurns {l : List Prp} {k : Key} {d : Desc} (hl : wfP l) (hk : k.wf) (hd : d.wf) : Does (Ev T G E) c_bailifflaw10_TableTurns [vPs l, vK k, vD d] [] fun v _ => v = vB true := by
  refine does_start rfl ?_
  simp +contextual only [go_sem, Nat.reduceAdd, Nat.reduceLeDiff, Nat.reduceSub, Nat.reduceLT, Int.reduceLT, Int.reduceLE, Int.reduceEq, reduceCtorEq]
  refine caR_fun (s_law10_long l) (by rfl) (.inr (by rfl)) (by rfl) ?_
  simp +contextual only [go_sem, Nat.reduceAdd, Nat.reduceLeDiff, Nat.reduceSub, Nat.reduceLT, Int.reduceLT, Int.reduceLE, Int.reduceEq, reduceCtorEq]
  refine brB_split (fun hlong => ?_) (fun hlong => ?_)
  · simp +contextual only [go_sem, Nat.reduceAdd, Nat.reduceLeDiff, Nat.reduceSub, Nat.reduceLT, Int.reduceLT, Int.reduceLE, Int.reduceEq, reduceCtorEq]
    exact endF_of (by rfl) (by rfl) rfl
  · have hlen : l.length ≤ 1100 := by
      simp only [longL, Bool.or_eq_false_iff, Bool.and_eq_false_iff, decide_eq_false_iff_not] at hlong
      omega
    simp +contextual only [go_sem, Nat.reduceAdd, Nat.reduceLeDiff, Nat.reduceSub, Nat.reduceLT, Int.reduceLT, Int.reduceLE, Int.reduceEq, reduceCtorEq]
    refine caR_does (s_law10_twin (l := l) (by omega)) (by rfl) ?_
    rintro v h ⟨rfl, rfl⟩
    refine ⟨.inl (by rfl), ?_⟩
    simp +contextual only [go_sem, Nat.reduceAdd, Nat.reduceLeDiff, Nat.reduceSub, Nat.reduceLT, Int.reduceLT, Int.reduceLE, Int.reduceEq, reduceCtorEq, len_app, show l.length ≤ l.length + 1 by omega]
    have hsz : l.length ≤ l.length + 1 := by omega
    have hpl := putL_len (l := l) (k := k) (d := d)
    have hdl : (dropL l k).length ≤ l.length := List.length_filter_le _ _
    have hwp := wfP_put hl hk hd
    have hwd := wfP_drop (k := k) hl
    by_cases ha : tableAsked l k = 0
    · have hlen' := asked_len ha
      by_cases he : putE l k d = 0
      · -- put, dropped
        refine caR_does (s_table_Put_ok hl hd he) ?_ ?_
        · simp only [go_sem, take_map_app, len_app, hsz]
        rintro v h ⟨g1, rfl, rfl⟩
        refine ⟨.inr ⟨by rfl, plain_row⟩, ?_⟩
        simp +contextual only [go_sem, Nat.reduceAdd, Nat.reduceLeDiff, Nat.reduceSub, Nat.reduceLT, Int.reduceLT, Int.reduceLE, Int.reduceEq, reduceCtorEq]
        refine caR_does (s_ref10_Put_ok hl hd he) (by rfl) ?_
        rintro v h ⟨g2, rfl, rfl⟩
        refine ⟨.inl (by rfl), ?_⟩
        simp +contextual only [go_sem, Nat.reduceAdd, Nat.reduceLeDiff, Nat.reduceSub, Nat.reduceLT, Int.reduceLT, Int.reduceLE, Int.reduceEq, reduceCtorEq]
        refine caR_does (s_table_Drop_ok hl ha) ?_ ?_
        · simp only [go_sem, take_map_app, len_app, hsz]
        rintro v h ⟨g3, rfl, rfl⟩
        refine ⟨.inr ⟨by rfl, plain_row⟩, ?_⟩
        simp +contextual only [go_sem, Nat.reduceAdd, Nat.reduceLeDiff, Nat.reduceSub, Nat.reduceLT, Int.reduceLT, Int.reduceLE, Int.reduceEq, reduceCtorEq]
        refine caR_does (s_ref10_Drop_ok hl ha) (by rfl) ?_
        rintro v h ⟨g4, rfl, rfl⟩
        refine ⟨.inl (by rfl), ?_⟩
        simp +contextual only [go_sem, Nat.reduceAdd, Nat.reduceLeDiff, Nat.reduceSub, Nat.reduceLT, Int.reduceLT, Int.reduceLE, Int.reduceEq, reduceCtorEq]
        refine gcR_fun (fun hg => s_ref10_Same_self hwp (by omega)) (fun h => by rfl) ?_ (.inr (by rfl)) (by rfl) ?_
        · simp only [go_sem]
        simp +contextual only [go_sem, Nat.reduceAdd, Nat.reduceLeDiff, Nat.reduceSub, Nat.reduceLT, Int.reduceLT, Int.reduceLE, Int.reduceEq, reduceCtorEq]
        refine gcR_fun (fun hg => s_ref10_Same_self hwd (by omega)) (fun h => by rfl) ?_ (.inr (by rfl)) (by rfl) ?_
        · simp only [go_sem]
        simp +contextual only [go_sem, Nat.reduceAdd, Nat.reduceLeDiff, Nat.reduceSub, Nat.reduceLT, Int.reduceLT, Int.reduceLE, Int.reduceEq, reduceCtorEq]
        refine gcR_fun (fun hg => s_law10_stays hl (by omega)) (fun h => by rfl) ?_ (.inr (by rfl)) (by rfl) ?_
        · simp only [go_sem, len_app, take_all_app]
        simp +contextual only [go_sem, Nat.reduceAdd, Nat.reduceLeDiff, Nat.reduceSub, Nat.reduceLT, Int.reduceLT, Int.reduceLE, Int.reduceEq, reduceCtorEq]
        refine caR_own (s_law10_spoil (rows := (putL l k d).map encProp) (by rfl) (by simp) (by omega) (by rfl)) ?_
        rintro v h ⟨rfl, r1, hr1, rfl⟩
        simp +contextual only [go_sem, Nat.reduceAdd, Nat.reduceLeDiff, Nat.reduceSub, Nat.reduceLT, Int.reduceLT, Int.reduceLE, Int.reduceEq, reduceCtorEq]
        refine caR_own (s_law10_spoil (rows := (dropL l k).map encProp) (by rfl) (by simp) (by omega) (by rfl)) ?_
        rintro v h ⟨rfl, r2, hr2, rfl⟩
        simp +contextual only [go_sem, Nat.reduceAdd, Nat.reduceLeDiff, Nat.reduceSub, Nat.reduceLT, Int.reduceLT, Int.reduceLE, Int.reduceEq, reduceCtorEq]
        refine caR_does (s_table_Put_ok hl hd he) ?_ ?_
        · simp only [go_sem, take_map_app, len_app, hsz]
        rintro v h ⟨g5, rfl, rfl⟩
        refine ⟨.inr ⟨by rfl, plain_row⟩, ?_⟩
        simp +contextual only [go_sem, Nat.reduceAdd, Nat.reduceLeDiff, Nat.reduceSub, Nat.reduceLT, Int.reduceLT, Int.reduceLE, Int.reduceEq, reduceCtorEq]
        refine gcR_fun (fun hg => s_ref10_Same_self hwp (by omega)) (fun h => by rfl) ?_ (.inr (by rfl)) (by rfl) ?_
        · simp only [go_sem]
        simp +contextual only [go_sem, Nat.reduceAdd, Nat.reduceLeDiff, Nat.reduceSub, Nat.reduceLT, Int.reduceLT, Int.reduceLE, Int.reduceEq, reduceCtorEq]
        refine gcR_fun (fun hg => s_law10_stays hl (by omega)) (fun h => by rfl) ?_ (.inr (by rfl)) (by rfl) ?_
        · simp only [go_sem, len_app, take_all_app]
        simp +contextual only [go_sem, Nat.reduceAdd, Nat.reduceLeDiff, Nat.reduceSub, Nat.reduceLT, Int.reduceLT, Int.reduceLE, Int.reduceEq, reduceCtorEq]
        exact endF_of (by rfl) (by rfl) rfl
      · -- not put, dropped
        refine caR_fun (s_table_Put_err hl hd he) ?_ (.inr (by rfl)) (by rfl) ?_
        · simp only [go_sem, take_map_app, len_app, hsz]
        simp +contextual only [go_sem, Nat.reduceAdd, Nat.reduceLeDiff, Nat.reduceSub, Nat.reduceLT, Int.reduceLT, Int.reduceLE, Int.reduceEq, reduceCtorEq]
        refine caR_fun (s_ref10_Put_err hl hd he) (by rfl) (.inr (by rfl)) (by rfl) ?_
        simp +contextual only [go_sem, Nat.reduceAdd, Nat.reduceLeDiff, Nat.reduceSub, Nat.reduceLT, Int.reduceLT, Int.reduceLE, Int.reduceEq, reduceCtorEq]
        refine caR_does (s_table_Drop_ok hl ha) ?_ ?_
        · simp only [go_sem, take_map_app, len_app, hsz]
        rintro v h ⟨g3, rfl, rfl⟩
        refine ⟨.inr ⟨by rfl, plain_row⟩, ?_⟩
        simp +contextual only [go_sem, Nat.reduceAdd, Nat.reduceLeDiff, Nat.reduceSub, Nat.reduceLT, Int.reduceLT, Int.reduceLE, Int.reduceEq, reduceCtorEq]
        refine caR_does (s_ref10_Drop_ok hl ha) (by rfl) ?_
        rintro v h ⟨g4, rfl, rfl⟩
        refine ⟨.inl (by rfl), ?_⟩
        simp +contextual only [go_sem, Nat.reduceAdd, Nat.reduceLeDiff, Nat.reduceSub, Nat.reduceLT, Int.reduceLT, Int.reduceLE, Int.reduceEq, reduceCtorEq]
        refine gcR_fun (fun hg => s_ref10_Same_self (l := []) (by intro i hi; cases hi) (by simp)) (fun h => by rfl) (by rfl) (.inr (by rfl)) (by rfl) ?_
        simp +contextual only [go_sem, Nat.reduceAdd, Nat.reduceLeDiff, Nat.reduceSub, Nat.reduceLT, Int.reduceLT, Int.reduceLE, Int.reduceEq, reduceCtorEq]
        refine gcR_fun (fun hg => s_ref10_Same_self hwd (by omega)) (fun h => by rfl) ?_ (.inr (by rfl)) (by rfl) ?_
        · simp only [go_sem]
        simp +contextual only [go_sem, Nat.reduceAdd, Nat.reduceLeDiff, Nat.reduceSub, Nat.reduceLT, Int.reduceLT, Int.reduceLE, Int.reduceEq, reduceCtorEq]
        refine gcR_fun (fun hg => s_law10_stays hl (by omega)) (fun h => by rfl) ?_ (.inr (by rfl)) (by rfl) ?_
        · simp only [go_sem, len_app, take_all_app]
        simp +contextual only [go_sem, Nat.reduceAdd, Nat.reduceLeDiff, Nat.reduceSub, Nat.reduceLT, Int.reduceLT, Int.reduceLE, Int.reduceEq, reduceCtorEq]
        refine caR_fun (s_law10_spoil_nil) (by rfl) (.inr (by rfl)) (by rfl) ?_
        simp +contextual only [go_sem, Nat.reduceAdd, Nat.reduceLeDiff, Nat.reduceSub, Nat.reduceLT, Int.reduceLT, Int.reduceLE, Int.reduceEq, reduceCtorEq]
        refine caR_own (s_law10_spoil (rows := (dropL l k).map encProp) (by rfl) (by simp) (by omega) (by rfl)) ?_
        rintro v h ⟨rfl, r2, hr2, rfl⟩
        simp +contextual only [go_sem, Nat.reduceAdd, Nat.reduceLeDiff, Nat.reduceSub, Nat.reduceLT, Int.reduceLT, Int.reduceLE, Int.reduceEq, reduceCtorEq]
        refine caR_fun (s_table_Put_err hl hd he) ?_ (.inr (by rfl)) (by rfl) ?_
        · simp only [go_sem, take_map_app, len_app, hsz]
        simp +contextual only [go_sem, Nat.reduceAdd, Nat.reduceLeDiff, Nat.reduceSub, Nat.reduceLT, Int.reduceLT, Int.reduceLE, Int.reduceEq, reduceCtorEq]
        refine gcR_fun (fun hg => s_ref10_Same_self (l := []) (by intro i hi; cases hi) (by simp)) (fun h => by rfl) (by rfl) (.inr (by rfl)) (by rfl) ?_
        simp +contextual only [go_sem, Nat.reduceAdd, Nat.reduceLeDiff, Nat.reduceSub, Nat.reduceLT, Int.reduceLT, Int.reduceLE, Int.reduceEq, reduceCtorEq]
        refine gcR_fun (fun hg => s_law10_stays hl (by omega)) (fun h => by rfl) ?_ (.inr (by rfl)) (by rfl) ?_
        · simp only [go_sem, len_app, take_all_app]
        simp +contextual only [go_sem, Nat.reduceAdd, Nat.reduceLeDiff, Nat.reduceSub, Nat.reduceLT, Int.reduceLT, Int.reduceLE, Int.reduceEq, reduceCtorEq]
        exact endF_of (by rfl) (by rfl) rfl
    · -- refused
      have he : putE l k d ≠ 0 := fun he => ha (putE_zero he).1
      refine caR_fun (s_table_Put_err hl hd he) ?_ (.inr (by rfl)) (by rfl) ?_
      · simp only [go_sem, take_map_app, len_app, hsz]
      simp +contextual only [go_sem, Nat.reduceAdd, Nat.reduceLeDiff, Nat.reduceSub, Nat.reduceLT, Int.reduceLT, Int.reduceLE, Int.reduceEq, reduceCtorEq]
      refine caR_fun (s_ref10_Put_err hl hd he) (by rfl) (.inr (by rfl)) (by rfl) ?_
      simp +contextual only [go_sem, Nat.reduceAdd, Nat.reduceLeDiff, Nat.reduceSub, Nat.reduceLT, Int.reduceLT, Int.reduceLE, Int.reduceEq, reduceCtorEq]
      refine caR_fun (s_table_Drop_err hl ha) ?_ (.inr (by rfl)) (by rfl) ?_
      · simp only [go_sem, take_map_app, len_app, hsz]
      simp +contextual only [go_sem, Nat.reduceAdd, Nat.reduceLeDiff, Nat.reduceSub, Nat.reduceLT, Int.reduceLT, Int.reduceLE, Int.reduceEq, reduceCtorEq]
      refine caR_fun (s_ref10_Drop_err hl ha) (by rfl) (.inr (by rfl)) (by rfl) ?_
      simp +contextual only [go_sem, Nat.reduceAdd, Nat.reduceLeDiff, Nat.reduceSub, Nat.reduceLT, Int.reduceLT, Int.reduceLE, Int.reduceEq, reduceCtorEq]
      refine gcR_fun (fun hg => s_ref10_Same_self (l := []) (by intro i hi; cases hi) (by simp)) (fun h => by rfl) (by rfl) (.inr (by rfl)) (by rfl) ?_
      simp +contextual only [go_sem, Nat.reduceAdd, Nat.reduceLeDiff, Nat.reduceSub, Nat.reduceLT, Int.reduceLT, Int.reduceLE, Int.reduceEq, reduceCtorEq]
      refine gcR_fun (fun hg => s_ref10_Same_self (l := []) (by intro i hi; cases hi) (by simp)) (fun h => by rfl) (by rfl) (.inr (by rfl)) (by rfl) ?_
      simp +contextual only [go_sem, Nat.reduceAdd, Nat.reduceLeDiff, Nat.reduceSub, Nat.reduceLT, Int.reduceLT, Int.reduceLE, Int.reduceEq, reduceCtorEq]
      refine gcR_fun (fun hg => s_law10_stays hl (by omega)) (fun h => by rfl) ?_ (.inr (by rfl)) (by rfl) ?_
      · simp only [go_sem, len_app, take_all_app]
      simp +contextual only [go_sem, Nat.reduceAdd, Nat.reduceLeDiff, Nat.reduceSub, Nat.reduceLT, Int.reduceLT, Int.reduceLE, Int.reduceEq, reduceCtorEq]
      refine caR_fun (s_law10_spoil_nil) (by rfl) (.inr (by rfl)) (by rfl) ?_
      simp +contextual only [go_sem, Nat.reduceAdd, Nat.reduceLeDiff, Nat.reduceSub, Nat.reduceLT, Int.reduceLT, Int.reduceLE, Int.reduceEq, reduceCtorEq]
      refine caR_fun (s_law10_spoil_nil) (by rfl) (.inr (by rfl)) (by rfl) ?_
      simp +contextual only [go_sem, Nat.reduceAdd, Nat.reduceLeDiff, Nat.reduceSub, Nat.reduceLT, Int.reduceLT, Int.reduceLE, Int.reduceEq, reduceCtorEq]
      refine caR_fun (s_table_Put_err hl hd he) ?_ (.inr (by rfl)) (by rfl) ?_
      · simp only [go_sem, take_map_app, len_app, hsz]
      simp +contextual only [go_sem, Nat.reduceAdd, Nat.reduceLeDiff, Nat.reduceSub, Nat.reduceLT, Int.reduceLT, Int.reduceLE, Int.reduceEq, reduceCtorEq]
      refine gcR_fun (fun hg => s_ref10_Same_self (l := []) (by intro i hi; cases hi) (by simp)) (fun h => by rfl) (by rfl) (.inr (by rfl)) (by rfl) ?_
      simp +contextual only [go_sem, Nat.reduceAdd, Nat.reduceLeDiff, Nat.reduceSub, Nat.reduceLT, Int.reduceLT, Int.reduceLE, Int.reduceEq, reduceCtorEq]
      refine gcR_fun (fun hg => s_law10_stays hl (by omega)) (fun h => by rfl) ?_ (.inr (by rfl)) (by rfl) ?_
      · simp only [go_sem, len_app, take_all_app]
      simp +contextual only [go_sem, Nat.reduceAdd, Nat.reduceLeDiff, Nat.reduceSub, Nat.reduceLT, Int.reduceLT, Int.reduceLE, Int.reduceEq, reduceCtorEq]
      exact endF_of (by rfl) (by rfl) rfl
end Go.Lx
