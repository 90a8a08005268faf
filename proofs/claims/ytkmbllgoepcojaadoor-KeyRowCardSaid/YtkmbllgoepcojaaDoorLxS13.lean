import Derived.Test.YtkmbllgoepcojaaDoorLxS0
import Derived.Test.YtkmbllgoepcojaaDoorLxQ13
import Derived.Test.YtkmbllgoepcojaaDoorLxQ7
/- A closed sentence that the interpreter answers by true, and that leaves nothing behind. -/
set_option linter.unusedVariables false
namespace Go.Lx
def saysJust : Option (V × List Root) → Bool
  | some (.s (.c (.bool b)), []) => b
  | _ => false
theorem fun_of_run {fns : List (Nat × Fn)} {G T E : Nat} {fuel d c : Nat} (h : saysJust (run (fun f => fns.lookup f) (primC G T E) fuel d c [] []) = true) : Fun (envOf fns G T E) c [] (vB true) := by
  have hs := run_sound (E := envOf fns G T E) (prim := primC G T E) (fun f args h v h' H => Does.prim (E := envOf fns G T E) (primC_sound H)) (fuel := fuel) d
  cases hr : run (fun f => fns.lookup f) (primC G T E) fuel d c [] [] with
  | none => rw [hr] at h; simp [saysJust] at h
  | some p =>
    obtain ⟨v, h'⟩ := p
    rw [hr] at h
    refine Does.mono _ _ _ _ _ ?_ (hs _ _ _ _ _ hr)
    rintro w k ⟨rfl, rfl⟩
    unfold saysJust at h
    split at h
    · rename_i b e
      injection e with e
      injection e with e1 e2
      subst e1 e2
      rw [h]
      exact ⟨rfl, rfl⟩
    · cases h
end Go.Lx

/- Plain laws of the order; times, third. -/
set_option linter.unusedVariables false
set_option linter.unusedSimpArgs false
set_option maxRecDepth 100000
namespace Go.Lx
variable {T G E : Nat}

theorem ordN_filter {l : List Key} {r : Nat} : ∀ {n : Nat}, (ordN l n).filter (fun k => rank k == r) = if r < n then l.filter (fun k => rank k == r) else []
  | 0 => by simp [ordN]
  | n + 1 => by
    rw [ordN_succ, List.filter_append, ordN_filter, List.filter_filter]
    by_cases h : r < n
    · have : ∀ k : Key, (rank k == r && rank k == n) = false := by intro k; simp; omega
      simp [h, this, show r < n + 1 by omega]
    · by_cases h2 : r = n
      · subst h2; simp
      · have : ∀ k : Key, (rank k == r && rank k == n) = false := by intro k; simp; omega
        simp [h, this, show ¬ r < n + 1 by omega]
theorem ordL_filter {l : List Key} {r : Nat} (h : r < 1026) : (ordL l).filter (fun k => rank k == r) = l.filter (fun k => rank k == r) := by
  unfold ordL
  rw [ordN_filter, if_pos h]
theorem ordN_pair {l : List Key} : ∀ {n : Nat}, (ordN l n).Pairwise fun a b => rank a ≤ rank b
  | 0 => by simp [ordN]
  | n + 1 => by
    rw [ordN_succ, List.pairwise_append]
    refine ⟨ordN_pair, ?_, fun a ha b hb => ?_⟩
    · rw [List.pairwise_iff_forall_sublist]
      intro a b hab
      have h1 := hab.subset (show a ∈ [a, b] by simp)
      have h2 := hab.subset (show b ∈ [a, b] by simp)
      simp only [List.mem_filter, beq_iff_eq] at h1 h2
      omega
    · have := ordN_mem ha
      simp only [List.mem_filter, beq_iff_eq] at hb
      omega
theorem ordL_pair {l : List Key} : (ordL l).Pairwise fun a b => rank a ≤ rank b := ordN_pair
theorem ordL_idem {l : List Key} : ordL (ordL l) = ordL l := by
  have h := pair_ord (ordL_pair (l := l)) 1026
  show ordN (ordL l) 1026 = _
  rw [h, List.filter_eq_self]
  intro k _
  simpa using rank_lim k
theorem ordL_le {l : List Key} {i j : Nat} (hij : i < j) (hj : j < (ordL l).length) : rank (aK (ordL l) i) ≤ rank (aK (ordL l) j) := by
  have h := List.pairwise_iff_getElem.1 (ordL_pair (l := l)) i j (by omega) hj hij
  simpa [aK, hj, show i < (ordL l).length by omega] using h
/-- how often a key stands in a list -/
def cntK (l : List Key) (k : Key) : Nat := l.countP fun x => decide (x = k)
theorem cntK_le {l : List Key} {k : Key} : cntK l k ≤ l.length := List.countP_le_length
theorem cntK_filter {l : List Key} {k : Key} : cntK l k = cntK (l.filter fun x => rank x == rank k) k := by
  unfold cntK
  rw [List.countP_filter]
  congr 1
  funext x
  by_cases h : x = k
  · subst h; simp
  · simp [h]
theorem cntK_ord {l : List Key} {k : Key} : cntK (ordL l) k = cntK l k := by
  rw [cntK_filter, ordL_filter (rank_lim k), ← cntK_filter]
theorem cntK_step {l : List Key} {k : Key} {i : Nat} (hi : i < l.length) : cntK (l.take (i + 1)) k = cntK (l.take i) k + if aK l i = k then 1 else 0 := by
  rw [take_snoc hi]
  unfold cntK
  rw [List.countP_append]
  congr 1
  by_cases h : aK l i = k <;> simp [h]

set_option maxHeartbeats 1000000 in
theorem s_law08_times {l : List Key} {k : Key} (hl : l.length ≤ 4294967295) : Fun (Ev T G E) c_bailifflaw08_times [vKs l, vK k] (vI (cntK l k)) := by
  refine does_start rfl ?_
  simp +contextual only [go_sem, Nat.reduceAdd, Nat.reduceLeDiff, Nat.reduceSub, Nat.reduceLT, Int.reduceLT, Int.reduceLE, Int.reduceEq, reduceCtorEq]
  refine xK_loop (fun i : Nat => ⟨[(0, (true, vKs l)), (3, (true, .s (.ptr 0 0))), (4, (true, vI 0)), (5, (true, vI (cntK (l.take i) k))), (6, (true, vI i))], [.boxu (encKey k)]⟩) (fun i => i ≤ l.length) (fun i => l.length - i) 0
    (lw_gc [0, 3, 4, 5, 6] [0] (by rfl) (by rfl)) (Nat.zero_le _) ?_
  intro i hi
  have hc := cntK_le (l := l.take i) (k := k)
  have hc2 : (l.take i).length ≤ 4294967295 := by simp; omega
  simp +contextual only [go_sem, Nat.reduceAdd, Nat.reduceLeDiff, Nat.reduceSub, Nat.reduceLT, Int.reduceLT, Int.reduceLE, Int.reduceEq, reduceCtorEq]
  refine brB_dec (fun hlt => ?_) (fun hlt => ?_)
  · simp +contextual only [go_sem, Nat.reduceAdd, Nat.reduceLeDiff, Nat.reduceSub, Nat.reduceLT, Int.reduceLT, Int.reduceLE, Int.reduceEq, reduceCtorEq, hlt, elemA hlt, ueq_key]
    refine brB_dec (fun hk => ?_) (fun hk => ?_)
    · have e := cntK_step (k := k) hlt
      rw [if_pos hk] at e
      simp +contextual only [go_sem, Nat.reduceAdd, Nat.reduceLeDiff, Nat.reduceSub, Nat.reduceLT, Int.reduceLT, Int.reduceLE, Int.reduceEq, reduceCtorEq, wrap_succ (show cntK (l.take i) k < 4294967296 by omega), wrap_succ (show i < 4294967296 by omega)]
      exact ⟨i + 1, by omega, lw_gc' [0, 3, 4, 5, 6] [0] (by rfl) (by rfl) (by rw [e]; rfl), hlt⟩
    · have e := cntK_step (k := k) hlt
      rw [if_neg hk] at e
      simp +contextual only [go_sem, Nat.reduceAdd, Nat.reduceLeDiff, Nat.reduceSub, Nat.reduceLT, Int.reduceLT, Int.reduceLE, Int.reduceEq, reduceCtorEq, wrap_succ (show i < 4294967296 by omega)]
      exact ⟨i + 1, by omega, lw_gc' [0, 3, 4, 5, 6] [0] (by rfl) (by rfl) (by rw [e]; rfl), hlt⟩
  · obtain rfl : i = l.length := by omega
    simp +contextual only [go_sem, Nat.reduceAdd, Nat.reduceLeDiff, Nat.reduceSub, Nat.reduceLT, Int.reduceLT, Int.reduceLE, Int.reduceEq, reduceCtorEq, List.take_length]
    exact endF_of (by first | exact resAll2 (by rfl) (by rfl) | exact resAll3 (by rfl) (by rfl) (by rfl) | rfl) (by rfl) ⟨by rfl, rfl⟩
theorem s_law08_third {k : Key} : Fun (Ev T G E) c_bailifflaw08_third [vK k] (vI (place1 k)) := by
  refine does_start rfl ?_
  simp +contextual only [go_sem, Nat.reduceAdd, Nat.reduceLeDiff, Nat.reduceSub, Nat.reduceLT, Int.reduceLT, Int.reduceLE, Int.reduceEq, reduceCtorEq]
  refine caR_fun (s_key_Index k) (by rfl) (.inr (by rfl)) (by rfl) ?_
  simp +contextual only [go_sem, Nat.reduceAdd, Nat.reduceLeDiff, Nat.reduceSub, Nat.reduceLT, Int.reduceLT, Int.reduceLE, Int.reduceEq, reduceCtorEq]
  cases hk : keyIdx k with
  | some n =>
    simp +contextual only [go_sem, Nat.reduceAdd, Nat.reduceLeDiff, Nat.reduceSub, Nat.reduceLT, Int.reduceLT, Int.reduceLE, Int.reduceEq, reduceCtorEq, Option.isSome_some]
    refine endF_of (by first | exact resAll2 (by rfl) (by rfl) | exact resAll3 (by rfl) (by rfl) (by rfl) | rfl) (by rfl) ⟨?_, rfl⟩
    simp [place1, hk]
  | none =>
    simp +contextual only [go_sem, Nat.reduceAdd, Nat.reduceLeDiff, Nat.reduceSub, Nat.reduceLT, Int.reduceLT, Int.reduceLE, Int.reduceEq, reduceCtorEq, Option.isSome_none]
    refine brB_dec (fun h2 => ?_) (fun h2 => ?_)
    · simp +contextual only [go_sem, Nat.reduceAdd, Nat.reduceLeDiff, Nat.reduceSub, Nat.reduceLT, Int.reduceLT, Int.reduceLE, Int.reduceEq, reduceCtorEq]
      refine endF_of (by first | exact resAll2 (by rfl) (by rfl) | exact resAll3 (by rfl) (by rfl) (by rfl) | rfl) (by rfl) ⟨?_, rfl⟩
      simp [place1, hk, h2]
    · simp +contextual only [go_sem, Nat.reduceAdd, Nat.reduceLeDiff, Nat.reduceSub, Nat.reduceLT, Int.reduceLT, Int.reduceLE, Int.reduceEq, reduceCtorEq]
      refine endF_of (by first | exact resAll2 (by rfl) (by rfl) | exact resAll3 (by rfl) (by rfl) (by rfl) | rfl) (by rfl) ⟨?_, rfl⟩
      simp [place1, hk, h2]
end Go.Lx

/- KeyRow answers true. -/
set_option linter.unusedVariables false
set_option linter.unusedSimpArgs false
set_option maxRecDepth 100000
namespace Go.Lx
variable {T G E : Nat}

theorem wrap_dn {n j : Nat} (h : j < n) (hn : n ≤ 200) : IntKind.i64.wrap (((j + 1 : Nat) : Int) - 1) = (j : Int) := by
  rw [show (((j + 1 : Nat) : Int) - 1) = (j : Int) by omega]
  exact wrap_nat (by omega)
theorem row_ok {a b : Key} (h : rank a ≤ rank b) : (decide (place1 b < place1 a) || decide (place1 a = 0) && decide (place1 b = 0) && decide ((keyIdx b).getD 0 < (keyIdx a).getD 0)) = false := by
  unfold rank at h
  unfold place1
  cases ha : keyIdx a with
  | some n =>
    have := idx_small ha
    rw [ha] at h
    cases hb : keyIdx b with
    | some m => rw [hb] at h; simp at h ⊢; omega
    | none => by_cases h' : 0 < b.sym <;> simp [h']
  | none =>
    rw [ha] at h
    cases hb : keyIdx b with
    | some m =>
      have := idx_small hb
      rw [hb] at h
      by_cases h' : 0 < a.sym <;> simp [h'] at h <;> omega
    | none =>
      rw [hb] at h
      by_cases h' : 0 < a.sym <;> by_cases h'' : 0 < b.sym <;> simp [h', h''] at h ⊢
theorem place1_one {k : Key} : (place1 k = 1) = (rank k = 1024) := by
  unfold rank place1
  cases h : keyIdx k with
  | some n => have := idx_small h; simp; omega
  | none => by_cases h' : 0 < k.sym <;> simp [h']
/-- the strings that are no index -/
def strF (l : List Key) : List Key := l.filter fun k => rank k == 1024
theorem strF_step {l : List Key} {i : Nat} (h : i < l.length) : strF (l.take (i + 1)) = strF (l.take i) ++ if rank (aK l i) = 1024 then [aK l i] else [] := by
  unfold strF
  rw [take_snoc h, List.filter_append]
  congr 1
  by_cases h' : rank (aK l i) = 1024 <;> simp [h']
theorem strF_cut {l : List Key} {i : Nat} (h : i < l.length) (hr : rank (aK l i) = 1024) : ∃ r, strF l = strF (l.take i) ++ aK l i :: r := by
  refine ⟨strF (l.drop (i + 1)), ?_⟩
  have e : strF l = strF (l.take (i + 1)) ++ strF (l.drop (i + 1)) := by
    unfold strF
    rw [← List.filter_append, List.take_append_drop]
  rw [e, strF_step h, if_pos hr]
  simp
theorem strF_ord {l : List Key} : strF (ordL l) = strF l := ordL_filter (by omega)
theorem row_more {l : List Key} {a i : Nat} (h : strF ((ordL l).take a) = strF (l.take i)) (hi : i < l.length) (hr : rank (aK l i) = 1024) : a < (ordL l).length := by
  rcases Nat.lt_or_ge a (ordL l).length with h' | h'
  · exact h'
  · rw [List.take_of_length_le h', strF_ord] at h
    obtain ⟨r, e⟩ := strF_cut hi hr
    rw [e] at h
    have := congrArg List.length h
    simp at this
theorem row_meet {l : List Key} {a i : Nat} (h : strF ((ordL l).take a) = strF (l.take i)) (hi : i < l.length) (hr : rank (aK l i) = 1024) (ha : a < (ordL l).length) (hra : rank (aK (ordL l) a) = 1024) : aK (ordL l) a = aK l i := by
  obtain ⟨r, e⟩ := strF_cut hi hr
  obtain ⟨r', e'⟩ := strF_cut ha hra
  rw [strF_ord, e, h] at e'
  have := List.append_cancel_left e'
  simp only [List.cons.injEq] at this
  exact this.1.symm
set_option maxHeartbeats 4000000 in
theorem d_KeyRow {l : List Key} (ha : Fun (Ev T G E) c_bailifflaw08_alive [] (vB true)) : Does (Ev T G E) c_bailifflaw08_KeyRow [vKs l] [] fun v _ => v = vB true := by
  refine does_start rfl ?_
  simp +contextual only [go_sem, Nat.reduceAdd, Nat.reduceLeDiff, Nat.reduceSub, Nat.reduceLT, Int.reduceLT, Int.reduceLE, Int.reduceEq, reduceCtorEq]
  refine caR_fun (ha) (by rfl) (.inr (by rfl)) (by rfl) ?_
  simp +contextual only [go_sem, Nat.reduceAdd, Nat.reduceLeDiff, Nat.reduceSub, Nat.reduceLT, Int.reduceLT, Int.reduceLE, Int.reduceEq, reduceCtorEq]
  refine brB_dec (fun hbig => ?_) (fun hbig => ?_)
  · simp +contextual only [go_sem, Nat.reduceAdd, Nat.reduceLeDiff, Nat.reduceSub, Nat.reduceLT, Int.reduceLT, Int.reduceLE, Int.reduceEq, reduceCtorEq]
    exact endF_of (by rfl) (by rfl) rfl
  · have hlen : l.length ≤ 200 := by omega
    simp +contextual only [go_sem, Nat.reduceAdd, Nat.reduceLeDiff, Nat.reduceSub, Nat.reduceLT, Int.reduceLT, Int.reduceLE, Int.reduceEq, reduceCtorEq]
    refine caR_does (s_key_Order (l := l) (by omega)) (by rfl) ?_
    rintro v h ⟨rfl, rfl, hol⟩
    refine ⟨.inl (by rfl), ?_⟩
    simp +contextual only [go_sem, Nat.reduceAdd, Nat.reduceLeDiff, Nat.reduceSub, Nat.reduceLT, Int.reduceLT, Int.reduceLE, Int.reduceEq, reduceCtorEq]
    have htk : (List.map encKey (ordL l)).take l.length = (ordL l).map encKey := by rw [List.take_of_length_le]; simp [hol]
    refine caR_does (s_key_Order (l := ordL l) (by omega)) ?_ ?_
    · simp only [go_sem, hol, htk]
    rintro v h ⟨rfl, rfl, hol2⟩
    refine ⟨.inr ⟨by rfl, plain_rowK⟩, ?_⟩
    rw [ordL_idem]
    simp +contextual only [go_sem, Nat.reduceAdd, Nat.reduceLeDiff, Nat.reduceSub, Nat.reduceLT, Int.reduceLT, Int.reduceLE, Int.reduceEq, reduceCtorEq, hol]
    refine xK_loop (fun i : Nat => ⟨[(0, (true, vKs l)), (2, (true, vB false)), (4, (true, .s (.ref 0 0 2 0 l.length))), (5, (true, .s (.ref 1 0 2 0 l.length))), (6, (true, vI i))], [.row 0 2 ((ordL l).map encKey), .row 0 2 ((ordL l).map encKey)]⟩) (fun i => i ≤ l.length) (fun i => l.length - i) 0
      (lw_gc [0, 2, 4, 5, 6] [0, 1] (by rfl) (by rfl)) (Nat.zero_le _) ?_
    intro i hi
    simp +contextual only [go_sem, Nat.reduceAdd, Nat.reduceLeDiff, Nat.reduceSub, Nat.reduceLT, Int.reduceLT, Int.reduceLE, Int.reduceEq, reduceCtorEq]
    refine brB_dec (fun hlt => ?_) (fun hlt => ?_)
    · have hlt' : i < (ordL l).length := by omega
      simp +contextual only [go_sem, Nat.reduceAdd, Nat.reduceLeDiff, Nat.reduceSub, Nat.reduceLT, Int.reduceLT, Int.reduceLE, Int.reduceEq, reduceCtorEq, hlt, elemA hlt', ueq_key, beq_self_eq_true, hlt']
      refine gcR_fun (fun hg => s_law08_times (l := l) (k := aK (ordL l) i) (by omega)) (fun h => by rfl) (by rfl) (.inr (by rfl)) (by rfl) ?_
      simp +contextual only [go_sem, Nat.reduceAdd, Nat.reduceLeDiff, Nat.reduceSub, Nat.reduceLT, Int.reduceLT, Int.reduceLE, Int.reduceEq, reduceCtorEq, hlt, elemA hlt', ueq_key, beq_self_eq_true, hlt']
      refine gcR_fun (fun hg => s_law08_times (l := ordL l) (k := aK (ordL l) i) (by omega)) (fun h => by rfl) ?_ (.inr (by rfl)) (by rfl) ?_
      · simp only [go_sem, hol, htk]
      simp +contextual only [go_sem, Nat.reduceAdd, Nat.reduceLeDiff, Nat.reduceSub, Nat.reduceLT, Int.reduceLT, Int.reduceLE, Int.reduceEq, reduceCtorEq, cntK_ord]
      refine brB_dec (fun h0 => ?_) (fun h0 => ?_)
      · obtain rfl : i = 0 := by omega
        simp +contextual only [go_sem, Nat.reduceAdd, Nat.reduceLeDiff, Nat.reduceSub, Nat.reduceLT, Int.reduceLT, Int.reduceLE, Int.reduceEq, reduceCtorEq]
        exact ⟨1, by omega, lw_gc [0, 2, 4, 5, 6] [0, 1] (by rfl) (by rfl), by omega⟩
      · obtain ⟨j, rfl⟩ : ∃ j, i = j + 1 := ⟨i - 1, by omega⟩
        have hj : j < l.length := by omega
        have hj' : j < (ordL l).length := by omega
        simp +contextual only [go_sem, Nat.reduceAdd, Nat.reduceLeDiff, Nat.reduceSub, Nat.reduceLT, Int.reduceLT, Int.reduceLE, Int.reduceEq, reduceCtorEq, wrap_dn hj hlen, elemA hj', elemA hlt', hj, hlt, hj', hlt']
        refine caR_fun (s_law08_third) (by rfl) (.inr (by rfl)) (by rfl) ?_
        simp +contextual only [go_sem, Nat.reduceAdd, Nat.reduceLeDiff, Nat.reduceSub, Nat.reduceLT, Int.reduceLT, Int.reduceLE, Int.reduceEq, reduceCtorEq, wrap_dn hj hlen, elemA hj', elemA hlt', hj, hlt, hj', hlt']
        refine caR_fun (s_law08_third) (by rfl) (.inr (by rfl)) (by rfl) ?_
        simp +contextual only [go_sem, Nat.reduceAdd, Nat.reduceLeDiff, Nat.reduceSub, Nat.reduceLT, Int.reduceLT, Int.reduceLE, Int.reduceEq, reduceCtorEq, wrap_dn hj hlen, elemA hj', elemA hlt', hj, hlt, hj', hlt']
        refine caR_fun (s_key_Index (aK (ordL l) j)) (by rfl) (.inr (by rfl)) (by rfl) ?_
        simp +contextual only [go_sem, Nat.reduceAdd, Nat.reduceLeDiff, Nat.reduceSub, Nat.reduceLT, Int.reduceLT, Int.reduceLE, Int.reduceEq, reduceCtorEq, wrap_dn hj hlen, elemA hj', elemA hlt', hj, hlt, hj', hlt']
        refine caR_fun (s_key_Index (aK (ordL l) (j + 1))) (by rfl) (.inr (by rfl)) (by rfl) ?_
        simp +contextual only [go_sem, Nat.reduceAdd, Nat.reduceLeDiff, Nat.reduceSub, Nat.reduceLT, Int.reduceLT, Int.reduceLE, Int.reduceEq, reduceCtorEq, wrap_dn hj hlen, elemA hj', elemA hlt', hj, hlt, hj', hlt']
        have hrow := row_ok (ordL_le (l := l) (i := j) (j := j + 1) (by omega) hlt')
        simp +contextual only [go_sem, Nat.reduceAdd, Nat.reduceLeDiff, Nat.reduceSub, Nat.reduceLT, Int.reduceLT, Int.reduceLE, Int.reduceEq, reduceCtorEq, hrow, wrap_succ (show j + 1 < 4294967296 by omega)]
        exact ⟨j + 1 + 1, by omega, lw_gc [0, 2, 4, 5, 6] [0, 1] (by rfl) (by rfl), by omega⟩
    · simp +contextual only [go_sem, Nat.reduceAdd, Nat.reduceLeDiff, Nat.reduceSub, Nat.reduceLT, Int.reduceLT, Int.reduceLE, Int.reduceEq, reduceCtorEq]
      refine xK_loop (fun x : Nat × Nat => ⟨[(0, (true, vKs l)), (2, (true, vB false)), (4, (true, .s (.ref 0 0 2 0 l.length))), (13, (true, vI x.2)), (14, (true, vI x.1))], [.row 0 2 ((ordL l).map encKey)]⟩)
        (fun x => x.1 ≤ l.length ∧ x.2 ≤ l.length ∧ strF ((ordL l).take x.2) = strF (l.take x.1)) (fun x => l.length - x.1) (0, 0)
        (lw_gc [0, 2, 4, 13, 14] [0] (by rfl) (by rfl)) ⟨Nat.zero_le _, Nat.zero_le _, by simp [strF]⟩ ?_
      rintro ⟨i, a⟩ ⟨hi, ha, hs⟩
      simp only at hi ha hs
      simp +contextual only [go_sem, Nat.reduceAdd, Nat.reduceLeDiff, Nat.reduceSub, Nat.reduceLT, Int.reduceLT, Int.reduceLE, Int.reduceEq, reduceCtorEq]
      refine brB_dec (fun hlt => ?_) (fun hlt => ?_)
      · simp +contextual only [go_sem, Nat.reduceAdd, Nat.reduceLeDiff, Nat.reduceSub, Nat.reduceLT, Int.reduceLT, Int.reduceLE, Int.reduceEq, reduceCtorEq, hlt, elemA hlt]
        refine caR_fun (s_law08_third) (by rfl) (.inr (by rfl)) (by rfl) ?_
        simp +contextual only [go_sem, Nat.reduceAdd, Nat.reduceLeDiff, Nat.reduceSub, Nat.reduceLT, Int.reduceLT, Int.reduceLE, Int.reduceEq, reduceCtorEq, place1_one]
        refine brB_dec (fun hr => ?_) (fun hr => ?_)
        · simp +contextual only [go_sem, Nat.reduceAdd, Nat.reduceLeDiff, Nat.reduceSub, Nat.reduceLT, Int.reduceLT, Int.reduceLE, Int.reduceEq, reduceCtorEq]
          refine xK_loop (fun b : Nat => ⟨[(0, (true, vKs l)), (2, (true, vB false)), (4, (true, .s (.ref 0 0 2 0 l.length))), (13, (true, vI b)), (14, (true, vI i))], [.row 0 2 ((ordL l).map encKey)]⟩)
            (fun b => b ≤ l.length ∧ strF ((ordL l).take b) = strF (l.take i)) (fun b => l.length - b) a (lw_gc [0, 2, 4, 13, 14] [0] (by rfl) (by rfl)) ⟨ha, hs⟩ ?_
          rintro b ⟨hb, hsb⟩
          have hb' := row_more hsb hlt hr
          have hbn : b < l.length := by omega
          simp +contextual only [go_sem, Nat.reduceAdd, Nat.reduceLeDiff, Nat.reduceSub, Nat.reduceLT, Int.reduceLT, Int.reduceLE, Int.reduceEq, reduceCtorEq, hbn, elemA hb', hb']
          refine gcR_fun (fun hg => s_law08_third) (fun h => by rfl) (by rfl) (.inr (by rfl)) (by rfl) ?_
          simp +contextual only [go_sem, Nat.reduceAdd, Nat.reduceLeDiff, Nat.reduceSub, Nat.reduceLT, Int.reduceLT, Int.reduceLE, Int.reduceEq, reduceCtorEq, place1_one]
          refine brB_dec (fun hrb => ?_) (fun hrb => ?_)
          · have hm := row_meet hsb hlt hr hb' hrb
            simp +contextual only [go_sem, Nat.reduceAdd, Nat.reduceLeDiff, Nat.reduceSub, Nat.reduceLT, Int.reduceLT, Int.reduceLE, Int.reduceEq, reduceCtorEq, hbn, elemA hb', hb', elemA hlt, hlt, hm, ueq_key, show ¬ l.length ≤ b by omega, wrap_succ (show b < 4294967296 by omega), wrap_succ (show i < 4294967296 by omega)]
            refine ⟨(i + 1, b + 1), by simp only; omega, lw_gc [0, 2, 4, 13, 14] [0] (by rfl) (by rfl), by simp only; omega, by simp only; omega, ?_⟩
            simp only
            rw [strF_step hb', strF_step hlt, if_pos hr, if_pos hrb, hsb, hm]
          · simp +contextual only [go_sem, Nat.reduceAdd, Nat.reduceLeDiff, Nat.reduceSub, Nat.reduceLT, Int.reduceLT, Int.reduceLE, Int.reduceEq, reduceCtorEq, wrap_succ (show b < 4294967296 by omega)]
            refine ⟨b + 1, by omega, lw_gc [0, 2, 4, 13, 14] [0] (by rfl) (by rfl), by omega, ?_⟩
            rw [strF_step hb', if_neg hrb, hsb, List.append_nil]
        · simp +contextual only [go_sem, Nat.reduceAdd, Nat.reduceLeDiff, Nat.reduceSub, Nat.reduceLT, Int.reduceLT, Int.reduceLE, Int.reduceEq, reduceCtorEq, wrap_succ (show i < 4294967296 by omega)]
          refine ⟨(i + 1, a), by simp only; omega, lw_gc [0, 2, 4, 13, 14] [0] (by rfl) (by rfl), by simp only; omega, ha, ?_⟩
          simp only
          rw [strF_step hlt, if_neg hr, hs, List.append_nil]
      · simp +contextual only [go_sem, Nat.reduceAdd, Nat.reduceLeDiff, Nat.reduceSub, Nat.reduceLT, Int.reduceLT, Int.reduceLE, Int.reduceEq, reduceCtorEq]
        exact endF_of (by rfl) (by rfl) rfl
end Go.Lx
