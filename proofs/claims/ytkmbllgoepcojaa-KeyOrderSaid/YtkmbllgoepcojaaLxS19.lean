import Derived.Test.YtkmbllgoepcojaaLxQ13
import Derived.Test.YtkmbllgoepcojaaLxS14
/- KeyOrder answers true. -/
set_option linter.unusedVariables false
set_option linter.unusedSimpArgs false
set_option maxRecDepth 100000
namespace Go.Lx
variable {T G E : Nat}

abbrev k77 : Key := ⟨⟨#[55, 55]⟩, Key.zero.sym⟩
theorem take_kapp {l : List Key} : (l.map encKey ++ [encKey k77]).take l.length = l.map encKey := by simp
theorem elem_kapp {l : List Key} : elemAt (l.map encKey ++ [encKey k77]) l.length = encKey k77 := by simp [elemAt]
set_option maxHeartbeats 4000000 in
theorem d_KeyOrder {l : List Key} : Does (Ev T G E) c_bailifflaw08_KeyOrder [vKs l] [] fun v _ => v = vB true := by
  refine does_start rfl ?_
  simp +contextual only [go_sem, Nat.reduceAdd, Nat.reduceLeDiff, Nat.reduceSub, Nat.reduceLT, Int.reduceLT, Int.reduceLE, Int.reduceEq, reduceCtorEq]
  refine brB_dec (fun hbig => ?_) (fun hbig => ?_)
  · simp +contextual only [go_sem, Nat.reduceAdd, Nat.reduceLeDiff, Nat.reduceSub, Nat.reduceLT, Int.reduceLT, Int.reduceLE, Int.reduceEq, reduceCtorEq]
    exact endF_of (by rfl) (by rfl) rfl
  · have hlen : l.length ≤ 400 := by omega
    simp +contextual only [go_sem, Nat.reduceAdd, Nat.reduceLeDiff, Nat.reduceSub, Nat.reduceLT, Int.reduceLT, Int.reduceLE, Int.reduceEq, reduceCtorEq, show l.length ≤ 4294967296 by omega, show l.length + 1 ≤ 4294967296 by omega, show l.length ≤ l.length + 1 by omega]
    refine caR_does (s_key_Order (l := l) (by omega)) ?_ ?_
    · simp only [go_sem, take_kapp, show l.length ≤ l.length + 1 by omega]
    rintro v h ⟨rfl, rfl, hol⟩
    refine ⟨.inr ⟨by rfl, plain_rowK⟩, ?_⟩
    have htk : (List.map encKey (ordL l)).take l.length = (ordL l).map encKey := by rw [List.take_of_length_le]; simp [hol]
    simp +contextual only [go_sem, Nat.reduceAdd, Nat.reduceLeDiff, Nat.reduceSub, Nat.reduceLT, Int.reduceLT, Int.reduceLE, Int.reduceEq, reduceCtorEq]
    refine caR_does (s_ref08_Order (l := l) (by omega)) (by rfl) ?_
    rintro v h ⟨g, rfl, rfl⟩
    refine ⟨.inl (by rfl), ?_⟩
    simp +contextual only [go_sem, Nat.reduceAdd, Nat.reduceLeDiff, Nat.reduceSub, Nat.reduceLT, Int.reduceLT, Int.reduceLE, Int.reduceEq, reduceCtorEq]
    refine caR_fun (s_ref08_Same_self (l := ordL l) (by omega)) ?_ (.inr (by rfl)) (by rfl) ?_
    · simp only [go_sem, hol, htk]
    simp +contextual only [go_sem, Nat.reduceAdd, Nat.reduceLeDiff, Nat.reduceSub, Nat.reduceLT, Int.reduceLT, Int.reduceLE, Int.reduceEq, reduceCtorEq]
    refine xK_loop (fun x : Nat × {r : List U // r.length = l.length} => ⟨[(0, (true, vKs l)), (3, (true, .s (.ref 0 1 2 0 (l.length + 1)))), (4, (true, .s (.ref 1 0 2 0 l.length))), (5, (true, .s (.ref 2 g 2 0 (ordL l).length))), (6, (true, vI x.1))],
      [.row 1 2 (l.map encKey ++ [encKey k77]), .row 0 2 x.2.1, .row g 2 ((ordL l).map encKey)]⟩) (fun x => x.1 ≤ l.length) (fun x => l.length - x.1) (0, ⟨(ordL l).map encKey, by simp [hol]⟩)
      (lw_gc [0, 3, 4, 5, 6] [0, 2, 3] (by rfl) (by rfl)) (Nat.zero_le _) ?_
    rintro ⟨i, r, hr⟩ hi
    simp +contextual only [go_sem, Nat.reduceAdd, Nat.reduceLeDiff, Nat.reduceSub, Nat.reduceLT, Int.reduceLT, Int.reduceLE, Int.reduceEq, reduceCtorEq]
    refine brB_dec (fun hlt => ?_) (fun hlt => ?_)
    · simp +contextual only [go_sem, Nat.reduceAdd, Nat.reduceLeDiff, Nat.reduceSub, Nat.reduceLT, Int.reduceLT, Int.reduceLE, Int.reduceEq, reduceCtorEq, hlt, hr, show i < r.length by omega, wrap_succ (show i < 4294967296 by omega)]
      refine ⟨(i + 1, ⟨_, ?_⟩), ?_, lw_gc [0, 3, 4, 5, 6] [0, 1, 2] (by rfl) (by rfl), hlt⟩
      · simp [hr]
      · simp only; omega
    · simp +contextual only [go_sem, Nat.reduceAdd, Nat.reduceLeDiff, Nat.reduceSub, Nat.reduceLT, Int.reduceLT, Int.reduceLE, Int.reduceEq, reduceCtorEq, show l.length ≤ 4294967296 by omega, show l.length + 1 ≤ 4294967296 by omega, show l.length ≤ l.length + 1 by omega]
      refine caR_fun (s_ref08_Same_self (l := l) (by omega)) ?_ (.inr (by rfl)) (by rfl) ?_
      · simp only [go_sem, take_kapp, show l.length ≤ l.length + 1 by omega]
      simp +contextual only [go_sem, Nat.reduceAdd, Nat.reduceLeDiff, Nat.reduceSub, Nat.reduceLT, Int.reduceLT, Int.reduceLE, Int.reduceEq, reduceCtorEq, elem_kapp, show l.length < l.length + 1 by omega]
      refine gcR_yes (caR_does (s_key_Order (l := l) (by omega)) (by rfl) ?_)
      rintro v h ⟨rfl, rfl, _⟩
      refine ⟨.inl (by rfl), ?_⟩
      simp +contextual only [go_sem, Nat.reduceAdd, Nat.reduceLeDiff, Nat.reduceSub, Nat.reduceLT, Int.reduceLT, Int.reduceLE, Int.reduceEq, reduceCtorEq]
      refine gcR_fun (fun hg => s_ref08_Same_self (l := ordL l) (by omega)) (fun h => by rfl) ?_ (.inr (by rfl)) (by rfl) ?_
      · simp only [go_sem, hol, htk]
      simp +contextual only [go_sem, Nat.reduceAdd, Nat.reduceLeDiff, Nat.reduceSub, Nat.reduceLT, Int.reduceLT, Int.reduceLE, Int.reduceEq, reduceCtorEq]
      exact endF_of (by rfl) (by rfl) rfl
end Go.Lx
