import Derived.Test.YtkmbllgoepcojaaDoorLxQ1
/- Merging in place: the plain laws. -/
set_option linter.unusedVariables false
set_option linter.unusedSimpArgs false
namespace Go.Lx
section
variable {rk : Key → Nat} {l c : List Key} {a b m i k : Nat}

theorem SortedOn.sub {a' b' : Nat} (h : SortedOn rk l a b) (h1 : a ≤ a') (h2 : b' ≤ b) : SortedOn rk l a' b' := fun p q e1 e2 e3 => h p q (by omega) e2 (by omega)
theorem SortedOn.le (h : SortedOn rk l a b) {p q : Nat} (h1 : a ≤ p) (h2 : p ≤ q) (h3 : q < b) : rk (aK l p) ≤ rk (aK l q) := by
  by_cases e : p = q
  · subst e; exact Nat.le_refl _
  · exact h p q h1 (by omega) h3

/-! one key before others that are less -/
theorem tgL1 (h1 : a ≤ k) (h2 : k + 1 < i) : tg l a (a + 1) i k = aK l (k + 1) := by
  unfold tg
  rw [if_pos (by omega), if_pos (by omega)]
  congr 1; omega
theorem tgL2 (h1 : a < i) : tg l a (a + 1) i (i - 1) = aK l a := by
  unfold tg
  rw [if_pos (by omega), if_neg (by omega)]
  congr 1; omega
theorem tgL3 (h1 : ¬ (a ≤ k ∧ k < i)) : tg l a (a + 1) i k = aK l k := by
  unfold tg
  rw [if_neg h1]
theorem Rot.mvd (h : Rot l a m i c) (h1 : a ≤ m) (h2 : m ≤ i) (h3 : i ≤ l.length) (hd : ∀ p, a ≤ p → p < m → ∀ q, m ≤ q → q < i → rk (aK l p) ≠ rk (aK l q)) : Mvd rk a i l c :=
  rot_mvd (m := m) h1 h2 h3 h.1 (fun k => h.2 k) hd
theorem merge_left (hb : b ≤ l.length) (hs : SortedOn rk l (a + 1) b) (h1 : a + 1 ≤ i) (h2 : i ≤ b) (lo : ∀ k, a + 1 ≤ k → k < i → rk (aK l k) < rk (aK l a)) (hi : ∀ k, i ≤ k → k < b → rk (aK l a) ≤ rk (aK l k)) (hc : Rot l a (a + 1) i c) : Mvd rk a b l c ∧ SortedOn rk c a b := by
  refine ⟨(hc.mvd (by omega) h1 (by omega) (fun p h3 h4 q h5 h6 => ?_)).widen (by omega) h2, fun p q h3 h4 h5 => ?_⟩
  · have : p = a := by omega
    subst this
    have := lo q h5 h6
    omega
  · rw [hc.2 p, hc.2 q]
    by_cases e1 : p + 1 < i
    · rw [tgL1 h3 e1]
      by_cases e2 : q + 1 < i
      · rw [tgL1 (by omega) e2]
        exact hs _ _ (by omega) (by omega) (by omega)
      · by_cases e3 : q = i - 1
        · subst e3
          rw [tgL2 (by omega)]
          exact Nat.le_of_lt (lo _ (by omega) (by omega))
        · rw [tgL3 (by omega)]
          exact hs _ _ (by omega) (by omega) (by omega)
    · by_cases e3 : p = i - 1
      · subst e3
        rw [tgL2 (by omega), tgL3 (by omega)]
        exact hi q (by omega) h5
      · rw [tgL3 (by omega), tgL3 (by omega)]
        exact hs _ _ (by omega) h4 h5
/-! one key behind others that are greater -/
theorem tgR1 (h1 : i ≤ m) : tg l i m (m + 1) i = aK l m := by
  unfold tg
  rw [if_pos (by omega), if_pos (by omega)]
  congr 1; omega
theorem tgR2 (h1 : i < k) (h2 : k ≤ m) : tg l i m (m + 1) k = aK l (k - 1) := by
  unfold tg
  rw [if_pos (by omega), if_neg (by omega)]
  congr 1; omega
theorem tgR3 (h1 : ¬ (i ≤ k ∧ k < m + 1)) : tg l i m (m + 1) k = aK l k := by
  unfold tg
  rw [if_neg h1]
theorem merge_right (hb : m + 1 ≤ l.length) (hs : SortedOn rk l a m) (h1 : a ≤ i) (h2 : i ≤ m) (lo : ∀ k, a ≤ k → k < i → rk (aK l k) ≤ rk (aK l m)) (hi : ∀ k, i ≤ k → k < m → rk (aK l m) < rk (aK l k)) (hc : Rot l i m (m + 1) c) : Mvd rk a (m + 1) l c ∧ SortedOn rk c a (m + 1) := by
  refine ⟨(hc.mvd h2 (by omega) (by omega) (fun p h3 h4 q h5 h6 => ?_)).widen h1 (by omega), fun p q h3 h4 h5 => ?_⟩
  · have : q = m := by omega
    subst this
    have := hi p h3 h4
    omega
  · rw [hc.2 p, hc.2 q]
    by_cases e1 : p < i
    · rw [tgR3 (by omega)]
      by_cases e2 : q < i
      · rw [tgR3 (by omega)]
        exact hs _ _ h3 h4 (by omega)
      · by_cases e3 : q = i
        · subst e3
          rw [tgR1 h2]
          exact lo _ h3 e1
        · rw [tgR2 (by omega) (by omega)]
          exact hs.le h3 (by omega) (by omega)
    · by_cases e3 : p = i
      · subst e3
        rw [tgR1 h2, tgR2 (by omega) (by omega)]
        exact Nat.le_of_lt (hi _ (by omega) (by omega))
      · rw [tgR2 (by omega) (by omega), tgR2 (by omega) (by omega)]
        exact hs _ _ (by omega) (by omega) (by omega)
/-! .. step for step -/
theorem Rot.same (h : i = m ∨ m = k) : Rot l i m k l := by
  refine ⟨rfl, fun p => ?_⟩
  unfold tg
  split
  · split
    · congr 1; omega
    · congr 1; omega
  · rfl
theorem Rot.up (h : Rot l a (a + 1) (k + 1) c) (h1 : a ≤ k) (h2 : k + 1 < l.length) : Rot l a (a + 1) (k + 2) (swK c k (k + 1)) := by
  have hl := h.1
  refine ⟨by rw [swK_len, hl], fun p => ?_⟩
  rw [aK_swK (by omega) (by omega)]
  by_cases e1 : p = k + 1
  · subst e1
    rw [if_pos rfl, h.2, show tg l a (a + 1) (k + 1) k = aK l a from tgL2 (by omega), show tg l a (a + 1) (k + 2) (k + 1) = aK l a from tgL2 (by omega)]
  · rw [if_neg e1]
    by_cases e2 : p = k
    · subst e2
      rw [if_pos rfl, h.2, tgL3 (by omega), tgL1 (by omega) (by omega)]
    · rw [if_neg e2, h.2]
      by_cases e3 : a ≤ p ∧ p < k
      · rw [tgL1 (by omega) (by omega), tgL1 (by omega) (by omega)]
      · rw [tgL3 (by omega), tgL3 (by omega)]
theorem Rot.down (h : Rot l k m (m + 1) c) (h1 : 0 < k) (h2 : k ≤ m) (h3 : m < l.length) : Rot l (k - 1) m (m + 1) (swK c k (k - 1)) := by
  have hl := h.1
  refine ⟨by rw [swK_len, hl], fun p => ?_⟩
  rw [aK_swK (by omega) (by omega)]
  by_cases e1 : p = k - 1
  · subst e1
    rw [if_pos rfl, h.2, tgR1 h2, tgR1 (by omega)]
  · rw [if_neg e1]
    by_cases e2 : p = k
    · subst e2
      rw [if_pos rfl, h.2, tgR3 (by omega), tgR2 (by omega) (by omega)]
    · rw [if_neg e2, h.2]
      by_cases e3 : k < p ∧ p ≤ m
      · rw [tgR2 (by omega) (by omega), tgR2 (by omega) (by omega)]
      · rw [tgR3 (by omega), tgR3 (by omega)]

/-! the middle -/
/-- what the search between lo and hi has come to -/
structure Sym (rk : Key → Nat) (l : List Key) (a m b s : Nat) : Prop where
  am : a < m
  mb : m < b
  bl : b ≤ l.length
  s1 : SortedOn rk l a m
  s2 : SortedOn rk l m b
  as : a ≤ s
  sm : s ≤ m
  sx : s ≤ (a + b) / 2
  sb : (a + b) / 2 + m - s ≤ b
  lo : s = a ∨ (a + b) / 2 + m - s = b ∨ rk (aK l (s - 1)) ≤ rk (aK l ((a + b) / 2 + m - s))
  hi : s = m ∨ s = (a + b) / 2 ∨ rk (aK l ((a + b) / 2 + m - s - 1)) < rk (aK l s)
theorem Sym.lt {s : Nat} (h : Sym rk l a m b s) {p q : Nat} (h1 : s ≤ p) (h2 : p < m) (h3 : m ≤ q) (h4 : q < (a + b) / 2 + m - s) : rk (aK l q) < rk (aK l p) := by
  obtain ⟨am, mb, bl, s1, s2, as, sm, sx, sb, lo, hi⟩ := h
  rcases hi with hi | hi | hi
  · omega
  · omega
  · exact Nat.lt_of_le_of_lt (s2.le (q := (a + b) / 2 + m - s - 1) h3 (by omega) (by omega)) (Nat.lt_of_lt_of_le hi (s1.le as h1 h2))
theorem Sym.le {s : Nat} (h : Sym rk l a m b s) {p q : Nat} (h1 : a ≤ p) (h2 : p < s) (h3 : (a + b) / 2 + m - s ≤ q) (h4 : q < b) : rk (aK l p) ≤ rk (aK l q) := by
  obtain ⟨am, mb, bl, s1, s2, as, sm, sx, sb, lo, hi⟩ := h
  rcases lo with lo | lo | lo
  · omega
  · omega
  · exact Nat.le_trans (s1.le (q := s - 1) h1 (by omega) (by omega)) (Nat.le_trans lo (s2.le (by omega) h3 h4))
structure Halves (rk : Key → Nat) (l : List Key) (a m b s : Nat) (c : List Key) : Prop where
  mvd : Mvd rk a b l c
  p1 : SortedOn rk c a s
  p2 : SortedOn rk c s ((a + b) / 2)
  p3 : SortedOn rk c ((a + b) / 2) ((a + b) / 2 + m - s)
  p4 : SortedOn rk c ((a + b) / 2 + m - s) b
  x : ∀ p q, a ≤ p → p < (a + b) / 2 → (a + b) / 2 ≤ q → q < b → rk (aK c p) ≤ rk (aK c q)
theorem Sym.halves {s : Nat} (h : Sym rk l a m b s) (hc : Rot l s m ((a + b) / 2 + m - s) c) : Halves rk l a m b s c := by
  have hlt := fun p q h1 h2 h3 h4 => h.lt (p := p) (q := q) h1 h2 h3 h4
  have hle := fun p q h1 h2 h3 h4 => h.le (p := p) (q := q) h1 h2 h3 h4
  obtain ⟨am, mb, bl, s1, s2, as, sm, sx, sb, lo, hi⟩ := h
  generalize hx : (a + b) / 2 = x at *
  have k1 : ∀ p, p < s → aK c p = aK l p := fun p hp => by rw [hc.2 p]; unfold tg; rw [if_neg (by omega)]
  have k2 : ∀ p, s ≤ p → p < x → aK c p = aK l (p - s + m) := fun p hp hq => by rw [hc.2 p]; unfold tg; rw [if_pos (by omega), if_pos (by omega)]
  have k3 : ∀ p, x ≤ p → p < x + m - s → aK c p = aK l (p - (x - s)) := fun p hp hq => by
    rw [hc.2 p]; unfold tg; rw [if_pos (by omega), if_neg (by omega)]
    congr 1; omega
  have k4 : ∀ p, x + m - s ≤ p → aK c p = aK l p := fun p hp => by rw [hc.2 p]; unfold tg; rw [if_neg (by omega)]
  refine ⟨(hc.mvd sm (by omega) (by omega) (fun p h1 h2 q h3 h4 => ?_)).widen as sb, fun p q h1 h2 h3 => ?_, fun p q h1 h2 h3 => ?_, fun p q h1 h2 h3 => ?_, fun p q h1 h2 h3 => ?_, fun p q h1 h2 h3 h4 => ?_⟩
  · have := hlt p q h1 h2 h3 h4
    omega
  · rw [k1 p (by omega), k1 q h3]
    exact s1 _ _ h1 h2 (by omega)
  · rw [hx] at h3
    rw [k2 p h1 (by omega), k2 q (by omega) h3]
    exact s2 _ _ (by omega) (by omega) (by omega)
  · rw [hx] at h1 h3
    rw [k3 p h1 (by omega), k3 q (by omega) h3]
    exact s1 _ _ (by omega) (by omega) (by omega)
  · rw [hx] at h1
    rw [k4 p h1, k4 q (by omega)]
    exact s2 _ _ (by omega) h2 h3
  · rw [hx] at h2 h3
    by_cases e1 : p < s
    · rw [k1 p e1]
      by_cases e2 : q < x + m - s
      · rw [k3 q h3 e2]
        exact s1 _ _ h1 (by omega) (by omega)
      · rw [k4 q (by omega)]
        exact hle _ _ h1 e1 (by omega) h4
    · rw [k2 p (by omega) h2]
      by_cases e2 : q < x + m - s
      · rw [k3 q h3 e2]
        exact Nat.le_of_lt (hlt _ _ (by omega) (by omega) (by omega) (by omega))
      · rw [k4 q (by omega)]
        exact s2 _ _ (by omega) (by omega) h4
/-- halves sorted, one after the other -/
theorem Halves.join {s : Nat} {c1 c2 : List Key} (h : Halves rk l a m b s c) (hab : a ≤ b) (h1 : Mvd rk a ((a + b) / 2) c c1) (t1 : SortedOn rk c1 a ((a + b) / 2)) (h2 : Mvd rk ((a + b) / 2) b c1 c2) (t2 : SortedOn rk c2 ((a + b) / 2) b) : Mvd rk a b l c2 ∧ SortedOn rk c2 a b := by
  have hx := h.x
  generalize hm : (a + b) / 2 = x at *
  refine ⟨(h.mvd.trans (h1.widen (by omega) (by omega))).trans (h2.widen (by omega) (by omega)), fun p q e1 e2 e3 => ?_⟩
  by_cases g1 : x ≤ p
  · exact t2 p q g1 e2 e3
  · by_cases g2 : x ≤ q
    · obtain ⟨p', f1, f2, f3⟩ := h1.inn p e1 (by omega)
      obtain ⟨q', f4, f5, f6⟩ := h2.inn q g2 e3
      rw [h2.out p (by omega), f3, f6, h1.out q' (by omega)]
      exact hx _ _ f1 f2 f4 f5
    · rw [h2.out p (by omega), h2.out q (by omega)]
      exact t1 p q e1 e2 (by omega)
end
end Go.Lx

/- Merging in place: the code. -/
set_option linter.unusedVariables false
set_option linter.unusedSimpArgs false
set_option maxRecDepth 100000
set_option maxHeartbeats 1000000
namespace Go.Lx
variable {T G E : Nat}

theorem w_half {x : Nat} (h : x ≤ 4294967296) : IntKind.i64.wrap (shr .u64 (IntKind.u64.wrap (x : Int)) 1) = ((x / 2 : Nat) : Int) := by
  have e1 : IntKind.u64.wrap (x : Int) = x := by
    simp only [IntKind.wrap, IntKind.signed, IntKind.bits, Bool.false_and, Bool.false_eq_true, if_false, Int.reducePow]; omega
  have e2 : shr .u64 (x : Int) 1 = ((x / 2 : Nat) : Int) := by
    simp only [shr, IntKind.bits]
    rw [show (2 : Int) ^ min (Int.toNat 1) 64 = 2 by rfl, Int.fdiv_eq_ediv_of_nonneg _ (by decide)]
    omega
  rw [e1, e2]
  exact wrap_i64 ⟨by omega, by omega⟩
def Code.tl : Nat → Code → Code
  | 0, c => c
  | n + 1, .seq _ b => b.tl n
  | n + 1, c => c
abbrev SymR (n a b : Nat) (l : List Key) (t : List Root) : V → List Root → Prop := fun d h' => d = .tup [] ∧ ∃ c, Mvd rank a b l c ∧ SortedOn rank c a b ∧ h' = hp n c t
def SymSpec (T G E n k : Nat) : Prop := ∀ (l : List Key) (t : List Root) (a m b : Nat), b - a ≤ k → l.length = n → okT t → a < m → m < b → b ≤ n → SortedOn rank l a m → SortedOn rank l m b →
  Does (Ev T G E) c_sort_symMerge_func [vData G E n, vI a, vI m, vI b] (hp n l t) (SymR n a b l t)
/-- the state in the last part -/
structure TailS (G E n : Nat) (t : List Root) (a b st x e : Nat) (c : List Key) (s : St) : Prop where
  g1 : s.get 1 = (true, vI a)
  g3 : s.get 3 = (true, vI b)
  g4 : s.get 4 = (true, .s (.ptr (t.length + 2) 0))
  g16 : s.get 16 = (true, vI x)
  g18 : s.get 18 = (true, vI st)
  g22 : s.get 22 = (true, vI e)
  h : s.h = hp n c (t ++ [bxD G E n])
abbrev finQ (n a b : Nat) (l : List Key) (t : List Root) : Out → Prop
  | .norm s | .ret s => endF [] (t.length + 2) (SymR n a b l t) s
  | .exit _ _ => False

theorem caR_own' {Ev : Env} {n0 : Nat} {k : List Item} {s : St} {Q : Out → Prop} {f : Nat} {args : List V} {R : V → List Root → Prop} {dst l} {h : List Root} (e : s.h = h) (H : Does Ev f args h R) (K : ∀ d h', R d h' → efR (Does Ev) n0 none d h' dst l k s Q) : caR (Does Ev) n0 f args dst l k s Q := by
  subst e
  exact caR_own H K

theorem tail_right {n k : Nat} {l c c1 : List Key} {t : List Root} {a m b st : Nat} {s : St} (IH : SymSpec T G E n k) (hk : b - a ≤ k + 1) (hl : l.length = n) (ht : okT t) (hS : Sym rank l a m b st) (hH : Halves rank l a m b st c)
    (h1 : Mvd rank a ((a + b) / 2) c c1) (h2 : SortedOn rank c1 a ((a + b) / 2)) (hs : TailS G E n t a b st ((a + b) / 2) ((a + b) / 2 + m - st) c1 s) :
    xK (Does (Ev T G E)) (t.length + 2) [.c (Code.tl 12 L_sort_symMerge_func.body)] s (finQ n a b l t) := by
  have ht' := okT_data (G := G) (E := E) (n := n) ht
  obtain ⟨g1, g3, g4, g16, g18, g22, hh⟩ := hs
  have am := hS.am
  have mb := hS.mb
  have bl := hS.bl
  have sm := hS.sm
  have hc1 : c1.length = n := by rw [h1.len, hH.mvd.len, hl]
  simp only [L_sort_symMerge_func, Code.tl]
  simp +contextual only [go_sem, Nat.reduceAdd, Nat.reduceLeDiff, Nat.reduceSub, Nat.reduceLT, Int.reduceLT, Int.reduceLE, Int.reduceEq, reduceCtorEq, g1, g3, g4, g16, g18, g22, hh]
  refine brB_split (fun hr => ?_) (fun hr => ?_)
  · simp only [Bool.and_eq_true, decide_eq_true_eq] at hr
    simp +contextual only [go_sem, Nat.reduceAdd, Nat.reduceLeDiff, Nat.reduceSub, Nat.reduceLT, Int.reduceLT, Int.reduceLE, Int.reduceEq, reduceCtorEq, g1, g3, g4, g16, g18, g22, hh]
    refine caR_own' (by simp only [go_sem, hh]) (IH c1 (t ++ [bxD G E n]) ((a + b) / 2) ((a + b) / 2 + m - st) b (by omega) hc1 ht' (by omega) (by omega) (by omega) (fun p q e1 e2 e3 => ?_) (fun p q e1 e2 e3 => ?_)) ?_
    · rw [h1.out p (by omega), h1.out q (by omega)]
      exact hH.p3 p q e1 e2 e3
    · rw [h1.out p (by omega), h1.out q (by omega)]
      exact hH.p4 p q e1 e2 e3
    · rintro d h' ⟨rfl, c2, f1, f2, rfl⟩
      simp +contextual only [go_sem, Nat.reduceAdd, Nat.reduceLeDiff, Nat.reduceSub, Nat.reduceLT, Int.reduceLT, Int.reduceLE, Int.reduceEq, reduceCtorEq]
      have hj := hH.join (by omega) h1 h2 f1 f2
      refine endF_front (h1 := hp n c2 t) (by rfl) (by rfl) ?_ (okT_hp ht) ⟨rfl, c2, hj.1, hj.2, rfl⟩
      simp [go_sem]
  · simp only [Bool.and_eq_false_iff, decide_eq_false_iff_not] at hr
    simp +contextual only [go_sem, Nat.reduceAdd, Nat.reduceLeDiff, Nat.reduceSub, Nat.reduceLT, Int.reduceLT, Int.reduceLE, Int.reduceEq, reduceCtorEq]
    have hj := hH.join (by omega) h1 h2 (Mvd.refl _ _ _) (fun p q e1 e2 e3 => by
      rw [h1.out p (by omega), h1.out q (by omega)]
      by_cases e4 : q < (a + b) / 2 + m - st
      · exact hH.p3 p q e1 e2 e4
      · exact hH.p4 p q (by omega) e2 e3)
    refine endF_front (h1 := hp n c1 t) (by rfl) (by rfl) ?_ (okT_hp ht) ⟨rfl, c1, hj.1, hj.2, rfl⟩
    simp [go_sem, hh]
theorem tail_left {n k : Nat} {l c : List Key} {t : List Root} {a m b st : Nat} {s : St} (IH : SymSpec T G E n k) (hk : b - a ≤ k + 1) (hl : l.length = n) (ht : okT t) (hS : Sym rank l a m b st) (hc : Rot l st m ((a + b) / 2 + m - st) c)
    (hs : TailS G E n t a b st ((a + b) / 2) ((a + b) / 2 + m - st) c s) :
    xK (Does (Ev T G E)) (t.length + 2) [.c (Code.tl 11 L_sort_symMerge_func.body)] s (finQ n a b l t) := by
  have ht' := okT_data (G := G) (E := E) (n := n) ht
  have hH := hS.halves hc
  obtain ⟨g1, g3, g4, g16, g18, g22, hh⟩ := hs
  have am := hS.am
  have mb := hS.mb
  have bl := hS.bl
  have sm := hS.sm
  have sx := hS.sx
  have as := hS.as
  have hcl : c.length = n := by rw [hc.1, hl]
  simp only [L_sort_symMerge_func, Code.tl]
  simp +contextual only [go_sem, Nat.reduceAdd, Nat.reduceLeDiff, Nat.reduceSub, Nat.reduceLT, Int.reduceLT, Int.reduceLE, Int.reduceEq, reduceCtorEq, g1, g3, g4, g16, g18, g22, hh]
  refine brB_split (fun hr => ?_) (fun hr => ?_)
  · simp only [Bool.and_eq_true, decide_eq_true_eq] at hr
    simp +contextual only [go_sem, Nat.reduceAdd, Nat.reduceLeDiff, Nat.reduceSub, Nat.reduceLT, Int.reduceLT, Int.reduceLE, Int.reduceEq, reduceCtorEq, g1, g3, g4, g16, g18, g22, hh]
    refine caR_own' (by simp only [go_sem, hh]) (IH c (t ++ [bxD G E n]) a st ((a + b) / 2) (by omega) hcl ht' (by omega) (by omega) (by omega) hH.p1 hH.p2) ?_
    rintro d h' ⟨rfl, c1, f1, f2, rfl⟩
    refine tail_right IH hk hl ht hS hH f1 f2 ⟨?_, ?_, ?_, ?_, ?_, ?_, ?_⟩
    all_goals simp only [go_sem, g1, g3, g4, g16, g18, g22, hh]
  · simp only [Bool.and_eq_false_iff, decide_eq_false_iff_not] at hr
    refine tail_right IH hk hl ht hS hH (Mvd.refl _ _ _) (fun p q e1 e2 e3 => ?_) ⟨?_, ?_, ?_, ?_, ?_, ?_, ?_⟩
    · by_cases e4 : q < st
      · exact hH.p1 p q e1 e2 e4
      · exact hH.p2 p q (by omega) e2 e3
    all_goals simp only [go_sem, g1, g3, g4, g16, g18, g22, hh]
end Go.Lx

/- Merging in place: the code, whole. -/
set_option linter.unusedVariables false
set_option linter.unusedSimpArgs false
set_option maxRecDepth 100000
set_option maxHeartbeats 1000000
namespace Go.Lx
variable {T G E : Nat}

theorem sym_step {n k : Nat} (hn : n ≤ 1073741823) (IH : SymSpec T G E n k) : SymSpec T G E n (k + 1) := by
  intro l t a m b hk hl ht h1 h2 h3 s1 s2
  have ht' := okT_data (G := G) (E := E) (n := n) ht
  refine does_start rfl ?_
  simp +contextual only [go_sem, Nat.reduceAdd, Nat.reduceLeDiff, Nat.reduceSub, Nat.reduceLT, Int.reduceLT, Int.reduceLE, Int.reduceEq, reduceCtorEq, wrap_subN (show a ≤ m by omega) (show m ≤ 4294967296 by omega)]
  refine brB_dec (fun hq => ?_) (fun hq => ?_)
  · -- one key before the others
    have hm : m = a + 1 := by omega
    subst hm
    simp +contextual only [go_sem, Nat.reduceAdd, Nat.reduceLeDiff, Nat.reduceSub, Nat.reduceLT, Int.reduceLT, Int.reduceLE, Int.reduceEq, reduceCtorEq]
    refine xK_loop (fun x : Nat × Nat => ⟨[(1, (true, vI a)), (2, (true, vI (a + 1 : Nat))), (3, (true, vI b)), (4, (true, .s (.ptr (t.length + 2) 0))), (8, (true, vI x.1)), (9, (true, vI x.2))], hp n l (t ++ [bxD G E n])⟩)
      (fun x => a + 1 ≤ x.1 ∧ x.1 ≤ x.2 ∧ x.2 ≤ b ∧ (∀ k, a + 1 ≤ k → k < x.1 → rank (aK l k) < rank (aK l a)) ∧ (∀ k, x.2 ≤ k → k < b → rank (aK l a) ≤ rank (aK l k))) (fun x => x.2 - x.1) (a + 1, b)
      (lw_keep [1, 2, 3, 4, 8, 9] (by rfl) (by simp [go_sem, V.under, DC.under]) (okT_hp ht') (by simp [go_sem]) (by rfl)) ⟨Nat.le_refl _, by simp only; omega, Nat.le_refl _, fun k e1 e2 => by simp only at e2; omega, fun k e1 e2 => by simp only at e1; omega⟩ ?_
    rintro ⟨i, j⟩ ⟨p1, p2, p3, p4, p5⟩
    simp only at p1 p2 p3 p4 p5
    simp +contextual only [go_sem, Nat.reduceAdd, Nat.reduceLeDiff, Nat.reduceSub, Nat.reduceLT, Int.reduceLT, Int.reduceLE, Int.reduceEq, reduceCtorEq]
    refine brB_dec (fun hlt => ?_) (fun hlt => ?_)
    · simp +contextual only [go_sem, Nat.reduceAdd, Nat.reduceLeDiff, Nat.reduceSub, Nat.reduceLT, Int.reduceLT, Int.reduceLE, Int.reduceEq, reduceCtorEq, wrap_addN (show i + j ≤ 4294967296 by omega), w_half (show i + j ≤ 4294967296 by omega)]
      refine caR_own (s_less (n := n) (l := l) (t := t ++ [bxD G E n]) hl ht' (i := (i + j) / 2) (j := a) (by omega) (by omega)) ?_
      rintro d h' ⟨rfl, rfl⟩
      simp +contextual only [go_sem, Nat.reduceAdd, Nat.reduceLeDiff, Nat.reduceSub, Nat.reduceLT, Int.reduceLT, Int.reduceLE, Int.reduceEq, reduceCtorEq]
      refine brB_dec (fun hls => ?_) (fun hls => ?_)
      · simp +contextual only [go_sem, Nat.reduceAdd, Nat.reduceLeDiff, Nat.reduceSub, Nat.reduceLT, Int.reduceLT, Int.reduceLE, Int.reduceEq, reduceCtorEq, wrap_succ (show (i + j) / 2 < 4294967296 by omega)]
        refine ⟨((i + j) / 2 + 1, j), by simp only; omega, lw_keep [1, 2, 3, 4, 8, 9] (by rfl) (by simp [go_sem, V.under, DC.under]) (okT_hp ht') (by simp [go_sem]) (by rfl), by simp only; omega, by simp only; omega, p3, fun q e1 e2 => ?_, p5⟩
        have := s2.le (p := q) (q := (i + j) / 2) (by omega) (by simp only at e2; omega) (by omega)
        omega
      · simp +contextual only [go_sem, Nat.reduceAdd, Nat.reduceLeDiff, Nat.reduceSub, Nat.reduceLT, Int.reduceLT, Int.reduceLE, Int.reduceEq, reduceCtorEq]
        refine ⟨(i, (i + j) / 2), by simp only; omega, lw_keep [1, 2, 3, 4, 8, 9] (by rfl) (by simp [go_sem, V.under, DC.under]) (okT_hp ht') (by simp [go_sem]) (by rfl), p1, by simp only; omega, by simp only; omega, p4, fun q e1 e2 => ?_⟩
        have := s2.le (p := (i + j) / 2) (q := q) (by omega) e1 (by omega)
        omega
    · have hij : i = j := by omega
      subst hij
      simp +contextual only [go_sem, Nat.reduceAdd, Nat.reduceLeDiff, Nat.reduceSub, Nat.reduceLT, Int.reduceLT, Int.reduceLE, Int.reduceEq, reduceCtorEq]
      refine xK_loop (fun x : Nat × List Key => ⟨[(1, (true, vI a)), (2, (true, vI (a + 1 : Nat))), (3, (true, vI b)), (4, (true, .s (.ptr (t.length + 2) 0))), (8, (true, vI i)), (11, (true, vI x.1))], hp n x.2 (t ++ [bxD G E n])⟩)
        (fun x => a ≤ x.1 ∧ x.1 + 1 ≤ i ∧ Rot l a (a + 1) (x.1 + 1) x.2) (fun x => i - x.1) (a, l)
        (lw_keep [1, 2, 3, 4, 8, 11] (by rfl) (by simp [go_sem, V.under, DC.under]) (okT_hp ht') (by simp [go_sem]) (by rfl)) ⟨Nat.le_refl _, p1, Rot.same (.inr rfl)⟩ ?_
      rintro ⟨q, c⟩ ⟨r1, r2, r3⟩
      simp only at r1 r2 r3
      have hcl := r3.1
      simp +contextual only [go_sem, Nat.reduceAdd, Nat.reduceLeDiff, Nat.reduceSub, Nat.reduceLT, Int.reduceLT, Int.reduceLE, Int.reduceEq, reduceCtorEq, wrap_pred (show 1 ≤ i by omega) (show i ≤ 4294967296 by omega)]
      refine brB_dec (fun hlt2 => ?_) (fun hlt2 => ?_)
      · simp +contextual only [go_sem, Nat.reduceAdd, Nat.reduceLeDiff, Nat.reduceSub, Nat.reduceLT, Int.reduceLT, Int.reduceLE, Int.reduceEq, reduceCtorEq, wrap_succ (show q < 4294967296 by omega), show ¬ n = 0 by omega, show ¬ n = 1 by omega, show ¬ n ≤ 1 by omega, if_false]
        refine caR_own (s_swap (n := n) (l := c) (t := t ++ [bxD G E n]) (i := q) (j := q + 1) (by omega) (by omega) (by omega)) ?_
        rintro d h' ⟨rfl, rfl⟩
        simp +contextual only [go_sem, Nat.reduceAdd, Nat.reduceLeDiff, Nat.reduceSub, Nat.reduceLT, Int.reduceLT, Int.reduceLE, Int.reduceEq, reduceCtorEq, wrap_succ (show q < 4294967296 by omega)]
        exact ⟨(q + 1, swK c q (q + 1)), by simp only; omega, lw_keep [1, 2, 3, 4, 8, 11] (by rfl) (by simp [go_sem, V.under, DC.under]) (okT_hp ht') (by simp [go_sem]) (by rfl), by simp only; omega, by simp only; omega, r3.up r1 (by omega)⟩
      · simp +contextual only [go_sem, Nat.reduceAdd, Nat.reduceLeDiff, Nat.reduceSub, Nat.reduceLT, Int.reduceLT, Int.reduceLE, Int.reduceEq, reduceCtorEq]
        have e : q + 1 = i := by omega
        rw [e] at r3
        have hj := merge_left (rk := rank) (by omega) s2 p1 p3 p4 p5 r3
        refine endF_front (h1 := hp n c t) (by rfl) (by rfl) ?_ (okT_hp ht) ⟨rfl, c, hj.1, hj.2, rfl⟩
        simp [go_sem]
  · simp +contextual only [go_sem, Nat.reduceAdd, Nat.reduceLeDiff, Nat.reduceSub, Nat.reduceLT, Int.reduceLT, Int.reduceLE, Int.reduceEq, reduceCtorEq, wrap_subN (show m ≤ b by omega) (show b ≤ 4294967296 by omega)]
    refine brB_dec (fun hq2 => ?_) (fun hq2 => ?_)
    · -- one key behind the others
      have hm : b = m + 1 := by omega
      subst hm
      simp +contextual only [go_sem, Nat.reduceAdd, Nat.reduceLeDiff, Nat.reduceSub, Nat.reduceLT, Int.reduceLT, Int.reduceLE, Int.reduceEq, reduceCtorEq]
      refine xK_loop (fun x : Nat × Nat => ⟨[(1, (true, vI a)), (2, (true, vI m)), (3, (true, vI (m + 1 : Nat))), (4, (true, .s (.ptr (t.length + 2) 0))), (12, (true, vI x.1)), (13, (true, vI x.2))], hp n l (t ++ [bxD G E n])⟩)
        (fun x => a ≤ x.1 ∧ x.1 ≤ x.2 ∧ x.2 ≤ m ∧ (∀ k, a ≤ k → k < x.1 → rank (aK l k) ≤ rank (aK l m)) ∧ (∀ k, x.2 ≤ k → k < m → rank (aK l m) < rank (aK l k))) (fun x => x.2 - x.1) (a, m)
        (lw_keep [1, 2, 3, 4, 12, 13] (by rfl) (by simp [go_sem, V.under, DC.under]) (okT_hp ht') (by simp [go_sem]) (by rfl)) ⟨Nat.le_refl _, by simp only; omega, Nat.le_refl _, fun k e1 e2 => by simp only at e2; omega, fun k e1 e2 => by simp only at e1; omega⟩ ?_
      rintro ⟨i, j⟩ ⟨p1, p2, p3, p4, p5⟩
      simp only at p1 p2 p3 p4 p5
      simp +contextual only [go_sem, Nat.reduceAdd, Nat.reduceLeDiff, Nat.reduceSub, Nat.reduceLT, Int.reduceLT, Int.reduceLE, Int.reduceEq, reduceCtorEq]
      refine brB_dec (fun hlt => ?_) (fun hlt => ?_)
      · simp +contextual only [go_sem, Nat.reduceAdd, Nat.reduceLeDiff, Nat.reduceSub, Nat.reduceLT, Int.reduceLT, Int.reduceLE, Int.reduceEq, reduceCtorEq, wrap_addN (show i + j ≤ 4294967296 by omega), w_half (show i + j ≤ 4294967296 by omega)]
        refine caR_own (s_less (n := n) (l := l) (t := t ++ [bxD G E n]) hl ht' (i := m) (j := (i + j) / 2) (by omega) (by omega)) ?_
        rintro d h' ⟨rfl, rfl⟩
        simp +contextual only [go_sem, Nat.reduceAdd, Nat.reduceLeDiff, Nat.reduceSub, Nat.reduceLT, Int.reduceLT, Int.reduceLE, Int.reduceEq, reduceCtorEq]
        refine brB_dec (fun hls => ?_) (fun hls => ?_)
        · simp +contextual only [go_sem, Nat.reduceAdd, Nat.reduceLeDiff, Nat.reduceSub, Nat.reduceLT, Int.reduceLT, Int.reduceLE, Int.reduceEq, reduceCtorEq]
          refine ⟨(i, (i + j) / 2), by simp only; omega, lw_keep [1, 2, 3, 4, 12, 13] (by rfl) (by simp [go_sem, V.under, DC.under]) (okT_hp ht') (by simp [go_sem]) (by rfl), p1, by simp only; omega, by simp only; omega, p4, fun q e1 e2 => ?_⟩
          have := s1.le (p := (i + j) / 2) (q := q) (by omega) e1 (by omega)
          omega
        · simp +contextual only [go_sem, Nat.reduceAdd, Nat.reduceLeDiff, Nat.reduceSub, Nat.reduceLT, Int.reduceLT, Int.reduceLE, Int.reduceEq, reduceCtorEq, wrap_succ (show (i + j) / 2 < 4294967296 by omega)]
          refine ⟨((i + j) / 2 + 1, j), by simp only; omega, lw_keep [1, 2, 3, 4, 12, 13] (by rfl) (by simp [go_sem, V.under, DC.under]) (okT_hp ht') (by simp [go_sem]) (by rfl), by simp only; omega, by simp only; omega, p3, fun q e1 e2 => ?_, p5⟩
          have := s1.le (p := q) (q := (i + j) / 2) (by omega) (by simp only at e2; omega) (by omega)
          omega
      · have hij : i = j := by omega
        subst hij
        simp +contextual only [go_sem, Nat.reduceAdd, Nat.reduceLeDiff, Nat.reduceSub, Nat.reduceLT, Int.reduceLT, Int.reduceLE, Int.reduceEq, reduceCtorEq]
        refine xK_loop (fun x : Nat × List Key => ⟨[(1, (true, vI a)), (2, (true, vI m)), (3, (true, vI (m + 1 : Nat))), (4, (true, .s (.ptr (t.length + 2) 0))), (12, (true, vI i)), (15, (true, vI x.1))], hp n x.2 (t ++ [bxD G E n])⟩)
          (fun x => i ≤ x.1 ∧ x.1 ≤ m ∧ Rot l x.1 m (m + 1) x.2) (fun x => x.1) (m, l)
          (lw_keep [1, 2, 3, 4, 12, 15] (by rfl) (by simp [go_sem, V.under, DC.under]) (okT_hp ht') (by simp [go_sem]) (by rfl)) ⟨p3, Nat.le_refl _, Rot.same (.inl rfl)⟩ ?_
        rintro ⟨q, c⟩ ⟨r1, r2, r3⟩
        simp only at r1 r2 r3
        have hcl := r3.1
        simp +contextual only [go_sem, Nat.reduceAdd, Nat.reduceLeDiff, Nat.reduceSub, Nat.reduceLT, Int.reduceLT, Int.reduceLE, Int.reduceEq, reduceCtorEq]
        refine brB_dec (fun hlt2 => ?_) (fun hlt2 => ?_)
        · simp +contextual only [go_sem, Nat.reduceAdd, Nat.reduceLeDiff, Nat.reduceSub, Nat.reduceLT, Int.reduceLT, Int.reduceLE, Int.reduceEq, reduceCtorEq, wrap_pred (show 1 ≤ q by omega) (show q ≤ 4294967296 by omega), show ¬ n = 0 by omega, show ¬ n = 1 by omega, show ¬ n ≤ 1 by omega, if_false]
          refine caR_own (s_swap (n := n) (l := c) (t := t ++ [bxD G E n]) (i := q) (j := q - 1) (by omega) (by omega) (by omega)) ?_
          rintro d h' ⟨rfl, rfl⟩
          simp +contextual only [go_sem, Nat.reduceAdd, Nat.reduceLeDiff, Nat.reduceSub, Nat.reduceLT, Int.reduceLT, Int.reduceLE, Int.reduceEq, reduceCtorEq, wrap_pred (show 1 ≤ q by omega) (show q ≤ 4294967296 by omega)]
          exact ⟨(q - 1, swK c q (q - 1)), by simp only; omega, lw_keep [1, 2, 3, 4, 12, 15] (by rfl) (by simp [go_sem, V.under, DC.under]) (okT_hp ht') (by simp [go_sem]) (by rfl), by simp only; omega, by simp only; omega, r3.down (by omega) r2 (by omega)⟩
        · simp +contextual only [go_sem, Nat.reduceAdd, Nat.reduceLeDiff, Nat.reduceSub, Nat.reduceLT, Int.reduceLT, Int.reduceLE, Int.reduceEq, reduceCtorEq]
          have e : q = i := by omega
          subst e
          have hj := merge_right (rk := rank) (by omega) s1 p1 p3 p4 p5 r3
          refine endF_front (h1 := hp n c t) (by rfl) (by rfl) ?_ (okT_hp ht) ⟨rfl, c, hj.1, hj.2, rfl⟩
          simp [go_sem]
    · -- the middle
      obtain ⟨x, hx⟩ : ∃ x, x = (a + b) / 2 := ⟨_, rfl⟩
      simp +contextual only [go_sem, Nat.reduceAdd, Nat.reduceLeDiff, Nat.reduceSub, Nat.reduceLT, Int.reduceLT, Int.reduceLE, Int.reduceEq, reduceCtorEq, wrap_addN (show a + b ≤ 4294967296 by omega), w_half (show a + b ≤ 4294967296 by omega), ← hx, wrap_addN (show x + m ≤ 4294967296 by omega)]
      obtain ⟨lo0, hi0, hlh⟩ : ∃ lo0 hi0 : Nat, (x < m ∧ lo0 = x + m - b ∧ hi0 = x) ∨ (m ≤ x ∧ lo0 = a ∧ hi0 = m) := by
        by_cases e : x < m
        · exact ⟨_, _, .inl ⟨e, rfl, rfl⟩⟩
        · exact ⟨_, _, .inr ⟨by omega, rfl, rfl⟩⟩
      refine brB_dec (fun hq3 => ?_) (fun hq3 => ?_)
      case' refine_1 => simp +contextual only [go_sem, Nat.reduceAdd, Nat.reduceLeDiff, Nat.reduceSub, Nat.reduceLT, Int.reduceLT, Int.reduceLE, Int.reduceEq, reduceCtorEq, wrap_subN (show b ≤ x + m by omega) (show x + m ≤ 4294967296 by omega), wrap_pred (show 1 ≤ x + m by omega) (show x + m ≤ 4294967296 by omega)]
      case' refine_2 => simp +contextual only [go_sem, Nat.reduceAdd, Nat.reduceLeDiff, Nat.reduceSub, Nat.reduceLT, Int.reduceLT, Int.reduceLE, Int.reduceEq, reduceCtorEq, wrap_pred (show 1 ≤ x + m by omega) (show x + m ≤ 4294967296 by omega)]
      all_goals refine xK_loop (fun y : Nat × Nat => ⟨[(1, (true, vI a)), (2, (true, vI m)), (3, (true, vI b)), (4, (true, .s (.ptr (t.length + 2) 0))), (16, (true, vI x)), (17, (true, vI (x + m : Nat))), (18, (true, vI y.1)), (19, (true, vI y.2)), (20, (true, vI (x + m - 1 : Nat)))], hp n l (t ++ [bxD G E n])⟩)
                    (fun y => lo0 ≤ y.1 ∧ y.1 ≤ y.2 ∧ y.2 ≤ hi0 ∧ (y.1 = lo0 ∨ rank (aK l (y.1 - 1)) ≤ rank (aK l (x + m - y.1))) ∧ (y.2 = hi0 ∨ rank (aK l (x + m - y.2 - 1)) < rank (aK l y.2))) (fun y => y.2 - y.1) (lo0, hi0)
                    (lw_keep [1, 2, 3, 4, 16, 17, 18, 19, 20] (by rfl) (by simp [go_sem, V.under, DC.under]) (okT_hp ht') (by simp [go_sem]) (by
                      rcases hlh with ⟨e1, e2, e3⟩ | ⟨e1, e2, e3⟩ <;> first | omega | (rw [e2, e3]; rfl))) ⟨Nat.le_refl _, by simp only; omega, Nat.le_refl _, .inl rfl, .inl rfl⟩ ?_
      all_goals
        rintro ⟨i, j⟩ ⟨p1, p2, p3, p4, p5⟩
        simp only at p1 p2 p3 p4 p5
        simp +contextual only [go_sem, Nat.reduceAdd, Nat.reduceLeDiff, Nat.reduceSub, Nat.reduceLT, Int.reduceLT, Int.reduceLE, Int.reduceEq, reduceCtorEq]
        refine brB_dec (fun hlt => ?_) (fun hlt => ?_)
        · have b1 : (i + j) / 2 < n ∧ (i + j) / 2 ≤ x + m - 1 ∧ x + m - 1 - (i + j) / 2 < n := by
            rcases hlh with ⟨e1, e2, e3⟩ | ⟨e1, e2, e3⟩ <;> omega
          simp +contextual only [go_sem, Nat.reduceAdd, Nat.reduceLeDiff, Nat.reduceSub, Nat.reduceLT, Int.reduceLT, Int.reduceLE, Int.reduceEq, reduceCtorEq, wrap_addN (show i + j ≤ 4294967296 by omega), w_half (show i + j ≤ 4294967296 by omega), wrap_subN b1.2.1 (show x + m - 1 ≤ 4294967296 by omega)]
          refine caR_own (s_less (n := n) (l := l) (t := t ++ [bxD G E n]) hl ht' (i := x + m - 1 - (i + j) / 2) (j := (i + j) / 2) b1.2.2 b1.1) ?_
          rintro d h' ⟨rfl, rfl⟩
          simp +contextual only [go_sem, Nat.reduceAdd, Nat.reduceLeDiff, Nat.reduceSub, Nat.reduceLT, Int.reduceLT, Int.reduceLE, Int.reduceEq, reduceCtorEq]
          refine brB_dec (fun hls => ?_) (fun hls => ?_)
          · simp +contextual only [go_sem, Nat.reduceAdd, Nat.reduceLeDiff, Nat.reduceSub, Nat.reduceLT, Int.reduceLT, Int.reduceLE, Int.reduceEq, reduceCtorEq]
            refine ⟨(i, (i + j) / 2), by simp only; omega, lw_keep [1, 2, 3, 4, 16, 17, 18, 19, 20] (by rfl) (by simp [go_sem, V.under, DC.under]) (okT_hp ht') (by simp [go_sem]) (by rfl), p1, by simp only; omega, by simp only; omega, p4, .inr ?_⟩
            show rank (aK l (x + m - (i + j) / 2 - 1)) < _
            rw [show x + m - (i + j) / 2 - 1 = x + m - 1 - (i + j) / 2 by omega]
            exact hls
          · simp +contextual only [go_sem, Nat.reduceAdd, Nat.reduceLeDiff, Nat.reduceSub, Nat.reduceLT, Int.reduceLT, Int.reduceLE, Int.reduceEq, reduceCtorEq, wrap_succ (show (i + j) / 2 < 4294967296 by omega)]
            refine ⟨((i + j) / 2 + 1, j), by simp only; omega, lw_keep [1, 2, 3, 4, 16, 17, 18, 19, 20] (by rfl) (by simp [go_sem, V.under, DC.under]) (okT_hp ht') (by simp [go_sem]) (by rfl), by simp only; omega, by simp only; omega, p3, .inr ?_, p5⟩
            show rank (aK l ((i + j) / 2 + 1 - 1)) ≤ rank (aK l (x + m - ((i + j) / 2 + 1)))
            rw [show x + m - ((i + j) / 2 + 1) = x + m - 1 - (i + j) / 2 by omega, show (i + j) / 2 + 1 - 1 = (i + j) / 2 by omega]
            omega
        · have hij : i = j := by omega
          subst hij
          subst hx
          have hS : Sym rank l a m b i := by
            refine ⟨h1, h2, by omega, s1, s2, ?_, ?_, ?_, ?_, ?_, ?_⟩
            · rcases hlh with ⟨e1, e2, e3⟩ | ⟨e1, e2, e3⟩ <;> omega
            · rcases hlh with ⟨e1, e2, e3⟩ | ⟨e1, e2, e3⟩ <;> omega
            · rcases hlh with ⟨e1, e2, e3⟩ | ⟨e1, e2, e3⟩ <;> omega
            · rcases hlh with ⟨e1, e2, e3⟩ | ⟨e1, e2, e3⟩ <;> omega
            · rcases p4 with p4 | p4
              · rcases hlh with ⟨e1, e2, e3⟩ | ⟨e1, e2, e3⟩ <;> omega
              · exact .inr (.inr p4)
            · rcases p5 with p5 | p5
              · rcases hlh with ⟨e1, e2, e3⟩ | ⟨e1, e2, e3⟩ <;> omega
              · exact .inr (.inr p5)
          have as := hS.as
          have sm := hS.sm
          have sb := hS.sb
          simp +contextual only [go_sem, Nat.reduceAdd, Nat.reduceLeDiff, Nat.reduceSub, Nat.reduceLT, Int.reduceLT, Int.reduceLE, Int.reduceEq, reduceCtorEq, wrap_subN (show i ≤ (a + b) / 2 + m by omega) (show (a + b) / 2 + m ≤ 4294967296 by omega)]
          refine brB_split (fun hr => ?_) (fun hr => ?_)
          · simp only [Bool.and_eq_true, decide_eq_true_eq] at hr
            simp +contextual only [go_sem, Nat.reduceAdd, Nat.reduceLeDiff, Nat.reduceSub, Nat.reduceLT, Int.reduceLT, Int.reduceLE, Int.reduceEq, reduceCtorEq]
            refine caR_own (s_rotate (n := n) (l := l) (t := t ++ [bxD G E n]) hl (by omega) ht' (a := i) (m := m) (b := (a + b) / 2 + m - i) (by omega) (by omega) (by omega)) ?_
            rintro d h' ⟨rfl, c, hc, rfl⟩
            refine tail_left IH hk hl ht hS hc ⟨?_, ?_, ?_, ?_, ?_, ?_, ?_⟩
            all_goals simp only [go_sem]
          · simp only [Bool.and_eq_false_iff, decide_eq_false_iff_not] at hr
            refine tail_left IH hk hl ht hS (Rot.same (by omega)) ⟨?_, ?_, ?_, ?_, ?_, ?_, ?_⟩
            all_goals simp only [go_sem]
theorem s_symMerge {n : Nat} (hn : n ≤ 1073741823) : ∀ k, SymSpec T G E n k
  | 0 => fun l t a m b hk hl ht h1 h2 => absurd hk (by omega)
  | k + 1 => sym_step hn (s_symMerge hn k)
end Go.Lx

/- The stable sort. -/
set_option linter.unusedVariables false
set_option linter.unusedSimpArgs false
set_option maxRecDepth 100000
set_option maxHeartbeats 1000000
namespace Go.Lx
variable {T G E : Nat}

/-- sorted in blocks, from a on -/
inductive Bl (rk : Key → Nat) (bs n : Nat) (c : List Key) : Nat → Prop where
  | nil {a : Nat} (h : n ≤ a) : Bl rk bs n c a
  | cons {a : Nat} (h : SortedOn rk c a (min (a + bs) n)) (t : Bl rk bs n c (a + bs)) : Bl rk bs n c a
/-- .. up to a -/
inductive Pre (rk : Key → Nat) (bs : Nat) (c : List Key) : Nat → Prop where
  | nil : Pre rk bs c 0
  | snoc {a : Nat} (t : Pre rk bs c a) (h : SortedOn rk c a (a + bs)) : Pre rk bs c (a + bs)
theorem SortedOn.cong {rk : Key → Nat} {c c' : List Key} {a b : Nat} (h : SortedOn rk c a b) (e : ∀ k, a ≤ k → k < b → aK c' k = aK c k) : SortedOn rk c' a b := by
  intro p q h1 h2 h3
  rw [e p h1 (by omega), e q (by omega) h3]
  exact h p q h1 h2 h3
theorem Bl.cong {rk : Key → Nat} {bs n : Nat} {c c' : List Key} {a : Nat} (h : Bl rk bs n c a) (e : ∀ k, a ≤ k → aK c' k = aK c k) : Bl rk bs n c' a := by
  induction h with
  | nil h => exact .nil h
  | cons h t ih => exact .cons (h.cong fun k h1 _ => e k h1) (ih fun k hk => e k (by omega))
theorem Pre.cong {rk : Key → Nat} {bs : Nat} {c c' : List Key} {a : Nat} (h : Pre rk bs c a) (e : ∀ k, k < a → aK c' k = aK c k) : Pre rk bs c' a := by
  induction h with
  | nil => exact .nil
  | snoc t h ih => exact .snoc (ih fun k hk => e k (by omega)) (h.cong fun k _ h2 => e k h2)
theorem Pre.all {rk : Key → Nat} {bs n : Nat} {c : List Key} {a : Nat} (h : Pre rk bs c a) (t : Bl rk bs n c a) : Bl rk bs n c 0 := by
  induction h with
  | nil => exact t
  | snoc p h ih => exact ih (.cons (h.sub (Nat.le_refl _) (by omega)) t)
theorem SortedOn.none {rk : Key → Nat} {c : List Key} {a b : Nat} (h : b ≤ a + 1) : SortedOn rk c a b := fun p q h1 h2 h3 => by omega
theorem Bl.last {rk : Key → Nat} {bs n : Nat} {c : List Key} {a : Nat} (h : n ≤ a + bs) (t : SortedOn rk c a n) : Bl rk bs n c a := .cons (t.sub (Nat.le_refl _) (by omega)) (.nil h)
theorem Bl.head {rk : Key → Nat} {bs n : Nat} {c : List Key} {a : Nat} (h : Bl rk bs n c a) : SortedOn rk c a (min (a + bs) n) := by
  cases h with
  | nil h => exact .none (by omega)
  | cons h t => exact h
theorem Bl.tail {rk : Key → Nat} {bs n : Nat} {c : List Key} {a : Nat} (h : Bl rk bs n c a) : Bl rk bs n c (a + bs) := by
  cases h with
  | nil h => exact .nil (by omega)
  | cons h t => exact t
theorem wrap_2mul {x : Nat} (h : x ≤ 2147483647) : IntKind.i64.wrap (2 * (x : Int)) = ((2 * x : Nat) : Int) := by
  rw [wrap_i64 ⟨by omega, by omega⟩]; omega
theorem wrap_mul2 {x : Nat} (h : x ≤ 2147483647) : IntKind.i64.wrap ((x : Int) * 2) = ((2 * x : Nat) : Int) := by
  rw [wrap_i64 ⟨by omega, by omega⟩]; omega

theorem s_stable {n : Nat} {l : List Key} {t : List Root} (hl : l.length = n) (hn : n ≤ 1073741823) (ht : okT t) :
    Does (Ev T G E) c_sort_stable_func [vData G E n, vI n] (hp n l t) (fun d h' => d = .tup [] ∧ ∃ c, Mvd rank 0 n l c ∧ SortedOn rank c 0 n ∧ h' = hp n c t) := by
  have ht' := okT_data (G := G) (E := E) (n := n) ht
  refine does_start rfl ?_
  simp +contextual only [go_sem, Nat.reduceAdd, Nat.reduceLeDiff, Nat.reduceSub, Nat.reduceLT, Int.reduceLT, Int.reduceLE, Int.reduceEq, reduceCtorEq]
  refine xK_loop (fun x : Nat × List Key => ⟨[(1, (true, vI n)), (2, (true, .s (.ptr (t.length + 2) 0))), (4, (true, vI (20 : Nat))), (5, (true, vI x.1)), (6, (true, vI (x.1 + 20 : Nat)))], hp n x.2 (t ++ [bxD G E n])⟩)
    (fun x => x.1 ≤ n ∧ Mvd rank 0 n l x.2 ∧ Pre rank 20 x.2 x.1) (fun x => n - x.1) (0, l)
    (lw_keep [1, 2, 4, 5, 6] (by rfl) (by simp [go_sem, V.under, DC.under]) (okT_hp ht') (by simp [go_sem]) (by rfl)) ⟨Nat.zero_le _, Mvd.refl _ _ _, .nil⟩ ?_
  rintro ⟨a, c⟩ ⟨p1, p2, p3⟩
  simp only at p1 p2 p3
  have hcl : c.length = n := by rw [p2.len, hl]
  simp +contextual only [go_sem, Nat.reduceAdd, Nat.reduceLeDiff, Nat.reduceSub, Nat.reduceLT, Int.reduceLT, Int.reduceLE, Int.reduceEq, reduceCtorEq]
  refine brB_dec (fun hlt => ?_) (fun hlt => ?_)
  · simp +contextual only [go_sem, Nat.reduceAdd, Nat.reduceLeDiff, Nat.reduceSub, Nat.reduceLT, Int.reduceLT, Int.reduceLE, Int.reduceEq, reduceCtorEq]
    refine caR_own (s_insertionSort (n := n) (l := c) (t := t ++ [bxD G E n]) hcl (by omega) ht' (a := a) (b := a + 20) (by omega) (by omega)) ?_
    rintro d h' ⟨rfl, c', q1, q2, rfl⟩
    simp +contextual only [go_sem, Nat.reduceAdd, Nat.reduceLeDiff, Nat.reduceSub, Nat.reduceLT, Int.reduceLT, Int.reduceLE, Int.reduceEq, reduceCtorEq, wrap_addN (show a + 20 + 20 ≤ 4294967296 by omega)]
    refine ⟨(a + 20, c'), by simp only; omega, lw_keep [1, 2, 4, 5, 6] (by rfl) (by simp [go_sem, V.under, DC.under]) (okT_hp ht') (by simp [go_sem]) (by rfl), by simp only; omega, p2.trans (q1.widen (by omega) (by omega)), ?_⟩
    exact .snoc (p3.cong fun k hk => q1.out k (by omega)) q2
  · simp +contextual only [go_sem, Nat.reduceAdd, Nat.reduceLeDiff, Nat.reduceSub, Nat.reduceLT, Int.reduceLT, Int.reduceLE, Int.reduceEq, reduceCtorEq]
    refine caR_own (s_insertionSort (n := n) (l := c) (t := t ++ [bxD G E n]) hcl (by omega) ht' (a := a) (b := n) (by omega) (by omega)) ?_
    rintro d h' ⟨rfl, c', q1, q2, rfl⟩
    simp +contextual only [go_sem, Nat.reduceAdd, Nat.reduceLeDiff, Nat.reduceSub, Nat.reduceLT, Int.reduceLT, Int.reduceLE, Int.reduceEq, reduceCtorEq]
    have hB : Bl rank 20 n c' 0 := (p3.cong (c' := c') fun k hk => q1.out k (by omega)).all (.last (by omega) q2)
    have hM := p2.trans (q1.widen (Nat.zero_le _) (Nat.le_refl _))
    clear p1 p2 p3 hlt q1 q2
    refine xK_loop (fun x : Nat × List Key => ⟨[(1, (true, vI n)), (2, (true, .s (.ptr (t.length + 2) 0))), (4, (true, vI x.1))], hp n x.2 (t ++ [bxD G E n])⟩)
      (fun x => 20 ≤ x.1 ∧ Mvd rank 0 n l x.2 ∧ Bl rank x.1 n x.2 0) (fun x => n - x.1) (20, c')
      (lw_keep [1, 2, 4] (by rfl) (by simp [go_sem, V.under, DC.under]) (okT_hp ht') (by simp [go_sem]) (by rfl)) ⟨Nat.le_refl _, hM, hB⟩ ?_
    rintro ⟨bs, c⟩ ⟨p1, p2, p3⟩
    simp only at p1 p2 p3
    have hcl : c.length = n := by rw [p2.len, hl]
    simp +contextual only [go_sem, Nat.reduceAdd, Nat.reduceLeDiff, Nat.reduceSub, Nat.reduceLT, Int.reduceLT, Int.reduceLE, Int.reduceEq, reduceCtorEq]
    refine brB_dec (fun hlt => ?_) (fun hlt => ?_)
    · simp +contextual only [go_sem, Nat.reduceAdd, Nat.reduceLeDiff, Nat.reduceSub, Nat.reduceLT, Int.reduceLT, Int.reduceLE, Int.reduceEq, reduceCtorEq, wrap_2mul (show bs ≤ 2147483647 by omega)]
      refine xK_loop (fun x : Nat × List Key => ⟨[(1, (true, vI n)), (2, (true, .s (.ptr (t.length + 2) 0))), (4, (true, vI bs)), (5, (true, vI x.1)), (6, (true, vI (x.1 + 2 * bs : Nat)))], hp n x.2 (t ++ [bxD G E n])⟩)
        (fun x => x.1 ≤ n ∧ Mvd rank 0 n l x.2 ∧ Pre rank (2 * bs) x.2 x.1 ∧ Bl rank bs n x.2 x.1) (fun x => n - x.1) (0, c)
        (lw_keep [1, 2, 4, 5, 6] (by rfl) (by simp [go_sem, V.under, DC.under]) (okT_hp ht') (by simp [go_sem]) (by simp only [Nat.zero_add]; rfl)) ⟨Nat.zero_le _, p2, .nil, p3⟩ ?_
      rintro ⟨a, c⟩ ⟨r1, r2, r3, r4⟩
      simp only at r1 r2 r3 r4
      have hcl : c.length = n := by rw [r2.len, hl]
      have k1 := r4.head
      have k2 := r4.tail.head
      simp +contextual only [go_sem, Nat.reduceAdd, Nat.reduceLeDiff, Nat.reduceSub, Nat.reduceLT, Int.reduceLT, Int.reduceLE, Int.reduceEq, reduceCtorEq]
      refine brB_dec (fun hlt2 => ?_) (fun hlt2 => ?_)
      · simp +contextual only [go_sem, Nat.reduceAdd, Nat.reduceLeDiff, Nat.reduceSub, Nat.reduceLT, Int.reduceLT, Int.reduceLE, Int.reduceEq, reduceCtorEq, wrap_addN (show a + bs ≤ 4294967296 by omega)]
        refine caR_own (s_symMerge hn _ c (t ++ [bxD G E n]) a (a + bs) (a + 2 * bs) (Nat.le_refl _) hcl ht' (by omega) (by omega) (by omega) (k1.sub (Nat.le_refl _) (by omega)) (k2.sub (Nat.le_refl _) (by omega))) ?_
        rintro d h' ⟨rfl, c', q1, q2, rfl⟩
        simp +contextual only [go_sem, Nat.reduceAdd, Nat.reduceLeDiff, Nat.reduceSub, Nat.reduceLT, Int.reduceLT, Int.reduceLE, Int.reduceEq, reduceCtorEq, wrap_2mul (show bs ≤ 2147483647 by omega), wrap_addN (show a + 2 * bs + 2 * bs ≤ 4294967296 by omega)]
        refine ⟨(a + 2 * bs, c'), by simp only; omega, lw_keep [1, 2, 4, 5, 6] (by rfl) (by simp [go_sem, V.under, DC.under]) (okT_hp ht') (by simp [go_sem]) (by rfl), by simp only; omega, r2.trans (q1.widen (by omega) (by omega)), ?_, ?_⟩
        · exact .snoc (r3.cong fun k hk => q1.out k (by omega)) q2
        · have := r4.tail.tail
          rw [show a + bs + bs = a + 2 * bs by omega] at this
          exact this.cong fun k hk => q1.out k (by omega)
      · simp +contextual only [go_sem, Nat.reduceAdd, Nat.reduceLeDiff, Nat.reduceSub, Nat.reduceLT, Int.reduceLT, Int.reduceLE, Int.reduceEq, reduceCtorEq, wrap_addN (show a + bs ≤ 4294967296 by omega)]
        refine brB_dec (fun hlt3 => ?_) (fun hlt3 => ?_)
        · simp +contextual only [go_sem, Nat.reduceAdd, Nat.reduceLeDiff, Nat.reduceSub, Nat.reduceLT, Int.reduceLT, Int.reduceLE, Int.reduceEq, reduceCtorEq]
          refine caR_own (s_symMerge hn _ c (t ++ [bxD G E n]) a (a + bs) n (Nat.le_refl _) hcl ht' (by omega) (by omega) (by omega) (k1.sub (Nat.le_refl _) (by omega)) (k2.sub (Nat.le_refl _) (by omega))) ?_
          rintro d h' ⟨rfl, c', q1, q2, rfl⟩
          simp +contextual only [go_sem, Nat.reduceAdd, Nat.reduceLeDiff, Nat.reduceSub, Nat.reduceLT, Int.reduceLT, Int.reduceLE, Int.reduceEq, reduceCtorEq, wrap_mul2 (show bs ≤ 2147483647 by omega)]
          exact ⟨(2 * bs, c'), by simp only; omega, lw_keep [1, 2, 4] (by rfl) (by simp [go_sem, V.under, DC.under]) (okT_hp ht') (by simp [go_sem]) (by rfl), by simp only; omega, r2.trans (q1.widen (Nat.zero_le _) (Nat.le_refl _)),
            (r3.cong (c' := c') fun k hk => q1.out k (by omega)).all (.last (by omega) q2)⟩
        · simp +contextual only [go_sem, Nat.reduceAdd, Nat.reduceLeDiff, Nat.reduceSub, Nat.reduceLT, Int.reduceLT, Int.reduceLE, Int.reduceEq, reduceCtorEq, wrap_mul2 (show bs ≤ 2147483647 by omega)]
          exact ⟨(2 * bs, c), by simp only; omega, lw_keep [1, 2, 4] (by rfl) (by simp [go_sem, V.under, DC.under]) (okT_hp ht') (by simp [go_sem]) (by rfl), by simp only; omega, r2, r3.all (.last (by omega) (k1.sub (Nat.le_refl _) (by omega)))⟩
    · simp +contextual only [go_sem, Nat.reduceAdd, Nat.reduceLeDiff, Nat.reduceSub, Nat.reduceLT, Int.reduceLT, Int.reduceLE, Int.reduceEq, reduceCtorEq]
      refine endF_front (h1 := hp n c t) (by rfl) (by rfl) ?_ (okT_hp ht) ⟨rfl, c, p2, p3.head.sub (Nat.le_refl _) (by omega), rfl⟩
      simp [go_sem]
end Go.Lx

/- Keys put in order. -/
set_option linter.unusedVariables false
set_option linter.unusedSimpArgs false
set_option maxRecDepth 100000
set_option maxHeartbeats 1000000
namespace Go.Lx
variable {T G E : Nat}

theorem s_valueOf {h : List Root} {d : DC} : Does (Ev T G E) 50 [.s (.ifc T d)] h (fun v h' => v = .m [.raw (hdl G T), .ptr h.length 0, .c (.int .u64 151)] ∧ h' = h ++ [.boxd [d]]) := Does.prim ⟨rfl, rfl, rfl⟩
theorem s_valueLen {h : List Root} {id id' g sz n : Nat} (hr : h[id]? = some (.boxd [.ref id' g sz 0 n])) : Does (Ev T G E) 184 [.m [.raw (hdl G T), .ptr id 0, .c (.int .u64 151)]] h (fun v h' => v = vI n ∧ h' = h) := Does.prim ⟨rfl, _, n, hr, rfl, rfl, rfl⟩
theorem s_swapper {h : List Root} {n : Nat} : Does (Ev T G E) 185 [.s (.ifc T (.ref 0 0 2 0 n))] h (fun v h' => v = .s (cSwap G E n) ∧ h' = h) := Does.prim ⟨rfl, n, rfl, rfl, rfl⟩
theorem dcut33 {a b c : DC} : dcut [a, b, c] 0 3 = [a, b, c] := rfl
attribute [go_sem] dcut33

theorem app2a {t : List Root} {a b : Root} : (t ++ [a, b])[t.length]? = some a := by simp
theorem app2b {t : List Root} {a b : Root} : (t ++ [a, b])[t.length + 1]? = some b := by simp
theorem app2set {t : List Root} {a b c : Root} : (t ++ [a, b]).set (t.length + 1) c = t ++ [a, c] := by simp
theorem st_m3 {x y z : DC} {v : Value} {id : Nat} {c : C} : Root.st (.boxd [x, y, z]) none 0 3 (.m [.raw v, .ptr id 0, .c c]) = some (.boxd [.raw v, .ptr id 0, .c c]) := rfl
theorem fillD_f2 {f f' : Nat} {a b a' b' : List DC} : fillD [.c (.nil .func), .c (.nil .func)] [(0, 1, .s (.clo f a b)), (1, 1, .s (.clo f' a' b'))] = some [.clo f a b, .clo f' a' b'] := rfl
attribute [go_sem] fillD_f2 app2a app2b app2set st_m3 List.set_cons_succ

theorem s_SliceStable {n : Nat} {l : List Key} {t : List Root} (hl : l.length = n) (hn : n ≤ 1073741823) (ht : okT t) :
    Does (Ev T G E) c_sort_SliceStable [.s (.ifc T (.ref 0 0 2 0 n)), .s cLess] (hp n l t) (fun d h' => d = .tup [] ∧ ∃ c, Mvd rank 0 n l c ∧ SortedOn rank c 0 n ∧ h' = hp n c t) := by
  have ht' : okT (t ++ [.boxd [.ref 0 0 2 0 n], .boxd [.raw (hdl G T), .ptr (t.length + 2) 0, .c (.int .u64 151)]]) := by
    have := okT_app (okT_app ht (r := .boxd [.ref 0 0 2 0 n]) (by simp [Root.under, DC.under])) (r := .boxd [.raw (hdl G T), .ptr (t.length + 2) 0, .c (.int .u64 151)]) (by simp [Root.under, DC.under])
    simpa using this
  refine does_start rfl ?_
  simp +contextual only [go_sem, Nat.reduceAdd, Nat.reduceLeDiff, Nat.reduceSub, Nat.reduceLT, Int.reduceLT, Int.reduceLE, Int.reduceEq, reduceCtorEq]
  refine caR_own s_valueOf ?_
  rintro d h' ⟨rfl, rfl⟩
  simp +contextual only [go_sem, Nat.reduceAdd, Nat.reduceLeDiff, Nat.reduceSub, Nat.reduceLT, Int.reduceLT, Int.reduceLE, Int.reduceEq, reduceCtorEq]
  refine caR_own s_swapper ?_
  rintro d h' ⟨rfl, rfl⟩
  simp +contextual only [go_sem, Nat.reduceAdd, Nat.reduceLeDiff, Nat.reduceSub, Nat.reduceLT, Int.reduceLT, Int.reduceLE, Int.reduceEq, reduceCtorEq]
  refine caR_own (s_valueLen (id := t.length + 1 + 1) (id' := 0) (g := 0) (sz := 2) (n := n) ?_) ?_
  · simp only [go_sem]
  rintro d h' ⟨rfl, rfl⟩
  simp +contextual only [go_sem, Nat.reduceAdd, Nat.reduceLeDiff, Nat.reduceSub, Nat.reduceLT, Int.reduceLT, Int.reduceLE, Int.reduceEq, reduceCtorEq]
  refine caR_own (s_stable (n := n) (l := l) (t := t ++ [.boxd [.ref 0 0 2 0 n], .boxd [.raw (hdl G T), .ptr (t.length + 2) 0, .c (.int .u64 151)]]) hl hn ht') ?_
  rintro d h' ⟨rfl, c, h1, h2, rfl⟩
  simp +contextual only [go_sem, Nat.reduceAdd, Nat.reduceLeDiff, Nat.reduceSub, Nat.reduceLT, Int.reduceLT, Int.reduceLE, Int.reduceEq, reduceCtorEq]
  refine endF_front (h1 := hp n c t) (by rfl) (by rfl) ?_ (okT_hp ht) ⟨rfl, c, h1, h2, rfl⟩
  simp [go_sem]
end Go.Lx

/- The keys' order, told plainly; what Order answers. -/
set_option linter.unusedVariables false
set_option linter.unusedSimpArgs false
set_option maxRecDepth 100000
set_option maxHeartbeats 1000000
namespace Go.Lx
variable {T G E : Nat}

/-- the keys of each rank, one rank after the other -/
def ordN (l : List Key) (n : Nat) : List Key := (List.range n).flatMap fun r => l.filter fun k => rank k == r
def ordL (l : List Key) : List Key := ordN l 1026
theorem rank_lim (k : Key) : rank k < 1026 := by
  unfold rank
  cases h : keyIdx k with
  | some n => have := idx_small h; simp only; omega
  | none => simp only; split <;> omega
theorem ordN_succ {l : List Key} {n : Nat} : ordN l (n + 1) = ordN l n ++ l.filter fun k => rank k == n := by
  unfold ordN
  rw [List.range_succ, List.flatMap_append]
  simp
theorem ordN_eqv {l m : List Key} (h : Eqv rank l m) : ∀ n, ordN m n = ordN l n
  | 0 => rfl
  | n + 1 => by rw [ordN_succ, ordN_succ, ordN_eqv h n, h n]
theorem sorted_pair {c : List Key} (h : SortedOn rank c 0 c.length) : c.Pairwise fun a b => rank a ≤ rank b := by
  rw [List.pairwise_iff_getElem]
  intro i j hi hj hij
  have := h i j (Nat.zero_le _) hij hj
  simpa [aK, hi, hj] using this
theorem pair_ord {c : List Key} (h : c.Pairwise fun a b => rank a ≤ rank b) : ∀ n, ordN c n = c.filter fun k => decide (rank k < n)
  | 0 => by
    simp [ordN]
  | n + 1 => by
    rw [ordN_succ, pair_ord h n]
    clear pair_ord
    induction c with
    | nil => rfl
    | cons a c ih =>
      rw [List.pairwise_cons] at h
      have ih := ih h.2
      by_cases h1 : rank a < n
      · rw [List.filter_cons, if_pos (by simpa using h1), List.filter_cons (p := fun k => rank k == n), if_neg (by simp; omega), List.filter_cons (p := fun k => decide (rank k < n + 1)), if_pos (by simp; omega), List.cons_append, ih]
      · by_cases h2 : rank a = n
        · have h3 : c.filter (fun k => decide (rank k < n)) = [] := by
            rw [List.filter_eq_nil_iff]
            intro k hk
            have := h.1 k hk
            simp; omega
          rw [h3, List.nil_append] at ih
          rw [List.filter_cons, if_neg (by simpa using h1), h3, List.filter_cons (p := fun k => rank k == n), if_pos (by simpa using h2), List.filter_cons (p := fun k => decide (rank k < n + 1)), if_pos (by simp; omega), List.nil_append, ih]
        · rw [List.filter_cons, if_neg (by simpa using h1), List.filter_cons (p := fun k => rank k == n), if_neg (by simpa using h2), List.filter_cons (p := fun k => decide (rank k < n + 1)), if_neg (by simp; omega), ih]
theorem ord_unique {l c : List Key} (h : Mvd rank 0 l.length l c) (hs : SortedOn rank c 0 l.length) : c = ordL l := by
  rw [← h.len] at hs
  have h1 := pair_ord (sorted_pair hs) 1026
  rw [ordN_eqv h.eqv] at h1
  unfold ordL
  rw [h1, eq_comm, List.filter_eq_self]
  intro k _
  simpa using rank_lim k

theorem st_ref {x : C} {id g sz off n : Nat} : Root.st (.boxu [x]) none 0 1 (.s (.ref id g sz off n)) = some (.boxd [.ref id g sz off n]) := rfl
theorem st_refd {x : DC} {id g sz off n : Nat} : Root.st (.boxd [x]) none 0 1 (.s (.ref id g sz off n)) = some (.boxd [.ref id g sz off n]) := rfl
theorem mapM_dc0 : ([] : List V).mapM V.dc? = some [] := rfl
theorem mapM_dc1 {d : DC} : [V.s d].mapM V.dc? = some [d] := rfl
attribute [go_sem] st_ref st_refd mapM_dc0 mapM_dc1
theorem s_key_Order {l : List Key} (hn : l.length ≤ 1073741823) :
    Does (Ev T G E) c_key_Order [vKs l] [] (fun v h' => v = .s (.ref 0 0 2 0 l.length) ∧ h' = [.row 0 2 ((ordL l).map encKey)] ∧ (ordL l).length = l.length) := by
  refine does_start rfl ?_
  simp +contextual only [go_sem, Nat.reduceAdd, Nat.reduceLeDiff, Nat.reduceSub, Nat.reduceLT, Int.reduceLT, Int.reduceLE, Int.reduceEq, reduceCtorEq, show 0 + l.length ≤ 4294967296 by omega, show l.length ≤ 4294967296 by omega]
  refine caR_own (s_SliceStable (n := l.length) (l := l) (t := []) rfl (by omega) (by rfl)) ?_
  rintro d h' ⟨rfl, c, h1, h2, rfl⟩
  simp +contextual only [go_sem, Nat.reduceAdd, Nat.reduceLeDiff, Nat.reduceSub, Nat.reduceLT, Int.reduceLT, Int.reduceLE, Int.reduceEq, reduceCtorEq]
  have hc := ord_unique h1 h2
  subst hc
  refine endF_gc (v := .s (.ref 0 0 2 0 l.length)) (s0 := ⟨[(2, (true, .s (.ref 0 0 2 0 l.length)))], [.row 0 2 ((ordL l).map encKey)]⟩) [2] [0] (by rfl) (by rfl) (by rfl) ?_
  exact ⟨rfl, rfl, h1.len⟩
theorem flat_K {l : List Key} : ((l.map encKey).all fun u => u.all C.flat) = true := by
  simp only [List.all_map, List.all_eq_true]
  intro p _
  rfl
theorem plain_rowK {g sz : Nat} {l : List Key} : [Root.row g sz (l.map encKey)].all Root.plain = true := by
  simp only [List.all_cons, List.all_nil, Bool.and_true, Root.plain]
  exact flat_K
end Go.Lx
