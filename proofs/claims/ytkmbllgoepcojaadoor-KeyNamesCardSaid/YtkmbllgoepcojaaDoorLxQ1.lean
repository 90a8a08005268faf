import Derived.Test.YtkmbllgoepcojaaDoorLxTy
import Derived.Test.YtkmbllgoepcojaaDoorLxS6
/- Stable sorting in place: what a step, a merge, a rotation comes to. No program in sight. -/
set_option linter.unusedVariables false
set_option linter.unusedSimpArgs false
namespace Go.Lx
section
variable (rk : Key → Nat)

def aK (l : List Key) (i : Nat) : Key := (l[i]?).getD .zero
theorem aK_get {l : List Key} {i : Nat} (h : i < l.length) : l[i]? = some (aK l i) := by simp [aK, h]
theorem aK_ext {l m : List Key} (hl : l.length = m.length) (h : ∀ i, i < l.length → aK l i = aK m i) : l = m := by
  apply List.ext_getElem? 
  intro i
  by_cases hi : i < l.length
  · rw [aK_get hi, aK_get (by omega), h i hi]
  · rw [List.getElem?_eq_none (by omega), List.getElem?_eq_none (by omega)]

/-- of each rank the same keys in the same order -/
def Eqv (l m : List Key) : Prop := ∀ r, m.filter (fun k => rk k == r) = l.filter (fun k => rk k == r)
theorem Eqv.refl (l : List Key) : Eqv rk l l := fun _ => rfl
variable {rk}
theorem Eqv.trans {l m n : List Key} (h : Eqv rk l m) (k : Eqv rk m n) : Eqv rk l n := fun r => (k r).trans (h r)
/-- two pieces of different ranks change places -/
theorem Eqv.exch {P X Y S : List Key} (h : ∀ x, x ∈ X → ∀ y, y ∈ Y → rk x ≠ rk y) : Eqv rk (P ++ X ++ Y ++ S) (P ++ Y ++ X ++ S) := by
  intro r
  simp only [List.filter_append]
  have : X.filter (fun k => rk k == r) = [] ∨ Y.filter (fun k => rk k == r) = [] := by
    by_cases hx : X.filter (fun k => rk k == r) = []
    · exact .inl hx
    · right
      rw [List.filter_eq_nil_iff]
      intro y hy he
      obtain ⟨x, hx⟩ := List.exists_mem_of_ne_nil _ hx
      rw [List.mem_filter] at hx
      have e1 : rk x = r := by simpa using hx.2
      have e2 : rk y = r := by simpa using he
      exact h x hx.1 y hy (e1.trans e2.symm)
  rcases this with e | e <;> simp [e]

/-- sorted from a on, below b -/
def SortedOn (rk : Key → Nat) (l : List Key) (a b : Nat) : Prop := ∀ i j, a ≤ i → i < j → j < b → rk (aK l i) ≤ rk (aK l j)
/-- moved about within [a, b) -/
structure Mvd (rk : Key → Nat) (a b : Nat) (l m : List Key) : Prop where
  len : m.length = l.length
  eqv : Eqv rk l m
  out : ∀ k, ¬ (a ≤ k ∧ k < b) → aK m k = aK l k
  inn : ∀ k, a ≤ k → k < b → ∃ k', a ≤ k' ∧ k' < b ∧ aK m k = aK l k'
theorem Mvd.refl (a b : Nat) (l : List Key) : Mvd rk a b l l := ⟨rfl, Eqv.refl rk l, fun _ _ => rfl, fun k h1 h2 => ⟨k, h1, h2, rfl⟩⟩
theorem Mvd.trans {a b : Nat} {l m n : List Key} (h : Mvd rk a b l m) (k : Mvd rk a b m n) : Mvd rk a b l n where
  len := k.len.trans h.len
  eqv := h.eqv.trans k.eqv
  out i hi := (k.out i hi).trans (h.out i hi)
  inn i h1 h2 := by
    obtain ⟨j, h3, h4, e⟩ := k.inn i h1 h2
    obtain ⟨j', h5, h6, e'⟩ := h.inn j h3 h4
    exact ⟨j', h5, h6, e.trans e'⟩
theorem Mvd.widen {a b a' b' : Nat} {l m : List Key} (h : Mvd rk a b l m) (ha : a' ≤ a) (hb : b ≤ b') : Mvd rk a' b' l m where
  len := h.len
  eqv := h.eqv
  out i hi := h.out i (by omega)
  inn i h1 h2 := by
    by_cases hi : a ≤ i ∧ i < b
    · obtain ⟨j, h3, h4, e⟩ := h.inn i hi.1 hi.2
      exact ⟨j, by omega, by omega, e⟩
    · exact ⟨i, h1, h2, h.out i hi⟩

/-- two places' keys changed -/
def swK (l : List Key) (i j : Nat) : List Key := (l.set i (aK l j)).set j (aK l i)
theorem swK_len {l : List Key} {i j : Nat} : (swK l i j).length = l.length := by simp [swK]
theorem aK_set {l : List Key} {i k : Nat} {x : Key} (h : i < l.length) : aK (l.set i x) k = if k = i then x else aK l k := by
  unfold aK
  rw [List.getElem?_set]
  by_cases e : i = k
  · subst e; simp [h]
  · rw [if_neg e, if_neg (by omega)]
theorem aK_swK {l : List Key} {i j k : Nat} (hi : i < l.length) (hj : j < l.length) : aK (swK l i j) k = if k = j then aK l i else if k = i then aK l j else aK l k := by
  unfold swK
  rw [aK_set (by simpa using hj), aK_set hi]

theorem aK_append {P S : List Key} {k : Nat} : aK (P ++ S) k = if k < P.length then aK P k else aK S (k - P.length) := by
  unfold aK
  rw [List.getElem?_append]
  split <;> rfl
theorem aK_take {l : List Key} {n k : Nat} : aK (l.take n) k = if k < n then aK l k else .zero := by
  unfold aK
  rw [List.getElem?_take]
  split <;> simp_all
theorem aK_drop {l : List Key} {n k : Nat} : aK (l.drop n) k = aK l (n + k) := by
  unfold aK
  rw [List.getElem?_drop]
/-- a piece of a list -/
def pc (l : List Key) (a b : Nat) : List Key := (l.drop a).take (b - a)
theorem pc_len {l : List Key} {a b : Nat} (h : b ≤ l.length) : (pc l a b).length = b - a := by simp [pc]; omega
theorem mem_pc {l : List Key} {a b : Nat} {x : Key} (hb : b ≤ l.length) (h : x ∈ pc l a b) : ∃ i, a ≤ i ∧ i < b ∧ aK l i = x := by
  obtain ⟨i, hi, rfl⟩ := List.getElem_of_mem h
  have hl := pc_len (l := l) (a := a) hb
  refine ⟨a + i, by omega, by omega, ?_⟩
  have e : (pc l a b)[i]? = some (pc l a b)[i] := List.getElem?_eq_getElem hi
  have e2 : aK (pc l a b) i = (pc l a b)[i] := by unfold aK; rw [e]; rfl
  rw [← e2]
  unfold pc
  rw [aK_take, if_pos (by omega), aK_drop]

theorem aK_pc {l : List Key} {a b k : Nat} : aK (pc l a b) k = if k < b - a then aK l (a + k) else .zero := by
  unfold pc
  rw [aK_take, aK_drop]
theorem four_len {l : List Key} {a b p q p' q' : Nat} (h1 : a ≤ l.length) (h2 : q ≤ l.length) (h3 : q' ≤ l.length) (h4 : b ≤ l.length) : (l.take a ++ pc l p q ++ pc l p' q' ++ l.drop b).length = a + (q - p) + (q' - p') + (l.length - b) := by
  simp only [List.length_append, pc_len h2, pc_len h3, List.length_take, List.length_drop]; omega
theorem aK_four {l : List Key} {a b p q p' q' i : Nat} (h1 : a ≤ l.length) (h2 : q ≤ l.length) (h3 : q' ≤ l.length) :
    aK (l.take a ++ pc l p q ++ pc l p' q' ++ l.drop b) i = if i < a then aK l i else if i < a + (q - p) then aK l (p + (i - a)) else if i < a + (q - p) + (q' - p') then aK l (p' + (i - (a + (q - p)))) else aK l (b + (i - (a + (q - p) + (q' - p')))) := by
  have e : min a l.length = a := by omega
  simp only [aK_append, List.length_append, pc_len h2, pc_len h3, List.length_take, aK_take, aK_drop, aK_pc, e]
  by_cases g1 : i < a
  · rw [if_pos (show i < a + (q - p) + (q' - p') by omega), if_pos (show i < a + (q - p) by omega), if_pos g1, if_pos g1, if_pos g1]
  · by_cases g2 : i < a + (q - p)
    · rw [if_pos (show i < a + (q - p) + (q' - p') by omega), if_pos g2, if_neg g1, if_pos (show i - a < q - p by omega), if_neg g1, if_pos g2]
    · by_cases g3 : i < a + (q - p) + (q' - p')
      · rw [if_pos g3, if_neg g2, if_pos (show i - (a + (q - p)) < q' - p' by omega), if_neg g1, if_neg g2, if_pos g3]
      · rw [if_neg g3, if_neg g1, if_neg g2, if_neg g3]

/-- a rotation: the pieces [a, m) and [m, b) changed -/
theorem rot_mvd {l c : List Key} {a m b : Nat} (ha : a ≤ m) (hm : m ≤ b) (hb : b ≤ l.length) (hl : c.length = l.length)
    (h : ∀ k, aK c k = if a ≤ k ∧ k < b then (if k < a + (b - m) then aK l (k - a + m) else aK l (k - (b - m))) else aK l k)
    (hd : ∀ i, a ≤ i → i < m → ∀ j, m ≤ j → j < b → rk (aK l i) ≠ rk (aK l j)) : Mvd rk a b l c where
  len := hl
  eqv := by
    have e1 : l = l.take a ++ pc l a m ++ pc l m b ++ l.drop b := by
      apply aK_ext
      · rw [four_len (by omega) (by omega) (by omega) (by omega)]; omega
      · intro i hi
        rw [aK_four (by omega) (by omega) (by omega)]
        by_cases g1 : i < a
        · rw [if_pos g1]
        · by_cases g2 : i < m
          · rw [if_neg g1, if_pos (by omega)]; congr 1; omega
          · by_cases g3 : i < b
            · rw [if_neg g1, if_neg (by omega), if_pos (by omega)]; congr 1; omega
            · rw [if_neg g1, if_neg (by omega), if_neg (by omega)]; congr 1; omega
    have e2 : c = l.take a ++ pc l m b ++ pc l a m ++ l.drop b := by
      apply aK_ext
      · rw [four_len (by omega) (by omega) (by omega) (by omega)]; omega
      · intro i hi
        rw [h i, aK_four (by omega) (by omega) (by omega)]
        by_cases g1 : i < a
        · rw [if_neg (by omega), if_pos g1]
        · by_cases g2 : i < a + (b - m)
          · rw [if_pos (by omega), if_pos g2, if_neg g1, if_pos g2]; congr 1; omega
          · by_cases g3 : i < b
            · rw [if_pos (by omega), if_neg g2, if_neg g1, if_neg g2, if_pos (by omega)]; congr 1; omega
            · rw [if_neg (by omega), if_neg g1, if_neg g2, if_neg (by omega)]; congr 1; omega
    have := Eqv.exch (rk := rk) (P := l.take a) (X := pc l a m) (Y := pc l m b) (S := l.drop b) (fun x hx y hy => by
      obtain ⟨i, h1, h2, rfl⟩ := mem_pc (by omega) hx
      obtain ⟨j, h3, h4, rfl⟩ := mem_pc hb hy
      exact hd i h1 h2 j h3 h4)
    rw [← e1, ← e2] at this
    exact this
  out k hk := by rw [h k, if_neg hk]
  inn k h1 h2 := by
    rw [h k, if_pos ⟨h1, h2⟩]
    split
    · exact ⟨_, by omega, by omega, rfl⟩
    · exact ⟨_, by omega, by omega, rfl⟩
/-- neighbours of different ranks changed -/
theorem swap_mvd {l : List Key} {i : Nat} (hi : i + 1 < l.length) (hd : rk (aK l i) ≠ rk (aK l (i + 1))) : Mvd rk i (i + 2) l (swK l i (i + 1)) := by
  refine rot_mvd (m := i + 1) (by omega) (by omega) (by omega) swK_len (fun k => ?_) (fun p h1 h2 q h3 h4 => ?_)
  · rw [aK_swK (by omega) hi]
    by_cases e : k = i + 1
    · subst e
      rw [if_pos rfl, if_pos (by omega), if_neg (by omega)]
      congr 1; omega
    · rw [if_neg e]
      by_cases e' : k = i
      · subst e'
        rw [if_pos rfl, if_pos (by omega), if_pos (by omega)]
        congr 1; omega
      · rw [if_neg e', if_neg (by omega)]
  · have e1 : p = i := by omega
    have e2 : q = i + 1 := by omega
    subst e1 e2
    exact hd
theorem swK_comm {l : List Key} {i j : Nat} (hi : i < l.length) (hj : j < l.length) : swK l i j = swK l j i := by
  apply aK_ext
  · simp [swK]
  · intro k _
    rw [aK_swK hi hj, aK_swK hj hi]
    by_cases h1 : k = j <;> by_cases h2 : k = i <;> simp_all
end
end Go.Lx

/- Keys in their order: what the program's less tells. -/
set_option linter.unusedVariables false
set_option linter.unusedSimpArgs false
set_option maxRecDepth 100000
namespace Go.Lx
variable {T G E : Nat}

/-! ### indices -/
def dv (s : Str) : Nat → Nat
  | 0 => 0
  | i + 1 => dv s i * 10 + (byteAt s i - 48).toNat
def isDig (s : Str) (j : Nat) : Bool := decide (48 ≤ byteAt s j) && decide (byteAt s j ≤ 57)
def noIdx (k : Key) : Bool := decide (0 < k.sym) || decide (k.str = Str.none) || decide (4 < (k.str.size : Int)) || decide (1 < (k.str.size : Int)) && decide (byteAt k.str 0 = 48)
def digs (s : Str) (n : Nat) : Prop := ∀ j, j < n → isDig s j = true
instance {s : Str} {n : Nat} : Decidable (digs s n) := inferInstanceAs (Decidable (∀ j, j < n → isDig s j = true))
def keyIdx (k : Key) : Option Nat := if noIdx k = true then none else if digs k.str k.str.size ∧ dv k.str k.str.size < 1024 then some (dv k.str k.str.size) else none
theorem dv_bound {s : Str} : ∀ {i : Nat}, digs s i → dv s i < 10 ^ i
  | 0, _ => by simp [dv]
  | i + 1, h => by
    have h1 := dv_bound (i := i) (fun j hj => h j (by omega))
    have h2 := h i (by omega)
    simp only [isDig, Bool.and_eq_true, decide_eq_true_eq] at h2
    simp only [dv, Nat.pow_succ]
    omega
theorem dv_small {s : Str} {i : Nat} (h : digs s i) (hi : i ≤ 4) : dv s i < 10000 := by
  have h1 := dv_bound h
  have h2 : 10 ^ i ≤ 10 ^ 4 := Nat.pow_le_pow_right (by omega) hi
  omega
theorem wrap_dv {n b : Int} (h1 : 0 ≤ n) (h2 : n < 10000) (h3 : 48 ≤ b) (h4 : b ≤ 57) : IntKind.i64.wrap (IntKind.i64.wrap (n * 10) + IntKind.i64.wrap (IntKind.u8.wrap (b - 48))) = n * 10 + (b - 48) := by
  have e1 : IntKind.i64.wrap (n * 10) = n * 10 := by exact wrap_i64 ⟨by omega, by omega⟩
  have e2 : IntKind.u8.wrap (b - 48) = b - 48 := by simp only [IntKind.wrap, IntKind.signed, IntKind.bits, Bool.false_and, Bool.false_eq_true, if_false, Int.reducePow]; omega
  have e3 : IntKind.i64.wrap (b - 48) = b - 48 := wrap_i64 ⟨by omega, by omega⟩
  rw [e1, e2, e3]
  exact wrap_i64 ⟨by omega, by omega⟩

theorem s_key_Index (k : Key) : Fun (Ev T G E) c_key_Index [vK k] (.tup [vI ((keyIdx k).getD 0 : Nat), vB (keyIdx k).isSome]) := by
  refine does_start rfl ?_
  simp +contextual only [go_sem, Nat.reduceAdd, Nat.reduceLeDiff, Nat.reduceSub, Nat.reduceLT, Int.reduceLT, Int.reduceLE, Int.reduceEq, reduceCtorEq]
  refine ⟨fun _ h => by simp only [decide_eq_true_eq] at h ⊢; omega, ?_⟩
  refine brB_split (fun h1 => ?_) (fun h1 => ?_)
  · simp +contextual only [go_sem, Nat.reduceAdd, Nat.reduceLeDiff, Nat.reduceSub, Nat.reduceLT, Int.reduceLT, Int.reduceLE, Int.reduceEq, reduceCtorEq]
    refine endF_of (by first | exact resAll2 (by rfl) (by rfl) | exact resAll3 (by rfl) (by rfl) (by rfl) | rfl) (by rfl) ⟨?_, rfl⟩
    have : keyIdx k = none := by unfold keyIdx; rw [if_pos (show noIdx k = true from h1)]
    rw [this]; rfl
  · simp +contextual only [go_sem, Nat.reduceAdd, Nat.reduceLeDiff, Nat.reduceSub, Nat.reduceLT, Int.reduceLT, Int.reduceLE, Int.reduceEq, reduceCtorEq]
    have hs : k.str.size ≤ 4 := by
      simp only [Bool.or_eq_false_iff, decide_eq_false_iff_not] at h1
      have := h1.1.2
      omega
    refine xK_loop (fun i : Nat => ⟨[(1, (true, .s (.ptr 0 0))), (2, (true, vI 0)), (3, (true, vB false)), (4, (true, vI (dv k.str i))), (34, (true, vI k.str.size)), (35, (true, vI i))], [.boxu (encKey k)]⟩) (fun i => i ≤ k.str.size ∧ digs k.str i) (fun i => k.str.size - i) 0 (lw_gc [1, 2, 3, 4, 34, 35] [0] (by rfl) (by rfl)) ⟨Nat.zero_le _, nofun⟩ ?_
    rintro i ⟨hi, hd⟩
    have hdv := dv_small hd (by omega)
    simp +contextual only [go_sem, Nat.reduceAdd, Nat.reduceLeDiff, Nat.reduceSub, Nat.reduceLT, Int.reduceLT, Int.reduceLE, Int.reduceEq, reduceCtorEq]
    refine brB_dec (fun hlt => ?_) (fun hlt => ?_)
    · simp +contextual only [go_sem, Nat.reduceAdd, Nat.reduceLeDiff, Nat.reduceSub, Nat.reduceLT, Int.reduceLT, Int.reduceLE, Int.reduceEq, reduceCtorEq, hlt]
      refine brB_split (fun hb => ?_) (fun hb => ?_)
      · simp +contextual only [go_sem, Nat.reduceAdd, Nat.reduceLeDiff, Nat.reduceSub, Nat.reduceLT, Int.reduceLT, Int.reduceLE, Int.reduceEq, reduceCtorEq]
        refine endF_of (by first | exact resAll2 (by rfl) (by rfl) | exact resAll3 (by rfl) (by rfl) (by rfl) | rfl) (by rfl) ⟨?_, rfl⟩
        have : keyIdx k = none := by
          unfold keyIdx
          rw [if_neg (by rw [show noIdx k = false from h1]; exact Bool.false_ne_true), if_neg]
          intro h
          have := h.1 i hlt
          simp only [isDig, Bool.and_eq_true, decide_eq_true_eq] at this
          simp only [Bool.or_eq_true, decide_eq_true_eq] at hb
          omega
        rw [this]; rfl
      · simp only [Bool.or_eq_false_iff, decide_eq_false_iff_not] at hb
        simp +contextual only [go_sem, Nat.reduceAdd, Nat.reduceLeDiff, Nat.reduceSub, Nat.reduceLT, Int.reduceLT, Int.reduceLE, Int.reduceEq, reduceCtorEq, wrap_dv (show (0 : Int) ≤ (dv k.str i : Nat) by omega) (by omega) (show 48 ≤ byteAt k.str i by omega) (by omega), wrap_succ (show i < 4294967296 by omega)]
        refine ⟨hlt, i + 1, by omega, lw_gc' (s1 := ⟨[(1, (true, .s (.ptr 0 0))), (2, (true, vI 0)), (3, (true, vB false)), (4, (true, vI ((dv k.str i : Nat) * 10 + (byteAt k.str i - 48)))), (34, (true, vI k.str.size)), (35, (true, vI ((i + 1 : Nat) : Int)))], [.boxu (encKey k)]⟩) [1, 2, 3, 4, 34, 35] [0] (by rfl) (by rfl) ?_, hlt, ?_⟩
        · have e : ((dv k.str i : Nat) : Int) * 10 + (byteAt k.str i - 48) = ((dv k.str (i + 1) : Nat) : Int) := by
            simp only [dv]; omega
          rw [e]
        · intro j hj
          by_cases e : j = i
          · subst e
            simp only [isDig, Bool.and_eq_true, decide_eq_true_eq]
            omega
          · exact hd j (by omega)
    · simp +contextual only [go_sem, Nat.reduceAdd, Nat.reduceLeDiff, Nat.reduceSub, Nat.reduceLT, Int.reduceLT, Int.reduceLE, Int.reduceEq, reduceCtorEq]
      have e : i = k.str.size := by omega
      subst e
      have h2 : keyIdx k = if dv k.str k.str.size < 1024 then some (dv k.str k.str.size) else none := by
        unfold keyIdx
        rw [if_neg (by rw [show noIdx k = false from h1]; exact Bool.false_ne_true)]
        by_cases h : dv k.str k.str.size < 1024
        · rw [if_pos ⟨hd, h⟩, if_pos h]
        · rw [if_neg (fun h' => h h'.2), if_neg h]
      refine brB_dec (fun hn => ?_) (fun hn => ?_)
      · simp +contextual only [go_sem, Nat.reduceAdd, Nat.reduceLeDiff, Nat.reduceSub, Nat.reduceLT, Int.reduceLT, Int.reduceLE, Int.reduceEq, reduceCtorEq]
        refine endF_of (by first | exact resAll2 (by rfl) (by rfl) | exact resAll3 (by rfl) (by rfl) (by rfl) | rfl) (by rfl) ⟨?_, rfl⟩
        rw [h2, if_neg (by omega)]; rfl
      · simp +contextual only [go_sem, Nat.reduceAdd, Nat.reduceLeDiff, Nat.reduceSub, Nat.reduceLT, Int.reduceLT, Int.reduceLE, Int.reduceEq, reduceCtorEq]
        refine endF_of (by first | exact resAll2 (by rfl) (by rfl) | exact resAll3 (by rfl) (by rfl) (by rfl) | rfl) (by rfl) ⟨?_, rfl⟩
        rw [h2, if_pos (by omega)]; rfl

/-! ### the place of a key in the order -/
def rank (k : Key) : Nat := match keyIdx k with
  | some n => n
  | none => if 0 < k.sym then 1025 else 1024
theorem idx_small {k : Key} {n : Nat} (h : keyIdx k = some n) : n < 1024 := by
  unfold keyIdx at h
  split at h
  · cases h
  · split at h
    · rename_i h2
      injection h with h
      omega
    · cases h
def place1 (k : Key) : Int := match keyIdx k with
  | some _ => 0
  | none => if 0 < k.sym then 2 else 1
def place2 (k : Key) : Int := match keyIdx k with
  | some n => n
  | none => 0
theorem s_key_place (k : Key) : Fun (Ev T G E) c_key_place [vK k] (.tup [vI (place1 k), vI (place2 k)]) := by
  refine does_start rfl ?_
  simp +contextual only [go_sem, Nat.reduceAdd, Nat.reduceLeDiff, Nat.reduceSub, Nat.reduceLT, Int.reduceLT, Int.reduceLE, Int.reduceEq, reduceCtorEq]
  refine caR_fun (s_key_Index k) (by rfl) (.inr (by rfl)) (by rfl) ?_
  simp +contextual only [go_sem, Nat.reduceAdd, Nat.reduceLeDiff, Nat.reduceSub, Nat.reduceLT, Int.reduceLT, Int.reduceLE, Int.reduceEq, reduceCtorEq]
  refine brB_split (fun h => ?_) (fun h => ?_)
  · simp +contextual only [go_sem, Nat.reduceAdd, Nat.reduceLeDiff, Nat.reduceSub, Nat.reduceLT, Int.reduceLT, Int.reduceLE, Int.reduceEq, reduceCtorEq]
    refine endF_of (by first | exact resAll2 (by rfl) (by rfl) | exact resAll3 (by rfl) (by rfl) (by rfl) | rfl) (by rfl) ⟨?_, rfl⟩
    cases hk : keyIdx k with
    | none => rw [hk] at h; cases h
    | some n => simp [place1, place2, hk]
  · cases hk : keyIdx k with
    | some n => rw [hk] at h; cases h
    | none =>
      simp +contextual only [go_sem, Nat.reduceAdd, Nat.reduceLeDiff, Nat.reduceSub, Nat.reduceLT, Int.reduceLT, Int.reduceLE, Int.reduceEq, reduceCtorEq]
      refine brB_dec (fun h2 => ?_) (fun h2 => ?_)
      · simp +contextual only [go_sem, Nat.reduceAdd, Nat.reduceLeDiff, Nat.reduceSub, Nat.reduceLT, Int.reduceLT, Int.reduceLE, Int.reduceEq, reduceCtorEq]
        refine endF_of (by first | exact resAll2 (by rfl) (by rfl) | exact resAll3 (by rfl) (by rfl) (by rfl) | rfl) (by rfl) ⟨?_, rfl⟩
        simp [place1, place2, hk, h2]
      · simp +contextual only [go_sem, Nat.reduceAdd, Nat.reduceLeDiff, Nat.reduceSub, Nat.reduceLT, Int.reduceLT, Int.reduceLE, Int.reduceEq, reduceCtorEq]
        refine endF_of (by first | exact resAll2 (by rfl) (by rfl) | exact resAll3 (by rfl) (by rfl) (by rfl) | rfl) (by rfl) ⟨?_, rfl⟩
        simp [place1, place2, hk, h2]
theorem rank_lt (a b : Key) : (decide (place1 a < place1 b) || decide (place1 a = place1 b) && decide (place2 a < place2 b)) = decide (rank a < rank b) := by
  unfold place1 place2 rank
  cases ha : keyIdx a with
  | some n =>
    have := idx_small ha
    cases hb : keyIdx b with
    | some m => simp
    | none => by_cases h : 0 < b.sym <;> simp [h] <;> omega
  | none =>
    cases hb : keyIdx b with
    | some m =>
      have := idx_small hb
      by_cases h : 0 < a.sym <;> simp [h] <;> omega
    | none => by_cases h : 0 < a.sym <;> by_cases h' : 0 < b.sym <;> simp [h, h']
end Go.Lx

/- The sort's smaller functions, as they work on a row of keys. -/
set_option linter.unusedVariables false
set_option linter.unusedSimpArgs false
set_option maxRecDepth 100000
namespace Go.Lx
variable {T G E : Nat}

/-- the heap of a sort: the row, the cell that holds the slice, others -/
abbrev hp (n : Nat) (l : List Key) (t : List Root) : List Root := .row 0 2 (l.map encKey) :: .boxd [.ref 0 0 2 0 n] :: t
/-- the functions handed about -/
abbrev cLess : DC := .clo 40 [] [.ptr 1 0]
abbrev cSwap (G E n : Nat) : DC := .clo (if n = 0 then 187 else if n = 1 then 188 else 195) [] (if n ≤ 1 then [] else [.ref 0 0 2 0 n, .raw (hdl G E)])
abbrev vData (G E n : Nat) : V := .m [cLess, cSwap G E n]
def okT (t : List Root) : Prop := t.all (Root.under (t.length + 2)) = true
theorem under_mono {r : Root} {n m : Nat} (h : r.under n = true) (hm : n ≤ m) : r.under m = true := by
  cases r <;> simp only [Root.under] at h ⊢
  exact DCs.under_le hm h
theorem okT_app {t : List Root} {r : Root} (h : okT t) (hr : r.under (t.length + 3) = true) : okT (t ++ [r]) := by
  unfold okT at h ⊢
  simp only [List.all_append, List.all_cons, List.all_nil, Bool.and_true, Bool.and_eq_true, List.length_append, List.length_cons, List.length_nil]
  refine ⟨?_, hr⟩
  simp only [List.all_eq_true] at h ⊢
  exact fun x hx => under_mono (h x hx) (by omega)
theorem okT_hp {n : Nat} {l : List Key} {t : List Root} (h : okT t) : (hp n l t).all (Root.under (hp n l t).length) = true := by
  unfold okT at h
  simp only [List.all_cons, List.length_cons, Bool.and_eq_true]
  refine ⟨rfl, by simp [Root.under, DC.under], h⟩
/-- the end of a function that made blocks behind, and gives them up -/
theorem endF_front {rs : List Res} {R : V → List Root → Prop} {v : V} {s : St} {n0 : Nat} {h1 : List Root} (h : resAll s rs = some v) (hv : v.under n0 = true) (ht : s.h.take n0 = h1) (hu : h1.all (Root.under n0) = true) (hR : R v h1) : endF rs n0 R s := by
  subst ht
  exact .inl ⟨v, n0, h, hv, hu, Nat.le_refl _, hR⟩
theorem elemA {l : List Key} {i : Nat} (h : i < l.length) : elemAt (l.map encKey) i = encKey (aK l i) := elemK h

theorem dcut1 {a : DC} : dcut [a] 0 1 = [a] := rfl
theorem dcut20 {a b : DC} : dcut [a, b] 0 1 = [a] := rfl
theorem dcut21 {a b : DC} : dcut [a, b] 1 1 = [b] := rfl
theorem dcut22 {a b : DC} : dcut [a, b] 0 2 = [a, b] := rfl
attribute [go_sem] dcut1 dcut20 dcut21 dcut22 List.getElem?_concat_length List.set_cons_zero List.map_append

theorem s_less {n : Nat} {l : List Key} {t : List Root} (hl : l.length = n) (ht : okT t) {i j : Nat} (hi : i < n) (hj : j < n) :
    Does (Ev T G E) 40 [vI i, vI j, .s (.ptr 1 0)] (hp n l t) (fun d h' => d = vB (decide (rank (aK l i) < rank (aK l j))) ∧ h' = hp n l t) := by
  subst hl
  refine does_start rfl ?_
  simp +contextual only [go_sem, Nat.reduceAdd, Nat.reduceLeDiff, Nat.reduceSub, Nat.reduceLT, Int.reduceLT, Int.reduceLE, Int.reduceEq, reduceCtorEq, hi, elemA hi]
  refine caR_fun (s_key_place _) (by rfl) (.inr (by rfl)) (by rfl) ?_
  simp +contextual only [go_sem, Nat.reduceAdd, Nat.reduceLeDiff, Nat.reduceSub, Nat.reduceLT, Int.reduceLT, Int.reduceLE, Int.reduceEq, reduceCtorEq, hj, elemA hj]
  refine caR_fun (s_key_place _) (by rfl) (.inr (by rfl)) (by rfl) ?_
  simp +contextual only [go_sem, Nat.reduceAdd, Nat.reduceLeDiff, Nat.reduceSub, Nat.reduceLT, Int.reduceLT, Int.reduceLE, Int.reduceEq, reduceCtorEq, rank_lt]
  refine endF_front (h1 := hp l.length l t) (by rfl) (by rfl) ?_ (by simpa using okT_hp (n := l.length) (l := l) ht) ⟨rfl, rfl⟩
  simp [go_sem]
theorem swapL_map {l : List Key} {i j : Nat} (hi : i < l.length) (hj : j < l.length) : swapL (l.map encKey) i j = (swK l i j).map encKey := by
  unfold swapL swK
  rw [elemA hi, elemA hj, List.map_set, List.map_set]
theorem s_swap {n : Nat} {l : List Key} {t : List Root} (hl : l.length = n) {i j : Nat} (hi : i < n) (hj : j < n) :
    Does (Ev T G E) 195 [vI i, vI j, .s (.ref 0 0 2 0 n), .s (.raw (hdl G E))] (hp n l t) (fun d h' => d = .tup [] ∧ h' = hp n (swK l i j) t) := by
  subst hl
  refine Does.prim ?_
  refine ⟨rfl, rfl, l.map encKey, rfl, by omega, by omega, by omega, by omega, by simp, rfl, ?_⟩
  simp [swapL_map hi hj]
end Go.Lx

/- The sort's exchanges. -/
set_option linter.unusedVariables false
set_option linter.unusedSimpArgs false
set_option maxRecDepth 100000
namespace Go.Lx
variable {T G E : Nat}

/-- the data, in a cell of its own -/
abbrev bxD (G E n : Nat) : Root := .boxd [cLess, cSwap G E n]
theorem okT_data {t : List Root} {n : Nat} (h : okT t) : okT (t ++ [bxD G E n]) := by
  refine okT_app h ?_
  by_cases hn : n ≤ 1
  · simp [Root.under, DC.under, DC.unders, hn]
  · simp [Root.under, DC.under, DC.unders, hn]
theorem wrap_addN {a b : Nat} (h : a + b ≤ 4294967296) : IntKind.i64.wrap ((a : Int) + (b : Int)) = ((a + b : Nat) : Int) := by
  rw [wrap_i64 ⟨by omega, by omega⟩]; rfl
theorem wrap_subN {a b : Nat} (h : b ≤ a) (h' : a ≤ 4294967296) : IntKind.i64.wrap ((a : Int) - (b : Int)) = ((a - b : Nat) : Int) := by
  rw [wrap_i64 ⟨by omega, by omega⟩]; omega

/-- ranges of keys exchanged -/
def swr (l : List Key) (a b : Nat) : Nat → List Key
  | 0 => l
  | m + 1 => swK (swr l a b m) (a + m) (b + m)
theorem swr_len {l : List Key} {a b : Nat} : ∀ {m : Nat}, (swr l a b m).length = l.length
  | 0 => rfl
  | m + 1 => by rw [swr, swK_len, swr_len]
theorem aK_swr {l : List Key} {a b k : Nat} : ∀ {m : Nat}, a + m ≤ b → b + m ≤ l.length → aK (swr l a b m) k = if a ≤ k ∧ k < a + m then aK l (k - a + b) else if b ≤ k ∧ k < b + m then aK l (k - b + a) else aK l k
  | 0, _, _ => by rw [if_neg (by omega), if_neg (by omega)]; rfl
  | m + 1, h1, h2 => by
    rw [swr, aK_swK (by rw [swr_len]; omega) (by rw [swr_len]; omega), aK_swr (m := m) (by omega) (by omega), aK_swr (m := m) (by omega) (by omega), aK_swr (m := m) (by omega) (by omega)]
    by_cases e1 : k = b + m
    · subst e1
      rw [if_pos rfl, if_neg (by omega), if_neg (by omega), if_neg (by omega), if_pos (by omega)]
      congr 1; omega
    · rw [if_neg e1]
      by_cases e2 : k = a + m
      · subst e2
        rw [if_pos rfl, if_neg (by omega), if_neg (by omega), if_pos (by omega)]
        congr 1; omega
      · rw [if_neg e2]
        by_cases g1 : a ≤ k ∧ k < a + m
        · rw [if_pos g1, if_pos (show a ≤ k ∧ k < a + (m + 1) by omega)]
        · rw [if_neg g1, if_neg (show ¬ (a ≤ k ∧ k < a + (m + 1)) by omega)]
          by_cases g2 : b ≤ k ∧ k < b + m
          · rw [if_pos g2, if_pos (show b ≤ k ∧ k < b + (m + 1) by omega)]
          · rw [if_neg g2, if_neg (show ¬ (b ≤ k ∧ k < b + (m + 1)) by omega)]

theorem s_swapRange {n : Nat} {l : List Key} {t : List Root} (hl : l.length = n) (hn : n ≤ 4294967295) (ht : okT t) {a b m : Nat} (h1 : a + m ≤ b) (h2 : b + m ≤ n) :
    Does (Ev T G E) c_sort_swapRange_func [vData G E n, vI a, vI b, vI m] (hp n l t) (fun d h' => d = .tup [] ∧ h' = hp n (swr l a b m) t) := by
  have ht' := okT_data (G := G) (E := E) (n := n) ht
  refine does_start rfl ?_
  simp +contextual only [go_sem, Nat.reduceAdd, Nat.reduceLeDiff, Nat.reduceSub, Nat.reduceLT, Int.reduceLT, Int.reduceLE, Int.reduceEq, reduceCtorEq]
  refine xK_loop (fun i : Nat => ⟨[(1, (true, vI a)), (2, (true, vI b)), (3, (true, vI m)), (4, (true, .s (.ptr (t.length + 2) 0))), (8, (true, vI i))], hp n (swr l a b i) (t ++ [bxD G E n])⟩) (fun i => i ≤ m) (fun i => m - i) 0
    (lw_keep [1, 2, 3, 4, 8] (by rfl) (by simp [go_sem, V.under, DC.under]) (okT_hp ht') (by simp [go_sem]) (by rfl)) (Nat.zero_le _) ?_
  intro i hi
  simp +contextual only [go_sem, Nat.reduceAdd, Nat.reduceLeDiff, Nat.reduceSub, Nat.reduceLT, Int.reduceLT, Int.reduceLE, Int.reduceEq, reduceCtorEq]
  refine brB_dec (fun hlt => ?_) (fun hlt => ?_)
  · simp +contextual only [go_sem, Nat.reduceAdd, Nat.reduceLeDiff, Nat.reduceSub, Nat.reduceLT, Int.reduceLT, Int.reduceLE, Int.reduceEq, reduceCtorEq, wrap_addN (show a + i ≤ 4294967296 by omega), wrap_addN (show b + i ≤ 4294967296 by omega), show ¬ n = 0 by omega, show ¬ n = 1 by omega, show ¬ n ≤ 1 by omega, if_false]
    refine caR_own (s_swap (n := n) (l := swr l a b i) (t := t ++ [bxD G E n]) (i := a + i) (j := b + i) (by rw [swr_len, hl]) (by omega) (by omega)) ?_
    rintro d h' ⟨rfl, rfl⟩
    simp +contextual only [go_sem, Nat.reduceAdd, Nat.reduceLeDiff, Nat.reduceSub, Nat.reduceLT, Int.reduceLT, Int.reduceLE, Int.reduceEq, reduceCtorEq, wrap_succ (show i < 4294967296 by omega)]
    exact ⟨i + 1, by omega, lw_keep [1, 2, 3, 4, 8] (by rfl) (by simp [go_sem, V.under, DC.under]) (okT_hp ht') (by simp [go_sem]) (by rfl), hlt⟩
  · simp +contextual only [go_sem, Nat.reduceAdd, Nat.reduceLeDiff, Nat.reduceSub, Nat.reduceLT, Int.reduceLT, Int.reduceLE, Int.reduceEq, reduceCtorEq]
    have e : i = m := by omega
    subst e
    refine endF_front (h1 := hp n (swr l a b i) t) (by rfl) (by rfl) ?_ (okT_hp ht) ⟨rfl, rfl⟩
    simp [go_sem]
end Go.Lx

/- The sort's rotation. -/
set_option linter.unusedVariables false
set_option linter.unusedSimpArgs false
set_option maxRecDepth 100000
namespace Go.Lx
variable {T G E : Nat}

/-- what stands where behind a rotation -/
def tg (l : List Key) (a m b k : Nat) : Key := if a ≤ k ∧ k < b then (if k < a + (b - m) then aK l (k - a + m) else aK l (k - (b - m))) else aK l k
/-- what a rotation has come to: [m - i, m) and [m, m + j) are left -/
structure RotI (l : List Key) (a m b i j : Nat) (c : List Key) : Prop where
  len : c.length = l.length
  i0 : 0 < i
  j0 : 0 < j
  ia : a + i ≤ m
  jb : m + j ≤ b
  bl : b ≤ l.length
  out : ∀ k, k < m - i ∨ m + j ≤ k → aK c k = tg l a m b k
  lo : ∀ k, m - i ≤ k → k < m - i + j → tg l a m b k = aK c (k + i)
  hi : ∀ k, m - i + j ≤ k → k < m + j → tg l a m b k = aK c (k - j)
theorem RotI.start {l : List Key} {a m b : Nat} (h1 : a < m) (h2 : m < b) (hb : b ≤ l.length) : RotI l a m b (m - a) (b - m) l where
  len := rfl
  i0 := by omega
  j0 := by omega
  ia := by omega
  jb := by omega
  bl := hb
  out k hk := by unfold tg; rw [if_neg (by omega)]
  lo k h3 h4 := by
    unfold tg; rw [if_pos (by omega), if_pos (by omega)]
    congr 1; omega
  hi k h3 h4 := by unfold tg; rw [if_pos (by omega), if_neg (by omega)]
theorem RotI.left {l c : List Key} {a m b i j : Nat} (h : RotI l a m b i j c) (hij : j < i) : RotI l a m b (i - j) j (swr c (m - i) m j) := by
  obtain ⟨len, i0, j0, ia, jb, bl, out, lo, hi⟩ := h
  have sw := fun k => aK_swr (l := c) (a := m - i) (b := m) (k := k) (m := j) (by omega) (by omega)
  refine ⟨by rw [swr_len, len], by omega, j0, by omega, jb, bl, fun k hk => ?_, fun k h1 h2 => ?_, fun k h1 h2 => ?_⟩
  · rw [sw k]
    by_cases g1 : m - i ≤ k ∧ k < m - i + j
    · rw [if_pos g1, lo k g1.1 g1.2]
      congr 1; omega
    · rw [if_neg g1, if_neg (by omega)]
      exact out k (by omega)
  · rw [sw (k + (i - j)), if_neg (by omega), if_pos (by omega), hi k (by omega) (by omega)]
    congr 1; omega
  · rw [sw (k - j), if_neg (by omega), if_neg (by omega), hi k (by omega) (by omega)]
theorem RotI.right {l c : List Key} {a m b i j : Nat} (h : RotI l a m b i j c) (hij : i < j) : RotI l a m b i (j - i) (swr c (m - i) (m + j - i) i) := by
  obtain ⟨len, i0, j0, ia, jb, bl, out, lo, hi⟩ := h
  have sw := fun k => aK_swr (l := c) (a := m - i) (b := m + j - i) (k := k) (m := i) (by omega) (by omega)
  refine ⟨by rw [swr_len, len], i0, by omega, ia, by omega, bl, fun k hk => ?_, fun k h1 h2 => ?_, fun k h1 h2 => ?_⟩
  · rw [sw k, if_neg (by omega)]
    by_cases g1 : m + j - i ≤ k ∧ k < m + j - i + i
    · rw [if_pos g1, hi k (by omega) (by omega)]
      congr 1; omega
    · rw [if_neg g1]
      exact out k (by omega)
  · rw [sw (k + i), if_neg (by omega), if_neg (by omega), lo k (by omega) (by omega)]
  · rw [sw (k - (j - i)), if_pos (by omega), lo k (by omega) (by omega)]
    congr 1; omega
def Rot (l : List Key) (a m b : Nat) (c : List Key) : Prop := c.length = l.length ∧ ∀ k, aK c k = tg l a m b k
theorem RotI.fin {l c : List Key} {a m b i : Nat} (h : RotI l a m b i i c) : Rot l a m b (swr c (m - i) m i) := by
  obtain ⟨len, i0, j0, ia, jb, bl, out, lo, hi⟩ := h
  refine ⟨by rw [swr_len, len], fun k => ?_⟩
  rw [aK_swr (by omega) (by omega)]
  by_cases g1 : m - i ≤ k ∧ k < m - i + i
  · rw [if_pos g1, lo k g1.1 g1.2]
    congr 1; omega
  · rw [if_neg g1]
    by_cases g2 : m ≤ k ∧ k < m + i
    · rw [if_pos g2, hi k (by omega) (by omega)]
      congr 1; omega
    · rw [if_neg g2]
      exact out k (by omega)

theorem s_rotate {n : Nat} {l : List Key} {t : List Root} (hl : l.length = n) (hn : n ≤ 2147483647) (ht : okT t) {a m b : Nat} (h1 : a < m) (h2 : m < b) (h3 : b ≤ n) :
    Does (Ev T G E) c_sort_rotate_func [vData G E n, vI a, vI m, vI b] (hp n l t) (fun d h' => d = .tup [] ∧ ∃ c, Rot l a m b c ∧ h' = hp n c t) := by
  have ht' := okT_data (G := G) (E := E) (n := n) ht
  refine does_start rfl ?_
  simp +contextual only [go_sem, Nat.reduceAdd, Nat.reduceLeDiff, Nat.reduceSub, Nat.reduceLT, Int.reduceLT, Int.reduceLE, Int.reduceEq, reduceCtorEq, wrap_subN (show a ≤ m by omega) (show m ≤ 4294967296 by omega), wrap_subN (show m ≤ b by omega) (show b ≤ 4294967296 by omega)]
  refine xK_loop (fun x : Nat × Nat × List Key => ⟨[(1, (true, vI a)), (2, (true, vI m)), (3, (true, vI b)), (4, (true, .s (.ptr (t.length + 2) 0))), (8, (true, vI x.1)), (9, (true, vI x.2.1))], hp n x.2.2 (t ++ [bxD G E n])⟩) (fun x => RotI l a m b x.1 x.2.1 x.2.2) (fun x => x.1 + x.2.1) (m - a, b - m, l)
    (lw_keep [1, 2, 3, 4, 8, 9] (by rfl) (by simp [go_sem, V.under, DC.under]) (okT_hp ht') (by simp [go_sem]) (by rfl)) (RotI.start h1 h2 (by omega)) ?_
  rintro ⟨i, j, c⟩ hP
  have hc := hP.len
  have i0 := hP.i0
  have j0 := hP.j0
  have ia := hP.ia
  have jb := hP.jb
  simp only at hc i0 j0 ia jb
  simp +contextual only [go_sem, Nat.reduceAdd, Nat.reduceLeDiff, Nat.reduceSub, Nat.reduceLT, Int.reduceLT, Int.reduceLE, Int.reduceEq, reduceCtorEq]
  by_cases hij : i = j
  · subst hij
    simp +contextual only [go_sem, Nat.reduceAdd, Nat.reduceLeDiff, Nat.reduceSub, Nat.reduceLT, Int.reduceLT, Int.reduceLE, Int.reduceEq, reduceCtorEq, wrap_subN (show i ≤ m by omega) (show m ≤ 4294967296 by omega)]
    refine caR_own (s_swapRange (n := n) (l := c) (t := t ++ [bxD G E n]) (a := m - i) (b := m) (m := i) (by omega) (by omega) ht' (by omega) (by omega)) ?_
    rintro d h' ⟨rfl, rfl⟩
    simp +contextual only [go_sem, Nat.reduceAdd, Nat.reduceLeDiff, Nat.reduceSub, Nat.reduceLT, Int.reduceLT, Int.reduceLE, Int.reduceEq, reduceCtorEq]
    refine endF_front (h1 := hp n (swr c (m - i) m i) t) (by rfl) (by rfl) ?_ (okT_hp ht) ⟨rfl, _, hP.fin, rfl⟩
    simp [go_sem]
  · have hne : ¬ (i : Int) = j := by omega
    simp +contextual only [go_sem, Nat.reduceAdd, Nat.reduceLeDiff, Nat.reduceSub, Nat.reduceLT, Int.reduceLT, Int.reduceLE, Int.reduceEq, reduceCtorEq, hne]
    refine brB_dec (fun hlt => ?_) (fun hlt => ?_)
    · simp +contextual only [go_sem, Nat.reduceAdd, Nat.reduceLeDiff, Nat.reduceSub, Nat.reduceLT, Int.reduceLT, Int.reduceLE, Int.reduceEq, reduceCtorEq, wrap_subN (show i ≤ m by omega) (show m ≤ 4294967296 by omega)]
      refine caR_own (s_swapRange (n := n) (l := c) (t := t ++ [bxD G E n]) (a := m - i) (b := m) (m := j) (by omega) (by omega) ht' (by omega) (by omega)) ?_
      rintro d h' ⟨rfl, rfl⟩
      simp +contextual only [go_sem, Nat.reduceAdd, Nat.reduceLeDiff, Nat.reduceSub, Nat.reduceLT, Int.reduceLT, Int.reduceLE, Int.reduceEq, reduceCtorEq, wrap_subN (show j ≤ i by omega) (show i ≤ 4294967296 by omega)]
      exact ⟨(i - j, j, swr c (m - i) m j), by simp only; omega, lw_keep [1, 2, 3, 4, 8, 9] (by rfl) (by simp [go_sem, V.under, DC.under]) (okT_hp ht') (by simp [go_sem]) (by rfl), hP.left (by simp only; omega)⟩
    · simp +contextual only [go_sem, Nat.reduceAdd, Nat.reduceLeDiff, Nat.reduceSub, Nat.reduceLT, Int.reduceLT, Int.reduceLE, Int.reduceEq, reduceCtorEq, wrap_subN (show i ≤ m by omega) (show m ≤ 4294967296 by omega), wrap_addN (show m + j ≤ 4294967296 by omega), wrap_subN (show i ≤ m + j by omega) (show m + j ≤ 4294967296 by omega)]
      refine caR_own (s_swapRange (n := n) (l := c) (t := t ++ [bxD G E n]) (a := m - i) (b := m + j - i) (m := i) (by omega) (by omega) ht' (by omega) (by omega)) ?_
      rintro d h' ⟨rfl, rfl⟩
      simp +contextual only [go_sem, Nat.reduceAdd, Nat.reduceLeDiff, Nat.reduceSub, Nat.reduceLT, Int.reduceLT, Int.reduceLE, Int.reduceEq, reduceCtorEq, wrap_subN (show i ≤ j by omega) (show j ≤ 4294967296 by omega)]
      exact ⟨(i, j - i, swr c (m - i) (m + j - i) i), by simp only; omega, lw_keep [1, 2, 3, 4, 8, 9] (by rfl) (by simp [go_sem, V.under, DC.under]) (okT_hp ht') (by simp [go_sem]) (by rfl), hP.right (by simp only; omega)⟩
end Go.Lx

/- The sort's small blocks: one key after the other put where it belongs. -/
set_option linter.unusedVariables false
set_option linter.unusedSimpArgs false
set_option maxRecDepth 100000
namespace Go.Lx
variable {T G E : Nat}

/-- the keys of [a, i] stand sorted but for the one at j, which is none of the greater -/
structure Ins (rk : Key → Nat) (c : List Key) (a i j : Nat) : Prop where
  srt : ∀ p q, a ≤ p → p < q → q ≤ i → p ≠ j → q ≠ j → rk (aK c p) ≤ rk (aK c q)
  low : ∀ q, j < q → q ≤ i → rk (aK c j) ≤ rk (aK c q)
theorem Ins.start {rk : Key → Nat} {c : List Key} {a i : Nat} (h : SortedOn rk c a i) : Ins rk c a i i :=
  ⟨fun p q h1 h2 h3 h4 h5 => h p q h1 h2 (by omega), fun q h1 h2 => by omega⟩
theorem Ins.step {rk : Key → Nat} {c : List Key} {a i j : Nat} (h : Ins rk c a i j) (hi : i < c.length) (hj : j ≤ i) (ha : a < j) (hlt : rk (aK c j) < rk (aK c (j - 1))) : Ins rk (swK c j (j - 1)) a i (j - 1) := by
  have sw := fun k => aK_swK (l := c) (i := j) (j := j - 1) (k := k) (by omega) (by omega)
  refine ⟨fun p q h1 h2 h3 h4 h5 => ?_, fun q h1 h2 => ?_⟩
  · rw [sw p, sw q, if_neg h4, if_neg h5]
    by_cases e1 : p = j
    · rw [if_pos e1, if_neg (by omega)]
      exact h.srt _ _ (by omega) (by omega) h3 (by omega) (by omega)
    · rw [if_neg e1]
      by_cases e2 : q = j
      · rw [if_pos e2]
        exact h.srt _ _ h1 (by omega) (by omega) e1 (by omega)
      · rw [if_neg e2]
        exact h.srt _ _ h1 h2 h3 e1 e2
  · rw [sw (j - 1), if_pos rfl, sw q, if_neg (by omega)]
    by_cases e2 : q = j
    · rw [if_pos e2]; omega
    · rw [if_neg e2]
      exact h.low _ (by omega) h2
theorem Ins.fin {rk : Key → Nat} {c : List Key} {a i j : Nat} (h : Ins rk c a i j) (hj : a ≤ j) (he : j = a ∨ rk (aK c (j - 1)) ≤ rk (aK c j)) : SortedOn rk c a (i + 1) := by
  intro p q h1 h2 h3
  by_cases e1 : p = j
  · subst e1
    exact h.low q h2 (by omega)
  · by_cases e2 : q = j
    · subst e2
      rcases he with he | he
      · omega
      · by_cases e3 : p = q - 1
        · subst e3; exact he
        · exact Nat.le_trans (h.srt p (q - 1) h1 (by omega) (by omega) e1 (by omega)) he
    · exact h.srt p q h1 h2 (by omega) e1 e2
theorem Mvd.swap_down {rk : Key → Nat} {a b j : Nat} {l c : List Key} (h : Mvd rk a b l c) (hb : b ≤ l.length) (ha : a < j) (hj : j < b) (hlt : rk (aK c j) < rk (aK c (j - 1))) : Mvd rk a b l (swK c j (j - 1)) := by
  have hc := h.len
  obtain ⟨i, rfl⟩ : ∃ i, j = i + 1 := ⟨j - 1, by omega⟩
  rw [show i + 1 - 1 = i by omega] at hlt ⊢
  rw [swK_comm (by omega) (by omega)]
  exact h.trans ((swap_mvd (rk := rk) (l := c) (i := i) (by omega) (by omega)).widen (by omega) (by omega))
theorem wrap_pred {j : Nat} (h1 : 1 ≤ j) (h2 : j ≤ 4294967296) : IntKind.i64.wrap ((j : Int) - 1) = ((j - 1 : Nat) : Int) := by
  rw [wrap_i64 ⟨by omega, by omega⟩]; omega

theorem s_insertionSort {n : Nat} {l : List Key} {t : List Root} (hl : l.length = n) (hn : n ≤ 2147483647) (ht : okT t) {a b : Nat} (h1 : a ≤ b) (h2 : b ≤ n) :
    Does (Ev T G E) c_sort_insertionSort_func [vData G E n, vI a, vI b] (hp n l t) (fun d h' => d = .tup [] ∧ ∃ c, Mvd rank a b l c ∧ SortedOn rank c a b ∧ h' = hp n c t) := by
  have ht' := okT_data (G := G) (E := E) (n := n) ht
  refine does_start rfl ?_
  simp +contextual only [go_sem, Nat.reduceAdd, Nat.reduceLeDiff, Nat.reduceSub, Nat.reduceLT, Int.reduceLT, Int.reduceLE, Int.reduceEq, reduceCtorEq, wrap_succ (show a < 4294967296 by omega)]
  refine xK_loop (fun x : Nat × List Key => ⟨[(1, (true, vI a)), (2, (true, vI b)), (3, (true, .s (.ptr (t.length + 2) 0))), (6, (true, vI x.1))], hp n x.2 (t ++ [bxD G E n])⟩) (fun x => a + 1 ≤ x.1 ∧ (x.1 ≤ b ∨ x.1 = a + 1) ∧ Mvd rank a b l x.2 ∧ SortedOn rank x.2 a x.1) (fun x => b + 1 - x.1) (a + 1, l)
    (lw_keep [1, 2, 3, 6] (by rfl) (by simp [go_sem, V.under, DC.under]) (okT_hp ht') (by simp [go_sem]) (by rfl)) ⟨Nat.le_refl _, .inr rfl, Mvd.refl _ _ _, fun p q h3 h4 h5 => by omega⟩ ?_
  rintro ⟨i, c⟩ ⟨hi1, hi2, hm, hs⟩
  simp only at hi1 hi2 hm hs
  simp +contextual only [go_sem, Nat.reduceAdd, Nat.reduceLeDiff, Nat.reduceSub, Nat.reduceLT, Int.reduceLT, Int.reduceLE, Int.reduceEq, reduceCtorEq]
  refine brB_dec (fun hlt => ?_) (fun hlt => ?_)
  · simp +contextual only [go_sem, Nat.reduceAdd, Nat.reduceLeDiff, Nat.reduceSub, Nat.reduceLT, Int.reduceLT, Int.reduceLE, Int.reduceEq, reduceCtorEq]
    refine xK_loop (fun x : Nat × List Key => ⟨[(1, (true, vI a)), (2, (true, vI b)), (3, (true, .s (.ptr (t.length + 2) 0))), (6, (true, vI i)), (7, (true, vI x.1))], hp n x.2 (t ++ [bxD G E n])⟩) (fun x => a ≤ x.1 ∧ x.1 ≤ i ∧ Mvd rank a b l x.2 ∧ Ins rank x.2 a i x.1) (fun x => x.1) (i, c)
      (lw_keep [1, 2, 3, 6, 7] (by rfl) (by simp [go_sem, V.under, DC.under]) (okT_hp ht') (by simp [go_sem]) (by rfl)) ⟨by simp only; omega, Nat.le_refl _, hm, Ins.start hs⟩ ?_
    rintro ⟨j, c⟩ ⟨hj1, hj2, hm, hI⟩
    simp only at hj1 hj2 hm hI
    have hc := hm.len
    by_cases hja : a < j
    · have hja' : (a : Int) < j := by omega
      simp +contextual only [go_sem, Nat.reduceAdd, Nat.reduceLeDiff, Nat.reduceSub, Nat.reduceLT, Int.reduceLT, Int.reduceLE, Int.reduceEq, reduceCtorEq, hja', wrap_pred (show 1 ≤ j by omega) (show j ≤ 4294967296 by omega)]
      refine gvR_yes (s_less (n := n) (l := c) (t := t ++ [bxD G E n]) (by omega) ht' (i := j) (j := j - 1) (by omega) (by omega)) ?_
      simp +contextual only [go_sem, Nat.reduceAdd, Nat.reduceLeDiff, Nat.reduceSub, Nat.reduceLT, Int.reduceLT, Int.reduceLE, Int.reduceEq, reduceCtorEq]
      refine brB_dec (fun hls => ?_) (fun hls => ?_)
      · simp +contextual only [go_sem, Nat.reduceAdd, Nat.reduceLeDiff, Nat.reduceSub, Nat.reduceLT, Int.reduceLT, Int.reduceLE, Int.reduceEq, reduceCtorEq, wrap_pred (show 1 ≤ j by omega) (show j ≤ 4294967296 by omega), show ¬ n = 0 by omega, show ¬ n = 1 by omega, show ¬ n ≤ 1 by omega, if_false]
        refine caR_own (s_swap (n := n) (l := c) (t := t ++ [bxD G E n]) (i := j) (j := j - 1) (by omega) (by omega) (by omega)) ?_
        rintro d h' ⟨rfl, rfl⟩
        simp +contextual only [go_sem, Nat.reduceAdd, Nat.reduceLeDiff, Nat.reduceSub, Nat.reduceLT, Int.reduceLT, Int.reduceLE, Int.reduceEq, reduceCtorEq, wrap_pred (show 1 ≤ j by omega) (show j ≤ 4294967296 by omega)]
        exact ⟨(j - 1, swK c j (j - 1)), by simp only; omega, lw_keep [1, 2, 3, 6, 7] (by rfl) (by simp [go_sem, V.under, DC.under]) (okT_hp ht') (by simp [go_sem]) (by rfl), by simp only; omega, by simp only; omega, hm.swap_down (by omega) hja (by omega) hls, hI.step (by omega) hj2 hja hls⟩
      · simp +contextual only [go_sem, Nat.reduceAdd, Nat.reduceLeDiff, Nat.reduceSub, Nat.reduceLT, Int.reduceLT, Int.reduceLE, Int.reduceEq, reduceCtorEq, wrap_succ (show i < 4294967296 by omega)]
        exact ⟨(i + 1, c), by simp only; omega, lw_keep [1, 2, 3, 6] (by rfl) (by simp [go_sem, V.under, DC.under]) (okT_hp ht') (by simp [go_sem]) (by rfl), by simp only; omega, .inl (by simp only; omega), hm, hI.fin hj1 (.inr (by omega))⟩
    · have hja' : ¬ (a : Int) < j := by omega
      simp +contextual only [go_sem, Nat.reduceAdd, Nat.reduceLeDiff, Nat.reduceSub, Nat.reduceLT, Int.reduceLT, Int.reduceLE, Int.reduceEq, reduceCtorEq, hja']
      refine gvR_no ?_
      simp +contextual only [go_sem, Nat.reduceAdd, Nat.reduceLeDiff, Nat.reduceSub, Nat.reduceLT, Int.reduceLT, Int.reduceLE, Int.reduceEq, reduceCtorEq, wrap_succ (show i < 4294967296 by omega)]
      exact ⟨(i + 1, c), by simp only; omega, lw_keep [1, 2, 3, 6] (by rfl) (by simp [go_sem, V.under, DC.under]) (okT_hp ht') (by simp [go_sem]) (by rfl), by simp only; omega, .inl (by simp only; omega), hm, hI.fin hj1 (.inl (by omega))⟩
  · simp +contextual only [go_sem, Nat.reduceAdd, Nat.reduceLeDiff, Nat.reduceSub, Nat.reduceLT, Int.reduceLT, Int.reduceLE, Int.reduceEq, reduceCtorEq]
    refine endF_front (h1 := hp n c t) (by rfl) (by rfl) ?_ (okT_hp ht) ⟨rfl, c, hm, fun p q h3 h4 h5 => hs p q h3 h4 (by omega), rfl⟩
    simp [go_sem]
end Go.Lx
