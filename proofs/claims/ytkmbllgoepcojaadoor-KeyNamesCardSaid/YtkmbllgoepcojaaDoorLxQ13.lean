import Derived.Test.YtkmbllgoepcojaaDoorLxQ1
/- Decimal texts: what the reference's Tens answers. -/
set_option linter.unusedVariables false
set_option linter.unusedSimpArgs false
set_option maxRecDepth 100000
namespace Go.Lx
variable {T G E : Nat}

def dig (d : Nat) : UInt8 := UInt8.ofNat (48 + d)
def strB (l : List UInt8) : Str := ⟨⟨l⟩⟩
/-- the decimal digits -/
def tens (n : Nat) : List UInt8 := if n < 10 then [dig n] else tens (n / 10) ++ [dig (n % 10)]
decreasing_by omega
theorem tens_one {n : Nat} (h : n < 10) : tens n = [dig n] := by rw [tens, if_pos h]
theorem tens_more {n : Nat} (h : ¬ n < 10) : tens n = tens (n / 10) ++ [dig (n % 10)] := by rw [tens, if_neg h]
theorem rune_dig {d : Nat} (h : d < 10) : Utf8.encode (IntKind.i32.wrap (IntKind.i64.wrap (48 + (d : Int)))) = strB [dig d] := by
  have : ∀ d : Nat, d < 10 → Utf8.encode (IntKind.i32.wrap (IntKind.i64.wrap (48 + (d : Int)))) = strB [dig d] := by decide +kernel
  exact this d h
theorem strB_app {a b : List UInt8} : strB a ++ strB b = strB (a ++ b) := by
  apply ByteArray.ext
  simp [strB]
theorem tmodN {n : Nat} : ((n : Nat) : Int).tmod 10 = ((n % 10 : Nat) : Int) := by rw [Int.tmod_eq_emod_of_nonneg (by omega)]; omega
theorem tdivN {n : Nat} : ((n : Nat) : Int).tdiv 10 = ((n / 10 : Nat) : Int) := by rw [Int.tdiv_eq_ediv_of_nonneg (by omega)]; omega
abbrev vStr (s : Str) : V := .s (.c (.str s))

theorem strB_size {l : List UInt8} : (strB l).size = l.length := rfl
theorem s_ref01_Tens {n : Nat} (hn : n ≤ 4294967296) : Fun (Ev T G E) c_bailiffref01_Tens [vI n] (vStr (strB (tens n))) := by
  refine does_start rfl ?_
  simp +contextual only [go_sem, Nat.reduceAdd, Nat.reduceLeDiff, Nat.reduceSub, Nat.reduceLT, Int.reduceLT, Int.reduceLE, Int.reduceEq, reduceCtorEq, show ¬ (n : Int) ≤ -10 by omega, show ¬ (n : Int) < 0 by omega]
  refine xK_loop (fun x : Nat × List UInt8 => ⟨[(0, (true, vI x.1)), (3, (true, vStr (strB x.2)))], []⟩) (fun x => x.2.length + x.1 ≤ n ∧ tens n = tens x.1 ++ x.2) (fun x => x.1) (n, []) (lw_gc [0, 3] [] (by rfl) (by rfl)) ⟨by simp, by simp⟩ ?_
  rintro ⟨m, out⟩ ⟨hm, ht⟩
  simp only at hm ht
  simp +contextual only [go_sem, Nat.reduceAdd, Nat.reduceLeDiff, Nat.reduceSub, Nat.reduceLT, Int.reduceLT, Int.reduceLE, Int.reduceEq, reduceCtorEq]
  refine brB_dec (fun hlt => ?_) (fun hlt => ?_)
  · simp +contextual only [go_sem, Nat.reduceAdd, Nat.reduceLeDiff, Nat.reduceSub, Nat.reduceLT, Int.reduceLT, Int.reduceLE, Int.reduceEq, reduceCtorEq, tmodN, tdivN, rune_dig (show m % 10 < 10 by omega), strB_app, strB_size, wrap_nat (show m / 10 ≤ 4294967296 by omega)]
    refine ⟨by omega, (m / 10, dig (m % 10) :: out), by simp only; omega, lw_gc [0, 3] [] (by rfl) (by rfl), by simp only [List.length_cons]; omega, ?_⟩
    rw [ht, tens_more (by omega)]
    simp
  · simp +contextual only [go_sem, Nat.reduceAdd, Nat.reduceLeDiff, Nat.reduceSub, Nat.reduceLT, Int.reduceLT, Int.reduceLE, Int.reduceEq, reduceCtorEq, rune_dig (show m < 10 by omega), strB_app, strB_size]
    refine ⟨by omega, ?_⟩
    refine endF_of (by first | exact resAll2 (by rfl) (by rfl) | exact resAll3 (by rfl) (by rfl) (by rfl) | rfl) (by rfl) ⟨?_, rfl⟩
    rw [ht, tens_one (by omega)]; rfl
theorem s_ref07_Tens {n : Nat} (hn : n ≤ 4294967296) : Fun (Ev T G E) c_bailiffref07_Tens [vI n] (vStr (strB (tens n))) := by
  refine does_start rfl ?_
  simp +contextual only [go_sem, Nat.reduceAdd, Nat.reduceLeDiff, Nat.reduceSub, Nat.reduceLT, Int.reduceLT, Int.reduceLE, Int.reduceEq, reduceCtorEq, show ¬ (n : Int) < 0 by omega]
  refine caR_fun (s_ref01_Tens hn) (by rfl) (.inr (by rfl)) (by rfl) ?_
  simp +contextual only [go_sem, Nat.reduceAdd, Nat.reduceLeDiff, Nat.reduceSub, Nat.reduceLT, Int.reduceLT, Int.reduceLE, Int.reduceEq, reduceCtorEq]
  exact endF_of (by first | exact resAll2 (by rfl) (by rfl) | exact resAll3 (by rfl) (by rfl) (by rfl) | rfl) (by rfl) ⟨by rfl, rfl⟩
end Go.Lx

/- Indices, as the reference tells them. -/
set_option linter.unusedVariables false
set_option linter.unusedSimpArgs false
set_option maxRecDepth 100000
namespace Go.Lx
variable {T G E : Nat}

def big (k : Key) : Bool := decide (0 < k.sym) || decide (4 < (k.str.size : Int))
def refIdx (k : Key) : Option Nat := if big k then none else (List.range 1024).find? fun i => decide (strB (tens i) = k.str)
theorem tens_idx : ∀ n, n < 1024 → keyIdx ⟨strB (tens n), 0⟩ = some n := by decide +kernel
theorem dig_of {x : UInt8} (h : 48 ≤ x.toNat) (h2 : x.toNat ≤ 57) : dig (x.toNat - 48) = x := by
  unfold dig
  rw [show 48 + (x.toNat - 48) = x.toNat by omega]
  simp
theorem byteB {l : List UInt8} {i : Nat} (h : i < l.length) : byteAt (strB l) i = (l[i]'h).toNat := by
  simp [byteAt, strB, h]
theorem isDig_nat {l : List UInt8} {i : Nat} (h : i < l.length) (hd : isDig (strB l) i = true) : 48 ≤ (l[i]'h).toNat ∧ (l[i]'h).toNat ≤ 57 := by
  unfold isDig at hd
  rw [byteB h] at hd
  simp only [Bool.and_eq_true, decide_eq_true_eq] at hd
  omega
theorem idx_tens {k : Key} {n : Nat} (h : keyIdx k = some n) : k.str = strB (tens n) ∧ ¬ 0 < k.sym ∧ ¬ 4 < (k.str.size : Int) := by
  unfold keyIdx at h
  split at h
  · cases h
  · rename_i hno
    split at h
    · rename_i hd
      injection h with h
      simp only [noIdx, Bool.not_eq_true, Bool.or_eq_false_iff, Bool.and_eq_false_iff, decide_eq_false_iff_not] at hno
      obtain ⟨⟨⟨h1, h2⟩, h3⟩, h4⟩ := hno
      refine ⟨?_, h1, h3⟩
      obtain ⟨⟨⟨l⟩⟩, sy⟩ := k
      change digs (strB l) l.length ∧ _ at hd
      change dv (strB l) l.length = n at h
      change ¬ strB l = Str.none at h2
      change ¬ 4 < (l.length : Int) at h3
      change ¬ 1 < (l.length : Int) ∨ ¬ byteAt (strB l) 0 = 48 at h4
      show strB l = strB (tens n)
      congr 1
      match l, h2, h3, h4, hd, h with
      | [], h2, _, _, _, _ => exact absurd rfl h2
      | [a], _, _, h4, hd, h =>
        have d0 := isDig_nat (l := [a]) (i := 0) (by decide : 0 < 1) (hd.1 0 (by decide : 0 < 1))
        have b0 := byteB (l := [a]) (i := 0) (by decide : 0 < 1)
        simp only [List.getElem_cons_zero] at d0 b0
        simp only [List.length_cons, List.length_nil, dv, b0] at h
        have e : n = a.toNat - 48 := by omega
        rw [e, tens_one (by omega), dig_of d0.1 d0.2]
      | [a, b], _, _, h4, hd, h =>
        have d0 := isDig_nat (l := [a, b]) (i := 0) (by decide : 0 < 2) (hd.1 0 (by decide : 0 < 2))
        have d1 := isDig_nat (l := [a, b]) (i := 1) (by decide : 1 < 2) (hd.1 1 (by decide : 1 < 2))
        have b0 := byteB (l := [a, b]) (i := 0) (by decide : 0 < 2)
        have b1 := byteB (l := [a, b]) (i := 1) (by decide : 1 < 2)
        simp only [List.getElem_cons_zero, List.getElem_cons_succ] at d0 d1 b0 b1
        simp only [List.length_cons, List.length_nil, dv, b0, b1] at h h4
        have h0 : 49 ≤ a.toNat := by omega
        have e : n = (a.toNat - 48) * 10 + (b.toNat - 48) := by omega
        rw [tens_more (by omega), show n / 10 = a.toNat - 48 by omega, show n % 10 = b.toNat - 48 by omega, tens_one (by omega), dig_of d0.1 d0.2, dig_of d1.1 d1.2]
        rfl
      | [a, b, c], _, _, h4, hd, h =>
        have d0 := isDig_nat (l := [a, b, c]) (i := 0) (by decide : 0 < 3) (hd.1 0 (by decide : 0 < 3))
        have d1 := isDig_nat (l := [a, b, c]) (i := 1) (by decide : 1 < 3) (hd.1 1 (by decide : 1 < 3))
        have d2 := isDig_nat (l := [a, b, c]) (i := 2) (by decide : 2 < 3) (hd.1 2 (by decide : 2 < 3))
        have b0 := byteB (l := [a, b, c]) (i := 0) (by decide : 0 < 3)
        have b1 := byteB (l := [a, b, c]) (i := 1) (by decide : 1 < 3)
        have b2 := byteB (l := [a, b, c]) (i := 2) (by decide : 2 < 3)
        simp only [List.getElem_cons_zero, List.getElem_cons_succ] at d0 d1 d2 b0 b1 b2
        simp only [List.length_cons, List.length_nil, dv, b0, b1, b2] at h h4
        have h0 : 49 ≤ a.toNat := by omega
        have e : n = ((a.toNat - 48) * 10 + (b.toNat - 48)) * 10 + (c.toNat - 48) := by omega
        rw [tens_more (by omega), show n / 10 = (a.toNat - 48) * 10 + (b.toNat - 48) by omega, show n % 10 = c.toNat - 48 by omega, tens_more (by omega), show ((a.toNat - 48) * 10 + (b.toNat - 48)) / 10 = a.toNat - 48 by omega,
          show ((a.toNat - 48) * 10 + (b.toNat - 48)) % 10 = b.toNat - 48 by omega, tens_one (by omega), dig_of d0.1 d0.2, dig_of d1.1 d1.2, dig_of d2.1 d2.2]
        rfl
      | [a, b, c, d], _, _, h4, hd, h =>
        have d0 := isDig_nat (l := [a, b, c, d]) (i := 0) (by decide : 0 < 4) (hd.1 0 (by decide : 0 < 4))
        have d1 := isDig_nat (l := [a, b, c, d]) (i := 1) (by decide : 1 < 4) (hd.1 1 (by decide : 1 < 4))
        have d2 := isDig_nat (l := [a, b, c, d]) (i := 2) (by decide : 2 < 4) (hd.1 2 (by decide : 2 < 4))
        have d3 := isDig_nat (l := [a, b, c, d]) (i := 3) (by decide : 3 < 4) (hd.1 3 (by decide : 3 < 4))
        have b0 := byteB (l := [a, b, c, d]) (i := 0) (by decide : 0 < 4)
        have b1 := byteB (l := [a, b, c, d]) (i := 1) (by decide : 1 < 4)
        have b2 := byteB (l := [a, b, c, d]) (i := 2) (by decide : 2 < 4)
        have b3 := byteB (l := [a, b, c, d]) (i := 3) (by decide : 3 < 4)
        simp only [List.getElem_cons_zero, List.getElem_cons_succ] at d0 d1 d2 d3 b0 b1 b2 b3
        simp only [List.length_cons, List.length_nil, dv, b0, b1, b2, b3] at h h4
        have h0 : 49 ≤ a.toNat := by omega
        have e : n = (((a.toNat - 48) * 10 + (b.toNat - 48)) * 10 + (c.toNat - 48)) * 10 + (d.toNat - 48) := by omega
        rw [tens_more (by omega), show n / 10 = ((a.toNat - 48) * 10 + (b.toNat - 48)) * 10 + (c.toNat - 48) by omega, show n % 10 = d.toNat - 48 by omega, tens_more (by omega),
          show (((a.toNat - 48) * 10 + (b.toNat - 48)) * 10 + (c.toNat - 48)) / 10 = (a.toNat - 48) * 10 + (b.toNat - 48) by omega, show (((a.toNat - 48) * 10 + (b.toNat - 48)) * 10 + (c.toNat - 48)) % 10 = c.toNat - 48 by omega,
          tens_more (by omega), show ((a.toNat - 48) * 10 + (b.toNat - 48)) / 10 = a.toNat - 48 by omega,
          show ((a.toNat - 48) * 10 + (b.toNat - 48)) % 10 = b.toNat - 48 by omega, tens_one (by omega), dig_of d0.1 d0.2, dig_of d1.1 d1.2, dig_of d2.1 d2.2, dig_of d3.1 d3.2]
        rfl
      | a :: b :: c :: d :: e :: l, _, h3, _, _, _ => exact absurd h3 (by simp only [List.length_cons]; omega)
    · cases h
theorem keyIdx_str {s : Str} {a b : Int} (ha : ¬ 0 < a) (hb : ¬ 0 < b) : keyIdx ⟨s, a⟩ = keyIdx ⟨s, b⟩ := by
  simp only [keyIdx, noIdx, ha, hb]
theorem refIdx_eq (k : Key) : refIdx k = keyIdx k := by
  unfold refIdx
  cases hk : keyIdx k with
  | some n =>
    obtain ⟨h1, h2, h3⟩ := idx_tens hk
    rw [if_neg (by simp [big]; omega), List.find?_range_eq_some]
    have hn := idx_small hk
    refine ⟨by simp [h1], by simpa using hn, fun j hj => ?_⟩
    simp only [Bool.not_eq_true', decide_eq_false_iff_not]
    intro e
    have e1 := tens_idx j (by omega)
    have e2 := tens_idx n hn
    rw [e, h1, e2] at e1
    injection e1 with e1
    omega
  | none =>
    by_cases hb : big k = true
    · rw [if_pos hb]
    · rw [if_neg hb, List.find?_range_eq_none]
      intro j hj
      simp only [Bool.not_eq_true', decide_eq_false_iff_not]
      intro e
      have e1 := tens_idx j hj
      simp only [big, Bool.or_eq_true, decide_eq_true_eq, not_or] at hb
      rw [e, keyIdx_str (b := k.sym) (by decide) hb.1] at e1
      rw [hk] at e1
      cases e1

theorem find_first {p : Nat → Bool} {n i : Nat} (hi : i < n) (hp : p i = true) (hj : ∀ j, j < i → p j = false) : (List.range n).find? p = some i := by
  rw [List.find?_range_eq_some]
  exact ⟨hp, by simpa using hi, fun j h => by simp [hj j h]⟩
theorem s_ref08_Index (k : Key) : Fun (Ev T G E) c_bailiffref08_Index [vK k] (.tup [vI ((keyIdx k).getD 0 : Nat), vB (keyIdx k).isSome]) := by
  rw [← refIdx_eq]
  refine does_start rfl ?_
  simp +contextual only [go_sem, Nat.reduceAdd, Nat.reduceLeDiff, Nat.reduceSub, Nat.reduceLT, Int.reduceLT, Int.reduceLE, Int.reduceEq, reduceCtorEq]
  refine brB_split (fun hb => ?_) (fun hb => ?_)
  · simp +contextual only [go_sem, Nat.reduceAdd, Nat.reduceLeDiff, Nat.reduceSub, Nat.reduceLT, Int.reduceLT, Int.reduceLE, Int.reduceEq, reduceCtorEq]
    refine endF_of (by first | exact resAll2 (by rfl) (by rfl) | exact resAll3 (by rfl) (by rfl) (by rfl) | rfl) (by rfl) ⟨?_, rfl⟩
    have : refIdx k = none := by unfold refIdx; rw [if_pos (show big k = true from hb)]
    rw [this]; rfl
  · have hr : refIdx k = (List.range 1024).find? fun i => decide (strB (tens i) = k.str) := by
      unfold refIdx
      rw [if_neg (by rw [show big k = false from hb]; exact Bool.false_ne_true)]
    simp +contextual only [go_sem, Nat.reduceAdd, Nat.reduceLeDiff, Nat.reduceSub, Nat.reduceLT, Int.reduceLT, Int.reduceLE, Int.reduceEq, reduceCtorEq]
    refine xK_loop (fun i : Nat => ⟨[(1, (true, .s (.ptr 0 0))), (2, (true, vI 0)), (3, (true, vB false)), (4, (true, vI i))], [.boxu (encKey k)]⟩) (fun i => i ≤ 1024 ∧ ∀ j, j < i → ¬ strB (tens j) = k.str) (fun i => 1024 - i) 0 (lw_gc [1, 2, 3, 4] [0] (by rfl) (by rfl)) ⟨Nat.zero_le _, nofun⟩ ?_
    rintro i ⟨hi, hj⟩
    simp +contextual only [go_sem, Nat.reduceAdd, Nat.reduceLeDiff, Nat.reduceSub, Nat.reduceLT, Int.reduceLT, Int.reduceLE, Int.reduceEq, reduceCtorEq]
    refine brB_dec (fun hlt => ?_) (fun hlt => ?_)
    · simp +contextual only [go_sem, Nat.reduceAdd, Nat.reduceLeDiff, Nat.reduceSub, Nat.reduceLT, Int.reduceLT, Int.reduceLE, Int.reduceEq, reduceCtorEq]
      refine gcR_fun (fun hg => s_ref07_Tens (n := i) (by omega)) (fun h => by first | exact h | rfl | simp_all) (by rfl) (.inr (by rfl)) (by rfl) ?_
      simp +contextual only [go_sem, Nat.reduceAdd, Nat.reduceLeDiff, Nat.reduceSub, Nat.reduceLT, Int.reduceLT, Int.reduceLE, Int.reduceEq, reduceCtorEq]
      refine brB_dec (fun he => ?_) (fun he => ?_)
      · simp +contextual only [go_sem, Nat.reduceAdd, Nat.reduceLeDiff, Nat.reduceSub, Nat.reduceLT, Int.reduceLT, Int.reduceLE, Int.reduceEq, reduceCtorEq]
        refine endF_of (by first | exact resAll2 (by rfl) (by rfl) | exact resAll3 (by rfl) (by rfl) (by rfl) | rfl) (by rfl) ⟨?_, rfl⟩
        have e : (List.range 1024).find? (fun i => decide (strB (tens i) = k.str)) = some i := find_first (by omega) (by simpa using he) (fun j h => by simpa using hj j h)
        rw [hr, e]; rfl
      · simp +contextual only [go_sem, Nat.reduceAdd, Nat.reduceLeDiff, Nat.reduceSub, Nat.reduceLT, Int.reduceLT, Int.reduceLE, Int.reduceEq, reduceCtorEq, wrap_succ (show i < 4294967296 by omega)]
        refine ⟨i + 1, by omega, lw_gc [1, 2, 3, 4] [0] (by rfl) (by rfl), by omega, fun j h => ?_⟩
        by_cases ej : j = i
        · subst ej; exact he
        · exact hj j (by omega)
    · simp +contextual only [go_sem, Nat.reduceAdd, Nat.reduceLeDiff, Nat.reduceSub, Nat.reduceLT, Int.reduceLT, Int.reduceLE, Int.reduceEq, reduceCtorEq]
      refine endF_of (by first | exact resAll2 (by rfl) (by rfl) | exact resAll3 (by rfl) (by rfl) (by rfl) | rfl) (by rfl) ⟨?_, rfl⟩
      have e : (List.range 1024).find? (fun i => decide (strB (tens i) = k.str)) = none := by
        rw [List.find?_range_eq_none]
        intro j h
        simpa using hj j (by omega)
      rw [hr, e]; rfl
end Go.Lx
