import Derived.Test.YtkmbllgoepcojaaDoorLxS0
import Derived.Test.YtkmbllgoepcojaaDoorLxK3
import Derived.Test.YtkmbllgoepcojaaDoorLxQ7
/- A closed sentence that the interpreter answers by true, and that leaves nothing behind. -/
set_option linter.unusedVariables false
namespace Go.Lx
def saysJust : Option (V × List Root) → Bool
  | some (.s (.c (.bool b)), []) => b
  | _ => false
theorem fun_of_run {fns : List (Nat × Fn)} {G T E : Nat} {fuel d c : Nat} (h : saysJust (run (fun f => fns.lookup f) (primC G T E) fuel d c [] []) = true) : Fun (envOf fns G T E) c [] (vB true) := by
  have hs := run_sound (E := envOf fns G T E) (prim := primC G T E) (fun f args h v h' H => Does.prim (E := envOf fns G T E) (primC_sound H)) (fuel := fuel) d
  cases hr : run (fun f => fns.lookup f) (primC G T E) fuel d c [] [] with
  | none => rw [hr] at h; simp [saysJust] at h
  | some p =>
    obtain ⟨v, h'⟩ := p
    rw [hr] at h
    refine Does.mono _ _ _ _ _ ?_ (hs _ _ _ _ _ hr)
    rintro w k ⟨rfl, rfl⟩
    unfold saysJust at h
    split at h
    · rename_i b e
      injection e with e
      injection e with e1 e2
      subst e1 e2
      rw [h]
      exact ⟨rfl, rfl⟩
    · cases h
end Go.Lx

/- KeyNames answers true. -/
set_option linter.unusedVariables false
set_option linter.unusedSimpArgs false
set_option maxRecDepth 100000
namespace Go.Lx
open Ieee
variable {T G E : Nat}

theorem fdiv00 : fdiv 0 0 = none := by decide +kernel
theorem nan_word {t c : Nat} (h : c = (t % 2) * 2 ^ 63 + 0x7ff0000000000000 + 1 + (t / 2) % (2 ^ 52 - 1)) : c < 2 ^ 64 ∧ feq c c = false := by
  have hlt : c < 2 ^ 64 := by omega
  refine ⟨hlt, ?_⟩
  rw [feq_self]
  unfold isNum
  rw [decode_eq]
  have w1 : double.signWeight = 9223372036854775808 := by decide
  have w2 : double.binade = 4503599627370496 := by decide
  have w3 : double.infRung = 9218868437227405312 := by decide
  have e1 : 9218868437227405312 < c % 9223372036854775808 := by
    have h2 : t % 2 = 0 ∨ t % 2 = 1 := by omega
    rcases h2 with h2 | h2 <;> rw [h2] at h <;> omega
  unfold Format.read
  simp only [w1, w2, w3]
  rw [if_neg (by omega), if_neg (by omega), if_neg (by omega)]
  rfl
/-- the keys of the chapter's example -/
def l7 : List Key := [strK ⟨#[98]⟩, strK ⟨#[49, 48]⟩, symK 1, strK ⟨#[50]⟩, strK ⟨#[97]⟩, strK ⟨#[48, 49]⟩, symK 0]
theorem ord7 : ordL l7 = [strK ⟨#[50]⟩, strK ⟨#[49, 48]⟩, strK ⟨#[98]⟩, strK ⟨#[97]⟩, strK ⟨#[48, 49]⟩, symK 1, symK 0] := by decide +kernel
theorem i1 : keyIdx (strK ⟨#[49, 48, 50, 51]⟩) = some 1023 := by decide +kernel
theorem i2 : keyIdx (strK ⟨#[49, 48, 50, 52]⟩) = none := by decide +kernel
theorem i3 : keyIdx (strK ⟨#[48, 49]⟩) = none := by decide +kernel
theorem i4 : keyIdx (strK ⟨#[45, 49]⟩) = none := by decide +kernel
theorem i5 : keyIdx ⟨⟨#[51]⟩, 4⟩ = none := by decide +kernel
def v7 : Val := ⟨3, 4619567317775286272, Val.zero.str, Val.zero.ref⟩
def vT : Val := ⟨2, 4607182418800017408, Val.zero.str, Val.zero.ref⟩
def vNan (c : Nat) : Val := ⟨3, c, Val.zero.str, Val.zero.ref⟩
def vSy : Val := ⟨5, Val.zero.num, Val.zero.str, 2⟩
def vTh : Val := ⟨6, Val.zero.num, Val.zero.str, 2⟩
theorem w7 : v7.wf := ⟨⟨by decide, by decide⟩, by decide, by decide, ⟨by decide, by decide⟩⟩
theorem wT : vT.wf := ⟨⟨by decide, by decide⟩, by decide, by decide, ⟨by decide, by decide⟩⟩
theorem wN {c : Nat} (h : c < 2 ^ 64) : (vNan c).wf := ⟨⟨show (0 : Int) ≤ 3 by decide, show (3 : Int) ≤ 255 by decide⟩, h, show (0 : Nat) ≤ maxLen by decide, ⟨show (-9223372036854775808 : Int) ≤ 0 by decide, show (0 : Int) ≤ 9223372036854775807 by decide⟩⟩
theorem wSy : vSy.wf := ⟨⟨by decide, by decide⟩, by decide, by decide, ⟨by decide, by decide⟩⟩
theorem wTh : vTh.wf := ⟨⟨by decide, by decide⟩, by decide, by decide, ⟨by decide, by decide⟩⟩
theorem p7 : primE v7 = false ∧ primK v7 = strK ⟨#[55]⟩ := by decide +kernel
theorem pT : primE vT = false ∧ primK vT = strK ⟨#[116, 114, 117, 101]⟩ := by decide +kernel
theorem pSy : primE vSy = false ∧ primK vSy = symK 2 := by decide +kernel
theorem pTh : primE vTh = true ∧ primK vTh = .zero := by decide +kernel
theorem pN {c : Nat} (h : feq c c = false) : primE (vNan c) = false ∧ primK (vNan c) = strK ⟨#[78, 97, 78]⟩ := by
  have hm : numMay c = true := by simp [numMay, h]
  have hE : primE (vNan c) = false := by
    unfold primE valMay isObj vNan
    rw [hm]
    rfl
  refine ⟨hE, ?_⟩
  unfold primK
  rw [hE]
  unfold vNan numText
  rw [h]
  rfl
theorem s_quo00 {R : V → List Root → Prop} {h : List Root} (H : ∀ c, c < 2 ^ 64 → feq c c = false → R (vF c) h) : Does (Ev T G E) 4000100 [vF 0, vF 0] h R := by
  refine Does.prim ?_
  intro c hc
  rcases hc with hc | ⟨_, t, hc⟩
  · rw [fdiv00] at hc; cases hc
  · obtain ⟨h1, h2⟩ := nan_word hc
    exact H c h1 h2
theorem itoa3 : itoaS (-3) = ⟨#[45, 51]⟩ := by decide +kernel
theorem chk1 : keyCheck ⟨Key.zero.str, -1⟩ = 9 := by decide +kernel
theorem chk2 : keyCheck ⟨⟨#[97]⟩, 1⟩ = 9 := by decide +kernel
theorem chk3 : keyCheck (symK 5) = 0 := by decide +kernel
theorem sym_1 : symK (-1) = Key.zero := by decide +kernel
theorem l7n : l7.length = 7 := rfl
theorem c7 : ((7 : Nat) : Int) = 7 := rfl
theorem dk {a : Key} : decide (a = a) = true := by simp
set_option maxHeartbeats 4000000 in
theorem d_KeyNames (ha : Fun (Ev T G E) c_bailifflaw08_alive [] (vB true)) : Does (Ev T G E) c_bailifflaw08_KeyNames [] [] fun v _ => v = vB true := by
  refine does_start rfl ?_
  simp +contextual only [go_sem, Nat.reduceAdd, Nat.reduceLeDiff, Nat.reduceSub, Nat.reduceLT, Int.reduceLT, Int.reduceLE, Int.reduceEq, reduceCtorEq]
  refine caR_fun (s_key_Of' ⟨#[98]⟩) (by rfl) (.inr (by rfl)) (by rfl) ?_
  simp +contextual only [go_sem, Nat.reduceAdd, Nat.reduceLeDiff, Nat.reduceSub, Nat.reduceLT, Int.reduceLT, Int.reduceLE, Int.reduceEq, reduceCtorEq]
  refine caR_fun (s_key_Of' ⟨#[49, 48]⟩) (by rfl) (.inr (by rfl)) (by rfl) ?_
  simp +contextual only [go_sem, Nat.reduceAdd, Nat.reduceLeDiff, Nat.reduceSub, Nat.reduceLT, Int.reduceLT, Int.reduceLE, Int.reduceEq, reduceCtorEq]
  refine caR_fun (s_key_Sym (n := 1) ⟨by decide, by decide⟩) (by rfl) (.inr (by rfl)) (by rfl) ?_
  simp +contextual only [go_sem, Nat.reduceAdd, Nat.reduceLeDiff, Nat.reduceSub, Nat.reduceLT, Int.reduceLT, Int.reduceLE, Int.reduceEq, reduceCtorEq]
  refine caR_fun (s_key_Of' ⟨#[50]⟩) (by rfl) (.inr (by rfl)) (by rfl) ?_
  simp +contextual only [go_sem, Nat.reduceAdd, Nat.reduceLeDiff, Nat.reduceSub, Nat.reduceLT, Int.reduceLT, Int.reduceLE, Int.reduceEq, reduceCtorEq]
  refine caR_fun (s_key_Of' ⟨#[97]⟩) (by rfl) (.inr (by rfl)) (by rfl) ?_
  simp +contextual only [go_sem, Nat.reduceAdd, Nat.reduceLeDiff, Nat.reduceSub, Nat.reduceLT, Int.reduceLT, Int.reduceLE, Int.reduceEq, reduceCtorEq]
  refine caR_fun (s_key_Of' ⟨#[48, 49]⟩) (by rfl) (.inr (by rfl)) (by rfl) ?_
  simp +contextual only [go_sem, Nat.reduceAdd, Nat.reduceLeDiff, Nat.reduceSub, Nat.reduceLT, Int.reduceLT, Int.reduceLE, Int.reduceEq, reduceCtorEq]
  refine caR_fun (s_key_Sym (n := 0) ⟨by decide, by decide⟩) (by rfl) (.inr (by rfl)) (by rfl) ?_
  simp +contextual only [go_sem, Nat.reduceAdd, Nat.reduceLeDiff, Nat.reduceSub, Nat.reduceLT, Int.reduceLT, Int.reduceLE, Int.reduceEq, reduceCtorEq]
  refine caR_does (s_key_Order (l := l7) (by decide)) (by rfl) ?_
  rintro v h ⟨rfl, rfl, hol⟩
  refine ⟨.inr ⟨by rfl, plain_rowK⟩, ?_⟩
  rw [ord7]
  simp +contextual only [go_sem, Nat.reduceAdd, Nat.reduceLeDiff, Nat.reduceSub, Nat.reduceLT, Int.reduceLT, Int.reduceLE, Int.reduceEq, reduceCtorEq, elemAt, l7n, c7, dk, Int.reduceToNat]
  refine gcR_fun (fun hg => s_key_Of' ⟨#[50]⟩) (fun h => by first | exact h | rfl | simp_all) (by rfl) (.inr (by rfl)) (by rfl) ?_
  simp +contextual only [go_sem, Nat.reduceAdd, Nat.reduceLeDiff, Nat.reduceSub, Nat.reduceLT, Int.reduceLT, Int.reduceLE, Int.reduceEq, reduceCtorEq, elemAt, l7n, c7, dk, Int.reduceToNat]
  refine gcR_fun (fun hg => s_key_Of' ⟨#[49, 48]⟩) (fun h => by first | exact h | rfl | simp_all) (by rfl) (.inr (by rfl)) (by rfl) ?_
  simp +contextual only [go_sem, Nat.reduceAdd, Nat.reduceLeDiff, Nat.reduceSub, Nat.reduceLT, Int.reduceLT, Int.reduceLE, Int.reduceEq, reduceCtorEq, elemAt, l7n, c7, dk, Int.reduceToNat]
  refine gcR_fun (fun hg => s_key_Of' ⟨#[98]⟩) (fun h => by first | exact h | rfl | simp_all) (by rfl) (.inr (by rfl)) (by rfl) ?_
  simp +contextual only [go_sem, Nat.reduceAdd, Nat.reduceLeDiff, Nat.reduceSub, Nat.reduceLT, Int.reduceLT, Int.reduceLE, Int.reduceEq, reduceCtorEq, elemAt, l7n, c7, dk, Int.reduceToNat]
  refine gcR_fun (fun hg => s_key_Of' ⟨#[97]⟩) (fun h => by first | exact h | rfl | simp_all) (by rfl) (.inr (by rfl)) (by rfl) ?_
  simp +contextual only [go_sem, Nat.reduceAdd, Nat.reduceLeDiff, Nat.reduceSub, Nat.reduceLT, Int.reduceLT, Int.reduceLE, Int.reduceEq, reduceCtorEq, elemAt, l7n, c7, dk, Int.reduceToNat]
  refine gcR_fun (fun hg => s_key_Of' ⟨#[48, 49]⟩) (fun h => by first | exact h | rfl | simp_all) (by rfl) (.inr (by rfl)) (by rfl) ?_
  simp +contextual only [go_sem, Nat.reduceAdd, Nat.reduceLeDiff, Nat.reduceSub, Nat.reduceLT, Int.reduceLT, Int.reduceLE, Int.reduceEq, reduceCtorEq, elemAt, l7n, c7, dk, Int.reduceToNat]
  refine gcR_fun (fun hg => s_key_Sym (n := 1) ⟨by decide, by decide⟩) (fun h => by first | exact h | rfl | simp_all) (by rfl) (.inr (by rfl)) (by rfl) ?_
  simp +contextual only [go_sem, Nat.reduceAdd, Nat.reduceLeDiff, Nat.reduceSub, Nat.reduceLT, Int.reduceLT, Int.reduceLE, Int.reduceEq, reduceCtorEq, elemAt, l7n, c7, dk, Int.reduceToNat]
  refine gcR_fun (fun hg => s_key_Sym (n := 0) ⟨by decide, by decide⟩) (fun h => by first | exact h | rfl | simp_all) (by rfl) (.inr (by rfl)) (by rfl) ?_
  simp +contextual only [go_sem, Nat.reduceAdd, Nat.reduceLeDiff, Nat.reduceSub, Nat.reduceLT, Int.reduceLT, Int.reduceLE, Int.reduceEq, reduceCtorEq, elemAt, l7n, c7, dk, Int.reduceToNat]
  refine caR_cut (fun s => s.get 2 = (true, vB true) ∧ s.h = [.row 0 2 (l7.map encKey), .row 0 2 ([strK ⟨#[50]⟩, strK ⟨#[49, 48]⟩, strK ⟨#[98]⟩, strK ⟨#[97]⟩, strK ⟨#[48, 49]⟩, symK 1, symK 0].map encKey)]) ⟨by rfl, by rfl⟩ ?_
  rintro s ⟨g2, hh⟩
  refine caR_fun (s_key_Of' ⟨#[49, 48, 50, 51]⟩) (by rfl) (.inr (by rfl)) (by rfl) ?_
  simp +contextual only [go_sem, Nat.reduceAdd, Nat.reduceLeDiff, Nat.reduceSub, Nat.reduceLT, Int.reduceLT, Int.reduceLE, Int.reduceEq, reduceCtorEq, i1, i2, i3, i4, i5, Option.isSome_some, Option.isSome_none, Option.getD_some, Option.getD_none, hh, g2]
  refine caR_fun (s_key_Index (strK ⟨#[49, 48, 50, 51]⟩)) (by rfl) (.inr (by rfl)) (by rfl) ?_
  simp +contextual only [go_sem, Nat.reduceAdd, Nat.reduceLeDiff, Nat.reduceSub, Nat.reduceLT, Int.reduceLT, Int.reduceLE, Int.reduceEq, reduceCtorEq, i1, i2, i3, i4, i5, Option.isSome_some, Option.isSome_none, Option.getD_some, Option.getD_none, hh, g2]
  refine caR_fun (s_key_Of' ⟨#[49, 48, 50, 52]⟩) (by rfl) (.inr (by rfl)) (by rfl) ?_
  simp +contextual only [go_sem, Nat.reduceAdd, Nat.reduceLeDiff, Nat.reduceSub, Nat.reduceLT, Int.reduceLT, Int.reduceLE, Int.reduceEq, reduceCtorEq, i1, i2, i3, i4, i5, Option.isSome_some, Option.isSome_none, Option.getD_some, Option.getD_none, hh, g2]
  refine caR_fun (s_key_Index (strK ⟨#[49, 48, 50, 52]⟩)) (by rfl) (.inr (by rfl)) (by rfl) ?_
  simp +contextual only [go_sem, Nat.reduceAdd, Nat.reduceLeDiff, Nat.reduceSub, Nat.reduceLT, Int.reduceLT, Int.reduceLE, Int.reduceEq, reduceCtorEq, i1, i2, i3, i4, i5, Option.isSome_some, Option.isSome_none, Option.getD_some, Option.getD_none, hh, g2]
  refine caR_fun (s_key_Of' ⟨#[48, 49]⟩) (by rfl) (.inr (by rfl)) (by rfl) ?_
  simp +contextual only [go_sem, Nat.reduceAdd, Nat.reduceLeDiff, Nat.reduceSub, Nat.reduceLT, Int.reduceLT, Int.reduceLE, Int.reduceEq, reduceCtorEq, i1, i2, i3, i4, i5, Option.isSome_some, Option.isSome_none, Option.getD_some, Option.getD_none, hh, g2]
  refine caR_fun (s_key_Index (strK ⟨#[48, 49]⟩)) (by rfl) (.inr (by rfl)) (by rfl) ?_
  simp +contextual only [go_sem, Nat.reduceAdd, Nat.reduceLeDiff, Nat.reduceSub, Nat.reduceLT, Int.reduceLT, Int.reduceLE, Int.reduceEq, reduceCtorEq, i1, i2, i3, i4, i5, Option.isSome_some, Option.isSome_none, Option.getD_some, Option.getD_none, hh, g2]
  refine caR_fun (s_key_Of' ⟨#[45, 49]⟩) (by rfl) (.inr (by rfl)) (by rfl) ?_
  simp +contextual only [go_sem, Nat.reduceAdd, Nat.reduceLeDiff, Nat.reduceSub, Nat.reduceLT, Int.reduceLT, Int.reduceLE, Int.reduceEq, reduceCtorEq, i1, i2, i3, i4, i5, Option.isSome_some, Option.isSome_none, Option.getD_some, Option.getD_none, hh, g2]
  refine caR_fun (s_key_Index (strK ⟨#[45, 49]⟩)) (by rfl) (.inr (by rfl)) (by rfl) ?_
  simp +contextual only [go_sem, Nat.reduceAdd, Nat.reduceLeDiff, Nat.reduceSub, Nat.reduceLT, Int.reduceLT, Int.reduceLE, Int.reduceEq, reduceCtorEq, i1, i2, i3, i4, i5, Option.isSome_some, Option.isSome_none, Option.getD_some, Option.getD_none, hh, g2]
  refine caR_fun (s_key_Index ⟨⟨#[51]⟩, 4⟩) (by rfl) (.inr (by rfl)) (by rfl) ?_
  simp +contextual only [go_sem, Nat.reduceAdd, Nat.reduceLeDiff, Nat.reduceSub, Nat.reduceLT, Int.reduceLT, Int.reduceLE, Int.reduceEq, reduceCtorEq, i1, i2, i3, i4, i5, Option.isSome_some, Option.isSome_none, Option.getD_some, Option.getD_none, hh, g2]
  refine caR_fun (s_key_Prim w7) (by rfl) (.inr (by rfl)) (by rfl) ?_
  simp +contextual only [go_sem, Nat.reduceAdd, Nat.reduceLeDiff, Nat.reduceSub, Nat.reduceLT, Int.reduceLT, Int.reduceLE, Int.reduceEq, reduceCtorEq, hh, g2, p7, pT, pSy, pTh]
  refine caR_fun (s_key_Prim wT) (by rfl) (.inr (by rfl)) (by rfl) ?_
  simp +contextual only [go_sem, Nat.reduceAdd, Nat.reduceLeDiff, Nat.reduceSub, Nat.reduceLT, Int.reduceLT, Int.reduceLE, Int.reduceEq, reduceCtorEq, hh, g2, p7, pT, pSy, pTh]
  refine Or.inl (s_quo00 fun c hc hn => ?_)
  obtain ⟨n1, n2⟩ := pN hn
  simp +contextual only [go_sem, Nat.reduceAdd, Nat.reduceLeDiff, Nat.reduceSub, Nat.reduceLT, Int.reduceLT, Int.reduceLE, Int.reduceEq, reduceCtorEq, hh, g2, p7, pT, pSy, pTh, n1, n2, dk]
  refine caR_fun (s_key_Prim (wN hc)) (by rfl) (.inr (by rfl)) (by rfl) ?_
  simp +contextual only [go_sem, Nat.reduceAdd, Nat.reduceLeDiff, Nat.reduceSub, Nat.reduceLT, Int.reduceLT, Int.reduceLE, Int.reduceEq, reduceCtorEq, hh, g2, p7, pT, pSy, pTh, n1, n2, dk]
  refine caR_fun (s_key_Prim wSy) (by rfl) (.inr (by rfl)) (by rfl) ?_
  simp +contextual only [go_sem, Nat.reduceAdd, Nat.reduceLeDiff, Nat.reduceSub, Nat.reduceLT, Int.reduceLT, Int.reduceLE, Int.reduceEq, reduceCtorEq, hh, g2, p7, pT, pSy, pTh, n1, n2, dk]
  refine caR_fun (s_key_Prim wTh) (by rfl) (.inr (by rfl)) (by rfl) ?_
  simp +contextual only [go_sem, Nat.reduceAdd, Nat.reduceLeDiff, Nat.reduceSub, Nat.reduceLT, Int.reduceLT, Int.reduceLE, Int.reduceEq, reduceCtorEq, hh, g2, p7, pT, pSy, pTh, n1, n2, dk]
  refine gcR_fun (fun hg => s_key_Of' ⟨#[55]⟩) (fun h => by first | exact h | rfl | simp_all) (by rfl) (.inr (by rfl)) (by rfl) ?_
  simp +contextual only [go_sem, Nat.reduceAdd, Nat.reduceLeDiff, Nat.reduceSub, Nat.reduceLT, Int.reduceLT, Int.reduceLE, Int.reduceEq, reduceCtorEq, hh, g2, p7, pT, pSy, pTh, n1, n2, dk]
  refine gcR_fun (fun hg => s_key_Of' ⟨#[116, 114, 117, 101]⟩) (fun h => by first | exact h | rfl | simp_all) (by rfl) (.inr (by rfl)) (by rfl) ?_
  simp +contextual only [go_sem, Nat.reduceAdd, Nat.reduceLeDiff, Nat.reduceSub, Nat.reduceLT, Int.reduceLT, Int.reduceLE, Int.reduceEq, reduceCtorEq, hh, g2, p7, pT, pSy, pTh, n1, n2, dk]
  refine gcR_fun (fun hg => s_key_Of' ⟨#[78, 97, 78]⟩) (fun h => by first | exact h | rfl | simp_all) (by rfl) (.inr (by rfl)) (by rfl) ?_
  simp +contextual only [go_sem, Nat.reduceAdd, Nat.reduceLeDiff, Nat.reduceSub, Nat.reduceLT, Int.reduceLT, Int.reduceLE, Int.reduceEq, reduceCtorEq, hh, g2, p7, pT, pSy, pTh, n1, n2, dk]
  refine gcR_fun (fun hg => s_key_Sym (n := 2) ⟨by decide, by decide⟩) (fun h => by first | exact h | rfl | simp_all) (by rfl) (.inr (by rfl)) (by rfl) ?_
  simp +contextual only [go_sem, Nat.reduceAdd, Nat.reduceLeDiff, Nat.reduceSub, Nat.reduceLT, Int.reduceLT, Int.reduceLE, Int.reduceEq, reduceCtorEq, hh, g2, p7, pT, pSy, pTh, n1, n2, dk]
  refine caR_fun (s_key_Check ⟨Key.zero.str, -1⟩) (by rfl) (.inr (by rfl)) (by rfl) ?_
  simp +contextual only [go_sem, Nat.reduceAdd, Nat.reduceLeDiff, Nat.reduceSub, Nat.reduceLT, Int.reduceLT, Int.reduceLE, Int.reduceEq, reduceCtorEq, hh, g2, n1, n2, dk, chk1, chk2, chk3, sym_1, itoa3]
  refine gcR_fun (fun hg => s_key_Check ⟨⟨#[97]⟩, 1⟩) (fun h => by first | exact h | rfl | simp_all) (by rfl) (.inr (by rfl)) (by rfl) ?_
  simp +contextual only [go_sem, Nat.reduceAdd, Nat.reduceLeDiff, Nat.reduceSub, Nat.reduceLT, Int.reduceLT, Int.reduceLE, Int.reduceEq, reduceCtorEq, hh, g2, n1, n2, dk, chk1, chk2, chk3, sym_1, itoa3]
  refine gcR_fun (fun hg => s_key_Sym (n := 5) ⟨by decide, by decide⟩) (fun h => by first | exact h | rfl | simp_all) (by rfl) (.inr (by rfl)) (by rfl) ?_
  simp +contextual only [go_sem, Nat.reduceAdd, Nat.reduceLeDiff, Nat.reduceSub, Nat.reduceLT, Int.reduceLT, Int.reduceLE, Int.reduceEq, reduceCtorEq, hh, g2, n1, n2, dk, chk1, chk2, chk3, sym_1, itoa3]
  refine gcR_fun (fun hg => s_key_Check (symK 5)) (fun h => by first | exact h | rfl | simp_all) (by rfl) (.inr (by rfl)) (by rfl) ?_
  simp +contextual only [go_sem, Nat.reduceAdd, Nat.reduceLeDiff, Nat.reduceSub, Nat.reduceLT, Int.reduceLT, Int.reduceLE, Int.reduceEq, reduceCtorEq, hh, g2, n1, n2, dk, chk1, chk2, chk3, sym_1, itoa3]
  refine gcR_fun (fun hg => s_key_Sym (n := -1) ⟨by decide, by decide⟩) (fun h => by first | exact h | rfl | simp_all) (by rfl) (.inr (by rfl)) (by rfl) ?_
  simp +contextual only [go_sem, Nat.reduceAdd, Nat.reduceLeDiff, Nat.reduceSub, Nat.reduceLT, Int.reduceLT, Int.reduceLE, Int.reduceEq, reduceCtorEq, hh, g2, n1, n2, dk, chk1, chk2, chk3, sym_1, itoa3]
  refine gcR_fun (fun hg => s_key_Number (n := -3) ⟨by decide, by decide⟩) (fun h => by first | exact h | rfl | simp_all) (by rfl) (.inr (by rfl)) (by rfl) ?_
  simp +contextual only [go_sem, Nat.reduceAdd, Nat.reduceLeDiff, Nat.reduceSub, Nat.reduceLT, Int.reduceLT, Int.reduceLE, Int.reduceEq, reduceCtorEq, hh, g2, n1, n2, dk, chk1, chk2, chk3, sym_1, itoa3]
  refine gcR_fun (fun hg => s_key_Of' ⟨#[45, 51]⟩) (fun h => by first | exact h | rfl | simp_all) (by rfl) (.inr (by rfl)) (by rfl) ?_
  simp +contextual only [go_sem, Nat.reduceAdd, Nat.reduceLeDiff, Nat.reduceSub, Nat.reduceLT, Int.reduceLT, Int.reduceLE, Int.reduceEq, reduceCtorEq, hh, g2, n1, n2, dk, chk1, chk2, chk3, sym_1, itoa3]
  refine gcR_fun (fun hg => ha) (fun h => by first | exact h | rfl | simp_all) (by rfl) (.inr (by rfl)) (by rfl) ?_
  simp +contextual only [go_sem, Nat.reduceAdd, Nat.reduceLeDiff, Nat.reduceSub, Nat.reduceLT, Int.reduceLT, Int.reduceLE, Int.reduceEq, reduceCtorEq, hh, g2, n1, n2, dk, chk1, chk2, chk3, sym_1, itoa3]
  exact endF_of (by rfl) (by rfl) rfl
end Go.Lx
