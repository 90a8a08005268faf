import Derived.Test.YtkmbllgoepcojaaDoorRows
import Derived.Test.YtkmbllgoepcojaaDoorCards
import Derived.Test.YtkmbllgoepcojaaDoorTie
import Derived.Test.YtkmbllgoepcojaaDoorLxLkK1
import Derived.Test.YtkmbllgoepcojaaDoorLxK3
import Derived.Test.YtkmbllgoepcojaaDoorLxOP
import Derived.ProofKit
import Derived.LaidMore
import Derived.LaidSub
import Derived.SevenTiedAt
/- KeyOnes of layer 8 answers true for every key, number and value. Condition: the library's tables hold what the program's text lays in them (the card ties that). -/
set_option linter.unusedVariables false
set_option maxRecDepth 1000000
namespace Go.Proofs.YtkmbllgoepcojaaDoor
open Go Go.ChangeShapes Go.WideShapes Go.ChangeAt Go.RowKit Go.Lx

theorem Tryd.own : ownKnob Tryd.prog.godebug = none := by kernel_rfl
theorem keyOnes_ss : Tryd.f3.params.toList.mapM (shT Tryd.prog 8) = some [(true, shKey), (false, [.int .i64]), (true, shVal)] := by kernel_rfl
theorem keyOnes_does {us : List V} (hsh : HasVs [(true, shKey), (false, [.int .i64]), (true, shVal)] us) : Does En c_bailifflaw08_KeyOnes us [] fun v _ => v = .s (.c (.bool true)) := by
  obtain ⟨a, b, c, rfl, ha, hb, hc⟩ := has_three hsh
  obtain ⟨k, rfl, hk⟩ := hasV_key ha
  obtain ⟨n, rfl, hn1, hn2⟩ := hasV_int hb
  obtain ⟨v, rfl, hv⟩ := hasV_val hc
  exact d_KeyOnes hk ⟨hn1, hn2⟩ hv
theorem keyOnes_door (os : Os) (args : Array Value) : laidMetH Tryd.prog Rows.keyOnesRow.laid ((World.doorLaid Tryd.prog 600 os).forCall (fun _ _ => 0) ⟨#[], args, []⟩).memory :=
  laidMetH_of_parts3 (fuel := 8) (laidMet_of_run' 8 (by kernel_rfl) (by kernel_rfl)) (by kernel_rfl) (by kernel_rfl)
theorem keyOnes_tab {W : World} (h : laidMetH Tryd.prog Rows.keyOnesRow.laid W) : Lib.TabIs Tryd.prog W "internal/strconv.uint64pow10" .u64 Lib.pow10Tab := by
  rw [MakeChecks.laidMetH_plain _ _ _ (by kernel_rfl)] at h
  have h2 : laidMet Tryd.prog [("internal/strconv.uint64pow10", Lib.tabData .u64 Lib.pow10Tab)] W := by
    have := h.filter fun x => x.1 == "internal/strconv.uint64pow10"
    exact this
  exact Lib.tabIs_of_head (g := 1) (t := 107) (e := 96) (n := 20) (by kernel_rfl) (by kernel_rfl) (by kernel_rfl) (by kernel_rfl) (by kernel_rfl) (by kernel_rfl) h2
theorem keyOnes_lifted (os : Os) (started : os.Started) (H : Type) (enc : TypeId × Value → H) :
    ReturnsInHanded {} Tryd.checked os 3 .any (fun w args => (Rows.keyOnesSpec.pre enc Tryd.prog Tryd.f3 Rows.keyOnesRow.domain false w args ∧ laidMetH Tryd.prog Rows.keyOnesRow.laid w) ∧ sizedMet enc Tryd.prog Tryd.f3 (OpenSpec.ofChange Rows.keyOnesSpec) false w args)
      (Rows.keyOnesSpec.post enc Tryd.prog Tryd.f3 false true false false) := by
  refine returnsInHanded_of_change_and (C := Tryd.checked) (X := fun w _ => laidMetH Tryd.prog Rows.keyOnesRow.laid w) (fun _ _ _ hh h => h.of_heap hh) Tryd.own started (by kernel_rfl) Tryd.func3
    (ChangeSpec.witness_shaped (enc := enc) (C := Tryd.checked) (os := os) (X := fun w _ => laidMetH Tryd.prog Rows.keyOnesRow.laid w) false (World.doorLaid Tryd.prog 600 os) #[.agg #[.string ⟨#[]⟩, .int .i64 0], .int .i64 0, .agg #[.int .u8 0, .float .f64 0, .string ⟨#[]⟩, .int .i64 0]] 8 rfl (World.shaped_of_RefB (by kernel_rfl) (by kernel_rfl)) (by kernel_rfl) (by kernel_rfl) (by kernel_rfl) (keyOnes_door os _)) ?_
  intro W base args ds gs before hval0 hW hcnd _ hL _
  have hW' := hW
  obtain ⟨p, q, hA0, hV, rfl, hfz, hnd⟩ := hW
  have hA : DataW.TrodAll enc Tryd.prog W 0 (fun _ => true) true Tryd.f3.params.toList args.toList ds p := hA0
  have hval : ∀ (j : Nat) t v, Tryd.f3.params.toList[j]? = some t → args.toList[j]? = some v → Value.okWide Tryd.prog W .any base t v := fun j t v h1 h2 => hval0 j t v (by simpa using h1) (by simpa using h2)
  obtain ⟨us, hus, hsh⟩ := open_args (nm := nm) keyOnes_ss hval hA
  have hA2 := hA
  rw [Tryd.params3] at hA2
  obtain ⟨v0, v1, v2, d0, d1, d2, p0, p1, p2, rfl, rfl, rfl, h0, h1, h2⟩ := trodAll_three hA2
  obtain ⟨rfl, rfl⟩ := trodVars_none hV
  refine (law_calls linked (k := 3) (c := c_bailifflaw08_KeyOnes) rfl hus (keyOnes_does hsh) Tryd.func3 rfl (by decide) (onetab (l := nmL) (g := 1) (by decide) (by kernel_rfl) (keyOnes_tab hL))).mono fun e W' ⟨he, h1', h2', h3'⟩ => ?_
  subst he
  exact ⟨_, rfl, post_law (n := 8) (tb := 4) hW' rfl (plain_of keyOnes_ss) rfl (by kernel_rfl) Tryd.underlying4 h1' h2' h3'⟩

theorem keyOnes_row : Rows.KeyOnesSaid :=
  OpenClaim.holds_of_wide 3 Tryd.f3 rfl rfl rfl rfl rfl rfl rfl ⟨rfl, rfl, rfl, rfl, rfl⟩ rfl rfl rfl rfl rfl (by kernel_rfl) Tryd.func3 (by kernel_rfl)
    (of_decide_eq_true (by kernel_rfl)) (by unfold Func.isWrapper; first | (rw [if_pos (by decide +kernel)]; kernel_rfl) | (rw [if_neg (by decide +kernel)]; exact ⟨rfl, rfl⟩))
    (fun os started H enc _ => keyOnes_lifted os started H enc)
/-- The card: the listed variables tied to the program's text. -/
theorem keyOnes_holds : Rows.KeyOnesCardSaid :=
  Claim7.holds_tied_plain_at .later [] [.data, .data, .data] true (true, "fbd4b97a46b4cc359f269828c23f00e2c1f622509aec94cbb72b89ec2a97845f") false
    keyOnes_row (fun _ h => by cases h) (by kernel_rfl) (fun _ h => by cases h) keyOnes_row_tie rfl ⟨rfl, rfl⟩ (by kernel_rfl) rfl
    (fun f fn hf hfn => by
      obtain rfl : f = 3 := Option.some.inj ((show Tryd.prog.funcNamed "bailiff/bailifflaw08.KeyOnes" = some 3 by kernel_rfl).symm.trans hf) |>.symm
      obtain rfl : fn = Tryd.f3 := (Option.some.inj (Tryd.func3.symm.trans hfn)).symm
      exact ⟨by kernel_rfl, fun j t ht => by
        rw [Tryd.params3] at ht
        have hm : t ∈ [23, 3, 26] := by simpa using Array.mem_of_getElem? ht
        have hall : ([23, 3, 26].all fun u => !Tryd.prog.wantsStandIn u) = true := by kernel_rfl
        exact (show Tryd.prog.wantsStandIn t = false by simpa using List.all_eq_true.1 hall t hm)⟩)
    (by kernel_rfl)
end Go.Proofs.YtkmbllgoepcojaaDoor
