import Derived.Test.YtkmbllgoepcojaaDoorRows
import Derived.Test.YtkmbllgoepcojaaDoorCards
import Derived.Test.YtkmbllgoepcojaaDoorTie
import Derived.Test.YtkmbllgoepcojaaDoorLxLkKn
import Derived.Test.YtkmbllgoepcojaaDoorLxS13
import Derived.Test.YtkmbllgoepcojaaDoorLxOP
import Derived.ProofKit
import Derived.LaidMore
import Derived.LaidSub
import Derived.SevenTiedAt
/- KeyNames of layer 8 answers true: the limits and the errors have their numbers, and the chapter's examples are so. Condition: the library's tables hold what the program's text lays in them (the card ties that). -/
set_option linter.unusedVariables false
set_option maxRecDepth 1000000
namespace Go.Proofs.YtkmbllgoepcojaaDoor
open Go Go.ChangeShapes Go.WideShapes Go.ChangeAt Go.RowKit Go.Lx

theorem Tryd.own : ownKnob Tryd.prog.godebug = none := by kernel_rfl
theorem keyNames_ss : Tryd.f5.params.toList.mapM (shT Tryd.prog 8) = some [] := by kernel_rfl
theorem keyNames_does {us : List V} (hsh : HasVs [] us) : Does En c_bailifflaw08_KeyNames us [] fun v _ => v = .s (.c (.bool true)) := by
  obtain rfl : us = [] := by cases us with | nil => rfl | cons a l => exact hsh.elim
  have alive : Fun En c_bailifflaw08_alive [] (vB true) := fun_of_run (fuel := 2000) (d := 60) (by kernel_rfl)
  exact d_KeyNames alive
theorem keyNames_door (os : Os) (args : Array Value) : laidMetH Tryd.prog Rows.keyNamesRow.laid ((World.doorLaid Tryd.prog 600 os).forCall (fun _ _ => 0) ⟨#[], args, []⟩).memory :=
  laidMetH_of_parts3 (fuel := 8) (laidMet_of_run' 8 (by kernel_rfl) (by kernel_rfl)) (by kernel_rfl) (by kernel_rfl)
theorem keyNames_tab {W : World} (h : laidMetH Tryd.prog Rows.keyNamesRow.laid W) : Lib.TabIs Tryd.prog W "internal/strconv.uint64pow10" .u64 Lib.pow10Tab := by
  rw [MakeChecks.laidMetH_plain _ _ _ (by kernel_rfl)] at h
  have h2 : laidMet Tryd.prog [("internal/strconv.uint64pow10", Lib.tabData .u64 Lib.pow10Tab)] W := by
    have := h.filter fun x => x.1 == "internal/strconv.uint64pow10"
    exact this
  exact Lib.tabIs_of_head (g := 1) (t := 107) (e := 96) (n := 20) (by kernel_rfl) (by kernel_rfl) (by kernel_rfl) (by kernel_rfl) (by kernel_rfl) (by kernel_rfl) h2
theorem keyNames_lifted (os : Os) (started : os.Started) (H : Type) (enc : TypeId × Value → H) :
    ReturnsInHanded {} Tryd.checked os 5 .any (fun w args => (Rows.keyNamesSpec.pre enc Tryd.prog Tryd.f5 Rows.keyNamesRow.domain false w args ∧ laidMetH Tryd.prog Rows.keyNamesRow.laid w) ∧ sizedMet enc Tryd.prog Tryd.f5 (OpenSpec.ofChange Rows.keyNamesSpec) false w args)
      (Rows.keyNamesSpec.post enc Tryd.prog Tryd.f5 false true false false) := by
  refine returnsInHanded_of_change_and (C := Tryd.checked) (X := fun w _ => laidMetH Tryd.prog Rows.keyNamesRow.laid w) (fun _ _ _ hh h => h.of_heap hh) Tryd.own started (by kernel_rfl) Tryd.func5
    (ChangeSpec.witness_shaped (enc := enc) (C := Tryd.checked) (os := os) (X := fun w _ => laidMetH Tryd.prog Rows.keyNamesRow.laid w) false (World.doorLaid Tryd.prog 600 os) #[] 8 rfl (World.shaped_of_RefB (by kernel_rfl) (by kernel_rfl)) (by kernel_rfl) (by kernel_rfl) (by kernel_rfl) (keyNames_door os _)) ?_
  intro W base args ds gs before hval0 hW hcnd _ hL _
  have hW' := hW
  obtain ⟨p, q, hA0, hV, rfl, hfz, hnd⟩ := hW
  have hA : DataW.TrodAll enc Tryd.prog W 0 (fun _ => true) true Tryd.f5.params.toList args.toList ds p := hA0
  have hval : ∀ (j : Nat) t v, Tryd.f5.params.toList[j]? = some t → args.toList[j]? = some v → Value.okWide Tryd.prog W .any base t v := fun j t v h1 _ => by simp at h1
  obtain ⟨us, hus, hsh⟩ := open_args (nm := nm) keyNames_ss hval hA
  have hA2 := hA
  rw [Tryd.params5] at hA2
  obtain ⟨rfl, rfl, rfl⟩ := trodAll_none hA2
  obtain ⟨rfl, rfl⟩ := trodVars_none hV
  refine (law_calls linked (k := 5) (c := c_bailifflaw08_KeyNames) rfl hus (keyNames_does hsh) Tryd.func5 rfl (by decide) (onetab (l := nmL) (g := 1) (by decide) (by kernel_rfl) (keyNames_tab hL))).mono fun e W' ⟨he, h1', h2', h3'⟩ => ?_
  subst he
  exact ⟨_, rfl, post_law (n := 8) (tb := 4) hW' rfl (plain_of keyNames_ss) rfl (by kernel_rfl) Tryd.underlying4 h1' h2' h3'⟩

theorem keyNames_row : Rows.KeyNamesSaid :=
  OpenClaim.holds_of_wide 5 Tryd.f5 rfl rfl rfl rfl rfl rfl rfl ⟨rfl, rfl, rfl, rfl, rfl⟩ rfl rfl rfl rfl rfl (by kernel_rfl) Tryd.func5 (by kernel_rfl)
    (of_decide_eq_true (by kernel_rfl)) (by unfold Func.isWrapper; first | (rw [if_pos (by decide +kernel)]; kernel_rfl) | (rw [if_neg (by decide +kernel)]; exact ⟨rfl, rfl⟩))
    (fun os started H enc _ => keyNames_lifted os started H enc)
/-- The card: the listed variables tied to the program's text. -/
theorem keyNames_holds : Rows.KeyNamesCardSaid :=
  Claim7.holds_tied_plain_at .later [] [.data, .data, .data] true (true, "fbd4b97a46b4cc359f269828c23f00e2c1f622509aec94cbb72b89ec2a97845f") false
    keyNames_row (fun _ h => by cases h) (by kernel_rfl) (fun _ h => by cases h) keyNames_row_tie rfl ⟨rfl, rfl⟩ (by kernel_rfl) rfl
    (fun f fn hf hfn => by
      obtain rfl : f = 5 := Option.some.inj ((show Tryd.prog.funcNamed "bailiff/bailifflaw08.KeyNames" = some 5 by kernel_rfl).symm.trans hf) |>.symm
      obtain rfl : fn = Tryd.f5 := (Option.some.inj (Tryd.func5.symm.trans hfn)).symm
      exact ⟨by kernel_rfl, fun j t ht => by
        rw [Tryd.params5] at ht
        have hm : t ∈ [] := by simpa using Array.mem_of_getElem? ht
        have hall : ([].all fun u => !Tryd.prog.wantsStandIn u) = true := by kernel_rfl
        exact (show Tryd.prog.wantsStandIn t = false by simpa using List.all_eq_true.1 hall t hm)⟩)
    (by kernel_rfl)
end Go.Proofs.YtkmbllgoepcojaaDoor
