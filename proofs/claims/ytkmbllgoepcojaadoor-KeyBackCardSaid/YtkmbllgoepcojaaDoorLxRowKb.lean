import Derived.Test.YtkmbllgoepcojaaDoorRows
import Derived.Test.YtkmbllgoepcojaaDoorCards
import Derived.Test.YtkmbllgoepcojaaDoorTie
import Derived.Test.YtkmbllgoepcojaaDoorLxLkKb
import Derived.Test.YtkmbllgoepcojaaDoorLxK3
import Derived.Test.YtkmbllgoepcojaaDoorLxS13
import Derived.Test.YtkmbllgoepcojaaDoorLxOP
import Derived.ProofKit
import Derived.LaidMore
import Derived.LaidSub
import Derived.SevenTiedAt
/- KeyBack of layer 8 answers true for every two keys: keys and their values, texts and numbers come back. Condition: the library's tables hold what the program's text lays in them (the card ties that). -/
set_option linter.unusedVariables false
set_option maxRecDepth 1000000
namespace Go.Proofs.YtkmbllgoepcojaaDoor
open Go Go.ChangeShapes Go.WideShapes Go.ChangeAt Go.RowKit Go.Lx

theorem Tryd.own : ownKnob Tryd.prog.godebug = none := by kernel_rfl
theorem keyBack_ss : Tryd.f6.params.toList.mapM (shT Tryd.prog 8) = some [(true, shKey), (true, shKey)] := by kernel_rfl
theorem keyBack_does {us : List V} (hsh : HasVs [(true, shKey), (true, shKey)] us) : Does En c_bailifflaw08_KeyBack us [] fun v _ => v = .s (.c (.bool true)) := by
  obtain ⟨a, b, rfl, ha, hb⟩ := has_two hsh
  obtain ⟨k, rfl, hk⟩ := hasV_key ha
  obtain ⟨j, rfl, hj⟩ := hasV_key hb
  have alive : Fun En c_bailifflaw08_alive [] (vB true) := fun_of_run (fuel := 2000) (d := 60) (by kernel_rfl)
  exact d_KeyBack alive hk hj
theorem keyBack_door (os : Os) (args : Array Value) : laidMetH Tryd.prog Rows.keyBackRow.laid ((World.doorLaid Tryd.prog 600 os).forCall (fun _ _ => 0) ⟨#[], args, []⟩).memory :=
  laidMetH_of_parts3 (fuel := 8) (laidMet_of_run' 8 (by kernel_rfl) (by kernel_rfl)) (by kernel_rfl) (by kernel_rfl)
theorem keyBack_tab {W : World} (h : laidMetH Tryd.prog Rows.keyBackRow.laid W) : Lib.TabIs Tryd.prog W "internal/strconv.uint64pow10" .u64 Lib.pow10Tab := by
  rw [MakeChecks.laidMetH_plain _ _ _ (by kernel_rfl)] at h
  have h2 : laidMet Tryd.prog [("internal/strconv.uint64pow10", Lib.tabData .u64 Lib.pow10Tab)] W := by
    have := h.filter fun x => x.1 == "internal/strconv.uint64pow10"
    exact this
  exact Lib.tabIs_of_head (g := 1) (t := 107) (e := 96) (n := 20) (by kernel_rfl) (by kernel_rfl) (by kernel_rfl) (by kernel_rfl) (by kernel_rfl) (by kernel_rfl) h2
theorem keyBack_lifted (os : Os) (started : os.Started) (H : Type) (enc : TypeId × Value → H) :
    ReturnsInHanded {} Tryd.checked os 6 .any (fun w args => (Rows.keyBackSpec.pre enc Tryd.prog Tryd.f6 Rows.keyBackRow.domain false w args ∧ laidMetH Tryd.prog Rows.keyBackRow.laid w) ∧ sizedMet enc Tryd.prog Tryd.f6 (OpenSpec.ofChange Rows.keyBackSpec) false w args)
      (Rows.keyBackSpec.post enc Tryd.prog Tryd.f6 false true false false) := by
  refine returnsInHanded_of_change_and (C := Tryd.checked) (X := fun w _ => laidMetH Tryd.prog Rows.keyBackRow.laid w) (fun _ _ _ hh h => h.of_heap hh) Tryd.own started (by kernel_rfl) Tryd.func6
    (ChangeSpec.witness_shaped (enc := enc) (C := Tryd.checked) (os := os) (X := fun w _ => laidMetH Tryd.prog Rows.keyBackRow.laid w) false (World.doorLaid Tryd.prog 600 os) #[.agg #[.string ⟨#[]⟩, .int .i64 0], .agg #[.string ⟨#[]⟩, .int .i64 0]] 8 rfl (World.shaped_of_RefB (by kernel_rfl) (by kernel_rfl)) (by kernel_rfl) (by kernel_rfl) (by kernel_rfl) (keyBack_door os _)) ?_
  intro W base args ds gs before hval0 hW hcnd _ hL _
  have hW' := hW
  obtain ⟨p, q, hA0, hV, rfl, hfz, hnd⟩ := hW
  have hA : DataW.TrodAll enc Tryd.prog W 0 (fun _ => true) true Tryd.f6.params.toList args.toList ds p := hA0
  have hval : ∀ (j : Nat) t v, Tryd.f6.params.toList[j]? = some t → args.toList[j]? = some v → Value.okWide Tryd.prog W .any base t v := fun j t v h1 h2 => hval0 j t v (by simpa using h1) (by simpa using h2)
  obtain ⟨us, hus, hsh⟩ := open_args (nm := nm) keyBack_ss hval hA
  have hA2 := hA
  rw [Tryd.params6] at hA2
  obtain ⟨v0, v1, d0, d1, p0, p1, rfl, rfl, rfl, h0, h1⟩ := trodAll_two hA2
  obtain ⟨rfl, rfl⟩ := trodVars_none hV
  refine (law_calls linked (k := 6) (c := c_bailifflaw08_KeyBack) rfl hus (keyBack_does hsh) Tryd.func6 rfl (by decide) (onetab (l := nmL) (g := 1) (by decide) (by kernel_rfl) (keyBack_tab hL))).mono fun e W' ⟨he, h1', h2', h3'⟩ => ?_
  subst he
  exact ⟨_, rfl, post_law (n := 8) (tb := 4) hW' rfl (plain_of keyBack_ss) rfl (by kernel_rfl) Tryd.underlying4 h1' h2' h3'⟩

theorem keyBack_row : Rows.KeyBackSaid :=
  OpenClaim.holds_of_wide 6 Tryd.f6 rfl rfl rfl rfl rfl rfl rfl ⟨rfl, rfl, rfl, rfl, rfl⟩ rfl rfl rfl rfl rfl (by kernel_rfl) Tryd.func6 (by kernel_rfl)
    (of_decide_eq_true (by kernel_rfl)) (by unfold Func.isWrapper; first | (rw [if_pos (by decide +kernel)]; kernel_rfl) | (rw [if_neg (by decide +kernel)]; exact ⟨rfl, rfl⟩))
    (fun os started H enc _ => keyBack_lifted os started H enc)
/-- The card: the listed variables tied to the program's text. -/
theorem keyBack_holds : Rows.KeyBackCardSaid :=
  Claim7.holds_tied_plain_at .later [] [.data, .data, .data] true (true, "fbd4b97a46b4cc359f269828c23f00e2c1f622509aec94cbb72b89ec2a97845f") false
    keyBack_row (fun _ h => by cases h) (by kernel_rfl) (fun _ h => by cases h) keyBack_row_tie rfl ⟨rfl, rfl⟩ (by kernel_rfl) rfl
    (fun f fn hf hfn => by
      obtain rfl : f = 6 := Option.some.inj ((show Tryd.prog.funcNamed "bailiff/bailifflaw08.KeyBack" = some 6 by kernel_rfl).symm.trans hf) |>.symm
      obtain rfl : fn = Tryd.f6 := (Option.some.inj (Tryd.func6.symm.trans hfn)).symm
      exact ⟨by kernel_rfl, fun j t ht => by
        rw [Tryd.params6] at ht
        have hm : t ∈ [23, 23] := by simpa using Array.mem_of_getElem? ht
        have hall : ([23, 23].all fun u => !Tryd.prog.wantsStandIn u) = true := by kernel_rfl
        exact (show Tryd.prog.wantsStandIn t = false by simpa using List.all_eq_true.1 hall t hm)⟩)
    (by kernel_rfl)
end Go.Proofs.YtkmbllgoepcojaaDoor
