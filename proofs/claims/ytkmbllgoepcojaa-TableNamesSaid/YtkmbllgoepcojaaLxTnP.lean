/- TableNames of layer 10 answers true: the closed sentence is worked out by the kernel over the program's functions told in a small language. Condition: none; nothing is handed in. -/
import Derived.Test.YtkmbllgoepcojaaRows
import Derived.Test.YtkmbllgoepcojaaLxLkTn
import Derived.ProofKit
set_option linter.unusedVariables false
set_option maxRecDepth 1000000
namespace Go.Proofs.Ytkmbllgoepcojaa
open Go.ChangeShapes Go.WideShapes Go.ChangeAt Go.RowKit Go.Lx

theorem Try.own : ownKnob Try.prog.godebug = none := by kernel_rfl
theorem names_run : saysTrue (run (fun f => (fnsL sT).lookup f) (primC sG sT sE) 2000 60 c_bailifflaw10_TableNames [] []) = true := by kernel_rfl
theorem names_does : Does En c_bailifflaw10_TableNames [] [] fun v _ => v = .s (.c (.bool true)) := does_of_run names_run

theorem names_lifted (os : Os) (started : os.Started) (H : Type) (enc : TypeId × Value → H) :
    ReturnsInHanded {} Try.checked os 6 .any (Rows.tableNamesSpec.pre6 enc Try.prog Try.f6 Rows.tableNamesRow.domain false) (Rows.tableNamesSpec.post enc Try.prog Try.f6 false true false false) := by
  refine returnsInHanded_of_change (C := Try.checked) Try.own started (by kernel_rfl) Try.func6
    (ChangeSpec.witness6 (enc := enc) (C := Try.checked) false ⟨#[], #[], []⟩ 8 (by kernel_rfl) (by kernel_rfl) (by kernel_rfl) (by kernel_rfl)) ?_
  intro W base args ds gs before hval0 hW hcnd _
  have hW' := hW
  obtain ⟨p, q, hA0, hV, rfl, hfz, hnd⟩ := hW
  have hA : DataW.TrodAll enc Try.prog W 0 (fun _ => true) true Try.f6.params.toList args.toList ds p := hA0
  rw [Try.params6] at hA
  obtain ⟨rfl, rfl, rfl⟩ := trodAll_none hA
  obtain ⟨rfl, rfl⟩ := trodVars_none hV
  have hc := law_calls linked (k := 6) (c := c_bailifflaw10_TableNames) rfl (W := W) (args := #[]) (us := []) (by simp [RelVs]) names_does Try.func6 rfl (by decide)
  refine hc.mono fun e W' ⟨he, h1, h2, h3⟩ => ?_
  subst he
  refine ⟨_, rfl, ?_⟩
  exact post_law (n := 8) (tb := 4) hW' rfl (by rw [Try.params6]; intro t ht; cases ht) rfl (by kernel_rfl) Try.underlying4 h1 h2 h3

theorem names_holds : Rows.TableNamesSaid :=
  OpenClaim.holds_of_wide 6 Try.f6 rfl rfl rfl rfl rfl rfl rfl ⟨rfl, rfl, rfl, rfl, rfl⟩ rfl rfl rfl rfl rfl (by kernel_rfl) Try.func6 (by kernel_rfl)
    (of_decide_eq_true (by kernel_rfl)) (by unfold Func.isWrapper; first | (rw [if_pos (by decide +kernel)]; kernel_rfl) | (rw [if_neg (by decide +kernel)]; exact ⟨rfl, rfl⟩))
    (fun os started H enc _ => names_lifted os started H enc)
end Go.Proofs.Ytkmbllgoepcojaa
