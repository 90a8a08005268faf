import Derived.Test.YtkmbllgoepcojaaRows
import Derived.Test.YtkmbllgoepcojaaLxLkKo
import Derived.Test.YtkmbllgoepcojaaLxS19
import Derived.Test.YtkmbllgoepcojaaLxOP2
import Derived.ProofKit
/- KeyOrder of layer 8 answers true for every list of keys: the order is that of the document, the list stays as it is, what is answered is new memory. Condition: none beyond the row. -/
set_option linter.unusedVariables false
set_option maxRecDepth 1000000
namespace Go.Proofs.Ytkmbllgoepcojaa
open Go.ChangeShapes Go.WideShapes Go.ChangeAt Go.RowKit Go.Lx

theorem Try.own : ownKnob Try.prog.godebug = none := by kernel_rfl
theorem keyOrder_ss : Try.f4.params.toList.mapM (shT Try.prog 8) = some [(false, [.sl shKey])] := by kernel_rfl
theorem keyOrder_does {us : List V} (hsh : HasVs [(false, [.sl shKey])] us) : Does En c_bailifflaw08_KeyOrder us [] fun v _ => v = .s (.c (.bool true)) := by
  obtain ⟨a, rfl, ha⟩ := has_one hsh
  obtain ⟨l, rfl, hl⟩ := hasV_keys ha
  exact d_KeyOrder
theorem keyOrder_lifted (os : Os) (started : os.Started) (H : Type) (enc : TypeId × Value → H) :
    ReturnsInHanded {} Try.checked os 4 .any (Rows.keyOrderSpec.pre6 enc Try.prog Try.f4 Rows.keyOrderRow.domain false) (Rows.keyOrderSpec.post enc Try.prog Try.f4 false true false false) := by
  refine returnsInHanded_of_change (C := Try.checked) Try.own started (by kernel_rfl) Try.func4
    (ChangeSpec.witness6 (enc := enc) (C := Try.checked) false ⟨#[], #[.slice none 0 0], []⟩ 8 (by kernel_rfl) (by kernel_rfl) (by kernel_rfl) (by kernel_rfl)) ?_
  intro W base args ds gs before hval0 hW hcnd _
  have hW' := hW
  obtain ⟨p, q, hA0, hV, rfl, hfz, hnd⟩ := hW
  have hA : DataW.TrodAll enc Try.prog W 0 (fun _ => true) true Try.f4.params.toList args.toList ds p := hA0
  have hval : ∀ (j : Nat) t v, Try.f4.params.toList[j]? = some t → args.toList[j]? = some v → Value.okWide Try.prog W .any base t v := fun j t v h1 h2 => hval0 j t v (by simpa using h1) (by simpa using h2)
  obtain ⟨us, hus, hsh⟩ := open_args (nm := nm) keyOrder_ss hval hA
  have hA2 := hA
  rw [Try.params4] at hA2
  obtain ⟨v0, d0, rfl, rfl, h0⟩ := trodAll_one hA2
  obtain ⟨rfl, rfl⟩ := trodVars_none hV
  refine (law_calls linked (k := 4) (c := c_bailifflaw08_KeyOrder) rfl hus (keyOrder_does hsh) Try.func4 rfl (by decide)).mono fun e W' ⟨he, h1', h2', h3'⟩ => ?_
  subst he
  exact ⟨_, rfl, post_law (n := 8) (tb := 4) hW' rfl (plain_of keyOrder_ss) rfl (by kernel_rfl) Try.underlying4 h1' h2' h3'⟩

theorem keyOrder_holds : Rows.KeyOrderSaid :=
  OpenClaim.holds_of_wide 4 Try.f4 rfl rfl rfl rfl rfl rfl rfl ⟨rfl, rfl, rfl, rfl, rfl⟩ rfl rfl rfl rfl rfl (by kernel_rfl) Try.func4 (by kernel_rfl)
    (of_decide_eq_true (by kernel_rfl)) (by unfold Func.isWrapper; first | (rw [if_pos (by decide +kernel)]; kernel_rfl) | (rw [if_neg (by decide +kernel)]; exact ⟨rfl, rfl⟩))
    (fun os started H enc _ => keyOrder_lifted os started H enc)
end Go.Proofs.Ytkmbllgoepcojaa
