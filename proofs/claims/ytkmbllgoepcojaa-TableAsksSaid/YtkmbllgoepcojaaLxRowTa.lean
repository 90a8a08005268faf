import Derived.Test.YtkmbllgoepcojaaRows
import Derived.Test.YtkmbllgoepcojaaLxLkTa
import Derived.Test.YtkmbllgoepcojaaLxS18
import Derived.Test.YtkmbllgoepcojaaLxOP2
import Derived.ProofKit
/- TableAsks of layer 10 answers true for every list of properties and every key: properties are checked, found and told in their order. Condition: none beyond the row. -/
set_option linter.unusedVariables false
set_option maxRecDepth 1000000
namespace Go.Proofs.Ytkmbllgoepcojaa
open Go.ChangeShapes Go.WideShapes Go.ChangeAt Go.RowKit Go.Lx

theorem Try.own : ownKnob Try.prog.godebug = none := by kernel_rfl
theorem tableAsks_ss : Try.f5.params.toList.mapM (shT Try.prog 8) = some [(false, [.sl shProp]), (true, shKey)] := by kernel_rfl
theorem tableAsks_does {us : List V} (hsh : HasVs [(false, [.sl shProp]), (true, shKey)] us) : Does En c_bailifflaw10_TableAsks us [] fun v _ => v = .s (.c (.bool true)) := by
  obtain ⟨a, b, rfl, ha, hb⟩ := has_two hsh
  obtain ⟨l, rfl, hl⟩ := hasV_props ha
  obtain ⟨k, rfl, hk⟩ := hasV_key hb
  exact d_TableAsks hl hk
theorem tableAsks_lifted (os : Os) (started : os.Started) (H : Type) (enc : TypeId × Value → H) :
    ReturnsInHanded {} Try.checked os 5 .any (Rows.tableAsksSpec.pre6 enc Try.prog Try.f5 Rows.tableAsksRow.domain false) (Rows.tableAsksSpec.post enc Try.prog Try.f5 false true false false) := by
  refine returnsInHanded_of_change (C := Try.checked) Try.own started (by kernel_rfl) Try.func5
    (ChangeSpec.witness6 (enc := enc) (C := Try.checked) false ⟨#[], #[.slice none 0 0, .agg #[.string ⟨#[]⟩, .int .i64 0]], []⟩ 8 (by kernel_rfl) (by kernel_rfl) (by kernel_rfl) (by kernel_rfl)) ?_
  intro W base args ds gs before hval0 hW hcnd _
  have hW' := hW
  obtain ⟨p, q, hA0, hV, rfl, hfz, hnd⟩ := hW
  have hA : DataW.TrodAll enc Try.prog W 0 (fun _ => true) true Try.f5.params.toList args.toList ds p := hA0
  have hval : ∀ (j : Nat) t v, Try.f5.params.toList[j]? = some t → args.toList[j]? = some v → Value.okWide Try.prog W .any base t v := fun j t v h1 h2 => hval0 j t v (by simpa using h1) (by simpa using h2)
  obtain ⟨us, hus, hsh⟩ := open_args (nm := nm) tableAsks_ss hval hA
  have hA2 := hA
  rw [Try.params5] at hA2
  obtain ⟨v0, v1, d0, d1, p0, p1, rfl, rfl, rfl, h0, h1⟩ := trodAll_two hA2
  obtain ⟨rfl, rfl⟩ := trodVars_none hV
  refine (law_calls linked (k := 5) (c := c_bailifflaw10_TableAsks) rfl hus (tableAsks_does hsh) Try.func5 rfl (by decide)).mono fun e W' ⟨he, h1', h2', h3'⟩ => ?_
  subst he
  exact ⟨_, rfl, post_law (n := 8) (tb := 4) hW' rfl (plain_of tableAsks_ss) rfl (by kernel_rfl) Try.underlying4 h1' h2' h3'⟩

theorem tableAsks_holds : Rows.TableAsksSaid :=
  OpenClaim.holds_of_wide 5 Try.f5 rfl rfl rfl rfl rfl rfl rfl ⟨rfl, rfl, rfl, rfl, rfl⟩ rfl rfl rfl rfl rfl (by kernel_rfl) Try.func5 (by kernel_rfl)
    (of_decide_eq_true (by kernel_rfl)) (by unfold Func.isWrapper; first | (rw [if_pos (by decide +kernel)]; kernel_rfl) | (rw [if_neg (by decide +kernel)]; exact ⟨rfl, rfl⟩))
    (fun os started H enc _ => tableAsks_lifted os started H enc)
end Go.Proofs.Ytkmbllgoepcojaa
