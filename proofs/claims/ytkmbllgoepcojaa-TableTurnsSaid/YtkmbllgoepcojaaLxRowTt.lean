import Derived.Test.YtkmbllgoepcojaaRows
import Derived.Test.YtkmbllgoepcojaaLxLkTt
import Derived.Test.YtkmbllgoepcojaaLxS9
import Derived.Test.YtkmbllgoepcojaaLxOP2
import Derived.ProofKit
/- TableTurns of layer 10 answers true for every list of properties, key and descriptor: the program and the reference put and drop alike, and what is handed in stays. Condition: none beyond the row. -/
set_option linter.unusedVariables false
set_option maxRecDepth 1000000
namespace Go.Proofs.Ytkmbllgoepcojaa
open Go.ChangeShapes Go.WideShapes Go.ChangeAt Go.RowKit Go.Lx

theorem Try.own : ownKnob Try.prog.godebug = none := by kernel_rfl
theorem tableTurns_ss : Try.f3.params.toList.mapM (shT Try.prog 8) = some [(false, [.sl shProp]), (true, shKey), (true, shDesc)] := by kernel_rfl
theorem tableTurns_does {us : List V} (hsh : HasVs [(false, [.sl shProp]), (true, shKey), (true, shDesc)] us) : Does En c_bailifflaw10_TableTurns us [] fun v _ => v = .s (.c (.bool true)) := by
  obtain ⟨a, b, c, rfl, ha, hb, hc⟩ := has_three hsh
  obtain ⟨l, rfl, hl⟩ := hasV_props ha
  obtain ⟨k, rfl, hk⟩ := hasV_key hb
  obtain ⟨d, rfl, hd⟩ := hasV_desc hc
  exact d_TableTurns hl hk hd
theorem tableTurns_lifted (os : Os) (started : os.Started) (H : Type) (enc : TypeId × Value → H) :
    ReturnsInHanded {} Try.checked os 3 .any (Rows.tableTurnsSpec.pre6 enc Try.prog Try.f3 Rows.tableTurnsRow.domain false) (Rows.tableTurnsSpec.post enc Try.prog Try.f3 false true false false) := by
  refine returnsInHanded_of_change (C := Try.checked) Try.own started (by kernel_rfl) Try.func3
    (ChangeSpec.witness6 (enc := enc) (C := Try.checked) false ⟨#[], #[.slice none 0 0, .agg #[.string ⟨#[]⟩, .int .i64 0], .agg #[.int .u8 0, .int .u8 0, .float .f64 0, .string ⟨#[]⟩, .int .i64 0, .int .u8 0, .float .f64 0, .string ⟨#[]⟩, .int .i64 0, .int .u8 0, .float .f64 0, .string ⟨#[]⟩, .int .i64 0, .bool false, .bool false, .bool false]], []⟩ 8 (by kernel_rfl) (by kernel_rfl) (by kernel_rfl) (by kernel_rfl)) ?_
  intro W base args ds gs before hval0 hW hcnd _
  have hW' := hW
  obtain ⟨p, q, hA0, hV, rfl, hfz, hnd⟩ := hW
  have hA : DataW.TrodAll enc Try.prog W 0 (fun _ => true) true Try.f3.params.toList args.toList ds p := hA0
  have hval : ∀ (j : Nat) t v, Try.f3.params.toList[j]? = some t → args.toList[j]? = some v → Value.okWide Try.prog W .any base t v := fun j t v h1 h2 => hval0 j t v (by simpa using h1) (by simpa using h2)
  obtain ⟨us, hus, hsh⟩ := open_args (nm := nm) tableTurns_ss hval hA
  have hA2 := hA
  rw [Try.params3] at hA2
  obtain ⟨v0, v1, v2, d0, d1, d2, p0, p1, p2, rfl, rfl, rfl, h0, h1, h2⟩ := trodAll_three hA2
  obtain ⟨rfl, rfl⟩ := trodVars_none hV
  refine (law_calls linked (k := 3) (c := c_bailifflaw10_TableTurns) rfl hus (tableTurns_does hsh) Try.func3 rfl (by decide)).mono fun e W' ⟨he, h1', h2', h3'⟩ => ?_
  subst he
  exact ⟨_, rfl, post_law (n := 8) (tb := 4) hW' rfl (plain_of tableTurns_ss) rfl (by kernel_rfl) Try.underlying4 h1' h2' h3'⟩

theorem tableTurns_holds : Rows.TableTurnsSaid :=
  OpenClaim.holds_of_wide 3 Try.f3 rfl rfl rfl rfl rfl rfl rfl ⟨rfl, rfl, rfl, rfl, rfl⟩ rfl rfl rfl rfl rfl (by kernel_rfl) Try.func3 (by kernel_rfl)
    (of_decide_eq_true (by kernel_rfl)) (by unfold Func.isWrapper; first | (rw [if_pos (by decide +kernel)]; kernel_rfl) | (rw [if_neg (by decide +kernel)]; exact ⟨rfl, rfl⟩))
    (fun os started H enc _ => tableTurns_lifted os started H enc)
end Go.Proofs.Ytkmbllgoepcojaa
