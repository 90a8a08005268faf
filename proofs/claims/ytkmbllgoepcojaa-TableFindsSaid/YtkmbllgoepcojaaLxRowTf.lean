import Derived.Test.YtkmbllgoepcojaaRows
import Derived.Test.YtkmbllgoepcojaaLxLkTf
import Derived.Test.YtkmbllgoepcojaaLxS13
import Derived.Test.YtkmbllgoepcojaaLxOP2
import Derived.ProofKit
/- TableFinds of layer 10 answers true for every list of properties, key, descriptor and other key: what was put is found, all else stays. Condition: none beyond the row. -/
set_option linter.unusedVariables false
set_option maxRecDepth 1000000
namespace Go.Proofs.Ytkmbllgoepcojaa
open Go.ChangeShapes Go.WideShapes Go.ChangeAt Go.RowKit Go.Lx

theorem Try.own : ownKnob Try.prog.godebug = none := by kernel_rfl
theorem tableFinds_ss : Try.f7.params.toList.mapM (shT Try.prog 8) = some [(false, [.sl shProp]), (true, shKey), (true, shDesc), (true, shKey)] := by kernel_rfl
theorem tableFinds_does {us : List V} (hsh : HasVs [(false, [.sl shProp]), (true, shKey), (true, shDesc), (true, shKey)] us) : Does En c_bailifflaw10_TableFinds us [] fun v _ => v = .s (.c (.bool true)) := by
  obtain ⟨a, b, c, e, rfl, ha, hb, hc, he⟩ := has_four hsh
  obtain ⟨l, rfl, hl⟩ := hasV_props ha
  obtain ⟨k, rfl, hk⟩ := hasV_key hb
  obtain ⟨d, rfl, hd⟩ := hasV_desc hc
  obtain ⟨o, rfl, ho⟩ := hasV_key he
  have alive : Fun En c_bailifflaw10_alive [] (vB true) := fun_of_run (fuel := 2000) (d := 60) (by kernel_rfl)
  exact d_TableFinds alive hl hk hd ho
theorem tableFinds_lifted (os : Os) (started : os.Started) (H : Type) (enc : TypeId × Value → H) :
    ReturnsInHanded {} Try.checked os 7 .any (Rows.tableFindsSpec.pre6 enc Try.prog Try.f7 Rows.tableFindsRow.domain false) (Rows.tableFindsSpec.post enc Try.prog Try.f7 false true false false) := by
  refine returnsInHanded_of_change (C := Try.checked) Try.own started (by kernel_rfl) Try.func7
    (ChangeSpec.witness6 (enc := enc) (C := Try.checked) false ⟨#[], #[.slice none 0 0, .agg #[.string ⟨#[]⟩, .int .i64 0], .agg #[.int .u8 0, .int .u8 0, .float .f64 0, .string ⟨#[]⟩, .int .i64 0, .int .u8 0, .float .f64 0, .string ⟨#[]⟩, .int .i64 0, .int .u8 0, .float .f64 0, .string ⟨#[]⟩, .int .i64 0, .bool false, .bool false, .bool false], .agg #[.string ⟨#[]⟩, .int .i64 0]], []⟩ 8 (by kernel_rfl) (by kernel_rfl) (by kernel_rfl) (by kernel_rfl)) ?_
  intro W base args ds gs before hval0 hW hcnd _
  have hW' := hW
  obtain ⟨p, q, hA0, hV, rfl, hfz, hnd⟩ := hW
  have hA : DataW.TrodAll enc Try.prog W 0 (fun _ => true) true Try.f7.params.toList args.toList ds p := hA0
  have hval : ∀ (j : Nat) t v, Try.f7.params.toList[j]? = some t → args.toList[j]? = some v → Value.okWide Try.prog W .any base t v := fun j t v h1 h2 => hval0 j t v (by simpa using h1) (by simpa using h2)
  obtain ⟨us, hus, hsh⟩ := open_args (nm := nm) tableFinds_ss hval hA
  have hA2 := hA
  rw [Try.params7] at hA2
  obtain ⟨v0, vs1, d0, ds1, p0, q0, hargs, rfl, rfl, h0, hr0⟩ := trodAll_cons hA2
  obtain ⟨v1, v2, v3, d1, d2, d3, p1, p2, p3, hargs', rfl, rfl, h1, h2, h3⟩ := trodAll_three (args := vs1.toArray) (by simpa using hr0)
  obtain ⟨rfl, rfl⟩ := trodVars_none hV
  refine (law_calls linked (k := 7) (c := c_bailifflaw10_TableFinds) rfl hus (tableFinds_does hsh) Try.func7 rfl (by decide)).mono fun e W' ⟨he, h1', h2', h3'⟩ => ?_
  subst he
  exact ⟨_, rfl, post_law (n := 8) (tb := 4) hW' rfl (plain_of tableFinds_ss) rfl (by kernel_rfl) Try.underlying4 h1' h2' h3'⟩

theorem tableFinds_holds : Rows.TableFindsSaid :=
  OpenClaim.holds_of_wide 7 Try.f7 rfl rfl rfl rfl rfl rfl rfl ⟨rfl, rfl, rfl, rfl, rfl⟩ rfl rfl rfl rfl rfl (by kernel_rfl) Try.func7 (by kernel_rfl)
    (of_decide_eq_true (by kernel_rfl)) (by unfold Func.isWrapper; first | (rw [if_pos (by decide +kernel)]; kernel_rfl) | (rw [if_neg (by decide +kernel)]; exact ⟨rfl, rfl⟩))
    (fun os started H enc _ => tableFinds_lifted os started H enc)
end Go.Proofs.Ytkmbllgoepcojaa
