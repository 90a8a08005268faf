import Derived.Test.YtkmbllgoepcojaaDoorLxS0
/- A closed sentence that the interpreter answers by true, and that leaves nothing behind. -/
set_option linter.unusedVariables false
namespace Go.Lx
def saysJust : Option (V × List Root) → Bool
  | some (.s (.c (.bool b)), []) => b
  | _ => false
theorem fun_of_run {fns : List (Nat × Fn)} {G T E : Nat} {fuel d c : Nat} (h : saysJust (run (fun f => fns.lookup f) (primC G T E) fuel d c [] []) = true) : Fun (envOf fns G T E) c [] (vB true) := by
  have hs := run_sound (E := envOf fns G T E) (prim := primC G T E) (fun f args h v h' H => Does.prim (E := envOf fns G T E) (primC_sound H)) (fuel := fuel) d
  cases hr : run (fun f => fns.lookup f) (primC G T E) fuel d c [] [] with
  | none => rw [hr] at h; simp [saysJust] at h
  | some p =>
    obtain ⟨v, h'⟩ := p
    rw [hr] at h
    refine Does.mono _ _ _ _ _ ?_ (hs _ _ _ _ _ hr)
    rintro w k ⟨rfl, rfl⟩
    unfold saysJust at h
    split at h
    · rename_i b e
      injection e with e
      injection e with e1 e2
      subst e1 e2
      rw [h]
      exact ⟨rfl, rfl⟩
    · cases h
end Go.Lx
