import Derived.Test.YtkmbllgoepcojaaDoorLx30
import Derived.ChangeSame
import Derived.ProofKit
/- A law's claim, out of what the language tells. -/
set_option linter.unusedVariables false
set_option linter.unusedSimpArgs false
namespace Go.Lx

theorem mapM_again {α β : Type} {f g : α → Option β} : ∀ {l : List α} {r : List β}, l.mapM f = some r → (∀ y, y ∈ l → ∀ z, z ∈ r → f y = some z → g y = some z) → l.mapM g = some r
  | [], r, h, _ => by rw [mapM_nil h]; simp
  | a :: l, r, h, hg => by
    obtain ⟨b, r', h1, h2, rfl⟩ := mapM_cons h
    have k1 := hg a (by simp) b (by simp) h1
    have k2 := mapM_again h2 (fun y hy z hz => hg y (by simp [hy]) z (by simp [hz]))
    simp [List.mapM_cons, k1, k2]

section
variable {H : Type} {enc : TypeId × Value → H} {P : Program} {w w' : World} {held : Bool}

theorem cell_kept (hk : ∀ b, b < w.heap.size → w'.heap[b]? = w.heap[b]?) {a : Addr} {v : Value} (h : w.cell? a = some v) : w'.cell? a = some v := by
  have := (cell_none h).2
  simpa [World.cell?, hk _ this] using h
theorem cells_kept (hk : ∀ b, b < w.heap.size → w'.heap[b]? = w.heap[b]?) {a : Addr} {n : Nat} {cs : List Value} (h : w.cells? 0 a n = some cs) : w'.cells? 0 a n = some cs := by
  unfold World.cells? at h ⊢
  rw [if_pos (Nat.zero_le _)] at h ⊢
  exact mapM_again h (fun y _ z _ hz => cell_kept hk hz)

theorem trod_again (hk : ∀ b, b < w.heap.size → w'.heap[b]? = w.heap[b]?) : ∀ (n : Nat) {t : TypeId} {sh : List Sh}, shapeT P n t = some sh → ∀ {sp : Nat → Bool} {fuel : Nat} {cs : List Value} {x : DataW H × List MemPlace},
    DataW.trod enc P w 0 (fun _ => true) held fuel t cs = some x → (∀ p, p ∈ x.2 → sp p.block = true) → DataW.trod enc P w' 0 sp held fuel t cs = some x := by
  intro n
  induction n with
  | zero => intro t sh h; simp [shapeT] at h
  | succ n ih =>
    intro t sh h sp fuel cs x hx hsp
    cases fuel with
    | zero => simp [DataW.trod] at hx
    | succ f =>
      simp only [shapeT] at h
      split at h
      · rename_i k hu
        rcases cs with _ | ⟨v, _ | ⟨v', r⟩⟩
        · simp [DataW.trod, hu] at hx
        · cases v <;> simp only [DataW.trod, hu, reduceCtorEq] at hx ⊢
          exact hx
        · simp [DataW.trod, hu] at hx
      · rename_i hu
        rcases cs with _ | ⟨v, _ | ⟨v', r⟩⟩
        · simp [DataW.trod, hu] at hx
        · cases v <;> simp only [DataW.trod, hu, reduceCtorEq] at hx ⊢
          exact hx
        · simp [DataW.trod, hu] at hx
      · rename_i hu
        rcases cs with _ | ⟨v, _ | ⟨v', r⟩⟩
        · simp [DataW.trod, hu] at hx
        · cases v <;> simp only [DataW.trod, hu, reduceCtorEq] at hx ⊢
          exact hx
        · simp [DataW.trod, hu] at hx
      · rename_i hu
        rcases cs with _ | ⟨v, _ | ⟨v', r⟩⟩
        · simp [DataW.trod, hu] at hx
        · cases v <;> simp only [DataW.trod, hu, reduceCtorEq] at hx ⊢
          exact hx
        · simp [DataW.trod, hu] at hx
      · rename_i e hu
        split at h
        · rename_i s hs
          split at h
          · rename_i hc
            have hpos : 0 < P.cellsOf e := by
              rw [hc.1]
              have := hc.2
              cases s with
              | nil => exact absurd rfl this
              | cons _ _ => simp
            have again : ∀ {a : Addr} {ps : List MemPlace}, (∀ p, p ∈ ps → sp p.block = true) → ∀ (i : Nat) (z : DataW H × List MemPlace), (∀ p, p ∈ z.2 → p ∈ ps) → (w.cells? 0 (a.add (i * P.cellsOf e)) (P.cellsOf e)).bind (DataW.trod enc P w 0 (fun _ => true) held f e) = some z →
                (w'.cells? 0 (a.add (i * P.cellsOf e)) (P.cellsOf e)).bind (DataW.trod enc P w' 0 sp held f e) = some z := by
              intro a ps hps i z hz hy
              rw [Option.bind_eq_some_iff] at hy ⊢
              obtain ⟨c, h1, h2⟩ := hy
              exact ⟨c, cells_kept hk h1, ih hs h2 (fun p hp => hps p (hz p hp))⟩
            rcases cs with _ | ⟨v, _ | ⟨v', r⟩⟩
            · simp [DataW.trod, hu] at hx
            · cases v with
              | slice a len cap =>
                cases a with
                | none =>
                  cases len with
                  | zero =>
                    cases cap with
                    | zero => simp only [DataW.trod, hu] at hx ⊢; exact hx
                    | succ cap => simp [DataW.trod, hu] at hx
                  | succ len => simp [DataW.trod, hu] at hx
                | some a =>
                  simp only [DataW.trod, hu] at hx ⊢
                  split at hx
                  · rename_i hcap
                    rw [if_pos hcap]
                    rw [Option.bind_eq_some_iff] at hx ⊢
                    obtain ⟨elems, h1, h2⟩ := hx
                    simp only [if_true, Option.map_eq_some_iff] at h2
                    obtain ⟨rest, h3, rfl⟩ := h2
                    simp only at hsp
                    refine ⟨elems, mapM_again h1 (fun i _ z hz hy => again hsp i z (fun p hp => List.mem_append_right _ (List.mem_flatMap.2 ⟨z, List.mem_append_left _ hz, hp⟩)) hy), ?_⟩
                    rw [Option.map_eq_some_iff]
                    refine ⟨rest, ?_, rfl⟩
                    have hlr : rest.length = cap - len := by
                      have : ∀ {α β : Type} {g : α → Option β} {l : List α} {r : List β}, l.mapM g = some r → r.length = l.length := by
                        intro α β g l
                        induction l with
                        | nil => intro r h; rw [mapM_nil h]; rfl
                        | cons y l ihl => intro r h; obtain ⟨b, r', _, h2, rfl⟩ := mapM_cons h; simp [ihl h2]
                      simpa using this h3
                    by_cases hb : sp a.block = true
                    · rw [if_pos hb]
                      exact mapM_again h3 (fun i _ z hz hy => again hsp (len + i) z (fun p hp => List.mem_append_right _ (List.mem_flatMap.2 ⟨z, List.mem_append_right _ hz, hp⟩)) hy)
                    · rw [if_neg hb]
                      cases rest with
                      | nil => rfl
                      | cons z rest =>
                        exfalso
                        refine hb (hsp (.cell a.block (a.off + 0)) (List.mem_append_left _ ?_))
                        unfold MemPlace.row
                        refine List.mem_map.2 ⟨0, ?_, rfl⟩
                        rw [List.mem_range]
                        refine Nat.mul_pos ?_ hpos
                        simp
                        omega
                  · cases hx
              | _ => simp [DataW.trod, hu] at hx
            · simp [DataW.trod, hu] at hx
          · cases h
        · cases h
      · rename_i fs hu
        split at h
        · rename_i s hs
          simp only [DataW.trod, hu] at hx ⊢
          split at hx
          · rename_i hlen
            rw [if_pos hlen]
            rw [Option.map_eq_some_iff] at hx ⊢
            obtain ⟨xs, hx, rfl⟩ := hx
            refine ⟨xs, ?_, rfl⟩
            have hfs : ∀ {fl : List Field} {off : Nat} {s : List Sh}, shapeFs P (shapeT P n) fl off = some s → ∀ g, g ∈ fl → ∃ s', shapeT P n g.type = some s' := by
              intro fl
              induction fl with
              | nil => intro off s _ g hg; simp at hg
              | cons g0 fl ihf =>
                intro off s h1 g hg
                simp only [shapeFs] at h1
                split at h1
                · cases h1
                · split at h1
                  · cases h1
                  · rename_i sa hsa
                    split at h1
                    · cases h1
                    · split at h1
                      · cases h1
                      · rename_i sb hsb
                        rcases List.mem_cons.1 hg with e | hg
                        · subst e; exact ⟨sa, hsa⟩
                        · exact ihf hsb g hg
            refine mapM_again hx (fun g hg z hz hy => ?_)
            obtain ⟨s', hs'⟩ := hfs hs g hg
            exact ih hs' hy (fun p hp => hsp p (List.mem_flatMap.2 ⟨z, hz, hp⟩))
          · cases hx
        · cases h
      · cases h

/-- types whose values are plain data -/
def plainTypes (P : Program) (n : Nat) (ts : List TypeId) : Prop := ∀ t, t ∈ ts → (shapeT P n t).isSome = true

theorem trodAll_again (hk : ∀ b, b < w.heap.size → w'.heap[b]? = w.heap[b]?) {n : Nat} {sp : Nat → Bool} : ∀ {ts : List TypeId} {vs : List Value} {ds : List (DataW H)} {ps : List MemPlace}, plainTypes P n ts → DataW.TrodAll enc P w 0 (fun _ => true) held ts vs ds ps → (∀ p, p ∈ ps → sp p.block = true) → DataW.TrodAll enc P w' 0 sp held ts vs ds ps
  | [], [], [], _, _, h, _ => h
  | t :: ts, _ :: _, _ :: _, _, hT, ⟨p, q, ⟨fuel, h1⟩, h2, e⟩, hs => by
    have ht := hT t (by simp)
    cases hsh : shapeT P n t with
    | none => simp [hsh] at ht
    | some s => exact ⟨p, q, ⟨fuel, trod_again hk n hsh h1 (fun x hx => hs x (by rw [e]; exact List.mem_append_left _ hx))⟩, trodAll_again hk (fun t ht => hT t (by simp [ht])) h2 (fun x hx => hs x (by rw [e]; exact List.mem_append_right _ hx)), e⟩
end

/-- A law's answer: true, the arguments read as before, all else as it was. -/
theorem post_law {H : Type} {enc : TypeId × Value → H} {P : Program} {f : Func} {s : ChangeSpec} {apart fresh handsOn again : Bool} {W W' : World} {args : Array Value} {ds gs : List (DataW H)} {before : List MemPlace} {n : Nat}
    (hW : DataW.Whole enc P f.params.toList s.vars apart W args.toList ds gs before) (hv : s.vars = []) (hT : plainTypes P n f.params.toList)
    (hfn : s.fn H ds = { results := [.lit (.bool true)], args := ds }) {tb : TypeId} (hr : f.resultTypes = #[tb]) (htb : P.underlying tb = some .bool)
    (hos : W'.os = W.os) (hout : W'.output = W.output) (hk : ∀ b, b < W.heap.size → W'.heap[b]? = W.heap[b]?) : s.post enc P f apart fresh handsOn again W args (.bool true) W' := by
  have hlt := hW.lt
  have hW' := hW
  obtain ⟨p, q, h1, h2, rfl, hz, hn⟩ := hW
  rw [hv] at h2
  have hgs : gs = [] ∧ q = [] := by
    cases gs with
    | nil => exact ⟨rfl, h2⟩
    | cons g gs => exact h2.elim
  obtain ⟨rfl, rfl⟩ := hgs
  simp only [List.append_nil] at hW' hz hn hlt ⊢
  have hres : ∀ (b : Nat) (sp : Nat → Bool) (hd : Bool), DataW.TrodAll enc P W' b sp hd f.resultTypes.toList ((Value.bool true).resultList f.resultTypes.size) (s.fn H (ds ++ [])).results [] := by
    intro b sp hd
    rw [hr, List.append_nil, hfn]
    exact ⟨[], [], ⟨1, by simp [DataW.trod, htb, Value.cells]⟩, rfl, rfl⟩
  have hargs : ∀ sp : Nat → Bool, (∀ x ∈ p, sp x.block = true) → DataW.TrodAll enc P W' 0 sp true f.params.toList args.toList (s.fn H (ds ++ [])).args p := by
    intro sp hsp
    rw [List.append_nil, hfn]
    exact trodAll_again hk hT h1 hsp
  have hvars : ∀ sp : Nat → Bool, DataW.TrodVars enc P W' sp s.vars (s.fn H (ds ++ [])).vars [] := by
    intro sp
    rw [hv, List.append_nil, hfn]
    rfl
  have hold : ∀ x ∈ p, (fun b => decide (b < W.heap.size)) x.block = true := fun x hx => by simpa using hlt x hx
  refine ⟨ds, [], p, [], p, [], hW', hres _ _ _, hargs _ hold, hvars _, ⟨hos, hout, fun i hi => ?_⟩, fun _ => ⟨fun j t r h3 h4 => ?_, _, _, ([] ++ p) ++ [], ⟨[] ++ p, [], ChangeShapes.trodAll_append (hargs _ (fun _ _ => rfl)) (hres _ _ _), hvars _, rfl, ?_, ?_⟩, ?_⟩⟩
  · rw [hk i hi]
    have := World.keptBut_refl W (fun _ => False)
    have := this.2.2 i hi
    cases hb : W.heap[i]? with
    | none => trivial
    | some o =>
      rw [hb] at this
      cases o <;> simp_all
  · rw [hr] at h3 h4
    simp only [List.size_toArray, List.length_cons, List.length_nil, Nat.zero_add, Value.resultList] at h4
    cases j with
    | zero =>
      simp only [if_true, List.getElem?_toArray, List.getElem?_cons_zero, Option.some.injEq] at h3 h4
      subst h3 h4
      simp [Value.okWide, htb, Cell.okWide, Cell.ok]
    | succ j => simp at h3
  · intro b off hp
    have hp : MemPlace.cell b off ∈ p := by simpa using hp
    have h3 := hz b off hp
    have hb := hlt _ hp
    simp only [MemPlace.block] at hb
    unfold World.frozen? at h3 ⊢
    simp only [hk b hb]
    exact h3
  · intro ha
    simpa using hn ha
  · intro x hx _
    simpa using hx

/-- The contract of a law, out of what the language tells of it. -/
theorem law_calls {P : Program} {nm : FuncId → Option Nat} {E : Env} (hL : Linked P nm E) {k : FuncId} {c : Nat} (hk : nm k = some c) {W : World} {args : Array Value} {us : List V}
    (hus : RelVs (Fn_ nm) (Cx.start W) us args.toList) (H : Does E c us [] fun v _ => v = .s (.c (.bool true))) {func : Func} {b : Go.Code} (hf : P.funcs[k]? = some func) (hb : func.body = some b) (hn : func.name ≠ "runtime.NumGoroutine")
    (ht : ∀ c b, nm (b + tabOff) = some (tabCode + c) → b < W.heap.size ∧ TabAt W c b) :
    Calls P k args W fun e W' => e = .returned (.bool true) ∧ W'.os = W.os ∧ W'.output = W.output ∧ ∀ b, b < W.heap.size → W'.heap[b]? = W.heap[b]? := by
  have h := (does_calls hL H).2 k hk (Cx.start W) rfl (Good.start _ W ht) args hus
  rcases h with ⟨u, w', h1, _⟩ | ⟨_, h2⟩
  · exfalso
    have e := run_callFunc hf hb hn args (Cx.start W).w
    rw [h1] at e
    injection e with e _
    cases e
  · refine h2.mono fun e w' he => ?_
    cases e with
    | returned u =>
      obtain ⟨v, x', rfl, h3, h4, h5, rfl⟩ := he
      have := inv_bool h5
      subst this
      exact ⟨rfl, h4.os, h4.output, fun b hb => h4.keep b hb start_own⟩
    | panicked ch => exact he.elim
    | outgrown => exact he.elim
end Go.Lx
