import Derived.Test.YtkmbllgoepcojaaDoorLx20
/- Maps. -/
set_option linter.unusedVariables false
set_option linter.unusedSimpArgs false
namespace Go.Lx
section
variable {P : Program} {nm : FuncId → Option Nat} {x : Cx} {fn : Nums}

theorem checkKey_sound {w : World} {em : Bool} : ∀ (n : Nat) {t : TypeId} {ks : List EK}, eqKs P n t = some ks → (∃ agg, aggT P t = some agg ∧ sizeT P t = some ks.length ∧ (agg = false → ks.length = 1) ∧
    ∀ (d : Nat), n ≤ d → ∀ {us : List Value}, us.length = ks.length → (Instr.checkKey em d t (if agg then .agg us.toArray else us.headD undef)).run P w = .ok () w) := by
  intro n
  induction n with
  | zero => intro t ks h; simp [eqKs] at h
  | succ n ih =>
    intro t ks h
    obtain ⟨agg, q1, q2, q3, -⟩ := eqKs_sound (P := P) (w := w) (F := fun _ => False) (n + 1) h
    refine ⟨agg, q1, q2, q3, fun d hd us hus => ?_⟩
    obtain ⟨d, rfl⟩ : ∃ m, d = m + 1 := ⟨d - 1, by omega⟩
    simp only [eqKs] at h
    split at h
    · rename_i k h1 h2
      simp [Instr.checkKey, run_underlying h1]
    · rename_i h1 h2
      simp [Instr.checkKey, run_underlying h1]
    · rename_i h1 h2
      simp [Instr.checkKey, run_underlying h1]
    · rename_i h1 h2
      simp [Instr.checkKey, run_underlying h1]
    · rename_i fs k h1 h2
      have : agg = true := by simp [aggT, h1, aggD] at q1; exact q1
      subst this
      split at h
      · split at h
        · rename_i l hl
          split at h
          · rename_i hlen
            injection h with h
            subst h
            have key : ∀ (fl : List Field) (off : Nat) (l : List EK), eqFs (eqKs P n) fl off = some l → off + l.length ≤ us.length →
                (forIn fl PUnit.unit (fun (f : Field) (r : PUnit) => (do
                  if f.name ≠ "_" then Instr.checkKey em d f.type (← part f.type us.toArray f.offset)
                  pure (ForInStep.yield PUnit.unit) : Sem (ForInStep PUnit)))).run P w = .ok PUnit.unit w := by
              intro fl
              induction fl with
              | nil => intro off l _ _; simp
              | cons f r ihr =>
                intro off l hl e1
                simp only [eqFs] at hl
                split at hl
                · cases hl
                · rename_i hn
                  have hn1 : f.name ≠ "_" := fun e => hn (.inl e)
                  have hn2 : f.offset = off := Classical.byContradiction fun e => hn (.inr e)
                  split at hl
                  · cases hl
                  · rename_i la hla
                    split at hl
                    · cases hl
                    · rename_i lb hlb
                      injection hl with hl
                      subst hl
                      obtain ⟨agg, ha, hs, h1', heq⟩ := ih hla
                      simp only [List.length_append] at e1
                      have pu := run_part ha hs (cs := us.toArray) (off := off) (by simp; omega) h1' w
                      have he := heq d (by omega) (us := (us.drop off).take la.length) (by simp; omega)
                      have hr := ihr (off + la.length) lb hlb (by omega)
                      rw [List.forIn_cons]
                      simp only [if_pos hn1, Sem.run_bind, hn2, pu, Result.andThen_ok]
                      try simp only [List.toList_toArray] at he ⊢
                      rw [he]
                      simp only [Result.andThen_ok, Sem.run_pure]
                      simpa using hr
            have := key fs.toList 0 l hl (by omega)
            simp only [Instr.checkKey, Sem.run_bind, run_underlying h1, Result.andThen_ok, if_true]
            rw [← Array.forIn_toList]
            simp at this ⊢
            rw [this]
            rfl
          · cases h
        · cases h
      · cases h
    · cases h

/-- where a key is found -/
def findL (K : V) : List (V × V) → List MapEntry → Nat → Option (Nat × Value)
  | p :: l, e :: es, i => if veq K p.1 then some (i, e.val) else findL K l es (i + 1)
  | _, _, _ => none

theorem findL_get {K : V} : ∀ {l : List (V × V)} {es : List MapEntry} {i : Nat}, RelEs fn x l es →
    (∃ j u v, findL K l es i = some (j, u) ∧ mget l K = some v ∧ RelV fn x v u ∧ v.isPure = true) ∨ (findL K l es i = none ∧ mget l K = none)
  | [], [], i, _ => .inr ⟨rfl, rfl⟩
  | p :: l, e :: es, i, h => by
    simp only [findL, mget, List.find?_cons]
    cases hq : veq K p.1
    · simp only [Bool.false_eq_true, if_false]
      exact findL_get h.2
    · simp only [if_true]
      exact .inl ⟨_, _, _, rfl, rfl, h.1.2.2.2, h.1.2.1⟩
  | [], _ :: _, i, h => h.elim
  | _ :: _, [], i, h => h.elim

/-- a key's cells -/
theorem isKey_parts {agg : Bool} {ks : List EK} {K : V} {k : Value} (hk : isKey agg ks K) (h : RelV fn x K k) :
    ∃ (u : U) (us : List Value), RelCs x.w x.F u us ∧ u.map C.ek = ks.map some ∧ k = (if agg then .agg us.toArray else us.headD undef) ∧ (K = .a u ∧ agg = true ∨ (∃ c, K = .s (.c c) ∧ u = [c]) ∧ agg = false) := by
  cases K with
  | s d =>
    cases d with
    | c c =>
      obtain ⟨rfl, hk⟩ := hk
      simp only [RelV, RelDC] at h
      exact ⟨[c], [k], ⟨h, trivial⟩, hk, rfl, .inr ⟨⟨c, rfl, rfl⟩, rfl⟩⟩
    | _ => exact hk.elim
  | a u =>
    obtain ⟨rfl, hk⟩ := hk
    simp only [RelV] at h
    obtain ⟨cs, rfl, h⟩ := h
    exact ⟨u, cs.toList, h, hk, by simp, .inl ⟨rfl, rfl⟩⟩
  | _ => exact hk.elim

theorem key_equal {kt : TypeId} {agg : Bool} {ks : List EK} (he : eqKs P 100 kt = some ks) (ha : aggT P kt = some agg) {K E : V} {k e : Value} (hk : isKey agg ks K) (h : RelV fn x K k) (hk' : isKey agg ks E) (h' : RelV fn x E e) :
    (Op.equal kt k e).run P x.w = .ok (veq K E) x.w := by
  obtain ⟨agg', q1, q2, q3, q4⟩ := eqKs_sound (P := P) (w := x.w) (F := x.F) 100 he
  rw [ha] at q1
  injection q1 with q1
  subst q1
  obtain ⟨u, us, a1, a2, rfl, a3⟩ := isKey_parts hk h
  obtain ⟨v, vs, b1, b2, rfl, b3⟩ := isKey_parts hk' h'
  have hv : veq K E = ueq u v := by
    rcases a3 with ⟨rfl, e1⟩ | ⟨⟨c, rfl, rfl⟩, e1⟩
    · rcases b3 with ⟨rfl, e2⟩ | ⟨⟨c, rfl, rfl⟩, e2⟩
      · rfl
      · rw [e1] at e2; cases e2
    · rcases b3 with ⟨rfl, e2⟩ | ⟨⟨c', rfl, rfl⟩, e2⟩
      · rw [e1] at e2; cases e2
      · simp [veq, ueq]
  rw [hv]
  exact q4 Op.maxDepth (by decide) a1 b1 a2 b2

theorem asking_sound {kt : TypeId} {agg : Bool} {ks : List EK} (he : eqKs P 100 kt = some ks) (ha : aggT P kt = some agg) {K : V} {k : Value} (hk : isKey agg ks K) (h : RelV fn x K k) :
    ∀ {l : List (V × V)} {es : List MapEntry} {i : Nat}, RelEs fn x l es → (∀ p, p ∈ l → isKey agg ks p.1) → (Instr.findAsking kt k es i).run P x.w = .ok (findL K l es i) x.w
  | [], [], i, _, _ => by simp [Instr.findAsking, findL]
  | p :: l, e :: es, i, hr, hp => by
    have := key_equal he ha hk h (hp p (by simp)) hr.1.2.2.1
    simp only [Instr.findAsking, Sem.run_bind, this, Result.andThen_ok, findL]
    cases veq K p.1
    · simp only [Bool.false_eq_true, if_false]
      exact asking_sound he ha hk h hr.2 (fun p hp' => hp p (by simp [hp']))
    · simp
  | [], _ :: _, i, h, _ => h.elim
  | _ :: _, [], i, h, _ => h.elim

theorem now_sound {kt : TypeId} {agg : Bool} {ks : List EK} {dsc : TypeDesc} (hd : P.underlying kt = some dsc) (he : eqKs P 100 kt = some ks) (ha : aggT P kt = some agg) {K : V} {k : Value} (hk : isKey agg ks K) (h : RelV fn x K k) :
    ∀ {l : List (V × V)} {es : List MapEntry} {i : Nat}, RelEs fn x l es → (∀ p, p ∈ l → isKey agg ks p.1) → Instr.findNow dsc k es i = none ∨ Instr.findNow dsc k es i = some (findL K l es i)
  | [], [], i, _, _ => .inr rfl
  | p :: l, e :: es, i, hr, hp => by
    simp only [Instr.findNow, findL]
    cases hs : Instr.sameNow dsc k e.key with
    | none => exact .inl rfl
    | some b =>
      have hb : b = veq K p.1 := by
        have hq := key_equal he ha hk h (hp p (by simp)) hr.1.2.2.1
        have he1 : (Op.equalIn Op.maxDepth kt k e.key).run P x.w = .ok b x.w := by
          have hmd : Op.maxDepth = 9999 + 1 := rfl
          unfold Instr.sameNow at hs
          split at hs
          · split at hs
            · rename_i hq1 hq2
              injection hs with hs
              subst hq2 hs
              rw [hmd, hq1, run_equalIn_int x.w 9999 kt _ _ _ _ hd]
            · cases hs
          · rename_i hq1
            injection hs with hs
            subst hs
            rw [hmd, hq1, run_equalIn_string x.w 9999 kt _ _ hd, beq_toListBytes]
          · rename_i hq1
            injection hs with hs
            subst hs
            rw [hmd, hq1, run_equalIn_bool' x.w 9999 kt _ _ hd]
          · cases hs
        unfold Op.equal at hq
        rw [he1] at hq
        injection hq
      subst hb
      cases hv : veq K p.1
      · exact now_sound hd he ha hk h hr.2 (fun p hp' => hp p (by simp [hp']))
      · exact .inr rfl
  | [], _ :: _, i, h, _ => h.elim
  | _ :: _, [], i, h, _ => h.elim

theorem find_sound {kt : TypeId} {agg : Bool} {ks : List EK} (he : eqKs P 100 kt = some ks) (ha : aggT P kt = some agg) {K : V} {k : Value} (hk : isKey agg ks K) (h : RelV fn x K k) {l : List (V × V)} {es : List MapEntry} (hr : RelEs fn x l es) (hp : ∀ p, p ∈ l → isKey agg ks p.1) :
    (Instr.findKey kt k es).run P x.w = .ok (findL K l es 0) x.w := by
  have hd : ∃ d, P.underlying kt = some d := by
    cases hd : P.underlying kt with
    | none => simp [aggT, hd] at ha
    | some d => exact ⟨d, rfl⟩
  obtain ⟨d, hd⟩ := hd
  simp only [Instr.findKey, Sem.run_bind, run_underlying hd, Result.andThen_ok]
  rcases now_sound hd he ha hk h (i := 0) hr hp with e | e
  · rw [e]; exact asking_sound he ha hk h hr hp
  · rw [e]; simp

theorem key_check {kt : TypeId} {agg : Bool} {ks : List EK} (he : eqKs P 100 kt = some ks) (ha : aggT P kt = some agg) {K : V} {k : Value} (hk : isKey agg ks K) (h : RelV fn x K k) (em : Bool) : (Instr.checkKey em 10000 kt k).run P x.w = .ok () x.w := by
  obtain ⟨agg', q1, q2, q3, q4⟩ := checkKey_sound (P := P) (w := x.w) (em := em) 100 he
  rw [ha] at q1
  injection q1 with q1
  subst q1
  obtain ⟨u, us, a1, a2, rfl, a3⟩ := isKey_parts hk h
  exact q4 10000 (by decide) (by rw [← RelCs.length a1, ks_len a2])

theorem zeroW_rel {t : TypeId} {z : V} (h : zeroW P t = some z) : ∃ i v, P.info? t = some i ∧ i.zero = some v ∧ ∀ x : Cx, RelV fn x z v := by
  unfold zeroW at h
  cases hz : zeroV P t with
  | none => simp [hz] at h
  | some v =>
    obtain ⟨i, h1, h2⟩ := zero_parts hz
    refine ⟨i, v, h1, h2, fun x => ?_⟩
    simp only [hz] at h
    split at h
    · rename_i cs e
      injection e with e
      subst e
      rw [Option.map_eq_some_iff] at h
      obtain ⟨u, h3, rfl⟩ := h
      simp only [RelV]
      exact ⟨cs, rfl, cOfs_rel h3⟩
    · rename_i w _ e
      injection e with e
      subst e
      rw [Option.map_eq_some_iff] at h
      obtain ⟨c, h3, rfl⟩ := h
      simp only [Function.comp_apply, RelV, RelDC]
      exact cOf_rel h3
    · cases h

theorem relEs_length : ∀ {l : List (V × V)} {es : List MapEntry}, RelEs fn x l es → l.length = es.length
  | [], [], _ => rfl
  | p :: l, e :: es, h => by simp [relEs_length h.2]
  | [], _ :: _, h => h.elim
  | _ :: _, [], h => h.elim
theorem relEs_append : ∀ {l l' : List (V × V)} {es es' : List MapEntry}, RelEs fn x l es → RelEs fn x l' es' → RelEs fn x (l ++ l') (es ++ es')
  | [], l', [], es', _, h => h
  | p :: l, l', e :: es, es', h, h' => ⟨h.1, relEs_append h.2 h'⟩
  | [], _, _ :: _, _, h, _ => h.elim
  | _ :: _, _, [], _, h, _ => h.elim

theorem lookup_sound (hg : Good (Fn_ nm) x) {t kt e : TypeId} (ht : P.underlying t = some (.map kt e)) {agg : Bool} {ks : List EK} (he : eqKs P 100 kt = some ks) (ha : aggT P kt = some agg) {z : V} (hz : zeroW P e = some z) {M K : V} {m k : Value} (hM : RelV (Fn_ nm) x M m) (hK : RelV (Fn_ nm) x K k) {ok : Bool} {Q : V → List Root → Prop}
    (h : match (generalizing := false) M with
    | .s (.mp id) => match x.h[id]? with
      | some (.map l) => (isKey agg ks K ∧ ∀ p, p ∈ l → isKey agg ks p.1) ∧ Q (if ok then .tup [(mget l K).getD z, .s (.c (.bool (mget l K).isSome))] else (mget l K).getD z) x.h
      | _ => False
    | _ => False) : Done P nm x (do pure (.value (← Instr.lookup t m k ok))) Q := by
  cases M with
  | s d =>
    cases d with
    | mp id =>
      simp only at h
      cases hr : x.h[id]? with
      | none => simp [hr] at h
      | some r =>
        cases r with
        | map l =>
          simp only [hr] at h
          obtain ⟨⟨hk, hl⟩, hQ⟩ := h
          simp only [RelV, RelDC] at hM
          obtain ⟨b, l', h1, h2, rfl⟩ := hM
          obtain ⟨b', es, n, h3, h4, h5⟩ := hg.root id _ hr
          rw [h2] at h3; injection h3 with h3; subst h3
          have hck := key_check he ha hk hK es.isEmpty
          have hfd := find_sound he ha hk hK h5 hl
          obtain ⟨i, zv, z1, z2, z3⟩ := zeroW_rel (fn := Fn_ nm) hz
          have hobj : (getObj b).run P x.w = .ok (.map es n) x.w := by simp [getObj, Sem.run, h4]
          rcases findL_get (K := K) (i := 0) h5 with ⟨j, u, v, f1, f2, f3, f4⟩ | ⟨f1, f2⟩
          · rw [f1] at hfd
            rw [f2] at hQ
            refine ⟨_, if ok then .tuple #[u, .bool true] else u, x, _, ?_, .inl rfl, hg, Nx.refl _ _, ?_, hQ⟩
            · refine run_v ?_
              cases ok <;> simp [Instr.lookup, run_underlying ht, hobj, hck, hfd]
            · cases ok
              · simpa using f3
              · simp only [if_true, Option.getD_some, Option.isSome_some, RelV]
                exact ⟨_, rfl, by simp only [RelVs]; exact ⟨f3, by simp only [RelV, RelDC, RelC], trivial⟩⟩
          · rw [f1] at hfd
            rw [f2] at hQ
            refine ⟨_, if ok then .tuple #[zv, .bool false] else zv, x, _, ?_, .inl rfl, hg, Nx.refl _ _, ?_, hQ⟩
            · refine run_v ?_
              cases ok <;> simp [Instr.lookup, run_underlying ht, hobj, hck, hfd, zeroValue, typeInfo, z1, z2]
            · cases ok
              · simpa using z3 x
              · simp only [if_true, Option.getD_none, Option.isSome_none, RelV]
                exact ⟨_, rfl, by simp only [RelVs]; exact ⟨z3 x, by simp only [RelV, RelDC, RelC], trivial⟩⟩
        | _ => simp [hr] at h
    | _ => exact h.elim
  | _ => exact h.elim

theorem mapUpd_sound (hg : Good (Fn_ nm) x) {t kt e : TypeId} (ht : P.underlying t = some (.map kt e)) {agg : Bool} {ks : List EK} (he : eqKs P 100 kt = some ks) (ha : aggT P kt = some agg) {M K B : V} {m k b : Value} (hM : RelV (Fn_ nm) x M m) (hK : RelV (Fn_ nm) x K k) (hB : RelV (Fn_ nm) x B b) {Q : V → List Root → Prop}
    (h : match (generalizing := false) M with
    | .s (.mp id) => match x.h[id]? with
      | some (.map l) => ((isKey agg ks K ∧ B.isPure = true) ∧ (∀ p, p ∈ l → isKey agg ks p.1) ∧ mget l K = none) ∧ Q .bot (x.h.set id (.map (l ++ [(K, B)])))
      | _ => False
    | _ => False) : Done P nm x (do Instr.mapUpdate t m k b; pure .skip) Q := by
  cases M with
  | s d =>
    cases d with
    | mp id =>
      simp only at h
      cases hr : x.h[id]? with
      | none => simp [hr] at h
      | some r =>
        cases r with
        | map l =>
          simp only [hr] at h
          obtain ⟨⟨⟨hk, hBp⟩, hl, hget⟩, hQ⟩ := h
          simp only [RelV, RelDC] at hM
          obtain ⟨bb, l', h1, h2, rfl⟩ := hM
          obtain ⟨b', es, n, h3, h4, h5⟩ := hg.root id _ hr
          rw [h2] at h3; injection h3 with h3; subst h3
          have hck := key_check he ha hk hK false
          have hfd := find_sound he ha hk hK h5 hl
          have hobj : (getObj bb).run P x.w = .ok (.map es n) x.w := by simp [getObj, Sem.run, h4]
          have hf : findL K l es.toList 0 = none := by
            rcases findL_get (K := K) (i := 0) h5 with ⟨j, u, v, f1, f2, f3, f4⟩ | ⟨f1, f2⟩
            · rw [hget] at f2; cases f2
            · exact f1
          rw [hf] at hfd
          have hset : (setObj bb (.map (es.push { key := k, val := b, born := n }) (n + 1))).run P x.w = .ok () { x.w with heap := x.w.heap.setIfInBounds bb (.map (es.push { key := k, val := b, born := n }) (n + 1)) } := by simp [setObj, Sem.run, h4]
          have hlt := (Array.getElem?_eq_some_iff.1 h4).1
          have hnew : ({ x.w with heap := x.w.heap.setIfInBounds bb (.map (es.push { key := k, val := b, born := n }) (n + 1)) } : World).heap[bb]? = some (.map (es.push { key := k, val := b, born := n }) (n + 1)) := by simp [hlt]
          have hKp : K.isPure = true := by
            cases K with
            | s d => cases d <;> first | rfl | exact hk.elim
            | a u => rfl
            | _ => exact hk.elim
          obtain ⟨g1, g2⟩ := step_set (fn := Fn_ nm) (r' := .map (l ++ [(K, B)])) hg hr rfl rfl h2 (w' := { x.w with heap := x.w.heap.setIfInBounds bb (.map (es.push { key := k, val := b, born := n }) (n + 1)) }) rfl rfl rfl (by simp) (fun c hc => by simp [Array.getElem?_setIfInBounds, Ne.symm hc]) rfl
            (fun hm => ⟨bb, _, _, h2, hnew, by
              rw [Array.toList_push]
              exact relEs_append (RelEs.mv hm h5) ⟨⟨hKp, hBp, RelV.mv hm hK, RelV.mv hm hB⟩, trivial⟩⟩)
          refine ⟨.skip, undef, _, .bot, ?_, .inr ⟨rfl, rfl⟩, g1, g2 _, by simp [RelV], hQ⟩
          simp [Instr.mapUpdate, run_underlying ht, hobj, hck, hfd, hset, Cx.put]
        | _ => simp [hr] at h
    | _ => exact h.elim
  | _ => exact h.elim
end
end Go.Lx
