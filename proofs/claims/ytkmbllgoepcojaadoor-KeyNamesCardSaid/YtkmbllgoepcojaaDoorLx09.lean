import Derived.Test.YtkmbllgoepcojaaDoorLx08
import Derived.Laws.StructEq
/- The pure operations, one by one (third part). -/
set_option linter.unusedVariables false
set_option linter.unusedSimpArgs false
namespace Go.Lx
section
variable {P : Program} {fn : Nums} {x : Cx}

theorem idxS_sound {t : TypeId} (h1 : P.underlying t = some .string) {V I v : Lx.V} {u i : Value} (hV : RelV fn x V u) (hI : RelV fn x I i) (hp : pvIdxS V (idxOf I) = some v) (hvc : vcIdxS I V) :
    ∃ r, (Instr.index t u i).run P x.w = .ok r x.w ∧ RelV fn x v r := by
  unfold pvIdxS at hp
  split at hp
  · rename_i s
    injection hp with hp
    subst hp
    obtain ⟨c1, c2, c3⟩ := hvc
    obtain ⟨k, rfl⟩ := isInt_int c1 hI
    rw [inv_str hV]
    have hlt : (idxOf I).toNat < s.size := by omega
    have e : s[(idxOf I).toNat]? = some s[(idxOf I).toNat] := by simp [hlt]
    refine ⟨.int .u8 (s[(idxOf I).toNat]).toNat, ?_, ?_⟩
    · simp [Instr.index, asIntOf, run_underlying h1, c2, e]
    · have : byteAt s (idxOf I).toNat = (s[(idxOf I).toNat]).toNat := by
        unfold byteAt
        have : s.data[(idxOf I).toNat]? = some s[(idxOf I).toNat] := by
          rw [Array.getElem?_eq_getElem (by exact hlt)]; rfl
        rw [this]
        rfl
      rw [this]
      exact rel_int
  · cases hp

/-- bounds -/
theorem run_sliceBound {v : Lx.V} {u : Value} (h : RelV fn x v u) (hi : isInt v) {y : Nat} {code : BoundsCode} (h0 : 0 ≤ idxOf v) (h1 : idxOf v ≤ y) (w : World) : (Instr.sliceBound u y code).run P w = .ok (idxOf v).toNat w := by
  obtain ⟨k, rfl⟩ := isInt_int hi h
  simp [Instr.sliceBound, asIntOf, h0, h1]
theorem run_sliceBounds {isS : Bool} {len cap : Nat} {lo hi : Option Lx.V} {ulo uhi : Option Value} (hlo : ∀ v, lo = some v → ∃ u, ulo = some u ∧ RelV fn x v u) (hlo' : lo = none → ulo = none) (hhi : ∀ v, hi = some v → ∃ u, uhi = some u ∧ RelV fn x v u) (hhi' : hi = none → uhi = none)
    (hc : len ≤ cap) (hr : vcRange lo hi len) (w : World) : (Instr.sliceBounds isS len cap ulo uhi none).run P w = .ok ((bnd lo 0).toNat, (bnd hi len).toNat, cap) w := by
  obtain ⟨r1, r2, r3, r4, r5⟩ := hr
  cases lo with
  | none =>
    obtain rfl := hlo' rfl
    cases hi with
    | none =>
      obtain rfl := hhi' rfl
      simp [Instr.sliceBounds, bnd]
    | some h =>
      obtain ⟨uh, rfl, hh⟩ := hhi h rfl
      simp only [bnd] at r3 r4 r5
      have b1 := run_sliceBound (P := P) (code := if isS then .sliceAcap else .sliceAlen) hh r2 (y := cap) (by omega) (by omega) w
      simp [Instr.sliceBounds, b1, bnd]
  | some l =>
    obtain ⟨ul, rfl, hl⟩ := hlo l rfl
    cases hi with
    | none =>
      obtain rfl := hhi' rfl
      simp only [bnd] at r3 r4 r5
      have b2 := run_sliceBound (P := P) (code := .sliceB) hl r1 (y := len) (by omega) (by omega) w
      simp [Instr.sliceBounds, b2, bnd]
    | some h =>
      obtain ⟨uh, rfl, hh⟩ := hhi h rfl
      simp only [bnd] at r3 r4 r5
      have b1 := run_sliceBound (P := P) (code := if isS then .sliceAcap else .sliceAlen) hh r2 (y := cap) (by omega) (by omega) w
      have b2 := run_sliceBound (P := P) (code := .sliceB) hl r1 (y := (idxOf h).toNat) (by omega) (by omega) w
      simp [Instr.sliceBounds, b1, b2, bnd]
theorem run_sliceBounds3 {len cap : Nat} {lo : Option Lx.V} {hi mx : Lx.V} {ulo : Option Value} {uhi umx : Value} (hlo : ∀ v, lo = some v → ∃ u, ulo = some u ∧ RelV fn x v u) (hlo' : lo = none → ulo = none) (hhi : RelV fn x hi uhi) (hmx : RelV fn x mx umx) (he : idxOf hi = idxOf mx)
    (hc : len ≤ cap) (hr : vcRange lo (some hi) len) (hm : isInt mx) (w : World) : (Instr.sliceBounds true len cap ulo (some uhi) (some umx)).run P w = .ok ((bnd lo 0).toNat, (idxOf hi).toNat, (idxOf hi).toNat) w := by
  obtain ⟨r1, r2, r3, r4, r5⟩ := hr
  have r34 : 0 ≤ idxOf hi := Int.le_trans r3 r4
  replace r5 : idxOf hi ≤ len := r5
  have h1 := run_sliceBound (P := P) (code := .slice3Acap) hmx hm (y := cap) (by rw [← he]; omega) (by rw [← he]; omega) w
  have h2 := run_sliceBound (P := P) (code := .slice3B) hhi r2 (y := (idxOf mx).toNat) (by omega) (by rw [← he]; omega) w
  cases lo with
  | none =>
    obtain rfl := hlo' rfl
    simp [Instr.sliceBounds, h1, h2, bnd, he]
  | some l =>
    obtain ⟨ul, rfl, hl⟩ := hlo l rfl
    simp only [bnd] at r3 r4
    have b2 := run_sliceBound (P := P) (code := .slice3C) hl r1 (y := (idxOf hi).toNat) (by omega) (by omega) w
    rw [he] at b2
    simp [Instr.sliceBounds, h1, h2, b2, bnd, he]

theorem sliceS_sound {t : TypeId} (h1 : P.underlying t = some .string) {V v : Lx.V} {lo hi : Option Lx.V} {u : Value} {ulo uhi : Option Value} (hV : RelV fn x V u)
    (hlo : ∀ v, lo = some v → ∃ u, ulo = some u ∧ RelV fn x v u) (hlo' : lo = none → ulo = none) (hhi : ∀ v, hi = some v → ∃ u, uhi = some u ∧ RelV fn x v u) (hhi' : hi = none → uhi = none)
    (hp : pvSliceS lo hi V = some v) (hvc : vcSliceS lo hi V) : ∃ r, (Instr.sliceAt t u ulo uhi none).run P x.w = .ok r x.w ∧ RelV fn x v r := by
  unfold pvSliceS at hp
  split at hp
  · rename_i s
    injection hp with hp
    subst hp
    rw [inv_str hV]
    refine ⟨_, ?_, rel_str⟩
    simp [Instr.sliceAt, Instr.slice, run_underlying h1, run_sliceBounds (P := P) (isS := false) hlo hlo' hhi hhi' (Nat.le_refl _) hvc]
  · cases hp

theorem sub_rows {w : World} {F : Nat → Prop} {g o sz : Nat} {l : List U} (h : RelRows w F g sz l o) (a b : Int) : RelRows w F g sz (sub l a b) (o + a.toNat * sz) := (h.take _).drop _
theorem sub_length {l : List U} {a b : Int} (h0 : 0 ≤ a) (h1 : a ≤ b) (h2 : b ≤ l.length) : (sub l a b).length = b.toNat - a.toNat := by simp [sub]; omega

theorem slice_sound {t e : TypeId} (h1 : P.underlying t = some (.slice e)) {sz : Nat} (h2 : sizeT P e = some sz) {V v : Lx.V} {lo hi mx : Option Lx.V} {u : Value} {ulo uhi umx : Option Value} (hV : RelV fn x V u)
    (hlo : ∀ v, lo = some v → ∃ u, ulo = some u ∧ RelV fn x v u) (hlo' : lo = none → ulo = none) (hhi : ∀ v, hi = some v → ∃ u, uhi = some u ∧ RelV fn x v u) (hhi' : hi = none → uhi = none)
    (hmx : ∀ v, mx = some v → ∃ u, umx = some u ∧ RelV fn x v u) (hmx' : mx = none → umx = none)
    (hp : pvSlice lo hi mx V = some v) (hvc : vcSlice sz lo hi mx V) : ∃ r, (Instr.sliceAt t u ulo uhi umx).run P x.w = .ok r x.w ∧ RelV fn x v r := by
  -- pure slices
  have himm : ∀ (l : List U) (a : Option Addr) (cap : Nat), u = .slice a l.length cap → l.length ≤ cap → (l = [] ∨ ∃ g o sz, a = some ⟨g, o, none⟩ ∧ x.F g ∧ RelRows x.w x.F g sz l o) →
      (vcRange lo hi l.length ∧ isIntO mx ∧ (mx.isSome = true → hi.isSome = true) ∧ (∀ e, e ∈ l → e.length = sz)) →
      (mx = none ∧ v = .s (.c (.sl (sub l (bnd lo 0) (bnd hi l.length)))) ∨ (∃ m, mx = some m ∧ bnd hi 0 = idxOf m ∧ v = .s (.full (sub l (bnd lo 0) (bnd hi l.length))))) → ∃ r, (Instr.sliceAt t u ulo uhi umx).run P x.w = .ok r x.w ∧ RelV fn x v r := by
    intro l a cap hu hcap hr hc hv
    obtain ⟨c1, c2, c3, c4⟩ := hc
    have hc1 := c1
    obtain ⟨r1, r2, r3, r4, r5⟩ := c1
    have hlen : (sub l (bnd lo 0) (bnd hi l.length)).length = (bnd hi l.length).toNat - (bnd lo 0).toNat := sub_length r3 r4 r5
    have hrows : ∀ (a' : Option Addr), (∀ (g o : Nat), a = some ⟨g, o, none⟩ → a' = some ⟨g, o + (bnd lo 0).toNat * sz, none⟩ ∨ (bnd lo 0).toNat = (bnd hi l.length).toNat) → (sub l (bnd lo 0) (bnd hi l.length)) = [] ∨ ∃ g o sz, a' = some ⟨g, o, none⟩ ∧ x.F g ∧ RelRows x.w x.F g sz (sub l (bnd lo 0) (bnd hi l.length)) o := by
      intro a' ha'
      rcases hr with rfl | ⟨g, o, sz', ha, hF, hr⟩
      · left; simp [sub]
      · rcases ha' g o ha with h | h
        · by_cases hl : l = []
          · left; subst hl; simp [sub]
          · right
            obtain ⟨y, hy⟩ := List.exists_mem_of_ne_nil l hl
            have : sz' = sz := by rw [← hr.sizes y hy, c4 y hy]
            subst this
            exact ⟨g, _, sz', h, hF, sub_rows hr _ _⟩
        · left
          apply List.eq_nil_of_length_eq_zero
          omega
    subst hu
    rcases hv with ⟨hm, rfl⟩ | ⟨m, hm, he, rfl⟩
    · rw [hmx' hm]
      refine ⟨.slice (if cap = (bnd lo 0).toNat then a else a.map (·.add ((bnd lo 0).toNat * sz))) ((bnd hi l.length).toNat - (bnd lo 0).toNat) (cap - (bnd lo 0).toNat), ?_, ?_⟩
      · simp [Instr.sliceAt, Instr.slice, run_underlying h1, run_sliceBounds (P := P) (isS := true) hlo hlo' hhi hhi' hcap hc1, run_sizeT h2]
      · simp only [RelV, RelDC, RelC]
        refine ⟨_, _, by rw [hlen], by rw [hlen]; omega, hrows _ (fun g o ha => ?_)⟩
        by_cases hcl : cap = (bnd lo 0).toNat
        · right; omega
        · left; simp [hcl, ha, add_none]
    · obtain ⟨um, hum, hmr⟩ := hmx m hm
      have hhs : hi.isSome = true := c3 (by simp [hm])
      obtain ⟨hv, hhv⟩ := Option.isSome_iff_exists.1 hhs
      obtain ⟨uh, huh, hhr⟩ := hhi hv hhv
      subst hhv
      simp only [bnd] at he
      rw [hum, huh]
      refine ⟨.slice (if (idxOf hv).toNat = (bnd lo 0).toNat then a else a.map (·.add ((bnd lo 0).toNat * sz))) ((idxOf hv).toNat - (bnd lo 0).toNat) ((idxOf hv).toNat - (bnd lo 0).toNat), ?_, ?_⟩
      · have hb := run_sliceBounds3 (P := P) (len := l.length) (cap := cap) hlo hlo' hhr hmr he hcap hc1 (by rw [hm] at c2; exact c2) x.w
        simp [Instr.sliceAt, Instr.slice, run_underlying h1, hb, run_sizeT h2]
      · simp only [RelV, RelDC]
        refine ⟨_, by rw [hlen]; rfl, hrows _ (fun g o ha => ?_)⟩
        by_cases hcl : (idxOf hv).toNat = (bnd lo 0).toNat
        · right; exact hcl.symm
        · left; simp [hcl, ha, add_none]
  unfold pvSlice at hp
  split at hp
  · rename_i l
    simp only [RelV, RelDC, RelC] at hV
    obtain ⟨a, cap, h3, h4, h5⟩ := hV
    refine himm l a cap h3 h4 h5 hvc ?_
    split at hp
    · injection hp with hp; exact .inl ⟨rfl, hp.symm⟩
    · split at hp
      · injection hp with hp; exact .inr ⟨_, rfl, ‹_›, hp.symm⟩
      · cases hp
  · rename_i l
    simp only [RelV, RelDC] at hV
    obtain ⟨a, h3, h5⟩ := hV
    refine himm l a _ h3 (Nat.le_refl _) h5 hvc ?_
    split at hp
    · injection hp with hp; exact .inl ⟨rfl, hp.symm⟩
    · split at hp
      · injection hp with hp; exact .inr ⟨_, rfl, ‹_›, hp.symm⟩
      · cases hp
  · rename_i id g sz' off n
    split at hp
    · injection hp with hp
      subst hp
      simp only [vcSlice] at hvc
      obtain ⟨hc, rfl⟩ := hvc
      have hc1 := hc
      obtain ⟨r1, r2, r3, r4, r5⟩ := hc
      simp only [RelV, RelDC] at hV
      obtain ⟨a, cap, rfl, hle, hsm, r, h3, h4⟩ := hV
      rw [hmx' rfl]
      refine ⟨.slice (if cap = (bnd lo 0).toNat then a else a.map (·.add ((bnd lo 0).toNat * sz'))) ((bnd hi n).toNat - (bnd lo 0).toNat) (cap - (bnd lo 0).toNat), ?_, ?_⟩
      · simp [Instr.sliceAt, Instr.slice, run_underlying h1, run_sliceBounds (P := P) (isS := true) hlo hlo' hhi hhi' hle hc1, run_sizeT h2]
      · simp only [RelV, RelDC]
        refine ⟨_, _, rfl, by omega, ?_, r, h3, ?_⟩
        · by_cases hcl : cap = (bnd lo 0).toNat
          · left; omega
          · rcases hsm with h | ⟨g2, o2, h⟩
            · left; omega
            · right; rw [if_neg hcl, h]; exact ⟨g2, _, by rw [Option.map_some, add_none]⟩
        · cases r <;> simp only at h4 ⊢
          all_goals
            refine ⟨h4.1, fun he => ?_⟩
            obtain ⟨e0, e⟩ := h4.2 he
            refine ⟨e0, ?_⟩
            by_cases hcl : cap = (bnd lo 0).toNat
            · left; omega
            · rcases e with e | ⟨b, cs, ty, f, e1, e2, e3, e4⟩
              · left; omega
              · right
                refine ⟨b, cs, ty, f, e1, ?_, e3, ?_⟩
                · rw [if_neg hcl, e2, Option.map_some, add_none, e0, Nat.add_mul]
                · rw [show off + (bnd lo 0).toNat + (cap - (bnd lo 0).toNat) = off + cap by omega]
                  exact e4
    · cases hp
  · cases hp
end
end Go.Lx
