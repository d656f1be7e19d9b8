/- Slicing, maps, lengths; and all of them as one: an abstract operation that leaves alone what was there is the model's. -/
import Derived.Test.YtndbcpfbddhonaaAb8
namespace Go.Ab
set_option linter.unusedSimpArgs false
set_option linter.unusedVariables false

def optR (μ : Mu) : Option AV → Option Value → Prop
  | none, none => True
  | some a, some A => cn μ a = some A
  | _, _ => False

section
variable {P : Program} {μ : Mu} {w : World} {nm : Nat}

theorem bound_run {x : AV} {X : Value} {y y' n : Nat} {code : BoundsCode} (hx : cn μ x = some X) (hy : y ≤ y') (h : boundA x y = some n) : (Instr.sliceBound X y' code).run P w = .ok n w ∧ n ≤ y := by
  unfold boundA at h
  split at h
  · rename_i k i
    split at h
    · rename_i hc
      cases h
      simp only [cn, Option.some.injEq] at hx
      subst hx
      exact ⟨by simp only [Instr.sliceBound, asIntOf, Sem.run_bind, Sem.run_pure, Result.andThen_ok]; rw [if_pos ⟨hc.1, by omega⟩]; rfl, by omega⟩
    · cases h
  · cases h
theorem bounds_two {isS : Bool} {len cap capc h l : Nat} {lo hi : Option AV} {LO HI : Option Value} (hlo : optR μ lo LO) (hhi : optR μ hi HI) (hcap : cap ≤ capc) (h1 : optA len (boundA · cap) hi = some h) (h2 : optA 0 (boundA · h) lo = some l) :
    (Instr.sliceBounds isS len capc LO HI none).run P w = .ok (l, h, capc) w ∧ l ≤ h ∧ (h ≤ cap ∨ h = len) := by
  cases lo <;> cases LO <;> (try exact hlo.elim) <;> cases hi <;> cases HI <;> (try exact hhi.elim) <;> simp only [optA, Option.some.injEq] at h1 h2
  · subst h1; subst h2; exact ⟨by simp [Instr.sliceBounds], by omega, .inr rfl⟩
  · obtain ⟨r, hr⟩ := bound_run (P := P) (w := w) (code := if isS then .sliceAcap else .sliceAlen) hhi hcap h1
    subst h2; exact ⟨by simp [Instr.sliceBounds, r], by omega, .inl hr⟩
  · subst h1
    obtain ⟨r, hr⟩ := bound_run (P := P) (w := w) (code := .sliceB) hlo (Nat.le_refl _) h2
    exact ⟨by simp [Instr.sliceBounds, r], hr, .inr rfl⟩
  · obtain ⟨r, hr⟩ := bound_run (P := P) (w := w) (code := if isS then .sliceAcap else .sliceAlen) hhi hcap h1
    obtain ⟨r', hr'⟩ := bound_run (P := P) (w := w) (code := .sliceB) hlo (Nat.le_refl _) h2
    exact ⟨by simp [Instr.sliceBounds, r, r'], hr', .inl hr⟩
theorem bounds_three {isS : Bool} {len cap capc h l m : Nat} {lo hi : Option AV} {x : AV} {LO HI : Option Value} {X : Value} (hlo : optR μ lo LO) (hhi : optR μ hi HI) (hx : cn μ x = some X) (hcap : cap ≤ capc) (hs : hi.isNone = false)
    (h0 : boundA x cap = some m) (h1 : optA 0 (boundA · m) hi = some h) (h2 : optA 0 (boundA · h) lo = some l) :
    (Instr.sliceBounds isS len capc LO HI (some X)).run P w = .ok (l, h, m) w ∧ l ≤ h ∧ h ≤ m ∧ m ≤ cap := by
  cases hi with
  | none => cases hs
  | some y =>
    cases HI with
    | none => exact hhi.elim
    | some Y =>
      obtain ⟨r0, hr0⟩ := bound_run (P := P) (w := w) (code := if isS then .slice3Acap else .slice3Alen) hx hcap h0
      obtain ⟨r, hr⟩ := bound_run (P := P) (w := w) (code := .slice3B) hhi (Nat.le_refl _) h1
      cases lo <;> cases LO <;> (try exact hlo.elim) <;> simp only [optA, Option.some.injEq] at h2
      · subst h2; exact ⟨by simp [Instr.sliceBounds, r0, r], by omega, hr, hr0⟩
      · obtain ⟨r', hr'⟩ := bound_run (P := P) (w := w) (code := .slice3C) hlo (Nat.le_refl _) h2
        exact ⟨by simp [Instr.sliceBounds, r0, r, r'], hr', hr, hr0⟩

theorem sliceAt_slice {t : TypeId} {X : Value} {lo hi mx : Option Value} {d : TypeDesc} (hu : P.underlying t = some d) (hd : ∀ n e, d ≠ .array n e) : (Instr.sliceAt t X lo hi mx).run P w = (Instr.slice t X lo hi mx).run P w := by
  simp only [Instr.sliceAt, Sem.run_bind, run_underlying hu, Result.andThen_ok]

theorem slice_ok {t : TypeId} {x v : AV} {X : Value} {lo hi mx : Option AV} {LO HI MX : Option Value} (hx : cn μ x = some X) (hlo : optR μ lo LO) (hhi : optR μ hi HI) (hmx : optR μ mx MX) (h : sliceA P t x lo hi mx = some v) :
    ∃ u, (Instr.sliceAt t X LO HI MX).run P w = .ok u w ∧ cn μ v = some u := by
  unfold sliceA at h
  split at h
  · rename_i s hu
    simp only [cn, Option.some.injEq] at hx
    subst hx
    split at h
    · cases h
    · rename_i hm
      have hm' : mx = none := by cases mx <;> simp_all
      subst hm'
      have : MX = none := by cases MX <;> simp_all [optR]
      subst this
      split at h
      · cases h
      · rename_i hh h1
        split at h
        · cases h
        · rename_i l h2
          cases h
          obtain ⟨r, hle, _⟩ := bounds_two (P := P) (w := w) (isS := false) hlo hhi (Nat.le_refl s.length) h1 h2
          refine ⟨.string ((⟨s.toArray⟩ : ByteArray).extract l hh), ?_, ?_⟩
          · rw [sliceAt_slice hu (fun _ _ e => by cases e)]
            have hsz : (⟨s.toArray⟩ : ByteArray).size = s.length := rfl
            simp only [Instr.slice, Sem.run_bind, run_underlying hu, Result.andThen_ok, Option.isSome_none, Bool.false_eq_true, if_false, hsz, r, Sem.run_pure]
          · simp only [cn]
            congr 2
            apply ByteArray.ext
            rw [ByteArray.data_extract]
            apply Array.ext'
            simp [List.extract_eq_take_drop, List.drop_take]
  · rename_i e hu
    simp only [cn, Option.some.injEq] at hx
    subst hx
    split at h
    · cases h
    · rename_i hsz'
      have hsz : sizeT P e ≠ none := fun h => hsz' (.inl h)
      obtain ⟨z, hz⟩ := Option.ne_none_iff_exists'.1 hsz
      split at h
      · cases h
      · rename_i m h0
        split at h
        · cases h
        · rename_i hh h1
          simp only [Option.map_eq_some_iff] at h
          obtain ⟨l, h2, rfl⟩ := h
          refine ⟨.slice none 0 0, ?_, by simp [cn]⟩
          rw [sliceAt_slice hu (fun _ _ e => by cases e)]
          cases mx with
          | none =>
            have : MX = none := by cases MX <;> simp_all [optR]
            subst this
            cases hi with
            | none =>
              have : HI = none := by cases HI <;> simp_all [optR]
              subst this
              have h1' : optA 0 (boundA · 0) (none : Option AV) = some 0 := rfl
              obtain ⟨r, hle, hh0⟩ := bounds_two (P := P) (w := w) (isS := true) (hi := none) (HI := none) (len := 0) (cap := 0) hlo trivial (Nat.le_refl 0) h1' h2
              have hl0 : l = 0 := by omega
              subst hl0
              simp only [Instr.slice, Sem.run_bind, run_underlying hu, Result.andThen_ok, r, size_run hz, Sem.run_pure]
              rfl
            | some y =>
              have hhz : hh ≤ 0 := by
                obtain ⟨Y, rfl⟩ : ∃ Y, HI = some Y := by cases HI <;> simp_all [optR]
                exact (bound_run (P := P) (w := w) (code := .sliceB) hhi (Nat.le_refl 0) h1).2
              have hh0 : hh = 0 := by omega
              subst hh0
              obtain ⟨r, hle, _⟩ := bounds_two (P := P) (w := w) (isS := true) (len := 0) (cap := 0) hlo hhi (Nat.le_refl 0) h1 h2
              have hl0 : l = 0 := by omega
              subst hl0
              simp only [Instr.slice, Sem.run_bind, run_underlying hu, Result.andThen_ok, r, size_run hz, Sem.run_pure]
              rfl
          | some q =>
            obtain ⟨Q, rfl⟩ : ∃ Q, MX = some Q := by cases MX <;> simp_all [optR]
            have hm0 : m = 0 := by have := (bound_run (P := P) (w := w) (code := .sliceB) hmx (Nat.le_refl 0) h0).2; omega
            subst hm0
            cases hi with
            | none =>
              exact (hsz' (.inr ⟨rfl, rfl⟩)).elim
            | some y =>
              obtain ⟨r, h3, h4, h5⟩ := bounds_three (P := P) (w := w) (isS := true) (len := 0) hlo hhi hmx (Nat.le_refl 0) rfl h0 h1 (by
                have hhz : hh ≤ 0 := by
                  obtain ⟨Y, rfl⟩ : ∃ Y, HI = some Y := by cases HI <;> simp_all [optR]
                  exact (bound_run (P := P) (w := w) (code := .sliceB) hhi (Nat.le_refl 0) h1).2
                have : hh = 0 := by omega
                rw [this]; exact h2)
              have : hh = 0 := by omega
              subst this
              have : l = 0 := by omega
              subst this
              simp only [Instr.slice, Sem.run_bind, run_underlying hu, Result.andThen_ok, r, size_run hz, Sem.run_pure]
              rfl
  · rename_i e n z i len cap opn alt hu
    simp only [cn, Option.map_eq_some_iff] at hx
    obtain ⟨p, hp, rfl⟩ := hx
    have hcap : cap ≤ (if opn then cap + p.extra else cap) := by split <;> omega
    split at h
    · cases h
    · rename_i hsz
      have hz : sizeT P e = some z := Classical.byContradiction hsz
      rw [sliceAt_slice hu (fun _ _ e => by cases e)]
      split at h
      · have : MX = none := by cases MX <;> simp_all [optR]
        subst this
        split at h
        · cases h
        · rename_i hh h1
          split at h
          · cases h
          · rename_i l h2
            obtain ⟨r, hle, _⟩ := bounds_two (P := P) (w := w) (isS := true) hlo hhi hcap h1 h2
            split at h
            · cases h
            · rename_i hhc
              have hhc : hh ≤ cap := by omega
              have hrun : (Instr.slice t (plSlice p z i len cap opn alt) LO HI none).run P w =
                  .ok (.slice (if (if opn then cap + p.extra else cap) = l then some ⟨p.blk, p.shift + (if p.extra = 0 then alt.getD i else i) * z, none⟩ else some ⟨p.blk, p.shift + (if p.extra = 0 then alt.getD i else i) * z + l * z, none⟩) (hh - l) ((if opn then cap + p.extra else cap) - l)) w := by
                simp only [Instr.slice, Sem.run_bind, run_underlying hu, Result.andThen_ok, plSlice, r, size_run hz, Sem.run_pure, Option.map_some, add_mk]
              rw [hrun]
              split at h
              · rename_i h0
                cases h
                subst h0
                exact ⟨_, rfl, by simp [cn, hp, plSlice]⟩
              split at h
              · rename_i hlc
                have hne : ¬ (if opn then cap + p.extra else cap) = l := by split <;> omega
                rw [if_neg hne]
                · split at h
                  · rename_i h0 ha
                    cases h
                    have : alt = none := by cases alt <;> simp_all
                    subst this
                    refine ⟨_, rfl, ?_⟩
                    simp only [cn, hp, Option.map_some, plSlice, Option.getD_none, ite_self, Option.some.injEq, Value.slice.injEq, Addr.mk.injEq, true_and, and_true]
                    refine ⟨by rw [Nat.add_mul]; omega, by split <;> omega⟩
                  · cases h
              · rename_i hlc
                have e1 : l = cap := by omega
                have e2 : hh = cap := by omega
                split at h
                · rename_i ho
                  cases h
                  rw [show (if opn = true then cap + p.extra else cap) = cap + p.extra from if_pos ho]
                  have e3 : hh - l = 0 := by omega
                  have e4 : cap + p.extra - l = p.extra := by omega
                  rw [e3, e4]
                  by_cases hx : p.extra = 0
                  · rw [if_pos (show cap + p.extra = l by omega)]
                    exact ⟨_, rfl, by simp [cn, hp, plSlice, hx]⟩
                  · rw [if_neg (show ¬ cap + p.extra = l by omega)]
                    exact ⟨_, rfl, by simp [cn, hp, plSlice, hx, Nat.add_mul, Nat.add_assoc]⟩
                · rename_i ho
                  cases h
                  have ho' : opn = false := by simpa using ho
                  refine ⟨_, rfl, ?_⟩
                  simp only [cn, hp, Option.map_some, plSlice, ho', Bool.false_eq_true, if_false, Option.some.injEq, Value.slice.injEq]
                  rw [if_pos e1.symm]
                  exact ⟨rfl, by omega, by omega⟩
      · rename_i q
        obtain ⟨Q, rfl⟩ : ∃ Q, MX = some Q := by cases MX <;> simp_all [optR]
        split at h
        · cases h
        · rename_i hin
          split at h
          · cases h
          · rename_i m h0
            split at h
            · cases h
            · rename_i hh h1
              split at h
              · cases h
              · rename_i l h2
                obtain ⟨r, h3, h4, h5⟩ := bounds_three (P := P) (w := w) (isS := true) (len := len) hlo hhi hmx hcap (by cases hi <;> simp_all) h0 h1 h2
                have hrun : (Instr.slice t (plSlice p z i len cap opn alt) LO HI (some Q)).run P w =
                    .ok (.slice (if m = l then some ⟨p.blk, p.shift + (if p.extra = 0 then alt.getD i else i) * z, none⟩ else some ⟨p.blk, p.shift + (if p.extra = 0 then alt.getD i else i) * z + l * z, none⟩) (hh - l) (m - l)) w := by
                  simp only [Instr.slice, Sem.run_bind, run_underlying hu, Result.andThen_ok, plSlice, r, size_run hz, Sem.run_pure, Option.map_some, add_mk]
                rw [hrun]
                split at h
                · rename_i e1
                  cases h
                  rw [if_pos e1]
                  exact ⟨_, rfl, by simp [cn, hp, plSlice]⟩
                · rename_i e1
                  rw [if_neg e1]
                  split at h
                  · rename_i e2
                    cases h
                    subst e2
                    exact ⟨_, rfl, by simp [cn, hp, plSlice]⟩
                  · split at h
                    · rename_i ha
                      cases h
                      have : alt = none := by cases alt <;> simp_all
                      subst this
                      refine ⟨_, rfl, ?_⟩
                      simp [cn, hp, plSlice, Nat.add_mul, Nat.add_assoc]
                    · cases h
  · cases h
end

end Go.Ab
