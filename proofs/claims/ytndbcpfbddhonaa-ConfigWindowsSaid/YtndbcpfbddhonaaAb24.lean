/- The view of what is owed is sound: operations. -/
import Derived.Test.YtndbcpfbddhonaaAb23
namespace Go.Ab
set_option linter.unusedSimpArgs false
set_option linter.unusedVariables false

theorem vInt_ok {op : BinOp} {k : IntKind} {a b : Int} {K : AV → Prop} (h : vInt op k a b K) : ∃ v, aInt op k a b = some v ∧ K (mark v) := by
  cases op <;> simp only [vInt] at h <;> first
    | exact h.elim
    | exact ⟨_, rfl, h _ rfl⟩
    | (obtain ⟨h0, h⟩ := h; exact ⟨_, if_neg (h0 ()), h _ rfl⟩)
    | skip
  all_goals obtain ⟨h1, h2⟩ := h
  · by_cases e : a = b
    · exact ⟨_, rfl, by simp only [beq_iff_eq.2 e]; exact h1 e⟩
    · exact ⟨_, rfl, by simp only [beq_eq_false_iff_ne.2 e]; exact h2 e⟩
  · by_cases e : a = b
    · exact ⟨_, rfl, by simp only [bne, beq_iff_eq.2 e]; exact h1 e⟩
    · exact ⟨_, rfl, by simp only [bne, beq_eq_false_iff_ne.2 e]; exact h2 e⟩
  · by_cases e : a < b
    · exact ⟨_, rfl, by simp only [decide_eq_true e]; exact h1 e⟩
    · exact ⟨_, rfl, by simp only [decide_eq_false e]; exact h2 (by omega)⟩
  · by_cases e : a ≤ b
    · exact ⟨_, rfl, by simp only [decide_eq_true e]; exact h1 e⟩
    · exact ⟨_, rfl, by simp only [decide_eq_false e]; exact h2 (by omega)⟩
  · by_cases e : b < a
    · exact ⟨_, rfl, by simp only [decide_eq_true e]; exact h1 e⟩
    · exact ⟨_, rfl, by simp only [decide_eq_false e]; exact h2 (by omega)⟩
  · by_cases e : b ≤ a
    · exact ⟨_, rfl, by simp only [decide_eq_true e]; exact h1 e⟩
    · exact ⟨_, rfl, by simp only [decide_eq_false e]; exact h2 (by omega)⟩
theorem vShift_ok {op : BinOp} {k : IntKind} {a b : Int} {K : AV → Prop} (h : vShift op k a b K) : ∃ v, aShift op k a b = some v ∧ K (mark v) := by
  cases op <;> simp only [vShift] at h <;> first
    | exact h.elim
    | (obtain ⟨h0, h⟩ := h; have h0 := h0 (); exact ⟨_, if_neg (by omega), h _ rfl⟩)

theorem normL_eq : ∀ vs, normL vs = vs.map norm
  | [] => rfl
  | v :: vs => by rw [normL, normL_eq vs]; rfl
theorem partAt_norm {P : Program} {t : TypeId} {xs : List AV} {off : Nat} : partAt P t (normL xs) off = (partAt P t xs off).map norm := by
  unfold partAt
  split
  · simp [normL_eq, norm]
  · simp [normL_eq]
  · rfl
theorem norm_strip (v : AV) : norm (strip v) = norm v := by cases v <;> simp [strip, norm]
theorem eqS_norm {d : TypeDesc} {x y : AV} {b : Bool} (h : eqS d x y = some b) : eqS d (norm x) (norm y) = some b := by
  unfold eqS at h
  split at h <;> first | exact h | cases h
theorem eqLeafK_ok {d : TypeDesc} {x y : AV} {K : Bool → Prop} (h : eqLeafK d x y K) : ∃ b, eqS d (norm x) (norm y) = some b ∧ K b := by
  have key : ∀ (k k' : IntKind) (a b : Int) (j : IntKind), (if k = k' then (a = b → K true) ∧ (a ≠ b → K false) else False) → ∃ r, eqS (.int j) (.int k a) (.int k' b) = some r ∧ K r := by
    intro k k' a b j h
    split at h
    · rename_i e
      subst e
      by_cases e : a = b
      · exact ⟨true, by simp [eqS, e], h.1 e⟩
      · exact ⟨false, by simp [eqS, e], h.2 e⟩
    · exact h.elim
  have key2 : ∀ (a b : List UInt8), (a = b → K true) ∧ (a ≠ b → K false) → ∃ r, eqS .string (.str a) (.str b) = some r ∧ K r := by
    intro a b h
    by_cases e : a = b
    · exact ⟨true, by simp [eqS, e], h.1 e⟩
    · exact ⟨false, by simp [eqS, e], h.2 e⟩
  unfold eqLeafK at h
  split at h
  · exact key _ _ _ _ _ h
  · exact key _ _ _ _ _ h
  · exact key _ _ _ _ _ h
  · exact key2 _ _ h
  · exact key2 _ _ h
  · exact key2 _ _ h
  · split at h
    · rename_i b hb
      exact ⟨b, by rw [← norm_strip x, ← norm_strip y]; exact eqS_norm hb, h⟩
    · exact h.elim

theorem eqParK_ok {P : Program} {rec_ : TypeId → AV → AV → (Bool → Prop) → Prop} {rec' : TypeId → AV → AV → Option Bool} (hr : ∀ t x y K, rec_ t x y K → ∃ b, rec' t (norm x) (norm y) = some b ∧ K b) {xs ys : List AV} :
    ∀ (l : List (TypeId × Nat)) {K : Bool → Prop}, eqParK rec_ (fun _ => P) xs ys l K → ∃ b, eqParts rec' P (normL xs) (normL ys) l = some b ∧ K b
  | [], K, h => ⟨true, rfl, h⟩
  | (t, off) :: r, K, h => by
    simp only [eqParK] at h
    simp only [eqParts, partAt_norm]
    split at h
    · rename_i x y hx hy
      simp only [hx, hy, Option.map_some]
      obtain ⟨b, hb, h⟩ := hr _ _ _ _ h
      rw [hb]
      cases b with
      | true => exact eqParK_ok hr r h
      | false => exact ⟨false, rfl, h⟩
    · exact h.elim
theorem eqK_ok {P : Program} : ∀ (d : Nat) (t : TypeId) (x y : AV) {K : Bool → Prop}, eqK (fun _ => P) d t x y K → ∃ b, eqIn P d t (norm x) (norm y) = some b ∧ K b
  | 0, _, _, _, K, h => h.elim
  | d + 1, t, x, y, K, h => by
    simp only [eqK] at h
    simp only [eqIn]
    split at h
    · rename_i fs hu
      rw [hu]
      split at h
      · rename_i xs ys
        split at h
        · exact h.elim
        · rename_i hs
          simp only [norm, if_neg hs]
          exact eqParK_ok (fun t x y K => eqK_ok d t x y) _ h
      · exact h.elim
    · rename_i n e hu
      rw [hu]
      split at h
      · split at h
        · rename_i z hz
          simp only [norm, hz]
          exact eqParK_ok (fun t x y K => eqK_ok d t x y) _ h
        · exact h.elim
      · exact h.elim
    · rename_i u h1 h2 hu
      obtain ⟨b, hb, hk⟩ := eqLeafK_ok h
      refine ⟨b, ?_, hk⟩
      rw [hu]
      cases u <;> first | exact hb | exact (h1 _ rfl).elim | exact (h2 _ _ rfl).elim
    · exact h.elim

theorem norm_of_strip {v : AV} {k : IntKind} {n : Int} (h : strip v = .int k n) : norm v = .int k n := by rw [← norm_strip, h]; rfl
theorem norm_of_strip_str {v : AV} {s : List UInt8} (h : strip v = .str s) : norm v = .str s := by rw [← norm_strip, h]; rfl

section
variable {P : Program}

theorem optS_ok {ρ : Rho} {x : Option Operand} {K : Option AV → Prop} (h : optS ρ x K) : ∃ v, optA none (fun o => ((ρ o).map strip).map some) x = some v ∧ K v := by
  cases x with
  | none => exact ⟨none, rfl, h⟩
  | some o =>
    simp only [optS] at h
    split at h
    · rename_i v hv
      exact ⟨some v, by simp only [optA, hv, Option.map_some], h⟩
    · exact h.elim
theorem vBound_ok {x : Option AV} {d y : Nat} {K : Nat → Prop} (h : vBound x d y K) : ∃ n, optA d (boundA · y) x = some n ∧ K n := by
  unfold vBound at h
  split at h
  · exact ⟨d, rfl, h⟩
  · rename_i k i
    obtain ⟨h1, h2⟩ := h
    exact ⟨i.toNat, by simp only [optA, boundA, if_pos (show 0 ≤ i ∧ i ≤ (y : Int) from ⟨(h1 ()).1, by have := h1 (); omega⟩)], h2 _ rfl⟩
  · exact h.elim
theorem vSlice_ok {n z i cap : Nat} {opn : Bool} {lo : Option AV} {h l : Nat} {K : AV → Prop} (hl : optA 0 (boundA · h) lo = some l) (hlh : l ≤ h) (hhc : h ≤ cap) (hk : vSlice n z i cap opn lo h l K) :
    ∃ v, (if l = 0 then some (.slice n z i h cap opn none) else if l < cap then (if (none : Option Nat).isNone = true then some (.slice n z (i + l) (h - l) (cap - l) opn none) else none) else if opn = true then some (.slice n z (i + l) 0 0 true (some ((none : Option Nat).getD i))) else some (AV.slice n z i 0 0 false none)) = some v ∧ K (mark v) := by
  unfold vSlice at hk
  cases lo with
  | none =>
    simp only [optA, Option.some.injEq] at hl
    subst hl
    exact ⟨_, if_pos rfl, hk⟩
  | some x =>
    obtain ⟨h1, h2, h3⟩ := hk
    by_cases e : l = 0
    · exact ⟨_, if_pos e, h1 e⟩
    · rw [if_neg e]
      by_cases e2 : l < cap
      · exact ⟨.slice n z (i + l) (h - l) (cap - l) opn none, by rw [if_pos e2]; rfl, h2 (by omega) e2 _ _ _ rfl rfl rfl⟩
      · rw [if_neg e2]
        have h3 := h3 (by omega) (by omega)
        cases opn with
        | true => exact ⟨.slice n z (i + l) 0 0 true (some i), rfl, h3 _ rfl⟩
        | false => exact ⟨.slice n z i 0 0 false none, rfl, h3⟩

theorem vSym_ok {ρ : Rho} {m : Mem} {nm : Nat} {o : Op} {K : AV → List Nat → Prop} (hu : usesSym ρ o = true) (h : vSym (fun _ => P) ρ m nm o K) : ∃ r, aM P ρ m.get nm o = some r ∧ r.nb = none ∧ K r.v r.rd := by
  have key : ∀ r0 : NR, aN P (symRho ρ o) (fun n => (m.get n).map symBlk) nm o = some r0 → r0.nb = none → K (symV o r0.v) r0.rd → ∃ r, aM P ρ m.get nm o = some r ∧ r.nb = none ∧ K r.v r.rd := by
    intro r0 h0 h1 h2
    exact ⟨⟨symV o r0.v, r0.nb, r0.rd⟩, by simp only [aM, hu, if_true, h0, Option.map_some], h1, h2⟩
  unfold vSym at h
  split at h
  · rename_i op t x y yt
    split at h
    · rename_i xs ys hx hy
      split at h
      · exact h.elim
      · rename_i hg
        have hgo : guardOk P t x y (.agg (normL xs)) (.agg (normL ys)) = true := by simpa [guardOk] using hg
        split at h
        · obtain ⟨b, hb, hk⟩ := eqK_ok _ _ _ _ h
          refine key ⟨.bool b, none, []⟩ ?_ rfl hk
          simp only [norm] at hb
          simp only [aN, symRho, hx, hy, Option.map_some, norm, aBin, hgo, if_true, hb, pureR]
        · obtain ⟨b, hb, hk⟩ := eqK_ok _ _ _ _ h
          refine key ⟨.bool (!b), none, []⟩ ?_ rfl hk
          simp only [norm] at hb
          simp only [aN, symRho, hx, hy, Option.map_some, norm, aBin, hgo, if_true, hb, pureR]
        · exact h.elim
    · rename_i a b hna hx hy
      split at h
      · rename_i k a' k' b' ha hb
        have hx' : symRho ρ (.binOp op t x y yt) x = some (.int k a') := by simp only [symRho, hx, Option.map_some, norm_of_strip ha]
        have hy' : symRho ρ (.binOp op t x y yt) y = some (.int k' b') := by simp only [symRho, hy, Option.map_some, norm_of_strip hb]
        split at h
        · obtain ⟨v, hv, hk⟩ := vShift_ok h
          exact key ⟨v, none, []⟩ (by simp only [aN, hx', hy', aBin, hv, pureR, Option.map_some]) rfl hk
        · obtain ⟨v, hv, hk⟩ := vShift_ok h
          exact key ⟨v, none, []⟩ (by simp only [aN, hx', hy', aBin, hv, pureR, Option.map_some]) rfl hk
        · rename_i hs1 hs2
          split at h
          · rename_i e
            subst e
            obtain ⟨v, hv, hk⟩ := vInt_ok h
            refine key ⟨v, none, []⟩ ?_ rfl hk
            have : aBin P op t x y (.int k a') (.int k b') = some v := by
              cases op <;> first | (exact absurd rfl hs1) | (exact absurd rfl hs2) | (simpa only [aBin, if_true] using hv)
            simp only [aN, hx', hy', this, pureR, Option.map_some]
          · exact h.elim
      · rename_i a' b' ha hb
        have hx' : symRho ρ (.binOp op t x y yt) x = some (.str a') := by simp only [symRho, hx, Option.map_some, norm_of_strip_str ha]
        have hy' : symRho ρ (.binOp op t x y yt) y = some (.str b') := by simp only [symRho, hy, Option.map_some, norm_of_strip_str hb]
        split at h
        · obtain ⟨hl, h⟩ := h
          exact key ⟨.str (a' ++ b'), none, []⟩ (by simp only [aN, hx', hy', aBin, aStr, if_pos (hl ()), pureR, Option.map_some]) rfl (h _ rfl)
        · by_cases e : a' = b'
          · exact key ⟨.bool true, none, []⟩ (by simp only [aN, hx', hy', aBin, aStr, beq_iff_eq.2 e, pureR, Option.map_some]) rfl (h.1 e)
          · exact key ⟨.bool false, none, []⟩ (by simp only [aN, hx', hy', aBin, aStr, beq_eq_false_iff_ne.2 e, pureR, Option.map_some]) rfl (h.2 e)
        · by_cases e : a' = b'
          · exact key ⟨.bool false, none, []⟩ (by simp only [aN, hx', hy', aBin, aStr, beq_iff_eq.2 e, pureR, Option.map_some, Bool.not_true]) rfl (h.1 e)
          · exact key ⟨.bool true, none, []⟩ (by simp only [aN, hx', hy', aBin, aStr, beq_eq_false_iff_ne.2 e, pureR, Option.map_some, Bool.not_false]) rfl (h.2 e)
        · obtain ⟨r, h1, h2, h3⟩ := h.ok; exact ⟨r, h1, h2, h3⟩
      · obtain ⟨r, h1, h2, h3⟩ := h.ok; exact ⟨r, h1, h2, h3⟩
    · exact h.elim
  · rename_i op t x
    split at h
    · rename_i k n hx
      exact key ⟨.int k (k.wrap (0 - n)), none, []⟩ (by simp only [aN, symRho, hx, aUn, pureR, Option.map_some]) rfl (h _ rfl)
    · obtain ⟨r, h1, h2, h3⟩ := h.ok; exact ⟨r, h1, h2, h3⟩
  · rename_i t x lo hi mx
    split at h
    · obtain ⟨r, h1, h2, h3⟩ := h.ok; exact ⟨r, h1, h2, h3⟩
    · split at h
      · rename_i e n z i len cap opn hut hx
        split at h
        · rename_i hz
          obtain ⟨vhi, e1, h⟩ := optS_ok h
          obtain ⟨vlo, e2, h⟩ := optS_ok h
          obtain ⟨hh, e3, h⟩ := vBound_ok h
          obtain ⟨l, e4, h⟩ := vBound_ok h
          obtain ⟨hb, h⟩ := h
          obtain ⟨hb1, hb2⟩ := hb ()
          obtain ⟨v, hv, hk⟩ := vSlice_ok e4 hb2 hb1 h
          refine key ⟨v, none, []⟩ ?_ rfl hk
          have e1' : optA none (fun o => ((ρ o).map strip).map some) hi = some vhi := e1
          have e2' : optA none (fun o => ((ρ o).map strip).map some) lo = some vlo := e2
          have e0 : optA none (fun o => ((ρ o).map strip).map some) (none : Option Operand) = some (none : Option AV) := rfl
          simp only [aN, symRho, hx, e1', e2', e0, sliceA, hut, hz, ne_eq, not_true, if_false, e3, e4, if_neg (show ¬ ¬ hh ≤ cap from fun h => h hb1), hv, pureR, Option.map_some]
        · exact h.elim
      · rename_i s hut hx
        obtain ⟨vhi, e1, h⟩ := optS_ok h
        obtain ⟨vlo, e2, h⟩ := optS_ok h
        obtain ⟨hh, e3, h⟩ := vBound_ok h
        obtain ⟨l, e4, h⟩ := vBound_ok h
        refine key ⟨.str ((s.take hh).drop l), none, []⟩ ?_ rfl (h _ rfl)
        have e1' : optA none (fun o => ((ρ o).map strip).map some) hi = some vhi := e1
        have e2' : optA none (fun o => ((ρ o).map strip).map some) lo = some vlo := e2
        have e0 : optA none (fun o => ((ρ o).map strip).map some) (none : Option Operand) = some (none : Option AV) := rfl
        simp only [aN, symRho, hx, e1', e2', e0, sliceA, hut, Option.isSome_none, Bool.false_eq_true, if_false, e3, e4, pureR, Option.map_some]
      · obtain ⟨r, h1, h2, h3⟩ := h.ok; exact ⟨r, h1, h2, h3⟩
  · rename_i src dst x
    split at h
    · rename_i u k kk n h1 h2 h3
      exact key ⟨.int k (k.wrap n), none, []⟩ (by simp only [aN, symRho, h1, h2, h3, pureR, Option.map_some]) rfl (h _ rfl)
    · rename_i u s h1 h2 h3
      exact key ⟨.str s, none, []⟩ (by simp only [aN, symRho, h1, h2, h3, pureR, Option.map_some]) rfl h
    · rename_i e n i len cap opn h1 h2 h3
      split at h
      · rename_i rw rows h4 h5
        by_cases h0 : len = 0
        · refine key ⟨.str [], none, []⟩ ?_ rfl (h.1 h0)
          simp only [aN, symRho, h1, h2, h3, h4, if_pos h0, pureR, Option.map_some]
        · obtain ⟨hb, s, hs, h⟩ := h.2 h0
          have hb := hb ()
          refine key ⟨.str s, none, [n]⟩ ?_ rfl h
          simp only [aN, symRho, h1, h2, h3, h4, if_neg h0, h5, Option.map_some, symBlk, if_pos hb, hs]
      · obtain ⟨r, h1, h2, h3⟩ := h.ok; exact ⟨r, h1, h2, h3⟩
    · obtain ⟨r, h1, h2, h3⟩ := h.ok; exact ⟨r, h1, h2, h3⟩
  · rename_i t a
    split at h
    · rename_i n z i f ha
      split at h
      · rename_i b z' rows hg
        split at h
        · rename_i hz
          obtain ⟨row, hi, h⟩ := h
          unfold vRead at h
          split at h
          · rename_i v hv
            exact key ⟨v, none, [n]⟩ (by simp only [aN, symRho, ha, hg, Option.map_some, symBlk, hz, if_true, hi, hv]) rfl h
          · exact h.elim
        · exact h.elim
      · exact h.elim
    · exact h.elim
  · rename_i x
    split at h
    · rename_i n z i f hx
      exact key ⟨.ptr n z i f, none, []⟩ (by simp only [aN, symRho, hx, pureR, Option.map_some]) rfl h
    · exact h.elim
  · rename_i t x f
    split at h
    · rename_i n z i g fl hx hf
      split at h
      · rename_i s hs
        split at h
        · exact h.elim
        · rename_i h0
          exact key ⟨.ptr n z i (g + fl.offset), none, []⟩ (by simp only [aN, symRho, hx, hf, hs, if_neg h0, pureR, Option.map_some]) rfl h
      · exact h.elim
    · exact h.elim
  · rename_i t x ix
    split at h
    · rename_i len e n z r f k i hut hx hi
      split at h
      · rename_i s hs
        obtain ⟨hb, h⟩ := h
        exact key ⟨.ptr n z r (f + i.toNat * s), none, []⟩ (by simp only [aN, symRho, hut, hx, hi, hs, if_pos (show 0 ≤ i ∧ i < (len : Int) from ⟨(hb ()).1, by have := hb (); omega⟩), pureR, Option.map_some]) rfl (h _ rfl)
      · exact h.elim
    · rename_i e n z ob len cap opn k i hut hx hi
      split at h
      · rename_i hs
        obtain ⟨hb, h⟩ := h
        exact key ⟨.ptr n z (ob + i.toNat) 0, none, []⟩ (by simp only [aN, symRho, hut, hx, hi, if_pos (And.intro hs (show 0 ≤ i ∧ i < (len : Int) from ⟨(hb ()).1, by have := hb (); omega⟩)), pureR, Option.map_some]) rfl (h _ rfl)
      · exact h.elim
    · exact h.elim
  · rename_i t x ix
    split at h
    · rename_i s k i hut hx hi
      obtain ⟨hb, b, hg, h⟩ := h
      exact key ⟨.int .u8 b.toNat, none, []⟩ (by simp only [aN, symRho, hut, hx, hi, if_pos (hb ()), hg, pureR, Option.map_some]) rfl (h _ ⟨by omega, by omega⟩)
    · rename_i len e cs k i hut hx hi
      split at h
      · rename_i z hz
        obtain ⟨hb, v, hv, h⟩ := h
        exact key ⟨v, none, []⟩ (by simp only [aN, symRho, hut, hx, hi, hz, if_pos (show 0 ≤ i ∧ i < (len : Int) from ⟨(hb ()).1, by have := hb (); omega⟩), hv, pureR, Option.map_some]) rfl h
      · exact h.elim
    · obtain ⟨r, h1, h2, h3⟩ := h.ok; exact ⟨r, h1, h2, h3⟩
  · rename_i args ats
    split at h
    · rename_i x t ha ht
      split at h
      · rename_i s hut hx
        exact key ⟨.int .i64 s.length, none, []⟩ (by simp only [aN, ha, ht, symRho, hut, hx, pureR, Option.map_some]) rfl (h _ ⟨by omega, by omega⟩)
      · rename_i e n z i len cap opn alt hut hx
        exact key ⟨.int .i64 len, none, []⟩ (by simp only [aN, ha, ht, symRho, hut, hx, pureR, Option.map_some]) rfl (h _ ⟨by omega, by omega⟩)
      · obtain ⟨r, h1, h2, h3⟩ := h.ok; exact ⟨r, h1, h2, h3⟩
    · exact h.elim
  · rename_i t x k ok
    split at h
    · rename_i kt e n ky hut hx hkk
      split at h
      · rename_i kd es huk hg
        split at h
        · rename_i hfit
          obtain ⟨r, hr, h1, h2⟩ := h
          cases r with
          | some v =>
            refine key ⟨bif ok then .tuple [v, .bool true] else v, none, [n]⟩ ?_ rfl (h1 v rfl)
            simp only [aN, symRho, hut, hx, hkk, huk, hfit, Bool.not_true, Bool.false_eq_true, if_false, hg, Option.map_some, symBlk, hr]
            cases ok <;> rfl
          | none =>
            have h2 := h2 rfl
            split at h2
            · rename_i v hz
              refine key ⟨bif ok then .tuple [v, .bool false] else v, none, [n]⟩ ?_ rfl h2
              simp only [aN, symRho, hut, hx, hkk, huk, hfit, Bool.not_true, Bool.false_eq_true, if_false, hg, Option.map_some, symBlk, hr, hz]
              cases ok <;> rfl
            · exact h2.elim
        · exact h.elim
      · obtain ⟨r, h1, h2, h3⟩ := h.ok; exact ⟨r, h1, h2, h3⟩
    · obtain ⟨r, h1, h2, h3⟩ := h.ok; exact ⟨r, h1, h2, h3⟩
  · rename_i args ats
    split at h
    · rename_i x y ha
      split at h
      · rename_i k a k' b hx hy
        by_cases e : b < a
        · exact key ⟨.int k b, none, []⟩ (by simp only [aN, ha, symRho, hx, hy, if_pos e, pureR, Option.map_some]) rfl (h.1 e)
        · exact key ⟨.int k a, none, []⟩ (by simp only [aN, ha, symRho, hx, hy, if_neg e, pureR, Option.map_some]) rfl (h.2 (by omega))
      · exact h.elim
    · obtain ⟨r, h1, h2, h3⟩ := h.ok; exact ⟨r, h1, h2, h3⟩
  · rename_i args ats
    split at h
    · rename_i x y ha
      split at h
      · rename_i k a k' b hx hy
        by_cases e : a < b
        · exact key ⟨.int k b, none, []⟩ (by simp only [aN, ha, symRho, hx, hy, if_pos (show b > a from e), pureR, Option.map_some]) rfl (h.1 e)
        · exact key ⟨.int k a, none, []⟩ (by simp only [aN, ha, symRho, hx, hy, if_neg (show ¬ b > a from e), pureR, Option.map_some]) rfl (h.2 (by omega))
      · exact h.elim
    · obtain ⟨r, h1, h2, h3⟩ := h.ok; exact ⟨r, h1, h2, h3⟩
  · obtain ⟨r, h1, h2, h3⟩ := h.ok; exact ⟨r, h1, h2, h3⟩

/-- The part of oneOp behind the guard. -/
def doOp (P : Program) (call : CallA) (ρ : Rho) (m : Mem) (c nm : Nat) (o : Op) : Option (Option AV × Mem × Nat × Tc) :=
  if isX o then
    match aXM P call ρ m c nm o with
    | some (v, m', c') => some (v, m', c', ⟨true, false, [], wrOf m m'⟩)
    | none => none
  else
    match aM P ρ m.get nm o with
    | some ⟨v, none, rd⟩ => some (some v, m, c, ⟨false, false, rd, []⟩)
    | some ⟨v, some b, rd⟩ => some (some v, m.new nm b, c, ⟨false, true, rd, []⟩)
    | none => none
theorem oneOp_do {call : CallA} {ops : Array Oper} {base i : Nat} {s : St} {o : Oper} (ho : ops[i]? = some o) (hw : wantedA ops o s.sl = some true) {v : Option AV} {m' : Mem} {c' : Nat} {t : Tc}
    (h : doOp P call (evalA s.sl) s.m s.c (base + i) o.op = some (v, m', c', t)) : oneOp P call ops base i s = some (⟨putA s.sl o.dst v, m', c'⟩, t) := by
  unfold doOp at h
  simp only [oneOp, ho, hw]
  split at h
  · rename_i hx
    rw [if_pos hx]
    split at h
    · rename_i h1; cases h; rw [h1]; rfl
    · cases h
  · rename_i hx
    rw [if_neg hx]
    split at h
    · rename_i h1; cases h; rw [h1]
    · rename_i h1; cases h; rw [h1]
    · cases h

theorem vMake_ok {ρ : Rho} {m : Mem} {nm : Nat} {t : TypeId} {l k : Operand} {K : AV → ABlk → Prop} (hu : usesSym ρ (.makeSlice t l k) = true) (h : vMake (fun _ => P) ρ nm t l k K) : ∃ v b, aM P ρ m.get nm (.makeSlice t l k) = some ⟨v, some b, []⟩ ∧ K v b := by
  unfold vMake at h
  split at h
  · rename_i e k1 l1 k2 c1 he hl hc
    split at h
    · rename_i s zv b hs hz hb
      split at h
      · rename_i hcond
        obtain ⟨h1, h2⟩ := h
        obtain ⟨g1, g2, g3, g4⟩ := h1 ()
        refine ⟨_, _, ?_, h2 _ _ _ rfl rfl rfl⟩
        simp only [aM, hu, if_true, aN, symRho, he, hl, hc, hs, hz, hb]
        rw [if_pos ⟨g1, g2, g3, g4, hcond.1, hcond.2.1, hcond.2.2⟩]
        rfl
      · exact h.elim
    · exact h.elim
  · exact h.elim

theorem vN_ok {call : CallA} {ρ : Rho} {m : Mem} {c nm : Nat} {o : Op} {K : Option AV → Mem → Nat → Tc → Prop} (hx : isX o = false) (h : vN (fun _ => P) ρ m c nm o K) : ∃ v m' c' t, doOp P call ρ m c nm o = some (v, m', c', t) ∧ K v m' c' t := by
  unfold vN at h
  split at h
  · rename_i hu
    split at h
    · rename_i t l k
      obtain ⟨v, b, h1, h2⟩ := vMake_ok (m := m) hu h
      exact ⟨some v, _, c, _, by simp only [doOp, hx, Bool.false_eq_true, if_false, h1], h2⟩
    · obtain ⟨⟨v, nb, rd⟩, h1, h2, h3⟩ := vSym_ok hu h
      dsimp only at h2 h3
      subst h2
      exact ⟨some v, m, c, _, by simp only [doOp, hx, Bool.false_eq_true, if_false, h1], h3⟩
  · rename_i hu
    have hM : aM P ρ m.get nm o = aN P ρ m.get nm o := by simp only [aM, hu, Bool.false_eq_true, if_false]
    split at h
    · rename_i v rd h1; exact ⟨some v, m, c, _, by simp only [doOp, hx, Bool.false_eq_true, if_false, hM, h1], h⟩
    · rename_i v b rd h1; exact ⟨some v, _, c, _, by simp only [doOp, hx, Bool.false_eq_true, if_false, hM, h1], h⟩
    · exact h.elim

theorem strip_not {v : Option AV} (h : symO v = false) : v.map strip = v := by
  cases v with
  | none => rfl
  | some v => cases v <;> first | rfl | cases h
theorem stripAt_id {ρ : Rho} {a : Operand} (h : symO (ρ a) = false) : stripAt ρ a = ρ := by
  funext y
  cases a <;> cases y <;> simp only [stripAt]
  split
  · rename_i e; subst e; exact strip_not h
  · rfl
theorem evalA_tmp {sl : List (Option AV)} {a : Operand} {v : AV} (h : evalA sl a = some (.sym v)) : ∃ t, a = .tmp t := by
  cases a with
  | tmp t => exact ⟨t, rfl⟩
  | const u =>
    exfalso
    simp only [evalA] at h
    unfold absV at h
    split at h
    · simp only [Option.map_eq_some_iff, reduceCtorEq, and_false, exists_false] at h
    · simp only [Option.map_eq_some_iff, reduceCtorEq, and_false, exists_false] at h
    · unfold absS at h
      split at h <;> cases h
  | global g => cases h
  | func f => cases h

/-- Is it a call of a function? -/
def isCall : Op → Bool
  | .call { callee := .value _, .. } => true
  | _ => false

theorem vSrc_ok {get : Nat → Option ABlk} {z : Nat} {tx : TypeId} {mk : Bool} {x : AV} {K : List (List AV) → Prop} (h : vSrc (fun _ => P) get z tx mk x K) : ∃ src, srcA P get z tx x = some src ∧ K src := by
  unfold vSrc at h
  split at h
  · split at h
    · rename_i e hu
      exact ⟨[], by simp only [srcA, hu], h⟩
    · exact h.elim
  · rename_i n z' i len cap opn alt
    split at h
    · rename_i e hu
      split at h
      · obtain ⟨h0, h⟩ := h
        exact ⟨[], by simp only [srcA, hu, if_pos (h0 ())], h⟩
      · split at h
        · rename_i rw z'' rows hg
          split at h
          · rename_i hz
            obtain ⟨hb, h⟩ := h
            have hb := hb ()
            have hk : K ((rows.drop i).take len) := by
              split at h
              · exact h _ rfl
              · exact h
            by_cases h0 : len = 0
            · subst h0
              exact ⟨[], by simp only [srcA, hu, if_true], by simpa using hk⟩
            · exact ⟨_, by simp only [srcA, hu, if_neg h0, hg, if_pos (And.intro hz.1 (And.intro hz.2 hb))], hk⟩
          · exact h.elim
        · exact h.elim
    · exact h.elim
  · rename_i s
    split at h
    · rename_i hu
      split at h
      · rename_i hz
        exact ⟨_, by simp only [srcA, hu, if_pos hz], h _ rfl⟩
      · exact h.elim
    · exact h.elim
  · exact h.elim
theorem vApp_ok {m : Mem} {nm z b : Nat} {ts tx e : TypeId} {zv s x : AV} {src : List (List AV)} {K : AV → Mem → Prop} (he : elemT P ts = some e) (hz : sizeT P e = some z) (hb : bytesT P e = some b) (hzv : zeroT P e = some zv) (hc : ¬ (z = 0 ∨ zv.cells.length ≠ z))
    (hs : srcA P m.get z tx x = some src) (h : vApp m nm z b s src K) : ∃ v m', appendA P m nm ts tx s x = some (v, m') ∧ K (mark v) m' := by
  have hc' : ¬ (z = 0 ∨ ¬ zv.cells.length = z) := hc
  unfold vApp at h
  split at h
  · obtain ⟨h1, h2⟩ := h
    by_cases e0 : src = []
    · exact ⟨.nilslice, m, by simp only [appendA, he, hz, hb, hzv, ne_eq, if_neg hc', hs, e0, List.length_nil, if_true], h1 e0⟩
    · obtain ⟨h3, h4⟩ := h2 e0
      have hl : ¬ src.length = 0 := by simpa using e0
      exact ⟨.slice nm z 0 src.length src.length true none, m.new nm (.cells true z src), by simp only [appendA, he, hz, hb, hzv, ne_eq, if_neg hc', hs, if_neg hl, if_pos (h3 ())], h4 _ rfl⟩
  · rename_i n z' i len cap alt
    split at h
    · rename_i hzz
      subst hzz
      obtain ⟨h1, h2⟩ := h
      by_cases e0 : src = []
      · obtain ⟨h3, h4⟩ := h1 e0
        have h3 := h3 ()
        exact ⟨.slice n z' i len cap true alt, m, by simp only [appendA, he, hz, hb, hzv, ne_eq, if_neg hc', hs, e0, List.length_nil, not_true, false_or, if_neg (show ¬ ¬ len ≤ cap from fun h => h h3), if_true], h4⟩
      · have hl : ¬ src.length = 0 := by simpa using e0
        have h2 := h2 e0
        split at h2
        · rename_i z'' rows hg
          split at h2
          · rename_i hz2
            subst hz2
            obtain ⟨h3, h4, h5, h6⟩ := h2
            obtain ⟨k1, k2, k3⟩ := h3 ()
            have h4 := h4 ()
            have k3' : alt.isNone = true ∨ len = 0 := k3.imp (fun e => by rw [e]; rfl) id
            by_cases e1 : len + src.length ≤ cap
            · obtain ⟨h7, h8⟩ := h5 e1
              have h7 := h7 ()
              subst h7
              exact ⟨.slice n z'' i (len + src.length) cap true none, m.write n (some (.cells true z'' (rows.take (i + len) ++ src ++ rows.drop (i + len + src.length)))), by
                simp only [appendA, he, hz, hb, hzv, ne_eq, if_neg hc', hs, not_true, false_or, if_neg (show ¬ ¬ len ≤ cap from fun h => h k2), if_neg hl, hg]
                rw [if_neg (fun h => h h4), if_pos ⟨trivial, k1, k3'⟩, if_pos e1]; rfl, h8 _ _ rfl rfl⟩
            · exact ⟨.slice nm z'' 0 (len + src.length) (len + src.length) true none, (m.write n none).new nm (.cells true z'' ((rows.drop i).take len ++ src)), by
                simp only [appendA, he, hz, hb, hzv, ne_eq, if_neg hc', hs, not_true, false_or, if_neg (show ¬ ¬ len ≤ cap from fun h => h k2), if_neg hl, hg]
                rw [if_neg (fun h => h h4), if_pos ⟨trivial, k1, k3'⟩, if_neg e1], h6 (by omega) _ _ rfl rfl⟩
          · exact h2.elim
        · exact h2.elim
    · exact h.elim
  · exact h.elim
theorem vAppend_ok {ρ : Rho} {m : Mem} {nm : Nat} {args : List Operand} {ats : List TypeId} {K : AV → Mem → Prop} (h : vAppend (fun _ => P) ρ m nm args ats K) :
    ∃ v m', (∃ s x ts tx sv xv, args = [s, x] ∧ ats = [ts, tx] ∧ (ρ s).map strip = some sv ∧ (ρ x).map strip = some xv ∧ appendA P m nm ts tx sv xv = some (v, m')) ∧ K (mark v) m' := by
  unfold vAppend at h
  split at h
  · rename_i s x ts tx
    split at h
    · rename_i sv xv e h1 h2 h3
      split at h
      · rename_i z b zv h4 h5 h6
        split at h
        · exact h.elim
        · rename_i hc
          obtain ⟨src, h7, h⟩ := vSrc_ok h
          obtain ⟨v, m', h8, h9⟩ := vApp_ok h3 h4 h5 h6 hc h7 h
          exact ⟨v, m', ⟨s, x, ts, tx, sv, xv, rfl, rfl, h1, h2, h8⟩, h9⟩
      · exact h.elim
    · exact h.elim
  · exact h.elim

theorem vX_ok {call : CallA} {ch : CH} {sl : List (Option AV)} {m : Mem} {c nm : Nat} {o : Op} {K : Option AV → Mem → Nat → Tc → Prop} (hx : isX o = true) (hc : isCall o = false) (h : vX (fun _ => P) ch (evalA sl) m c nm o K) :
    ∃ v m' c' t, doOp P call (evalA sl) m c nm o = some (v, m', c', t) ∧ K v m' c' t := by
  have key : ∀ v m' c', aXM P call (evalA sl) m c nm o = some (v, m', c') → K v m' c' ⟨true, false, [], wrOf m m'⟩ → ∃ v m' c' t, doOp P call (evalA sl) m c nm o = some (v, m', c', t) ∧ K v m' c' t :=
    fun v m' c' h1 h2 => ⟨v, m', c', _, by simp only [doOp, hx, if_true, h1], h2⟩
  unfold vX at h
  split at h
  · rename_i t a x
    split at h
    · rename_i n z i f ha
      obtain ⟨τ, rfl⟩ := evalA_tmp ha
      split at h
      · rename_i v s hv hs
        split at h
        · rename_i z' rows hg
          split at h
          · rename_i hcond
            obtain ⟨hz, hlen, hall, hsame⟩ := hcond
            subst hz
            obtain ⟨row, hi, hf, h⟩ := h
            have hf := hf ()
            have hxv : stripAt (evalA sl) (.tmp τ) x = some v := by
              cases x with
              | tmp τ' =>
                simp only [stripAt]
                rw [if_neg (fun e => by subst e; simp [sameT] at hsame)]
                exact hv
              | _ => exact hv
            have hav : stripAt (evalA sl) (.tmp τ) (.tmp τ) = some (.ptr n z i f) := by simp only [stripAt, if_true, ha, Option.map_some, strip]
            refine key none (m.write n (some (.cells true z (rows.set i (setCells row f v.cells))))) c ?_ ?_
            · simp only [aXM, symX, aX, hav, hxv, hs, hg, hi]
              rw [if_pos ⟨trivial, hlen, hf, hall⟩]
              rfl
            · have : wrOf m (m.write n (some (.cells true z (rows.set i (setCells row f v.cells))))) = [n] := by
                simp [wrOf, Mem.write]
              rw [this]
              exact h _ rfl
          · exact h.elim
        · exact h.elim
      · exact h.elim
    · rename_i hns
      split at h
      · rename_i v m' c' h1
        refine key v m' c' ?_ h
        have hsy : symO (evalA sl a) = false ∨ ∃ u, evalA sl a = some (.sym u) := by
          cases he : evalA sl a with
          | none => exact .inl rfl
          | some u => cases u <;> first | exact .inl rfl | exact .inr ⟨_, rfl⟩
        rcases hsy with hsy | ⟨u, hu⟩
        · have e1 : aX P call (evalA sl) m c nm (.store t a x) = some (v, m', c') := h1
          simp only [aXM, symX, stripAt_id hsy, e1, Option.map_some]
          have : v.map (symXV (evalA sl) (.store t a x)) = v := by cases v <;> rfl
          rw [this]
        · exfalso
          simp only [aX, hu] at h1
          cases h1
      · exact h.elim
  · rename_i t x k v
    split at h
    · rename_i hsy
      split at h
      · rename_i kt e n ky v' hut hxx hkk hv
        split at h
        · rename_i kd es huk hg
          split at h
          · rename_i hcond
            obtain ⟨hfit, hs1, hs2⟩ := hcond
            obtain ⟨es', he, h⟩ := h
            obtain ⟨τ, rfl⟩ : ∃ τ, k = .tmp τ := by
              cases hkv : evalA sl k with
              | none => rw [hkv] at hsy; cases hsy
              | some u =>
                rw [hkv] at hsy
                cases u <;> first | (exact evalA_tmp hkv) | cases hsy
            have hne : ∀ (y : Operand) (u : AV), sameT (.tmp τ) y = false → evalA sl y = some u → stripAt (evalA sl) (.tmp τ) y = some u := fun y u hs hy => by
              cases y with
              | tmp τ' =>
                simp only [stripAt]
                rw [if_neg (fun e => by subst e; simp [sameT] at hs)]
                exact hy
              | _ => exact hy
            have hkv : stripAt (evalA sl) (.tmp τ) (.tmp τ) = some ky := by simp only [stripAt, if_true]; exact hkk
            refine key none (m.write n (some (.map es'))) c ?_ ?_
            · simp only [aXM, symX, aX, hut, hne x _ hs2 hxx, hkv, hne v _ hs1 hv, huk, hg, hfit, if_true, he, Option.map_some, Option.map_none]
            · have : wrOf m (m.write n (some (.map es'))) = [n] := by simp [wrOf, Mem.write]
              rw [this]
              exact h
          · exact h.elim
        · exact h.elim
      · exact h.elim
    · rename_i hk
      split at h
      · rename_i v' m' c' h1
        refine key v' m' c' ?_ h
        have e1 : aX P call (evalA sl) m c nm (.mapUpdate t x k v) = some (v', m', c') := h1
        simp only [aXM, symX, stripAt_id hk, e1, Option.map_some]
        have : v'.map (symXV (evalA sl) (.mapUpdate t x k v)) = v' := by cases v' <;> rfl
        rw [this]
      · exact h.elim
  · rename_i args ats
    split at h
    · rename_i hk
      obtain ⟨v, m', h1, h2⟩ := vAppend_ok h
      refine key (some (mark v)) m' c ?_ h2
      obtain ⟨s, x, ts, tx, sv, xv, ea, et, es, ex, hap⟩ := h1
      have es' : symX (evalA sl) (.call { callee := .builtin .append, args, argTypes := ats }) s = some sv := es
      have ex' : symX (evalA sl) (.call { callee := .builtin .append, args, argTypes := ats }) x = some xv := ex
      simp only [aXM, aX, ea, et, es', ex', hap, Option.map_some, symXV]
      rw [← ea, hk]; rfl
    · rename_i hk
      split at h
      · rename_i v' m' c' h1
        refine key v' m' c' ?_ h
        have e1 : aX P call (evalA sl) m c nm (.call { callee := .builtin .append, args, argTypes := ats }) = some (v', m', c') := h1
        have e2 : aX P call (symX (evalA sl) (.call { callee := .builtin .append, args, argTypes := ats })) m c nm (.call { callee := .builtin .append, args, argTypes := ats }) = aX P call (evalA sl) m c nm (.call { callee := .builtin .append, args, argTypes := ats }) :=
          aX_congr fun x hx => by
            simp only [symX]
            refine strip_not ?_
            have hx' : x ∈ args.toList := by simpa [Op.operands, Call.operands] using hx
            have := List.any_eq_false.1 hk x hx'
            simpa using this
        simp only [aXM, e2, e1, Option.map_some]
        have : v'.map (symXV (evalA sl) (.call { callee := .builtin .append, args, argTypes := ats })) = v' := by
          cases v' with
          | none => rfl
          | some u => simp only [Option.map_some, symXV, hk, Bool.false_eq_true, if_false]
        rw [this]
      · exact h.elim
  · simp [isCall] at hc
  · rename_i src dst x
    split at h
    · rename_i v' m' c' h1
      refine key v' m' c' ?_ h
      have e1 : aX P call (evalA sl) m c nm (.convert src dst x) = some (v', m', c') := h1
      simp only [aXM, symX, e1, Option.map_some]
      cases v' <;> rfl
    · exact h.elim
  · exact h.elim
end

end Go.Ab
