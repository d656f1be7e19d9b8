/- Runs: a call that the abstract machine follows to its end, the model follows too. -/
import Derived.Test.YtndbcpfbddhonaaAb21
namespace Go.Ab
set_option linter.unusedSimpArgs false
set_option linter.unusedVariables false

/-- What is told of the functions that are not walked. -/
def extA (H : Hints) : CallA := fun f vs m c => match H.ext f with
  | some g => g vs m c
  | none => none
structure ExtOK (P : Program) (H : Hints) : Prop where
  call : CallOK P (extA H)
  abs : AbsOK (extA H)

theorem ext_none (P : Program) {H : Hints} (h : ∀ f, H.ext f = none) : ExtOK P H :=
  ⟨fun f vs m c v m' c' e => by simp [extA, h] at e, fun f vs m c v m' c' e => by simp [extA, h] at e⟩

theorem aRun_frr {P : Program} {H : Hints} (hx : ExtOK P H) : ∀ k, AbsOK (aRun P H k)
  | 0 => fun f vs m c v m' c' h => by cases h
  | k + 1 => fun f vs m c v m' c' h => by
    simp only [aRun] at h
    split at h
    · rename_i g hg
      exact hx.abs f vs m c v m' c' (by simp only [extA, hg]; exact h)
    · split at h
      · cases h
      · rename_i fn hf
        split at h
        · cases h
        · rename_i body hb
          split at h
          · cases h
          · split at h
            · cases h
            · rename_i o s' hne ho
              simp only [Option.map_eq_some_iff, Prod.mk.injEq] at h
              obtain ⟨vs', _, _, rfl, rfl⟩ := h
              have f := code_frr (aRun_frr hx k) _ _ _ _ _ ho
              obtain ⟨δ, e1, e2⟩ := f.log
              exact ⟨f.cle, fun n hn _ hg => f.keepn n hn hg, fun _ ht => f.top ht, δ, e1, fun n hn _ hd => e2 n hn hd⟩
            · cases h

theorem init_slr {μ : Mu} {vs : List AV} {args : List Value} (h : cnL μ vs = some args) (n : Nat) : SlR μ (vs.map some ++ List.replicate (n - vs.length) none) (args.toArray ++ Array.replicate (n - args.toArray.size) undef) := by
  have hl := cnL_length h
  refine ⟨by simp; omega, fun t v hv => ?_⟩
  simp only [List.getD_eq_getElem?_getD] at hv
  by_cases ht : t < vs.length
  · rw [List.getElem?_append_left (by simpa using ht), List.getElem?_map, List.getElem?_eq_getElem ht] at hv
    simp only [Option.map_some, Option.getD_some, Option.some.injEq] at hv
    subst hv
    obtain ⟨u, hc, hu⟩ := cnL_get h t _ (List.getElem?_eq_getElem ht)
    rw [hc, Array.getD_eq_getD_getElem?, Array.getElem?_append_left (by simp; omega)]
    simp [hu]
  · rw [List.getElem?_append_right (by simp; omega), List.getElem?_replicate] at hv
    split at hv <;> cases hv

theorem aRun_call {P : Program} (hm : P.follows .mixedOrders = true) {H : Hints} (hx : ExtOK P H) : ∀ k, CallOK P (aRun P H k)
  | 0 => fun f vs m c v m' c' h => by cases h
  | k + 1 => fun f vs m c v m' c' h μ w args hargs hS hfresh => by
    simp only [aRun] at h
    split at h
    · rename_i g hg
      exact hx.call f vs m c v m' c' (by simp only [extA, hg]; exact h) μ w args hargs hS hfresh
    · split at h
      · cases h
      · rename_i fn hf
        split at h
        · cases h
        · rename_i body hb
          split at h
          · cases h
          · rename_i hname
            split at h
            · cases h
            · rename_i o s' hne ho
              simp only [Option.map_eq_some_iff, Prod.mk.injEq] at h
              obtain ⟨vs', hres, rfl, rfl, rfl⟩ := h
              refine .inl ⟨fn, hf, by rw [hb]; rfl, hname, calls_of_wp hf hb ?_⟩
              refine code_ok (lo := c) hm (aRun_call hm hx k) (aRun_frr hx k) _ _ _ _ _ μ _ w ⟨init_slr hargs _, hS, hfresh, fun _ h => h.elim⟩ (Nat.le_refl _) ho fun μ' a' w' hR g d => ?_
              obtain ⟨u, hu, hcu⟩ := results_ok (P := P) hR.sl hR.sim hres
              have hR' : ∃ v, Ending.returned u = Ending.returned v ∧ ∃ μ', cn μ' (resT vs') = some v ∧ After none μ m c w μ' s'.m s'.c w' :=
                ⟨u, rfl, μ', hcu, g.le, fun n hn _ => g.same n hn, hR.fresh, g.cle, hR.sim, g.step, let ⟨δ, e1, e2⟩ := g.log; ⟨δ, e1, fun n hn _ hd => e2 n hn hd⟩⟩
              cases o with
              | normal => exact ⟨d, u, hu, hR'⟩
              | ret => exact ⟨d, u, hu, hR'⟩
              | exit id => exact (hne id rfl).elim
            · cases h

/-- A call from a world to whose blocks the names may point: it ends as the abstract run does, and what lies below is as it was, but for the rows that may be written. -/
theorem run_calls {P : Program} (hm : P.follows .mixedOrders = true) {H : Hints} (hx : ExtOK P H) {k f : Nat} {vs : List AV} {m : Mem} {c : Nat} {v : AV} {m' : Mem} {c' : Nat} (h : aRun P H k f vs m c = some (v, m', c'))
    {μ : Mu} {w : World} {args : List Value} (hargs : cnL μ vs = some args) (hS : Sim μ m.get w) (hfresh : ∀ n, c ≤ n → μ n = none) :
    Ready P f args.toArray w fun val w' => ∃ μ', cn μ' v = some val ∧ After none μ m c w μ' m' c' w' :=
  aRun_call hm hx k f vs m c v m' c' h μ w args hargs hS hfresh

/-- The same for a function that has a body and is not taken by a contract: as Calls. -/
theorem run_calls' {P : Program} (hm : P.follows .mixedOrders = true) {H : Hints} (hx : ExtOK P H) {k f : Nat} (hf0 : H.ext f = none) {vs : List AV} {m : Mem} {c : Nat} {v : AV} {m' : Mem} {c' : Nat} (h : aRun P H k f vs m c = some (v, m', c'))
    {μ : Mu} {w : World} {args : List Value} (hargs : cnL μ vs = some args) (hS : Sim μ m.get w) (hfresh : ∀ n, c ≤ n → μ n = none) :
    Calls P f args.toArray w fun e w' => ∃ val, e = .returned val ∧ ∃ μ', cn μ' v = some val ∧ After none μ m c w μ' m' c' w' := by
  have hc := aRun_call hm hx k f vs m c v m' c' h μ w args hargs hS hfresh
  rcases hc with ⟨fn, _, _, _, h4⟩ | ⟨val, h1, h2⟩
  · exact h4
  · exfalso
    cases k with
    | zero => cases h
    | succ k =>
      simp only [aRun, hf0] at h
      split at h
      · cases h
      · rename_i fn hf
        split at h
        · cases h
        · rename_i body hb
          split at h
          · cases h
          · rename_i hname
            rw [callFunc_enter (args := args.toArray) (w := w) hf (by rw [hb]; rfl) hname] at h1
            cases h1

/-- From nothing: no name is given, no row of the world may be written. -/
theorem run_closed {P : Program} (hm : P.follows .mixedOrders = true) {H : Hints} (hx : ExtOK P H) {k f : Nat} (hf0 : H.ext f = none) {vs : List AV} {v : AV} {m' : Mem} {c' d : Nat} (h : aRun P H k f vs ⟨Tr.empty d, []⟩ 0 = some (v, m', c'))
    {args : List Value} (hargs : cnL (fun _ => none) vs = some args) {val : Value} (hv : ∀ μ, cn μ v = some val) (w : World) (hG : GI (fun _ => none) (fun _ => none) w := by exact ⟨fun _ _ h => by cases h⟩) :
    Calls P f args.toArray w fun e w' => e = .returned val ∧ RowKit.Below w.heap.size w w' := by
  have hget : ∀ n, (⟨Tr.empty d, []⟩ : Mem).get n = none := fun n => Tr.get_empty d n
  refine (run_calls' hm hx hf0 h (μ := fun _ => none) (w := w) hargs ⟨⟨fun n b hb => by (rw [hget n] at hb; cases hb), fun n n' b b' p p' hb => by (rw [hget n] at hb; cases hb)⟩, hG.ro fun n b hb => by (rw [hget n] at hb; cases hb)⟩ fun _ _ => rfl).mono ?_
  rintro e w' ⟨val', rfl, μ', hcv, ha⟩
  rw [hv μ'] at hcv
  cases hcv
  exact ⟨rfl, ha.step.below fun n b hb => by (rw [hget n] at hb; cases hb)⟩

end Go.Ab
