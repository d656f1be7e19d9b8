/- Maps of numbers to truth values; functions without effects in drawn regions. -/
import Derived.Test.YtndbcpfbddhonaaAb33
namespace Go.Ab
set_option linter.unusedSimpArgs false
set_option linter.unusedVariables false

/-- A map in which numbers stand. -/
def kv (ps : List Int) : List (AV × AV) := ps.map fun p => (.int .i64 p, .bool true)
theorem findA_kv (p : Int) : ∀ ps : List Int, findA (.int .i64 p) ((kv ps).map fun e => (norm e.1, e.2)) = some (if p ∈ ps then some (.bool true) else none)
  | [] => rfl
  | q :: ps => by
    have ih := findA_kv p ps
    simp only [kv, List.map_cons, norm, findA, keyEq, if_true] at ih ⊢
    by_cases e : p = q
    · simp [e]
    · have e' : (p == q) = false := by simpa using e
      rw [e']
      simp only [ih]
      simp [e]
theorem setA_kv (p : Int) : ∀ ps : List Int, p ∉ ps → setA (.int .i64 p) (.bool true) (kv ps) = some (kv (ps ++ [p]))
  | [], _ => rfl
  | q :: ps, h => by
    have e : p ≠ q := fun e => h (by simp [e])
    have e' : (p == q) = false := by simpa using e
    have ih := setA_kv p ps fun hm => h (by simp [hm])
    simp only [kv, List.map_cons, List.cons_append, setA, keyEq, if_true, e'] at ih ⊢
    rw [ih]; rfl
theorem kv_flat (ps : List Int) : ∀ e ∈ kv ps, e.1.flat = true ∧ e.2.flat = true := fun e h => by
  obtain ⟨p, _, rfl⟩ := List.mem_map.1 h
  exact ⟨rfl, rfl⟩
theorem lkKv {p : Int} {ps : List Int} {K1 : AV → Prop} {K2 : Prop} (h1 : p ∈ ps → K1 (.bool true)) (h2 : p ∉ ps → K2) :
    ∃ r, findA (.int .i64 p) ((kv ps).map fun e => (norm e.1, e.2)) = some r ∧ (∀ v, r = some v → K1 v) ∧ (r = none → K2) := by
  refine ⟨_, findA_kv p ps, fun v hv => ?_, fun hv => ?_⟩
  · split at hv
    · cases hv; exact h1 ‹_›
    · cases hv
  · split at hv
    · cases hv
    · exact h2 ‹_›
theorem upKv {p : Int} {ps : List Int} {K : List (AV × AV) → Prop} (h : p ∉ ps) (k : K (kv (ps ++ [p]))) : ∃ es', setA (.int .i64 p) (.bool true) (kv ps) = some es' ∧ K es' := ⟨_, setA_kv p ps h, k⟩

/-! ### functions without effects, by an answer -/
def pureHints (l : List (FuncId × (List AV → Option AV))) : Hints := ⟨fun f => (l.find? fun x => x.1.beq f).map fun x => fun vs m c => (x.2 vs).map fun v => (v, m, c), fun _ _ => none⟩
section
variable {P : Program}
theorem pureHints_ok {l : List (FuncId × (List AV → Option AV))} (h : ∀ x ∈ l, ∀ vs v, x.2 vs = some v → ∀ m c, CallS P x.1 vs m c fun v' m' c' => full v' = full v ∧ m' = m ∧ c' = c) : ExtOK P (pureHints l) := by
  have key : ∀ f vs m c v m1 c1, extA (pureHints l) f vs m c = some (v, m1, c1) → ∃ x ∈ l, x.1 = f ∧ x.2 vs = some v ∧ m1 = m ∧ c1 = c := by
    intro f vs m c v m1 c1 e
    simp only [extA, pureHints] at e
    cases hf : l.find? (fun x => x.1.beq f) with
    | none => simp [hf] at e
    | some x =>
      simp only [hf, Option.map_some, Option.map_eq_some_iff, Prod.mk.injEq] at e
      obtain ⟨v', h1, rfl, rfl, rfl⟩ := e
      have hb := List.find?_some hf
      exact ⟨x, List.mem_of_find?_eq_some hf, Nat.eq_of_beq_eq_true hb, h1, rfl, rfl⟩
  refine ⟨fun f vs m c v m1 c1 e μ w args hargs hS hfresh => ?_, fun f vs m c v m1 c1 e => ?_⟩
  · obtain ⟨x, hx, rfl, h1, rfl, rfl⟩ := key f vs m c v m1 c1 e
    refine ((h x hx vs v h1 m1 c1).ok μ w args hargs hS hfresh).mono ?_
    rintro val w' ⟨v', m', c', μ', ⟨h2, rfl, rfl⟩, k1, k2⟩
    exact ⟨μ', by rw [← cn_full, ← h2, cn_full]; exact k1, k2⟩
  · obtain ⟨x, hx, rfl, h1, rfl, rfl⟩ := key f vs m c v m1 c1 e
    exact FrA.refl _ _ _
theorem ctx_pure {l : List (FuncId × (List AV → Option AV))} (hm : P.follows .mixedOrders = true) (h : ExtOK P (pureHints l)) (k : Nat) : Ctx P (aRun P (pureHints l) k) :=
  ⟨hm, aRun_call hm h k, aRun_frr h k⟩
end

end Go.Ab
