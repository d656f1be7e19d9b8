/- Calls that read one slice whose rows are marked otherwise. -/
import Derived.Test.YtndbcpfbddhonaaAb35
namespace Go.Ab
set_option linter.unusedSimpArgs false
set_option linter.unusedVariables false

section
variable {P : Program}
theorem CallS.read1G {f : FuncId} {vs0 vs : List AV} {m : Mem} {c k z : Nat} {rw : Bool} {rowsB rows : List (List AV)} {R0 : AV → Prop} (hk : m.get k = some (.cells rw z rowsB)) (hr : RowsLe (oneAt k) rowsB rows) (hv : leL (oneAt k) vs vs0)
    (h : CallS P f vs0 (memB [some (.cells false z rows)] []) 1 fun v _ _ => v.flat = true ∧ R0 v) : CallS P f vs m c fun v m' c' => R0 v ∧ m' = m ∧ c' = c := by
  refine CallS.frame (oneAt k) (fun μ args ha => hv.cn ha) (fun n hn => ?_) (fun n b hn => ?_) h
  · cases n with
    | zero => omega
    | succ n => rfl
  · rw [memB_get] at hn
    cases n with
    | zero =>
      simp only [List.getElem?_cons_zero, Option.join_some, Option.some.injEq] at hn
      subst hn
      exact ⟨rfl, k, _, rfl, hk, (BlkLe.cells (fun h => by cases h) hr).ok⟩
    | succ n => simp at hn
theorem CallT.readG {f : FuncId} {vs0 vs : List AV} {m : Mem} {c k z : Nat} {rw : Bool} {rowsB rows : List (List AV)} {R0 : AV → Prop} {K : AV → Mem → Nat → Prop} (h : CallS P f vs0 (memB [some (.cells false z rows)] []) 1 fun v _ _ => v.flat = true ∧ R0 (Go.Ab.full v))
    (hv : leL (oneAt k) vs vs0) (hk : m.get k = some (.cells rw z rowsB)) (hr : RowsLe (oneAt k) rowsB rows) (h1 : ∀ v, R0 v → ∃ v', Go.Ab.full v' = v ∧ K v' m c) : CallT (fun _ => P) f vs m c K := by
  have h2 : CallS P f vs m c fun v m' c' => R0 (Go.Ab.full v) ∧ m' = m ∧ c' = c := CallS.read1G hk hr hv h
  refine ⟨CallS.asFull (h2.mono ?_)⟩
  rintro v m' c' ⟨hr, rfl, rfl⟩
  exact h1 _ hr
end

end Go.Ab
