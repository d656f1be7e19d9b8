/- What task.May, the document's TaskMay and their callers do: tasks that may be. -/
import Derived.Test.YtoajpihpldndcaaAb34
import Derived.Test.YtoajpihpldndcaaProg
namespace Go.Proofs.Ytoajpihpldndcaa.Dem
open Go.Ab
set_option linter.unusedVariables false
set_option linter.unusedSimpArgs false

structure Task where
  kind : Int
  period : Int
  deadline : Int
  clow : Int
  chigh : Int
  prio : Int
def tv (t : Task) : List AV := [.sym (.int .i64 t.kind), .sym (.int .i64 t.period), .sym (.int .i64 t.deadline), .sym (.int .i64 t.clow), .sym (.int .i64 t.chigh), .sym (.int .i64 t.prio)]
/-- May a task be? -/
def Ok (t : Task) : Prop := (t.kind = 0 ∨ t.kind = 1) ∧ 1 ≤ t.period ∧ t.period ≤ 1024 ∧ 1 ≤ t.deadline ∧ t.deadline ≤ t.period ∧ 1 ≤ t.clow ∧ t.clow ≤ t.chigh ∧ t.chigh ≤ t.deadline ∧ 0 ≤ t.prio ∧ t.prio ≤ 255

theorem hm : Try.prog.follows .mixedOrders = true := by kernel_rfl
theorem awakeRuns : isYes (aRun Try.prog ⟨fun _ => none, fun _ _ => none⟩ 20 13 [] ⟨Tr.empty 6, []⟩ 0) = true := by kernel_rfl
noncomputable def callM : CallA := aRun Try.prog (yesAt 13) 5
theorem X : Ctx Try.prog callM := by
  obtain ⟨m, c, h⟩ := of_isYes awakeRuns
  exact ctx_yes hm h 5
theorem awakeT {m : Mem} {c : Nat} {R : AV → Mem → Nat → Prop} (h : R (.bool true) m c) : CallT (fun _ => Try.prog) 13 [] m c R :=
  ⟨CallS.of_call X.hcall (v := .bool true) (m' := m) (c' := c) (by kernel_rfl) h⟩

set_option maxHeartbeats 1000000 in
theorem mayC (a b c d e f : Int) (m : Mem) (n : Nat) : CallS Try.prog 19 [.agg [.sym (.int .i64 a), .sym (.int .i64 b), .sym (.int .i64 c), .sym (.int .i64 d), .sym (.int .i64 e), .sym (.int .i64 f)]] m n
    fun v m' n' => (∃ r, (r = true ↔ Ok ⟨a, b, c, d, e, f⟩) ∧ v = .bool r) ∧ m' = m ∧ n' = n := by
  refine CallS.at0 X Try.func19 (by decide) rfl (d := 2) (R0 := fun v => ∃ r, (r = true ↔ Ok ⟨a, b, c, d, e, f⟩) ∧ v = .bool r) ?_ m n
  cbv
  repeat' first
    | ((with_reducible apply And.intro) <;> (with_reducible intro h) <;> cbv)
  all_goals
    refine ⟨_, ?_, rfl⟩
    simp only [Ok, reduceCtorEq, true_iff, false_iff]
    omega

set_option maxHeartbeats 1000000 in
theorem refMayC (a b c d e f : Int) (m : Mem) (n : Nat) : CallS Try.prog 20 [.agg [.sym (.int .i64 a), .sym (.int .i64 b), .sym (.int .i64 c), .sym (.int .i64 d), .sym (.int .i64 e), .sym (.int .i64 f)]] m n
    fun v m' n' => (∃ r, (r = true ↔ Ok ⟨a, b, c, d, e, f⟩) ∧ v = .bool r) ∧ m' = m ∧ n' = n := by
  refine CallS.at0 X Try.func20 (by decide) rfl (d := 2) (R0 := fun v => ∃ r, (r = true ↔ Ok ⟨a, b, c, d, e, f⟩) ∧ v = .bool r) ?_ m n
  cbv
  repeat' first
    | ((with_reducible apply And.intro) <;> (with_reducible intro h) <;> cbv)
  all_goals
    refine ⟨_, ?_, rfl⟩
    simp only [Ok, reduceCtorEq, true_iff, false_iff]
    omega

end Go.Proofs.Ytoajpihpldndcaa.Dem
