/- What mode.Boundary and the document's Boundary do, at any state; awake is true. -/
import Derived.Test.YtponjcglchjojaaAb27
import Derived.Test.YtponjcglchjojaaProg
namespace Go.Proofs.Ytponjcglchjojaa.Mode
open Go.Ab
set_option linter.unusedVariables false
set_option linter.unusedSimpArgs false

def SpecB (l q : Int) (b : Bool) (k : Int) (d : Bool) (l' q' : Int) (b' : Bool) (e : Int) : Prop :=
  if (l = 0 ∨ l = 1) ∧ 0 ≤ q ∧ q ≤ 16 ∧ 1 ≤ k ∧ k ≤ 16 then
    e = 0 ∧ b' = false ∧ (if l = 0 ∨ b = true ∨ d = true then l' = l ∧ q' = 0 else if q + 1 ≥ k then l' = 0 ∧ q' = 0 else l' = 1 ∧ q' = q + 1)
  else e = 1900 ∧ l' = 0 ∧ q' = 0 ∧ b' = false

theorem hm : Try.prog.follows .mixedOrders = true := by kernel_rfl
theorem awakeRuns : isYes (aRun Try.prog ⟨fun _ => none, fun _ _ => none⟩ 20 22 [] ⟨Tr.empty 6, []⟩ 0) = true := by kernel_rfl
noncomputable def callM : CallA := aRun Try.prog (yesAt 22) 5
theorem X : Ctx Try.prog callM := by
  obtain ⟨m, c, h⟩ := of_isYes awakeRuns
  exact ctx_yes hm h 5

set_option maxHeartbeats 1000000 in
theorem boundary (l q k : Int) (b d : Bool) (m : Mem) (c : Nat) : CallS Try.prog 17 [.agg [.sym (.int .i64 l), .sym (.int .i64 q), .bool b], .sym (.int .i64 k), .bool d] m c
    fun v m' c' => (∃ l' q' b' e, SpecB l q b k d l' q' b' e ∧ v = .tuple [.agg [.sym (.int .i64 l'), .sym (.int .i64 q'), .bool b'], .sym (.int .i64 e)]) ∧ m' = m ∧ c' = c := by
  refine CallS.at0 X Try.func17 (by decide) rfl (d := 2) (R0 := fun v => ∃ l' q' b' e, SpecB l q b k d l' q' b' e ∧ v = .tuple [.agg [.sym (.int .i64 l'), .sym (.int .i64 q'), .bool b'], .sym (.int .i64 e)]) ?_ m c
  cases b <;> cases d <;> cbv
  all_goals
    repeat' first
      | (with_reducible refine ⟨fun h => ?_, fun h => ?_⟩ <;> first | (exfalso; omega) | cbv)
      | (with_reducible intro v hv; rw [wrap_i64] at hv; cbv)
      | (with_reducible refine ⟨CallS.enter X Try.func24 (by decide) ?_⟩; cbv)
      | (with_reducible refine ⟨CallS.enter X Try.func23 (by decide) ?_⟩; cbv)
  all_goals
    refine ⟨_, _, _, _, ?_, rfl⟩
    simp only [SpecB, or_true, true_or, or_false, false_or, Bool.false_eq_true, if_true, if_false, eq_self, true_and, and_true]
    repeat' split
    all_goals first | trivial | omega

set_option maxHeartbeats 1000000 in
theorem refBoundary (l q k : Int) (b d : Bool) (m : Mem) (c : Nat) : CallS Try.prog 18 [.agg [.sym (.int .i64 l), .sym (.int .i64 q), .bool b], .sym (.int .i64 k), .bool d] m c
    fun v m' c' => (∃ l' q' b' e, SpecB l q b k d l' q' b' e ∧ v = .tuple [.agg [.sym (.int .i64 l'), .sym (.int .i64 q'), .bool b'], .sym (.int .i64 e)]) ∧ m' = m ∧ c' = c := by
  refine CallS.at0 X Try.func18 (by decide) rfl (d := 2) (R0 := fun v => ∃ l' q' b' e, SpecB l q b k d l' q' b' e ∧ v = .tuple [.agg [.sym (.int .i64 l'), .sym (.int .i64 q'), .bool b'], .sym (.int .i64 e)]) ?_ m c
  cases b <;> cases d <;> cbv
  all_goals
    repeat' first
      | (with_reducible refine ⟨fun h => ?_, fun h => ?_⟩ <;> first | (exfalso; omega) | cbv)
      | (with_reducible intro v hv; rw [wrap_i64] at hv; cbv)
  all_goals
    refine ⟨_, _, _, _, ?_, rfl⟩
    simp only [SpecB, or_true, true_or, or_false, false_or, Bool.false_eq_true, if_true, if_false, eq_self, true_and, and_true]
    repeat' split
    all_goals first | trivial | omega

end Go.Proofs.Ytponjcglchjojaa.Mode
