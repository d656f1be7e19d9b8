/- The law ModeLow returns true at any numbers. -/
import Derived.Test.YtponjcglchjojaaModeC
namespace Go.Proofs.Ytponjcglchjojaa.Mode
open Go.Ab
set_option linter.unusedVariables false
set_option linter.unusedSimpArgs false

set_option maxHeartbeats 2000000 in
theorem modeLow (q : Int) (loud : Bool) (k : Int) (backlog : Bool) (lev : Int) : CallS Try.prog 8 [.sym (.int .i64 q), .bool loud, .sym (.int .i64 k), .bool backlog, .sym (.int .i64 lev)] ⟨Tr.empty 3, []⟩ 0 fun v _ _ => v = .bool true := by
  refine CallS.enter X Try.func8 (by decide) ?_
  cases loud <;> cases backlog <;> cbv
  all_goals
    with_reducible refine ⟨awakeAt ?_⟩
    cbv
    with_reducible intro v1 hv1
    cbv
    with_reducible refine And.intro (fun _ => by decide) ?_
    with_reducible intro v2 hv2
    cbv
    with_reducible intro v3 hv3
    cbv
    with_reducible intro v4 hv4
    cbv
    with_reducible intro v5 hv5
    have hq := and_bound (by decide) (by decide) hv5
    have hk : 1 ≤ v4 ∧ v4 ≤ 16 := by
      rw [wrap_u64] at hv1
      rw [Int.tmod_eq_emod_of_nonneg (by omega)] at hv2
      rw [wrap_i64] at hv3 hv4
      omega
    clear hv1 hv2 hv3 hv4 hv5
    cbv
    refine ⟨CallS.fullA (CallS.mono (boundary _ _ _ _ _ _ _) ?_)⟩
    rintro v m' c' ⟨⟨l', q', b', e, hs, rfl⟩, rfl, rfl⟩
    obtain ⟨hb, ht⟩ := specB_cases hs
    subst hb
    simp only [Bool.false_eq_true, or_false, or_true, true_or, true_and, not_true, false_and] at ht
    cbv
    with_reducible intro v6 hv6
    cbv
    with_reducible intro v7 hv7
    cbv
    with_reducible refine ⟨CallS.enter X Try.func20 (by decide) ?_⟩
    cbv
    refine ⟨CallS.fullA (CallS.mono (boundary _ _ _ _ _ _ _) ?_)⟩
    rintro v m' c' ⟨⟨l2, q2, b2, e2, hs2, rfl⟩, rfl, rfl⟩
    obtain ⟨hb, ht2⟩ := specB_cases hs2
    subst hb
    simp only [Bool.false_eq_true, or_false, or_true, true_or, true_and, not_true, false_and] at ht2
    cbv
    with_reducible refine ⟨CallS.enter X Try.func19 (by decide) ?_⟩
    cbv
    repeat' first
      | (with_reducible refine And.intro (fun h => ?_) (fun h => ?_) <;> first | (exfalso; omega) | cbv)
      | (with_reducible refine And.intro (fun _ => ?_) ?_)
      | (with_reducible refine ⟨CallS.enter X Try.func19 (by decide) ?_⟩; cbv)
      | trivial

end Go.Proofs.Ytponjcglchjojaa.Mode
