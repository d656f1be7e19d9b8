/- The law Modes returns true at any state. -/
import Derived.Test.YtponjcglchjojaaModeA
namespace Go.Proofs.Ytponjcglchjojaa.Mode
open Go.Ab
set_option linter.unusedVariables false

theorem specB_fun {l q k : Int} {b d : Bool} {l1 q1 e1 l2 q2 e2 : Int} {b1 b2 : Bool} (h : SpecB l q b k d l1 q1 b1 e1) (h' : SpecB l q b k d l2 q2 b2 e2) : l2 = l1 ∧ q2 = q1 ∧ b2 = b1 ∧ e2 = e1 := by
  unfold SpecB at h h'
  split at h
  · rename_i hc
    rw [if_pos hc] at h'
    obtain ⟨h1, h2, h3⟩ := h
    obtain ⟨k1, k2, k3⟩ := h'
    refine ⟨?_, ?_, k2.trans h2.symm, k1.trans h1.symm⟩
    all_goals
      split at h3
      · rename_i hd; rw [if_pos hd] at k3; omega
      · rename_i hd; rw [if_neg hd] at k3
        split at h3
        · rename_i he; rw [if_pos he] at k3; omega
        · rename_i he; rw [if_neg he] at k3; omega
  · rename_i hc
    rw [if_neg hc] at h'
    obtain ⟨h1, h2, h3, h4⟩ := h
    obtain ⟨k1, k2, k3, k4⟩ := h'
    exact ⟨by omega, by omega, k4.trans h4.symm, by omega⟩

set_option maxHeartbeats 1000000 in
theorem modes (l q k : Int) (b d : Bool) : CallS Try.prog 4 [.agg [.sym (.int .i64 l), .sym (.int .i64 q), .bool b], .sym (.int .i64 k), .bool d] ⟨Tr.empty 3, []⟩ 0 fun v _ _ => v = .bool true := by
  refine CallS.enter X Try.func4 (by decide) ?_
  cbv
  with_reducible refine ⟨CallS.mono (boundary _ _ _ _ _ _ _) ?_⟩
  rintro v m' c' ⟨⟨l', q', b', e, hs, rfl⟩, rfl, rfl⟩
  cbv
  with_reducible refine ⟨CallS.mono (refBoundary _ _ _ _ _ _ _) ?_⟩
  rintro v m' c' ⟨⟨l2, q2, b2, e2, hs2, rfl⟩, rfl, rfl⟩
  obtain ⟨rfl, rfl, rfl, rfl⟩ := specB_fun hs hs2
  cases b2 <;> cbv
  all_goals
    repeat' first
      | (with_reducible refine And.intro (fun h => ?_) (fun h => ?_) <;> first | (exfalso; omega) | cbv)
      | (with_reducible refine And.intro (fun _ => ?_) ?_)
      | trivial
      | kernel_rfl

end Go.Proofs.Ytponjcglchjojaa.Mode
