/- The law ModeForms returns true at any numbers. -/
import Derived.Test.YtponjcglchjojaaModeB
namespace Go.Proofs.Ytponjcglchjojaa.Mode
open Go.Ab
set_option linter.unusedVariables false
set_option linter.unusedSimpArgs false

theorem awakeAt {m : Mem} {c : Nat} {R : AV → Mem → Nat → Prop} (h : R (.bool true) m c) : CallS Try.prog 22 [] m c R :=
  CallS.of_call X.hcall (v := .bool true) (m' := m) (c' := c) (by kernel_rfl) h

theorem specB_cases {l q k : Int} {b d : Bool} {l1 q1 e1 : Int} {b1 : Bool} (h : SpecB l q b k d l1 q1 b1 e1) : b1 = false ∧
    (((l = 0 ∨ l = 1) ∧ 0 ≤ q ∧ q ≤ 16 ∧ 1 ≤ k ∧ k ≤ 16 ∧ e1 = 0 ∧ ((l = 0 ∨ b = true ∨ d = true) ∧ l1 = l ∧ q1 = 0 ∨ ¬ (l = 0 ∨ b = true ∨ d = true) ∧ k ≤ q + 1 ∧ l1 = 0 ∧ q1 = 0 ∨ ¬ (l = 0 ∨ b = true ∨ d = true) ∧ q + 1 < k ∧ l1 = 1 ∧ q1 = q + 1)) ∨
      (¬ ((l = 0 ∨ l = 1) ∧ 0 ≤ q ∧ q ≤ 16 ∧ 1 ≤ k ∧ k ≤ 16) ∧ e1 = 1900 ∧ l1 = 0 ∧ q1 = 0)) := by
  unfold SpecB at h
  split at h
  · rename_i hc
    obtain ⟨h1, h2, h3⟩ := h
    obtain ⟨c1, c2, c3, c4, c5⟩ := hc
    refine ⟨h2, .inl ⟨c1, c2, c3, c4, c5, h1, ?_⟩⟩
    split at h3
    · rename_i hd; exact .inl ⟨hd, h3⟩
    · rename_i hd
      split at h3
      · exact .inr (.inl ⟨hd, by omega, h3⟩)
      · exact .inr (.inr ⟨hd, by omega, h3⟩)
  · rename_i hc
    obtain ⟨h1, h2, h3, h4⟩ := h
    exact ⟨h4, .inr ⟨hc, h1, h2, h3⟩⟩

set_option maxHeartbeats 2000000 in
theorem modeForms (l q k : Int) : CallS Try.prog 6 [.sym (.int .i64 l), .sym (.int .i64 q), .sym (.int .i64 k)] ⟨Tr.empty 3, []⟩ 0 fun v _ _ => v = .bool true := by
  refine CallS.enter X Try.func6 (by decide) ?_
  cbv
  with_reducible refine ⟨awakeAt ?_⟩
  cbv
  with_reducible refine ⟨CallS.mono (boundary _ _ _ _ _ _ _) ?_⟩
  rintro v m' c' ⟨⟨l', q', b', e, hs, rfl⟩, rfl, rfl⟩
  obtain ⟨hb, ht⟩ := specB_cases hs
  subst hb
  simp only [or_false, Bool.false_eq_true] at ht
  cbv
  repeat' first
    | (with_reducible refine And.intro (fun h => ?_) (fun h => ?_) <;> first | (exfalso; omega) | cbv)
    | (with_reducible refine And.intro (fun _ => ?_) ?_)
    | (with_reducible refine ⟨CallS.enter X Try.func19 (by decide) ?_⟩; cbv)
    | trivial
    | kernel_rfl

end Go.Proofs.Ytponjcglchjojaa.Mode
