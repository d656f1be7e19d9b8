/- The law TaskForms, a part of its ways. -/
import Derived.Test.YtldgaheodlandaaBase
import Derived.Test.YtldgaheodlandaaAb43
namespace Go.Proofs.Ytldgaheodlandaa.Br
open Go.Ab Base
set_option linter.unusedVariables false
set_option linter.unusedSimpArgs false

set_option maxRecDepth 200000 in
set_option maxHeartbeats 400000000 in
theorem taskForms3 (which x : Int) (hq : 8 ≤ which % 18446744073709551616 % 14 ∧ which % 18446744073709551616 % 14 ≤ 10) : CallS Try.prog 5 [.sym (.int .i64 which), .sym (.int .i64 x)] (memB [] []) 0 fun v _ _ => v = .bool true := by
  refine CallS.enter X Try.func5 (by decide) ?_
  cbv
  repeat' first
    | with_reducible exact trivial
    | ((with_reducible apply awakeT); cbv)
    | ((with_reducible intro v hv); (first | (have hvb := and_bound (by omega) (by omega) hv; clear hv) | (rw [wrap_i64] at hv; first | (rw [Int.tdiv_eq_ediv_of_nonneg (by omega)] at hv) | skip) | (rw [wrap_u64] at hv) | (rw [wrap_u8] at hv) | (rw [Int.tmod_eq_emod_of_nonneg (by omega)] at hv) | skip); cbv)
    | ((with_reducible apply uAnd); (focus first | kernel_rfl | omega | exact ⟨rfl, Nat.le_refl _, Or.inl rfl⟩ | (refine And.intro ?_ ?_ <;> omega)); try cbv)
    | ((with_reducible apply And.intro) <;> (with_reducible intro h) <;> first | ((with_reducible exfalso); omega) | cbv)
    | ((with_reducible intro h); first | ((with_reducible exfalso); omega) | cbv)
    | ((with_reducible apply LoopT.one X); cbv)
    | ((with_reducible apply CallT.enter X Try.func3 (by decide)); cbv)
    | ((with_reducible apply CallT.enter X Try.func4 (by decide)); cbv)
    | ((with_reducible apply CallT.enter X Try.func6 (by decide)); cbv)
    | ((with_reducible apply CallT.enter X Try.func7 (by decide)); cbv)
    | ((with_reducible apply CallT.enter X Try.func8 (by decide)); cbv)
    | ((with_reducible apply CallT.enter X Try.func9 (by decide)); cbv)
    | ((with_reducible apply CallT.enter X Try.func10 (by decide)); cbv)
    | ((with_reducible apply CallT.enter X Try.func11 (by decide)); cbv)
    | ((with_reducible apply CallT.enter X Try.func12 (by decide)); cbv)
    | ((with_reducible apply CallT.enter X Try.func13 (by decide)); cbv)
    | ((with_reducible apply CallT.enter X Try.func14 (by decide)); cbv)
    | ((with_reducible apply CallT.enter X Try.func15 (by decide)); cbv)
    | ((with_reducible apply CallT.enter X Try.func16 (by decide)); cbv)
    | ((with_reducible apply CallT.enter X Try.func17 (by decide)); cbv)
    | ((with_reducible apply CallT.enter X Try.func18 (by decide)); cbv)
    | ((with_reducible apply CallT.enter X Try.func19 (by decide)); cbv)
    | ((with_reducible apply CallT.enter X Try.func20 (by decide)); cbv)
    | ((with_reducible apply CallT.enter X Try.func22 (by decide)); cbv)
    | ((with_reducible apply CallT.enter X Try.func23 (by decide)); cbv)
    | ((with_reducible apply CallT.enter X Try.func24 (by decide)); cbv)
    | ((with_reducible apply CallT.enter X Try.func25 (by decide)); cbv)
    | ((with_reducible apply CallT.enter X Try.func26 (by decide)); cbv)
    | ((with_reducible apply CallT.enter X Try.func27 (by decide)); cbv)
    | ((with_reducible apply CallT.enter X Try.func28 (by decide)); cbv)
    | ((with_reducible apply CallT.enter X Try.func29 (by decide)); cbv)
    | ((with_reducible apply CallT.enter X Try.func30 (by decide)); cbv)
    | ((with_reducible apply CallT.enter X Try.func31 (by decide)); cbv)
    | ((with_reducible apply CallT.enter X Try.func32 (by decide)); cbv)
    | ((with_reducible apply CallT.enter X Try.func33 (by decide)); cbv)
    | ((with_reducible apply CallT.enter X Try.func34 (by decide)); cbv)
end Go.Proofs.Ytldgaheodlandaa.Br
