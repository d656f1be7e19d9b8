/- The law TaskWaits. -/
import Derived.Test.YtldgaheodlandaaBase
import Derived.Test.YtldgaheodlandaaAb43
namespace Go.Proofs.Ytldgaheodlandaa.Tsk
open Go.Ab Base
set_option linter.unusedVariables false
set_option linter.unusedSimpArgs false

set_option maxRecDepth 200000 in
set_option maxHeartbeats 40000000 in
theorem taskWaits (period last gap : Int) : CallS Try.prog 6 [.sym (.int .i64 period), .sym (.int .i64 last), .sym (.int .i64 gap)] (memB [] []) 0 fun v _ _ => v = .bool true := by
  refine CallS.enter X Try.func6 (by decide) ?_
  cbv
  repeat' first
    | with_reducible exact trivial
    | ((with_reducible apply awakeT); cbv)
    | ((with_reducible intro v hv); (first | (have hvb := and_bound (by omega) (by omega) hv; clear hv) | (rw [wrap_i64] at hv) | skip); cbv)
    | ((with_reducible apply uAnd); (focus first | kernel_rfl | omega | exact ⟨rfl, Nat.le_refl _, Or.inl rfl⟩); try cbv)
    | ((with_reducible apply And.intro) <;> (with_reducible intro h) <;> first | ((with_reducible exfalso); omega) | cbv)
    | ((with_reducible apply LoopT.one X); cbv)
    | ((with_reducible apply CallT.enter X Try.func11 (by decide)); cbv)
    | ((with_reducible apply CallT.enter X Try.func13 (by decide)); cbv)
    | ((with_reducible apply CallT.enter X Try.func16 (by decide)); cbv)
    | ((with_reducible apply CallT.enter X Try.func18 (by decide)); cbv)
    | ((with_reducible apply CallT.enter X Try.func23 (by decide)); cbv)
    | ((with_reducible apply CallT.enter X Try.func24 (by decide)); cbv)
    | ((with_reducible apply CallT.enter X Try.func25 (by decide)); cbv)
    | ((with_reducible apply CallT.enter X Try.func27 (by decide)); cbv)
    | ((with_reducible apply CallT.enter X Try.func28 (by decide)); cbv)
    | ((with_reducible apply CallT.enter X Try.func30 (by decide)); cbv)
    | ((with_reducible apply CallT.enter X Try.func31 (by decide)); cbv)
    | ((with_reducible apply CallT.enter X Try.func32 (by decide)); cbv)
    | ((with_reducible apply CallT.enter X Try.func33 (by decide)); cbv)
    | ((with_reducible apply CallT.enter X Try.func34 (by decide)); cbv)
end Go.Proofs.Ytldgaheodlandaa.Tsk
