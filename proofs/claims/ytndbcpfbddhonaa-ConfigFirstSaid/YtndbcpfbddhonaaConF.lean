/- The law ConfigFirst: walked up to the check, and run from there, each of 64 ways. -/
import Derived.Test.YtndbcpfbddhonaaBase
import Derived.Test.YtndbcpfbddhonaaAb48
namespace Go.Proofs.Ytndbcpfbddhonaa.Con
open Go.Ab Base
set_option linter.unusedVariables false
set_option linter.unusedSimpArgs false

theorem X2 : Ctx Try.prog (aRun Try.prog ⟨fun _ => none, fun _ _ => none⟩ 200) :=
  ⟨hm, aRun_call hm (ext_none _ fun _ => rfl) 200, aRun_frr (ext_none _ fun _ => rfl) 200⟩

set_option maxRecDepth 200000 in
set_option maxHeartbeats 400000000 in
theorem configFirst (x : Int) : CallS Try.prog 6 [.sym (.int .i64 x)] (memB [] []) 0 fun v _ _ => v = .bool true := by
  refine CallS.enterS Try.func6 (by kernel_rfl) (by decide) ?_
  refine SafeC.cutRun X X2 23 300 [3, 4] (fun K => by kernel_rfl) ?_
  cbv
  repeat' first
    | with_reducible exact trivial
    | ((with_reducible apply awakeT); cbv)
    | ((with_reducible apply CallT.enter X Try.func20 (by decide)); cbv)
    | ((with_reducible intro v hv); clear hv; cbv)
    | ((with_reducible apply uAnd); (focus first | kernel_rfl | omega | exact ⟨rfl, Nat.le_refl _, Or.inl rfl⟩); try cbv)
    | ((with_reducible apply And.intro) <;> (with_reducible intro h) <;> first | ((with_reducible exfalso); omega) | (clear h; cbv))
  all_goals (refine RunQ.mk ?_)
  all_goals (as_aux_lemma => kernel_rfl)
end Go.Proofs.Ytndbcpfbddhonaa.Con
