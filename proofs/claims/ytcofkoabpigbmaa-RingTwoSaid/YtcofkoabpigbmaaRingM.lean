/- The law RingTwo of no calls. -/
import Derived.Test.YtcofkoabpigbmaaRingL
namespace Go.Proofs.Ytcofkoabpigbmaa.Ring
open Go.Ab Base Kit
set_option linter.unusedVariables false
set_option linter.unusedSimpArgs false
set_option maxRecDepth 200000 in
set_option maxHeartbeats 4000000 in
theorem ringTwoNil : CallS Try.prog 6 [.nilslice] (memB [] []) 0 fun v _ _ => v = .bool true := by
  refine CallS.enter X Try.func6 (by decide) ?_
  cbv
  with_reducible apply awakeT
  cbv
  with_reducible apply newT 5
  focus rfl
  rotate_left
  · intro hb; omega
  with_reducible intro hb rowsA RA aA fA mA hRA hQA
  cbv
  with_reducible apply newT 5
  focus rfl
  rotate_left
  · intro hb; omega
  with_reducible intro hb2 rowsB RB aB fB mB hRB hQB
  cbv
  repeat' first
    | with_reducible exact trivial
    | ((with_reducible apply CallT.enter X Try.func9 (by decide)); cbv)
    | ((with_reducible apply LoopT.one X); cbv)
    | ((with_reducible apply popT hRB hQB); (focus rfl); (focus rfl); (focus decide); all_goals first
            | ((with_reducible intro x0 q0 hq0); (with_reducible exfalso); cases hq0; done)
            | ((with_reducible intro hq0 rowsB' RB' aB' fB' mB' hRB' hQB'); cbv))
    | ((with_reducible apply uAnd); (focus first | kernel_rfl | omega); try cbv)
end Go.Proofs.Ytcofkoabpigbmaa.Ring
