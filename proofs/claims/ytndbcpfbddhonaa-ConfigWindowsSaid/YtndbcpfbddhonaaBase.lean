/- What every walk of this seat stands on. -/
import Derived.Test.YtndbcpfbddhonaaAb39
import Derived.Test.YtndbcpfbddhonaaProg
namespace Go.Proofs.Ytndbcpfbddhonaa.Base
open Go.Ab
theorem hm : Try.prog.follows .mixedOrders = true := by kernel_rfl
theorem awakeRuns : isYes (aRun Try.prog ⟨fun _ => none, fun _ _ => none⟩ 200 19 [] ⟨Tr.empty 6, []⟩ 0) = true := by kernel_rfl
noncomputable def callM : CallA := aRun Try.prog (yesAt 19) 5
theorem X : Ctx Try.prog callM := by
  obtain ⟨m, c, h⟩ := of_isYes awakeRuns
  exact ctx_yes hm h 5
theorem awakeT {m : Mem} {c : Nat} {K : AV → Mem → Nat → Prop} (h : K (.bool true) m c) : CallT (fun _ => Try.prog) 19 [] m c K :=
  ⟨CallS.of_call X.hcall (v := .bool true) (m' := m) (c' := c) (by kernel_rfl) h⟩
end Go.Proofs.Ytndbcpfbddhonaa.Base
