/- What every walk of this seat stands on. -/
import Derived.Test.YtmbeolcdbifplaaAb39
import Derived.Test.YtmbeolcdbifplaaProg
namespace Go.Proofs.Ytmbeolcdbifplaa.Base
open Go.Ab
theorem hm : Try.prog.follows .mixedOrders = true := by kernel_rfl
theorem awakeRuns : isYes (aRun Try.prog ⟨fun _ => none, fun _ _ => none⟩ 200 13 [] ⟨Tr.empty 6, []⟩ 0) = true := by kernel_rfl
noncomputable def callM : CallA := aRun Try.prog (yesAt 13) 5
theorem X : Ctx Try.prog callM := by
  obtain ⟨m, c, h⟩ := of_isYes awakeRuns
  exact ctx_yes hm h 5
theorem awakeT {m : Mem} {c : Nat} {K : AV → Mem → Nat → Prop} (h : K (.bool true) m c) : CallT (fun _ => Try.prog) 13 [] m c K :=
  ⟨CallS.of_call X.hcall (v := .bool true) (m' := m) (c' := c) (by kernel_rfl) h⟩
end Go.Proofs.Ytmbeolcdbifplaa.Base
