/- Every error, limit and kind of the program's package api has the document's number (a closed sentence, no input). -/
import Derived.Test.YtponjcglchjojaaPNocturnNamesx2
namespace Go.Proofs.Ytponjcglchjojaa.Pure
open Go.RowKit Go.Proofs.Ytponjcglchjojaa.PNocturnNames Go.Proofs.YtponjcglchjojaaW.PrintWords Go.Proofs.YtponjcglchjojaaW.PrintLast

/-- YOURS: nocturnlaw0_NocturnNames.f  = some true
What it reaches (each with k first where it has rounds; `.mono`: more rounds tell the same; `.l0`, ..: its loops, with `.mono_l`): nocturnlaw0_Num.f, nocturnlaw0_errors1.f, nocturnlaw0_errors2.f, nocturnlaw0_errors3.f, nocturnlaw0_errors4.f, nocturnlaw0_numbers1.f, nocturnlaw0_numbers2.f, nocturnlaw0_numbers3.f, nocturnlaw0_numbers4.f, nocturnlaw0_NocturnNames.f -/
theorem NocturnNames : nocturnlaw0_NocturnNames.Pure := by
  rfl

end Go.Proofs.Ytponjcglchjojaa.Pure
