/- The law TaskForms. -/
import Derived.Test.YtldgaheodlandaaBrTaskForms1
import Derived.Test.YtldgaheodlandaaBrTaskForms2
import Derived.Test.YtldgaheodlandaaBrTaskForms3
import Derived.Test.YtldgaheodlandaaBrTaskForms4
namespace Go.Proofs.Ytldgaheodlandaa.Br
open Go.Ab Base
theorem taskForms (which x : Int) : CallS Try.prog 5 [.sym (.int .i64 which), .sym (.int .i64 x)] (memB [] []) 0 fun v _ _ => v = .bool true := by
  by_cases h1 : which % 18446744073709551616 % 14 ≤ 3
  · exact taskForms1 which x (by omega)
  by_cases h2 : which % 18446744073709551616 % 14 ≤ 7
  · exact taskForms2 which x (by omega)
  by_cases h3 : which % 18446744073709551616 % 14 ≤ 10
  · exact taskForms3 which x (by omega)
  exact taskForms4 which x (by omega)
end Go.Proofs.Ytldgaheodlandaa.Br
