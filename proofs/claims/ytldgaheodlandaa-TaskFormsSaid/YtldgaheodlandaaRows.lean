/-
  No cell of these rows narrows 'for every input' (looked for: loops, veiled, ifaces, maps, wideKeys, modest, calm, conditions, laid).
  DERIVED. THE GIVEN ROWS OF THIS SEAT. 5 by the template 'for every input the law returns true; each argument reads behind the call as it read before'; 0 by the template 'total and deterministic' (their statements: YtldgaheodlandaaTotals.lean).
  GIVEN WITH THE SEED: the statements are not yours to turn. If you find one false, say at which input.
  Laid BY PROGRAM, IN A SANDBOX (cutbox-rows.mjs): the forced cells as the released guide's own fill.sh prints them over the translation 775d9ecef0f31909… (all of the seat's roots in one cut). By AI agents, Wed Nov 11 2026. No macro, syntax, notation, axiom, sorry.
-/
import Derived.Test.YtldgaheodlandaaChecked
import GoSem.Claim
import GoSem.ClaimJoined
import GoSem.ClaimMapViews
import Derived.JoinedTies
import Derived.KernelRfl
namespace Go.Proofs.Ytldgaheodlandaa
/- THE CELL 'sum', in the pinned program and in every row, IS THE sha256 OF THE DUMP (.gsa) THAT YtldgaheodlandaaProg.lean LOADS. Nothing in Lean hashes anything: it is a label: what it is worth is what the hold of that sum in a sandbox is worth. -/
noncomputable def Try.pinned : Pinned := { name := "ytldgaheodlandaa", sum := "775d9ecef0f31909beb26bab54b32aa4d7db49f73ae69c7dd0cab9b5b082813a", checked := Try.checked }
namespace Rows
def none {H : Type} : Left H := { results := [], args := [] }

/-- 'nocturnlaw11.Tasks': WHATEVER THE INPUT: true; the input reads as it did. -/
def tasksSpec : ChangeSpec := { name := "tasks", fn := fun _ => fun
  | [d1, d2, d3, d4] => { results := [.lit (.bool true)], args := [d1, d2, d3, d4] }
  | _ => none }
def tasksRow : OpenClaim := { program := "ytldgaheodlandaa", sum := "775d9ecef0f31909beb26bab54b32aa4d7db49f73ae69c7dd0cab9b5b082813a", func := "nocturn/nocturnlaw11.Tasks", spec := "tasks", unfollowed := true, recurses := true, apart := false }
def TasksSaid : Prop := tasksRow.holds Try.pinned (OpenSpec.ofChange tasksSpec)

/-- ITS FALSE NEIGHBOUR: 'it returns false'. Refute it at one input. -/
def tasksWrong : ChangeSpec := { name := "tasks", fn := fun _ => fun
  | [d1, d2, d3, d4] => { results := [.lit (.bool false)], args := [d1, d2, d3, d4] }
  | _ => none }
def TasksWrongFalsely : Prop := tasksRow.holds Try.pinned (OpenSpec.ofChange tasksWrong)

/-- 'nocturnlaw11.TaskApart': WHATEVER THE INPUT: true; the input reads as it did. -/
def taskApartSpec : ChangeSpec := { name := "taskApart", fn := fun _ => fun
  | [d1, d2] => { results := [.lit (.bool true)], args := [d1, d2] }
  | _ => none }
def taskApartRow : OpenClaim := { program := "ytldgaheodlandaa", sum := "775d9ecef0f31909beb26bab54b32aa4d7db49f73ae69c7dd0cab9b5b082813a", func := "nocturn/nocturnlaw11.TaskApart", spec := "taskApart", unfollowed := true, recurses := true, apart := false }
def TaskApartSaid : Prop := taskApartRow.holds Try.pinned (OpenSpec.ofChange taskApartSpec)

/-- ITS FALSE NEIGHBOUR: 'it returns false'. Refute it at one input. -/
def taskApartWrong : ChangeSpec := { name := "taskApart", fn := fun _ => fun
  | [d1, d2] => { results := [.lit (.bool false)], args := [d1, d2] }
  | _ => none }
def TaskApartWrongFalsely : Prop := taskApartRow.holds Try.pinned (OpenSpec.ofChange taskApartWrong)

/-- 'nocturnlaw11.TaskForms': WHATEVER THE INPUT: true; the input reads as it did. -/
def taskFormsSpec : ChangeSpec := { name := "taskForms", fn := fun _ => fun
  | [d1, d2] => { results := [.lit (.bool true)], args := [d1, d2] }
  | _ => none }
def taskFormsRow : OpenClaim := { program := "ytldgaheodlandaa", sum := "775d9ecef0f31909beb26bab54b32aa4d7db49f73ae69c7dd0cab9b5b082813a", func := "nocturn/nocturnlaw11.TaskForms", spec := "taskForms", unfollowed := true, recurses := true, apart := false }
def TaskFormsSaid : Prop := taskFormsRow.holds Try.pinned (OpenSpec.ofChange taskFormsSpec)

/-- ITS FALSE NEIGHBOUR: 'it returns false'. Refute it at one input. -/
def taskFormsWrong : ChangeSpec := { name := "taskForms", fn := fun _ => fun
  | [d1, d2] => { results := [.lit (.bool false)], args := [d1, d2] }
  | _ => none }
def TaskFormsWrongFalsely : Prop := taskFormsRow.holds Try.pinned (OpenSpec.ofChange taskFormsWrong)

/-- 'nocturnlaw11.TaskWaits': WHATEVER THE INPUT: true; the input reads as it did. -/
def taskWaitsSpec : ChangeSpec := { name := "taskWaits", fn := fun _ => fun
  | [d1, d2, d3] => { results := [.lit (.bool true)], args := [d1, d2, d3] }
  | _ => none }
def taskWaitsRow : OpenClaim := { program := "ytldgaheodlandaa", sum := "775d9ecef0f31909beb26bab54b32aa4d7db49f73ae69c7dd0cab9b5b082813a", func := "nocturn/nocturnlaw11.TaskWaits", spec := "taskWaits", unfollowed := true, recurses := true, apart := false }
def TaskWaitsSaid : Prop := taskWaitsRow.holds Try.pinned (OpenSpec.ofChange taskWaitsSpec)

/-- ITS FALSE NEIGHBOUR: 'it returns false'. Refute it at one input. -/
def taskWaitsWrong : ChangeSpec := { name := "taskWaits", fn := fun _ => fun
  | [d1, d2, d3] => { results := [.lit (.bool false)], args := [d1, d2, d3] }
  | _ => none }
def TaskWaitsWrongFalsely : Prop := taskWaitsRow.holds Try.pinned (OpenSpec.ofChange taskWaitsWrong)

/-- 'nocturnlaw11.TaskRegulars': WHATEVER THE INPUT: true; the input reads as it did. -/
def taskRegularsSpec : ChangeSpec := { name := "taskRegulars", fn := fun _ => fun
  | [d1, d2, d3] => { results := [.lit (.bool true)], args := [d1, d2, d3] }
  | _ => none }
def taskRegularsRow : OpenClaim := { program := "ytldgaheodlandaa", sum := "775d9ecef0f31909beb26bab54b32aa4d7db49f73ae69c7dd0cab9b5b082813a", func := "nocturn/nocturnlaw11.TaskRegulars", spec := "taskRegulars", unfollowed := true, recurses := true, apart := false }
def TaskRegularsSaid : Prop := taskRegularsRow.holds Try.pinned (OpenSpec.ofChange taskRegularsSpec)

/-- ITS FALSE NEIGHBOUR: 'it returns false'. Refute it at one input. -/
def taskRegularsWrong : ChangeSpec := { name := "taskRegulars", fn := fun _ => fun
  | [d1, d2, d3] => { results := [.lit (.bool false)], args := [d1, d2, d3] }
  | _ => none }
def TaskRegularsWrongFalsely : Prop := taskRegularsRow.holds Try.pinned (OpenSpec.ofChange taskRegularsWrong)

/- THE SECOND FORM. 'bulk': how many values and letters a reading holds, each counted each time it is reached (what is shared counts as often as it is met; a slice's spare places count too). A statement '..UptoSaid' is the law's where the arguments, and the package variables that the reading takes, are together of bulk at most 1048576: NARROWER than '..Said'. Prove '..Said' where nothing that the law and all that it calls make is longer than what came in: it says more and counts as full. Else prove '..UptoSaid'. A law counts once. -/
mutual
def uptoBulk {H : Type} : DataW H → Nat
  | .lit (.string bytes) => bytes.length + 1
  | .lit _ => 1
  | .nil => 1
  | .ptr d => uptoBulk d + 1
  | .slice elems spare => uptoBulkAll elems + uptoBulkAll spare + 1
  | .agg parts => uptoBulkAll parts + 1
  | .iface _ d => uptoBulk d + 1
  | .map entries => uptoBulkEntries entries + 1
  | .held _ => 1
def uptoBulkAll {H : Type} : List (DataW H) → Nat
  | [] => 0
  | d :: r => uptoBulk d + uptoBulkAll r
def uptoBulkEntries {H : Type} : List (Lit × DataW H) → Nat
  | [] => 0
  | x :: r => uptoBulkEntry x + uptoBulkEntries r
def uptoBulkEntry {H : Type} : Lit × DataW H → Nat
  | (.string bytes, d) => bytes.length + uptoBulk d + 1
  | (_, d) => uptoBulk d + 1
 end
def uptoSmall : (H : Type) → List (DataW H) → Bool := fun _ ds => decide (uptoBulkAll ds ≤ 1048576)
def OpenSpec.upto (s : _root_.Go.ChangeSpec) : _root_.Go.OpenSpec := { _root_.Go.OpenSpec.ofChange s with cond := some uptoSmall }

/-- 'nocturnlaw11.Tasks', WHERE WHAT IT READS IS OF BULK AT MOST 1048576: true; the input reads as it did. -/
def tasksUptoRow : OpenClaim := { program := "ytldgaheodlandaa", sum := "775d9ecef0f31909beb26bab54b32aa4d7db49f73ae69c7dd0cab9b5b082813a", func := "nocturn/nocturnlaw11.Tasks", spec := "tasks", unfollowed := true, recurses := true, apart := false, narrowed := true }
def TasksUptoSaid : Prop := tasksUptoRow.holds Try.pinned (OpenSpec.upto tasksSpec)

/-- 'nocturnlaw11.TaskApart', WHERE WHAT IT READS IS OF BULK AT MOST 1048576: true; the input reads as it did. -/
def taskApartUptoRow : OpenClaim := { program := "ytldgaheodlandaa", sum := "775d9ecef0f31909beb26bab54b32aa4d7db49f73ae69c7dd0cab9b5b082813a", func := "nocturn/nocturnlaw11.TaskApart", spec := "taskApart", unfollowed := true, recurses := true, apart := false, narrowed := true }
def TaskApartUptoSaid : Prop := taskApartUptoRow.holds Try.pinned (OpenSpec.upto taskApartSpec)

/-- 'nocturnlaw11.TaskForms', WHERE WHAT IT READS IS OF BULK AT MOST 1048576: true; the input reads as it did. -/
def taskFormsUptoRow : OpenClaim := { program := "ytldgaheodlandaa", sum := "775d9ecef0f31909beb26bab54b32aa4d7db49f73ae69c7dd0cab9b5b082813a", func := "nocturn/nocturnlaw11.TaskForms", spec := "taskForms", unfollowed := true, recurses := true, apart := false, narrowed := true }
def TaskFormsUptoSaid : Prop := taskFormsUptoRow.holds Try.pinned (OpenSpec.upto taskFormsSpec)

/-- 'nocturnlaw11.TaskWaits', WHERE WHAT IT READS IS OF BULK AT MOST 1048576: true; the input reads as it did. -/
def taskWaitsUptoRow : OpenClaim := { program := "ytldgaheodlandaa", sum := "775d9ecef0f31909beb26bab54b32aa4d7db49f73ae69c7dd0cab9b5b082813a", func := "nocturn/nocturnlaw11.TaskWaits", spec := "taskWaits", unfollowed := true, recurses := true, apart := false, narrowed := true }
def TaskWaitsUptoSaid : Prop := taskWaitsUptoRow.holds Try.pinned (OpenSpec.upto taskWaitsSpec)

/-- 'nocturnlaw11.TaskRegulars', WHERE WHAT IT READS IS OF BULK AT MOST 1048576: true; the input reads as it did. -/
def taskRegularsUptoRow : OpenClaim := { program := "ytldgaheodlandaa", sum := "775d9ecef0f31909beb26bab54b32aa4d7db49f73ae69c7dd0cab9b5b082813a", func := "nocturn/nocturnlaw11.TaskRegulars", spec := "taskRegulars", unfollowed := true, recurses := true, apart := false, narrowed := true }
def TaskRegularsUptoSaid : Prop := taskRegularsUptoRow.holds Try.pinned (OpenSpec.upto taskRegularsSpec)

end Rows
end Go.Proofs.Ytldgaheodlandaa
