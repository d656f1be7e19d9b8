/-
  No cell of these rows narrows 'for every input' (looked for: loops, veiled, ifaces, maps, wideKeys, modest, calm, conditions, laid).
  DERIVED. THE GIVEN ROWS OF THIS SEAT. 7 by the template 'for every input the law returns true; each argument reads behind the call as it read before'; 0 by the template 'total and deterministic' (their statements: YtdaccjfijfnlfaaTotals.lean).
  GIVEN WITH THE SEED: the statements are not yours to turn. If you find one false, say at which input.
  Laid BY PROGRAM, IN A SANDBOX (cutbox-rows.mjs): the forced cells as the released guide's own fill.sh prints them over the translation 593ec50d9c989267… (all of the seat's roots in one cut). By AI agents, Wed Nov 11 2026. No macro, syntax, notation, axiom, sorry.
-/
import Derived.Test.YtdaccjfijfnlfaaChecked
import GoSem.Claim
import GoSem.ClaimJoined
import GoSem.ClaimMapViews
import Derived.JoinedTies
import Derived.KernelRfl
namespace Go.Proofs.Ytdaccjfijfnlfaa
/- THE CELL 'sum', in the pinned program and in every row, IS THE sha256 OF THE DUMP (.gsa) THAT YtdaccjfijfnlfaaProg.lean LOADS. Nothing in Lean hashes anything: it is a label: what it is worth is what the hold of that sum in a sandbox is worth. -/
noncomputable def Try.pinned : Pinned := { name := "ytdaccjfijfnlfaa", sum := "593ec50d9c9892673161ee6834f12ea439c35c59b2edf606ca7d076c8e9abe77", checked := Try.checked }
namespace Rows
def none {H : Type} : Left H := { results := [], args := [] }

/-- 'nocturnlaw10.Steps': WHATEVER THE INPUT: true; the input reads as it did. -/
def stepsSpec : ChangeSpec := { name := "steps", fn := fun _ => fun
  | [d1, d2, d3, d4, d5] => { results := [.lit (.bool true)], args := [d1, d2, d3, d4, d5] }
  | _ => none }
def stepsRow : OpenClaim := { program := "ytdaccjfijfnlfaa", sum := "593ec50d9c9892673161ee6834f12ea439c35c59b2edf606ca7d076c8e9abe77", func := "nocturn/nocturnlaw10.Steps", spec := "steps", apart := false }
def StepsSaid : Prop := stepsRow.holds Try.pinned (OpenSpec.ofChange stepsSpec)

/-- ITS FALSE NEIGHBOUR: 'it returns false'. Refute it at one input. -/
def stepsWrong : ChangeSpec := { name := "steps", fn := fun _ => fun
  | [d1, d2, d3, d4, d5] => { results := [.lit (.bool false)], args := [d1, d2, d3, d4, d5] }
  | _ => none }
def StepsWrongFalsely : Prop := stepsRow.holds Try.pinned (OpenSpec.ofChange stepsWrong)

/-- 'nocturnlaw10.StepRows': WHATEVER THE INPUT: true; the input reads as it did. -/
def stepRowsSpec : ChangeSpec := { name := "stepRows", fn := fun _ => fun
  | [d1, d2, d3, d4] => { results := [.lit (.bool true)], args := [d1, d2, d3, d4] }
  | _ => none }
def stepRowsRow : OpenClaim := { program := "ytdaccjfijfnlfaa", sum := "593ec50d9c9892673161ee6834f12ea439c35c59b2edf606ca7d076c8e9abe77", func := "nocturn/nocturnlaw10.StepRows", spec := "stepRows", apart := false }
def StepRowsSaid : Prop := stepRowsRow.holds Try.pinned (OpenSpec.ofChange stepRowsSpec)

/-- ITS FALSE NEIGHBOUR: 'it returns false'. Refute it at one input. -/
def stepRowsWrong : ChangeSpec := { name := "stepRows", fn := fun _ => fun
  | [d1, d2, d3, d4] => { results := [.lit (.bool false)], args := [d1, d2, d3, d4] }
  | _ => none }
def StepRowsWrongFalsely : Prop := stepRowsRow.holds Try.pinned (OpenSpec.ofChange stepRowsWrong)

/-- 'nocturnlaw10.StepSums': WHATEVER THE INPUT: true; the input reads as it did. -/
def stepSumsSpec : ChangeSpec := { name := "stepSums", fn := fun _ => fun
  | [d1, d2, d3] => { results := [.lit (.bool true)], args := [d1, d2, d3] }
  | _ => none }
def stepSumsRow : OpenClaim := { program := "ytdaccjfijfnlfaa", sum := "593ec50d9c9892673161ee6834f12ea439c35c59b2edf606ca7d076c8e9abe77", func := "nocturn/nocturnlaw10.StepSums", spec := "stepSums", apart := false }
def StepSumsSaid : Prop := stepSumsRow.holds Try.pinned (OpenSpec.ofChange stepSumsSpec)

/-- ITS FALSE NEIGHBOUR: 'it returns false'. Refute it at one input. -/
def stepSumsWrong : ChangeSpec := { name := "stepSums", fn := fun _ => fun
  | [d1, d2, d3] => { results := [.lit (.bool false)], args := [d1, d2, d3] }
  | _ => none }
def StepSumsWrongFalsely : Prop := stepSumsRow.holds Try.pinned (OpenSpec.ofChange stepSumsWrong)

/-- 'nocturnlaw10.StepForms': WHATEVER THE INPUT: true; the input reads as it did. -/
def stepFormsSpec : ChangeSpec := { name := "stepForms", fn := fun _ => fun
  | [d1, d2] => { results := [.lit (.bool true)], args := [d1, d2] }
  | _ => none }
def stepFormsRow : OpenClaim := { program := "ytdaccjfijfnlfaa", sum := "593ec50d9c9892673161ee6834f12ea439c35c59b2edf606ca7d076c8e9abe77", func := "nocturn/nocturnlaw10.StepForms", spec := "stepForms", apart := false }
def StepFormsSaid : Prop := stepFormsRow.holds Try.pinned (OpenSpec.ofChange stepFormsSpec)

/-- ITS FALSE NEIGHBOUR: 'it returns false'. Refute it at one input. -/
def stepFormsWrong : ChangeSpec := { name := "stepForms", fn := fun _ => fun
  | [d1, d2] => { results := [.lit (.bool false)], args := [d1, d2] }
  | _ => none }
def StepFormsWrongFalsely : Prop := stepFormsRow.holds Try.pinned (OpenSpec.ofChange stepFormsWrong)

/-- 'nocturnlaw10.StepJumps': WHATEVER THE INPUT: true; the input reads as it did. -/
def stepJumpsSpec : ChangeSpec := { name := "stepJumps", fn := fun _ => fun
  | [d1, d2, d3] => { results := [.lit (.bool true)], args := [d1, d2, d3] }
  | _ => none }
def stepJumpsRow : OpenClaim := { program := "ytdaccjfijfnlfaa", sum := "593ec50d9c9892673161ee6834f12ea439c35c59b2edf606ca7d076c8e9abe77", func := "nocturn/nocturnlaw10.StepJumps", spec := "stepJumps", apart := false }
def StepJumpsSaid : Prop := stepJumpsRow.holds Try.pinned (OpenSpec.ofChange stepJumpsSpec)

/-- ITS FALSE NEIGHBOUR: 'it returns false'. Refute it at one input. -/
def stepJumpsWrong : ChangeSpec := { name := "stepJumps", fn := fun _ => fun
  | [d1, d2, d3] => { results := [.lit (.bool false)], args := [d1, d2, d3] }
  | _ => none }
def StepJumpsWrongFalsely : Prop := stepJumpsRow.holds Try.pinned (OpenSpec.ofChange stepJumpsWrong)

/-- 'nocturnlaw10.StepPorts': WHATEVER THE INPUT: true; the input reads as it did. -/
def stepPortsSpec : ChangeSpec := { name := "stepPorts", fn := fun _ => fun
  | [d1, d2, d3, d4] => { results := [.lit (.bool true)], args := [d1, d2, d3, d4] }
  | _ => none }
def stepPortsRow : OpenClaim := { program := "ytdaccjfijfnlfaa", sum := "593ec50d9c9892673161ee6834f12ea439c35c59b2edf606ca7d076c8e9abe77", func := "nocturn/nocturnlaw10.StepPorts", spec := "stepPorts", apart := false }
def StepPortsSaid : Prop := stepPortsRow.holds Try.pinned (OpenSpec.ofChange stepPortsSpec)

/-- ITS FALSE NEIGHBOUR: 'it returns false'. Refute it at one input. -/
def stepPortsWrong : ChangeSpec := { name := "stepPorts", fn := fun _ => fun
  | [d1, d2, d3, d4] => { results := [.lit (.bool false)], args := [d1, d2, d3, d4] }
  | _ => none }
def StepPortsWrongFalsely : Prop := stepPortsRow.holds Try.pinned (OpenSpec.ofChange stepPortsWrong)

/-- 'nocturnlaw10.StepKeeps': WHATEVER THE INPUT: true; the input reads as it did. -/
def stepKeepsSpec : ChangeSpec := { name := "stepKeeps", fn := fun _ => fun
  | [d1, d2, d3, d4, d5] => { results := [.lit (.bool true)], args := [d1, d2, d3, d4, d5] }
  | _ => none }
def stepKeepsRow : OpenClaim := { program := "ytdaccjfijfnlfaa", sum := "593ec50d9c9892673161ee6834f12ea439c35c59b2edf606ca7d076c8e9abe77", func := "nocturn/nocturnlaw10.StepKeeps", spec := "stepKeeps", apart := false }
def StepKeepsSaid : Prop := stepKeepsRow.holds Try.pinned (OpenSpec.ofChange stepKeepsSpec)

/-- ITS FALSE NEIGHBOUR: 'it returns false'. Refute it at one input. -/
def stepKeepsWrong : ChangeSpec := { name := "stepKeeps", fn := fun _ => fun
  | [d1, d2, d3, d4, d5] => { results := [.lit (.bool false)], args := [d1, d2, d3, d4, d5] }
  | _ => none }
def StepKeepsWrongFalsely : Prop := stepKeepsRow.holds Try.pinned (OpenSpec.ofChange stepKeepsWrong)

/- THE SECOND FORM. 'bulk': how many values and letters a reading holds, each counted each time it is reached (what is shared counts as often as it is met; a slice's spare places count too). A statement '..UptoSaid' is the law's where the arguments, and the package variables that the reading takes, are together of bulk at most 1048576: NARROWER than '..Said'. Prove '..Said' where nothing that the law and all that it calls make is longer than what came in: it says more and counts as full. Else prove '..UptoSaid'. A law counts once. -/
mutual
def uptoBulk {H : Type} : DataW H → Nat
  | .lit (.string bytes) => bytes.length + 1
  | .lit _ => 1
  | .nil => 1
  | .ptr d => uptoBulk d + 1
  | .slice elems spare => uptoBulkAll elems + uptoBulkAll spare + 1
  | .agg parts => uptoBulkAll parts + 1
  | .iface _ d => uptoBulk d + 1
  | .map entries => uptoBulkEntries entries + 1
  | .held _ => 1
def uptoBulkAll {H : Type} : List (DataW H) → Nat
  | [] => 0
  | d :: r => uptoBulk d + uptoBulkAll r
def uptoBulkEntries {H : Type} : List (Lit × DataW H) → Nat
  | [] => 0
  | x :: r => uptoBulkEntry x + uptoBulkEntries r
def uptoBulkEntry {H : Type} : Lit × DataW H → Nat
  | (.string bytes, d) => bytes.length + uptoBulk d + 1
  | (_, d) => uptoBulk d + 1
 end
def uptoSmall : (H : Type) → List (DataW H) → Bool := fun _ ds => decide (uptoBulkAll ds ≤ 1048576)
def OpenSpec.upto (s : _root_.Go.ChangeSpec) : _root_.Go.OpenSpec := { _root_.Go.OpenSpec.ofChange s with cond := some uptoSmall }

/-- 'nocturnlaw10.Steps', WHERE WHAT IT READS IS OF BULK AT MOST 1048576: true; the input reads as it did. -/
def stepsUptoRow : OpenClaim := { program := "ytdaccjfijfnlfaa", sum := "593ec50d9c9892673161ee6834f12ea439c35c59b2edf606ca7d076c8e9abe77", func := "nocturn/nocturnlaw10.Steps", spec := "steps", apart := false, narrowed := true }
def StepsUptoSaid : Prop := stepsUptoRow.holds Try.pinned (OpenSpec.upto stepsSpec)

/-- 'nocturnlaw10.StepRows', WHERE WHAT IT READS IS OF BULK AT MOST 1048576: true; the input reads as it did. -/
def stepRowsUptoRow : OpenClaim := { program := "ytdaccjfijfnlfaa", sum := "593ec50d9c9892673161ee6834f12ea439c35c59b2edf606ca7d076c8e9abe77", func := "nocturn/nocturnlaw10.StepRows", spec := "stepRows", apart := false, narrowed := true }
def StepRowsUptoSaid : Prop := stepRowsUptoRow.holds Try.pinned (OpenSpec.upto stepRowsSpec)

/-- 'nocturnlaw10.StepSums', WHERE WHAT IT READS IS OF BULK AT MOST 1048576: true; the input reads as it did. -/
def stepSumsUptoRow : OpenClaim := { program := "ytdaccjfijfnlfaa", sum := "593ec50d9c9892673161ee6834f12ea439c35c59b2edf606ca7d076c8e9abe77", func := "nocturn/nocturnlaw10.StepSums", spec := "stepSums", apart := false, narrowed := true }
def StepSumsUptoSaid : Prop := stepSumsUptoRow.holds Try.pinned (OpenSpec.upto stepSumsSpec)

/-- 'nocturnlaw10.StepForms', WHERE WHAT IT READS IS OF BULK AT MOST 1048576: true; the input reads as it did. -/
def stepFormsUptoRow : OpenClaim := { program := "ytdaccjfijfnlfaa", sum := "593ec50d9c9892673161ee6834f12ea439c35c59b2edf606ca7d076c8e9abe77", func := "nocturn/nocturnlaw10.StepForms", spec := "stepForms", apart := false, narrowed := true }
def StepFormsUptoSaid : Prop := stepFormsUptoRow.holds Try.pinned (OpenSpec.upto stepFormsSpec)

/-- 'nocturnlaw10.StepJumps', WHERE WHAT IT READS IS OF BULK AT MOST 1048576: true; the input reads as it did. -/
def stepJumpsUptoRow : OpenClaim := { program := "ytdaccjfijfnlfaa", sum := "593ec50d9c9892673161ee6834f12ea439c35c59b2edf606ca7d076c8e9abe77", func := "nocturn/nocturnlaw10.StepJumps", spec := "stepJumps", apart := false, narrowed := true }
def StepJumpsUptoSaid : Prop := stepJumpsUptoRow.holds Try.pinned (OpenSpec.upto stepJumpsSpec)

/-- 'nocturnlaw10.StepPorts', WHERE WHAT IT READS IS OF BULK AT MOST 1048576: true; the input reads as it did. -/
def stepPortsUptoRow : OpenClaim := { program := "ytdaccjfijfnlfaa", sum := "593ec50d9c9892673161ee6834f12ea439c35c59b2edf606ca7d076c8e9abe77", func := "nocturn/nocturnlaw10.StepPorts", spec := "stepPorts", apart := false, narrowed := true }
def StepPortsUptoSaid : Prop := stepPortsUptoRow.holds Try.pinned (OpenSpec.upto stepPortsSpec)

/-- 'nocturnlaw10.StepKeeps', WHERE WHAT IT READS IS OF BULK AT MOST 1048576: true; the input reads as it did. -/
def stepKeepsUptoRow : OpenClaim := { program := "ytdaccjfijfnlfaa", sum := "593ec50d9c9892673161ee6834f12ea439c35c59b2edf606ca7d076c8e9abe77", func := "nocturn/nocturnlaw10.StepKeeps", spec := "stepKeeps", apart := false, narrowed := true }
def StepKeepsUptoSaid : Prop := stepKeepsUptoRow.holds Try.pinned (OpenSpec.upto stepKeepsSpec)

end Rows
end Go.Proofs.Ytdaccjfijfnlfaa
