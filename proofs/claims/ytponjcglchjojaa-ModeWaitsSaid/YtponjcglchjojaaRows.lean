/-
  No cell of these rows narrows 'for every input' (looked for: loops, veiled, ifaces, maps, wideKeys, modest, calm, conditions, laid).
  DERIVED. THE GIVEN ROWS OF THIS SEAT. 6 by the template 'for every input the law returns true; each argument reads behind the call as it read before'; 0 by the template 'total and deterministic' (their statements: YtponjcglchjojaaTotals.lean).
  GIVEN WITH THE SEED: the statements are not yours to turn. If you find one false, say at which input.
  Laid BY PROGRAM, IN A SANDBOX (cutbox-rows.mjs): the forced cells as the released guide's own fill.sh prints them over the translation d53e02d9c2311bda… (all of the seat's roots in one cut). By AI agents, Wed Nov 11 2026. No macro, syntax, notation, axiom, sorry.
-/
import Derived.Test.YtponjcglchjojaaChecked
import GoSem.Claim
import GoSem.ClaimJoined
import GoSem.ClaimMapViews
import Derived.JoinedTies
import Derived.KernelRfl
namespace Go.Proofs.Ytponjcglchjojaa
/- THE CELL 'sum', in the pinned program and in every row, IS THE sha256 OF THE DUMP (.gsa) THAT YtponjcglchjojaaProg.lean LOADS. Nothing in Lean hashes anything: it is a label: what it is worth is what the hold of that sum in a sandbox is worth. -/
noncomputable def Try.pinned : Pinned := { name := "ytponjcglchjojaa", sum := "d53e02d9c2311bdae01706edae2db338fb60c4559b9f17ccb90ec899fddb1a85", checked := Try.checked }
namespace Rows
def none {H : Type} : Left H := { results := [], args := [] }

/-- 'nocturnlaw0.NocturnNames': WHATEVER THE INPUT: true; the input reads as it did. -/
def nocturnNamesSpec : ChangeSpec := { name := "nocturnNames", fn := fun _ => fun
  | [] => { results := [.lit (.bool true)], args := [] }
  | _ => none }
def nocturnNamesRow : OpenClaim := { program := "ytponjcglchjojaa", sum := "d53e02d9c2311bdae01706edae2db338fb60c4559b9f17ccb90ec899fddb1a85", func := "nocturn/nocturnlaw0.NocturnNames", spec := "nocturnNames", apart := false }
def NocturnNamesSaid : Prop := nocturnNamesRow.holds Try.pinned (OpenSpec.ofChange nocturnNamesSpec)

/-- ITS FALSE NEIGHBOUR: 'it returns false'. Refute it at one input. -/
def nocturnNamesWrong : ChangeSpec := { name := "nocturnNames", fn := fun _ => fun
  | [] => { results := [.lit (.bool false)], args := [] }
  | _ => none }
def NocturnNamesWrongFalsely : Prop := nocturnNamesRow.holds Try.pinned (OpenSpec.ofChange nocturnNamesWrong)

/-- 'nocturnlaw19.Modes': WHATEVER THE INPUT: true; the input reads as it did. -/
def modesSpec : ChangeSpec := { name := "modes", fn := fun _ => fun
  | [d1, d2, d3] => { results := [.lit (.bool true)], args := [d1, d2, d3] }
  | _ => none }
def modesRow : OpenClaim := { program := "ytponjcglchjojaa", sum := "d53e02d9c2311bdae01706edae2db338fb60c4559b9f17ccb90ec899fddb1a85", func := "nocturn/nocturnlaw19.Modes", spec := "modes", apart := false }
def ModesSaid : Prop := modesRow.holds Try.pinned (OpenSpec.ofChange modesSpec)

/-- ITS FALSE NEIGHBOUR: 'it returns false'. Refute it at one input. -/
def modesWrong : ChangeSpec := { name := "modes", fn := fun _ => fun
  | [d1, d2, d3] => { results := [.lit (.bool false)], args := [d1, d2, d3] }
  | _ => none }
def ModesWrongFalsely : Prop := modesRow.holds Try.pinned (OpenSpec.ofChange modesWrong)

/-- 'nocturnlaw19.ModeRun': WHATEVER THE INPUT: true; the input reads as it did. -/
def modeRunSpec : ChangeSpec := { name := "modeRun", fn := fun _ => fun
  | [d1, d2] => { results := [.lit (.bool true)], args := [d1, d2] }
  | _ => none }
def modeRunRow : OpenClaim := { program := "ytponjcglchjojaa", sum := "d53e02d9c2311bdae01706edae2db338fb60c4559b9f17ccb90ec899fddb1a85", func := "nocturn/nocturnlaw19.ModeRun", spec := "modeRun", apart := false }
def ModeRunSaid : Prop := modeRunRow.holds Try.pinned (OpenSpec.ofChange modeRunSpec)

/-- ITS FALSE NEIGHBOUR: 'it returns false'. Refute it at one input. -/
def modeRunWrong : ChangeSpec := { name := "modeRun", fn := fun _ => fun
  | [d1, d2] => { results := [.lit (.bool false)], args := [d1, d2] }
  | _ => none }
def ModeRunWrongFalsely : Prop := modeRunRow.holds Try.pinned (OpenSpec.ofChange modeRunWrong)

/-- 'nocturnlaw19.ModeForms': WHATEVER THE INPUT: true; the input reads as it did. -/
def modeFormsSpec : ChangeSpec := { name := "modeForms", fn := fun _ => fun
  | [d1, d2, d3] => { results := [.lit (.bool true)], args := [d1, d2, d3] }
  | _ => none }
def modeFormsRow : OpenClaim := { program := "ytponjcglchjojaa", sum := "d53e02d9c2311bdae01706edae2db338fb60c4559b9f17ccb90ec899fddb1a85", func := "nocturn/nocturnlaw19.ModeForms", spec := "modeForms", apart := false }
def ModeFormsSaid : Prop := modeFormsRow.holds Try.pinned (OpenSpec.ofChange modeFormsSpec)

/-- ITS FALSE NEIGHBOUR: 'it returns false'. Refute it at one input. -/
def modeFormsWrong : ChangeSpec := { name := "modeForms", fn := fun _ => fun
  | [d1, d2, d3] => { results := [.lit (.bool false)], args := [d1, d2, d3] }
  | _ => none }
def ModeFormsWrongFalsely : Prop := modeFormsRow.holds Try.pinned (OpenSpec.ofChange modeFormsWrong)

/-- 'nocturnlaw19.ModeWaits': WHATEVER THE INPUT: true; the input reads as it did. -/
def modeWaitsSpec : ChangeSpec := { name := "modeWaits", fn := fun _ => fun
  | [d1, d2] => { results := [.lit (.bool true)], args := [d1, d2] }
  | _ => none }
def modeWaitsRow : OpenClaim := { program := "ytponjcglchjojaa", sum := "d53e02d9c2311bdae01706edae2db338fb60c4559b9f17ccb90ec899fddb1a85", func := "nocturn/nocturnlaw19.ModeWaits", spec := "modeWaits", apart := false }
def ModeWaitsSaid : Prop := modeWaitsRow.holds Try.pinned (OpenSpec.ofChange modeWaitsSpec)

/-- ITS FALSE NEIGHBOUR: 'it returns false'. Refute it at one input. -/
def modeWaitsWrong : ChangeSpec := { name := "modeWaits", fn := fun _ => fun
  | [d1, d2] => { results := [.lit (.bool false)], args := [d1, d2] }
  | _ => none }
def ModeWaitsWrongFalsely : Prop := modeWaitsRow.holds Try.pinned (OpenSpec.ofChange modeWaitsWrong)

/-- 'nocturnlaw19.ModeLow': WHATEVER THE INPUT: true; the input reads as it did. -/
def modeLowSpec : ChangeSpec := { name := "modeLow", fn := fun _ => fun
  | [d1, d2, d3, d4, d5] => { results := [.lit (.bool true)], args := [d1, d2, d3, d4, d5] }
  | _ => none }
def modeLowRow : OpenClaim := { program := "ytponjcglchjojaa", sum := "d53e02d9c2311bdae01706edae2db338fb60c4559b9f17ccb90ec899fddb1a85", func := "nocturn/nocturnlaw19.ModeLow", spec := "modeLow", apart := false }
def ModeLowSaid : Prop := modeLowRow.holds Try.pinned (OpenSpec.ofChange modeLowSpec)

/-- ITS FALSE NEIGHBOUR: 'it returns false'. Refute it at one input. -/
def modeLowWrong : ChangeSpec := { name := "modeLow", fn := fun _ => fun
  | [d1, d2, d3, d4, d5] => { results := [.lit (.bool false)], args := [d1, d2, d3, d4, d5] }
  | _ => none }
def ModeLowWrongFalsely : Prop := modeLowRow.holds Try.pinned (OpenSpec.ofChange modeLowWrong)

/- THE SECOND FORM. 'bulk': how many values and letters a reading holds, each counted each time it is reached (what is shared counts as often as it is met; a slice's spare places count too). A statement '..UptoSaid' is the law's where the arguments, and the package variables that the reading takes, are together of bulk at most 1048576: NARROWER than '..Said'. Prove '..Said' where nothing that the law and all that it calls make is longer than what came in: it says more and counts as full. Else prove '..UptoSaid'. A law counts once. -/
mutual
def uptoBulk {H : Type} : DataW H → Nat
  | .lit (.string bytes) => bytes.length + 1
  | .lit _ => 1
  | .nil => 1
  | .ptr d => uptoBulk d + 1
  | .slice elems spare => uptoBulkAll elems + uptoBulkAll spare + 1
  | .agg parts => uptoBulkAll parts + 1
  | .iface _ d => uptoBulk d + 1
  | .map entries => uptoBulkEntries entries + 1
  | .held _ => 1
def uptoBulkAll {H : Type} : List (DataW H) → Nat
  | [] => 0
  | d :: r => uptoBulk d + uptoBulkAll r
def uptoBulkEntries {H : Type} : List (Lit × DataW H) → Nat
  | [] => 0
  | x :: r => uptoBulkEntry x + uptoBulkEntries r
def uptoBulkEntry {H : Type} : Lit × DataW H → Nat
  | (.string bytes, d) => bytes.length + uptoBulk d + 1
  | (_, d) => uptoBulk d + 1
 end
def uptoSmall : (H : Type) → List (DataW H) → Bool := fun _ ds => decide (uptoBulkAll ds ≤ 1048576)
def OpenSpec.upto (s : _root_.Go.ChangeSpec) : _root_.Go.OpenSpec := { _root_.Go.OpenSpec.ofChange s with cond := some uptoSmall }

/-- 'nocturnlaw0.NocturnNames', WHERE WHAT IT READS IS OF BULK AT MOST 1048576: true; the input reads as it did. -/
def nocturnNamesUptoRow : OpenClaim := { program := "ytponjcglchjojaa", sum := "d53e02d9c2311bdae01706edae2db338fb60c4559b9f17ccb90ec899fddb1a85", func := "nocturn/nocturnlaw0.NocturnNames", spec := "nocturnNames", apart := false, narrowed := true }
def NocturnNamesUptoSaid : Prop := nocturnNamesUptoRow.holds Try.pinned (OpenSpec.upto nocturnNamesSpec)

/-- 'nocturnlaw19.Modes', WHERE WHAT IT READS IS OF BULK AT MOST 1048576: true; the input reads as it did. -/
def modesUptoRow : OpenClaim := { program := "ytponjcglchjojaa", sum := "d53e02d9c2311bdae01706edae2db338fb60c4559b9f17ccb90ec899fddb1a85", func := "nocturn/nocturnlaw19.Modes", spec := "modes", apart := false, narrowed := true }
def ModesUptoSaid : Prop := modesUptoRow.holds Try.pinned (OpenSpec.upto modesSpec)

/-- 'nocturnlaw19.ModeRun', WHERE WHAT IT READS IS OF BULK AT MOST 1048576: true; the input reads as it did. -/
def modeRunUptoRow : OpenClaim := { program := "ytponjcglchjojaa", sum := "d53e02d9c2311bdae01706edae2db338fb60c4559b9f17ccb90ec899fddb1a85", func := "nocturn/nocturnlaw19.ModeRun", spec := "modeRun", apart := false, narrowed := true }
def ModeRunUptoSaid : Prop := modeRunUptoRow.holds Try.pinned (OpenSpec.upto modeRunSpec)

/-- 'nocturnlaw19.ModeForms', WHERE WHAT IT READS IS OF BULK AT MOST 1048576: true; the input reads as it did. -/
def modeFormsUptoRow : OpenClaim := { program := "ytponjcglchjojaa", sum := "d53e02d9c2311bdae01706edae2db338fb60c4559b9f17ccb90ec899fddb1a85", func := "nocturn/nocturnlaw19.ModeForms", spec := "modeForms", apart := false, narrowed := true }
def ModeFormsUptoSaid : Prop := modeFormsUptoRow.holds Try.pinned (OpenSpec.upto modeFormsSpec)

/-- 'nocturnlaw19.ModeWaits', WHERE WHAT IT READS IS OF BULK AT MOST 1048576: true; the input reads as it did. -/
def modeWaitsUptoRow : OpenClaim := { program := "ytponjcglchjojaa", sum := "d53e02d9c2311bdae01706edae2db338fb60c4559b9f17ccb90ec899fddb1a85", func := "nocturn/nocturnlaw19.ModeWaits", spec := "modeWaits", apart := false, narrowed := true }
def ModeWaitsUptoSaid : Prop := modeWaitsUptoRow.holds Try.pinned (OpenSpec.upto modeWaitsSpec)

/-- 'nocturnlaw19.ModeLow', WHERE WHAT IT READS IS OF BULK AT MOST 1048576: true; the input reads as it did. -/
def modeLowUptoRow : OpenClaim := { program := "ytponjcglchjojaa", sum := "d53e02d9c2311bdae01706edae2db338fb60c4559b9f17ccb90ec899fddb1a85", func := "nocturn/nocturnlaw19.ModeLow", spec := "modeLow", apart := false, narrowed := true }
def ModeLowUptoSaid : Prop := modeLowUptoRow.holds Try.pinned (OpenSpec.upto modeLowSpec)

end Rows
end Go.Proofs.Ytponjcglchjojaa
