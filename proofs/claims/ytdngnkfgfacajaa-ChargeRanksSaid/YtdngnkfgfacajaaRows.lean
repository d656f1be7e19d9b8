/-
  No cell of these rows narrows 'for every input' (looked for: loops, veiled, ifaces, maps, wideKeys, modest, calm, conditions, laid).
  DERIVED. THE GIVEN ROWS OF THIS SEAT. 4 by the template 'for every input the law returns true; each argument reads behind the call as it read before'; 0 by the template 'total and deterministic' (their statements: YtdngnkfgfacajaaTotals.lean).
  GIVEN WITH THE SEED: the statements are not yours to turn. If you find one false, say at which input.
  Laid BY PROGRAM, IN A SANDBOX (cutbox-rows.mjs): the forced cells as the released guide's own fill.sh prints them over the translation f9c5db0eb2d87fd7… (all of the seat's roots in one cut). By AI agents, Wed Nov 11 2026. No macro, syntax, notation, axiom, sorry.
-/
import Derived.Test.YtdngnkfgfacajaaChecked
import GoSem.Claim
import GoSem.ClaimJoined
import GoSem.ClaimMapViews
import Derived.JoinedTies
import Derived.KernelRfl
namespace Go.Proofs.Ytdngnkfgfacajaa
/- THE CELL 'sum', in the pinned program and in every row, IS THE sha256 OF THE DUMP (.gsa) THAT YtdngnkfgfacajaaProg.lean LOADS. Nothing in Lean hashes anything: it is a label: what it is worth is what the hold of that sum in a sandbox is worth. -/
noncomputable def Try.pinned : Pinned := { name := "ytdngnkfgfacajaa", sum := "f9c5db0eb2d87fd756bd9dc64ccd100b36d26cf21516a25ef97a5b86077974b1", checked := Try.checked }
namespace Rows
def none {H : Type} : Left H := { results := [], args := [] }

/-- 'nocturnlaw13.Charges': WHATEVER THE INPUT: true; the input reads as it did. -/
def chargesSpec : ChangeSpec := { name := "charges", fn := fun _ => fun
  | [d1, d2, d3] => { results := [.lit (.bool true)], args := [d1, d2, d3] }
  | _ => none }
def chargesRow : OpenClaim := { program := "ytdngnkfgfacajaa", sum := "f9c5db0eb2d87fd756bd9dc64ccd100b36d26cf21516a25ef97a5b86077974b1", func := "nocturn/nocturnlaw13.Charges", spec := "charges", apart := false }
def ChargesSaid : Prop := chargesRow.holds Try.pinned (OpenSpec.ofChange chargesSpec)

/-- ITS FALSE NEIGHBOUR: 'it returns false'. Refute it at one input. -/
def chargesWrong : ChangeSpec := { name := "charges", fn := fun _ => fun
  | [d1, d2, d3] => { results := [.lit (.bool false)], args := [d1, d2, d3] }
  | _ => none }
def ChargesWrongFalsely : Prop := chargesRow.holds Try.pinned (OpenSpec.ofChange chargesWrong)

/-- 'nocturnlaw13.ChargeRun': WHATEVER THE INPUT: true; the input reads as it did. -/
def chargeRunSpec : ChangeSpec := { name := "chargeRun", fn := fun _ => fun
  | [d1, d2, d3] => { results := [.lit (.bool true)], args := [d1, d2, d3] }
  | _ => none }
def chargeRunRow : OpenClaim := { program := "ytdngnkfgfacajaa", sum := "f9c5db0eb2d87fd756bd9dc64ccd100b36d26cf21516a25ef97a5b86077974b1", func := "nocturn/nocturnlaw13.ChargeRun", spec := "chargeRun", apart := false }
def ChargeRunSaid : Prop := chargeRunRow.holds Try.pinned (OpenSpec.ofChange chargeRunSpec)

/-- ITS FALSE NEIGHBOUR: 'it returns false'. Refute it at one input. -/
def chargeRunWrong : ChangeSpec := { name := "chargeRun", fn := fun _ => fun
  | [d1, d2, d3] => { results := [.lit (.bool false)], args := [d1, d2, d3] }
  | _ => none }
def ChargeRunWrongFalsely : Prop := chargeRunRow.holds Try.pinned (OpenSpec.ofChange chargeRunWrong)

/-- 'nocturnlaw13.ChargeForms': WHATEVER THE INPUT: true; the input reads as it did. -/
def chargeFormsSpec : ChangeSpec := { name := "chargeForms", fn := fun _ => fun
  | [d1, d2] => { results := [.lit (.bool true)], args := [d1, d2] }
  | _ => none }
def chargeFormsRow : OpenClaim := { program := "ytdngnkfgfacajaa", sum := "f9c5db0eb2d87fd756bd9dc64ccd100b36d26cf21516a25ef97a5b86077974b1", func := "nocturn/nocturnlaw13.ChargeForms", spec := "chargeForms", apart := false }
def ChargeFormsSaid : Prop := chargeFormsRow.holds Try.pinned (OpenSpec.ofChange chargeFormsSpec)

/-- ITS FALSE NEIGHBOUR: 'it returns false'. Refute it at one input. -/
def chargeFormsWrong : ChangeSpec := { name := "chargeForms", fn := fun _ => fun
  | [d1, d2] => { results := [.lit (.bool false)], args := [d1, d2] }
  | _ => none }
def ChargeFormsWrongFalsely : Prop := chargeFormsRow.holds Try.pinned (OpenSpec.ofChange chargeFormsWrong)

/-- 'nocturnlaw13.ChargeRanks': WHATEVER THE INPUT: true; the input reads as it did. -/
def chargeRanksSpec : ChangeSpec := { name := "chargeRanks", fn := fun _ => fun
  | [d1, d2, d3] => { results := [.lit (.bool true)], args := [d1, d2, d3] }
  | _ => none }
def chargeRanksRow : OpenClaim := { program := "ytdngnkfgfacajaa", sum := "f9c5db0eb2d87fd756bd9dc64ccd100b36d26cf21516a25ef97a5b86077974b1", func := "nocturn/nocturnlaw13.ChargeRanks", spec := "chargeRanks", apart := false }
def ChargeRanksSaid : Prop := chargeRanksRow.holds Try.pinned (OpenSpec.ofChange chargeRanksSpec)

/-- ITS FALSE NEIGHBOUR: 'it returns false'. Refute it at one input. -/
def chargeRanksWrong : ChangeSpec := { name := "chargeRanks", fn := fun _ => fun
  | [d1, d2, d3] => { results := [.lit (.bool false)], args := [d1, d2, d3] }
  | _ => none }
def ChargeRanksWrongFalsely : Prop := chargeRanksRow.holds Try.pinned (OpenSpec.ofChange chargeRanksWrong)

/- THE SECOND FORM. 'bulk': how many values and letters a reading holds, each counted each time it is reached (what is shared counts as often as it is met; a slice's spare places count too). A statement '..UptoSaid' is the law's where the arguments, and the package variables that the reading takes, are together of bulk at most 1048576: NARROWER than '..Said'. Prove '..Said' where nothing that the law and all that it calls make is longer than what came in: it says more and counts as full. Else prove '..UptoSaid'. A law counts once. -/
mutual
def uptoBulk {H : Type} : DataW H → Nat
  | .lit (.string bytes) => bytes.length + 1
  | .lit _ => 1
  | .nil => 1
  | .ptr d => uptoBulk d + 1
  | .slice elems spare => uptoBulkAll elems + uptoBulkAll spare + 1
  | .agg parts => uptoBulkAll parts + 1
  | .iface _ d => uptoBulk d + 1
  | .map entries => uptoBulkEntries entries + 1
  | .held _ => 1
def uptoBulkAll {H : Type} : List (DataW H) → Nat
  | [] => 0
  | d :: r => uptoBulk d + uptoBulkAll r
def uptoBulkEntries {H : Type} : List (Lit × DataW H) → Nat
  | [] => 0
  | x :: r => uptoBulkEntry x + uptoBulkEntries r
def uptoBulkEntry {H : Type} : Lit × DataW H → Nat
  | (.string bytes, d) => bytes.length + uptoBulk d + 1
  | (_, d) => uptoBulk d + 1
 end
def uptoSmall : (H : Type) → List (DataW H) → Bool := fun _ ds => decide (uptoBulkAll ds ≤ 1048576)
def OpenSpec.upto (s : _root_.Go.ChangeSpec) : _root_.Go.OpenSpec := { _root_.Go.OpenSpec.ofChange s with cond := some uptoSmall }

/-- 'nocturnlaw13.Charges', WHERE WHAT IT READS IS OF BULK AT MOST 1048576: true; the input reads as it did. -/
def chargesUptoRow : OpenClaim := { program := "ytdngnkfgfacajaa", sum := "f9c5db0eb2d87fd756bd9dc64ccd100b36d26cf21516a25ef97a5b86077974b1", func := "nocturn/nocturnlaw13.Charges", spec := "charges", apart := false, narrowed := true }
def ChargesUptoSaid : Prop := chargesUptoRow.holds Try.pinned (OpenSpec.upto chargesSpec)

/-- 'nocturnlaw13.ChargeRun', WHERE WHAT IT READS IS OF BULK AT MOST 1048576: true; the input reads as it did. -/
def chargeRunUptoRow : OpenClaim := { program := "ytdngnkfgfacajaa", sum := "f9c5db0eb2d87fd756bd9dc64ccd100b36d26cf21516a25ef97a5b86077974b1", func := "nocturn/nocturnlaw13.ChargeRun", spec := "chargeRun", apart := false, narrowed := true }
def ChargeRunUptoSaid : Prop := chargeRunUptoRow.holds Try.pinned (OpenSpec.upto chargeRunSpec)

/-- 'nocturnlaw13.ChargeForms', WHERE WHAT IT READS IS OF BULK AT MOST 1048576: true; the input reads as it did. -/
def chargeFormsUptoRow : OpenClaim := { program := "ytdngnkfgfacajaa", sum := "f9c5db0eb2d87fd756bd9dc64ccd100b36d26cf21516a25ef97a5b86077974b1", func := "nocturn/nocturnlaw13.ChargeForms", spec := "chargeForms", apart := false, narrowed := true }
def ChargeFormsUptoSaid : Prop := chargeFormsUptoRow.holds Try.pinned (OpenSpec.upto chargeFormsSpec)

/-- 'nocturnlaw13.ChargeRanks', WHERE WHAT IT READS IS OF BULK AT MOST 1048576: true; the input reads as it did. -/
def chargeRanksUptoRow : OpenClaim := { program := "ytdngnkfgfacajaa", sum := "f9c5db0eb2d87fd756bd9dc64ccd100b36d26cf21516a25ef97a5b86077974b1", func := "nocturn/nocturnlaw13.ChargeRanks", spec := "chargeRanks", apart := false, narrowed := true }
def ChargeRanksUptoSaid : Prop := chargeRanksUptoRow.holds Try.pinned (OpenSpec.upto chargeRanksSpec)

end Rows
end Go.Proofs.Ytdngnkfgfacajaa
