/-
  No cell of these rows narrows 'for every input' (looked for: loops, veiled, ifaces, maps, wideKeys, modest, calm, conditions, laid).
  DERIVED. THE GIVEN ROWS OF THIS SEAT. 5 by the template 'for every input the law returns true; each argument reads behind the call as it read before'; 0 by the template 'total and deterministic' (their statements: YtbgapiiopocncaaTotals.lean).
  GIVEN WITH THE SEED: the statements are not yours to turn. If you find one false, say at which input.
  Laid BY PROGRAM, IN A SANDBOX (cutbox-rows.mjs): the forced cells as the released guide's own fill.sh prints them over the translation b1c7a7d5d2e7fdb9… (all of the seat's roots in one cut). By AI agents, Wed Nov 11 2026. No macro, syntax, notation, axiom, sorry.
-/
import Derived.Test.YtbgapiiopocncaaChecked
import GoSem.Claim
import GoSem.ClaimJoined
import GoSem.ClaimMapViews
import Derived.JoinedTies
import Derived.KernelRfl
namespace Go.Proofs.Ytbgapiiopocncaa
/- THE CELL 'sum', in the pinned program and in every row, IS THE sha256 OF THE DUMP (.gsa) THAT YtbgapiiopocncaaProg.lean LOADS. Nothing in Lean hashes anything: it is a label: what it is worth is what the hold of that sum in a sandbox is worth. -/
noncomputable def Try.pinned : Pinned := { name := "ytbgapiiopocncaa", sum := "b1c7a7d5d2e7fdb9a8eb29e2986457fd8f194905f49062d07e01a6e9491ae241", checked := Try.checked }
namespace Rows
def none {H : Type} : Left H := { results := [], args := [] }

/-- 'nocturnlaw1.Ticks': WHATEVER THE INPUT: true; the input reads as it did. -/
def ticksSpec : ChangeSpec := { name := "ticks", fn := fun _ => fun
  | [d1, d2, d3] => { results := [.lit (.bool true)], args := [d1, d2, d3] }
  | _ => none }
def ticksRow : OpenClaim := { program := "ytbgapiiopocncaa", sum := "b1c7a7d5d2e7fdb9a8eb29e2986457fd8f194905f49062d07e01a6e9491ae241", func := "nocturn/nocturnlaw1.Ticks", spec := "ticks", inPlace := ["math/bits.Add64"], apart := false }
def TicksSaid : Prop := ticksRow.holds Try.pinned (OpenSpec.ofChange ticksSpec)

/-- ITS FALSE NEIGHBOUR: 'it returns false'. Refute it at one input. -/
def ticksWrong : ChangeSpec := { name := "ticks", fn := fun _ => fun
  | [d1, d2, d3] => { results := [.lit (.bool false)], args := [d1, d2, d3] }
  | _ => none }
def TicksWrongFalsely : Prop := ticksRow.holds Try.pinned (OpenSpec.ofChange ticksWrong)

/-- 'nocturnlaw1.TickDivides': WHATEVER THE INPUT: true; the input reads as it did. -/
def tickDividesSpec : ChangeSpec := { name := "tickDivides", fn := fun _ => fun
  | [d1, d2, d3] => { results := [.lit (.bool true)], args := [d1, d2, d3] }
  | _ => none }
def tickDividesRow : OpenClaim := { program := "ytbgapiiopocncaa", sum := "b1c7a7d5d2e7fdb9a8eb29e2986457fd8f194905f49062d07e01a6e9491ae241", func := "nocturn/nocturnlaw1.TickDivides", spec := "tickDivides", inPlace := ["math/bits.Add64"], apart := false }
def TickDividesSaid : Prop := tickDividesRow.holds Try.pinned (OpenSpec.ofChange tickDividesSpec)

/-- ITS FALSE NEIGHBOUR: 'it returns false'. Refute it at one input. -/
def tickDividesWrong : ChangeSpec := { name := "tickDivides", fn := fun _ => fun
  | [d1, d2, d3] => { results := [.lit (.bool false)], args := [d1, d2, d3] }
  | _ => none }
def TickDividesWrongFalsely : Prop := tickDividesRow.holds Try.pinned (OpenSpec.ofChange tickDividesWrong)

/-- 'nocturnlaw1.TickCounts': WHATEVER THE INPUT: true; the input reads as it did. -/
def tickCountsSpec : ChangeSpec := { name := "tickCounts", fn := fun _ => fun
  | [d1, d2] => { results := [.lit (.bool true)], args := [d1, d2] }
  | _ => none }
def tickCountsRow : OpenClaim := { program := "ytbgapiiopocncaa", sum := "b1c7a7d5d2e7fdb9a8eb29e2986457fd8f194905f49062d07e01a6e9491ae241", func := "nocturn/nocturnlaw1.TickCounts", spec := "tickCounts", inPlace := ["math/bits.Add64"], apart := false }
def TickCountsSaid : Prop := tickCountsRow.holds Try.pinned (OpenSpec.ofChange tickCountsSpec)

/-- ITS FALSE NEIGHBOUR: 'it returns false'. Refute it at one input. -/
def tickCountsWrong : ChangeSpec := { name := "tickCounts", fn := fun _ => fun
  | [d1, d2] => { results := [.lit (.bool false)], args := [d1, d2] }
  | _ => none }
def TickCountsWrongFalsely : Prop := tickCountsRow.holds Try.pinned (OpenSpec.ofChange tickCountsWrong)

/-- 'nocturnlaw1.TickEdges': WHATEVER THE INPUT: true; the input reads as it did. -/
def tickEdgesSpec : ChangeSpec := { name := "tickEdges", fn := fun _ => fun
  | [d1, d2] => { results := [.lit (.bool true)], args := [d1, d2] }
  | _ => none }
def tickEdgesRow : OpenClaim := { program := "ytbgapiiopocncaa", sum := "b1c7a7d5d2e7fdb9a8eb29e2986457fd8f194905f49062d07e01a6e9491ae241", func := "nocturn/nocturnlaw1.TickEdges", spec := "tickEdges", inPlace := ["math/bits.Add64"], apart := false }
def TickEdgesSaid : Prop := tickEdgesRow.holds Try.pinned (OpenSpec.ofChange tickEdgesSpec)

/-- ITS FALSE NEIGHBOUR: 'it returns false'. Refute it at one input. -/
def tickEdgesWrong : ChangeSpec := { name := "tickEdges", fn := fun _ => fun
  | [d1, d2] => { results := [.lit (.bool false)], args := [d1, d2] }
  | _ => none }
def TickEdgesWrongFalsely : Prop := tickEdgesRow.holds Try.pinned (OpenSpec.ofChange tickEdgesWrong)

/-- 'nocturnlaw1.TickSums': WHATEVER THE INPUT: true; the input reads as it did. -/
def tickSumsSpec : ChangeSpec := { name := "tickSums", fn := fun _ => fun
  | [d] => { results := [.lit (.bool true)], args := [d] }
  | _ => none }
def tickSumsRow : OpenClaim := { program := "ytbgapiiopocncaa", sum := "b1c7a7d5d2e7fdb9a8eb29e2986457fd8f194905f49062d07e01a6e9491ae241", func := "nocturn/nocturnlaw1.TickSums", spec := "tickSums", inPlace := ["math/bits.Add64"], apart := false }
def TickSumsSaid : Prop := tickSumsRow.holds Try.pinned (OpenSpec.ofChange tickSumsSpec)

/-- ITS FALSE NEIGHBOUR: 'it returns false'. Refute it at one input. -/
def tickSumsWrong : ChangeSpec := { name := "tickSums", fn := fun _ => fun
  | [d] => { results := [.lit (.bool false)], args := [d] }
  | _ => none }
def TickSumsWrongFalsely : Prop := tickSumsRow.holds Try.pinned (OpenSpec.ofChange tickSumsWrong)

/- THE SECOND FORM. 'bulk': how many values and letters a reading holds, each counted each time it is reached (what is shared counts as often as it is met; a slice's spare places count too). A statement '..UptoSaid' is the law's where the arguments, and the package variables that the reading takes, are together of bulk at most 1048576: NARROWER than '..Said'. Prove '..Said' where nothing that the law and all that it calls make is longer than what came in: it says more and counts as full. Else prove '..UptoSaid'. A law counts once. -/
mutual
def uptoBulk {H : Type} : DataW H → Nat
  | .lit (.string bytes) => bytes.length + 1
  | .lit _ => 1
  | .nil => 1
  | .ptr d => uptoBulk d + 1
  | .slice elems spare => uptoBulkAll elems + uptoBulkAll spare + 1
  | .agg parts => uptoBulkAll parts + 1
  | .iface _ d => uptoBulk d + 1
  | .map entries => uptoBulkEntries entries + 1
  | .held _ => 1
def uptoBulkAll {H : Type} : List (DataW H) → Nat
  | [] => 0
  | d :: r => uptoBulk d + uptoBulkAll r
def uptoBulkEntries {H : Type} : List (Lit × DataW H) → Nat
  | [] => 0
  | x :: r => uptoBulkEntry x + uptoBulkEntries r
def uptoBulkEntry {H : Type} : Lit × DataW H → Nat
  | (.string bytes, d) => bytes.length + uptoBulk d + 1
  | (_, d) => uptoBulk d + 1
 end
def uptoSmall : (H : Type) → List (DataW H) → Bool := fun _ ds => decide (uptoBulkAll ds ≤ 1048576)
def OpenSpec.upto (s : _root_.Go.ChangeSpec) : _root_.Go.OpenSpec := { _root_.Go.OpenSpec.ofChange s with cond := some uptoSmall }

/-- 'nocturnlaw1.Ticks', WHERE WHAT IT READS IS OF BULK AT MOST 1048576: true; the input reads as it did. -/
def ticksUptoRow : OpenClaim := { program := "ytbgapiiopocncaa", sum := "b1c7a7d5d2e7fdb9a8eb29e2986457fd8f194905f49062d07e01a6e9491ae241", func := "nocturn/nocturnlaw1.Ticks", spec := "ticks", inPlace := ["math/bits.Add64"], apart := false, narrowed := true }
def TicksUptoSaid : Prop := ticksUptoRow.holds Try.pinned (OpenSpec.upto ticksSpec)

/-- 'nocturnlaw1.TickDivides', WHERE WHAT IT READS IS OF BULK AT MOST 1048576: true; the input reads as it did. -/
def tickDividesUptoRow : OpenClaim := { program := "ytbgapiiopocncaa", sum := "b1c7a7d5d2e7fdb9a8eb29e2986457fd8f194905f49062d07e01a6e9491ae241", func := "nocturn/nocturnlaw1.TickDivides", spec := "tickDivides", inPlace := ["math/bits.Add64"], apart := false, narrowed := true }
def TickDividesUptoSaid : Prop := tickDividesUptoRow.holds Try.pinned (OpenSpec.upto tickDividesSpec)

/-- 'nocturnlaw1.TickCounts', WHERE WHAT IT READS IS OF BULK AT MOST 1048576: true; the input reads as it did. -/
def tickCountsUptoRow : OpenClaim := { program := "ytbgapiiopocncaa", sum := "b1c7a7d5d2e7fdb9a8eb29e2986457fd8f194905f49062d07e01a6e9491ae241", func := "nocturn/nocturnlaw1.TickCounts", spec := "tickCounts", inPlace := ["math/bits.Add64"], apart := false, narrowed := true }
def TickCountsUptoSaid : Prop := tickCountsUptoRow.holds Try.pinned (OpenSpec.upto tickCountsSpec)

/-- 'nocturnlaw1.TickEdges', WHERE WHAT IT READS IS OF BULK AT MOST 1048576: true; the input reads as it did. -/
def tickEdgesUptoRow : OpenClaim := { program := "ytbgapiiopocncaa", sum := "b1c7a7d5d2e7fdb9a8eb29e2986457fd8f194905f49062d07e01a6e9491ae241", func := "nocturn/nocturnlaw1.TickEdges", spec := "tickEdges", inPlace := ["math/bits.Add64"], apart := false, narrowed := true }
def TickEdgesUptoSaid : Prop := tickEdgesUptoRow.holds Try.pinned (OpenSpec.upto tickEdgesSpec)

/-- 'nocturnlaw1.TickSums', WHERE WHAT IT READS IS OF BULK AT MOST 1048576: true; the input reads as it did. -/
def tickSumsUptoRow : OpenClaim := { program := "ytbgapiiopocncaa", sum := "b1c7a7d5d2e7fdb9a8eb29e2986457fd8f194905f49062d07e01a6e9491ae241", func := "nocturn/nocturnlaw1.TickSums", spec := "tickSums", inPlace := ["math/bits.Add64"], apart := false, narrowed := true }
def TickSumsUptoSaid : Prop := tickSumsUptoRow.holds Try.pinned (OpenSpec.upto tickSumsSpec)

end Rows
end Go.Proofs.Ytbgapiiopocncaa
