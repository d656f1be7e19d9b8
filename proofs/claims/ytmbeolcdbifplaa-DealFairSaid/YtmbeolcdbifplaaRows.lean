/-
  No cell of these rows narrows 'for every input' (looked for: loops, veiled, ifaces, maps, wideKeys, modest, calm, conditions, laid).
  DERIVED. THE GIVEN ROWS OF THIS SEAT. 5 by the template 'for every input the law returns true; each argument reads behind the call as it read before'; 0 by the template 'total and deterministic' (their statements: YtmbeolcdbifplaaTotals.lean).
  GIVEN WITH THE SEED: the statements are not yours to turn. If you find one false, say at which input.
  Laid BY PROGRAM, IN A SANDBOX (cutbox-rows.mjs): the forced cells as the released guide's own fill.sh prints them over the translation 5aa86e47a0c836ca… (all of the seat's roots in one cut). By AI agents, Wed Nov 11 2026. No macro, syntax, notation, axiom, sorry.
-/
import Derived.Test.YtmbeolcdbifplaaChecked
import GoSem.Claim
import GoSem.ClaimJoined
import GoSem.ClaimMapViews
import Derived.JoinedTies
import Derived.KernelRfl
namespace Go.Proofs.Ytmbeolcdbifplaa
/- THE CELL 'sum', in the pinned program and in every row, IS THE sha256 OF THE DUMP (.gsa) THAT YtmbeolcdbifplaaProg.lean LOADS. Nothing in Lean hashes anything: it is a label: what it is worth is what the hold of that sum in a sandbox is worth. -/
noncomputable def Try.pinned : Pinned := { name := "ytmbeolcdbifplaa", sum := "5aa86e47a0c836ca1fb1e338535831d45d6e0e3eebdeecffb4a8a8a9cd747f40", checked := Try.checked }
namespace Rows
def none {H : Type} : Left H := { results := [], args := [] }

/-- 'nocturnlaw18.Deals': WHATEVER THE INPUT: true; the input reads as it did. -/
def dealsSpec : ChangeSpec := { name := "deals", fn := fun _ => fun
  | [d1, d2, d3] => { results := [.lit (.bool true)], args := [d1, d2, d3] }
  | _ => none }
def dealsRow : OpenClaim := { program := "ytmbeolcdbifplaa", sum := "5aa86e47a0c836ca1fb1e338535831d45d6e0e3eebdeecffb4a8a8a9cd747f40", func := "nocturn/nocturnlaw18.Deals", spec := "deals", apart := false }
def DealsSaid : Prop := dealsRow.holds Try.pinned (OpenSpec.ofChange dealsSpec)

/-- ITS FALSE NEIGHBOUR: 'it returns false'. Refute it at one input. -/
def dealsWrong : ChangeSpec := { name := "deals", fn := fun _ => fun
  | [d1, d2, d3] => { results := [.lit (.bool false)], args := [d1, d2, d3] }
  | _ => none }
def DealsWrongFalsely : Prop := dealsRow.holds Try.pinned (OpenSpec.ofChange dealsWrong)

/-- 'nocturnlaw18.DealFair': WHATEVER THE INPUT: true; the input reads as it did. -/
def dealFairSpec : ChangeSpec := { name := "dealFair", fn := fun _ => fun
  | [d1, d2, d3] => { results := [.lit (.bool true)], args := [d1, d2, d3] }
  | _ => none }
def dealFairRow : OpenClaim := { program := "ytmbeolcdbifplaa", sum := "5aa86e47a0c836ca1fb1e338535831d45d6e0e3eebdeecffb4a8a8a9cd747f40", func := "nocturn/nocturnlaw18.DealFair", spec := "dealFair", apart := false }
def DealFairSaid : Prop := dealFairRow.holds Try.pinned (OpenSpec.ofChange dealFairSpec)

/-- ITS FALSE NEIGHBOUR: 'it returns false'. Refute it at one input. -/
def dealFairWrong : ChangeSpec := { name := "dealFair", fn := fun _ => fun
  | [d1, d2, d3] => { results := [.lit (.bool false)], args := [d1, d2, d3] }
  | _ => none }
def DealFairWrongFalsely : Prop := dealFairRow.holds Try.pinned (OpenSpec.ofChange dealFairWrong)

/-- 'nocturnlaw18.DealForms': WHATEVER THE INPUT: true; the input reads as it did. -/
def dealFormsSpec : ChangeSpec := { name := "dealForms", fn := fun _ => fun
  | [d1, d2] => { results := [.lit (.bool true)], args := [d1, d2] }
  | _ => none }
def dealFormsRow : OpenClaim := { program := "ytmbeolcdbifplaa", sum := "5aa86e47a0c836ca1fb1e338535831d45d6e0e3eebdeecffb4a8a8a9cd747f40", func := "nocturn/nocturnlaw18.DealForms", spec := "dealForms", apart := false }
def DealFormsSaid : Prop := dealFormsRow.holds Try.pinned (OpenSpec.ofChange dealFormsSpec)

/-- ITS FALSE NEIGHBOUR: 'it returns false'. Refute it at one input. -/
def dealFormsWrong : ChangeSpec := { name := "dealForms", fn := fun _ => fun
  | [d1, d2] => { results := [.lit (.bool false)], args := [d1, d2] }
  | _ => none }
def DealFormsWrongFalsely : Prop := dealFormsRow.holds Try.pinned (OpenSpec.ofChange dealFormsWrong)

/-- 'nocturnlaw18.DealTurn': WHATEVER THE INPUT: true; the input reads as it did. -/
def dealTurnSpec : ChangeSpec := { name := "dealTurn", fn := fun _ => fun
  | [d1, d2, d3] => { results := [.lit (.bool true)], args := [d1, d2, d3] }
  | _ => none }
def dealTurnRow : OpenClaim := { program := "ytmbeolcdbifplaa", sum := "5aa86e47a0c836ca1fb1e338535831d45d6e0e3eebdeecffb4a8a8a9cd747f40", func := "nocturn/nocturnlaw18.DealTurn", spec := "dealTurn", apart := false }
def DealTurnSaid : Prop := dealTurnRow.holds Try.pinned (OpenSpec.ofChange dealTurnSpec)

/-- ITS FALSE NEIGHBOUR: 'it returns false'. Refute it at one input. -/
def dealTurnWrong : ChangeSpec := { name := "dealTurn", fn := fun _ => fun
  | [d1, d2, d3] => { results := [.lit (.bool false)], args := [d1, d2, d3] }
  | _ => none }
def DealTurnWrongFalsely : Prop := dealTurnRow.holds Try.pinned (OpenSpec.ofChange dealTurnWrong)

/-- 'nocturnlaw18.DealSame': WHATEVER THE INPUT: true; the input reads as it did. -/
def dealSameSpec : ChangeSpec := { name := "dealSame", fn := fun _ => fun
  | [d1, d2] => { results := [.lit (.bool true)], args := [d1, d2] }
  | _ => none }
def dealSameRow : OpenClaim := { program := "ytmbeolcdbifplaa", sum := "5aa86e47a0c836ca1fb1e338535831d45d6e0e3eebdeecffb4a8a8a9cd747f40", func := "nocturn/nocturnlaw18.DealSame", spec := "dealSame", apart := false }
def DealSameSaid : Prop := dealSameRow.holds Try.pinned (OpenSpec.ofChange dealSameSpec)

/-- ITS FALSE NEIGHBOUR: 'it returns false'. Refute it at one input. -/
def dealSameWrong : ChangeSpec := { name := "dealSame", fn := fun _ => fun
  | [d1, d2] => { results := [.lit (.bool false)], args := [d1, d2] }
  | _ => none }
def DealSameWrongFalsely : Prop := dealSameRow.holds Try.pinned (OpenSpec.ofChange dealSameWrong)

/- THE SECOND FORM. 'bulk': how many values and letters a reading holds, each counted each time it is reached (what is shared counts as often as it is met; a slice's spare places count too). A statement '..UptoSaid' is the law's where the arguments, and the package variables that the reading takes, are together of bulk at most 1048576: NARROWER than '..Said'. Prove '..Said' where nothing that the law and all that it calls make is longer than what came in: it says more and counts as full. Else prove '..UptoSaid'. A law counts once. -/
mutual
def uptoBulk {H : Type} : DataW H → Nat
  | .lit (.string bytes) => bytes.length + 1
  | .lit _ => 1
  | .nil => 1
  | .ptr d => uptoBulk d + 1
  | .slice elems spare => uptoBulkAll elems + uptoBulkAll spare + 1
  | .agg parts => uptoBulkAll parts + 1
  | .iface _ d => uptoBulk d + 1
  | .map entries => uptoBulkEntries entries + 1
  | .held _ => 1
def uptoBulkAll {H : Type} : List (DataW H) → Nat
  | [] => 0
  | d :: r => uptoBulk d + uptoBulkAll r
def uptoBulkEntries {H : Type} : List (Lit × DataW H) → Nat
  | [] => 0
  | x :: r => uptoBulkEntry x + uptoBulkEntries r
def uptoBulkEntry {H : Type} : Lit × DataW H → Nat
  | (.string bytes, d) => bytes.length + uptoBulk d + 1
  | (_, d) => uptoBulk d + 1
 end
def uptoSmall : (H : Type) → List (DataW H) → Bool := fun _ ds => decide (uptoBulkAll ds ≤ 1048576)
def OpenSpec.upto (s : _root_.Go.ChangeSpec) : _root_.Go.OpenSpec := { _root_.Go.OpenSpec.ofChange s with cond := some uptoSmall }

/-- 'nocturnlaw18.Deals', WHERE WHAT IT READS IS OF BULK AT MOST 1048576: true; the input reads as it did. -/
def dealsUptoRow : OpenClaim := { program := "ytmbeolcdbifplaa", sum := "5aa86e47a0c836ca1fb1e338535831d45d6e0e3eebdeecffb4a8a8a9cd747f40", func := "nocturn/nocturnlaw18.Deals", spec := "deals", apart := false, narrowed := true }
def DealsUptoSaid : Prop := dealsUptoRow.holds Try.pinned (OpenSpec.upto dealsSpec)

/-- 'nocturnlaw18.DealFair', WHERE WHAT IT READS IS OF BULK AT MOST 1048576: true; the input reads as it did. -/
def dealFairUptoRow : OpenClaim := { program := "ytmbeolcdbifplaa", sum := "5aa86e47a0c836ca1fb1e338535831d45d6e0e3eebdeecffb4a8a8a9cd747f40", func := "nocturn/nocturnlaw18.DealFair", spec := "dealFair", apart := false, narrowed := true }
def DealFairUptoSaid : Prop := dealFairUptoRow.holds Try.pinned (OpenSpec.upto dealFairSpec)

/-- 'nocturnlaw18.DealForms', WHERE WHAT IT READS IS OF BULK AT MOST 1048576: true; the input reads as it did. -/
def dealFormsUptoRow : OpenClaim := { program := "ytmbeolcdbifplaa", sum := "5aa86e47a0c836ca1fb1e338535831d45d6e0e3eebdeecffb4a8a8a9cd747f40", func := "nocturn/nocturnlaw18.DealForms", spec := "dealForms", apart := false, narrowed := true }
def DealFormsUptoSaid : Prop := dealFormsUptoRow.holds Try.pinned (OpenSpec.upto dealFormsSpec)

/-- 'nocturnlaw18.DealTurn', WHERE WHAT IT READS IS OF BULK AT MOST 1048576: true; the input reads as it did. -/
def dealTurnUptoRow : OpenClaim := { program := "ytmbeolcdbifplaa", sum := "5aa86e47a0c836ca1fb1e338535831d45d6e0e3eebdeecffb4a8a8a9cd747f40", func := "nocturn/nocturnlaw18.DealTurn", spec := "dealTurn", apart := false, narrowed := true }
def DealTurnUptoSaid : Prop := dealTurnUptoRow.holds Try.pinned (OpenSpec.upto dealTurnSpec)

/-- 'nocturnlaw18.DealSame', WHERE WHAT IT READS IS OF BULK AT MOST 1048576: true; the input reads as it did. -/
def dealSameUptoRow : OpenClaim := { program := "ytmbeolcdbifplaa", sum := "5aa86e47a0c836ca1fb1e338535831d45d6e0e3eebdeecffb4a8a8a9cd747f40", func := "nocturn/nocturnlaw18.DealSame", spec := "dealSame", apart := false, narrowed := true }
def DealSameUptoSaid : Prop := dealSameUptoRow.holds Try.pinned (OpenSpec.upto dealSameSpec)

end Rows
end Go.Proofs.Ytmbeolcdbifplaa
