/-
  No cell of these rows narrows 'for every input' (looked for: loops, veiled, ifaces, maps, wideKeys, modest, calm, conditions, laid).
  DERIVED. THE GIVEN ROWS OF THIS SEAT. 5 by the template 'for every input the law returns true; each argument reads behind the call as it read before'; 0 by the template 'total and deterministic' (their statements: YtoajpihpldndcaaTotals.lean).
  GIVEN WITH THE SEED: the statements are not yours to turn. If you find one false, say at which input.
  Laid BY PROGRAM, IN A SANDBOX (cutbox-rows.mjs): the forced cells as the released guide's own fill.sh prints them over the translation 1445429850251f78… (all of the seat's roots in one cut). By AI agents, Wed Nov 11 2026. No macro, syntax, notation, axiom, sorry.
-/
import Derived.Test.YtoajpihpldndcaaChecked
import GoSem.Claim
import GoSem.ClaimJoined
import GoSem.ClaimMapViews
import Derived.JoinedTies
import Derived.KernelRfl
namespace Go.Proofs.Ytoajpihpldndcaa
/- THE CELL 'sum', in the pinned program and in every row, IS THE sha256 OF THE DUMP (.gsa) THAT YtoajpihpldndcaaProg.lean LOADS. Nothing in Lean hashes anything: it is a label: what it is worth is what the hold of that sum in a sandbox is worth. -/
noncomputable def Try.pinned : Pinned := { name := "ytoajpihpldndcaa", sum := "1445429850251f7858b13a2991152c1adc7ed04c19df88bc3e32fe72d823e27b", checked := Try.checked }
namespace Rows
def none {H : Type} : Left H := { results := [], args := [] }

/-- 'nocturnlaw8.Demands': WHATEVER THE INPUT: true; the input reads as it did. -/
def demandsSpec : ChangeSpec := { name := "demands", fn := fun _ => fun
  | [d1, d2, d3] => { results := [.lit (.bool true)], args := [d1, d2, d3] }
  | _ => none }
def demandsRow : OpenClaim := { program := "ytoajpihpldndcaa", sum := "1445429850251f7858b13a2991152c1adc7ed04c19df88bc3e32fe72d823e27b", func := "nocturn/nocturnlaw8.Demands", spec := "demands", apart := false }
def DemandsSaid : Prop := demandsRow.holds Try.pinned (OpenSpec.ofChange demandsSpec)

/-- ITS FALSE NEIGHBOUR: 'it returns false'. Refute it at one input. -/
def demandsWrong : ChangeSpec := { name := "demands", fn := fun _ => fun
  | [d1, d2, d3] => { results := [.lit (.bool false)], args := [d1, d2, d3] }
  | _ => none }
def DemandsWrongFalsely : Prop := demandsRow.holds Try.pinned (OpenSpec.ofChange demandsWrong)

/-- 'nocturnlaw8.DemandGrows': WHATEVER THE INPUT: true; the input reads as it did. -/
def demandGrowsSpec : ChangeSpec := { name := "demandGrows", fn := fun _ => fun
  | [d1, d2, d3] => { results := [.lit (.bool true)], args := [d1, d2, d3] }
  | _ => none }
def demandGrowsRow : OpenClaim := { program := "ytoajpihpldndcaa", sum := "1445429850251f7858b13a2991152c1adc7ed04c19df88bc3e32fe72d823e27b", func := "nocturn/nocturnlaw8.DemandGrows", spec := "demandGrows", apart := false }
def DemandGrowsSaid : Prop := demandGrowsRow.holds Try.pinned (OpenSpec.ofChange demandGrowsSpec)

/-- ITS FALSE NEIGHBOUR: 'it returns false'. Refute it at one input. -/
def demandGrowsWrong : ChangeSpec := { name := "demandGrows", fn := fun _ => fun
  | [d1, d2, d3] => { results := [.lit (.bool false)], args := [d1, d2, d3] }
  | _ => none }
def DemandGrowsWrongFalsely : Prop := demandGrowsRow.holds Try.pinned (OpenSpec.ofChange demandGrowsWrong)

/-- 'nocturnlaw8.DemandForms': WHATEVER THE INPUT: true; the input reads as it did. -/
def demandFormsSpec : ChangeSpec := { name := "demandForms", fn := fun _ => fun
  | [d1, d2] => { results := [.lit (.bool true)], args := [d1, d2] }
  | _ => none }
def demandFormsRow : OpenClaim := { program := "ytoajpihpldndcaa", sum := "1445429850251f7858b13a2991152c1adc7ed04c19df88bc3e32fe72d823e27b", func := "nocturn/nocturnlaw8.DemandForms", spec := "demandForms", apart := false }
def DemandFormsSaid : Prop := demandFormsRow.holds Try.pinned (OpenSpec.ofChange demandFormsSpec)

/-- ITS FALSE NEIGHBOUR: 'it returns false'. Refute it at one input. -/
def demandFormsWrong : ChangeSpec := { name := "demandForms", fn := fun _ => fun
  | [d1, d2] => { results := [.lit (.bool false)], args := [d1, d2] }
  | _ => none }
def DemandFormsWrongFalsely : Prop := demandFormsRow.holds Try.pinned (OpenSpec.ofChange demandFormsWrong)

/-- 'nocturnlaw8.DemandAlone': WHATEVER THE INPUT: true; the input reads as it did. -/
def demandAloneSpec : ChangeSpec := { name := "demandAlone", fn := fun _ => fun
  | [d1, d2] => { results := [.lit (.bool true)], args := [d1, d2] }
  | _ => none }
def demandAloneRow : OpenClaim := { program := "ytoajpihpldndcaa", sum := "1445429850251f7858b13a2991152c1adc7ed04c19df88bc3e32fe72d823e27b", func := "nocturn/nocturnlaw8.DemandAlone", spec := "demandAlone", apart := false }
def DemandAloneSaid : Prop := demandAloneRow.holds Try.pinned (OpenSpec.ofChange demandAloneSpec)

/-- ITS FALSE NEIGHBOUR: 'it returns false'. Refute it at one input. -/
def demandAloneWrong : ChangeSpec := { name := "demandAlone", fn := fun _ => fun
  | [d1, d2] => { results := [.lit (.bool false)], args := [d1, d2] }
  | _ => none }
def DemandAloneWrongFalsely : Prop := demandAloneRow.holds Try.pinned (OpenSpec.ofChange demandAloneWrong)

/-- 'nocturnlaw8.DemandRow': WHATEVER THE INPUT: true; the input reads as it did. -/
def demandRowSpec : ChangeSpec := { name := "demandRow", fn := fun _ => fun
  | [d1, d2, d3] => { results := [.lit (.bool true)], args := [d1, d2, d3] }
  | _ => none }
def demandRowRow : OpenClaim := { program := "ytoajpihpldndcaa", sum := "1445429850251f7858b13a2991152c1adc7ed04c19df88bc3e32fe72d823e27b", func := "nocturn/nocturnlaw8.DemandRow", spec := "demandRow", apart := false }
def DemandRowSaid : Prop := demandRowRow.holds Try.pinned (OpenSpec.ofChange demandRowSpec)

/-- ITS FALSE NEIGHBOUR: 'it returns false'. Refute it at one input. -/
def demandRowWrong : ChangeSpec := { name := "demandRow", fn := fun _ => fun
  | [d1, d2, d3] => { results := [.lit (.bool false)], args := [d1, d2, d3] }
  | _ => none }
def DemandRowWrongFalsely : Prop := demandRowRow.holds Try.pinned (OpenSpec.ofChange demandRowWrong)

/- THE SECOND FORM. 'bulk': how many values and letters a reading holds, each counted each time it is reached (what is shared counts as often as it is met; a slice's spare places count too). A statement '..UptoSaid' is the law's where the arguments, and the package variables that the reading takes, are together of bulk at most 1048576: NARROWER than '..Said'. Prove '..Said' where nothing that the law and all that it calls make is longer than what came in: it says more and counts as full. Else prove '..UptoSaid'. A law counts once. -/
mutual
def uptoBulk {H : Type} : DataW H → Nat
  | .lit (.string bytes) => bytes.length + 1
  | .lit _ => 1
  | .nil => 1
  | .ptr d => uptoBulk d + 1
  | .slice elems spare => uptoBulkAll elems + uptoBulkAll spare + 1
  | .agg parts => uptoBulkAll parts + 1
  | .iface _ d => uptoBulk d + 1
  | .map entries => uptoBulkEntries entries + 1
  | .held _ => 1
def uptoBulkAll {H : Type} : List (DataW H) → Nat
  | [] => 0
  | d :: r => uptoBulk d + uptoBulkAll r
def uptoBulkEntries {H : Type} : List (Lit × DataW H) → Nat
  | [] => 0
  | x :: r => uptoBulkEntry x + uptoBulkEntries r
def uptoBulkEntry {H : Type} : Lit × DataW H → Nat
  | (.string bytes, d) => bytes.length + uptoBulk d + 1
  | (_, d) => uptoBulk d + 1
 end
def uptoSmall : (H : Type) → List (DataW H) → Bool := fun _ ds => decide (uptoBulkAll ds ≤ 1048576)
def OpenSpec.upto (s : _root_.Go.ChangeSpec) : _root_.Go.OpenSpec := { _root_.Go.OpenSpec.ofChange s with cond := some uptoSmall }

/-- 'nocturnlaw8.Demands', WHERE WHAT IT READS IS OF BULK AT MOST 1048576: true; the input reads as it did. -/
def demandsUptoRow : OpenClaim := { program := "ytoajpihpldndcaa", sum := "1445429850251f7858b13a2991152c1adc7ed04c19df88bc3e32fe72d823e27b", func := "nocturn/nocturnlaw8.Demands", spec := "demands", apart := false, narrowed := true }
def DemandsUptoSaid : Prop := demandsUptoRow.holds Try.pinned (OpenSpec.upto demandsSpec)

/-- 'nocturnlaw8.DemandGrows', WHERE WHAT IT READS IS OF BULK AT MOST 1048576: true; the input reads as it did. -/
def demandGrowsUptoRow : OpenClaim := { program := "ytoajpihpldndcaa", sum := "1445429850251f7858b13a2991152c1adc7ed04c19df88bc3e32fe72d823e27b", func := "nocturn/nocturnlaw8.DemandGrows", spec := "demandGrows", apart := false, narrowed := true }
def DemandGrowsUptoSaid : Prop := demandGrowsUptoRow.holds Try.pinned (OpenSpec.upto demandGrowsSpec)

/-- 'nocturnlaw8.DemandForms', WHERE WHAT IT READS IS OF BULK AT MOST 1048576: true; the input reads as it did. -/
def demandFormsUptoRow : OpenClaim := { program := "ytoajpihpldndcaa", sum := "1445429850251f7858b13a2991152c1adc7ed04c19df88bc3e32fe72d823e27b", func := "nocturn/nocturnlaw8.DemandForms", spec := "demandForms", apart := false, narrowed := true }
def DemandFormsUptoSaid : Prop := demandFormsUptoRow.holds Try.pinned (OpenSpec.upto demandFormsSpec)

/-- 'nocturnlaw8.DemandAlone', WHERE WHAT IT READS IS OF BULK AT MOST 1048576: true; the input reads as it did. -/
def demandAloneUptoRow : OpenClaim := { program := "ytoajpihpldndcaa", sum := "1445429850251f7858b13a2991152c1adc7ed04c19df88bc3e32fe72d823e27b", func := "nocturn/nocturnlaw8.DemandAlone", spec := "demandAlone", apart := false, narrowed := true }
def DemandAloneUptoSaid : Prop := demandAloneUptoRow.holds Try.pinned (OpenSpec.upto demandAloneSpec)

/-- 'nocturnlaw8.DemandRow', WHERE WHAT IT READS IS OF BULK AT MOST 1048576: true; the input reads as it did. -/
def demandRowUptoRow : OpenClaim := { program := "ytoajpihpldndcaa", sum := "1445429850251f7858b13a2991152c1adc7ed04c19df88bc3e32fe72d823e27b", func := "nocturn/nocturnlaw8.DemandRow", spec := "demandRow", apart := false, narrowed := true }
def DemandRowUptoSaid : Prop := demandRowUptoRow.holds Try.pinned (OpenSpec.upto demandRowSpec)

end Rows
end Go.Proofs.Ytoajpihpldndcaa
