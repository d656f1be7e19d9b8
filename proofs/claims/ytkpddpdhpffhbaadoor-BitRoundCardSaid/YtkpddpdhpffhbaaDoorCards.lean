/-
  DERIVED. GIVEN WITH THE SEED: THE CARDS: each row of YtkpddpdhpffhbaaDoorRows.lean that lists a variable, with what it lists TIED to the program's text (the seventh form; the later family's looks); each row that meets fmt, with fmt's text TOLD by the authors' own Lean function (tested against real Go, not proved from fmt's source: count such statements apart). THE CARD IS WHAT COUNTS. Prove the row's statement (the work); the ties are given (YtkpddpdhpffhbaaDoorTie.lean); close each card by the builder's one call (the guide's Derived/Test/ToyasCard.lean, 'card_holds'). Laid BY PROGRAM, IN A SANDBOX (cutbox-door.mjs). By AI agents, Wed Nov 11 2026. No macro, syntax, notation, axiom, sorry.
-/
import Derived.Test.YtkpddpdhpffhbaaDoorRows
import GoSem.ClaimSeven
namespace Go.Proofs.YtkpddpdhpffhbaaDoor
namespace Rows

/-- THE TIED CARD OF 'nocturnlaw3.BitActs'. -/
def bitActsCard : Claim7 := { stood := { row := bitActsRow, standIns := [], harness := (true, "4d04cc217d3d930a5f86dc7d2115224f94b0c608d5d8853a526c167877c75729"), looks := false }, kinds := [], alts := [], laidByText := true, laidKinds := [.data], laidTests := true, laidLooks := .later }
def BitActsCardSaid : Prop := Claim7.holds Tryd.pinned (.plain (OpenSpec.ofChange bitActsSpec)) bitActsCard

/-- THE TIED CARD OF 'nocturnlaw3.BitRound'. -/
def bitRoundCard : Claim7 := { stood := { row := bitRoundRow, standIns := [], harness := (true, "4d04cc217d3d930a5f86dc7d2115224f94b0c608d5d8853a526c167877c75729"), looks := false }, kinds := [], alts := [], laidByText := true, laidKinds := [.data], laidTests := true, laidLooks := .later }
def BitRoundCardSaid : Prop := Claim7.holds Tryd.pinned (.plain (OpenSpec.ofChange bitRoundSpec)) bitRoundCard

/-- THE TIED CARD OF 'nocturnlaw3.BitSets'. -/
def bitSetsCard : Claim7 := { stood := { row := bitSetsRow, standIns := [], harness := (true, "4d04cc217d3d930a5f86dc7d2115224f94b0c608d5d8853a526c167877c75729"), looks := false }, kinds := [], alts := [], laidByText := true, laidKinds := [.data], laidTests := true, laidLooks := .later }
def BitSetsCardSaid : Prop := Claim7.holds Tryd.pinned (.plain (OpenSpec.ofChange bitSetsSpec)) bitSetsCard

/-- THE SECOND FORM's CARD OF 'nocturnlaw3.BitActs'. -/
def bitActsUptoCard : Claim7 := { stood := { row := bitActsUptoRow, standIns := [], harness := (true, "4d04cc217d3d930a5f86dc7d2115224f94b0c608d5d8853a526c167877c75729"), looks := false }, kinds := [], alts := [], laidByText := true, laidKinds := [.data], laidTests := true, laidLooks := .later }
def BitActsUptoCardSaid : Prop := Claim7.holds Tryd.pinned (.plain (OpenSpec.upto bitActsSpec)) bitActsUptoCard

/-- THE SECOND FORM's CARD OF 'nocturnlaw3.BitRound'. -/
def bitRoundUptoCard : Claim7 := { stood := { row := bitRoundUptoRow, standIns := [], harness := (true, "4d04cc217d3d930a5f86dc7d2115224f94b0c608d5d8853a526c167877c75729"), looks := false }, kinds := [], alts := [], laidByText := true, laidKinds := [.data], laidTests := true, laidLooks := .later }
def BitRoundUptoCardSaid : Prop := Claim7.holds Tryd.pinned (.plain (OpenSpec.upto bitRoundSpec)) bitRoundUptoCard

/-- THE SECOND FORM's CARD OF 'nocturnlaw3.BitSets'. -/
def bitSetsUptoCard : Claim7 := { stood := { row := bitSetsUptoRow, standIns := [], harness := (true, "4d04cc217d3d930a5f86dc7d2115224f94b0c608d5d8853a526c167877c75729"), looks := false }, kinds := [], alts := [], laidByText := true, laidKinds := [.data], laidTests := true, laidLooks := .later }
def BitSetsUptoCardSaid : Prop := Claim7.holds Tryd.pinned (.plain (OpenSpec.upto bitSetsSpec)) bitSetsUptoCard
end Rows
end Go.Proofs.YtkpddpdhpffhbaaDoor
