/-
  No cell of these rows narrows 'for every input' (looked for: loops, veiled, ifaces, maps, wideKeys, modest, calm, conditions, laid).
  DERIVED. THE GIVEN ROWS OF THIS SEAT. 6 by the template 'for every input the law returns true; each argument reads behind the call as it read before'; 0 by the template 'total and deterministic' (their statements: YtndbcpfbddhonaaTotals.lean).
  GIVEN WITH THE SEED: the statements are not yours to turn. If you find one false, say at which input.
  Laid BY PROGRAM, IN A SANDBOX (cutbox-rows.mjs): the forced cells as the released guide's own fill.sh prints them over the translation 342f198799a5b666… (all of the seat's roots in one cut). By AI agents, Wed Nov 11 2026. No macro, syntax, notation, axiom, sorry.
-/
import Derived.Test.YtndbcpfbddhonaaChecked
import GoSem.Claim
import GoSem.ClaimJoined
import GoSem.ClaimMapViews
import Derived.JoinedTies
import Derived.KernelRfl
namespace Go.Proofs.Ytndbcpfbddhonaa
/- THE CELL 'sum', in the pinned program and in every row, IS THE sha256 OF THE DUMP (.gsa) THAT YtndbcpfbddhonaaProg.lean LOADS. Nothing in Lean hashes anything: it is a label: what it is worth is what the hold of that sum in a sandbox is worth. -/
noncomputable def Try.pinned : Pinned := { name := "ytndbcpfbddhonaa", sum := "342f198799a5b666a238d44f8d192d15a6059be2059903ea6d20f5e298cf35c0", checked := Try.checked }
namespace Rows
def none {H : Type} : Left H := { results := [], args := [] }

/-- 'nocturnlaw5.Configs': WHATEVER THE INPUT: true; the input reads as it did. -/
def configsSpec : ChangeSpec := { name := "configs", fn := fun _ => fun
  | [d1, d2] => { results := [.lit (.bool true)], args := [d1, d2] }
  | _ => none }
def configsRow : OpenClaim := { program := "ytndbcpfbddhonaa", sum := "342f198799a5b666a238d44f8d192d15a6059be2059903ea6d20f5e298cf35c0", func := "nocturn/nocturnlaw5.Configs", spec := "configs", unfollowed := true, recurses := true, apart := false }
def ConfigsSaid : Prop := configsRow.holds Try.pinned (OpenSpec.ofChange configsSpec)

/-- ITS FALSE NEIGHBOUR: 'it returns false'. Refute it at one input. -/
def configsWrong : ChangeSpec := { name := "configs", fn := fun _ => fun
  | [d1, d2] => { results := [.lit (.bool false)], args := [d1, d2] }
  | _ => none }
def ConfigsWrongFalsely : Prop := configsRow.holds Try.pinned (OpenSpec.ofChange configsWrong)

/-- 'nocturnlaw5.ConfigBack': WHATEVER THE INPUT: true; the input reads as it did. -/
def configBackSpec : ChangeSpec := { name := "configBack", fn := fun _ => fun
  | [d1, d2, d3] => { results := [.lit (.bool true)], args := [d1, d2, d3] }
  | _ => none }
def configBackRow : OpenClaim := { program := "ytndbcpfbddhonaa", sum := "342f198799a5b666a238d44f8d192d15a6059be2059903ea6d20f5e298cf35c0", func := "nocturn/nocturnlaw5.ConfigBack", spec := "configBack", unfollowed := true, recurses := true, apart := false }
def ConfigBackSaid : Prop := configBackRow.holds Try.pinned (OpenSpec.ofChange configBackSpec)

/-- ITS FALSE NEIGHBOUR: 'it returns false'. Refute it at one input. -/
def configBackWrong : ChangeSpec := { name := "configBack", fn := fun _ => fun
  | [d1, d2, d3] => { results := [.lit (.bool false)], args := [d1, d2, d3] }
  | _ => none }
def ConfigBackWrongFalsely : Prop := configBackRow.holds Try.pinned (OpenSpec.ofChange configBackWrong)

/-- 'nocturnlaw5.ConfigForms': WHATEVER THE INPUT: true; the input reads as it did. -/
def configFormsSpec : ChangeSpec := { name := "configForms", fn := fun _ => fun
  | [d1, d2] => { results := [.lit (.bool true)], args := [d1, d2] }
  | _ => none }
def configFormsRow : OpenClaim := { program := "ytndbcpfbddhonaa", sum := "342f198799a5b666a238d44f8d192d15a6059be2059903ea6d20f5e298cf35c0", func := "nocturn/nocturnlaw5.ConfigForms", spec := "configForms", unfollowed := true, recurses := true, apart := false }
def ConfigFormsSaid : Prop := configFormsRow.holds Try.pinned (OpenSpec.ofChange configFormsSpec)

/-- ITS FALSE NEIGHBOUR: 'it returns false'. Refute it at one input. -/
def configFormsWrong : ChangeSpec := { name := "configForms", fn := fun _ => fun
  | [d1, d2] => { results := [.lit (.bool false)], args := [d1, d2] }
  | _ => none }
def ConfigFormsWrongFalsely : Prop := configFormsRow.holds Try.pinned (OpenSpec.ofChange configFormsWrong)

/-- 'nocturnlaw5.ConfigFirst': WHATEVER THE INPUT: true; the input reads as it did. -/
def configFirstSpec : ChangeSpec := { name := "configFirst", fn := fun _ => fun
  | [d] => { results := [.lit (.bool true)], args := [d] }
  | _ => none }
def configFirstRow : OpenClaim := { program := "ytndbcpfbddhonaa", sum := "342f198799a5b666a238d44f8d192d15a6059be2059903ea6d20f5e298cf35c0", func := "nocturn/nocturnlaw5.ConfigFirst", spec := "configFirst", unfollowed := true, recurses := true, apart := false }
def ConfigFirstSaid : Prop := configFirstRow.holds Try.pinned (OpenSpec.ofChange configFirstSpec)

/-- ITS FALSE NEIGHBOUR: 'it returns false'. Refute it at one input. -/
def configFirstWrong : ChangeSpec := { name := "configFirst", fn := fun _ => fun
  | [d] => { results := [.lit (.bool false)], args := [d] }
  | _ => none }
def ConfigFirstWrongFalsely : Prop := configFirstRow.holds Try.pinned (OpenSpec.ofChange configFirstWrong)

/-- 'nocturnlaw5.ConfigWindows': WHATEVER THE INPUT: true; the input reads as it did. -/
def configWindowsSpec : ChangeSpec := { name := "configWindows", fn := fun _ => fun
  | [d1, d2] => { results := [.lit (.bool true)], args := [d1, d2] }
  | _ => none }
def configWindowsRow : OpenClaim := { program := "ytndbcpfbddhonaa", sum := "342f198799a5b666a238d44f8d192d15a6059be2059903ea6d20f5e298cf35c0", func := "nocturn/nocturnlaw5.ConfigWindows", spec := "configWindows", unfollowed := true, recurses := true, apart := false }
def ConfigWindowsSaid : Prop := configWindowsRow.holds Try.pinned (OpenSpec.ofChange configWindowsSpec)

/-- ITS FALSE NEIGHBOUR: 'it returns false'. Refute it at one input. -/
def configWindowsWrong : ChangeSpec := { name := "configWindows", fn := fun _ => fun
  | [d1, d2] => { results := [.lit (.bool false)], args := [d1, d2] }
  | _ => none }
def ConfigWindowsWrongFalsely : Prop := configWindowsRow.holds Try.pinned (OpenSpec.ofChange configWindowsWrong)

/-- 'nocturnlaw5.ConfigLaid': WHATEVER THE INPUT: true; the input reads as it did. -/
def configLaidSpec : ChangeSpec := { name := "configLaid", fn := fun _ => fun
  | [d1, d2, d3, d4] => { results := [.lit (.bool true)], args := [d1, d2, d3, d4] }
  | _ => none }
def configLaidRow : OpenClaim := { program := "ytndbcpfbddhonaa", sum := "342f198799a5b666a238d44f8d192d15a6059be2059903ea6d20f5e298cf35c0", func := "nocturn/nocturnlaw5.ConfigLaid", spec := "configLaid", unfollowed := true, recurses := true, apart := false }
def ConfigLaidSaid : Prop := configLaidRow.holds Try.pinned (OpenSpec.ofChange configLaidSpec)

/-- ITS FALSE NEIGHBOUR: 'it returns false'. Refute it at one input. -/
def configLaidWrong : ChangeSpec := { name := "configLaid", fn := fun _ => fun
  | [d1, d2, d3, d4] => { results := [.lit (.bool false)], args := [d1, d2, d3, d4] }
  | _ => none }
def ConfigLaidWrongFalsely : Prop := configLaidRow.holds Try.pinned (OpenSpec.ofChange configLaidWrong)

/- THE SECOND FORM. 'bulk': how many values and letters a reading holds, each counted each time it is reached (what is shared counts as often as it is met; a slice's spare places count too). A statement '..UptoSaid' is the law's where the arguments, and the package variables that the reading takes, are together of bulk at most 1048576: NARROWER than '..Said'. Prove '..Said' where nothing that the law and all that it calls make is longer than what came in: it says more and counts as full. Else prove '..UptoSaid'. A law counts once. -/
mutual
def uptoBulk {H : Type} : DataW H → Nat
  | .lit (.string bytes) => bytes.length + 1
  | .lit _ => 1
  | .nil => 1
  | .ptr d => uptoBulk d + 1
  | .slice elems spare => uptoBulkAll elems + uptoBulkAll spare + 1
  | .agg parts => uptoBulkAll parts + 1
  | .iface _ d => uptoBulk d + 1
  | .map entries => uptoBulkEntries entries + 1
  | .held _ => 1
def uptoBulkAll {H : Type} : List (DataW H) → Nat
  | [] => 0
  | d :: r => uptoBulk d + uptoBulkAll r
def uptoBulkEntries {H : Type} : List (Lit × DataW H) → Nat
  | [] => 0
  | x :: r => uptoBulkEntry x + uptoBulkEntries r
def uptoBulkEntry {H : Type} : Lit × DataW H → Nat
  | (.string bytes, d) => bytes.length + uptoBulk d + 1
  | (_, d) => uptoBulk d + 1
 end
def uptoSmall : (H : Type) → List (DataW H) → Bool := fun _ ds => decide (uptoBulkAll ds ≤ 1048576)
def OpenSpec.upto (s : _root_.Go.ChangeSpec) : _root_.Go.OpenSpec := { _root_.Go.OpenSpec.ofChange s with cond := some uptoSmall }

/-- 'nocturnlaw5.Configs', WHERE WHAT IT READS IS OF BULK AT MOST 1048576: true; the input reads as it did. -/
def configsUptoRow : OpenClaim := { program := "ytndbcpfbddhonaa", sum := "342f198799a5b666a238d44f8d192d15a6059be2059903ea6d20f5e298cf35c0", func := "nocturn/nocturnlaw5.Configs", spec := "configs", unfollowed := true, recurses := true, apart := false, narrowed := true }
def ConfigsUptoSaid : Prop := configsUptoRow.holds Try.pinned (OpenSpec.upto configsSpec)

/-- 'nocturnlaw5.ConfigBack', WHERE WHAT IT READS IS OF BULK AT MOST 1048576: true; the input reads as it did. -/
def configBackUptoRow : OpenClaim := { program := "ytndbcpfbddhonaa", sum := "342f198799a5b666a238d44f8d192d15a6059be2059903ea6d20f5e298cf35c0", func := "nocturn/nocturnlaw5.ConfigBack", spec := "configBack", unfollowed := true, recurses := true, apart := false, narrowed := true }
def ConfigBackUptoSaid : Prop := configBackUptoRow.holds Try.pinned (OpenSpec.upto configBackSpec)

/-- 'nocturnlaw5.ConfigForms', WHERE WHAT IT READS IS OF BULK AT MOST 1048576: true; the input reads as it did. -/
def configFormsUptoRow : OpenClaim := { program := "ytndbcpfbddhonaa", sum := "342f198799a5b666a238d44f8d192d15a6059be2059903ea6d20f5e298cf35c0", func := "nocturn/nocturnlaw5.ConfigForms", spec := "configForms", unfollowed := true, recurses := true, apart := false, narrowed := true }
def ConfigFormsUptoSaid : Prop := configFormsUptoRow.holds Try.pinned (OpenSpec.upto configFormsSpec)

/-- 'nocturnlaw5.ConfigFirst', WHERE WHAT IT READS IS OF BULK AT MOST 1048576: true; the input reads as it did. -/
def configFirstUptoRow : OpenClaim := { program := "ytndbcpfbddhonaa", sum := "342f198799a5b666a238d44f8d192d15a6059be2059903ea6d20f5e298cf35c0", func := "nocturn/nocturnlaw5.ConfigFirst", spec := "configFirst", unfollowed := true, recurses := true, apart := false, narrowed := true }
def ConfigFirstUptoSaid : Prop := configFirstUptoRow.holds Try.pinned (OpenSpec.upto configFirstSpec)

/-- 'nocturnlaw5.ConfigWindows', WHERE WHAT IT READS IS OF BULK AT MOST 1048576: true; the input reads as it did. -/
def configWindowsUptoRow : OpenClaim := { program := "ytndbcpfbddhonaa", sum := "342f198799a5b666a238d44f8d192d15a6059be2059903ea6d20f5e298cf35c0", func := "nocturn/nocturnlaw5.ConfigWindows", spec := "configWindows", unfollowed := true, recurses := true, apart := false, narrowed := true }
def ConfigWindowsUptoSaid : Prop := configWindowsUptoRow.holds Try.pinned (OpenSpec.upto configWindowsSpec)

/-- 'nocturnlaw5.ConfigLaid', WHERE WHAT IT READS IS OF BULK AT MOST 1048576: true; the input reads as it did. -/
def configLaidUptoRow : OpenClaim := { program := "ytndbcpfbddhonaa", sum := "342f198799a5b666a238d44f8d192d15a6059be2059903ea6d20f5e298cf35c0", func := "nocturn/nocturnlaw5.ConfigLaid", spec := "configLaid", unfollowed := true, recurses := true, apart := false, narrowed := true }
def ConfigLaidUptoSaid : Prop := configLaidUptoRow.holds Try.pinned (OpenSpec.upto configLaidSpec)

end Rows
end Go.Proofs.Ytndbcpfbddhonaa
