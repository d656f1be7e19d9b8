/- Instructions as they come in. -/
import Derived.Test.YteedcepacicelaaCodE
namespace Go.Proofs.Yteedcepacicelaa.Cod
open Go.Ab
set_option linter.unusedVariables false
def tvals (x : Instr) : List Value := [.int .i64 x.op, .int .i64 x.arg]
def InstrIn (x : Instr) : Prop := inI x.op ∧ inI x.arg
theorem instr_open {row : List Value} (h : allOk [.int .i64, .int .i64] row) : ∃ x, row = tvals x ∧ InstrIn x := by
  rcases row with _ | ⟨a0, _ | ⟨a1, _ | ⟨a2, row⟩⟩⟩
  · exact h.elim
  · exact h.2.elim
  · obtain ⟨⟨x, rfl, hx⟩, ⟨y, rfl, hy⟩, _⟩ := h
    exact ⟨⟨x, y⟩, rfl, wf_i64 hx, wf_i64 hy⟩
  · exact h.2.2.elim
/-- The law CodeBack, as the row wants it. -/
theorem codeBackL (xs : List Instr) (rows : List (List AV)) (n cap : Nat) (hl : n = xs.length) (hf : ∀ row ∈ rows, AV.flatL row = true) (ha : At tv xs rows) (hw : ∀ x ∈ xs, InstrIn x) (hb : n * 16 ≤ 140737488351232) (s : ByteArray) (hs : s.data.toList.length ≤ 140737488351232) :
    CallS Try.prog 4 [.sym (.slice 0 2 0 n cap false none), .sym (.str s.data.toList)] (memB [some (.cells false 2 rows)] []) 1 fun v _ _ => v = .bool true := codeBack xs rows n cap hl hf ha hb s.data.toList hs
theorem codeBackLNil (s : ByteArray) (hs : s.data.toList.length ≤ 140737488351232) :
    CallS Try.prog 4 [.nilslice, .sym (.str s.data.toList)] (memB [] []) 0 fun v _ _ => v = .bool true := codeBackNil s.data.toList hs
end Go.Proofs.Yteedcepacicelaa.Cod
