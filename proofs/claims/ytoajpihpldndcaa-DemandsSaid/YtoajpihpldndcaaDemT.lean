/- A task's cells, opened. -/
import Derived.Test.YtoajpihpldndcaaDemA
namespace Go.Proofs.Ytoajpihpldndcaa.Dem
open Go.Ab
def tvals (t : Task) : List Value := [.int .i64 t.kind, .int .i64 t.period, .int .i64 t.deadline, .int .i64 t.clow, .int .i64 t.chigh, .int .i64 t.prio]
def TaskIn (t : Task) : Prop := inI t.kind ∧ inI t.period ∧ inI t.deadline ∧ inI t.clow ∧ inI t.chigh ∧ inI t.prio
theorem task_open {row : List Value} (h : allOk [.int .i64, .int .i64, .int .i64, .int .i64, .int .i64, .int .i64] row) : ∃ t, row = tvals t ∧ TaskIn t := by
  rcases row with _ | ⟨a0, row⟩
  · exact h.elim
  rcases row with _ | ⟨a1, row⟩
  · exact h.2.elim
  rcases row with _ | ⟨a2, row⟩
  · exact h.2.2.elim
  rcases row with _ | ⟨a3, row⟩
  · exact h.2.2.2.elim
  rcases row with _ | ⟨a4, row⟩
  · exact h.2.2.2.2.elim
  rcases row with _ | ⟨a5, row⟩
  · exact h.2.2.2.2.2.elim
  rcases row with _ | ⟨a6, row⟩
  · obtain ⟨⟨x0, rfl, h0⟩, ⟨x1, rfl, h1⟩, ⟨x2, rfl, h2⟩, ⟨x3, rfl, h3⟩, ⟨x4, rfl, h4⟩, ⟨x5, rfl, h5⟩, _⟩ := h
    exact ⟨⟨x0, x1, x2, x3, x4, x5⟩, rfl, wf_i64 h0, wf_i64 h1, wf_i64 h2, wf_i64 h3, wf_i64 h4, wf_i64 h5⟩
  · exact h.2.2.2.2.2.2.elim
end Go.Proofs.Ytoajpihpldndcaa.Dem
