/- A law's argument that is a struct of a number and a slice. -/
import Derived.Test.YtndbcpfbddhonaaAb48
import Derived.WalkKit
import Derived.ProofKit
import Derived.ChangeSame
import Derived.OpenShut
namespace Go.Ab
open Go.ChangeShapes Go.WideShapes Go.ChangeAt Go.RowKit
set_option linter.unusedVariables false
section
variable {H : Type} {enc : TypeId × Value → H} {P : Program} {w : World} {base b2 : Nat} {spare : Nat → Bool} {held : Bool}
theorem open_ts {t e : TypeId} {f0 f1 : Field} {v : Value} {dd : DataW H} {pl : List MemPlace} (ht : P.underlying t = some (.struct #[f0, f1])) (h00 : f0.offset = 0) (hs : P.underlying f1.type = some (.slice e)) (h10 : f1.offset = 1)
    (hi : P.underlying f0.type = some (.int .i64)) (hc0 : P.cellsOf f0.type = 1) (hc1 : P.cellsOf f1.type = 1) (hct : P.cellsOf t = 2) (hts : P.cellTypes P.depth t = some [f0.type, f1.type])
    (hok : Value.okWide P w .any b2 t v) (h : DataW.Trod enc P w base spare held t v dd pl) :
    ∃ (y : Int) (u : Value) (du : DataW H) (qu : List MemPlace), v = .agg #[.int .i64 y, u] ∧ Value.okWide P w .any b2 f1.type u ∧ DataW.Trod enc P w base spare held f1.type u du qu := by
  simp only [Value.okWide, ht] at hok
  obtain ⟨cs, rfl, hsz, ts, hts', ⟨n, hn⟩, hcell⟩ := hok
  rw [hts] at hts'
  cases hts'
  rw [hct] at hsz
  obtain ⟨m, h⟩ := h
  have hcl : (Value.agg cs).cells.toList = cs.toList := rfl
  rw [hcl] at h
  obtain ⟨y0, y1, k, hx, hl, hf0, hf1⟩ := trod_struct2 ht h
  obtain ⟨c0, c1, rfl⟩ : ∃ c0 c1, cs = #[c0, c1] := by
    obtain ⟨cl⟩ := cs
    rcases cl with _ | ⟨c0, _ | ⟨c1, _ | ⟨c2, cl⟩⟩⟩
    · simp at hsz
    · simp at hsz
    · exact ⟨c0, c1, rfl⟩
    · simp at hsz
  rw [h00, hc0] at hf0
  rw [h10, hc1] at hf1
  have h0 := hcell 0 c0 rfl
  have h1 := hcell 1 c1 rfl
  obtain ⟨t0, ht0, ok0⟩ := h0
  obtain ⟨t1, ht1, ok1⟩ := h1
  simp at ht0 ht1
  subst ht0; subst ht1
  have okv0 : Value.okWide P w .any b2 f0.type c0 := by simp only [Value.okWide, hi]; exact ok0
  have okv1 : Value.okWide P w .any b2 f1.type c1 := by simp only [Value.okWide, hs]; exact ok1
  have hcell1 : c1.cells.toList = [c1] := by
    obtain ⟨a, len, cap, rfl⟩ := Go.WideShapes.okWide_slice hs okv1
    rfl
  have tr0 : DataW.Trod enc P w base spare held f0.type c0 y0.1 y0.2 := ⟨k, by
    have hc00 : c0.cells.toList = [c0] := by
      simp only [Value.okWide, hi, Cell.okWide, Cell.ok] at okv0
      cases c0 <;> first | rfl | (exfalso; simp at okv0; done) | skip
      all_goals simp_all
    rw [hc00]; simpa using hf0⟩
  have tr1 : DataW.Trod enc P w base spare held f1.type c1 y1.1 y1.2 := ⟨k, by rw [hcell1]; simpa using hf1⟩
  obtain ⟨y, rfl, _⟩ := open_int hi okv0 tr0
  exact ⟨y, c1, _, _, rfl, okv1, tr1⟩
end
end Go.Ab
