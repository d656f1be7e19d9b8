/- Rows of numbers; heads' loops once; small words for walks. -/
import Derived.Test.YtndbcpfbddhonaaAb32
namespace Go.Ab
set_option linter.unusedSimpArgs false
set_option linter.unusedVariables false

def inI (x : Int) : Prop := -9223372036854775808 ≤ x ∧ x ≤ 9223372036854775807
theorem wf_i64 {x : Int} (h : (Lit.int .i64 x).wf = true) : inI x := by
  have h1 : (Lit.int .i64 x).wf = (decide (IntKind.min .i64 ≤ x) && decide (x ≤ IntKind.max .i64)) := by first | rfl | kernel_rfl
  rw [h1, Bool.and_eq_true, decide_eq_true_eq, decide_eq_true_eq] at h
  exact h
def ivals (x : Int) : List Value := [.int .i64 x]
theorem int_open {row : List Value} (h : allOk [.int .i64] row) : ∃ x, row = ivals x ∧ inI x := by
  rcases row with _ | ⟨a0, _ | ⟨a1, row⟩⟩
  · exact h.elim
  · obtain ⟨⟨x, rfl, hx⟩, _⟩ := h
    exact ⟨x, rfl, wf_i64 hx⟩
  · exact h.2.elim
theorem map_flat {α : Type} {f : α → List AV} (xs : List α) (h : ∀ x, AV.flatL (f x) = true) : ∀ row ∈ xs.map f, AV.flatL row = true := fun row hr => by
  obtain ⟨x, _, rfl⟩ := List.mem_map.1 hr
  exact h x

section
variable {P : Program}
/-- A loop's body once: at its end the loop again. -/
def onceK (P : Program) (lo : Nat) (x : Code) (K : Out → St → Prop) : Out → St → Prop
  | .normal, s' => LoopT (fun _ => P) lo x s' K
  | .exit id, s' => K (.exit id) s'
  | .ret, s' => K .ret s'
theorem LoopT.once {call : CallA} (X : Ctx P call) {lo : Nat} {x : Code} {s : St} {K : Out → St → Prop} (h : vCode (fun _ => P) call lo x s (onceK P lo x K)) : LoopT (fun _ => P) lo x s K :=
  ⟨LoopS.step ((vCode_ok X x _ h).mono fun o s' hk => by
    cases o with
    | normal => exact hk.ok
    | exit id => exact hk
    | ret => exact hk)⟩
end

end Go.Ab
