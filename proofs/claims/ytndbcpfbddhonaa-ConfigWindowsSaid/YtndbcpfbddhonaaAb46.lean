/- Laws over several slices that are read. -/
import Derived.Test.YtndbcpfbddhonaaAb45
namespace Go.Ab
open Go.ChangeShapes Go.WideShapes
set_option linter.unusedVariables false
section
variable {P : Program}
/-- A law over slices that are read: a block each. -/
theorem CallS.callsL {f : FuncId} {fn : Func} (hf : P.funcs[f]? = some fn) (hb : fn.body.isSome = true) (hn : fn.name ≠ "runtime.NumGoroutine") {vs : List AV} (L : List (Pl × Nat × List (List Value)))
    (h : CallS P f vs (memB (L.map fun x => some (.cells false x.2.1 (x.2.2.map (·.map avOf)))) []) L.length fun v _ _ => v = .bool true)
    {w : World} {args : List Value} (hl : ∀ x ∈ L, Lies w x.1 x.2.1 x.2.2) (hargs : cnL (muL (L.map (·.1))) vs = some args) (hG : GI (fun _ => none) (fun _ => none) w := by exact ⟨fun _ _ h => by cases h⟩) : Calls P f args.toArray w fun e w' => e = .returned (.bool true) ∧ RowKit.Below w.heap.size w w' := by
  have hat : ∀ (n : Nat) (b : ABlk), ((L.map fun x => (some (.cells false x.2.1 (x.2.2.map (·.map avOf))) : Option ABlk))[n]?).join = some b → ∃ x, L[n]? = some x ∧ b = .cells false x.2.1 (x.2.2.map (·.map avOf)) := fun n b hb => by
    rw [List.getElem?_map] at hb
    cases hx : L[n]? with
    | none => rw [hx] at hb; simp at hb
    | some x => rw [hx] at hb; simp at hb; exact ⟨x, rfl, hb.symm⟩
  refine CallS.calls hf hb hn h hargs (sim_list (fun n b hb => ?_) hG) (fun n hn => by
    change (L.map (·.1))[n]? = none
    simp; omega) fun n b hb => ?_
  · obtain ⟨x, hx, rfl⟩ := hat n b hb
    obtain ⟨o, h1, h2⟩ := hl x (List.mem_of_getElem? hx)
    exact ⟨rfl, x.1, o, by simp [hx], h1, h2 _⟩
  · rw [memB_get] at hb
    obtain ⟨x, hx, rfl⟩ := hat n b hb
    rfl
end
end Go.Ab
