/- Slices that grow and are cut. -/
import Derived.Test.YtndbcpfbddhonaaAb41
namespace Go.Ab
set_option linter.unusedSimpArgs false
set_option linter.unusedVariables false
/-- What follows a loop, hidden while its body is walked. -/
theorem LoopT.hide {p : Unit → Program} {lo : Nat} {x : Code} {s : St} {K : Out → St → Prop} (h : ∀ K0 : Out → St → Prop, (∀ o s', K o s' → K0 o s') → LoopT p lo x s K0) : LoopT p lo x s K := h K fun _ _ hk => hk
theorem and3 {A B C : Prop} (h1 : A) (h2 : B) (h3 : C) : A ∧ B ∧ C := ⟨h1, h2, h3⟩
section
variable {α : Type} {f : α → List AV} {xs : List α} {y : α} {L cap L1 i1 len1 : Nat} {rows rows1 src : List (List AV)}
theorem Holds.tail (h : Holds f (y :: xs) L cap rows) (hi : i1 = 1) (hl : len1 = L - 1) (hs : src = (rows.drop i1).take len1) (e : rows1 = src) (hL : L1 = src.length) : Holds f xs L1 L1 rows1 := by
  obtain ⟨h1, h2, h3, h4, h5⟩ := h
  subst e hi hl
  simp only [List.length_cons] at h1
  have hlen : rows1.length = L - 1 := by rw [hs]; simp; omega
  refine ⟨by omega, hL.symm, Nat.le_refl _, fun row hr => ?_, fun j x hx => ?_⟩
  · rw [hs] at hr
    exact h4 row (List.mem_of_mem_drop (List.mem_of_mem_take hr))
  · have hj : j < xs.length := (List.getElem?_eq_some_iff.1 hx).1
    rw [hs, List.getElem?_take_of_lt (by omega), List.getElem?_drop, Nat.add_comm]
    exact h5 (j + 1) x (by simpa using hx)
theorem Holds.tail2 {q q2 : List α} {x : α} (h : Holds f (q ++ [x]) L cap rows) (hq : q = y :: q2) (hs : src = (rows.drop i1).take len1) (hi : i1 = 1) (hl : len1 = L - 1) (e : rows1 = src) (hL : L1 = src.length) : Holds f (q2 ++ [x]) L1 L1 rows1 := by
  subst hq
  exact Holds.tail (y := y) h hi hl hs e hL
theorem Holds.cons_tail (h : Holds f xs L cap rows) (hl : 0 < L) : ∃ y ys, xs = y :: ys := by
  cases xs with
  | nil => have := h.len; simp at this; omega
  | cons y ys => exact ⟨y, ys, rfl⟩
end
end Go.Ab
