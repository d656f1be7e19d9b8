/- Rows, the same up to a place; rows lent. -/
import Derived.Test.YtmbeolcdbifplaaBase
namespace Go.Proofs.Ytmbeolcdbifplaa.Kit
open Go.Ab Base
set_option linter.unusedVariables false
set_option linter.unusedSimpArgs false

/-- Two rows are the same up to a place. -/
def Agree {α : Type} (xs ys : List α) (j : Nat) : Prop := ∀ i, i < j → xs[i]? = ys[i]?
theorem agree_zero {α : Type} (xs ys : List α) : Agree xs ys 0 := fun i h => by omega
theorem agree_succ {α : Type} {xs ys : List α} {j : Nat} {x : α} (h : Agree xs ys j) (hx : xs[j]? = some x) (hy : ys[j]? = some x) : Agree xs ys (j + 1) := fun i hi => by
  by_cases e : i = j
  · subst e; rw [hx, hy]
  · exact h i (by omega)
theorem agree_all {α : Type} {xs ys : List α} {j : Nat} (h : Agree xs ys j) (hl : xs.length = ys.length) (hj : xs.length ≤ j) : xs = ys := by
  apply List.ext_getElem? 
  intro i
  by_cases hi : i < j
  · exact h i hi
  · rw [List.getElem?_eq_none (by omega), List.getElem?_eq_none (by omega)]

/-- What lies where a row was lent. -/
def Lent {α : Type} (f : α → List AV) (xs : List α) (n : Nat) (p q : List AV) (rows' : List (List AV)) : Prop :=
  (∀ row ∈ rows', AV.flatL row = true) ∧ At f xs rows' ∧ rows'.length = n + 2 ∧ rows'[n]? = some p ∧ rows'[n + 1]? = some q
theorem lent_of {α : Type} {f : α → List AV} {xs : List α} {n : Nat} {p q : List AV} {rows rows' : List (List AV)} (h : Hat f xs rows n) (hl : n ≤ rows.length) (hp : AV.flatL p = true) (hq : AV.flatL q = true) (e : rows' = rows.take n ++ [p, q]) : Lent f xs n p q rows' := by
  obtain ⟨h1, h2, h3, h4⟩ := h
  subst e
  refine ⟨fun row hr => ?_, fun j x hx => ?_, by simp; omega, ?_, ?_⟩
  · rcases List.mem_append.1 hr with hr | hr
    · exact h3 row (List.mem_of_mem_take hr)
    · simp at hr; rcases hr with rfl | rfl <;> assumption
  · have hj : j < n := by have := (List.getElem?_eq_some_iff.1 hx).1; omega
    rw [List.getElem?_append_left (by simp; omega), List.getElem?_take_of_lt hj]
    exact h4 j x hx
  · rw [List.getElem?_append_right (by simp; omega), List.length_take, Nat.min_eq_left hl, Nat.sub_self]; rfl
  · rw [List.getElem?_append_right (by simp; omega), List.length_take, Nat.min_eq_left hl, Nat.add_sub_cancel_left]; rfl

end Go.Proofs.Ytmbeolcdbifplaa.Kit
