/- Slices that grow by appends: nil, or rows of their own. -/
import Derived.Test.YtndbcpfbddhonaaAb39
namespace Go.Ab
set_option linter.unusedSimpArgs false
set_option linter.unusedVariables false

inductive Sh where
  | nil
  | sl (L cap : Nat) (rows : List (List AV))
def Sh.av (k z : Nat) : Sh → AV
  | .nil => .nilslice
  | .sl L cap _ => .sym (.slice k z 0 L cap true none)
def Sh.blk (z : Nat) : Sh → Option ABlk
  | .nil => none
  | .sl _ _ rows => some (.cells true z rows)
/-- What it holds. -/
structure Holds {α : Type} (f : α → List AV) (xs : List α) (L cap : Nat) (rows : List (List AV)) : Prop where
  len : L = xs.length
  full : rows.length = cap
  le : L ≤ cap
  flat : ∀ row ∈ rows, AV.flatL row = true
  at_ : At f xs rows
def Sh.holds {α : Type} (f : α → List AV) (xs : List α) : Sh → Prop
  | .nil => xs = []
  | .sl L cap rows => Holds f xs L cap rows
def St.sh (s : St) (t : Nat) : Sh := match s.sl.getD t none with
  | some (.slice k _ _ L cap _ _) => .sl L cap (s.rows k)
  | some (.sym (.slice k _ _ L cap _ _)) => .sl L cap (s.rows k)
  | _ => .nil
def St.nm (s : St) (t d : Nat) : Nat := match s.sl.getD t none with
  | some (.slice k _ _ _ _ _ _) => k
  | some (.sym (.slice k _ _ _ _ _ _)) => k
  | _ => s.c + d
/-- The same of a cell. -/
def AV.sh (s : St) : Option AV → Sh
  | some (.slice k _ _ L cap _ _) => .sl L cap (s.rows k)
  | some (.sym (.slice k _ _ L cap _ _)) => .sl L cap (s.rows k)
  | _ => .nil
def AV.nm (s : St) (d : Nat) : Option AV → Nat
  | some (.slice k _ _ _ _ _ _) => k
  | some (.sym (.slice k _ _ _ _ _ _)) => k
  | _ => s.c + d

section
variable {α : Type} {f : α → List AV} {xs : List α} {x : α} {L cap L' : Nat} {rows rows' : List (List AV)}
theorem Holds.one (hf : AV.flatL (f x) = true) (e : rows = [f x]) : Holds f [x] 1 1 rows := by
  subst e
  refine ⟨rfl, rfl, Nat.le_refl 1, fun row hr => by rw [List.mem_singleton.1 hr]; exact hf, fun j y hy => ?_⟩
  cases j with
  | zero => simp only [List.getElem?_cons_zero, Option.some.injEq] at hy ⊢; rw [hy]
  | succ j => simp at hy
theorem Holds.empty (hc : rows.length = cap) (hfl : ∀ row ∈ rows, AV.flatL row = true) : Holds f ([] : List α) 0 cap rows :=
  ⟨rfl, hc, Nat.zero_le _, hfl, fun j y hy => by simp at hy⟩
theorem Holds.inPlace (h : Holds f xs L cap rows) (hf : AV.flatL (f x) = true) (hc : L + 1 ≤ cap) (hL : L' = L + 1) (e : rows' = rows.take (0 + L) ++ [f x] ++ rows.drop (0 + L + 1)) : Holds f (xs ++ [x]) L' cap rows' := by
  obtain ⟨h1, h2, h3, h4, h5⟩ := h
  subst e
  rw [Nat.zero_add]
  refine ⟨by simp; omega, by simp; omega, by omega, fun row hr => ?_, fun j y hy => ?_⟩
  · rcases List.mem_append.1 hr with hr | hr
    · rcases List.mem_append.1 hr with hr | hr
      · exact h4 row (List.mem_of_mem_take hr)
      · rw [List.mem_singleton.1 hr]; exact hf
    · exact h4 row (List.mem_of_mem_drop hr)
  · rw [List.append_assoc]
    by_cases hj : j < L
    · rw [List.getElem?_append_left (by omega)] at hy
      rw [List.getElem?_append_left (by simp; omega), List.getElem?_take_of_lt hj]
      exact h5 j y hy
    · have hjl : j < (xs ++ [x]).length := (List.getElem?_eq_some_iff.1 hy).1
      have hj' : j = xs.length := by simp at hjl; omega
      subst hj'
      rw [List.getElem?_append_right (Nat.le_refl _), Nat.sub_self] at hy
      simp only [List.getElem?_cons_zero, Option.some.injEq] at hy
      subst hy
      rw [List.getElem?_append_right (by simp; omega), List.length_take, Nat.min_eq_left (by omega)]
      simp [show xs.length - L = 0 by omega]
theorem Holds.anew (h : Holds f xs L cap rows) (hf : AV.flatL (f x) = true) (hL : L' = L + 1) (e : rows' = (rows.drop 0).take L ++ [f x]) : Holds f (xs ++ [x]) L' L' rows' := by
  obtain ⟨h1, h2, h3, h4, h5⟩ := h
  subst e
  rw [List.drop_zero]
  refine ⟨by simp; omega, by simp; omega, Nat.le_refl _, fun row hr => ?_, fun j y hy => ?_⟩
  · rcases List.mem_append.1 hr with hr | hr
    · exact h4 row (List.mem_of_mem_take hr)
    · rw [List.mem_singleton.1 hr]; exact hf
  · by_cases hj : j < L
    · rw [List.getElem?_append_left (by omega)] at hy
      rw [List.getElem?_append_left (by simp; omega), List.getElem?_take_of_lt hj]
      exact h5 j y hy
    · have hjl : j < (xs ++ [x]).length := (List.getElem?_eq_some_iff.1 hy).1
      have hj' : j = xs.length := by simp at hjl; omega
      subst hj'
      rw [List.getElem?_append_right (Nat.le_refl _), Nat.sub_self] at hy
      simp only [List.getElem?_cons_zero, Option.some.injEq] at hy
      subst hy
      rw [List.getElem?_append_right (by simp; omega), List.length_take, Nat.min_eq_left (by omega)]
      simp [show xs.length - L = 0 by omega]
theorem Holds.sl {z k : Nat} {m : Mem} {A : AV} {rw : Bool} (h : Holds f xs L cap rows) (hA : norm A = .slice k z 0 L cap true none) (hk : m.get k = some (.cells rw z rows)) (hs : L ≤ 140737488355328) : Sl f z m A xs :=
  Sl.rows0 hA hk h.len hs h.at_
end

end Go.Ab
