/- Rows that are met as variables: cells read and written at any place. -/
import Derived.Test.YtndbcpfbddhonaaAb40
namespace Go.Ab
set_option linter.unusedSimpArgs false
set_option linter.unusedVariables false

mutual
theorem norm_norm : ∀ v : AV, norm (norm v) = norm v
  | .sym v => by simp only [norm]; exact norm_norm v
  | .func f cs => by simp only [norm, normL_normL cs]
  | .iface t v => by simp only [norm, norm_norm v]
  | .agg cs => by simp only [norm, normL_normL cs]
  | .tuple vs => by simp only [norm, normL_normL vs]
  | .bool _ | .int _ _ | .str _ | .nilptr | .ptr .. | .nilslice | .slice .. | .nilmap | .map _ | .nilfunc | .niliface => rfl
theorem normL_normL : ∀ vs : List AV, normL (normL vs) = normL vs
  | [] => rfl
  | v :: vs => by simp only [normL, norm_norm v, normL_normL vs]
end
/-- A cell of a row that is told of. -/
theorem ldR {p : Unit → Program} {t : TypeId} {rows : List (List AV)} {j f : Nat} {R : List AV} {v : AV} {K : AV → Prop} (h0 : rows[j]? = some R) (ha : isAggT (p ()) t = some false) (hv : R[f]? = some v) (hk : K v) : ∃ row, rows[j]? = some row ∧ vRead p t row f K := by
  refine ⟨R, h0, ?_⟩
  simp only [vRead, readAt, ha, hv]
  exact hk
/-- A cell that is written. -/
theorem stR {rows : List (List AV)} {j f s : Nat} {R cs : List AV} {v : AV} {K : List (List AV) → Prop} (h0 : rows[j]? = some R) (hs : s = 1) (hc : cs = [v]) (hl : f < R.length) (hk : ∀ rows' R', rows'[j]? = some R' → R' = R.set f v → rows'.length = rows.length → K rows') :
    ∃ row, rows[j]? = some row ∧ (Unit → f + s ≤ row.length) ∧ ∀ rows', rows' = rows.set j (setCells row f cs) → K rows' := by
  subst hs hc
  have hj : j < rows.length := (List.getElem?_eq_some_iff.1 h0).1
  refine ⟨R, h0, fun _ => hl, fun rows' e => hk rows' (R.set f v) ?_ rfl ?_⟩
  · rw [e]; simp [setCells, hj]
  · rw [e]; simp
/-- An operation on marked values, met by reckoning. -/
theorem symF {p : Unit → Program} {ρ : Rho} {m : Mem} {nm : Nat} {o : Op} {v : AV} {K : NR → Prop} (h : aM (p ()) ρ m.get nm o = some ⟨v, none, []⟩) (k : K ⟨v, none, []⟩) : SymOp p ρ m nm o K := ⟨⟨_, h, k⟩⟩
theorem set_same {R : List AV} {f : Nat} {v : AV} (h : f < R.length) : (R.set f v)[f]? = some v := by simp [h]
theorem set_other {R : List AV} {f g : Nat} {v : AV} (h : f ≠ g) : (R.set f v)[g]? = R[g]? := by rw [List.getElem?_set_ne h]
theorem set_flat {R : List AV} {f : Nat} {v : AV} (h : AV.flatL R = true) (hv : v.flat = true) : AV.flatL (R.set f v) = true := by
  induction R generalizing f with
  | nil => rfl
  | cons a R ih =>
    simp only [AV.flatL, Bool.and_eq_true] at h
    cases f with
    | zero => simp only [List.set_cons_zero, AV.flatL, hv, h.2, Bool.and_self]
    | succ f => simp only [List.set_cons_succ, AV.flatL, h.1, ih h.2, Bool.and_self]
theorem one_flat {rows : List (List AV)} {R : List AV} (h0 : rows[0]? = some R) (hl : rows.length = 1) (hf : AV.flatL R = true) : ∀ row ∈ rows, AV.flatL row = true := fun row hr => by
  obtain ⟨j, hj⟩ := List.getElem?_of_mem hr
  have : j = 0 := by have := (List.getElem?_eq_some_iff.1 hj).1; omega
  subst this
  rw [h0] at hj
  cases hj
  exact hf

end Go.Ab
