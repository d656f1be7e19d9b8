/- The law TickEdges; the laws as the rows want them. -/
import Derived.Test.YtbgapiiopocncaaTicE
namespace Go.Proofs.Ytbgapiiopocncaa.Tic
open Go.Ab
set_option linter.unusedVariables false
set_option linter.unusedSimpArgs false
theorem wf_u64 {x : Int} (h : (Lit.int .u64 x).wf = true) : 0 ≤ x ∧ x < 18446744073709551616 := by
  have h1 : (Lit.int .u64 x).wf = (decide (IntKind.min .u64 ≤ x) && decide (x ≤ IntKind.max .u64)) := by first | rfl | kernel_rfl
  rw [h1, Bool.and_eq_true, decide_eq_true_eq, decide_eq_true_eq] at h
  have e1 : IntKind.min .u64 = 0 := by kernel_rfl
  have e2 : IntKind.max .u64 = 18446744073709551615 := by kernel_rfl
  rw [e1, e2] at h
  omega
theorem quo_laws {c q : Int} (hc : 0 < c ∧ c < 18446744073709551616) (hq : q = (18446744073709551615 : Int).tdiv c % 18446744073709551616) : 0 ≤ q ∧ q ≤ 18446744073709551615 ∧ 0 ≤ c * q ∧ c * q ≤ 18446744073709551615 ∧ 18446744073709551616 ≤ c * (q + 1) ∧ (1 < c → 2 * q ≤ 18446744073709551615) := by
  rw [Int.tdiv_eq_ediv_of_nonneg (by decide)] at hq
  have h1 : (18446744073709551615 : Int) / c ≤ 18446744073709551615 := Int.ediv_le_self _ (by decide)
  have h2 : 0 ≤ (18446744073709551615 : Int) / c := Int.ediv_nonneg (by decide) (by omega)
  replace hq : q = (18446744073709551615 : Int) / c := by omega
  have h3 : c * q ≤ 18446744073709551615 := by rw [hq]; exact Int.mul_ediv_self_le (by omega)
  have h4 : (18446744073709551615 : Int) < c * q + c := by rw [hq]; exact Int.lt_mul_ediv_self_add hc.1
  refine ⟨by omega, by omega, Int.mul_nonneg (by omega) (by omega), h3, ?_, fun h => ?_⟩
  · rw [Int.mul_add, Int.mul_one]
    omega
  · have h5 := Int.mul_le_mul_of_nonneg_right (show (2 : Int) ≤ c by omega) (show 0 ≤ q by omega)
    omega

set_option maxRecDepth 200000 in
set_option maxHeartbeats 8000000 in
theorem tickEdges (a b : Int) (ha : 0 ≤ a ∧ a < 18446744073709551616) (hb : 0 ≤ b ∧ b < 18446744073709551616) : CallS Try.prog 6 [.sym (.int .u64 a), .sym (.int .u64 b)] (memB [] []) 0 fun v _ _ => v = .bool true := by
  have hpr := prod_b (x := a / 4294967296) (y := b / 4294967296) (by omega) (by omega)
  refine CallS.enter X Try.func6 (by decide) ?_
  cbv
  repeat' first
    | with_reducible exact trivial
    | ((with_reducible apply awakeT); cbv)
    | ((with_reducible apply addT2); (focus rfl); (focus rfl); (focus unfold U; omega); (focus unfold U; omega); all_goals first
        | ((with_reducible intro hlt s hs); first | ((with_reducible exfalso); omega) | cbv)
        | ((with_reducible intro hge); first | ((with_reducible exfalso); omega) | cbv))
    | ((with_reducible apply mulT2 (x := s1) (y := s2)); (focus rfl); (focus rfl); (focus unfold U; omega); (focus unfold U; omega); all_goals first
        | ((with_reducible intro hlt p1 hp1); (rw [hs1, hs2] at hp1); cbv)
        | ((with_reducible intro hge); (rw [hs1, hs2] at hge); (with_reducible exfalso); omega))
    | ((with_reducible apply mulT2 (y := 1)); (focus rfl); (focus rfl); (focus unfold U; omega); (focus unfold U; omega); all_goals first
        | ((with_reducible intro hlt p1 hp1); (rw [Int.mul_one] at hp1); cbv)
        | ((with_reducible intro hge); (with_reducible exfalso); omega))
    | ((with_reducible apply mulT2 (x := b) (y := q)); (focus rfl); (focus rfl); (focus unfold U; omega); (focus unfold U; omega); all_goals first
        | ((with_reducible intro hlt p1 hp1); cbv)
        | ((with_reducible intro hge); (with_reducible exfalso); omega))
    | ((with_reducible apply mulT2 (x := 1) (y := 18446744073709551615)); (focus rfl); (focus rfl); (focus unfold U; omega); (focus unfold U; omega); all_goals first
        | ((with_reducible intro hlt p1 hp1); cbv)
        | ((with_reducible intro hge); (with_reducible exfalso); omega))
    | ((with_reducible apply mulT2 (x := b) (y := r)); (focus rfl); (focus rfl); (focus unfold U; omega); (focus unfold U; omega); all_goals first
        | ((with_reducible intro hlt p1 hp1); (rw [hr] at hlt); (with_reducible exfalso); omega)
        | ((with_reducible intro hge); cbv))
    | ((with_reducible intro q hq); (rw [wrap_u64] at hq); (have hql := quo_laws (c := b) (by omega) hq); cbv)
    | ((with_reducible intro q hq); (rw [wrap_u64] at hq); (have hql := quo_laws (c := 1) (by omega) hq); cbv)
    | ((with_reducible intro r hr); (rw [wrap_u64] at hr); (replace hr : r = q + 1 := (by omega)); cbv)
    | first
        | ((with_reducible intro s1 hs1); (replace hs1 := shr32 hs1); (have hsa : s1 * 1 = s1 := Int.mul_one s1); (have : s1 = a / 4294967296 := hs1); cbv)
        | ((with_reducible intro s2 hs2); (replace hs2 := shr32 hs2); (have : s2 = b / 4294967296 := hs2); cbv)
    | ((with_reducible intro v hv); (first | (rw [wrap_u64] at hv; first | (rw [hs1, hs2] at hv) | skip) | skip); cbv)
    | ((with_reducible apply uAnd); (focus first | kernel_rfl | omega); try cbv)
    | ((with_reducible apply And.intro) <;> (with_reducible intro h) <;> first | ((with_reducible exfalso); omega) | cbv)
    | ((with_reducible apply CallT.enter X Try.func16 (by decide)); cbv)
end Go.Proofs.Ytbgapiiopocncaa.Tic
