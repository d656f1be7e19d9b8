/- The laws ChargeForms, ChargeRanks return true at any input. -/
import Derived.Test.YtdngnkfgfacajaaMetB
namespace Go.Proofs.Ytdngnkfgfacajaa.Met
open Go.Ab Base
set_option linter.unusedVariables false
set_option linter.unusedSimpArgs false

theorem tm_bound {q d v : Int} (h : v = q.tmod d) (hq : 0 ≤ q) (hd : 0 < d) : 0 ≤ v ∧ v < d := by
  subst h
  exact ⟨Int.tmod_nonneg d hq, Int.tmod_lt_of_pos q hd⟩

set_option maxRecDepth 200000 in
set_option maxHeartbeats 4000000 in
theorem chargeRanks (budget demand used : Int) : CallS Try.prog 6 [i6 budget, i6 demand, i6 used] (memB [] []) 0 fun v _ _ => v = .bool true := by
  refine CallS.enter X Try.func6 (by decide) ?_
  cbv
  with_reducible apply awakeT
  cbv
  with_reducible intro b0 hb0
  have hb1 := and_bound (by decide) (by decide) hb0
  clear hb0
  cbv
  with_reducible intro b hb
  rw [wrap_i64] at hb
  cbv
  with_reducible intro d0 hd0
  have hd1 := and_bound (by decide) (by decide) hd0
  clear hd0
  cbv
  with_reducible intro d hd
  rw [wrap_i64] at hd
  have hbd : 1 ≤ b ∧ b ≤ 32 ∧ 1 ≤ d ∧ d ≤ 64 := by omega
  clear hb hd hb1 hd1
  cbv
  with_reducible intro q hq
  rw [wrap_u64] at hq
  cbv
  with_reducible intro e he
  rw [wrap_u64] at he
  cbv
  with_reducible apply uAnd
  focus omega
  with_reducible intro r hr
  have hrb := tm_bound hr (by omega) (by omega)
  clear hr
  cbv
  with_reducible intro u hu
  rw [wrap_i64] at hu
  have hud : 0 ≤ u ∧ u < d := by omega
  clear hu hrb hq he
  cbv
  repeat' first
    | with_reducible exact trivial
    | ((with_reducible apply chargeT); (focus rfl); (focus rfl); (focus rfl);
        all_goals first
          | ((with_reducible intro hc u' o dn k hu' hvd hs); (clear hs hc); (cases o <;> cases dn <;> cases k <;> (simp only [Verd, Bool.false_eq_true, true_iff, false_iff, Int.reduceEq, if_true, if_false, false_and, true_and, not_false_eq_true] at hvd) <;> first | ((with_reducible exfalso); omega) | cbv))
          | ((with_reducible intro hc hs); (with_reducible exfalso); (unfold Can at hc); omega))
    | ((with_reducible intro v hv); (try rw [wrap_i64] at hv); cbv)
    | ((with_reducible apply uAnd); (focus first | kernel_rfl | omega); try cbv)
    | ((with_reducible apply And.intro) <;> (with_reducible intro h) <;> first | ((with_reducible exfalso); omega) | cbv)
    | ((with_reducible apply CallT.enter X Try.func9 (by decide)); cbv)



set_option maxRecDepth 200000 in
set_option maxHeartbeats 4000000 in
theorem chargeForms (which x : Int) : CallS Try.prog 5 [i6 which, i6 x] (memB [] []) 0 fun v _ _ => v = .bool true := by
  refine CallS.enter X Try.func5 (by decide) ?_
  cbv
  with_reducible apply awakeT
  cbv
  with_reducible intro k hk
  have hkb := and_bound (by decide) (by decide) hk
  clear hk
  cbv
  with_reducible intro d hd
  rw [wrap_i64] at hd
  have hd1 : 1 ≤ d ∧ d ≤ 64 := by omega
  clear hd hkb
  cbv
  with_reducible apply chargeT
  focus rfl
  focus rfl
  focus rfl
  rotate_left
  · intro hc hs
    unfold Can at hc
    omega
  with_reducible intro hc u o dn k hu hvd hs
  clear hs hc hvd
  cbv
  with_reducible intro q hq
  rw [wrap_u64] at hq
  cbv
  repeat' first
    | with_reducible exact trivial
    | ((with_reducible apply chargeT); (focus rfl); (focus rfl); (focus rfl);
        all_goals first
          | ((with_reducible intro hc u' o' dn' k' hu' hvd' hs'); (with_reducible exfalso); (unfold Can at hc); omega)
          | ((with_reducible intro hc hs); cbv))
    | ((with_reducible intro v hv); (try rw [wrap_i64] at hv); cbv)
    | ((with_reducible apply uAnd); (focus first | kernel_rfl | omega); try cbv)
    | ((with_reducible apply And.intro) <;> (with_reducible intro h) <;> first | ((with_reducible exfalso); omega) | cbv)
    | ((with_reducible apply CallT.enter X Try.func9 (by decide)); cbv)


end Go.Proofs.Ytdngnkfgfacajaa.Met
