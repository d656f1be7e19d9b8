/- The law ChargeRun returns true at any input. -/
import Derived.Test.YtdngnkfgfacajaaMetB
namespace Go.Proofs.Ytdngnkfgfacajaa.Met
open Go.Ab Base
set_option linter.unusedVariables false
set_option linter.unusedSimpArgs false

set_option maxRecDepth 200000 in
set_option maxHeartbeats 4000000 in
theorem chargeRun (kd p d cl ch pt demand : Int) (high : Bool) : CallS Try.prog 4 [.agg [i6 kd, i6 p, i6 d, i6 cl, i6 ch, i6 pt], i6 demand, .bool high] (memB [] []) 0 fun v _ _ => v = .bool true := by
  obtain ⟨lv, hlv⟩ : ∃ lv : Int, lv = if high then 1 else 0 := ⟨_, rfl⟩
  refine CallS.enter X Try.func4 (by decide) ?_
  cbv
  with_reducible apply awakeT
  cbv
  cases high <;> cbv
  all_goals
    with_reducible apply uAnd
    focus kernel_rfl
    cbv
    with_reducible intro d0 hd0
    have hd1 := and_bound (by decide) (by decide) hd0
    clear hd0
    cbv
    with_reducible intro dm hdm
    rw [wrap_i64] at hdm
    have hbd : 1 ≤ dm ∧ dm ≤ 2048 := by omega
    clear hdm hd1
    cbv
  · with_reducible
     refine LoopT.invR X (α := Int × Int) 103 [] (fun s => (oI (s.at 11), oI (s.cell (oP (s.at 10)) 0 6))) (fun s => [oP (s.at 3), oP (s.at 10)])
      (fun a => [none, none, some (.bool false), some (.ptr 0 6 0 0), none, none, none, some (.int .i64 0), some (.sym (.int .i64 cl)), some (.sym (.int .i64 dm)), some (.ptr 1 7 0 0), some (.sym (.int .i64 a.1))])
      (fun a => [some (.cells true 6 [[.sym (.int .i64 kd), .sym (.int .i64 p), .sym (.int .i64 d), .sym (.int .i64 cl), .sym (.int .i64 ch), .sym (.int .i64 pt)]]), some (.cells true 7 [[.int .i64 0, .int .i64 0, .int .i64 0, .int .i64 0, .int .i64 1, .sym (.int .i64 dm), .sym (.int .i64 a.2)]])])
      (fun a => a.2 = a.1 - 1 ∧ 1 ≤ a.1 ∧ a.1 ≤ 1025 ∧ a.2 < dm ∧ (a.1 = 1 ∨ ((kd = 0 ∨ kd = 1) ∧ 1 ≤ p ∧ p ≤ 1024 ∧ 1 ≤ d ∧ d ≤ p ∧ 1 ≤ cl ∧ cl ≤ ch ∧ ch ≤ d ∧ 0 ≤ pt ∧ pt ≤ 255) ∧ a.2 < cl)) (fun a => (1025 - a.1).toNat) ?_ ?_
    · cbv
      refine And.intro (HoldAt.mk ?_) (Head.mk ?_ ?_ ?_ ?_ ?_ ?_)
      · refine ⟨by omega, by omega, by omega, by omega, by omega⟩
      all_goals cbv
      refine ⟨BlkLe.flat (fun h => h) (by simp [AV.flatL, AV.flat]), BlkLe.cells (fun h => h) (RowsLe.cons rfl RowsLe.nil), trivial⟩
    · rintro ⟨k, us⟩ ⟨j1, j2, j3, j4, j5⟩
      dsimp only at j1 j2 j3 j4 j5
      cbv
      repeat' first
        | with_reducible exact trivial
        | ((with_reducible apply chargeT); (focus rfl); (focus rfl); (focus rfl);
            all_goals first
              | ((with_reducible intro hc u' o dn k hu' hvd hs); (clear hs); (unfold Can at hc); (cases o <;> cases dn <;> cases k <;> (simp only [Verd, Bool.false_eq_true, true_iff, false_iff, Int.reduceEq, if_true, if_false, false_and, true_and, not_false_eq_true] at hvd) <;> first | ((with_reducible exfalso); omega) | cbv))
              | ((with_reducible intro hc hs); (unfold Can at hc); cbv))
        | ((with_reducible intro v hv); (try rw [wrap_i64] at hv); cbv)
        | ((with_reducible apply uAnd); (focus first | kernel_rfl | omega); try cbv)
        | ((with_reducible apply And.intro) <;> (with_reducible intro h) <;> first | ((with_reducible exfalso); omega) | cbv)
        | ((with_reducible apply CallT.enter X Try.func9 (by decide)); cbv)
      all_goals
        refine And.intro (And.intro (HoldAt.mk ?_) True.intro) (Head.mk ?_ ?_ ?_ ?_ ?_ ?_)
        · dsimp only
          refine ⟨⟨by omega, by omega, by omega, by omega, by omega⟩, by omega⟩
        all_goals cbv
        refine ⟨BlkLe.flat (fun h => h) (by simp [AV.flatL, AV.flat]), BlkLe.cells (fun h => h) (RowsLe.cons rfl RowsLe.nil), trivial⟩
  · with_reducible
     refine LoopT.invR X (α := Int × Int) 103 [] (fun s => (oI (s.at 11), oI (s.cell (oP (s.at 10)) 0 6))) (fun s => [oP (s.at 3), oP (s.at 10)])
      (fun a => [none, none, some (.bool true), some (.ptr 0 6 0 0), none, none, none, some (.int .i64 1), some (.sym (.int .i64 ch)), some (.sym (.int .i64 dm)), some (.ptr 1 7 0 0), some (.sym (.int .i64 a.1))])
      (fun a => [some (.cells true 6 [[.sym (.int .i64 kd), .sym (.int .i64 p), .sym (.int .i64 d), .sym (.int .i64 cl), .sym (.int .i64 ch), .sym (.int .i64 pt)]]), some (.cells true 7 [[.int .i64 0, .int .i64 0, .int .i64 0, .int .i64 0, .int .i64 1, .sym (.int .i64 dm), .sym (.int .i64 a.2)]])])
      (fun a => a.2 = a.1 - 1 ∧ 1 ≤ a.1 ∧ a.1 ≤ 1025 ∧ a.2 < dm ∧ (a.1 = 1 ∨ ((kd = 0 ∨ kd = 1) ∧ 1 ≤ p ∧ p ≤ 1024 ∧ 1 ≤ d ∧ d ≤ p ∧ 1 ≤ cl ∧ cl ≤ ch ∧ ch ≤ d ∧ 0 ≤ pt ∧ pt ≤ 255) ∧ a.2 < ch)) (fun a => (1025 - a.1).toNat) ?_ ?_
    · cbv
      refine And.intro (HoldAt.mk ?_) (Head.mk ?_ ?_ ?_ ?_ ?_ ?_)
      · refine ⟨by omega, by omega, by omega, by omega, by omega⟩
      all_goals cbv
      refine ⟨BlkLe.flat (fun h => h) (by simp [AV.flatL, AV.flat]), BlkLe.cells (fun h => h) (RowsLe.cons rfl RowsLe.nil), trivial⟩
    · rintro ⟨k, us⟩ ⟨j1, j2, j3, j4, j5⟩
      dsimp only at j1 j2 j3 j4 j5
      cbv
      repeat' first
        | with_reducible exact trivial
        | ((with_reducible apply chargeT); (focus rfl); (focus rfl); (focus rfl);
            all_goals first
              | ((with_reducible intro hc u' o dn k hu' hvd hs); (clear hs); (unfold Can at hc); (cases o <;> cases dn <;> cases k <;> (simp only [Verd, Bool.false_eq_true, true_iff, false_iff, Int.reduceEq, if_true, if_false, false_and, true_and, not_false_eq_true] at hvd) <;> first | ((with_reducible exfalso); omega) | cbv))
              | ((with_reducible intro hc hs); (unfold Can at hc); cbv))
        | ((with_reducible intro v hv); (try rw [wrap_i64] at hv); cbv)
        | ((with_reducible apply uAnd); (focus first | kernel_rfl | omega); try cbv)
        | ((with_reducible apply And.intro) <;> (with_reducible intro h) <;> first | ((with_reducible exfalso); omega) | cbv)
        | ((with_reducible apply CallT.enter X Try.func9 (by decide)); cbv)
      all_goals
        refine And.intro (And.intro (HoldAt.mk ?_) True.intro) (Head.mk ?_ ?_ ?_ ?_ ?_ ?_)
        · dsimp only
          refine ⟨⟨by omega, by omega, by omega, by omega, by omega⟩, by omega⟩
        all_goals cbv
        refine ⟨BlkLe.flat (fun h => h) (by simp [AV.flatL, AV.flat]), BlkLe.cells (fun h => h) (RowsLe.cons rfl RowsLe.nil), trivial⟩
end Go.Proofs.Ytdngnkfgfacajaa.Met
