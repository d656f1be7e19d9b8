/- The law StepPorts: what is written, got, taken from outside, and who may. -/
import Derived.Test.YtdaccjfijfnlfaaStpG
namespace Go.Proofs.Ytdaccjfijfnlfaa.Stp
open Go.Ab Base Cod Kit Br
set_option linter.unusedVariables false
set_option linter.unusedSimpArgs false

set_option maxRecDepth 200000 in
set_option maxHeartbeats 40000000 in
theorem stepPorts (port outs got inn : Int) : CallS Try.prog 8 [.sym (.int .i64 port), .sym (.int .i64 outs), .sym (.int .i64 got), .sym (.int .i64 inn)] (memB [] []) 0 fun v _ _ => v = .bool true := by
  have hwd : ∀ x ∈ [0, 0, 5, 0, 0, 0, 0, 0, 0, 0, 0, 0, 0, 0, 0, 0], Wd x := by simp only [List.forall_mem_cons, List.not_mem_nil, false_implies, implies_true, and_true]; unfold Wd; omega
  have hm8 : May [⟨8, 0⟩, ⟨0, 0⟩] := ⟨by simp only [List.length_cons, List.length_nil]; omega, fun x hx => by simp only [List.mem_cons, List.not_mem_nil, or_false] at hx; rcases hx with rfl | rfl <;> (unfold OkI; dsimp only [List.length_cons, List.length_nil]; omega)⟩
  refine CallS.enter X Try.func8 (by decide) ?_
  cbv
  (with_reducible apply awakeT); cbv
  (with_reducible intro k hk); (replace hk := and3' hk); cbv
  (with_reducible intro o ho); (replace ho := and8 ho); cbv
  (with_reducible intro w hw); (replace hw := and16 hw); cbv
  (with_reducible intro x hx); (replace hx := and16 hx); cbv
  obtain ⟨k1, hk1⟩ : ∃ k1, k1 = (k + 1) % 8 := ⟨_, rfl⟩
  have hk0 : 0 ≤ k ∧ k < 8 := by omega
  have hk10 : 0 ≤ k1 ∧ k1 < 8 ∧ ¬ k = k1 := by omega
  have hm9 : May [⟨9, k⟩, ⟨0, 0⟩] := ⟨by simp only [List.length_cons, List.length_nil]; omega, fun x hx => by simp only [List.mem_cons, List.not_mem_nil, or_false] at hx; rcases hx with rfl | rfl <;> (unfold OkI; dsimp only [List.length_cons, List.length_nil]; omega)⟩
  have hm10 : May [⟨10, k⟩, ⟨0, 0⟩] := ⟨by simp only [List.length_cons, List.length_nil]; omega, fun x hx => by simp only [List.mem_cons, List.not_mem_nil, or_false] at hx; rcases hx with rfl | rfl <;> (unfold OkI; dsimp only [List.length_cons, List.length_nil]; omega)⟩
  have hm11 : May [⟨10, k1⟩, ⟨0, 0⟩] := ⟨by simp only [List.length_cons, List.length_nil]; omega, fun x hx => by simp only [List.mem_cons, List.not_mem_nil, or_false] at hx; rcases hx with rfl | rfl <;> (unfold OkI; dsimp only [List.length_cons, List.length_nil]; omega)⟩
  have har0 : AroundOk x o [] := ⟨by unfold Wd; omega, by omega, by decide, fun g hg => by cases hg⟩
  repeat' first
    | with_reducible exact trivial
    | ((with_reducible intro v hv); (replace hv := and3' hv); (have e : k1 = v := (by omega)); subst e; cbv)
    | ((with_reducible intro v hv); (rw [wrap_i64] at hv); cbv)
    | ((with_reducible apply stG (w := w) (by with_reducible assumption) hk10.1 hk10.2.1); (focus rfl); (focus rfl); (with_reducible intro gs rows hgs hgl hrn))
    | ((with_reducible intro v hv); cbv)
    | ((with_reducible apply rowAt); (focus rfl); cbv)
    | ((with_reducible intro rows e); (have ety : rows = (rows : List (List AV)) := rfl); clear ety; (cbv at e); subst e; cbv)
    | ((with_reducible apply uAnd); (focus first | kernel_rfl | omega | (simp only [List.length_cons, List.length_nil]; omega)); try cbv)
    | ((with_reducible apply And.intro) <;> (with_reducible intro h) <;> first | ((with_reducible exfalso); omega) | cbv)
    | ((with_reducible apply LoopT.one X); cbv)
  have hgo : GetsOk gs := gs_ok hgs (by unfold Wd; omega)
  have hg0 : gs.getD k.toNat (-1) = -1 := gs_other hgs hk0.1 hk0.2 hk10.1 hk10.2.2
  have hg1 : gs.getD k1.toNat (-1) = w := gs_same hgs hk10.1 hk10.2.1
  have har : AroundOk x o gs := ⟨by unfold Wd; omega, by omega, hgo⟩
  cbv
  by_cases hb : bitOf o k.toNat = 0
  all_goals
   repeat' first
    | with_reducible exact trivial
    | ((with_reducible intro v hv); (replace hv := and3' hv); (have e : k1 = v := (by omega)); subst e; cbv)
    | ((with_reducible apply rowAt); (focus rfl); cbv)
    | ((with_reducible intro rows e); (have ety : rows = (rows : List (List AV)) := rfl); clear ety; (cbv at e); subst e; cbv)
    | ((with_reducible intro v hv); (rw [wrap_i64] at hv); cbv)
    | ((with_reducible intro v hv); cbv)
    | ((with_reducible apply stepGo (p := [⟨9, k⟩, ⟨0, 0⟩]) (gs := gs) (pc := 0) (acc := 77) (x0 := 0) (x1 := 0) (x2 := 5) (x3 := 0) (x4 := 0) (x5 := 0) (x6 := 0) (x7 := 0) (x8 := 0) (x9 := 0) (x10 := 0) (x11 := 0) (x12 := 0) (x13 := 0) (x14 := 0) (x15 := 0) (inn := x) (outs := o) 9 k ⟨1, 77, [0, 0, 5, 0, 0, 0, 0, 0, 0, 0, 0, 0, 0, 0, 0, 0], false, k, (-1), 77, false⟩ (v' := .tuple [.agg [.int .i64 1, .int .i64 77, .int .i64 0, .int .i64 0, .int .i64 5, .int .i64 0, .int .i64 0, .int .i64 0, .int .i64 0, .int .i64 0, .int .i64 0, .int .i64 0, .int .i64 0, .int .i64 0, .int .i64 0, .int .i64 0, .int .i64 0, .int .i64 0], .agg [.bool false, .sym (.int .i64 k), .int .i64 (-1), .int .i64 77, .bool false], .int .i64 0])); (focus ((refine Sl.text rfl rfl rfl rfl ?_); simp [rowsN, tu, normL, norm]; done)); (focus exact hrn.sl rfl rfl hgl.symm rfl); (focus rfl); (focus rfl); (focus rfl); (focus exact ⟨hm9, by simp only [List.length_cons, List.length_nil]; omega, by unfold Wd; omega, hwd, har⟩); (focus rfl); (focus exact dd9b hb); (focus rfl); cbv)
    | ((with_reducible apply stepGo (p := [⟨9, k⟩, ⟨0, 0⟩]) (gs := gs) (pc := 0) (acc := 77) (x0 := 0) (x1 := 0) (x2 := 5) (x3 := 0) (x4 := 0) (x5 := 0) (x6 := 0) (x7 := 0) (x8 := 0) (x9 := 0) (x10 := 0) (x11 := 0) (x12 := 0) (x13 := 0) (x14 := 0) (x15 := 0) (inn := x) (outs := o) 9 k ⟨0, 0, [0, 0, 5, 0, 0, 0, 0, 0, 0, 0, 0, 0, 0, 0, 0, 0], false, (-1), (-1), 0, true⟩ (v' := .tuple [.agg [.int .i64 0, .int .i64 0, .int .i64 0, .int .i64 0, .int .i64 5, .int .i64 0, .int .i64 0, .int .i64 0, .int .i64 0, .int .i64 0, .int .i64 0, .int .i64 0, .int .i64 0, .int .i64 0, .int .i64 0, .int .i64 0, .int .i64 0, .int .i64 0], .agg [.bool false, .int .i64 (-1), .int .i64 (-1), .int .i64 0, .bool true], .int .i64 0])); (focus ((refine Sl.text rfl rfl rfl rfl ?_); simp [rowsN, tu, normL, norm]; done)); (focus exact hrn.sl rfl rfl hgl.symm rfl); (focus rfl); (focus rfl); (focus rfl); (focus exact ⟨hm9, by simp only [List.length_cons, List.length_nil]; omega, by unfold Wd; omega, hwd, har⟩); (focus rfl); (focus exact dd9a hb); (focus rfl); cbv)
    | ((with_reducible apply stepGo (p := [⟨10, k⟩, ⟨0, 0⟩]) (gs := gs) (pc := 0) (acc := 77) (x0 := 0) (x1 := 0) (x2 := 5) (x3 := 0) (x4 := 0) (x5 := 0) (x6 := 0) (x7 := 0) (x8 := 0) (x9 := 0) (x10 := 0) (x11 := 0) (x12 := 0) (x13 := 0) (x14 := 0) (x15 := 0) (inn := x) (outs := o) 10 k ⟨0, 0, [0, 0, 5, 0, 0, 0, 0, 0, 0, 0, 0, 0, 0, 0, 0, 0], false, (-1), (-1), 0, true⟩ (v' := .tuple [.agg [.int .i64 0, .int .i64 0, .int .i64 0, .int .i64 0, .int .i64 5, .int .i64 0, .int .i64 0, .int .i64 0, .int .i64 0, .int .i64 0, .int .i64 0, .int .i64 0, .int .i64 0, .int .i64 0, .int .i64 0, .int .i64 0, .int .i64 0, .int .i64 0], .agg [.bool false, .int .i64 (-1), .int .i64 (-1), .int .i64 0, .bool true], .int .i64 0])); (focus ((refine Sl.text rfl rfl rfl rfl ?_); simp [rowsN, tu, normL, norm]; done)); (focus exact hrn.sl rfl rfl hgl.symm rfl); (focus rfl); (focus rfl); (focus rfl); (focus exact ⟨hm10, by simp only [List.length_cons, List.length_nil]; omega, by unfold Wd; omega, hwd, har⟩); (focus rfl); (focus exact dd10a hg0); (focus rfl); cbv)
    | ((with_reducible apply stepGo (p := [⟨10, k1⟩, ⟨0, 0⟩]) (gs := gs) (pc := 0) (acc := 77) (x0 := 0) (x1 := 0) (x2 := 5) (x3 := 0) (x4 := 0) (x5 := 0) (x6 := 0) (x7 := 0) (x8 := 0) (x9 := 0) (x10 := 0) (x11 := 0) (x12 := 0) (x13 := 0) (x14 := 0) (x15 := 0) (inn := x) (outs := o) 10 k1 ⟨1, w, [0, 0, 5, 0, 0, 0, 0, 0, 0, 0, 0, 0, 0, 0, 0, 0], false, (-1), k1, 0, false⟩ (v' := .tuple [.agg [.int .i64 1, .sym (.int .i64 w), .int .i64 0, .int .i64 0, .int .i64 5, .int .i64 0, .int .i64 0, .int .i64 0, .int .i64 0, .int .i64 0, .int .i64 0, .int .i64 0, .int .i64 0, .int .i64 0, .int .i64 0, .int .i64 0, .int .i64 0, .int .i64 0], .agg [.bool false, .int .i64 (-1), .sym (.int .i64 k1), .int .i64 0, .bool false], .int .i64 0])); (focus ((refine Sl.text rfl rfl rfl rfl ?_); simp [rowsN, tu, normL, norm]; done)); (focus exact hrn.sl rfl rfl hgl.symm rfl); (focus rfl); (focus rfl); (focus rfl); (focus exact ⟨hm11, by simp only [List.length_cons, List.length_nil]; omega, by unfold Wd; omega, hwd, har⟩); (focus rfl); (focus exact dd10b hg1 (by omega)); (focus rfl); cbv)
    | ((with_reducible apply stepGo (p := [⟨8, 0⟩, ⟨0, 0⟩]) (gs := []) (pc := 0) (acc := 77) (x0 := 0) (x1 := 0) (x2 := 5) (x3 := 0) (x4 := 0) (x5 := 0) (x6 := 0) (x7 := 0) (x8 := 0) (x9 := 0) (x10 := 0) (x11 := 0) (x12 := 0) (x13 := 0) (x14 := 0) (x15 := 0) (inn := x) (outs := o) 8 0 ⟨1, x, [0, 0, 5, 0, 0, 0, 0, 0, 0, 0, 0, 0, 0, 0, 0, 0], true, (-1), (-1), 0, false⟩ (v' := .tuple [.agg [.int .i64 1, .sym (.int .i64 x), .int .i64 0, .int .i64 0, .int .i64 5, .int .i64 0, .int .i64 0, .int .i64 0, .int .i64 0, .int .i64 0, .int .i64 0, .int .i64 0, .int .i64 0, .int .i64 0, .int .i64 0, .int .i64 0, .int .i64 0, .int .i64 0], .agg [.bool true, .int .i64 (-1), .int .i64 (-1), .int .i64 0, .bool false], .int .i64 0])); (focus ((refine Sl.text rfl rfl rfl rfl ?_); simp [rowsN, tu, normL, norm]; done)); (focus exact Sl.nil rfl rfl); (focus rfl); (focus rfl); (focus rfl); (focus exact ⟨hm8, by simp only [List.length_cons, List.length_nil]; omega, by unfold Wd; omega, hwd, har0⟩); (focus rfl); (focus exact dd8); (focus rfl); cbv)
    | ((with_reducible apply uAnd); (focus first | kernel_rfl | omega | (simp only [List.length_cons, List.length_nil]; omega)); try cbv)
    | ((with_reducible apply And.intro) <;> (with_reducible intro h) <;> first | ((with_reducible exfalso); first | omega | (have eb := bitOk (K := k) (by with_reducible assumption) (by with_reducible assumption) (by omega); omega)) | cbv)
    | ((with_reducible apply CallT.enter X Try.func14 (by decide)); cbv)
end Go.Proofs.Ytdaccjfijfnlfaa.Stp

