/- The law StepForms: machines, programs, words that are none. -/
import Derived.Test.YtdaccjfijfnlfaaStpG
namespace Go.Proofs.Ytdaccjfijfnlfaa.Stp
open Go.Ab Base Cod Kit Br
set_option linter.unusedVariables false
set_option linter.unusedSimpArgs false

set_option maxRecDepth 200000 in
set_option maxHeartbeats 40000000 in
theorem stepForms (which x : Int) : CallS Try.prog 6 [.sym (.int .i64 which), .sym (.int .i64 x)] (memB [] []) 0 fun v _ _ => v = .bool true := by
  have hwd : ∀ x ∈ [0, 0, 0, 0, 0, 0, 0, 0, 0, 0, 0, 0, 0, 0, 0, 0], Wd x := by simp only [List.forall_mem_cons, List.not_mem_nil, false_implies, implies_true, and_true]; unfold Wd; omega
  have hm : May [⟨1, 5⟩, ⟨11, 0⟩] := ⟨by simp only [List.length_cons, List.length_nil]; omega, fun x hx => by simp only [List.mem_cons, List.not_mem_nil, or_false] at hx; rcases hx with rfl | rfl <;> (unfold OkI; dsimp only [List.length_cons, List.length_nil]; omega)⟩
  have hgo : GetsOk [-1, 7] := ⟨by simp only [List.length_cons, List.length_nil]; omega, by simp only [List.forall_mem_cons, true_or, true_and, List.not_mem_nil, false_implies, implies_true, and_true]; unfold Wd; omega⟩
  have har : AroundOk 0 0 [-1, 7] := ⟨by unfold Wd; omega, by omega, hgo⟩
  refine CallS.enter X Try.func6 (by decide) ?_
  cbv
  (with_reducible apply awakeT); cbv
  (with_reducible intro q hq); (replace hq := and6 hq); cbv
  (with_reducible intro d hd); (rw [wrap_i64] at hd); (have hd2 : 1 ≤ d ∧ d ≤ 64 := by omega); clear hd; cbv
  repeat' first
    | with_reducible exact trivial
    | ((with_reducible intro n y rows hn hy hrows); (have hn2 : n = y := (by omega)); subst hn2; cbv)
    | ((with_reducible intro rows e); (have ety : rows = (rows : List (List AV)) := rfl); clear ety; (cbv at e); subst e; cbv)
    | ((with_reducible apply stZ hj hq4); (focus rfl); (focus rfl); (with_reducible intro z0 z1 z2 z3 z4 z5 z6 z7 z8 z9 z10 z11 z12 z13 z14 z15 y0 y1 y2 y3 y4 y5 y6 y7 y8 y9 y10 y11 y12 y13 y14 y15 hzV hym); cbv)
    | ((with_reducible intro j hj); (have e : j = 0 := (by rw [hj]; rfl)); subst e; cbv)
    | ((with_reducible intro j hj); (have e : j = 1 := (by rw [hj]; rfl)); subst e; cbv)
    | ((with_reducible intro j hj); (have ety : j = (j : Nat) := rfl); clear ety; cbv)
    | ((with_reducible intro q4 hv); (replace hv := and4 hv); (have hq4 : 0 ≤ q4 ∧ q4 < 16 := (by omega)); clear hv; cbv)
    | ((with_reducible intro v hv); (rw [wrap_i64] at hv); cbv)
    | ((with_reducible intro v hv); (rw [wrap_u64] at hv); cbv)
    | ((with_reducible intro v hv); cbv)
    | ((with_reducible apply rowAt); (focus rfl); cbv)
    | ((with_reducible apply stepGo (p := [⟨1, 5⟩, ⟨11, 0⟩]) (gs := [-1, 7]) (pc := 0) (acc := 0) (x0 := 0) (x1 := 0) (x2 := 0) (x3 := 0) (x4 := 0) (x5 := 0) (x6 := 0) (x7 := 0) (x8 := 0) (x9 := 0) (x10 := 0) (x11 := 0) (x12 := 0) (x13 := 0) (x14 := 0) (x15 := 0) (inn := 0) (outs := 0) 1 5 ⟨1, 5, [0, 0, 0, 0, 0, 0, 0, 0, 0, 0, 0, 0, 0, 0, 0, 0], false, (-1), (-1), 0, false⟩ (v' := .tuple [.agg [.int .i64 1, .int .i64 5, .int .i64 0, .int .i64 0, .int .i64 0, .int .i64 0, .int .i64 0, .int .i64 0, .int .i64 0, .int .i64 0, .int .i64 0, .int .i64 0, .int .i64 0, .int .i64 0, .int .i64 0, .int .i64 0, .int .i64 0, .int .i64 0], .agg [.bool false, .int .i64 (-1), .int .i64 (-1), .int .i64 0, .bool false], .int .i64 0])); (focus ((refine Sl.text rfl rfl rfl rfl ?_); simp [rowsN, tu, normL, norm]; done)); (focus ((refine Sl.text rfl rfl rfl rfl ?_); simp [rowsN, iv, normL, norm]; done)); (focus rfl); (focus rfl); (focus rfl); (focus exact ⟨hm, by simp only [List.length_cons, List.length_nil]; omega, by unfold Wd; omega, hwd, har⟩); (focus rfl); (focus exact dd1); (focus rfl); cbv)
    | ((with_reducible apply stepBad (p := [⟨1, 5⟩, ⟨11, 0⟩]) (gs := [-1, 7]) (pc := 0) (acc := 0) (x0 := y0) (x1 := y1) (x2 := y2) (x3 := y3) (x4 := y4) (x5 := y5) (x6 := y6) (x7 := y7) (x8 := y8) (x9 := y9) (x10 := y10) (x11 := y11) (x12 := y12) (x13 := y13) (x14 := y14) (x15 := y15)); (focus ((refine Sl.text rfl rfl rfl rfl ?_); simp [rowsN, tu, normL, norm]; done)); (focus ((refine Sl.text rfl rfl rfl rfl ?_); simp [rowsN, iv, normL, norm]; done)); (focus exact hzV); (focus rfl); (focus rfl); (focus exact bad_mem _ hym (by omega)); cbv)
    | ((with_reducible apply stepBad (p := [⟨1, 5⟩, ⟨11, 0⟩]) (gs := [-1, 7])); (focus ((refine Sl.text rfl rfl rfl rfl ?_); simp [rowsN, tu, normL, norm]; done)); (focus ((refine Sl.text rfl rfl rfl rfl ?_); simp [rowsN, iv, normL, norm]; done)); (focus rfl); (focus rfl); (focus rfl); (focus first | exact bad_pc (by simp only [List.length_cons, List.length_nil]; omega) | exact bad_acc (by omega) | exact bad_in (by omega) | exact bad_out (by omega) | exact bad_len (by simp only [List.length_replicate]; omega) | ((refine bad_get v ?_ (by omega)); simp; done) | ((refine bad_code 11 d ?_ rfl (by omega)); simp; done)); cbv)
    | ((with_reducible apply stepBad (p := [⟨1, 5⟩, ⟨11, 0⟩]) (gs := [v, 7])); (focus ((refine Sl.text rfl rfl rfl rfl ?_); simp [rowsN, tu, normL, norm]; done)); (focus ((refine Sl.text rfl rfl rfl rfl ?_); simp [rowsN, iv, normL, norm]; done)); (focus rfl); (focus rfl); (focus rfl); (focus first | exact bad_pc (by simp only [List.length_cons, List.length_nil]; omega) | exact bad_acc (by omega) | exact bad_in (by omega) | exact bad_out (by omega) | exact bad_len (by simp only [List.length_replicate]; omega) | ((refine bad_get v ?_ (by omega)); simp; done) | ((refine bad_code 11 d ?_ rfl (by omega)); simp; done)); cbv)
    | ((with_reducible apply stepBad (p := [⟨1, 5⟩, ⟨11, 0⟩]) (gs := (List.replicate n 0))); (focus ((refine Sl.text rfl rfl rfl rfl ?_); simp [rowsN, tu, normL, norm]; done)); (focus exact (RN.make hrows).sl rfl rfl (by simp) (Nat.ble_eq_true_of_le (by omega))); (focus rfl); (focus rfl); (focus rfl); (focus first | exact bad_pc (by simp only [List.length_cons, List.length_nil]; omega) | exact bad_acc (by omega) | exact bad_in (by omega) | exact bad_out (by omega) | exact bad_len (by simp only [List.length_replicate]; omega) | ((refine bad_get v ?_ (by omega)); simp; done) | ((refine bad_code 11 d ?_ rfl (by omega)); simp; done)); cbv)
    | ((with_reducible apply stepBad (p := [⟨1, 5⟩, ⟨11, d⟩]) (gs := [-1, 7])); (focus ((refine Sl.text rfl rfl rfl rfl ?_); simp [rowsN, tu, normL, norm]; done)); (focus ((refine Sl.text rfl rfl rfl rfl ?_); simp [rowsN, iv, normL, norm]; done)); (focus rfl); (focus rfl); (focus rfl); (focus first | exact bad_pc (by simp only [List.length_cons, List.length_nil]; omega) | exact bad_acc (by omega) | exact bad_in (by omega) | exact bad_out (by omega) | exact bad_len (by simp only [List.length_replicate]; omega) | ((refine bad_get v ?_ (by omega)); simp; done) | ((refine bad_code 11 d ?_ rfl (by omega)); simp; done)); cbv)
    | ((with_reducible apply uAnd); (focus first | kernel_rfl | omega | (refine ⟨?_, ?_⟩ <;> omega) | (refine ⟨?_, ?_, ?_, (?_ : (8 : Int) * _ ≤ 140737488355328)⟩ <;> omega) | (simp only [List.length_cons, List.length_nil]; omega)); try cbv)
    | ((with_reducible apply And.intro) <;> (with_reducible intro h) <;> first | ((with_reducible exfalso); omega) | cbv)
    | ((with_reducible apply CallT.enter X Try.func14 (by decide)); cbv)
end Go.Proofs.Ytdaccjfijfnlfaa.Stp

