/- pvm.Step: any program, machine, ports: what it answers. -/
import Derived.Test.YtdaccjfijfnlfaaStpE
namespace Go.Proofs.Ytdaccjfijfnlfaa.Stp
open Go.Ab Base Cod Kit
set_option linter.unusedVariables false
set_option linter.unusedSimpArgs false

set_option maxRecDepth 200000 in
set_option maxHeartbeats 40000000 in
theorem stepC (p : List Instr) (rowsP : List (List AV)) (np capP : Nat) (opnP : Bool) (hP : Hat tu p rowsP np) (gs : List Int) (rowsG : List (List AV)) (ng capG : Nat) (opnG : Bool) (hG : Hat iv gs rowsG ng) (pc acc x0 x1 x2 x3 x4 x5 x6 x7 x8 x9 x10 x11 x12 x13 x14 x15 inn outs : Int) (R : AV → Prop)
    (hbad : ¬ (May p ∧ ((0 ≤ pc ∧ pc.toNat < max np 1) ∧ Wd acc ∧ MemOk x0 x1 x2 x3 x4 x5 x6 x7 x8 x9 x10 x11 x12 x13 x14 x15) ∧ AroundOk inn outs gs) → R noneA)
    (hnil : May p → ((0 ≤ pc ∧ pc.toNat < max np 1) ∧ Wd acc ∧ MemOk x0 x1 x2 x3 x4 x5 x6 x7 x8 x9 x10 x11 x12 x13 x14 x15) → AroundOk inn outs gs → p = [] → R (outA ⟨pc, acc, [x0, x1, x2, x3, x4, x5, x6, x7, x8, x9, x10, x11, x12, x13, x14, x15], false, -1, -1, 0, false⟩))
    (hgo : May p → ((0 ≤ pc ∧ pc.toNat < max np 1) ∧ Wd acc ∧ MemOk x0 x1 x2 x3 x4 x5 x6 x7 x8 x9 x10 x11 x12 x13 x14 x15) → AroundOk inn outs gs → ∀ op arg, p[pc.toNat]? = some ⟨op, arg⟩ → ∀ nx, nx = (pc + 1) % np → R (outA (dd op arg nx acc [x0, x1, x2, x3, x4, x5, x6, x7, x8, x9, x10, x11, x12, x13, x14, x15] inn outs gs))) :
    CallS Try.prog 12 [.sym (.slice 0 2 0 np capP opnP none), .agg (vmr pc acc x0 x1 x2 x3 x4 x5 x6 x7 x8 x9 x10 x11 x12 x13 x14 x15), i6 inn, i6 outs, .sym (.slice 1 1 0 ng capG opnG none)] (memB [some (.cells false 2 rowsP), some (.cells false 1 rowsG)] []) 2 fun v _ _ => v.flat = true ∧ R (Go.Ab.full v) := by
  obtain ⟨hng, hzg, hfg, hrg⟩ := id hG
  obtain ⟨hnp, hzp, hfp, hrp⟩ := id hP
  refine CallS.enter X Try.func12 (by decide) ?_
  cbv
  repeat' first
    | with_reducible exact trivial
    | ((with_reducible apply mayT (p := p)); (focus exact Hat.tv hP rfl rfl); all_goals first
        | ((with_reducible intro hmay); cbv))
    | ((with_reducible apply vmMayT (pc := pc) (acc := acc) (x0 := x0) (x1 := x1) (x2 := x2) (x3 := x3) (x4 := x4) (x5 := x5) (x6 := x6) (x7 := x7) (x8 := x8) (x9 := x9) (x10 := x10) (x11 := x11) (x12 := x12) (x13 := x13) (x14 := x14) (x15 := x15)); (focus rfl); (focus rfl); (focus rfl); (focus rfl); (focus omega); all_goals first
        | ((with_reducible intro hvm); cbv))
    | ((with_reducible apply aroundT (gs := gs) (inn := inn) (outs := outs) (pc := pc) (acc := acc) (x0 := x0) (x1 := x1) (x2 := x2) (x3 := x3) (x4 := x4) (x5 := x5) (x6 := x6) (x7 := x7) (x8 := x8) (x9 := x9) (x10 := x10) (x11 := x11) (x12 := x12) (x13 := x13) (x14 := x14) (x15 := x15) (G := .sym (.slice 1 1 0 ng capG opnG none))); (focus rfl); (focus rfl); (focus rfl); (focus rfl); (focus rfl); (focus exact hG); (focus decide); (focus decide); all_goals first
        | ((with_reducible intro har); cbv))
    | ((with_reducible intro v hv); (try rw [wrap_i64] at hv); cbv)
    | ((with_reducible apply uAnd); (focus first | kernel_rfl | omega); try cbv)
    | ((with_reducible apply And.intro) <;> (with_reducible intro h) <;> first | ((with_reducible exfalso); omega) | cbv)
  · exact hnil hmay hvm har (List.eq_nil_of_length_eq_zero (by omega))
  · (have ev : v = pc.toNat := by omega)
    subst ev
    (have hall : AllOk (p.length : Int) p := (id hmay : _ ∧ _).2)
    (with_reducible apply ld hrp)
    · omega
    (with_reducible intro x hx)
    cbv
    repeat' first
        | ((with_reducible intro v hv); (try rw [wrap_i64] at hv); cbv)
        | ((with_reducible apply uAnd); (focus first | kernel_rfl | omega); try cbv)
        | ((with_reducible apply And.intro) <;> (with_reducible intro h) <;> first | ((with_reducible exfalso); omega) | cbv)
    (with_reducible apply byOp hall x hx)
    case a0 =>
      (with_reducible intro hx0)
      cbv
      repeat' first
        | with_reducible exact trivial
        | ((with_reducible apply ldAt hrx); (focus omega); cbv)
        | ((with_reducible apply ld hrg); (focus omega); (with_reducible intro x hy); (have hrx : rowsG[v]? = some [.sym (.int .i64 x)] := hrg _ _ hy); cbv)
        | ((with_reducible apply ldX hv ha0 ha1); (with_reducible intro y hy hym); cbv)
        | ((with_reducible apply stX hv ha0 ha1); (focus rfl); (focus rfl); (with_reducible intro y0 y1 y2 y3 y4 y5 y6 y7 y8 y9 y10 y11 y12 y13 y14 y15 hys); cbv)
        | ((with_reducible apply CallT.enter X Try.func23 (by decide)); cbv)
        | ((with_reducible apply CallT.enter X Try.func24 (by decide)); cbv)
        | ((with_reducible apply CallT.enter X Try.func25 (by decide)); cbv)
        | ((with_reducible apply CallT.enter X Try.func32 (by decide)); cbv)
        | ((with_reducible intro v hv); (try rw [wrap_i64] at hv); cbv)
        | ((with_reducible apply uAnd); (focus first | kernel_rfl | omega); try cbv)
        | ((with_reducible apply And.intro) <;> (with_reducible intro h) <;> first | ((with_reducible exfalso); omega) | cbv)
      all_goals ((have key := hgo hmay hvm har 0 0 hx0 _ (nxOk (by with_reducible assumption) (by with_reducible assumption) (by with_reducible assumption) hvm.1 hzp)); (rw [dd0] at key); exact key)
    case a1 =>
      (with_reducible intro a ha0 ha1 hx0)
      cbv
      repeat' first
        | with_reducible exact trivial
        | ((with_reducible apply ldAt hrx); (focus omega); cbv)
        | ((with_reducible apply ld hrg); (focus omega); (with_reducible intro x hy); (have hrx : rowsG[v]? = some [.sym (.int .i64 x)] := hrg _ _ hy); cbv)
        | ((with_reducible apply ldX hv ha0 ha1); (with_reducible intro y hy hym); cbv)
        | ((with_reducible apply stX hv ha0 ha1); (focus rfl); (focus rfl); (with_reducible intro y0 y1 y2 y3 y4 y5 y6 y7 y8 y9 y10 y11 y12 y13 y14 y15 hys); cbv)
        | ((with_reducible apply CallT.enter X Try.func23 (by decide)); cbv)
        | ((with_reducible apply CallT.enter X Try.func24 (by decide)); cbv)
        | ((with_reducible apply CallT.enter X Try.func25 (by decide)); cbv)
        | ((with_reducible apply CallT.enter X Try.func32 (by decide)); cbv)
        | ((with_reducible intro v hv); (try rw [wrap_i64] at hv); cbv)
        | ((with_reducible apply uAnd); (focus first | kernel_rfl | omega); try cbv)
        | ((with_reducible apply And.intro) <;> (with_reducible intro h) <;> first | ((with_reducible exfalso); omega) | cbv)
      all_goals ((have key := hgo hmay hvm har 1 a hx0 _ (nxOk (by with_reducible assumption) (by with_reducible assumption) (by with_reducible assumption) hvm.1 hzp)); (rw [dd1] at key); exact key)
    case a2 =>
      (with_reducible intro a ha0 ha1 hx0)
      cbv
      repeat' first
        | with_reducible exact trivial
        | ((with_reducible apply ldAt hrx); (focus omega); cbv)
        | ((with_reducible apply ld hrg); (focus omega); (with_reducible intro x hy); (have hrx : rowsG[v]? = some [.sym (.int .i64 x)] := hrg _ _ hy); cbv)
        | ((with_reducible apply ldX hv ha0 ha1); (with_reducible intro y hy hym); cbv)
        | ((with_reducible apply stX hv ha0 ha1); (focus rfl); (focus rfl); (with_reducible intro y0 y1 y2 y3 y4 y5 y6 y7 y8 y9 y10 y11 y12 y13 y14 y15 hys); cbv)
        | ((with_reducible apply CallT.enter X Try.func23 (by decide)); cbv)
        | ((with_reducible apply CallT.enter X Try.func24 (by decide)); cbv)
        | ((with_reducible apply CallT.enter X Try.func25 (by decide)); cbv)
        | ((with_reducible apply CallT.enter X Try.func32 (by decide)); cbv)
        | ((with_reducible intro v hv); (try rw [wrap_i64] at hv); cbv)
        | ((with_reducible apply uAnd); (focus first | kernel_rfl | omega); try cbv)
        | ((with_reducible apply And.intro) <;> (with_reducible intro h) <;> first | ((with_reducible exfalso); omega) | cbv)
      all_goals ((have key := hgo hmay hvm har 2 a hx0 _ (nxOk (by with_reducible assumption) (by with_reducible assumption) (by with_reducible assumption) hvm.1 hzp)); (rw [dd2 hy] at key); exact key)
    case a3 =>
      (with_reducible intro a ha0 ha1 hx0)
      cbv
      repeat' first
        | with_reducible exact trivial
        | ((with_reducible apply ldAt hrx); (focus omega); cbv)
        | ((with_reducible apply ld hrg); (focus omega); (with_reducible intro x hy); (have hrx : rowsG[v]? = some [.sym (.int .i64 x)] := hrg _ _ hy); cbv)
        | ((with_reducible apply ldX hv ha0 ha1); (with_reducible intro y hy hym); cbv)
        | ((with_reducible apply stX hv ha0 ha1); (focus rfl); (focus rfl); (with_reducible intro y0 y1 y2 y3 y4 y5 y6 y7 y8 y9 y10 y11 y12 y13 y14 y15 hys); cbv)
        | ((with_reducible apply CallT.enter X Try.func23 (by decide)); cbv)
        | ((with_reducible apply CallT.enter X Try.func24 (by decide)); cbv)
        | ((with_reducible apply CallT.enter X Try.func25 (by decide)); cbv)
        | ((with_reducible apply CallT.enter X Try.func32 (by decide)); cbv)
        | ((with_reducible intro v hv); (try rw [wrap_i64] at hv); cbv)
        | ((with_reducible apply uAnd); (focus first | kernel_rfl | omega); try cbv)
        | ((with_reducible apply And.intro) <;> (with_reducible intro h) <;> first | ((with_reducible exfalso); omega) | cbv)
      all_goals ((have key := hgo hmay hvm har 3 a hx0 _ (nxOk (by with_reducible assumption) (by with_reducible assumption) (by with_reducible assumption) hvm.1 hzp)); (rw [dd3 hys] at key); exact key)
    case a4 =>
      (with_reducible intro a ha0 ha1 hx0)
      cbv
      repeat' first
        | with_reducible exact trivial
        | ((with_reducible apply ldAt hrx); (focus omega); cbv)
        | ((with_reducible apply ld hrg); (focus omega); (with_reducible intro x hy); (have hrx : rowsG[v]? = some [.sym (.int .i64 x)] := hrg _ _ hy); cbv)
        | ((with_reducible apply ldX hv ha0 ha1); (with_reducible intro y hy hym); cbv)
        | ((with_reducible apply stX hv ha0 ha1); (focus rfl); (focus rfl); (with_reducible intro y0 y1 y2 y3 y4 y5 y6 y7 y8 y9 y10 y11 y12 y13 y14 y15 hys); cbv)
        | ((with_reducible apply CallT.enter X Try.func23 (by decide)); cbv)
        | ((with_reducible apply CallT.enter X Try.func24 (by decide)); cbv)
        | ((with_reducible apply CallT.enter X Try.func25 (by decide)); cbv)
        | ((with_reducible apply CallT.enter X Try.func32 (by decide)); cbv)
        | ((with_reducible intro v hv); (try rw [wrap_i64] at hv); cbv)
        | ((with_reducible apply uAnd); (focus first | kernel_rfl | omega); try cbv)
        | ((with_reducible apply And.intro) <;> (with_reducible intro h) <;> first | ((with_reducible exfalso); omega) | cbv)
      all_goals ((have key := hgo hmay hvm har 4 a hx0 _ (nxOk (by with_reducible assumption) (by with_reducible assumption) (by with_reducible assumption) hvm.1 hzp)); (rw [dd4 hy (addOk (by with_reducible assumption) (by with_reducible assumption) hvm.2.1 (memOk_iff.1 hvm.2.2 _ hym))] at key); exact key)
    case a5 =>
      (with_reducible intro a ha0 ha1 hx0)
      cbv
      repeat' first
        | with_reducible exact trivial
        | ((with_reducible apply ldAt hrx); (focus omega); cbv)
        | ((with_reducible apply ld hrg); (focus omega); (with_reducible intro x hy); (have hrx : rowsG[v]? = some [.sym (.int .i64 x)] := hrg _ _ hy); cbv)
        | ((with_reducible apply ldX hv ha0 ha1); (with_reducible intro y hy hym); cbv)
        | ((with_reducible apply stX hv ha0 ha1); (focus rfl); (focus rfl); (with_reducible intro y0 y1 y2 y3 y4 y5 y6 y7 y8 y9 y10 y11 y12 y13 y14 y15 hys); cbv)
        | ((with_reducible apply CallT.enter X Try.func23 (by decide)); cbv)
        | ((with_reducible apply CallT.enter X Try.func24 (by decide)); cbv)
        | ((with_reducible apply CallT.enter X Try.func25 (by decide)); cbv)
        | ((with_reducible apply CallT.enter X Try.func32 (by decide)); cbv)
        | ((with_reducible intro v hv); (try rw [wrap_i64] at hv); cbv)
        | ((with_reducible apply uAnd); (focus first | kernel_rfl | omega); try cbv)
        | ((with_reducible apply And.intro) <;> (with_reducible intro h) <;> first | ((with_reducible exfalso); omega) | cbv)
      all_goals ((have key := hgo hmay hvm har 5 a hx0 _ (nxOk (by with_reducible assumption) (by with_reducible assumption) (by with_reducible assumption) hvm.1 hzp)); (rw [dd5 hy (subOk (by with_reducible assumption) (by with_reducible assumption) (by with_reducible assumption) hvm.2.1 (memOk_iff.1 hvm.2.2 _ hym))] at key); exact key)
    case a6 =>
      (with_reducible intro a ha0 ha1 hx0)
      cbv
      repeat' first
        | with_reducible exact trivial
        | ((with_reducible apply ldAt hrx); (focus omega); cbv)
        | ((with_reducible apply ld hrg); (focus omega); (with_reducible intro x hy); (have hrx : rowsG[v]? = some [.sym (.int .i64 x)] := hrg _ _ hy); cbv)
        | ((with_reducible apply ldX hv ha0 ha1); (with_reducible intro y hy hym); cbv)
        | ((with_reducible apply stX hv ha0 ha1); (focus rfl); (focus rfl); (with_reducible intro y0 y1 y2 y3 y4 y5 y6 y7 y8 y9 y10 y11 y12 y13 y14 y15 hys); cbv)
        | ((with_reducible apply CallT.enter X Try.func23 (by decide)); cbv)
        | ((with_reducible apply CallT.enter X Try.func24 (by decide)); cbv)
        | ((with_reducible apply CallT.enter X Try.func25 (by decide)); cbv)
        | ((with_reducible apply CallT.enter X Try.func32 (by decide)); cbv)
        | ((with_reducible intro v hv); (try rw [wrap_i64] at hv); cbv)
        | ((with_reducible apply uAnd); (focus first | kernel_rfl | omega); try cbv)
        | ((with_reducible apply And.intro) <;> (with_reducible intro h) <;> first | ((with_reducible exfalso); omega) | cbv)
      all_goals ((have key := hgo hmay hvm har 6 a hx0 _ (nxOk (by with_reducible assumption) (by with_reducible assumption) (by with_reducible assumption) hvm.1 hzp)); (rw [dd6] at key); exact key)
    case a7 =>
      (with_reducible intro a ha0 ha1 hx0)
      cbv
      repeat' first
        | with_reducible exact trivial
        | ((with_reducible apply ldAt hrx); (focus omega); cbv)
        | ((with_reducible apply ld hrg); (focus omega); (with_reducible intro x hy); (have hrx : rowsG[v]? = some [.sym (.int .i64 x)] := hrg _ _ hy); cbv)
        | ((with_reducible apply ldX hv ha0 ha1); (with_reducible intro y hy hym); cbv)
        | ((with_reducible apply stX hv ha0 ha1); (focus rfl); (focus rfl); (with_reducible intro y0 y1 y2 y3 y4 y5 y6 y7 y8 y9 y10 y11 y12 y13 y14 y15 hys); cbv)
        | ((with_reducible apply CallT.enter X Try.func23 (by decide)); cbv)
        | ((with_reducible apply CallT.enter X Try.func24 (by decide)); cbv)
        | ((with_reducible apply CallT.enter X Try.func25 (by decide)); cbv)
        | ((with_reducible apply CallT.enter X Try.func32 (by decide)); cbv)
        | ((with_reducible intro v hv); (try rw [wrap_i64] at hv); cbv)
        | ((with_reducible apply uAnd); (focus first | kernel_rfl | omega); try cbv)
        | ((with_reducible apply And.intro) <;> (with_reducible intro h) <;> first | ((with_reducible exfalso); omega) | cbv)
      all_goals ((have key := hgo hmay hvm har 7 a hx0 _ (nxOk (by with_reducible assumption) (by with_reducible assumption) (by with_reducible assumption) hvm.1 hzp)); (first | rw [dd7a (by with_reducible assumption)] at key | rw [dd7b (by with_reducible assumption)] at key); exact key)
    case a8 =>
      (with_reducible intro hx0)
      cbv
      repeat' first
        | with_reducible exact trivial
        | ((with_reducible apply ldAt hrx); (focus omega); cbv)
        | ((with_reducible apply ld hrg); (focus omega); (with_reducible intro x hy); (have hrx : rowsG[v]? = some [.sym (.int .i64 x)] := hrg _ _ hy); cbv)
        | ((with_reducible apply ldX hv ha0 ha1); (with_reducible intro y hy hym); cbv)
        | ((with_reducible apply stX hv ha0 ha1); (focus rfl); (focus rfl); (with_reducible intro y0 y1 y2 y3 y4 y5 y6 y7 y8 y9 y10 y11 y12 y13 y14 y15 hys); cbv)
        | ((with_reducible apply CallT.enter X Try.func23 (by decide)); cbv)
        | ((with_reducible apply CallT.enter X Try.func24 (by decide)); cbv)
        | ((with_reducible apply CallT.enter X Try.func25 (by decide)); cbv)
        | ((with_reducible apply CallT.enter X Try.func32 (by decide)); cbv)
        | ((with_reducible intro v hv); (try rw [wrap_i64] at hv); cbv)
        | ((with_reducible apply uAnd); (focus first | kernel_rfl | omega); try cbv)
        | ((with_reducible apply And.intro) <;> (with_reducible intro h) <;> first | ((with_reducible exfalso); omega) | cbv)
      all_goals ((have key := hgo hmay hvm har 8 0 hx0 _ (nxOk (by with_reducible assumption) (by with_reducible assumption) (by with_reducible assumption) hvm.1 hzp)); (rw [dd8] at key); exact key)
    case a9 =>
      (with_reducible intro a ha0 ha1 hx0)
      cbv
      repeat' first
        | with_reducible exact trivial
        | ((with_reducible apply ldAt hrx); (focus omega); cbv)
        | ((with_reducible apply ld hrg); (focus omega); (with_reducible intro x hy); (have hrx : rowsG[v]? = some [.sym (.int .i64 x)] := hrg _ _ hy); cbv)
        | ((with_reducible apply ldX hv ha0 ha1); (with_reducible intro y hy hym); cbv)
        | ((with_reducible apply stX hv ha0 ha1); (focus rfl); (focus rfl); (with_reducible intro y0 y1 y2 y3 y4 y5 y6 y7 y8 y9 y10 y11 y12 y13 y14 y15 hys); cbv)
        | ((with_reducible apply CallT.enter X Try.func23 (by decide)); cbv)
        | ((with_reducible apply CallT.enter X Try.func24 (by decide)); cbv)
        | ((with_reducible apply CallT.enter X Try.func25 (by decide)); cbv)
        | ((with_reducible apply CallT.enter X Try.func32 (by decide)); cbv)
        | ((with_reducible intro v hv); (try rw [wrap_i64] at hv); cbv)
        | ((with_reducible apply uAnd); (focus first | kernel_rfl | omega); try cbv)
        | ((with_reducible apply And.intro) <;> (with_reducible intro h) <;> first | ((with_reducible exfalso); omega) | cbv)
      all_goals ((have key := hgo hmay hvm har 9 a hx0 _ (nxOk (by with_reducible assumption) (by with_reducible assumption) (by with_reducible assumption) hvm.1 hzp)); (have eb := bitOk (K := a) (by with_reducible assumption) (by with_reducible assumption) (by omega)); (first | rw [dd9a (by rw [← eb]; with_reducible assumption)] at key | rw [dd9b (by rw [← eb]; with_reducible assumption)] at key); exact key)
    case a10 =>
      (with_reducible intro a ha0 ha1 hx0)
      cbv
      repeat' first
        | with_reducible exact trivial
        | ((with_reducible apply ldAt hrx); (focus omega); cbv)
        | ((with_reducible apply ld hrg); (focus omega); (with_reducible intro x hy); (have hrx : rowsG[v]? = some [.sym (.int .i64 x)] := hrg _ _ hy); cbv)
        | ((with_reducible apply ldX hv ha0 ha1); (with_reducible intro y hy hym); cbv)
        | ((with_reducible apply stX hv ha0 ha1); (focus rfl); (focus rfl); (with_reducible intro y0 y1 y2 y3 y4 y5 y6 y7 y8 y9 y10 y11 y12 y13 y14 y15 hys); cbv)
        | ((with_reducible apply CallT.enter X Try.func23 (by decide)); cbv)
        | ((with_reducible apply CallT.enter X Try.func24 (by decide)); cbv)
        | ((with_reducible apply CallT.enter X Try.func25 (by decide)); cbv)
        | ((with_reducible apply CallT.enter X Try.func32 (by decide)); cbv)
        | ((with_reducible intro v hv); (try rw [wrap_i64] at hv); cbv)
        | ((with_reducible apply uAnd); (focus first | kernel_rfl | omega); try cbv)
        | ((with_reducible apply And.intro) <;> (with_reducible intro h) <;> first | ((with_reducible exfalso); omega) | cbv)
      all_goals ((have key := hgo hmay hvm har 10 a hx0 _ (nxOk (by with_reducible assumption) (by with_reducible assumption) (by with_reducible assumption) hvm.1 hzp)); (first | rw [dd10a (gsNone (by with_reducible assumption) (by with_reducible assumption) hng)] at key | (rw [dd10b (gsSome (by with_reducible assumption) (by with_reducible assumption)) (by with_reducible assumption)] at key) | rw [dd10a ((gsSome (K := a) (by with_reducible assumption) (by with_reducible assumption)).trans (by with_reducible assumption))] at key); exact key)
    case a11 =>
      (with_reducible intro hx0)
      cbv
      repeat' first
        | with_reducible exact trivial
        | ((with_reducible apply ldAt hrx); (focus omega); cbv)
        | ((with_reducible apply ld hrg); (focus omega); (with_reducible intro x hy); (have hrx : rowsG[v]? = some [.sym (.int .i64 x)] := hrg _ _ hy); cbv)
        | ((with_reducible apply ldX hv ha0 ha1); (with_reducible intro y hy hym); cbv)
        | ((with_reducible apply stX hv ha0 ha1); (focus rfl); (focus rfl); (with_reducible intro y0 y1 y2 y3 y4 y5 y6 y7 y8 y9 y10 y11 y12 y13 y14 y15 hys); cbv)
        | ((with_reducible apply CallT.enter X Try.func23 (by decide)); cbv)
        | ((with_reducible apply CallT.enter X Try.func24 (by decide)); cbv)
        | ((with_reducible apply CallT.enter X Try.func25 (by decide)); cbv)
        | ((with_reducible apply CallT.enter X Try.func32 (by decide)); cbv)
        | ((with_reducible intro v hv); (try rw [wrap_i64] at hv); cbv)
        | ((with_reducible apply uAnd); (focus first | kernel_rfl | omega); try cbv)
        | ((with_reducible apply And.intro) <;> (with_reducible intro h) <;> first | ((with_reducible exfalso); omega) | cbv)
      all_goals ((have key := hgo hmay hvm har 11 0 hx0 _ (nxOk (by with_reducible assumption) (by with_reducible assumption) (by with_reducible assumption) hvm.1 hzp)); (rw [dd11] at key); exact key)
  · exact hbad (fun h => har h.2.2)
  · exact hbad (fun h => hvm h.2.1)
  · exact hbad (fun h => hmay h.1)
end Go.Proofs.Ytdaccjfijfnlfaa.Stp
