/- The law StepJumps: where a program goes on. -/
import Derived.Test.YtdaccjfijfnlfaaStpG
namespace Go.Proofs.Ytdaccjfijfnlfaa.Stp
open Go.Ab Base Cod Kit Br
set_option linter.unusedVariables false
set_option linter.unusedSimpArgs false

set_option maxRecDepth 200000 in
set_option maxHeartbeats 40000000 in
theorem stepJumps (to acc many : Int) : CallS Try.prog 7 [.sym (.int .i64 to), .sym (.int .i64 acc), .sym (.int .i64 many)] (memB [] []) 0 fun v _ _ => v = .bool true := by
  have hwd : ∀ x ∈ [0, 0, 0, 0, 0, 0, 0, 0, 0, 0, 0, 0, 0, 0, 0, 0], Wd x := by simp only [List.forall_mem_cons, List.not_mem_nil, false_implies, implies_true, and_true]; unfold Wd; omega
  refine CallS.enter X Try.func7 (by decide) ?_
  cbv
  (with_reducible apply awakeT); cbv
  (with_reducible intro q hq); (replace hq := and4 hq); cbv
  (with_reducible intro k hk); (rw [wrap_i64] at hk); (have hk2 : 2 ≤ k ∧ k ≤ 17 := by omega); clear hk; cbv
  (with_reducible intro u hu); (rw [wrap_u64] at hu); cbv
  (with_reducible intro w hw); (rw [wrap_u64] at hw); cbv
  repeat' first
    | ((with_reducible intro r hr); (rw [Int.tmod_eq_emod_of_nonneg (by omega)] at hr); cbv)
    | ((with_reducible apply uAnd); (focus first | omega | (refine ⟨?_, ?_⟩ <;> omega)); try cbv)
  (have hw2 : w = k := by omega); subst hw2
  (have hr2 : 0 ≤ r ∧ r < w := by rw [hr]; exact ⟨Int.emod_nonneg _ (by omega), Int.emod_lt_of_pos _ (by omega)⟩)
  (with_reducible intro t ht); (rw [wrap_i64] at ht); (have ht2 : 0 ≤ t ∧ t < w := by omega); (have htr : t = r := by omega); cbv
  (with_reducible apply uAnd); (focus refine ⟨?_, ?_, ?_, (?_ : (16 : Int) * _ ≤ 140737488355328)⟩ <;> omega)
  (with_reducible intro n y rows hn hy hrows)
  have hn2 : n = y := by omega
  subst hn2
  have hr0 : RI (List.replicate n ⟨0, 0⟩) rows := RI.make hrows
  have hl0 : n = (List.replicate n (⟨0, 0⟩ : Instr)).length := by simp
  have hl1 : n = ((List.replicate n (⟨0, 0⟩ : Instr)).set 0 ⟨6, t⟩).length := by simp
  have hl2 : n = (((List.replicate n (⟨0, 0⟩ : Instr)).set 0 ⟨6, t⟩).set 0 ⟨7, t⟩).length := by simp
  have hl3 : n = ((((List.replicate n (⟨0, 0⟩ : Instr)).set 0 ⟨6, t⟩).set 0 ⟨7, t⟩).set 1 ⟨11, 0⟩).length := by simp
  have hb0 : ∀ l : Nat, n = l → 0 ≤ (0 : Int) ∧ (0 : Int).toNat < max l 1 := by intro l hl; omega
  have hb1 : ∀ l : Nat, n = l → 0 ≤ (1 : Int) ∧ (1 : Int).toNat < max l 1 := by intro l hl; omega
  have ho6 : OkI (n : Int) 6 t := by unfold OkI; omega
  have ho7 : OkI (n : Int) 7 t := by unfold OkI; omega
  have ho11 : OkI (n : Int) 11 0 := by unfold OkI; omega
  have hm1 : May ((List.replicate n (⟨0, 0⟩ : Instr)).set 0 ⟨6, t⟩) := ⟨by rw [← hl1]; omega, by rw [← hl1]; exact allOk_set allOk_zeros ho6⟩
  have hm2 : May (((List.replicate n (⟨0, 0⟩ : Instr)).set 0 ⟨6, t⟩).set 0 ⟨7, t⟩) := ⟨by rw [← hl2]; omega, by rw [← hl2]; exact allOk_set (allOk_set allOk_zeros ho6) ho7⟩
  have hm3 : May ((((List.replicate n (⟨0, 0⟩ : Instr)).set 0 ⟨6, t⟩).set 0 ⟨7, t⟩).set 1 ⟨11, 0⟩) := ⟨by rw [← hl3]; omega, by rw [← hl3]; exact allOk_set (allOk_set (allOk_set allOk_zeros ho6) ho7) ho11⟩
  have hx1 : ((List.replicate n (⟨0, 0⟩ : Instr)).set 0 ⟨6, t⟩)[(0 : Int).toNat]? = some ⟨6, t⟩ := List.getElem?_set_self (by rw [← hl0]; omega)
  have hx2 : (((List.replicate n (⟨0, 0⟩ : Instr)).set 0 ⟨6, t⟩).set 0 ⟨7, t⟩)[(0 : Int).toNat]? = some ⟨7, t⟩ := List.getElem?_set_self (by rw [← hl1]; omega)
  have hx20 : ∀ j, 1 ≤ j → j < n → (((List.replicate n (⟨0, 0⟩ : Instr)).set 0 ⟨6, t⟩).set 0 ⟨7, t⟩)[j]? = some ⟨0, 0⟩ := by
    intro j h1 h2
    rw [List.getElem?_set_ne (by omega), List.getElem?_set_ne (by omega), List.getElem?_replicate, if_pos h2]
  have hx4 : ((((List.replicate n (⟨0, 0⟩ : Instr)).set 0 ⟨6, t⟩).set 0 ⟨7, t⟩).set 1 ⟨11, 0⟩)[(1 : Int).toNat]? = some ⟨11, 0⟩ := List.getElem?_set_self (by rw [← hl2]; show 1 < n; omega)
  have e1 : ∀ l : Nat, n = l → ((0 : Int) + 1) % (l : Int) = 1 := by intro l hl; rw [Int.emod_eq_of_lt (by omega) (by omega)]; rfl
  have e2 : ∀ (c : Int) (l : Nat), c = w - 1 → n = l → (c + 1) % (l : Int) = 0 := by intro c l hc hl; (have e : c + 1 = (l : Int) := by omega); rw [e]; exact Int.emod_self
  clear hr htr
  cbv
  repeat' first
    | with_reducible exact trivial
    | ((with_reducible apply stI0 hr0 (op := 6) (arg := t)); (focus (rw [← hl0]; omega)); (focus rfl); (focus rfl); (focus rfl); (focus rfl); (focus rfl); (with_reducible intro rows1 hr1); cbv)
    | ((with_reducible apply stI1 hr1 (op := 7) (arg := t)); (focus exact hx1); (focus rfl); (focus rfl); (focus rfl); (focus rfl); (with_reducible intro rows2 hr2); cbv)
    | ((with_reducible apply stI1 hr2 (op := 11) (arg := 0)); (focus exact hx20 1 (Nat.le_refl 1) (by omega)); (focus rfl); (focus rfl); (focus rfl); (focus rfl); (with_reducible intro rows3 hr3); cbv)
    | ((with_reducible intro j hj); (have e : j = 0 := (by rw [hj]; rfl)); subst e; cbv)
    | ((with_reducible intro j hj); (have e : j = 1 := (by rw [hj]; rfl)); subst e; cbv)
    | ((with_reducible intro a ha); (replace ha := and8 ha); cbv)
    | ((with_reducible intro b hvb); (replace hvb := and1 hvb); (by_cases hb : b = 0) <;> cbv)
    | ((with_reducible intro kk hv); (rw [wrap_i64] at hv); (have hkk : kk = w - 1 := (by omega)); clear hv; cbv)
    | ((with_reducible intro v hv); (rw [wrap_i64] at hv); cbv)
    | ((with_reducible intro v hv); cbv)
    | ((with_reducible apply rowAt); (focus rfl); cbv)
    | ((with_reducible intro rows e); (have ety : rows = (rows : List (List AV)) := rfl); clear ety; (cbv at e); subst e; cbv)
    | ((with_reducible apply stepGo (p := ((List.replicate n (⟨0, 0⟩ : Instr)).set 0 ⟨6, t⟩)) (gs := []) (pc := 0) (acc := a) (x0 := 0) (x1 := 0) (x2 := 0) (x3 := 0) (x4 := 0) (x5 := 0) (x6 := 0) (x7 := 0) (x8 := 0) (x9 := 0) (x10 := 0) (x11 := 0) (x12 := 0) (x13 := 0) (x14 := 0) (x15 := 0) (inn := 0) (outs := 0) 6 t ⟨t, a, [0, 0, 0, 0, 0, 0, 0, 0, 0, 0, 0, 0, 0, 0, 0, 0], false, (-1), (-1), 0, false⟩ (v' := .tuple [.agg [.sym (.int .i64 t), .sym (.int .i64 a), .int .i64 0, .int .i64 0, .int .i64 0, .int .i64 0, .int .i64 0, .int .i64 0, .int .i64 0, .int .i64 0, .int .i64 0, .int .i64 0, .int .i64 0, .int .i64 0, .int .i64 0, .int .i64 0, .int .i64 0, .int .i64 0], .agg [.bool false, .int .i64 (-1), .int .i64 (-1), .int .i64 0, .bool false], .int .i64 0])); (focus exact (RI.sl hr1 rfl rfl hl1 (by omega))); (focus exact Sl.nil rfl rfl); (focus rfl); (focus rfl); (focus rfl); (focus exact ⟨hm1, hb0 _ hl1, by unfold Wd; omega, hwd, ar0⟩); (focus exact hx1); (focus exact dd6); (focus rfl); cbv)
    | ((with_reducible apply stepGo (p := (((List.replicate n (⟨0, 0⟩ : Instr)).set 0 ⟨6, t⟩).set 0 ⟨7, t⟩)) (gs := []) (pc := 0) (acc := b) (x0 := 0) (x1 := 0) (x2 := 0) (x3 := 0) (x4 := 0) (x5 := 0) (x6 := 0) (x7 := 0) (x8 := 0) (x9 := 0) (x10 := 0) (x11 := 0) (x12 := 0) (x13 := 0) (x14 := 0) (x15 := 0) (inn := 0) (outs := 0) 7 t ⟨t, b, [0, 0, 0, 0, 0, 0, 0, 0, 0, 0, 0, 0, 0, 0, 0, 0], false, (-1), (-1), 0, false⟩ (v' := .tuple [.agg [.sym (.int .i64 t), .sym (.int .i64 b), .int .i64 0, .int .i64 0, .int .i64 0, .int .i64 0, .int .i64 0, .int .i64 0, .int .i64 0, .int .i64 0, .int .i64 0, .int .i64 0, .int .i64 0, .int .i64 0, .int .i64 0, .int .i64 0, .int .i64 0, .int .i64 0], .agg [.bool false, .int .i64 (-1), .int .i64 (-1), .int .i64 0, .bool false], .int .i64 0])); (focus exact (RI.sl hr2 rfl rfl hl2 (by omega))); (focus exact Sl.nil rfl rfl); (focus rfl); (focus rfl); (focus rfl); (focus exact ⟨hm2, hb0 _ hl2, by unfold Wd; omega, hwd, ar0⟩); (focus exact hx2); (focus exact dd7a hb); (focus rfl); cbv)
    | ((with_reducible apply stepGo (p := (((List.replicate n (⟨0, 0⟩ : Instr)).set 0 ⟨6, t⟩).set 0 ⟨7, t⟩)) (gs := []) (pc := 0) (acc := b) (x0 := 0) (x1 := 0) (x2 := 0) (x3 := 0) (x4 := 0) (x5 := 0) (x6 := 0) (x7 := 0) (x8 := 0) (x9 := 0) (x10 := 0) (x11 := 0) (x12 := 0) (x13 := 0) (x14 := 0) (x15 := 0) (inn := 0) (outs := 0) 7 t ⟨1, b, [0, 0, 0, 0, 0, 0, 0, 0, 0, 0, 0, 0, 0, 0, 0, 0], false, (-1), (-1), 0, false⟩ (v' := .tuple [.agg [.int .i64 1, .sym (.int .i64 b), .int .i64 0, .int .i64 0, .int .i64 0, .int .i64 0, .int .i64 0, .int .i64 0, .int .i64 0, .int .i64 0, .int .i64 0, .int .i64 0, .int .i64 0, .int .i64 0, .int .i64 0, .int .i64 0, .int .i64 0, .int .i64 0], .agg [.bool false, .int .i64 (-1), .int .i64 (-1), .int .i64 0, .bool false], .int .i64 0])); (focus exact (RI.sl hr2 rfl rfl hl2 (by omega))); (focus exact Sl.nil rfl rfl); (focus rfl); (focus rfl); (focus rfl); (focus exact ⟨hm2, hb0 _ hl2, by unfold Wd; omega, hwd, ar0⟩); (focus exact hx2); (focus exact (dd7b hb).trans (by rw [e1 _ hl2])); (focus rfl); cbv)
    | ((with_reducible apply stepGo (p := (((List.replicate n (⟨0, 0⟩ : Instr)).set 0 ⟨6, t⟩).set 0 ⟨7, t⟩)) (gs := []) (pc := kk) (acc := 3) (x0 := 0) (x1 := 0) (x2 := 0) (x3 := 0) (x4 := 0) (x5 := 0) (x6 := 0) (x7 := 0) (x8 := 0) (x9 := 0) (x10 := 0) (x11 := 0) (x12 := 0) (x13 := 0) (x14 := 0) (x15 := 0) (inn := 0) (outs := 0) 0 0 ⟨0, 3, [0, 0, 0, 0, 0, 0, 0, 0, 0, 0, 0, 0, 0, 0, 0, 0], false, (-1), (-1), 0, false⟩ (v' := .tuple [.agg [.int .i64 0, .int .i64 3, .int .i64 0, .int .i64 0, .int .i64 0, .int .i64 0, .int .i64 0, .int .i64 0, .int .i64 0, .int .i64 0, .int .i64 0, .int .i64 0, .int .i64 0, .int .i64 0, .int .i64 0, .int .i64 0, .int .i64 0, .int .i64 0], .agg [.bool false, .int .i64 (-1), .int .i64 (-1), .int .i64 0, .bool false], .int .i64 0])); (focus exact (RI.sl hr2 rfl rfl hl2 (by omega))); (focus exact Sl.nil rfl rfl); (focus rfl); (focus rfl); (focus rfl); (focus exact ⟨hm2, ⟨by omega, by rw [← hl2]; omega⟩, by unfold Wd; omega, hwd, ar0⟩); (focus exact hx20 _ (by omega) (by omega)); (focus exact dd0.trans (by rw [e2 kk _ hkk hl2])); (focus rfl); cbv)
    | ((with_reducible apply stepGo (p := ((((List.replicate n (⟨0, 0⟩ : Instr)).set 0 ⟨6, t⟩).set 0 ⟨7, t⟩).set 1 ⟨11, 0⟩)) (gs := []) (pc := 1) (acc := 4) (x0 := 0) (x1 := 0) (x2 := 0) (x3 := 0) (x4 := 0) (x5 := 0) (x6 := 0) (x7 := 0) (x8 := 0) (x9 := 0) (x10 := 0) (x11 := 0) (x12 := 0) (x13 := 0) (x14 := 0) (x15 := 0) (inn := 0) (outs := 0) 11 0 ⟨0, 4, [0, 0, 0, 0, 0, 0, 0, 0, 0, 0, 0, 0, 0, 0, 0, 0], false, (-1), (-1), 0, false⟩ (v' := .tuple [.agg [.int .i64 0, .int .i64 4, .int .i64 0, .int .i64 0, .int .i64 0, .int .i64 0, .int .i64 0, .int .i64 0, .int .i64 0, .int .i64 0, .int .i64 0, .int .i64 0, .int .i64 0, .int .i64 0, .int .i64 0, .int .i64 0, .int .i64 0, .int .i64 0], .agg [.bool false, .int .i64 (-1), .int .i64 (-1), .int .i64 0, .bool false], .int .i64 0])); (focus exact (RI.sl hr3 rfl rfl hl3 (by omega))); (focus exact Sl.nil rfl rfl); (focus rfl); (focus rfl); (focus rfl); (focus exact ⟨hm3, hb1 _ hl3, by unfold Wd; omega, hwd, ar0⟩); (focus exact hx4); (focus exact dd11); (focus rfl); cbv)
    | ((with_reducible apply uAnd); (focus first | kernel_rfl | omega | (simp only [List.length_cons, List.length_nil]; omega)); try cbv)
    | ((with_reducible apply And.intro) <;> (with_reducible intro h) <;> first | ((with_reducible exfalso); omega) | cbv)
    | ((with_reducible apply CallT.enter X Try.func14 (by decide)); cbv)
end Go.Proofs.Ytdaccjfijfnlfaa.Stp

