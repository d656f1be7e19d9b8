/- The reference's step: what may be. The reference's step: may it be? The reference's step: what it answers. The reference's step: what it answers. The reference's step at any place, of any program and numbers. What a step answers, in one form. -/
import Derived.Test.YtdaccjfijfnlfaaStpG
namespace Go.Proofs.Ytdaccjfijfnlfaa.Stp
open Go.Ab Base Cod Kit
set_option linter.unusedVariables false
set_option linter.unusedSimpArgs false

theorem word2C (x : Int) (m : Mem) (n : Nat) : CallS Try.prog 33 [.sym (.int .i64 x)] m n fun v m' n' => (∃ r, (r = true ↔ Wd x) ∧ v = .bool r) ∧ m' = m ∧ n' = n := by
  obtain ⟨R, hR⟩ : ∃ R : Prop, R = Wd x := ⟨_, rfl⟩
  rw [← hR]
  refine CallS.at0 X Try.func33 (by decide) rfl (d := 2) (R0 := fun v => ∃ r, (r = true ↔ R) ∧ v = .bool r) ?_ m n
  cbv
  repeat' first
    | ((with_reducible apply And.intro) <;> (with_reducible intro h) <;> cbv)
  all_goals
    refine ⟨_, ?_, rfl⟩
    rw [hR]
    unfold Wd
    simp only [reduceCtorEq, true_iff, false_iff]
    omega

set_option maxRecDepth 200000 in
set_option maxHeartbeats 8000000 in
theorem vmMay2C (pc acc x0 x1 x2 x3 x4 x5 x6 x7 x8 x9 x10 x11 x12 x13 x14 x15 many : Int) :
    CallS Try.prog 35 [.agg (vmr pc acc x0 x1 x2 x3 x4 x5 x6 x7 x8 x9 x10 x11 x12 x13 x14 x15), i6 many] (memB [] []) 0 fun v _ _ => v.flat = true ∧ ∃ r, (r = true ↔ Wd acc ∧ (0 ≤ pc ∧ (pc < many ∨ pc = 0)) ∧ MemOk x0 x1 x2 x3 x4 x5 x6 x7 x8 x9 x10 x11 x12 x13 x14 x15) ∧ v = .bool r := by
  obtain ⟨R, hR⟩ : ∃ R : Prop, R = (Wd acc ∧ (0 ≤ pc ∧ (pc < many ∨ pc = 0)) ∧ MemOk x0 x1 x2 x3 x4 x5 x6 x7 x8 x9 x10 x11 x12 x13 x14 x15) := ⟨_, rfl⟩
  rw [← hR]
  refine CallS.enter X Try.func35 (by decide) ?_
  cbv
  repeat' first
    | with_reducible exact trivial
    | ((with_reducible intro v hv); (try rw [wrap_i64] at hv); cbv)
    | ((with_reducible apply uAnd); (focus first | kernel_rfl | omega); try cbv)
    | ((with_reducible apply And.intro) <;> (with_reducible intro h) <;> first | ((with_reducible exfalso); omega) | cbv)
    | ((with_reducible apply CallT.pureB (word2C _ _ _)) <;> (with_reducible intro h) <;> (unfold Wd at h) <;> cbv)
    | ((with_reducible apply LoopT.one X); cbv)
  all_goals
    refine ⟨_, ?_, rfl⟩
    rw [hR]
    unfold MemOk Wd
    simp only [reduceCtorEq, true_iff, false_iff]
    omega

theorem vmMay2T {pc acc x0 x1 x2 x3 x4 x5 x6 x7 x8 x9 x10 x11 x12 x13 x14 x15 many : Int} {A B : AV} {m : Mem} {c : Nat} {K : AV → Mem → Nat → Prop} (hA : norm A = norm (.agg (vmr pc acc x0 x1 x2 x3 x4 x5 x6 x7 x8 x9 x10 x11 x12 x13 x14 x15))) (hB : norm B = .int .i64 many)
    (h1 : Wd acc ∧ (0 ≤ pc ∧ (pc < many ∨ pc = 0)) ∧ MemOk x0 x1 x2 x3 x4 x5 x6 x7 x8 x9 x10 x11 x12 x13 x14 x15 → K (.bool true) m c) (h2 : ¬ (Wd acc ∧ (0 ≤ pc ∧ (pc < many ∨ pc = 0)) ∧ MemOk x0 x1 x2 x3 x4 x5 x6 x7 x8 x9 x10 x11 x12 x13 x14 x15) → K (.bool false) m c) : CallT (fun _ => Try.prog) 35 [A, B] m c K :=
  CallT.pureB (A := Wd acc ∧ (0 ≤ pc ∧ (pc < many ∨ pc = 0)) ∧ MemOk x0 x1 x2 x3 x4 x5 x6 x7 x8 x9 x10 x11 x12 x13 x14 x15) (CallS.view (R0 := fun v => ∃ r, (r = true ↔ Wd acc ∧ (0 ≤ pc ∧ (pc < many ∨ pc = 0)) ∧ MemOk x0 x1 x2 x3 x4 x5 x6 x7 x8 x9 x10 x11 x12 x13 x14 x15) ∧ v = .bool r) [] (vs0 := [.agg (vmr pc acc x0 x1 x2 x3 x4 x5 x6 x7 x8 x9 x10 x11 x12 x13 x14 x15), i6 many]) (bs := []) (Nat.le_refl 0) ⟨ArgV.flat rfl hA, ArgV.flat rfl hB, trivial⟩ (fun i b hb => by simp at hb) (vmMay2C pc acc x0 x1 x2 x3 x4 x5 x6 x7 x8 x9 x10 x11 x12 x13 x14 x15 many)) h1 h2
end Go.Proofs.Ytdaccjfijfnlfaa.Stp

namespace Go.Proofs.Ytdaccjfijfnlfaa.Stp
open Go.Ab Base Cod Kit
set_option linter.unusedVariables false
set_option linter.unusedSimpArgs false

set_option maxRecDepth 200000 in
set_option maxHeartbeats 8000000 in
theorem stepMay2C (p : List Instr) (rowsP : List (List AV)) (np capP : Nat) (opnP : Bool) (hP : Hat tu p rowsP np) (gs : List Int) (rowsG : List (List AV)) (ng capG : Nat) (opnG : Bool) (hG : Hat iv gs rowsG ng) (pc acc x0 x1 x2 x3 x4 x5 x6 x7 x8 x9 x10 x11 x12 x13 x14 x15 inn outs : Int) :
    CallS Try.prog 26 [.sym (.slice 0 2 0 np capP opnP none), .agg (vmr pc acc x0 x1 x2 x3 x4 x5 x6 x7 x8 x9 x10 x11 x12 x13 x14 x15), i6 inn, i6 outs, .sym (.slice 1 1 0 ng capG opnG none)] (memB [some (.cells false 2 rowsP), some (.cells false 1 rowsG)] []) 2 fun v _ _ => v.flat = true ∧ ∃ r, (r = true ↔ May p ∧ ((0 ≤ pc ∧ pc.toNat < max np 1) ∧ Wd acc ∧ MemOk x0 x1 x2 x3 x4 x5 x6 x7 x8 x9 x10 x11 x12 x13 x14 x15) ∧ AroundOk inn outs gs) ∧ v = .bool r := by
  obtain ⟨R, hR⟩ : ∃ R : Prop, R = (May p ∧ ((0 ≤ pc ∧ pc.toNat < max np 1) ∧ Wd acc ∧ MemOk x0 x1 x2 x3 x4 x5 x6 x7 x8 x9 x10 x11 x12 x13 x14 x15) ∧ AroundOk inn outs gs) := ⟨_, rfl⟩
  rw [← hR]
  obtain ⟨hng, hzg, hfg, hrg⟩ := id hG
  obtain ⟨hnp, hzp, hfp, hrp⟩ := id hP
  refine CallS.enter X Try.func26 (by decide) ?_
  cbv
  repeat' first
      | with_reducible exact trivial
      | ((with_reducible intro v hv); (try rw [wrap_i64] at hv); cbv)
      | ((with_reducible apply uAnd); (focus first | kernel_rfl | omega); try cbv)
      | ((with_reducible apply And.intro) <;> (with_reducible intro h) <;> first | ((with_reducible exfalso); omega) | cbv)
  refine LoopT.hide fun K0 hK => ?_
  with_reducible
   refine LoopT.invR X (α := Int) 56 [] (fun s => oI (s.at 11)) (fun s => [2])
    (fun a => [some (.sym (.slice 0 2 0 np capP opnP none)), none, some (.sym (.int .i64 inn)), some (.sym (.int .i64 outs)), some (.sym (.slice 1 1 0 ng capG opnG none)), none, some (.ptr 2 18 0 0), none, none, none, none, some (.sym (.int .i64 a))])
    (fun a => [some (.cells false 2 rowsP), some (.cells false 1 rowsG), some (.cells true 18 [vmr pc acc x0 x1 x2 x3 x4 x5 x6 x7 x8 x9 x10 x11 x12 x13 x14 x15])])
    (fun a => 0 ≤ a ∧ a.toNat ≤ ng ∧ ∀ g ∈ gs.take a.toNat, g = -1 ∨ Wd g) (fun a => ng - a.toNat) ?_ ?_
  · cbv
    refine And.intro (HoldAt.mk ?_) (Head.mk ?_ ?_ ?_ ?_ ?_ ?_)
    · exact ⟨by decide, by simp, fun g hg => by simp at hg⟩
    all_goals cbv
    exact ⟨BlkLe.flat (fun h => h) hfp, BlkLe.flat (fun h => h) hfg, BlkLe.cells (fun h => h) (RowsLe.cons rfl RowsLe.nil), trivial⟩
  · rintro j ⟨j1, j2, j3⟩
    cbv
    repeat' first
      | with_reducible exact trivial
      | ((with_reducible apply hK); cbv)
      | ((with_reducible apply refMayT (p := p)); (focus exact Hat.tv hP rfl rfl); all_goals first
        | ((with_reducible intro hmay); cbv))
      | ((with_reducible apply vmMay2T (pc := pc) (acc := acc) (x0 := x0) (x1 := x1) (x2 := x2) (x3 := x3) (x4 := x4) (x5 := x5) (x6 := x6) (x7 := x7) (x8 := x8) (x9 := x9) (x10 := x10) (x11 := x11) (x12 := x12) (x13 := x13) (x14 := x14) (x15 := x15)); (focus rfl); (focus rfl); all_goals first
        | ((with_reducible intro hvm); cbv))
      | ((with_reducible apply CallT.pureB (word2C _ _ _)) <;> (with_reducible intro hwd) <;> cbv)
      | ((with_reducible apply ldAt hrx); (focus omega); cbv)
      | ((with_reducible apply ld hrg); (focus omega); (with_reducible intro x hx); (rw [show v = j.toNat by omega] at hx); (have hrx : rowsG[j.toNat]? = some [.sym (.int .i64 x)] := hrg _ _ hx); cbv)
      | ((with_reducible intro v hv); (try rw [wrap_i64] at hv); cbv)
      | ((with_reducible apply uAnd); (focus first | kernel_rfl | omega); try cbv)
      | ((with_reducible apply And.intro) <;> (with_reducible intro h) <;> first | ((with_reducible exfalso); omega) | cbv)
    all_goals first
      | (refine And.intro (And.intro (HoldAt.mk ?_) True.intro) (Head.mk ?_ ?_ ?_ ?_ ?_ ?_)
         · have e4 : v.toNat = j.toNat + 1 := by omega
           refine ⟨⟨by omega, by omega, ?_⟩, by omega⟩
           rw [e4, take_succ_at hx]
           intro g hg
           rcases List.mem_append.1 hg with hg | hg
           · exact j3 g hg
           · rw [List.mem_singleton.1 hg]
             first
               | exact .inl h
               | exact .inr hwd
         all_goals cbv
         exact ⟨BlkLe.flat (fun h => h) hfp, BlkLe.flat (fun h => h) hfg, BlkLe.cells (fun h => h) (RowsLe.cons rfl RowsLe.nil), trivial⟩)
      | skip
    all_goals
      refine ⟨_, ?_, rfl⟩
      rw [hR]
      simp only [reduceCtorEq, true_iff, false_iff]
      first
        | (refine ⟨hmay, ⟨?_, hvm.1, hvm.2.2⟩, hwd, ⟨by omega, by omega⟩, ⟨by omega, by rwa [List.take_of_length_le (by omega)] at j3⟩⟩
           have := hvm.2.1
           omega)
        | (rintro ⟨h1, ⟨h3, h2, h4⟩, h5, h6, h7, h8⟩
           first
             | exact hmay h1
             | (refine hvm ⟨h2, ?_, h4⟩; clear hR; omega)
             | exact hwd h5
             | omega
             | (rcases h8 x (List.mem_of_getElem? hx) with h9 | h9 <;> contradiction))


set_option maxRecDepth 200000 in
set_option maxHeartbeats 8000000 in
theorem stepMay2N (p : List Instr) (rowsP : List (List AV)) (np capP : Nat) (opnP : Bool) (hP : Hat tu p rowsP np) (pc acc x0 x1 x2 x3 x4 x5 x6 x7 x8 x9 x10 x11 x12 x13 x14 x15 inn outs : Int) :
    CallS Try.prog 26 [.sym (.slice 0 2 0 np capP opnP none), .agg (vmr pc acc x0 x1 x2 x3 x4 x5 x6 x7 x8 x9 x10 x11 x12 x13 x14 x15), i6 inn, i6 outs, .nilslice] (memB [some (.cells false 2 rowsP)] []) 1 fun v _ _ => v.flat = true ∧ ∃ r, (r = true ↔ May p ∧ ((0 ≤ pc ∧ pc.toNat < max np 1) ∧ Wd acc ∧ MemOk x0 x1 x2 x3 x4 x5 x6 x7 x8 x9 x10 x11 x12 x13 x14 x15) ∧ AroundOk inn outs []) ∧ v = .bool r := by
  obtain ⟨R, hR⟩ : ∃ R : Prop, R = (May p ∧ ((0 ≤ pc ∧ pc.toNat < max np 1) ∧ Wd acc ∧ MemOk x0 x1 x2 x3 x4 x5 x6 x7 x8 x9 x10 x11 x12 x13 x14 x15) ∧ AroundOk inn outs []) := ⟨_, rfl⟩
  rw [← hR]
  obtain ⟨hnp, hzp, hfp, hrp⟩ := id hP
  refine CallS.enter X Try.func26 (by decide) ?_
  cbv
  repeat' first
      | with_reducible exact trivial
      | ((with_reducible apply refMayT (p := p)); (focus exact Hat.tv hP rfl rfl); all_goals first
        | ((with_reducible intro hmay); cbv))
      | ((with_reducible apply vmMay2T (pc := pc) (acc := acc) (x0 := x0) (x1 := x1) (x2 := x2) (x3 := x3) (x4 := x4) (x5 := x5) (x6 := x6) (x7 := x7) (x8 := x8) (x9 := x9) (x10 := x10) (x11 := x11) (x12 := x12) (x13 := x13) (x14 := x14) (x15 := x15)); (focus rfl); (focus rfl); all_goals first
        | ((with_reducible intro hvm); cbv))
      | ((with_reducible apply CallT.pureB (word2C _ _ _)) <;> (with_reducible intro hwd) <;> cbv)
      | ((with_reducible intro v hv); (try rw [wrap_i64] at hv); cbv)
      | ((with_reducible apply uAnd); (focus first | kernel_rfl | omega); try cbv)
      | ((with_reducible apply And.intro) <;> (with_reducible intro h) <;> first | ((with_reducible exfalso); omega) | cbv)
      | ((with_reducible apply LoopT.one X); cbv)
  all_goals
    refine ⟨_, ?_, rfl⟩
    rw [hR]
    simp only [reduceCtorEq, true_iff, false_iff]
    first
      | (refine ⟨hmay, ⟨?_, hvm.1, hvm.2.2⟩, hwd, ⟨by omega, by omega⟩, ⟨by decide, fun g hg => by cases hg⟩⟩
         have := hvm.2.1
         omega)
      | (rintro ⟨h1, ⟨h3, h2, h4⟩, h5, h6, h7, h8⟩
         first
           | exact hmay h1
           | (refine hvm ⟨h2, ?_, h4⟩; clear hR; omega)
           | exact hwd h5
           | omega
           | (rcases h8 x (List.mem_of_getElem? hx) with h9 | h9 <;> contradiction))


set_option maxRecDepth 200000 in
set_option maxHeartbeats 8000000 in
theorem stepMay2Z1 (gs : List Int) (rowsG : List (List AV)) (ng capG : Nat) (opnG : Bool) (hG : Hat iv gs rowsG ng) (pc acc x0 x1 x2 x3 x4 x5 x6 x7 x8 x9 x10 x11 x12 x13 x14 x15 inn outs : Int) :
    CallS Try.prog 26 [.nilslice, .agg (vmr pc acc x0 x1 x2 x3 x4 x5 x6 x7 x8 x9 x10 x11 x12 x13 x14 x15), i6 inn, i6 outs, .sym (.slice 0 1 0 ng capG opnG none)] (memB [some (.cells false 1 rowsG)] []) 1 fun v _ _ => v.flat = true ∧ ∃ r, (r = true ↔ May [] ∧ ((0 ≤ pc ∧ pc.toNat < max 0 1) ∧ Wd acc ∧ MemOk x0 x1 x2 x3 x4 x5 x6 x7 x8 x9 x10 x11 x12 x13 x14 x15) ∧ AroundOk inn outs gs) ∧ v = .bool r := by
  obtain ⟨R, hR⟩ : ∃ R : Prop, R = (May [] ∧ ((0 ≤ pc ∧ pc.toNat < max 0 1) ∧ Wd acc ∧ MemOk x0 x1 x2 x3 x4 x5 x6 x7 x8 x9 x10 x11 x12 x13 x14 x15) ∧ AroundOk inn outs gs) := ⟨_, rfl⟩
  rw [← hR]
  obtain ⟨hng, hzg, hfg, hrg⟩ := id hG
  refine CallS.enter X Try.func26 (by decide) ?_
  cbv
  repeat' first
      | with_reducible exact trivial
      | ((with_reducible intro v hv); (try rw [wrap_i64] at hv); cbv)
      | ((with_reducible apply uAnd); (focus first | kernel_rfl | omega); try cbv)
      | ((with_reducible apply And.intro) <;> (with_reducible intro h) <;> first | ((with_reducible exfalso); omega) | cbv)
  refine LoopT.hide fun K0 hK => ?_
  with_reducible
   refine LoopT.invR X (α := Int) 56 [] (fun s => oI (s.at 11)) (fun s => [1])
    (fun a => [some (.nilslice), none, some (.sym (.int .i64 inn)), some (.sym (.int .i64 outs)), some (.sym (.slice 0 1 0 ng capG opnG none)), none, some (.ptr 1 18 0 0), none, none, none, none, some (.sym (.int .i64 a))])
    (fun a => [some (.cells false 1 rowsG), some (.cells true 18 [vmr pc acc x0 x1 x2 x3 x4 x5 x6 x7 x8 x9 x10 x11 x12 x13 x14 x15])])
    (fun a => 0 ≤ a ∧ a.toNat ≤ ng ∧ ∀ g ∈ gs.take a.toNat, g = -1 ∨ Wd g) (fun a => ng - a.toNat) ?_ ?_
  · cbv
    refine And.intro (HoldAt.mk ?_) (Head.mk ?_ ?_ ?_ ?_ ?_ ?_)
    · exact ⟨by decide, by simp, fun g hg => by simp at hg⟩
    all_goals cbv
    exact ⟨BlkLe.flat (fun h => h) hfg, BlkLe.cells (fun h => h) (RowsLe.cons rfl RowsLe.nil), trivial⟩
  · rintro j ⟨j1, j2, j3⟩
    cbv
    repeat' first
      | with_reducible exact trivial
      | ((with_reducible apply hK); cbv)
      | ((with_reducible apply refMayT (p := [])); (focus exact Sl.nil rfl rfl); all_goals first
        | ((with_reducible intro hmay); cbv))
      | ((with_reducible apply vmMay2T (pc := pc) (acc := acc) (x0 := x0) (x1 := x1) (x2 := x2) (x3 := x3) (x4 := x4) (x5 := x5) (x6 := x6) (x7 := x7) (x8 := x8) (x9 := x9) (x10 := x10) (x11 := x11) (x12 := x12) (x13 := x13) (x14 := x14) (x15 := x15)); (focus rfl); (focus rfl); all_goals first
        | ((with_reducible intro hvm); cbv))
      | ((with_reducible apply CallT.pureB (word2C _ _ _)) <;> (with_reducible intro hwd) <;> cbv)
      | ((with_reducible apply ldAt hrx); (focus omega); cbv)
      | ((with_reducible apply ld hrg); (focus omega); (with_reducible intro x hx); (rw [show v = j.toNat by omega] at hx); (have hrx : rowsG[j.toNat]? = some [.sym (.int .i64 x)] := hrg _ _ hx); cbv)
      | ((with_reducible intro v hv); (try rw [wrap_i64] at hv); cbv)
      | ((with_reducible apply uAnd); (focus first | kernel_rfl | omega); try cbv)
      | ((with_reducible apply And.intro) <;> (with_reducible intro h) <;> first | ((with_reducible exfalso); omega) | cbv)
    all_goals first
      | (refine And.intro (And.intro (HoldAt.mk ?_) True.intro) (Head.mk ?_ ?_ ?_ ?_ ?_ ?_)
         · have e4 : v.toNat = j.toNat + 1 := by omega
           refine ⟨⟨by omega, by omega, ?_⟩, by omega⟩
           rw [e4, take_succ_at hx]
           intro g hg
           rcases List.mem_append.1 hg with hg | hg
           · exact j3 g hg
           · rw [List.mem_singleton.1 hg]
             first
               | exact .inl h
               | exact .inr hwd
         all_goals cbv
         exact ⟨BlkLe.flat (fun h => h) hfg, BlkLe.cells (fun h => h) (RowsLe.cons rfl RowsLe.nil), trivial⟩)
      | skip
    all_goals
      refine ⟨_, ?_, rfl⟩
      rw [hR]
      simp only [reduceCtorEq, true_iff, false_iff]
      first
        | (refine ⟨hmay, ⟨?_, hvm.1, hvm.2.2⟩, hwd, ⟨by omega, by omega⟩, ⟨by omega, by rwa [List.take_of_length_le (by omega)] at j3⟩⟩
           have := hvm.2.1
           omega)
        | (rintro ⟨h1, ⟨h3, h2, h4⟩, h5, h6, h7, h8⟩
           first
             | exact hmay h1
             | (refine hvm ⟨h2, ?_, h4⟩; clear hR; omega)
             | exact hwd h5
             | omega
             | (rcases h8 x (List.mem_of_getElem? hx) with h9 | h9 <;> contradiction))


set_option maxRecDepth 200000 in
set_option maxHeartbeats 8000000 in
theorem stepMay2Z0 (pc acc x0 x1 x2 x3 x4 x5 x6 x7 x8 x9 x10 x11 x12 x13 x14 x15 inn outs : Int) :
    CallS Try.prog 26 [.nilslice, .agg (vmr pc acc x0 x1 x2 x3 x4 x5 x6 x7 x8 x9 x10 x11 x12 x13 x14 x15), i6 inn, i6 outs, .nilslice] (memB [] []) 0 fun v _ _ => v.flat = true ∧ ∃ r, (r = true ↔ May [] ∧ ((0 ≤ pc ∧ pc.toNat < max 0 1) ∧ Wd acc ∧ MemOk x0 x1 x2 x3 x4 x5 x6 x7 x8 x9 x10 x11 x12 x13 x14 x15) ∧ AroundOk inn outs []) ∧ v = .bool r := by
  obtain ⟨R, hR⟩ : ∃ R : Prop, R = (May [] ∧ ((0 ≤ pc ∧ pc.toNat < max 0 1) ∧ Wd acc ∧ MemOk x0 x1 x2 x3 x4 x5 x6 x7 x8 x9 x10 x11 x12 x13 x14 x15) ∧ AroundOk inn outs []) := ⟨_, rfl⟩
  rw [← hR]
  refine CallS.enter X Try.func26 (by decide) ?_
  cbv
  repeat' first
      | with_reducible exact trivial
      | ((with_reducible apply refMayT (p := [])); (focus exact Sl.nil rfl rfl); all_goals first
        | ((with_reducible intro hmay); cbv))
      | ((with_reducible apply vmMay2T (pc := pc) (acc := acc) (x0 := x0) (x1 := x1) (x2 := x2) (x3 := x3) (x4 := x4) (x5 := x5) (x6 := x6) (x7 := x7) (x8 := x8) (x9 := x9) (x10 := x10) (x11 := x11) (x12 := x12) (x13 := x13) (x14 := x14) (x15 := x15)); (focus rfl); (focus rfl); all_goals first
        | ((with_reducible intro hvm); cbv))
      | ((with_reducible apply CallT.pureB (word2C _ _ _)) <;> (with_reducible intro hwd) <;> cbv)
      | ((with_reducible intro v hv); (try rw [wrap_i64] at hv); cbv)
      | ((with_reducible apply uAnd); (focus first | kernel_rfl | omega); try cbv)
      | ((with_reducible apply And.intro) <;> (with_reducible intro h) <;> first | ((with_reducible exfalso); omega) | cbv)
      | ((with_reducible apply LoopT.one X); cbv)
  all_goals
    refine ⟨_, ?_, rfl⟩
    rw [hR]
    simp only [reduceCtorEq, true_iff, false_iff]
    first
      | (refine ⟨hmay, ⟨?_, hvm.1, hvm.2.2⟩, hwd, ⟨by omega, by omega⟩, ⟨by decide, fun g hg => by cases hg⟩⟩
         have := hvm.2.1
         omega)
      | (rintro ⟨h1, ⟨h3, h2, h4⟩, h5, h6, h7, h8⟩
         first
           | exact hmay h1
           | (refine hvm ⟨h2, ?_, h4⟩; clear hR; omega)
           | exact hwd h5
           | omega
           | (rcases h8 x (List.mem_of_getElem? hx) with h9 | h9 <;> contradiction))


/-- The reference's question, wherever its program and its numbers lie. -/
theorem stepMay2T {p : List Instr} {gs : List Int} {pc acc x0 x1 x2 x3 x4 x5 x6 x7 x8 x9 x10 x11 x12 x13 x14 x15 inn outs : Int} {A V I O G : AV} {m : Mem} {c : Nat} {K : AV → Mem → Nat → Prop} (hA : Sl tu 2 m A p) (hG : Sl iv 1 m G gs) (hV : norm V = norm (.agg (vmr pc acc x0 x1 x2 x3 x4 x5 x6 x7 x8 x9 x10 x11 x12 x13 x14 x15))) (hI : norm I = .int .i64 inn) (hO : norm O = .int .i64 outs)
    (h1 : StepOk p pc acc [x0, x1, x2, x3, x4, x5, x6, x7, x8, x9, x10, x11, x12, x13, x14, x15] inn outs gs → K (.bool true) m c) (h2 : ¬ StepOk p pc acc [x0, x1, x2, x3, x4, x5, x6, x7, x8, x9, x10, x11, x12, x13, x14, x15] inn outs gs → K (.bool false) m c) : CallT (fun _ => Try.prog) 26 [A, V, I, O, G] m c K := by
  refine CallT.sl2 (R0 := fun v => ∃ r, (r = true ↔ StepOk p pc acc [x0, x1, x2, x3, x4, x5, x6, x7, x8, x9, x10, x11, x12, x13, x14, x15] inn outs gs) ∧ v = .bool r) (fun a b => [a, .agg (vmr pc acc x0 x1 x2 x3 x4 x5 x6 x7 x8 x9 x10 x11 x12 x13 x14 x15), i6 inn, i6 outs, b]) hA hG (fun _ => rfl) (fun _ => rfl) (fun l A' B' a b => ⟨a, ArgV.flat rfl hV, ArgV.flat rfl hI, ArgV.flat rfl hO, b, trivial⟩) ?_ ?_ ?_ ?_ ?_
  · intro hp hg
    subst hp
    subst hg
    refine (stepMay2Z0 pc acc x0 x1 x2 x3 x4 x5 x6 x7 x8 x9 x10 x11 x12 x13 x14 x15 inn outs).mono ?_
    rintro v m' c' ⟨h, r, hr, rfl⟩
    exact ⟨rfl, r, hr.trans (stepOk_iff rfl).symm, rfl⟩
  · intro hg rows n cap opn hP
    subst hg
    refine (stepMay2N p rows n cap opn hP pc acc x0 x1 x2 x3 x4 x5 x6 x7 x8 x9 x10 x11 x12 x13 x14 x15 inn outs).mono ?_
    rintro v m' c' ⟨h, r, hr, rfl⟩
    exact ⟨rfl, r, hr.trans (stepOk_iff hP.1).symm, rfl⟩
  · intro hp rows n cap opn hG
    subst hp
    refine (stepMay2Z1 gs rows n cap opn hG pc acc x0 x1 x2 x3 x4 x5 x6 x7 x8 x9 x10 x11 x12 x13 x14 x15 inn outs).mono ?_
    rintro v m' c' ⟨h, r, hr, rfl⟩
    exact ⟨rfl, r, hr.trans (stepOk_iff rfl).symm, rfl⟩
  · intro rowsA na capa opna rowsB nb capb opnb hP hG
    refine (stepMay2C p rowsA na capa opna hP gs rowsB nb capb opnb hG pc acc x0 x1 x2 x3 x4 x5 x6 x7 x8 x9 x10 x11 x12 x13 x14 x15 inn outs).mono ?_
    rintro v m' c' ⟨h, r, hr, rfl⟩
    exact ⟨rfl, r, hr.trans (stepOk_iff hP.1).symm, rfl⟩
  · rintro v ⟨r, hr, rfl⟩
    refine ⟨.bool r, rfl, ?_⟩
    cases r with
    | true => exact h1 (hr.1 rfl)
    | false => exact h2 fun e => by have := hr.2 e; cases this
end Go.Proofs.Ytdaccjfijfnlfaa.Stp

namespace Go.Proofs.Ytdaccjfijfnlfaa.Stp
open Go.Ab Base Cod Kit
set_option linter.unusedVariables false
set_option linter.unusedSimpArgs false

set_option maxRecDepth 200000 in
set_option maxHeartbeats 40000000 in
theorem refC (p : List Instr) (rowsP : List (List AV)) (np capP : Nat) (opnP : Bool) (hP : Hat tu p rowsP np) (gs : List Int) (rowsG : List (List AV)) (ng capG : Nat) (opnG : Bool) (hG : Hat iv gs rowsG ng) (pc acc x0 x1 x2 x3 x4 x5 x6 x7 x8 x9 x10 x11 x12 x13 x14 x15 inn outs : Int) (R : AV → Prop)
    (hbad : ¬ StepOk p pc acc [x0, x1, x2, x3, x4, x5, x6, x7, x8, x9, x10, x11, x12, x13, x14, x15] inn outs gs → R noneA)
    (hnil : StepOk p pc acc [x0, x1, x2, x3, x4, x5, x6, x7, x8, x9, x10, x11, x12, x13, x14, x15] inn outs gs → p = [] → R (outA ⟨pc, acc, [x0, x1, x2, x3, x4, x5, x6, x7, x8, x9, x10, x11, x12, x13, x14, x15], false, -1, -1, 0, false⟩))
    (hgo : StepOk p pc acc [x0, x1, x2, x3, x4, x5, x6, x7, x8, x9, x10, x11, x12, x13, x14, x15] inn outs gs → ∀ op arg, p[pc.toNat]? = some ⟨op, arg⟩ → ∀ nx, nx = (pc + 1) % np → R (outA (dd op arg nx acc [x0, x1, x2, x3, x4, x5, x6, x7, x8, x9, x10, x11, x12, x13, x14, x15] inn outs gs))) :
    CallS Try.prog 13 [.sym (.slice 0 2 0 np capP opnP none), .agg (vmr pc acc x0 x1 x2 x3 x4 x5 x6 x7 x8 x9 x10 x11 x12 x13 x14 x15), i6 inn, i6 outs, .sym (.slice 1 1 0 ng capG opnG none)] (memB [some (.cells false 2 rowsP), some (.cells false 1 rowsG)] []) 2 fun v _ _ => v.flat = true ∧ R (Go.Ab.full v) := by
  obtain ⟨hng, hzg, hfg, hrg⟩ := id hG
  obtain ⟨hnp, hzp, hfp, hrp⟩ := id hP
  refine CallS.enter X Try.func13 (by decide) ?_
  cbv
  repeat' first
    | with_reducible exact trivial
    | ((with_reducible apply stepMay2T (p := p) (gs := gs) (inn := inn) (outs := outs) (pc := pc) (acc := acc) (x0 := x0) (x1 := x1) (x2 := x2) (x3 := x3) (x4 := x4) (x5 := x5) (x6 := x6) (x7 := x7) (x8 := x8) (x9 := x9) (x10 := x10) (x11 := x11) (x12 := x12) (x13 := x13) (x14 := x14) (x15 := x15)); (focus exact Sl.rows0 rfl rfl hP.1 hP.2.1 hP.2.2.2); (focus exact Sl.rows0 rfl rfl hG.1 hG.2.1 hG.2.2.2); (focus rfl); (focus rfl); (focus rfl); all_goals first
        | ((with_reducible intro hok); cbv))
    | ((with_reducible intro v hv); (try rw [wrap_i64] at hv); cbv)
    | ((with_reducible apply uAnd); (focus first | kernel_rfl | omega | (have hpc := hok.2.1; omega)); try cbv)
    | ((with_reducible apply And.intro) <;> (with_reducible intro h) <;> first | ((with_reducible exfalso); omega) | cbv)
  · exact hnil hok (List.eq_nil_of_length_eq_zero (by omega))
  · (have hpc := hok.2.1)
    (have hvm := (stepOk_iff hnp).1 hok)
    (have ev : v = pc.toNat := by omega)
    subst ev
    (have hall : AllOk (p.length : Int) p := (id hok.1 : _ ∧ _).2)
    (with_reducible apply ld hrp)
    · omega
    (with_reducible intro x hx)
    cbv
    repeat' first
        | ((with_reducible intro v hv); (try rw [wrap_i64] at hv); cbv)
        | ((with_reducible apply uAnd); (focus first | kernel_rfl | omega); try cbv)
        | ((with_reducible apply And.intro) <;> (with_reducible intro h) <;> first | ((with_reducible exfalso); omega) | cbv)
    (with_reducible apply byOp hall x hx)
    case a0 =>
      (with_reducible intro hx0)
      cbv
      repeat' first
        | with_reducible exact trivial
        | ((with_reducible apply ldAt hrx); (focus omega); cbv)
        | ((with_reducible apply ld hrg); (focus omega); (with_reducible intro x hy); (have hrx : rowsG[v]? = some [.sym (.int .i64 x)] := hrg _ _ hy); cbv)
        | ((with_reducible apply ldX hv ha0 ha1); (with_reducible intro y hy hym); cbv)
        | ((with_reducible apply stX hv ha0 ha1); (focus rfl); (focus rfl); (with_reducible intro y0 y1 y2 y3 y4 y5 y6 y7 y8 y9 y10 y11 y12 y13 y14 y15 hys); cbv)
        | ((with_reducible apply CallT.enter X Try.func27 (by decide)); cbv)
        | ((with_reducible apply CallT.enter X Try.func36 (by decide)); cbv)
        | ((with_reducible intro v hv); (try rw [wrap_i64] at hv); cbv)
        | ((with_reducible apply uAnd); (focus first | kernel_rfl | omega); try cbv)
        | ((with_reducible apply And.intro) <;> (with_reducible intro h) <;> first | ((with_reducible exfalso); omega) | cbv)
      all_goals ((have key := hgo hok 0 0 hx0 _ (nxOk (by with_reducible assumption) (by with_reducible assumption) (by with_reducible assumption) hvm.2.1.1 hzp)); (rw [dd0] at key); exact key)
    case a1 =>
      (with_reducible intro a ha0 ha1 hx0)
      cbv
      repeat' first
        | with_reducible exact trivial
        | ((with_reducible apply ldAt hrx); (focus omega); cbv)
        | ((with_reducible apply ld hrg); (focus omega); (with_reducible intro x hy); (have hrx : rowsG[v]? = some [.sym (.int .i64 x)] := hrg _ _ hy); cbv)
        | ((with_reducible apply ldX hv ha0 ha1); (with_reducible intro y hy hym); cbv)
        | ((with_reducible apply stX hv ha0 ha1); (focus rfl); (focus rfl); (with_reducible intro y0 y1 y2 y3 y4 y5 y6 y7 y8 y9 y10 y11 y12 y13 y14 y15 hys); cbv)
        | ((with_reducible apply CallT.enter X Try.func27 (by decide)); cbv)
        | ((with_reducible apply CallT.enter X Try.func36 (by decide)); cbv)
        | ((with_reducible intro v hv); (try rw [wrap_i64] at hv); cbv)
        | ((with_reducible apply uAnd); (focus first | kernel_rfl | omega); try cbv)
        | ((with_reducible apply And.intro) <;> (with_reducible intro h) <;> first | ((with_reducible exfalso); omega) | cbv)
      all_goals ((have key := hgo hok 1 a hx0 _ (nxOk (by with_reducible assumption) (by with_reducible assumption) (by with_reducible assumption) hvm.2.1.1 hzp)); (rw [dd1] at key); exact key)
    case a2 =>
      (with_reducible intro a ha0 ha1 hx0)
      cbv
      repeat' first
        | with_reducible exact trivial
        | ((with_reducible apply ldAt hrx); (focus omega); cbv)
        | ((with_reducible apply ld hrg); (focus omega); (with_reducible intro x hy); (have hrx : rowsG[v]? = some [.sym (.int .i64 x)] := hrg _ _ hy); cbv)
        | ((with_reducible apply ldX hv ha0 ha1); (with_reducible intro y hy hym); cbv)
        | ((with_reducible apply stX hv ha0 ha1); (focus rfl); (focus rfl); (with_reducible intro y0 y1 y2 y3 y4 y5 y6 y7 y8 y9 y10 y11 y12 y13 y14 y15 hys); cbv)
        | ((with_reducible apply CallT.enter X Try.func27 (by decide)); cbv)
        | ((with_reducible apply CallT.enter X Try.func36 (by decide)); cbv)
        | ((with_reducible intro v hv); (try rw [wrap_i64] at hv); cbv)
        | ((with_reducible apply uAnd); (focus first | kernel_rfl | omega); try cbv)
        | ((with_reducible apply And.intro) <;> (with_reducible intro h) <;> first | ((with_reducible exfalso); omega) | cbv)
      all_goals ((have key := hgo hok 2 a hx0 _ (nxOk (by with_reducible assumption) (by with_reducible assumption) (by with_reducible assumption) hvm.2.1.1 hzp)); (rw [dd2 hy] at key); exact key)
    case a3 =>
      (with_reducible intro a ha0 ha1 hx0)
      cbv
      repeat' first
        | with_reducible exact trivial
        | ((with_reducible apply ldAt hrx); (focus omega); cbv)
        | ((with_reducible apply ld hrg); (focus omega); (with_reducible intro x hy); (have hrx : rowsG[v]? = some [.sym (.int .i64 x)] := hrg _ _ hy); cbv)
        | ((with_reducible apply ldX hv ha0 ha1); (with_reducible intro y hy hym); cbv)
        | ((with_reducible apply stX hv ha0 ha1); (focus rfl); (focus rfl); (with_reducible intro y0 y1 y2 y3 y4 y5 y6 y7 y8 y9 y10 y11 y12 y13 y14 y15 hys); cbv)
        | ((with_reducible apply CallT.enter X Try.func27 (by decide)); cbv)
        | ((with_reducible apply CallT.enter X Try.func36 (by decide)); cbv)
        | ((with_reducible intro v hv); (try rw [wrap_i64] at hv); cbv)
        | ((with_reducible apply uAnd); (focus first | kernel_rfl | omega); try cbv)
        | ((with_reducible apply And.intro) <;> (with_reducible intro h) <;> first | ((with_reducible exfalso); omega) | cbv)
      all_goals ((have key := hgo hok 3 a hx0 _ (nxOk (by with_reducible assumption) (by with_reducible assumption) (by with_reducible assumption) hvm.2.1.1 hzp)); (rw [dd3 hys] at key); exact key)
    case a4 =>
      (with_reducible intro a ha0 ha1 hx0)
      cbv
      repeat' first
        | with_reducible exact trivial
        | ((with_reducible apply ldAt hrx); (focus omega); cbv)
        | ((with_reducible apply ld hrg); (focus omega); (with_reducible intro x hy); (have hrx : rowsG[v]? = some [.sym (.int .i64 x)] := hrg _ _ hy); cbv)
        | ((with_reducible apply ldX hv ha0 ha1); (with_reducible intro y hy hym); cbv)
        | ((with_reducible apply stX hv ha0 ha1); (focus rfl); (focus rfl); (with_reducible intro y0 y1 y2 y3 y4 y5 y6 y7 y8 y9 y10 y11 y12 y13 y14 y15 hys); cbv)
        | ((with_reducible apply CallT.enter X Try.func27 (by decide)); cbv)
        | ((with_reducible apply CallT.enter X Try.func36 (by decide)); cbv)
        | ((with_reducible intro v hv); (try rw [wrap_i64] at hv); cbv)
        | ((with_reducible apply uAnd); (focus first | kernel_rfl | omega); try cbv)
        | ((with_reducible apply And.intro) <;> (with_reducible intro h) <;> first | ((with_reducible exfalso); omega) | cbv)
      all_goals ((have key := hgo hok 4 a hx0 _ (nxOk (by with_reducible assumption) (by with_reducible assumption) (by with_reducible assumption) hvm.2.1.1 hzp)); (rw [dd4 hy (addOk (by with_reducible assumption) (by with_reducible assumption) hvm.2.1.2.1 (memOk_iff.1 hvm.2.1.2.2 _ hym))] at key); exact key)
    case a5 =>
      (with_reducible intro a ha0 ha1 hx0)
      cbv
      repeat' first
        | with_reducible exact trivial
        | ((with_reducible apply ldAt hrx); (focus omega); cbv)
        | ((with_reducible apply ld hrg); (focus omega); (with_reducible intro x hy); (have hrx : rowsG[v]? = some [.sym (.int .i64 x)] := hrg _ _ hy); cbv)
        | ((with_reducible apply ldX hv ha0 ha1); (with_reducible intro y hy hym); cbv)
        | ((with_reducible apply stX hv ha0 ha1); (focus rfl); (focus rfl); (with_reducible intro y0 y1 y2 y3 y4 y5 y6 y7 y8 y9 y10 y11 y12 y13 y14 y15 hys); cbv)
        | ((with_reducible apply CallT.enter X Try.func27 (by decide)); cbv)
        | ((with_reducible apply CallT.enter X Try.func36 (by decide)); cbv)
        | ((with_reducible intro v hv); (try rw [wrap_i64] at hv); cbv)
        | ((with_reducible apply uAnd); (focus first | kernel_rfl | omega); try cbv)
        | ((with_reducible apply And.intro) <;> (with_reducible intro h) <;> first | ((with_reducible exfalso); omega) | cbv)
      all_goals ((have key := hgo hok 5 a hx0 _ (nxOk (by with_reducible assumption) (by with_reducible assumption) (by with_reducible assumption) hvm.2.1.1 hzp)); (rw [dd5 hy (sub2Ok (by with_reducible assumption) (by with_reducible assumption) (by with_reducible assumption) hvm.2.1.2.1 (memOk_iff.1 hvm.2.1.2.2 _ hym))] at key); exact key)
    case a6 =>
      (with_reducible intro a ha0 ha1 hx0)
      cbv
      repeat' first
        | with_reducible exact trivial
        | ((with_reducible apply ldAt hrx); (focus omega); cbv)
        | ((with_reducible apply ld hrg); (focus omega); (with_reducible intro x hy); (have hrx : rowsG[v]? = some [.sym (.int .i64 x)] := hrg _ _ hy); cbv)
        | ((with_reducible apply ldX hv ha0 ha1); (with_reducible intro y hy hym); cbv)
        | ((with_reducible apply stX hv ha0 ha1); (focus rfl); (focus rfl); (with_reducible intro y0 y1 y2 y3 y4 y5 y6 y7 y8 y9 y10 y11 y12 y13 y14 y15 hys); cbv)
        | ((with_reducible apply CallT.enter X Try.func27 (by decide)); cbv)
        | ((with_reducible apply CallT.enter X Try.func36 (by decide)); cbv)
        | ((with_reducible intro v hv); (try rw [wrap_i64] at hv); cbv)
        | ((with_reducible apply uAnd); (focus first | kernel_rfl | omega); try cbv)
        | ((with_reducible apply And.intro) <;> (with_reducible intro h) <;> first | ((with_reducible exfalso); omega) | cbv)
      all_goals ((have key := hgo hok 6 a hx0 _ (nxOk (by with_reducible assumption) (by with_reducible assumption) (by with_reducible assumption) hvm.2.1.1 hzp)); (rw [dd6] at key); exact key)
    case a7 =>
      (with_reducible intro a ha0 ha1 hx0)
      cbv
      repeat' first
        | with_reducible exact trivial
        | ((with_reducible apply ldAt hrx); (focus omega); cbv)
        | ((with_reducible apply ld hrg); (focus omega); (with_reducible intro x hy); (have hrx : rowsG[v]? = some [.sym (.int .i64 x)] := hrg _ _ hy); cbv)
        | ((with_reducible apply ldX hv ha0 ha1); (with_reducible intro y hy hym); cbv)
        | ((with_reducible apply stX hv ha0 ha1); (focus rfl); (focus rfl); (with_reducible intro y0 y1 y2 y3 y4 y5 y6 y7 y8 y9 y10 y11 y12 y13 y14 y15 hys); cbv)
        | ((with_reducible apply CallT.enter X Try.func27 (by decide)); cbv)
        | ((with_reducible apply CallT.enter X Try.func36 (by decide)); cbv)
        | ((with_reducible intro v hv); (try rw [wrap_i64] at hv); cbv)
        | ((with_reducible apply uAnd); (focus first | kernel_rfl | omega); try cbv)
        | ((with_reducible apply And.intro) <;> (with_reducible intro h) <;> first | ((with_reducible exfalso); omega) | cbv)
      all_goals ((have key := hgo hok 7 a hx0 _ (nxOk (by with_reducible assumption) (by with_reducible assumption) (by with_reducible assumption) hvm.2.1.1 hzp)); (first | rw [dd7a (by with_reducible assumption)] at key | rw [dd7b (by with_reducible assumption)] at key); exact key)
    case a8 =>
      (with_reducible intro hx0)
      cbv
      repeat' first
        | with_reducible exact trivial
        | ((with_reducible apply ldAt hrx); (focus omega); cbv)
        | ((with_reducible apply ld hrg); (focus omega); (with_reducible intro x hy); (have hrx : rowsG[v]? = some [.sym (.int .i64 x)] := hrg _ _ hy); cbv)
        | ((with_reducible apply ldX hv ha0 ha1); (with_reducible intro y hy hym); cbv)
        | ((with_reducible apply stX hv ha0 ha1); (focus rfl); (focus rfl); (with_reducible intro y0 y1 y2 y3 y4 y5 y6 y7 y8 y9 y10 y11 y12 y13 y14 y15 hys); cbv)
        | ((with_reducible apply CallT.enter X Try.func27 (by decide)); cbv)
        | ((with_reducible apply CallT.enter X Try.func36 (by decide)); cbv)
        | ((with_reducible intro v hv); (try rw [wrap_i64] at hv); cbv)
        | ((with_reducible apply uAnd); (focus first | kernel_rfl | omega); try cbv)
        | ((with_reducible apply And.intro) <;> (with_reducible intro h) <;> first | ((with_reducible exfalso); omega) | cbv)
      all_goals ((have key := hgo hok 8 0 hx0 _ (nxOk (by with_reducible assumption) (by with_reducible assumption) (by with_reducible assumption) hvm.2.1.1 hzp)); (rw [dd8] at key); exact key)
    case a9 =>
      (with_reducible intro a ha0 ha1 hx0)
      cbv
      repeat' first
        | with_reducible exact trivial
        | ((with_reducible apply ldAt hrx); (focus omega); cbv)
        | ((with_reducible apply ld hrg); (focus omega); (with_reducible intro x hy); (have hrx : rowsG[v]? = some [.sym (.int .i64 x)] := hrg _ _ hy); cbv)
        | ((with_reducible apply ldX hv ha0 ha1); (with_reducible intro y hy hym); cbv)
        | ((with_reducible apply stX hv ha0 ha1); (focus rfl); (focus rfl); (with_reducible intro y0 y1 y2 y3 y4 y5 y6 y7 y8 y9 y10 y11 y12 y13 y14 y15 hys); cbv)
        | ((with_reducible apply CallT.enter X Try.func27 (by decide)); cbv)
        | ((with_reducible apply CallT.enter X Try.func36 (by decide)); cbv)
        | ((with_reducible intro v hv); (try rw [wrap_i64] at hv); cbv)
        | ((with_reducible apply uAnd); (focus first | kernel_rfl | omega); try cbv)
        | ((with_reducible apply And.intro) <;> (with_reducible intro h) <;> first | ((with_reducible exfalso); omega) | cbv)
      all_goals ((have key := hgo hok 9 a hx0 _ (nxOk (by with_reducible assumption) (by with_reducible assumption) (by with_reducible assumption) hvm.2.1.1 hzp)); (have eb := bitOk (K := a) (by with_reducible assumption) (by with_reducible assumption) (by omega)); (first | rw [dd9a (by rw [← eb]; with_reducible assumption)] at key | rw [dd9b (by rw [← eb]; with_reducible assumption)] at key); exact key)
    case a10 =>
      (with_reducible intro a ha0 ha1 hx0)
      cbv
      repeat' first
        | with_reducible exact trivial
        | ((with_reducible apply ldAt hrx); (focus omega); cbv)
        | ((with_reducible apply ld hrg); (focus omega); (with_reducible intro x hy); (have hrx : rowsG[v]? = some [.sym (.int .i64 x)] := hrg _ _ hy); cbv)
        | ((with_reducible apply ldX hv ha0 ha1); (with_reducible intro y hy hym); cbv)
        | ((with_reducible apply stX hv ha0 ha1); (focus rfl); (focus rfl); (with_reducible intro y0 y1 y2 y3 y4 y5 y6 y7 y8 y9 y10 y11 y12 y13 y14 y15 hys); cbv)
        | ((with_reducible apply CallT.enter X Try.func27 (by decide)); cbv)
        | ((with_reducible apply CallT.enter X Try.func36 (by decide)); cbv)
        | ((with_reducible intro v hv); (try rw [wrap_i64] at hv); cbv)
        | ((with_reducible apply uAnd); (focus first | kernel_rfl | omega); try cbv)
        | ((with_reducible apply And.intro) <;> (with_reducible intro h) <;> first | ((with_reducible exfalso); omega) | cbv)
      all_goals ((have key := hgo hok 10 a hx0 _ (nxOk (by with_reducible assumption) (by with_reducible assumption) (by with_reducible assumption) hvm.2.1.1 hzp)); (first | rw [dd10a (gsNone (by with_reducible assumption) (by with_reducible assumption) hng)] at key | (rw [dd10b (gsSome (by with_reducible assumption) (by with_reducible assumption)) (by with_reducible assumption)] at key) | rw [dd10a ((gsSome (K := a) (by with_reducible assumption) (by with_reducible assumption)).trans (by with_reducible assumption))] at key); exact key)
    case a11 =>
      (with_reducible intro hx0)
      cbv
      repeat' first
        | with_reducible exact trivial
        | ((with_reducible apply ldAt hrx); (focus omega); cbv)
        | ((with_reducible apply ld hrg); (focus omega); (with_reducible intro x hy); (have hrx : rowsG[v]? = some [.sym (.int .i64 x)] := hrg _ _ hy); cbv)
        | ((with_reducible apply ldX hv ha0 ha1); (with_reducible intro y hy hym); cbv)
        | ((with_reducible apply stX hv ha0 ha1); (focus rfl); (focus rfl); (with_reducible intro y0 y1 y2 y3 y4 y5 y6 y7 y8 y9 y10 y11 y12 y13 y14 y15 hys); cbv)
        | ((with_reducible apply CallT.enter X Try.func27 (by decide)); cbv)
        | ((with_reducible apply CallT.enter X Try.func36 (by decide)); cbv)
        | ((with_reducible intro v hv); (try rw [wrap_i64] at hv); cbv)
        | ((with_reducible apply uAnd); (focus first | kernel_rfl | omega); try cbv)
        | ((with_reducible apply And.intro) <;> (with_reducible intro h) <;> first | ((with_reducible exfalso); omega) | cbv)
      all_goals ((have key := hgo hok 11 0 hx0 _ (nxOk (by with_reducible assumption) (by with_reducible assumption) (by with_reducible assumption) hvm.2.1.1 hzp)); (rw [dd11] at key); exact key)
  · exact hbad hok
end Go.Proofs.Ytdaccjfijfnlfaa.Stp

namespace Go.Proofs.Ytdaccjfijfnlfaa.Stp
open Go.Ab Base Cod Kit
set_option linter.unusedVariables false
set_option linter.unusedSimpArgs false

set_option maxRecDepth 200000 in
set_option maxHeartbeats 40000000 in
theorem refN (p : List Instr) (rowsP : List (List AV)) (np capP : Nat) (opnP : Bool) (hP : Hat tu p rowsP np) (pc acc x0 x1 x2 x3 x4 x5 x6 x7 x8 x9 x10 x11 x12 x13 x14 x15 inn outs : Int) (R : AV → Prop)
    (hbad : ¬ StepOk p pc acc [x0, x1, x2, x3, x4, x5, x6, x7, x8, x9, x10, x11, x12, x13, x14, x15] inn outs [] → R noneA)
    (hnil : StepOk p pc acc [x0, x1, x2, x3, x4, x5, x6, x7, x8, x9, x10, x11, x12, x13, x14, x15] inn outs [] → p = [] → R (outA ⟨pc, acc, [x0, x1, x2, x3, x4, x5, x6, x7, x8, x9, x10, x11, x12, x13, x14, x15], false, -1, -1, 0, false⟩))
    (hgo : StepOk p pc acc [x0, x1, x2, x3, x4, x5, x6, x7, x8, x9, x10, x11, x12, x13, x14, x15] inn outs [] → ∀ op arg, p[pc.toNat]? = some ⟨op, arg⟩ → ∀ nx, nx = (pc + 1) % np → R (outA (dd op arg nx acc [x0, x1, x2, x3, x4, x5, x6, x7, x8, x9, x10, x11, x12, x13, x14, x15] inn outs []))) :
    CallS Try.prog 13 [.sym (.slice 0 2 0 np capP opnP none), .agg (vmr pc acc x0 x1 x2 x3 x4 x5 x6 x7 x8 x9 x10 x11 x12 x13 x14 x15), i6 inn, i6 outs, .nilslice] (memB [some (.cells false 2 rowsP)] []) 1 fun v _ _ => v.flat = true ∧ R (Go.Ab.full v) := by
  obtain ⟨hnp, hzp, hfp, hrp⟩ := id hP
  refine CallS.enter X Try.func13 (by decide) ?_
  cbv
  repeat' first
    | with_reducible exact trivial
    | ((with_reducible apply stepMay2T (p := p) (gs := []) (inn := inn) (outs := outs) (pc := pc) (acc := acc) (x0 := x0) (x1 := x1) (x2 := x2) (x3 := x3) (x4 := x4) (x5 := x5) (x6 := x6) (x7 := x7) (x8 := x8) (x9 := x9) (x10 := x10) (x11 := x11) (x12 := x12) (x13 := x13) (x14 := x14) (x15 := x15)); (focus exact Sl.rows0 rfl rfl hP.1 hP.2.1 hP.2.2.2); (focus exact Sl.nil rfl rfl); (focus rfl); (focus rfl); (focus rfl); all_goals first
        | ((with_reducible intro hok); cbv))
    | ((with_reducible intro v hv); (try rw [wrap_i64] at hv); cbv)
    | ((with_reducible apply uAnd); (focus first | kernel_rfl | omega | (have hpc := hok.2.1; omega)); try cbv)
    | ((with_reducible apply And.intro) <;> (with_reducible intro h) <;> first | ((with_reducible exfalso); omega) | cbv)
  · exact hnil hok (List.eq_nil_of_length_eq_zero (by omega))
  · (have hpc := hok.2.1)
    (have hvm := (stepOk_iff hnp).1 hok)
    (have ev : v = pc.toNat := by omega)
    subst ev
    (have hall : AllOk (p.length : Int) p := (id hok.1 : _ ∧ _).2)
    (with_reducible apply ld hrp)
    · omega
    (with_reducible intro x hx)
    cbv
    repeat' first
        | ((with_reducible intro v hv); (try rw [wrap_i64] at hv); cbv)
        | ((with_reducible apply uAnd); (focus first | kernel_rfl | omega); try cbv)
        | ((with_reducible apply And.intro) <;> (with_reducible intro h) <;> first | ((with_reducible exfalso); omega) | cbv)
    (with_reducible apply byOp hall x hx)
    case a0 =>
      (with_reducible intro hx0)
      cbv
      repeat' first
        | with_reducible exact trivial
        | ((with_reducible apply ldX hv ha0 ha1); (with_reducible intro y hy hym); cbv)
        | ((with_reducible apply stX hv ha0 ha1); (focus rfl); (focus rfl); (with_reducible intro y0 y1 y2 y3 y4 y5 y6 y7 y8 y9 y10 y11 y12 y13 y14 y15 hys); cbv)
        | ((with_reducible apply CallT.enter X Try.func27 (by decide)); cbv)
        | ((with_reducible apply CallT.enter X Try.func36 (by decide)); cbv)
        | ((with_reducible intro v hv); (try rw [wrap_i64] at hv); cbv)
        | ((with_reducible apply uAnd); (focus first | kernel_rfl | omega); try cbv)
        | ((with_reducible apply And.intro) <;> (with_reducible intro h) <;> first | ((with_reducible exfalso); omega) | cbv)
      all_goals ((have key := hgo hok 0 0 hx0 _ (nxOk (by with_reducible assumption) (by with_reducible assumption) (by with_reducible assumption) hvm.2.1.1 hzp)); (rw [dd0] at key); exact key)
    case a1 =>
      (with_reducible intro a ha0 ha1 hx0)
      cbv
      repeat' first
        | with_reducible exact trivial
        | ((with_reducible apply ldX hv ha0 ha1); (with_reducible intro y hy hym); cbv)
        | ((with_reducible apply stX hv ha0 ha1); (focus rfl); (focus rfl); (with_reducible intro y0 y1 y2 y3 y4 y5 y6 y7 y8 y9 y10 y11 y12 y13 y14 y15 hys); cbv)
        | ((with_reducible apply CallT.enter X Try.func27 (by decide)); cbv)
        | ((with_reducible apply CallT.enter X Try.func36 (by decide)); cbv)
        | ((with_reducible intro v hv); (try rw [wrap_i64] at hv); cbv)
        | ((with_reducible apply uAnd); (focus first | kernel_rfl | omega); try cbv)
        | ((with_reducible apply And.intro) <;> (with_reducible intro h) <;> first | ((with_reducible exfalso); omega) | cbv)
      all_goals ((have key := hgo hok 1 a hx0 _ (nxOk (by with_reducible assumption) (by with_reducible assumption) (by with_reducible assumption) hvm.2.1.1 hzp)); (rw [dd1] at key); exact key)
    case a2 =>
      (with_reducible intro a ha0 ha1 hx0)
      cbv
      repeat' first
        | with_reducible exact trivial
        | ((with_reducible apply ldX hv ha0 ha1); (with_reducible intro y hy hym); cbv)
        | ((with_reducible apply stX hv ha0 ha1); (focus rfl); (focus rfl); (with_reducible intro y0 y1 y2 y3 y4 y5 y6 y7 y8 y9 y10 y11 y12 y13 y14 y15 hys); cbv)
        | ((with_reducible apply CallT.enter X Try.func27 (by decide)); cbv)
        | ((with_reducible apply CallT.enter X Try.func36 (by decide)); cbv)
        | ((with_reducible intro v hv); (try rw [wrap_i64] at hv); cbv)
        | ((with_reducible apply uAnd); (focus first | kernel_rfl | omega); try cbv)
        | ((with_reducible apply And.intro) <;> (with_reducible intro h) <;> first | ((with_reducible exfalso); omega) | cbv)
      all_goals ((have key := hgo hok 2 a hx0 _ (nxOk (by with_reducible assumption) (by with_reducible assumption) (by with_reducible assumption) hvm.2.1.1 hzp)); (rw [dd2 hy] at key); exact key)
    case a3 =>
      (with_reducible intro a ha0 ha1 hx0)
      cbv
      repeat' first
        | with_reducible exact trivial
        | ((with_reducible apply ldX hv ha0 ha1); (with_reducible intro y hy hym); cbv)
        | ((with_reducible apply stX hv ha0 ha1); (focus rfl); (focus rfl); (with_reducible intro y0 y1 y2 y3 y4 y5 y6 y7 y8 y9 y10 y11 y12 y13 y14 y15 hys); cbv)
        | ((with_reducible apply CallT.enter X Try.func27 (by decide)); cbv)
        | ((with_reducible apply CallT.enter X Try.func36 (by decide)); cbv)
        | ((with_reducible intro v hv); (try rw [wrap_i64] at hv); cbv)
        | ((with_reducible apply uAnd); (focus first | kernel_rfl | omega); try cbv)
        | ((with_reducible apply And.intro) <;> (with_reducible intro h) <;> first | ((with_reducible exfalso); omega) | cbv)
      all_goals ((have key := hgo hok 3 a hx0 _ (nxOk (by with_reducible assumption) (by with_reducible assumption) (by with_reducible assumption) hvm.2.1.1 hzp)); (rw [dd3 hys] at key); exact key)
    case a4 =>
      (with_reducible intro a ha0 ha1 hx0)
      cbv
      repeat' first
        | with_reducible exact trivial
        | ((with_reducible apply ldX hv ha0 ha1); (with_reducible intro y hy hym); cbv)
        | ((with_reducible apply stX hv ha0 ha1); (focus rfl); (focus rfl); (with_reducible intro y0 y1 y2 y3 y4 y5 y6 y7 y8 y9 y10 y11 y12 y13 y14 y15 hys); cbv)
        | ((with_reducible apply CallT.enter X Try.func27 (by decide)); cbv)
        | ((with_reducible apply CallT.enter X Try.func36 (by decide)); cbv)
        | ((with_reducible intro v hv); (try rw [wrap_i64] at hv); cbv)
        | ((with_reducible apply uAnd); (focus first | kernel_rfl | omega); try cbv)
        | ((with_reducible apply And.intro) <;> (with_reducible intro h) <;> first | ((with_reducible exfalso); omega) | cbv)
      all_goals ((have key := hgo hok 4 a hx0 _ (nxOk (by with_reducible assumption) (by with_reducible assumption) (by with_reducible assumption) hvm.2.1.1 hzp)); (rw [dd4 hy (addOk (by with_reducible assumption) (by with_reducible assumption) hvm.2.1.2.1 (memOk_iff.1 hvm.2.1.2.2 _ hym))] at key); exact key)
    case a5 =>
      (with_reducible intro a ha0 ha1 hx0)
      cbv
      repeat' first
        | with_reducible exact trivial
        | ((with_reducible apply ldX hv ha0 ha1); (with_reducible intro y hy hym); cbv)
        | ((with_reducible apply stX hv ha0 ha1); (focus rfl); (focus rfl); (with_reducible intro y0 y1 y2 y3 y4 y5 y6 y7 y8 y9 y10 y11 y12 y13 y14 y15 hys); cbv)
        | ((with_reducible apply CallT.enter X Try.func27 (by decide)); cbv)
        | ((with_reducible apply CallT.enter X Try.func36 (by decide)); cbv)
        | ((with_reducible intro v hv); (try rw [wrap_i64] at hv); cbv)
        | ((with_reducible apply uAnd); (focus first | kernel_rfl | omega); try cbv)
        | ((with_reducible apply And.intro) <;> (with_reducible intro h) <;> first | ((with_reducible exfalso); omega) | cbv)
      all_goals ((have key := hgo hok 5 a hx0 _ (nxOk (by with_reducible assumption) (by with_reducible assumption) (by with_reducible assumption) hvm.2.1.1 hzp)); (rw [dd5 hy (sub2Ok (by with_reducible assumption) (by with_reducible assumption) (by with_reducible assumption) hvm.2.1.2.1 (memOk_iff.1 hvm.2.1.2.2 _ hym))] at key); exact key)
    case a6 =>
      (with_reducible intro a ha0 ha1 hx0)
      cbv
      repeat' first
        | with_reducible exact trivial
        | ((with_reducible apply ldX hv ha0 ha1); (with_reducible intro y hy hym); cbv)
        | ((with_reducible apply stX hv ha0 ha1); (focus rfl); (focus rfl); (with_reducible intro y0 y1 y2 y3 y4 y5 y6 y7 y8 y9 y10 y11 y12 y13 y14 y15 hys); cbv)
        | ((with_reducible apply CallT.enter X Try.func27 (by decide)); cbv)
        | ((with_reducible apply CallT.enter X Try.func36 (by decide)); cbv)
        | ((with_reducible intro v hv); (try rw [wrap_i64] at hv); cbv)
        | ((with_reducible apply uAnd); (focus first | kernel_rfl | omega); try cbv)
        | ((with_reducible apply And.intro) <;> (with_reducible intro h) <;> first | ((with_reducible exfalso); omega) | cbv)
      all_goals ((have key := hgo hok 6 a hx0 _ (nxOk (by with_reducible assumption) (by with_reducible assumption) (by with_reducible assumption) hvm.2.1.1 hzp)); (rw [dd6] at key); exact key)
    case a7 =>
      (with_reducible intro a ha0 ha1 hx0)
      cbv
      repeat' first
        | with_reducible exact trivial
        | ((with_reducible apply ldX hv ha0 ha1); (with_reducible intro y hy hym); cbv)
        | ((with_reducible apply stX hv ha0 ha1); (focus rfl); (focus rfl); (with_reducible intro y0 y1 y2 y3 y4 y5 y6 y7 y8 y9 y10 y11 y12 y13 y14 y15 hys); cbv)
        | ((with_reducible apply CallT.enter X Try.func27 (by decide)); cbv)
        | ((with_reducible apply CallT.enter X Try.func36 (by decide)); cbv)
        | ((with_reducible intro v hv); (try rw [wrap_i64] at hv); cbv)
        | ((with_reducible apply uAnd); (focus first | kernel_rfl | omega); try cbv)
        | ((with_reducible apply And.intro) <;> (with_reducible intro h) <;> first | ((with_reducible exfalso); omega) | cbv)
      all_goals ((have key := hgo hok 7 a hx0 _ (nxOk (by with_reducible assumption) (by with_reducible assumption) (by with_reducible assumption) hvm.2.1.1 hzp)); (first | rw [dd7a (by with_reducible assumption)] at key | rw [dd7b (by with_reducible assumption)] at key); exact key)
    case a8 =>
      (with_reducible intro hx0)
      cbv
      repeat' first
        | with_reducible exact trivial
        | ((with_reducible apply ldX hv ha0 ha1); (with_reducible intro y hy hym); cbv)
        | ((with_reducible apply stX hv ha0 ha1); (focus rfl); (focus rfl); (with_reducible intro y0 y1 y2 y3 y4 y5 y6 y7 y8 y9 y10 y11 y12 y13 y14 y15 hys); cbv)
        | ((with_reducible apply CallT.enter X Try.func27 (by decide)); cbv)
        | ((with_reducible apply CallT.enter X Try.func36 (by decide)); cbv)
        | ((with_reducible intro v hv); (try rw [wrap_i64] at hv); cbv)
        | ((with_reducible apply uAnd); (focus first | kernel_rfl | omega); try cbv)
        | ((with_reducible apply And.intro) <;> (with_reducible intro h) <;> first | ((with_reducible exfalso); omega) | cbv)
      all_goals ((have key := hgo hok 8 0 hx0 _ (nxOk (by with_reducible assumption) (by with_reducible assumption) (by with_reducible assumption) hvm.2.1.1 hzp)); (rw [dd8] at key); exact key)
    case a9 =>
      (with_reducible intro a ha0 ha1 hx0)
      cbv
      repeat' first
        | with_reducible exact trivial
        | ((with_reducible apply ldX hv ha0 ha1); (with_reducible intro y hy hym); cbv)
        | ((with_reducible apply stX hv ha0 ha1); (focus rfl); (focus rfl); (with_reducible intro y0 y1 y2 y3 y4 y5 y6 y7 y8 y9 y10 y11 y12 y13 y14 y15 hys); cbv)
        | ((with_reducible apply CallT.enter X Try.func27 (by decide)); cbv)
        | ((with_reducible apply CallT.enter X Try.func36 (by decide)); cbv)
        | ((with_reducible intro v hv); (try rw [wrap_i64] at hv); cbv)
        | ((with_reducible apply uAnd); (focus first | kernel_rfl | omega); try cbv)
        | ((with_reducible apply And.intro) <;> (with_reducible intro h) <;> first | ((with_reducible exfalso); omega) | cbv)
      all_goals ((have key := hgo hok 9 a hx0 _ (nxOk (by with_reducible assumption) (by with_reducible assumption) (by with_reducible assumption) hvm.2.1.1 hzp)); (have eb := bitOk (K := a) (by with_reducible assumption) (by with_reducible assumption) (by omega)); (first | rw [dd9a (by rw [← eb]; with_reducible assumption)] at key | rw [dd9b (by rw [← eb]; with_reducible assumption)] at key); exact key)
    case a10 =>
      (with_reducible intro a ha0 ha1 hx0)
      cbv
      repeat' first
        | with_reducible exact trivial
        | ((with_reducible apply ldX hv ha0 ha1); (with_reducible intro y hy hym); cbv)
        | ((with_reducible apply stX hv ha0 ha1); (focus rfl); (focus rfl); (with_reducible intro y0 y1 y2 y3 y4 y5 y6 y7 y8 y9 y10 y11 y12 y13 y14 y15 hys); cbv)
        | ((with_reducible apply CallT.enter X Try.func27 (by decide)); cbv)
        | ((with_reducible apply CallT.enter X Try.func36 (by decide)); cbv)
        | ((with_reducible intro v hv); (try rw [wrap_i64] at hv); cbv)
        | ((with_reducible apply uAnd); (focus first | kernel_rfl | omega); try cbv)
        | ((with_reducible apply And.intro) <;> (with_reducible intro h) <;> first | ((with_reducible exfalso); omega) | cbv)
      all_goals ((have key := hgo hok 10 a hx0 _ (nxOk (by with_reducible assumption) (by with_reducible assumption) (by with_reducible assumption) hvm.2.1.1 hzp)); (rw [dd10a rfl] at key); exact key)
    case a11 =>
      (with_reducible intro hx0)
      cbv
      repeat' first
        | with_reducible exact trivial
        | ((with_reducible apply ldX hv ha0 ha1); (with_reducible intro y hy hym); cbv)
        | ((with_reducible apply stX hv ha0 ha1); (focus rfl); (focus rfl); (with_reducible intro y0 y1 y2 y3 y4 y5 y6 y7 y8 y9 y10 y11 y12 y13 y14 y15 hys); cbv)
        | ((with_reducible apply CallT.enter X Try.func27 (by decide)); cbv)
        | ((with_reducible apply CallT.enter X Try.func36 (by decide)); cbv)
        | ((with_reducible intro v hv); (try rw [wrap_i64] at hv); cbv)
        | ((with_reducible apply uAnd); (focus first | kernel_rfl | omega); try cbv)
        | ((with_reducible apply And.intro) <;> (with_reducible intro h) <;> first | ((with_reducible exfalso); omega) | cbv)
      all_goals ((have key := hgo hok 11 0 hx0 _ (nxOk (by with_reducible assumption) (by with_reducible assumption) (by with_reducible assumption) hvm.2.1.1 hzp)); (rw [dd11] at key); exact key)
  · exact hbad hok

set_option maxRecDepth 200000 in
set_option maxHeartbeats 40000000 in
theorem refZ1 (gs : List Int) (rowsG : List (List AV)) (ng capG : Nat) (opnG : Bool) (hG : Hat iv gs rowsG ng) (pc acc x0 x1 x2 x3 x4 x5 x6 x7 x8 x9 x10 x11 x12 x13 x14 x15 inn outs : Int) (R : AV → Prop)
    (hbad : ¬ StepOk [] pc acc [x0, x1, x2, x3, x4, x5, x6, x7, x8, x9, x10, x11, x12, x13, x14, x15] inn outs gs → R noneA)
    (hnil : StepOk [] pc acc [x0, x1, x2, x3, x4, x5, x6, x7, x8, x9, x10, x11, x12, x13, x14, x15] inn outs gs → R (outA ⟨pc, acc, [x0, x1, x2, x3, x4, x5, x6, x7, x8, x9, x10, x11, x12, x13, x14, x15], false, -1, -1, 0, false⟩)) :
    CallS Try.prog 13 [.nilslice, .agg (vmr pc acc x0 x1 x2 x3 x4 x5 x6 x7 x8 x9 x10 x11 x12 x13 x14 x15), i6 inn, i6 outs, .sym (.slice 0 1 0 ng capG opnG none)] (memB [some (.cells false 1 rowsG)] []) 1 fun v _ _ => v.flat = true ∧ R (Go.Ab.full v) := by
  refine CallS.enter X Try.func13 (by decide) ?_
  cbv
  repeat' first
    | with_reducible exact trivial
    | ((with_reducible apply stepMay2T (p := []) (gs := gs) (inn := inn) (outs := outs) (pc := pc) (acc := acc) (x0 := x0) (x1 := x1) (x2 := x2) (x3 := x3) (x4 := x4) (x5 := x5) (x6 := x6) (x7 := x7) (x8 := x8) (x9 := x9) (x10 := x10) (x11 := x11) (x12 := x12) (x13 := x13) (x14 := x14) (x15 := x15)); (focus exact Sl.nil rfl rfl); (focus exact Sl.rows0 rfl rfl hG.1 hG.2.1 hG.2.2.2); (focus rfl); (focus rfl); (focus rfl); all_goals first
        | ((with_reducible intro hok); cbv))
    | ((with_reducible intro v hv); (try rw [wrap_i64] at hv); cbv)
    | ((with_reducible apply uAnd); (focus first | kernel_rfl | omega); try cbv)
    | ((with_reducible apply And.intro) <;> (with_reducible intro h) <;> first | ((with_reducible exfalso); omega) | cbv)
  · exact hnil hok
  · exact hbad hok

set_option maxRecDepth 200000 in
set_option maxHeartbeats 40000000 in
theorem refZ0 (pc acc x0 x1 x2 x3 x4 x5 x6 x7 x8 x9 x10 x11 x12 x13 x14 x15 inn outs : Int) (R : AV → Prop)
    (hbad : ¬ StepOk [] pc acc [x0, x1, x2, x3, x4, x5, x6, x7, x8, x9, x10, x11, x12, x13, x14, x15] inn outs [] → R noneA)
    (hnil : StepOk [] pc acc [x0, x1, x2, x3, x4, x5, x6, x7, x8, x9, x10, x11, x12, x13, x14, x15] inn outs [] → R (outA ⟨pc, acc, [x0, x1, x2, x3, x4, x5, x6, x7, x8, x9, x10, x11, x12, x13, x14, x15], false, -1, -1, 0, false⟩)) :
    CallS Try.prog 13 [.nilslice, .agg (vmr pc acc x0 x1 x2 x3 x4 x5 x6 x7 x8 x9 x10 x11 x12 x13 x14 x15), i6 inn, i6 outs, .nilslice] (memB [] []) 0 fun v _ _ => v.flat = true ∧ R (Go.Ab.full v) := by
  refine CallS.enter X Try.func13 (by decide) ?_
  cbv
  repeat' first
    | with_reducible exact trivial
    | ((with_reducible apply stepMay2T (p := []) (gs := []) (inn := inn) (outs := outs) (pc := pc) (acc := acc) (x0 := x0) (x1 := x1) (x2 := x2) (x3 := x3) (x4 := x4) (x5 := x5) (x6 := x6) (x7 := x7) (x8 := x8) (x9 := x9) (x10 := x10) (x11 := x11) (x12 := x12) (x13 := x13) (x14 := x14) (x15 := x15)); (focus exact Sl.nil rfl rfl); (focus exact Sl.nil rfl rfl); (focus rfl); (focus rfl); (focus rfl); all_goals first
        | ((with_reducible intro hok); cbv))
    | ((with_reducible intro v hv); (try rw [wrap_i64] at hv); cbv)
    | ((with_reducible apply uAnd); (focus first | kernel_rfl | omega); try cbv)
    | ((with_reducible apply And.intro) <;> (with_reducible intro h) <;> first | ((with_reducible exfalso); omega) | cbv)
  · exact hnil hok
  · exact hbad hok
end Go.Proofs.Ytdaccjfijfnlfaa.Stp

namespace Go.Proofs.Ytdaccjfijfnlfaa.Stp
open Go.Ab Base Cod Kit
set_option linter.unusedVariables false
set_option linter.unusedSimpArgs false
theorem refT {p : List Instr} {gs : List Int} {pc acc x0 x1 x2 x3 x4 x5 x6 x7 x8 x9 x10 x11 x12 x13 x14 x15 inn outs : Int} {A V I O G : AV} {m : Mem} {c : Nat} {K : AV → Mem → Nat → Prop} (hA : Sl tu 2 m A p) (hG : Sl iv 1 m G gs) (hV : norm V = norm (.agg (vmr pc acc x0 x1 x2 x3 x4 x5 x6 x7 x8 x9 x10 x11 x12 x13 x14 x15))) (hI : norm I = .int .i64 inn) (hO : norm O = .int .i64 outs)
    (h : ∀ v, StepR p pc acc [x0, x1, x2, x3, x4, x5, x6, x7, x8, x9, x10, x11, x12, x13, x14, x15] inn outs gs v → ∃ v', Go.Ab.full v' = v ∧ K v' m c) : CallT (fun _ => Try.prog) 13 [A, V, I, O, G] m c K := by
  refine CallT.sl2 (R0 := StepR p pc acc [x0, x1, x2, x3, x4, x5, x6, x7, x8, x9, x10, x11, x12, x13, x14, x15] inn outs gs) (fun a b => [a, .agg (vmr pc acc x0 x1 x2 x3 x4 x5 x6 x7 x8 x9 x10 x11 x12 x13 x14 x15), i6 inn, i6 outs, b]) hA hG (fun _ => rfl) (fun _ => rfl) (fun l A' B' a b => ⟨a, ArgV.flat rfl hV, ArgV.flat rfl hI, ArgV.flat rfl hO, b, trivial⟩) ?_ ?_ ?_ ?_ h
  · intro hp hg
    subst hp
    subst hg
    exact refZ0 pc acc x0 x1 x2 x3 x4 x5 x6 x7 x8 x9 x10 x11 x12 x13 x14 x15 inn outs _ stepR_bad (fun h1 => stepR_nil h1 rfl)
  · intro hg rows n cap opn hP
    subst hg
    have hn := hP.1
    exact refN p rows n cap opn hP pc acc x0 x1 x2 x3 x4 x5 x6 x7 x8 x9 x10 x11 x12 x13 x14 x15 inn outs _ stepR_bad (fun h1 hp => stepR_nil h1 hp) (fun h1 op arg hx nx hnx => by rw [hnx, hn]; exact stepR_go h1 hx)
  · intro hp rows n cap opn hG
    subst hp
    exact refZ1 gs rows n cap opn hG pc acc x0 x1 x2 x3 x4 x5 x6 x7 x8 x9 x10 x11 x12 x13 x14 x15 inn outs _ stepR_bad (fun h1 => stepR_nil h1 rfl)
  · intro rowsA na capa opna rowsB nb capb opnb hP hG
    have hn := hP.1
    exact refC p rowsA na capa opna hP gs rowsB nb capb opnb hG pc acc x0 x1 x2 x3 x4 x5 x6 x7 x8 x9 x10 x11 x12 x13 x14 x15 inn outs _ stepR_bad (fun h1 hp => stepR_nil h1 hp) (fun h1 op arg hx nx hnx => by rw [hnx, hn]; exact stepR_go h1 hx)
end Go.Proofs.Ytdaccjfijfnlfaa.Stp

namespace Go.Proofs.Ytdaccjfijfnlfaa.Cod
open Go.Ab
set_option linter.unusedVariables false
def tvals (x : Instr) : List Value := [.int .i64 x.op, .int .i64 x.arg]
def InstrIn (x : Instr) : Prop := inI x.op ∧ inI x.arg
theorem instr_open {row : List Value} (h : allOk [.int .i64, .int .i64] row) : ∃ x, row = tvals x ∧ InstrIn x := by
  rcases row with _ | ⟨a0, _ | ⟨a1, _ | ⟨a2, row⟩⟩⟩
  · exact h.elim
  · exact h.2.elim
  · obtain ⟨⟨x, rfl, hx⟩, ⟨y, rfl, hy⟩, _⟩ := h
    exact ⟨⟨x, y⟩, rfl, wf_i64 hx, wf_i64 hy⟩
  · exact h.2.2.elim
end Go.Proofs.Ytdaccjfijfnlfaa.Cod
namespace Go.Proofs.Ytdaccjfijfnlfaa.Stp
open Go.Ab Base Cod Kit
set_option linter.unusedVariables false
set_option linter.unusedSimpArgs false

theorem slTu {m : Mem} {A : AV} {p : List Instr} (h : Sl Cod.tv 2 m A p) : Sl tu 2 m A p := by
  cases h with
  | nil a b => exact .nil a b
  | «at» k o n cap opn rw alt rows a b d e f g => exact .at k o n cap opn rw alt rows a b d e (fun j x hx => by obtain ⟨row, h1, h2⟩ := f j x hx; exact ⟨row, h1, h2⟩) g
theorem list16 {ys : List Int} (h : ys.length = 16) : ∃ y0 y1 y2 y3 y4 y5 y6 y7 y8 y9 y10 y11 y12 y13 y14 y15, ys = [y0, y1, y2, y3, y4, y5, y6, y7, y8, y9, y10, y11, y12, y13, y14, y15] := by
  match ys, h with
  | [y0, y1, y2, y3, y4, y5, y6, y7, y8, y9, y10, y11, y12, y13, y14, y15], _ => exact ⟨y0, y1, y2, y3, y4, y5, y6, y7, y8, y9, y10, y11, y12, y13, y14, y15, rfl⟩
theorem dd_len {op arg nx acc inn outs : Int} {xs gs : List Int} : (dd op arg nx acc xs inn outs gs).xs.length = xs.length := by
  by_cases h1 : op = 1
  · subst h1; rfl
  by_cases h2 : op = 2
  · subst h2; rfl
  by_cases h3 : op = 3
  · subst h3; exact List.length_set
  by_cases h4 : op = 4
  · subst h4; rfl
  by_cases h5 : op = 5
  · subst h5; rfl
  by_cases h6 : op = 6
  · subst h6; rfl
  by_cases h7 : op = 7
  · subst h7; rfl
  by_cases h8 : op = 8
  · subst h8; rfl
  by_cases h9 : op = 9
  · subst h9
    by_cases e : bitOf outs arg.toNat = 0
    · rw [dd9a e]
    · rw [dd9b e]
  by_cases h10 : op = 10
  · subst h10
    by_cases e : gs.getD arg.toNat (-1) = -1
    · rw [dd10a e]
    · rw [dd10b rfl e]
  by_cases h11 : op = 11
  · subst h11; rfl
  · simp only [dd, if_neg h1, if_neg h2, if_neg h3, if_neg h4, if_neg h5, if_neg h6, if_neg h7, if_neg h8, if_neg h9, if_neg h10, if_neg h11]
theorem stepR_one {p : List Instr} {pc acc inn outs : Int} {xs gs : List Int} {v w : AV} (h : StepR p pc acc xs inn outs gs v) (h2 : StepR p pc acc xs inn outs gs w) : v = w := by
  by_cases hok : StepOk p pc acc xs inn outs gs
  · by_cases hp : p = []
    · rw [h.2.1 hok hp, h2.2.1 hok hp]
    · have hl : pc.toNat < p.length := by
        have h1 := hok.2.1
        have h3 : p.length ≠ 0 := fun e => hp (List.eq_nil_of_length_eq_zero e)
        omega
      obtain ⟨x, hx⟩ : ∃ x, p[pc.toNat]? = some x := ⟨_, List.getElem?_eq_getElem hl⟩
      rw [h.2.2 hok x.op x.arg hx, h2.2.2 hok x.op x.arg hx]
  · rw [h.1 hok, h2.1 hok]
theorem stepR_form {p : List Instr} {gs : List Int} {pc acc x0 x1 x2 x3 x4 x5 x6 x7 x8 x9 x10 x11 x12 x13 x14 x15 inn outs : Int} {v : AV} (h : StepR p pc acc [x0, x1, x2, x3, x4, x5, x6, x7, x8, x9, x10, x11, x12, x13, x14, x15] inn outs gs v) : ∃ (q0 q1 q2 q3 q4 q5 q6 q7 q8 q9 q10 q11 q12 q13 q14 q15 q16 q17 w g vv e : Int) (t f : Bool), v = .tuple [.agg [i6 q0, i6 q1, i6 q2, i6 q3, i6 q4, i6 q5, i6 q6, i6 q7, i6 q8, i6 q9, i6 q10, i6 q11, i6 q12, i6 q13, i6 q14, i6 q15, i6 q16, i6 q17], .agg [.bool t, i6 w, i6 g, i6 vv, .bool f], i6 e] ∧ (e = 0 ∨ e = 1000) := by
  by_cases hok : StepOk p pc acc [x0, x1, x2, x3, x4, x5, x6, x7, x8, x9, x10, x11, x12, x13, x14, x15] inn outs gs
  · by_cases hp : p = []
    · exact ⟨pc, acc, x0, x1, x2, x3, x4, x5, x6, x7, x8, x9, x10, x11, x12, x13, x14, x15, -1, -1, 0, 0, false, false, h.2.1 hok hp, .inl rfl⟩
    · have hl : pc.toNat < p.length := by
        have h1 := hok.2.1
        have h3 : p.length ≠ 0 := fun e => hp (List.eq_nil_of_length_eq_zero e)
        omega
      obtain ⟨x, hx⟩ : ∃ x, p[pc.toNat]? = some x := ⟨_, List.getElem?_eq_getElem hl⟩
      have e := h.2.2 hok x.op x.arg hx
      obtain ⟨o, ho⟩ : ∃ o, o = dd x.op x.arg ((pc + 1) % p.length) acc [x0, x1, x2, x3, x4, x5, x6, x7, x8, x9, x10, x11, x12, x13, x14, x15] inn outs gs := ⟨_, rfl⟩
      have hlen : o.xs.length = 16 := by rw [ho, dd_len]; rfl
      rw [← ho] at e
      obtain ⟨a, b, l, t, w, g, vv, f⟩ := o
      obtain ⟨y0, y1, y2, y3, y4, y5, y6, y7, y8, y9, y10, y11, y12, y13, y14, y15, rfl⟩ := list16 hlen
      exact ⟨a, b, y0, y1, y2, y3, y4, y5, y6, y7, y8, y9, y10, y11, y12, y13, y14, y15, w, g, vv, 0, t, f, e, .inl rfl⟩
  · exact ⟨0, 0, 0, 0, 0, 0, 0, 0, 0, 0, 0, 0, 0, 0, 0, 0, 0, 0, 0, 0, 0, 1000, false, false, h.1 hok, .inr rfl⟩
/-- A step, its answer in one form. -/
theorem stepF {p : List Instr} {gs : List Int} {pc acc x0 x1 x2 x3 x4 x5 x6 x7 x8 x9 x10 x11 x12 x13 x14 x15 inn outs : Int} {A V I O G : AV} {m : Mem} {c : Nat} {K : AV → Mem → Nat → Prop} (hA : Sl tu 2 m A p) (hG : Sl iv 1 m G gs) (hV : norm V = norm (.agg (vmr pc acc x0 x1 x2 x3 x4 x5 x6 x7 x8 x9 x10 x11 x12 x13 x14 x15))) (hI : norm I = .int .i64 inn) (hO : norm O = .int .i64 outs)
    (h : ∀ (q0 q1 q2 q3 q4 q5 q6 q7 q8 q9 q10 q11 q12 q13 q14 q15 q16 q17 w g vv e : Int) (t f : Bool), StepR p pc acc [x0, x1, x2, x3, x4, x5, x6, x7, x8, x9, x10, x11, x12, x13, x14, x15] inn outs gs (.tuple [.agg [i6 q0, i6 q1, i6 q2, i6 q3, i6 q4, i6 q5, i6 q6, i6 q7, i6 q8, i6 q9, i6 q10, i6 q11, i6 q12, i6 q13, i6 q14, i6 q15, i6 q16, i6 q17], .agg [.bool t, i6 w, i6 g, i6 vv, .bool f], i6 e]) → (e = 0 ∨ e = 1000) → K (.tuple [.agg [i6 q0, i6 q1, i6 q2, i6 q3, i6 q4, i6 q5, i6 q6, i6 q7, i6 q8, i6 q9, i6 q10, i6 q11, i6 q12, i6 q13, i6 q14, i6 q15, i6 q16, i6 q17], .agg [.bool t, i6 w, i6 g, i6 vv, .bool f], i6 e]) m c) : CallT (fun _ => Try.prog) 12 [A, V, I, O, G] m c K :=
  stepT hA hG hV hI hO fun v hv => by
    obtain ⟨q0, q1, q2, q3, q4, q5, q6, q7, q8, q9, q10, q11, q12, q13, q14, q15, q16, q17, w, g, vv, e, t, f, rfl, he⟩ := stepR_form hv
    exact ⟨_, rfl, h _ _ _ _ _ _ _ _ _ _ _ _ _ _ _ _ _ _ w g vv e t f hv he⟩
/-- The reference's step, where the other's answer is known. -/
theorem refF {p : List Instr} {gs : List Int} {pc acc x0 x1 x2 x3 x4 x5 x6 x7 x8 x9 x10 x11 x12 x13 x14 x15 inn outs : Int} {A V I O G : AV} {m : Mem} {c : Nat} {K : AV → Mem → Nat → Prop} {v0 v' : AV} (hA : Sl tu 2 m A p) (hG : Sl iv 1 m G gs) (hV : norm V = norm (.agg (vmr pc acc x0 x1 x2 x3 x4 x5 x6 x7 x8 x9 x10 x11 x12 x13 x14 x15))) (hI : norm I = .int .i64 inn) (hO : norm O = .int .i64 outs)
    (hs : StepR p pc acc [x0, x1, x2, x3, x4, x5, x6, x7, x8, x9, x10, x11, x12, x13, x14, x15] inn outs gs v0) (hv : Go.Ab.full v' = v0) (h : K v' m c) : CallT (fun _ => Try.prog) 13 [A, V, I, O, G] m c K :=
  refT hA hG hV hI hO fun v hv2 => ⟨v', by rw [hv, stepR_one hs hv2], h⟩
theorem boolSplit {b : Bool} {K : Bool → Prop} (h1 : K true) (h2 : K false) : K b := by cases b <;> assumption
/-- The name of the block that a slot points to. -/
def pn (s : St) (t d : Nat) : Nat := match s.sl.getD t none with
  | some (.ptr k _ _ _) => k
  | some (.sym (.ptr k _ _ _)) => k
  | _ => d
theorem boolSplitE {b : Bool} {K : Bool → Prop} (h1 : b = true → K true) (h2 : b = false → K false) : K b := by
  cases b
  · exact h2 rfl
  · exact h1 rfl
theorem took_no {t : Bool} {op : Int} (h : t = true ↔ op = 8) (ht : t = false) : ¬ op = 8 := fun e => by rw [h.2 e] at ht; cases ht
theorem getD_set {xs : List Int} {a : Int} {k n : Nat} (h : k < xs.length) : (xs.set k a).getD n 0 = if k = n then a else xs.getD n 0 := by
  rw [List.getD_eq_getElem?_getD, List.getD_eq_getElem?_getD, List.getElem?_set]
  split
  · first
      | rfl
      | (rw [if_pos h]; rfl)
  · rfl
theorem getD_mem {xs : List Int} {n : Nat} (h : n < xs.length) : xs.getD n 0 ∈ xs := by
  rw [List.getD_eq_getElem?_getD, List.getElem?_eq_getElem h]
  exact List.getElem_mem h
/-- What an instruction's outcome keeps. -/
structure KeepR (op arg acc : Int) (xs : List Int) (len : Nat) (o : Out) : Prop where
  kpc : 0 ≤ o.pc ∧ o.pc.toNat < len
  kacc : Wd o.acc
  kmem : ∀ n, n < 16 → o.xs.getD n 0 = if op = 3 ∧ arg.toNat = n then acc else xs.getD n 0
  ktook : o.took = true ↔ op = 8
  kfault : o.f = true → op = 9 ∨ op = 10
  kwrite : 0 ≤ o.w → op = 9 ∧ o.v = acc
  kgot : 0 ≤ o.g → op = 10
theorem keepR {op arg nx acc inn outs : Int} {xs gs : List Int} {len : Nat} (hl : xs.length = 16) (hi : OkI (len : Int) op arg) (hn : 0 ≤ nx ∧ nx.toNat < len) (h0 : 0 < len) (hacc : Wd acc) (hxs : ∀ x ∈ xs, Wd x) (ha : AroundOk inn outs gs) : KeepR op arg acc xs len (dd op arg nx acc xs inn outs gs) := by
  have hw0 : Wd 0 := by unfold Wd; omega
  have hne : ∀ n, op ≠ 3 → xs.getD n 0 = if op = 3 ∧ arg.toNat = n then acc else xs.getD n 0 := fun n e => by rw [if_neg (fun h => e h.1)]
  have h12 : op = 0 ∨ op = 1 ∨ op = 2 ∨ op = 3 ∨ op = 4 ∨ op = 5 ∨ op = 6 ∨ op = 7 ∨ op = 8 ∨ op = 9 ∨ op = 10 ∨ op = 11 := by unfold OkI at hi; omega
  have harg : 0 ≤ arg := hi.1
  unfold OkI at hi
  rcases h12 with rfl | rfl | rfl | rfl | rfl | rfl | rfl | rfl | rfl | rfl | rfl | rfl
  · exact ⟨hn, hacc, fun n _ => hne n (by decide), by simp [dd], by simp [dd], by simp [dd], by simp [dd]⟩
  · exact ⟨hn, (by show Wd arg; unfold Wd; omega), fun n _ => hne n (by decide), by simp [dd], by simp [dd], by simp [dd], by simp [dd]⟩
  · exact ⟨hn, hxs _ (getD_mem (by omega)), fun n _ => hne n (by decide), by simp [dd], by simp [dd], by simp [dd], by simp [dd]⟩
  · exact ⟨hn, hacc, fun n _ => (getD_set (by omega)).trans (by simp), by simp [dd], by simp [dd], by simp [dd], by simp [dd]⟩
  · exact ⟨hn, (by show Wd ((acc + xs.getD arg.toNat 0) % 4294967296); unfold Wd; omega), fun n _ => hne n (by decide), by simp [dd], by simp [dd], by simp [dd], by simp [dd]⟩
  · exact ⟨hn, (by show Wd ((acc - xs.getD arg.toNat 0) % 4294967296); unfold Wd; omega), fun n _ => hne n (by decide), by simp [dd], by simp [dd], by simp [dd], by simp [dd]⟩
  · exact ⟨(by show 0 ≤ arg ∧ arg.toNat < len; omega), hacc, fun n _ => hne n (by decide), by simp [dd], by simp [dd], by simp [dd], by simp [dd]⟩
  · by_cases e : acc = 0
    · rw [dd7a e]
      exact ⟨(by show 0 ≤ arg ∧ arg.toNat < len; omega), hacc, fun n _ => hne n (by decide), by simp, by simp, by simp, by simp⟩
    · rw [dd7b e]
      exact ⟨hn, hacc, fun n _ => hne n (by decide), by simp, by simp, by simp, by simp⟩
  · exact ⟨hn, ha.1, fun n _ => hne n (by decide), by simp [dd], by simp [dd], by simp [dd], by simp [dd]⟩
  · by_cases e : bitOf outs arg.toNat = 0
    · rw [dd9a e]
      exact ⟨⟨Int.le_refl 0, h0⟩, hw0, fun n _ => hne n (by decide), by simp, by simp, by simp, by simp⟩
    · rw [dd9b e]
      exact ⟨hn, hacc, fun n _ => hne n (by decide), by simp, by simp, by simp, by simp⟩
  · by_cases e : gs.getD arg.toNat (-1) = -1
    · rw [dd10a e]
      exact ⟨⟨Int.le_refl 0, h0⟩, hw0, fun n _ => hne n (by decide), by simp, by simp, by simp, by simp⟩
    · have hlt : arg.toNat < gs.length := by
        by_cases h : arg.toNat < gs.length
        · exact h
        · exact absurd (by rw [List.getD_eq_getElem?_getD, List.getElem?_eq_none (by omega)]; rfl) e
      have hwd : Wd (gs.getD arg.toNat (-1)) := by
        rw [List.getD_eq_getElem?_getD, List.getElem?_eq_getElem hlt] at e ⊢
        rcases ha.2.2.2 _ (List.getElem_mem hlt) with h | h
        · exact absurd h e
        · exact h
      rw [dd10b rfl e]
      exact ⟨hn, hwd, fun n _ => hne n (by decide), by simp, by simp, by simp, by simp⟩
  · exact ⟨⟨Int.le_refl 0, h0⟩, hacc, fun n _ => hne n (by decide), by simp [dd], by simp [dd], by simp [dd], by simp [dd]⟩
/-- A step: what it keeps. -/
theorem stepKeep {p : List Instr} {gs : List Int} {pc acc x0 x1 x2 x3 x4 x5 x6 x7 x8 x9 x10 x11 x12 x13 x14 x15 inn outs : Int} {A V I O G : AV} {m : Mem} {c : Nat} {K : AV → Mem → Nat → Prop} (hA : Sl tu 2 m A p) (hG : Sl iv 1 m G gs) (hV : norm V = norm (.agg (vmr pc acc x0 x1 x2 x3 x4 x5 x6 x7 x8 x9 x10 x11 x12 x13 x14 x15))) (hI : norm I = .int .i64 inn) (hO : norm O = .int .i64 outs)
    (hbad : ¬ StepOk p pc acc [x0, x1, x2, x3, x4, x5, x6, x7, x8, x9, x10, x11, x12, x13, x14, x15] inn outs gs → K noneB m c)
    (hnil : p = [] → K (.tuple [.agg (vmr pc acc x0 x1 x2 x3 x4 x5 x6 x7 x8 x9 x10 x11 x12 x13 x14 x15), .agg [.bool false, .int .i64 (-1), .int .i64 (-1), .int .i64 0, .bool false], .int .i64 0]) m c)
    (hgo : ∀ (op arg qa qb y0 y1 y2 y3 y4 y5 y6 y7 y8 y9 y10 y11 y12 y13 y14 y15 w g vv : Int) (t f : Bool), p[pc.toNat]? = some ⟨op, arg⟩ → (0 ≤ pc ∧ pc.toNat < p.length) → 0 ≤ arg → KeepR op arg acc [x0, x1, x2, x3, x4, x5, x6, x7, x8, x9, x10, x11, x12, x13, x14, x15] p.length ⟨qa, qb, [y0, y1, y2, y3, y4, y5, y6, y7, y8, y9, y10, y11, y12, y13, y14, y15], t, w, g, vv, f⟩ → K (.tuple [.agg [i6 qa, i6 qb, i6 y0, i6 y1, i6 y2, i6 y3, i6 y4, i6 y5, i6 y6, i6 y7, i6 y8, i6 y9, i6 y10, i6 y11, i6 y12, i6 y13, i6 y14, i6 y15], .agg [.bool t, i6 w, i6 g, i6 vv, .bool f], .int .i64 0]) m c) : CallT (fun _ => Try.prog) 12 [A, V, I, O, G] m c K :=
  stepT hA hG hV hI hO fun v hv => by
    by_cases hok : StepOk p pc acc [x0, x1, x2, x3, x4, x5, x6, x7, x8, x9, x10, x11, x12, x13, x14, x15] inn outs gs
    · by_cases hp : p = []
      · exact ⟨_, (hv.2.1 hok hp).symm ▸ rfl, hnil hp⟩
      · have hl : 0 ≤ pc ∧ pc.toNat < p.length := by
          have h1 := hok.2.1
          have h3 : p.length ≠ 0 := fun e => hp (List.eq_nil_of_length_eq_zero e)
          omega
        obtain ⟨x, hx⟩ : ∃ x, p[pc.toNat]? = some x := ⟨_, List.getElem?_eq_getElem hl.2⟩
        have e := hv.2.2 hok x.op x.arg hx
        have hnx : 0 ≤ (pc + 1) % (p.length : Int) ∧ ((pc + 1) % (p.length : Int)).toNat < p.length := by
          have h1 := Int.emod_nonneg (pc + 1) (b := (p.length : Int)) (by omega)
          have h2 := Int.emod_lt_of_pos (pc + 1) (b := (p.length : Int)) (by omega)
          omega
        have hk := keepR (nx := (pc + 1) % (p.length : Int)) (gs := gs) (outs := outs) (inn := inn) (xs := [x0, x1, x2, x3, x4, x5, x6, x7, x8, x9, x10, x11, x12, x13, x14, x15]) rfl (okI_at hok.1.2 hx) hnx (by omega) hok.2.2.1 hok.2.2.2.1 hok.2.2.2.2
        obtain ⟨o, ho⟩ : ∃ o, o = dd x.op x.arg ((pc + 1) % p.length) acc [x0, x1, x2, x3, x4, x5, x6, x7, x8, x9, x10, x11, x12, x13, x14, x15] inn outs gs := ⟨_, rfl⟩
        have hlen : o.xs.length = 16 := by rw [ho, dd_len]; rfl
        rw [← ho] at e hk
        obtain ⟨a, b, l, t, w, g, vv, f⟩ := o
        obtain ⟨y0, y1, y2, y3, y4, y5, y6, y7, y8, y9, y10, y11, y12, y13, y14, y15, rfl⟩ := list16 hlen
        exact ⟨.tuple [.agg [i6 a, i6 b, i6 y0, i6 y1, i6 y2, i6 y3, i6 y4, i6 y5, i6 y6, i6 y7, i6 y8, i6 y9, i6 y10, i6 y11, i6 y12, i6 y13, i6 y14, i6 y15], .agg [.bool t, i6 w, i6 g, i6 vv, .bool f], .int .i64 0], e.symm ▸ rfl, hgo x.op x.arg a b y0 y1 y2 y3 y4 y5 y6 y7 y8 y9 y10 y11 y12 y13 y14 y15 w g vv t f hx hl (okI_at hok.1.2 hx).1 hk⟩
    · exact ⟨noneB, (hv.1 hok).symm ▸ rfl, hbad hok⟩
end Go.Proofs.Ytdaccjfijfnlfaa.Stp
