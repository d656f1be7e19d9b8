/- Numbers' low bits. A part's machine: which may be. What stands around a machine: which may be. pvm.Step: any program, machine, ports. A machine beside no program; what stands around it, with no numbers to be got. -/
import Derived.Test.YtdaccjfijfnlfaaBase
import Derived.Test.YtdaccjfijfnlfaaAb45
import Derived.Test.YtdaccjfijfnlfaaCodM
namespace Go.Proofs.Ytdaccjfijfnlfaa.Br
open Go.Ab Base
theorem andM {k : Nat} {a v : Int} (hk : k ≤ 62) (h : v = IntKind.wrap .i64 ((BitVec.ofInt (IntKind.bits .i64) a &&& BitVec.ofInt (IntKind.bits .i64) ((2 : Int) ^ k - 1)).toNat : Int)) : v = a % (2 ^ k : Nat) := by
  have hp : (2 : Nat) ^ k ≤ 2 ^ 62 := Nat.pow_le_pow_right (by omega) hk
  have hp0 : 0 < (2 : Nat) ^ k := Nat.two_pow_pos k
  have e64 : ((2 ^ IntKind.bits .i64 : Nat) : Int) = 18446744073709551616 := by kernel_rfl
  have h1 : (BitVec.ofInt (IntKind.bits .i64) a).toNat = (a % 18446744073709551616).toNat := by
    rw [BitVec.toNat_ofInt, e64]
  have h2 : (BitVec.ofInt (IntKind.bits .i64) ((2 : Int) ^ k - 1)).toNat = 2 ^ k - 1 := by
    rw [BitVec.toNat_ofInt, e64]
    have e : (2 : Int) ^ k = ((2 ^ k : Nat) : Int) := by simp
    rw [e]
    omega
  rw [BitVec.toNat_and, h1, h2, Nat.and_two_pow_sub_one_eq_mod, wrap_i64] at h
  have hlt : (a % 18446744073709551616).toNat % 2 ^ k < 2 ^ k := Nat.mod_lt _ hp0
  have e : (((a % 18446744073709551616).toNat % 2 ^ k : Nat) : Int) = a % ((2 ^ k : Nat) : Int) := by
    rw [Int.natCast_emod, Int.toNat_of_nonneg (Int.emod_nonneg _ (by decide))]
    refine Int.emod_emod_of_dvd a ?_
    have : (18446744073709551616 : Int) = ((2 ^ 64 : Nat) : Int) := by decide
    rw [this]
    exact Int.natCast_dvd_natCast.2 (Nat.pow_dvd_pow 2 (by omega))
  rw [← e]
  omega
theorem and32 {a v : Int} (h : v = IntKind.wrap .i64 ((BitVec.ofInt (IntKind.bits .i64) a &&& BitVec.ofInt (IntKind.bits .i64) 4294967295).toNat : Int)) : v = a % 4294967296 := andM (k := 32) (by decide) h
theorem and16 {a v : Int} (h : v = IntKind.wrap .i64 ((BitVec.ofInt (IntKind.bits .i64) a &&& BitVec.ofInt (IntKind.bits .i64) 65535).toNat : Int)) : v = a % 65536 := andM (k := 16) (by decide) h
theorem and8 {a v : Int} (h : v = IntKind.wrap .i64 ((BitVec.ofInt (IntKind.bits .i64) a &&& BitVec.ofInt (IntKind.bits .i64) 255).toNat : Int)) : v = a % 256 := andM (k := 8) (by decide) h
theorem and4 {a v : Int} (h : v = IntKind.wrap .i64 ((BitVec.ofInt (IntKind.bits .i64) a &&& BitVec.ofInt (IntKind.bits .i64) 15).toNat : Int)) : v = a % 16 := andM (k := 4) (by decide) h
theorem and3' {a v : Int} (h : v = IntKind.wrap .i64 ((BitVec.ofInt (IntKind.bits .i64) a &&& BitVec.ofInt (IntKind.bits .i64) 7).toNat : Int)) : v = a % 8 := andM (k := 3) (by decide) h
theorem row0 {R : List AV} {K : List AV → Prop} (k : K R) : ∃ row, [R][0]? = some row ∧ K row := ⟨R, rfl, k⟩
end Go.Proofs.Ytdaccjfijfnlfaa.Br

namespace Go.Proofs.Ytdaccjfijfnlfaa.Stp
open Go.Ab Base
set_option linter.unusedVariables false
set_option linter.unusedSimpArgs false

def i6 (x : Int) : AV := .sym (.int .i64 x)
/-- May a word be? -/
def Wd (x : Int) : Prop := 0 ≤ x ∧ x < 4294967296
/-- A machine's cells. -/
def vmr (pc acc x0 x1 x2 x3 x4 x5 x6 x7 x8 x9 x10 x11 x12 x13 x14 x15 : Int) : List AV := [i6 pc, i6 acc, i6 x0, i6 x1, i6 x2, i6 x3, i6 x4, i6 x5, i6 x6, i6 x7, i6 x8, i6 x9, i6 x10, i6 x11, i6 x12, i6 x13, i6 x14, i6 x15]
def MemOk (x0 x1 x2 x3 x4 x5 x6 x7 x8 x9 x10 x11 x12 x13 x14 x15 : Int) : Prop := Wd x0 ∧ Wd x1 ∧ Wd x2 ∧ Wd x3 ∧ Wd x4 ∧ Wd x5 ∧ Wd x6 ∧ Wd x7 ∧ Wd x8 ∧ Wd x9 ∧ Wd x10 ∧ Wd x11 ∧ Wd x12 ∧ Wd x13 ∧ Wd x14 ∧ Wd x15
theorem wordC (x : Int) (m : Mem) (n : Nat) : CallS Try.prog 31 [.sym (.int .i64 x)] m n fun v m' n' => (∃ r, (r = true ↔ Wd x) ∧ v = .bool r) ∧ m' = m ∧ n' = n := by
  obtain ⟨R, hR⟩ : ∃ R : Prop, R = Wd x := ⟨_, rfl⟩
  rw [← hR]
  refine CallS.at0 X Try.func31 (by decide) rfl (d := 2) (R0 := fun v => ∃ r, (r = true ↔ R) ∧ v = .bool r) ?_ m n
  cbv
  repeat' first
    | ((with_reducible apply And.intro) <;> (with_reducible intro h) <;> cbv)
  all_goals
    refine ⟨_, ?_, rfl⟩
    rw [hR]
    unfold Wd
    simp only [reduceCtorEq, true_iff, false_iff]
    omega

set_option maxRecDepth 200000 in
set_option maxHeartbeats 8000000 in
theorem vmMayC (pc acc x0 x1 x2 x3 x4 x5 x6 x7 x8 x9 x10 x11 x12 x13 x14 x15 : Int) (n cap : Nat) (opn : Bool) (hn : n ≤ 140737488355328) :
    CallS Try.prog 21 [.sym (.slice 1 2 0 n cap opn none), .sym (.ptr 0 18 0 0)] (memB [some (.cells false 18 [vmr pc acc x0 x1 x2 x3 x4 x5 x6 x7 x8 x9 x10 x11 x12 x13 x14 x15])] []) 2 fun v _ _ => v.flat = true ∧ ∃ r, (r = true ↔ (0 ≤ pc ∧ pc.toNat < max n 1) ∧ Wd acc ∧ MemOk x0 x1 x2 x3 x4 x5 x6 x7 x8 x9 x10 x11 x12 x13 x14 x15) ∧ v = .bool r := by
  obtain ⟨R, hR⟩ : ∃ R : Prop, R = ((0 ≤ pc ∧ pc.toNat < max n 1) ∧ Wd acc ∧ MemOk x0 x1 x2 x3 x4 x5 x6 x7 x8 x9 x10 x11 x12 x13 x14 x15) := ⟨_, rfl⟩
  rw [← hR]
  refine CallS.normA (vs' := [.sym (.slice 1 2 0 n cap opn none), .ptr 0 18 0 0]) rfl ?_
  refine CallS.enter X Try.func21 (by decide) ?_
  cbv
  repeat' first
    | with_reducible exact trivial
    | ((with_reducible intro v hv); (try rw [wrap_i64] at hv); cbv)
    | ((with_reducible apply uAnd); (focus first | kernel_rfl | omega); try cbv)
    | ((with_reducible apply And.intro) <;> (with_reducible intro h) <;> first | ((with_reducible exfalso); omega) | cbv)
    | ((with_reducible apply CallT.pureB (wordC _ _ _)) <;> (with_reducible intro h) <;> (unfold Wd at h) <;> cbv)
    | ((with_reducible apply LoopT.one X); cbv)
  all_goals
    refine ⟨_, ?_, rfl⟩
    rw [hR]
    unfold MemOk Wd
    simp only [reduceCtorEq, true_iff, false_iff]
    omega
end Go.Proofs.Ytdaccjfijfnlfaa.Stp

namespace Go.Proofs.Ytdaccjfijfnlfaa.Stp
open Go.Ab Base Cod Kit
set_option linter.unusedVariables false
set_option linter.unusedSimpArgs false

/-- May numbers be got? -/
def GetsOk (gs : List Int) : Prop := gs.length ≤ 8 ∧ ∀ g ∈ gs, g = -1 ∨ Wd g
def AroundOk (inn outs : Int) (gs : List Int) : Prop := Wd inn ∧ (0 ≤ outs ∧ outs ≤ 255) ∧ GetsOk gs
/-- A step's cells: the machine's, what stands around it, what it does. -/
def stp (vm : List AV) (inn outs : Int) (G : AV) : List AV := vm ++ [i6 inn, i6 outs, G, .bool false, .int .i64 (-1), .int .i64 (-1), .int .i64 0, .bool false]

set_option maxRecDepth 200000 in
set_option maxHeartbeats 8000000 in
theorem aroundC (gs : List Int) (rowsG : List (List AV)) (ng capG : Nat) (opnG : Bool) (hG : Hat iv gs rowsG ng) (pc acc x0 x1 x2 x3 x4 x5 x6 x7 x8 x9 x10 x11 x12 x13 x14 x15 inn outs : Int) :
    CallS Try.prog 22 [.ptr 1 26 0 18] (memB [some (.cells false 1 rowsG), some (.cells false 26 [stp (vmr pc acc x0 x1 x2 x3 x4 x5 x6 x7 x8 x9 x10 x11 x12 x13 x14 x15) inn outs (.sym (.slice 0 1 0 ng capG opnG none))])] []) 2 fun v m' c' =>
      (∃ r, (r = true ↔ AroundOk inn outs gs) ∧ v = .bool r) ∧ m' = memB [some (.cells false 1 rowsG), some (.cells false 26 [stp (vmr pc acc x0 x1 x2 x3 x4 x5 x6 x7 x8 x9 x10 x11 x12 x13 x14 x15) inn outs (.sym (.slice 0 1 0 ng capG opnG none))])] [] ∧ c' = 2 := by
  obtain ⟨hng, hzg, hfg, hrg⟩ := hG
  refine CallS.ends rfl ?_
  refine CallS.enter X Try.func22 (by decide) ?_
  cbv
  repeat' first
    | with_reducible exact trivial
    | ((with_reducible apply CallT.pureB (wordC _ _ _)) <;> (with_reducible intro h) <;> (unfold Wd at h) <;> cbv)
    | ((with_reducible intro v hv); (try rw [wrap_i64] at hv); cbv)
    | ((with_reducible apply uAnd); (focus first | kernel_rfl | omega); try cbv)
    | ((with_reducible apply And.intro) <;> (with_reducible intro h) <;> first | ((with_reducible exfalso); omega) | cbv)
  all_goals first
    | (
       refine ⟨[], [], .bool false, [some (.cells false 1 rowsG), some (.cells false 26 [stp (vmr pc acc x0 x1 x2 x3 x4 x5 x6 x7 x8 x9 x10 x11 x12 x13 x14 x15) inn outs (.sym (.slice 0 1 0 ng capG opnG none))])], Head.mk rfl rfl ?_ ?_ ?_ ?_, ⟨false, ?_, rfl⟩, rfl, rfl⟩
       rotate_right
       · (simp only [reduceCtorEq, false_iff]; rintro ⟨h1, h2, h3, _⟩; unfold Wd at h1; omega)
       all_goals cbv
       exact ⟨BlkLe.flat (fun h => h) hfg, BlkLe.cells (fun h => h) (RowsLe.cons rfl RowsLe.nil), trivial⟩)
    | skip
  · refine LoopT.hide fun K0 hK => ?_
    with_reducible
     refine LoopT.invR X (α := Int) 50 [] (fun s => oI (s.at 38)) (fun s => [])
      (fun a => [none, none, none, none, none, none, none, none, none, none, none, none, none, none, none, none, none, none, none, none, none, none, none, none, none, none, none, none, none, none, none, none, none, none, none, none, some (.sym (.slice 0 1 0 ng capG opnG none)), some (.sym (.int .i64 v)), some (.sym (.int .i64 a))])
      (fun a => [some (.cells false 1 rowsG), some (.cells false 26 [stp (vmr pc acc x0 x1 x2 x3 x4 x5 x6 x7 x8 x9 x10 x11 x12 x13 x14 x15) inn outs (.sym (.slice 0 1 0 ng capG opnG none))])])
      (fun a => 0 ≤ a ∧ a.toNat ≤ ng ∧ ∀ g ∈ gs.take a.toNat, g = -1 ∨ Wd g) (fun a => ng - a.toNat) ?_ ?_
    · cbv
      refine And.intro (HoldAt.mk ?_) (Head.mk ?_ ?_ ?_ ?_ ?_ ?_)
      · exact ⟨by decide, by simp, fun g hg => by simp at hg⟩
      all_goals cbv
      exact ⟨BlkLe.flat (fun h => h) hfg, BlkLe.cells (fun h => h) (RowsLe.cons rfl RowsLe.nil), trivial⟩
    · rintro j ⟨j1, j2, j3⟩
      cbv
      repeat' first
        | with_reducible exact trivial
        | ((with_reducible apply hK); cbv)
        | ((with_reducible apply CallT.pureB (wordC _ _ _)) <;> (with_reducible intro hwd) <;> cbv)
        | ((with_reducible apply ldAt hrx); (focus omega); cbv)
        | ((with_reducible apply ld hrg); (focus omega); (with_reducible intro x hx); (rw [show v = j.toNat by omega] at hx); (have hrx : rowsG[j.toNat]? = some [.sym (.int .i64 x)] := hrg _ _ hx); cbv)
        | ((with_reducible intro v hv); (try rw [wrap_i64] at hv); cbv)
        | ((with_reducible apply uAnd); (focus first | kernel_rfl | omega); try cbv)
        | ((with_reducible apply And.intro) <;> (with_reducible intro h) <;> first | ((with_reducible exfalso); omega) | cbv)
      all_goals first
        | (
           refine ⟨[], [], .bool true, [some (.cells false 1 rowsG), some (.cells false 26 [stp (vmr pc acc x0 x1 x2 x3 x4 x5 x6 x7 x8 x9 x10 x11 x12 x13 x14 x15) inn outs (.sym (.slice 0 1 0 ng capG opnG none))])], Head.mk rfl rfl ?_ ?_ ?_ ?_, ⟨true, ?_, rfl⟩, rfl, rfl⟩
           rotate_right
           · exact ⟨fun _ => ⟨by unfold Wd; omega, by omega, by omega, by rwa [List.take_of_length_le (by omega)] at j3⟩, fun _ => rfl⟩
           all_goals cbv
           exact ⟨BlkLe.flat (fun h => h) hfg, BlkLe.cells (fun h => h) (RowsLe.cons rfl RowsLe.nil), trivial⟩)
        | (
           refine ⟨[], [], .bool false, [some (.cells false 1 rowsG), some (.cells false 26 [stp (vmr pc acc x0 x1 x2 x3 x4 x5 x6 x7 x8 x9 x10 x11 x12 x13 x14 x15) inn outs (.sym (.slice 0 1 0 ng capG opnG none))])], Head.mk rfl rfl ?_ ?_ ?_ ?_, ⟨false, ?_, rfl⟩, rfl, rfl⟩
           rotate_right
           · (simp only [reduceCtorEq, false_iff]; rintro ⟨_, _, _, h4⟩; rcases h4 x (List.mem_of_getElem? hx) with h5 | h5 <;> contradiction)
           all_goals cbv
           exact ⟨BlkLe.flat (fun h => h) hfg, BlkLe.cells (fun h => h) (RowsLe.cons rfl RowsLe.nil), trivial⟩)
        | (refine And.intro (And.intro (HoldAt.mk ?_) True.intro) (Head.mk ?_ ?_ ?_ ?_ ?_ ?_)
           · have e4 : v.toNat = j.toNat + 1 := by omega
             refine ⟨⟨by omega, by omega, ?_⟩, by omega⟩
             rw [e4, take_succ_at hx]
             intro g hg
             rcases List.mem_append.1 hg with hg | hg
             · exact j3 g hg
             · rw [List.mem_singleton.1 hg]
               first
                 | exact .inl h
                 | exact .inr hwd
           all_goals cbv
           exact ⟨BlkLe.flat (fun h => h) hfg, BlkLe.cells (fun h => h) (RowsLe.cons rfl RowsLe.nil), trivial⟩)
end Go.Proofs.Ytdaccjfijfnlfaa.Stp

namespace Go.Proofs.Ytdaccjfijfnlfaa.Stp
open Go.Ab Base Cod Kit
set_option linter.unusedVariables false
set_option linter.unusedSimpArgs false

/-- A call of pvm.may, wherever the machine lies. -/
theorem vmMayT {pc acc x0 x1 x2 x3 x4 x5 x6 x7 x8 x9 x10 x11 x12 x13 x14 x15 : Int} {n cap k kp : Nat} {opn rw : Bool} {A B : AV} {m : Mem} {c : Nat} {row : List AV} {K : AV → Mem → Nat → Prop} (hA : norm A = .slice kp 2 0 n cap opn none) (hB : norm B = .ptr k 18 0 0) (hk : m.get k = some (.cells rw 18 [row])) (hr : normL row = normL (vmr pc acc x0 x1 x2 x3 x4 x5 x6 x7 x8 x9 x10 x11 x12 x13 x14 x15)) (hn : n ≤ 140737488355328)
    (h1 : (0 ≤ pc ∧ pc.toNat < max n 1) ∧ Wd acc ∧ MemOk x0 x1 x2 x3 x4 x5 x6 x7 x8 x9 x10 x11 x12 x13 x14 x15 → K (.bool true) m c) (h2 : ¬ ((0 ≤ pc ∧ pc.toNat < max n 1) ∧ Wd acc ∧ MemOk x0 x1 x2 x3 x4 x5 x6 x7 x8 x9 x10 x11 x12 x13 x14 x15) → K (.bool false) m c) : CallT (fun _ => Try.prog) 21 [A, B] m c K := by
  refine CallT.pureB (A := (0 ≤ pc ∧ pc.toNat < max n 1) ∧ Wd acc ∧ MemOk x0 x1 x2 x3 x4 x5 x6 x7 x8 x9 x10 x11 x12 x13 x14 x15) (CallS.view (R0 := fun v => ∃ r, (r = true ↔ (0 ≤ pc ∧ pc.toNat < max n 1) ∧ Wd acc ∧ MemOk x0 x1 x2 x3 x4 x5 x6 x7 x8 x9 x10 x11 x12 x13 x14 x15) ∧ v = .bool r) [⟨k, 0, none, 18⟩, ⟨kp, 0, none, 2⟩] (vs0 := [.sym (.slice 1 2 0 n cap opn none), .sym (.ptr 0 18 0 0)]) (bs := [some (.cells false 18 [vmr pc acc x0 x1 x2 x3 x4 x5 x6 x7 x8 x9 x10 x11 x12 x13 x14 x15])]) (Nat.le_succ 1) ⟨ArgV.slice (i := 1) hA rfl, ArgV.ptr (j := 0) hB rfl, trivial⟩ (fun i b hb => ?_) (vmMayC pc acc x0 x1 x2 x3 x4 x5 x6 x7 x8 x9 x10 x11 x12 x13 x14 x15 n cap opn hn)) h1 h2
  cases i with
  | zero =>
    simp only [List.getElem?_cons_zero, Option.some.injEq] at hb
    subst hb
    refine ⟨_, _, rfl, rfl, ⟨rw, [row], hk, fun r hr' => by rw [List.mem_singleton.1 hr']; rfl, .inl rfl, fun j r0 hj => ?_⟩⟩
    cases j with
    | zero => simp only [List.getElem?_cons_zero, Option.some.injEq] at hj; subst hj; exact ⟨row, rfl, hr⟩
    | succ j => simp at hj
  | succ i => simp at hb

/-- A call of around.may, wherever it lies. -/
theorem aroundT {gs : List Int} {rowsG : List (List AV)} {ng capG kg ks : Nat} {opnG rwg rws : Bool} {pc acc x0 x1 x2 x3 x4 x5 x6 x7 x8 x9 x10 x11 x12 x13 x14 x15 inn outs : Int} {A G : AV} {m : Mem} {c : Nat} {row : List AV} {K : AV → Mem → Nat → Prop} (hA : norm A = .ptr ks 26 0 18) (hk : m.get ks = some (.cells rws 26 [row])) (hr : normL row = normL (stp (vmr pc acc x0 x1 x2 x3 x4 x5 x6 x7 x8 x9 x10 x11 x12 x13 x14 x15) inn outs G)) (hGn : norm G = .slice kg 1 0 ng capG opnG none) (hkg : m.get kg = some (.cells rwg 1 rowsG)) (hG : Hat iv gs rowsG ng) (hne : kg ≠ ks) (hc : kg < c ∧ ks < c)
    (h1 : AroundOk inn outs gs → K (.bool true) m c) (h2 : ¬ AroundOk inn outs gs → K (.bool false) m c) : CallT (fun _ => Try.prog) 22 [A] m c K := by
  refine CallT.frameF [kg, ks] (aroundC gs rowsG ng capG opnG hG pc acc x0 x1 x2 x3 x4 x5 x6 x7 x8 x9 x10 x11 x12 x13 x14 x15 inn outs) rfl ?_ ?_ ⟨by simp [hne], by simp; omega⟩ ?_
  · simp only [leL, normL, norm, hA, renOL, renO, List.getElem?_cons_succ, List.getElem?_cons_zero, Option.map_some]
  · refine ⟨?_, ?_, trivial⟩
    · simp only [List.getElem?_cons_zero, hkg]
      exact BlkLe.flat (fun e => by cases e) hG.2.2.1
    · simp only [List.getElem?_cons_succ, List.getElem?_cons_zero, hk]
      refine BlkLe.cells (fun e => by cases e) (RowsLe.cons ?_ RowsLe.nil)
      simp only [leL, hr, stp, vmr, i6, List.cons_append, List.nil_append, normL, norm, hGn, renOL, renO, List.getElem?_cons_zero, Option.map_some]
  · rintro v m' c' ⟨⟨r, hr, rfl⟩, rfl, rfl⟩
    refine ⟨⟨⟨trivial, trivial⟩, trivial⟩, ?_⟩
    cases r with
    | true => exact h1 (hr.1 rfl)
    | false => exact h2 fun e => by have := hr.2 e; cases this

def tu (x : Instr) : List AV := [.int .i64 x.op, .sym (.int .i64 x.arg)]
/-- An instruction of a program that may be: one of twelve. -/
theorem byOp {p : List Instr} {many : Int} {j : Nat} {K : Instr → Prop} (h : AllOk many p) (x : Instr) (hx : p[j]? = some x)
    (a0 : p[j]? = some ⟨0, 0⟩ → K ⟨0, 0⟩)
    (a1 : ∀ a, 0 ≤ a → a < 256 → p[j]? = some ⟨1, a⟩ → K ⟨1, a⟩)
    (a2 : ∀ a, 0 ≤ a → a < 16 → p[j]? = some ⟨2, a⟩ → K ⟨2, a⟩)
    (a3 : ∀ a, 0 ≤ a → a < 16 → p[j]? = some ⟨3, a⟩ → K ⟨3, a⟩)
    (a4 : ∀ a, 0 ≤ a → a < 16 → p[j]? = some ⟨4, a⟩ → K ⟨4, a⟩)
    (a5 : ∀ a, 0 ≤ a → a < 16 → p[j]? = some ⟨5, a⟩ → K ⟨5, a⟩)
    (a6 : ∀ a, 0 ≤ a → a < many → p[j]? = some ⟨6, a⟩ → K ⟨6, a⟩)
    (a7 : ∀ a, 0 ≤ a → a < many → p[j]? = some ⟨7, a⟩ → K ⟨7, a⟩)
    (a8 : p[j]? = some ⟨8, 0⟩ → K ⟨8, 0⟩)
    (a9 : ∀ a, 0 ≤ a → a < 8 → p[j]? = some ⟨9, a⟩ → K ⟨9, a⟩)
    (a10 : ∀ a, 0 ≤ a → a < 8 → p[j]? = some ⟨10, a⟩ → K ⟨10, a⟩)
    (a11 : p[j]? = some ⟨11, 0⟩ → K ⟨11, 0⟩) : K x := by
  obtain ⟨op, a⟩ := x
  obtain ⟨ha, h | h | h | h | h⟩ := okI_at h hx
  · have ea : a = 0 := by have := h.2; dsimp only at *; omega
    subst ea
    rcases h.1 with e | e | e <;> (dsimp only at e; subst e)
    · exact a0 hx
    · exact a8 hx
    · exact a11 hx
  · obtain ⟨e, h⟩ := h; dsimp only at e h ha; subst e; exact a1 a ha h hx
  · obtain ⟨e, h⟩ := h
    dsimp only at e h ha
    rcases e with e | e | e | e <;> subst e
    · exact a2 a ha h hx
    · exact a3 a ha h hx
    · exact a4 a ha h hx
    · exact a5 a ha h hx
  · obtain ⟨e, h⟩ := h
    dsimp only at e h ha
    rcases e with e | e <;> subst e
    · exact a6 a ha h hx
    · exact a7 a ha h hx
  · obtain ⟨e, h⟩ := h
    dsimp only at e h ha
    rcases e with e | e <;> subst e
    · exact a9 a ha h hx
    · exact a10 a ha h hx

/-- What an instruction does: where, the accumulator, the words; took, written, got, a value, a fault. -/
structure Out where
  pc : Int
  acc : Int
  xs : List Int
  took : Bool
  w : Int
  g : Int
  v : Int
  f : Bool
def bitOf (outs : Int) (k : Nat) : Int := outs / (2 : Int) ^ k % 2
def dd (op arg nx acc : Int) (xs : List Int) (inn outs : Int) (gs : List Int) : Out :=
  if op = 1 then ⟨nx, arg, xs, false, -1, -1, 0, false⟩
  else if op = 2 then ⟨nx, xs.getD arg.toNat 0, xs, false, -1, -1, 0, false⟩
  else if op = 3 then ⟨nx, acc, xs.set arg.toNat acc, false, -1, -1, 0, false⟩
  else if op = 4 then ⟨nx, (acc + xs.getD arg.toNat 0) % 4294967296, xs, false, -1, -1, 0, false⟩
  else if op = 5 then ⟨nx, (acc - xs.getD arg.toNat 0) % 4294967296, xs, false, -1, -1, 0, false⟩
  else if op = 6 then ⟨arg, acc, xs, false, -1, -1, 0, false⟩
  else if op = 7 then ⟨if acc = 0 then arg else nx, acc, xs, false, -1, -1, 0, false⟩
  else if op = 8 then ⟨nx, inn, xs, true, -1, -1, 0, false⟩
  else if op = 9 then (if bitOf outs arg.toNat = 0 then ⟨0, 0, xs, false, -1, -1, 0, true⟩ else ⟨nx, acc, xs, false, arg, -1, acc, false⟩)
  else if op = 10 then (if gs.getD arg.toNat (-1) = -1 then ⟨0, 0, xs, false, -1, -1, 0, true⟩ else ⟨nx, gs.getD arg.toNat (-1), xs, false, -1, arg, 0, false⟩)
  else if op = 11 then ⟨0, acc, xs, false, -1, -1, 0, false⟩
  else ⟨nx, acc, xs, false, -1, -1, 0, false⟩
def outA (o : Out) : AV := .tuple [.agg (i6 o.pc :: i6 o.acc :: o.xs.map i6), .agg [.bool o.took, i6 o.w, i6 o.g, i6 o.v, .bool o.f], i6 0]
def noneA : AV := .tuple [.agg [i6 0, i6 0, i6 0, i6 0, i6 0, i6 0, i6 0, i6 0, i6 0, i6 0, i6 0, i6 0, i6 0, i6 0, i6 0, i6 0, i6 0, i6 0], .agg [.bool false, i6 0, i6 0, i6 0, .bool false], i6 1000]
/-- May a step be? -/
def StepOk (p : List Instr) (pc acc : Int) (xs : List Int) (inn outs : Int) (gs : List Int) : Prop :=
  May p ∧ (0 ≤ pc ∧ pc.toNat < max p.length 1) ∧ Wd acc ∧ (∀ x ∈ xs, Wd x) ∧ AroundOk inn outs gs
theorem memOk_iff {x0 x1 x2 x3 x4 x5 x6 x7 x8 x9 x10 x11 x12 x13 x14 x15 : Int} : MemOk x0 x1 x2 x3 x4 x5 x6 x7 x8 x9 x10 x11 x12 x13 x14 x15 ↔ ∀ x ∈ [x0, x1, x2, x3, x4, x5, x6, x7, x8, x9, x10, x11, x12, x13, x14, x15], Wd x := by
  unfold MemOk
  simp only [List.forall_mem_cons, List.not_mem_nil, false_implies, implies_true, and_true]
/-- What a step answers. -/
def StepR (p : List Instr) (pc acc : Int) (xs : List Int) (inn outs : Int) (gs : List Int) (v : AV) : Prop :=
  (¬ StepOk p pc acc xs inn outs gs → v = noneA) ∧ (StepOk p pc acc xs inn outs gs → p = [] → v = outA ⟨pc, acc, xs, false, -1, -1, 0, false⟩) ∧
  (StepOk p pc acc xs inn outs gs → ∀ op arg, p[pc.toNat]? = some ⟨op, arg⟩ → v = outA (dd op arg ((pc + 1) % p.length) acc xs inn outs gs))
theorem Hat.tv {p : List Instr} {rows : List (List AV)} {n : Nat} {k cap : Nat} {opn rw : Bool} {A : AV} {m : Mem} (h : Hat tu p rows n) (hA : norm A = .slice k 2 0 n cap opn none) (hk : m.get k = some (.cells rw 2 rows)) : Sl Cod.tv 2 m A p :=
  .at k 0 n cap opn rw none rows hA hk h.1 (.inl rfl) (fun j x hx => ⟨tu x, by rw [Nat.zero_add]; exact h.2.2.2 j x hx, rfl⟩) h.2.1


theorem nxOk {pc v1 v2 v3 : Int} {np : Nat} (h2 : 0 ≤ v2 ∧ v2.toNat = np) (h3 : v3 = v1.tmod v2) (h1 : v1 = (pc + 1 + 9223372036854775808) % 18446744073709551616 - 9223372036854775808) (hr : 0 ≤ pc ∧ pc.toNat < max np 1) (hs : np ≤ 140737488355328) : v3 = (pc + 1) % np := by
  have e1 : v1 = pc + 1 := by omega
  have e2 : v2 = (np : Int) := by omega
  rw [h3, e1, e2, Int.tmod_eq_emod_of_nonneg (by omega)]
theorem addOk {acc x v0 v1 : Int} (h1 : v1 = v0.tmod 4294967296) (h0 : v0 = (acc + x + 9223372036854775808) % 18446744073709551616 - 9223372036854775808) (ha : Wd acc) (hx : Wd x) : v1 = (acc + x) % 4294967296 := by
  unfold Wd at ha hx
  have e1 : v0 = acc + x := by omega
  rw [h1, e1, Int.tmod_eq_emod_of_nonneg (by omega)]
theorem subOk {acc x v v0 v1 : Int} (h1 : v1 = v0.tmod 4294967296) (h0 : v0 = (v + 4294967296 + 9223372036854775808) % 18446744073709551616 - 9223372036854775808) (hv : v = (acc - x + 9223372036854775808) % 18446744073709551616 - 9223372036854775808) (ha : Wd acc) (hx : Wd x) : v1 = (acc - x) % 4294967296 := by
  unfold Wd at ha hx
  have e1 : v0 = acc - x + 4294967296 := by omega
  rw [h1, e1, Int.tmod_eq_emod_of_nonneg (by omega), Int.add_emod_right]
theorem sub2Ok {acc x v v0 v1 : Int} (h1 : v1 = v0.tmod 4294967296) (h0 : v0 = (v - x + 9223372036854775808) % 18446744073709551616 - 9223372036854775808) (hv : v = (acc + 4294967296 + 9223372036854775808) % 18446744073709551616 - 9223372036854775808) (ha : Wd acc) (hx : Wd x) : v1 = (acc - x) % 4294967296 := by
  unfold Wd at ha hx
  have e1 : v0 = acc - x + 4294967296 := by omega
  rw [h1, e1, Int.tmod_eq_emod_of_nonneg (by omega), Int.add_emod_right]
theorem bitOk {outs K v0 v1 : Int} (h0 : v0 = outs.fdiv (2 ^ min K.toNat IntKind.i64.bits)) (h1 : v1 = (((BitVec.ofInt (IntKind.bits .i64) v0 &&& BitVec.ofInt (IntKind.bits .i64) 1).toNat : Int) + 9223372036854775808) % 18446744073709551616 - 9223372036854775808) (hk : K.toNat ≤ 7) : v1 = bitOf outs K.toNat := by
  rw [← wrap_i64] at h1
  have e : min K.toNat IntKind.i64.bits = K.toNat := Nat.min_eq_left (Nat.le_trans hk (by decide))
  rw [e] at h0
  have e1 := Br.andM (k := 1) (a := v0) (v := v1) (by decide) h1
  unfold bitOf
  rw [e1, h0, Int.fdiv_eq_ediv_of_nonneg _ (Int.pow_nonneg (by decide))]
  rfl
theorem gsNone {gs : List Int} {K v : Int} {ng : Nat} (h : v ≤ K) (hv : 0 ≤ v ∧ v.toNat = ng) (hn : ng = gs.length) : gs.getD K.toNat (-1) = -1 := by
  rw [List.getD_eq_getElem?_getD, List.getElem?_eq_none (by omega)]
  rfl
theorem gsSome {gs : List Int} {K x : Int} {v : Nat} (h : gs[v]? = some x) (hv : v = 0 + K.toNat) : gs.getD K.toNat (-1) = x := by
  rw [Nat.zero_add] at hv
  subst hv
  rw [List.getD_eq_getElem?_getD, h]
  rfl
theorem dd4 {k nx acc inn outs v x : Int} {xs gs : List Int} (hx : xs.getD k.toNat 0 = x) (h : v = (acc + x) % 4294967296) : dd 4 k nx acc xs inn outs gs = ⟨nx, v, xs, false, -1, -1, 0, false⟩ := by subst hx; subst h; rfl
theorem dd5 {k nx acc inn outs v x : Int} {xs gs : List Int} (hx : xs.getD k.toNat 0 = x) (h : v = (acc - x) % 4294967296) : dd 5 k nx acc xs inn outs gs = ⟨nx, v, xs, false, -1, -1, 0, false⟩ := by subst hx; subst h; rfl
theorem dd0 {k nx acc inn outs : Int} {xs gs : List Int} : dd 0 k nx acc xs inn outs gs = ⟨nx, acc, xs, false, -1, -1, 0, false⟩ := rfl
theorem dd1 {k nx acc inn outs : Int} {xs gs : List Int} : dd 1 k nx acc xs inn outs gs = ⟨nx, k, xs, false, -1, -1, 0, false⟩ := rfl
theorem dd2 {k nx acc inn outs x : Int} {xs gs : List Int} (hx : xs.getD k.toNat 0 = x) : dd 2 k nx acc xs inn outs gs = ⟨nx, x, xs, false, -1, -1, 0, false⟩ := by subst hx; rfl
theorem dd3 {k nx acc inn outs : Int} {xs gs ys : List Int} (hx : xs.set k.toNat acc = ys) : dd 3 k nx acc xs inn outs gs = ⟨nx, acc, ys, false, -1, -1, 0, false⟩ := by subst hx; rfl
theorem dd6 {k nx acc inn outs : Int} {xs gs : List Int} : dd 6 k nx acc xs inn outs gs = ⟨k, acc, xs, false, -1, -1, 0, false⟩ := rfl
theorem dd8 {k nx acc inn outs : Int} {xs gs : List Int} : dd 8 k nx acc xs inn outs gs = ⟨nx, inn, xs, true, -1, -1, 0, false⟩ := rfl
theorem dd11 {k nx acc inn outs : Int} {xs gs : List Int} : dd 11 k nx acc xs inn outs gs = ⟨0, acc, xs, false, -1, -1, 0, false⟩ := rfl
theorem dd7a {k nx acc inn outs : Int} {xs gs : List Int} (h : acc = 0) : dd 7 k nx acc xs inn outs gs = ⟨k, acc, xs, false, -1, -1, 0, false⟩ := by subst h; rfl
theorem dd7b {k nx acc inn outs : Int} {xs gs : List Int} (h : ¬ acc = 0) : dd 7 k nx acc xs inn outs gs = ⟨nx, acc, xs, false, -1, -1, 0, false⟩ := by simp [dd, h]
theorem dd9a {k nx acc inn outs : Int} {xs gs : List Int} (h : bitOf outs k.toNat = 0) : dd 9 k nx acc xs inn outs gs = ⟨0, 0, xs, false, -1, -1, 0, true⟩ := by simp [dd, h]
theorem dd9b {k nx acc inn outs : Int} {xs gs : List Int} (h : ¬ bitOf outs k.toNat = 0) : dd 9 k nx acc xs inn outs gs = ⟨nx, acc, xs, false, k, -1, acc, false⟩ := by simp [dd, h]
theorem dd10a {k nx acc inn outs : Int} {xs gs : List Int} (h : gs.getD k.toNat (-1) = -1) : dd 10 k nx acc xs inn outs gs = ⟨0, 0, xs, false, -1, -1, 0, true⟩ := by simp only [dd, h]; rfl
theorem dd10b {k nx acc inn outs x : Int} {xs gs : List Int} (h : gs.getD k.toNat (-1) = x) (hx : ¬ x = -1) : dd 10 k nx acc xs inn outs gs = ⟨nx, x, xs, false, -1, k, 0, false⟩ := by
  simp only [dd, h]
  simp [hx]
end Go.Proofs.Ytdaccjfijfnlfaa.Stp

namespace Go.Proofs.Ytdaccjfijfnlfaa.Stp
open Go.Ab Base Cod Kit
set_option linter.unusedVariables false
set_option linter.unusedSimpArgs false

set_option maxRecDepth 200000 in
set_option maxHeartbeats 8000000 in
theorem vmMayNC (pc acc x0 x1 x2 x3 x4 x5 x6 x7 x8 x9 x10 x11 x12 x13 x14 x15 : Int) :
    CallS Try.prog 21 [.nilslice, .sym (.ptr 0 18 0 0)] (memB [some (.cells false 18 [vmr pc acc x0 x1 x2 x3 x4 x5 x6 x7 x8 x9 x10 x11 x12 x13 x14 x15])] []) 1 fun v _ _ => v.flat = true ∧ ∃ r, (r = true ↔ (0 ≤ pc ∧ pc.toNat < max 0 1) ∧ Wd acc ∧ MemOk x0 x1 x2 x3 x4 x5 x6 x7 x8 x9 x10 x11 x12 x13 x14 x15) ∧ v = .bool r := by
  obtain ⟨R, hR⟩ : ∃ R : Prop, R = ((0 ≤ pc ∧ pc.toNat < max 0 1) ∧ Wd acc ∧ MemOk x0 x1 x2 x3 x4 x5 x6 x7 x8 x9 x10 x11 x12 x13 x14 x15) := ⟨_, rfl⟩
  rw [← hR]
  refine CallS.normA (vs' := [.nilslice, .ptr 0 18 0 0]) rfl ?_
  refine CallS.enter X Try.func21 (by decide) ?_
  cbv
  repeat' first
    | with_reducible exact trivial
    | ((with_reducible intro v hv); (try rw [wrap_i64] at hv); cbv)
    | ((with_reducible apply uAnd); (focus first | kernel_rfl | omega); try cbv)
    | ((with_reducible apply And.intro) <;> (with_reducible intro h) <;> first | ((with_reducible exfalso); omega) | cbv)
    | ((with_reducible apply CallT.pureB (wordC _ _ _)) <;> (with_reducible intro h) <;> (unfold Wd at h) <;> cbv)
    | ((with_reducible apply LoopT.one X); cbv)
  all_goals
    refine ⟨_, ?_, rfl⟩
    rw [hR]
    unfold MemOk Wd
    simp only [reduceCtorEq, true_iff, false_iff]
    omega

theorem vmMayNT {pc acc x0 x1 x2 x3 x4 x5 x6 x7 x8 x9 x10 x11 x12 x13 x14 x15 : Int} {k : Nat} {rw : Bool} {A B : AV} {m : Mem} {c : Nat} {row : List AV} {K : AV → Mem → Nat → Prop} (hA : norm A = .nilslice) (hB : norm B = .ptr k 18 0 0) (hk : m.get k = some (.cells rw 18 [row])) (hr : normL row = normL (vmr pc acc x0 x1 x2 x3 x4 x5 x6 x7 x8 x9 x10 x11 x12 x13 x14 x15))
    (h1 : (0 ≤ pc ∧ pc.toNat < max 0 1) ∧ Wd acc ∧ MemOk x0 x1 x2 x3 x4 x5 x6 x7 x8 x9 x10 x11 x12 x13 x14 x15 → K (.bool true) m c) (h2 : ¬ ((0 ≤ pc ∧ pc.toNat < max 0 1) ∧ Wd acc ∧ MemOk x0 x1 x2 x3 x4 x5 x6 x7 x8 x9 x10 x11 x12 x13 x14 x15) → K (.bool false) m c) : CallT (fun _ => Try.prog) 21 [A, B] m c K := by
  refine CallT.pureB (A := (0 ≤ pc ∧ pc.toNat < max 0 1) ∧ Wd acc ∧ MemOk x0 x1 x2 x3 x4 x5 x6 x7 x8 x9 x10 x11 x12 x13 x14 x15) (CallS.view (R0 := fun v => ∃ r, (r = true ↔ (0 ≤ pc ∧ pc.toNat < max 0 1) ∧ Wd acc ∧ MemOk x0 x1 x2 x3 x4 x5 x6 x7 x8 x9 x10 x11 x12 x13 x14 x15) ∧ v = .bool r) [⟨k, 0, none, 18⟩] (vs0 := [.nilslice, .sym (.ptr 0 18 0 0)]) (bs := [some (.cells false 18 [vmr pc acc x0 x1 x2 x3 x4 x5 x6 x7 x8 x9 x10 x11 x12 x13 x14 x15])]) (Nat.le_refl 1) ⟨ArgV.nil hA, ArgV.ptr (j := 0) hB rfl, trivial⟩ (fun i b hb => ?_) (vmMayNC pc acc x0 x1 x2 x3 x4 x5 x6 x7 x8 x9 x10 x11 x12 x13 x14 x15)) h1 h2
  cases i with
  | zero =>
    simp only [List.getElem?_cons_zero, Option.some.injEq] at hb
    subst hb
    refine ⟨_, _, rfl, rfl, ⟨rw, [row], hk, fun r hr' => by rw [List.mem_singleton.1 hr']; rfl, .inl rfl, fun j r0 hj => ?_⟩⟩
    cases j with
    | zero => simp only [List.getElem?_cons_zero, Option.some.injEq] at hj; subst hj; exact ⟨row, rfl, hr⟩
    | succ j => simp at hj
  | succ i => simp at hb

set_option maxRecDepth 200000 in
set_option maxHeartbeats 8000000 in
theorem aroundNC (pc acc x0 x1 x2 x3 x4 x5 x6 x7 x8 x9 x10 x11 x12 x13 x14 x15 inn outs : Int) :
    CallS Try.prog 22 [.ptr 0 26 0 18] (memB [some (.cells false 26 [stp (vmr pc acc x0 x1 x2 x3 x4 x5 x6 x7 x8 x9 x10 x11 x12 x13 x14 x15) inn outs .nilslice])] []) 1 fun v m' c' =>
      (∃ r, (r = true ↔ AroundOk inn outs []) ∧ v = .bool r) ∧ m' = memB [some (.cells false 26 [stp (vmr pc acc x0 x1 x2 x3 x4 x5 x6 x7 x8 x9 x10 x11 x12 x13 x14 x15) inn outs .nilslice])] [] ∧ c' = 1 := by
  refine CallS.ends rfl ?_
  refine CallS.enter X Try.func22 (by decide) ?_
  cbv
  repeat' first
    | with_reducible exact trivial
    | ((with_reducible apply CallT.pureB (wordC _ _ _)) <;> (with_reducible intro h) <;> (unfold Wd at h) <;> cbv)
    | ((with_reducible intro v hv); (try rw [wrap_i64] at hv); cbv)
    | ((with_reducible apply uAnd); (focus first | kernel_rfl | omega); try cbv)
    | ((with_reducible apply And.intro) <;> (with_reducible intro h) <;> first | ((with_reducible exfalso); omega) | cbv)
    | ((with_reducible apply LoopT.one X); cbv)
  all_goals first
    | (
       refine ⟨[], [], .bool false, [some (.cells false 26 [stp (vmr pc acc x0 x1 x2 x3 x4 x5 x6 x7 x8 x9 x10 x11 x12 x13 x14 x15) inn outs .nilslice])], Head.mk rfl rfl ?_ ?_ ?_ ?_, ⟨false, ?_, rfl⟩, rfl, rfl⟩
       rotate_right
       · (simp only [reduceCtorEq, false_iff]; rintro ⟨h1, h2, h3, _⟩; unfold Wd at h1; omega)
       all_goals cbv
       exact ⟨BlkLe.cells (fun h => h) (RowsLe.cons rfl RowsLe.nil), trivial⟩)
    | (
       refine ⟨[], [], .bool true, [some (.cells false 26 [stp (vmr pc acc x0 x1 x2 x3 x4 x5 x6 x7 x8 x9 x10 x11 x12 x13 x14 x15) inn outs .nilslice])], Head.mk rfl rfl ?_ ?_ ?_ ?_, ⟨true, ?_, rfl⟩, rfl, rfl⟩
       rotate_right
       · exact ⟨fun _ => ⟨by unfold Wd; omega, by omega, by decide, fun g hg => by cases hg⟩, fun _ => rfl⟩
       all_goals cbv
       exact ⟨BlkLe.cells (fun h => h) (RowsLe.cons rfl RowsLe.nil), trivial⟩)

theorem aroundNT {ks : Nat} {rws : Bool} {pc acc x0 x1 x2 x3 x4 x5 x6 x7 x8 x9 x10 x11 x12 x13 x14 x15 inn outs : Int} {A : AV} {m : Mem} {c : Nat} {row : List AV} {K : AV → Mem → Nat → Prop} (hA : norm A = .ptr ks 26 0 18) (hk : m.get ks = some (.cells rws 26 [row])) (hr : normL row = normL (stp (vmr pc acc x0 x1 x2 x3 x4 x5 x6 x7 x8 x9 x10 x11 x12 x13 x14 x15) inn outs .nilslice)) (hc : ks < c)
    (h1 : AroundOk inn outs [] → K (.bool true) m c) (h2 : ¬ AroundOk inn outs [] → K (.bool false) m c) : CallT (fun _ => Try.prog) 22 [A] m c K := by
  refine CallT.frameF [ks] (aroundNC pc acc x0 x1 x2 x3 x4 x5 x6 x7 x8 x9 x10 x11 x12 x13 x14 x15 inn outs) rfl ?_ ?_ ⟨by simp, by simp; omega⟩ ?_
  · simp only [leL, normL, norm, hA, renOL, renO, List.getElem?_cons_succ, List.getElem?_cons_zero, Option.map_some]
  · refine ⟨?_, trivial⟩
    simp only [List.getElem?_cons_zero, hk]
    refine BlkLe.cells (fun e => by cases e) (RowsLe.cons ?_ RowsLe.nil)
    simp only [leL, hr, stp, vmr, i6, List.cons_append, List.nil_append, normL, norm, renOL, renO, List.getElem?_cons_zero, Option.map_some]
  · rintro v m' c' ⟨⟨r, hr, rfl⟩, rfl, rfl⟩
    refine ⟨⟨trivial, trivial⟩, ?_⟩
    cases r with
    | true => exact h1 (hr.1 rfl)
    | false => exact h2 fun e => by have := hr.2 e; cases this

theorem mayNil : May [] := by
  refine ⟨?_, ?_⟩
  · first | decide | simp
  · intro x hx; cases hx

set_option maxRecDepth 200000 in
set_option maxHeartbeats 40000000 in
theorem stepZ1 (gs : List Int) (rowsG : List (List AV)) (ng capG : Nat) (opnG : Bool) (hG : Hat iv gs rowsG ng) (pc acc x0 x1 x2 x3 x4 x5 x6 x7 x8 x9 x10 x11 x12 x13 x14 x15 inn outs : Int) (R : AV → Prop)
    (hbad : ¬ (((0 ≤ pc ∧ pc.toNat < max 0 1) ∧ Wd acc ∧ MemOk x0 x1 x2 x3 x4 x5 x6 x7 x8 x9 x10 x11 x12 x13 x14 x15) ∧ AroundOk inn outs gs) → R noneA)
    (hnil : ((0 ≤ pc ∧ pc.toNat < max 0 1) ∧ Wd acc ∧ MemOk x0 x1 x2 x3 x4 x5 x6 x7 x8 x9 x10 x11 x12 x13 x14 x15) → AroundOk inn outs gs → R (outA ⟨pc, acc, [x0, x1, x2, x3, x4, x5, x6, x7, x8, x9, x10, x11, x12, x13, x14, x15], false, -1, -1, 0, false⟩)) :
    CallS Try.prog 12 [.nilslice, .agg (vmr pc acc x0 x1 x2 x3 x4 x5 x6 x7 x8 x9 x10 x11 x12 x13 x14 x15), i6 inn, i6 outs, .sym (.slice 0 1 0 ng capG opnG none)] (memB [some (.cells false 1 rowsG)] []) 1 fun v _ _ => v.flat = true ∧ R (Go.Ab.full v) := by
  obtain ⟨hng, hzg, hfg, hrg⟩ := id hG
  refine CallS.enter X Try.func12 (by decide) ?_
  cbv
  repeat' first
    | with_reducible exact trivial
    | ((with_reducible apply mayT (p := [])); (focus exact Sl.nil rfl rfl); all_goals first
        | ((with_reducible intro hmay); cbv))
    | ((with_reducible apply vmMayNT (pc := pc) (acc := acc) (x0 := x0) (x1 := x1) (x2 := x2) (x3 := x3) (x4 := x4) (x5 := x5) (x6 := x6) (x7 := x7) (x8 := x8) (x9 := x9) (x10 := x10) (x11 := x11) (x12 := x12) (x13 := x13) (x14 := x14) (x15 := x15)); (focus rfl); (focus rfl); (focus rfl); (focus rfl); all_goals first
        | ((with_reducible intro hvm); cbv))
    | ((with_reducible apply aroundT (gs := gs) (inn := inn) (outs := outs) (pc := pc) (acc := acc) (x0 := x0) (x1 := x1) (x2 := x2) (x3 := x3) (x4 := x4) (x5 := x5) (x6 := x6) (x7 := x7) (x8 := x8) (x9 := x9) (x10 := x10) (x11 := x11) (x12 := x12) (x13 := x13) (x14 := x14) (x15 := x15) (G := .sym (.slice 0 1 0 ng capG opnG none))); (focus rfl); (focus rfl); (focus rfl); (focus rfl); (focus rfl); (focus exact hG); (focus decide); (focus decide); all_goals first
        | ((with_reducible intro har); cbv))
    | ((with_reducible intro v hv); (try rw [wrap_i64] at hv); cbv)
    | ((with_reducible apply uAnd); (focus first | kernel_rfl | omega); try cbv)
    | ((with_reducible apply And.intro) <;> (with_reducible intro h) <;> first | ((with_reducible exfalso); omega) | cbv)
  · exact hnil hvm har
  · exact hbad (fun h => har h.2)
  · exact hbad (fun h => hvm h.1)
  · exact absurd mayNil hmay

set_option maxRecDepth 200000 in
set_option maxHeartbeats 40000000 in
theorem stepZ0 (pc acc x0 x1 x2 x3 x4 x5 x6 x7 x8 x9 x10 x11 x12 x13 x14 x15 inn outs : Int) (R : AV → Prop)
    (hbad : ¬ (((0 ≤ pc ∧ pc.toNat < max 0 1) ∧ Wd acc ∧ MemOk x0 x1 x2 x3 x4 x5 x6 x7 x8 x9 x10 x11 x12 x13 x14 x15) ∧ AroundOk inn outs []) → R noneA)
    (hnil : ((0 ≤ pc ∧ pc.toNat < max 0 1) ∧ Wd acc ∧ MemOk x0 x1 x2 x3 x4 x5 x6 x7 x8 x9 x10 x11 x12 x13 x14 x15) → AroundOk inn outs [] → R (outA ⟨pc, acc, [x0, x1, x2, x3, x4, x5, x6, x7, x8, x9, x10, x11, x12, x13, x14, x15], false, -1, -1, 0, false⟩)) :
    CallS Try.prog 12 [.nilslice, .agg (vmr pc acc x0 x1 x2 x3 x4 x5 x6 x7 x8 x9 x10 x11 x12 x13 x14 x15), i6 inn, i6 outs, .nilslice] (memB [] []) 0 fun v _ _ => v.flat = true ∧ R (Go.Ab.full v) := by
  refine CallS.enter X Try.func12 (by decide) ?_
  cbv
  repeat' first
    | with_reducible exact trivial
    | ((with_reducible apply mayT (p := [])); (focus exact Sl.nil rfl rfl); all_goals first
        | ((with_reducible intro hmay); cbv))
    | ((with_reducible apply vmMayNT (pc := pc) (acc := acc) (x0 := x0) (x1 := x1) (x2 := x2) (x3 := x3) (x4 := x4) (x5 := x5) (x6 := x6) (x7 := x7) (x8 := x8) (x9 := x9) (x10 := x10) (x11 := x11) (x12 := x12) (x13 := x13) (x14 := x14) (x15 := x15)); (focus rfl); (focus rfl); (focus rfl); (focus rfl); all_goals first
        | ((with_reducible intro hvm); cbv))
    | ((with_reducible apply aroundNT (inn := inn) (outs := outs) (pc := pc) (acc := acc) (x0 := x0) (x1 := x1) (x2 := x2) (x3 := x3) (x4 := x4) (x5 := x5) (x6 := x6) (x7 := x7) (x8 := x8) (x9 := x9) (x10 := x10) (x11 := x11) (x12 := x12) (x13 := x13) (x14 := x14) (x15 := x15)); (focus rfl); (focus rfl); (focus rfl); (focus decide); all_goals first
        | ((with_reducible intro har); cbv))
    | ((with_reducible intro v hv); (try rw [wrap_i64] at hv); cbv)
    | ((with_reducible apply uAnd); (focus first | kernel_rfl | omega); try cbv)
    | ((with_reducible apply And.intro) <;> (with_reducible intro h) <;> first | ((with_reducible exfalso); omega) | cbv)
  · exact hnil hvm har
  · exact hbad (fun h => har h.2)
  · exact hbad (fun h => hvm h.1)
  · exact absurd mayNil hmay

theorem word_at {nx acc x0 x1 x2 x3 x4 x5 x6 x7 x8 x9 x10 x11 x12 x13 x14 x15 : Int} {rest : List AV} {n : Nat} (h : n < 16) : (AV.sym (.int .i64 nx) :: AV.sym (.int .i64 acc) :: AV.sym (.int .i64 x0) :: AV.sym (.int .i64 x1) :: AV.sym (.int .i64 x2) :: AV.sym (.int .i64 x3) :: AV.sym (.int .i64 x4) :: AV.sym (.int .i64 x5) :: AV.sym (.int .i64 x6) :: AV.sym (.int .i64 x7) :: AV.sym (.int .i64 x8) :: AV.sym (.int .i64 x9) :: AV.sym (.int .i64 x10) :: AV.sym (.int .i64 x11) :: AV.sym (.int .i64 x12) :: AV.sym (.int .i64 x13) :: AV.sym (.int .i64 x14) :: AV.sym (.int .i64 x15) :: rest)[2 + n]? = some (.sym (.int .i64 ([x0, x1, x2, x3, x4, x5, x6, x7, x8, x9, x10, x11, x12, x13, x14, x15].getD n 0))) ∧ [x0, x1, x2, x3, x4, x5, x6, x7, x8, x9, x10, x11, x12, x13, x14, x15].getD n 0 ∈ [x0, x1, x2, x3, x4, x5, x6, x7, x8, x9, x10, x11, x12, x13, x14, x15] := by
  have e : n = 0 ∨ n = 1 ∨ n = 2 ∨ n = 3 ∨ n = 4 ∨ n = 5 ∨ n = 6 ∨ n = 7 ∨ n = 8 ∨ n = 9 ∨ n = 10 ∨ n = 11 ∨ n = 12 ∨ n = 13 ∨ n = 14 ∨ n = 15 := by omega
  rcases e with rfl | rfl | rfl | rfl | rfl | rfl | rfl | rfl | rfl | rfl | rfl | rfl | rfl | rfl | rfl | rfl <;> exact ⟨rfl, by simp⟩
theorem word_set {nx acc x0 x1 x2 x3 x4 x5 x6 x7 x8 x9 x10 x11 x12 x13 x14 x15 a : Int} {rest : List AV} {n : Nat} (h : n < 16) : ∃ y0 y1 y2 y3 y4 y5 y6 y7 y8 y9 y10 y11 y12 y13 y14 y15, [x0, x1, x2, x3, x4, x5, x6, x7, x8, x9, x10, x11, x12, x13, x14, x15].set n a = [y0, y1, y2, y3, y4, y5, y6, y7, y8, y9, y10, y11, y12, y13, y14, y15] ∧ setCells (AV.sym (.int .i64 nx) :: AV.sym (.int .i64 acc) :: AV.sym (.int .i64 x0) :: AV.sym (.int .i64 x1) :: AV.sym (.int .i64 x2) :: AV.sym (.int .i64 x3) :: AV.sym (.int .i64 x4) :: AV.sym (.int .i64 x5) :: AV.sym (.int .i64 x6) :: AV.sym (.int .i64 x7) :: AV.sym (.int .i64 x8) :: AV.sym (.int .i64 x9) :: AV.sym (.int .i64 x10) :: AV.sym (.int .i64 x11) :: AV.sym (.int .i64 x12) :: AV.sym (.int .i64 x13) :: AV.sym (.int .i64 x14) :: AV.sym (.int .i64 x15) :: rest) (2 + n) [.sym (.int .i64 a)] = AV.sym (.int .i64 nx) :: AV.sym (.int .i64 acc) :: AV.sym (.int .i64 y0) :: AV.sym (.int .i64 y1) :: AV.sym (.int .i64 y2) :: AV.sym (.int .i64 y3) :: AV.sym (.int .i64 y4) :: AV.sym (.int .i64 y5) :: AV.sym (.int .i64 y6) :: AV.sym (.int .i64 y7) :: AV.sym (.int .i64 y8) :: AV.sym (.int .i64 y9) :: AV.sym (.int .i64 y10) :: AV.sym (.int .i64 y11) :: AV.sym (.int .i64 y12) :: AV.sym (.int .i64 y13) :: AV.sym (.int .i64 y14) :: AV.sym (.int .i64 y15) :: rest := by
  have e : n = 0 ∨ n = 1 ∨ n = 2 ∨ n = 3 ∨ n = 4 ∨ n = 5 ∨ n = 6 ∨ n = 7 ∨ n = 8 ∨ n = 9 ∨ n = 10 ∨ n = 11 ∨ n = 12 ∨ n = 13 ∨ n = 14 ∨ n = 15 := by omega
  rcases e with rfl | rfl | rfl | rfl | rfl | rfl | rfl | rfl | rfl | rfl | rfl | rfl | rfl | rfl | rfl | rfl <;> exact ⟨_, _, _, _, _, _, _, _, _, _, _, _, _, _, _, _, rfl, rfl⟩
/-- A word of the machine is read: its place is marked. -/
theorem ldX {nx acc x0 x1 x2 x3 x4 x5 x6 x7 x8 x9 x10 x11 x12 x13 x14 x15 a : Int} {rest : List AV} {j : Nat} {K : AV → Prop} (hj : j = 2 + a.toNat * 1) (h0 : 0 ≤ a) (h1 : a < 16) (k : ∀ y, [x0, x1, x2, x3, x4, x5, x6, x7, x8, x9, x10, x11, x12, x13, x14, x15].getD a.toNat 0 = y → y ∈ [x0, x1, x2, x3, x4, x5, x6, x7, x8, x9, x10, x11, x12, x13, x14, x15] → K (.sym (.int .i64 y))) : ∃ row, [AV.sym (.int .i64 nx) :: AV.sym (.int .i64 acc) :: AV.sym (.int .i64 x0) :: AV.sym (.int .i64 x1) :: AV.sym (.int .i64 x2) :: AV.sym (.int .i64 x3) :: AV.sym (.int .i64 x4) :: AV.sym (.int .i64 x5) :: AV.sym (.int .i64 x6) :: AV.sym (.int .i64 x7) :: AV.sym (.int .i64 x8) :: AV.sym (.int .i64 x9) :: AV.sym (.int .i64 x10) :: AV.sym (.int .i64 x11) :: AV.sym (.int .i64 x12) :: AV.sym (.int .i64 x13) :: AV.sym (.int .i64 x14) :: AV.sym (.int .i64 x15) :: rest][0]? = some row ∧ vRead (fun _ => Try.prog) 3 row j K := by
  subst hj
  rw [Nat.mul_one]
  obtain ⟨e, hm⟩ := word_at (nx := nx) (acc := acc) (x0 := x0) (x1 := x1) (x2 := x2) (x3 := x3) (x4 := x4) (x5 := x5) (x6 := x6) (x7 := x7) (x8 := x8) (x9 := x9) (x10 := x10) (x11 := x11) (x12 := x12) (x13 := x13) (x14 := x14) (x15 := x15) (rest := rest) (n := a.toNat) (by omega)
  exact ldR (j := 0) rfl (by kernel_rfl) e (k _ rfl hm)
/-- A word of the machine is written: its place is marked. -/
theorem stX {nx acc x0 x1 x2 x3 x4 x5 x6 x7 x8 x9 x10 x11 x12 x13 x14 x15 a : Int} {rest cs : List AV} {s j : Nat} {K : List (List AV) → Prop} (hj : j = 2 + a.toNat * 1) (h0 : 0 ≤ a) (h1 : a < 16) (hs : s = 1) (hc : cs = [.sym (.int .i64 acc)]) (k : ∀ y0 y1 y2 y3 y4 y5 y6 y7 y8 y9 y10 y11 y12 y13 y14 y15, [x0, x1, x2, x3, x4, x5, x6, x7, x8, x9, x10, x11, x12, x13, x14, x15].set a.toNat acc = [y0, y1, y2, y3, y4, y5, y6, y7, y8, y9, y10, y11, y12, y13, y14, y15] → K [AV.sym (.int .i64 nx) :: AV.sym (.int .i64 acc) :: AV.sym (.int .i64 y0) :: AV.sym (.int .i64 y1) :: AV.sym (.int .i64 y2) :: AV.sym (.int .i64 y3) :: AV.sym (.int .i64 y4) :: AV.sym (.int .i64 y5) :: AV.sym (.int .i64 y6) :: AV.sym (.int .i64 y7) :: AV.sym (.int .i64 y8) :: AV.sym (.int .i64 y9) :: AV.sym (.int .i64 y10) :: AV.sym (.int .i64 y11) :: AV.sym (.int .i64 y12) :: AV.sym (.int .i64 y13) :: AV.sym (.int .i64 y14) :: AV.sym (.int .i64 y15) :: rest]) :
    ∃ row, [AV.sym (.int .i64 nx) :: AV.sym (.int .i64 acc) :: AV.sym (.int .i64 x0) :: AV.sym (.int .i64 x1) :: AV.sym (.int .i64 x2) :: AV.sym (.int .i64 x3) :: AV.sym (.int .i64 x4) :: AV.sym (.int .i64 x5) :: AV.sym (.int .i64 x6) :: AV.sym (.int .i64 x7) :: AV.sym (.int .i64 x8) :: AV.sym (.int .i64 x9) :: AV.sym (.int .i64 x10) :: AV.sym (.int .i64 x11) :: AV.sym (.int .i64 x12) :: AV.sym (.int .i64 x13) :: AV.sym (.int .i64 x14) :: AV.sym (.int .i64 x15) :: rest][0]? = some row ∧ (Unit → j + s ≤ row.length) ∧ ∀ rows', rows' = List.set [AV.sym (.int .i64 nx) :: AV.sym (.int .i64 acc) :: AV.sym (.int .i64 x0) :: AV.sym (.int .i64 x1) :: AV.sym (.int .i64 x2) :: AV.sym (.int .i64 x3) :: AV.sym (.int .i64 x4) :: AV.sym (.int .i64 x5) :: AV.sym (.int .i64 x6) :: AV.sym (.int .i64 x7) :: AV.sym (.int .i64 x8) :: AV.sym (.int .i64 x9) :: AV.sym (.int .i64 x10) :: AV.sym (.int .i64 x11) :: AV.sym (.int .i64 x12) :: AV.sym (.int .i64 x13) :: AV.sym (.int .i64 x14) :: AV.sym (.int .i64 x15) :: rest] 0 (setCells row j cs) → K rows' := by
  subst hj hs hc
  rw [Nat.mul_one]
  obtain ⟨y0, y1, y2, y3, y4, y5, y6, y7, y8, y9, y10, y11, y12, y13, y14, y15, e1, e2⟩ := word_set (nx := nx) (acc := acc) (x0 := x0) (x1 := x1) (x2 := x2) (x3 := x3) (x4 := x4) (x5 := x5) (x6 := x6) (x7 := x7) (x8 := x8) (x9 := x9) (x10 := x10) (x11 := x11) (x12 := x12) (x13 := x13) (x14 := x14) (x15 := x15) (rest := rest) (a := acc) (n := a.toNat) (by omega)
  refine ⟨_, rfl, fun _ => by simp only [List.length_cons]; omega, fun rows' e => ?_⟩
  rw [e, e2]
  exact k y0 y1 y2 y3 y4 y5 y6 y7 y8 y9 y10 y11 y12 y13 y14 y15 e1
end Go.Proofs.Ytdaccjfijfnlfaa.Stp
