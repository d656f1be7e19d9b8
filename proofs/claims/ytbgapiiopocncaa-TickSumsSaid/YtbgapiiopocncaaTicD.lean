/- The least that both divide; adds. -/
import Derived.Test.YtbgapiiopocncaaTicC
namespace Go.Proofs.Ytbgapiiopocncaa.Tic
open Go.Ab
set_option linter.unusedVariables false
set_option linter.unusedSimpArgs false

set_option maxHeartbeats 4000000 in
theorem addC (x y : Int) (hx : U x) (hy : U y) (m : Mem) (n : Nat) : CallS Try.prog 8 [.sym (.int .u64 x), .sym (.int .u64 y)] m n fun v m' n' => SumR (x + y) v ∧ m' = m ∧ n' = n := by
  obtain ⟨R, hR⟩ : ∃ R, R = SumR (x + y) := ⟨_, rfl⟩
  rw [← hR]
  have hU : AllU [x, y] := fun z hz => by
    simp only [List.mem_cons, List.not_mem_nil, or_false] at hz
    rcases hz with rfl | rfl <;> assumption
  have hs : sum [x, y] = x + y := by simp [sum]
  refine CallS.at0 X Try.func8 (by decide) rfl (d := 2) (R0 := R) ?_ m n
  cbv
  with_reducible apply sumT hU
  focus exact Sl.text rfl rfl rfl rfl ⟨rfl, rfl, trivial⟩
  all_goals first
    | ((with_reducible intro hlt s hs2); cbv)
    | ((with_reducible intro hlt); cbv)
  all_goals
    rw [hR]
    rw [hs] at hlt
  · exact .inl ⟨hlt, by rw [hs2, hs]; rfl⟩
  · exact .inr ⟨hlt, rfl⟩
theorem addT {x y : Int} (hx : U x) (hy : U y) {A B : AV} (hA : norm A = .int .u64 x) (hB : norm B = .int .u64 y) {m : Mem} {c : Nat} {K : AV → Mem → Nat → Prop}
    (h1 : x + y < 18446744073709551616 → ∀ s, s = x + y → K (.tuple [.sym (.int .u64 s), .int .i64 0]) m c) (h2 : 18446744073709551616 ≤ x + y → K (.tuple [.int .u64 0, .int .i64 100]) m c) : CallT (fun _ => Try.prog) 8 [A, B] m c K := by
  refine ⟨CallS.normA (vs' := [.sym (.int .u64 x), .sym (.int .u64 y)]) (by simp only [normL, norm, hA, hB]) (CallS.asFull ((addC x y hx hy m c).mono ?_))⟩
  rintro v m' c' ⟨⟨h, rfl⟩ | ⟨h, rfl⟩, rfl, rfl⟩
  · exact ⟨.tuple [.sym (.int .u64 (x + y)), .int .i64 0], rfl, h1 h _ rfl⟩
  · exact ⟨.tuple [.int .u64 0, .int .i64 100], rfl, h2 h⟩

def LcmR (x y : Int) (v : AV) : Prop := ((x = 0 ∨ y = 0) ∧ v = .tuple [.sym (.int .u64 0), .sym (.int .i64 0)]) ∨ (x ≠ 0 ∧ y ≠ 0 ∧ MulR (x / gcdI x y) y v)
theorem div_u {x g : Int} (hx : U x) (hg : 0 < g) : U (x / g) ∧ x.tdiv g % 18446744073709551616 = x / g := by
  unfold U at *
  rw [Int.tdiv_eq_ediv_of_nonneg hx.1]
  have h1 : x / g ≤ x := Int.ediv_le_self _ hx.1
  have h2 : 0 ≤ x / g := Int.ediv_nonneg hx.1 (by omega)
  omega
set_option maxHeartbeats 4000000 in
theorem lcmC (x y : Int) (hx : U x) (hy : U y) (m : Mem) (n : Nat) : CallS Try.prog 12 [.sym (.int .u64 x), .sym (.int .u64 y)] m n fun v m' n' => LcmR x y v ∧ m' = m ∧ n' = n := by
  obtain ⟨R, hR⟩ : ∃ R, R = LcmR x y := ⟨_, rfl⟩
  rw [← hR]
  have hx1 : 0 ≤ x ∧ x < 18446744073709551616 := hx
  have hy1 : 0 ≤ y ∧ y < 18446744073709551616 := hy
  refine CallS.at0 X Try.func12 (by decide) rfl (d := 2) (R0 := R) ?_ m n
  cbv
  repeat' first
    | with_reducible exact trivial
    | ((with_reducible apply gcdRT (gcdC x y hx hy)); (focus rfl); (focus rfl); (with_reducible intro g hg); (have hg0 : 0 < g := by rw [hg]; exact gcdI_pos (by omega)); cbv)
    | ((with_reducible apply mulRT (mulC _ y hdu hy)); (focus rfl); (focus rfl); all_goals first | ((with_reducible intro hlt p hp); cbv) | ((with_reducible intro hlt); cbv))
    | ((with_reducible intro v hv); (first | (rw [wrap_u64, (div_u hx hg0).2] at hv; have hdu : U v := hv ▸ (div_u hx hg0).1) | skip); cbv)
    | ((with_reducible apply uAnd); (focus first | kernel_rfl | omega); try cbv)
    | ((with_reducible apply And.intro) <;> (with_reducible intro h) <;> first | ((with_reducible exfalso); omega) | cbv)
  all_goals
    rw [hR]
    unfold LcmR
  · exact .inl ⟨.inl h, rfl⟩
  · exact .inl ⟨.inr h, rfl⟩
  · refine .inr ⟨by assumption, h, ?_⟩
    rw [← hg, ← hv]
    exact .inl ⟨hlt, by rw [hp]; rfl⟩
  · refine .inr ⟨by assumption, h, ?_⟩
    rw [← hg, ← hv]
    exact .inr ⟨hlt, rfl⟩
set_option maxHeartbeats 4000000 in
theorem refLcmC (x y : Int) (hx : U x) (hy : U y) (m : Mem) (n : Nat) : CallS Try.prog 13 [.sym (.int .u64 x), .sym (.int .u64 y)] m n fun v m' n' => LcmR x y v ∧ m' = m ∧ n' = n := by
  obtain ⟨R, hR⟩ : ∃ R, R = LcmR x y := ⟨_, rfl⟩
  rw [← hR]
  have hx1 : 0 ≤ x ∧ x < 18446744073709551616 := hx
  have hy1 : 0 ≤ y ∧ y < 18446744073709551616 := hy
  refine CallS.at0 X Try.func13 (by decide) rfl (d := 2) (R0 := R) ?_ m n
  cbv
  repeat' first
    | with_reducible exact trivial
    | ((with_reducible apply gcdRT (refGcdC x y hx hy)); (focus rfl); (focus rfl); (with_reducible intro g hg); (have hg0 : 0 < g := by rw [hg]; exact gcdI_pos (by omega)); cbv)
    | ((with_reducible apply mulRT (refMulC _ y hdu hy)); (focus rfl); (focus rfl); all_goals first | ((with_reducible intro hlt p hp); cbv) | ((with_reducible intro hlt); cbv))
    | ((with_reducible intro v hv); (first | (rw [wrap_u64, (div_u hx hg0).2] at hv; have hdu : U v := hv ▸ (div_u hx hg0).1) | skip); cbv)
    | ((with_reducible apply uAnd); (focus first | kernel_rfl | omega); try cbv)
    | ((with_reducible apply And.intro) <;> (with_reducible intro h) <;> first | ((with_reducible exfalso); omega) | cbv)
  all_goals
    rw [hR]
    unfold LcmR
  · exact .inl ⟨.inl h, rfl⟩
  · exact .inl ⟨.inr h, rfl⟩
  · refine .inr ⟨by assumption, h, ?_⟩
    rw [← hg, ← hv]
    exact .inl ⟨hlt, by rw [hp]; rfl⟩
  · refine .inr ⟨by assumption, h, ?_⟩
    rw [← hg, ← hv]
    exact .inr ⟨hlt, rfl⟩
theorem lcmRT {x y : Int} {f : FuncId} (hC : ∀ (m : Mem) (n : Nat), CallS Try.prog f [.sym (.int .u64 x), .sym (.int .u64 y)] m n fun v m' n' => LcmR x y v ∧ m' = m ∧ n' = n) {A B : AV} (hA : norm A = .int .u64 x) (hB : norm B = .int .u64 y) {m : Mem} {c : Nat} {K : AV → Mem → Nat → Prop}
    (h0 : x = 0 ∨ y = 0 → K (.tuple [.int .u64 0, .int .i64 0]) m c)
    (h1 : x ≠ 0 → y ≠ 0 → x / gcdI x y * y < 18446744073709551616 → ∀ p, p = x / gcdI x y * y → K (.tuple [.sym (.int .u64 p), .int .i64 0]) m c) (h2 : x ≠ 0 → y ≠ 0 → 18446744073709551616 ≤ x / gcdI x y * y → K (.tuple [.int .u64 0, .int .i64 100]) m c) : CallT (fun _ => Try.prog) f [A, B] m c K := by
  refine ⟨CallS.normA (vs' := [.sym (.int .u64 x), .sym (.int .u64 y)]) (by simp only [normL, norm, hA, hB]) (CallS.asFull ((hC m c).mono ?_))⟩
  rintro v m' c' ⟨⟨h, rfl⟩ | ⟨hx, hy, ⟨h, rfl⟩ | ⟨h, rfl⟩⟩, rfl, rfl⟩
  · exact ⟨.tuple [.int .u64 0, .int .i64 0], rfl, h0 h⟩
  · exact ⟨.tuple [.sym (.int .u64 (x / gcdI x y * y)), .int .i64 0], rfl, h1 hx hy h _ rfl⟩
  · exact ⟨.tuple [.int .u64 0, .int .i64 100], rfl, h2 hx hy h⟩
end Go.Proofs.Ytbgapiiopocncaa.Tic
