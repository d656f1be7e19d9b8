/- math/bits.Add64 by the model's entry; the law's own check; sums. -/
import Derived.Test.YtbgapiiopocncaaAb43
import Derived.Test.YtbgapiiopocncaaProg
import Derived.Laws.Externs
namespace Go.Proofs.Ytbgapiiopocncaa.Tic
open Go.Ab
set_option linter.unusedVariables false
set_option linter.unusedSimpArgs false

theorem hm : Try.prog.follows .mixedOrders = true := by kernel_rfl
theorem add64C (x y : Int) (hx : 0 ≤ x) (hy : 0 ≤ y) (m : Mem) (c : Nat) {A B C : AV} (hA : norm A = .int .u64 x) (hB : norm B = .int .u64 y) (hC : norm C = .int .u64 0) :
    CallS Try.prog 28 [A, B, C] m c fun v m' c' => v = .tuple [.int .u64 ((x + y) % 18446744073709551616), .int .u64 ((x + y) / 18446744073709551616)] ∧ m' = m ∧ c' = c := by
  refine ⟨fun μ w args hargs hS hf => .inr ?_⟩
  rw [← cnL_norm'] at hargs
  simp only [normL, hA, hB, hC, cnL, cn, Option.some.injEq] at hargs
  subst hargs
  refine ⟨.tuple #[.int .u64 ((x + y) % 18446744073709551616), .int .u64 ((x + y) / 18446744073709551616)], ?_, _, m, c, μ, ⟨rfl, rfl, rfl⟩, by simp [cn, cnL], After.refl none hS hf⟩
  rw [run_callFunc_extern Try.func28 (by kernel_rfl) (by kernel_rfl) (by kernel_rfl) (e := add64Entry) (by kernel_rfl)]
  have h := run_add64 (P := Try.prog) x y 0 hx hy (by omega) (by omega) w
  rw [Int.add_zero] at h
  rw [show [Value.int .u64 x, Value.int .u64 y, Value.int .u64 0].toArray = #[.int .u64 x, .int .u64 y, .int .u64 0] from rfl, h]
  rfl
def g28 : List AV → Mem → Option AV
  | [A, B, C], _ => match norm A, norm B, norm C with
    | .int .u64 x, .int .u64 y, .int .u64 0 => if 0 ≤ x ∧ 0 ≤ y then some (.tuple [.int .u64 ((x + y) % 18446744073709551616), .int .u64 ((x + y) / 18446744073709551616)]) else none
    | _, _, _ => none
  | _, _ => none
theorem g28_ok : HintOK Try.prog (28, g28) := fun vs m v hv c => by
  dsimp only at hv ⊢
  unfold g28 at hv
  split at hv
  · rename_i A B C _
    split at hv
    · rename_i x y hA hB hC
      split at hv
      · rename_i hxy
        cases hv
        refine (add64C x y hxy.1 hxy.2 m c hA hB hC).mono ?_
        rintro v m' c' ⟨rfl, rfl, rfl⟩
        exact ⟨rfl, rfl, rfl⟩
      · cases hv
    · cases hv
  · cases hv
noncomputable def callM : CallA := aRun Try.prog (readHints [(28, g28)]) 200
theorem X : Ctx Try.prog callM := ctx_read (l := [(28, g28)]) hm ⟨g28_ok, trivial⟩ 200
theorem awakeRuns : isYes (callM 19 [] ⟨Tr.empty 6, []⟩ 0) = true := by kernel_rfl
theorem awakeS (m : Mem) (c : Nat) : CallS Try.prog 19 [] m c fun v m' c' => v = .bool true ∧ m' = m ∧ c' = c := by
  obtain ⟨m', c', h⟩ := of_isYes awakeRuns
  exact CallS.pure (R0 := fun v => v = .bool true) rfl (CallS.of_call X.hcall h ⟨rfl, rfl⟩)
theorem awakeT {m : Mem} {c : Nat} {K : AV → Mem → Nat → Prop} (h : K (.bool true) m c) : CallT (fun _ => Try.prog) 19 [] m c K := by
  refine ⟨(awakeS m c).mono ?_⟩
  rintro v m' c' ⟨rfl, rfl, rfl⟩
  exact h
theorem add64T {x y : Int} {A B C : AV} {m : Mem} {c : Nat} {K : AV → Mem → Nat → Prop} (hA : norm A = .int .u64 x) (hB : norm B = .int .u64 y) (hC : norm C = .int .u64 0) (hx : 0 ≤ x) (hy : 0 ≤ y)
    (h : ∀ s o, s = (x + y) % 18446744073709551616 → o = (x + y) / 18446744073709551616 → K (.tuple [.sym (.int .u64 s), .sym (.int .u64 o)]) m c) : CallT (fun _ => Try.prog) 28 [A, B, C] m c K := by
  refine ⟨CallS.asFull ((add64C x y hx hy m c hA hB hC).mono ?_)⟩
  rintro v m' c' ⟨rfl, rfl, rfl⟩
  exact ⟨.tuple [.sym (.int .u64 ((x + y) % 18446744073709551616)), .sym (.int .u64 ((x + y) / 18446744073709551616))], rfl, h _ _ rfl rfl⟩

/-- A number of 64 bits' row. -/
def wv (x : Int) : List AV := [.sym (.int .u64 x)]
def U (x : Int) : Prop := 0 ≤ x ∧ x < 18446744073709551616
def AllU (xs : List Int) : Prop := ∀ x ∈ xs, U x
def sum : List Int → Int
  | [] => 0
  | x :: xs => x + sum xs
theorem sum_append : ∀ xs ys : List Int, sum (xs ++ ys) = sum xs + sum ys
  | [], ys => by simp [sum]
  | x :: xs, ys => by simp only [List.cons_append, sum, sum_append xs ys]; omega
theorem sum_succ {xs : List Int} {j : Nat} {x : Int} (h : xs[j]? = some x) : sum (xs.take (j + 1)) = sum (xs.take j) + x := by
  rw [take_succ_at h, sum_append]; simp [sum]
theorem sum_nonneg : ∀ {xs : List Int}, AllU xs → 0 ≤ sum xs
  | [], _ => by simp [sum]
  | x :: xs, h => by
    have h1 := h x (by simp)
    have h2 := sum_nonneg (xs := xs) fun y hy => h y (by simp [hy])
    unfold U at h1
    simp only [sum]; omega
theorem sum_le_take {xs : List Int} (h : AllU xs) (j : Nat) : sum (xs.take j) ≤ sum xs := by
  have e : sum xs = sum (xs.take j) + sum (xs.drop j) := by rw [← sum_append, List.take_append_drop]
  have := sum_nonneg (xs := xs.drop j) fun y hy => h y (List.mem_of_mem_drop hy)
  omega
theorem u_at {xs : List Int} (h : AllU xs) {j : Nat} {x : Int} (hx : xs[j]? = some x) : 0 ≤ x ∧ x < 18446744073709551616 := h x (List.mem_of_getElem? hx)
/-- What a sum gives. -/
def SumR (s : Int) (v : AV) : Prop := (s < 18446744073709551616 ∧ v = .tuple [.sym (.int .u64 s), .sym (.int .i64 0)]) ∨ (18446744073709551616 ≤ s ∧ v = .tuple [.sym (.int .u64 0), .sym (.int .i64 100)])
end Go.Proofs.Ytbgapiiopocncaa.Tic
