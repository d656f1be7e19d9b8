/- Rows of numbers, the same? -/
import Derived.Test.YtmbeolcdbifplaaSameInts0
namespace Go.Proofs.Ytmbeolcdbifplaa.Kit
open Go.Ab Base
set_option linter.unusedVariables false
set_option linter.unusedSimpArgs false

set_option maxRecDepth 100000 in
set_option maxHeartbeats 4000000 in
theorem sameIntsC (xs ys : List Int) (rowsA rowsB : List (List AV)) (na capa nb capb : Nat) (opna opnb : Bool) (hA : Hat iv xs rowsA na) (hB : Hat iv ys rowsB nb) :
    CallS Try.prog 21 [.sym (.slice 0 1 0 na capa opna none), .sym (.slice 1 1 0 nb capb opnb none)] (memB [some (.cells false 1 rowsA), some (.cells false 1 rowsB)] []) 2 fun v _ _ => v.flat = true ∧ ∃ r, (r = true ↔ xs = ys) ∧ Go.Ab.full v = .bool r := by
  obtain ⟨hna, hza, hfa, hra⟩ := hA
  obtain ⟨hnb, hzb, hfb, hrb⟩ := hB
  refine CallS.enter X Try.func21 (by decide) ?_
  cbv
  repeat' first
    | ((with_reducible intro v hv); (try rw [wrap_i64] at hv); cbv)
    | ((with_reducible apply And.intro) <;> (with_reducible intro h) <;> first | ((with_reducible exfalso); omega) | cbv)
  rotate_left
  · exact ⟨false, ⟨(fun e => by cases e), fun e => by subst e; exfalso; omega⟩, rfl⟩
  with_reducible
   refine LoopT.invR X (α := Int) 26 [] (fun s => oI (s.at 5)) (fun s => [])
    (fun a => [some (.sym (.slice 0 1 0 na capa opna none)), some (.sym (.slice 1 1 0 nb capb opnb none)), none, none, none, some (.sym (.int .i64 a))])
    (fun a => [some (.cells false 1 rowsA), some (.cells false 1 rowsB)])
    (fun a => 0 ≤ a ∧ a.toNat ≤ na ∧ Agree xs ys a.toNat) (fun a => na - a.toNat) ?_ ?_
  · cbv
    refine And.intro (HoldAt.mk ?_) (Head.mk ?_ ?_ ?_ ?_ ?_ ?_)
    · exact ⟨by decide, by simp, agree_zero xs ys⟩
    all_goals cbv
    exact ⟨BlkLe.flat (fun h => h) hfa, BlkLe.flat (fun h => h) hfb, trivial⟩
  · rintro j ⟨j1, j2, j3⟩
    cbv
    repeat' first
      | with_reducible exact trivial
      | ((with_reducible intro v hv); (try rw [wrap_i64] at hv); cbv)
      | ((with_reducible apply uAnd); (focus first | omega | (cbv; done) | kernel_rfl); try cbv)
      | ((with_reducible apply And.intro) <;> (with_reducible intro h) <;> first | ((with_reducible exfalso); omega) | cbv)
      | ((with_reducible apply ld hra); (focus omega); intro x hx; rw [show v = j.toNat by omega] at hx; cbv)
      | ((with_reducible apply ld hrb); (focus omega); intro y hy; rw [show v = j.toNat by omega] at hy; cbv)
    all_goals first
      | (have hsu := agree_succ j3 hx (by first | exact hy | (subst h; exact hy))
         have e4 : v.toNat = j.toNat + 1 := by omega
         refine And.intro (And.intro (HoldAt.mk ?_) True.intro) (Head.mk ?_ ?_ ?_ ?_ ?_ ?_)
         · exact ⟨⟨by omega, by omega, by rw [e4]; exact hsu⟩, by omega⟩
         all_goals cbv
         exact ⟨BlkLe.flat (fun h => h) hfa, BlkLe.flat (fun h => h) hfb, trivial⟩)
      | exact ⟨true, ⟨fun _ => agree_all j3 (by omega) (by omega), fun _ => rfl⟩, rfl⟩
      | exact ⟨false, ⟨(fun e => by cases e), fun e => by subst e; rw [hx] at hy; cases hy; exact absurd rfl h⟩, rfl⟩

set_option maxHeartbeats 4000000 in
theorem sameIntsT {A B : AV} {m : Mem} {c : Nat} {K : AV → Mem → Nat → Prop} {xs ys : List Int} (hA : Sl iv 1 m A xs) (hB : Sl iv 1 m B ys) (h1 : xs = ys → K (.bool true) m c) (h2 : xs ≠ ys → K (.bool false) m c) :
    CallT (fun _ => Try.prog) 21 [A, B] m c K := by
  refine CallT.sl2 (R0 := fun v => ∃ r, (r = true ↔ xs = ys) ∧ v = .bool r) (fun a b => [a, b]) hA hB (fun _ => rfl) (fun _ => rfl) (fun l A' B' a b => ⟨a, b, trivial⟩) ?_ ?_ ?_ ?_ ?_
  · rintro rfl rfl
    refine CallS.enter X Try.func21 (by decide) ?_
    cbv
    with_reducible apply LoopT.once X
    cbv
    exact ⟨true, ⟨fun _ => rfl, fun _ => rfl⟩, rfl⟩
  · rintro rfl rows n cap opn ⟨hn, hsz, hfl, hr⟩
    refine CallS.enter X Try.func21 (by decide) ?_
    cbv
    repeat' first
      | with_reducible exact trivial
      | ((with_reducible intro v hv); (try rw [wrap_i64] at hv); cbv)
      | ((with_reducible apply And.intro) <;> (with_reducible intro h) <;> first | ((with_reducible exfalso); omega) | cbv)
      | ((with_reducible apply LoopT.once X); cbv)
    all_goals first
      | exact ⟨true, ⟨fun _ => List.eq_nil_of_length_eq_zero (by omega), fun _ => rfl⟩, rfl⟩
      | exact ⟨false, ⟨(fun e => by cases e), fun e => by subst e; simp at hn; omega⟩, rfl⟩
  · rintro rfl rows n cap opn ⟨hn, hsz, hfl, hr⟩
    refine CallS.enter X Try.func21 (by decide) ?_
    cbv
    repeat' first
      | with_reducible exact trivial
      | ((with_reducible intro v hv); (try rw [wrap_i64] at hv); cbv)
      | ((with_reducible apply And.intro) <;> (with_reducible intro h) <;> first | ((with_reducible exfalso); omega) | cbv)
      | ((with_reducible apply LoopT.once X); cbv)
    all_goals first
      | exact ⟨true, ⟨fun _ => (List.eq_nil_of_length_eq_zero (by omega)).symm, fun _ => rfl⟩, rfl⟩
      | exact ⟨false, ⟨(fun e => by cases e), fun e => by subst e; simp at hn; omega⟩, rfl⟩
  · intro rowsA na capa opna rowsB nb capb opnb ha hb
    exact sameIntsC xs ys rowsA rowsB na capa nb capb opna opnb ha hb
  · rintro v ⟨r, hr, rfl⟩
    refine ⟨.bool r, rfl, ?_⟩
    cases r with
    | true => exact h1 (hr.1 rfl)
    | false => exact h2 fun e => by have := hr.2 e; cases this
end Go.Proofs.Ytmbeolcdbifplaa.Kit
