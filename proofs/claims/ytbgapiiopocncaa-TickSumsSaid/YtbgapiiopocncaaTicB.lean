/- Sums, wherever their numbers lie. -/
import Derived.Test.YtbgapiiopocncaaTicA
namespace Go.Proofs.Ytbgapiiopocncaa.Tic
open Go.Ab
set_option linter.unusedVariables false
set_option linter.unusedSimpArgs false

set_option maxHeartbeats 4000000 in
theorem refAddC (x y : Int) (hx : U x) (hy : U y) (m : Mem) (n : Nat) : CallS Try.prog 9 [.sym (.int .u64 x), .sym (.int .u64 y)] m n fun v m' n' => SumR (x + y) v ∧ m' = m ∧ n' = n := by
  unfold U at hx hy
  obtain ⟨R, hR⟩ : ∃ R, R = SumR (x + y) := ⟨_, rfl⟩
  rw [← hR]
  refine CallS.at0 X Try.func9 (by decide) rfl (d := 2) (R0 := R) ?_ m n
  cbv
  repeat' first
    | ((with_reducible intro v hv); (try rw [wrap_u64] at hv); cbv)
    | ((with_reducible apply And.intro) <;> (with_reducible intro h) <;> first | ((with_reducible exfalso); omega) | cbv)
  all_goals
    rw [hR]
    unfold SumR
  · exact .inr ⟨by omega, rfl⟩
  · refine .inl ⟨by omega, ?_⟩
    rw [show x + y = v by omega]
    rfl

set_option maxHeartbeats 4000000 in
theorem sumC (xs : List Int) (hU : AllU xs) (rows : List (List AV)) (n cap : Nat) (opn : Bool) (hA : Hat wv xs rows n) :
    CallS Try.prog 14 [.sym (.slice 0 1 0 n cap opn none)] (memB [some (.cells false 1 rows)] []) 1 fun v _ _ => v.flat = true ∧ ∃ w, SumR (sum xs) w ∧ Go.Ab.full v = w := by
  obtain ⟨hn, hsz, hflat, hrows⟩ := hA
  obtain ⟨R, hR⟩ : ∃ R, R = SumR (sum xs) := ⟨_, rfl⟩
  rw [← hR]
  refine CallS.enter X Try.func14 (by decide) ?_
  cbv
  repeat' first
    | with_reducible exact trivial
    | ((with_reducible intro v hv); (try rw [wrap_i64] at hv); cbv)
  with_reducible
   refine LoopT.invR X (α := Int × Int) 26 [] (fun s => (oI (s.at 4), oI (s.at 11))) (fun s => [])
    (fun a => [none, none, none, none, some (.sym (.int .u64 a.1)), none, none, none, none, some (.sym (.slice 0 1 0 n cap opn none)), some (.sym (.int .i64 v)), some (.sym (.int .i64 a.2))])
    (fun a => [some (.cells false 1 rows)])
    (fun a => 0 ≤ a.2 ∧ a.2.toNat ≤ n ∧ a.1 = sum (xs.take a.2.toNat) ∧ a.1 < 18446744073709551616) (fun a => n - a.2.toNat) ?_ ?_
  · cbv
    refine And.intro (HoldAt.mk ?_) (Head.mk ?_ ?_ ?_ ?_ ?_ ?_)
    · exact ⟨by decide, by simp, rfl, by decide⟩
    all_goals cbv
    exact ⟨BlkLe.flat (fun h => h) hflat, trivial⟩
  · rintro ⟨s, j⟩ ⟨j1, j2, j3, j4⟩
    dsimp only at j1 j2 j3 j4
    have hs0 : 0 ≤ s := by rw [j3]; exact sum_nonneg fun y hy => hU y (List.mem_of_mem_take hy)
    cbv
    repeat' first
      | with_reducible exact trivial
      | ((with_reducible apply add64T); (focus rfl); (focus rfl); (focus rfl); (focus omega); (focus omega); (with_reducible intro so oo hso hoo); cbv)
      | ((with_reducible intro v hv); (try rw [wrap_i64] at hv); cbv)
      | ((with_reducible apply uAnd); (focus first | omega | (cbv; done) | kernel_rfl); try cbv)
      | ((with_reducible apply And.intro) <;> (with_reducible intro h) <;> first | ((with_reducible exfalso); omega) | cbv)
      | ((with_reducible apply ld hrows); (focus omega); (with_reducible intro x hx); (rw [show v = j.toNat by omega] at hx); (have hux := u_at hU hx); (have hsx := sum_succ hx); (have hle := sum_le_take hU (j.toNat + 1)); cbv)
    all_goals first
      | (refine ⟨_, by rw [hR]; exact .inr ⟨by omega, rfl⟩, rfl⟩)
      | (refine ⟨.tuple [.sym (.int .u64 s), .sym (.int .i64 0)], by rw [hR]; exact .inl ⟨by rw [List.take_of_length_le (by omega)] at j3; omega, by rw [List.take_of_length_le (by omega)] at j3; rw [j3]⟩, rfl⟩)
      | (refine And.intro (And.intro (HoldAt.mk ?_) True.intro) (Head.mk ?_ ?_ ?_ ?_ ?_ ?_)
         · have e4 : v.toNat = j.toNat + 1 := by omega
           refine ⟨⟨by omega, by omega, ?_, by omega⟩, by dsimp only; omega⟩
           dsimp only
           rw [e4]
           omega
         all_goals cbv
         exact ⟨BlkLe.flat (fun h => h) hflat, trivial⟩)

theorem refAddT (x y : Int) (hx : U x) (hy : U y) {m : Mem} {c : Nat} {K : AV → Mem → Nat → Prop} (h1 : x + y < 18446744073709551616 → ∀ s, s = x + y → K (.tuple [.sym (.int .u64 s), .int .i64 0]) m c) (h2 : 18446744073709551616 ≤ x + y → K (.tuple [.int .u64 0, .int .i64 100]) m c) :
    CallT (fun _ => Try.prog) 9 [.sym (.int .u64 x), .sym (.int .u64 y)] m c K := by
  refine ⟨CallS.asFull ((refAddC x y hx hy m c).mono ?_)⟩
  rintro v m' c' ⟨⟨h, rfl⟩ | ⟨h, rfl⟩, rfl, rfl⟩
  · exact ⟨.tuple [.sym (.int .u64 (x + y)), .int .i64 0], rfl, h1 h _ rfl⟩
  · exact ⟨.tuple [.int .u64 0, .int .i64 100], rfl, h2 h⟩

set_option maxHeartbeats 4000000 in
theorem refSumC (xs : List Int) (hU : AllU xs) (rows : List (List AV)) (n cap : Nat) (opn : Bool) (hA : Hat wv xs rows n) :
    CallS Try.prog 15 [.sym (.slice 0 1 0 n cap opn none)] (memB [some (.cells false 1 rows)] []) 1 fun v _ _ => v.flat = true ∧ ∃ w, SumR (sum xs) w ∧ Go.Ab.full v = w := by
  obtain ⟨hn, hsz, hflat, hrows⟩ := hA
  obtain ⟨R, hR⟩ : ∃ R, R = SumR (sum xs) := ⟨_, rfl⟩
  rw [← hR]
  refine CallS.enter X Try.func15 (by decide) ?_
  cbv
  with_reducible
   refine LoopT.invR X (α := Int × Int) 28 [] (fun s => (oI (s.at 4), oI (s.at 5))) (fun s => [])
    (fun a => [some (.sym (.slice 0 1 0 n cap opn none)), none, none, none, some (.sym (.int .u64 a.1)), some (.sym (.int .i64 a.2))])
    (fun a => [some (.cells false 1 rows)])
    (fun a => 0 ≤ a.2 ∧ a.2.toNat ≤ n ∧ a.1 = sum (xs.take a.2.toNat) ∧ a.1 < 18446744073709551616) (fun a => n - a.2.toNat) ?_ ?_
  · cbv
    refine And.intro (HoldAt.mk ?_) (Head.mk ?_ ?_ ?_ ?_ ?_ ?_)
    · exact ⟨by decide, by simp, rfl, by decide⟩
    all_goals cbv
    exact ⟨BlkLe.flat (fun h => h) hflat, trivial⟩
  · rintro ⟨s, j⟩ ⟨j1, j2, j3, j4⟩
    dsimp only at j1 j2 j3 j4
    have hs0 : 0 ≤ s := by rw [j3]; exact sum_nonneg fun y hy => hU y (List.mem_of_mem_take hy)
    cbv
    repeat' first
      | with_reducible exact trivial
      | ((with_reducible apply refAddT s x (by unfold U; omega) (by unfold U; omega)); all_goals first | ((with_reducible intro hlt so hso); cbv) | ((with_reducible intro hge); cbv))
      | ((with_reducible intro v hv); (try rw [wrap_i64] at hv); cbv)
      | ((with_reducible apply uAnd); (focus first | omega | (cbv; done) | kernel_rfl); try cbv)
      | ((with_reducible apply And.intro) <;> (with_reducible intro h) <;> first | ((with_reducible exfalso); omega) | cbv)
      | ((with_reducible apply ld hrows); (focus omega); (with_reducible intro x hx); (rw [show v = j.toNat by omega] at hx); (have hux := u_at hU hx); (have hsx := sum_succ hx); (have hle := sum_le_take hU (j.toNat + 1)); cbv)
    all_goals first
      | (refine ⟨_, by rw [hR]; exact .inr ⟨by omega, rfl⟩, rfl⟩)
      | (refine ⟨.tuple [.sym (.int .u64 s), .sym (.int .i64 0)], by rw [hR]; exact .inl ⟨by rw [List.take_of_length_le (by omega)] at j3; omega, by rw [List.take_of_length_le (by omega)] at j3; rw [j3]⟩, rfl⟩)
      | (refine And.intro (And.intro (HoldAt.mk ?_) True.intro) (Head.mk ?_ ?_ ?_ ?_ ?_ ?_)
         · have e4 : v.toNat = j.toNat + 1 := by omega
           refine ⟨⟨by omega, by omega, ?_, by omega⟩, by dsimp only; omega⟩
           dsimp only
           rw [e4]
           omega
         all_goals cbv
         exact ⟨BlkLe.flat (fun h => h) hflat, trivial⟩)

theorem sumT {xs : List Int} (hU : AllU xs) {S : AV} {m : Mem} {c : Nat} {K : AV → Mem → Nat → Prop} (hS : Sl wv 1 m S xs) (h1 : sum xs < 18446744073709551616 → ∀ s, s = sum xs → K (.tuple [.sym (.int .u64 s), .int .i64 0]) m c) (h2 : 18446744073709551616 ≤ sum xs → K (.tuple [.int .u64 0, .int .i64 100]) m c) :
    CallT (fun _ => Try.prog) 14 [S] m c K := by
  refine CallT.sl1 (R0 := SumR (sum xs)) (fun S => [S]) hS (fun _ => rfl) (fun l S' h => ⟨h, trivial⟩) ?_ ?_ ?_
  · rintro rfl
    obtain ⟨R, hR⟩ : ∃ R, R = SumR (sum []) := ⟨_, rfl⟩
    rw [← hR]
    refine CallS.enter X Try.func14 (by decide) ?_
    cbv
    with_reducible apply LoopT.one X
    cbv
    rw [hR]
    exact .inl ⟨by decide, rfl⟩
  · intro rows n cap opn hA
    refine (sumC xs hU rows n cap opn hA).mono ?_
    rintro v m' c' ⟨h, w, hw, hv⟩
    exact ⟨h, hv ▸ hw⟩
  · rintro v (⟨h, rfl⟩ | ⟨h, rfl⟩)
    · exact ⟨.tuple [.sym (.int .u64 (sum xs)), .int .i64 0], rfl, h1 h _ rfl⟩
    · exact ⟨.tuple [.int .u64 0, .int .i64 100], rfl, h2 h⟩

theorem refSumT {xs : List Int} (hU : AllU xs) {S : AV} {m : Mem} {c : Nat} {K : AV → Mem → Nat → Prop} (hS : Sl wv 1 m S xs) (h1 : sum xs < 18446744073709551616 → ∀ s, s = sum xs → K (.tuple [.sym (.int .u64 s), .int .i64 0]) m c) (h2 : 18446744073709551616 ≤ sum xs → K (.tuple [.int .u64 0, .int .i64 100]) m c) :
    CallT (fun _ => Try.prog) 15 [S] m c K := by
  refine CallT.sl1 (R0 := SumR (sum xs)) (fun S => [S]) hS (fun _ => rfl) (fun l S' h => ⟨h, trivial⟩) ?_ ?_ ?_
  · rintro rfl
    obtain ⟨R, hR⟩ : ∃ R, R = SumR (sum []) := ⟨_, rfl⟩
    rw [← hR]
    refine CallS.enter X Try.func15 (by decide) ?_
    cbv
    with_reducible apply LoopT.one X
    cbv
    rw [hR]
    exact .inl ⟨by decide, rfl⟩
  · intro rows n cap opn hA
    refine (refSumC xs hU rows n cap opn hA).mono ?_
    rintro v m' c' ⟨h, w, hw, hv⟩
    exact ⟨h, hv ▸ hw⟩
  · rintro v (⟨h, rfl⟩ | ⟨h, rfl⟩)
    · exact ⟨.tuple [.sym (.int .u64 (sum xs)), .int .i64 0], rfl, h1 h _ rfl⟩
    · exact ⟨.tuple [.int .u64 0, .int .i64 100], rfl, h2 h⟩
end Go.Proofs.Ytbgapiiopocncaa.Tic
