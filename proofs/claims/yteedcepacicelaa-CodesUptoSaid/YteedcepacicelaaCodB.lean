/- code.May and the document's CodeMay: any program, wherever it lies. -/
import Derived.Test.YteedcepacicelaaRecInstrs
namespace Go.Proofs.Yteedcepacicelaa.Cod
open Go.Ab Base Kit
set_option linter.unusedVariables false
set_option linter.unusedSimpArgs false

set_option maxHeartbeats 4000000 in
theorem refInstrC (a b k : Int) (m : Mem) (n : Nat) : CallS Try.prog 20 [.agg [.sym (.int .i64 a), .sym (.int .i64 b)], .sym (.int .i64 k)] m n fun v m' n' => (∃ r, (r = true ↔ OkI (if k ≤ 256 then k else 256) a b) ∧ v = .bool r) ∧ m' = m ∧ n' = n := by
  obtain ⟨K, hK⟩ : ∃ K, K = if k ≤ 256 then k else 256 := ⟨_, rfl⟩
  rw [← hK]
  refine CallS.at0 X Try.func20 (by decide) rfl (d := 2) (R0 := fun v => ∃ r, (r = true ↔ OkI K a b) ∧ v = .bool r) ?_ m n
  cbv
  repeat' first
    | ((with_reducible apply And.intro) <;> (with_reducible intro h) <;> cbv)
  all_goals
    refine ⟨_, ?_, rfl⟩
    unfold OkI
    simp only [reduceCtorEq, true_iff, false_iff]
    split at hK <;> omega

theorem bad_at {p : List Instr} {j : Nat} {a b : Int} (hx : p[j]? = some ⟨a, b⟩) (h : ¬ OkI (p.length : Int) a b) : ¬ May p := fun hm => h (okI_at hm.2 hx)
theorem okI_cap {k a b : Int} (hk : k ≤ 64) (h : OkI (if k ≤ 256 then k else 256) a b) : OkI k a b := by rw [if_pos (by omega)] at h; exact h
theorem all_end {p : List Instr} {many : Int} {j : Nat} (h : AllOk many (p.take j)) (hj : p.length ≤ j) : AllOk many p := by rwa [List.take_of_length_le hj] at h

set_option maxHeartbeats 4000000 in
theorem mayC (p : List Instr) (rows : List (List AV)) (n cap : Nat) (opn : Bool) (hA : Hat tv p rows n) :
    CallS Try.prog 14 [.sym (.slice 0 2 0 n cap opn none)] (memB [some (.cells false 2 rows)] []) 1 fun v _ _ => v.flat = true ∧ ∃ r, (r = true ↔ May p) ∧ v = .bool r := by
  obtain ⟨hn, hsz, hflat, hrows⟩ := hA
  obtain ⟨lim, hl⟩ : ∃ lim : Int → Int → Int, ∀ x y, Lim x y (lim x y) := ⟨fun x y => Classical.choose (lim_one x y), fun x y => Classical.choose_spec (lim_one x y)⟩
  have X := XB hl
  refine CallS.enter X Try.func14 (by decide) ?_
  cbv
  repeat' first
    | with_reducible exact trivial
    | ((with_reducible intro v hv); (try rw [wrap_i64] at hv); cbv)
    | ((with_reducible apply And.intro) <;> (with_reducible intro h) <;> first | ((with_reducible exfalso); omega) | cbv)
  · exact ⟨false, ⟨(fun e => by cases e), fun hm => by have := hm.1; omega⟩, rfl⟩
  with_reducible
   refine LoopT.invR X (α := Int) 28 [] (fun s => oI (s.at 10)) (fun s => [])
    (fun a => [some (.sym (.slice 0 2 0 n cap opn none)), none, none, none, none, none, none, none, some (.sym (.slice 0 2 0 n cap opn none)), some (.sym (.int .i64 v)), some (.sym (.int .i64 a))])
    (fun a => [some (.cells false 2 rows)])
    (fun a => 0 ≤ a ∧ a.toNat ≤ n ∧ AllOk v (p.take a.toNat)) (fun a => n - a.toNat) ?_ ?_
  · cbv
    refine And.intro (HoldAt.mk ?_) (Head.mk ?_ ?_ ?_ ?_ ?_ ?_)
    · exact ⟨by decide, by simp, allOk_nil _⟩
    all_goals cbv
    exact ⟨BlkLe.flat (fun h => h) hflat, trivial⟩
  · rintro j ⟨j1, j2, j3⟩
    cbv
    repeat' first
      | with_reducible exact trivial
      | ((with_reducible intro v hv); (try rw [wrap_i64] at hv); cbv)
      | ((with_reducible apply uAnd); (focus first | omega | (cbv; done) | kernel_rfl); try cbv)
      | ((with_reducible apply And.intro) <;> (with_reducible intro h) <;> (try have hL := hl a v) <;> first | ((with_reducible exfalso); omega) | cbv)
      | ((with_reducible apply ld hrows); (focus omega); rintro ⟨a, b⟩ hx; rw [show v = j.toNat by omega] at hx; cbv)
    · exact ⟨false, ⟨(fun e => by cases e), fun hm => (bad_at hx (by unfold OkI; omega) hm).elim⟩, rfl⟩
    · unfold Lim at hL
      exact ⟨false, ⟨(fun e => by cases e), fun hm => (bad_at hx (by unfold OkI; omega) hm).elim⟩, rfl⟩
    · refine And.intro (And.intro (HoldAt.mk ?_) True.intro) (Head.mk ?_ ?_ ?_ ?_ ?_ ?_)
      · have e4 : v.toNat = j.toNat + 1 := by omega
        refine ⟨⟨by omega, by omega, ?_⟩, by omega⟩
        rw [e4]
        unfold Lim at hL
        exact allOk_take j3 hx (by unfold OkI; dsimp only; omega)
      all_goals cbv
      exact ⟨BlkLe.flat (fun h => h) hflat, trivial⟩
    · have e : v = (p.length : Int) := by omega
      subst e
      exact ⟨true, ⟨fun _ => ⟨by omega, all_end j3 (by omega)⟩, fun _ => rfl⟩, rfl⟩

theorem mayT {S : AV} {m : Mem} {c : Nat} {K : AV → Mem → Nat → Prop} {p : List Instr} (hS : Sl tv 2 m S p) (h1 : May p → K (.bool true) m c) (h2 : ¬ May p → K (.bool false) m c) :
    CallT (fun _ => Try.prog) 14 [S] m c K := by
  refine CallT.sl1 (R0 := fun v => ∃ r, (r = true ↔ May p) ∧ v = .bool r) (fun a => [a]) hS (fun _ => rfl) (fun l A' a => ⟨a, trivial⟩) ?_ ?_ ?_
  · rintro rfl
    refine CallS.enter X Try.func14 (by decide) ?_
    cbv
    with_reducible apply LoopT.once X
    cbv
    exact ⟨true, ⟨fun _ => ⟨Nat.zero_le _, allOk_nil _⟩, fun _ => rfl⟩, rfl⟩
  · intro rows n cap opn hA
    refine (mayC p rows n cap opn hA).mono ?_
    rintro v m' c' ⟨h, r, hr, rfl⟩
    exact ⟨rfl, r, hr, rfl⟩
  · rintro v ⟨r, hr, rfl⟩
    refine ⟨.bool r, rfl, ?_⟩
    cases r with
    | true => exact h1 (hr.1 rfl)
    | false => exact h2 fun e => by have := hr.2 e; cases this

set_option maxHeartbeats 4000000 in
theorem refMayC (p : List Instr) (rows : List (List AV)) (n cap : Nat) (opn : Bool) (hA : Hat tv p rows n) :
    CallS Try.prog 15 [.sym (.slice 0 2 0 n cap opn none)] (memB [some (.cells false 2 rows)] []) 1 fun v _ _ => v.flat = true ∧ ∃ r, (r = true ↔ May p) ∧ v = .bool r := by
  obtain ⟨hn, hsz, hflat, hrows⟩ := hA
  refine CallS.enter X Try.func15 (by decide) ?_
  cbv
  with_reducible
   refine LoopT.invR X (α := Int) 21 [] (fun s => oI (s.at 3)) (fun s => [])
    (fun a => [some (.sym (.slice 0 2 0 n cap opn none)), none, none, some (.sym (.int .i64 a))])
    (fun a => [some (.cells false 2 rows)])
    (fun a => 0 ≤ a ∧ a.toNat ≤ n ∧ AllOk (if (n : Int) ≤ 256 then (n : Int) else 256) (p.take a.toNat)) (fun a => n - a.toNat) ?_ ?_
  · cbv
    refine And.intro (HoldAt.mk ?_) (Head.mk ?_ ?_ ?_ ?_ ?_ ?_)
    · exact ⟨by decide, by simp, allOk_nil _⟩
    all_goals cbv
    exact ⟨BlkLe.flat (fun h => h) hflat, trivial⟩
  · rintro j ⟨j1, j2, j3⟩
    cbv
    repeat' first
      | with_reducible exact trivial
      | ((with_reducible apply CallT.pureB (refInstrC _ _ _ _ _)) <;> (with_reducible intro h) <;> (rw [show v = (n : Int) by omega] at h) <;> cbv)
      | ((with_reducible intro v hv); (try rw [wrap_i64] at hv); cbv)
      | ((with_reducible apply uAnd); (focus first | omega | (cbv; done) | kernel_rfl); try cbv)
      | ((with_reducible apply And.intro) <;> (with_reducible intro h) <;> first | ((with_reducible exfalso); omega) | cbv)
      | ((with_reducible apply ld hrows); (focus omega); rintro ⟨a, b⟩ hx; rw [show v = j.toNat by omega] at hx; cbv)
    · refine And.intro (And.intro (HoldAt.mk ?_) True.intro) (Head.mk ?_ ?_ ?_ ?_ ?_ ?_)
      · have e4 : v.toNat = j.toNat + 1 := by omega
        refine ⟨⟨by omega, by omega, ?_⟩, by omega⟩
        rw [e4]
        exact allOk_take j3 hx h
      all_goals cbv
      exact ⟨BlkLe.flat (fun h => h) hflat, trivial⟩
    · exact ⟨false, ⟨(fun e => by cases e), fun hm => (h (by
        have := okI_at hm.2 hx
        have h64 := hm.1
        have e : (n : Int) ≤ 256 := by omega
        rw [if_pos e, hn]; exact this)).elim⟩, rfl⟩
    · exact ⟨true, ⟨fun _ => ⟨by omega, by have e : (n : Int) ≤ 256 := (by omega); rw [if_pos e, hn] at j3; exact all_end j3 (by omega)⟩, fun _ => rfl⟩, rfl⟩
    · exact ⟨false, ⟨(fun e => by cases e), fun hm => by have := hm.1; omega⟩, rfl⟩

theorem refMayT {S : AV} {m : Mem} {c : Nat} {K : AV → Mem → Nat → Prop} {p : List Instr} (hS : Sl tv 2 m S p) (h1 : May p → K (.bool true) m c) (h2 : ¬ May p → K (.bool false) m c) :
    CallT (fun _ => Try.prog) 15 [S] m c K := by
  refine CallT.sl1 (R0 := fun v => ∃ r, (r = true ↔ May p) ∧ v = .bool r) (fun a => [a]) hS (fun _ => rfl) (fun l A' a => ⟨a, trivial⟩) ?_ ?_ ?_
  · rintro rfl
    refine CallS.enter X Try.func15 (by decide) ?_
    cbv
    with_reducible apply LoopT.once X
    cbv
    exact ⟨true, ⟨fun _ => ⟨Nat.zero_le _, allOk_nil _⟩, fun _ => rfl⟩, rfl⟩
  · intro rows n cap opn hA
    refine (refMayC p rows n cap opn hA).mono ?_
    rintro v m' c' ⟨h, r, hr, rfl⟩
    exact ⟨rfl, r, hr, rfl⟩
  · rintro v ⟨r, hr, rfl⟩
    refine ⟨.bool r, rfl, ?_⟩
    cases r with
    | true => exact h1 (hr.1 rfl)
    | false => exact h2 fun e => by have := hr.2 e; cases this
end Go.Proofs.Yteedcepacicelaa.Cod
