/- Rows of a fixed size: All, New. -/
import Derived.Test.YtgkmjlchflkckaaRingB
namespace Go.Proofs.Ytgkmjlchflkckaa.Kit
open Go.Ab Base
set_option linter.unusedVariables false
set_option linter.unusedSimpArgs false

set_option maxRecDepth 100000 in
set_option maxHeartbeats 4000000 in
theorem allC (rows : List (List AV)) (R : List AV) (a : Nat → Int) (s f mm : Int) (q : List Int) (hR : RR rows R a s f mm) (hQ : QQ a s f mm q) :
    CallS Try.prog 19 [.sym (.ptr 0 67 0 0)] (memB [some (.cells false 67 rows)] []) 1 fun v m' c' => ∃ sh : Sh, sh.holds iv q ∧ v = sh.av 1 1 ∧ m' = memB [some (.cells false 67 rows), sh.blk 1] [] ∧ c' = 2 := by
  obtain ⟨call, X, hcall⟩ := ringCtx
  have hs0 : s ≠ 0 := by have := hQ.s1; omega
  have hs1 := hQ.s1; have hs2 := hQ.s2; have hf1 := hQ.f1; have hf2 := hQ.f2; have hm1 := hQ.m1; have hle := hQ.le; have hm2 := hQ.m2
  refine CallS.ends rfl ?_
  refine CallS.enter X Try.func19 (by decide) ?_
  cbv
  repeat' first
    | ((with_reducible apply ldR hR.row); (focus rfl); (focus first | exact hR.size | exact hR.first | exact hR.many | exact hR.arr _ (by omega)); cbv)
    | ((with_reducible apply symF); (focus rfl); cbv)
    | ((with_reducible intro v hv); (try rw [wrap_i64] at hv); cbv)
    | ((with_reducible apply uAnd); (focus first | kernel_rfl | omega); try cbv)
    | ((with_reducible apply And.intro) <;> (with_reducible intro h) <;> first | ((with_reducible exfalso); omega) | cbv)
  with_reducible
   refine LoopT.invR X (α := Int × Sh) 27 [] (fun s => (oI (s.at 11), s.sh 3)) (fun s => [s.nm 3 0])
    (fun a => [some (.sym (.ptr 0 67 0 0)), none, none, some (a.2.av 1 1), none, none, none, none, none, none, some (.sym (.int .i64 mm)), some (.sym (.int .i64 a.1))])
    (fun a => [some (.cells false 67 rows), a.2.blk 1])
    (fun a => 0 ≤ a.1 ∧ a.1 ≤ mm ∧ a.2.holds iv (q.take a.1.toNat)) (fun a => (mm - a.1).toNat) ?_ ?_
  · cbv
    refine And.intro (HoldAt.mk ?_) (Head.mk ?_ ?_ ?_ ?_ ?_ ?_)
    · refine ⟨by omega, by omega, ?_⟩
      simp [Sh.holds]
    all_goals cbv
    exact ⟨BlkLe.flat (fun h => h) hR.flats, trivial⟩
  · rintro ⟨j, sh⟩ ⟨j1, j2, j3⟩
    dsimp only at j1 j2 j3
    obtain ⟨w1, hw1⟩ : ∃ w, w = (IntKind.wrap .i64 (f + j)).tmod s := ⟨_, rfl⟩
    have hw1b : 0 ≤ w1 ∧ w1 < s := by
      rw [wrap_i64_id (by omega) (by omega), Int.tmod_eq_emod_of_nonneg (by omega)] at hw1
      rw [hw1]
      exact ⟨Int.emod_nonneg _ (by omega), Int.emod_lt_of_pos _ (by omega)⟩
    have hjq : j < mm → ∀ v0 : Nat, v0 = 0 + w1.toNat * 1 → q.take (j.toNat + 1) = q.take j.toNat ++ [a v0] := fun hlt v0 hv0 => by
      have hjl : j.toNat < q.length := by omega
      have hx := hQ.at_ j.toNat _ (List.getElem?_eq_getElem hjl)
      have e2 : v0 = (f.toNat + j.toNat) % s.toNat := by
        rw [wrap_i64_id (by omega) (by omega), Int.tmod_eq_emod_of_nonneg (by omega)] at hw1
        have h9 : (w1 : Int) = ((f.toNat + j.toNat : Nat) : Int) % (s.toNat : Int) := by
          rw [hw1, Int.toNat_of_nonneg (by omega)]
          congr 1
          omega
        omega
      rw [e2, hx]
      exact take_succ_at (List.getElem?_eq_getElem hjl)
    cases sh with
    | nil =>
      have hj0 : j < mm → j = 0 := fun hlt => by
        have : (q.take j.toNat).length = 0 := by rw [show q.take j.toNat = [] from j3]; rfl
        rw [List.length_take] at this
        omega
      cbv
      repeat' first
        | with_reducible exact trivial
        | ((with_reducible apply ldR hR.row); (focus rfl); (focus first | exact hR.size | exact hR.first | exact hR.many | exact hR.arr _ (by omega)); cbv)
        | ((rw [hcall hR hs0 hw1]); rotate_left; (focus rfl); (focus rfl); (focus rfl); cbv)
        | ((with_reducible apply symF); (focus rfl); cbv)
        | ((with_reducible intro v hv); (try rw [wrap_i64] at hv); cbv)
        | ((with_reducible apply uAnd); (focus first | kernel_rfl | omega); try cbv)
        | ((with_reducible apply And.intro) <;> (with_reducible intro h) <;> first | ((with_reducible exfalso); omega) | cbv)
      · rename_i v0 hv0
        have h4 := hjq h v0 hv0
        have hj := hj0 h
        refine And.intro (And.intro (HoldAt.mk ?_) True.intro) (Head.mk ?_ ?_ ?_ ?_ ?_ ?_)
        · dsimp only
          refine ⟨⟨by omega, by omega, ?_⟩, by omega⟩
          rw [show v.toNat = j.toNat + 1 by omega, h4, show q.take j.toNat = [] from j3]
          exact Holds.one rfl rfl
        all_goals cbv
        exact ⟨BlkLe.flat (fun h => h) hR.flats, BlkLe.flat (fun h => h) (by simp [AV.flatL, AV.flat]), trivial⟩
      · have hq : q = [] := by
          have h5 : q.take j.toNat = [] := j3
          rw [List.take_of_length_le (by omega)] at h5
          exact h5
        refine ⟨[5], [], .nilslice, [some (.cells false 67 rows), none], ?_, .nil, hq, rfl, rfl, rfl⟩
        refine Head.mk rfl rfl ?_ ?_ rfl ?_
        all_goals cbv
        exact ⟨BlkLe.flat (fun h => h) hR.flats, trivial⟩
    | sl L cap rows2 =>
      obtain ⟨g1, g2, g3, g4, g5⟩ := j3
      cbv
      repeat' first
        | with_reducible exact trivial
        | ((with_reducible apply ldR hR.row); (focus rfl); (focus first | exact hR.size | exact hR.first | exact hR.many | exact hR.arr _ (by omega)); cbv)
        | ((rw [hcall hR hs0 hw1]); rotate_left; (focus rfl); (focus rfl); (focus rfl); cbv)
        | ((with_reducible apply symF); (focus rfl); cbv)
        | ((with_reducible intro L' rows' hL hr'); (simp only [List.length_cons, List.length_nil, Nat.zero_add] at hL); cbv)
        | ((with_reducible intro v hv); (try rw [wrap_i64] at hv); cbv)
        | ((with_reducible apply uAnd); (focus first | kernel_rfl | omega | (refine And.intro ?_ (And.intro ?_ (Or.inl rfl)) <;> omega) | (simp only [List.length_cons, List.length_nil]; simp at g1; omega)); try cbv)
        | ((with_reducible apply And.intro) <;> (with_reducible intro h) <;> (try simp only [List.length_cons, List.length_nil, Nat.zero_add] at h) <;> first | ((with_reducible exfalso); omega) | ((with_reducible exfalso); simp at h; done) | cbv)
      · have h4 := hjq (by assumption) _ (by assumption)
        have hh := Holds.inPlace (x := a _) (f := iv) ⟨g1, g2, g3, g4, g5⟩ (by rfl) (by assumption) hL hr'
        refine And.intro (And.intro (HoldAt.mk ?_) True.intro) (Head.mk ?_ ?_ ?_ ?_ ?_ ?_)
        · dsimp only
          refine ⟨⟨by omega, by omega, ?_⟩, by omega⟩
          rw [show v.toNat = j.toNat + 1 by omega, h4]
          exact hh
        all_goals cbv
        exact ⟨BlkLe.flat (fun h => h) hR.flats, BlkLe.flat (fun h => h) hh.flat, trivial⟩
      · have h4 := hjq (by assumption) _ (by assumption)
        have hh := Holds.anew (x := a _) (f := iv) ⟨g1, g2, g3, g4, g5⟩ (by rfl) hL hr'
        refine And.intro (And.intro (HoldAt.mk ?_) True.intro) (Head.mk ?_ ?_ ?_ ?_ ?_ ?_)
        · dsimp only
          refine ⟨⟨by omega, by omega, ?_⟩, by omega⟩
          rw [show v.toNat = j.toNat + 1 by omega, h4]
          exact hh
        all_goals cbv
        exact ⟨BlkLe.flat (fun h => h) hR.flats, BlkLe.flat (fun h => h) hh.flat, trivial⟩
      · rw [List.take_of_length_le (by omega)] at g1 g5
        refine ⟨[1], [], .sym (.slice 1 1 0 L cap true none), [some (.cells false 67 rows), some (.cells true 1 rows2)], ?_, .sl L cap rows2, ⟨g1, g2, g3, g4, g5⟩, rfl, rfl, rfl⟩
        refine Head.mk rfl rfl ?_ ?_ rfl ?_
        all_goals cbv
        exact ⟨BlkLe.flat (fun h => h) hR.flats, BlkLe.flat (fun h => h) g4, trivial⟩
theorem allT {rows : List (List AV)} {R : List AV} {a : Nat → Int} {s f mm : Int} {q : List Int} {A : AV} {m : Mem} {c k : Nat} {rw : Bool} {K : AV → Mem → Nat → Prop} (hR : RR rows R a s f mm) (hQ : QQ a s f mm q) (hA : norm A = .ptr k 67 0 0) (hm : m.get k = some (.cells rw 67 rows)) (hk : k < c)
    (h1 : q = [] → K .nilslice m (c + 1))
    (h2 : ∀ L cap rows', Holds iv q L cap rows' → K (.sym (.slice c 1 0 L cap true none)) (m.new c (.cells true 1 rows')) (c + 1)) : CallT (fun _ => Try.prog) 19 [A] m c K := by
  refine CallT.frameF [k] (allC rows R a s f mm q hR hQ) rfl ?_ ?_ ⟨by simp, by simp; omega⟩ ?_
  · simp only [leL, normL, norm, hA, renOL, renO, List.getElem?_cons_zero, Option.map_some]
  · refine ⟨?_, trivial⟩
    simp only [List.getElem?_cons_zero, hm]
    exact BlkLe.flat (fun e => by cases e) hR.flats
  · rintro v m' c' ⟨sh, hsh, rfl, rfl, rfl⟩
    cases sh with
    | nil => exact ⟨⟨⟨trivial, trivial⟩, trivial⟩, h1 hsh⟩
    | sl L cap rows' => exact ⟨⟨⟨trivial, trivial⟩, rfl, hsh.flat⟩, h2 L cap rows' hsh⟩

/-- A new ring. -/
theorem newRR (s : Int) : RR [List.replicate 64 (.sym (.int .i64 0)) ++ [.sym (.int .i64 s), .sym (.int .i64 0), .sym (.int .i64 0)]] (List.replicate 64 (.sym (.int .i64 0)) ++ [.sym (.int .i64 s), .sym (.int .i64 0), .sym (.int .i64 0)]) (fun _ => 0) s 0 0 := by
  refine ⟨rfl, rfl, rfl, fun i hi => ?_, rfl, rfl, rfl, rfl⟩
  rw [List.getElem?_append_left (by simp; omega), List.getElem?_replicate, if_pos hi]
set_option maxRecDepth 100000 in
set_option maxHeartbeats 4000000 in
theorem newC (s : Int) : CallS Try.prog 14 [.sym (.int .i64 s)] (memB [] []) 0 fun v m' c' =>
    (1 ≤ s ∧ s ≤ 64 ∧ ∃ rows R a, RR rows R a s 0 0 ∧ v = .tuple [.ptr 0 67 0 0, .int .i64 0] ∧ m' = memB [some (.cells true 67 rows)] [] ∧ c' = 1) ∨ (¬ (1 ≤ s ∧ s ≤ 64) ∧ v = .tuple [.nilptr, .int .i64 200] ∧ m' = memB [] [] ∧ c' = 0) := by
  refine CallS.ends rfl ?_
  refine CallS.enter X Try.func14 (by decide) ?_
  cbv
  repeat' first
    | ((with_reducible intro v hv); (try rw [wrap_i64] at hv); cbv)
    | ((with_reducible apply uAnd); (focus first | kernel_rfl | omega); try cbv)
    | ((with_reducible apply And.intro) <;> (with_reducible intro h) <;> first | ((with_reducible exfalso); omega) | cbv)
  · refine ⟨[], [], .tuple [.nilptr, .int .i64 200], [], ?_, .inr ⟨by omega, rfl, rfl, rfl⟩⟩
    refine Head.mk rfl rfl ?_ ?_ rfl ?_
    all_goals cbv
  · refine ⟨[], [], .tuple [.nilptr, .int .i64 200], [], ?_, .inr ⟨by omega, rfl, rfl, rfl⟩⟩
    refine Head.mk rfl rfl ?_ ?_ rfl ?_
    all_goals cbv
  · refine ⟨[10], [], .tuple [.ptr 0 67 0 0, .int .i64 0], [some (.cells true 67 [List.replicate 64 (.sym (.int .i64 0)) ++ [.sym (.int .i64 s), .sym (.int .i64 0), .sym (.int .i64 0)]])], ?_, .inl ⟨by omega, by omega, _, _, _, newRR s, rfl, rfl, rfl⟩⟩
    refine Head.mk rfl rfl ?_ ?_ rfl ?_
    all_goals cbv
    exact ⟨BlkLe.cells (fun h => h) (RowsLe.cons rfl RowsLe.nil), trivial⟩
theorem newT (s : Int) {A : AV} {m : Mem} {c : Nat} {K : AV → Mem → Nat → Prop} (hA : norm A = .int .i64 s)
    (h1 : 1 ≤ s ∧ s ≤ 64 → ∀ rows R a f mm, RR rows R a s f mm → QQ a s f mm [] → K (.tuple [.ptr c 67 0 0, .int .i64 0]) (m.new c (.cells true 67 rows)) (c + 1))
    (h2 : ¬ (1 ≤ s ∧ s ≤ 64) → K (.tuple [.nilptr, .int .i64 200]) m c) : CallT (fun _ => Try.prog) 14 [A] m c K := by
  refine CallT.frameF [] (newC s) rfl ?_ trivial ⟨by simp, by simp⟩ ?_
  · simp only [leL, normL, norm, hA, renOL, renO]
  · rintro v m' c' (⟨b1, b2, rows, R, a, hR, rfl, rfl, rfl⟩ | ⟨hb, rfl, rfl, rfl⟩)
    · exact ⟨⟨trivial, rfl, hR.flats⟩, h1 ⟨b1, b2⟩ rows R a 0 0 hR (QQ.new s b1 b2 a)⟩
    · exact ⟨trivial, h2 hb⟩
end Go.Proofs.Ytgkmjlchflkckaa.Kit
