/- Rows, the same? Rows lent. -/
import Derived.Test.YteedcepacicelaaCodA
import Derived.Test.YteedcepacicelaaSameInts0
namespace Go.Proofs.Yteedcepacicelaa.Kit
open Go.Ab Base
open Cod (Instr tv)
set_option linter.unusedVariables false
set_option linter.unusedSimpArgs false

set_option maxRecDepth 100000 in
set_option maxHeartbeats 4000000 in
theorem sameInstrsC (xs ys : List Instr) (rowsA rowsB : List (List AV)) (na capa nb capb : Nat) (opna opnb : Bool) (hA : Hat tv xs rowsA na) (hB : Hat tv ys rowsB nb) :
    CallS Try.prog 13 [.sym (.slice 0 2 0 na capa opna none), .sym (.slice 1 2 0 nb capb opnb none)] (memB [some (.cells false 2 rowsA), some (.cells false 2 rowsB)] []) 2 fun v _ _ => v.flat = true ∧ ∃ r, (r = true ↔ xs = ys) ∧ Go.Ab.full v = .bool r := by
  obtain ⟨hna, hza, hfa, hra⟩ := hA
  obtain ⟨hnb, hzb, hfb, hrb⟩ := hB
  refine CallS.enter X Try.func13 (by decide) ?_
  cbv
  repeat' first
    | ((with_reducible intro v hv); (try rw [wrap_i64] at hv); cbv)
    | ((with_reducible apply And.intro) <;> (with_reducible intro h) <;> first | ((with_reducible exfalso); omega) | cbv)
  rotate_left
  · exact ⟨false, ⟨(fun e => by cases e), fun e => by subst e; exfalso; omega⟩, rfl⟩
  with_reducible
   refine LoopT.invR X (α := Int) 26 [] (fun s => oI (s.at 5)) (fun s => [])
    (fun a => [some (.sym (.slice 0 2 0 na capa opna none)), some (.sym (.slice 1 2 0 nb capb opnb none)), none, none, none, some (.sym (.int .i64 a))])
    (fun a => [some (.cells false 2 rowsA), some (.cells false 2 rowsB)])
    (fun a => 0 ≤ a ∧ a.toNat ≤ na ∧ Agree xs ys a.toNat) (fun a => na - a.toNat) ?_ ?_
  · cbv
    refine And.intro (HoldAt.mk ?_) (Head.mk ?_ ?_ ?_ ?_ ?_ ?_)
    · exact ⟨by decide, by simp, agree_zero xs ys⟩
    all_goals cbv
    exact ⟨BlkLe.flat (fun h => h) hfa, BlkLe.flat (fun h => h) hfb, trivial⟩
  · rintro j ⟨j1, j2, j3⟩
    cbv
    repeat' first
      | with_reducible exact trivial
      | ((with_reducible intro v hv); (try rw [wrap_i64] at hv); cbv)
      | ((with_reducible apply uAnd); (focus first | omega | (cbv; done) | kernel_rfl); try cbv)
      | ((with_reducible apply And.intro) <;> (with_reducible intro h) <;> first | ((with_reducible exfalso); omega) | cbv)
      | ((with_reducible apply ld hra); (focus omega); rintro ⟨x0, x1⟩ hx; rw [show v = j.toNat by omega] at hx; cbv)
      | ((with_reducible apply ld hrb); (focus omega); rintro ⟨y0, y1⟩ hy; rw [show v = j.toNat by omega] at hy; cbv)
    all_goals first
      | (have hxy : (⟨y0, y1⟩ : Instr) = ⟨x0, x1⟩ := by (simp only [Instr.mk.injEq]; omega)
         rw [hxy] at hy
         have hsu := agree_succ j3 hx hy
         have e4 : v.toNat = j.toNat + 1 := by omega
         refine And.intro (And.intro (HoldAt.mk ?_) True.intro) (Head.mk ?_ ?_ ?_ ?_ ?_ ?_)
         · exact ⟨⟨by omega, by omega, by rw [e4]; exact hsu⟩, by omega⟩
         all_goals cbv
         exact ⟨BlkLe.flat (fun h => h) hfa, BlkLe.flat (fun h => h) hfb, trivial⟩)
      | exact ⟨true, ⟨fun _ => agree_all j3 (by omega) (by omega), fun _ => rfl⟩, rfl⟩
      | exact ⟨false, ⟨(fun e => by cases e), fun e => by subst e; rw [hx] at hy; cases hy; omega⟩, rfl⟩

set_option maxHeartbeats 4000000 in
theorem sameInstrsT {A B : AV} {m : Mem} {c : Nat} {K : AV → Mem → Nat → Prop} {xs ys : List Instr} (hA : Sl tv 2 m A xs) (hB : Sl tv 2 m B ys) (h1 : xs = ys → K (.bool true) m c) (h2 : xs ≠ ys → K (.bool false) m c) :
    CallT (fun _ => Try.prog) 13 [A, B] m c K := by
  refine CallT.sl2 (R0 := fun v => ∃ r, (r = true ↔ xs = ys) ∧ v = .bool r) (fun a b => [a, b]) hA hB (fun _ => rfl) (fun _ => rfl) (fun l A' B' a b => ⟨a, b, trivial⟩) ?_ ?_ ?_ ?_ ?_
  · rintro rfl rfl
    refine CallS.enter X Try.func13 (by decide) ?_
    cbv
    with_reducible apply LoopT.once X
    cbv
    exact ⟨true, ⟨fun _ => rfl, fun _ => rfl⟩, rfl⟩
  · rintro rfl rows n cap opn ⟨hn, hsz, hfl, hr⟩
    refine CallS.enter X Try.func13 (by decide) ?_
    cbv
    repeat' first
      | with_reducible exact trivial
      | ((with_reducible intro v hv); (try rw [wrap_i64] at hv); cbv)
      | ((with_reducible apply And.intro) <;> (with_reducible intro h) <;> first | ((with_reducible exfalso); omega) | cbv)
      | ((with_reducible apply LoopT.once X); cbv)
    all_goals first
      | exact ⟨true, ⟨fun _ => List.eq_nil_of_length_eq_zero (by omega), fun _ => rfl⟩, rfl⟩
      | exact ⟨false, ⟨(fun e => by cases e), fun e => by subst e; simp at hn; omega⟩, rfl⟩
  · rintro rfl rows n cap opn ⟨hn, hsz, hfl, hr⟩
    refine CallS.enter X Try.func13 (by decide) ?_
    cbv
    repeat' first
      | with_reducible exact trivial
      | ((with_reducible intro v hv); (try rw [wrap_i64] at hv); cbv)
      | ((with_reducible apply And.intro) <;> (with_reducible intro h) <;> first | ((with_reducible exfalso); omega) | cbv)
      | ((with_reducible apply LoopT.once X); cbv)
    all_goals first
      | exact ⟨true, ⟨fun _ => (List.eq_nil_of_length_eq_zero (by omega)).symm, fun _ => rfl⟩, rfl⟩
      | exact ⟨false, ⟨(fun e => by cases e), fun e => by subst e; simp at hn; omega⟩, rfl⟩
  · intro rowsA na capa opna rowsB nb capb opnb ha hb
    exact sameInstrsC xs ys rowsA rowsB na capa nb capb opna opnb ha hb
  · rintro v ⟨r, hr, rfl⟩
    refine ⟨.bool r, rfl, ?_⟩
    cases r with
    | true => exact h1 (hr.1 rfl)
    | false => exact h2 fun e => by have := hr.2 e; cases this

set_option maxRecDepth 100000 in
set_option maxHeartbeats 4000000 in
theorem lendInstrsC (xs : List Instr) (rows : List (List AV)) (n cap : Nat) (opn : Bool) (hA : Hat tv xs rows n) (hl : n ≤ rows.length) (hsz : n * 16 ≤ 140737488351232) :
    CallS Try.prog 7 [.sym (.slice 0 2 0 n cap opn none)] (memB [some (.cells false 2 rows)] []) 1 fun v m' c' => ∃ rows', Lent tv xs n [.int .i64 77777, .int .i64 0] [.int .i64 77777, .int .i64 0] rows' ∧ v = .sym (.slice 1 2 0 n (n + 2) true none) ∧ m' = memB [some (.cells false 2 rows), some (.cells true 2 rows')] [] ∧ c' = 2 := by
  have hA0 := hA
  obtain ⟨hna, hza, hfa, hra⟩ := hA
  refine CallS.ends rfl ?_
  refine CallS.enter X Try.func7 (by decide) ?_
  cbv
  with_reducible apply CallT.enter X Try.func18 (by decide)
  cbv
  with_reducible apply uAnd
  focus omega
  intro src hsrc
  have hsl : src.length = n := by rw [hsrc]; simp; omega
  cbv
  repeat' first
    | ((with_reducible intro L1 rows1 hL1 hr1); (have hr2 : rows1 = src := by (rw [hr1]; simp; done)); (have hll1 : rows1.length = src.length := by rw [hr2]); cbv)
    | ((with_reducible intro L rows' hL hr'); (simp only [List.length_cons, List.length_nil, Nat.zero_add] at hL); (have hll := congrArg List.length hr'); (simp only [List.length_append, List.length_take, List.length_drop, List.length_cons, List.length_nil] at hll); cbv)
    | ((with_reducible intro v hv); cbv)
    | ((with_reducible apply uAnd); (focus first | omega | (refine And.intro ?_ (And.intro ?_ (Or.inl rfl)) <;> omega) | (simp only [List.length_append, List.length_take, List.length_drop, List.length_cons, List.length_nil]; omega) | kernel_rfl | (simp; done) | (simp; omega)); try cbv)
    | ((with_reducible apply And.intro) <;> (with_reducible intro h) <;> (try simp only [List.length_cons, List.length_nil, Nat.zero_add] at h) <;> (try (have hz := congrArg List.length h; rw [List.length_nil] at hz)) <;> (try (have hz2 := List.length_pos_iff.2 h)) <;> first | ((with_reducible exfalso); omega) | ((with_reducible exfalso); simp at h; done) | cbv)
  all_goals
    obtain rfl : v = n := by omega
    obtain rfl : L = v + 2 := by omega
    have hle : Lent tv xs v [.int .i64 77777, .int .i64 0] [.int .i64 77777, .int .i64 0] rows' := by
      refine lent_of hA0 hl rfl rfl ?_
      rw [List.drop_zero] at hsrc
      rw [← hsrc, hr']
      first
        | rw [hr2, List.drop_zero, List.take_of_length_le (by omega)]
        | (rw [List.eq_nil_of_length_eq_zero hz]; rfl)
    refine ⟨[7], [], .sym (.slice 1 2 0 v (v + 2) true none), [some (.cells false 2 rows), some (.cells true 2 rows')], ?_, rows', hle, rfl, rfl, rfl⟩
    refine Head.mk rfl rfl ?_ ?_ ?_ ?_
    all_goals cbv
    exact ⟨BlkLe.flat (fun h => h) hfa, BlkLe.flat (fun h => h) hle.1, trivial⟩
theorem lendInstrsT {S : AV} {m : Mem} {c : Nat} {K : AV → Mem → Nat → Prop} {xs : List Instr} {k n cap : Nat} {opn rw : Bool} {rows : List (List AV)} (hS : norm S = .slice k 2 0 n cap opn none) (hk : m.get k = some (.cells rw 2 rows)) (hA : Hat tv xs rows n) (hl : n ≤ rows.length) (hsz : n * 16 ≤ 140737488351232) (hkc : k < c)
    (h : ∀ rows', Lent tv xs n [.int .i64 77777, .int .i64 0] [.int .i64 77777, .int .i64 0] rows' → K (.sym (.slice c 2 0 n (n + 2) true none)) (m.new c (.cells true 2 rows')) (c + 1)) : CallT (fun _ => Try.prog) 7 [S] m c K := by
  refine CallT.frameF [k] (lendInstrsC xs rows n cap opn hA hl hsz) rfl ?_ ?_ ⟨by simp, by simp; omega⟩ ?_
  · simp only [leL, normL, norm, hS, renOL, renO, List.getElem?_cons_zero, Option.map_some]
  · refine ⟨?_, trivial⟩
    simp only [List.getElem?_cons_zero, hk]
    exact BlkLe.flat (fun e => by cases e) hA.2.2.1
  · rintro v m' c' ⟨rows', hle, rfl, rfl, rfl⟩
    exact ⟨⟨⟨trivial, trivial⟩, rfl, hle.1⟩, h rows' hle⟩

set_option maxRecDepth 100000 in
set_option maxHeartbeats 4000000 in
theorem lendInstrsNilC : CallS Try.prog 7 [.nilslice] (memB [] []) 0 fun v m' c' => ∃ rows', Lent tv [] 0 [.int .i64 77777, .int .i64 0] [.int .i64 77777, .int .i64 0] rows' ∧ v = .sym (.slice 0 2 0 0 2 true none) ∧ m' = memB [some (.cells true 2 rows')] [] ∧ c' = 1 := by
  refine CallS.ends rfl ?_
  refine CallS.enter X Try.func7 (by decide) ?_
  cbv
  with_reducible apply CallT.enter X Try.func18 (by decide)
  cbv
  refine ⟨[6], [], .sym (.slice 0 2 0 0 2 true none), [some (.cells true 2 [[.int .i64 77777, .int .i64 0], [.int .i64 77777, .int .i64 0]])], ?_, _, ⟨?_, fun j x h => by simp at h, rfl, rfl, rfl⟩, rfl, rfl, rfl⟩
  · refine Head.mk rfl rfl ?_ ?_ ?_ ?_
    all_goals cbv
    exact ⟨BlkLe.flat (fun h => h) (by simp [AV.flatL, AV.flat]), trivial⟩
  · simp [AV.flatL, AV.flat]
theorem lendInstrsNilT {S : AV} {m : Mem} {c : Nat} {K : AV → Mem → Nat → Prop} (hS : norm S = .nilslice)
    (h : ∀ rows', Lent tv [] 0 [.int .i64 77777, .int .i64 0] [.int .i64 77777, .int .i64 0] rows' → K (.sym (.slice c 2 0 0 2 true none)) (m.new c (.cells true 2 rows')) (c + 1)) : CallT (fun _ => Try.prog) 7 [S] m c K := by
  refine CallT.frameF [] lendInstrsNilC rfl ?_ trivial ⟨by simp, by simp⟩ ?_
  · simp only [leL, normL, norm, hS, renOL, renO]
  · rintro v m' c' ⟨rows', hle, rfl, rfl, rfl⟩
    exact ⟨⟨trivial, rfl, hle.1⟩, h rows' hle⟩

set_option maxRecDepth 100000 in
set_option maxHeartbeats 4000000 in
theorem keptInstrsC (xs : List Instr) (rows rows' : List (List AV)) (n cap : Nat) (opn : Bool) (hA : Hat tv xs rows n) (hle : Lent tv xs n [.int .i64 77777, .int .i64 0] [.int .i64 77777, .int .i64 0] rows') (hsz : n * 16 ≤ 140737488351232) :
    CallS Try.prog 16 [.sym (.slice 1 2 0 n (n + 2) true none), .sym (.slice 0 2 0 n cap opn none)] (memB [some (.cells false 2 rows), some (.cells false 2 rows')] []) 2 fun v _ _ => v.flat = true ∧ Go.Ab.full v = .bool true := by
  obtain ⟨hna, hza, hfa, hra⟩ := hA
  obtain ⟨hl1, hl2, hl3, hl4, hl5⟩ := hle
  obtain ⟨n2, hn2⟩ : ∃ k, k = n + 2 := ⟨_, rfl⟩
  rw [← hn2]
  refine CallS.enter X Try.func16 (by decide) ?_
  cbv
  repeat' first
    | with_reducible exact trivial
    | ((with_reducible apply sameInstrsT (xs := xs) (ys := xs)); (focus exact Sl.rows0 rfl rfl hna hza hl2); (focus exact Sl.rows0 rfl rfl hna hza hra); all_goals first | ((with_reducible intro hne); (with_reducible exfalso); exact hne rfl) | ((with_reducible intro _); cbv))
    | ((with_reducible intro v hv); (try rw [wrap_i64] at hv); cbv)
    | ((with_reducible apply uAnd); (focus first | omega | kernel_rfl); try cbv)
    | ((with_reducible apply And.intro) <;> (with_reducible intro h) <;> first | ((with_reducible exfalso); omega) | cbv)
    | ((with_reducible apply ldAt hl4); (focus omega); cbv)
    | ((with_reducible apply ldAt hl5); (focus omega); cbv)
theorem keptInstrsT {L S : AV} {m : Mem} {c : Nat} {K : AV → Mem → Nat → Prop} {xs : List Instr} {k k2 n cap : Nat} {opn rw rw2 : Bool} {rows rows' : List (List AV)} (hL : norm L = .slice k2 2 0 n (n + 2) true none) (hk2 : m.get k2 = some (.cells rw2 2 rows')) (hle : Lent tv xs n [.int .i64 77777, .int .i64 0] [.int .i64 77777, .int .i64 0] rows')
    (hS : norm S = .slice k 2 0 n cap opn none) (hk : m.get k = some (.cells rw 2 rows)) (hA : Hat tv xs rows n) (hsz : n * 16 ≤ 140737488351232) (h : K (.bool true) m c) : CallT (fun _ => Try.prog) 16 [L, S] m c K := by
  refine CallT.ofFlat (R0 := fun v => v = .bool true) (CallS.view [⟨k, 0, none, 2⟩, ⟨k2, 0, none, 2⟩] (vs0 := [.sym (.slice 1 2 0 n (n + 2) true none), .sym (.slice 0 2 0 n cap opn none)]) (bs := [some (.cells false 2 rows), some (.cells false 2 rows')]) (Nat.le_refl 2) ⟨ArgV.slice (i := 1) hL rfl, ArgV.slice (i := 0) hS rfl, trivial⟩ (fun i b hb => ?_) (keptInstrsC xs rows rows' n cap opn hA hle hsz)) ?_
  · match i with
    | 0 => simp only [List.getElem?_cons_zero, Option.some.injEq] at hb; subst hb; exact ⟨_, _, rfl, rfl, ⟨rw, rows, hk, hA.2.2.1, .inl rfl, fun i row0 hi => ⟨row0, by rw [Nat.zero_add]; exact hi, rfl⟩⟩⟩
    | 1 => simp only [List.getElem?_cons_succ, List.getElem?_cons_zero, Option.some.injEq] at hb; subst hb; exact ⟨_, _, rfl, rfl, ⟨rw2, rows', hk2, hle.1, .inl rfl, fun i row0 hi => ⟨row0, by rw [Nat.zero_add]; exact hi, rfl⟩⟩⟩
    | i + 2 => simp at hb
  · rintro v rfl
    exact ⟨_, rfl, h⟩

set_option maxRecDepth 100000 in
set_option maxHeartbeats 4000000 in
theorem keptInstrsNilC (rows' : List (List AV)) (hle : Lent tv [] 0 [.int .i64 77777, .int .i64 0] [.int .i64 77777, .int .i64 0] rows') :
    CallS Try.prog 16 [.sym (.slice 0 2 0 0 2 true none), .nilslice] (memB [some (.cells false 2 rows')] []) 1 fun v _ _ => v.flat = true ∧ Go.Ab.full v = .bool true := by
  obtain ⟨hl1, hl2, hl3, hl4, hl5⟩ := hle
  refine CallS.enter X Try.func16 (by decide) ?_
  cbv
  repeat' first
    | with_reducible exact trivial
    | ((with_reducible apply sameInstrsT (xs := []) (ys := [])); (focus exact Sl.rows0 rfl rfl rfl (by decide) hl2); (focus exact Sl.nil rfl rfl); all_goals first | ((with_reducible intro hne); (with_reducible exfalso); exact hne rfl) | ((with_reducible intro _); cbv))
    | ((with_reducible intro v hv); (try rw [wrap_i64] at hv); cbv)
    | ((with_reducible apply uAnd); (focus first | omega | kernel_rfl); try cbv)
    | ((with_reducible apply And.intro) <;> (with_reducible intro h) <;> first | ((with_reducible exfalso); omega) | cbv)
    | ((with_reducible apply ldAt hl4); (focus omega); cbv)
    | ((with_reducible apply ldAt hl5); (focus omega); cbv)
theorem keptInstrsNilT {L S : AV} {m : Mem} {c : Nat} {K : AV → Mem → Nat → Prop} {k2 : Nat} {rw2 : Bool} {rows' : List (List AV)} (hL : norm L = .slice k2 2 0 0 2 true none) (hk2 : m.get k2 = some (.cells rw2 2 rows')) (hle : Lent tv [] 0 [.int .i64 77777, .int .i64 0] [.int .i64 77777, .int .i64 0] rows')
    (hS : norm S = .nilslice) (h : K (.bool true) m c) : CallT (fun _ => Try.prog) 16 [L, S] m c K := by
  refine CallT.ofFlat (R0 := fun v => v = .bool true) (CallS.view [⟨k2, 0, none, 2⟩] (vs0 := [.sym (.slice 0 2 0 0 2 true none), .nilslice]) (bs := [some (.cells false 2 rows')]) (Nat.le_refl 1) ⟨ArgV.slice (i := 0) hL rfl, ArgV.nil hS, trivial⟩ (fun i b hb => ?_) (keptInstrsNilC rows' hle)) ?_
  · match i with
    | 0 => simp only [List.getElem?_cons_zero, Option.some.injEq] at hb; subst hb; exact ⟨_, _, rfl, rfl, ⟨rw2, rows', hk2, hle.1, .inl rfl, fun i row0 hi => ⟨row0, by rw [Nat.zero_add]; exact hi, rfl⟩⟩⟩
    | i + 1 => simp at hb
  · rintro v rfl
    exact ⟨_, rfl, h⟩
end Go.Proofs.Yteedcepacicelaa.Kit
