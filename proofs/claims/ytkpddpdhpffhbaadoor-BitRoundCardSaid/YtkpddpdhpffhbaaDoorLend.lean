/- Rows, the same up to a place; rows lent. Rows of numbers, the same? Rows of numbers, lent. -/
import Derived.Test.YtkpddpdhpffhbaaDoorBase
import Derived.Test.YtkpddpdhpffhbaaDoorAb38
namespace Go.Proofs.YtkpddpdhpffhbaaDoor.Kit
open Go.Ab Base
set_option linter.unusedVariables false
set_option linter.unusedSimpArgs false

/-- Two rows are the same up to a place. -/
def Agree {α : Type} (xs ys : List α) (j : Nat) : Prop := ∀ i, i < j → xs[i]? = ys[i]?
theorem agree_zero {α : Type} (xs ys : List α) : Agree xs ys 0 := fun i h => by omega
theorem agree_succ {α : Type} {xs ys : List α} {j : Nat} {x : α} (h : Agree xs ys j) (hx : xs[j]? = some x) (hy : ys[j]? = some x) : Agree xs ys (j + 1) := fun i hi => by
  by_cases e : i = j
  · subst e; rw [hx, hy]
  · exact h i (by omega)
theorem agree_all {α : Type} {xs ys : List α} {j : Nat} (h : Agree xs ys j) (hl : xs.length = ys.length) (hj : xs.length ≤ j) : xs = ys := by
  apply List.ext_getElem? 
  intro i
  by_cases hi : i < j
  · exact h i hi
  · rw [List.getElem?_eq_none (by omega), List.getElem?_eq_none (by omega)]

/-- What lies where a row was lent. -/
def Lent {α : Type} (f : α → List AV) (xs : List α) (n : Nat) (p q : List AV) (rows' : List (List AV)) : Prop :=
  (∀ row ∈ rows', AV.flatL row = true) ∧ At f xs rows' ∧ rows'.length = n + 2 ∧ rows'[n]? = some p ∧ rows'[n + 1]? = some q
theorem lent_of {α : Type} {f : α → List AV} {xs : List α} {n : Nat} {p q : List AV} {rows rows' : List (List AV)} (h : Hat f xs rows n) (hl : n ≤ rows.length) (hp : AV.flatL p = true) (hq : AV.flatL q = true) (e : rows' = rows.take n ++ [p, q]) : Lent f xs n p q rows' := by
  obtain ⟨h1, h2, h3, h4⟩ := h
  subst e
  refine ⟨fun row hr => ?_, fun j x hx => ?_, by simp; omega, ?_, ?_⟩
  · rcases List.mem_append.1 hr with hr | hr
    · exact h3 row (List.mem_of_mem_take hr)
    · simp at hr; rcases hr with rfl | rfl <;> assumption
  · have hj : j < n := by have := (List.getElem?_eq_some_iff.1 hx).1; omega
    rw [List.getElem?_append_left (by simp; omega), List.getElem?_take_of_lt hj]
    exact h4 j x hx
  · rw [List.getElem?_append_right (by simp; omega), List.length_take, Nat.min_eq_left hl, Nat.sub_self]; rfl
  · rw [List.getElem?_append_right (by simp; omega), List.length_take, Nat.min_eq_left hl, Nat.add_sub_cancel_left]; rfl

end Go.Proofs.YtkpddpdhpffhbaaDoor.Kit

namespace Go.Proofs.YtkpddpdhpffhbaaDoor.Kit
open Go.Ab Base
set_option linter.unusedVariables false
set_option linter.unusedSimpArgs false

set_option maxRecDepth 100000 in
set_option maxHeartbeats 4000000 in
theorem sameIntsC (xs ys : List Int) (rowsA rowsB : List (List AV)) (na capa nb capb : Nat) (opna opnb : Bool) (hA : Hat iv xs rowsA na) (hB : Hat iv ys rowsB nb) :
    CallS Tryd.prog 20 [.sym (.slice 0 1 0 na capa opna none), .sym (.slice 1 1 0 nb capb opnb none)] (memB [some (.cells false 1 rowsA), some (.cells false 1 rowsB)] []) 2 fun v _ _ => v.flat = true ∧ ∃ r, (r = true ↔ xs = ys) ∧ Go.Ab.full v = .bool r := by
  obtain ⟨hna, hza, hfa, hra⟩ := hA
  obtain ⟨hnb, hzb, hfb, hrb⟩ := hB
  refine CallS.enter X Tryd.func20 (by decide) ?_
  cbv
  repeat' first
    | ((with_reducible intro v hv); (try rw [wrap_i64] at hv); cbv)
    | ((with_reducible apply And.intro) <;> (with_reducible intro h) <;> first | ((with_reducible exfalso); omega) | cbv)
  rotate_left
  · exact ⟨false, ⟨(fun e => by cases e), fun e => by subst e; exfalso; omega⟩, rfl⟩
  with_reducible
   refine LoopT.invR X (α := Int) 26 [] (fun s => oI (s.at 5)) (fun s => [])
    (fun a => [some (.sym (.slice 0 1 0 na capa opna none)), some (.sym (.slice 1 1 0 nb capb opnb none)), none, none, none, some (.sym (.int .i64 a))])
    (fun a => [some (.cells false 1 rowsA), some (.cells false 1 rowsB)])
    (fun a => 0 ≤ a ∧ a.toNat ≤ na ∧ Agree xs ys a.toNat) (fun a => na - a.toNat) ?_ ?_
  · cbv
    refine And.intro (HoldAt.mk ?_) (Head.mk ?_ ?_ ?_ ?_ ?_ ?_)
    · exact ⟨by decide, by simp, agree_zero xs ys⟩
    all_goals cbv
    exact ⟨BlkLe.flat (fun h => h) hfa, BlkLe.flat (fun h => h) hfb, trivial⟩
  · rintro j ⟨j1, j2, j3⟩
    cbv
    repeat' first
      | with_reducible exact trivial
      | ((with_reducible intro v hv); (try rw [wrap_i64] at hv); cbv)
      | ((with_reducible apply uAnd); (focus first | omega | (cbv; done) | kernel_rfl); try cbv)
      | ((with_reducible apply And.intro) <;> (with_reducible intro h) <;> first | ((with_reducible exfalso); omega) | cbv)
      | ((with_reducible apply ld hra); (focus omega); intro x hx; rw [show v = j.toNat by omega] at hx; cbv)
      | ((with_reducible apply ld hrb); (focus omega); intro y hy; rw [show v = j.toNat by omega] at hy; cbv)
    all_goals first
      | (have hsu := agree_succ j3 hx (by first | exact hy | (subst h; exact hy))
         have e4 : v.toNat = j.toNat + 1 := by omega
         refine And.intro (And.intro (HoldAt.mk ?_) True.intro) (Head.mk ?_ ?_ ?_ ?_ ?_ ?_)
         · exact ⟨⟨by omega, by omega, by rw [e4]; exact hsu⟩, by omega⟩
         all_goals cbv
         exact ⟨BlkLe.flat (fun h => h) hfa, BlkLe.flat (fun h => h) hfb, trivial⟩)
      | exact ⟨true, ⟨fun _ => agree_all j3 (by omega) (by omega), fun _ => rfl⟩, rfl⟩
      | exact ⟨false, ⟨(fun e => by cases e), fun e => by subst e; rw [hx] at hy; cases hy; exact absurd rfl h⟩, rfl⟩

set_option maxHeartbeats 4000000 in
theorem sameIntsT {A B : AV} {m : Mem} {c : Nat} {K : AV → Mem → Nat → Prop} {xs ys : List Int} (hA : Sl iv 1 m A xs) (hB : Sl iv 1 m B ys) (h1 : xs = ys → K (.bool true) m c) (h2 : xs ≠ ys → K (.bool false) m c) :
    CallT (fun _ => Tryd.prog) 20 [A, B] m c K := by
  refine CallT.sl2 (R0 := fun v => ∃ r, (r = true ↔ xs = ys) ∧ v = .bool r) (fun a b => [a, b]) hA hB (fun _ => rfl) (fun _ => rfl) (fun l A' B' a b => ⟨a, b, trivial⟩) ?_ ?_ ?_ ?_ ?_
  · rintro rfl rfl
    refine CallS.enter X Tryd.func20 (by decide) ?_
    cbv
    with_reducible apply LoopT.once X
    cbv
    exact ⟨true, ⟨fun _ => rfl, fun _ => rfl⟩, rfl⟩
  · rintro rfl rows n cap opn ⟨hn, hsz, hfl, hr⟩
    refine CallS.enter X Tryd.func20 (by decide) ?_
    cbv
    repeat' first
      | with_reducible exact trivial
      | ((with_reducible intro v hv); (try rw [wrap_i64] at hv); cbv)
      | ((with_reducible apply And.intro) <;> (with_reducible intro h) <;> first | ((with_reducible exfalso); omega) | cbv)
      | ((with_reducible apply LoopT.once X); cbv)
    all_goals first
      | exact ⟨true, ⟨fun _ => List.eq_nil_of_length_eq_zero (by omega), fun _ => rfl⟩, rfl⟩
      | exact ⟨false, ⟨(fun e => by cases e), fun e => by subst e; simp at hn; omega⟩, rfl⟩
  · rintro rfl rows n cap opn ⟨hn, hsz, hfl, hr⟩
    refine CallS.enter X Tryd.func20 (by decide) ?_
    cbv
    repeat' first
      | with_reducible exact trivial
      | ((with_reducible intro v hv); (try rw [wrap_i64] at hv); cbv)
      | ((with_reducible apply And.intro) <;> (with_reducible intro h) <;> first | ((with_reducible exfalso); omega) | cbv)
      | ((with_reducible apply LoopT.once X); cbv)
    all_goals first
      | exact ⟨true, ⟨fun _ => (List.eq_nil_of_length_eq_zero (by omega)).symm, fun _ => rfl⟩, rfl⟩
      | exact ⟨false, ⟨(fun e => by cases e), fun e => by subst e; simp at hn; omega⟩, rfl⟩
  · intro rowsA na capa opna rowsB nb capb opnb ha hb
    exact sameIntsC xs ys rowsA rowsB na capa nb capb opna opnb ha hb
  · rintro v ⟨r, hr, rfl⟩
    refine ⟨.bool r, rfl, ?_⟩
    cases r with
    | true => exact h1 (hr.1 rfl)
    | false => exact h2 fun e => by have := hr.2 e; cases this
end Go.Proofs.YtkpddpdhpffhbaaDoor.Kit

namespace Go.Proofs.YtkpddpdhpffhbaaDoor.Kit
open Go.Ab Base
set_option linter.unusedVariables false
set_option linter.unusedSimpArgs false

set_option maxRecDepth 100000 in
set_option maxHeartbeats 4000000 in
theorem lendIntsC (xs : List Int) (rows : List (List AV)) (n cap : Nat) (opn : Bool) (hA : Hat iv xs rows n) (hl : n ≤ rows.length) (hsz : n * 8 ≤ 140737488351232) :
    CallS Tryd.prog 6 [.sym (.slice 0 1 0 n cap opn none)] (memB [some (.cells false 1 rows)] []) 1 fun v m' c' => ∃ rows', Lent iv xs n [.int .i64 (-7777)] [.int .i64 (-8888)] rows' ∧ v = .sym (.slice 1 1 0 n (n + 2) true none) ∧ m' = memB [some (.cells false 1 rows), some (.cells true 1 rows')] [] ∧ c' = 2 := by
  have hA0 := hA
  obtain ⟨hna, hza, hfa, hra⟩ := hA
  refine CallS.ends rfl ?_
  refine CallS.enter X Tryd.func6 (by decide) ?_
  cbv
  with_reducible apply CallT.enter X Tryd.func23 (by decide)
  cbv
  with_reducible apply uAnd
  focus omega
  intro src hsrc
  have hsl : src.length = n := by rw [hsrc]; simp; omega
  cbv
  repeat' first
    | ((with_reducible intro L1 rows1 hL1 hr1); (have hr2 : rows1 = src := by (rw [hr1]; simp; done)); (have hll1 : rows1.length = src.length := by rw [hr2]); cbv)
    | ((with_reducible intro L rows' hL hr'); (simp only [List.length_cons, List.length_nil, Nat.zero_add] at hL); (have hll := congrArg List.length hr'); (simp only [List.length_append, List.length_take, List.length_drop, List.length_cons, List.length_nil] at hll); cbv)
    | ((with_reducible intro v hv); cbv)
    | ((with_reducible apply uAnd); (focus first | omega | (refine And.intro ?_ (And.intro ?_ (Or.inl rfl)) <;> omega) | (simp only [List.length_append, List.length_take, List.length_drop, List.length_cons, List.length_nil]; omega) | kernel_rfl | (simp; done) | (simp; omega)); try cbv)
    | ((with_reducible apply And.intro) <;> (with_reducible intro h) <;> (try simp only [List.length_cons, List.length_nil, Nat.zero_add] at h) <;> (try (have hz := congrArg List.length h; rw [List.length_nil] at hz)) <;> (try (have hz2 := List.length_pos_iff.2 h)) <;> first | ((with_reducible exfalso); omega) | ((with_reducible exfalso); simp at h; done) | cbv)
  all_goals
    obtain rfl : v = n := by omega
    obtain rfl : L = v + 2 := by omega
    have hle : Lent iv xs v [.int .i64 (-7777)] [.int .i64 (-8888)] rows' := by
      refine lent_of hA0 hl rfl rfl ?_
      rw [List.drop_zero] at hsrc
      rw [← hsrc, hr']
      first
        | rw [hr2, List.drop_zero, List.take_of_length_le (by omega)]
        | (rw [List.eq_nil_of_length_eq_zero hz]; rfl)
    refine ⟨[5], [], .sym (.slice 1 1 0 v (v + 2) true none), [some (.cells false 1 rows), some (.cells true 1 rows')], ?_, rows', hle, rfl, rfl, rfl⟩
    refine Head.mk rfl rfl ?_ ?_ ?_ ?_
    all_goals cbv
    exact ⟨BlkLe.flat (fun h => h) hfa, BlkLe.flat (fun h => h) hle.1, trivial⟩
theorem lendIntsT {S : AV} {m : Mem} {c : Nat} {K : AV → Mem → Nat → Prop} {xs : List Int} {k n cap : Nat} {opn rw : Bool} {rows : List (List AV)} (hS : norm S = .slice k 1 0 n cap opn none) (hk : m.get k = some (.cells rw 1 rows)) (hA : Hat iv xs rows n) (hl : n ≤ rows.length) (hsz : n * 8 ≤ 140737488351232) (hkc : k < c)
    (h : ∀ rows', Lent iv xs n [.int .i64 (-7777)] [.int .i64 (-8888)] rows' → K (.sym (.slice c 1 0 n (n + 2) true none)) (m.new c (.cells true 1 rows')) (c + 1)) : CallT (fun _ => Tryd.prog) 6 [S] m c K := by
  refine CallT.frameF [k] (lendIntsC xs rows n cap opn hA hl hsz) rfl ?_ ?_ ⟨by simp, by simp; omega⟩ ?_
  · simp only [leL, normL, norm, hS, renOL, renO, List.getElem?_cons_zero, Option.map_some]
  · refine ⟨?_, trivial⟩
    simp only [List.getElem?_cons_zero, hk]
    exact BlkLe.flat (fun e => by cases e) hA.2.2.1
  · rintro v m' c' ⟨rows', hle, rfl, rfl, rfl⟩
    exact ⟨⟨⟨trivial, trivial⟩, rfl, hle.1⟩, h rows' hle⟩

set_option maxRecDepth 100000 in
set_option maxHeartbeats 4000000 in
theorem lendIntsNilC : CallS Tryd.prog 6 [.nilslice] (memB [] []) 0 fun v m' c' => ∃ rows', Lent iv [] 0 [.int .i64 (-7777)] [.int .i64 (-8888)] rows' ∧ v = .sym (.slice 0 1 0 0 2 true none) ∧ m' = memB [some (.cells true 1 rows')] [] ∧ c' = 1 := by
  refine CallS.ends rfl ?_
  refine CallS.enter X Tryd.func6 (by decide) ?_
  cbv
  with_reducible apply CallT.enter X Tryd.func23 (by decide)
  cbv
  refine ⟨[4], [], .sym (.slice 0 1 0 0 2 true none), [some (.cells true 1 [[.int .i64 (-7777)], [.int .i64 (-8888)]])], ?_, _, ⟨?_, fun j x h => by simp at h, rfl, rfl, rfl⟩, rfl, rfl, rfl⟩
  · refine Head.mk rfl rfl ?_ ?_ ?_ ?_
    all_goals cbv
    exact ⟨BlkLe.flat (fun h => h) (by simp [AV.flatL, AV.flat]), trivial⟩
  · simp [AV.flatL, AV.flat]
theorem lendIntsNilT {S : AV} {m : Mem} {c : Nat} {K : AV → Mem → Nat → Prop} (hS : norm S = .nilslice)
    (h : ∀ rows', Lent iv [] 0 [.int .i64 (-7777)] [.int .i64 (-8888)] rows' → K (.sym (.slice c 1 0 0 2 true none)) (m.new c (.cells true 1 rows')) (c + 1)) : CallT (fun _ => Tryd.prog) 6 [S] m c K := by
  refine CallT.frameF [] lendIntsNilC rfl ?_ trivial ⟨by simp, by simp⟩ ?_
  · simp only [leL, normL, norm, hS, renOL, renO]
  · rintro v m' c' ⟨rows', hle, rfl, rfl, rfl⟩
    exact ⟨⟨trivial, rfl, hle.1⟩, h rows' hle⟩

set_option maxRecDepth 100000 in
set_option maxHeartbeats 4000000 in
theorem keptIntsC (xs : List Int) (rows rows' : List (List AV)) (n cap : Nat) (opn : Bool) (hA : Hat iv xs rows n) (hle : Lent iv xs n [.int .i64 (-7777)] [.int .i64 (-8888)] rows') (hsz : n * 8 ≤ 140737488351232) :
    CallS Tryd.prog 9 [.sym (.slice 1 1 0 n (n + 2) true none), .sym (.slice 0 1 0 n cap opn none)] (memB [some (.cells false 1 rows), some (.cells false 1 rows')] []) 2 fun v _ _ => v.flat = true ∧ Go.Ab.full v = .bool true := by
  obtain ⟨hna, hza, hfa, hra⟩ := hA
  obtain ⟨hl1, hl2, hl3, hl4, hl5⟩ := hle
  obtain ⟨n2, hn2⟩ : ∃ k, k = n + 2 := ⟨_, rfl⟩
  rw [← hn2]
  refine CallS.enter X Tryd.func9 (by decide) ?_
  cbv
  repeat' first
    | with_reducible exact trivial
    | ((with_reducible apply sameIntsT (xs := xs) (ys := xs)); (focus exact Sl.rows0 rfl rfl hna hza hl2); (focus exact Sl.rows0 rfl rfl hna hza hra); all_goals first | ((with_reducible intro hne); (with_reducible exfalso); exact hne rfl) | ((with_reducible intro _); cbv))
    | ((with_reducible intro v hv); (try rw [wrap_i64] at hv); cbv)
    | ((with_reducible apply uAnd); (focus first | omega | kernel_rfl); try cbv)
    | ((with_reducible apply And.intro) <;> (with_reducible intro h) <;> first | ((with_reducible exfalso); omega) | cbv)
    | ((with_reducible apply ldAt hl4); (focus omega); cbv)
    | ((with_reducible apply ldAt hl5); (focus omega); cbv)
theorem keptIntsT {L S : AV} {m : Mem} {c : Nat} {K : AV → Mem → Nat → Prop} {xs : List Int} {k k2 n cap : Nat} {opn rw rw2 : Bool} {rows rows' : List (List AV)} (hL : norm L = .slice k2 1 0 n (n + 2) true none) (hk2 : m.get k2 = some (.cells rw2 1 rows')) (hle : Lent iv xs n [.int .i64 (-7777)] [.int .i64 (-8888)] rows')
    (hS : norm S = .slice k 1 0 n cap opn none) (hk : m.get k = some (.cells rw 1 rows)) (hA : Hat iv xs rows n) (hsz : n * 8 ≤ 140737488351232) (h : K (.bool true) m c) : CallT (fun _ => Tryd.prog) 9 [L, S] m c K := by
  refine CallT.ofFlat (R0 := fun v => v = .bool true) (CallS.view [⟨k, 0, none, 1⟩, ⟨k2, 0, none, 1⟩] (vs0 := [.sym (.slice 1 1 0 n (n + 2) true none), .sym (.slice 0 1 0 n cap opn none)]) (bs := [some (.cells false 1 rows), some (.cells false 1 rows')]) (Nat.le_refl 2) ⟨ArgV.slice (i := 1) hL rfl, ArgV.slice (i := 0) hS rfl, trivial⟩ (fun i b hb => ?_) (keptIntsC xs rows rows' n cap opn hA hle hsz)) ?_
  · match i with
    | 0 => simp only [List.getElem?_cons_zero, Option.some.injEq] at hb; subst hb; exact ⟨_, _, rfl, rfl, ⟨rw, rows, hk, hA.2.2.1, .inl rfl, fun i row0 hi => ⟨row0, by rw [Nat.zero_add]; exact hi, rfl⟩⟩⟩
    | 1 => simp only [List.getElem?_cons_succ, List.getElem?_cons_zero, Option.some.injEq] at hb; subst hb; exact ⟨_, _, rfl, rfl, ⟨rw2, rows', hk2, hle.1, .inl rfl, fun i row0 hi => ⟨row0, by rw [Nat.zero_add]; exact hi, rfl⟩⟩⟩
    | i + 2 => simp at hb
  · rintro v rfl
    exact ⟨_, rfl, h⟩

set_option maxRecDepth 100000 in
set_option maxHeartbeats 4000000 in
theorem keptIntsNilC (rows' : List (List AV)) (hle : Lent iv [] 0 [.int .i64 (-7777)] [.int .i64 (-8888)] rows') :
    CallS Tryd.prog 9 [.sym (.slice 0 1 0 0 2 true none), .nilslice] (memB [some (.cells false 1 rows')] []) 1 fun v _ _ => v.flat = true ∧ Go.Ab.full v = .bool true := by
  obtain ⟨hl1, hl2, hl3, hl4, hl5⟩ := hle
  refine CallS.enter X Tryd.func9 (by decide) ?_
  cbv
  repeat' first
    | with_reducible exact trivial
    | ((with_reducible apply sameIntsT (xs := []) (ys := [])); (focus exact Sl.rows0 rfl rfl rfl (by decide) hl2); (focus exact Sl.nil rfl rfl); all_goals first | ((with_reducible intro hne); (with_reducible exfalso); exact hne rfl) | ((with_reducible intro _); cbv))
    | ((with_reducible intro v hv); (try rw [wrap_i64] at hv); cbv)
    | ((with_reducible apply uAnd); (focus first | omega | kernel_rfl); try cbv)
    | ((with_reducible apply And.intro) <;> (with_reducible intro h) <;> first | ((with_reducible exfalso); omega) | cbv)
    | ((with_reducible apply ldAt hl4); (focus omega); cbv)
    | ((with_reducible apply ldAt hl5); (focus omega); cbv)
theorem keptIntsNilT {L S : AV} {m : Mem} {c : Nat} {K : AV → Mem → Nat → Prop} {k2 : Nat} {rw2 : Bool} {rows' : List (List AV)} (hL : norm L = .slice k2 1 0 0 2 true none) (hk2 : m.get k2 = some (.cells rw2 1 rows')) (hle : Lent iv [] 0 [.int .i64 (-7777)] [.int .i64 (-8888)] rows')
    (hS : norm S = .nilslice) (h : K (.bool true) m c) : CallT (fun _ => Tryd.prog) 9 [L, S] m c K := by
  refine CallT.ofFlat (R0 := fun v => v = .bool true) (CallS.view [⟨k2, 0, none, 1⟩] (vs0 := [.sym (.slice 0 1 0 0 2 true none), .nilslice]) (bs := [some (.cells false 1 rows')]) (Nat.le_refl 1) ⟨ArgV.slice (i := 0) hL rfl, ArgV.nil hS, trivial⟩ (fun i b hb => ?_) (keptIntsNilC rows' hle)) ?_
  · match i with
    | 0 => simp only [List.getElem?_cons_zero, Option.some.injEq] at hb; subst hb; exact ⟨_, _, rfl, rfl, ⟨rw2, rows', hk2, hle.1, .inl rfl, fun i row0 hi => ⟨row0, by rw [Nat.zero_add]; exact hi, rfl⟩⟩⟩
    | i + 1 => simp at hb
  · rintro v rfl
    exact ⟨_, rfl, h⟩
end Go.Proofs.YtkpddpdhpffhbaaDoor.Kit
