/- Rows, the same up to a place; rows lent. Rows, the same? Rows lent. demand.Bound and the document's Bound, wherever their tasks lie; the law Demands. -/
import Derived.Test.YtoajpihpldndcaaBase
import Derived.Test.YtoajpihpldndcaaDemU
namespace Go.Proofs.Ytoajpihpldndcaa.Kit
open Go.Ab Base
set_option linter.unusedVariables false
set_option linter.unusedSimpArgs false

/-- Two rows are the same up to a place. -/
def Agree {α : Type} (xs ys : List α) (j : Nat) : Prop := ∀ i, i < j → xs[i]? = ys[i]?
theorem agree_zero {α : Type} (xs ys : List α) : Agree xs ys 0 := fun i h => by omega
theorem agree_succ {α : Type} {xs ys : List α} {j : Nat} {x : α} (h : Agree xs ys j) (hx : xs[j]? = some x) (hy : ys[j]? = some x) : Agree xs ys (j + 1) := fun i hi => by
  by_cases e : i = j
  · subst e; rw [hx, hy]
  · exact h i (by omega)
theorem agree_all {α : Type} {xs ys : List α} {j : Nat} (h : Agree xs ys j) (hl : xs.length = ys.length) (hj : xs.length ≤ j) : xs = ys := by
  apply List.ext_getElem? 
  intro i
  by_cases hi : i < j
  · exact h i hi
  · rw [List.getElem?_eq_none (by omega), List.getElem?_eq_none (by omega)]

/-- What lies where a row was lent. -/
def Lent {α : Type} (f : α → List AV) (xs : List α) (n : Nat) (p q : List AV) (rows' : List (List AV)) : Prop :=
  (∀ row ∈ rows', AV.flatL row = true) ∧ At f xs rows' ∧ rows'.length = n + 2 ∧ rows'[n]? = some p ∧ rows'[n + 1]? = some q
theorem lent_of {α : Type} {f : α → List AV} {xs : List α} {n : Nat} {p q : List AV} {rows rows' : List (List AV)} (h : Hat f xs rows n) (hl : n ≤ rows.length) (hp : AV.flatL p = true) (hq : AV.flatL q = true) (e : rows' = rows.take n ++ [p, q]) : Lent f xs n p q rows' := by
  obtain ⟨h1, h2, h3, h4⟩ := h
  subst e
  refine ⟨fun row hr => ?_, fun j x hx => ?_, by simp; omega, ?_, ?_⟩
  · rcases List.mem_append.1 hr with hr | hr
    · exact h3 row (List.mem_of_mem_take hr)
    · simp at hr; rcases hr with rfl | rfl <;> assumption
  · have hj : j < n := by have := (List.getElem?_eq_some_iff.1 hx).1; omega
    rw [List.getElem?_append_left (by simp; omega), List.getElem?_take_of_lt hj]
    exact h4 j x hx
  · rw [List.getElem?_append_right (by simp; omega), List.length_take, Nat.min_eq_left hl, Nat.sub_self]; rfl
  · rw [List.getElem?_append_right (by simp; omega), List.length_take, Nat.min_eq_left hl, Nat.add_sub_cancel_left]; rfl

end Go.Proofs.Ytoajpihpldndcaa.Kit

namespace Go.Proofs.Ytoajpihpldndcaa.Kit
open Go.Ab Base
open Dem (Task tv)
set_option linter.unusedVariables false
set_option linter.unusedSimpArgs false

set_option maxRecDepth 100000 in
set_option maxHeartbeats 4000000 in
theorem sameTasksC (xs ys : List Task) (rowsA rowsB : List (List AV)) (na capa nb capb : Nat) (opna opnb : Bool) (hA : Hat tv xs rowsA na) (hB : Hat tv ys rowsB nb) :
    CallS Try.prog 18 [.sym (.slice 0 6 0 na capa opna none), .sym (.slice 1 6 0 nb capb opnb none)] (memB [some (.cells false 6 rowsA), some (.cells false 6 rowsB)] []) 2 fun v _ _ => v.flat = true ∧ ∃ r, (r = true ↔ xs = ys) ∧ Go.Ab.full v = .bool r := by
  obtain ⟨hna, hza, hfa, hra⟩ := hA
  obtain ⟨hnb, hzb, hfb, hrb⟩ := hB
  refine CallS.enter X Try.func18 (by decide) ?_
  cbv
  repeat' first
    | ((with_reducible intro v hv); (try rw [wrap_i64] at hv); cbv)
    | ((with_reducible apply And.intro) <;> (with_reducible intro h) <;> first | ((with_reducible exfalso); omega) | cbv)
  rotate_left
  · exact ⟨false, ⟨(fun e => by cases e), fun e => by subst e; exfalso; omega⟩, rfl⟩
  with_reducible
   refine LoopT.invR X (α := Int) 26 [] (fun s => oI (s.at 5)) (fun s => [])
    (fun a => [some (.sym (.slice 0 6 0 na capa opna none)), some (.sym (.slice 1 6 0 nb capb opnb none)), none, none, none, some (.sym (.int .i64 a))])
    (fun a => [some (.cells false 6 rowsA), some (.cells false 6 rowsB)])
    (fun a => 0 ≤ a ∧ a.toNat ≤ na ∧ Agree xs ys a.toNat) (fun a => na - a.toNat) ?_ ?_
  · cbv
    refine And.intro (HoldAt.mk ?_) (Head.mk ?_ ?_ ?_ ?_ ?_ ?_)
    · exact ⟨by decide, by simp, agree_zero xs ys⟩
    all_goals cbv
    exact ⟨BlkLe.flat (fun h => h) hfa, BlkLe.flat (fun h => h) hfb, trivial⟩
  · rintro j ⟨j1, j2, j3⟩
    cbv
    repeat' first
      | with_reducible exact trivial
      | ((with_reducible intro v hv); (try rw [wrap_i64] at hv); cbv)
      | ((with_reducible apply uAnd); (focus first | omega | (cbv; done) | kernel_rfl); try cbv)
      | ((with_reducible apply And.intro) <;> (with_reducible intro h) <;> first | ((with_reducible exfalso); omega) | cbv)
      | ((with_reducible apply ld hra); (focus omega); rintro ⟨x0, x1, x2, x3, x4, x5⟩ hx; rw [show v = j.toNat by omega] at hx; cbv)
      | ((with_reducible apply ld hrb); (focus omega); rintro ⟨y0, y1, y2, y3, y4, y5⟩ hy; rw [show v = j.toNat by omega] at hy; cbv)
    all_goals first
      | (have hxy : (⟨y0, y1, y2, y3, y4, y5⟩ : Task) = ⟨x0, x1, x2, x3, x4, x5⟩ := by (simp only [Task.mk.injEq]; omega)
         rw [hxy] at hy
         have hsu := agree_succ j3 hx hy
         have e4 : v.toNat = j.toNat + 1 := by omega
         refine And.intro (And.intro (HoldAt.mk ?_) True.intro) (Head.mk ?_ ?_ ?_ ?_ ?_ ?_)
         · exact ⟨⟨by omega, by omega, by rw [e4]; exact hsu⟩, by omega⟩
         all_goals cbv
         exact ⟨BlkLe.flat (fun h => h) hfa, BlkLe.flat (fun h => h) hfb, trivial⟩)
      | exact ⟨true, ⟨fun _ => agree_all j3 (by omega) (by omega), fun _ => rfl⟩, rfl⟩
      | exact ⟨false, ⟨(fun e => by cases e), fun e => by subst e; rw [hx] at hy; cases hy; omega⟩, rfl⟩

set_option maxHeartbeats 4000000 in
theorem sameTasksT {A B : AV} {m : Mem} {c : Nat} {K : AV → Mem → Nat → Prop} {xs ys : List Task} (hA : Sl tv 6 m A xs) (hB : Sl tv 6 m B ys) (h1 : xs = ys → K (.bool true) m c) (h2 : xs ≠ ys → K (.bool false) m c) :
    CallT (fun _ => Try.prog) 18 [A, B] m c K := by
  refine CallT.sl2 (R0 := fun v => ∃ r, (r = true ↔ xs = ys) ∧ v = .bool r) (fun a b => [a, b]) hA hB (fun _ => rfl) (fun _ => rfl) (fun l A' B' a b => ⟨a, b, trivial⟩) ?_ ?_ ?_ ?_ ?_
  · rintro rfl rfl
    refine CallS.enter X Try.func18 (by decide) ?_
    cbv
    with_reducible apply LoopT.once X
    cbv
    exact ⟨true, ⟨fun _ => rfl, fun _ => rfl⟩, rfl⟩
  · rintro rfl rows n cap opn ⟨hn, hsz, hfl, hr⟩
    refine CallS.enter X Try.func18 (by decide) ?_
    cbv
    repeat' first
      | with_reducible exact trivial
      | ((with_reducible intro v hv); (try rw [wrap_i64] at hv); cbv)
      | ((with_reducible apply And.intro) <;> (with_reducible intro h) <;> first | ((with_reducible exfalso); omega) | cbv)
      | ((with_reducible apply LoopT.once X); cbv)
    all_goals first
      | exact ⟨true, ⟨fun _ => List.eq_nil_of_length_eq_zero (by omega), fun _ => rfl⟩, rfl⟩
      | exact ⟨false, ⟨(fun e => by cases e), fun e => by subst e; simp at hn; omega⟩, rfl⟩
  · rintro rfl rows n cap opn ⟨hn, hsz, hfl, hr⟩
    refine CallS.enter X Try.func18 (by decide) ?_
    cbv
    repeat' first
      | with_reducible exact trivial
      | ((with_reducible intro v hv); (try rw [wrap_i64] at hv); cbv)
      | ((with_reducible apply And.intro) <;> (with_reducible intro h) <;> first | ((with_reducible exfalso); omega) | cbv)
      | ((with_reducible apply LoopT.once X); cbv)
    all_goals first
      | exact ⟨true, ⟨fun _ => (List.eq_nil_of_length_eq_zero (by omega)).symm, fun _ => rfl⟩, rfl⟩
      | exact ⟨false, ⟨(fun e => by cases e), fun e => by subst e; simp at hn; omega⟩, rfl⟩
  · intro rowsA na capa opna rowsB nb capb opnb ha hb
    exact sameTasksC xs ys rowsA rowsB na capa nb capb opna opnb ha hb
  · rintro v ⟨r, hr, rfl⟩
    refine ⟨.bool r, rfl, ?_⟩
    cases r with
    | true => exact h1 (hr.1 rfl)
    | false => exact h2 fun e => by have := hr.2 e; cases this

set_option maxRecDepth 100000 in
set_option maxHeartbeats 4000000 in
theorem lendTasksC (xs : List Task) (rows : List (List AV)) (n cap : Nat) (opn : Bool) (hA : Hat tv xs rows n) (hl : n ≤ rows.length) (hsz : n * 48 ≤ 140737488351232) :
    CallS Try.prog 8 [.sym (.slice 0 6 0 n cap opn none)] (memB [some (.cells false 6 rows)] []) 1 fun v m' c' => ∃ rows', Lent tv xs n [.int .i64 0, .int .i64 0, .int .i64 0, .int .i64 0, .int .i64 0, .int .i64 77777] [.int .i64 0, .int .i64 0, .int .i64 0, .int .i64 0, .int .i64 0, .int .i64 77777] rows' ∧ v = .sym (.slice 1 6 0 n (n + 2) true none) ∧ m' = memB [some (.cells false 6 rows), some (.cells true 6 rows')] [] ∧ c' = 2 := by
  have hA0 := hA
  obtain ⟨hna, hza, hfa, hra⟩ := hA
  refine CallS.ends rfl ?_
  refine CallS.enter X Try.func8 (by decide) ?_
  cbv
  with_reducible apply CallT.enter X Try.func14 (by decide)
  cbv
  with_reducible apply uAnd
  focus omega
  intro src hsrc
  have hsl : src.length = n := by rw [hsrc]; simp; omega
  cbv
  repeat' first
    | ((with_reducible intro L1 rows1 hL1 hr1); (have hr2 : rows1 = src := by (rw [hr1]; simp; done)); (have hll1 : rows1.length = src.length := by rw [hr2]); cbv)
    | ((with_reducible intro L rows' hL hr'); (simp only [List.length_cons, List.length_nil, Nat.zero_add] at hL); (have hll := congrArg List.length hr'); (simp only [List.length_append, List.length_take, List.length_drop, List.length_cons, List.length_nil] at hll); cbv)
    | ((with_reducible intro v hv); cbv)
    | ((with_reducible apply uAnd); (focus first | omega | (refine And.intro ?_ (And.intro ?_ (Or.inl rfl)) <;> omega) | (simp only [List.length_append, List.length_take, List.length_drop, List.length_cons, List.length_nil]; omega) | kernel_rfl | (simp; done) | (simp; omega)); try cbv)
    | ((with_reducible apply And.intro) <;> (with_reducible intro h) <;> (try simp only [List.length_cons, List.length_nil, Nat.zero_add] at h) <;> (try (have hz := congrArg List.length h; rw [List.length_nil] at hz)) <;> (try (have hz2 := List.length_pos_iff.2 h)) <;> first | ((with_reducible exfalso); omega) | ((with_reducible exfalso); simp at h; done) | cbv)
  all_goals
    obtain rfl : v = n := by omega
    obtain rfl : L = v + 2 := by omega
    have hle : Lent tv xs v [.int .i64 0, .int .i64 0, .int .i64 0, .int .i64 0, .int .i64 0, .int .i64 77777] [.int .i64 0, .int .i64 0, .int .i64 0, .int .i64 0, .int .i64 0, .int .i64 77777] rows' := by
      refine lent_of hA0 hl rfl rfl ?_
      rw [List.drop_zero] at hsrc
      rw [← hsrc, hr']
      first
        | rw [hr2, List.drop_zero, List.take_of_length_le (by omega)]
        | (rw [List.eq_nil_of_length_eq_zero hz]; rfl)
    refine ⟨[7], [], .sym (.slice 1 6 0 v (v + 2) true none), [some (.cells false 6 rows), some (.cells true 6 rows')], ?_, rows', hle, rfl, rfl, rfl⟩
    refine Head.mk rfl rfl ?_ ?_ ?_ ?_
    all_goals cbv
    exact ⟨BlkLe.flat (fun h => h) hfa, BlkLe.flat (fun h => h) hle.1, trivial⟩
theorem lendTasksT {S : AV} {m : Mem} {c : Nat} {K : AV → Mem → Nat → Prop} {xs : List Task} {k n cap : Nat} {opn rw : Bool} {rows : List (List AV)} (hS : norm S = .slice k 6 0 n cap opn none) (hk : m.get k = some (.cells rw 6 rows)) (hA : Hat tv xs rows n) (hl : n ≤ rows.length) (hsz : n * 48 ≤ 140737488351232) (hkc : k < c)
    (h : ∀ rows', Lent tv xs n [.int .i64 0, .int .i64 0, .int .i64 0, .int .i64 0, .int .i64 0, .int .i64 77777] [.int .i64 0, .int .i64 0, .int .i64 0, .int .i64 0, .int .i64 0, .int .i64 77777] rows' → K (.sym (.slice c 6 0 n (n + 2) true none)) (m.new c (.cells true 6 rows')) (c + 1)) : CallT (fun _ => Try.prog) 8 [S] m c K := by
  refine CallT.frameF [k] (lendTasksC xs rows n cap opn hA hl hsz) rfl ?_ ?_ ⟨by simp, by simp; omega⟩ ?_
  · simp only [leL, normL, norm, hS, renOL, renO, List.getElem?_cons_zero, Option.map_some]
  · refine ⟨?_, trivial⟩
    simp only [List.getElem?_cons_zero, hk]
    exact BlkLe.flat (fun e => by cases e) hA.2.2.1
  · rintro v m' c' ⟨rows', hle, rfl, rfl, rfl⟩
    exact ⟨⟨⟨trivial, trivial⟩, rfl, hle.1⟩, h rows' hle⟩

set_option maxRecDepth 100000 in
set_option maxHeartbeats 4000000 in
theorem lendTasksNilC : CallS Try.prog 8 [.nilslice] (memB [] []) 0 fun v m' c' => ∃ rows', Lent tv [] 0 [.int .i64 0, .int .i64 0, .int .i64 0, .int .i64 0, .int .i64 0, .int .i64 77777] [.int .i64 0, .int .i64 0, .int .i64 0, .int .i64 0, .int .i64 0, .int .i64 77777] rows' ∧ v = .sym (.slice 0 6 0 0 2 true none) ∧ m' = memB [some (.cells true 6 rows')] [] ∧ c' = 1 := by
  refine CallS.ends rfl ?_
  refine CallS.enter X Try.func8 (by decide) ?_
  cbv
  with_reducible apply CallT.enter X Try.func14 (by decide)
  cbv
  refine ⟨[6], [], .sym (.slice 0 6 0 0 2 true none), [some (.cells true 6 [[.int .i64 0, .int .i64 0, .int .i64 0, .int .i64 0, .int .i64 0, .int .i64 77777], [.int .i64 0, .int .i64 0, .int .i64 0, .int .i64 0, .int .i64 0, .int .i64 77777]])], ?_, _, ⟨?_, fun j x h => by simp at h, rfl, rfl, rfl⟩, rfl, rfl, rfl⟩
  · refine Head.mk rfl rfl ?_ ?_ ?_ ?_
    all_goals cbv
    exact ⟨BlkLe.flat (fun h => h) (by simp [AV.flatL, AV.flat]), trivial⟩
  · simp [AV.flatL, AV.flat]
theorem lendTasksNilT {S : AV} {m : Mem} {c : Nat} {K : AV → Mem → Nat → Prop} (hS : norm S = .nilslice)
    (h : ∀ rows', Lent tv [] 0 [.int .i64 0, .int .i64 0, .int .i64 0, .int .i64 0, .int .i64 0, .int .i64 77777] [.int .i64 0, .int .i64 0, .int .i64 0, .int .i64 0, .int .i64 0, .int .i64 77777] rows' → K (.sym (.slice c 6 0 0 2 true none)) (m.new c (.cells true 6 rows')) (c + 1)) : CallT (fun _ => Try.prog) 8 [S] m c K := by
  refine CallT.frameF [] lendTasksNilC rfl ?_ trivial ⟨by simp, by simp⟩ ?_
  · simp only [leL, normL, norm, hS, renOL, renO]
  · rintro v m' c' ⟨rows', hle, rfl, rfl, rfl⟩
    exact ⟨⟨trivial, rfl, hle.1⟩, h rows' hle⟩

set_option maxRecDepth 100000 in
set_option maxHeartbeats 4000000 in
theorem keptTasksC (xs : List Task) (rows rows' : List (List AV)) (n cap : Nat) (opn : Bool) (hA : Hat tv xs rows n) (hle : Lent tv xs n [.int .i64 0, .int .i64 0, .int .i64 0, .int .i64 0, .int .i64 0, .int .i64 77777] [.int .i64 0, .int .i64 0, .int .i64 0, .int .i64 0, .int .i64 0, .int .i64 77777] rows') (hsz : n * 48 ≤ 140737488351232) :
    CallS Try.prog 12 [.sym (.slice 1 6 0 n (n + 2) true none), .sym (.slice 0 6 0 n cap opn none)] (memB [some (.cells false 6 rows), some (.cells false 6 rows')] []) 2 fun v _ _ => v.flat = true ∧ Go.Ab.full v = .bool true := by
  obtain ⟨hna, hza, hfa, hra⟩ := hA
  obtain ⟨hl1, hl2, hl3, hl4, hl5⟩ := hle
  obtain ⟨n2, hn2⟩ : ∃ k, k = n + 2 := ⟨_, rfl⟩
  rw [← hn2]
  refine CallS.enter X Try.func12 (by decide) ?_
  cbv
  repeat' first
    | with_reducible exact trivial
    | ((with_reducible apply sameTasksT (xs := xs) (ys := xs)); (focus exact Sl.rows0 rfl rfl hna hza hl2); (focus exact Sl.rows0 rfl rfl hna hza hra); all_goals first | ((with_reducible intro hne); (with_reducible exfalso); exact hne rfl) | ((with_reducible intro _); cbv))
    | ((with_reducible intro v hv); (try rw [wrap_i64] at hv); cbv)
    | ((with_reducible apply uAnd); (focus first | omega | kernel_rfl); try cbv)
    | ((with_reducible apply And.intro) <;> (with_reducible intro h) <;> first | ((with_reducible exfalso); omega) | cbv)
    | ((with_reducible apply ldAt hl4); (focus omega); cbv)
    | ((with_reducible apply ldAt hl5); (focus omega); cbv)
theorem keptTasksT {L S : AV} {m : Mem} {c : Nat} {K : AV → Mem → Nat → Prop} {xs : List Task} {k k2 n cap : Nat} {opn rw rw2 : Bool} {rows rows' : List (List AV)} (hL : norm L = .slice k2 6 0 n (n + 2) true none) (hk2 : m.get k2 = some (.cells rw2 6 rows')) (hle : Lent tv xs n [.int .i64 0, .int .i64 0, .int .i64 0, .int .i64 0, .int .i64 0, .int .i64 77777] [.int .i64 0, .int .i64 0, .int .i64 0, .int .i64 0, .int .i64 0, .int .i64 77777] rows')
    (hS : norm S = .slice k 6 0 n cap opn none) (hk : m.get k = some (.cells rw 6 rows)) (hA : Hat tv xs rows n) (hsz : n * 48 ≤ 140737488351232) (h : K (.bool true) m c) : CallT (fun _ => Try.prog) 12 [L, S] m c K := by
  refine CallT.ofFlat (R0 := fun v => v = .bool true) (CallS.view [⟨k, 0, none, 6⟩, ⟨k2, 0, none, 6⟩] (vs0 := [.sym (.slice 1 6 0 n (n + 2) true none), .sym (.slice 0 6 0 n cap opn none)]) (bs := [some (.cells false 6 rows), some (.cells false 6 rows')]) (Nat.le_refl 2) ⟨ArgV.slice (i := 1) hL rfl, ArgV.slice (i := 0) hS rfl, trivial⟩ (fun i b hb => ?_) (keptTasksC xs rows rows' n cap opn hA hle hsz)) ?_
  · match i with
    | 0 => simp only [List.getElem?_cons_zero, Option.some.injEq] at hb; subst hb; exact ⟨_, _, rfl, rfl, ⟨rw, rows, hk, hA.2.2.1, .inl rfl, fun i row0 hi => ⟨row0, by rw [Nat.zero_add]; exact hi, rfl⟩⟩⟩
    | 1 => simp only [List.getElem?_cons_succ, List.getElem?_cons_zero, Option.some.injEq] at hb; subst hb; exact ⟨_, _, rfl, rfl, ⟨rw2, rows', hk2, hle.1, .inl rfl, fun i row0 hi => ⟨row0, by rw [Nat.zero_add]; exact hi, rfl⟩⟩⟩
    | i + 2 => simp at hb
  · rintro v rfl
    exact ⟨_, rfl, h⟩

set_option maxRecDepth 100000 in
set_option maxHeartbeats 4000000 in
theorem keptTasksNilC (rows' : List (List AV)) (hle : Lent tv [] 0 [.int .i64 0, .int .i64 0, .int .i64 0, .int .i64 0, .int .i64 0, .int .i64 77777] [.int .i64 0, .int .i64 0, .int .i64 0, .int .i64 0, .int .i64 0, .int .i64 77777] rows') :
    CallS Try.prog 12 [.sym (.slice 0 6 0 0 2 true none), .nilslice] (memB [some (.cells false 6 rows')] []) 1 fun v _ _ => v.flat = true ∧ Go.Ab.full v = .bool true := by
  obtain ⟨hl1, hl2, hl3, hl4, hl5⟩ := hle
  refine CallS.enter X Try.func12 (by decide) ?_
  cbv
  repeat' first
    | with_reducible exact trivial
    | ((with_reducible apply sameTasksT (xs := []) (ys := [])); (focus exact Sl.rows0 rfl rfl rfl (by decide) hl2); (focus exact Sl.nil rfl rfl); all_goals first | ((with_reducible intro hne); (with_reducible exfalso); exact hne rfl) | ((with_reducible intro _); cbv))
    | ((with_reducible intro v hv); (try rw [wrap_i64] at hv); cbv)
    | ((with_reducible apply uAnd); (focus first | omega | kernel_rfl); try cbv)
    | ((with_reducible apply And.intro) <;> (with_reducible intro h) <;> first | ((with_reducible exfalso); omega) | cbv)
    | ((with_reducible apply ldAt hl4); (focus omega); cbv)
    | ((with_reducible apply ldAt hl5); (focus omega); cbv)
theorem keptTasksNilT {L S : AV} {m : Mem} {c : Nat} {K : AV → Mem → Nat → Prop} {k2 : Nat} {rw2 : Bool} {rows' : List (List AV)} (hL : norm L = .slice k2 6 0 0 2 true none) (hk2 : m.get k2 = some (.cells rw2 6 rows')) (hle : Lent tv [] 0 [.int .i64 0, .int .i64 0, .int .i64 0, .int .i64 0, .int .i64 0, .int .i64 77777] [.int .i64 0, .int .i64 0, .int .i64 0, .int .i64 0, .int .i64 0, .int .i64 77777] rows')
    (hS : norm S = .nilslice) (h : K (.bool true) m c) : CallT (fun _ => Try.prog) 12 [L, S] m c K := by
  refine CallT.ofFlat (R0 := fun v => v = .bool true) (CallS.view [⟨k2, 0, none, 6⟩] (vs0 := [.sym (.slice 0 6 0 0 2 true none), .nilslice]) (bs := [some (.cells false 6 rows')]) (Nat.le_refl 1) ⟨ArgV.slice (i := 0) hL rfl, ArgV.nil hS, trivial⟩ (fun i b hb => ?_) (keptTasksNilC rows' hle)) ?_
  · match i with
    | 0 => simp only [List.getElem?_cons_zero, Option.some.injEq] at hb; subst hb; exact ⟨_, _, rfl, rfl, ⟨rw2, rows', hk2, hle.1, .inl rfl, fun i row0 hi => ⟨row0, by rw [Nat.zero_add]; exact hi, rfl⟩⟩⟩
    | i + 1 => simp at hb
  · rintro v rfl
    exact ⟨_, rfl, h⟩
end Go.Proofs.Ytoajpihpldndcaa.Kit

namespace Go.Proofs.Ytoajpihpldndcaa.Dem
open Go.Ab Kit
set_option linter.unusedVariables false
set_option linter.unusedSimpArgs false

def Fine (ts : List Task) (i k : Int) : Prop := OkAll ts ∧ 0 ≤ i ∧ i.toNat < ts.length ∧ 0 ≤ k ∧ k ≤ 4096
def valD (ts : List Task) (i k : Int) : Int := match ts[i.toNat]? with
  | some t => IntKind.wrap .i64 (t.chigh + bsum t.prio k ts)
  | none => 0
def ResD (ts : List Task) (i k : Int) (v : AV) : Prop := ∃ r e, SpecD ts i k r e ∧ v = .tuple [.sym (.int .i64 r), .sym (.int .i64 e)]
theorem resD_ends {ts : List Task} {i k : Int} {v : AV} {Q : AV → Prop} (h : ResD ts i k v) (h1 : Fine ts i k → ∀ r, r = valD ts i k → Q (.tuple [.sym (.int .i64 r), .int .i64 0])) (h2 : ¬ Fine ts i k → Q (.tuple [.int .i64 0, .int .i64 800])) : ∃ v', Go.Ab.full v' = v ∧ Q v' := by
  obtain ⟨r, e, ⟨a1, a2, a3, a4, rfl, t, ht, hr⟩ | ⟨a1, rfl, rfl⟩, rfl⟩ := h
  · exact ⟨_, rfl, h1 ⟨a1, a2, (List.getElem?_eq_some_iff.1 ht).1, a3, a4⟩ r (by rw [valD, ht]; exact hr)⟩
  · exact ⟨.tuple [.int .i64 0, .int .i64 800], rfl, h2 a1⟩
theorem boundS {ts : List Task} {S A B : AV} {m : Mem} {c : Nat} {K : AV → Mem → Nat → Prop} (i k : Int) (hS : Sl tv 6 m S ts) (hsz : ts.length * 48 ≤ 140737488351232) (hA : norm A = .int .i64 i) (hB : norm B = .int .i64 k)
    (h1 : Fine ts i k → ∀ r, r = valD ts i k → K (.tuple [.sym (.int .i64 r), .int .i64 0]) m c) (h2 : ¬ Fine ts i k → K (.tuple [.int .i64 0, .int .i64 800]) m c) : CallT (fun _ => Try.prog) 9 [S, A, B] m c K := by
  refine CallT.sl1 (R0 := ResD ts i k) (fun S => [S, .sym (.int .i64 i), .sym (.int .i64 k)]) hS (fun _ => rfl) (fun l S' h => ⟨h, ArgV.flat rfl (by rw [hA]; rfl), ArgV.flat rfl (by rw [hB]; rfl), trivial⟩) ?_ ?_ ?_
  · rintro rfl
    refine (boundNil i k _ _).mono ?_
    rintro v m' c' ⟨rfl, rfl, rfl⟩
    exact ⟨rfl, 0, 800, .inr ⟨fun h => by simp at h, rfl, rfl⟩, rfl⟩
  · rintro rows n cap opn ⟨h3, h4, h5, h6⟩
    exact boundC ts rows n cap opn h3 (by omega) h5 h6 i k
  · intro v hv
    exact resD_ends (Q := fun v => K v m c) hv h1 h2
theorem refBoundS {ts : List Task} {S A B : AV} {m : Mem} {c : Nat} {K : AV → Mem → Nat → Prop} (i k : Int) (hS : Sl tv 6 m S ts) (hsz : ts.length * 48 ≤ 140737488351232) (hA : norm A = .int .i64 i) (hB : norm B = .int .i64 k)
    (h1 : Fine ts i k → ∀ r, r = valD ts i k → K (.tuple [.sym (.int .i64 r), .int .i64 0]) m c) (h2 : ¬ Fine ts i k → K (.tuple [.int .i64 0, .int .i64 800]) m c) : CallT (fun _ => Try.prog) 10 [S, A, B] m c K := by
  refine CallT.sl1 (R0 := ResD ts i k) (fun S => [S, .sym (.int .i64 i), .sym (.int .i64 k)]) hS (fun _ => rfl) (fun l S' h => ⟨h, ArgV.flat rfl (by rw [hA]; rfl), ArgV.flat rfl (by rw [hB]; rfl), trivial⟩) ?_ ?_ ?_
  · rintro rfl
    refine (refBoundNil i k _ _).mono ?_
    rintro v m' c' ⟨rfl, rfl, rfl⟩
    exact ⟨rfl, 0, 800, .inr ⟨fun h => by simp at h, rfl, rfl⟩, rfl⟩
  · rintro rows n cap opn ⟨h3, h4, h5, h6⟩
    exact refBoundC ts rows n cap opn h3 (by omega) h5 h6 i k
  · intro v hv
    exact resD_ends (Q := fun v => K v m c) hv h1 h2

set_option maxRecDepth 200000 in
set_option maxHeartbeats 4000000 in
theorem demands (ts : List Task) (rows : List (List AV)) (n cap : Nat) (hn : n = ts.length) (hflat : ∀ row ∈ rows, AV.flatL row = true) (hrows : At tv ts rows) (hw : ∀ t ∈ ts, TaskIn t) (hsz : n * 48 ≤ 140737488351232) (hre : rows = ts.map tv) (i k : Int) :
    CallS Try.prog 3 [.sym (.slice 0 6 0 n cap false none), .sym (.int .i64 i), .sym (.int .i64 k)] (memB [some (.cells false 6 rows)] []) 1 fun v _ _ => v = .bool true := by
  have hrl : rows.length = n := by rw [hre, List.length_map, hn]
  have hat : Hat tv ts rows n := ⟨hn, by omega, hflat, hrows⟩
  obtain ⟨n2, hn2⟩ : ∃ k, k = n + 2 := ⟨_, rfl⟩
  refine CallS.enter X Try.func3 (by decide) ?_
  cbv
  repeat' first
    | with_reducible exact trivial
    | ((with_reducible apply lendTasksT (xs := ts)); (focus rfl); (focus rfl); (focus exact hat); (focus omega); (focus omega); (focus decide); (intro rows' hle; cbv))
    | ((with_reducible apply boundS (ts := ts) i k); (focus exact Sl.rows0 rfl rfl hn (by omega) hle.2.1); (focus omega); (focus rfl); (focus rfl);
        all_goals first
          | ((with_reducible intro hc r hr); cbv)
          | ((with_reducible intro hno); cbv))
    | ((with_reducible apply refBoundS (ts := ts) i k); (focus exact Sl.rows0 rfl rfl hn (by omega) hrows); (focus omega); (focus rfl); (focus rfl);
        all_goals first
          | ((with_reducible intro hc2 r2 hr2); first | (exfalso; exact hno hc2) | cbv)
          | ((with_reducible intro hno2); first | (exfalso; exact hno2 hc) | cbv))
    | ((with_reducible apply keptTasksT (xs := ts)); (focus rfl); (focus rfl); (focus exact hle); (focus rfl); (focus rfl); (focus exact hat); (focus omega); cbv)
    | ((with_reducible intro v hv); (try rw [wrap_i64] at hv); cbv)
    | ((with_reducible apply uAnd); (focus first | kernel_rfl | omega); try cbv)
    | ((with_reducible apply And.intro) <;> (with_reducible intro h) <;> first | ((with_reducible exfalso); omega) | cbv)
    | ((with_reducible apply awakeT); cbv)
    | ((with_reducible apply CallT.enter X Try.func11 (by decide)); cbv)
set_option maxRecDepth 200000 in
set_option maxHeartbeats 4000000 in
theorem demandsNil (i k : Int) :
    CallS Try.prog 3 [.nilslice, .sym (.int .i64 i), .sym (.int .i64 k)] (memB [] []) 0 fun v _ _ => v = .bool true := by
  obtain ⟨ts, hts⟩ : ∃ ts : List Task, ts = [] := ⟨_, rfl⟩
  have hl0 : ts.length = 0 := by rw [hts]; rfl
  refine CallS.enter X Try.func3 (by decide) ?_
  cbv
  repeat' first
    | with_reducible exact trivial
    | ((with_reducible apply lendTasksNilT); (focus rfl); (intro rows' hle; cbv))
    | ((with_reducible apply boundS (ts := ts) i k); (focus exact Sl.rows0 rfl rfl hl0.symm (by omega) (by rw [hts]; exact hle.2.1)); (focus omega); (focus rfl); (focus rfl);
        all_goals first
          | ((with_reducible intro hc r hr); cbv)
          | ((with_reducible intro hno); cbv))
    | ((with_reducible apply refBoundS (ts := ts) i k); (focus exact Sl.nil rfl hts); (focus omega); (focus rfl); (focus rfl);
        all_goals first
          | ((with_reducible intro hc2 r2 hr2); first | (exfalso; exact hno hc2) | cbv)
          | ((with_reducible intro hno2); first | (exfalso; exact hno2 hc) | cbv))
    | ((with_reducible apply keptTasksNilT); (focus rfl); (focus rfl); (focus exact hle); (focus rfl); cbv)
    | ((with_reducible intro v hv); (try rw [wrap_i64] at hv); cbv)
    | ((with_reducible apply uAnd); (focus first | kernel_rfl | omega); try cbv)
    | ((with_reducible apply And.intro) <;> (with_reducible intro h) <;> first | ((with_reducible exfalso); omega) | cbv)
    | ((with_reducible apply awakeT); cbv)
    | ((with_reducible apply CallT.enter X Try.func11 (by decide)); cbv)
end Go.Proofs.Ytoajpihpldndcaa.Dem
