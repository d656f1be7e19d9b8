/- Rows, the same up to a place; rows lent. Instructions: which may be; what code.below and the document's instrMay say. Rows, the same? Rows lent. code.May and the document's CodeMay: any program, wherever it lies. -/
import Derived.Test.YtdaccjfijfnlfaaBase
import Derived.Test.YtdaccjfijfnlfaaAb42
namespace Go.Proofs.Ytdaccjfijfnlfaa.Kit
open Go.Ab Base
set_option linter.unusedVariables false
set_option linter.unusedSimpArgs false

/-- Two rows are the same up to a place. -/
def Agree {α : Type} (xs ys : List α) (j : Nat) : Prop := ∀ i, i < j → xs[i]? = ys[i]?
theorem agree_zero {α : Type} (xs ys : List α) : Agree xs ys 0 := fun i h => by omega
theorem agree_succ {α : Type} {xs ys : List α} {j : Nat} {x : α} (h : Agree xs ys j) (hx : xs[j]? = some x) (hy : ys[j]? = some x) : Agree xs ys (j + 1) := fun i hi => by
  by_cases e : i = j
  · subst e; rw [hx, hy]
  · exact h i (by omega)
theorem agree_all {α : Type} {xs ys : List α} {j : Nat} (h : Agree xs ys j) (hl : xs.length = ys.length) (hj : xs.length ≤ j) : xs = ys := by
  apply List.ext_getElem? 
  intro i
  by_cases hi : i < j
  · exact h i hi
  · rw [List.getElem?_eq_none (by omega), List.getElem?_eq_none (by omega)]

/-- What lies where a row was lent. -/
def Lent {α : Type} (f : α → List AV) (xs : List α) (n : Nat) (p q : List AV) (rows' : List (List AV)) : Prop :=
  (∀ row ∈ rows', AV.flatL row = true) ∧ At f xs rows' ∧ rows'.length = n + 2 ∧ rows'[n]? = some p ∧ rows'[n + 1]? = some q
theorem lent_of {α : Type} {f : α → List AV} {xs : List α} {n : Nat} {p q : List AV} {rows rows' : List (List AV)} (h : Hat f xs rows n) (hl : n ≤ rows.length) (hp : AV.flatL p = true) (hq : AV.flatL q = true) (e : rows' = rows.take n ++ [p, q]) : Lent f xs n p q rows' := by
  obtain ⟨h1, h2, h3, h4⟩ := h
  subst e
  refine ⟨fun row hr => ?_, fun j x hx => ?_, by simp; omega, ?_, ?_⟩
  · rcases List.mem_append.1 hr with hr | hr
    · exact h3 row (List.mem_of_mem_take hr)
    · simp at hr; rcases hr with rfl | rfl <;> assumption
  · have hj : j < n := by have := (List.getElem?_eq_some_iff.1 hx).1; omega
    rw [List.getElem?_append_left (by simp; omega), List.getElem?_take_of_lt hj]
    exact h4 j x hx
  · rw [List.getElem?_append_right (by simp; omega), List.length_take, Nat.min_eq_left hl, Nat.sub_self]; rfl
  · rw [List.getElem?_append_right (by simp; omega), List.length_take, Nat.min_eq_left hl, Nat.add_sub_cancel_left]; rfl

end Go.Proofs.Ytdaccjfijfnlfaa.Kit

namespace Go.Proofs.Ytdaccjfijfnlfaa.Cod
open Go.Ab Base
set_option linter.unusedVariables false
set_option linter.unusedSimpArgs false

structure Instr where
  op : Int
  arg : Int
def tv (x : Instr) : List AV := [.sym (.int .i64 x.op), .sym (.int .i64 x.arg)]
/-- Below what an operation's argument must be. -/
def Lim (op many r : Int) : Prop :=
  ((op = 0 ∨ op = 8 ∨ op = 11) ∧ r = 1) ∨ (op = 1 ∧ r = 256) ∨ ((op = 2 ∨ op = 3 ∨ op = 4 ∨ op = 5) ∧ r = 16) ∨ ((op = 6 ∨ op = 7) ∧ r = many) ∨ ((op = 9 ∨ op = 10) ∧ r = 8) ∨ ((op < 0 ∨ 11 < op) ∧ r = 0)
theorem lim_one (op many : Int) : ∃ r, Lim op many r := by
  unfold Lim
  by_cases h1 : op = 0 ∨ op = 8 ∨ op = 11
  · exact ⟨1, by omega⟩
  by_cases h2 : op = 1
  · exact ⟨256, by omega⟩
  by_cases h3 : op = 2 ∨ op = 3 ∨ op = 4 ∨ op = 5
  · exact ⟨16, by omega⟩
  by_cases h4 : op = 6 ∨ op = 7
  · exact ⟨many, by omega⟩
  by_cases h5 : op = 9 ∨ op = 10
  · exact ⟨8, by omega⟩
  exact ⟨0, by omega⟩
/-- An instruction that may be, in a program of so many. -/
def OkI (many op arg : Int) : Prop :=
  0 ≤ arg ∧ (((op = 0 ∨ op = 8 ∨ op = 11) ∧ arg < 1) ∨ (op = 1 ∧ arg < 256) ∨ ((op = 2 ∨ op = 3 ∨ op = 4 ∨ op = 5) ∧ arg < 16) ∨ ((op = 6 ∨ op = 7) ∧ arg < many) ∨ ((op = 9 ∨ op = 10) ∧ arg < 8))
def AllOk (many : Int) (p : List Instr) : Prop := ∀ x ∈ p, OkI many x.op x.arg
/-- A program that may be. -/
def May (p : List Instr) : Prop := p.length ≤ 64 ∧ AllOk p.length p

set_option maxHeartbeats 1000000 in
theorem belowC (a b : Int) (m : Mem) (n : Nat) : CallS Try.prog 30 [.sym (.int .i64 a), .sym (.int .i64 b)] m n fun v m' n' => (∃ r, Lim a b r ∧ Go.Ab.full v = .sym (.int .i64 r)) ∧ m' = m ∧ n' = n := by
  refine CallS.at0 X Try.func30 (by decide) rfl (d := 2) (R0 := fun v => ∃ r, Lim a b r ∧ Go.Ab.full v = .sym (.int .i64 r)) ?_ m n
  cbv
  repeat' first
    | ((with_reducible apply And.intro) <;> (with_reducible intro h) <;> cbv)
  all_goals
    refine ⟨_, ?_, rfl⟩
    unfold Lim
    omega
def gB (lim : Int → Int → Int) : List AV → Mem → Option AV
  | [A, B], _ => match norm A, norm B with
    | .int .i64 x, .int .i64 y => some (.int .i64 (lim x y))
    | _, _ => none
  | _, _ => none
theorem gB_ok {lim : Int → Int → Int} (hl : ∀ x y, Lim x y (lim x y)) : HintOK Try.prog (30, gB lim) := fun vs m v hv c => by
  dsimp only at hv ⊢
  unfold gB at hv
  repeat' split at hv
  all_goals first | cases hv | skip
  rename_i A B _ _ x y hA hB
  refine CallS.normA (vs' := [.sym (.int .i64 x), .sym (.int .i64 y)]) (by simp only [normL, norm, hA, hB]) ((belowC x y m c).mono ?_)
  rintro v m' c' ⟨⟨r, hr, hv⟩, rfl, rfl⟩
  have : r = lim x y := by have := hl x y; unfold Lim at this hr; omega
  subst this
  exact ⟨hv, rfl, rfl⟩
noncomputable def callB (lim : Int → Int → Int) : CallA := aRun Try.prog (readHints [(30, gB lim)]) 5
theorem XB {lim : Int → Int → Int} (hl : ∀ x y, Lim x y (lim x y)) : Ctx Try.prog (callB lim) := ctx_read (l := [(30, gB lim)]) hm ⟨gB_ok hl, trivial⟩ 5

theorem allOk_nil (many : Int) : AllOk many [] := fun x h => by cases h
theorem okI_at {many : Int} {p : List Instr} {x : Instr} {i : Nat} (h : AllOk many p) (hx : p[i]? = some x) : OkI many x.op x.arg := h x (List.mem_of_getElem? hx)
theorem allOk_take {many : Int} {p : List Instr} {x : Instr} {i : Nat} (h : AllOk many (p.take i)) (hx : p[i]? = some x) (ho : OkI many x.op x.arg) : AllOk many (p.take (i + 1)) := fun y hy => by
  rw [take_succ_at hx] at hy
  rcases List.mem_append.1 hy with hy | hy
  · exact h y hy
  · rw [List.mem_singleton.1 hy]; exact ho
end Go.Proofs.Ytdaccjfijfnlfaa.Cod

namespace Go.Proofs.Ytdaccjfijfnlfaa.Kit
open Go.Ab Base
open Cod (Instr tv)
set_option linter.unusedVariables false
set_option linter.unusedSimpArgs false

set_option maxRecDepth 100000 in
set_option maxHeartbeats 4000000 in
theorem sameInstrsC (xs ys : List Instr) (rowsA rowsB : List (List AV)) (na capa nb capb : Nat) (opna opnb : Bool) (hA : Hat tv xs rowsA na) (hB : Hat tv ys rowsB nb) :
    CallS Try.prog 28 [.sym (.slice 0 2 0 na capa opna none), .sym (.slice 1 2 0 nb capb opnb none)] (memB [some (.cells false 2 rowsA), some (.cells false 2 rowsB)] []) 2 fun v _ _ => v.flat = true ∧ ∃ r, (r = true ↔ xs = ys) ∧ Go.Ab.full v = .bool r := by
  obtain ⟨hna, hza, hfa, hra⟩ := hA
  obtain ⟨hnb, hzb, hfb, hrb⟩ := hB
  refine CallS.enter X Try.func28 (by decide) ?_
  cbv
  repeat' first
    | ((with_reducible intro v hv); (try rw [wrap_i64] at hv); cbv)
    | ((with_reducible apply And.intro) <;> (with_reducible intro h) <;> first | ((with_reducible exfalso); omega) | cbv)
  rotate_left
  · exact ⟨false, ⟨(fun e => by cases e), fun e => by subst e; exfalso; omega⟩, rfl⟩
  with_reducible
   refine LoopT.invR X (α := Int) 26 [] (fun s => oI (s.at 5)) (fun s => [])
    (fun a => [some (.sym (.slice 0 2 0 na capa opna none)), some (.sym (.slice 1 2 0 nb capb opnb none)), none, none, none, some (.sym (.int .i64 a))])
    (fun a => [some (.cells false 2 rowsA), some (.cells false 2 rowsB)])
    (fun a => 0 ≤ a ∧ a.toNat ≤ na ∧ Agree xs ys a.toNat) (fun a => na - a.toNat) ?_ ?_
  · cbv
    refine And.intro (HoldAt.mk ?_) (Head.mk ?_ ?_ ?_ ?_ ?_ ?_)
    · exact ⟨by decide, by simp, agree_zero xs ys⟩
    all_goals cbv
    exact ⟨BlkLe.flat (fun h => h) hfa, BlkLe.flat (fun h => h) hfb, trivial⟩
  · rintro j ⟨j1, j2, j3⟩
    cbv
    repeat' first
      | with_reducible exact trivial
      | ((with_reducible intro v hv); (try rw [wrap_i64] at hv); cbv)
      | ((with_reducible apply uAnd); (focus first | omega | (cbv; done) | kernel_rfl); try cbv)
      | ((with_reducible apply And.intro) <;> (with_reducible intro h) <;> first | ((with_reducible exfalso); omega) | cbv)
      | ((with_reducible apply ld hra); (focus omega); rintro ⟨x0, x1⟩ hx; rw [show v = j.toNat by omega] at hx; cbv)
      | ((with_reducible apply ld hrb); (focus omega); rintro ⟨y0, y1⟩ hy; rw [show v = j.toNat by omega] at hy; cbv)
    all_goals first
      | (have hxy : (⟨y0, y1⟩ : Instr) = ⟨x0, x1⟩ := by (simp only [Instr.mk.injEq]; omega)
         rw [hxy] at hy
         have hsu := agree_succ j3 hx hy
         have e4 : v.toNat = j.toNat + 1 := by omega
         refine And.intro (And.intro (HoldAt.mk ?_) True.intro) (Head.mk ?_ ?_ ?_ ?_ ?_ ?_)
         · exact ⟨⟨by omega, by omega, by rw [e4]; exact hsu⟩, by omega⟩
         all_goals cbv
         exact ⟨BlkLe.flat (fun h => h) hfa, BlkLe.flat (fun h => h) hfb, trivial⟩)
      | exact ⟨true, ⟨fun _ => agree_all j3 (by omega) (by omega), fun _ => rfl⟩, rfl⟩
      | exact ⟨false, ⟨(fun e => by cases e), fun e => by subst e; rw [hx] at hy; cases hy; omega⟩, rfl⟩

set_option maxHeartbeats 4000000 in
theorem sameInstrsT {A B : AV} {m : Mem} {c : Nat} {K : AV → Mem → Nat → Prop} {xs ys : List Instr} (hA : Sl tv 2 m A xs) (hB : Sl tv 2 m B ys) (h1 : xs = ys → K (.bool true) m c) (h2 : xs ≠ ys → K (.bool false) m c) :
    CallT (fun _ => Try.prog) 28 [A, B] m c K := by
  refine CallT.sl2 (R0 := fun v => ∃ r, (r = true ↔ xs = ys) ∧ v = .bool r) (fun a b => [a, b]) hA hB (fun _ => rfl) (fun _ => rfl) (fun l A' B' a b => ⟨a, b, trivial⟩) ?_ ?_ ?_ ?_ ?_
  · rintro rfl rfl
    refine CallS.enter X Try.func28 (by decide) ?_
    cbv
    with_reducible apply LoopT.once X
    cbv
    exact ⟨true, ⟨fun _ => rfl, fun _ => rfl⟩, rfl⟩
  · rintro rfl rows n cap opn ⟨hn, hsz, hfl, hr⟩
    refine CallS.enter X Try.func28 (by decide) ?_
    cbv
    repeat' first
      | with_reducible exact trivial
      | ((with_reducible intro v hv); (try rw [wrap_i64] at hv); cbv)
      | ((with_reducible apply And.intro) <;> (with_reducible intro h) <;> first | ((with_reducible exfalso); omega) | cbv)
      | ((with_reducible apply LoopT.once X); cbv)
    all_goals first
      | exact ⟨true, ⟨fun _ => List.eq_nil_of_length_eq_zero (by omega), fun _ => rfl⟩, rfl⟩
      | exact ⟨false, ⟨(fun e => by cases e), fun e => by subst e; simp at hn; omega⟩, rfl⟩
  · rintro rfl rows n cap opn ⟨hn, hsz, hfl, hr⟩
    refine CallS.enter X Try.func28 (by decide) ?_
    cbv
    repeat' first
      | with_reducible exact trivial
      | ((with_reducible intro v hv); (try rw [wrap_i64] at hv); cbv)
      | ((with_reducible apply And.intro) <;> (with_reducible intro h) <;> first | ((with_reducible exfalso); omega) | cbv)
      | ((with_reducible apply LoopT.once X); cbv)
    all_goals first
      | exact ⟨true, ⟨fun _ => (List.eq_nil_of_length_eq_zero (by omega)).symm, fun _ => rfl⟩, rfl⟩
      | exact ⟨false, ⟨(fun e => by cases e), fun e => by subst e; simp at hn; omega⟩, rfl⟩
  · intro rowsA na capa opna rowsB nb capb opnb ha hb
    exact sameInstrsC xs ys rowsA rowsB na capa nb capb opna opnb ha hb
  · rintro v ⟨r, hr, rfl⟩
    refine ⟨.bool r, rfl, ?_⟩
    cases r with
    | true => exact h1 (hr.1 rfl)
    | false => exact h2 fun e => by have := hr.2 e; cases this

set_option maxRecDepth 100000 in
set_option maxHeartbeats 4000000 in
theorem lendInstrsC (xs : List Instr) (rows : List (List AV)) (n cap : Nat) (opn : Bool) (hA : Hat tv xs rows n) (hl : n ≤ rows.length) (hsz : n * 16 ≤ 140737488351232) :
    CallS Try.prog 10 [.sym (.slice 0 2 0 n cap opn none)] (memB [some (.cells false 2 rows)] []) 1 fun v m' c' => ∃ rows', Lent tv xs n [.int .i64 77777, .int .i64 0] [.int .i64 77777, .int .i64 0] rows' ∧ v = .sym (.slice 1 2 0 n (n + 2) true none) ∧ m' = memB [some (.cells false 2 rows), some (.cells true 2 rows')] [] ∧ c' = 2 := by
  have hA0 := hA
  obtain ⟨hna, hza, hfa, hra⟩ := hA
  refine CallS.ends rfl ?_
  refine CallS.enter X Try.func10 (by decide) ?_
  cbv
  with_reducible apply CallT.enter X Try.func18 (by decide)
  cbv
  with_reducible apply uAnd
  focus omega
  intro src hsrc
  have hsl : src.length = n := by rw [hsrc]; simp; omega
  cbv
  repeat' first
    | ((with_reducible intro L1 rows1 hL1 hr1); (have hr2 : rows1 = src := by (rw [hr1]; simp; done)); (have hll1 : rows1.length = src.length := by rw [hr2]); cbv)
    | ((with_reducible intro L rows' hL hr'); (simp only [List.length_cons, List.length_nil, Nat.zero_add] at hL); (have hll := congrArg List.length hr'); (simp only [List.length_append, List.length_take, List.length_drop, List.length_cons, List.length_nil] at hll); cbv)
    | ((with_reducible intro v hv); cbv)
    | ((with_reducible apply uAnd); (focus first | omega | (refine And.intro ?_ (And.intro ?_ (Or.inl rfl)) <;> omega) | (simp only [List.length_append, List.length_take, List.length_drop, List.length_cons, List.length_nil]; omega) | kernel_rfl | (simp; done) | (simp; omega)); try cbv)
    | ((with_reducible apply And.intro) <;> (with_reducible intro h) <;> (try simp only [List.length_cons, List.length_nil, Nat.zero_add] at h) <;> (try (have hz := congrArg List.length h; rw [List.length_nil] at hz)) <;> (try (have hz2 := List.length_pos_iff.2 h)) <;> first | ((with_reducible exfalso); omega) | ((with_reducible exfalso); simp at h; done) | cbv)
  all_goals
    obtain rfl : v = n := by omega
    obtain rfl : L = v + 2 := by omega
    have hle : Lent tv xs v [.int .i64 77777, .int .i64 0] [.int .i64 77777, .int .i64 0] rows' := by
      refine lent_of hA0 hl rfl rfl ?_
      rw [List.drop_zero] at hsrc
      rw [← hsrc, hr']
      first
        | rw [hr2, List.drop_zero, List.take_of_length_le (by omega)]
        | (rw [List.eq_nil_of_length_eq_zero hz]; rfl)
    refine ⟨[7], [], .sym (.slice 1 2 0 v (v + 2) true none), [some (.cells false 2 rows), some (.cells true 2 rows')], ?_, rows', hle, rfl, rfl, rfl⟩
    refine Head.mk rfl rfl ?_ ?_ ?_ ?_
    all_goals cbv
    exact ⟨BlkLe.flat (fun h => h) hfa, BlkLe.flat (fun h => h) hle.1, trivial⟩
theorem lendInstrsT {S : AV} {m : Mem} {c : Nat} {K : AV → Mem → Nat → Prop} {xs : List Instr} {k n cap : Nat} {opn rw : Bool} {rows : List (List AV)} (hS : norm S = .slice k 2 0 n cap opn none) (hk : m.get k = some (.cells rw 2 rows)) (hA : Hat tv xs rows n) (hl : n ≤ rows.length) (hsz : n * 16 ≤ 140737488351232) (hkc : k < c)
    (h : ∀ rows', Lent tv xs n [.int .i64 77777, .int .i64 0] [.int .i64 77777, .int .i64 0] rows' → K (.sym (.slice c 2 0 n (n + 2) true none)) (m.new c (.cells true 2 rows')) (c + 1)) : CallT (fun _ => Try.prog) 10 [S] m c K := by
  refine CallT.frameF [k] (lendInstrsC xs rows n cap opn hA hl hsz) rfl ?_ ?_ ⟨by simp, by simp; omega⟩ ?_
  · simp only [leL, normL, norm, hS, renOL, renO, List.getElem?_cons_zero, Option.map_some]
  · refine ⟨?_, trivial⟩
    simp only [List.getElem?_cons_zero, hk]
    exact BlkLe.flat (fun e => by cases e) hA.2.2.1
  · rintro v m' c' ⟨rows', hle, rfl, rfl, rfl⟩
    exact ⟨⟨⟨trivial, trivial⟩, rfl, hle.1⟩, h rows' hle⟩

set_option maxRecDepth 100000 in
set_option maxHeartbeats 4000000 in
theorem lendInstrsNilC : CallS Try.prog 10 [.nilslice] (memB [] []) 0 fun v m' c' => ∃ rows', Lent tv [] 0 [.int .i64 77777, .int .i64 0] [.int .i64 77777, .int .i64 0] rows' ∧ v = .sym (.slice 0 2 0 0 2 true none) ∧ m' = memB [some (.cells true 2 rows')] [] ∧ c' = 1 := by
  refine CallS.ends rfl ?_
  refine CallS.enter X Try.func10 (by decide) ?_
  cbv
  with_reducible apply CallT.enter X Try.func18 (by decide)
  cbv
  refine ⟨[6], [], .sym (.slice 0 2 0 0 2 true none), [some (.cells true 2 [[.int .i64 77777, .int .i64 0], [.int .i64 77777, .int .i64 0]])], ?_, _, ⟨?_, fun j x h => by simp at h, rfl, rfl, rfl⟩, rfl, rfl, rfl⟩
  · refine Head.mk rfl rfl ?_ ?_ ?_ ?_
    all_goals cbv
    exact ⟨BlkLe.flat (fun h => h) (by simp [AV.flatL, AV.flat]), trivial⟩
  · simp [AV.flatL, AV.flat]
theorem lendInstrsNilT {S : AV} {m : Mem} {c : Nat} {K : AV → Mem → Nat → Prop} (hS : norm S = .nilslice)
    (h : ∀ rows', Lent tv [] 0 [.int .i64 77777, .int .i64 0] [.int .i64 77777, .int .i64 0] rows' → K (.sym (.slice c 2 0 0 2 true none)) (m.new c (.cells true 2 rows')) (c + 1)) : CallT (fun _ => Try.prog) 10 [S] m c K := by
  refine CallT.frameF [] lendInstrsNilC rfl ?_ trivial ⟨by simp, by simp⟩ ?_
  · simp only [leL, normL, norm, hS, renOL, renO]
  · rintro v m' c' ⟨rows', hle, rfl, rfl, rfl⟩
    exact ⟨⟨trivial, rfl, hle.1⟩, h rows' hle⟩

set_option maxRecDepth 100000 in
set_option maxHeartbeats 4000000 in
theorem keptInstrsC (xs : List Instr) (rows rows' : List (List AV)) (n cap : Nat) (opn : Bool) (hA : Hat tv xs rows n) (hle : Lent tv xs n [.int .i64 77777, .int .i64 0] [.int .i64 77777, .int .i64 0] rows') (hsz : n * 16 ≤ 140737488351232) :
    CallS Try.prog 15 [.sym (.slice 1 2 0 n (n + 2) true none), .sym (.slice 0 2 0 n cap opn none)] (memB [some (.cells false 2 rows), some (.cells false 2 rows')] []) 2 fun v _ _ => v.flat = true ∧ Go.Ab.full v = .bool true := by
  obtain ⟨hna, hza, hfa, hra⟩ := hA
  obtain ⟨hl1, hl2, hl3, hl4, hl5⟩ := hle
  obtain ⟨n2, hn2⟩ : ∃ k, k = n + 2 := ⟨_, rfl⟩
  rw [← hn2]
  refine CallS.enter X Try.func15 (by decide) ?_
  cbv
  repeat' first
    | with_reducible exact trivial
    | ((with_reducible apply sameInstrsT (xs := xs) (ys := xs)); (focus exact Sl.rows0 rfl rfl hna hza hl2); (focus exact Sl.rows0 rfl rfl hna hza hra); all_goals first | ((with_reducible intro hne); (with_reducible exfalso); exact hne rfl) | ((with_reducible intro _); cbv))
    | ((with_reducible intro v hv); (try rw [wrap_i64] at hv); cbv)
    | ((with_reducible apply uAnd); (focus first | omega | kernel_rfl); try cbv)
    | ((with_reducible apply And.intro) <;> (with_reducible intro h) <;> first | ((with_reducible exfalso); omega) | cbv)
    | ((with_reducible apply ldAt hl4); (focus omega); cbv)
    | ((with_reducible apply ldAt hl5); (focus omega); cbv)
theorem keptInstrsT {L S : AV} {m : Mem} {c : Nat} {K : AV → Mem → Nat → Prop} {xs : List Instr} {k k2 n cap : Nat} {opn rw rw2 : Bool} {rows rows' : List (List AV)} (hL : norm L = .slice k2 2 0 n (n + 2) true none) (hk2 : m.get k2 = some (.cells rw2 2 rows')) (hle : Lent tv xs n [.int .i64 77777, .int .i64 0] [.int .i64 77777, .int .i64 0] rows')
    (hS : norm S = .slice k 2 0 n cap opn none) (hk : m.get k = some (.cells rw 2 rows)) (hA : Hat tv xs rows n) (hsz : n * 16 ≤ 140737488351232) (h : K (.bool true) m c) : CallT (fun _ => Try.prog) 15 [L, S] m c K := by
  refine CallT.ofFlat (R0 := fun v => v = .bool true) (CallS.view [⟨k, 0, none, 2⟩, ⟨k2, 0, none, 2⟩] (vs0 := [.sym (.slice 1 2 0 n (n + 2) true none), .sym (.slice 0 2 0 n cap opn none)]) (bs := [some (.cells false 2 rows), some (.cells false 2 rows')]) (Nat.le_refl 2) ⟨ArgV.slice (i := 1) hL rfl, ArgV.slice (i := 0) hS rfl, trivial⟩ (fun i b hb => ?_) (keptInstrsC xs rows rows' n cap opn hA hle hsz)) ?_
  · match i with
    | 0 => simp only [List.getElem?_cons_zero, Option.some.injEq] at hb; subst hb; exact ⟨_, _, rfl, rfl, ⟨rw, rows, hk, hA.2.2.1, .inl rfl, fun i row0 hi => ⟨row0, by rw [Nat.zero_add]; exact hi, rfl⟩⟩⟩
    | 1 => simp only [List.getElem?_cons_succ, List.getElem?_cons_zero, Option.some.injEq] at hb; subst hb; exact ⟨_, _, rfl, rfl, ⟨rw2, rows', hk2, hle.1, .inl rfl, fun i row0 hi => ⟨row0, by rw [Nat.zero_add]; exact hi, rfl⟩⟩⟩
    | i + 2 => simp at hb
  · rintro v rfl
    exact ⟨_, rfl, h⟩

set_option maxRecDepth 100000 in
set_option maxHeartbeats 4000000 in
theorem keptInstrsNilC (rows' : List (List AV)) (hle : Lent tv [] 0 [.int .i64 77777, .int .i64 0] [.int .i64 77777, .int .i64 0] rows') :
    CallS Try.prog 15 [.sym (.slice 0 2 0 0 2 true none), .nilslice] (memB [some (.cells false 2 rows')] []) 1 fun v _ _ => v.flat = true ∧ Go.Ab.full v = .bool true := by
  obtain ⟨hl1, hl2, hl3, hl4, hl5⟩ := hle
  refine CallS.enter X Try.func15 (by decide) ?_
  cbv
  repeat' first
    | with_reducible exact trivial
    | ((with_reducible apply sameInstrsT (xs := []) (ys := [])); (focus exact Sl.rows0 rfl rfl rfl (by decide) hl2); (focus exact Sl.nil rfl rfl); all_goals first | ((with_reducible intro hne); (with_reducible exfalso); exact hne rfl) | ((with_reducible intro _); cbv))
    | ((with_reducible intro v hv); (try rw [wrap_i64] at hv); cbv)
    | ((with_reducible apply uAnd); (focus first | omega | kernel_rfl); try cbv)
    | ((with_reducible apply And.intro) <;> (with_reducible intro h) <;> first | ((with_reducible exfalso); omega) | cbv)
    | ((with_reducible apply ldAt hl4); (focus omega); cbv)
    | ((with_reducible apply ldAt hl5); (focus omega); cbv)
theorem keptInstrsNilT {L S : AV} {m : Mem} {c : Nat} {K : AV → Mem → Nat → Prop} {k2 : Nat} {rw2 : Bool} {rows' : List (List AV)} (hL : norm L = .slice k2 2 0 0 2 true none) (hk2 : m.get k2 = some (.cells rw2 2 rows')) (hle : Lent tv [] 0 [.int .i64 77777, .int .i64 0] [.int .i64 77777, .int .i64 0] rows')
    (hS : norm S = .nilslice) (h : K (.bool true) m c) : CallT (fun _ => Try.prog) 15 [L, S] m c K := by
  refine CallT.ofFlat (R0 := fun v => v = .bool true) (CallS.view [⟨k2, 0, none, 2⟩] (vs0 := [.sym (.slice 0 2 0 0 2 true none), .nilslice]) (bs := [some (.cells false 2 rows')]) (Nat.le_refl 1) ⟨ArgV.slice (i := 0) hL rfl, ArgV.nil hS, trivial⟩ (fun i b hb => ?_) (keptInstrsNilC rows' hle)) ?_
  · match i with
    | 0 => simp only [List.getElem?_cons_zero, Option.some.injEq] at hb; subst hb; exact ⟨_, _, rfl, rfl, ⟨rw2, rows', hk2, hle.1, .inl rfl, fun i row0 hi => ⟨row0, by rw [Nat.zero_add]; exact hi, rfl⟩⟩⟩
    | i + 1 => simp at hb
  · rintro v rfl
    exact ⟨_, rfl, h⟩
end Go.Proofs.Ytdaccjfijfnlfaa.Kit

namespace Go.Proofs.Ytdaccjfijfnlfaa.Cod
open Go.Ab Base Kit
set_option linter.unusedVariables false
set_option linter.unusedSimpArgs false

set_option maxHeartbeats 4000000 in
theorem refInstrC (a b k : Int) (m : Mem) (n : Nat) : CallS Try.prog 37 [.agg [.sym (.int .i64 a), .sym (.int .i64 b)], .sym (.int .i64 k)] m n fun v m' n' => (∃ r, (r = true ↔ OkI (if k ≤ 256 then k else 256) a b) ∧ v = .bool r) ∧ m' = m ∧ n' = n := by
  obtain ⟨K, hK⟩ : ∃ K, K = if k ≤ 256 then k else 256 := ⟨_, rfl⟩
  rw [← hK]
  refine CallS.at0 X Try.func37 (by decide) rfl (d := 2) (R0 := fun v => ∃ r, (r = true ↔ OkI K a b) ∧ v = .bool r) ?_ m n
  cbv
  repeat' first
    | ((with_reducible apply And.intro) <;> (with_reducible intro h) <;> cbv)
  all_goals
    refine ⟨_, ?_, rfl⟩
    unfold OkI
    simp only [reduceCtorEq, true_iff, false_iff]
    split at hK <;> omega

theorem bad_at {p : List Instr} {j : Nat} {a b : Int} (hx : p[j]? = some ⟨a, b⟩) (h : ¬ OkI (p.length : Int) a b) : ¬ May p := fun hm => h (okI_at hm.2 hx)
theorem okI_cap {k a b : Int} (hk : k ≤ 64) (h : OkI (if k ≤ 256 then k else 256) a b) : OkI k a b := by rw [if_pos (by omega)] at h; exact h
theorem all_end {p : List Instr} {many : Int} {j : Nat} (h : AllOk many (p.take j)) (hj : p.length ≤ j) : AllOk many p := by rwa [List.take_of_length_le hj] at h

set_option maxHeartbeats 4000000 in
theorem mayC (p : List Instr) (rows : List (List AV)) (n cap : Nat) (opn : Bool) (hA : Hat tv p rows n) :
    CallS Try.prog 20 [.sym (.slice 0 2 0 n cap opn none)] (memB [some (.cells false 2 rows)] []) 1 fun v _ _ => v.flat = true ∧ ∃ r, (r = true ↔ May p) ∧ v = .bool r := by
  obtain ⟨hn, hsz, hflat, hrows⟩ := hA
  obtain ⟨lim, hl⟩ : ∃ lim : Int → Int → Int, ∀ x y, Lim x y (lim x y) := ⟨fun x y => Classical.choose (lim_one x y), fun x y => Classical.choose_spec (lim_one x y)⟩
  have X := XB hl
  refine CallS.enter X Try.func20 (by decide) ?_
  cbv
  repeat' first
    | with_reducible exact trivial
    | ((with_reducible intro v hv); (try rw [wrap_i64] at hv); cbv)
    | ((with_reducible apply And.intro) <;> (with_reducible intro h) <;> first | ((with_reducible exfalso); omega) | cbv)
  · exact ⟨false, ⟨(fun e => by cases e), fun hm => by have := hm.1; omega⟩, rfl⟩
  with_reducible
   refine LoopT.invR X (α := Int) 28 [] (fun s => oI (s.at 10)) (fun s => [])
    (fun a => [some (.sym (.slice 0 2 0 n cap opn none)), none, none, none, none, none, none, none, some (.sym (.slice 0 2 0 n cap opn none)), some (.sym (.int .i64 v)), some (.sym (.int .i64 a))])
    (fun a => [some (.cells false 2 rows)])
    (fun a => 0 ≤ a ∧ a.toNat ≤ n ∧ AllOk v (p.take a.toNat)) (fun a => n - a.toNat) ?_ ?_
  · cbv
    refine And.intro (HoldAt.mk ?_) (Head.mk ?_ ?_ ?_ ?_ ?_ ?_)
    · exact ⟨by decide, by simp, allOk_nil _⟩
    all_goals cbv
    exact ⟨BlkLe.flat (fun h => h) hflat, trivial⟩
  · rintro j ⟨j1, j2, j3⟩
    cbv
    repeat' first
      | with_reducible exact trivial
      | ((with_reducible intro v hv); (try rw [wrap_i64] at hv); cbv)
      | ((with_reducible apply uAnd); (focus first | omega | (cbv; done) | kernel_rfl); try cbv)
      | ((with_reducible apply And.intro) <;> (with_reducible intro h) <;> (try have hL := hl a v) <;> first | ((with_reducible exfalso); omega) | cbv)
      | ((with_reducible apply ld hrows); (focus omega); rintro ⟨a, b⟩ hx; rw [show v = j.toNat by omega] at hx; cbv)
    · exact ⟨false, ⟨(fun e => by cases e), fun hm => (bad_at hx (by unfold OkI; omega) hm).elim⟩, rfl⟩
    · unfold Lim at hL
      exact ⟨false, ⟨(fun e => by cases e), fun hm => (bad_at hx (by unfold OkI; omega) hm).elim⟩, rfl⟩
    · refine And.intro (And.intro (HoldAt.mk ?_) True.intro) (Head.mk ?_ ?_ ?_ ?_ ?_ ?_)
      · have e4 : v.toNat = j.toNat + 1 := by omega
        refine ⟨⟨by omega, by omega, ?_⟩, by omega⟩
        rw [e4]
        unfold Lim at hL
        exact allOk_take j3 hx (by unfold OkI; dsimp only; omega)
      all_goals cbv
      exact ⟨BlkLe.flat (fun h => h) hflat, trivial⟩
    · have e : v = (p.length : Int) := by omega
      subst e
      exact ⟨true, ⟨fun _ => ⟨by omega, all_end j3 (by omega)⟩, fun _ => rfl⟩, rfl⟩

theorem mayT {S : AV} {m : Mem} {c : Nat} {K : AV → Mem → Nat → Prop} {p : List Instr} (hS : Sl tv 2 m S p) (h1 : May p → K (.bool true) m c) (h2 : ¬ May p → K (.bool false) m c) :
    CallT (fun _ => Try.prog) 20 [S] m c K := by
  refine CallT.sl1 (R0 := fun v => ∃ r, (r = true ↔ May p) ∧ v = .bool r) (fun a => [a]) hS (fun _ => rfl) (fun l A' a => ⟨a, trivial⟩) ?_ ?_ ?_
  · rintro rfl
    refine CallS.enter X Try.func20 (by decide) ?_
    cbv
    with_reducible apply LoopT.once X
    cbv
    exact ⟨true, ⟨fun _ => ⟨Nat.zero_le _, allOk_nil _⟩, fun _ => rfl⟩, rfl⟩
  · intro rows n cap opn hA
    refine (mayC p rows n cap opn hA).mono ?_
    rintro v m' c' ⟨h, r, hr, rfl⟩
    exact ⟨rfl, r, hr, rfl⟩
  · rintro v ⟨r, hr, rfl⟩
    refine ⟨.bool r, rfl, ?_⟩
    cases r with
    | true => exact h1 (hr.1 rfl)
    | false => exact h2 fun e => by have := hr.2 e; cases this

set_option maxHeartbeats 4000000 in
theorem refMayC (p : List Instr) (rows : List (List AV)) (n cap : Nat) (opn : Bool) (hA : Hat tv p rows n) :
    CallS Try.prog 34 [.sym (.slice 0 2 0 n cap opn none)] (memB [some (.cells false 2 rows)] []) 1 fun v _ _ => v.flat = true ∧ ∃ r, (r = true ↔ May p) ∧ v = .bool r := by
  obtain ⟨hn, hsz, hflat, hrows⟩ := hA
  refine CallS.enter X Try.func34 (by decide) ?_
  cbv
  with_reducible
   refine LoopT.invR X (α := Int) 21 [] (fun s => oI (s.at 3)) (fun s => [])
    (fun a => [some (.sym (.slice 0 2 0 n cap opn none)), none, none, some (.sym (.int .i64 a))])
    (fun a => [some (.cells false 2 rows)])
    (fun a => 0 ≤ a ∧ a.toNat ≤ n ∧ AllOk (if (n : Int) ≤ 256 then (n : Int) else 256) (p.take a.toNat)) (fun a => n - a.toNat) ?_ ?_
  · cbv
    refine And.intro (HoldAt.mk ?_) (Head.mk ?_ ?_ ?_ ?_ ?_ ?_)
    · exact ⟨by decide, by simp, allOk_nil _⟩
    all_goals cbv
    exact ⟨BlkLe.flat (fun h => h) hflat, trivial⟩
  · rintro j ⟨j1, j2, j3⟩
    cbv
    repeat' first
      | with_reducible exact trivial
      | ((with_reducible apply CallT.pureB (refInstrC _ _ _ _ _)) <;> (with_reducible intro h) <;> (rw [show v = (n : Int) by omega] at h) <;> cbv)
      | ((with_reducible intro v hv); (try rw [wrap_i64] at hv); cbv)
      | ((with_reducible apply uAnd); (focus first | omega | (cbv; done) | kernel_rfl); try cbv)
      | ((with_reducible apply And.intro) <;> (with_reducible intro h) <;> first | ((with_reducible exfalso); omega) | cbv)
      | ((with_reducible apply ld hrows); (focus omega); rintro ⟨a, b⟩ hx; rw [show v = j.toNat by omega] at hx; cbv)
    · refine And.intro (And.intro (HoldAt.mk ?_) True.intro) (Head.mk ?_ ?_ ?_ ?_ ?_ ?_)
      · have e4 : v.toNat = j.toNat + 1 := by omega
        refine ⟨⟨by omega, by omega, ?_⟩, by omega⟩
        rw [e4]
        exact allOk_take j3 hx h
      all_goals cbv
      exact ⟨BlkLe.flat (fun h => h) hflat, trivial⟩
    · exact ⟨false, ⟨(fun e => by cases e), fun hm => (h (by
        have := okI_at hm.2 hx
        have h64 := hm.1
        have e : (n : Int) ≤ 256 := by omega
        rw [if_pos e, hn]; exact this)).elim⟩, rfl⟩
    · exact ⟨true, ⟨fun _ => ⟨by omega, by have e : (n : Int) ≤ 256 := (by omega); rw [if_pos e, hn] at j3; exact all_end j3 (by omega)⟩, fun _ => rfl⟩, rfl⟩
    · exact ⟨false, ⟨(fun e => by cases e), fun hm => by have := hm.1; omega⟩, rfl⟩

theorem refMayT {S : AV} {m : Mem} {c : Nat} {K : AV → Mem → Nat → Prop} {p : List Instr} (hS : Sl tv 2 m S p) (h1 : May p → K (.bool true) m c) (h2 : ¬ May p → K (.bool false) m c) :
    CallT (fun _ => Try.prog) 34 [S] m c K := by
  refine CallT.sl1 (R0 := fun v => ∃ r, (r = true ↔ May p) ∧ v = .bool r) (fun a => [a]) hS (fun _ => rfl) (fun l A' a => ⟨a, trivial⟩) ?_ ?_ ?_
  · rintro rfl
    refine CallS.enter X Try.func34 (by decide) ?_
    cbv
    with_reducible apply LoopT.once X
    cbv
    exact ⟨true, ⟨fun _ => ⟨Nat.zero_le _, allOk_nil _⟩, fun _ => rfl⟩, rfl⟩
  · intro rows n cap opn hA
    refine (refMayC p rows n cap opn hA).mono ?_
    rintro v m' c' ⟨h, r, hr, rfl⟩
    exact ⟨rfl, r, hr, rfl⟩
  · rintro v ⟨r, hr, rfl⟩
    refine ⟨.bool r, rfl, ?_⟩
    cases r with
    | true => exact h1 (hr.1 rfl)
    | false => exact h2 fun e => by have := hr.2 e; cases this
end Go.Proofs.Ytdaccjfijfnlfaa.Cod
