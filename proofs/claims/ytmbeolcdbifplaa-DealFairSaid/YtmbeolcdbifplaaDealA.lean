/- Rows of parts that rise; whose turn it is: the program's rising and turn, the document's rises. -/
import Derived.Test.YtmbeolcdbifplaaAb36
import Derived.Test.YtmbeolcdbifplaaProg
namespace Go.Proofs.Ytmbeolcdbifplaa.Deal
open Go.Ab
set_option linter.unusedVariables false
set_option linter.unusedSimpArgs false

/-- Do parts rise, each such as there may be? -/
def Rises (xs : List Int) : Prop := (∀ x ∈ xs, 0 ≤ x ∧ x < 8) ∧ ∀ (i : Nat) (x y : Int), xs[i]? = some x → xs[i + 1]? = some y → x < y
def PreR (xs : List Int) (j : Nat) : Prop := (∀ i x, i < j → xs[i]? = some x → 0 ≤ x ∧ x < 8) ∧ ∀ (i : Nat) (x y : Int), i + 1 < j → xs[i]? = some x → xs[i + 1]? = some y → x < y
theorem PreR.zero (xs : List Int) : PreR xs 0 := ⟨fun i x h => by omega, fun i x y h => by omega⟩
theorem PreR.succ {xs : List Int} {j : Nat} {x : Int} (h : PreR xs j) (hx : xs[j]? = some x) (hb : 0 ≤ x ∧ x < 8) (hp : j = 0 ∨ ∃ y, xs[j - 1]? = some y ∧ y < x) : PreR xs (j + 1) := by
  refine ⟨fun i y hi hy => ?_, fun i y z hi hy hz => ?_⟩
  · by_cases e : i = j
    · subst e; rw [hx] at hy; cases hy; exact hb
    · exact h.1 i y (by omega) hy
  · by_cases e : i + 1 = j
    · subst e
      rw [hx] at hz; cases hz
      rcases hp with hp | ⟨w, hw, hlt⟩
      · omega
      · rw [Nat.add_sub_cancel, hy] at hw; cases hw; exact hlt
    · exact h.2 i y z (by omega) hy hz
theorem PreR.all {xs : List Int} {j : Nat} (h : PreR xs j) (hj : xs.length ≤ j) : Rises xs := by
  refine ⟨fun x hx => ?_, fun i x y hx hy => ?_⟩
  · obtain ⟨i, hi⟩ := List.getElem?_of_mem hx
    exact h.1 i x (by have := (List.getElem?_eq_some_iff.1 hi).1; omega) hi
  · exact h.2 i x y (by have := (List.getElem?_eq_some_iff.1 hy).1; omega) hx hy
theorem not_rises_at {xs : List Int} {j : Nat} {x : Int} (hx : xs[j]? = some x) (h : ¬ (0 ≤ x ∧ x < 8)) : ¬ Rises xs := fun hr => h (hr.1 x (List.mem_of_getElem? hx))
theorem not_rises_two {xs : List Int} {j : Nat} {x y : Int} (hj : 0 < j) (hx : xs[j - 1]? = some x) (hy : xs[j]? = some y) (h : y ≤ x) : ¬ Rises xs := fun hr => by
  have := hr.2 (j - 1) x y hx (by rw [Nat.sub_add_cancel hj]; exact hy)
  omega
/-- Whose turn it is. -/
def turnOf (last : Int) (xs : List Int) : Int := (xs.find? fun x => decide (last < x)).getD (xs.headD (-1))

def Count (x : Int) : Prop := 0 ≤ x ∧ x ≤ 1099511627776
instance (x : Int) : Decidable (Count x) := by unfold Count; infer_instance

theorem hm : Try.prog.follows .mixedOrders = true := by kernel_rfl
theorem awakeRuns : isYes (aRun Try.prog ⟨fun _ => none, fun _ _ => none⟩ 20 13 [] ⟨Tr.empty 6, []⟩ 0) = true := by kernel_rfl
noncomputable def callM : CallA := aRun Try.prog (yesAt 13) 5
theorem X : Ctx Try.prog callM := by
  obtain ⟨m, c, h⟩ := of_isYes awakeRuns
  exact ctx_yes hm h 5

set_option maxRecDepth 100000 in
set_option maxHeartbeats 4000000 in
theorem risingC (xs : List Int) (rows : List (List AV)) (n cap : Nat) (opn : Bool) (hn : n = xs.length) (hsz : n ≤ 140737488355328) (hflat : ∀ row ∈ rows, AV.flatL row = true) (hrows : At iv xs rows) :
    CallS Try.prog 17 [.sym (.slice 0 1 0 n cap opn none)] (memB [some (.cells false 1 rows)] []) 1 fun v _ _ => v.flat = true ∧ ∃ r, (r = true ↔ Rises xs) ∧ v = .bool r := by
  refine CallS.enter X Try.func17 (by decide) ?_
  cbv
  with_reducible intro len hlen
  cbv
  with_reducible
   refine LoopT.invR X (α := Int) 32 [] (fun s => oI (s.at 7)) (fun s => [])
    (fun a => [some (.sym (.slice 0 1 0 n cap opn none)), none, none, none, none, some (.sym (.slice 0 1 0 n cap opn none)), some (.sym (.int .i64 len)), some (.sym (.int .i64 a))])
    (fun a => [some (.cells false 1 rows)])
    (fun a => 0 ≤ a ∧ a.toNat ≤ n ∧ PreR xs a.toNat) (fun a => n - a.toNat) ?_ ?_
  · cbv
    refine And.intro (HoldAt.mk ?_) (Head.mk ?_ ?_ ?_ ?_ ?_ ?_)
    · exact ⟨by decide, by simp, PreR.zero xs⟩
    all_goals cbv
    refine ⟨BlkLe.flat (fun h => h) hflat, trivial⟩
  · rintro j ⟨j1, j2, j3⟩
    cbv
    repeat' first
      | with_reducible exact trivial
      | ((with_reducible intro v hv); (try rw [wrap_i64] at hv); cbv)
      | ((with_reducible apply uAnd); (focus first | omega | (cbv; done) | kernel_rfl); try cbv)
      | ((with_reducible apply And.intro) <;> (with_reducible intro h) <;> first | ((with_reducible exfalso); omega) | cbv)
      | ((with_reducible apply ldAt hrj); (focus omega); cbv)
      | ((with_reducible apply ld hrows); (focus omega); intro x hx; (first | (rw [show v = j.toNat by omega] at hx; have hxj := hx; have hrj : rows[j.toNat]? = some [.sym (.int .i64 x)] := hrows _ _ hx) | (rw [show v = j.toNat - 1 by omega] at hx; have hxp := hx)); cbv)
    all_goals first
      | exact ⟨true, ⟨fun _ => j3.all (by omega), fun _ => rfl⟩, rfl⟩
      | exact ⟨false, ⟨(fun e => by cases e), fun hr => absurd hr (not_rises_at hxj (by omega))⟩, rfl⟩
      | exact ⟨false, ⟨(fun e => by cases e), fun hr => absurd hr (not_rises_two (by omega) hxp hxj (by omega))⟩, rfl⟩
      | (have e4 : v.toNat = j.toNat + 1 := by omega
         refine And.intro (And.intro (HoldAt.mk ?_) True.intro) (Head.mk ?_ ?_ ?_ ?_ ?_ ?_)
         · refine ⟨⟨by omega, by omega, ?_⟩, by omega⟩
           rw [e4]
           first | exact j3.succ hxj (by omega) (.inl (by omega)) | exact j3.succ hxj (by omega) (.inr ⟨_, hxp, by omega⟩)
         all_goals cbv
         exact ⟨BlkLe.flat (fun h => h) hflat, trivial⟩)

set_option maxRecDepth 100000 in
set_option maxHeartbeats 4000000 in
theorem refRisesC (xs : List Int) (rows : List (List AV)) (n cap : Nat) (opn : Bool) (hn : n = xs.length) (hsz : n ≤ 140737488355328) (hflat : ∀ row ∈ rows, AV.flatL row = true) (hrows : At iv xs rows) :
    CallS Try.prog 20 [.sym (.slice 0 1 0 n cap opn none)] (memB [some (.cells false 1 rows)] []) 1 fun v _ _ => v.flat = true ∧ ∃ r, (r = true ↔ Rises xs) ∧ v = .bool r := by
  refine CallS.enter X Try.func20 (by decide) ?_
  cbv
  with_reducible
   refine LoopT.invR X (α := Int) 38 [] (fun s => oI (s.at 3)) (fun s => [])
    (fun a => [some (.sym (.slice 0 1 0 n cap opn none)), none, none, some (.sym (.int .i64 a))])
    (fun a => [some (.cells false 1 rows)])
    (fun a => 0 ≤ a ∧ a.toNat ≤ n ∧ PreR xs a.toNat) (fun a => n - a.toNat) ?_ ?_
  · cbv
    refine And.intro (HoldAt.mk ?_) (Head.mk ?_ ?_ ?_ ?_ ?_ ?_)
    · exact ⟨by decide, by simp, PreR.zero xs⟩
    all_goals cbv
    refine ⟨BlkLe.flat (fun h => h) hflat, trivial⟩
  · rintro j ⟨j1, j2, j3⟩
    cbv
    repeat' first
      | with_reducible exact trivial
      | ((with_reducible intro v hv); (try rw [wrap_i64] at hv); cbv)
      | ((with_reducible apply uAnd); (focus first | omega | (cbv; done) | kernel_rfl); try cbv)
      | ((with_reducible apply And.intro) <;> (with_reducible intro h) <;> first | ((with_reducible exfalso); omega) | cbv)
      | ((with_reducible apply ldAt hrj); (focus omega); cbv)
      | ((with_reducible apply ld hrows); (focus omega); intro x hx; (first | (rw [show v = j.toNat by omega] at hx; have hxj := hx; have hrj : rows[j.toNat]? = some [.sym (.int .i64 x)] := hrows _ _ hx) | (rw [show v = j.toNat - 1 by omega] at hx; have hxp := hx)); cbv)
    all_goals first
      | exact ⟨true, ⟨fun _ => j3.all (by omega), fun _ => rfl⟩, rfl⟩
      | exact ⟨false, ⟨(fun e => by cases e), fun hr => absurd hr (not_rises_at hxj (by omega))⟩, rfl⟩
      | exact ⟨false, ⟨(fun e => by cases e), fun hr => absurd hr (not_rises_two (by omega) hxp hxj (by omega))⟩, rfl⟩
      | (have e4 : v.toNat = j.toNat + 1 := by omega
         refine And.intro (And.intro (HoldAt.mk ?_) True.intro) (Head.mk ?_ ?_ ?_ ?_ ?_ ?_)
         · refine ⟨⟨by omega, by omega, ?_⟩, by omega⟩
           rw [e4]
           first | exact j3.succ hxj (by omega) (.inl (by omega)) | exact j3.succ hxj (by omega) (.inr ⟨_, hxp, by omega⟩)
         all_goals cbv
         exact ⟨BlkLe.flat (fun h => h) hflat, trivial⟩)

theorem turn_found {xs : List Int} {j : Nat} {x last : Int} (h : ∀ y ∈ xs.take j, y ≤ last) (hx : xs[j]? = some x) (hl : last < x) : turnOf last xs = x := by
  obtain ⟨hj, rfl⟩ := List.getElem?_eq_some_iff.1 hx
  have e : xs = xs.take j ++ xs.drop j := (List.take_append_drop j xs).symm
  unfold turnOf
  have hf : xs.find? (fun x => decide (last < x)) = some xs[j] := by
    conv => lhs; rw [e]
    rw [List.find?_append]
    have hn : (xs.take j).find? (fun x => decide (last < x)) = none := by
      rw [List.find?_eq_none]
      intro y hy
      have := h y hy
      simp; omega
    rw [hn, List.drop_eq_getElem_cons hj, List.find?_cons, decide_eq_true hl]
    rfl
  rw [hf]; rfl
theorem turn_none {xs : List Int} {last : Int} (h : ∀ y ∈ xs, y ≤ last) : turnOf last xs = xs.headD (-1) := by
  unfold turnOf
  have hn : xs.find? (fun x => decide (last < x)) = none := by
    rw [List.find?_eq_none]
    intro y hy
    have := h y hy
    simp; omega
  rw [hn]; rfl

set_option maxRecDepth 100000 in
set_option maxHeartbeats 4000000 in
theorem turnC (xs : List Int) (rows : List (List AV)) (n cap : Nat) (opn : Bool) (hn : n = xs.length) (hsz : n ≤ 140737488355328) (hflat : ∀ row ∈ rows, AV.flatL row = true) (hrows : At iv xs rows) (last : Int) :
    CallS Try.prog 18 [.sym (.int .i64 last), .sym (.slice 0 1 0 n cap opn none)] (memB [some (.cells false 1 rows)] []) 1 fun v _ _ => v.flat = true ∧ ∃ r, r = turnOf last xs ∧ Go.Ab.full v = .sym (.int .i64 r) := by
  refine CallS.enter X Try.func18 (by decide) ?_
  cbv
  with_reducible intro len hlen
  cbv
  with_reducible
   refine LoopT.invR X (α := Int) 24 [] (fun s => oI (s.at 9)) (fun s => [])
    (fun a => [some (.sym (.int .i64 last)), some (.sym (.slice 0 1 0 n cap opn none)), none, none, none, none, none, some (.sym (.slice 0 1 0 n cap opn none)), some (.sym (.int .i64 len)), some (.sym (.int .i64 a))])
    (fun a => [some (.cells false 1 rows)])
    (fun a => 0 ≤ a ∧ a.toNat ≤ n ∧ ∀ y ∈ xs.take a.toNat, y ≤ last) (fun a => n - a.toNat) ?_ ?_
  · cbv
    refine And.intro (HoldAt.mk ?_) (Head.mk ?_ ?_ ?_ ?_ ?_ ?_)
    · exact ⟨by decide, by simp, by simp⟩
    all_goals cbv
    refine ⟨BlkLe.flat (fun h => h) hflat, trivial⟩
  · rintro j ⟨j1, j2, j3⟩
    cbv
    repeat' first
      | with_reducible exact trivial
      | ((with_reducible intro v hv); (try rw [wrap_i64] at hv); cbv)
      | ((with_reducible apply uAnd); (focus first | omega | (cbv; done) | kernel_rfl); try cbv)
      | ((with_reducible apply And.intro) <;> (with_reducible intro h) <;> first | ((with_reducible exfalso); omega) | cbv)
      | ((with_reducible apply ld hrows); (focus omega); intro x hx; (first | (rw [show v = j.toNat by omega] at hx; have hxj := hx) | have hx0 := hx); cbv)
    · exact ⟨_, (turn_found j3 hxj h).symm, rfl⟩
    · have e4 : v.toNat = j.toNat + 1 := by omega
      refine And.intro (And.intro (HoldAt.mk ?_) True.intro) (Head.mk ?_ ?_ ?_ ?_ ?_ ?_)
      · refine ⟨⟨by omega, by omega, ?_⟩, by omega⟩
        rw [e4, take_succ_at hxj]
        intro y hy
        rcases List.mem_append.1 hy with hy | hy
        · exact j3 y hy
        · rw [List.mem_singleton.1 hy]; exact h
      all_goals cbv
      exact ⟨BlkLe.flat (fun h => h) hflat, trivial⟩
    · rw [List.take_of_length_le (by omega)] at j3
      have e : v = 0 := by rw [hv]; rfl
      rw [e] at hx
      refine ⟨_, ?_, rfl⟩
      rw [turn_none j3]
      cases xs with
      | nil => simp at hx
      | cons a l => simp at hx; simp [hx]
    · rw [List.take_of_length_le (by omega)] at j3
      refine ⟨_, ?_, rfl⟩
      rw [turn_none j3]
      cases xs with
      | nil => rfl
      | cons a l => simp at hn; omega
end Go.Proofs.Ytmbeolcdbifplaa.Deal
