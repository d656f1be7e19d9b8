/- The laws DealSame and DealForms return true at any input. -/
import Derived.Test.YtmbeolcdbifplaaDealC
namespace Go.Proofs.Ytmbeolcdbifplaa.Deal
open Go.Ab
set_option linter.unusedVariables false
set_option linter.unusedSimpArgs false

theorem ints_of (xs : List Int) : intsOf (xs.map iv) = xs := by
  induction xs with
  | nil => rfl
  | cons x xs ih => simp only [intsOf, List.map_cons, iv, iOf] at ih ⊢; rw [ih]
theorem turn_neg {la : Int} {xs : List Int} (h : ∀ x ∈ xs, 0 ≤ x) : (0 ≤ turnOf la xs ∧ 0 < xs.length) ∨ (turnOf la xs = -1 ∧ xs.length = 0) := by
  rcases above_turn (la := la) h with ⟨h1, h2⟩ | ⟨h1, h2⟩
  · refine .inl ⟨by omega, ?_⟩
    cases xs with
    | nil => simp [above] at h1
    | cons a l => simp
  · cases xs with
    | nil => exact .inr ⟨by rw [h2]; rfl, rfl⟩
    | cons a l => exact .inl ⟨by rw [h2]; exact h a (by simp), by simp⟩

set_option maxRecDepth 200000 in
set_option maxHeartbeats 4000000 in
theorem dealSame (xs : List Int) (rows : List (List AV)) (n cap : Nat) (hn : n = xs.length) (hflat : ∀ row ∈ rows, AV.flatL row = true) (hrows : At iv xs rows) (hw : ∀ x ∈ xs, inI x) (hsz : n * 8 ≤ 140737488351232) (hre : rows = xs.map iv) (i d l la : Int) :
    CallS Try.prog 7 [.agg [.sym (.int .i64 i), .sym (.int .i64 d), .sym (.int .i64 l), .sym (.int .i64 la)], .sym (.slice 0 1 0 n cap false none)] (memB [some (.cells false 1 rows)] []) 1 fun v _ _ => v = .bool true := by
  have io : intsOf rows = xs := by rw [hre, ints_of]
  refine CallS.enter X Try.func7 (by decide) ?_
  cbv
  repeat' first
    | with_reducible exact trivial
    | ((with_reducible intro v hv); (try rw [wrap_i64] at hv); cbv)
    | ((with_reducible apply uAnd); (focus first | kernel_rfl | omega); try cbv)
    | ((with_reducible apply And.intro) <;> (with_reducible intro h) <;> first | ((with_reducible exfalso); omega) | cbv)
    | ((with_reducible apply awakeT); cbv)
    | ((with_reducible apply CallT.enter X Try.func11 (by decide)); cbv)
    | ((with_reducible apply dealT xs); (focus exact Sl.rows0 rfl rfl hn (by omega) hrows); (focus rfl); (focus rfl); (focus rfl); (focus rfl);
        all_goals first
          | ((with_reducible intro hc i' d' l' la' w hw' hf); (simp only [iOf, Fits, one, if_true, Bool.false_eq_true, if_false] at hf hw' hc); first | (exfalso; exact hno hc) | (have hcan := hc; have hcan2 := hc; (obtain ⟨⟨_, _⟩, ⟨_, _⟩, ⟨_, _⟩, _, _, _, _, hrs⟩ := hcan2); have htn := turn_neg (la := la) (fun x hx => (hrs.1 x hx).1); cbv))
          | ((with_reducible intro hno); (simp only [iOf] at hno); first | (exfalso; exact hno hcan) | cbv))

set_option maxRecDepth 200000 in
set_option maxHeartbeats 4000000 in
theorem dealSameNil (i d l la : Int) : CallS Try.prog 7 [.agg [.sym (.int .i64 i), .sym (.int .i64 d), .sym (.int .i64 l), .sym (.int .i64 la)], .nilslice] (memB [] []) 0 fun v _ _ => v = .bool true := by
  refine CallS.enter X Try.func7 (by decide) ?_
  cbv
  repeat' first
    | with_reducible exact trivial
    | ((with_reducible apply dealT []); (focus exact Sl.nil rfl rfl); (focus rfl); (focus rfl); (focus rfl); (focus rfl);
        all_goals first
          | ((with_reducible intro hc i' d' l' la' w hw' hf); (simp only [iOf, Fits, one, if_true, Bool.false_eq_true, if_false] at hf hw' hc); first | (exfalso; exact hno hc) | (have hcan := hc; have hcan2 := hc; (obtain ⟨⟨_, _⟩, ⟨_, _⟩, ⟨_, _⟩, _, _, _, _, hrs⟩ := hcan2); have htn : turnOf la [] = -1 := rfl; cbv))
          | ((with_reducible intro hno); (simp only [iOf] at hno); first | (exfalso; exact hno hcan) | cbv))
    | ((with_reducible intro v hv); (try rw [wrap_i64] at hv); cbv)
    | ((with_reducible apply uAnd); (focus first | kernel_rfl | omega); try cbv)
    | ((with_reducible apply And.intro) <;> (with_reducible intro h) <;> first | ((with_reducible exfalso); omega) | cbv)
    | ((with_reducible apply awakeT); cbv)
    | ((with_reducible apply CallT.enter X Try.func11 (by decide)); cbv)

set_option maxRecDepth 200000 in
set_option maxHeartbeats 4000000 in
theorem dealForms (which x : Int) : CallS Try.prog 5 [.sym (.int .i64 which), .sym (.int .i64 x)] (memB [] []) 0 fun v _ _ => v = .bool true := by
  refine CallS.enter X Try.func5 (by decide) ?_
  cbv
  with_reducible apply awakeT
  cbv
  with_reducible intro k hk
  have hkb := and_bound (by decide) (by decide) hk
  clear hk
  cbv
  with_reducible intro d hd
  rw [wrap_i64] at hd
  have hd1 : 1 ≤ d ∧ d ≤ 64 := by omega
  clear hd hkb
  cbv
  with_reducible apply dealT [1, 4]
  focus exact Sl.text rfl rfl rfl rfl ⟨rfl, rfl, trivial⟩
  focus rfl
  focus rfl
  focus rfl
  focus rfl
  rotate_left
  · intro hno
    exact absurd ⟨by decide, by decide, by decide, by decide, by decide, by decide, by decide, rises_two.2 (by decide)⟩ hno
  with_reducible intro _ i' d' l' la' w _ _
  cbv
  with_reducible intro q hq
  rw [wrap_u64] at hq
  cbv
  repeat' first
    | with_reducible exact trivial
    | ((with_reducible apply dealT); (focus exact Sl.ints rfl rfl rfl rfl ⟨rfl, rfl, trivial⟩); (focus rfl); (focus rfl); (focus rfl); (focus rfl);
        (focus ((with_reducible intro hc i' d' l' la' w hw' hf); exfalso; (obtain ⟨⟨_, _⟩, ⟨_, _⟩, ⟨_, _⟩, _, _, _, _, hrs⟩ := hc); (simp only [iOf, intsOf, List.map_cons, List.map_nil, List.take, List.drop, rises_two] at *); omega));
        (with_reducible intro hno); cbv)
    | ((with_reducible intro v hv); (try rw [wrap_i64] at hv); cbv)
    | ((with_reducible apply uAnd); (focus first | kernel_rfl | omega); try cbv)
    | ((with_reducible apply And.intro) <;> (with_reducible intro h) <;> first | ((with_reducible exfalso); omega) | cbv)
    | ((with_reducible apply CallT.enter X Try.func11 (by decide)); cbv)


end Go.Proofs.Ytmbeolcdbifplaa.Deal
