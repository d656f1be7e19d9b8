/- The law Deals returns true at any input. -/
import Derived.Test.YtmbeolcdbifplaaDealC
import Derived.Test.YtmbeolcdbifplaaLendInts
namespace Go.Proofs.Ytmbeolcdbifplaa.Deal
open Go.Ab Kit
set_option linter.unusedVariables false
set_option linter.unusedSimpArgs false

set_option maxRecDepth 200000 in
set_option maxHeartbeats 4000000 in
theorem deals (xs : List Int) (rows : List (List AV)) (n cap : Nat) (hn : n = xs.length) (hflat : ∀ row ∈ rows, AV.flatL row = true) (hrows : At iv xs rows) (hw : ∀ x ∈ xs, inI x) (hsz : n * 8 ≤ 140737488351232) (hre : rows = xs.map iv) (i d l la : Int) (high : Bool) :
    CallS Try.prog 3 [.agg [.sym (.int .i64 i), .sym (.int .i64 d), .sym (.int .i64 l), .sym (.int .i64 la)], .bool high, .sym (.slice 0 1 0 n cap false none)] (memB [some (.cells false 1 rows)] []) 1 fun v _ _ => v = .bool true := by
  have hrl : rows.length = n := by rw [hre, List.length_map, hn]
  have hat : Hat iv xs rows n := ⟨hn, by omega, hflat, hrows⟩
  obtain ⟨n2, hn2⟩ : ∃ k, k = n + 2 := ⟨_, rfl⟩
  refine CallS.enter X Try.func3 (by decide) ?_
  cbv
  repeat' first
    | with_reducible exact trivial
    | ((with_reducible apply lendIntsT (xs := xs)); (focus rfl); (focus rfl); (focus exact hat); (focus omega); (focus omega); (focus decide); (intro rows' hle; cbv))
    | ((with_reducible apply dealT xs); (focus exact Sl.rows0 rfl rfl hn (by omega) hle.2.1); (focus rfl); (focus rfl); (focus rfl); (focus rfl);
        all_goals first
          | ((with_reducible intro hc i' d' l' la' w hw' hf); (simp only [iOf, Fits, one, if_true, Bool.false_eq_true, if_false] at hf hw' hc); first | (exfalso; exact hno hc) | (have hcan := hc; have hf1 := hf; have hw1 := hw'; cbv))
          | ((with_reducible intro hno); (simp only [iOf] at hno); first | (exfalso; exact hno hcan) | cbv))
    | ((with_reducible apply refDealT xs); (focus exact Sl.rows0 rfl rfl hn (by omega) hrows); (focus rfl); (focus rfl); (focus rfl); (focus rfl);
        all_goals first
          | ((with_reducible intro hc i2 d2 l2 la2 w2 hw2 hf2); (simp only [iOf, Fits, one, if_true, Bool.false_eq_true, if_false] at hf2 hw2 hc); first | (exfalso; exact hno hc) | cbv)
          | ((with_reducible intro hno); (simp only [iOf] at hno); first | (exfalso; exact hno hcan) | cbv))
    | ((with_reducible apply keptIntsT (xs := xs)); (focus rfl); (focus rfl); (focus exact hle); (focus rfl); (focus rfl); (focus exact hat); (focus omega); cbv)
    | ((with_reducible intro v hv); (try rw [wrap_i64] at hv); cbv)
    | ((with_reducible apply uAnd); (focus first | kernel_rfl | omega); try cbv)
    | ((with_reducible apply And.intro) <;> (with_reducible intro h) <;> first | ((with_reducible exfalso); omega) | cbv)
    | ((with_reducible apply awakeT); cbv)
    | ((with_reducible apply CallT.enter X Try.func11 (by decide)); cbv)



set_option maxRecDepth 200000 in
set_option maxHeartbeats 4000000 in
theorem dealsNil (i d l la : Int) (high : Bool) :
    CallS Try.prog 3 [.agg [.sym (.int .i64 i), .sym (.int .i64 d), .sym (.int .i64 l), .sym (.int .i64 la)], .bool high, .nilslice] (memB [] []) 0 fun v _ _ => v = .bool true := by
  obtain ⟨xs, hxs⟩ : ∃ xs : List Int, xs = [] := ⟨_, rfl⟩
  refine CallS.enter X Try.func3 (by decide) ?_
  cbv
  repeat' first
    | with_reducible exact trivial
    | ((with_reducible apply lendIntsNilT); (focus rfl); (intro rows' hle; cbv))
    | ((with_reducible apply dealT xs); (focus exact Sl.rows0 rfl rfl (by rw [hxs]; rfl) (by omega) (by rw [hxs]; exact hle.2.1)); (focus rfl); (focus rfl); (focus rfl); (focus rfl);
        all_goals first
          | ((with_reducible intro hc i' d' l' la' w hw' hf); (simp only [iOf, Fits, one, if_true, Bool.false_eq_true, if_false] at hf hw' hc); first | (exfalso; exact hno hc) | (have hcan := hc; have hf1 := hf; have hw1 := hw'; cbv))
          | ((with_reducible intro hno); (simp only [iOf] at hno); first | (exfalso; exact hno hcan) | cbv))
    | ((with_reducible apply refDealT xs); (focus exact Sl.nil rfl hxs); (focus rfl); (focus rfl); (focus rfl); (focus rfl);
        all_goals first
          | ((with_reducible intro hc i2 d2 l2 la2 w2 hw2 hf2); (simp only [iOf, Fits, one, if_true, Bool.false_eq_true, if_false] at hf2 hw2 hc); first | (exfalso; exact hno hc) | cbv)
          | ((with_reducible intro hno); (simp only [iOf] at hno); first | (exfalso; exact hno hcan) | cbv))
    | ((with_reducible apply keptIntsNilT); (focus rfl); (focus rfl); (focus exact hle); (focus rfl); cbv)
    | ((with_reducible intro v hv); (try rw [wrap_i64] at hv); cbv)
    | ((with_reducible apply uAnd); (focus first | kernel_rfl | omega); try cbv)
    | ((with_reducible apply And.intro) <;> (with_reducible intro h) <;> first | ((with_reducible exfalso); omega) | cbv)
    | ((with_reducible apply awakeT); cbv)
    | ((with_reducible apply CallT.enter X Try.func11 (by decide)); cbv)


end Go.Proofs.Ytmbeolcdbifplaa.Deal
