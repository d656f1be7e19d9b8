/- The law ModeRun returns true at any frames. -/
import Derived.Test.YtponjcglchjojaaModeC
import Derived.Test.YtponjcglchjojaaAb33
namespace Go.Proofs.Ytponjcglchjojaa.Mode
open Go.Ab
set_option linter.unusedVariables false
set_option linter.unusedSimpArgs false

/-- Of what may be: what comes. -/
theorem boundaryOk {L Q K' : AV} {b d : Bool} {m : Mem} {c : Nat} {K : AV → Mem → Nat → Prop} (hL : full L = .sym (.int .i64 (iOf L))) (hQ : full Q = .sym (.int .i64 (iOf Q))) (hK : full K' = .sym (.int .i64 (iOf K')))
    (hok : (iOf L = 0 ∨ iOf L = 1) ∧ 0 ≤ iOf Q ∧ iOf Q ≤ 16 ∧ 1 ≤ iOf K' ∧ iOf K' ≤ 16)
    (h : ∀ l' q' : Int, (((iOf L = 0 ∨ b = true ∨ d = true) ∧ l' = (iOf L) ∧ q' = 0) ∨ (¬ (iOf L = 0 ∨ b = true ∨ d = true) ∧ (iOf K' ≤ iOf Q + 1 ∧ l' = 0 ∧ q' = 0 ∨ iOf Q + 1 < iOf K' ∧ l' = 1 ∧ q' = iOf Q + 1))) →
      K (.tuple [.agg [.sym (.int .i64 l'), .sym (.int .i64 q'), .bool false], .int .i64 0]) m c) :
    CallT (fun _ => Try.prog) 17 [.agg [L, Q, .bool b], K', .bool d] m c K := by
  refine ⟨CallS.fullA ?_⟩
  simp only [fullL, full, hL, hQ, hK]
  refine ⟨fun μ w args h1 h2 h3 => ((boundary (iOf L) (iOf Q) (iOf K') b d m c).ok μ w args h1 h2 h3).mono ?_⟩
  rintro val w' ⟨v, m', c', μ', ⟨⟨l', q', b', e, hs, rfl⟩, rfl, rfl⟩, k1, k2⟩
  obtain ⟨hb, ht⟩ := specB_cases hs
  subst hb
  rcases ht with ⟨_, _, _, _, _, rfl, ht⟩ | ⟨ht, _⟩
  · refine ⟨_, _, _, μ', h l' q' ?_, k1, k2⟩
    rcases ht with ht | ⟨h1, h2, h3, h4⟩ | ⟨h1, h2, h3, h4⟩
    · exact .inl ht
    · exact .inr ⟨h1, .inl ⟨h2, h3, h4⟩⟩
    · exact .inr ⟨h1, .inr ⟨h2, h3, h4⟩⟩
  · exact absurd hok ht

structure S5 where
  i : Int
  high : Bool
  lv : Int
  since : Int
  qc : Int

set_option maxHeartbeats 4000000 in
theorem modeRun (xs : List Int) (rows : List (List AV)) (n cap : Nat) (hn : n = xs.length) (hflat : ∀ row ∈ rows, AV.flatL row = true) (hrows : At iv xs rows) (hw : ∀ x ∈ xs, inI x) (hsz : n * 8 ≤ 140737488351232) (quiet : Int) :
    CallS Try.prog 5 [.sym (.slice 0 1 0 n cap false none), .sym (.int .i64 quiet)] (memB [some (.cells false 1 rows)] []) 1 fun v _ _ => v = .bool true := by
  refine CallS.enter X Try.func5 (by decide) ?_
  cbv
  with_reducible refine ⟨awakeAt ?_⟩
  cbv
  with_reducible intro v1 hv1
  cbv
  with_reducible refine And.intro (fun _ => by decide) ?_
  with_reducible intro v2 hv2
  cbv
  with_reducible intro v3 hv3
  cbv
  with_reducible intro q hq
  have hk : 1 ≤ q ∧ q ≤ 16 := by
    rw [wrap_u64] at hv1
    rw [Int.tmod_eq_emod_of_nonneg (by omega)] at hv2
    rw [wrap_i64] at hv3 hq
    omega
  clear hv1 hv2 hv3 hq
  cbv
  with_reducible refine ⟨CallS.enter X Try.func23 (by decide) ?_⟩
  cbv
  with_reducible
   refine LoopT.invR X (α := S5) 86 [] (fun s => ⟨oI (s.at 9), oB (s.at 7), oI (s.cell (oP (s.at 6)) 0 0), oI (s.at 8), oI (s.cell (oP (s.at 6)) 0 1)⟩) (fun s => [oP (s.at 6)])
    (fun a => [some (.sym (.slice 0 1 0 n cap false none)), none, none, none, none, some (.sym (.int .i64 q)), some (.ptr 1 3 0 0), some (.bool a.high), some (.sym (.int .i64 a.since)), some (.sym (.int .i64 a.i))])
    (fun a => [some (.cells false 1 rows), some (.cells true 3 [[.sym (.int .i64 a.lv), .sym (.int .i64 a.qc), .bool false]])])
    (fun a => 0 ≤ a.i ∧ a.i ≤ 60 ∧ a.i.toNat ≤ n ∧ 0 ≤ a.since ∧ a.since < q ∧ (a.high = true ∧ a.lv = 1 ∨ a.high = false ∧ a.lv = 0 ∧ a.since = 0) ∧ a.qc = a.since) (fun a => (60 - a.i).toNat) ?_ ?_
  · refine ⟨?_, ?_, ?_, ?_, ?_, ?_, ?_⟩ <;> cbv
    all_goals repeat' first
      | with_reducible exact trivial
      | with_reducible refine And.intro ?_ ?_
      | exact BlkLe.flat (fun h => h) hflat
      | exact BlkLe.cells (fun h => h) (RowsLe.cons rfl RowsLe.nil)
      | (with_reducible refine HoldAt.mk ?_; dsimp only; omega)
      | (with_reducible refine HoldAt.mk ?_; simp; done)
      | (with_reducible refine HoldAt.mk ?_; simp; omega)
  · rintro ⟨i, high, lv, since, qc⟩ hI
    obtain ⟨h1, h2, hin, h3, h4, h5, h6⟩ := hI
    dsimp only at h1 h2 hin h3 h4 h5 h6
    cases high
    all_goals
      simp only [reduceCtorEq, false_and, true_and, false_or, or_false] at h5
      cbv
      repeat' first
        | with_reducible exact trivial
        | ((with_reducible intro v hv); (try rw [wrap_i64] at hv); cbv)
        | ((with_reducible apply uAnd); (focus first | omega | (cbv; done) | kernel_rfl); try cbv)
        | ((with_reducible apply And.intro) <;> (with_reducible intro h) <;> first | ((with_reducible exfalso); omega) | cbv)
        | ((with_reducible apply ld hrows); (focus omega); intro x hx; cbv)
        | ((with_reducible apply CallT.enter X Try.func20 (by decide)); cbv)
        | ((with_reducible apply CallT.enter X Try.func19 (by decide)); cbv)
        | ((with_reducible apply boundaryOk); (focus rfl); (focus rfl); (focus rfl); (focus (simp [iOf] <;> omega)); intro l' q' ht; simp only [iOf, Bool.false_eq_true, or_false, or_true, true_or, true_and, not_true, not_false_eq_true, false_and, false_or] at ht; cbv)
    all_goals first
      | (with_reducible refine And.intro (And.intro (HoldAt.mk ?_) True.intro) (Head.mk ?_ ?_ ?_ ?_ ?_ ?_))
      | (exfalso; simp at ht; omega)
    all_goals first
      | (dsimp only; omega)
      | (simp; omega)
      | (cbv; done)
      | (cbv; repeat' first
          | with_reducible exact trivial
          | with_reducible apply And.intro
          | exact BlkLe.flat (fun h => h) hflat
          | exact BlkLe.cells (fun h => h) (RowsLe.cons rfl RowsLe.nil))
      | trace_state
set_option maxHeartbeats 1000000 in
theorem modeRunNil (quiet : Int) : CallS Try.prog 5 [.nilslice, .sym (.int .i64 quiet)] (memB [] []) 0 fun v _ _ => v = .bool true := by
  refine CallS.enter X Try.func5 (by decide) ?_
  cbv
  with_reducible refine ⟨awakeAt ?_⟩
  cbv
  repeat' first
    | with_reducible exact trivial
    | ((with_reducible intro v hv); cbv)
    | ((with_reducible apply uAnd); (focus first | omega | (cbv; done) | kernel_rfl); try cbv)
    | ((with_reducible apply And.intro) <;> (with_reducible intro h) <;> first | ((with_reducible exfalso); omega) | cbv)
    | ((with_reducible apply CallT.enter X Try.func23 (by decide)); cbv)
    | ((with_reducible apply LoopT.once X); cbv)

end Go.Proofs.Ytponjcglchjojaa.Mode
