/- The law ModeWaits returns true at any frames. -/
import Derived.Test.YtponjcglchjojaaModeE
import Derived.Test.YtponjcglchjojaaAb35
namespace Go.Proofs.Ytponjcglchjojaa.Mode
open Go.Ab
set_option linter.unusedVariables false
set_option linter.unusedSimpArgs false

theorem specB_is (l q k : Int) (b d : Bool) : ∃ x : Int × Int × Int, SpecB l q b k d x.1 x.2.1 false x.2.2 := by
  unfold SpecB
  by_cases h : (l = 0 ∨ l = 1) ∧ 0 ≤ q ∧ q ≤ 16 ∧ 1 ≤ k ∧ k ≤ 16
  · by_cases h1 : l = 0 ∨ b = true ∨ d = true
    · exact ⟨(l, 0, 0), by rw [if_pos h, if_pos h1]; exact ⟨rfl, rfl, rfl, rfl⟩⟩
    · by_cases h2 : q + 1 ≥ k
      · exact ⟨(0, 0, 0), by rw [if_pos h, if_neg h1, if_pos h2]; exact ⟨rfl, rfl, rfl, rfl⟩⟩
      · exact ⟨(1, q + 1, 0), by rw [if_pos h, if_neg h1, if_neg h2]; exact ⟨rfl, rfl, rfl, rfl⟩⟩
  · exact ⟨(0, 0, 1900), by rw [if_neg h]; exact ⟨rfl, rfl, rfl, rfl⟩⟩

section
variable (bL bQ bE : Int → Int → Int → Bool → Bool → Int)
def g17 : List AV → Option AV
  | [.agg [L, Q, .bool b], K, .bool d] => match norm L, norm Q, norm K with
    | .int .i64 l, .int .i64 q, .int .i64 k => some (.tuple [.agg [.sym (.int .i64 (bL l q k b d)), .sym (.int .i64 (bQ l q k b d)), .bool false], .sym (.int .i64 (bE l q k b d))])
    | _, _, _ => none
  | _ => none
def g22 : List AV → Option AV
  | [] => some (.bool true)
  | _ => none
theorem hintsOk (hB : ∀ l q k b d, SpecB l q b k d (bL l q k b d) (bQ l q k b d) false (bE l q k b d)) : ExtOK Try.prog (pureHints [(22, g22), (17, g17 bL bQ bE)]) := by
  refine pureHints_ok fun x hx vs v hv m c => ?_
  rcases List.mem_cons.1 hx with rfl | hx
  · dsimp only at hv ⊢
    unfold g22 at hv
    split at hv
    · cases hv
      exact awakeAt ⟨rfl, rfl, rfl⟩
    · cases hv
  rcases List.mem_cons.1 hx with rfl | hx
  · dsimp only at hv ⊢
    unfold g17 at hv
    split at hv
    · rename_i L Q b K d
      split at hv
      · rename_i l q k hl hq hk
        cases hv
        refine ⟨fun μ w args h1 h2 h3 => ?_⟩
        have e : cnL μ [.agg [L, Q, .bool b], K, .bool d] = cnL μ [.agg [.sym (.int .i64 l), .sym (.int .i64 q), .bool b], .sym (.int .i64 k), .bool d] := by
          rw [← cnL_norm', ← cnL_norm' μ [.agg [.sym (.int .i64 l), .sym (.int .i64 q), .bool b], .sym (.int .i64 k), .bool d]]
          simp only [normL, norm, hl, hq, hk]
        rw [e] at h1
        refine ((boundary l q k b d m c).ok μ w args h1 h2 h3).mono ?_
        rintro val w' ⟨v, m', c', μ', ⟨⟨l', q', b', e', hs, rfl⟩, rfl, rfl⟩, k1, k2⟩
        obtain ⟨rfl, rfl, rfl, rfl⟩ := specB_fun (hB l q k b d) hs
        exact ⟨_, _, _, μ', ⟨rfl, rfl, rfl⟩, k1, k2⟩
      · cases hv
    · cases hv
  · cases hx
noncomputable def callF : CallA := aRun Try.prog (pureHints [(22, g22), (17, g17 bL bQ bE)]) 5
theorem XF (hB : ∀ l q k b d, SpecB l q b k d (bL l q k b d) (bQ l q k b d) false (bE l q k b d)) : Ctx Try.prog (callF bL bQ bE) := ctx_pure hm (hintsOk bL bQ bE hB) 5
end

structure S7 where
  i : Int
  qc : Int
  lv : Int
  loud : Bool

set_option maxRecDepth 100000 in
set_option maxHeartbeats 4000000 in
theorem modeWaits (xs : List Int) (rows : List (List AV)) (n cap : Nat) (hn : n = xs.length) (hflat : ∀ row ∈ rows, AV.flatL row = true) (hrows : At iv xs rows) (hw : ∀ x ∈ xs, inI x) (hsz : n * 8 ≤ 140737488351232) (quiet : Int) :
    CallS Try.prog 7 [.sym (.slice 0 1 0 n cap false none), .sym (.int .i64 quiet)] (memB [some (.cells false 1 rows)] []) 1 fun v _ _ => v = .bool true := by
  obtain ⟨bL, bQ, bE, hB⟩ : ∃ bL bQ bE : Int → Int → Int → Bool → Bool → Int, ∀ l q k b d, SpecB l q b k d (bL l q k b d) (bQ l q k b d) false (bE l q k b d) :=
    ⟨fun l q k b d => (Classical.choose (specB_is l q k b d)).1, fun l q k b d => (Classical.choose (specB_is l q k b d)).2.1, fun l q k b d => (Classical.choose (specB_is l q k b d)).2.2, fun l q k b d => Classical.choose_spec (specB_is l q k b d)⟩
  have X := XF bL bQ bE hB
  refine CallS.enter X Try.func7 (by decide) ?_
  cbv
  with_reducible refine ⟨awakeAt ?_⟩
  cbv
  with_reducible intro v1 hv1
  cbv
  with_reducible refine And.intro (fun _ => by decide) ?_
  with_reducible intro v2 hv2
  cbv
  with_reducible intro v3 hv3
  cbv
  with_reducible intro q hq
  have hk : 2 ≤ q ∧ q ≤ 16 := by
    rw [wrap_u64] at hv1
    rw [Int.tmod_eq_emod_of_nonneg (by omega)] at hv2
    rw [wrap_i64] at hv3 hq
    omega
  clear hv1 hv2 hv3 hq
  cbv
  with_reducible apply CallT.enter X Try.func23 (by decide)
  cbv
  with_reducible apply CallT.enter X Try.func20 (by decide)
  cbv
  with_reducible
   refine LoopT.invR X (α := S7) 84 [] (fun s => ⟨oI (s.at 7), oI (s.cell (oP (s.at 6)) 0 1), oI (s.cell (oP (s.at 6)) 0 0), oB (s.cell (oP (s.at 6)) 0 2)⟩) (fun s => [oP (s.at 6)])
    (fun a => [some (.sym (.slice 0 1 0 n cap false none)), none, none, none, none, some (.sym (.int .i64 q)), some (.ptr 1 3 0 0), some (.sym (.int .i64 a.i))])
    (fun a => [some (.cells false 1 rows), some (.cells true 3 [[.sym (.int .i64 a.lv), .sym (.int .i64 a.qc), .bool a.loud]])])
    (fun a => 0 ≤ a.i ∧ a.i ≤ 60 ∧ a.i.toNat ≤ n ∧ 0 ≤ a.qc ∧ a.qc ≤ 16 ∧ a.lv = 1) (fun a => (60 - a.i).toNat) ?_ ?_
  · cbv
    refine And.intro (HoldAt.mk ?_) (Head.mk ?_ ?_ ?_ ?_ ?_ ?_)
    · exact ⟨by decide, by decide, by simp, by decide, by decide, rfl⟩
    all_goals cbv
    refine ⟨BlkLe.flat (fun h => h) hflat, BlkLe.cells (fun h => h) (RowsLe.cons rfl RowsLe.nil), trivial⟩
  · rintro ⟨i, qc, lv, loud⟩ ⟨h1, h2, hin, h3, h4, h5⟩
    dsimp only at h1 h2 hin h3 h4 h5
    have s1 := specB_cases (hB 1 0 q true true)
    have s2 := specB_cases (hB 1 0 q true false)
    have s3 := specB_cases (hB lv qc q true true)
    have s4 := specB_cases (hB lv qc q true false)
    have s5 := specB_cases (hB lv qc q false true)
    have s6 := specB_cases (hB lv qc q false false)
    simp only [true_and, Bool.false_eq_true, or_false, or_true, true_or, not_true, not_false_eq_true, false_and, false_or, reduceCtorEq] at s1 s2 s3 s4 s5 s6
    cases loud
    all_goals
      cbv
      repeat' first
        | with_reducible exact trivial
        | ((with_reducible intro v hv); (try have hbd := and_bound (by decide) (by decide) hv); cbv)
        | ((with_reducible apply uAnd); (focus first | omega | (cbv; done) | kernel_rfl); try cbv)
        | ((with_reducible apply And.intro) <;> (with_reducible intro h) <;> first | ((with_reducible exfalso); omega) | cbv)
        | ((with_reducible apply ldAt hri); (focus omega); cbv)
        | ((with_reducible apply ld hrows); (focus omega); intro x hx; rw [show v = i.toNat by omega] at hx; have hri : rows[i.toNat]? = some [.sym (.int .i64 x)] := hrows _ _ hx; cbv)
        | ((with_reducible apply CallT.enter X Try.func20 (by decide)); cbv)
        | ((with_reducible apply CallT.enter X Try.func19 (by decide)); cbv)
    all_goals
      refine And.intro (And.intro (HoldAt.mk ?_) True.intro) (Head.mk ?_ ?_ ?_ ?_ ?_ ?_)
      · dsimp only
        rw [wrap_i64] at hv
        refine ⟨⟨by omega, by omega, by omega, by omega, by omega, by omega⟩, by omega⟩
      all_goals cbv
      refine ⟨BlkLe.flat (fun h => h) hflat, BlkLe.cells (fun h => h) (RowsLe.cons rfl RowsLe.nil), trivial⟩

set_option maxHeartbeats 1000000 in
theorem modeWaitsNil (quiet : Int) : CallS Try.prog 7 [.nilslice, .sym (.int .i64 quiet)] (memB [] []) 0 fun v _ _ => v = .bool true := by
  refine CallS.enter X Try.func7 (by decide) ?_
  cbv
  with_reducible refine ⟨awakeAt ?_⟩
  cbv
  repeat' first
    | with_reducible exact trivial
    | ((with_reducible intro v hv); cbv)
    | ((with_reducible apply uAnd); (focus first | omega | (cbv; done) | kernel_rfl | decide); try cbv)
    | ((with_reducible apply And.intro) <;> (with_reducible intro h) <;> first | ((with_reducible exfalso); omega) | cbv)
    | ((with_reducible apply CallT.enter X Try.func23 (by decide)); cbv)
    | ((with_reducible apply CallT.enter X Try.func20 (by decide)); cbv)
    | ((with_reducible apply LoopT.once X); cbv)
end Go.Proofs.Ytponjcglchjojaa.Mode
