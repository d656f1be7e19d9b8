/- The laws of chapter 13 return true at any input. -/
import Derived.Test.YtdngnkfgfacajaaMetA
namespace Go.Proofs.Ytdngnkfgfacajaa.Met
open Go.Ab Base
set_option linter.unusedVariables false
set_option linter.unusedSimpArgs false

def jobV (tk sq pr re de dm us : Int) : AV := .agg [i6 tk, i6 sq, i6 pr, i6 re, i6 de, i6 dm, i6 us]
def okV (tk sq pr re de dm us : Int) (o dn k : Bool) : AV := .tuple [.agg [i6 tk, i6 sq, i6 pr, i6 re, i6 de, i6 dm, i6 us], .agg [.bool o, .bool dn, .bool k], .int .i64 0]
def noV : AV := .tuple [.agg [.int .i64 0, .int .i64 0, .int .i64 0, .int .i64 0, .int .i64 0, .int .i64 0, .int .i64 0], .agg [.bool false, .bool false, .bool false], .int .i64 1300]
theorem chargeT {J1 J2 J3 J4 J5 J6 J7 T1 T2 T3 T4 T5 T6 L : AV} {m : Mem} {c : Nat} {K : AV → Mem → Nat → Prop} (tk sq pr re de dm us kd p d cl ch pt lv : Int) (hJ : normL [J1, J2, J3, J4, J5, J6, J7] = normL [i6 tk, i6 sq, i6 pr, i6 re, i6 de, i6 dm, i6 us]) (hT : normL [T1, T2, T3, T4, T5, T6] = normL [i6 kd, i6 p, i6 d, i6 cl, i6 ch, i6 pt]) (hL : norm L = norm (i6 lv))
    (h1 : Can tk sq pr re de dm us kd p d cl ch pt lv → ∀ u o dn k, u = us + 1 → Verd dm us cl ch lv o dn k → SpecC tk sq pr re de dm us kd p d cl ch pt lv (Go.Ab.full (okV tk sq pr re de dm u o dn k)) → K (okV tk sq pr re de dm u o dn k) m c)
    (h2 : ¬ Can tk sq pr re de dm us kd p d cl ch pt lv → SpecC tk sq pr re de dm us kd p d cl ch pt lv (Go.Ab.full noV) → K noV m c) : CallT (fun _ => Try.prog) 7 [.agg [J1, J2, J3, J4, J5, J6, J7], .agg [T1, T2, T3, T4, T5, T6], L] m c K := by
  refine ⟨CallS.normA (vs' := [.agg [i6 tk, i6 sq, i6 pr, i6 re, i6 de, i6 dm, i6 us], .agg [i6 kd, i6 p, i6 d, i6 cl, i6 ch, i6 pt], i6 lv]) ?_ (CallS.asFull ((chargeC tk sq pr re de dm us kd p d cl ch pt lv m c).mono ?_))⟩
  · simp only [normL] at hJ hT
    simp only [normL, norm, hL, hJ, hT]
  · rintro v m' c' ⟨⟨w, hw, hv⟩, rfl, rfl⟩
    have hw0 := hw
    rcases hw with ⟨a1, o, dn, k, hvd, rfl⟩ | ⟨a1, rfl⟩
    · exact ⟨okV tk sq pr re de dm (us + 1) o dn k, hv.symm, h1 a1 _ o dn k rfl hvd hw0⟩
    · exact ⟨noV, hv.symm, h2 a1 hw0⟩
theorem refChargeT {J1 J2 J3 J4 J5 J6 J7 T1 T2 T3 T4 T5 T6 L w : AV} {m : Mem} {c : Nat} {K : AV → Mem → Nat → Prop} (tk sq pr re de dm us kd p d cl ch pt lv : Int) (hJ : normL [J1, J2, J3, J4, J5, J6, J7] = normL [i6 tk, i6 sq, i6 pr, i6 re, i6 de, i6 dm, i6 us]) (hT : normL [T1, T2, T3, T4, T5, T6] = normL [i6 kd, i6 p, i6 d, i6 cl, i6 ch, i6 pt]) (hL : norm L = norm (i6 lv))
    (h1 : SpecC tk sq pr re de dm us kd p d cl ch pt lv (Go.Ab.full w)) (h : K w m c) : CallT (fun _ => Try.prog) 8 [.agg [J1, J2, J3, J4, J5, J6, J7], .agg [T1, T2, T3, T4, T5, T6], L] m c K := by
  refine ⟨CallS.normA (vs' := [.agg [i6 tk, i6 sq, i6 pr, i6 re, i6 de, i6 dm, i6 us], .agg [i6 kd, i6 p, i6 d, i6 cl, i6 ch, i6 pt], i6 lv]) ?_ (CallS.asFull ((refChargeC tk sq pr re de dm us kd p d cl ch pt lv m c).mono ?_))⟩
  · simp only [normL] at hJ hT
    simp only [normL, norm, hL, hJ, hT]
  · rintro v m' c' ⟨⟨w', hw, hv⟩, rfl, rfl⟩
    exact ⟨w, by rw [hv, specC_fun hw h1], h⟩

set_option maxRecDepth 200000 in
set_option maxHeartbeats 4000000 in
theorem charges (tk sq pr re de dm us kd p d cl ch pt lv : Int) : CallS Try.prog 3 [.agg [i6 tk, i6 sq, i6 pr, i6 re, i6 de, i6 dm, i6 us], .agg [i6 kd, i6 p, i6 d, i6 cl, i6 ch, i6 pt], i6 lv] (memB [] []) 0 fun v _ _ => v = .bool true := by
  refine CallS.enter X Try.func3 (by decide) ?_
  cbv
  with_reducible apply chargeT tk sq pr re de dm us kd p d cl ch pt lv
  focus rfl
  focus rfl
  focus rfl
  · intro hc u o dn k hu hvd hs
    cbv
    with_reducible apply refChargeT (w := okV tk sq pr re de dm u o dn k) tk sq pr re de dm us kd p d cl ch pt lv
    focus rfl
    focus rfl
    focus rfl
    focus exact hs
    clear hvd hs
    cases o <;> cases dn <;> cases k <;> cbv
    all_goals repeat' first
      | with_reducible exact trivial
      | ((with_reducible intro v hv); (try rw [wrap_i64] at hv); cbv)
      | ((with_reducible apply uAnd); (focus first | kernel_rfl | omega); try cbv)
      | ((with_reducible apply And.intro) <;> (with_reducible intro h) <;> first | ((with_reducible exfalso); omega) | cbv)
      | ((with_reducible apply awakeT); cbv)
      | ((with_reducible apply CallT.enter X Try.func9 (by decide)); cbv)
  · intro hc hs
    cbv
    with_reducible apply refChargeT (w := noV) tk sq pr re de dm us kd p d cl ch pt lv
    focus rfl
    focus rfl
    focus rfl
    focus exact hs
    cbv
    repeat' first
      | with_reducible exact trivial
      | ((with_reducible intro v hv); (try rw [wrap_i64] at hv); cbv)
      | ((with_reducible apply uAnd); (focus first | kernel_rfl | omega); try cbv)
      | ((with_reducible apply And.intro) <;> (with_reducible intro h) <;> first | ((with_reducible exfalso); omega) | cbv)
      | ((with_reducible apply awakeT); cbv)
      | ((with_reducible apply CallT.enter X Try.func9 (by decide)); cbv)
end Go.Proofs.Ytdngnkfgfacajaa.Met
