/- The law ConfigForms, way 12. -/
import Derived.Test.YtndbcpfbddhonaaBase
import Derived.Test.YtndbcpfbddhonaaAb50
namespace Go.Proofs.Ytndbcpfbddhonaa.Br
open Go.Ab Base
set_option linter.unusedVariables false
set_option linter.unusedSimpArgs false

theorem X2E : Ctx Try.prog (aRun Try.prog ⟨fun _ => none, fun _ _ => none⟩ 200) :=
  ⟨hm, aRun_call hm (ext_none _ fun _ => rfl) 200, aRun_frr (ext_none _ fun _ => rfl) 200⟩
def isIE (z : Int) : AV → Bool
  | .int .i64 y => decide (y = z)
  | _ => false
theorem isI_okE {z : Int} {v : AV} (h : isIE z v = true) : v = .int .i64 z := by
  unfold isIE at h
  split at h
  · rw [of_decide_eq_true h]
  · cases h

set_option cbv.maxSteps 10000000 in
set_option maxRecDepth 200000 in
set_option maxHeartbeats 400000000 in
theorem cf12 (which x : Int) (hq : which % 18446744073709551616 % 13 = 12) : CallS Try.prog 5 [.sym (.int .i64 which), .sym (.int .i64 x)] (memB [] []) 0 fun v _ _ => v = .bool true := by
  refine CallS.enter X Try.func5 (by decide) ?_
  cbv
  repeat' first
    | with_reducible exact trivial
    | ((with_reducible apply awakeT); cbv)
    | ((with_reducible intro v hv); (first | (have hvb := and_bound (by omega) (by omega) hv; clear hv) | (rw [wrap_i64] at hv; first | (rw [Int.tdiv_eq_ediv_of_nonneg (by omega)] at hv) | skip) | (rw [wrap_u64] at hv) | (rw [wrap_u8] at hv) | (rw [Int.tmod_eq_emod_of_nonneg (by omega)] at hv) | skip); cbv)
    | ((with_reducible apply uAnd); (focus first | kernel_rfl | omega | exact ⟨rfl, Nat.le_refl _, Or.inl rfl⟩ | (refine And.intro ?_ ?_ <;> omega) | (refine ⟨?_, ?_, ?_, ?_⟩ <;> (try simp only [Int.ofNat_eq_natCast]) <;> first | omega | (change (56:Int) * _ ≤ 140737488355328; omega) | (change (48:Int) * _ ≤ 140737488355328; omega) | (change (24:Int) * _ ≤ 140737488355328; omega) | (change (32:Int) * _ ≤ 140737488355328; omega) | (change (16:Int) * _ ≤ 140737488355328; omega)) | (simp only [List.length_cons, List.length_nil]; omega)); try cbv)
    | ((with_reducible apply And.intro) <;> (with_reducible intro h) <;> (try simp only [Int.ofNat_eq_natCast] at h) <;> first | ((with_reducible exfalso); omega) | ((with_reducible exfalso); exact h trivial) | cbv)
    | ((with_reducible intro h); first | ((with_reducible exfalso); omega) | cbv)
    | ((with_reducible apply LoopT.one X); cbv)
    | ((with_reducible apply CallT.ran (f := 10) X2E (isIE 0)); (focus decide +kernel); (with_reducible intro v hv); (rw [isI_okE hv]); clear hv; cbv)
    | ((with_reducible apply CallT.tidyH); (with_reducible intro K0 hK0); (with_reducible apply CallT.enter X Try.func3 (by decide)); cbv)
    | ((with_reducible apply CallT.tidyH); (with_reducible intro K0 hK0); (with_reducible apply CallT.enter X Try.func4 (by decide)); cbv)
    | ((with_reducible apply CallT.tidyH); (with_reducible intro K0 hK0); (with_reducible apply CallT.enter X Try.func6 (by decide)); cbv)
    | ((with_reducible apply CallT.tidyH); (with_reducible intro K0 hK0); (with_reducible apply CallT.enter X Try.func7 (by decide)); cbv)
    | ((with_reducible apply CallT.tidyH); (with_reducible intro K0 hK0); (with_reducible apply CallT.enter X Try.func8 (by decide)); cbv)
    | ((with_reducible apply CallT.tidyH); (with_reducible intro K0 hK0); (with_reducible apply CallT.enter X Try.func9 (by decide)); cbv)
    | ((with_reducible apply CallT.calmH); (with_reducible intro K0 hK0); (with_reducible apply CallT.enter X Try.func10 (by decide)); cbv)
    | ((with_reducible apply CallT.calmH); (with_reducible intro K0 hK0); (with_reducible apply CallT.enter X Try.func11 (by decide)); cbv)
    | ((with_reducible apply CallT.tidyH); (with_reducible intro K0 hK0); (with_reducible apply CallT.enter X Try.func12 (by decide)); cbv)
    | ((with_reducible apply CallT.tidyH); (with_reducible intro K0 hK0); (with_reducible apply CallT.enter X Try.func13 (by decide)); cbv)
    | ((with_reducible apply CallT.tidyH); (with_reducible intro K0 hK0); (with_reducible apply CallT.enter X Try.func14 (by decide)); cbv)
    | ((with_reducible apply CallT.calmH); (with_reducible intro K0 hK0); (with_reducible apply CallT.enter X Try.func15 (by decide)); cbv)
    | ((with_reducible apply CallT.tidyH); (with_reducible intro K0 hK0); (with_reducible apply CallT.enter X Try.func16 (by decide)); cbv)
    | ((with_reducible apply CallT.tidyH); (with_reducible intro K0 hK0); (with_reducible apply CallT.enter X Try.func17 (by decide)); cbv)
    | ((with_reducible apply CallT.tidyH); (with_reducible intro K0 hK0); (with_reducible apply CallT.enter X Try.func18 (by decide)); cbv)
    | ((with_reducible apply CallT.tidyH); (with_reducible intro K0 hK0); (with_reducible apply CallT.enter X Try.func20 (by decide)); cbv)
    | ((with_reducible apply CallT.tidyH); (with_reducible intro K0 hK0); (with_reducible apply CallT.enter X Try.func21 (by decide)); cbv)
    | ((with_reducible apply CallT.tidyH); (with_reducible intro K0 hK0); (with_reducible apply CallT.enter X Try.func22 (by decide)); cbv)
    | ((with_reducible apply CallT.calmH); (with_reducible intro K0 hK0); (with_reducible apply CallT.enter X Try.func23 (by decide)); cbv)
    | ((with_reducible apply CallT.calmH); (with_reducible intro K0 hK0); (with_reducible apply CallT.enter X Try.func24 (by decide)); cbv)
    | ((with_reducible apply CallT.calmH); (with_reducible intro K0 hK0); (with_reducible apply CallT.enter X Try.func25 (by decide)); cbv)
    | ((with_reducible apply CallT.calmH); (with_reducible intro K0 hK0); (with_reducible apply CallT.enter X Try.func26 (by decide)); cbv)
    | ((with_reducible apply CallT.calmH); (with_reducible intro K0 hK0); (with_reducible apply CallT.enter X Try.func27 (by decide)); cbv)
    | ((with_reducible apply CallT.calmH); (with_reducible intro K0 hK0); (with_reducible apply CallT.enter X Try.func28 (by decide)); cbv)
    | ((with_reducible apply CallT.calmH); (with_reducible intro K0 hK0); (with_reducible apply CallT.enter X Try.func29 (by decide)); cbv)
    | ((with_reducible apply CallT.calmH); (with_reducible intro K0 hK0); (with_reducible apply CallT.enter X Try.func30 (by decide)); cbv)
    | ((with_reducible apply CallT.calmH); (with_reducible intro K0 hK0); (with_reducible apply CallT.enter X Try.func31 (by decide)); cbv)
    | ((with_reducible apply CallT.calmH); (with_reducible intro K0 hK0); (with_reducible apply CallT.enter X Try.func32 (by decide)); cbv)
    | ((with_reducible apply CallT.calmH); (with_reducible intro K0 hK0); (with_reducible apply CallT.enter X Try.func33 (by decide)); cbv)
    | ((with_reducible apply CallT.tidyH); (with_reducible intro K0 hK0); (with_reducible apply CallT.enter X Try.func34 (by decide)); cbv)
    | ((with_reducible apply CallT.tidyH); (with_reducible intro K0 hK0); (with_reducible apply CallT.enter X Try.func35 (by decide)); cbv)
    | ((with_reducible apply CallT.tidyH); (with_reducible intro K0 hK0); (with_reducible apply CallT.enter X Try.func36 (by decide)); cbv)
    | ((with_reducible apply CallT.tidyH); (with_reducible intro K0 hK0); (with_reducible apply CallT.enter X Try.func37 (by decide)); cbv)
    | ((with_reducible apply CallT.tidyH); (with_reducible intro K0 hK0); (with_reducible apply CallT.enter X Try.func38 (by decide)); cbv)
    | ((with_reducible apply CallT.tidyH); (with_reducible intro K0 hK0); (with_reducible apply CallT.enter X Try.func39 (by decide)); cbv)
    | ((with_reducible apply CallT.tidyH); (with_reducible intro K0 hK0); (with_reducible apply CallT.enter X Try.func40 (by decide)); cbv)
    | ((with_reducible apply CallT.tidyH); (with_reducible intro K0 hK0); (with_reducible apply CallT.enter X Try.func41 (by decide)); cbv)
    | ((with_reducible apply CallT.tidyH); (with_reducible intro K0 hK0); (with_reducible apply CallT.enter X Try.func42 (by decide)); cbv)
    | ((with_reducible apply CallT.tidyH); (with_reducible intro K0 hK0); (with_reducible apply CallT.enter X Try.func43 (by decide)); cbv)
    | ((with_reducible apply CallT.tidyH); (with_reducible intro K0 hK0); (with_reducible apply CallT.enter X Try.func44 (by decide)); cbv)
    | ((with_reducible apply CallT.tidyH); (with_reducible intro K0 hK0); (with_reducible apply CallT.enter X Try.func45 (by decide)); cbv)
    | ((with_reducible apply CallT.tidyH); (with_reducible intro K0 hK0); (with_reducible apply CallT.enter X Try.func46 (by decide)); cbv)
    | ((with_reducible apply CallT.tidyH); (with_reducible intro K0 hK0); (with_reducible apply CallT.enter X Try.func47 (by decide)); cbv)
    | ((with_reducible apply CallT.calmH); (with_reducible intro K0 hK0); (with_reducible apply CallT.enter X Try.func48 (by decide)); cbv)
    | ((with_reducible apply CallT.calmH); (with_reducible intro K0 hK0); (with_reducible apply CallT.enter X Try.func49 (by decide)); cbv)
    | ((with_reducible apply CallT.calmH); (with_reducible intro K0 hK0); (with_reducible apply CallT.enter X Try.func50 (by decide)); cbv)
    | ((with_reducible apply CallT.calmH); (with_reducible intro K0 hK0); (with_reducible apply CallT.enter X Try.func51 (by decide)); cbv)
    | ((with_reducible apply CallT.calmH); (with_reducible intro K0 hK0); (with_reducible apply CallT.enter X Try.func52 (by decide)); cbv)
    | ((with_reducible apply CallT.calmH); (with_reducible intro K0 hK0); (with_reducible apply CallT.enter X Try.func53 (by decide)); cbv)
    | ((with_reducible apply CallT.calmH); (with_reducible intro K0 hK0); (with_reducible apply CallT.enter X Try.func54 (by decide)); cbv)
    | ((with_reducible apply CallT.calmH); (with_reducible intro K0 hK0); (with_reducible apply CallT.enter X Try.func55 (by decide)); cbv)
    | ((with_reducible apply CallT.tidyH); (with_reducible intro K0 hK0); (with_reducible apply CallT.enter X Try.func56 (by decide)); cbv)
    | ((with_reducible apply CallT.tidyH); (with_reducible intro K0 hK0); (with_reducible apply CallT.enter X Try.func57 (by decide)); cbv)
    | ((with_reducible apply CallT.tidyH); (with_reducible intro K0 hK0); (with_reducible apply CallT.enter X Try.func58 (by decide)); cbv)
    | ((with_reducible apply CallT.tidyH); (with_reducible intro K0 hK0); (with_reducible apply CallT.enter X Try.func59 (by decide)); cbv)
    | ((with_reducible apply CallT.tidyH); (with_reducible intro K0 hK0); (with_reducible apply CallT.enter X Try.func60 (by decide)); cbv)
    | ((with_reducible apply CallT.tidyH); (with_reducible intro K0 hK0); (with_reducible apply CallT.enter X Try.func61 (by decide)); cbv)
    | ((with_reducible apply CallT.tidyH); (with_reducible intro K0 hK0); (with_reducible apply CallT.enter X Try.func62 (by decide)); cbv)
    | ((with_reducible apply CallT.tidyH); (with_reducible intro K0 hK0); (with_reducible apply CallT.enter X Try.func63 (by decide)); cbv)
    | ((with_reducible apply CallT.calmH); (with_reducible intro K0 hK0); (with_reducible apply CallT.enter X Try.func64 (by decide)); cbv)
    | ((with_reducible apply CallT.tidyH); (with_reducible intro K0 hK0); (with_reducible apply CallT.enter X Try.func65 (by decide)); cbv)
    | ((with_reducible apply CallT.tidyH); (with_reducible intro K0 hK0); (with_reducible apply CallT.enter X Try.func66 (by decide)); cbv)
    | ((with_reducible apply hK0); clear hK0; cbv)
end Go.Proofs.Ytndbcpfbddhonaa.Br
