/- The statement ConfigForms: at any input the law returns true, and the input reads as it did. -/
import Derived.Test.YtndbcpfbddhonaaRows
import Derived.Test.YtndbcpfbddhonaaCfG
import Derived.Test.YtndbcpfbddhonaaCfC
import Derived.Test.YtndbcpfbddhonaaCfD
import Derived.Test.YtndbcpfbddhonaaCfE
import Derived.Test.YtndbcpfbddhonaaAb33
import Derived.WalkKit
import Derived.ProofKit
import Derived.OpenShut
import Derived.ShutString
import Derived.ChangeOld
import Derived.Below
import Derived.Carry
import Derived.SizedLaws
namespace Go.Proofs.Ytndbcpfbddhonaa.Br
open Go.Ab Base
set_option maxRecDepth 200000 in
theorem configForms (which x : Int) : CallS Try.prog 5 [.sym (.int .i64 which), .sym (.int .i64 x)] (memB [] []) 0 fun v _ _ => v = .bool true := by
  have h : which % 18446744073709551616 % 13 = 0 ∨ which % 18446744073709551616 % 13 = 1 ∨ which % 18446744073709551616 % 13 = 2 ∨ which % 18446744073709551616 % 13 = 3 ∨ which % 18446744073709551616 % 13 = 4 ∨ which % 18446744073709551616 % 13 = 5 ∨ which % 18446744073709551616 % 13 = 6 ∨ which % 18446744073709551616 % 13 = 7 ∨ which % 18446744073709551616 % 13 = 8 ∨ which % 18446744073709551616 % 13 = 9 ∨ which % 18446744073709551616 % 13 = 10 ∨ which % 18446744073709551616 % 13 = 11 ∨ which % 18446744073709551616 % 13 = 12 := by omega
  rcases h with h | h | h | h | h | h | h | h | h | h | h | h | h
  · exact cf0 which x h
  · exact cf1 which x h
  · exact cf2 which x h
  · exact cf3 which x h
  · exact cf4 which x h
  · exact cf5 which x h
  · exact cf6 which x h
  · exact cf7 which x h
  · exact cf8 which x h
  · exact cf9 which x h
  · exact cf10 which x h
  · exact cf11 which x h
  · exact cf12 which x h
end Go.Proofs.Ytndbcpfbddhonaa.Br
namespace Go.Proofs.Ytndbcpfbddhonaa.ConfigFormsRow
open Go.ChangeShapes Go.WideShapes Go.ChangeAt Go.RowKit Go.Ab
open Go.ChangeMaps (open_string shut_string)
set_option linter.unusedVariables false
theorem own : ownKnob Try.prog.godebug = none := by kernel_rfl
theorem laidOut : laidOutB Try.prog = true := by kernel_rfl
set_option maxRecDepth 100000 in
theorem lawCalls (x0 : Int) (x1 : Int) (W : World) : Calls Try.prog 5 #[.int .i64 x0, .int .i64 x1] W fun e w' => e = .returned (.bool true) ∧ RowKit.Below W.heap.size W w' :=
  CallS.callsM (w := W) (args := [.int .i64 x0, .int .i64 x1]) Try.func5 (by kernel_rfl) (by decide) (Br.configForms x0 x1) rfl
set_option maxHeartbeats 1000000 in
set_option maxRecDepth 100000 in
theorem lifted (os : Os) (started : os.Started) (H : Type) (enc : TypeId × Value → H) :
    ReturnsInHanded {} Try.checked os 5 .any (Rows.configFormsSpec.pre6 enc Try.prog Try.f5 Rows.configFormsRow.domain false) (Rows.configFormsSpec.post enc Try.prog Try.f5 false true false false) := by
  refine returnsInHanded_of_change_sized (C := Try.checked) own started (by kernel_rfl) Try.func5
    (ChangeSpec.witness6 (enc := enc) (C := Try.checked) false ⟨#[], #[.int .i64 0, .int .i64 0], []⟩ 8 (by kernel_rfl) (by kernel_rfl) (by kernel_rfl) (by kernel_rfl)) ?_
  intro W base args ds gs before hval0 hW hcnd hsz0 _
  have hval : ∀ (j : Nat) t v, Try.f5.params[j]? = some t → args[j]? = some v → Value.okWide Try.prog W .any base t v := hval0
  have hW' := hW
  obtain ⟨p, q, hA0, hV, rfl, hfz, hnd⟩ := hW
  have hA : DataW.TrodAll enc Try.prog W 0 (fun _ => true) true Try.f5.params.toList args.toList ds p := hA0
  rw [Try.params5] at hA hval
  obtain ⟨v0, vs0, d0, ds0, p0, q0, hargs, rfl, rfl, h0, r0⟩ := trodAll_cons hA
  obtain ⟨v1, vs1, d1, ds1, p1, q1, rfl, rfl, rfl, h1, r1⟩ := trodAll_cons r0
  obtain ⟨rfl, rfl, rfl⟩ := trodAll_nil r1
  obtain rfl : args = #[v0, v1] := by cases args; simp_all
  obtain ⟨rfl, rfl⟩ := trodVars_none hV
  have k0 := h0
  have k1 := h1
  have lt : ∀ {t : TypeId} {v : Value} {d : DataW H} {p : List MemPlace}, DataW.Trod enc Try.prog W 0 (fun _ => true) true t v d p → ∀ x ∈ p, x.block < W.heap.size := fun h => by
    obtain ⟨m, hm⟩ := h
    exact DataW.trod_lt m _ _ _ hm
  obtain ⟨x0, rfl, rfl, rfl, _⟩ := open_int Try.underlying3 (hval 0 3 v0 rfl rfl) h0
  obtain ⟨x1, rfl, rfl, rfl, _⟩ := open_int Try.underlying3 (hval 1 3 v1 rfl rfl) h1
  clear hA0 hval0 hsz0
  refine (lawCalls x0 x1 W).mono fun e W' ⟨he, bel⟩ => ?_
  subst he
  exact ⟨_, rfl, _, _, _, [], _, [], hW', trodAll_mk1 (shut_bool Try.underlying4 _), (trodAll_cons_mk (Below.trod laidOut (by kernel_rfl) (of_decide_eq_true (by kernel_rfl)) k0 bel (lt k0)) (trodAll_cons_mk (Below.trod laidOut (by kernel_rfl) (of_decide_eq_true (by kernel_rfl)) k1 bel (lt k1)) trodAll_mk0)), rfl, bel.frame _, fun h => by cases h⟩
theorem over : Rows.configFormsRow.holds Try.pinned (OpenSpec.ofChange Rows.configFormsSpec) :=
  OpenClaim.holds_of_wide 5 Try.f5 rfl rfl rfl rfl rfl rfl rfl ⟨rfl, rfl, rfl, rfl, rfl⟩ rfl rfl rfl rfl rfl (by kernel_rfl) Try.func5 (by kernel_rfl)
    (of_decide_eq_true (by kernel_rfl)) (by unfold Func.isWrapper; first | (rw [if_pos (by decide +kernel)]; kernel_rfl) | (rw [if_neg (by decide +kernel)]; exact ⟨rfl, rfl⟩))
    (fun os started H enc _ => lifted os started H enc)
theorem proved : Rows.ConfigFormsSaid := over
#print axioms proved
end Go.Proofs.Ytndbcpfbddhonaa.ConfigFormsRow
namespace Go.Proofs.Ytndbcpfbddhonaa
/-- The row, under a short name, for the claim. -/
theorem configForms_holds : Rows.ConfigFormsSaid := ConfigFormsRow.proved
end Go.Proofs.Ytndbcpfbddhonaa
