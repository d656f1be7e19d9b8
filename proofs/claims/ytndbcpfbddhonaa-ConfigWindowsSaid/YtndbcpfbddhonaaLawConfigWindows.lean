/- The statement ConfigWindows: at any input the law returns true, and the input reads as it did. -/
import Derived.Test.YtndbcpfbddhonaaRows
import Derived.Test.YtndbcpfbddhonaaCwA
import Derived.Test.YtndbcpfbddhonaaCwB
import Derived.Test.YtndbcpfbddhonaaCwC
import Derived.Test.YtndbcpfbddhonaaCwD
import Derived.Test.YtndbcpfbddhonaaCwE
import Derived.Test.YtndbcpfbddhonaaAb33
import Derived.WalkKit
import Derived.ProofKit
import Derived.OpenShut
import Derived.ShutString
import Derived.ChangeOld
import Derived.Below
import Derived.Carry
import Derived.SizedLaws
namespace Go.Proofs.Ytndbcpfbddhonaa.Br
open Go.Ab Base
set_option maxRecDepth 200000 in
theorem configWindows (which x : Int) : CallS Try.prog 7 [.sym (.int .i64 which), .sym (.int .i64 x)] (memB [] []) 0 fun v _ _ => v = .bool true := by
  have h : which % 18446744073709551616 % 12 = 0 ∨ which % 18446744073709551616 % 12 = 1 ∨ which % 18446744073709551616 % 12 = 2 ∨ which % 18446744073709551616 % 12 = 3 ∨ which % 18446744073709551616 % 12 = 4 ∨ which % 18446744073709551616 % 12 = 5 ∨ which % 18446744073709551616 % 12 = 6 ∨ which % 18446744073709551616 % 12 = 7 ∨ which % 18446744073709551616 % 12 = 8 ∨ which % 18446744073709551616 % 12 = 9 ∨ which % 18446744073709551616 % 12 = 10 ∨ which % 18446744073709551616 % 12 = 11 := by omega
  rcases h with h | h | h | h | h | h | h | h | h | h | h | h
  · exact cw0 which x h
  · exact cw1 which x h
  · exact cw2 which x h
  · exact cw3 which x h
  · exact cw4 which x h
  · exact cw5 which x h
  · exact cw6 which x h
  · exact cw7 which x h
  · exact cw8 which x h
  · exact cw9 which x h
  · exact cw10 which x h
  · exact cw11 which x h
end Go.Proofs.Ytndbcpfbddhonaa.Br
namespace Go.Proofs.Ytndbcpfbddhonaa.ConfigWindowsRow
open Go.ChangeShapes Go.WideShapes Go.ChangeAt Go.RowKit Go.Ab
open Go.ChangeMaps (open_string shut_string)
set_option linter.unusedVariables false
theorem own : ownKnob Try.prog.godebug = none := by kernel_rfl
theorem laidOut : laidOutB Try.prog = true := by kernel_rfl
set_option maxRecDepth 100000 in
theorem lawCalls (x0 : Int) (x1 : Int) (W : World) : Calls Try.prog 7 #[.int .i64 x0, .int .i64 x1] W fun e w' => e = .returned (.bool true) ∧ RowKit.Below W.heap.size W w' :=
  CallS.callsM (w := W) (args := [.int .i64 x0, .int .i64 x1]) Try.func7 (by kernel_rfl) (by decide) (Br.configWindows x0 x1) rfl
set_option maxHeartbeats 1000000 in
set_option maxRecDepth 100000 in
theorem lifted (os : Os) (started : os.Started) (H : Type) (enc : TypeId × Value → H) :
    ReturnsInHanded {} Try.checked os 7 .any (Rows.configWindowsSpec.pre6 enc Try.prog Try.f7 Rows.configWindowsRow.domain false) (Rows.configWindowsSpec.post enc Try.prog Try.f7 false true false false) := by
  refine returnsInHanded_of_change_sized (C := Try.checked) own started (by kernel_rfl) Try.func7
    (ChangeSpec.witness6 (enc := enc) (C := Try.checked) false ⟨#[], #[.int .i64 0, .int .i64 0], []⟩ 8 (by kernel_rfl) (by kernel_rfl) (by kernel_rfl) (by kernel_rfl)) ?_
  intro W base args ds gs before hval0 hW hcnd hsz0 _
  have hval : ∀ (j : Nat) t v, Try.f7.params[j]? = some t → args[j]? = some v → Value.okWide Try.prog W .any base t v := hval0
  have hW' := hW
  obtain ⟨p, q, hA0, hV, rfl, hfz, hnd⟩ := hW
  have hA : DataW.TrodAll enc Try.prog W 0 (fun _ => true) true Try.f7.params.toList args.toList ds p := hA0
  rw [Try.params7] at hA hval
  obtain ⟨v0, vs0, d0, ds0, p0, q0, hargs, rfl, rfl, h0, r0⟩ := trodAll_cons hA
  obtain ⟨v1, vs1, d1, ds1, p1, q1, rfl, rfl, rfl, h1, r1⟩ := trodAll_cons r0
  obtain ⟨rfl, rfl, rfl⟩ := trodAll_nil r1
  obtain rfl : args = #[v0, v1] := by cases args; simp_all
  obtain ⟨rfl, rfl⟩ := trodVars_none hV
  have k0 := h0
  have k1 := h1
  have lt : ∀ {t : TypeId} {v : Value} {d : DataW H} {p : List MemPlace}, DataW.Trod enc Try.prog W 0 (fun _ => true) true t v d p → ∀ x ∈ p, x.block < W.heap.size := fun h => by
    obtain ⟨m, hm⟩ := h
    exact DataW.trod_lt m _ _ _ hm
  obtain ⟨x0, rfl, rfl, rfl, _⟩ := open_int Try.underlying3 (hval 0 3 v0 rfl rfl) h0
  obtain ⟨x1, rfl, rfl, rfl, _⟩ := open_int Try.underlying3 (hval 1 3 v1 rfl rfl) h1
  clear hA0 hval0 hsz0
  refine (lawCalls x0 x1 W).mono fun e W' ⟨he, bel⟩ => ?_
  subst he
  exact ⟨_, rfl, _, _, _, [], _, [], hW', trodAll_mk1 (shut_bool Try.underlying4 _), (trodAll_cons_mk (Below.trod laidOut (by kernel_rfl) (of_decide_eq_true (by kernel_rfl)) k0 bel (lt k0)) (trodAll_cons_mk (Below.trod laidOut (by kernel_rfl) (of_decide_eq_true (by kernel_rfl)) k1 bel (lt k1)) trodAll_mk0)), rfl, bel.frame _, fun h => by cases h⟩
theorem over : Rows.configWindowsRow.holds Try.pinned (OpenSpec.ofChange Rows.configWindowsSpec) :=
  OpenClaim.holds_of_wide 7 Try.f7 rfl rfl rfl rfl rfl rfl rfl ⟨rfl, rfl, rfl, rfl, rfl⟩ rfl rfl rfl rfl rfl (by kernel_rfl) Try.func7 (by kernel_rfl)
    (of_decide_eq_true (by kernel_rfl)) (by unfold Func.isWrapper; first | (rw [if_pos (by decide +kernel)]; kernel_rfl) | (rw [if_neg (by decide +kernel)]; exact ⟨rfl, rfl⟩))
    (fun os started H enc _ => lifted os started H enc)
theorem proved : Rows.ConfigWindowsSaid := over
#print axioms proved
end Go.Proofs.Ytndbcpfbddhonaa.ConfigWindowsRow
namespace Go.Proofs.Ytndbcpfbddhonaa
/-- The row, under a short name, for the claim. -/
theorem configWindows_holds : Rows.ConfigWindowsSaid := ConfigWindowsRow.proved
end Go.Proofs.Ytndbcpfbddhonaa
