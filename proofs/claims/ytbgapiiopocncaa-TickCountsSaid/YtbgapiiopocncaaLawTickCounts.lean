/- The statement TickCounts: at any input the law returns true, and the input reads as it did. -/
import Derived.Test.YtbgapiiopocncaaRows
import Derived.Test.YtbgapiiopocncaaTicK
import Derived.Test.YtbgapiiopocncaaAb33
import Derived.WalkKit
import Derived.ProofKit
import Derived.OpenShut
import Derived.ShutString
import Derived.ChangeOld
import Derived.Below
import Derived.Carry
import Derived.SizedLaws
namespace Go.Proofs.Ytbgapiiopocncaa.TickCountsRow
open Go.ChangeShapes Go.WideShapes Go.ChangeAt Go.RowKit Go.Ab
open Go.ChangeMaps (open_string shut_string)
set_option linter.unusedVariables false
theorem own : ownKnob Try.prog.godebug = none := by kernel_rfl
theorem laidOut : laidOutB Try.prog = true := by kernel_rfl
theorem elemFlat : flatT Try.prog 4 3 = some [.int .i64] := by kernel_rfl
theorem elemCells : Try.prog.cellsOf 3 = 1 := by kernel_rfl
theorem elemBytes : Try.prog.bytesOf 3 = 8 := by kernel_rfl
set_option maxRecDepth 100000 in
theorem lawCalls {H : Type} {enc : TypeId × Value → H} {base b2 : Nat} {sp : Nat → Bool} {held : Bool} {v : Value} {dd : DataW H} {pl : List MemPlace} (x0 : Int) (hx0 : -9223372036854775808 ≤ x0 ∧ x0 ≤ 9223372036854775807) (W : World) (hok : Value.okWide Try.prog W .any b2 36 v)
    (h : DataW.Trod enc Try.prog W base sp held 36 v dd pl) (hsz : ∀ es sp, dd = .slice es sp → (es.length + sp.length) * Try.prog.bytesOf 3 ≤ reachBytes) : Calls Try.prog 5 #[.int .i64 x0, v] W fun e w' => e = .returned (.bool true) ∧ RowKit.Below W.heap.size W w' := by
  rcases open_rows Try.underlying36 elemFlat elemCells rfl hok h with rfl | ⟨a, len, cap, vals, es, sp, rfl, hsp, hcap, hlen, hvals, rfl, hes, hlies⟩
  · exact CallS.callsM (w := W) (args := [.int .i64 x0, .slice none 0 0]) Try.func5 (by kernel_rfl) (by decide) (Tic.tickCountsLNil x0 hx0) rfl
  · obtain ⟨xs, rfl, hxs⟩ := rows_of (fun row hr => int_open hr) vals hvals
    have hl : len = xs.length := by rw [← hlen, List.length_map]
    have hb : len * 8 ≤ 140737488351232 := by
      have := hsz es sp rfl
      rw [elemBytes, hes] at this
      have h2 : reachBytes = 140737488351232 := by decide
      rw [h2] at this
      omega
    have hm : (xs.map ivals).map (·.map avOf) = xs.map iv := by rw [List.map_map]; exact List.map_congr_left fun x _ => rfl
    have hc := Tic.tickCountsL xs (xs.map iv) len cap hl (map_flat xs fun x => rfl) (At.map iv xs) hxs hb x0 hx0
    rw [← hm] at hc
    refine CallS.calls1 (w := W) (args := [.int .i64 x0, .slice (some a) len cap]) Try.func5 (by kernel_rfl) (by decide) hc hlies ?_
    have e : cn (muL [⟨a.block, a.off, 0⟩]) (.sym (.slice 0 1 0 len cap false none)) = some (.slice (some a) len cap) := slice_cn rfl hsp
    simp only [cnL, e] <;> rfl
set_option maxHeartbeats 1000000 in
set_option maxRecDepth 100000 in
theorem lifted (os : Os) (started : os.Started) (H : Type) (enc : TypeId × Value → H) :
    ReturnsInHanded {} Try.checked os 5 .any (Rows.tickCountsSpec.pre6 enc Try.prog Try.f5 Rows.tickCountsRow.domain false) (Rows.tickCountsSpec.post enc Try.prog Try.f5 false true false false) := by
  refine returnsInHanded_of_change_sized (C := Try.checked) own started (by kernel_rfl) Try.func5
    (ChangeSpec.witness6 (enc := enc) (C := Try.checked) false ⟨#[], #[.int .i64 0, .slice none 0 0], []⟩ 8 (by kernel_rfl) (by kernel_rfl) (by kernel_rfl) (by kernel_rfl)) ?_
  intro W base args ds gs before hval0 hW hcnd hsz0 _
  have hval : ∀ (j : Nat) t v, Try.f5.params[j]? = some t → args[j]? = some v → Value.okWide Try.prog W .any base t v := hval0
  have hW' := hW
  obtain ⟨p, q, hA0, hV, rfl, hfz, hnd⟩ := hW
  have hA : DataW.TrodAll enc Try.prog W 0 (fun _ => true) true Try.f5.params.toList args.toList ds p := hA0
  rw [Try.params5] at hA hval
  have hz : ∀ (j : Nat) es sp, (Try.f5.params.toList ++ Rows.tickCountsSpec.plain.varTypes Try.prog)[j]? = some 36 → (ds ++ gs)[j]? = some (.slice es sp) → (es.length + sp.length) * Try.prog.bytesOf 3 ≤ reachBytes := fun j es sp h1 h2 => sized_slice hsz0 h1 h2 Try.underlying36
  rw [Try.params5] at hz
  obtain ⟨v0, vs0, d0, ds0, p0, q0, hargs, rfl, rfl, h0, r0⟩ := trodAll_cons hA
  obtain ⟨v1, vs1, d1, ds1, p1, q1, rfl, rfl, rfl, h1, r1⟩ := trodAll_cons r0
  obtain ⟨rfl, rfl, rfl⟩ := trodAll_nil r1
  obtain rfl : args = #[v0, v1] := by cases args; simp_all
  obtain ⟨rfl, rfl⟩ := trodVars_none hV
  have k0 := h0
  have k1 := h1
  have lt : ∀ {t : TypeId} {v : Value} {d : DataW H} {p : List MemPlace}, DataW.Trod enc Try.prog W 0 (fun _ => true) true t v d p → ∀ x ∈ p, x.block < W.heap.size := fun h => by
    obtain ⟨m, hm⟩ := h
    exact DataW.trod_lt m _ _ _ hm
  have hs : ∀ es sp, d1 = .slice es sp → (es.length + sp.length) * Try.prog.bytesOf 3 ≤ reachBytes := fun es sp e => hz 1 es sp rfl (by rw [e]; rfl)
  have ok1 := hval 1 36 v1 rfl rfl
  obtain ⟨x0, rfl, rfl, rfl, hw0⟩ := open_int Try.underlying3 (hval 0 3 v0 rfl rfl) h0
  have hx0 : -9223372036854775808 ≤ x0 ∧ x0 ≤ 9223372036854775807 := wf_i64 hw0
  clear hA0 hval0 hsz0 hz
  refine (lawCalls x0 hx0 W ok1 h1 hs).mono fun e W' ⟨he, bel⟩ => ?_
  subst he
  exact ⟨_, rfl, _, _, _, [], _, [], hW', trodAll_mk1 (shut_bool Try.underlying4 _), (trodAll_cons_mk (Below.trod laidOut (by kernel_rfl) (of_decide_eq_true (by kernel_rfl)) k0 bel (lt k0)) (trodAll_cons_mk (Below.trod laidOut (by kernel_rfl) (of_decide_eq_true (by kernel_rfl)) k1 bel (lt k1)) trodAll_mk0)), rfl, bel.frame _, fun h => by cases h⟩
theorem over : Rows.tickCountsRow.holds Try.pinned (OpenSpec.ofChange Rows.tickCountsSpec) :=
  OpenClaim.holds_of_wide 5 Try.f5 rfl rfl rfl rfl rfl rfl rfl ⟨rfl, rfl, rfl, rfl, rfl⟩ rfl rfl rfl rfl rfl (by kernel_rfl) Try.func5 (by kernel_rfl)
    (of_decide_eq_true (by kernel_rfl)) (by unfold Func.isWrapper; first | (rw [if_pos (by decide +kernel)]; kernel_rfl) | (rw [if_neg (by decide +kernel)]; exact ⟨rfl, rfl⟩))
    (fun os started H enc _ => lifted os started H enc)
theorem proved : Rows.TickCountsSaid := over
#print axioms proved
end Go.Proofs.Ytbgapiiopocncaa.TickCountsRow
namespace Go.Proofs.Ytbgapiiopocncaa
/-- The row, under a short name, for the claim. -/
theorem tickCounts_holds : Rows.TickCountsSaid := TickCountsRow.proved
end Go.Proofs.Ytbgapiiopocncaa
