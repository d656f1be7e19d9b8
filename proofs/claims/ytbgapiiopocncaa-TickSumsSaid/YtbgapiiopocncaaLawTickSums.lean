/- The statement TickSums: at any input the law returns true, and the input reads as it did. -/
import Derived.Test.YtbgapiiopocncaaRows
import Derived.Test.YtbgapiiopocncaaTicG
import Derived.Test.YtbgapiiopocncaaAb33
import Derived.WalkKit
import Derived.ProofKit
import Derived.OpenShut
import Derived.ShutString
import Derived.ChangeOld
import Derived.Below
import Derived.Carry
import Derived.SizedLaws
namespace Go.Proofs.Ytbgapiiopocncaa.TickSumsRow
open Go.ChangeShapes Go.WideShapes Go.ChangeAt Go.RowKit Go.Ab
open Go.ChangeMaps (open_string shut_string)
set_option linter.unusedVariables false
theorem own : ownKnob Try.prog.godebug = none := by kernel_rfl
theorem laidOut : laidOutB Try.prog = true := by kernel_rfl
theorem elemFlat : flatT Try.prog 4 22 = some [.int .u64] := by kernel_rfl
theorem elemCells : Try.prog.cellsOf 22 = 1 := by kernel_rfl
theorem elemBytes : Try.prog.bytesOf 22 = 8 := by kernel_rfl
set_option maxRecDepth 100000 in
theorem lawCalls {H : Type} {enc : TypeId × Value → H} {base b2 : Nat} {sp : Nat → Bool} {held : Bool} {v : Value} {dd : DataW H} {pl : List MemPlace}  (W : World) (hok : Value.okWide Try.prog W .any b2 23 v)
    (h : DataW.Trod enc Try.prog W base sp held 23 v dd pl) (hsz : ∀ es sp, dd = .slice es sp → (es.length + sp.length) * Try.prog.bytesOf 22 ≤ reachBytes) : Calls Try.prog 7 #[v] W fun e w' => e = .returned (.bool true) ∧ RowKit.Below W.heap.size W w' := by
  rcases open_rows Try.underlying23 elemFlat elemCells rfl hok h with rfl | ⟨a, len, cap, vals, es, sp, rfl, hsp, hcap, hlen, hvals, rfl, hes, hlies⟩
  · exact CallS.callsM (w := W) (args := [.slice none 0 0]) Try.func7 (by kernel_rfl) (by decide) (Tic.tickSumsNil ) rfl
  · obtain ⟨xs, rfl, hxs⟩ := rows_of (fun row hr => Tic.w_open hr) vals hvals
    have hl : len = xs.length := by rw [← hlen, List.length_map]
    have hb : len * 8 ≤ 140737488351232 := by
      have := hsz es sp rfl
      rw [elemBytes, hes] at this
      have h2 : reachBytes = 140737488351232 := by decide
      rw [h2] at this
      omega
    have hm : (xs.map Tic.wvals).map (·.map avOf) = xs.map Tic.wv := by rw [List.map_map]; exact List.map_congr_left fun x _ => rfl
    have hc := Tic.tickSums xs (xs.map Tic.wv) len cap hl (map_flat xs fun x => rfl) (At.map Tic.wv xs) hxs hb 
    rw [← hm] at hc
    refine CallS.calls1 (w := W) (args := [.slice (some a) len cap]) Try.func7 (by kernel_rfl) (by decide) hc hlies ?_
    have e : cn (muL [⟨a.block, a.off, 0⟩]) (.sym (.slice 0 1 0 len cap false none)) = some (.slice (some a) len cap) := slice_cn rfl hsp
    simp only [cnL, e] <;> rfl
set_option maxHeartbeats 1000000 in
set_option maxRecDepth 100000 in
theorem lifted (os : Os) (started : os.Started) (H : Type) (enc : TypeId × Value → H) :
    ReturnsInHanded {} Try.checked os 7 .any (Rows.tickSumsSpec.pre6 enc Try.prog Try.f7 Rows.tickSumsRow.domain false) (Rows.tickSumsSpec.post enc Try.prog Try.f7 false true false false) := by
  refine returnsInHanded_of_change_sized (C := Try.checked) own started (by kernel_rfl) Try.func7
    (ChangeSpec.witness6 (enc := enc) (C := Try.checked) false ⟨#[], #[.slice none 0 0], []⟩ 8 (by kernel_rfl) (by kernel_rfl) (by kernel_rfl) (by kernel_rfl)) ?_
  intro W base args ds gs before hval0 hW hcnd hsz0 _
  have hval : ∀ (j : Nat) t v, Try.f7.params[j]? = some t → args[j]? = some v → Value.okWide Try.prog W .any base t v := hval0
  have hW' := hW
  obtain ⟨p, q, hA0, hV, rfl, hfz, hnd⟩ := hW
  have hA : DataW.TrodAll enc Try.prog W 0 (fun _ => true) true Try.f7.params.toList args.toList ds p := hA0
  rw [Try.params7] at hA hval
  have hz : ∀ (j : Nat) es sp, (Try.f7.params.toList ++ Rows.tickSumsSpec.plain.varTypes Try.prog)[j]? = some 23 → (ds ++ gs)[j]? = some (.slice es sp) → (es.length + sp.length) * Try.prog.bytesOf 22 ≤ reachBytes := fun j es sp h1 h2 => sized_slice hsz0 h1 h2 Try.underlying23
  rw [Try.params7] at hz
  obtain ⟨v0, vs0, d0, ds0, p0, q0, hargs, rfl, rfl, h0, r0⟩ := trodAll_cons hA
  obtain ⟨rfl, rfl, rfl⟩ := trodAll_nil r0
  obtain rfl : args = #[v0] := by cases args; simp_all
  obtain ⟨rfl, rfl⟩ := trodVars_none hV
  have k0 := h0
  have lt : ∀ {t : TypeId} {v : Value} {d : DataW H} {p : List MemPlace}, DataW.Trod enc Try.prog W 0 (fun _ => true) true t v d p → ∀ x ∈ p, x.block < W.heap.size := fun h => by
    obtain ⟨m, hm⟩ := h
    exact DataW.trod_lt m _ _ _ hm
  have hs : ∀ es sp, d0 = .slice es sp → (es.length + sp.length) * Try.prog.bytesOf 22 ≤ reachBytes := fun es sp e => hz 0 es sp rfl (by rw [e]; rfl)
  have ok0 := hval 0 23 v0 rfl rfl
  clear hA0 hval0 hsz0 hz
  refine (lawCalls  W ok0 h0 hs).mono fun e W' ⟨he, bel⟩ => ?_
  subst he
  exact ⟨_, rfl, _, _, _, [], _, [], hW', trodAll_mk1 (shut_bool Try.underlying4 _), (trodAll_cons_mk (Below.trod laidOut (by kernel_rfl) (of_decide_eq_true (by kernel_rfl)) k0 bel (lt k0)) trodAll_mk0), rfl, bel.frame _, fun h => by cases h⟩
theorem over : Rows.tickSumsRow.holds Try.pinned (OpenSpec.ofChange Rows.tickSumsSpec) :=
  OpenClaim.holds_of_wide 7 Try.f7 rfl rfl rfl rfl rfl rfl rfl ⟨rfl, rfl, rfl, rfl, rfl⟩ rfl rfl rfl rfl rfl (by kernel_rfl) Try.func7 (by kernel_rfl)
    (of_decide_eq_true (by kernel_rfl)) (by unfold Func.isWrapper; first | (rw [if_pos (by decide +kernel)]; kernel_rfl) | (rw [if_neg (by decide +kernel)]; exact ⟨rfl, rfl⟩))
    (fun os started H enc _ => lifted os started H enc)
theorem proved : Rows.TickSumsSaid := over
#print axioms proved
end Go.Proofs.Ytbgapiiopocncaa.TickSumsRow
namespace Go.Proofs.Ytbgapiiopocncaa
/-- The row, under a short name, for the claim. -/
theorem tickSums_holds : Rows.TickSumsSaid := TickSumsRow.proved
end Go.Proofs.Ytbgapiiopocncaa
