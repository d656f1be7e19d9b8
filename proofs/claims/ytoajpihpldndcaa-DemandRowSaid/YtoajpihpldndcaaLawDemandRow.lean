/- The statement DemandRow: at any input the law returns true, and the input reads as it did. -/
import Derived.Test.YtoajpihpldndcaaRows
import Derived.Test.YtoajpihpldndcaaDemH
import Derived.Test.YtoajpihpldndcaaAb46
import Derived.WalkKit
import Derived.ProofKit
import Derived.OpenShut
import Derived.ShutString
import Derived.ChangeOld
import Derived.Below
import Derived.Carry
import Derived.SizedLaws
namespace Go.Proofs.Ytoajpihpldndcaa.DemandRowRow
open Go.ChangeShapes Go.WideShapes Go.ChangeAt Go.RowKit Go.Ab
open Go.ChangeMaps (open_string shut_string)
set_option linter.unusedVariables false
theorem own : ownKnob Try.prog.godebug = none := by kernel_rfl
theorem laidOut : laidOutB Try.prog = true := by kernel_rfl
theorem elemFlat0 : flatT Try.prog 4 34 = some [.int .i64, .int .i64, .int .i64, .int .i64, .int .i64, .int .i64] := by kernel_rfl
theorem elemBytes0 : Try.prog.bytesOf 34 = 48 := by kernel_rfl
set_option maxRecDepth 100000 in
theorem lawCalls {H : Type} {enc : TypeId × Value → H} {base b2 : Nat} {sp : Nat → Bool} {held : Bool} {v0 : Value} {d0 : DataW H} {q0 : List MemPlace} (x1 : Int) (x2 : Int) (W : World) (hok0 : Value.okWide Try.prog W .any b2 22 v0) (h0 : DataW.Trod enc Try.prog W base sp held 22 v0 d0 q0) (hsz0 : ∀ es sp, d0 = .slice es sp → (es.length + sp.length) * Try.prog.bytesOf 34 ≤ reachBytes) : Calls Try.prog 7 #[v0, .int .i64 x1, .int .i64 x2] W fun e w' => e = .returned (.bool true) ∧ RowKit.Below W.heap.size W w' := by
  rcases open_rows Try.underlying22 elemFlat0 (z := 6) (by kernel_rfl) rfl hok0 h0 with rfl | ⟨a0, len0, cap0, vals0, es0, sp0, rfl, hsp0, hcap0, hlen0, hvals0, rfl, hes0, hlies0⟩
  ·
    have hc := Dem.demandRow_n  x1 x2
    refine CallS.callsL (w := W) (args := [.slice none 0 0, .int .i64 x1, .int .i64 x2]) Try.func7 (by kernel_rfl) (by decide) [] hc ?_ ?_
    · intro x hx
      cases hx
    · change cnL (muL []) _ = _
      simp only [cnL] <;> rfl
  ·
    obtain ⟨xs0, rfl, hxs0⟩ := rows_of (fun row hr => Dem.task_open hr) vals0 hvals0
    have hl0 : len0 = xs0.length := by rw [← hlen0, List.length_map]
    have hb0 : len0 * 48 ≤ 140737488351232 := by
      have h1 := hsz0 es0 sp0 rfl
      rw [elemBytes0, hes0] at h1
      have h2 : reachBytes = 140737488351232 := by decide
      rw [h2] at h1
      omega
    have hm0 : (xs0.map Dem.tvals).map (·.map avOf) = xs0.map Dem.tv := by rw [List.map_map]; exact List.map_congr_left fun x _ => rfl
    have hc := Dem.demandRow_s xs0 (xs0.map Dem.tv) len0 cap0 hl0 (map_flat xs0 fun x => rfl) (At.map Dem.tv xs0) hxs0 hb0 rfl x1 x2
    rw [← hm0] at hc
    refine CallS.callsL (w := W) (args := [.slice (some a0) len0 cap0, .int .i64 x1, .int .i64 x2]) Try.func7 (by kernel_rfl) (by decide) [(⟨a0.block, a0.off, 0⟩, 6, xs0.map Dem.tvals)] hc ?_ ?_
    · intro x hx
      simp only [List.mem_cons, List.not_mem_nil, or_false] at hx
      rcases hx with rfl
      · exact hlies0
    · change cnL (muL [⟨a0.block, a0.off, 0⟩]) _ = _
      have e0 : cn (muL [⟨a0.block, a0.off, 0⟩]) (.sym (.slice 0 6 0 len0 cap0 false none)) = some (.slice (some a0) len0 cap0) := slice_cn rfl hsp0
      simp only [cnL, e0] <;> rfl
set_option maxHeartbeats 1000000 in
set_option maxRecDepth 100000 in
theorem lifted (os : Os) (started : os.Started) (H : Type) (enc : TypeId × Value → H) :
    ReturnsInHanded {} Try.checked os 7 .any (Rows.demandRowSpec.pre6 enc Try.prog Try.f7 Rows.demandRowRow.domain false) (Rows.demandRowSpec.post enc Try.prog Try.f7 false true false false) := by
  refine returnsInHanded_of_change_sized (C := Try.checked) own started (by kernel_rfl) Try.func7
    (ChangeSpec.witness6 (enc := enc) (C := Try.checked) false ⟨#[], #[.slice none 0 0, .int .i64 0, .int .i64 0], []⟩ 8 (by kernel_rfl) (by kernel_rfl) (by kernel_rfl) (by kernel_rfl)) ?_
  intro W base args ds gs before hval0 hW hcnd hsz0 _
  have hval : ∀ (j : Nat) t v, Try.f7.params[j]? = some t → args[j]? = some v → Value.okWide Try.prog W .any base t v := hval0
  have hW' := hW
  obtain ⟨p, q, hA0, hV, rfl, hfz, hnd⟩ := hW
  have hA : DataW.TrodAll enc Try.prog W 0 (fun _ => true) true Try.f7.params.toList args.toList ds p := hA0
  rw [Try.params7] at hA hval
  have hz0 : ∀ (j : Nat) es sp, (Try.f7.params.toList ++ Rows.demandRowSpec.plain.varTypes Try.prog)[j]? = some 22 → (ds ++ gs)[j]? = some (.slice es sp) → (es.length + sp.length) * Try.prog.bytesOf 34 ≤ reachBytes := fun j es sp h1 h2 => sized_slice hsz0 h1 h2 Try.underlying22
  rw [Try.params7] at hz0
  obtain ⟨v0, vs0, d0, ds0, p0, q0, hargs, rfl, rfl, h0, r0⟩ := trodAll_cons hA
  obtain ⟨v1, vs1, d1, ds1, p1, q1, rfl, rfl, rfl, h1, r1⟩ := trodAll_cons r0
  obtain ⟨v2, vs2, d2, ds2, p2, q2, rfl, rfl, rfl, h2, r2⟩ := trodAll_cons r1
  obtain ⟨rfl, rfl, rfl⟩ := trodAll_nil r2
  obtain rfl : args = #[v0, v1, v2] := by cases args; simp_all
  obtain ⟨rfl, rfl⟩ := trodVars_none hV
  have k0 := h0
  have k1 := h1
  have k2 := h2
  have lt : ∀ {t : TypeId} {v : Value} {d : DataW H} {p : List MemPlace}, DataW.Trod enc Try.prog W 0 (fun _ => true) true t v d p → ∀ x ∈ p, x.block < W.heap.size := fun h => by
    obtain ⟨m, hm⟩ := h
    exact DataW.trod_lt m _ _ _ hm
  have hs0 : ∀ es sp, d0 = .slice es sp → (es.length + sp.length) * Try.prog.bytesOf 34 ≤ reachBytes := fun es sp e => hz0 0 es sp rfl (by rw [e]; rfl)
  have ok0 := hval 0 22 v0 rfl rfl
  obtain ⟨x1, rfl, rfl, rfl, _⟩ := open_int Try.underlying3 (hval 1 3 v1 rfl rfl) h1
  obtain ⟨x2, rfl, rfl, rfl, _⟩ := open_int Try.underlying3 (hval 2 3 v2 rfl rfl) h2
  clear hA0 hval0 hsz0 hz0
  refine (lawCalls x1 x2 W ok0 h0 hs0).mono fun e W' ⟨he, bel⟩ => ?_
  subst he
  exact ⟨_, rfl, _, _, _, [], _, [], hW', trodAll_mk1 (shut_bool Try.underlying4 _), (trodAll_cons_mk (Below.trod laidOut (by kernel_rfl) (of_decide_eq_true (by kernel_rfl)) k0 bel (lt k0)) (trodAll_cons_mk (Below.trod laidOut (by kernel_rfl) (of_decide_eq_true (by kernel_rfl)) k1 bel (lt k1)) (trodAll_cons_mk (Below.trod laidOut (by kernel_rfl) (of_decide_eq_true (by kernel_rfl)) k2 bel (lt k2)) trodAll_mk0))), rfl, bel.frame _, fun h => by cases h⟩
theorem over : Rows.demandRowRow.holds Try.pinned (OpenSpec.ofChange Rows.demandRowSpec) :=
  OpenClaim.holds_of_wide 7 Try.f7 rfl rfl rfl rfl rfl rfl rfl ⟨rfl, rfl, rfl, rfl, rfl⟩ rfl rfl rfl rfl rfl (by kernel_rfl) Try.func7 (by kernel_rfl)
    (of_decide_eq_true (by kernel_rfl)) (by unfold Func.isWrapper; first | (rw [if_pos (by decide +kernel)]; kernel_rfl) | (rw [if_neg (by decide +kernel)]; exact ⟨rfl, rfl⟩))
    (fun os started H enc _ => lifted os started H enc)
theorem proved : Rows.DemandRowSaid := over
#print axioms proved
end Go.Proofs.Ytoajpihpldndcaa.DemandRowRow
namespace Go.Proofs.Ytoajpihpldndcaa
/-- The row, under a short name, for the claim. -/
theorem demandRow_holds : Rows.DemandRowSaid := DemandRowRow.proved
end Go.Proofs.Ytoajpihpldndcaa
