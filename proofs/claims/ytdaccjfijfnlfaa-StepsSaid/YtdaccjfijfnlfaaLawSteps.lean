/- The statement Steps: at any input the law returns true, and the input reads as it did. -/
import Derived.Test.YtdaccjfijfnlfaaRows
import Derived.Test.YtdaccjfijfnlfaaSteps
import Derived.Test.YtdaccjfijfnlfaaAb46
import Derived.WalkKit
import Derived.ProofKit
import Derived.OpenShut
import Derived.ShutString
import Derived.ChangeOld
import Derived.Below
import Derived.Carry
import Derived.SizedLaws
namespace Go.Proofs.Ytdaccjfijfnlfaa.StepsRow
open Go.ChangeShapes Go.WideShapes Go.ChangeAt Go.RowKit Go.Ab
open Go.ChangeMaps (open_string shut_string)
set_option linter.unusedVariables false
theorem own : ownKnob Try.prog.godebug = none := by kernel_rfl
theorem laidOut : laidOutB Try.prog = true := by kernel_rfl
theorem flat25 : flatT Try.prog 4 25 = some [.int .i64, .int .i64, .int .i64, .int .i64, .int .i64, .int .i64, .int .i64, .int .i64, .int .i64, .int .i64, .int .i64, .int .i64, .int .i64, .int .i64, .int .i64, .int .i64, .int .i64, .int .i64] := by kernel_rfl
theorem open25 {c : Array Value} (h : allOk [.int .i64, .int .i64, .int .i64, .int .i64, .int .i64, .int .i64, .int .i64, .int .i64, .int .i64, .int .i64, .int .i64, .int .i64, .int .i64, .int .i64, .int .i64, .int .i64, .int .i64, .int .i64] c.toList) : ∃ y0 y1 y2 y3 y4 y5 y6 y7 y8 y9 y10 y11 y12 y13 y14 y15 y16 y17, c = #[.int .i64 y0, .int .i64 y1, .int .i64 y2, .int .i64 y3, .int .i64 y4, .int .i64 y5, .int .i64 y6, .int .i64 y7, .int .i64 y8, .int .i64 y9, .int .i64 y10, .int .i64 y11, .int .i64 y12, .int .i64 y13, .int .i64 y14, .int .i64 y15, .int .i64 y16, .int .i64 y17] := by
  obtain ⟨cl⟩ := c
  change allOk _ cl at h
  rcases cl with _ | ⟨a0, cl⟩
  · exact h.elim
  rcases cl with _ | ⟨a1, cl⟩
  · exact h.2.elim
  rcases cl with _ | ⟨a2, cl⟩
  · exact h.2.2.elim
  rcases cl with _ | ⟨a3, cl⟩
  · exact h.2.2.2.elim
  rcases cl with _ | ⟨a4, cl⟩
  · exact h.2.2.2.2.elim
  rcases cl with _ | ⟨a5, cl⟩
  · exact h.2.2.2.2.2.elim
  rcases cl with _ | ⟨a6, cl⟩
  · exact h.2.2.2.2.2.2.elim
  rcases cl with _ | ⟨a7, cl⟩
  · exact h.2.2.2.2.2.2.2.elim
  rcases cl with _ | ⟨a8, cl⟩
  · exact h.2.2.2.2.2.2.2.2.elim
  rcases cl with _ | ⟨a9, cl⟩
  · exact h.2.2.2.2.2.2.2.2.2.elim
  rcases cl with _ | ⟨a10, cl⟩
  · exact h.2.2.2.2.2.2.2.2.2.2.elim
  rcases cl with _ | ⟨a11, cl⟩
  · exact h.2.2.2.2.2.2.2.2.2.2.2.elim
  rcases cl with _ | ⟨a12, cl⟩
  · exact h.2.2.2.2.2.2.2.2.2.2.2.2.elim
  rcases cl with _ | ⟨a13, cl⟩
  · exact h.2.2.2.2.2.2.2.2.2.2.2.2.2.elim
  rcases cl with _ | ⟨a14, cl⟩
  · exact h.2.2.2.2.2.2.2.2.2.2.2.2.2.2.elim
  rcases cl with _ | ⟨a15, cl⟩
  · exact h.2.2.2.2.2.2.2.2.2.2.2.2.2.2.2.elim
  rcases cl with _ | ⟨a16, cl⟩
  · exact h.2.2.2.2.2.2.2.2.2.2.2.2.2.2.2.2.elim
  rcases cl with _ | ⟨a17, cl⟩
  · exact h.2.2.2.2.2.2.2.2.2.2.2.2.2.2.2.2.2.elim
  rcases cl with _ | ⟨a18, cl⟩
  · obtain ⟨⟨y0, rfl, _⟩, ⟨y1, rfl, _⟩, ⟨y2, rfl, _⟩, ⟨y3, rfl, _⟩, ⟨y4, rfl, _⟩, ⟨y5, rfl, _⟩, ⟨y6, rfl, _⟩, ⟨y7, rfl, _⟩, ⟨y8, rfl, _⟩, ⟨y9, rfl, _⟩, ⟨y10, rfl, _⟩, ⟨y11, rfl, _⟩, ⟨y12, rfl, _⟩, ⟨y13, rfl, _⟩, ⟨y14, rfl, _⟩, ⟨y15, rfl, _⟩, ⟨y16, rfl, _⟩, ⟨y17, rfl, _⟩, _⟩ := h
    exact ⟨y0, y1, y2, y3, y4, y5, y6, y7, y8, y9, y10, y11, y12, y13, y14, y15, y16, y17, rfl⟩
  · exact h.2.2.2.2.2.2.2.2.2.2.2.2.2.2.2.2.2.2.elim
theorem elemFlat0 : flatT Try.prog 4 43 = some [.int .i64, .int .i64] := by kernel_rfl
theorem elemBytes0 : Try.prog.bytesOf 43 = 16 := by kernel_rfl
theorem elemFlat4 : flatT Try.prog 4 3 = some [.int .i64] := by kernel_rfl
theorem elemBytes4 : Try.prog.bytesOf 3 = 8 := by kernel_rfl
set_option maxRecDepth 100000 in
theorem lawCalls {H : Type} {enc : TypeId × Value → H} {base b2 : Nat} {sp : Nat → Bool} {held : Bool} {v0 : Value} {d0 : DataW H} {q0 : List MemPlace} {v4 : Value} {d4 : DataW H} {q4 : List MemPlace} (x1_0 : Int) (x1_1 : Int) (x1_2 : Int) (x1_3 : Int) (x1_4 : Int) (x1_5 : Int) (x1_6 : Int) (x1_7 : Int) (x1_8 : Int) (x1_9 : Int) (x1_10 : Int) (x1_11 : Int) (x1_12 : Int) (x1_13 : Int) (x1_14 : Int) (x1_15 : Int) (x1_16 : Int) (x1_17 : Int) (x2 : Int) (x3 : Int) (W : World) (hok0 : Value.okWide Try.prog W .any b2 22 v0) (hok4 : Value.okWide Try.prog W .any b2 26 v4) (h0 : DataW.Trod enc Try.prog W base sp held 22 v0 d0 q0) (hsz0 : ∀ es sp, d0 = .slice es sp → (es.length + sp.length) * Try.prog.bytesOf 43 ≤ reachBytes) (h4 : DataW.Trod enc Try.prog W base sp held 26 v4 d4 q4) (hsz4 : ∀ es sp, d4 = .slice es sp → (es.length + sp.length) * Try.prog.bytesOf 3 ≤ reachBytes) : Calls Try.prog 3 #[v0, .agg #[.int .i64 x1_0, .int .i64 x1_1, .int .i64 x1_2, .int .i64 x1_3, .int .i64 x1_4, .int .i64 x1_5, .int .i64 x1_6, .int .i64 x1_7, .int .i64 x1_8, .int .i64 x1_9, .int .i64 x1_10, .int .i64 x1_11, .int .i64 x1_12, .int .i64 x1_13, .int .i64 x1_14, .int .i64 x1_15, .int .i64 x1_16, .int .i64 x1_17], .int .i64 x2, .int .i64 x3, v4] W fun e w' => e = .returned (.bool true) ∧ RowKit.Below W.heap.size W w' := by
  rcases open_rows Try.underlying22 elemFlat0 (z := 2) (by kernel_rfl) rfl hok0 h0 with rfl | ⟨a0, len0, cap0, vals0, es0, sp0, rfl, hsp0, hcap0, hlen0, hvals0, rfl, hes0, hlies0⟩
  ·
    rcases open_rows Try.underlying26 elemFlat4 (z := 1) (by kernel_rfl) rfl hok4 h4 with rfl | ⟨a4, len4, cap4, vals4, es4, sp4, rfl, hsp4, hcap4, hlen4, hvals4, rfl, hes4, hlies4⟩
    ·
      have hc := Stp.steps_nn  x1_0 x1_1 x1_2 x1_3 x1_4 x1_5 x1_6 x1_7 x1_8 x1_9 x1_10 x1_11 x1_12 x1_13 x1_14 x1_15 x1_16 x1_17 x2 x3
      refine CallS.callsL (w := W) (args := [.slice none 0 0, .agg #[.int .i64 x1_0, .int .i64 x1_1, .int .i64 x1_2, .int .i64 x1_3, .int .i64 x1_4, .int .i64 x1_5, .int .i64 x1_6, .int .i64 x1_7, .int .i64 x1_8, .int .i64 x1_9, .int .i64 x1_10, .int .i64 x1_11, .int .i64 x1_12, .int .i64 x1_13, .int .i64 x1_14, .int .i64 x1_15, .int .i64 x1_16, .int .i64 x1_17], .int .i64 x2, .int .i64 x3, .slice none 0 0]) Try.func3 (by kernel_rfl) (by decide) [] hc ?_ ?_
      · intro x hx
        cases hx
      · change cnL (muL []) _ = _
        simp only [cnL] <;> rfl
    ·
      obtain ⟨xs4, rfl, hxs4⟩ := rows_of (fun row hr => int_open hr) vals4 hvals4
      have hl4 : len4 = xs4.length := by rw [← hlen4, List.length_map]
      have hb4 : len4 * 8 ≤ 140737488351232 := by
        have h1 := hsz4 es4 sp4 rfl
        rw [elemBytes4, hes4] at h1
        have h2 : reachBytes = 140737488351232 := by decide
        rw [h2] at h1
        omega
      have hm4 : (xs4.map ivals).map (·.map avOf) = xs4.map iv := by rw [List.map_map]; exact List.map_congr_left fun x _ => rfl
      have hc := Stp.steps_ns xs4 (xs4.map iv) len4 cap4 hl4 (map_flat xs4 fun x => rfl) (At.map iv xs4) hxs4 hb4 rfl x1_0 x1_1 x1_2 x1_3 x1_4 x1_5 x1_6 x1_7 x1_8 x1_9 x1_10 x1_11 x1_12 x1_13 x1_14 x1_15 x1_16 x1_17 x2 x3
      rw [← hm4] at hc
      refine CallS.callsL (w := W) (args := [.slice none 0 0, .agg #[.int .i64 x1_0, .int .i64 x1_1, .int .i64 x1_2, .int .i64 x1_3, .int .i64 x1_4, .int .i64 x1_5, .int .i64 x1_6, .int .i64 x1_7, .int .i64 x1_8, .int .i64 x1_9, .int .i64 x1_10, .int .i64 x1_11, .int .i64 x1_12, .int .i64 x1_13, .int .i64 x1_14, .int .i64 x1_15, .int .i64 x1_16, .int .i64 x1_17], .int .i64 x2, .int .i64 x3, .slice (some a4) len4 cap4]) Try.func3 (by kernel_rfl) (by decide) [(⟨a4.block, a4.off, 0⟩, 1, xs4.map ivals)] hc ?_ ?_
      · intro x hx
        simp only [List.mem_cons, List.not_mem_nil, or_false] at hx
        rcases hx with rfl
        · exact hlies4
      · change cnL (muL [⟨a4.block, a4.off, 0⟩]) _ = _
        have e4 : cn (muL [⟨a4.block, a4.off, 0⟩]) (.sym (.slice 0 1 0 len4 cap4 false none)) = some (.slice (some a4) len4 cap4) := slice_cn rfl hsp4
        simp only [cnL, e4] <;> rfl
  ·
    rcases open_rows Try.underlying26 elemFlat4 (z := 1) (by kernel_rfl) rfl hok4 h4 with rfl | ⟨a4, len4, cap4, vals4, es4, sp4, rfl, hsp4, hcap4, hlen4, hvals4, rfl, hes4, hlies4⟩
    ·
      obtain ⟨xs0, rfl, hxs0⟩ := rows_of (fun row hr => Cod.instr_open hr) vals0 hvals0
      have hl0 : len0 = xs0.length := by rw [← hlen0, List.length_map]
      have hb0 : len0 * 16 ≤ 140737488351232 := by
        have h1 := hsz0 es0 sp0 rfl
        rw [elemBytes0, hes0] at h1
        have h2 : reachBytes = 140737488351232 := by decide
        rw [h2] at h1
        omega
      have hm0 : (xs0.map Cod.tvals).map (·.map avOf) = xs0.map Cod.tv := by rw [List.map_map]; exact List.map_congr_left fun x _ => rfl
      have hc := Stp.steps_sn xs0 (xs0.map Cod.tv) len0 cap0 hl0 (map_flat xs0 fun x => rfl) (At.map Cod.tv xs0) hxs0 hb0 rfl x1_0 x1_1 x1_2 x1_3 x1_4 x1_5 x1_6 x1_7 x1_8 x1_9 x1_10 x1_11 x1_12 x1_13 x1_14 x1_15 x1_16 x1_17 x2 x3
      rw [← hm0] at hc
      refine CallS.callsL (w := W) (args := [.slice (some a0) len0 cap0, .agg #[.int .i64 x1_0, .int .i64 x1_1, .int .i64 x1_2, .int .i64 x1_3, .int .i64 x1_4, .int .i64 x1_5, .int .i64 x1_6, .int .i64 x1_7, .int .i64 x1_8, .int .i64 x1_9, .int .i64 x1_10, .int .i64 x1_11, .int .i64 x1_12, .int .i64 x1_13, .int .i64 x1_14, .int .i64 x1_15, .int .i64 x1_16, .int .i64 x1_17], .int .i64 x2, .int .i64 x3, .slice none 0 0]) Try.func3 (by kernel_rfl) (by decide) [(⟨a0.block, a0.off, 0⟩, 2, xs0.map Cod.tvals)] hc ?_ ?_
      · intro x hx
        simp only [List.mem_cons, List.not_mem_nil, or_false] at hx
        rcases hx with rfl
        · exact hlies0
      · change cnL (muL [⟨a0.block, a0.off, 0⟩]) _ = _
        have e0 : cn (muL [⟨a0.block, a0.off, 0⟩]) (.sym (.slice 0 2 0 len0 cap0 false none)) = some (.slice (some a0) len0 cap0) := slice_cn rfl hsp0
        simp only [cnL, e0] <;> rfl
    ·
      obtain ⟨xs0, rfl, hxs0⟩ := rows_of (fun row hr => Cod.instr_open hr) vals0 hvals0
      have hl0 : len0 = xs0.length := by rw [← hlen0, List.length_map]
      have hb0 : len0 * 16 ≤ 140737488351232 := by
        have h1 := hsz0 es0 sp0 rfl
        rw [elemBytes0, hes0] at h1
        have h2 : reachBytes = 140737488351232 := by decide
        rw [h2] at h1
        omega
      have hm0 : (xs0.map Cod.tvals).map (·.map avOf) = xs0.map Cod.tv := by rw [List.map_map]; exact List.map_congr_left fun x _ => rfl
      obtain ⟨xs4, rfl, hxs4⟩ := rows_of (fun row hr => int_open hr) vals4 hvals4
      have hl4 : len4 = xs4.length := by rw [← hlen4, List.length_map]
      have hb4 : len4 * 8 ≤ 140737488351232 := by
        have h1 := hsz4 es4 sp4 rfl
        rw [elemBytes4, hes4] at h1
        have h2 : reachBytes = 140737488351232 := by decide
        rw [h2] at h1
        omega
      have hm4 : (xs4.map ivals).map (·.map avOf) = xs4.map iv := by rw [List.map_map]; exact List.map_congr_left fun x _ => rfl
      have hc := Stp.steps_ss xs0 (xs0.map Cod.tv) len0 cap0 hl0 (map_flat xs0 fun x => rfl) (At.map Cod.tv xs0) hxs0 hb0 rfl xs4 (xs4.map iv) len4 cap4 hl4 (map_flat xs4 fun x => rfl) (At.map iv xs4) hxs4 hb4 rfl x1_0 x1_1 x1_2 x1_3 x1_4 x1_5 x1_6 x1_7 x1_8 x1_9 x1_10 x1_11 x1_12 x1_13 x1_14 x1_15 x1_16 x1_17 x2 x3
      rw [← hm0] at hc
      rw [← hm4] at hc
      refine CallS.callsL (w := W) (args := [.slice (some a0) len0 cap0, .agg #[.int .i64 x1_0, .int .i64 x1_1, .int .i64 x1_2, .int .i64 x1_3, .int .i64 x1_4, .int .i64 x1_5, .int .i64 x1_6, .int .i64 x1_7, .int .i64 x1_8, .int .i64 x1_9, .int .i64 x1_10, .int .i64 x1_11, .int .i64 x1_12, .int .i64 x1_13, .int .i64 x1_14, .int .i64 x1_15, .int .i64 x1_16, .int .i64 x1_17], .int .i64 x2, .int .i64 x3, .slice (some a4) len4 cap4]) Try.func3 (by kernel_rfl) (by decide) [(⟨a0.block, a0.off, 0⟩, 2, xs0.map Cod.tvals), (⟨a4.block, a4.off, 0⟩, 1, xs4.map ivals)] hc ?_ ?_
      · intro x hx
        simp only [List.mem_cons, List.not_mem_nil, or_false] at hx
        rcases hx with rfl | rfl
        · exact hlies0
        · exact hlies4
      · change cnL (muL [⟨a0.block, a0.off, 0⟩, ⟨a4.block, a4.off, 0⟩]) _ = _
        have e0 : cn (muL [⟨a0.block, a0.off, 0⟩, ⟨a4.block, a4.off, 0⟩]) (.sym (.slice 0 2 0 len0 cap0 false none)) = some (.slice (some a0) len0 cap0) := slice_cn rfl hsp0
        have e4 : cn (muL [⟨a0.block, a0.off, 0⟩, ⟨a4.block, a4.off, 0⟩]) (.sym (.slice 1 1 0 len4 cap4 false none)) = some (.slice (some a4) len4 cap4) := slice_cn rfl hsp4
        simp only [cnL, e0, e4] <;> rfl
set_option maxHeartbeats 1000000 in
set_option maxRecDepth 100000 in
theorem lifted (os : Os) (started : os.Started) (H : Type) (enc : TypeId × Value → H) :
    ReturnsInHanded {} Try.checked os 3 .any (Rows.stepsSpec.pre6 enc Try.prog Try.f3 Rows.stepsRow.domain false) (Rows.stepsSpec.post enc Try.prog Try.f3 false true false false) := by
  refine returnsInHanded_of_change_sized (C := Try.checked) own started (by kernel_rfl) Try.func3
    (ChangeSpec.witness6 (enc := enc) (C := Try.checked) false ⟨#[], #[.slice none 0 0, .agg #[.int .i64 0, .int .i64 0, .int .i64 0, .int .i64 0, .int .i64 0, .int .i64 0, .int .i64 0, .int .i64 0, .int .i64 0, .int .i64 0, .int .i64 0, .int .i64 0, .int .i64 0, .int .i64 0, .int .i64 0, .int .i64 0, .int .i64 0, .int .i64 0], .int .i64 0, .int .i64 0, .slice none 0 0], []⟩ 8 (by kernel_rfl) (by kernel_rfl) (by kernel_rfl) (by kernel_rfl)) ?_
  intro W base args ds gs before hval0 hW hcnd hsz0 _
  have hval : ∀ (j : Nat) t v, Try.f3.params[j]? = some t → args[j]? = some v → Value.okWide Try.prog W .any base t v := hval0
  have hW' := hW
  obtain ⟨p, q, hA0, hV, rfl, hfz, hnd⟩ := hW
  have hA : DataW.TrodAll enc Try.prog W 0 (fun _ => true) true Try.f3.params.toList args.toList ds p := hA0
  rw [Try.params3] at hA hval
  have hz0 : ∀ (j : Nat) es sp, (Try.f3.params.toList ++ Rows.stepsSpec.plain.varTypes Try.prog)[j]? = some 22 → (ds ++ gs)[j]? = some (.slice es sp) → (es.length + sp.length) * Try.prog.bytesOf 43 ≤ reachBytes := fun j es sp h1 h2 => sized_slice hsz0 h1 h2 Try.underlying22
  rw [Try.params3] at hz0
  have hz4 : ∀ (j : Nat) es sp, (Try.f3.params.toList ++ Rows.stepsSpec.plain.varTypes Try.prog)[j]? = some 26 → (ds ++ gs)[j]? = some (.slice es sp) → (es.length + sp.length) * Try.prog.bytesOf 3 ≤ reachBytes := fun j es sp h1 h2 => sized_slice hsz0 h1 h2 Try.underlying26
  rw [Try.params3] at hz4
  obtain ⟨v0, vs0, d0, ds0, p0, q0, hargs, rfl, rfl, h0, r0⟩ := trodAll_cons hA
  obtain ⟨v1, vs1, d1, ds1, p1, q1, rfl, rfl, rfl, h1, r1⟩ := trodAll_cons r0
  obtain ⟨v2, vs2, d2, ds2, p2, q2, rfl, rfl, rfl, h2, r2⟩ := trodAll_cons r1
  obtain ⟨v3, vs3, d3, ds3, p3, q3, rfl, rfl, rfl, h3, r3⟩ := trodAll_cons r2
  obtain ⟨v4, vs4, d4, ds4, p4, q4, rfl, rfl, rfl, h4, r4⟩ := trodAll_cons r3
  obtain ⟨rfl, rfl, rfl⟩ := trodAll_nil r4
  obtain rfl : args = #[v0, v1, v2, v3, v4] := by cases args; simp_all
  obtain ⟨rfl, rfl⟩ := trodVars_none hV
  have k0 := h0
  have k1 := h1
  have k2 := h2
  have k3 := h3
  have k4 := h4
  have lt : ∀ {t : TypeId} {v : Value} {d : DataW H} {p : List MemPlace}, DataW.Trod enc Try.prog W 0 (fun _ => true) true t v d p → ∀ x ∈ p, x.block < W.heap.size := fun h => by
    obtain ⟨m, hm⟩ := h
    exact DataW.trod_lt m _ _ _ hm
  have hs0 : ∀ es sp, d0 = .slice es sp → (es.length + sp.length) * Try.prog.bytesOf 43 ≤ reachBytes := fun es sp e => hz0 0 es sp rfl (by rw [e]; rfl)
  have ok0 := hval 0 22 v0 rfl rfl
  have hs4 : ∀ es sp, d4 = .slice es sp → (es.length + sp.length) * Try.prog.bytesOf 3 ≤ reachBytes := fun es sp e => hz4 4 es sp rfl (by rw [e]; rfl)
  have ok4 := hval 4 26 v4 rfl rfl
  obtain ⟨c1, rfl, hc1⟩ := okWide_struct Try.underlying25 (hval 1 25 v1 rfl rfl)
  obtain ⟨f1, hf1⟩ := h1
  obtain ⟨x1_0, x1_1, x1_2, x1_3, x1_4, x1_5, x1_6, x1_7, x1_8, x1_9, x1_10, x1_11, x1_12, x1_13, x1_14, x1_15, x1_16, x1_17, rfl⟩ := open25 (flat_open 4 25 _ _ _ _ flat25 hf1)
  obtain ⟨x2, rfl, rfl, rfl, _⟩ := open_int Try.underlying3 (hval 2 3 v2 rfl rfl) h2
  obtain ⟨x3, rfl, rfl, rfl, _⟩ := open_int Try.underlying3 (hval 3 3 v3 rfl rfl) h3
  clear hA0 hval0 hsz0 hz0 hz4
  refine (lawCalls x1_0 x1_1 x1_2 x1_3 x1_4 x1_5 x1_6 x1_7 x1_8 x1_9 x1_10 x1_11 x1_12 x1_13 x1_14 x1_15 x1_16 x1_17 x2 x3 W ok0 ok4 h0 hs0 h4 hs4).mono fun e W' ⟨he, bel⟩ => ?_
  subst he
  exact ⟨_, rfl, _, _, _, [], _, [], hW', trodAll_mk1 (shut_bool Try.underlying4 _), (trodAll_cons_mk (Below.trod laidOut (by kernel_rfl) (of_decide_eq_true (by kernel_rfl)) k0 bel (lt k0)) (trodAll_cons_mk (Below.trod laidOut (by kernel_rfl) (of_decide_eq_true (by kernel_rfl)) k1 bel (lt k1)) (trodAll_cons_mk (Below.trod laidOut (by kernel_rfl) (of_decide_eq_true (by kernel_rfl)) k2 bel (lt k2)) (trodAll_cons_mk (Below.trod laidOut (by kernel_rfl) (of_decide_eq_true (by kernel_rfl)) k3 bel (lt k3)) (trodAll_cons_mk (Below.trod laidOut (by kernel_rfl) (of_decide_eq_true (by kernel_rfl)) k4 bel (lt k4)) trodAll_mk0))))), rfl, bel.frame _, fun h => by cases h⟩
theorem over : Rows.stepsRow.holds Try.pinned (OpenSpec.ofChange Rows.stepsSpec) :=
  OpenClaim.holds_of_wide 3 Try.f3 rfl rfl rfl rfl rfl rfl rfl ⟨rfl, rfl, rfl, rfl, rfl⟩ rfl rfl rfl rfl rfl (by kernel_rfl) Try.func3 (by kernel_rfl)
    (of_decide_eq_true (by kernel_rfl)) (by unfold Func.isWrapper; first | (rw [if_pos (by decide +kernel)]; kernel_rfl) | (rw [if_neg (by decide +kernel)]; exact ⟨rfl, rfl⟩))
    (fun os started H enc _ => lifted os started H enc)
theorem proved : Rows.StepsSaid := over
#print axioms proved
end Go.Proofs.Ytdaccjfijfnlfaa.StepsRow
namespace Go.Proofs.Ytdaccjfijfnlfaa
/-- The row, under a short name, for the claim. -/
theorem steps_holds : Rows.StepsSaid := StepsRow.proved
end Go.Proofs.Ytdaccjfijfnlfaa
