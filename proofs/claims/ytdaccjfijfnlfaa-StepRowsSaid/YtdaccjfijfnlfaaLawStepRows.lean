/- The statement StepRows: at any input the law returns true, and the input reads as it did. -/
import Derived.Test.YtdaccjfijfnlfaaRows
import Derived.Test.YtdaccjfijfnlfaaStRows
import Derived.Test.YtdaccjfijfnlfaaAb46
import Derived.WalkKit
import Derived.ProofKit
import Derived.OpenShut
import Derived.ShutString
import Derived.ChangeOld
import Derived.Below
import Derived.Carry
import Derived.SizedLaws
namespace Go.Proofs.Ytdaccjfijfnlfaa.StepRowsRow
open Go.ChangeShapes Go.WideShapes Go.ChangeAt Go.RowKit Go.Ab
open Go.ChangeMaps (open_string shut_string)
set_option linter.unusedVariables false
theorem own : ownKnob Try.prog.godebug = none := by kernel_rfl
theorem laidOut : laidOutB Try.prog = true := by kernel_rfl
theorem elemFlat0 : flatT Try.prog 4 43 = some [.int .i64, .int .i64] := by kernel_rfl
theorem elemBytes0 : Try.prog.bytesOf 43 = 16 := by kernel_rfl
theorem elemFlat1 : flatT Try.prog 4 3 = some [.int .i64] := by kernel_rfl
theorem elemBytes1 : Try.prog.bytesOf 3 = 8 := by kernel_rfl
theorem elemFlat3 : flatT Try.prog 4 3 = some [.int .i64] := by kernel_rfl
theorem elemBytes3 : Try.prog.bytesOf 3 = 8 := by kernel_rfl
set_option maxRecDepth 100000 in
theorem lawCalls {H : Type} {enc : TypeId × Value → H} {base b2 : Nat} {sp : Nat → Bool} {held : Bool} {v0 : Value} {d0 : DataW H} {q0 : List MemPlace} {v1 : Value} {d1 : DataW H} {q1 : List MemPlace} {v3 : Value} {d3 : DataW H} {q3 : List MemPlace} (x2 : Int) (W : World) (hok0 : Value.okWide Try.prog W .any b2 22 v0) (hok1 : Value.okWide Try.prog W .any b2 26 v1) (hok3 : Value.okWide Try.prog W .any b2 26 v3) (h0 : DataW.Trod enc Try.prog W base sp held 22 v0 d0 q0) (hsz0 : ∀ es sp, d0 = .slice es sp → (es.length + sp.length) * Try.prog.bytesOf 43 ≤ reachBytes) (h1 : DataW.Trod enc Try.prog W base sp held 26 v1 d1 q1) (hsz1 : ∀ es sp, d1 = .slice es sp → (es.length + sp.length) * Try.prog.bytesOf 3 ≤ reachBytes) (h3 : DataW.Trod enc Try.prog W base sp held 26 v3 d3 q3) (hsz3 : ∀ es sp, d3 = .slice es sp → (es.length + sp.length) * Try.prog.bytesOf 3 ≤ reachBytes) : Calls Try.prog 4 #[v0, v1, .int .i64 x2, v3] W fun e w' => e = .returned (.bool true) ∧ RowKit.Below W.heap.size W w' := by
  rcases open_rows Try.underlying22 elemFlat0 (z := 2) (by kernel_rfl) rfl hok0 h0 with rfl | ⟨a0, len0, cap0, vals0, es0, sp0, rfl, hsp0, hcap0, hlen0, hvals0, rfl, hes0, hlies0⟩
  ·
    rcases open_rows Try.underlying26 elemFlat1 (z := 1) (by kernel_rfl) rfl hok1 h1 with rfl | ⟨a1, len1, cap1, vals1, es1, sp1, rfl, hsp1, hcap1, hlen1, hvals1, rfl, hes1, hlies1⟩
    ·
      rcases open_rows Try.underlying26 elemFlat3 (z := 1) (by kernel_rfl) rfl hok3 h3 with rfl | ⟨a3, len3, cap3, vals3, es3, sp3, rfl, hsp3, hcap3, hlen3, hvals3, rfl, hes3, hlies3⟩
      ·
        have hc := Stp.stepRows_nnn  x2
        refine CallS.callsL (w := W) (args := [.slice none 0 0, .slice none 0 0, .int .i64 x2, .slice none 0 0]) Try.func4 (by kernel_rfl) (by decide) [] hc ?_ ?_
        · intro x hx
          cases hx
        · change cnL (muL []) _ = _
          simp only [cnL] <;> rfl
      ·
        obtain ⟨xs3, rfl, hxs3⟩ := rows_of (fun row hr => int_open hr) vals3 hvals3
        have hl3 : len3 = xs3.length := by rw [← hlen3, List.length_map]
        have hb3 : len3 * 8 ≤ 140737488351232 := by
          have h1 := hsz3 es3 sp3 rfl
          rw [elemBytes3, hes3] at h1
          have h2 : reachBytes = 140737488351232 := by decide
          rw [h2] at h1
          omega
        have hm3 : (xs3.map ivals).map (·.map avOf) = xs3.map iv := by rw [List.map_map]; exact List.map_congr_left fun x _ => rfl
        have hc := Stp.stepRows_nns xs3 (xs3.map iv) len3 cap3 hl3 (map_flat xs3 fun x => rfl) (At.map iv xs3) hxs3 hb3 rfl x2
        rw [← hm3] at hc
        refine CallS.callsL (w := W) (args := [.slice none 0 0, .slice none 0 0, .int .i64 x2, .slice (some a3) len3 cap3]) Try.func4 (by kernel_rfl) (by decide) [(⟨a3.block, a3.off, 0⟩, 1, xs3.map ivals)] hc ?_ ?_
        · intro x hx
          simp only [List.mem_cons, List.not_mem_nil, or_false] at hx
          rcases hx with rfl
          · exact hlies3
        · change cnL (muL [⟨a3.block, a3.off, 0⟩]) _ = _
          have e3 : cn (muL [⟨a3.block, a3.off, 0⟩]) (.sym (.slice 0 1 0 len3 cap3 false none)) = some (.slice (some a3) len3 cap3) := slice_cn rfl hsp3
          simp only [cnL, e3] <;> rfl
    ·
      rcases open_rows Try.underlying26 elemFlat3 (z := 1) (by kernel_rfl) rfl hok3 h3 with rfl | ⟨a3, len3, cap3, vals3, es3, sp3, rfl, hsp3, hcap3, hlen3, hvals3, rfl, hes3, hlies3⟩
      ·
        obtain ⟨xs1, rfl, hxs1⟩ := rows_of (fun row hr => int_open hr) vals1 hvals1
        have hl1 : len1 = xs1.length := by rw [← hlen1, List.length_map]
        have hb1 : len1 * 8 ≤ 140737488351232 := by
          have h1 := hsz1 es1 sp1 rfl
          rw [elemBytes1, hes1] at h1
          have h2 : reachBytes = 140737488351232 := by decide
          rw [h2] at h1
          omega
        have hm1 : (xs1.map ivals).map (·.map avOf) = xs1.map iv := by rw [List.map_map]; exact List.map_congr_left fun x _ => rfl
        have hc := Stp.stepRows_nsn xs1 (xs1.map iv) len1 cap1 hl1 (map_flat xs1 fun x => rfl) (At.map iv xs1) hxs1 hb1 rfl x2
        rw [← hm1] at hc
        refine CallS.callsL (w := W) (args := [.slice none 0 0, .slice (some a1) len1 cap1, .int .i64 x2, .slice none 0 0]) Try.func4 (by kernel_rfl) (by decide) [(⟨a1.block, a1.off, 0⟩, 1, xs1.map ivals)] hc ?_ ?_
        · intro x hx
          simp only [List.mem_cons, List.not_mem_nil, or_false] at hx
          rcases hx with rfl
          · exact hlies1
        · change cnL (muL [⟨a1.block, a1.off, 0⟩]) _ = _
          have e1 : cn (muL [⟨a1.block, a1.off, 0⟩]) (.sym (.slice 0 1 0 len1 cap1 false none)) = some (.slice (some a1) len1 cap1) := slice_cn rfl hsp1
          simp only [cnL, e1] <;> rfl
      ·
        obtain ⟨xs1, rfl, hxs1⟩ := rows_of (fun row hr => int_open hr) vals1 hvals1
        have hl1 : len1 = xs1.length := by rw [← hlen1, List.length_map]
        have hb1 : len1 * 8 ≤ 140737488351232 := by
          have h1 := hsz1 es1 sp1 rfl
          rw [elemBytes1, hes1] at h1
          have h2 : reachBytes = 140737488351232 := by decide
          rw [h2] at h1
          omega
        have hm1 : (xs1.map ivals).map (·.map avOf) = xs1.map iv := by rw [List.map_map]; exact List.map_congr_left fun x _ => rfl
        obtain ⟨xs3, rfl, hxs3⟩ := rows_of (fun row hr => int_open hr) vals3 hvals3
        have hl3 : len3 = xs3.length := by rw [← hlen3, List.length_map]
        have hb3 : len3 * 8 ≤ 140737488351232 := by
          have h1 := hsz3 es3 sp3 rfl
          rw [elemBytes3, hes3] at h1
          have h2 : reachBytes = 140737488351232 := by decide
          rw [h2] at h1
          omega
        have hm3 : (xs3.map ivals).map (·.map avOf) = xs3.map iv := by rw [List.map_map]; exact List.map_congr_left fun x _ => rfl
        have hc := Stp.stepRows_nss xs1 (xs1.map iv) len1 cap1 hl1 (map_flat xs1 fun x => rfl) (At.map iv xs1) hxs1 hb1 rfl xs3 (xs3.map iv) len3 cap3 hl3 (map_flat xs3 fun x => rfl) (At.map iv xs3) hxs3 hb3 rfl x2
        rw [← hm1] at hc
        rw [← hm3] at hc
        refine CallS.callsL (w := W) (args := [.slice none 0 0, .slice (some a1) len1 cap1, .int .i64 x2, .slice (some a3) len3 cap3]) Try.func4 (by kernel_rfl) (by decide) [(⟨a1.block, a1.off, 0⟩, 1, xs1.map ivals), (⟨a3.block, a3.off, 0⟩, 1, xs3.map ivals)] hc ?_ ?_
        · intro x hx
          simp only [List.mem_cons, List.not_mem_nil, or_false] at hx
          rcases hx with rfl | rfl
          · exact hlies1
          · exact hlies3
        · change cnL (muL [⟨a1.block, a1.off, 0⟩, ⟨a3.block, a3.off, 0⟩]) _ = _
          have e1 : cn (muL [⟨a1.block, a1.off, 0⟩, ⟨a3.block, a3.off, 0⟩]) (.sym (.slice 0 1 0 len1 cap1 false none)) = some (.slice (some a1) len1 cap1) := slice_cn rfl hsp1
          have e3 : cn (muL [⟨a1.block, a1.off, 0⟩, ⟨a3.block, a3.off, 0⟩]) (.sym (.slice 1 1 0 len3 cap3 false none)) = some (.slice (some a3) len3 cap3) := slice_cn rfl hsp3
          simp only [cnL, e1, e3] <;> rfl
  ·
    rcases open_rows Try.underlying26 elemFlat1 (z := 1) (by kernel_rfl) rfl hok1 h1 with rfl | ⟨a1, len1, cap1, vals1, es1, sp1, rfl, hsp1, hcap1, hlen1, hvals1, rfl, hes1, hlies1⟩
    ·
      rcases open_rows Try.underlying26 elemFlat3 (z := 1) (by kernel_rfl) rfl hok3 h3 with rfl | ⟨a3, len3, cap3, vals3, es3, sp3, rfl, hsp3, hcap3, hlen3, hvals3, rfl, hes3, hlies3⟩
      ·
        obtain ⟨xs0, rfl, hxs0⟩ := rows_of (fun row hr => Cod.instr_open hr) vals0 hvals0
        have hl0 : len0 = xs0.length := by rw [← hlen0, List.length_map]
        have hb0 : len0 * 16 ≤ 140737488351232 := by
          have h1 := hsz0 es0 sp0 rfl
          rw [elemBytes0, hes0] at h1
          have h2 : reachBytes = 140737488351232 := by decide
          rw [h2] at h1
          omega
        have hm0 : (xs0.map Cod.tvals).map (·.map avOf) = xs0.map Cod.tv := by rw [List.map_map]; exact List.map_congr_left fun x _ => rfl
        have hc := Stp.stepRows_snn xs0 (xs0.map Cod.tv) len0 cap0 hl0 (map_flat xs0 fun x => rfl) (At.map Cod.tv xs0) hxs0 hb0 rfl x2
        rw [← hm0] at hc
        refine CallS.callsL (w := W) (args := [.slice (some a0) len0 cap0, .slice none 0 0, .int .i64 x2, .slice none 0 0]) Try.func4 (by kernel_rfl) (by decide) [(⟨a0.block, a0.off, 0⟩, 2, xs0.map Cod.tvals)] hc ?_ ?_
        · intro x hx
          simp only [List.mem_cons, List.not_mem_nil, or_false] at hx
          rcases hx with rfl
          · exact hlies0
        · change cnL (muL [⟨a0.block, a0.off, 0⟩]) _ = _
          have e0 : cn (muL [⟨a0.block, a0.off, 0⟩]) (.sym (.slice 0 2 0 len0 cap0 false none)) = some (.slice (some a0) len0 cap0) := slice_cn rfl hsp0
          simp only [cnL, e0] <;> rfl
      ·
        obtain ⟨xs0, rfl, hxs0⟩ := rows_of (fun row hr => Cod.instr_open hr) vals0 hvals0
        have hl0 : len0 = xs0.length := by rw [← hlen0, List.length_map]
        have hb0 : len0 * 16 ≤ 140737488351232 := by
          have h1 := hsz0 es0 sp0 rfl
          rw [elemBytes0, hes0] at h1
          have h2 : reachBytes = 140737488351232 := by decide
          rw [h2] at h1
          omega
        have hm0 : (xs0.map Cod.tvals).map (·.map avOf) = xs0.map Cod.tv := by rw [List.map_map]; exact List.map_congr_left fun x _ => rfl
        obtain ⟨xs3, rfl, hxs3⟩ := rows_of (fun row hr => int_open hr) vals3 hvals3
        have hl3 : len3 = xs3.length := by rw [← hlen3, List.length_map]
        have hb3 : len3 * 8 ≤ 140737488351232 := by
          have h1 := hsz3 es3 sp3 rfl
          rw [elemBytes3, hes3] at h1
          have h2 : reachBytes = 140737488351232 := by decide
          rw [h2] at h1
          omega
        have hm3 : (xs3.map ivals).map (·.map avOf) = xs3.map iv := by rw [List.map_map]; exact List.map_congr_left fun x _ => rfl
        have hc := Stp.stepRows_sns xs0 (xs0.map Cod.tv) len0 cap0 hl0 (map_flat xs0 fun x => rfl) (At.map Cod.tv xs0) hxs0 hb0 rfl xs3 (xs3.map iv) len3 cap3 hl3 (map_flat xs3 fun x => rfl) (At.map iv xs3) hxs3 hb3 rfl x2
        rw [← hm0] at hc
        rw [← hm3] at hc
        refine CallS.callsL (w := W) (args := [.slice (some a0) len0 cap0, .slice none 0 0, .int .i64 x2, .slice (some a3) len3 cap3]) Try.func4 (by kernel_rfl) (by decide) [(⟨a0.block, a0.off, 0⟩, 2, xs0.map Cod.tvals), (⟨a3.block, a3.off, 0⟩, 1, xs3.map ivals)] hc ?_ ?_
        · intro x hx
          simp only [List.mem_cons, List.not_mem_nil, or_false] at hx
          rcases hx with rfl | rfl
          · exact hlies0
          · exact hlies3
        · change cnL (muL [⟨a0.block, a0.off, 0⟩, ⟨a3.block, a3.off, 0⟩]) _ = _
          have e0 : cn (muL [⟨a0.block, a0.off, 0⟩, ⟨a3.block, a3.off, 0⟩]) (.sym (.slice 0 2 0 len0 cap0 false none)) = some (.slice (some a0) len0 cap0) := slice_cn rfl hsp0
          have e3 : cn (muL [⟨a0.block, a0.off, 0⟩, ⟨a3.block, a3.off, 0⟩]) (.sym (.slice 1 1 0 len3 cap3 false none)) = some (.slice (some a3) len3 cap3) := slice_cn rfl hsp3
          simp only [cnL, e0, e3] <;> rfl
    ·
      rcases open_rows Try.underlying26 elemFlat3 (z := 1) (by kernel_rfl) rfl hok3 h3 with rfl | ⟨a3, len3, cap3, vals3, es3, sp3, rfl, hsp3, hcap3, hlen3, hvals3, rfl, hes3, hlies3⟩
      ·
        obtain ⟨xs0, rfl, hxs0⟩ := rows_of (fun row hr => Cod.instr_open hr) vals0 hvals0
        have hl0 : len0 = xs0.length := by rw [← hlen0, List.length_map]
        have hb0 : len0 * 16 ≤ 140737488351232 := by
          have h1 := hsz0 es0 sp0 rfl
          rw [elemBytes0, hes0] at h1
          have h2 : reachBytes = 140737488351232 := by decide
          rw [h2] at h1
          omega
        have hm0 : (xs0.map Cod.tvals).map (·.map avOf) = xs0.map Cod.tv := by rw [List.map_map]; exact List.map_congr_left fun x _ => rfl
        obtain ⟨xs1, rfl, hxs1⟩ := rows_of (fun row hr => int_open hr) vals1 hvals1
        have hl1 : len1 = xs1.length := by rw [← hlen1, List.length_map]
        have hb1 : len1 * 8 ≤ 140737488351232 := by
          have h1 := hsz1 es1 sp1 rfl
          rw [elemBytes1, hes1] at h1
          have h2 : reachBytes = 140737488351232 := by decide
          rw [h2] at h1
          omega
        have hm1 : (xs1.map ivals).map (·.map avOf) = xs1.map iv := by rw [List.map_map]; exact List.map_congr_left fun x _ => rfl
        have hc := Stp.stepRows_ssn xs0 (xs0.map Cod.tv) len0 cap0 hl0 (map_flat xs0 fun x => rfl) (At.map Cod.tv xs0) hxs0 hb0 rfl xs1 (xs1.map iv) len1 cap1 hl1 (map_flat xs1 fun x => rfl) (At.map iv xs1) hxs1 hb1 rfl x2
        rw [← hm0] at hc
        rw [← hm1] at hc
        refine CallS.callsL (w := W) (args := [.slice (some a0) len0 cap0, .slice (some a1) len1 cap1, .int .i64 x2, .slice none 0 0]) Try.func4 (by kernel_rfl) (by decide) [(⟨a0.block, a0.off, 0⟩, 2, xs0.map Cod.tvals), (⟨a1.block, a1.off, 0⟩, 1, xs1.map ivals)] hc ?_ ?_
        · intro x hx
          simp only [List.mem_cons, List.not_mem_nil, or_false] at hx
          rcases hx with rfl | rfl
          · exact hlies0
          · exact hlies1
        · change cnL (muL [⟨a0.block, a0.off, 0⟩, ⟨a1.block, a1.off, 0⟩]) _ = _
          have e0 : cn (muL [⟨a0.block, a0.off, 0⟩, ⟨a1.block, a1.off, 0⟩]) (.sym (.slice 0 2 0 len0 cap0 false none)) = some (.slice (some a0) len0 cap0) := slice_cn rfl hsp0
          have e1 : cn (muL [⟨a0.block, a0.off, 0⟩, ⟨a1.block, a1.off, 0⟩]) (.sym (.slice 1 1 0 len1 cap1 false none)) = some (.slice (some a1) len1 cap1) := slice_cn rfl hsp1
          simp only [cnL, e0, e1] <;> rfl
      ·
        obtain ⟨xs0, rfl, hxs0⟩ := rows_of (fun row hr => Cod.instr_open hr) vals0 hvals0
        have hl0 : len0 = xs0.length := by rw [← hlen0, List.length_map]
        have hb0 : len0 * 16 ≤ 140737488351232 := by
          have h1 := hsz0 es0 sp0 rfl
          rw [elemBytes0, hes0] at h1
          have h2 : reachBytes = 140737488351232 := by decide
          rw [h2] at h1
          omega
        have hm0 : (xs0.map Cod.tvals).map (·.map avOf) = xs0.map Cod.tv := by rw [List.map_map]; exact List.map_congr_left fun x _ => rfl
        obtain ⟨xs1, rfl, hxs1⟩ := rows_of (fun row hr => int_open hr) vals1 hvals1
        have hl1 : len1 = xs1.length := by rw [← hlen1, List.length_map]
        have hb1 : len1 * 8 ≤ 140737488351232 := by
          have h1 := hsz1 es1 sp1 rfl
          rw [elemBytes1, hes1] at h1
          have h2 : reachBytes = 140737488351232 := by decide
          rw [h2] at h1
          omega
        have hm1 : (xs1.map ivals).map (·.map avOf) = xs1.map iv := by rw [List.map_map]; exact List.map_congr_left fun x _ => rfl
        obtain ⟨xs3, rfl, hxs3⟩ := rows_of (fun row hr => int_open hr) vals3 hvals3
        have hl3 : len3 = xs3.length := by rw [← hlen3, List.length_map]
        have hb3 : len3 * 8 ≤ 140737488351232 := by
          have h1 := hsz3 es3 sp3 rfl
          rw [elemBytes3, hes3] at h1
          have h2 : reachBytes = 140737488351232 := by decide
          rw [h2] at h1
          omega
        have hm3 : (xs3.map ivals).map (·.map avOf) = xs3.map iv := by rw [List.map_map]; exact List.map_congr_left fun x _ => rfl
        have hc := Stp.stepRows_sss xs0 (xs0.map Cod.tv) len0 cap0 hl0 (map_flat xs0 fun x => rfl) (At.map Cod.tv xs0) hxs0 hb0 rfl xs1 (xs1.map iv) len1 cap1 hl1 (map_flat xs1 fun x => rfl) (At.map iv xs1) hxs1 hb1 rfl xs3 (xs3.map iv) len3 cap3 hl3 (map_flat xs3 fun x => rfl) (At.map iv xs3) hxs3 hb3 rfl x2
        rw [← hm0] at hc
        rw [← hm1] at hc
        rw [← hm3] at hc
        refine CallS.callsL (w := W) (args := [.slice (some a0) len0 cap0, .slice (some a1) len1 cap1, .int .i64 x2, .slice (some a3) len3 cap3]) Try.func4 (by kernel_rfl) (by decide) [(⟨a0.block, a0.off, 0⟩, 2, xs0.map Cod.tvals), (⟨a1.block, a1.off, 0⟩, 1, xs1.map ivals), (⟨a3.block, a3.off, 0⟩, 1, xs3.map ivals)] hc ?_ ?_
        · intro x hx
          simp only [List.mem_cons, List.not_mem_nil, or_false] at hx
          rcases hx with rfl | rfl | rfl
          · exact hlies0
          · exact hlies1
          · exact hlies3
        · change cnL (muL [⟨a0.block, a0.off, 0⟩, ⟨a1.block, a1.off, 0⟩, ⟨a3.block, a3.off, 0⟩]) _ = _
          have e0 : cn (muL [⟨a0.block, a0.off, 0⟩, ⟨a1.block, a1.off, 0⟩, ⟨a3.block, a3.off, 0⟩]) (.sym (.slice 0 2 0 len0 cap0 false none)) = some (.slice (some a0) len0 cap0) := slice_cn rfl hsp0
          have e1 : cn (muL [⟨a0.block, a0.off, 0⟩, ⟨a1.block, a1.off, 0⟩, ⟨a3.block, a3.off, 0⟩]) (.sym (.slice 1 1 0 len1 cap1 false none)) = some (.slice (some a1) len1 cap1) := slice_cn rfl hsp1
          have e3 : cn (muL [⟨a0.block, a0.off, 0⟩, ⟨a1.block, a1.off, 0⟩, ⟨a3.block, a3.off, 0⟩]) (.sym (.slice 2 1 0 len3 cap3 false none)) = some (.slice (some a3) len3 cap3) := slice_cn rfl hsp3
          simp only [cnL, e0, e1, e3] <;> rfl
set_option maxHeartbeats 1000000 in
set_option maxRecDepth 100000 in
theorem lifted (os : Os) (started : os.Started) (H : Type) (enc : TypeId × Value → H) :
    ReturnsInHanded {} Try.checked os 4 .any (Rows.stepRowsSpec.pre6 enc Try.prog Try.f4 Rows.stepRowsRow.domain false) (Rows.stepRowsSpec.post enc Try.prog Try.f4 false true false false) := by
  refine returnsInHanded_of_change_sized (C := Try.checked) own started (by kernel_rfl) Try.func4
    (ChangeSpec.witness6 (enc := enc) (C := Try.checked) false ⟨#[], #[.slice none 0 0, .slice none 0 0, .int .i64 0, .slice none 0 0], []⟩ 8 (by kernel_rfl) (by kernel_rfl) (by kernel_rfl) (by kernel_rfl)) ?_
  intro W base args ds gs before hval0 hW hcnd hsz0 _
  have hval : ∀ (j : Nat) t v, Try.f4.params[j]? = some t → args[j]? = some v → Value.okWide Try.prog W .any base t v := hval0
  have hW' := hW
  obtain ⟨p, q, hA0, hV, rfl, hfz, hnd⟩ := hW
  have hA : DataW.TrodAll enc Try.prog W 0 (fun _ => true) true Try.f4.params.toList args.toList ds p := hA0
  rw [Try.params4] at hA hval
  have hz0 : ∀ (j : Nat) es sp, (Try.f4.params.toList ++ Rows.stepRowsSpec.plain.varTypes Try.prog)[j]? = some 22 → (ds ++ gs)[j]? = some (.slice es sp) → (es.length + sp.length) * Try.prog.bytesOf 43 ≤ reachBytes := fun j es sp h1 h2 => sized_slice hsz0 h1 h2 Try.underlying22
  rw [Try.params4] at hz0
  have hz1 : ∀ (j : Nat) es sp, (Try.f4.params.toList ++ Rows.stepRowsSpec.plain.varTypes Try.prog)[j]? = some 26 → (ds ++ gs)[j]? = some (.slice es sp) → (es.length + sp.length) * Try.prog.bytesOf 3 ≤ reachBytes := fun j es sp h1 h2 => sized_slice hsz0 h1 h2 Try.underlying26
  rw [Try.params4] at hz1
  have hz3 : ∀ (j : Nat) es sp, (Try.f4.params.toList ++ Rows.stepRowsSpec.plain.varTypes Try.prog)[j]? = some 26 → (ds ++ gs)[j]? = some (.slice es sp) → (es.length + sp.length) * Try.prog.bytesOf 3 ≤ reachBytes := fun j es sp h1 h2 => sized_slice hsz0 h1 h2 Try.underlying26
  rw [Try.params4] at hz3
  obtain ⟨v0, vs0, d0, ds0, p0, q0, hargs, rfl, rfl, h0, r0⟩ := trodAll_cons hA
  obtain ⟨v1, vs1, d1, ds1, p1, q1, rfl, rfl, rfl, h1, r1⟩ := trodAll_cons r0
  obtain ⟨v2, vs2, d2, ds2, p2, q2, rfl, rfl, rfl, h2, r2⟩ := trodAll_cons r1
  obtain ⟨v3, vs3, d3, ds3, p3, q3, rfl, rfl, rfl, h3, r3⟩ := trodAll_cons r2
  obtain ⟨rfl, rfl, rfl⟩ := trodAll_nil r3
  obtain rfl : args = #[v0, v1, v2, v3] := by cases args; simp_all
  obtain ⟨rfl, rfl⟩ := trodVars_none hV
  have k0 := h0
  have k1 := h1
  have k2 := h2
  have k3 := h3
  have lt : ∀ {t : TypeId} {v : Value} {d : DataW H} {p : List MemPlace}, DataW.Trod enc Try.prog W 0 (fun _ => true) true t v d p → ∀ x ∈ p, x.block < W.heap.size := fun h => by
    obtain ⟨m, hm⟩ := h
    exact DataW.trod_lt m _ _ _ hm
  have hs0 : ∀ es sp, d0 = .slice es sp → (es.length + sp.length) * Try.prog.bytesOf 43 ≤ reachBytes := fun es sp e => hz0 0 es sp rfl (by rw [e]; rfl)
  have ok0 := hval 0 22 v0 rfl rfl
  have hs1 : ∀ es sp, d1 = .slice es sp → (es.length + sp.length) * Try.prog.bytesOf 3 ≤ reachBytes := fun es sp e => hz1 1 es sp rfl (by rw [e]; rfl)
  have ok1 := hval 1 26 v1 rfl rfl
  have hs3 : ∀ es sp, d3 = .slice es sp → (es.length + sp.length) * Try.prog.bytesOf 3 ≤ reachBytes := fun es sp e => hz3 3 es sp rfl (by rw [e]; rfl)
  have ok3 := hval 3 26 v3 rfl rfl
  obtain ⟨x2, rfl, rfl, rfl, _⟩ := open_int Try.underlying3 (hval 2 3 v2 rfl rfl) h2
  clear hA0 hval0 hsz0 hz0 hz1 hz3
  refine (lawCalls x2 W ok0 ok1 ok3 h0 hs0 h1 hs1 h3 hs3).mono fun e W' ⟨he, bel⟩ => ?_
  subst he
  exact ⟨_, rfl, _, _, _, [], _, [], hW', trodAll_mk1 (shut_bool Try.underlying4 _), (trodAll_cons_mk (Below.trod laidOut (by kernel_rfl) (of_decide_eq_true (by kernel_rfl)) k0 bel (lt k0)) (trodAll_cons_mk (Below.trod laidOut (by kernel_rfl) (of_decide_eq_true (by kernel_rfl)) k1 bel (lt k1)) (trodAll_cons_mk (Below.trod laidOut (by kernel_rfl) (of_decide_eq_true (by kernel_rfl)) k2 bel (lt k2)) (trodAll_cons_mk (Below.trod laidOut (by kernel_rfl) (of_decide_eq_true (by kernel_rfl)) k3 bel (lt k3)) trodAll_mk0)))), rfl, bel.frame _, fun h => by cases h⟩
theorem over : Rows.stepRowsRow.holds Try.pinned (OpenSpec.ofChange Rows.stepRowsSpec) :=
  OpenClaim.holds_of_wide 4 Try.f4 rfl rfl rfl rfl rfl rfl rfl ⟨rfl, rfl, rfl, rfl, rfl⟩ rfl rfl rfl rfl rfl (by kernel_rfl) Try.func4 (by kernel_rfl)
    (of_decide_eq_true (by kernel_rfl)) (by unfold Func.isWrapper; first | (rw [if_pos (by decide +kernel)]; kernel_rfl) | (rw [if_neg (by decide +kernel)]; exact ⟨rfl, rfl⟩))
    (fun os started H enc _ => lifted os started H enc)
theorem proved : Rows.StepRowsSaid := over
#print axioms proved
end Go.Proofs.Ytdaccjfijfnlfaa.StepRowsRow
namespace Go.Proofs.Ytdaccjfijfnlfaa
/-- The row, under a short name, for the claim. -/
theorem stepRows_holds : Rows.StepRowsSaid := StepRowsRow.proved
end Go.Proofs.Ytdaccjfijfnlfaa
