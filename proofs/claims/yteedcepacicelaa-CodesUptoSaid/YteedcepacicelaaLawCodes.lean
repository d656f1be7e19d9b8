/- The statement Codes: at any input the law returns true, and the input reads as it did. -/
import Derived.Test.YteedcepacicelaaRows
import Derived.Test.YteedcepacicelaaCodFN
import Derived.Test.YteedcepacicelaaAb33
import Derived.WalkKit
import Derived.ProofKit
import Derived.OpenShut
import Derived.ShutString
import Derived.ChangeOld
import Derived.Below
import Derived.Carry
import Derived.SizedLaws
import Derived.JoinedCond
import Derived.Deep.CondSized
namespace Go.Proofs.Yteedcepacicelaa.CodesRow
open Go.ChangeShapes Go.WideShapes Go.ChangeAt Go.RowKit Go.Ab
open Go.ChangeMaps (open_string shut_string)
set_option linter.unusedVariables false
theorem own : ownKnob Try.prog.godebug = none := by kernel_rfl
theorem laidOut : laidOutB Try.prog = true := by kernel_rfl
theorem elemFlat : flatT Try.prog 4 39 = some [.int .i64, .int .i64] := by kernel_rfl
theorem elemCells : Try.prog.cellsOf 39 = 2 := by kernel_rfl
theorem elemBytes : Try.prog.bytesOf 39 = 16 := by kernel_rfl
set_option maxRecDepth 100000 in
theorem lawCalls {H : Type} {enc : TypeId × Value → H} {base b2 : Nat} {sp : Nat → Bool} {held : Bool} {v : Value} {dd : DataW H} {pl : List MemPlace} (x1 : ByteArray) (hx1 : x1.data.toList.length ≤ 1048576) (W : World) (hok : Value.okWide Try.prog W .any b2 22 v)
    (h : DataW.Trod enc Try.prog W base sp held 22 v dd pl) (hsz : ∀ es sp, dd = .slice es sp → (es.length + sp.length) * Try.prog.bytesOf 39 ≤ reachBytes) : Calls Try.prog 3 #[v, .string x1] W fun e w' => e = .returned (.bool true) ∧ RowKit.Below W.heap.size W w' := by
  rcases open_rows Try.underlying22 elemFlat elemCells rfl hok h with rfl | ⟨a, len, cap, vals, es, sp, rfl, hsp, hcap, hlen, hvals, rfl, hes, hlies⟩
  · exact CallS.callsM (w := W) (args := [.slice none 0 0, .string x1]) Try.func3 (by kernel_rfl) (by decide) (Cod.codesLNil x1 hx1) rfl
  · obtain ⟨xs, rfl, hxs⟩ := rows_of (fun row hr => Cod.instr_open hr) vals hvals
    have hl : len = xs.length := by rw [← hlen, List.length_map]
    have hb : len * 16 ≤ 140737488351232 := by
      have := hsz es sp rfl
      rw [elemBytes, hes] at this
      have h2 : reachBytes = 140737488351232 := by decide
      rw [h2] at this
      omega
    have hm : (xs.map Cod.tvals).map (·.map avOf) = xs.map Cod.tv := by rw [List.map_map]; exact List.map_congr_left fun x _ => rfl
    have hc := Cod.codesL xs (xs.map Cod.tv) len cap hl (map_flat xs fun x => rfl) (At.map Cod.tv xs) hxs hb rfl x1 hx1
    rw [← hm] at hc
    refine CallS.calls1 (w := W) (args := [.slice (some a) len cap, .string x1]) Try.func3 (by kernel_rfl) (by decide) hc hlies ?_
    have e : cn (muL [⟨a.block, a.off, 0⟩]) (.sym (.slice 0 2 0 len cap false none)) = some (.slice (some a) len cap) := slice_cn rfl hsp
    simp only [cnL, e] <;> rfl
set_option maxHeartbeats 1000000 in
set_option maxRecDepth 100000 in
theorem lifted (os : Os) (started : os.Started) (H : Type) (enc : TypeId × Value → H) (F : Stop.Interp) :
    ReturnsInHanded {} Try.checked os 3 .any ((Rows.OpenSpec.upto Rows.codesSpec).pre6 enc Try.prog Try.f3 Rows.codesUptoRow.domain false) (((Rows.OpenSpec.upto Rows.codesSpec).at F).post enc Try.prog Try.f3 false true false false) := by
  refine returnsInHanded_of_cond_sized (C := Try.checked) (s := (Rows.OpenSpec.upto Rows.codesSpec)) (k := Rows.uptoSmall) rfl own started (by kernel_rfl) Try.func3
    (OpenSpec.witness (enc := enc) (C := Try.checked) (s := (Rows.OpenSpec.upto Rows.codesSpec)) (k := Rows.uptoSmall) rfl false ⟨#[], #[.slice none 0 0, .string ByteArray.empty], []⟩ 8 (by kernel_rfl) (by kernel_rfl) (by kernel_rfl)
      (x := ([.nil, .lit (.string [])], [], [])) (by kernel_rfl) rfl (by kernel_rfl)) ?_
  intro W base args ds gs before hval0 hW hcnd hk hsz0 _
  have hval : ∀ (j : Nat) t v, Try.f3.params[j]? = some t → args[j]? = some v → Value.okWide Try.prog W .any base t v := hval0
  have hW' := hW
  obtain ⟨p, q, hA0, hV, rfl, hfz, hnd⟩ := hW
  have hA : DataW.TrodAll enc Try.prog W 0 (fun _ => true) true Try.f3.params.toList args.toList ds p := hA0
  rw [Try.params3] at hA hval
  have hz : ∀ (j : Nat) es sp, (Try.f3.params.toList ++ Rows.codesSpec.plain.varTypes Try.prog)[j]? = some 22 → (ds ++ gs)[j]? = some (.slice es sp) → (es.length + sp.length) * Try.prog.bytesOf 39 ≤ reachBytes := fun j es sp h1 h2 => sized_slice hsz0 h1 h2 Try.underlying22
  rw [Try.params3] at hz
  obtain ⟨v0, vs0, d0, ds0, p0, q0, hargs, rfl, rfl, h0, r0⟩ := trodAll_cons hA
  obtain ⟨v1, vs1, d1, ds1, p1, q1, rfl, rfl, rfl, h1, r1⟩ := trodAll_cons r0
  obtain ⟨rfl, rfl, rfl⟩ := trodAll_nil r1
  obtain rfl : args = #[v0, v1] := by cases args; simp_all
  obtain ⟨rfl, rfl⟩ := trodVars_none hV
  have k0 := h0
  have k1 := h1
  have lt : ∀ {t : TypeId} {v : Value} {d : DataW H} {p : List MemPlace}, DataW.Trod enc Try.prog W 0 (fun _ => true) true t v d p → ∀ x ∈ p, x.block < W.heap.size := fun h => by
    obtain ⟨m, hm⟩ := h
    exact DataW.trod_lt m _ _ _ hm
  have hs : ∀ es sp, d0 = .slice es sp → (es.length + sp.length) * Try.prog.bytesOf 39 ≤ reachBytes := fun es sp e => hz 0 es sp rfl (by rw [e]; rfl)
  have ok0 := hval 0 22 v0 rfl rfl
  obtain ⟨x1, rfl, rfl, rfl, _⟩ := open_string Try.underlying9 (hval 1 9 v1 rfl rfl) h1
  have hx1 : x1.data.toList.length ≤ 1048576 := by
    have h : Rows.uptoBulkAll _ ≤ 1048576 := of_decide_eq_true hk
    simp only [List.append_nil, Rows.uptoBulkAll, Rows.uptoBulk] at h
    omega
  clear hA0 hval0 hsz0 hz
  refine (lawCalls x1 hx1 W ok0 h0 hs).mono fun e W' ⟨he, bel⟩ => ?_
  subst he
  exact ⟨_, rfl, _, _, _, [], _, [], hW', trodAll_mk1 (shut_bool Try.underlying4 _), (trodAll_cons_mk (Below.trod laidOut (by kernel_rfl) (of_decide_eq_true (by kernel_rfl)) k0 bel (lt k0)) (trodAll_cons_mk (Below.trod laidOut (by kernel_rfl) (of_decide_eq_true (by kernel_rfl)) k1 bel (lt k1)) trodAll_mk0)), rfl, bel.frame _, fun h => by cases h⟩
theorem over : Rows.codesUptoRow.holds Try.pinned (Rows.OpenSpec.upto Rows.codesSpec) :=
  OpenClaim.holds_of_cond 3 Try.f3 rfl rfl rfl rfl rfl rfl rfl ⟨rfl, rfl, rfl, rfl, rfl⟩ rfl rfl rfl rfl rfl (by kernel_rfl) Try.func3 (by kernel_rfl)
    (of_decide_eq_true (by kernel_rfl)) (by unfold Func.isWrapper; first | (rw [if_pos (by decide +kernel)]; kernel_rfl) | (rw [if_neg (by decide +kernel)]; exact ⟨rfl, rfl⟩))
    (fun os started H enc _ F => lifted os started H enc F)
theorem proved : Rows.CodesUptoSaid := over
#print axioms proved
end Go.Proofs.Yteedcepacicelaa.CodesRow
namespace Go.Proofs.Yteedcepacicelaa
/-- The row, under a short name, for the claim. -/
theorem codes_holds : Rows.CodesUptoSaid := CodesRow.proved
end Go.Proofs.Yteedcepacicelaa
