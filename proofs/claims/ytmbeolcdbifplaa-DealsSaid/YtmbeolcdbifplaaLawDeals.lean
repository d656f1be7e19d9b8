/- The statement Deals: at any input the law returns true, and the input reads as it did. -/
import Derived.Test.YtmbeolcdbifplaaRows
import Derived.Test.YtmbeolcdbifplaaDealE
import Derived.Test.YtmbeolcdbifplaaAb33
import Derived.WalkKit
import Derived.ProofKit
import Derived.OpenShut
import Derived.ShutString
import Derived.ChangeOld
import Derived.Below
import Derived.Carry
import Derived.SizedLaws
namespace Go.Proofs.Ytmbeolcdbifplaa.DealsRow
open Go.ChangeShapes Go.WideShapes Go.ChangeAt Go.RowKit Go.Ab
open Go.ChangeMaps (open_string shut_string)
set_option linter.unusedVariables false
theorem own : ownKnob Try.prog.godebug = none := by kernel_rfl
theorem laidOut : laidOutB Try.prog = true := by kernel_rfl
theorem flat23 : flatT Try.prog 4 23 = some [.int .i64, .int .i64, .int .i64, .int .i64] := by kernel_rfl
theorem open23 {c : Array Value} (h : allOk [.int .i64, .int .i64, .int .i64, .int .i64] c.toList) : ∃ y0 y1 y2 y3, c = #[.int .i64 y0, .int .i64 y1, .int .i64 y2, .int .i64 y3] := by
  obtain ⟨cl⟩ := c
  change allOk _ cl at h
  rcases cl with _ | ⟨a0, cl⟩
  · exact h.elim
  rcases cl with _ | ⟨a1, cl⟩
  · exact h.2.elim
  rcases cl with _ | ⟨a2, cl⟩
  · exact h.2.2.elim
  rcases cl with _ | ⟨a3, cl⟩
  · exact h.2.2.2.elim
  rcases cl with _ | ⟨a4, cl⟩
  · obtain ⟨⟨y0, rfl, _⟩, ⟨y1, rfl, _⟩, ⟨y2, rfl, _⟩, ⟨y3, rfl, _⟩, _⟩ := h
    exact ⟨y0, y1, y2, y3, rfl⟩
  · exact h.2.2.2.2.elim
theorem elemFlat : flatT Try.prog 4 3 = some [.int .i64] := by kernel_rfl
theorem elemCells : Try.prog.cellsOf 3 = 1 := by kernel_rfl
theorem elemBytes : Try.prog.bytesOf 3 = 8 := by kernel_rfl
set_option maxRecDepth 100000 in
theorem lawCalls {H : Type} {enc : TypeId × Value → H} {base b2 : Nat} {sp : Nat → Bool} {held : Bool} {v : Value} {dd : DataW H} {pl : List MemPlace} (x0_0 : Int) (x0_1 : Int) (x0_2 : Int) (x0_3 : Int) (x1 : Bool) (W : World) (hok : Value.okWide Try.prog W .any b2 24 v)
    (h : DataW.Trod enc Try.prog W base sp held 24 v dd pl) (hsz : ∀ es sp, dd = .slice es sp → (es.length + sp.length) * Try.prog.bytesOf 3 ≤ reachBytes) : Calls Try.prog 3 #[.agg #[.int .i64 x0_0, .int .i64 x0_1, .int .i64 x0_2, .int .i64 x0_3], .bool x1, v] W fun e w' => e = .returned (.bool true) ∧ RowKit.Below W.heap.size W w' := by
  rcases open_rows Try.underlying24 elemFlat elemCells rfl hok h with rfl | ⟨a, len, cap, vals, es, sp, rfl, hsp, hcap, hlen, hvals, rfl, hes, hlies⟩
  · exact CallS.callsM (w := W) (args := [.agg #[.int .i64 x0_0, .int .i64 x0_1, .int .i64 x0_2, .int .i64 x0_3], .bool x1, .slice none 0 0]) Try.func3 (by kernel_rfl) (by decide) (Deal.dealsNil x0_0 x0_1 x0_2 x0_3 x1) rfl
  · obtain ⟨xs, rfl, hxs⟩ := rows_of (fun row hr => int_open hr) vals hvals
    have hl : len = xs.length := by rw [← hlen, List.length_map]
    have hb : len * 8 ≤ 140737488351232 := by
      have := hsz es sp rfl
      rw [elemBytes, hes] at this
      have h2 : reachBytes = 140737488351232 := by decide
      rw [h2] at this
      omega
    have hm : (xs.map ivals).map (·.map avOf) = xs.map iv := by rw [List.map_map]; exact List.map_congr_left fun x _ => rfl
    have hc := Deal.deals xs (xs.map iv) len cap hl (map_flat xs fun x => rfl) (At.map iv xs) hxs hb rfl x0_0 x0_1 x0_2 x0_3 x1
    rw [← hm] at hc
    refine CallS.calls1 (w := W) (args := [.agg #[.int .i64 x0_0, .int .i64 x0_1, .int .i64 x0_2, .int .i64 x0_3], .bool x1, .slice (some a) len cap]) Try.func3 (by kernel_rfl) (by decide) hc hlies ?_
    have e : cn (muL [⟨a.block, a.off, 0⟩]) (.sym (.slice 0 1 0 len cap false none)) = some (.slice (some a) len cap) := slice_cn rfl hsp
    simp only [cnL, e]
    rfl
set_option maxHeartbeats 1000000 in
set_option maxRecDepth 100000 in
theorem lifted (os : Os) (started : os.Started) (H : Type) (enc : TypeId × Value → H) :
    ReturnsInHanded {} Try.checked os 3 .any (Rows.dealsSpec.pre6 enc Try.prog Try.f3 Rows.dealsRow.domain false) (Rows.dealsSpec.post enc Try.prog Try.f3 false true false false) := by
  refine returnsInHanded_of_change_sized (C := Try.checked) own started (by kernel_rfl) Try.func3
    (ChangeSpec.witness6 (enc := enc) (C := Try.checked) false ⟨#[], #[.agg #[.int .i64 0, .int .i64 0, .int .i64 0, .int .i64 0], .bool false, .slice none 0 0], []⟩ 8 (by kernel_rfl) (by kernel_rfl) (by kernel_rfl) (by kernel_rfl)) ?_
  intro W base args ds gs before hval0 hW hcnd hsz0 _
  have hval : ∀ (j : Nat) t v, Try.f3.params[j]? = some t → args[j]? = some v → Value.okWide Try.prog W .any base t v := hval0
  have hW' := hW
  obtain ⟨p, q, hA0, hV, rfl, hfz, hnd⟩ := hW
  have hA : DataW.TrodAll enc Try.prog W 0 (fun _ => true) true Try.f3.params.toList args.toList ds p := hA0
  rw [Try.params3] at hA hval
  have hz : ∀ (j : Nat) es sp, (Try.f3.params.toList ++ Rows.dealsSpec.plain.varTypes Try.prog)[j]? = some 24 → (ds ++ gs)[j]? = some (.slice es sp) → (es.length + sp.length) * Try.prog.bytesOf 3 ≤ reachBytes := fun j es sp h1 h2 => sized_slice hsz0 h1 h2 Try.underlying24
  rw [Try.params3] at hz
  obtain ⟨v0, vs0, d0, ds0, p0, q0, hargs, rfl, rfl, h0, r0⟩ := trodAll_cons hA
  obtain ⟨v1, vs1, d1, ds1, p1, q1, rfl, rfl, rfl, h1, r1⟩ := trodAll_cons r0
  obtain ⟨v2, vs2, d2, ds2, p2, q2, rfl, rfl, rfl, h2, r2⟩ := trodAll_cons r1
  obtain ⟨rfl, rfl, rfl⟩ := trodAll_nil r2
  obtain rfl : args = #[v0, v1, v2] := by cases args; simp_all
  obtain ⟨rfl, rfl⟩ := trodVars_none hV
  have k0 := h0
  have k1 := h1
  have k2 := h2
  have lt : ∀ {t : TypeId} {v : Value} {d : DataW H} {p : List MemPlace}, DataW.Trod enc Try.prog W 0 (fun _ => true) true t v d p → ∀ x ∈ p, x.block < W.heap.size := fun h => by
    obtain ⟨m, hm⟩ := h
    exact DataW.trod_lt m _ _ _ hm
  have hs : ∀ es sp, d2 = .slice es sp → (es.length + sp.length) * Try.prog.bytesOf 3 ≤ reachBytes := fun es sp e => hz 2 es sp rfl (by rw [e]; rfl)
  have ok2 := hval 2 24 v2 rfl rfl
  obtain ⟨c0, rfl, hc0⟩ := okWide_struct Try.underlying23 (hval 0 23 v0 rfl rfl)
  obtain ⟨f0, hf0⟩ := h0
  obtain ⟨x0_0, x0_1, x0_2, x0_3, rfl⟩ := open23 (flat_open 4 23 _ _ _ _ flat23 hf0)
  obtain ⟨x1, rfl, rfl, rfl⟩ := open_bool Try.underlying4 (hval 1 4 v1 rfl rfl) h1
  clear hA0 hval0 hsz0 hz
  refine (lawCalls x0_0 x0_1 x0_2 x0_3 x1 W ok2 h2 hs).mono fun e W' ⟨he, bel⟩ => ?_
  subst he
  exact ⟨_, rfl, _, _, _, [], _, [], hW', trodAll_mk1 (shut_bool Try.underlying4 _), (trodAll_cons_mk (Below.trod laidOut (by kernel_rfl) (of_decide_eq_true (by kernel_rfl)) k0 bel (lt k0)) (trodAll_cons_mk (Below.trod laidOut (by kernel_rfl) (of_decide_eq_true (by kernel_rfl)) k1 bel (lt k1)) (trodAll_cons_mk (Below.trod laidOut (by kernel_rfl) (of_decide_eq_true (by kernel_rfl)) k2 bel (lt k2)) trodAll_mk0))), rfl, bel.frame _, fun h => by cases h⟩
theorem over : Rows.dealsRow.holds Try.pinned (OpenSpec.ofChange Rows.dealsSpec) :=
  OpenClaim.holds_of_wide 3 Try.f3 rfl rfl rfl rfl rfl rfl rfl ⟨rfl, rfl, rfl, rfl, rfl⟩ rfl rfl rfl rfl rfl (by kernel_rfl) Try.func3 (by kernel_rfl)
    (of_decide_eq_true (by kernel_rfl)) (by unfold Func.isWrapper; first | (rw [if_pos (by decide +kernel)]; kernel_rfl) | (rw [if_neg (by decide +kernel)]; exact ⟨rfl, rfl⟩))
    (fun os started H enc _ => lifted os started H enc)
theorem proved : Rows.DealsSaid := over
#print axioms proved
end Go.Proofs.Ytmbeolcdbifplaa.DealsRow
namespace Go.Proofs.Ytmbeolcdbifplaa
/-- The row, under a short name, for the claim. -/
theorem deals_holds : Rows.DealsSaid := DealsRow.proved
end Go.Proofs.Ytmbeolcdbifplaa
