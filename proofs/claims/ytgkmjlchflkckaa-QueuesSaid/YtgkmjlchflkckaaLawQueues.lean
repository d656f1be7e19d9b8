/- The statement Queues: at any input the law returns true, and the input reads as it did. -/
import Derived.Test.YtgkmjlchflkckaaRows
import Derived.Test.YtgkmjlchflkckaaQueX
import Derived.Test.YtgkmjlchflkckaaAb46
import Derived.WalkKit
import Derived.ProofKit
import Derived.OpenShut
import Derived.ShutString
import Derived.ChangeOld
import Derived.Below
import Derived.Carry
import Derived.SizedLaws
namespace Go.Proofs.Ytgkmjlchflkckaa.QueuesRow
open Go.ChangeShapes Go.WideShapes Go.ChangeAt Go.RowKit Go.Ab
open Go.ChangeMaps (open_string shut_string)
set_option linter.unusedVariables false
theorem own : ownKnob Try.prog.godebug = none := by kernel_rfl
theorem laidOut : laidOutB Try.prog = true := by kernel_rfl
theorem elemFlat1 : flatT Try.prog 4 3 = some [.int .i64] := by kernel_rfl
theorem elemBytes1 : Try.prog.bytesOf 3 = 8 := by kernel_rfl
set_option maxRecDepth 100000 in
theorem lawCalls {H : Type} {enc : TypeId × Value → H} {base b2 : Nat} {sp : Nat → Bool} {held : Bool} {v1 : Value} {d1 : DataW H} {q1 : List MemPlace} (x0 : Int) (W : World) (hok1 : Value.okWide Try.prog W .any b2 22 v1) (h1 : DataW.Trod enc Try.prog W base sp held 22 v1 d1 q1) (hsz1 : ∀ es sp, d1 = .slice es sp → (es.length + sp.length) * Try.prog.bytesOf 3 ≤ reachBytes) : Calls Try.prog 3 #[.int .i64 x0, v1] W fun e w' => e = .returned (.bool true) ∧ RowKit.Below W.heap.size W w' := by
  rcases open_rows Try.underlying22 elemFlat1 (z := 1) (by kernel_rfl) rfl hok1 h1 with rfl | ⟨a1, len1, cap1, vals1, es1, sp1, rfl, hsp1, hcap1, hlen1, hvals1, rfl, hes1, hlies1⟩
  ·
    have hc := QueX.queues_n  x0
    refine CallS.callsL (w := W) (args := [.int .i64 x0, .slice none 0 0]) Try.func3 (by kernel_rfl) (by decide) [] hc ?_ ?_
    · intro x hx
      cases hx
    · change cnL (muL []) _ = _
      simp only [cnL] <;> rfl
  ·
    obtain ⟨xs1, rfl, hxs1⟩ := rows_of (fun row hr => int_open hr) vals1 hvals1
    have hl1 : len1 = xs1.length := by rw [← hlen1, List.length_map]
    have hb1 : len1 * 8 ≤ 140737488351232 := by
      have h1 := hsz1 es1 sp1 rfl
      rw [elemBytes1, hes1] at h1
      have h2 : reachBytes = 140737488351232 := by decide
      rw [h2] at h1
      omega
    have hm1 : (xs1.map ivals).map (·.map avOf) = xs1.map iv := by rw [List.map_map]; exact List.map_congr_left fun x _ => rfl
    have hc := QueX.queues_s xs1 (xs1.map iv) len1 cap1 hl1 (map_flat xs1 fun x => rfl) (At.map iv xs1) hxs1 hb1 rfl x0
    rw [← hm1] at hc
    refine CallS.callsL (w := W) (args := [.int .i64 x0, .slice (some a1) len1 cap1]) Try.func3 (by kernel_rfl) (by decide) [(⟨a1.block, a1.off, 0⟩, 1, xs1.map ivals)] hc ?_ ?_
    · intro x hx
      simp only [List.mem_cons, List.not_mem_nil, or_false] at hx
      rcases hx with rfl
      · exact hlies1
    · change cnL (muL [⟨a1.block, a1.off, 0⟩]) _ = _
      have e1 : cn (muL [⟨a1.block, a1.off, 0⟩]) (.sym (.slice 0 1 0 len1 cap1 false none)) = some (.slice (some a1) len1 cap1) := slice_cn rfl hsp1
      simp only [cnL, e1] <;> rfl
set_option maxHeartbeats 1000000 in
set_option maxRecDepth 100000 in
theorem lifted (os : Os) (started : os.Started) (H : Type) (enc : TypeId × Value → H) :
    ReturnsInHanded {} Try.checked os 3 .any (Rows.queuesSpec.pre6 enc Try.prog Try.f3 Rows.queuesRow.domain false) (Rows.queuesSpec.post enc Try.prog Try.f3 false true false false) := by
  refine returnsInHanded_of_change_sized (C := Try.checked) own started (by kernel_rfl) Try.func3
    (ChangeSpec.witness6 (enc := enc) (C := Try.checked) false ⟨#[], #[.int .i64 0, .slice none 0 0], []⟩ 8 (by kernel_rfl) (by kernel_rfl) (by kernel_rfl) (by kernel_rfl)) ?_
  intro W base args ds gs before hval0 hW hcnd hsz0 _
  have hval : ∀ (j : Nat) t v, Try.f3.params[j]? = some t → args[j]? = some v → Value.okWide Try.prog W .any base t v := hval0
  have hW' := hW
  obtain ⟨p, q, hA0, hV, rfl, hfz, hnd⟩ := hW
  have hA : DataW.TrodAll enc Try.prog W 0 (fun _ => true) true Try.f3.params.toList args.toList ds p := hA0
  rw [Try.params3] at hA hval
  have hz1 : ∀ (j : Nat) es sp, (Try.f3.params.toList ++ Rows.queuesSpec.plain.varTypes Try.prog)[j]? = some 22 → (ds ++ gs)[j]? = some (.slice es sp) → (es.length + sp.length) * Try.prog.bytesOf 3 ≤ reachBytes := fun j es sp h1 h2 => sized_slice hsz0 h1 h2 Try.underlying22
  rw [Try.params3] at hz1
  obtain ⟨v0, vs0, d0, ds0, p0, q0, hargs, rfl, rfl, h0, r0⟩ := trodAll_cons hA
  obtain ⟨v1, vs1, d1, ds1, p1, q1, rfl, rfl, rfl, h1, r1⟩ := trodAll_cons r0
  obtain ⟨rfl, rfl, rfl⟩ := trodAll_nil r1
  obtain rfl : args = #[v0, v1] := by cases args; simp_all
  obtain ⟨rfl, rfl⟩ := trodVars_none hV
  have k0 := h0
  have k1 := h1
  have lt : ∀ {t : TypeId} {v : Value} {d : DataW H} {p : List MemPlace}, DataW.Trod enc Try.prog W 0 (fun _ => true) true t v d p → ∀ x ∈ p, x.block < W.heap.size := fun h => by
    obtain ⟨m, hm⟩ := h
    exact DataW.trod_lt m _ _ _ hm
  have hs1 : ∀ es sp, d1 = .slice es sp → (es.length + sp.length) * Try.prog.bytesOf 3 ≤ reachBytes := fun es sp e => hz1 1 es sp rfl (by rw [e]; rfl)
  have ok1 := hval 1 22 v1 rfl rfl
  obtain ⟨x0, rfl, rfl, rfl, _⟩ := open_int Try.underlying3 (hval 0 3 v0 rfl rfl) h0
  clear hA0 hval0 hsz0 hz1
  refine (lawCalls x0 W ok1 h1 hs1).mono fun e W' ⟨he, bel⟩ => ?_
  subst he
  exact ⟨_, rfl, _, _, _, [], _, [], hW', trodAll_mk1 (shut_bool Try.underlying4 _), (trodAll_cons_mk (Below.trod laidOut (by kernel_rfl) (of_decide_eq_true (by kernel_rfl)) k0 bel (lt k0)) (trodAll_cons_mk (Below.trod laidOut (by kernel_rfl) (of_decide_eq_true (by kernel_rfl)) k1 bel (lt k1)) trodAll_mk0)), rfl, bel.frame _, fun h => by cases h⟩
theorem over : Rows.queuesRow.holds Try.pinned (OpenSpec.ofChange Rows.queuesSpec) :=
  OpenClaim.holds_of_wide 3 Try.f3 rfl rfl rfl rfl rfl rfl rfl ⟨rfl, rfl, rfl, rfl, rfl⟩ rfl rfl rfl rfl rfl (by kernel_rfl) Try.func3 (by kernel_rfl)
    (of_decide_eq_true (by kernel_rfl)) (by unfold Func.isWrapper; first | (rw [if_pos (by decide +kernel)]; kernel_rfl) | (rw [if_neg (by decide +kernel)]; exact ⟨rfl, rfl⟩))
    (fun os started H enc _ => lifted os started H enc)
theorem proved : Rows.QueuesSaid := over
#print axioms proved
end Go.Proofs.Ytgkmjlchflkckaa.QueuesRow
namespace Go.Proofs.Ytgkmjlchflkckaa
/-- The row, under a short name, for the claim. -/
theorem queues_holds : Rows.QueuesSaid := QueuesRow.proved
end Go.Proofs.Ytgkmjlchflkckaa
