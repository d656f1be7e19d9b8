/- The statement BitRound: at any input the law returns true, and the input reads as it did. -/
import Derived.Test.YtkpddpdhpffhbaaDoorRows
import Derived.Test.YtkpddpdhpffhbaaDoorBitR
import Derived.Test.YtkpddpdhpffhbaaDoorAb46
import Derived.Test.YtkpddpdhpffhbaaDoorCards
import Derived.Test.YtkpddpdhpffhbaaDoorTie
import Derived.Lib.LaidTab
import Derived.MakeChecks
import Derived.LaidHandle
import Derived.LaidMore
import Derived.Stop.Joined
import Derived.SevenTiedAt
import Derived.WalkKit
import Derived.ProofKit
import Derived.OpenShut
import Derived.ShutString
import Derived.ChangeOld
import Derived.Below
import Derived.Carry
import Derived.SizedLaws
namespace Go.Proofs.YtkpddpdhpffhbaaDoor.BitRoundRow
open Go.ChangeShapes Go.WideShapes Go.ChangeAt Go.RowKit Go.Ab
open Go.ChangeMaps (open_string shut_string)
set_option linter.unusedVariables false
theorem own : ownKnob Tryd.prog.godebug = none := by kernel_rfl
theorem laidOut : laidOutB Tryd.prog = true := by kernel_rfl
abbrev laidL : List (String × DataW Unit) := [("math/bits.deBruijn64tab", Rows.laid_math_bits_deBruijn64tab)]
theorem tabNo : Tryd.prog.globalNamed "math/bits.deBruijn64tab" = some 0 := by kernel_rfl
theorem tabTy : (Tryd.prog.globals[0]?).map (·.type) = some 52 := by kernel_rfl
theorem tabEq : (Rows.laid_math_bits_deBruijn64tab : DataW Unit) = Lib.tabData .u8 (deB.map Int.ofNat) := by kernel_rfl
theorem giOf {W : World} (h : laidMetH Tryd.prog laidL W) : GI (fun _ => none) (fun _ => none) W := by
  rw [MakeChecks.laidMetH_plain _ _ _ (by kernel_rfl)] at h
  have h' : laidMet Tryd.prog [("math/bits.deBruijn64tab", Lib.tabData .u8 (deB.map Int.ofNat))] W := by rw [← tabEq]; exact h
  have hT := Lib.tabIs_of_head tabNo tabTy (t := 52) (e := 5) (n := 64) (by kernel_rfl) (by kernel_rfl) (by kernel_rfl) (by kernel_rfl) h'
  have hc : ∀ i : Nat, i < 64 → W.cell? ⟨0, i, none⟩ = some (.int .u8 (deB.getD i 0 : Nat)) := fun i hi => by
    rw [hT.cell tabNo i (by simp [deB]; omega)]
    congr 2
    rw [List.getD_eq_getElem?_getD, List.getElem?_map, List.getD_eq_getElem?_getD]
    cases deB[i]? <;> rfl
  refine ⟨fun g q hq => ?_⟩
  simp only [tabs, List.mem_singleton, Prod.mk.injEq] at hq
  obtain ⟨rfl, rfl⟩ := hq
  refine ⟨?_, fun n b p hn => by cases hn⟩
  have h0 := hc 0 (by decide)
  cases ho : W.heap[0]? with
  | none => simp [World.cell?, ho] at h0
  | some o =>
    refine ⟨o, rfl, ?_⟩
    cases o with
    | cells cs el fz =>
      intro i hi
      have := hc i hi
      rwa [cell_mk ho] at this
    | _ => simp [World.cell?, ho] at h0
theorem doorMet (os : Os) (args : Array Value) : laidMetH Tryd.prog laidL ((World.doorLaid Tryd.prog 400 os).forCall (fun _ _ => 0) ⟨#[], args, []⟩).memory :=
  laidMetH_of_parts3 (fuel := 8) (laidMet_of_run' 8 (by kernel_rfl) (by kernel_rfl)) (by kernel_rfl) (by kernel_rfl)
theorem elemFlat0 : flatT Tryd.prog 4 3 = some [.int .i64] := by kernel_rfl
theorem elemBytes0 : Tryd.prog.bytesOf 3 = 8 := by kernel_rfl
set_option maxRecDepth 100000 in
theorem lawCalls {H : Type} {enc : TypeId × Value → H} {base b2 : Nat} {sp : Nat → Bool} {held : Bool} {v0 : Value} {d0 : DataW H} {q0 : List MemPlace} (x1 : Int) (W : World) (hok0 : Value.okWide Tryd.prog W .any b2 22 v0) (h0 : DataW.Trod enc Tryd.prog W base sp held 22 v0 d0 q0) (hsz0 : ∀ es sp, d0 = .slice es sp → (es.length + sp.length) * Tryd.prog.bytesOf 3 ≤ reachBytes) (hG : GI (fun _ => none) (fun _ => none) W) : Calls Tryd.prog 4 #[v0, .int .i64 x1] W fun e w' => e = .returned (.bool true) ∧ RowKit.Below W.heap.size W w' := by
  rcases open_rows Tryd.underlying22 elemFlat0 (z := 1) (by kernel_rfl) rfl hok0 h0 with rfl | ⟨a0, len0, cap0, vals0, es0, sp0, rfl, hsp0, hcap0, hlen0, hvals0, rfl, hes0, hlies0⟩
  ·
    have hc := Bit.bitRound_n  x1
    refine CallS.callsL (w := W) (args := [.slice none 0 0, .int .i64 x1]) Tryd.func4 (by kernel_rfl) (by decide) [] hc ?_ ?_ hG
    · intro x hx
      cases hx
    · change cnL (muL []) _ = _
      simp only [cnL] <;> rfl
  ·
    obtain ⟨xs0, rfl, hxs0⟩ := rows_of (fun row hr => int_open hr) vals0 hvals0
    have hl0 : len0 = xs0.length := by rw [← hlen0, List.length_map]
    have hb0 : len0 * 8 ≤ 140737488351232 := by
      have h1 := hsz0 es0 sp0 rfl
      rw [elemBytes0, hes0] at h1
      have h2 : reachBytes = 140737488351232 := by decide
      rw [h2] at h1
      omega
    have hm0 : (xs0.map ivals).map (·.map avOf) = xs0.map iv := by rw [List.map_map]; exact List.map_congr_left fun x _ => rfl
    have hc := Bit.bitRound_s xs0 (xs0.map iv) len0 cap0 hl0 (map_flat xs0 fun x => rfl) (At.map iv xs0) hxs0 hb0 rfl x1
    rw [← hm0] at hc
    refine CallS.callsL (w := W) (args := [.slice (some a0) len0 cap0, .int .i64 x1]) Tryd.func4 (by kernel_rfl) (by decide) [(⟨a0.block, a0.off, 0⟩, 1, xs0.map ivals)] hc ?_ ?_ hG
    · intro x hx
      simp only [List.mem_cons, List.not_mem_nil, or_false] at hx
      rcases hx with rfl
      · exact hlies0
    · change cnL (muL [⟨a0.block, a0.off, 0⟩]) _ = _
      have e0 : cn (muL [⟨a0.block, a0.off, 0⟩]) (.sym (.slice 0 1 0 len0 cap0 false none)) = some (.slice (some a0) len0 cap0) := slice_cn rfl hsp0
      simp only [cnL, e0] <;> rfl
set_option maxHeartbeats 1000000 in
set_option maxRecDepth 100000 in
theorem lifted (os : Os) (started : os.Started) (H : Type) (enc : TypeId × Value → H) :
    ReturnsInHanded {} Tryd.checked os 4 .any (fun w args => (Rows.bitRoundSpec.pre enc Tryd.prog Tryd.f4 Rows.bitRoundRow.domain false w args ∧ laidMetH Tryd.prog laidL w) ∧ sizedMet enc Tryd.prog Tryd.f4 (OpenSpec.ofChange Rows.bitRoundSpec) false w args)
      (Rows.bitRoundSpec.post enc Tryd.prog Tryd.f4 false true false false) := by
  refine returnsInHanded_of_change_and (C := Tryd.checked) (X := fun w _ => laidMetH Tryd.prog laidL w) (fun _ _ _ hh h => h.of_heap hh) own started (by kernel_rfl) Tryd.func4
    (ChangeSpec.witness_shaped (enc := enc) (C := Tryd.checked) (os := os) (X := fun w _ => laidMetH Tryd.prog laidL w) false (World.doorLaid Tryd.prog 400 os) #[.slice none 0 0, .int .i64 0] 8 rfl (World.shaped_of_RefB (by kernel_rfl) (by kernel_rfl)) (by kernel_rfl) (by kernel_rfl) (by kernel_rfl) (doorMet os _)) ?_
  intro W base args ds gs before hval0 hW hcnd hsz0 hL _
  have hval : ∀ (j : Nat) t v, Tryd.f4.params[j]? = some t → args[j]? = some v → Value.okWide Tryd.prog W .any base t v := hval0
  have hW' := hW
  obtain ⟨p, q, hA0, hV, rfl, hfz, hnd⟩ := hW
  have hA : DataW.TrodAll enc Tryd.prog W 0 (fun _ => true) true Tryd.f4.params.toList args.toList ds p := hA0
  rw [Tryd.params4] at hA hval
  have hz0 : ∀ (j : Nat) es sp, (Tryd.f4.params.toList ++ Rows.bitRoundSpec.plain.varTypes Tryd.prog)[j]? = some 22 → (ds ++ gs)[j]? = some (.slice es sp) → (es.length + sp.length) * Tryd.prog.bytesOf 3 ≤ reachBytes := fun j es sp h1 h2 => sized_slice hsz0 h1 h2 Tryd.underlying22
  rw [Tryd.params4] at hz0
  obtain ⟨v0, vs0, d0, ds0, p0, q0, hargs, rfl, rfl, h0, r0⟩ := trodAll_cons hA
  obtain ⟨v1, vs1, d1, ds1, p1, q1, rfl, rfl, rfl, h1, r1⟩ := trodAll_cons r0
  obtain ⟨rfl, rfl, rfl⟩ := trodAll_nil r1
  obtain rfl : args = #[v0, v1] := by cases args; simp_all
  obtain ⟨rfl, rfl⟩ := trodVars_none hV
  have k0 := h0
  have k1 := h1
  have lt : ∀ {t : TypeId} {v : Value} {d : DataW H} {p : List MemPlace}, DataW.Trod enc Tryd.prog W 0 (fun _ => true) true t v d p → ∀ x ∈ p, x.block < W.heap.size := fun h => by
    obtain ⟨m, hm⟩ := h
    exact DataW.trod_lt m _ _ _ hm
  have hs0 : ∀ es sp, d0 = .slice es sp → (es.length + sp.length) * Tryd.prog.bytesOf 3 ≤ reachBytes := fun es sp e => hz0 0 es sp rfl (by rw [e]; rfl)
  have ok0 := hval 0 22 v0 rfl rfl
  obtain ⟨x1, rfl, rfl, rfl, _⟩ := open_int Tryd.underlying3 (hval 1 3 v1 rfl rfl) h1
  clear hA0 hval0 hsz0 hz0
  refine (lawCalls x1 W ok0 h0 hs0 (giOf hL)).mono fun e W' ⟨he, bel⟩ => ?_
  subst he
  exact ⟨_, rfl, _, _, _, [], _, [], hW', trodAll_mk1 (shut_bool Tryd.underlying4 _), (trodAll_cons_mk (Below.trod laidOut (by kernel_rfl) (of_decide_eq_true (by kernel_rfl)) k0 bel (lt k0)) (trodAll_cons_mk (Below.trod laidOut (by kernel_rfl) (of_decide_eq_true (by kernel_rfl)) k1 bel (lt k1)) trodAll_mk0)), rfl, bel.frame _, fun h => by cases h⟩
theorem over : Rows.bitRoundRow.holds Tryd.pinned (OpenSpec.ofChange Rows.bitRoundSpec) :=
  OpenClaim.holds_of_wide 4 Tryd.f4 rfl rfl rfl rfl rfl rfl rfl ⟨rfl, rfl, rfl, rfl, rfl⟩ rfl rfl rfl rfl rfl (by kernel_rfl) Tryd.func4 (by kernel_rfl)
    (of_decide_eq_true (by kernel_rfl)) (by unfold Func.isWrapper; first | (rw [if_pos (by decide +kernel)]; kernel_rfl) | (rw [if_neg (by decide +kernel)]; exact ⟨rfl, rfl⟩))
    (fun os started H enc _ => lifted os started H enc)
theorem proved : Rows.BitRoundSaid := over
#print axioms proved
end Go.Proofs.YtkpddpdhpffhbaaDoor.BitRoundRow
namespace Go.Proofs.YtkpddpdhpffhbaaDoor
theorem bitRound_said : Rows.BitRoundSaid := BitRoundRow.proved
/-- The card. -/
theorem bitRound_card : Rows.BitRoundCardSaid :=
  Claim7.holds_tied_plain_at .later [] [.data] true (true, "4d04cc217d3d930a5f86dc7d2115224f94b0c608d5d8853a526c167877c75729") false
    bitRound_said (fun _ h => by cases h) (by kernel_rfl) (fun _ h => by cases h) bitRound_row_tie rfl ⟨rfl, rfl⟩ (by kernel_rfl) rfl
    (fun f fn hf hfn => by
      obtain rfl : f = 4 := Option.some.inj ((show Tryd.prog.funcNamed "nocturn/nocturnlaw3.BitRound" = some 4 by kernel_rfl).symm.trans hf) |>.symm
      obtain rfl : fn = Tryd.f4 := (Option.some.inj (Tryd.func4.symm.trans hfn)).symm
      exact ⟨by kernel_rfl, fun j t ht => by
        rw [Tryd.params4] at ht
        have hm : t ∈ [22, 3] := by simpa using Array.mem_of_getElem? ht
        have hall : ([22, 3].all fun u => !Tryd.prog.wantsStandIn u) = true := by kernel_rfl
        exact (show Tryd.prog.wantsStandIn t = false by simpa using List.all_eq_true.1 hall t hm)⟩)
    (by kernel_rfl)
#print axioms bitRound_card
end Go.Proofs.YtkpddpdhpffhbaaDoor
