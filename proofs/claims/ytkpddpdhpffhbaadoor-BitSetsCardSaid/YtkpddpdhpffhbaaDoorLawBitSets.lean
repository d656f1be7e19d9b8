/- The statement BitSets: at any input the law returns true, and the input reads as it did. -/
import Derived.Test.YtkpddpdhpffhbaaDoorRows
import Derived.Test.YtkpddpdhpffhbaaDoorBitI
import Derived.Test.YtkpddpdhpffhbaaDoorAb46
import Derived.Test.YtkpddpdhpffhbaaDoorCards
import Derived.Test.YtkpddpdhpffhbaaDoorTie
import Derived.Lib.LaidTab
import Derived.MakeChecks
import Derived.LaidHandle
import Derived.LaidMore
import Derived.Stop.Joined
import Derived.SevenTiedAt
import Derived.WalkKit
import Derived.ProofKit
import Derived.OpenShut
import Derived.ShutString
import Derived.ChangeOld
import Derived.Below
import Derived.Carry
import Derived.SizedLaws
namespace Go.Proofs.YtkpddpdhpffhbaaDoor.BitSetsRow
open Go.ChangeShapes Go.WideShapes Go.ChangeAt Go.RowKit Go.Ab
open Go.ChangeMaps (open_string shut_string)
set_option linter.unusedVariables false
theorem own : ownKnob Tryd.prog.godebug = none := by kernel_rfl
theorem laidOut : laidOutB Tryd.prog = true := by kernel_rfl
abbrev laidL : List (String × DataW Unit) := [("math/bits.deBruijn64tab", Rows.laid_math_bits_deBruijn64tab)]
theorem tabNo : Tryd.prog.globalNamed "math/bits.deBruijn64tab" = some 0 := by kernel_rfl
theorem tabTy : (Tryd.prog.globals[0]?).map (·.type) = some 52 := by kernel_rfl
theorem tabEq : (Rows.laid_math_bits_deBruijn64tab : DataW Unit) = Lib.tabData .u8 (deB.map Int.ofNat) := by kernel_rfl
theorem giOf {W : World} (h : laidMetH Tryd.prog laidL W) : GI (fun _ => none) (fun _ => none) W := by
  rw [MakeChecks.laidMetH_plain _ _ _ (by kernel_rfl)] at h
  have h' : laidMet Tryd.prog [("math/bits.deBruijn64tab", Lib.tabData .u8 (deB.map Int.ofNat))] W := by rw [← tabEq]; exact h
  have hT := Lib.tabIs_of_head tabNo tabTy (t := 52) (e := 5) (n := 64) (by kernel_rfl) (by kernel_rfl) (by kernel_rfl) (by kernel_rfl) h'
  have hc : ∀ i : Nat, i < 64 → W.cell? ⟨0, i, none⟩ = some (.int .u8 (deB.getD i 0 : Nat)) := fun i hi => by
    rw [hT.cell tabNo i (by simp [deB]; omega)]
    congr 2
    rw [List.getD_eq_getElem?_getD, List.getElem?_map, List.getD_eq_getElem?_getD]
    cases deB[i]? <;> rfl
  refine ⟨fun g q hq => ?_⟩
  simp only [tabs, List.mem_singleton, Prod.mk.injEq] at hq
  obtain ⟨rfl, rfl⟩ := hq
  refine ⟨?_, fun n b p hn => by cases hn⟩
  have h0 := hc 0 (by decide)
  cases ho : W.heap[0]? with
  | none => simp [World.cell?, ho] at h0
  | some o =>
    refine ⟨o, rfl, ?_⟩
    cases o with
    | cells cs el fz =>
      intro i hi
      have := hc i hi
      rwa [cell_mk ho] at this
    | _ => simp [World.cell?, ho] at h0
theorem doorMet (os : Os) (args : Array Value) : laidMetH Tryd.prog laidL ((World.doorLaid Tryd.prog 400 os).forCall (fun _ _ => 0) ⟨#[], args, []⟩).memory :=
  laidMetH_of_parts3 (fuel := 8) (laidMet_of_run' 8 (by kernel_rfl) (by kernel_rfl)) (by kernel_rfl) (by kernel_rfl)
theorem elemFlat1 : flatT Tryd.prog 4 3 = some [.int .i64] := by kernel_rfl
theorem elemBytes1 : Tryd.prog.bytesOf 3 = 8 := by kernel_rfl
set_option maxRecDepth 100000 in
theorem lawCalls {H : Type} {enc : TypeId × Value → H} {base b2 : Nat} {sp : Nat → Bool} {held : Bool} {v1 : Value} {d1 : DataW H} {q1 : List MemPlace} (x0 : Int) (x2 : Int) (x3 : Int) (W : World) (hok1 : Value.okWide Tryd.prog W .any b2 22 v1) (h1 : DataW.Trod enc Tryd.prog W base sp held 22 v1 d1 q1) (hsz1 : ∀ es sp, d1 = .slice es sp → (es.length + sp.length) * Tryd.prog.bytesOf 3 ≤ reachBytes) (hG : GI (fun _ => none) (fun _ => none) W) : Calls Tryd.prog 5 #[.int .i64 x0, v1, .int .i64 x2, .int .i64 x3] W fun e w' => e = .returned (.bool true) ∧ RowKit.Below W.heap.size W w' := by
  rcases open_rows Tryd.underlying22 elemFlat1 (z := 1) (by kernel_rfl) rfl hok1 h1 with rfl | ⟨a1, len1, cap1, vals1, es1, sp1, rfl, hsp1, hcap1, hlen1, hvals1, rfl, hes1, hlies1⟩
  ·
    have hc := Bit.bitSets_n  x0 x2 x3
    refine CallS.callsL (w := W) (args := [.int .i64 x0, .slice none 0 0, .int .i64 x2, .int .i64 x3]) Tryd.func5 (by kernel_rfl) (by decide) [] hc ?_ ?_ hG
    · intro x hx
      cases hx
    · change cnL (muL []) _ = _
      simp only [cnL] <;> rfl
  ·
    obtain ⟨xs1, rfl, hxs1⟩ := rows_of (fun row hr => int_open hr) vals1 hvals1
    have hl1 : len1 = xs1.length := by rw [← hlen1, List.length_map]
    have hb1 : len1 * 8 ≤ 140737488351232 := by
      have h1 := hsz1 es1 sp1 rfl
      rw [elemBytes1, hes1] at h1
      have h2 : reachBytes = 140737488351232 := by decide
      rw [h2] at h1
      omega
    have hm1 : (xs1.map ivals).map (·.map avOf) = xs1.map iv := by rw [List.map_map]; exact List.map_congr_left fun x _ => rfl
    have hc := Bit.bitSets_s xs1 (xs1.map iv) len1 cap1 hl1 (map_flat xs1 fun x => rfl) (At.map iv xs1) hxs1 hb1 rfl x0 x2 x3
    rw [← hm1] at hc
    refine CallS.callsL (w := W) (args := [.int .i64 x0, .slice (some a1) len1 cap1, .int .i64 x2, .int .i64 x3]) Tryd.func5 (by kernel_rfl) (by decide) [(⟨a1.block, a1.off, 0⟩, 1, xs1.map ivals)] hc ?_ ?_ hG
    · intro x hx
      simp only [List.mem_cons, List.not_mem_nil, or_false] at hx
      rcases hx with rfl
      · exact hlies1
    · change cnL (muL [⟨a1.block, a1.off, 0⟩]) _ = _
      have e1 : cn (muL [⟨a1.block, a1.off, 0⟩]) (.sym (.slice 0 1 0 len1 cap1 false none)) = some (.slice (some a1) len1 cap1) := slice_cn rfl hsp1
      simp only [cnL, e1] <;> rfl
set_option maxHeartbeats 1000000 in
set_option maxRecDepth 100000 in
theorem lifted (os : Os) (started : os.Started) (H : Type) (enc : TypeId × Value → H) :
    ReturnsInHanded {} Tryd.checked os 5 .any (fun w args => (Rows.bitSetsSpec.pre enc Tryd.prog Tryd.f5 Rows.bitSetsRow.domain false w args ∧ laidMetH Tryd.prog laidL w) ∧ sizedMet enc Tryd.prog Tryd.f5 (OpenSpec.ofChange Rows.bitSetsSpec) false w args)
      (Rows.bitSetsSpec.post enc Tryd.prog Tryd.f5 false true false false) := by
  refine returnsInHanded_of_change_and (C := Tryd.checked) (X := fun w _ => laidMetH Tryd.prog laidL w) (fun _ _ _ hh h => h.of_heap hh) own started (by kernel_rfl) Tryd.func5
    (ChangeSpec.witness_shaped (enc := enc) (C := Tryd.checked) (os := os) (X := fun w _ => laidMetH Tryd.prog laidL w) false (World.doorLaid Tryd.prog 400 os) #[.int .i64 0, .slice none 0 0, .int .i64 0, .int .i64 0] 8 rfl (World.shaped_of_RefB (by kernel_rfl) (by kernel_rfl)) (by kernel_rfl) (by kernel_rfl) (by kernel_rfl) (doorMet os _)) ?_
  intro W base args ds gs before hval0 hW hcnd hsz0 hL _
  have hval : ∀ (j : Nat) t v, Tryd.f5.params[j]? = some t → args[j]? = some v → Value.okWide Tryd.prog W .any base t v := hval0
  have hW' := hW
  obtain ⟨p, q, hA0, hV, rfl, hfz, hnd⟩ := hW
  have hA : DataW.TrodAll enc Tryd.prog W 0 (fun _ => true) true Tryd.f5.params.toList args.toList ds p := hA0
  rw [Tryd.params5] at hA hval
  have hz1 : ∀ (j : Nat) es sp, (Tryd.f5.params.toList ++ Rows.bitSetsSpec.plain.varTypes Tryd.prog)[j]? = some 22 → (ds ++ gs)[j]? = some (.slice es sp) → (es.length + sp.length) * Tryd.prog.bytesOf 3 ≤ reachBytes := fun j es sp h1 h2 => sized_slice hsz0 h1 h2 Tryd.underlying22
  rw [Tryd.params5] at hz1
  obtain ⟨v0, vs0, d0, ds0, p0, q0, hargs, rfl, rfl, h0, r0⟩ := trodAll_cons hA
  obtain ⟨v1, vs1, d1, ds1, p1, q1, rfl, rfl, rfl, h1, r1⟩ := trodAll_cons r0
  obtain ⟨v2, vs2, d2, ds2, p2, q2, rfl, rfl, rfl, h2, r2⟩ := trodAll_cons r1
  obtain ⟨v3, vs3, d3, ds3, p3, q3, rfl, rfl, rfl, h3, r3⟩ := trodAll_cons r2
  obtain ⟨rfl, rfl, rfl⟩ := trodAll_nil r3
  obtain rfl : args = #[v0, v1, v2, v3] := by cases args; simp_all
  obtain ⟨rfl, rfl⟩ := trodVars_none hV
  have k0 := h0
  have k1 := h1
  have k2 := h2
  have k3 := h3
  have lt : ∀ {t : TypeId} {v : Value} {d : DataW H} {p : List MemPlace}, DataW.Trod enc Tryd.prog W 0 (fun _ => true) true t v d p → ∀ x ∈ p, x.block < W.heap.size := fun h => by
    obtain ⟨m, hm⟩ := h
    exact DataW.trod_lt m _ _ _ hm
  have hs1 : ∀ es sp, d1 = .slice es sp → (es.length + sp.length) * Tryd.prog.bytesOf 3 ≤ reachBytes := fun es sp e => hz1 1 es sp rfl (by rw [e]; rfl)
  have ok1 := hval 1 22 v1 rfl rfl
  obtain ⟨x0, rfl, rfl, rfl, _⟩ := open_int Tryd.underlying3 (hval 0 3 v0 rfl rfl) h0
  obtain ⟨x2, rfl, rfl, rfl, _⟩ := open_int Tryd.underlying3 (hval 2 3 v2 rfl rfl) h2
  obtain ⟨x3, rfl, rfl, rfl, _⟩ := open_int Tryd.underlying3 (hval 3 3 v3 rfl rfl) h3
  clear hA0 hval0 hsz0 hz1
  refine (lawCalls x0 x2 x3 W ok1 h1 hs1 (giOf hL)).mono fun e W' ⟨he, bel⟩ => ?_
  subst he
  exact ⟨_, rfl, _, _, _, [], _, [], hW', trodAll_mk1 (shut_bool Tryd.underlying4 _), (trodAll_cons_mk (Below.trod laidOut (by kernel_rfl) (of_decide_eq_true (by kernel_rfl)) k0 bel (lt k0)) (trodAll_cons_mk (Below.trod laidOut (by kernel_rfl) (of_decide_eq_true (by kernel_rfl)) k1 bel (lt k1)) (trodAll_cons_mk (Below.trod laidOut (by kernel_rfl) (of_decide_eq_true (by kernel_rfl)) k2 bel (lt k2)) (trodAll_cons_mk (Below.trod laidOut (by kernel_rfl) (of_decide_eq_true (by kernel_rfl)) k3 bel (lt k3)) trodAll_mk0)))), rfl, bel.frame _, fun h => by cases h⟩
theorem over : Rows.bitSetsRow.holds Tryd.pinned (OpenSpec.ofChange Rows.bitSetsSpec) :=
  OpenClaim.holds_of_wide 5 Tryd.f5 rfl rfl rfl rfl rfl rfl rfl ⟨rfl, rfl, rfl, rfl, rfl⟩ rfl rfl rfl rfl rfl (by kernel_rfl) Tryd.func5 (by kernel_rfl)
    (of_decide_eq_true (by kernel_rfl)) (by unfold Func.isWrapper; first | (rw [if_pos (by decide +kernel)]; kernel_rfl) | (rw [if_neg (by decide +kernel)]; exact ⟨rfl, rfl⟩))
    (fun os started H enc _ => lifted os started H enc)
theorem proved : Rows.BitSetsSaid := over
#print axioms proved
end Go.Proofs.YtkpddpdhpffhbaaDoor.BitSetsRow
namespace Go.Proofs.YtkpddpdhpffhbaaDoor
theorem bitSets_said : Rows.BitSetsSaid := BitSetsRow.proved
/-- The card. -/
theorem bitSets_card : Rows.BitSetsCardSaid :=
  Claim7.holds_tied_plain_at .later [] [.data] true (true, "4d04cc217d3d930a5f86dc7d2115224f94b0c608d5d8853a526c167877c75729") false
    bitSets_said (fun _ h => by cases h) (by kernel_rfl) (fun _ h => by cases h) bitSets_row_tie rfl ⟨rfl, rfl⟩ (by kernel_rfl) rfl
    (fun f fn hf hfn => by
      obtain rfl : f = 5 := Option.some.inj ((show Tryd.prog.funcNamed "nocturn/nocturnlaw3.BitSets" = some 5 by kernel_rfl).symm.trans hf) |>.symm
      obtain rfl : fn = Tryd.f5 := (Option.some.inj (Tryd.func5.symm.trans hfn)).symm
      exact ⟨by kernel_rfl, fun j t ht => by
        rw [Tryd.params5] at ht
        have hm : t ∈ [3, 22, 3, 3] := by simpa using Array.mem_of_getElem? ht
        have hall : ([3, 22, 3, 3].all fun u => !Tryd.prog.wantsStandIn u) = true := by kernel_rfl
        exact (show Tryd.prog.wantsStandIn t = false by simpa using List.all_eq_true.1 hall t hm)⟩)
    (by kernel_rfl)
#print axioms bitSets_card
end Go.Proofs.YtkpddpdhpffhbaaDoor
