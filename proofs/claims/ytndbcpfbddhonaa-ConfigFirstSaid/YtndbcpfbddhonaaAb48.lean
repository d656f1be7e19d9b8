/- Code that is cut and run to its end from there on, for each of a few numbers. -/
import Derived.Test.YtndbcpfbddhonaaAb47
namespace Go.Ab
set_option linter.unusedSimpArgs false
set_option linter.unusedVariables false

/-- The slots that live, unmarked. -/
def clearA (live : List Nat) (sl : List (Option AV)) : List (Option AV) :=
  (sl.zipIdx).map fun (v, i) => match live.contains i with | true => v.map norm | false => none
theorem clearA_getD (l : List Nat) (sl : List (Option AV)) (t : Nat) (v : AV) (h : (clearA l sl).getD t none = some v) : ∃ u, sl.getD t none = some u ∧ v = norm u := by
  simp only [clearA, List.getD_eq_getElem?_getD, List.getElem?_map, List.getElem?_zipIdx] at h ⊢
  cases h1 : sl[t]? with
  | none => simp [h1] at h
  | some u =>
    simp only [h1, Option.map_some, Option.getD_some, Nat.zero_add] at h ⊢
    split at h
    · cases u with
      | none => cases h
      | some u0 => cases h; exact ⟨u0, rfl, rfl⟩
    · cases h
theorem clearA_slr {μ : Mu} {l : List Nat} {sl : List (Option AV)} {tmps : Array Value} (h : SlR μ sl tmps) : SlR μ (clearA l sl) tmps :=
  ⟨by simpa [clearA] using h.1, fun t v hv => by
    obtain ⟨u, hu, rfl⟩ := clearA_getD l sl t v hv
    rw [cn_norm']
    exact h.2 t u hu⟩
def endsYes (P : Program) (fn : Func) : Option (Out × St) → Bool
  | some (.exit _, _) => false
  | some (_, s) => match resL P s.m s.sl fn.results.toList with
    | some [.bool true] => true
    | _ => false
  | none => false
theorem endsYes_ok {P : Program} {fn : Func} {m : Mem} {r : Option (Out × St)} (h : endsYes P fn r = true) : ∃ o s', r = some (o, s') ∧ vEnd (fun _ => P) fn m (fun v _ _ => v = .bool true) o s' := by
  cases r with
  | none => cases h
  | some p =>
    obtain ⟨o, s'⟩ := p
    refine ⟨o, s', rfl, ?_⟩
    cases o with
    | exit id => cases h
    | normal =>
      simp only [endsYes] at h
      simp only [vEnd]
      split at h
      · rename_i e; rw [e]; rfl
      · cases h
    | ret =>
      simp only [endsYes] at h
      simp only [vEnd]
      split at h
      · rename_i e; rw [e]; rfl
      · cases h
/-- From here the code runs to its end and answers true. -/
structure RunQ (p : Unit → Program) (call : Unit → CallA) (code : Unit → Code) (fn : Unit → Func) (k : Nat) (live : List Nat) (s : St) : Prop where
  ok : endsYes (p ()) (fn ()) (aCode (p ()) (call ()) k (fun _ => none) 0 (code ()) ⟨clearA live s.sl, s.m, s.c⟩) = true
section
variable {P : Program}
theorem SafeC.run {call : CallA} (X : Ctx P call) {lo k : Nat} {code : Code} {fn : Func} {m : Mem} {live : List Nat} {s : St} (h : RunQ (fun _ => P) (fun _ => call) (fun _ => code) (fun _ => fn) k live s) : SafeC P lo code s (vEnd (fun _ => P) fn m fun v _ _ => v = .bool true) := by
  obtain ⟨o, s', e, hv⟩ := endsYes_ok (m := m) h.ok
  refine ⟨fun μ a w hlo hR Q hq => ?_⟩
  refine code_ok X.hm X.hcall X.hc code 0 ⟨clearA live s.sl, s.m, s.c⟩ o s' μ a w ⟨clearA_slr hR.sl, hR.sim, hR.fresh, hR.free⟩ hlo e fun μ' a' w' r g d => ?_
  have gw := g.w hlo
  exact hq o s' μ' a' w' hv r ⟨gw.same, gw.cle, gw.step, gw.logs, gw.kept⟩ d
/-- A function is walked up to the cut, and run from there. -/
theorem SafeC.cutRun {call call2 : CallA} (X : Ctx P call) (X2 : Ctx P call2) {lo : Nat} {fn : Func} {s : St} {m : Mem} (id k : Nat) (live : List Nat)
    (hK : ∀ K, cutK (fun _ => P) call lo id (bodyOf fn) K = K)
    (h : vCut (fun _ => P) call lo id (RunQ (fun _ => P) (fun _ => call2) (fun _ => cutC id (bodyOf fn)) (fun _ => fn) k live) (bodyOf fn) s (vEnd (fun _ => P) fn m fun v _ _ => v = .bool true)) : SafeC P lo (bodyOf fn) s (vEnd (fun _ => P) fn m fun v _ _ => v = .bool true) := by
  refine vCut_ok X (bodyOf fn) s h fun c hc s' hq => ?_
  rw [hK]
  have e : cutC id (bodyOf fn) = c := by rw [cutC, hc, Option.getD_some]
  rw [e] at hq
  exact SafeC.run X2 hq
end
theorem all_ints (lo : Int) (n : Nat) (f : Int → Bool) (h : (List.range n).all (fun i => f (lo + Int.ofNat i)) = true) (z : Int) (h1 : lo ≤ z) (h2 : z < lo + Int.ofNat n) : f z = true := by
  have h3 := List.all_eq_true.1 h (z - lo).toNat (List.mem_range.2 (by simp only [Int.ofNat_eq_natCast] at h2; omega))
  rw [show lo + Int.ofNat (z - lo).toNat = z by simp only [Int.ofNat_eq_natCast]; omega] at h3
  exact h3
/-- Two of them. -/
theorem all_ints2 (lo : Int) (n : Nat) (lo' : Int) (n' : Nat) (f : Int → Int → Bool) (h : (List.range n).all (fun i => (List.range n').all fun j => f (lo + Int.ofNat i) (lo' + Int.ofNat j)) = true) (z y : Int) (h1 : lo ≤ z) (h2 : z < lo + Int.ofNat n) (k1 : lo' ≤ y) (k2 : y < lo' + Int.ofNat n') : f z y = true :=
  all_ints lo' n' (f z) (all_ints lo n (fun z => (List.range n').all fun j => f z (lo' + Int.ofNat j)) h z h1 h2) y k1 k2
end Go.Ab
