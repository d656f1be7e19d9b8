/- Code that is cut and run to its end from there on, for each of a few numbers. -/
import Derived.Test.YtndbcpfbddhonaaAb47
namespace Go.Ab
set_option linter.unusedSimpArgs false
set_option linter.unusedVariables false

/-- The slots that live, unmarked. -/
def clearA (live : List Nat) (sl : List (Option AV)) : List (Option AV) :=
  (sl.zipIdx).map fun (v, i) => match live.contains i with | true => v.map norm | false => none
theorem clearA_getD (l : List Nat) (sl : List (Option AV)) (t : Nat) (v : AV) (h : (clearA l sl).getD t none = some v) : ∃ u, sl.getD t none = some u ∧ v = norm u := by
  simp only [clearA, List.getD_eq_getElem?_getD, List.getElem?_map, List.getElem?_zipIdx] at h ⊢
  cases h1 : sl[t]? with
  | none => simp [h1] at h
  | some u =>
    simp only [h1, Option.map_some, Option.getD_some, Nat.zero_add] at h ⊢
    split at h
    · cases u with
      | none => cases h
      | some u0 => cases h; exact ⟨u0, rfl, rfl⟩
    · cases h
theorem clearA_slr {μ : Mu} {l : List Nat} {sl : List (Option AV)} {tmps : Array Value} (h : SlR μ sl tmps) : SlR μ (clearA l sl) tmps :=
  ⟨by simpa [clearA] using h.1, fun t v hv => by
    obtain ⟨u, hu, rfl⟩ := clearA_getD l sl t v hv
    rw [cn_norm']
    exact h.2 t u hu⟩
def endsYes (P : Program) (fn : Func) : Option (Out × St) → Bool
  | some (.exit _, _) => false
  | some (_, s) => match resL P s.m s.sl fn.results.toList with
    | some [.bool true] => true
    | _ => false
  | none => false
theorem endsYes_ok {P : Program} {fn : Func} {m : Mem} {r : Option (Out × St)} (h : endsYes P fn r = true) : ∃ o s', r = some (o, s') ∧ vEnd (fun _ => P) fn m (fun v _ _ => v = .bool true) o s' := by
  cases r with
  | none => cases h
  | some p =>
    obtain ⟨o, s'⟩ := p
    refine ⟨o, s', rfl, ?_⟩
    cases o with
    | exit id => cases h
    | normal =>
      simp only [endsYes] at h
      simp only [vEnd]
      split at h
      · rename_i e; rw [e]; rfl
      · cases h
    | ret =>
      simp only [endsYes] at h
      simp only [vEnd]
      split at h
      · rename_i e; rw [e]; rfl
      · cases h
/-- From here the code runs to its end and answers true. -/
structure RunQ (p : Unit → Program) (call : Unit → CallA) (code : Unit → Code) (fn : Unit → Func) (k : Nat) (live : List Nat) (s : St) : Prop where
  ok : endsYes (p ()) (fn ()) (aCode (p ()) (call ()) k (fun _ => none) 0 (code ()) ⟨clearA live s.sl, s.m, s.c⟩) = true
section
variable {P : Program}
theorem SafeC.run {call : CallA} (X : Ctx P call) {lo k : Nat} {code : Code} {fn : Func} {m : Mem} {live : List Nat} {s : St} (h : RunQ (fun _ => P) (fun _ => call) (fun _ => code) (fun _ => fn) k live s) : SafeC P lo code s (vEnd (fun _ => P) fn m fun v _ _ => v = .bool true) := by
  obtain ⟨o, s', e, hv⟩ := endsYes_ok (m := m) h.ok
  refine ⟨fun μ a w hlo hR Q hq => ?_⟩
  refine code_ok X.hm X.hcall X.hc code 0 ⟨clearA live s.sl, s.m, s.c⟩ o s' μ a w ⟨clearA_slr hR.sl, hR.sim, hR.fresh, hR.free⟩ hlo e fun μ' a' w' r g d => ?_
  have gw := g.w hlo
  exact hq o s' μ' a' w' hv r ⟨gw.same, gw.cle, gw.step, gw.logs, gw.kept⟩ d
/-- A function is walked up to the cut, and run from there. -/
theorem SafeC.cutRun {call call2 : CallA} (X : Ctx P call) (X2 : Ctx P call2) {lo : Nat} {fn : Func} {s : St} {m : Mem} (id k : Nat) (live : List Nat)
    (hK : ∀ K, cutK (fun _ => P) call lo id (bodyOf fn) K = K)
    (h : vCut (fun _ => P) call lo id (RunQ (fun _ => P) (fun _ => call2) (fun _ => cutC id (bodyOf fn)) (fun _ => fn) k live) (bodyOf fn) s (vEnd (fun _ => P) fn m fun v _ _ => v = .bool true)) : SafeC P lo (bodyOf fn) s (vEnd (fun _ => P) fn m fun v _ _ => v = .bool true) := by
  refine vCut_ok X (bodyOf fn) s h fun c hc s' hq => ?_
  rw [hK]
  have e : cutC id (bodyOf fn) = c := by rw [cutC, hc, Option.getD_some]
  rw [e] at hq
  exact SafeC.run X2 hq
end
/-- All that stands behind the cut. -/
def cutR (id : Nat) : Code → Option Code
  | .seq x y => match starts id y with
    | true => some y
    | false => match cutR id x with
      | some c => some (.seq c y)
      | none => cutR id y
  | .cond _ x y => match cutR id x with
    | some c => some c
    | none => cutR id y
  | .block b x => match cutR id x with
    | some c => some (.block b c)
    | none => none
  | _ => none
theorem cutR_Y (id : Nat) : ∀ code : Code, (cutR id code).isSome = (cutY id code).isSome := by
  intro code
  induction code with
  | seq x y ihx ihy =>
    simp only [cutR, cutY]
    cases starts id y with
    | true => rfl
    | false =>
      cases hx : cutY id x <;> cases hx2 : cutR id x <;> simp only [hx, hx2, Option.isSome, Bool.true_eq_false, Bool.false_eq_true] at ihx ⊢
      exact ihy
  | cond c x y ihx ihy =>
    simp only [cutR, cutY]
    cases hx : cutY id x <;> cases hx2 : cutR id x <;> simp only [hx, hx2, Option.isSome, Bool.true_eq_false, Bool.false_eq_true] at ihx ⊢
    exact ihy
  | block b x ih =>
    simp only [cutR, cutY]
    cases hx : cutY id x <;> cases hx2 : cutR id x <;> simp only [hx, hx2, Option.isSome, Bool.true_eq_false, Bool.false_eq_true] at ih ⊢
  | _ => rfl
section
variable {P : Program}
/-- It runs to its end, and there K holds. -/
def RunTo (P : Program) (call : CallA) (k : Nat) (c : Code) (s : St) (K : Out → St → Prop) : Prop :=
  ∃ (b : Nat) (o : Out) (s' : St), aCode P call k (fun _ => none) b c s = some (o, s') ∧ K o s'
theorem SafeC.runTo {call : CallA} (X : Ctx P call) {lo k : Nat} {code : Code} {s : St} {K : Out → St → Prop} (h : RunTo P call k code s K) : SafeC P lo code s K := by
  obtain ⟨b, o, s', e, hv⟩ := h
  refine ⟨fun μ a w hlo hR Q hq => ?_⟩
  refine code_ok X.hm X.hcall X.hc code b s o s' μ a w hR hlo e fun μ' a' w' r g d => ?_
  exact hq o s' μ' a' w' hv r (g.w hlo) d
def seqS (P : Program) (lo : Nat) (y : Code) (K : Out → St → Prop) : Out → St → Prop
  | .normal, s' => SafeC P lo y s' K
  | .exit id, s' => K (.exit id) s'
  | .ret, s' => K .ret s'
theorem SafeC.seqS {lo : Nat} {x y : Code} {s : St} {K : Out → St → Prop} (h : SafeC P lo x s (Go.Ab.seqS P lo y K)) : SafeC P lo (.seq x y) s K := by
  refine ⟨fun μ a w hlo hR Q hq => wp_seq (h.ok μ a w hlo hR _ fun o s1 μ1 a1 w1 k1 k2 k3 k4 => ?_)⟩
  cases o with
  | normal => exact SafeC.ok k1 μ1 a1 w1 k3.cle k2 Q fun o s' μ' a' w' j1 j2 j3 j4 => hq o s' μ' a' w' j1 j2 (k3.trans j3) (j4.trans k4)
  | exit id => exact hq _ s1 μ1 a1 w1 k1 k2 k3 k4
  | ret => exact hq _ s1 μ1 a1 w1 k1 k2 k3 k4
theorem SafeC.blockS {lo b : Nat} {x : Code} {s : St} {K : Out → St → Prop} (h : SafeC P lo x s (blockK b K)) : SafeC P lo (.block b x) s K := by
  refine ⟨fun μ a w hlo hR Q hq => wp_block (h.ok μ a w hlo hR _ fun o s1 μ1 a1 w1 k1 k2 k3 k4 => ?_)⟩
  cases o with
  | normal => exact hq _ s1 μ1 a1 w1 k1 k2 k3 k4
  | exit id' =>
    simp only [Out.ex, Exit.inBlock]
    simp only [blockK] at k1
    split at k1
    · rename_i e
      rw [if_pos (Nat.eq_of_beq_eq_true e)]
      exact hq .normal s1 μ1 a1 w1 k1 k2 k3 k4
    · rename_i e
      rw [if_neg (fun h => by rw [h] at e; simp at e)]
      exact hq (.exit id') s1 μ1 a1 w1 k1 k2 k3 k4
  | ret => exact hq _ s1 μ1 a1 w1 k1 k2 k3 k4
theorem vCutR_ok {call call2 : CallA} (X : Ctx P call) (X2 : Ctx P call2) {lo id k : Nat} {Q0 : St → Prop} (g : St → St) (hg : ∀ code s K, SafeC P lo code (g s) K → SafeC P lo code s K) : ∀ (code : Code) (s : St) {K K2 : Out → St → Prop}, (∀ o s', K o s' → K2 o s') → vCut (fun _ => P) call lo id Q0 code s K → (∀ s, Q0 s → ∀ c, cutR id code = some c → RunTo P call2 k c (g s) K2) → SafeC P lo code s K2 := by
  intro code
  induction code with
  | seq x y ihx ihy =>
    intro s K K2 hK h hQ
    simp only [vCut] at h
    simp only [cutR] at hQ
    cases hs : starts id y with
    | true =>
      simp only [hs] at h hQ
      refine SafeC.seqS ((vCode_ok X x s h).mono fun o s1 k1 => ?_)
      cases o with
      | normal => exact hg _ _ _ (SafeC.runTo X2 (hQ s1 k1 y rfl))
      | exit id => exact hK _ _ k1
      | ret => exact hK _ _ k1
    | false =>
      simp only [hs] at h hQ
      have hxy := cutR_Y id x
      cases hx : cutY id x with
      | some c =>
        simp only [hx] at h
        rw [hx] at hxy
        obtain ⟨c', hc'⟩ := Option.isSome_iff_exists.1 hxy
        simp only [hc'] at hQ
        refine SafeC.seqS (ihx s (K := seqK (vCode (fun _ => P) call lo y) K) (fun o s' k1 => ?_) h fun s hq c2 hc2 => ?_)
        · cases o with
          | normal => exact (vCode_ok X y s' k1).mono hK
          | exit id => exact hK _ _ k1
          | ret => exact hK _ _ k1
        · rw [hc'] at hc2; cases hc2
          obtain ⟨b, o, s', e, hv⟩ := hQ s hq _ rfl
          simp only [aCode] at e
          split at e
          · rename_i s1 e1
            exact ⟨b, .normal, s1, e1, SafeC.runTo X2 ⟨b, o, s', e, hv⟩⟩
          · refine ⟨b, o, s', e, ?_⟩
            rename_i hne
            cases o with
            | normal => exact absurd e (hne s')
            | exit id => exact hv
            | ret => exact hv
      | none =>
        simp only [hx] at h
        have hc' : cutR id x = none := by rw [hx] at hxy; cases hh : cutR id x with
          | none => rfl
          | some c => rw [hh] at hxy; cases hxy
        simp only [hc'] at hQ
        refine SafeC.seqS ((vCode_ok X x s h).mono fun o s1 k1 => ?_)
        cases o with
        | normal => exact ihy s1 hK k1 hQ
        | exit id => exact hK _ _ k1
        | ret => exact hK _ _ k1
  | cond c x y ihx ihy =>
    intro s K K2 hK h hQ
    refine ⟨fun μ a w hlo hR Q hq => ?_⟩
    simp only [vCut] at h
    simp only [cutR] at hQ
    have hxy := cutR_Y id x
    split at h
    · rename_i he
      have := hR.sl.eval (P := P) c _ he
      simp only [cn, Option.some.injEq] at this
      refine wp_cond_true this.symm ?_
      cases hx : cutY id x with
      | some c' =>
        simp only [hx] at h
        rw [hx] at hxy
        obtain ⟨c1, hc1⟩ := Option.isSome_iff_exists.1 hxy
        simp only [hc1] at hQ
        exact (ihx s hK h fun s hq c2 hc2 => by rw [hc1] at hc2; cases hc2; exact hQ s hq _ rfl).ok μ a w hlo hR Q hq
      | none =>
        simp only [hx] at h
        exact ((vCode_ok X x s h).mono hK).ok μ a w hlo hR Q hq
    · rename_i he
      have := hR.sl.eval (P := P) c _ he
      simp only [cn, Option.some.injEq] at this
      refine wp_cond_false this.symm ?_
      cases hx : cutY id x with
      | some c' =>
        simp only [hx] at h
        exact ((vCode_ok X y s h).mono hK).ok μ a w hlo hR Q hq
      | none =>
        simp only [hx] at h
        have hc' : cutR id x = none := by rw [hx] at hxy; cases hh : cutR id x with
          | none => rfl
          | some c => rw [hh] at hxy; cases hxy
        simp only [hc'] at hQ
        exact (ihy s hK h hQ).ok μ a w hlo hR Q hq
    · exact h.elim
  | block b x ih =>
    intro s K K2 hK h hQ
    simp only [vCut] at h
    simp only [cutR] at hQ
    refine SafeC.blockS (ih s (K := blockK b K) (fun o s' k1 => ?_) h fun s hq c hc => ?_)
    · cases o with
      | normal => exact hK _ _ k1
      | exit id' =>
        cases hb : id'.beq b <;> simp only [blockK, hb] at k1 ⊢ <;> exact hK _ _ k1
      | ret => exact hK _ _ k1
    · rw [hc] at hQ
      obtain ⟨b2, o, s', e, hv⟩ := hQ s hq _ rfl
      simp only [aCode] at e
      split at e
      · rename_i id' s1 e1
        split at e
        · rename_i e2
          cases e
          refine ⟨b, .exit id', _, e1, ?_⟩
          subst e2
          simp only [blockK, Nat.beq_refl]
          exact hv
        · rename_i e2
          cases e
          refine ⟨b, .exit id', _, e1, ?_⟩
          have : id'.beq b = false := by
            cases hb : id'.beq b with
            | false => rfl
            | true => exact absurd (Nat.eq_of_beq_eq_true hb) e2
          simp only [blockK, this]
          exact hv
      · rename_i hne
        refine ⟨b, o, s', e, ?_⟩
        cases o with
        | normal => exact hv
        | exit id => exact absurd e (hne id s')
        | ret => exact hv
  | _ => intro s K K2 hK h _; exact (vCode_ok X _ s h).mono hK
theorem SafeC.clear {lo : Nat} (live : List Nat) (code : Code) (s : St) (K : Out → St → Prop) (h : SafeC P lo code ⟨clearA live s.sl, s.m, s.c⟩ K) : SafeC P lo code s K :=
  ⟨fun μ a w hlo hR Q hq => h.ok μ a w hlo ⟨clearA_slr hR.sl, hR.sim, hR.fresh, hR.free⟩ Q fun o s' μ' a' w' k1 k2 k3 k4 => hq o s' μ' a' w' k1 k2 ⟨k3.same, k3.cle, k3.step, k3.logs, k3.kept⟩ k4⟩
def cutRC (id : Nat) (code : Code) : Code := (cutR id code).getD .skip
/-- A function is walked up to the cut (which may lie in a switch), and run from there. -/
theorem SafeC.cutRunR {call call2 : CallA} (X : Ctx P call) (X2 : Ctx P call2) {lo : Nat} {fn : Func} {s : St} {m : Mem} (id k : Nat) (live : List Nat)
    (h : vCut (fun _ => P) call lo id (RunQ (fun _ => P) (fun _ => call2) (fun _ => cutRC id (bodyOf fn)) (fun _ => fn) k live) (bodyOf fn) s (vEnd (fun _ => P) fn m fun v _ _ => v = .bool true)) : SafeC P lo (bodyOf fn) s (vEnd (fun _ => P) fn m fun v _ _ => v = .bool true) := by
  refine vCutR_ok X X2 (k := k) (fun s => ⟨clearA live s.sl, s.m, s.c⟩) (fun code s K hs => SafeC.clear live code s K hs) (bodyOf fn) s (fun o s' k1 => k1) h fun s hq c hc => ?_
  obtain ⟨o, s', e, hv⟩ := endsYes_ok (m := m) hq.ok
  have e2 : cutRC id (bodyOf fn) = c := by rw [cutRC, hc, Option.getD_some]
  rw [e2] at e
  exact ⟨0, o, s', e, hv⟩
end
/-- A closed call is run: its answer is good, it wrote nothing old. -/
def ranOK (good : AV → Bool) (m : Mem) (c : Nat) : Option (AV × Mem × Nat) → Bool
  | some (v, m', _) => v.flat && (calmB m c m' && good v)
  | none => false
theorem CallT.ran {P : Program} {call : CallA} (X2 : Ctx P call) (good : AV → Bool) {f : FuncId} {vs : List AV} {m : Mem} {c : Nat} {K : AV → Mem → Nat → Prop} (h : ranOK good m c (call f vs m c) = true) (hk : ∀ v, good v = true → K v m c) : CallT (fun _ => P) f vs m c K := by
  cases e : call f vs m c with
  | none => rw [e] at h; cases h
  | some r =>
    obtain ⟨v, m', c'⟩ := r
    rw [e] at h
    simp only [ranOK, Bool.and_eq_true] at h
    exact CallT.calm ⟨CallS.of_call X2.hcall e ⟨h.1, h.2.1, hk v h.2.2⟩⟩
theorem all_ints (lo : Int) (n : Nat) (f : Int → Bool) (h : (List.range n).all (fun i => f (lo + Int.ofNat i)) = true) (z : Int) (h1 : lo ≤ z) (h2 : z < lo + Int.ofNat n) : f z = true := by
  have h3 := List.all_eq_true.1 h (z - lo).toNat (List.mem_range.2 (by simp only [Int.ofNat_eq_natCast] at h2; omega))
  rw [show lo + Int.ofNat (z - lo).toNat = z by simp only [Int.ofNat_eq_natCast]; omega] at h3
  exact h3
/-- Two of them. -/
theorem all_ints2 (lo : Int) (n : Nat) (lo' : Int) (n' : Nat) (f : Int → Int → Bool) (h : (List.range n).all (fun i => (List.range n').all fun j => f (lo + Int.ofNat i) (lo' + Int.ofNat j)) = true) (z y : Int) (h1 : lo ≤ z) (h2 : z < lo + Int.ofNat n) (k1 : lo' ≤ y) (k2 : y < lo' + Int.ofNat n') : f z y = true :=
  all_ints lo' n' (f z) (all_ints lo n (fun z => (List.range n').all fun j => f z (lo' + Int.ofNat j)) h z h1 h2) y k1 k2
end Go.Ab
