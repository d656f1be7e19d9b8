/- Ways that meet again: a cut in a piece of code, behind which it is walked once. -/
import Derived.Test.YtndbcpfbddhonaaAb46
namespace Go.Ab
set_option linter.unusedSimpArgs false
set_option linter.unusedVariables false

/-- Does a piece of code begin with this region? -/
def starts (id : Nat) : Code → Bool
  | .region i _ _ => Nat.beq i id
  | .seq x _ => starts id x
  | .block _ x => starts id x
  | _ => false
/-- What stands from the cut on, as far as its own row goes. -/
def cutY (id : Nat) : Code → Option Code
  | .seq x y => match starts id y with
    | true => some y
    | false => match cutY id x with
      | some c => some c
      | none => cutY id y
  | .cond _ x y => match cutY id x with
    | some c => some c
    | none => cutY id y
  | .block _ x => cutY id x
  | _ => none
def cutC (id : Nat) (code : Code) : Code := (cutY id code).getD .skip
/-- What is owed behind it. -/
def cutK (p : Unit → Program) (call : CallA) (lo id : Nat) : Code → (Out → St → Prop) → (Out → St → Prop)
  | .seq x y, K => match starts id y with
    | true => K
    | false => match cutY id x with
      | some _ => cutK p call lo id x (seqK (vCode p call lo y) K)
      | none => cutK p call lo id y K
  | .cond _ x y, K => match cutY id x with
    | some _ => cutK p call lo id x K
    | none => cutK p call lo id y K
  | .block b x, K => cutK p call lo id x (blockK b K)
  | _, K => K
def seqQ (Q : St → Prop) (K : Out → St → Prop) : Out → St → Prop
  | .normal, s' => Q s'
  | .exit id, s' => K (.exit id) s'
  | .ret, s' => K .ret s'
/-- Code walked up to the cut: there Q is owed. -/
def vCut (p : Unit → Program) (call : CallA) (lo id : Nat) (Q : St → Prop) : Code → St → (Out → St → Prop) → Prop
  | .seq x y, s, K => match starts id y with
    | true => vCode p call lo x s (seqQ Q K)
    | false => match cutY id x with
      | some _ => vCut p call lo id Q x s (seqK (vCode p call lo y) K)
      | none => vCode p call lo x s (seqK (vCut p call lo id Q y) K)
  | .cond c x y, s, K => match evalA s.sl c with
    | some (.bool true) => match cutY id x with
      | some _ => vCut p call lo id Q x s K
      | none => vCode p call lo x s K
    | some (.bool false) => match cutY id x with
      | some _ => vCode p call lo y s K
      | none => vCut p call lo id Q y s K
    | _ => False
  | .block b x, s, K => vCut p call lo id Q x s (blockK b K)
  | c, s, K => vCode p call lo c s K
section
variable {P : Program}
theorem vCut_ok {call : CallA} (X : Ctx P call) {lo id : Nat} {Q0 : St → Prop} : ∀ (code : Code) (s : St) {K : Out → St → Prop}, vCut (fun _ => P) call lo id Q0 code s K → (∀ c, cutY id code = some c → ∀ s, Q0 s → SafeC P lo c s (cutK (fun _ => P) call lo id code K)) → SafeC P lo code s K := by
  intro code
  induction code with
  | seq x y ihx ihy =>
    intro s K h hQ
    simp only [vCut] at h
    simp only [cutY, cutK] at hQ
    cases hs : starts id y with
    | true =>
      simp only [hs] at h hQ
      refine ⟨fun μ a w hlo hR Q hq => wp_seq ((vCode_ok X x s h).ok μ a w hlo hR _ fun o s1 μ1 a1 w1 k1 k2 k3 k4 => ?_)⟩
      cases o with
      | normal => exact (hQ y rfl s1 k1).ok μ1 a1 w1 k3.cle k2 Q fun o s' μ' a' w' j1 j2 j3 j4 => hq o s' μ' a' w' j1 j2 (k3.trans j3) (j4.trans k4)
      | exit id => exact hq _ s1 μ1 a1 w1 k1 k2 k3 k4
      | ret => exact hq _ s1 μ1 a1 w1 k1 k2 k3 k4
    | false =>
      simp only [hs] at h hQ
      cases hx : cutY id x with
      | some c =>
        simp only [hx] at h hQ
        have h2 := ihx s h fun c' hc' => by rw [hx] at hc'; cases hc'; exact hQ c rfl
        refine ⟨fun μ a w hlo hR Q hq => wp_seq (h2.ok μ a w hlo hR _ fun o s1 μ1 a1 w1 k1 k2 k3 k4 => ?_)⟩
        cases o with
        | normal => exact (vCode_ok X y s1 k1).ok μ1 a1 w1 k3.cle k2 Q fun o s' μ' a' w' j1 j2 j3 j4 => hq o s' μ' a' w' j1 j2 (k3.trans j3) (j4.trans k4)
        | exit id => exact hq _ s1 μ1 a1 w1 k1 k2 k3 k4
        | ret => exact hq _ s1 μ1 a1 w1 k1 k2 k3 k4
      | none =>
        simp only [hx] at h hQ
        refine ⟨fun μ a w hlo hR Q hq => wp_seq ((vCode_ok X x s h).ok μ a w hlo hR _ fun o s1 μ1 a1 w1 k1 k2 k3 k4 => ?_)⟩
        cases o with
        | normal => exact (ihy s1 k1 hQ).ok μ1 a1 w1 k3.cle k2 Q fun o s' μ' a' w' j1 j2 j3 j4 => hq o s' μ' a' w' j1 j2 (k3.trans j3) (j4.trans k4)
        | exit id => exact hq _ s1 μ1 a1 w1 k1 k2 k3 k4
        | ret => exact hq _ s1 μ1 a1 w1 k1 k2 k3 k4
  | cond c x y ihx ihy =>
    intro s K h hQ
    refine ⟨fun μ a w hlo hR Q hq => ?_⟩
    simp only [vCut] at h
    simp only [cutY, cutK] at hQ
    split at h
    · rename_i he
      have := hR.sl.eval (P := P) c _ he
      simp only [cn, Option.some.injEq] at this
      refine wp_cond_true this.symm ?_
      cases hx : cutY id x with
      | some c' =>
        simp only [hx] at h hQ
        exact (ihx s h fun c2 hc2 => by rw [hx] at hc2; cases hc2; exact hQ c' rfl).ok μ a w hlo hR Q hq
      | none =>
        simp only [hx] at h
        exact (vCode_ok X x s h).ok μ a w hlo hR Q hq
    · rename_i he
      have := hR.sl.eval (P := P) c _ he
      simp only [cn, Option.some.injEq] at this
      refine wp_cond_false this.symm ?_
      cases hx : cutY id x with
      | some c' =>
        simp only [hx] at h
        exact (vCode_ok X y s h).ok μ a w hlo hR Q hq
      | none =>
        simp only [hx] at h hQ
        exact (ihy s h hQ).ok μ a w hlo hR Q hq
    · exact h.elim
  | block b x ih =>
    intro s K h hQ
    simp only [vCut] at h
    simp only [cutY, cutK] at hQ
    refine ⟨fun μ a w hlo hR Q hq => wp_block ((ih s h hQ).ok μ a w hlo hR _ fun o s1 μ1 a1 w1 k1 k2 k3 k4 => ?_)⟩
    cases o with
    | normal => exact hq _ s1 μ1 a1 w1 k1 k2 k3 k4
    | exit id' =>
      simp only [Out.ex, Exit.inBlock]
      simp only [blockK] at k1
      split at k1
      · rename_i e
        rw [if_pos (Nat.eq_of_beq_eq_true e)]
        exact hq .normal s1 μ1 a1 w1 k1 k2 k3 k4
      · rename_i e
        rw [if_neg (fun h => by rw [h] at e; simp at e)]
        exact hq (.exit id') s1 μ1 a1 w1 k1 k2 k3 k4
    | ret => exact hq _ s1 μ1 a1 w1 k1 k2 k3 k4
  | _ => intro s K h _; exact vCode_ok X _ s h
/-- What is owed at the cut: a head. -/
def joinQ {α : Type} (n lo : Nat) (log : List Nat) (rd : St → α) (ts : St → List Nat) (sl : α → List (Option AV)) (bs : α → List (Option ABlk)) (I : α → Prop) (k : Nat) (s' : St) : Prop :=
  (HoldAt (rd s') I ∧ Nat.beq (List.length (ts s')) k = true) ∧ Head n lo (ts s') log (sl (rd s')) (bs (rd s')) s'
/-- All ways to the cut meet in a head; from there the code is walked once. -/
theorem SafeC.join {call : CallA} (X : Ctx P call) {α : Type} {lo : Nat} {code : Code} {s : St} {K : Out → St → Prop} (id n : Nat) (log : List Nat) (rd : St → α) (ts : St → List Nat) (sl : α → List (Option AV)) (bs : α → List (Option ABlk)) (I : α → Prop) (k : Nat)
    (h : vCut (fun _ => P) call lo id (joinQ n lo log rd ts sl bs I k) code s K)
    (hk : ∀ a, I a → SafeC P lo (cutC id code) ⟨pad n (sl a), memB (bs a) log, lo + k⟩ (cutK (fun _ => P) call lo id code K)) : SafeC P lo code s K := by
  refine vCut_ok X code s h fun c hc s' hq => ?_
  have h3 : (ts s').length = k := Nat.eq_of_beq_eq_true hq.1.2
  have h4 := hk (rd s') hq.1.1.ok
  rw [cutC, hc, Option.getD_some] at h4
  refine SafeC.ren hq.2.ren ?_
  rw [h3]; exact h4
/-- Walk on. -/
theorem SafeC.walk {call : CallA} (X : Ctx P call) {lo : Nat} {code : Code} {s : St} {K : Out → St → Prop} (h : vCode (fun _ => P) call lo code s K) : SafeC P lo code s K := vCode_ok X code s h
/-- A loop by its invariant, its body's walk cut. -/
theorem LoopT.invS {α : Type} {lo : Nat} {x : Code} {s : St} {K : Out → St → Prop} (n : Nat) (log : List Nat) (rd : St → α) (ts : St → List Nat) (sl : α → List (Option AV)) (bs : α → List (Option ABlk)) (I : α → Prop) (ms : α → Nat)
    (h0 : HoldAt (rd s) I ∧ Head n lo (ts s) log (sl (rd s)) (bs (rd s)) s)
    (h : ∀ a, I a → SafeC P lo x ⟨pad n (sl a), memB (bs a) log, lo + (ts s).length⟩ (loopK n lo log rd ts sl bs I ms (ts s).length a K)) : LoopT (fun _ => P) lo x s K :=
  ⟨LoopS.ren h0.2.ren (LoopS.inv (P := P) (lo := lo) (x := x) (K := K) (fun a => ⟨pad n (sl a), memB (bs a) log, lo + (ts s).length⟩) I ms (fun a hI => (h a hI).mono fun o s' hk => by
    cases o with
    | normal =>
      have h3 : (ts s').length = (ts s).length := Nat.eq_of_beq_eq_true hk.1.2
      exact ⟨rd s', hk.1.1.ok.1, hk.1.1.ok.2, _, by rw [← h3]; exact hk.2.ren⟩
    | exit id => exact hk
    | ret => exact hk) (rd s) h0.1.ok)⟩
/-- A function's body, as code. -/
def bodyOf (fn : Func) : Code := fn.body.getD .skip
theorem CallS.enterS {f : FuncId} {fn : Func} (hf : P.funcs[f]? = some fn) (hb : fn.body.isSome = true) (hn : fn.name ≠ "runtime.NumGoroutine") {vs : List AV} {m : Mem} {c : Nat} {R : AV → Mem → Nat → Prop}
    (h : SafeC P c (bodyOf fn) ⟨vs.map some ++ List.replicate (fn.ntmps - vs.length) none, ⟨m.tr, []⟩, c⟩ (vEnd (fun _ => P) fn m R)) : CallS P f vs m c R := by
  obtain ⟨body, hbd⟩ : ∃ body, fn.body = some body := Option.isSome_iff_exists.1 hb
  rw [bodyOf, hbd, Option.getD_some] at h
  refine ⟨fun μ w args hargs hS hfresh => ?_⟩
  refine .inl ⟨fn, hf, hb, hn, calls_of_wp hf hbd ?_⟩
  refine h.ok μ _ w (Nat.le_refl _) ⟨init_slr hargs _, hS, hfresh, fun _ h => h.elim⟩ _ fun o s' μ' a' w' k1 k2 k3 k4 => ?_
  have key : ∀ rs, resL P s'.m s'.sl fn.results.toList = some rs → R (resT rs) ⟨s'.m.tr, s'.m.log ++ m.log⟩ s'.c → a'.defers = [] ∧ ∃ v, (results fn a'.tmps).run P w' = .ok v w' ∧ ∃ u, Ending.returned v = .returned u ∧ ∃ v m' c' μ', R v m' c' ∧ cn μ' v = some u ∧ After none μ m c w μ' m' c' w' := by
    intro rs hrs hR
    obtain ⟨u, hu, hcu⟩ := results_ok (P := P) k2.sl k2.sim hrs
    refine ⟨k4, u, hu, u, rfl, _, _, _, μ', hR, hcu, ?_⟩
    have hle : Le μ μ' := fun n p hp => by
      by_cases hn : n < c
      · rw [k3.same n hn]; exact hp
      · rw [hfresh n (by omega)] at hp; cases hp
    exact ⟨hle, fun n hn _ => k3.same n hn, k2.fresh, k3.cle, k2.sim, k3.step, s'.m.log, rfl, fun n hn _ hd => k3.kept n hn hd⟩
  unfold vEnd at k1
  cases o with
  | exit id => exact k1.elim
  | normal =>
    dsimp only at k1
    split at k1
    · rename_i rs hrs; exact key rs hrs k1
    · exact k1.elim
  | ret =>
    dsimp only at k1
    split at k1
    · rename_i rs hrs; exact key rs hrs k1
    · exact k1.elim
end
end Go.Ab
