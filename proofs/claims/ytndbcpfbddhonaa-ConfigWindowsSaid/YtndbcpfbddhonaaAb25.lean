/- The view of what is owed is sound: regions, code, loops, calls. -/
import Derived.Test.YtndbcpfbddhonaaAb24
namespace Go.Ab
set_option linter.unusedSimpArgs false
set_option linter.unusedVariables false

section
variable {P : Program}

/-! ### drawn regions -/
theorem vOpD_ok {call : CallA} {ops : Array Oper} {base i : Nat} {s : St} {K : St → Tc → Prop} (h : vOp (fun _ => P) (chD call) ops base i s K) : ∃ s' t, oneOp P call ops base i s = some (s', t) ∧ K s' t := by
  unfold vOp at h
  split at h
  · exact h.elim
  · rename_i o ho
    split at h
    · exact h.elim
    · rename_i hw
      exact ⟨_, _, by simp only [oneOp, ho, hw], h⟩
    · rename_i hw
      split at h
      · rename_i hx
        by_cases hc : isCall o.op = true
        · obtain ⟨dst, op, ty, pos, after, guard⟩ := o
          dsimp only at hc h hx
          unfold isCall at hc
          split at hc
          · rename_i f args ats
            simp only [vX] at h
            split at h
            · rename_i f' cs vs hfv hvs
              unfold chD at h
              split at h
              · rename_i b m' c' hcl
                have h' : K ⟨putA s.sl dst (some (.bool b)), m', c'⟩ ⟨true, false, [], wrOf s.m m'⟩ := by
                  cases b with
                  | true => exact h.1 rfl
                  | false => exact h.2 rfl
                refine ⟨_, _, oneOp_do ho hw (v := some (.bool b)) (m' := m') (c' := c') (t := ⟨true, false, [], wrOf s.m m'⟩) ?_, h'⟩
                simp only [doOp, hx, if_true, aXM, symX, aX, hfv, hvs, hcl, Option.map_some, symXV]
              · rename_i v m' c' hnb hcl
                refine ⟨_, _, oneOp_do ho hw (v := some v) (m' := m') (c' := c') (t := ⟨true, false, [], wrOf s.m m'⟩) ?_, h⟩
                simp only [doOp, hx, if_true, aXM, symX, aX, hfv, hvs, hcl, Option.map_some, symXV]
              · exact h.elim
            · exact h.elim
          · cases hc
        · obtain ⟨v, m', c', t, h1, h2⟩ := vX_ok (call := call) hx (by simpa using hc) h
          exact ⟨_, _, oneOp_do ho hw h1, h2⟩
      · rename_i hx
        obtain ⟨v, m', c', t, h1, h2⟩ := vN_ok (call := call) hx h
        exact ⟨_, _, oneOp_do ho hw h1, h2⟩
theorem vOpsD_ok {call : CallA} {ops : Array Oper} {base : Nat} : ∀ (L : List Nat) (s : St) {K : St → List Tc → Prop}, vOps (fun _ => P) (chD call) ops base L s K → ∃ s' ts, runOpsT P call ops base L s = some (s', ts) ∧ K s' ts
  | [], s, K, h => ⟨s, [], rfl, h⟩
  | i :: r, s, K, h => by
    simp only [vOps] at h
    obtain ⟨s1, t, h1, h⟩ := vOpD_ok h
    obtain ⟨s2, ts, h2, h⟩ := vOpsD_ok r s1 h
    exact ⟨s2, t :: ts, by simp only [runOpsT, h1, h2], h⟩

/-! ### what code does, told more loosely -/
structure GoesW (lo : Nat) (μ : Mu) (s : St) (w : World) (μ' : Mu) (s' : St) (w' : World) : Prop where
  same : ∀ n, n < lo → μ' n = μ n
  cle : lo ≤ s'.c
  step : Step μ s.m.get w μ' s'.m.get w'
  logs : ∀ n, n < lo → n ∈ s.m.log → n ∈ s'.m.log
  kept : ∀ n, n < lo → n ∉ s'.m.log → s'.m.get n = s.m.get n
theorem GoesW.refl {lo : Nat} {μ : Mu} {s : St} {w : World} (h : lo ≤ s.c) : GoesW lo μ s w μ s w := ⟨fun _ _ => rfl, h, Step.refl _ _ _, fun _ _ h => h, fun _ _ _ => rfl⟩
theorem GoesW.trans {lo : Nat} {μ μ1 μ2 : Mu} {s s1 s2 : St} {w w1 w2 : World} (h : GoesW lo μ s w μ1 s1 w1) (k : GoesW lo μ1 s1 w1 μ2 s2 w2) : GoesW lo μ s w μ2 s2 w2 :=
  ⟨fun n hn => (k.same n hn).trans (h.same n hn), k.cle, h.step.trans k.step, fun n hn hl => k.logs n hn (h.logs n hn hl), fun n hn hl => (k.kept n hn hl).trans (h.kept n hn fun hl' => hl (k.logs n hn hl'))⟩
theorem Goes.w {lo : Nat} {μ μ' : Mu} {s s' : St} {w w' : World} (h : Goes lo μ s w μ' s' w') (hl : lo ≤ s.c) : GoesW lo μ s w μ' s' w' := by
  obtain ⟨δ, e, f⟩ := h.log
  refine ⟨h.same, Nat.le_trans hl h.cle, h.step, fun n _ hn => by rw [e]; simp [hn], fun n hn hl => ?_⟩
  rw [e, List.mem_append, not_or] at hl
  exact f n hn hl.1
theorem GoesW.sl {lo : Nat} {μ μ' : Mu} {s s' : St} {w w' : World} (h : GoesW lo μ s w μ' s' w') (sl : List (Option AV)) {c : Nat} : GoesW lo μ ⟨sl, s.m, c⟩ w μ' s' w' := ⟨h.same, h.cle, h.step, h.logs, h.kept⟩

/-- Code, from a state: what is owed of its ends. -/
structure SafeC (P : Program) (lo : Nat) (code : Code) (s : St) (K : Out → St → Prop) : Prop where
  ok : ∀ (μ : Mu) (a : Act) (w : World), lo ≤ s.c → StR μ s (fun _ => False) a w → ∀ Q : Exit → Act → World → Prop,
    (∀ o s' μ' a' w', K o s' → StR μ' s' (fun _ => False) a' w' → GoesW lo μ s w μ' s' w' → a'.defers = a.defers → Q o.ex a' w') → code.wp P Q a w
/-- A loop, from a state at its head. -/
structure LoopS (P : Program) (lo : Nat) (x : Code) (s : St) (K : Out → St → Prop) : Prop where
  ok : ∀ (μ : Mu) (a : Act) (w : World), lo ≤ s.c → StR μ s (fun _ => False) a w → ∀ Q : Exit → Act → World → Prop,
    (∀ o s' μ' a' w', K o s' → StR μ' s' (fun _ => False) a' w' → GoesW lo μ s w μ' s' w' → a'.defers = a.defers → Q o.ex a' w') →
      ∀ (b : Frame) (k : List Item) (cs : List Frame), ∃ e a' w', Q e a' w' ∧ Arrives P (lone (b.at a (.code x :: .inLoop x :: k)) cs w) b k cs e a' w'
theorem SafeC.mono {lo : Nat} {code : Code} {s : St} {K K' : Out → St → Prop} (h : SafeC P lo code s K) (hk : ∀ o s', K o s' → K' o s') : SafeC P lo code s K' :=
  ⟨fun μ a w h1 h2 Q hq => h.ok μ a w h1 h2 Q fun o s' μ' a' w' k => hq o s' μ' a' w' (hk o s' k)⟩
theorem LoopS.mono {lo : Nat} {code : Code} {s : St} {K K' : Out → St → Prop} (h : LoopS P lo code s K) (hk : ∀ o s', K o s' → K' o s') : LoopS P lo code s K' :=
  ⟨fun μ a w h1 h2 Q hq => h.ok μ a w h1 h2 Q fun o s' μ' a' w' k => hq o s' μ' a' w' (hk o s' k)⟩

def afterBody (P : Program) (lo : Nat) (x : Code) (K : Out → St → Prop) : Out → St → Prop
  | .normal, s' => LoopS P lo x s' K
  | o, s' => K o s'
theorem LoopS.step {lo : Nat} {x : Code} {s : St} {K : Out → St → Prop} (h : SafeC P lo x s (afterBody P lo x K)) : LoopS P lo x s K := by
  refine ⟨fun μ a w hlo hR Q hq b k cs => ?_⟩
  obtain ⟨e, a1, w1, ⟨o, s1, μ1, rfl, hk, hR1, g1, d1⟩, harr⟩ := h.ok μ a w hlo hR (fun e a1 w1 => ∃ o s1 μ1, e = Out.ex o ∧ afterBody P lo x K o s1 ∧ StR μ1 s1 (fun _ => False) a1 w1 ∧ GoesW lo μ s w μ1 s1 w1 ∧ a1.defers = a.defers)
    (fun o s' μ' a' w' h1 h2 h3 h4 => ⟨o, s', μ', rfl, h1, h2, h3, h4⟩) b (.inLoop x :: k) cs
  cases o with
  | normal =>
    obtain ⟨e2, a2, w2, hq2, harr2⟩ := LoopS.ok hk μ1 a1 w1 g1.cle hR1 Q (fun o s' μ' a' w' h1 h2 h3 h4 => hq o s' μ' a' w' h1 h2 (g1.trans h3) (h4.trans d1)) b k cs
    exact ⟨e2, a2, w2, hq2, .of_steps (Steps.trans harr (.one step_inLoop)) harr2⟩
  | exit id => exact ⟨_, a1, w1, hq _ _ _ _ _ hk hR1 g1 d1, .pass (x := .inLoop x) rfl (fun _ _ => .inl (by simp [Out.ex])) harr⟩
  | ret => exact ⟨_, a1, w1, hq _ _ _ _ _ hk hR1 g1 d1, .pass (x := .inLoop x) rfl (fun _ _ => .inl (by simp [Out.ex])) harr⟩

/-! ### regions in the text's order -/
theorem callNone_ok : CallOK P (fun _ _ _ _ => none) := fun f vs m c v m' c' h => by cases h

theorem vOpsT_ok {ops : Array Oper} {base lo : Nat} (hlo : lo ≤ base) : ∀ (L : List Nat) (s : St) (μ : Mu) (a : Act) (w : World) (free : Nat → Prop) {K : St → List Tc → Prop}, L.Nodup → (∀ i ∈ L, free (base + i)) → lo ≤ s.c → StR μ s free a w →
    vOps (fun _ => P) (chT (fun _ => P)) ops base L s K → ∀ {Q : Exit → Act → World → Prop}, (∀ s' ts μ' a' w', K s' ts → StR μ' s' (fun _ => False) a' w' → GoesW lo μ s w μ' s' w' → a'.defers = a.defers → Q .normal a' w') → wpOps P ops Q L a w
  | [], s, μ, a, w, free, K, _, _, hl, hR, h, Q, hq => hq s [] μ a w h ⟨hR.sl, hR.sim, hR.fresh, fun _ h => h.elim⟩ (GoesW.refl hl) rfl
  | i :: L, s, μ, a, w, free, K, hnd, hfr, hl, hR, h, Q, hq => by
    simp only [vOps] at h
    rw [wpOps_cons]
    obtain ⟨hni, hnd'⟩ := List.nodup_cons.1 hnd
    have next : ∀ s1 t μ1 a1 w1, vOps (fun _ => P) (chT (fun _ => P)) ops base L s1 (fun s'' ts => K s'' (t :: ts)) → StR μ1 s1 (fun n => free n ∧ n ≠ base + i) a1 w1 → Goes lo μ s w μ1 s1 w1 → a1.defers = a.defers → wpOps P ops Q L a1 w1 := by
      intro s1 t μ1 a1 w1 hv hR1 hg1 hd1
      have hfr' : ∀ j ∈ L, free (base + j) ∧ base + j ≠ base + i := fun j hj => ⟨hfr j (by simp [hj]), fun e => hni (by
        have e' : j = i := by omega
        rw [← e']; exact hj)⟩
      exact vOpsT_ok hlo L s1 μ1 a1 w1 _ hnd' hfr' (Nat.le_trans hl hg1.cle) hR1 hv
        fun s' ts μ' a' w' k1 k2 k3 k4 => hq s' (t :: ts) μ' a' w' k1 k2 ((hg1.w hl).trans k3) (k4.trans hd1)
    have fn : ∀ s1 t, oneOp P (fun _ _ _ _ => none) ops base i s = some (s1, t) → vOps (fun _ => P) (chT (fun _ => P)) ops base L s1 (fun s'' ts => K s'' (t :: ts)) → wpOp P ops Q i (wpOps P ops Q L) a w := by
      intro s1 t h1 hv
      exact oneOp_ok (lo := lo) callNone_ok hR (hfr i (by simp)) hlo h1 fun μ1 a1 w1 hR1 hg1 hd1 => next s1 t μ1 a1 w1 hv hR1 hg1 hd1
    unfold vOp at h
    split at h
    · exact h.elim
    · rename_i o ho
      split at h
      · exact h.elim
      · rename_i hw
        exact fn _ _ (by simp only [oneOp, ho, hw]) h
      · rename_i hw
        split at h
        · rename_i hx
          by_cases hc : isCall o.op = true
          · obtain ⟨dst, op, ty, pos, after, guard⟩ := o
            dsimp only at hc h hx
            unfold isCall at hc
            split at hc
            · rename_i f args ats
              simp only [vX] at h
              split at h
              · rename_i f' cs vs hfv hvs
                obtain ⟨hfree, hclt⟩ := hR.free _ (hfr i (by simp))
                have hcf := hR.sl.eval (P := P) _ _ hfv
                simp only [cn, Option.map_eq_some_iff] at hcf
                obtain ⟨l, hl', hcf⟩ := hcf
                have hargs := cnL_append (valsA_ok (fun x v hv => hR.sl.eval (P := P) x v hv) hvs) hl'
                have hrd := CallS.ok (CallT.ok h) μ w _ hargs hR.sim hR.fresh
                have hex : (execOp a.eval ⟨dst, .call { callee := .value f, args, argTypes := ats }, ty, pos, after, guard⟩).run P w = (callFunc f' (args.toList.map a.eval ++ l).toArray).run P w := by
                  simp only [execOp, resolve, ← hcf, Deferred.ofValue, Sem.run_bind, Sem.run_pure, Result.andThen_ok, invoke]
                  congr 2
                  apply Array.ext'
                  simp
                have fin : ∀ val w', (∃ v m' c' μ', vOps (fun _ => P) (chT (fun _ => P)) ops base L ⟨putA s.sl dst (some v), m', c'⟩ (fun s'' ts => K s'' (⟨true, false, [], []⟩ :: ts)) ∧ cn μ' v = some val ∧ After none μ s.m s.c w μ' m' c' w') → wpOps P ops Q L (a.put dst val) w' := by
                  rintro val w' ⟨v, m', c', μ', h1, h2, h3⟩
                  have haf := h3.weaken (some (base + i))
                  refine next _ _ μ' _ w' h1 ⟨(hR.sl.le haf.le).put _ _ _ (fun av e => by cases e; exact h2), haf.sim, haf.fresh, fun n hn' => ?_⟩ (goes_of_after haf (by omega) hclt) (put_defers _ _ _)
                  obtain ⟨k1, k2⟩ := hR.free n hn'.1
                  exact ⟨by rw [haf.same n k2 (by simp; exact hn'.2)]; exact k1, Nat.lt_of_lt_of_le k2 haf.cle⟩
                have hw' := wanted_ok hR.sl hw
                simp only [wpOp, ho, hw', if_true]
                refine .inl ?_
                unfold Oper.wp
                rw [hex]
                rcases hrd with ⟨fn, k1, k2, k3, k4⟩ | ⟨val, k1, k2⟩
                · rw [callFunc_enter k1 k2 k3, Oper.upon_enter]
                  refine k4.mono fun e w' ⟨val, he, hh⟩ => ?_
                  subst he
                  exact fin val w' hh
                · rw [k1]
                  exact fin val w k2
              · exact h.elim
            · cases hc
          · obtain ⟨v, m', c', t, h1, h2⟩ := vX_ok (call := fun _ _ _ _ => none) hx (by simpa using hc) h
            exact fn _ _ (oneOp_do ho hw h1) h2
        · rename_i hx
          obtain ⟨v, m', c', t, h1, h2⟩ := vN_ok (call := fun _ _ _ _ => none) hx h
          exact fn _ _ (oneOp_do ho hw h1) h2

/-! ### code -/
structure LoopT (p : Unit → Program) (lo : Nat) (x : Code) (s : St) (K : Out → St → Prop) : Prop where
  ok : LoopS (p ()) lo x s K
/-- What is owed behind a piece of code: each word holds what follows once. -/
def seqK (f : St → (Out → St → Prop) → Prop) (K : Out → St → Prop) : Out → St → Prop
  | .normal, s' => f s' K
  | .exit id, s' => K (.exit id) s'
  | .ret, s' => K .ret s'
def blockK (id : Nat) (K : Out → St → Prop) : Out → St → Prop
  | .normal, s' => K .normal s'
  | .exit id', s' => match id'.beq id with
    | true => K .normal s'
    | false => K (.exit id') s'
  | .ret, s' => K .ret s'
def vCode (p : Unit → Program) (call : CallA) (lo : Nat) : Code → St → (Out → St → Prop) → Prop
  | .skip, s, K => K .normal s
  | .region _ ops draw, s, K => match draw with
    | true => vOps p (chD call) ops s.c (List.range ops.size) ⟨s.sl, s.m, s.c + ops.size⟩ fun s' ts => (Unit → drawnOk ops ts = true) ∧ K .normal s'
    | false => vOps p (chT p) ops s.c (List.range ops.size) ⟨s.sl, s.m, s.c + ops.size⟩ fun s' _ => K .normal s'
  | .seq x y, s, K => vCode p call lo x s (seqK (vCode p call lo y) K)
  | .cond c x y, s, K => match evalA s.sl c with
    | some (.bool true) => vCode p call lo x s K
    | some (.bool false) => vCode p call lo y s K
    | _ => False
  | .block id x, s, K => vCode p call lo x s (blockK id K)
  | .loop x, s, K => LoopT p lo x s K
  | .exit id, s, K => K (.exit id) s
  | .ret, s, K => K .ret s
  | _, _, _ => False

/-- The facts on the calls in drawn regions. -/
structure Ctx (P : Program) (call : CallA) : Prop where
  hm : P.follows .mixedOrders = true
  hcall : CallOK P call
  hc : AbsOK call

theorem vCode_ok {call : CallA} (X : Ctx P call) {lo : Nat} : ∀ (code : Code) (s : St) {K : Out → St → Prop}, vCode (fun _ => P) call lo code s K → SafeC P lo code s K := by
  intro code
  induction code with
  | skip => intro s K h; exact ⟨fun μ a w hlo hR Q hq => wp_skip (hq .normal s μ a w h hR (GoesW.refl hlo) rfl)⟩
  | region id ops draw =>
    intro s K h
    refine ⟨fun μ a w hlo hR Q hq => ?_⟩
    cases draw with
    | true =>
      obtain ⟨s', ts, h1, h2, h3⟩ := vOpsD_ok _ _ h
      refine region_ok (lo := lo) X.hm X.hcall X.hc hR hlo (s' := s') (by simp only [aRegion, if_true, h1, h2 ()]) fun μ' a' w' g1 g2 g3 => hq .normal s' μ' a' w' h3 g1 (g2.w hlo) g3
    | false =>
      refine wp_region ?_
      refine vOpsT_ok (base := s.c) (lo := lo) hlo (List.range ops.size) ⟨s.sl, s.m, s.c + ops.size⟩ μ a w (fun n => ∃ i, i < ops.size ∧ n = s.c + i) List.nodup_range (fun i hi => ⟨i, List.mem_range.1 hi, rfl⟩) (Nat.le_trans hlo (Nat.le_add_right _ _))
        ⟨hR.sl, hR.sim, fun n hn => hR.fresh n (by dsimp only at hn; omega), fun n ⟨i, hi, e⟩ => by subst e; exact ⟨hR.fresh _ (by omega), by dsimp only; omega⟩⟩ h
        fun s' ts μ' a' w' g1 g2 g3 g4 => hq .normal s' μ' a' w' g1 g2 ⟨g3.same, g3.cle, g3.step, g3.logs, g3.kept⟩ g4
  | seq x y ihx ihy =>
    intro s K h
    refine ⟨fun μ a w hlo hR Q hq => wp_seq ((ihx s h).ok μ a w hlo hR _ fun o s1 μ1 a1 w1 k1 k2 k3 k4 => ?_)⟩
    cases o with
    | normal => exact (ihy s1 k1).ok μ1 a1 w1 k3.cle k2 Q fun o s' μ' a' w' j1 j2 j3 j4 => hq o s' μ' a' w' j1 j2 (k3.trans j3) (j4.trans k4)
    | exit id => exact hq _ s1 μ1 a1 w1 k1 k2 k3 k4
    | ret => exact hq _ s1 μ1 a1 w1 k1 k2 k3 k4
  | cond c x y ihx ihy =>
    intro s K h
    refine ⟨fun μ a w hlo hR Q hq => ?_⟩
    simp only [vCode] at h
    split at h
    · rename_i he
      have := hR.sl.eval (P := P) c _ he
      simp only [cn, Option.some.injEq] at this
      exact wp_cond_true this.symm ((ihx s h).ok μ a w hlo hR Q hq)
    · rename_i he
      have := hR.sl.eval (P := P) c _ he
      simp only [cn, Option.some.injEq] at this
      exact wp_cond_false this.symm ((ihy s h).ok μ a w hlo hR Q hq)
    · exact h.elim
  | block id x ih =>
    intro s K h
    refine ⟨fun μ a w hlo hR Q hq => wp_block ((ih s h).ok μ a w hlo hR _ fun o s1 μ1 a1 w1 k1 k2 k3 k4 => ?_)⟩
    cases o with
    | normal => exact hq _ s1 μ1 a1 w1 k1 k2 k3 k4
    | exit id' =>
      simp only [Out.ex, Exit.inBlock]
      simp only [blockK] at k1
      split at k1
      · rename_i e
        rw [if_pos (Nat.eq_of_beq_eq_true e)]
        exact hq .normal s1 μ1 a1 w1 k1 k2 k3 k4
      · rename_i e
        rw [if_neg (fun h => by rw [h] at e; simp at e)]
        exact hq (.exit id') s1 μ1 a1 w1 k1 k2 k3 k4
    | ret => exact hq _ s1 μ1 a1 w1 k1 k2 k3 k4
  | loop x ih =>
    intro s K h
    refine ⟨fun μ a w hlo hR Q hq b k cs => ?_⟩
    obtain ⟨e, a', w', h1, h2⟩ := LoopS.ok (LoopT.ok h) μ a w hlo hR Q hq b k cs
    exact ⟨e, a', w', h1, .of_steps (.one step_loop) h2⟩
  | exit id => intro s K h; exact ⟨fun μ a w hlo hR Q hq => wp_exit (hq (.exit id) s μ a w h hR (GoesW.refl hlo) rfl)⟩
  | ret => intro s K h; exact ⟨fun μ a w hlo hR Q hq => wp_ret (hq .ret s μ a w h hR (GoesW.refl hlo) rfl)⟩
  | _ => intro s K h; exact h.elim

/-! ### calls -/
def vEnd (p : Unit → Program) (fn : Func) (m : Mem) (R : AV → Mem → Nat → Prop) (o : Out) (s' : St) : Prop :=
  match o with
  | .exit _ => False
  | _ => match resL (p ()) s'.m s'.sl fn.results.toList with
    | some rs => R (resT rs) ⟨s'.m.tr, s'.m.log ++ m.log⟩ s'.c
    | none => False
def vFun (p : Unit → Program) (call : CallA) (fn : Func) (vs : List AV) (m : Mem) (c : Nat) (R : AV → Mem → Nat → Prop) : Prop :=
  match fn.body with
  | none => False
  | some body => vCode p call c body ⟨vs.map some ++ List.replicate (fn.ntmps - vs.length) none, ⟨m.tr, []⟩, c⟩ (vEnd p fn m R)

theorem CallS.mono {f : FuncId} {vs : List AV} {m : Mem} {c : Nat} {R R' : AV → Mem → Nat → Prop} (h : CallS P f vs m c R) (hr : ∀ v m' c', R v m' c' → R' v m' c') : CallS P f vs m c R' :=
  ⟨fun μ w args h1 h2 h3 => (h.ok μ w args h1 h2 h3).mono fun val w' ⟨v, m', c', μ', k1, k2⟩ => ⟨v, m', c', μ', hr _ _ _ k1, k2⟩⟩
theorem CallS.enter {call : CallA} (X : Ctx P call) {f : FuncId} {fn : Func} (hf : P.funcs[f]? = some fn) (hn : fn.name ≠ "runtime.NumGoroutine") {vs : List AV} {m : Mem} {c : Nat} {R : AV → Mem → Nat → Prop} (h : vFun (fun _ => P) call fn vs m c R) : CallS P f vs m c R := by
  refine ⟨fun μ w args hargs hS hfresh => ?_⟩
  unfold vFun at h
  split at h
  · exact h.elim
  · rename_i body hb
    refine .inl ⟨fn, hf, by rw [hb]; rfl, hn, calls_of_wp hf hb ?_⟩
    refine (vCode_ok X body _ h).ok μ _ w (Nat.le_refl _) ⟨init_slr hargs _, hS, hfresh, fun _ h => h.elim⟩ _ fun o s' μ' a' w' k1 k2 k3 k4 => ?_
    have key : ∀ rs, resL P s'.m s'.sl fn.results.toList = some rs → R (resT rs) ⟨s'.m.tr, s'.m.log ++ m.log⟩ s'.c → a'.defers = [] ∧ ∃ v, (results fn a'.tmps).run P w' = .ok v w' ∧ ∃ u, Ending.returned v = .returned u ∧ ∃ v m' c' μ', R v m' c' ∧ cn μ' v = some u ∧ After none μ m c w μ' m' c' w' := by
      intro rs hrs hR
      obtain ⟨u, hu, hcu⟩ := results_ok (P := P) k2.sl k2.sim hrs
      refine ⟨k4, u, hu, u, rfl, _, _, _, μ', hR, hcu, ?_⟩
      have hle : Le μ μ' := fun n p hp => by
        by_cases hn : n < c
        · rw [k3.same n hn]; exact hp
        · rw [hfresh n (by omega)] at hp; cases hp
      exact ⟨hle, fun n hn _ => k3.same n hn, k2.fresh, k3.cle, k2.sim, k3.step, s'.m.log, rfl, fun n hn _ hd => k3.kept n hn hd⟩
    unfold vEnd at k1
    cases o with
    | exit id => exact k1.elim
    | normal =>
      dsimp only at k1
      split at k1
      · rename_i rs hrs; exact key rs hrs k1
      · exact k1.elim
    | ret =>
      dsimp only at k1
      split at k1
      · rename_i rs hrs; exact key rs hrs k1
      · exact k1.elim
theorem CallS.of_call {call : CallA} (h : CallOK P call) {f : FuncId} {vs : List AV} {m : Mem} {c : Nat} {v : AV} {m' : Mem} {c' : Nat} {R : AV → Mem → Nat → Prop} (hc : call f vs m c = some (v, m', c')) (hr : R v m' c') : CallS P f vs m c R :=
  ⟨fun μ w args h1 h2 h3 => (h f vs m c v m' c' hc μ w args h1 h2 h3).mono fun val w' ⟨μ', k1, k2⟩ => ⟨v, m', c', μ', hr, k1, k2⟩⟩
end

end Go.Ab
