/- Slots, one operation, a region in its own order. -/
import Derived.Test.YtndbcpfbddhonaaAb14
namespace Go.Ab
set_option linter.unusedSimpArgs false
set_option linter.unusedVariables false

/-- The abstract slots stand for the model's, as far as they are known. -/
def SlR (μ : Mu) (sl : List (Option AV)) (tmps : Array Value) : Prop :=
  sl.length ≤ tmps.size ∧ ∀ (t : Nat) (v : AV), sl.getD t none = some v → cn μ v = some (tmps.getD t undef)
theorem SlR.le {μ μ' : Mu} (h : Le μ μ') {sl : List (Option AV)} {tmps : Array Value} (hs : SlR μ sl tmps) : SlR μ' sl tmps := ⟨hs.1, fun t v hv => cn_le h _ _ (hs.2 t v hv)⟩

theorem SlR.eval {P : Program} {μ : Mu} {sl : List (Option AV)} {a : Act} (hs : SlR μ sl a.tmps) : ∀ x v, evalA sl x = some v → cn μ v = some (a.eval x) := by
  intro x v h
  cases x with
  | tmp t => exact hs.2 t v h
  | const u => exact absV_cn h
  | global g => cases h
  | func f => cases h; rfl

theorem getD_set (l : List (Option AV)) (d : Nat) (v : Option AV) (t : Nat) : (l.set d v).getD t none = if d = t ∧ d < l.length then v else l.getD t none := by
  simp only [List.getD_eq_getElem?_getD, List.getElem?_set]
  by_cases e : d = t
  · subst e
    by_cases h : d < l.length
    · simp [h]
    · simp [h]
  · simp [e]
theorem SlR.put {μ : Mu} {sl : List (Option AV)} {a : Act} (hs : SlR μ sl a.tmps) (d : Option Tmp) (v : Option AV) (val : Value) (hv : ∀ av, v = some av → cn μ av = some val) : SlR μ (putA sl d v) (a.put d val).tmps := by
  cases d with
  | none => exact hs
  | some d =>
    refine ⟨by simp [putA, Act.put]; exact hs.1, fun t av h => ?_⟩
    simp only [putA, Act.put] at h ⊢
    rw [getD_set] at h
    by_cases e : d = t ∧ d < sl.length
    · rw [if_pos e] at h
      obtain ⟨rfl, hd⟩ := e
      have : d < a.tmps.size := Nat.lt_of_lt_of_le hd hs.1
      rw [hv av h]
      simp [Array.getD, this]
    · rw [if_neg e] at h
      rw [hs.2 t av h]
      by_cases e2 : d = t
      · subst e2
        have hd : ¬ d < sl.length := fun hd => e ⟨rfl, hd⟩
        simp [List.getD_eq_getElem?_getD, List.getElem?_eq_none (Nat.le_of_not_lt hd)] at h
      · simp only [Array.getD_eq_getD_getElem?, Array.getElem?_setIfInBounds]
        rw [if_neg e2]
theorem put_size (a : Act) (d : Option Tmp) (v : Value) : (a.put d v).tmps.size = a.tmps.size := by cases d <;> simp [Act.put]
theorem put_defers (a : Act) (d : Option Tmp) (v : Value) : (a.put d v).defers = a.defers := by cases d <;> rfl

theorem wanted_ok {μ : Mu} {sl : List (Option AV)} {a : Act} (hs : SlR μ sl a.tmps) {ops : Array Oper} {o : Oper} {b : Bool} (h : wantedA ops o sl = some b) : Region.wanted o (yielded ops a.tmps) = b := by
  unfold wantedA at h
  unfold Region.wanted
  split at h
  · cases h; rename_i hg; simp [hg]
  · rename_i j want hg
    rw [hg]
    dsimp only
    split at h
    · rename_i d hd
      split at h
      · rename_i b' hb
        cases h
        have hlt : d < sl.length := by
          apply Classical.byContradiction
          intro hn
          simp [List.getD_eq_getElem?_getD, List.getElem?_eq_none (Nat.le_of_not_lt hn)] at hb
        have h1 := hs.2 d _ hb
        simp only [cn, Option.some.injEq] at h1
        have h2 : d < a.tmps.size := Nat.lt_of_lt_of_le hlt hs.1
        have h3 : a.tmps[d]? = some (.bool b') := by
          rw [Array.getElem?_eq_getElem h2]
          simp [Array.getD, h2] at h1
          rw [← h1]
        simp only [yielded, hd, Option.bind_some, h3]
        cases b' <;> cases want <;> rfl
      · rename_i hb
        cases h
        have hlt : d < sl.length := by
          apply Classical.byContradiction
          intro hn
          simp [List.getD_eq_getElem?_getD, List.getElem?_eq_none (Nat.le_of_not_lt hn)] at hb
        have h1 := hs.2 d _ hb
        simp only [cn, cnL, Option.map_some, Option.some.injEq] at h1
        have h2 : d < a.tmps.size := Nat.lt_of_lt_of_le hlt hs.1
        have h3 : a.tmps[d]? = some (.tuple #[]) := by
          rw [Array.getElem?_eq_getElem h2]
          simp [Array.getD, h2] at h1
          rw [← h1]
        simp only [yielded, hd, Option.bind_some, h3]
        rfl
      · cases h
    · cases h

section
variable {P : Program} {call : CallA}

/-- The state stands for the world; names from c on, and those that are laid by, are free. -/
structure StR (μ : Mu) (s : St) (free : Nat → Prop) (a : Act) (w : World) : Prop where
  sl : SlR μ s.sl a.tmps
  sim : Sim μ s.m.get w
  fresh : ∀ n, s.c ≤ n → μ n = none
  free : ∀ n, free n → μ n = none ∧ n < s.c

/-- What a piece of code does: from s, μ, w to s', μ', w'. -/
structure Goes (lo : Nat) (μ : Mu) (s : St) (w : World) (μ' : Mu) (s' : St) (w' : World) : Prop where
  le : Le μ μ'
  same : ∀ n, n < lo → μ' n = μ n
  cle : s.c ≤ s'.c
  step : Step μ s.m.get w μ' s'.m.get w'
  log : ∃ δ, s'.m.log = δ ++ s.m.log ∧ ∀ n, n < lo → n ∉ δ → s'.m.get n = s.m.get n
theorem Goes.refl (lo : Nat) (μ : Mu) (s : St) (w : World) : Goes lo μ s w μ s w := ⟨Le.refl _, fun _ _ => rfl, Nat.le_refl _, Step.refl _ _ _, [], rfl, fun _ _ _ => rfl⟩
theorem Goes.trans {lo : Nat} {μ μ1 μ2 : Mu} {s s1 s2 : St} {w w1 w2 : World} (h : Goes lo μ s w μ1 s1 w1) (k : Goes lo μ1 s1 w1 μ2 s2 w2) : Goes lo μ s w μ2 s2 w2 := by
  refine ⟨h.le.trans k.le, fun n hn => (k.same n hn).trans (h.same n hn), Nat.le_trans h.cle k.cle, h.step.trans k.step, ?_⟩
  obtain ⟨δ1, e1, f1⟩ := h.log
  obtain ⟨δ2, e2, f2⟩ := k.log
  exact ⟨δ2 ++ δ1, by rw [e2, e1, List.append_assoc], fun n hn hd => by rw [List.mem_append, not_or] at hd; rw [f2 n hn hd.1, f1 n hn hd.2]⟩
theorem Goes.lower {lo lo' : Nat} {μ μ' : Mu} {s s' : St} {w w' : World} (h : Goes lo μ s w μ' s' w') (hl : lo' ≤ lo) : Goes lo' μ s w μ' s' w' :=
  ⟨h.le, fun n hn => h.same n (by omega), h.cle, h.step, let ⟨δ, e, f⟩ := h.log; ⟨δ, e, fun n hn hd => f n (by omega) hd⟩⟩

theorem goes_of_after {nm lo : Nat} {μ μ' : Mu} {s : St} {sl' : List (Option AV)} {m' : Mem} {c' : Nat} {w w' : World} (h : After (some nm) μ s.m s.c w μ' m' c' w') (hlo : lo ≤ nm) (hc : nm < s.c) : Goes lo μ s w μ' ⟨sl', m', c'⟩ w' :=
  ⟨h.le, fun n hn => h.same n (by omega) (by simp; omega), h.cle, h.step, let ⟨δ, e, f⟩ := h.log; ⟨δ, e, fun n hn hd => f n (by omega) (by simp; omega) hd⟩⟩

/-- One operation. -/
theorem oneOp_ok (hcall : CallOK P call) {ops : Array Oper} {base i lo : Nat} {s s' : St} {tc : Tc} {μ : Mu} {a : Act} {w : World} {free : Nat → Prop} (hR : StR μ s free a w) (hi : free (base + i)) (hlo : lo ≤ base) (h : oneOp P call ops base i s = some (s', tc))
    {K : Act → World → Prop} {Q : Exit → Act → World → Prop}
    (hn : ∀ μ' a' w', StR μ' s' (fun n => free n ∧ n ≠ base + i) a' w' → Goes lo μ s w μ' s' w' → a'.defers = a.defers → K a' w') : wpOp P ops Q i K a w := by
  unfold oneOp at h
  split at h
  · cases h
  · rename_i o ho
    obtain ⟨hfree, hclt⟩ := hR.free _ hi
    split at h
    · cases h
    · rename_i hw
      cases h
      have hw' := wanted_ok hR.sl hw
      simp only [wpOp, ho, hw', Bool.false_eq_true, if_false]
      exact hn μ _ w ⟨hR.sl.put _ _ _ (fun _ e => by cases e; rfl), hR.sim, hR.fresh, fun n hn => hR.free n hn.1⟩ (Goes.refl _ _ _ _ |> fun g => ⟨g.le, g.same, g.cle, g.step, g.log⟩) (put_defers _ _ _)
    · rename_i hw
      have hw' := wanted_ok hR.sl hw
      simp only [wpOp, ho, hw', if_true]
      refine .inl ?_
      split at h
      · rename_i hX
        split at h
        · rename_i v m' c' hx
          cases h
          refine aXM_ok hcall hR.sim hR.fresh hfree hclt (fun x v hv => hR.sl.eval (P := P) x v hv) hx fun μ' w' val haf hv => ?_
          refine hn μ' _ w' ⟨(hR.sl.le haf.le).put _ _ _ hv, haf.sim, haf.fresh, fun n hn' => ?_⟩ (goes_of_after haf (by omega) hclt) (put_defers _ _ _)
          obtain ⟨h1, h2⟩ := hR.free n hn'.1
          exact ⟨by rw [haf.same n h2 (by simp; exact hn'.2)]; exact h1, Nat.lt_of_lt_of_le h2 haf.cle⟩
        · cases h
      · rename_i hX
        split at h
        · rename_i v rd hx
          cases h
          obtain ⟨val, w', hrun, hnb⟩ := aM_ok (P := P) (fun x v hv => hR.sl.eval (P := P) x v hv) hR.sim hfree hx
          dsimp only at hnb
          obtain ⟨rfl, hcv⟩ := hnb
          unfold Oper.wp
          rw [hrun]
          exact hn μ _ w' ⟨hR.sl.put _ _ _ (fun av e => by cases e; exact hcv), hR.sim, hR.fresh, fun n hn => hR.free n hn.1⟩ (Goes.refl _ _ _ _ |> fun g => ⟨g.le, g.same, g.cle, g.step, g.log⟩) (put_defers _ _ _)
        · rename_i v b rd hx
          cases h
          obtain ⟨val, w', hrun, hnb⟩ := aM_ok (P := P) (fun x v hv => hR.sl.eval (P := P) x v hv) hR.sim hfree hx
          dsimp only at hnb
          obtain ⟨obj, d, extra, rfl, hrw, hbr, hcv⟩ := hnb
          have haf := after_new (c := s.c) (d := d) hR.sim hR.fresh hfree hclt hrw hbr
          unfold Oper.wp
          rw [hrun]
          refine hn _ _ _ ⟨(hR.sl.le haf.le).put _ _ _ (fun av e => by cases e; exact hcv), haf.sim, haf.fresh, fun n hn' => ?_⟩ (goes_of_after haf (by omega) hclt) (put_defers _ _ _)
          obtain ⟨h1, h2⟩ := hR.free n hn'.1
          exact ⟨by rw [haf.same n h2 (by simp; exact hn'.2)]; exact h1, h2⟩
        · cases h

theorem runOps_ok (hcall : CallOK P call) {ops : Array Oper} {base lo : Nat} (hlo : lo ≤ base) : ∀ (l : List Nat) (s s' : St) (μ : Mu) (a : Act) (w : World) (free : Nat → Prop), l.Nodup → (∀ i ∈ l, free (base + i)) → StR μ s free a w → runOps P call ops base l s = some s' →
    ∀ {Q : Exit → Act → World → Prop}, (∀ μ' a' w', StR μ' s' (fun _ => False) a' w' → Goes lo μ s w μ' s' w' → a'.defers = a.defers → Q .normal a' w') → wpOps P ops Q l a w
  | [], s, s', μ, a, w, free, _, _, hR, h, Q, hq => by
    simp only [runOps, Option.some.injEq] at h
    subst h
    exact hq μ a w ⟨hR.sl, hR.sim, hR.fresh, fun _ h => h.elim⟩ (Goes.refl _ _ _ _) rfl
  | i :: l, s, s', μ, a, w, free, hnd, hfr, hR, h, Q, hq => by
    simp only [runOps] at h
    split at h
    · rename_i s1 tc h1
      rw [wpOps_cons]
      obtain ⟨hni, hnd'⟩ := List.nodup_cons.1 hnd
      refine oneOp_ok hcall hR (hfr i (by simp)) hlo h1 fun μ1 a1 w1 hR1 hg1 hd1 => ?_
      refine runOps_ok hcall hlo l s1 s' μ1 a1 w1 _ hnd' (fun j hj => ⟨hfr j (by simp [hj]), fun e => ?_⟩) hR1 h fun μ2 a2 w2 hR2 hg2 hd2 => hq μ2 a2 w2 hR2 (hg1.trans hg2) (hd2.trans hd1)
      have : j = i := by omega
      subst this; exact hni hj
    · cases h
end

end Go.Ab
