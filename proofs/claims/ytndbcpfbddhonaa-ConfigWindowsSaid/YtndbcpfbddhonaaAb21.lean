/- Code and calls: what the abstract machine comes to, the model comes to. -/
import Derived.Test.YtndbcpfbddhonaaAb20
import Derived.Laws.Sem
namespace Go.Ab
set_option linter.unusedSimpArgs false
set_option linter.unusedVariables false

/-! ### the abstract machine alone: what code leaves alone -/
structure FrR (lo : Nat) (s s' : St) : Prop where
  cle : s.c ≤ s'.c
  keepn : ∀ n, n < lo → s.m.get n = none → s'.m.get n = none
  top : (∀ n, s.c ≤ n → s.m.get n = none) → ∀ n, s'.c ≤ n → s'.m.get n = none
  log : ∃ δ, s'.m.log = δ ++ s.m.log ∧ ∀ n, n < lo → n ∉ δ → s'.m.get n = s.m.get n
theorem FrR.refl (lo : Nat) (s : St) : FrR lo s s := ⟨Nat.le_refl _, fun _ _ h => h, fun h => h, [], rfl, fun _ _ _ => rfl⟩
theorem FrR.trans {lo : Nat} {s s1 s2 : St} (h : FrR lo s s1) (k : FrR lo s1 s2) : FrR lo s s2 := by
  obtain ⟨δ1, e1, f1⟩ := h.log
  obtain ⟨δ2, e2, f2⟩ := k.log
  exact ⟨Nat.le_trans h.cle k.cle, fun n hn hg => k.keepn n hn (h.keepn n hn hg), fun ht => k.top (h.top ht), δ2 ++ δ1, by rw [e2, e1, List.append_assoc], fun n hn hd => by rw [List.mem_append, not_or] at hd; rw [f2 n hn hd.1, f1 n hn hd.2]⟩
theorem FrR.lower {lo lo' : Nat} {s s' : St} (h : FrR lo s s') (hl : lo' ≤ lo) : FrR lo' s s' :=
  ⟨h.cle, fun n hn => h.keepn n (by omega), h.top, let ⟨δ, e, f⟩ := h.log; ⟨δ, e, fun n hn => f n (by omega)⟩⟩

section
variable {P : Program} {call : CallA}

theorem oneOp_frr (hc : AbsOK call) {ops : Array Oper} {base i lo : Nat} {s s' : St} {t : Tc} (h : oneOp P call ops base i s = some (s', t)) (hlo : lo ≤ base) (hlt : base + i < s.c) : FrR lo s s' := by
  have f := oneOp_fr hc h
  refine ⟨f.cle, fun n hn hg => ?_, f.top hlt, let ⟨δ, e, g⟩ := f.logx; ⟨δ, e, fun n hn hd => g n (by omega) (by omega) hd⟩⟩
  cases hx : t.x with
  | false => rw [(f.n hx).2.1 n (by omega)]; exact hg
  | true => exact (f.x hx).1 n (by omega) (by omega) hg

theorem runOps_frr (hc : AbsOK call) {ops : Array Oper} {base lo : Nat} (hlo : lo ≤ base) : ∀ (l : List Nat) (s s' : St), (∀ i ∈ l, base + i < s.c) → runOps P call ops base l s = some s' → FrR lo s s'
  | [], s, s', _, h => by cases h; exact FrR.refl _ _
  | i :: l, s, s', hl, h => by
    simp only [runOps] at h
    split at h
    · rename_i s1 t h1
      have f := oneOp_frr hc h1 hlo (hl i (by simp))
      exact f.trans (runOps_frr hc hlo l s1 s' (fun j hj => Nat.lt_of_lt_of_le (hl j (by simp [hj])) f.cle) h)
    · cases h

theorem runOpsT_run {ops : Array Oper} {base : Nat} : ∀ (l : List Nat) (s s' : St) (ts : List Tc), runOpsT P call ops base l s = some (s', ts) → runOps P call ops base l s = some s'
  | [], s, s', ts, h => by simp only [runOpsT, Option.some.injEq, Prod.mk.injEq] at h; simp [runOps, h.1]
  | i :: l, s, s', ts, h => by
    simp only [runOpsT] at h
    split at h
    · rename_i s1 t h1
      split at h
      · rename_i s2 ts2 h2
        cases h
        simp only [runOps, h1]
        exact runOpsT_run l s1 _ _ h2
      · cases h
    · cases h

theorem region_frr (hc : AbsOK call) {ops : Array Oper} {draw : Bool} {s s' : St} (h : aRegion P call ops draw s = some s') : FrR s.c s s' := by
  have key : runOps P call ops s.c (List.range ops.size) ⟨s.sl, s.m, s.c + ops.size⟩ = some s' := by
    unfold aRegion at h
    split at h
    · split at h
      · rename_i h1
        split at h
        · cases h; exact runOpsT_run _ _ _ _ h1
        · cases h
      · cases h
    · exact h
  have f := runOps_frr hc (lo := s.c) (Nat.le_refl _) _ _ _ (fun i hi => by have := List.mem_range.1 hi; show s.c + i < s.c + ops.size; omega) key
  exact ⟨Nat.le_trans (Nat.le_add_right _ _) f.cle, f.keepn, fun ht => f.top fun n hn => ht n (Nat.le_trans (Nat.le_add_right _ _) hn), f.log⟩

theorem loop_frr {body : St → Option (Out × St)} {fg : List (Option AV) → List (Option AV)} (hb : ∀ s o s', body s = some (o, s') → FrR s.c s s') : ∀ (k : Nat) (s : St) (o : Out) (s' : St), aLoop body fg k s = some (o, s') → FrR s.c s s'
  | 0, _, _, _, h => by cases h
  | k + 1, s, o, s', h => by
    simp only [aLoop] at h
    split at h
    · rename_i s1 h1
      have f := hb _ _ _ h1
      have g := loop_frr hb k _ _ _ h
      exact FrR.trans ⟨f.cle, f.keepn, f.top, f.log⟩ (g.lower f.cle)
    · have f := hb _ _ _ h
      exact ⟨f.cle, f.keepn, f.top, f.log⟩

theorem code_frr (hc : AbsOK call) {k : Nat} {live : Nat → Option (List Nat)} : ∀ (code : Code) (b : Nat) (s : St) (o : Out) (s' : St), aCode P call k live b code s = some (o, s') → FrR s.c s s' := by
  intro code
  induction code with
  | skip => intro b s o s' h; cases h; exact FrR.refl _ _
  | region id ops draw =>
    intro b s o s' h
    simp only [aCode] at h
    split at h
    · rename_i h1; cases h; exact region_frr hc h1
    · cases h
  | seq x y ihx ihy =>
    intro b s o s' h
    simp only [aCode] at h
    split at h
    · rename_i s1 h1
      have f := ihx _ _ _ _ h1
      exact f.trans ((ihy _ _ _ _ h).lower f.cle)
    · exact ihx _ _ _ _ h
  | cond c x y ihx ihy =>
    intro b s o s' h
    simp only [aCode] at h
    split at h
    · exact ihx _ _ _ _ h
    · exact ihy _ _ _ _ h
    · cases h
  | block id x ih =>
    intro b s o s' h
    simp only [aCode] at h
    split at h
    · rename_i h1
      split at h <;> (cases h; exact ih _ _ _ _ h1)
    · exact ih _ _ _ _ h
  | loop x ih =>
    intro b s o s' h
    simp only [aCode] at h
    exact loop_frr (fun s o s' => ih b s o s') _ _ _ _ h
  | exit id => intro b s o s' h; cases h; exact FrR.refl _ _
  | ret => intro b s o s' h; cases h; exact FrR.refl _ _
  | _ => intro b s o s' h; cases h

/-! ### the model's code -/
def Out.ex : Out → Exit
  | .normal => .normal
  | .exit id => .exit id
  | .ret => .ret

theorem keepA_getD (l : List Nat) (sl : List (Option AV)) (t : Nat) (v : AV) (h : (keepA l sl).getD t none = some v) : sl.getD t none = some v := by
  simp only [keepA, List.getD_eq_getElem?_getD, List.getElem?_map, List.getElem?_zipIdx] at h ⊢
  cases h1 : sl[t]? with
  | none => simp [h1] at h
  | some u =>
    simp only [h1, Option.map_some, Option.getD_some, Nat.zero_add] at h ⊢
    split at h
    · exact h
    · cases h
theorem keepA_slr {μ : Mu} {l : List Nat} {sl : List (Option AV)} {tmps : Array Value} (h : SlR μ sl tmps) : SlR μ (keepA l sl) tmps :=
  ⟨by simpa [keepA] using h.1, fun t v hv => h.2 t v (keepA_getD l sl t v hv)⟩

theorem code_ok (hm : P.follows .mixedOrders = true) (hcall : CallOK P call) (hc : AbsOK call) {lo k : Nat} {live : Nat → Option (List Nat)} :
    ∀ (code : Code) (b : Nat) (s : St) (o : Out) (s' : St) (μ : Mu) (a : Act) (w : World), StR μ s (fun _ => False) a w → lo ≤ s.c → aCode P call k live b code s = some (o, s') →
      ∀ {Q : Exit → Act → World → Prop}, (∀ μ' a' w', StR μ' s' (fun _ => False) a' w' → Goes lo μ s w μ' s' w' → a'.defers = a.defers → Q o.ex a' w') → code.wp P Q a w := by
  intro code
  induction code with
  | skip => intro b s o s' μ a w hR hlo h Q hq; cases h; exact wp_skip (hq μ a w hR (Goes.refl _ _ _ _) rfl)
  | region id ops draw =>
    intro b s o s' μ a w hR hlo h Q hq
    simp only [aCode] at h
    split at h
    · rename_i h1; cases h; exact region_ok hm hcall hc hR hlo h1 hq
    · cases h
  | seq x y ihx ihy =>
    intro b s o s' μ a w hR hlo h Q hq
    simp only [aCode] at h
    refine wp_seq ?_
    split at h
    · rename_i s1 h1
      exact ihx _ _ _ _ μ a w hR hlo h1 fun μ1 a1 w1 hR1 g1 d1 => ihy _ _ _ _ μ1 a1 w1 hR1 (Nat.le_trans hlo g1.cle) h fun μ2 a2 w2 hR2 g2 d2 => hq μ2 a2 w2 hR2 (g1.trans g2) (d2.trans d1)
    · rename_i hne
      refine ihx _ _ _ _ μ a w hR hlo h fun μ1 a1 w1 hR1 g1 d1 => ?_
      cases o with
      | normal => exact (hne s' (by rw [h])).elim
      | exit id => exact hq μ1 a1 w1 hR1 g1 d1
      | ret => exact hq μ1 a1 w1 hR1 g1 d1
  | cond c x y ihx ihy =>
    intro b s o s' μ a w hR hlo h Q hq
    simp only [aCode] at h
    split at h
    · rename_i he
      have := hR.sl.eval (P := P) c _ he
      simp only [cn, Option.some.injEq] at this
      exact wp_cond_true this.symm (ihx _ _ _ _ μ a w hR hlo h hq)
    · rename_i he
      have := hR.sl.eval (P := P) c _ he
      simp only [cn, Option.some.injEq] at this
      exact wp_cond_false this.symm (ihy _ _ _ _ μ a w hR hlo h hq)
    · cases h
  | block id x ih =>
    intro b s o s' μ a w hR hlo h Q hq
    simp only [aCode] at h
    refine wp_block ?_
    split at h
    · rename_i id' s1 h1
      refine ih _ _ _ _ μ a w hR hlo h1 fun μ1 a1 w1 hR1 g1 d1 => ?_
      simp only [Out.ex, Exit.inBlock]
      split at h
      · rename_i e; cases h; rw [if_pos e]; exact hq μ1 a1 w1 hR1 g1 d1
      · rename_i e; cases h; rw [if_neg e]; exact hq μ1 a1 w1 hR1 g1 d1
    · rename_i hne
      refine ih _ _ _ _ μ a w hR hlo h fun μ1 a1 w1 hR1 g1 d1 => ?_
      cases o with
      | exit id' => exact (hne id' s' (by rw [h])).elim
      | normal => exact hq μ1 a1 w1 hR1 g1 d1
      | ret => exact hq μ1 a1 w1 hR1 g1 d1
  | loop x ih =>
    intro b s o s' μ a w hR hlo h Q hq
    simp only [aCode] at h
    intro fr kk cs
    have key : ∀ (n : Nat) (s : St) (μ : Mu) (a : Act) (w : World), StR μ s (fun _ => False) a w → lo ≤ s.c → ∀ {o : Out} {s' : St}, aLoop (aCode P call k live b x) (match live b with | some l => keepA l | none => id) n s = some (o, s') →
        (∀ μ' a' w', StR μ' s' (fun _ => False) a' w' → Goes lo μ s w μ' s' w' → a'.defers = a.defers → Q o.ex a' w') →
        ∃ e a' w', Q e a' w' ∧ Arrives P (lone (fr.at a (.code x :: .inLoop x :: kk)) cs w) fr kk cs e a' w' := by
      intro n
      induction n with
      | zero => intro s μ a w _ _ o s' h; cases h
      | succ n ihn =>
        intro s μ a w hR hlo o s' h hq
        simp only [aLoop] at h
        have hR1 : StR μ ⟨(match live b with | some l => keepA l | none => id) s.sl, s.m, s.c⟩ (fun _ => False) a w := ⟨by cases live b with | none => exact hR.sl | some l => exact keepA_slr hR.sl, hR.sim, hR.fresh, hR.free⟩
        split at h
        · rename_i s1 h1
          obtain ⟨e, a1, w1, ⟨rfl, μ1, hR2, g1, d1⟩, harr⟩ := ih _ _ _ _ μ a w hR1 hlo h1 (Q := fun e a' w' => e = Exit.normal ∧ ∃ μ', StR μ' s1 (fun _ => False) a' w' ∧ Goes lo μ s w μ' s1 w' ∧ a'.defers = a.defers) (fun μ' a' w' r g d => ⟨rfl, μ', r, ⟨g.le, g.same, g.cle, g.step, g.log⟩, d⟩) fr (.inLoop x :: kk) cs
          obtain ⟨e2, a2, w2, hq2, harr2⟩ := ihn s1 μ1 a1 w1 hR2 (Nat.le_trans hlo g1.cle) h fun μ' a' w' r g d => hq μ' a' w' r (g1.trans g) (d.trans d1)
          exact ⟨e2, a2, w2, hq2, .of_steps (Steps.trans harr (.one step_inLoop)) harr2⟩
        · rename_i hne
          obtain ⟨e, a1, w1, ⟨rfl, hq1⟩, harr⟩ := ih _ _ _ _ μ a w hR1 hlo h (Q := fun e a' w' => e = o.ex ∧ Q e a' w') (fun μ' a' w' r g d => ⟨rfl, hq μ' a' w' r ⟨g.le, g.same, g.cle, g.step, g.log⟩ d⟩) fr (.inLoop x :: kk) cs
          refine ⟨_, a1, w1, hq1, .pass (x := .inLoop x) rfl (fun _ _ => .inl ?_) harr⟩
          cases o with
          | normal => exact (hne s' (by rw [h])).elim
          | exit id => simp [Out.ex]
          | ret => simp [Out.ex]
    obtain ⟨e, a', w', hq', harr⟩ := key _ s μ a w hR hlo h hq
    exact ⟨e, a', w', hq', .of_steps (.one step_loop) harr⟩
  | exit id => intro b s o s' μ a w hR hlo h Q hq; cases h; exact wp_exit (hq μ a w hR (Goes.refl _ _ _ _) rfl)
  | ret => intro b s o s' μ a w hR hlo h Q hq; cases h; exact wp_ret (hq μ a w hR (Goes.refl _ _ _ _) rfl)
  | _ => intro b s o s' μ a w hR hlo h; cases h

/-! ### results -/
def resM (tmps : Array Value) : ResultVar → Sem Value
  | .tmp t => pure (tmps.getD t undef)
  | .cell a t => do loadVar t (← asAddr (tmps.getD a undef))
theorem results_eq (fn : Func) (tmps : Array Value) : results fn tmps = (do
  let vs ← fn.results.mapM (resM tmps)
  pure (if h : vs.size = 1 then vs[0] else .tuple vs)) := by
  unfold results
  congr 1

variable {μ : Mu} {w : World}
theorem resA_ok {m : Mem} {sl : List (Option AV)} {tmps : Array Value} (hs : SlR μ sl tmps) (hS : Sim μ m.get w) {r : ResultVar} {v : AV} (h : resA P m sl r = some v) : ∃ u, (resM tmps r).run P w = .ok u w ∧ cn μ v = some u := by
  cases r with
  | tmp t => exact ⟨_, by simp [resM], hs.2 t v h⟩
  | cell a t =>
    simp only [resA] at h
    split at h
    · rename_i n z i f ha
      split at h
      · rename_i b z' rows hg
        split at h
        · rename_i hz
          subst hz
          split at h
          · rename_i row hi
            obtain ⟨p, o, hp, ho, hb⟩ := hS.blk n _ hg
            cases o <;> first | exact hb.elim | skip
            rename_i cs el fz
            have hx := hs.2 a _ ha
            simp only [cn, hp, Option.map_some, Option.some.injEq] at hx
            obtain ⟨l, hl, hc⟩ := row_cells hb hi
            obtain ⟨u, hu, hcu⟩ := read_run (P := P) (t := t) (off := p.shift + i * z) ho hl hc h
            refine ⟨u, ?_, hcu⟩
            simp only [resM, ← hx, plPtr, asAddr, Sem.run_bind, Sem.run_pure, Result.andThen_ok]
            exact hu
          · cases h
        · cases h
      · cases h
    · cases h
theorem resL_ok {m : Mem} {sl : List (Option AV)} {tmps : Array Value} (hs : SlR μ sl tmps) (hS : Sim μ m.get w) : ∀ {rs : List ResultVar} {vs : List AV}, resL P m sl rs = some vs → ∃ us, (rs.mapM (resM tmps)).run P w = .ok us w ∧ cnL μ vs = some us
  | [], vs, h => by cases h; exact ⟨[], by simp, rfl⟩
  | r :: rs, vs, h => by
    simp only [resL] at h
    split at h
    · rename_i v vs' h1 h2
      cases h
      obtain ⟨u, hu, hcu⟩ := resA_ok (P := P) hs hS h1
      obtain ⟨us, hus, hcus⟩ := resL_ok hs hS h2
      exact ⟨u :: us, by simp only [List.mapM_cons, Sem.run_bind, hu, Result.andThen_ok, hus, Sem.run_pure], by simp [cnL, hcu, hcus]⟩
    · cases h
theorem results_ok {fn : Func} {m : Mem} {sl : List (Option AV)} {tmps : Array Value} (hs : SlR μ sl tmps) (hS : Sim μ m.get w) {vs : List AV} (h : resL P m sl fn.results.toList = some vs) : ∃ u, (results fn tmps).run P w = .ok u w ∧ cn μ (resT vs) = some u := by
  obtain ⟨us, h1, h2⟩ := resL_ok (P := P) hs hS h
  rw [results_eq, Array.mapM_eq_mapM_toList]
  simp only [map_eq_pure_bind, Sem.run_bind, h1, Result.andThen_ok, Sem.run_pure]
  refine ⟨_, rfl, ?_⟩
  match vs, us, h2 with
  | [], us, h2 => cases h2; rfl
  | [v], us, h2 =>
    simp only [cnL] at h2
    cases hv : cn μ v with
    | none => simp [hv] at h2
    | some u => simp only [hv] at h2; cases h2; simpa [resT] using hv
  | v :: v' :: vs, us, h2 =>
    have hlen : us.length = (v :: v' :: vs).length := cnL_length h2
    rw [dif_neg (by simp [hlen])]
    simp only [resT, cn, h2, Option.map_some]
end

end Go.Ab
