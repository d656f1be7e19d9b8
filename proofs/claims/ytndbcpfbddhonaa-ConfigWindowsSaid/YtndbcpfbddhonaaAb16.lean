/- The abstract machine by itself: what an operation looks at, what it leaves alone. -/
import Derived.Test.YtndbcpfbddhonaaAb15
namespace Go.Ab
set_option linter.unusedSimpArgs false
set_option linter.unusedVariables false

/-- What is left alone, but for the name nm. -/
structure FrA (nm : Option Nat) (m : Mem) (c : Nat) (m' : Mem) (c' : Nat) : Prop where
  cle : c ≤ c'
  keepn : ∀ n, n < c → some n ≠ nm → m.get n = none → m'.get n = none
  top : (∀ k, nm = some k → k < c) → (∀ n, c ≤ n → m.get n = none) → ∀ n, c' ≤ n → m'.get n = none
  log : ∃ δ, m'.log = δ ++ m.log ∧ ∀ n, n < c → some n ≠ nm → n ∉ δ → m'.get n = m.get n
theorem FrA.refl (nm : Option Nat) (m : Mem) (c : Nat) : FrA nm m c m c := ⟨Nat.le_refl c, fun _ _ _ h => h, fun _ h => h, [], rfl, fun _ _ _ _ => rfl⟩
theorem FrA.new (nm : Nat) (m : Mem) (c : Nat) (b : ABlk) : FrA (some nm) m c (m.new nm b) c :=
  ⟨Nat.le_refl c, fun n _ hne h => by rw [Mem.get_new, if_neg (fun e => hne (by rw [e]))]; exact h, fun hk ht n hn => by rw [Mem.get_new, if_neg (fun e => by have := hk nm rfl; omega)]; exact ht n hn, [], rfl, fun n _ hne _ => by rw [Mem.get_new, if_neg (fun e => hne (by rw [e]))]⟩
theorem FrA.write (nm : Option Nat) (m : Mem) (c n : Nat) (b : Option ABlk) {b0 : ABlk} (h : m.get n = some b0) : FrA nm m c (m.write n b) c :=
  ⟨Nat.le_refl c, fun k _ _ hk => by
    rw [Mem.get_write]
    split
    · rename_i e; subst e; rw [h] at hk; cases hk
    · exact hk, fun _ ht k hk => by
    rw [Mem.get_write]
    split
    · rename_i e; subst e; rw [ht _ hk] at h; cases h
    · exact ht k hk, [n], rfl, fun k _ _ hd => by rw [Mem.get_write, if_neg (by simpa using hd)]⟩
theorem FrA.move (nm : Nat) (m : Mem) (c n : Nat) (b : ABlk) : FrA (some nm) m c ((m.write n none).new nm b) c :=
  ⟨Nat.le_refl c, fun k _ hne hk => by
    rw [Mem.get_new, if_neg (fun e => hne (by rw [e])), Mem.get_write]
    split
    · rfl
    · exact hk, fun hnm ht k hk => by
    rw [Mem.get_new, if_neg (fun e => by have := hnm nm rfl; omega), Mem.get_write]
    split
    · rfl
    · exact ht k hk, [n], rfl, fun k _ hne hd => by rw [Mem.get_new, if_neg (fun e => hne (by rw [e])), Mem.get_write, if_neg (by simpa using hd)]⟩
theorem FrA.weaken {m m' : Mem} {c c' : Nat} (h : FrA none m c m' c') (nm : Option Nat) : FrA nm m c m' c' :=
  ⟨h.cle, fun n hn _ => h.keepn n hn (by simp), fun _ => h.top (fun _ e => by cases e), let ⟨δ, e, f⟩ := h.log; ⟨δ, e, fun n hn _ hd => f n hn (by simp) hd⟩⟩

def AbsOK (call : CallA) : Prop := ∀ (f : FuncId) (vs : List AV) (m : Mem) (c : Nat) (v : AV) (m' : Mem) (c' : Nat), call f vs m c = some (v, m', c') → FrA none m c m' c'

theorem appendA_fr {P : Program} {m m' : Mem} {nm c : Nat} {ts tx : TypeId} {s x v : AV} (h : appendA P m nm ts tx s x = some (v, m')) : FrA (some nm) m c m' c := by
  unfold appendA at h
  repeat' split at h
  all_goals first
    | (cases h; done)
    | (cases h; exact FrA.refl _ _ _)
    | (cases h; exact FrA.new _ _ _ _)
    | (cases h; exact FrA.write _ _ _ _ _ (by assumption))
    | (cases h; exact FrA.move _ _ _ _ _)

theorem aX_fr {P : Program} {call : CallA} (hc : AbsOK call) {ρ : Rho} {m m' : Mem} {c c' nm : Nat} {o : Op} {v : Option AV} (h : aX P call ρ m c nm o = some (v, m', c')) : FrA (some nm) m c m' c' := by
  unfold aX at h
  split at h
  · repeat' split at h
    all_goals first | (cases h; done) | (cases h; exact FrA.write _ _ _ _ _ (by assumption))
  · split at h
    · split at h
      · split at h
        · simp only [Option.map_eq_some_iff] at h
          obtain ⟨es, _, h⟩ := h
          cases h; exact FrA.write _ _ _ _ _ (by assumption)
        · cases h
      · cases h
    · cases h
  · split at h
    · split at h
      · simp only [Option.map_eq_some_iff] at h
        obtain ⟨⟨rv, rm⟩, hr, h⟩ := h
        cases h; exact appendA_fr hr
      · cases h
    · cases h
  · split at h
    · simp only [Option.map_eq_some_iff] at h
      obtain ⟨⟨rv, rm, rc⟩, hr, h⟩ := h
      cases h; exact (hc _ _ _ _ _ _ _ hr).weaken _
    · cases h
  · repeat' split at h
    all_goals first | (cases h; done) | (cases h; exact FrA.write _ _ _ _ _ (by assumption))
  · cases h

theorem take_log {l δ : List Nat} : (δ ++ l).take ((δ ++ l).length - l.length) = δ := by simp

theorem aXM_fr {P : Program} {call : CallA} (hc : AbsOK call) {ρ : Rho} {m m' : Mem} {c c' nm : Nat} {o : Op} {v : Option AV} (h : aXM P call ρ m c nm o = some (v, m', c')) : FrA (some nm) m c m' c' := by
  unfold aXM at h
  simp only [Option.map_eq_some_iff, Prod.mk.injEq] at h
  obtain ⟨⟨v0, m0, c0⟩, h0, _, h2⟩ := h
  dsimp only at h2
  cases h2
  exact aX_fr hc h0

/-- What one operation leaves alone. -/
structure OneFr (ops : Array Oper) (base i : Nat) (s s' : St) (t : Tc) : Prop where
  cle : s.c ≤ s'.c
  len : s'.sl.length = s.sl.length
  sl : ∀ τ, ((ops[i]?).bind (·.dst)) ≠ some τ → s'.sl.getD τ none = s.sl.getD τ none
  n : t.x = false → s'.c = s.c ∧ (∀ n, n ≠ base + i → s'.m.get n = s.m.get n) ∧ (t.a = false → s'.m = s.m)
  x : t.x = true → (∀ n, n < s.c → n ≠ base + i → s.m.get n = none → s'.m.get n = none) ∧ ∀ n, n < s.c → n ≠ base + i → n ∉ t.wr → s'.m.get n = s.m.get n
  top : base + i < s.c → (∀ n, s.c ≤ n → s.m.get n = none) → ∀ n, s'.c ≤ n → s'.m.get n = none
  logx : ∃ δ, s'.m.log = δ ++ s.m.log ∧ ∀ n, n < s.c → n ≠ base + i → n ∉ δ → s'.m.get n = s.m.get n

theorem putA_len (sl : List (Option AV)) (d : Option Tmp) (v : Option AV) : (putA sl d v).length = sl.length := by cases d <;> simp [putA]
theorem putA_ne (sl : List (Option AV)) (d : Option Tmp) (v : Option AV) (τ : Nat) (h : d ≠ some τ) : (putA sl d v).getD τ none = sl.getD τ none := by
  cases d with
  | none => rfl
  | some d => simp only [putA]; rw [getD_set, if_neg (fun e => h (by rw [e.1]))]

theorem oneOp_fr {P : Program} {call : CallA} (hc : AbsOK call) {ops : Array Oper} {base i : Nat} {s s' : St} {t : Tc} (h : oneOp P call ops base i s = some (s', t)) : OneFr ops base i s s' t := by
  unfold oneOp at h
  split at h
  · cases h
  · rename_i o ho
    have hd : (ops[i]?).bind (·.dst) = o.dst := by rw [ho]; rfl
    split at h
    · cases h
    · cases h
      exact ⟨Nat.le_refl _, putA_len _ _ _, fun τ hτ => putA_ne _ _ _ _ (by rw [hd] at hτ; exact hτ), fun _ => ⟨rfl, fun _ _ => rfl, fun _ => rfl⟩, (fun e => by cases e), fun _ h => h, [], rfl, fun _ _ _ _ => rfl⟩
    · split at h
      · split at h
        · rename_i v m' c' hx
          cases h
          have hfr := aXM_fr hc hx
          obtain ⟨δ, e1, e2⟩ := hfr.log
          refine ⟨hfr.cle, putA_len _ _ _, fun τ hτ => putA_ne _ _ _ _ (by rw [hd] at hτ; exact hτ), (fun e => by cases e), fun _ => ⟨fun n hn hne => hfr.keepn n hn (by simpa using hne), fun n hn hne hd => ?_⟩, fun hlt => hfr.top (fun k e => by cases e; exact hlt), δ, e1, fun n hn hne => e2 n hn (by simpa using hne)⟩
          dsimp only at hd
          rw [e1, take_log] at hd
          exact e2 n hn (by simpa using hne) hd
        · cases h
      · split at h
        · cases h
          exact ⟨Nat.le_refl _, putA_len _ _ _, fun τ hτ => putA_ne _ _ _ _ (by rw [hd] at hτ; exact hτ), fun _ => ⟨rfl, fun _ _ => rfl, fun _ => rfl⟩, (fun e => by cases e), fun _ h => h, [], rfl, fun _ _ _ _ => rfl⟩
        · cases h
          exact ⟨Nat.le_refl _, putA_len _ _ _, fun τ hτ => putA_ne _ _ _ _ (by rw [hd] at hτ; exact hτ), fun _ => ⟨rfl, fun n hn => by rw [Mem.get_new, if_neg hn], (fun e => by cases e)⟩, (fun e => by cases e), fun hlt ht n hn => by rw [Mem.get_new, if_neg (by dsimp only at hn; omega)]; exact ht n hn, [], rfl, fun n _ hn _ => by rw [Mem.get_new, if_neg hn]⟩
        · cases h

/-! ### what an operation looks at -/
theorem valsA_congr {ρ ρ' : Rho} : ∀ {xs : List Operand}, (∀ x ∈ xs, ρ' x = ρ x) → valsA ρ' xs = valsA ρ xs
  | [], _ => rfl
  | x :: r, h => by simp only [valsA, h x (by simp), valsA_congr (xs := r) fun y hy => h y (by simp [hy])]
theorem partsA_congr {ρ ρ' : Rho} : ∀ {xs : List (Nat × Operand)}, (∀ x ∈ xs, ρ' x.2 = ρ x.2) → partsA ρ' xs = partsA ρ xs
  | [], _ => rfl
  | (i, x) :: r, h => by
    have h0 := h (i, x) (by simp)
    dsimp only at h0
    simp only [partsA, h0, partsA_congr (xs := r) fun y hy => h y (by simp [hy])]

theorem aX_congr {P : Program} {call : CallA} {ρ ρ' : Rho} {m : Mem} {c nm : Nat} {o : Op} (h : ∀ x ∈ o.operands.toList, ρ' x = ρ x) : aX P call ρ' m c nm o = aX P call ρ m c nm o := by
  unfold aX
  split
  · rename_i t a x; rw [h a (by simp [Op.operands]), h x (by simp [Op.operands])]
  · rename_i t x k v; rw [h x (by simp [Op.operands]), h k (by simp [Op.operands]), h v (by simp [Op.operands])]
  · rename_i args ats
    have h' : ∀ x ∈ args.toList, ρ' x = ρ x := fun x hx => h x (by simpa [Op.operands, Call.operands] using hx)
    split
    · rename_i s x _ _ ha _
      rw [h' s (by simp [ha]), h' x (by simp [ha])]
    · rfl
  · rename_i f args ats
    have h' : ∀ x ∈ args.toList, ρ' x = ρ x := fun x hx => h x (by simp [Op.operands, Call.operands]; right; simpa using hx)
    rw [h f (by simp [Op.operands, Call.operands]), valsA_congr h']
  · rename_i src dst x; rw [h x (by simp [Op.operands])]
  · rfl

theorem optA_congr {ρ ρ' : Rho} {o : Option Operand} (h : ∀ x ∈ o.toList, ρ' x = ρ x) : optA none (fun o => (ρ' o).map some) o = optA none (fun o => (ρ o).map some) o := by
  cases o with
  | none => rfl
  | some x => simp only [optA, h x (by simp)]

theorem aN_congr {P : Program} {ρ ρ' : Rho} {get get' : Nat → Option ABlk} {nm : Nat} {o : Op} {r : NR} (h : aN P ρ get nm o = some r) (hρ : ∀ x ∈ o.operands.toList, ρ' x = ρ x) (hg : ∀ n ∈ r.rd, get' n = get n) :
    aN P ρ' get' nm o = some r := by
  cases o with
  | move x => simp only [aN] at h ⊢; rw [hρ x (by simp [Op.operands])]; exact h
  | assign x => simp only [aN] at h ⊢; rw [hρ x (by simp [Op.operands])]; exact h
  | pick c a b => simp only [aN] at h ⊢; rw [hρ c (by simp [Op.operands]), hρ a (by simp [Op.operands]), hρ b (by simp [Op.operands])]; exact h
  | alloc e => exact h
  | box e x => simp only [aN] at h ⊢; rw [hρ x (by simp [Op.operands])]; exact h
  | build t parts =>
    simp only [aN] at h ⊢
    rw [partsA_congr fun x hx => hρ x.2 (by simp only [Op.operands, List.mem_map]; exact ⟨x, hx, rfl⟩)]; exact h
  | buildSlice t len parts =>
    simp only [aN] at h ⊢
    rw [partsA_congr fun x hx => hρ x.2 (by simp only [Op.operands, List.mem_map]; exact ⟨x, hx, rfl⟩)]; exact h
  | load t a =>
    simp only [aN] at h ⊢
    rw [hρ a (by simp [Op.operands])]
    split at h
    · rename_i n z i f hx
      split at h
      · rename_i q0 z' rows hgn
        split at h
        · rename_i hz
          split at h
          · rename_i row hrow
            simp only [Option.map_eq_some_iff] at h
            obtain ⟨v, hv, rfl⟩ := h
            simp only [hg n (by simp), hgn, hz, if_true, hrow, hv, Option.map_some]
          · cases h
        · cases h
      · cases h
    · cases h
  | nilCheck x => simp only [aN] at h ⊢; rw [hρ x (by simp [Op.operands])]; exact h
  | binOp op t x y yt => simp only [aN] at h ⊢; rw [hρ x (by simp [Op.operands]), hρ y (by simp [Op.operands])]; exact h
  | unOp op t x => simp only [aN] at h ⊢; rw [hρ x (by simp [Op.operands])]; exact h
  | convert src dst x =>
    simp only [aN] at h ⊢
    rw [hρ x (by simp [Op.operands])]
    split at h
    · exact h
    · exact h
    · exact h
    · rename_i e n z i len q1 q2 alt hs hd hx
      split at h
      · rename_i he
        split at h
        · rename_i h0; simp only [h0, if_true]; exact h
        · rename_i h0
          simp only [h0, if_false]
          split at h
          · rename_i q3 rows hgn
            split at h
            · rename_i hle
              simp only [Option.map_eq_some_iff] at h
              obtain ⟨v, hv, rfl⟩ := h
              simp only [hg n (by simp), hgn, hle, if_true, hv, Option.map_some]
            · cases h
          · cases h
      · cases h
    · exact h
    · cases h
  | makeInterface t x => simp only [aN] at h ⊢; rw [hρ x (by simp [Op.operands])]; exact h
  | makeFunc fn first captured =>
    cases fn with
    | func f =>
      simp only [aN] at h ⊢
      rw [valsA_congr fun x hx => hρ x (by simp only [Op.operands, Array.toList_append, List.mem_append]; exact .inr hx)]; exact h
    | _ => exact h
  | makeMap t r => exact h
  | makeSlice t l c => simp only [aN] at h ⊢; rw [hρ l (by simp [Op.operands]), hρ c (by simp [Op.operands])]; exact h
  | slice t x lo hi mx =>
    simp only [aN] at h ⊢
    rw [hρ x (by simp [Op.operands]), optA_congr (o := lo) fun y hy => hρ y (by simp [Op.operands] at hy ⊢; simp [hy]), optA_congr (o := hi) fun y hy => hρ y (by simp [Op.operands] at hy ⊢; simp [hy]), optA_congr (o := mx) fun y hy => hρ y (by simp [Op.operands] at hy ⊢; simp [hy])]
    exact h
  | fieldAddr t x f => simp only [aN] at h ⊢; rw [hρ x (by simp [Op.operands])]; exact h
  | field t x f => simp only [aN] at h ⊢; rw [hρ x (by simp [Op.operands])]; exact h
  | indexAddr t x ix => simp only [aN] at h ⊢; rw [hρ x (by simp [Op.operands]), hρ ix (by simp [Op.operands])]; exact h
  | index t x ix => simp only [aN] at h ⊢; rw [hρ x (by simp [Op.operands]), hρ ix (by simp [Op.operands])]; exact h
  | lookup t x k ok =>
    simp only [aN] at h ⊢
    rw [hρ x (by simp [Op.operands]), hρ k (by simp [Op.operands])]
    split at h
    · rename_i kt e m key hu hm hk
      split at h
      · rename_i kd hkd
        split at h
        · cases h
        · rename_i hf
          simp only [hf, if_false]
          split at h
          · exact h
          · rename_i n
            split at h
            · rename_i es hgn
              split at h
              · rename_i q hq
                have hrd : r.rd = [n] := by
                  revert h
                  split
                  · intro h; cases h; rfl
                  · split
                    · intro h; cases h; rfl
                    · intro h; cases h
                simp only [hg n (by rw [hrd]; simp), hgn, hq]
                exact h
              · cases h
            · cases h
          · cases h
      · cases h
    · cases h
  | extract x i => simp only [aN] at h ⊢; rw [hρ x (by simp [Op.operands])]; exact h
  | call c =>
    obtain ⟨callee, args, ats⟩ := c
    cases callee with
    | builtin b =>
      have h' : ∀ x ∈ args.toList, ρ' x = ρ x := fun x hx => hρ x (by simpa [Op.operands, Call.operands] using hx)
      cases b with
      | len =>
        simp only [aN] at h ⊢
        split at h
        · rename_i x t hx ht
          try (rw [hx, ht]; dsimp only)
          rw [h' x (by simp [hx])]
          split at h
          · exact h
          · exact h
          · exact h
          · exact h
          · exact h
          · rename_i k e n hu hv
            split at h
            · rename_i es hgn
              cases h
              simp only [hg n (by simp), hgn]
            · cases h
          · cases h
        · cases h
      | min =>
        simp only [aN] at h ⊢
        split at h
        · rename_i x y hx
          try (rw [hx]; dsimp only)
          rw [h' x (by simp [hx]), h' y (by simp [hx])]
          exact h
        · cases h
      | max =>
        simp only [aN] at h ⊢
        split at h
        · rename_i x y hx
          try (rw [hx]; dsimp only)
          rw [h' x (by simp [hx]), h' y (by simp [hx])]
          exact h
        · cases h
      | _ => exact h
    | _ => exact h
  | _ => exact h

/-- What is read is known to the places. -/
theorem aN_rd {P : Program} {ρ : Rho} {get : Nat → Option ABlk} {nm : Nat} {o : Op} {r : NR} (h : aN P ρ get nm o = some r) {μ : Mu} {ρc : Operand → Value} (hρ : ∀ x ∈ o.operands.toList, ∀ v, ρ x = some v → cn μ v = some (ρc x)) :
    ∀ n ∈ r.rd, (∃ p, μ n = some p) ∧ ∃ b, get n = some b := by
  intro n hn
  cases o with
  | load t a =>
    simp only [aN] at h
    split at h
    · rename_i n' z i f hx
      split at h
      · rename_i q0 z' rows hgn
        split at h
        · split at h
          · simp only [Option.map_eq_some_iff] at h
            obtain ⟨v, hv, rfl⟩ := h
            simp only [List.mem_singleton] at hn
            subst hn
            have := hρ a (by simp [Op.operands]) _ hx
            simp only [cn, Option.map_eq_some_iff] at this
            obtain ⟨p, hp, _⟩ := this
            exact ⟨⟨p, hp⟩, _, hgn⟩
          · cases h
        · cases h
      · cases h
    · cases h
  | convert src dst x =>
    simp only [aN] at h
    split at h
    · obtain ⟨v, hv, rfl⟩ := pureR_some h; cases hn
    · obtain ⟨v, hv, rfl⟩ := pureR_some h; cases hn
    · split at h
      · obtain ⟨v, hv, rfl⟩ := pureR_some h; cases hn
      · cases h
    · rename_i e n' z i len q1 q2 alt hs hd hx
      split at h
      · split at h
        · obtain ⟨v, hv, rfl⟩ := pureR_some h; cases hn
        · split at h
          · rename_i q3 rows hgn
            split at h
            · simp only [Option.map_eq_some_iff] at h
              obtain ⟨v, hv, rfl⟩ := h
              simp only [List.mem_singleton] at hn
              subst hn
              have := hρ x (by simp [Op.operands]) _ hx
              simp only [cn, Option.map_eq_some_iff] at this
              obtain ⟨p, hp, _⟩ := this
              exact ⟨⟨p, hp⟩, _, hgn⟩
            · cases h
          · cases h
      · cases h
    · split at h
      · cases h; cases hn
      · cases h
    · cases h
  | lookup t x k ok =>
    simp only [aN] at h
    split at h
    · rename_i kt e m key hu hm hk
      split at h
      · split at h
        · cases h
        · split at h
          · repeat' split at h
            all_goals first | (cases h; cases hn; done) | (cases h; done)
          · rename_i n'
            split at h
            · rename_i es hgn
              split at h
              · have hrd : r.rd = [n'] := by
                  revert h
                  split
                  · intro h; cases h; rfl
                  · split
                    · intro h; cases h; rfl
                    · intro h; cases h
                rw [hrd] at hn
                simp only [List.mem_singleton] at hn
                subst hn
                have := hρ x (by simp [Op.operands]) _ hm
                simp only [cn, Option.map_eq_some_iff] at this
                obtain ⟨p, hp, _⟩ := this
                exact ⟨⟨p, hp⟩, _, hgn⟩
              · cases h
            · cases h
          · cases h
      · cases h
    · cases h
  | call c =>
    obtain ⟨callee, args, ats⟩ := c
    cases callee with
    | builtin b =>
      cases b with
      | len =>
        simp only [aN] at h
        split at h
        · rename_i x t hx ht
          split at h
          · obtain ⟨v, hv, rfl⟩ := pureR_some h; cases hn
          · obtain ⟨v, hv, rfl⟩ := pureR_some h; cases hn
          · obtain ⟨v, hv, rfl⟩ := pureR_some h; cases hn
          · obtain ⟨v, hv, rfl⟩ := pureR_some h; cases hn
          · obtain ⟨v, hv, rfl⟩ := pureR_some h; cases hn
          · rename_i k e n' hu hv
            split at h
            · rename_i es hgn
              cases h
              simp only [List.mem_singleton] at hn
              subst hn
              have := hρ x (by simp only [Op.operands, Call.operands, Array.toList_append, List.mem_append]; exact .inr (by rw [hx]; simp)) _ hv
              simp only [cn, Option.map_eq_some_iff] at this
              obtain ⟨p, hp, _⟩ := this
              exact ⟨⟨p, hp⟩, _, hgn⟩
            · cases h
          · cases h
        · cases h
      | min =>
        simp only [aN] at h
        repeat' split at h
        all_goals first | (obtain ⟨v, hv, rfl⟩ := pureR_some h; cases hn; done) | (cases h; done)
      | max =>
        simp only [aN] at h
        repeat' split at h
        all_goals first | (obtain ⟨v, hv, rfl⟩ := pureR_some h; cases hn; done) | (cases h; done)
      | _ => simp [aN] at h
    | _ => simp [aN] at h
  | makeFunc fn first captured =>
    cases fn with
    | func f =>
      simp only [aN] at h
      repeat' split at h
      all_goals first | (obtain ⟨v, hv, rfl⟩ := pureR_some h; cases hn; done) | (cases h; cases hn; done) | (cases h; done)
    | _ => simp [aN] at h
  | _ =>
    simp only [aN, reduceCtorEq] at h
    repeat' split at h
    all_goals first | (obtain ⟨v, hv, rfl⟩ := pureR_some h; cases hn; done) | (cases h; cases hn; done) | (cases h; done)

/-- A block that is made may be written. -/
theorem aN_rw {P : Program} {ρ : Rho} {get : Nat → Option ABlk} {nm : Nat} {o : Op} {v : AV} {b : ABlk} {rd : List Nat} (h : aN P ρ get nm o = some ⟨v, some b, rd⟩) : b.isRw = true := by
  unfold aN at h
  repeat' split at h
  all_goals first
    | (cases h; done)
    | (cases h; rfl)
    | (obtain ⟨u, hu, e⟩ := pureR_some h; cases e; done)
    | (simp only [Option.map_eq_some_iff] at h; obtain ⟨u, hu, e⟩ := h; cases e; done)
    | (dsimp only at h; split at h <;> cases h)

theorem symO_congr {ρ ρ' : Rho} {xs : List Operand} (h : ∀ x ∈ xs, ρ' x = ρ x) : (xs.any fun x => symO (ρ' x)) = xs.any fun x => symO (ρ x) := by
  induction xs with
  | nil => rfl
  | cons x xs ih => simp only [List.any_cons, h x (by simp), ih fun y hy => h y (by simp [hy])]
theorem symB_congr {ρ ρ' : Rho} {o : Option Operand} (h : ∀ x, o = some x → ρ' x = ρ x) : symB ρ' o = symB ρ o := by
  cases o with
  | none => rfl
  | some x => simp only [symB, h x rfl]
theorem usesSym_congr {ρ ρ' : Rho} {o : Op} (h : ∀ x ∈ o.operands.toList, ρ' x = ρ x) : usesSym ρ' o = usesSym ρ o := by
  unfold usesSym
  split
  · rw [h _ (by simp [Op.operands]), h _ (by simp [Op.operands])]
  · rw [h _ (by simp [Op.operands])]
  · rw [h _ (by simp [Op.operands])]
  · rw [h _ (by simp [Op.operands])]
  · rw [h _ (by simp [Op.operands])]
  · rw [h _ (by simp [Op.operands])]
  · rw [h _ (by simp [Op.operands]), h _ (by simp [Op.operands])]
  · rw [h _ (by simp [Op.operands]), h _ (by simp [Op.operands])]
  · rw [h _ (by simp [Op.operands]), h _ (by simp [Op.operands])]
  · rw [h _ (by simp [Op.operands]), symB_congr fun x e => h x (by simp [Op.operands, e]), symB_congr fun x e => h x (by simp [Op.operands, e]), symB_congr fun x e => h x (by simp [Op.operands, e])]
  · rw [h _ (by simp [Op.operands]), h _ (by simp [Op.operands])]
  · exact symO_congr fun x hx => h x (by simpa [Op.operands, Call.operands] using hx)
  · rfl
theorem symRho_congr {ρ ρ' : Rho} {o : Op} {x : Operand} (h : ρ' x = ρ x) : symRho ρ' o x = symRho ρ o x := by
  unfold symRho
  split <;> simp only [h]
theorem aM_congr {P : Program} {ρ ρ' : Rho} {get get' : Nat → Option ABlk} {nm : Nat} {o : Op} {r : NR} (h : aM P ρ get nm o = some r) (hρ : ∀ x ∈ o.operands.toList, ρ' x = ρ x) (hg : ∀ n ∈ r.rd, get' n = get n) :
    aM P ρ' get' nm o = some r := by
  unfold aM at h ⊢
  rw [usesSym_congr hρ]
  split at h
  · rename_i hu
    rw [if_pos hu]
    simp only [Option.map_eq_some_iff] at h ⊢
    obtain ⟨r0, h0, rfl⟩ := h
    exact ⟨r0, aN_congr h0 (fun x hx => symRho_congr (hρ x hx)) (fun n hn => by simp only [hg n hn]), rfl⟩
  · rename_i hu
    rw [if_neg hu]
    exact aN_congr h hρ hg
theorem aM_rd {P : Program} {ρ : Rho} {get : Nat → Option ABlk} {nm : Nat} {o : Op} {r : NR} (h : aM P ρ get nm o = some r) {μ : Mu} {ρc : Operand → Value} (hρ : ∀ x ∈ o.operands.toList, ∀ v, ρ x = some v → cn μ v = some (ρc x)) :
    ∀ n ∈ r.rd, (∃ p, μ n = some p) ∧ ∃ b, get n = some b := by
  unfold aM at h
  split at h
  · simp only [Option.map_eq_some_iff] at h
    obtain ⟨r0, h0, rfl⟩ := h
    intro n hn
    obtain ⟨h1, b, h2⟩ := aN_rd h0 (μ := μ) (ρc := ρc) (fun x hx v hv => by
      have : (∃ u, ρ x = some u ∧ norm u = v) ∨ (∃ u, ρ x = some u ∧ strip u = v) := by
        unfold symRho at hv
        split at hv
        · simp only [Option.map_eq_some_iff] at hv; exact .inl hv
        · simp only [Option.map_eq_some_iff] at hv; exact .inr hv
      rcases this with ⟨u, hu, rfl⟩ | ⟨u, hu, rfl⟩
      · rw [cn_norm]; exact hρ x hx u hu
      · rw [cn_strip]; exact hρ x hx u hu) n hn
    simp only [Option.map_eq_some_iff] at h2
    obtain ⟨b0, h3, _⟩ := h2
    exact ⟨h1, b0, h3⟩
  · exact aN_rd h hρ
theorem aM_rw {P : Program} {ρ : Rho} {get : Nat → Option ABlk} {nm : Nat} {o : Op} {v : AV} {b : ABlk} {rd : List Nat} (h : aM P ρ get nm o = some ⟨v, some b, rd⟩) : b.isRw = true := by
  unfold aM at h
  split at h
  · simp only [Option.map_eq_some_iff] at h
    obtain ⟨r0, h0, e⟩ := h
    obtain ⟨v0, nb, rd0⟩ := r0
    simp only [NR.mk.injEq] at e
    obtain ⟨_, e, _⟩ := e
    subst e
    exact aN_rw h0
  · exact aN_rw h
theorem stripAt_congr {ρ ρ' : Rho} {a x : Operand} (h : ρ' x = ρ x) : stripAt ρ' a x = stripAt ρ a x := by
  cases a <;> cases x <;> simp only [stripAt, h]
theorem aXM_congr {P : Program} {call : CallA} {ρ ρ' : Rho} {m : Mem} {c nm : Nat} {o : Op} (h : ∀ x ∈ o.operands.toList, ρ' x = ρ x) : aXM P call ρ' m c nm o = aXM P call ρ m c nm o := by
  unfold aXM
  have e1 : aX P call (symX ρ' o) m c nm o = aX P call (symX ρ o) m c nm o := aX_congr fun x hx => by
    unfold symX
    split
    · exact stripAt_congr (h x hx)
    · exact stripAt_congr (h x hx)
    · simp only [h x hx]
    · exact h x hx
  have e2 : symXV ρ' o = symXV ρ o := by
    funext v
    unfold symXV
    split
    · rw [symO_congr fun x hx => h x (by simpa [Op.operands, Call.operands] using hx)]
    · rfl
  rw [e1, e2]

end Go.Ab
