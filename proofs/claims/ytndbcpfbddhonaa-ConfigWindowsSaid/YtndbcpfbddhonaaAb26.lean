/- Frames: a call that reads what is there and gives no address; states renamed at a loop's head. -/
import Derived.Test.YtndbcpfbddhonaaAb25
namespace Go.Ab
set_option linter.unusedSimpArgs false
set_option linter.unusedVariables false

mutual
/-- No name stands in it. -/
def AV.flat : AV → Bool
  | .ptr .. | .slice .. | .map _ => false
  | .func _ cs | .agg cs | .tuple cs => AV.flatL cs
  | .iface _ v | .sym v => v.flat
  | _ => true
def AV.flatL : List AV → Bool
  | [] => true
  | v :: vs => v.flat && AV.flatL vs
end
mutual
theorem cn_flat {μ μ' : Mu} : ∀ (v : AV), v.flat = true → cn μ v = cn μ' v
  | .ptr .., h | .slice .., h | .map _, h => by cases h
  | .func f cs, h => by simp only [cn, cn_flatL (μ := μ) (μ' := μ') cs h]
  | .agg cs, h => by simp only [cn, cn_flatL (μ := μ) (μ' := μ') cs h]
  | .tuple cs, h => by simp only [cn, cn_flatL (μ := μ) (μ' := μ') cs h]
  | .iface t v, h => by simp only [cn, cn_flat (μ := μ) (μ' := μ') v h]
  | .sym v, h => by simp only [cn]; exact cn_flat v h
  | .bool _, _ | .int _ _, _ | .str _, _ | .nilptr, _ | .nilslice, _ | .nilmap, _ | .nilfunc, _ | .niliface, _ => rfl
theorem cn_flatL {μ μ' : Mu} : ∀ (vs : List AV), AV.flatL vs = true → cnL μ vs = cnL μ' vs
  | [], _ => rfl
  | v :: vs, h => by
    simp only [AV.flatL, Bool.and_eq_true] at h
    simp only [cnL, cn_flat (μ := μ) (μ' := μ') v h.1, cn_flatL (μ := μ) (μ' := μ') vs h.2]
end

section
variable {P : Program}

/-- Names seen through a map back. -/
def Mu.back (μ : Mu) (τ : Nat → Option Nat) : Mu := fun n => (τ n).bind μ

/-- What a function does that reads what it is handed and gives back no address: shown at the least memory that it needs. -/
theorem CallS.frame {f : FuncId} {vs0 vs : List AV} {m0 m : Mem} {c0 c : Nat} {R0 : AV → Prop} (τ : Nat → Option Nat)
    (hv : ∀ μ args, cnL μ vs = some args → cnL (Mu.back μ τ) vs0 = some args) (hτ : ∀ n, c0 ≤ n → τ n = none)
    (hb : ∀ n b, m0.get n = some b → b.isRw = false ∧ ∃ n' b', τ n = some n' ∧ m.get n' = some b' ∧ ∀ μ p o, BlkR μ p b' o → BlkR (Mu.back μ τ) p b o)
    (h : CallS P f vs0 m0 c0 fun v _ _ => v.flat = true ∧ R0 v) : CallS P f vs m c fun v m' c' => R0 v ∧ m' = m ∧ c' = c := by
  refine ⟨fun μ w args hargs hS hf => ?_⟩
  refine (h.ok (Mu.back μ τ) w args (hv μ args hargs) ⟨⟨fun n b hn => ?_, fun n n' b b' p p' hn hn' hrw => ?_⟩, hS.glob.ro fun n b hn => (hb n b hn).1⟩ fun n hn => by simp [Mu.back, hτ n hn]).mono ?_
  · obtain ⟨_, n', b', h1, h2, h3⟩ := hb n b hn
    obtain ⟨p, o, k1, k2, k3⟩ := hS.blk n' b' h2
    exact ⟨p, o, by simp [Mu.back, h1, k1], k2, h3 μ p o k3⟩
  · rw [(hb n b hn).1] at hrw; cases hrw
  · rintro val w' ⟨v, m', c', μ', ⟨hfl, hr⟩, hcv, ha⟩
    have hst := ha.step
    have hkeep : ∀ k, k < w.heap.size → w'.heap[k]? = w.heap[k]? := fun k hk => hst.keep k hk fun n b p hn hrw => by rw [(hb n b hn).1] at hrw; cases hrw
    have hold : ∀ (k : Nat) (o : Obj), w.heap[k]? = some o → w'.heap[k]? = some o := fun k o ho => by
      have hk : k < w.heap.size := by
        obtain ⟨h, _⟩ := Array.getElem?_eq_some_iff.1 ho
        exact h
      rw [hkeep k hk]; exact ho
    refine ⟨v, m, c, μ, ⟨hr, rfl, rfl⟩, by rw [cn_flat (μ' := μ') v hfl]; exact hcv, After0.up hS.glob ⟨Le.refl μ, fun _ _ _ => rfl, hf, Nat.le_refl c, ⟨fun n b hn => ?_, hS.apart⟩, ⟨hst.os, hst.tape, hst.output, hst.size, fun k hk _ => hkeep k hk, fun n b p hn hp => .inr ⟨n, b, p, hn, fun z => z, hp, rfl⟩⟩, [], rfl, fun _ _ _ _ => rfl⟩⟩
    obtain ⟨p, o, k1, k2, k3⟩ := hS.blk n b hn
    exact ⟨p, o, k1, hold _ _ k2, k3⟩

/-- No address is handed in, none comes back. -/
theorem CallS.pure {f : FuncId} {vs : List AV} {m : Mem} {c d : Nat} {R0 : AV → Prop} (hv : AV.flatL vs = true) (h : CallS P f vs ⟨Tr.empty d, []⟩ 0 fun v _ _ => v.flat = true ∧ R0 v) : CallS P f vs m c fun v m' c' => R0 v ∧ m' = m ∧ c' = c :=
  CallS.frame (fun _ => none) (fun μ args ha => by rw [← cn_flatL (μ := μ) vs hv]; exact ha) (fun _ _ => rfl) (fun n b hn => by
    have : (⟨Tr.empty d, []⟩ : Mem).get n = none := Tr.get_empty d n
    rw [this] at hn; cases hn) h

mutual
/-- All scalars marked. -/
def full : AV → AV
  | .int k n => .sym (.int k n)
  | .str s => .sym (.str s)
  | .ptr n z i f => .sym (.ptr n z i f)
  | .slice n z i len cap opn alt => .sym (.slice n z i len cap opn alt)
  | .agg cs => .agg (fullL cs)
  | .tuple cs => .tuple (fullL cs)
  | v => v
def fullL : List AV → List AV
  | [] => []
  | v :: vs => full v :: fullL vs
end
mutual
theorem cn_full (μ : Mu) : ∀ v : AV, cn μ (full v) = cn μ v
  | .agg cs => by simp only [full, cn, cn_fullL μ cs]
  | .tuple cs => by simp only [full, cn, cn_fullL μ cs]
  | .int _ _ | .str _ | .ptr .. | .slice .. | .func _ _ | .iface _ _ | .sym _ | .bool _ | .nilptr | .nilslice | .nilmap | .map _ | .nilfunc | .niliface => rfl
theorem cn_fullL (μ : Mu) : ∀ vs : List AV, cnL μ (fullL vs) = cnL μ vs
  | [] => rfl
  | v :: vs => by simp only [fullL, cnL, cn_full μ v, cn_fullL μ vs]
end
theorem CallS.fulls {f : FuncId} {vs : List AV} {m : Mem} {c : Nat} {R : AV → Mem → Nat → Prop} (h : CallS P f vs m c fun v m' c' => R (full v) m' c') : CallS P f vs m c R :=
  ⟨fun μ w args h1 h2 h3 => (h.ok μ w args h1 h2 h3).mono fun val w' ⟨v, m', c', μ', k1, k2, k3⟩ => ⟨Go.Ab.full v, m', c', μ', k1, by rw [cn_full]; exact k2, k3⟩⟩
/-- A function of the program's, by what it does at nothing: all that it gives back marked. -/
theorem CallS.at0 {call : CallA} (X : Ctx P call) {f : FuncId} {fn : Func} (hf : P.funcs[f]? = some fn) (hn : fn.name ≠ "runtime.NumGoroutine") {vs : List AV} (hv : AV.flatL vs = true) {d : Nat} {R0 : AV → Prop}
    (h : vFun (fun _ => P) call fn vs ⟨Tr.empty d, []⟩ 0 fun v _ _ => v.flat = true ∧ R0 (full v)) (m : Mem) (c : Nat) : CallS P f vs m c fun v m' c' => R0 v ∧ m' = m ∧ c' = c :=
  CallS.fulls (R := fun v m' c' => R0 v ∧ m' = m ∧ c' = c) (CallS.pure (R0 := fun v => R0 (Go.Ab.full v)) hv (CallS.enter X hf hn h))

/-! ### states renamed -/
structure Ren (lo : Nat) (τ : Nat → Option Nat) (s s' : St) : Prop where
  c : lo ≤ s'.c
  low : ∀ n, n < lo → τ n = some n
  top : ∀ n, s'.c ≤ n → τ n = none
  len : s'.sl.length ≤ s.sl.length
  sl : ∀ (t : Nat) (v' : AV), s'.sl.getD t none = some v' → ∃ v, s.sl.getD t none = some v ∧ ∀ (μ : Mu) (u : Value), cn μ v = some u → cn (Mu.back μ τ) v' = some u
  blk : ∀ n b', s'.m.get n = some b' → ∃ n0 b, τ n = some n0 ∧ s.m.get n0 = some b ∧ (b'.isRw = true → b.isRw = true) ∧ ∀ μ p o, BlkR μ p b o → BlkR (Mu.back μ τ) p b' o
  inj : ∀ n n' b b' n0, s'.m.get n = some b → s'.m.get n' = some b' → n ≠ n' → τ n = some n0 → τ n' ≠ some n0
  logs : ∀ n, n < lo → n ∈ s.m.log → n ∈ s'.m.log
  kept : ∀ n, n < lo → n ∉ s'.m.log → s'.m.get n = s.m.get n

theorem Ren.str {lo : Nat} {τ : Nat → Option Nat} {s s' : St} (h : Ren lo τ s s') {μ : Mu} {a : Act} {w : World} (hR : StR μ s (fun _ => False) a w) : StR (Mu.back μ τ) s' (fun _ => False) a w := by
  refine ⟨⟨Nat.le_trans h.len hR.sl.1, fun t v' hv => ?_⟩, ⟨⟨fun n b hn => ?_, fun n n' b b' p p' hn hn' hrw hne hp hp' => ?_⟩, hR.sim.glob.map fun n b p hn hrw hp => ?_⟩, fun n hn => by simp [Mu.back, h.top n hn], fun _ h => h.elim⟩
  · obtain ⟨v, h1, h2⟩ := h.sl t v' hv
    exact h2 μ _ (hR.sl.2 t v h1)
  · obtain ⟨n0, b0, h1, h2, h3, h4⟩ := h.blk n b hn
    obtain ⟨p, o, k1, k2, k3⟩ := hR.sim.blk n0 b0 h2
    exact ⟨p, o, by simp [Mu.back, h1, k1], k2, h4 μ p o k3⟩
  · obtain ⟨n0, b0, h1, h2, h3, h4⟩ := h.blk n b hn
    obtain ⟨n1, b1, j1, j2, j3, j4⟩ := h.blk n' b' hn'
    have hne' : n0 ≠ n1 := fun e => by subst e; exact h.inj n n' b b' n0 hn hn' hne h1 j1
    simp only [Mu.back, h1, j1, Option.bind_some] at hp hp'
    exact hR.sim.apart n0 n1 b0 b1 p p' h2 j2 (h3 hrw) hne' hp hp'
  · obtain ⟨n0, b0, h1, h2, h3, h4⟩ := h.blk n b hn
    simp only [Mu.back, h1, Option.bind_some] at hp
    exact ⟨n0, b0, p, h2, h3 hrw, hp, rfl⟩
theorem Ren.goes {lo : Nat} {τ : Nat → Option Nat} {s s' : St} (h : Ren lo τ s s') {μ : Mu} {w : World} {μ2 : Mu} {s2 : St} {w2 : World} (g : GoesW lo (Mu.back μ τ) s' w μ2 s2 w2) : GoesW lo μ s w μ2 s2 w2 := by
  refine ⟨fun n hn => by rw [g.same n hn]; simp [Mu.back, h.low n hn], g.cle, ⟨g.step.os, g.step.tape, g.step.output, g.step.size, fun k hk hno => g.step.keep k hk fun n b p hn hrw hp => ?_, fun n b p hn hp => ?_⟩, fun n hn hl => g.logs n hn (h.logs n hn hl), fun n hn hl => ?_⟩
  · obtain ⟨n0, b0, h1, h2, h3, h4⟩ := h.blk n b hn
    simp only [Mu.back, h1, Option.bind_some] at hp
    exact hno n0 b0 p h2 (h3 hrw) hp
  · rcases g.step.img n b p hn hp with h0 | ⟨n0, b0, p0, k1, k2, k3, k4⟩
    · exact .inl h0
    · obtain ⟨n1, b1, h1, h2, h3, h4⟩ := h.blk n0 b0 k1
      simp only [Mu.back, h1, Option.bind_some] at k3
      exact .inr ⟨n1, b1, p0, h2, fun z => h3 (k2 z), k3, k4⟩
  · rw [g.kept n hn hl]
    exact h.kept n hn fun hl' => hl (g.logs n hn hl')
theorem LoopS.ren {lo : Nat} {τ : Nat → Option Nat} {s s' : St} {x : Code} {K : Out → St → Prop} (h : Ren lo τ s s') (k : LoopS P lo x s' K) : LoopS P lo x s K :=
  ⟨fun μ a w hlo hR Q hq b kk cs => k.ok _ a w h.c (h.str hR) Q (fun o s2 μ2 a2 w2 k1 k2 k3 k4 => hq o s2 μ2 a2 w2 k1 k2 (h.goes k3) k4) b kk cs⟩
theorem SafeC.ren {lo : Nat} {τ : Nat → Option Nat} {s s' : St} {x : Code} {K : Out → St → Prop} (h : Ren lo τ s s') (k : SafeC P lo x s' K) : SafeC P lo x s K :=
  ⟨fun μ a w hlo hR Q hq => k.ok _ a w h.c (h.str hR) Q (fun o s2 μ2 a2 w2 k1 k2 k3 k4 => hq o s2 μ2 a2 w2 k1 k2 (h.goes k3) k4)⟩
end

end Go.Ab
