/- Calls whose new blocks are forgotten. -/
import Derived.Test.YtndbcpfbddhonaaAb44
namespace Go.Ab
set_option linter.unusedSimpArgs false
set_option linter.unusedVariables false

theorem BlkR.back {μ μ' : Mu} (h : Le μ μ') {p : Pl} {b : ABlk} {o0 o : Obj} (h0 : BlkR μ p b o0) (h1 : BlkR μ' p b o) : BlkR μ p b o := by
  cases b with
  | cells rw z rows =>
    cases o0 <;> first | exact h0.elim | skip
    cases o <;> first | exact h1.elim | skip
    obtain ⟨a1, a2, a3⟩ := h0
    obtain ⟨b1, b2, b3⟩ := h1
    refine ⟨a1, fun i row f v hi hf => ?_, b3⟩
    obtain ⟨u, hu, _⟩ := a2 i row f v hi hf
    obtain ⟨u', hu', hc⟩ := b2 i row f v hi hf
    have e := cn_le h v u hu
    rw [hu'] at e
    cases e
    exact ⟨_, hu, hc⟩
  | map es =>
    cases o0 <;> first | exact h0.elim | skip
    cases o <;> first | exact h1.elim | skip
    obtain ⟨a1, a2⟩ := h0
    obtain ⟨b1, b2⟩ := h1
    refine ⟨b1, fun i e hi => ?_⟩
    obtain ⟨x, _, hk, hv⟩ := a2 i e hi
    obtain ⟨x', hx', hk', hv'⟩ := b2 i e hi
    have e1 := cn_le h e.1 _ hk
    have e2 := cn_le h e.2 _ hv
    rw [hk'] at e1
    rw [hv'] at e2
    exact ⟨x', hx', hk.trans e1.symm, hv.trans e2.symm⟩
/-- What was written is new. -/
def calmL (c : Nat) : List Nat → Bool
  | [] => true
  | n :: l => Nat.ble c n && calmL c l
theorem calmL_ok {c : Nat} : ∀ {l : List Nat}, calmL c l = true → ∀ n ∈ l, c ≤ n
  | [], _, n, h => by cases h
  | k :: l, h, n, hn => by
    simp only [calmL, Bool.and_eq_true] at h
    rcases List.mem_cons.1 hn with rfl | hn
    · exact Nat.le_of_ble_eq_true h.1
    · exact calmL_ok h.2 n hn
def calmB (m : Mem) (c : Nat) (m' : Mem) : Bool := calmL c (m'.log.take (m'.log.length - m.log.length))
section
variable {P : Program}
theorem CallS.calm {f : FuncId} {vs : List AV} {m : Mem} {c : Nat} {K : AV → Mem → Nat → Prop} (h : CallS P f vs m c fun v m' _ => v.flat = true ∧ calmB m c m' = true ∧ K v m c) : CallS P f vs m c K := by
  refine ⟨fun μ w args hargs hS hf => (h.ok μ w args hargs hS hf).mono ?_⟩
  rintro val w' ⟨v, m', c', μ', ⟨hfl, hc, hK⟩, hv, ha⟩
  refine ⟨v, m, c, μ, hK, by rw [cn_flat (μ' := μ') v hfl]; exact hv, ?_⟩
  have hkeep : ∀ n, n < c → m'.get n = m.get n := fun n hn => by
    obtain ⟨δ, e, g⟩ := ha.log
    refine g n hn (by simp) fun hd => ?_
    have : (m'.log.take (m'.log.length - m.log.length)) = δ := by
      rw [e, List.length_append, Nat.add_sub_cancel, List.take_left]
    have h2 := calmL_ok (by rw [calmB, this] at hc; exact hc) n hd
    omega
  have hlt : ∀ n b, m.get n = some b → n < c := fun n b hb => get_some_lt hS hf hb
  refine After0.up hS.glob ⟨Le.refl μ, fun _ _ _ => rfl, hf, Nat.le_refl c, ⟨fun n b hb => ?_, hS.apart⟩, ⟨ha.step.os, ha.step.tape, ha.step.output, ha.step.size, ha.step.keep, fun n b p hn hp => .inr ⟨n, b, p, hn, fun z => z, hp, rfl⟩⟩, [], rfl, fun _ _ _ _ => rfl⟩
  obtain ⟨p, o0, k1, k2, k3⟩ := hS.blk n b hb
  obtain ⟨p', o, j1, j2, j3⟩ := ha.sim.blk n b (by rw [hkeep n (hlt n b hb)]; exact hb)
  rw [ha.same n (hlt n b hb) (by simp), k1] at j1
  cases j1
  exact ⟨p, o, k1, j2, k3.back ha.le j3⟩
theorem CallT.calm {f : FuncId} {vs : List AV} {m : Mem} {c : Nat} {K : AV → Mem → Nat → Prop} (h : CallT (fun _ => P) f vs m c fun v m' _ => v.flat = true ∧ calmB m c m' = true ∧ K v m c) : CallT (fun _ => P) f vs m c K :=
  ⟨CallS.calm h.ok⟩
/-- The same, what follows hidden while the callee is walked. -/
theorem CallT.calmH {f : FuncId} {vs : List AV} {m : Mem} {c : Nat} {K : AV → Mem → Nat → Prop} (h : ∀ K0 : AV → Prop, (∀ v, K v m c → K0 v) → CallT (fun _ => P) f vs m c fun v m' _ => v.flat = true ∧ calmB m c m' = true ∧ K0 v) : CallT (fun _ => P) f vs m c K :=
  CallT.calm (h (fun v => K v m c) fun _ hk => hk)
theorem CallT.hide {f : FuncId} {vs : List AV} {m : Mem} {c : Nat} {K : AV → Mem → Nat → Prop} (h : ∀ K0 : AV → Mem → Nat → Prop, (∀ v m c, K v m c → K0 v m c) → CallT (fun _ => P) f vs m c K0) : CallT (fun _ => P) f vs m c K :=
  h K fun _ _ _ hk => hk
end
end Go.Ab
