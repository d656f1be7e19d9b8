/- Small facts: wrapped numbers; a law's call at a world. -/
import Derived.Test.YtndbcpfbddhonaaAb26
namespace Go.Ab
set_option linter.unusedSimpArgs false
set_option linter.unusedVariables false

theorem wrap_i64 (x : Int) : IntKind.wrap .i64 x = (x + 9223372036854775808) % 18446744073709551616 - 9223372036854775808 := by
  have h : IntKind.wrap .i64 x = if (true && decide (x % 18446744073709551616 ≥ 9223372036854775808)) = true then x % 18446744073709551616 - 18446744073709551616 else x % 18446744073709551616 := by kernel_rfl
  rw [h]
  by_cases e : x % 18446744073709551616 ≥ 9223372036854775808
  · rw [if_pos (by simpa using e)]; omega
  · rw [if_neg (by simpa using e)]; omega
theorem wrap_u64 (x : Int) : IntKind.wrap .u64 x = x % 18446744073709551616 := by kernel_rfl
theorem wrap_u8 (x : Int) : IntKind.wrap .u8 x = x % 256 := by kernel_rfl
theorem wrap_i64_id {x : Int} (h1 : -9223372036854775808 ≤ x) (h2 : x < 9223372036854775808) : IntKind.wrap .i64 x = x := by rw [wrap_i64]; omega

theorem and_bound {a b v : Int} (hb : 0 ≤ b) (hb2 : b < 9223372036854775808) (h : v = IntKind.wrap .i64 ((BitVec.ofInt (IntKind.bits .i64) a &&& BitVec.ofInt (IntKind.bits .i64) b).toNat : Int)) : 0 ≤ v ∧ v ≤ b := by
  have h1 : (BitVec.ofInt (IntKind.bits .i64) b).toNat = b.toNat := by
    rw [BitVec.toNat_ofInt]
    have : (2 ^ IntKind.bits .i64 : Nat) = 18446744073709551616 := by decide
    rw [this]
    rw [Int.emod_eq_of_lt hb (by omega)]
  have h2 : (BitVec.ofInt (IntKind.bits .i64) a &&& BitVec.ofInt (IntKind.bits .i64) b).toNat ≤ b.toNat := by
    rw [BitVec.toNat_and, ← h1]
    exact Nat.and_le_right
  rw [wrap_i64_id (by omega) (by omega)] at h
  omega

section
variable {P : Program}
theorem CallS.fullA {f : FuncId} {vs : List AV} {m : Mem} {c : Nat} {R : AV → Mem → Nat → Prop} (h : CallS P f (fullL vs) m c R) : CallS P f vs m c R :=
  ⟨fun μ w args h1 h2 h3 => h.ok μ w args (by rw [cn_fullL]; exact h1) h2 h3⟩
/-- A law that is true: as Calls. -/
theorem CallS.calls {f : FuncId} {fn : Func} (hf : P.funcs[f]? = some fn) (hb : fn.body.isSome = true) (hn : fn.name ≠ "runtime.NumGoroutine") {vs : List AV} {m : Mem} {c : Nat} (h : CallS P f vs m c fun v _ _ => v = .bool true)
    {μ : Mu} {w : World} {args : List Value} (hargs : cnL μ vs = some args) (hS : Sim μ m.get w) (hfresh : ∀ n, c ≤ n → μ n = none) (hro : ∀ n b, m.get n = some b → b.isRw = false) :
    Calls P f args.toArray w fun e w' => e = .returned (.bool true) ∧ RowKit.Below w.heap.size w w' := by
  have key : ∀ val w', (∃ v m' c' μ', v = AV.bool true ∧ cn μ' v = some val ∧ After none μ m c w μ' m' c' w') → val = .bool true ∧ RowKit.Below w.heap.size w w' := by
    rintro val w' ⟨v, m', c', μ', rfl, h2, h3⟩
    simp only [cn, Option.some.injEq] at h2
    exact ⟨h2.symm, h3.step.below hro⟩
  rcases h.ok μ w args hargs hS hfresh with ⟨fn', h1, h2, h3, h4⟩ | ⟨val, h1, h2⟩
  · refine h4.mono fun e w' ⟨v, he, hh⟩ => ?_
    obtain ⟨rfl, hb⟩ := key _ _ hh
    exact ⟨he, hb⟩
  · rw [callFunc_enter (args := args.toArray) (w := w) hf hb hn] at h1
    cases h1
theorem sim_empty (μ : Mu) (d : Nat) (w : World) (hG : GI (fun _ => none) (fun _ => none) w := by exact ⟨fun _ _ h => by cases h⟩) : Sim μ (⟨Tr.empty d, []⟩ : Mem).get w := by
  have hget : ∀ n, (⟨Tr.empty d, []⟩ : Mem).get n = none := fun n => Tr.get_empty d n
  exact ⟨⟨fun n b hb => by (rw [hget n] at hb; cases hb), fun n n' b b' p p' hb => by (rw [hget n] at hb; cases hb)⟩, hG.ro fun n b hb => by (rw [hget n] at hb; cases hb)⟩
theorem CallS.calls0 {f : FuncId} {fn : Func} (hf : P.funcs[f]? = some fn) (hb : fn.body.isSome = true) (hn : fn.name ≠ "runtime.NumGoroutine") {vs : List AV} {d : Nat} (h : CallS P f vs ⟨Tr.empty d, []⟩ 0 fun v _ _ => v = .bool true)
    {w : World} {args : List Value} (hargs : cnL (fun _ => none) vs = some args) (hG : GI (fun _ => none) (fun _ => none) w := by exact ⟨fun _ _ h => by cases h⟩) : Calls P f args.toArray w fun e w' => e = .returned (.bool true) ∧ RowKit.Below w.heap.size w w' :=
  CallS.calls hf hb hn h hargs (sim_empty _ d w hG) (fun _ _ => rfl) fun n b hb => by
    have : (⟨Tr.empty d, []⟩ : Mem).get n = none := Tr.get_empty d n
    rw [this] at hb; cases hb

/-- A closed law, taken by its answer in drawn regions. -/
def yes : List AV → Mem → Nat → Option (AV × Mem × Nat) := fun vs m c => match vs with
  | [] => some (.bool true, m, c)
  | _ => none
theorem yes_ok {H : Hints} {f : FuncId} (hm : P.follows .mixedOrders = true) (hf0 : H.ext f = none) (hx : ExtOK P H) {k d : Nat} {m' : Mem} {c' : Nat} (h : aRun P H k f [] ⟨Tr.empty d, []⟩ 0 = some (.bool true, m', c')) :
    ∀ (vs : List AV) (m : Mem) (c : Nat) (v : AV) (m1 : Mem) (c1 : Nat), yes vs m c = some (v, m1, c1) → ∀ (μ : Mu) (w : World) (args : List Value), cnL μ vs = some args → Sim μ m.get w → (∀ n, c ≤ n → μ n = none) →
      Ready P f args.toArray w fun val w' => ∃ μ', cn μ' v = some val ∧ After none μ m c w μ' m1 c1 w' := by
  intro vs m c v m1 c1 hy μ w args hargs hS hfresh
  cases vs with
  | cons _ _ => cases hy
  | nil =>
    simp only [yes, Option.some.injEq, Prod.mk.injEq] at hy
    obtain ⟨rfl, rfl, rfl⟩ := hy
    have hc : CallS P f [] ⟨Tr.empty d, []⟩ 0 fun v _ _ => v.flat = true ∧ v = .bool true := CallS.of_call (aRun_call hm hx k) h ⟨rfl, rfl⟩
    have hp := CallS.pure (R0 := fun v => v = .bool true) (m := m) (c := c) rfl hc
    refine (hp.ok μ w args hargs hS hfresh).mono ?_
    rintro val w' ⟨v, m', c', μ', ⟨rfl, rfl, rfl⟩, k1, k2⟩
    exact ⟨μ', k1, k2⟩
/-- One closed law by its answer, nothing else by contract. -/
def yesAt (g : FuncId) : Hints := ⟨fun f => match f.beq g with
  | true => some yes
  | false => none, fun _ _ => none⟩
theorem yesAt_ok {g : FuncId} (hm : P.follows .mixedOrders = true) {k d : Nat} {m' : Mem} {c' : Nat} (h : aRun P ⟨fun _ => none, fun _ _ => none⟩ k g [] ⟨Tr.empty d, []⟩ 0 = some (.bool true, m', c')) : ExtOK P (yesAt g) := by
  have h0 : ExtOK P ⟨fun _ => none, fun _ _ => none⟩ := ext_none P fun _ => rfl
  refine ⟨fun f vs m c v m1 c1 e => ?_, fun f vs m c v m1 c1 e => ?_⟩
  · simp only [extA, yesAt] at e
    cases hb : f.beq g with
    | false => simp [hb] at e
    | true =>
      have : f = g := Nat.eq_of_beq_eq_true hb
      subst this
      simp only [hb] at e
      exact yes_ok hm rfl h0 h vs m c v m1 c1 e
  · simp only [extA, yesAt] at e
    cases hb : f.beq g with
    | false => simp [hb] at e
    | true =>
      simp only [hb] at e
      cases vs with
      | cons _ _ => cases e
      | nil =>
        simp only [yes, Option.some.injEq, Prod.mk.injEq] at e
        obtain ⟨_, rfl, rfl⟩ := e
        exact FrA.refl _ _ _
theorem ctx_yes {g : FuncId} (hm : P.follows .mixedOrders = true) {k d : Nat} {m' : Mem} {c' : Nat} (h : aRun P ⟨fun _ => none, fun _ _ => none⟩ k g [] ⟨Tr.empty d, []⟩ 0 = some (.bool true, m', c')) (k2 : Nat) : Ctx P (aRun P (yesAt g) k2) :=
  ⟨hm, aRun_call hm (yesAt_ok hm h) k2, aRun_frr (yesAt_ok hm h) k2⟩
/-- An answer that is looked at alone. -/
def isYes : Option (AV × Mem × Nat) → Bool
  | some (.bool true, _, _) => true
  | _ => false
theorem of_isYes {o : Option (AV × Mem × Nat)} (h : isYes o = true) : ∃ m c, o = some (.bool true, m, c) := by
  unfold isYes at h
  split at h
  · exact ⟨_, _, rfl⟩
  · cases h
end

end Go.Ab
