/- Adds, products, what divides both. -/
import Derived.Test.YtbgapiiopocncaaTicB
namespace Go.Proofs.Ytbgapiiopocncaa.Tic
open Go.Ab
set_option linter.unusedVariables false
set_option linter.unusedSimpArgs false

theorem and_low {k : Nat} {a v : Int} (h : v = IntKind.wrap .u64 ((BitVec.ofInt (IntKind.bits .u64) a &&& BitVec.ofInt (IntKind.bits .u64) ((2 : Int) ^ k - 1)).toNat : Int)) (ha : U a) (hk : k ≤ 63) : v = a % (2 ^ k : Nat) := by
  unfold U at ha
  have h1 : (BitVec.ofInt (IntKind.bits .u64) a).toNat = a.toNat := by
    rw [BitVec.toNat_ofInt]
    have : ((2 ^ IntKind.bits .u64 : Nat) : Int) = 18446744073709551616 := by kernel_rfl
    rw [this]
    omega
  have h2 : (BitVec.ofInt (IntKind.bits .u64) ((2 : Int) ^ k - 1)).toNat = 2 ^ k - 1 := by
    rw [BitVec.toNat_ofInt]
    have : ((2 ^ IntKind.bits .u64 : Nat) : Int) = 18446744073709551616 := by kernel_rfl
    rw [this]
    have hp : (2 : Nat) ^ k ≤ 2 ^ 63 := Nat.pow_le_pow_right (by omega) hk
    have hp0 : 0 < (2 : Nat) ^ k := Nat.two_pow_pos k
    have e : (2 : Int) ^ k = ((2 ^ k : Nat) : Int) := by simp
    rw [e]
    omega
  rw [BitVec.toNat_and, h1, h2, Nat.and_two_pow_sub_one_eq_mod, wrap_u64] at h
  have hp0 : 0 < (2 : Nat) ^ k := Nat.two_pow_pos k
  have hle : a.toNat % 2 ^ k ≤ a.toNat := Nat.mod_le _ _
  have e : ((a.toNat % 2 ^ k : Nat) : Int) = a % ((2 ^ k : Nat) : Int) := by
    rw [Int.natCast_emod, Int.toNat_of_nonneg ha.1]
  rw [← e]
  omega
theorem and32 {a v : Int} (h : v = ((BitVec.ofInt (IntKind.bits .u64) a &&& BitVec.ofInt (IntKind.bits .u64) 4294967295).toNat : Int) % 18446744073709551616) (ha : U a) : v = a % 4294967296 := and_low (k := 32) (by rw [wrap_u64]; exact h) ha (by decide)
theorem and20 {a v : Int} (h : v = ((BitVec.ofInt (IntKind.bits .u64) a &&& BitVec.ofInt (IntKind.bits .u64) 1048575).toNat : Int) % 18446744073709551616) (ha : U a) : v = a % 1048576 := and_low (k := 20) (by rw [wrap_u64]; exact h) ha (by decide)
theorem and8 {a v : Int} (h : v = ((BitVec.ofInt (IntKind.bits .u64) a &&& BitVec.ofInt (IntKind.bits .u64) 255).toNat : Int) % 18446744073709551616) (ha : U a) : v = a % 256 := and_low (k := 8) (by rw [wrap_u64]; exact h) ha (by decide)
theorem u_mod {a b : Int} (h : a = b % 18446744073709551616) : U a := by unfold U; omega
theorem shr32 {a v : Int} (h : v = a.fdiv (2 ^ (min (Int.toNat 32) (IntKind.bits .u64)))) : v = a / 4294967296 := by
  rw [h]
  have e : ((2 : Int) ^ (min (Int.toNat 32) (IntKind.bits .u64))) = 4294967296 := by kernel_rfl
  rw [e]
  exact Int.fdiv_eq_ediv_of_nonneg _ (by decide)

theorem prod_b {x y : Int} (hx : 0 ≤ x ∧ x ≤ 4294967295) (hy : 0 ≤ y ∧ y ≤ 4294967295) : 0 ≤ x * y ∧ x * y ≤ 18446744065119617025 := by
  refine ⟨Int.mul_nonneg hx.1 hy.1, ?_⟩
  have := Int.mul_le_mul hx.2 hy.2 hy.1 (by decide)
  omega
theorem mul64_law {x y x0 x1 y0 y1 w0 a1 a2 t w1 w2 b1 v1 c1 c2 c3 hi lo : Int} (hx : U x) (hy : U y) (e1 : x0 = x % 4294967296) (e2 : x1 = x / 4294967296) (e3 : y0 = y % 4294967296) (e4 : y1 = y / 4294967296)
    (e5 : w0 = (x0 * y0) % 18446744073709551616) (e6 : a1 = (x1 * y0) % 18446744073709551616) (e7 : a2 = w0 / 4294967296) (e8 : t = (a1 + a2) % 18446744073709551616) (e9 : w1 = t % 4294967296) (e10 : w2 = t / 4294967296)
    (e11 : b1 = (x0 * y1) % 18446744073709551616) (e12 : v1 = (w1 + b1) % 18446744073709551616) (e13 : c1 = (x1 * y1) % 18446744073709551616) (e14 : c2 = (c1 + w2) % 18446744073709551616) (e15 : c3 = v1 / 4294967296) (e16 : hi = (c2 + c3) % 18446744073709551616) (e17 : lo = (x * y) % 18446744073709551616) :
    hi = x * y / 18446744073709551616 ∧ lo = x * y % 18446744073709551616 := by
  unfold U at hx hy
  refine ⟨?_, e17⟩
  have p00 := prod_b (x := x0) (y := y0) (by omega) (by omega)
  have p10 := prod_b (x := x1) (y := y0) (by omega) (by omega)
  have p01 := prod_b (x := x0) (y := y1) (by omega) (by omega)
  have p11 := prod_b (x := x1) (y := y1) (by omega) (by omega)
  have ex : x = x1 * 4294967296 + x0 := by omega
  have ey : y = y1 * 4294967296 + y0 := by omega
  have exy : x * y = (x1 * y1) * 18446744073709551616 + (x1 * y0 + x0 * y1) * 4294967296 + x0 * y0 := by
    rw [ex, ey]
    simp only [Int.add_mul, Int.mul_add]
    have h1 : x1 * 4294967296 * (y1 * 4294967296) = x1 * y1 * 18446744073709551616 := by
      rw [Int.mul_assoc, Int.mul_comm 4294967296, Int.mul_assoc y1, ← Int.mul_assoc x1]
      rfl
    have h2 : x1 * 4294967296 * y0 = x1 * y0 * 4294967296 := by rw [Int.mul_assoc, Int.mul_comm 4294967296, ← Int.mul_assoc]
    have h3 : x0 * (y1 * 4294967296) = x0 * y1 * 4294967296 := by rw [← Int.mul_assoc]
    omega
  generalize x0 * y0 = A at *
  generalize x1 * y0 = B at *
  generalize x0 * y1 = C at *
  generalize x1 * y1 = D at *
  rw [exy]
  omega

/-- What a product gives. -/
def MulR (x y : Int) (v : AV) : Prop := (x * y < 18446744073709551616 ∧ v = .tuple [.sym (.int .u64 (x * y)), .sym (.int .i64 0)]) ∨ (18446744073709551616 ≤ x * y ∧ v = .tuple [.sym (.int .u64 0), .sym (.int .i64 100)])
def HiLo (x y : Int) (v : AV) : Prop := ∃ h l, (h = x * y / 18446744073709551616 ∧ l = x * y % 18446744073709551616) ∧ v = .tuple [.sym (.int .u64 h), .sym (.int .u64 l)]
set_option maxHeartbeats 4000000 in
theorem mul64C (x y : Int) (hx : U x) (hy : U y) (m : Mem) (n : Nat) : CallS Try.prog 27 [.sym (.int .u64 x), .sym (.int .u64 y)] m n fun v m' n' => HiLo x y v ∧ m' = m ∧ n' = n := by
  obtain ⟨R, hR⟩ : ∃ R, R = HiLo x y := ⟨_, rfl⟩
  rw [← hR]
  refine CallS.at0 X Try.func27 (by decide) rfl (d := 2) (R0 := R) ?_ m n
  cbv
  repeat' first
    | ((with_reducible intro v hv); (first | (rw [wrap_u64] at hv) | skip); cbv)
    | ((with_reducible apply uAnd); (focus first | kernel_rfl | omega); try cbv)
  rename_i x0 e1 x1 e2 y0 e3 y1 e4 w0 e5 a1 e6 a2 e7 t e8 w1 e9 w2 e10 b1 e11 v1 e12 c1 e13 c2 e14 c3 e15 hi e16
  rw [hR]
  exact ⟨hi, v, mul64_law hx hy (and32 e1 hx) (shr32 e2) (and32 e3 hy) (shr32 e4) e5 e6 (shr32 e7) e8 (and32 e9 (u_mod e8)) (shr32 e10) e11 e12 e13 e14 (shr32 e15) e16 hv, rfl⟩

theorem mul64T {x y : Int} (hx : U x) (hy : U y) {m : Mem} {c : Nat} {K : AV → Mem → Nat → Prop} (h : ∀ hi lo, hi = x * y / 18446744073709551616 → lo = x * y % 18446744073709551616 → K (.tuple [.sym (.int .u64 hi), .sym (.int .u64 lo)]) m c) : CallT (fun _ => Try.prog) 27 [.sym (.int .u64 x), .sym (.int .u64 y)] m c K := by
  refine ⟨(mul64C x y hx hy m c).mono ?_⟩
  rintro v m' c' ⟨⟨hi, lo, ⟨h1, h2⟩, rfl⟩, rfl, rfl⟩
  exact h hi lo h1 h2
theorem mul_nonneg' {x y : Int} (hx : U x) (hy : U y) : 0 ≤ x * y := Int.mul_nonneg hx.1 hy.1

set_option maxHeartbeats 4000000 in
theorem mulC (x y : Int) (hx : U x) (hy : U y) (m : Mem) (n : Nat) : CallS Try.prog 10 [.sym (.int .u64 x), .sym (.int .u64 y)] m n fun v m' n' => MulR x y v ∧ m' = m ∧ n' = n := by
  obtain ⟨R, hR⟩ : ∃ R, R = MulR x y := ⟨_, rfl⟩
  rw [← hR]
  have hp := mul_nonneg' hx hy
  refine CallS.at0 X Try.func10 (by decide) rfl (d := 2) (R0 := R) ?_ m n
  cbv
  with_reducible apply mul64T hx hy
  with_reducible intro hi lo h1 h2
  cbv
  repeat' first
    | ((with_reducible intro v hv); (first | (rw [wrap_u64] at hv) | skip); cbv)
    | ((with_reducible apply And.intro) <;> (with_reducible intro h) <;> first | ((with_reducible exfalso); omega) | cbv)
  all_goals
    rw [hR]
    unfold MulR
    generalize x * y = p at *
  · exact .inr ⟨by omega, rfl⟩
  · exact .inl ⟨by omega, by rw [show p = lo by omega]; rfl⟩
theorem refMul_law {x y p q : Int} (hx : U x) (hy : U y) (h0 : x ≠ 0) (hp : p = (x * y) % 18446744073709551616) (hq : q = p.tdiv x % 18446744073709551616) : q = y ↔ x * y < 18446744073709551616 := by
  have hn := mul_nonneg' hx hy
  unfold U at hx hy
  have hp0 : 0 ≤ p := by omega
  rw [Int.tdiv_eq_ediv_of_nonneg hp0] at hq
  have hd1 : p / x ≤ p := Int.ediv_le_self _ hp0
  have hd2 : 0 ≤ p / x := Int.ediv_nonneg hp0 hx.1
  replace hq : q = p / x := by omega
  constructor
  · rintro rfl
    have h1 : x * (p / x) ≤ p := Int.mul_ediv_self_le (by omega)
    rw [← hq] at h1
    omega
  · intro h
    have e : p = x * y := by omega
    rw [hq, e]
    exact Int.mul_ediv_cancel_left _ h0
set_option maxHeartbeats 4000000 in
theorem refMulC (x y : Int) (hx : U x) (hy : U y) (m : Mem) (n : Nat) : CallS Try.prog 11 [.sym (.int .u64 x), .sym (.int .u64 y)] m n fun v m' n' => MulR x y v ∧ m' = m ∧ n' = n := by
  obtain ⟨R, hR⟩ : ∃ R, R = MulR x y := ⟨_, rfl⟩
  rw [← hR]
  have hp := mul_nonneg' hx hy
  refine CallS.at0 X Try.func11 (by decide) rfl (d := 2) (R0 := R) ?_ m n
  cbv
  repeat' first
    | ((with_reducible intro v hv); (first | (rw [wrap_u64] at hv; first | (have hlaw := refMul_law hx hy (by assumption) hvp hv) | (have hvp := hv)) | skip); cbv)
    | ((with_reducible apply uAnd); (focus first | kernel_rfl | omega); try cbv)
    | ((with_reducible apply And.intro) <;> (with_reducible intro h) <;> first | ((with_reducible exfalso); omega) | cbv)
  all_goals
    rw [hR]
    unfold MulR
  · have e : x * y = v := by rw [hvp, h, Int.zero_mul]; rfl
    exact .inl ⟨by omega, by rw [e]; rfl⟩
  · have hlt := hlaw.1 h
    exact .inl ⟨hlt, by rw [show x * y = v by omega]; rfl⟩
  · exact .inr ⟨Int.not_lt.1 fun hlt => h (hlaw.2 hlt), rfl⟩

theorem mulRT {x y : Int} {f : FuncId} (hC : ∀ (m : Mem) (n : Nat), CallS Try.prog f [.sym (.int .u64 x), .sym (.int .u64 y)] m n fun v m' n' => MulR x y v ∧ m' = m ∧ n' = n) {A B : AV} (hA : norm A = .int .u64 x) (hB : norm B = .int .u64 y) {m : Mem} {c : Nat} {K : AV → Mem → Nat → Prop}
    (h1 : x * y < 18446744073709551616 → ∀ p, p = x * y → K (.tuple [.sym (.int .u64 p), .int .i64 0]) m c) (h2 : 18446744073709551616 ≤ x * y → K (.tuple [.int .u64 0, .int .i64 100]) m c) : CallT (fun _ => Try.prog) f [A, B] m c K := by
  refine ⟨CallS.normA (vs' := [.sym (.int .u64 x), .sym (.int .u64 y)]) (by simp only [normL, norm, hA, hB]) (CallS.asFull ((hC m c).mono ?_))⟩
  rintro v m' c' ⟨⟨h, rfl⟩ | ⟨h, rfl⟩, rfl, rfl⟩
  · exact ⟨.tuple [.sym (.int .u64 (x * y)), .int .i64 0], rfl, h1 h _ rfl⟩
  · exact ⟨.tuple [.int .u64 0, .int .i64 100], rfl, h2 h⟩

/-- The greatest that divides both. -/
def gcdI (x y : Int) : Int := (Nat.gcd x.toNat y.toNat : Nat)
theorem gcdI_zero {x : Int} (hx : 0 ≤ x) : gcdI x 0 = x := by
  unfold gcdI
  rw [show Int.toNat 0 = 0 from rfl, Nat.gcd_zero_right]
  omega
theorem gcdI_step {a b c : Int} (ha : 0 ≤ a) (hb : 0 < b) (hc : c = a.tmod b) : gcdI b c = gcdI a b ∧ 0 ≤ c ∧ c < b := by
  rw [Int.tmod_eq_emod_of_nonneg ha] at hc
  have h1 : 0 ≤ c := by rw [hc]; exact Int.emod_nonneg _ (by omega)
  have h2 : c < b := by rw [hc]; exact Int.emod_lt_of_pos _ hb
  refine ⟨?_, h1, h2⟩
  unfold gcdI
  have e : c.toNat = a.toNat % b.toNat := by
    rw [hc, Int.toNat_emod ha (by omega)]
  have hr := Nat.gcd_rec b.toNat a.toNat
  rw [e, Nat.gcd_comm b.toNat (a.toNat % b.toNat), ← hr, Nat.gcd_comm]
theorem gcdI_bound {x y : Int} (hx : U x) (hy : U y) : U (gcdI x y) := by
  unfold U gcdI at *
  refine ⟨by omega, ?_⟩
  by_cases h : x.toNat = 0
  · rw [h, Nat.gcd_zero_left]; omega
  · have := Nat.gcd_le_left y.toNat (by omega : 0 < x.toNat)
    omega
theorem gcdI_pos {x y : Int} (hx : 0 < x) : 0 < gcdI x y := by
  unfold gcdI
  have := Nat.gcd_pos_of_pos_left y.toNat (by omega : 0 < x.toNat)
  omega
def GcdR (x y : Int) (v : AV) : Prop := v = .sym (.int .u64 (gcdI x y))

set_option maxHeartbeats 4000000 in
theorem gcdC (x y : Int) (hx : U x) (hy : U y) (m : Mem) (n : Nat) : CallS Try.prog 17 [.sym (.int .u64 x), .sym (.int .u64 y)] m n fun v m' n' => GcdR x y v ∧ m' = m ∧ n' = n := by
  obtain ⟨R, hR⟩ : ∃ R, R = GcdR x y := ⟨_, rfl⟩
  rw [← hR]
  refine CallS.at0 X Try.func17 (by decide) rfl (d := 2) (R0 := R) ?_ m n
  cbv
  with_reducible
   refine LoopT.invR X (α := Int × Int) 12 [] (fun s => (oI (s.at 0), oI (s.at 1))) (fun s => [])
    (fun a => [some (.sym (.int .u64 a.1)), some (.sym (.int .u64 a.2))])
    (fun a => [])
    (fun a => U a.1 ∧ U a.2 ∧ gcdI a.1 a.2 = gcdI x y) (fun a => a.2.toNat) ?_ ?_
  · cbv
    refine And.intro (HoldAt.mk ?_) (Head.mk ?_ ?_ ?_ ?_ ?_ ?_)
    · exact ⟨hx, hy, rfl⟩
    all_goals cbv
  · rintro ⟨a, b⟩ ⟨h1, h2, h3⟩
    dsimp only at h1 h2 h3
    unfold U at h1 h2
    cbv
    repeat' first
      | with_reducible exact trivial
      | ((with_reducible intro v hv); (first | (have hst := gcdI_step (by omega) (by omega) hv) | skip); cbv)
      | ((with_reducible apply uAnd); (focus first | kernel_rfl | omega); try cbv)
      | ((with_reducible apply And.intro) <;> (with_reducible intro h) <;> first | ((with_reducible exfalso); omega) | cbv)
    · refine And.intro (And.intro (HoldAt.mk ?_) True.intro) (Head.mk ?_ ?_ ?_ ?_ ?_ ?_)
      · refine ⟨⟨h2, ⟨hst.2.1, by dsimp only; omega⟩, hst.1.trans h3⟩, by dsimp only; omega⟩
      all_goals cbv
    · rw [hR]
      unfold GcdR
      rw [← h3, show b = 0 by omega, gcdI_zero h1.1]
      rfl

set_option maxHeartbeats 4000000 in
theorem refGcdC (x y : Int) (hx : U x) (hy : U y) (m : Mem) (n : Nat) : CallS Try.prog 18 [.sym (.int .u64 x), .sym (.int .u64 y)] m n fun v m' n' => GcdR x y v ∧ m' = m ∧ n' = n := by
  obtain ⟨R, hR⟩ : ∃ R, R = GcdR x y := ⟨_, rfl⟩
  rw [← hR]
  refine CallS.at0 X Try.func18 (by decide) rfl (d := 2) (R0 := R) ?_ m n
  cbv
  with_reducible
   refine LoopT.invR X (α := Int × Int) 14 [] (fun s => (oI (s.at 0), oI (s.at 1))) (fun s => [])
    (fun a => [some (.sym (.int .u64 a.1)), some (.sym (.int .u64 a.2))])
    (fun a => [])
    (fun a => U a.1 ∧ U a.2 ∧ gcdI a.1 a.2 = gcdI x y) (fun a => a.2.toNat) ?_ ?_
  · cbv
    refine And.intro (HoldAt.mk ?_) (Head.mk ?_ ?_ ?_ ?_ ?_ ?_)
    · exact ⟨hx, hy, rfl⟩
    all_goals cbv
  · rintro ⟨a, b⟩ ⟨h1, h2, h3⟩
    dsimp only at h1 h2 h3
    unfold U at h1 h2
    cbv
    repeat' first
      | with_reducible exact trivial
      | ((with_reducible intro v hv); (first | (have hst := gcdI_step (by omega) (by omega) hv) | skip); cbv)
      | ((with_reducible apply uAnd); (focus first | kernel_rfl | omega); try cbv)
      | ((with_reducible apply And.intro) <;> (with_reducible intro h) <;> first | ((with_reducible exfalso); omega) | cbv)
    · rw [hR]
      unfold GcdR
      rw [← h3, show b = 0 by omega, gcdI_zero h1.1]
      rfl
    · refine And.intro (And.intro (HoldAt.mk ?_) True.intro) (Head.mk ?_ ?_ ?_ ?_ ?_ ?_)
      · refine ⟨⟨h2, ⟨hst.2.1, by dsimp only; omega⟩, hst.1.trans h3⟩, by dsimp only; omega⟩
      all_goals cbv

theorem gcdRT {x y : Int} {f : FuncId} (hC : ∀ (m : Mem) (n : Nat), CallS Try.prog f [.sym (.int .u64 x), .sym (.int .u64 y)] m n fun v m' n' => GcdR x y v ∧ m' = m ∧ n' = n) {A B : AV} (hA : norm A = .int .u64 x) (hB : norm B = .int .u64 y) {m : Mem} {c : Nat} {K : AV → Mem → Nat → Prop}
    (h1 : ∀ g, g = gcdI x y → K (.sym (.int .u64 g)) m c) : CallT (fun _ => Try.prog) f [A, B] m c K := by
  refine ⟨CallS.normA (vs' := [.sym (.int .u64 x), .sym (.int .u64 y)]) (by simp only [normL, norm, hA, hB]) ((hC m c).mono ?_)⟩
  rintro v m' c' ⟨rfl, rfl, rfl⟩
  exact h1 _ rfl
end Go.Proofs.Ytbgapiiopocncaa.Tic
