/- The laws TickDivides and TickEdges. -/
import Derived.Test.YtbgapiiopocncaaTicD
namespace Go.Proofs.Ytbgapiiopocncaa.Tic
open Go.Ab
set_option linter.unusedVariables false
set_option linter.unusedSimpArgs false

theorem gcdT2 {x y : Int} {A B : AV} {m : Mem} {c : Nat} {K : AV → Mem → Nat → Prop} (hA : norm A = .int .u64 x) (hB : norm B = .int .u64 y) (hx : U x) (hy : U y) (h1 : ∀ g, g = gcdI x y → K (.sym (.int .u64 g)) m c) : CallT (fun _ => Try.prog) 17 [A, B] m c K :=
  gcdRT (gcdC x y hx hy) hA hB h1
theorem mulT2 {x y : Int} {A B : AV} {m : Mem} {c : Nat} {K : AV → Mem → Nat → Prop} (hA : norm A = .int .u64 x) (hB : norm B = .int .u64 y) (hx : U x) (hy : U y)
    (h1 : x * y < 18446744073709551616 → ∀ p, p = x * y → K (.tuple [.sym (.int .u64 p), .int .i64 0]) m c) (h2 : 18446744073709551616 ≤ x * y → K (.tuple [.int .u64 0, .int .i64 100]) m c) : CallT (fun _ => Try.prog) 10 [A, B] m c K :=
  mulRT (mulC x y hx hy) hA hB h1 h2
theorem addT2 {x y : Int} {A B : AV} {m : Mem} {c : Nat} {K : AV → Mem → Nat → Prop} (hA : norm A = .int .u64 x) (hB : norm B = .int .u64 y) (hx : U x) (hy : U y)
    (h1 : x + y < 18446744073709551616 → ∀ p, p = x + y → K (.tuple [.sym (.int .u64 p), .int .i64 0]) m c) (h2 : 18446744073709551616 ≤ x + y → K (.tuple [.int .u64 0, .int .i64 100]) m c) : CallT (fun _ => Try.prog) 8 [A, B] m c K :=
  addT hx hy hA hB h1 h2

theorem gcdT3 {x y g : Int} (hg : g = gcdI x y) {A B : AV} {m : Mem} {c : Nat} {K : AV → Mem → Nat → Prop} (hA : norm A = .int .u64 x) (hB : norm B = .int .u64 y) (hx : U x) (hy : U y) (h1 : K (.sym (.int .u64 g)) m c) : CallT (fun _ => Try.prog) 17 [A, B] m c K :=
  gcdRT (gcdC x y hx hy) hA hB fun g' e => by rw [e, ← hg]; exact h1
theorem lcmT3 {x y g : Int} (hg : g = gcdI x y) {A B : AV} {m : Mem} {c : Nat} {K : AV → Mem → Nat → Prop} (hA : norm A = .int .u64 x) (hB : norm B = .int .u64 y) (hx : U x) (hy : U y) (h0 : x = 0 ∨ y = 0 → K (.tuple [.int .u64 0, .int .i64 0]) m c)
    (h1 : x ≠ 0 → y ≠ 0 → x / g * y < 18446744073709551616 → ∀ p, p = x / g * y → K (.tuple [.sym (.int .u64 p), .int .i64 0]) m c) (h2 : x ≠ 0 → y ≠ 0 → 18446744073709551616 ≤ x / g * y → K (.tuple [.int .u64 0, .int .i64 100]) m c) : CallT (fun _ => Try.prog) 12 [A, B] m c K := by
  subst hg
  exact lcmRT (lcmC x y hx hy) hA hB h0 h1 h2
/-- What of both the walk needs. -/
theorem div_laws {x y z g : Int} (hx : 0 ≤ x ∧ x < 1048576) (hy : 0 ≤ y ∧ y < 1048576) (hz : 1 ≤ z ∧ z ≤ 256) (hg : g = gcdI x y) :
    gcdI (x * z) (y * z) = g * z ∧ gcdI y x = g ∧ gcdI x 0 = x ∧ (x = 0 → g = y) ∧ (y = 0 → g = x) ∧ 0 ≤ g ∧ g < 1048576 ∧ (x * z ≤ 268435200 ∧ 0 ≤ x * z) ∧ (y * z ≤ 268435200 ∧ 0 ≤ y * z) ∧ (g * z ≤ 268435200 ∧ 0 ≤ g * z) ∧
    (x ≠ 0 → y ≠ 0 → 0 < g ∧ x.tmod g = 0 ∧ y.tmod g = 0 ∧ (x / g * y).tmod x = 0 ∧ (x / g * y).tmod y = 0 ∧ g * (x / g * y) = x * y ∧ 0 ≤ x / g * y ∧ x / g * y < 1099511627776 ∧ 0 ≤ x * y ∧ x * y < 1099511627776) := by
  have hzx : 0 ≤ x * z := Int.mul_nonneg hx.1 (by omega)
  have hzy : 0 ≤ y * z := Int.mul_nonneg hy.1 (by omega)
  have hg0 : 0 ≤ g := by rw [hg]; unfold gcdI; omega
  have hgz : 0 ≤ g * z := Int.mul_nonneg hg0 (by omega)
  have hgb : g < 1048576 := by
    rw [hg]; unfold gcdI
    by_cases h : x.toNat = 0
    · rw [h, Nat.gcd_zero_left]; omega
    · have := Nat.gcd_le_left y.toNat (by omega : 0 < x.toNat)
      omega
  have ub : ∀ {t : Int}, 0 ≤ t → t < 1048575 + 1 → t * z ≤ 268435200 := fun h0 h => by
    have h2 := Int.le_of_lt_add_one h
    have h1 := Int.mul_le_mul h2 hz.2 (by omega) (by omega)
    omega
  refine ⟨?_, ?_, gcdI_zero hx.1, fun h => ?_, fun h => ?_, hg0, hgb, ⟨ub hx.1 hx.2, hzx⟩, ⟨ub hy.1 hy.2, hzy⟩, ⟨ub hg0 hgb, hgz⟩, fun hx0 hy0 => ?_⟩
  · rw [hg]
    unfold gcdI
    rw [Int.toNat_mul hx.1 (by omega), Int.toNat_mul hy.1 (by omega), Nat.gcd_mul_right]
    rw [Int.natCast_mul]
    congr 1
    omega
  · rw [hg]; unfold gcdI; rw [Nat.gcd_comm]
  · rw [hg]; unfold gcdI; rw [h, show Int.toNat 0 = 0 from rfl, Nat.gcd_zero_left]; omega
  · rw [hg]; unfold gcdI; rw [h, show Int.toNat 0 = 0 from rfl, Nat.gcd_zero_right]; omega
  · have hgp : 0 < g := by rw [hg]; exact gcdI_pos (by omega)
    have dx : g ∣ x := by
      rw [hg]; unfold gcdI
      have h := Int.natCast_dvd_natCast.2 (Nat.gcd_dvd_left x.toNat y.toNat)
      rwa [Int.toNat_of_nonneg hx.1] at h
    have dy : g ∣ y := by
      rw [hg]; unfold gcdI
      have h := Int.natCast_dvd_natCast.2 (Nat.gcd_dvd_right x.toNat y.toNat)
      rwa [Int.toNat_of_nonneg hy.1] at h
    obtain ⟨p, hp⟩ := dx
    obtain ⟨q, hq⟩ := dy
    have hpd : x / g = p := by rw [hp]; exact Int.mul_ediv_cancel_left _ (by omega)
    rw [hpd]
    have hp0 : 0 ≤ p := by rw [← hpd]; exact Int.ediv_nonneg hx.1 hg0
    have hpx : p ≤ x := by rw [← hpd]; exact Int.ediv_le_self _ hx.1
    have hm0 : 0 ≤ p * y := Int.mul_nonneg hp0 hy.1
    have hxy0 : 0 ≤ x * y := Int.mul_nonneg hx.1 hy.1
    have hxyb : x * y ≤ 1048575 * 1048575 := Int.mul_le_mul (by omega) (by omega) hy.1 (by omega)
    have hmb : p * y ≤ 1048575 * 1048575 := Int.mul_le_mul (by omega) (by omega) hy.1 (by omega)
    refine ⟨hgp, ?_, ?_, ?_, ?_, ?_, hm0, by omega, hxy0, by omega⟩
    · rw [hp]; exact Int.mul_tmod_right g p
    · rw [hq]; exact Int.mul_tmod_right g q
    · have e : p * y = x * q := by rw [hq, hp, ← Int.mul_assoc, Int.mul_comm p g]
      rw [e]; exact Int.mul_tmod_right x q
    · exact Int.mul_tmod_left p y
    · rw [← Int.mul_assoc, ← hp]

set_option maxRecDepth 200000 in
set_option maxHeartbeats 4000000 in
theorem tickDivides (a b c : Int) (ha : U a) (hb : U b) (hc : U c) : CallS Try.prog 4 [.sym (.int .u64 a), .sym (.int .u64 b), .sym (.int .u64 c)] (memB [] []) 0 fun v _ _ => v = .bool true := by
  refine CallS.enter X Try.func4 (by decide) ?_
  cbv
  with_reducible apply awakeT
  cbv
  with_reducible intro x hx
  rw [wrap_u64] at hx
  replace hx := and20 hx ha
  cbv
  with_reducible intro y hy
  rw [wrap_u64] at hy
  replace hy := and20 hy hb
  cbv
  with_reducible intro w hw
  rw [wrap_u64] at hw
  replace hw := and8 hw hc
  cbv
  with_reducible intro z hz
  rw [wrap_u64] at hz
  obtain ⟨g, hg⟩ : ∃ g, g = gcdI x y := ⟨_, rfl⟩
  obtain ⟨l1, l2, l3, l4, l5, l6, l7, l8, l9, l10, l11⟩ := div_laws (x := x) (y := y) (z := z) (g := g) (by omega) (by omega) (by omega) hg
  have hx1 : 0 ≤ x ∧ x < 1048576 := by omega
  have hy1 : 0 ≤ y ∧ y < 1048576 := by omega
  have hz1 : 1 ≤ z ∧ z ≤ 256 := by omega
  clear hx hy hw hz ha hb hc
  cbv
  repeat' first
    | with_reducible exact trivial
    | ((with_reducible apply gcdT3 hg); (focus rfl); (focus rfl); (focus unfold U; omega); (focus unfold U; omega); cbv)
    | ((with_reducible apply gcdT3 l2.symm); (focus rfl); (focus rfl); (focus unfold U; omega); (focus unfold U; omega); cbv)
    | ((with_reducible apply gcdT3 l3.symm); (focus rfl); (focus rfl); (focus unfold U; omega); (focus unfold U; omega); cbv)
    | ((with_reducible apply gcdT2 (x := v28) (y := v31)); (focus rfl); (focus rfl); (focus unfold U; omega); (focus unfold U; omega); (with_reducible intro g1 hg1); (rw [hv28, hv31, l1] at hg1); cbv)
    | ((with_reducible apply lcmT3 hg); (focus rfl); (focus rfl); (focus unfold U; omega); (focus unfold U; omega); all_goals first
        | ((with_reducible intro h0x h0y hlt p hp); (have l12 := l11 h0x h0y); (obtain ⟨m1, m2, m3, m4, m5, m6, m7, m8, m9, m10⟩ := l12); cbv)
        | ((with_reducible intro h0x h0y hge); (with_reducible exfalso); (have l12 := l11 h0x h0y); omega)
        | ((with_reducible intro h0xy); cbv))
    | first
        | ((with_reducible intro v28 hv28); (rw [wrap_u64] at hv28); (replace hv28 : v28 = x * z := (by omega)); cbv)
        | ((with_reducible intro v31 hv31); (rw [wrap_u64] at hv31); (replace hv31 : v31 = y * z := (by omega)); cbv)
    | ((with_reducible intro v hv); (first | (rw [m2] at hv) | (rw [m3] at hv) | (rw [hp, m4] at hv) | (rw [hp, m5] at hv) | (rw [wrap_u64, hp, m6] at hv) | (rw [wrap_u64] at hv) | skip); cbv)
    | ((with_reducible apply uAnd); (focus first | kernel_rfl | omega); try cbv)
    | ((with_reducible apply And.intro) <;> (with_reducible intro h) <;> first | ((with_reducible exfalso); omega) | cbv)
    | ((with_reducible apply CallT.enter X Try.func16 (by decide)); cbv)
end Go.Proofs.Ytbgapiiopocncaa.Tic
