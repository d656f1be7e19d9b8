/- Words as sets of numbers: plain. What TrailingZeros64 comes to. What every walk of this seat stands on. -/
import Derived.Test.YtkpddpdhpffhbaaDoorAb33
import Derived.Test.YtkpddpdhpffhbaaDoorAb46
import Derived.Test.YtkpddpdhpffhbaaDoorProg
import Derived.WalkKit
namespace Go.Proofs.YtkpddpdhpffhbaaDoor.Bit
open Go.Ab
set_option linter.unusedVariables false
set_option linter.unusedSimpArgs false

def U (x : Int) : Prop := 0 ≤ x ∧ x < 18446744073709551616
/-- A word's bit. -/
def tb (w : Int) (k : Nat) : Bool := w.toNat.testBit k
theorem wrapU (x : Int) : IntKind.wrap .u64 x = x % 18446744073709551616 := rfl
theorem ofNat_of {x : Int} (h : U x) : (BitVec.ofInt (IntKind.bits .u64) x).toNat = x.toNat := by
  unfold U at h
  rw [BitVec.toNat_ofInt]
  have : ((2 ^ IntKind.bits .u64 : Nat) : Int) = 18446744073709551616 := by kernel_rfl
  rw [this]
  omega
theorem bits64 : IntKind.bits .u64 = 64 := rfl
theorem getU {x : Int} (h : U x) (k : Nat) : (BitVec.ofInt (IntKind.bits .u64) x).getLsbD k = tb x k := by
  rw [BitVec.getLsbD, ofNat_of h]; rfl
/-- A number of 64 bits, out of a bit vector. -/
theorem ofBV {v : Int} {b : BitVec (IntKind.bits .u64)} (h : v = IntKind.wrap .u64 (b.toNat : Int)) : U v ∧ v.toNat = b.toNat := by
  have hb := b.isLt
  have e : (2 ^ IntKind.bits .u64 : Nat) = 18446744073709551616 := by kernel_rfl
  rw [e] at hb
  rw [wrapU] at h
  unfold U
  omega
theorem tb_high {w : Int} (h : U w) {k : Nat} (hk : 64 ≤ k) : tb w k = false := by
  unfold U at h
  refine Nat.testBit_lt_two_pow ?_
  have : (2 : Nat) ^ 64 ≤ 2 ^ k := Nat.pow_le_pow_right (by omega) hk
  have e : (2 : Nat) ^ 64 = 18446744073709551616 := by kernel_rfl
  omega
theorem shl1 {p i : Int} (h : p = IntKind.wrap .u64 (1 * 2 ^ (min i.toNat (IntKind.bits .u64)))) (h0 : 0 ≤ i) (h1 : i < 64) : U p ∧ p.toNat = 2 ^ i.toNat := by
  rw [wrapU, bits64, Nat.min_eq_left (by omega), Int.one_mul] at h
  have hp : (2 : Nat) ^ i.toNat ≤ 2 ^ 63 := Nat.pow_le_pow_right (by omega) (by omega)
  have e : (2 : Nat) ^ 63 = 9223372036854775808 := by kernel_rfl
  have e2 : ((2 : Int) ^ i.toNat) = ((2 ^ i.toNat : Nat) : Int) := by simp
  rw [e2] at h
  rw [e] at hp
  generalize (2 : Nat) ^ i.toNat = z at *
  unfold U
  omega
theorem tb_pow {p : Int} {i : Nat} (h : p.toNat = 2 ^ i) (k : Nat) : tb p k = decide (i = k) := by
  unfold tb; rw [h, Nat.testBit_two_pow]
theorem or1 {w p v : Int} {i : Nat} (h : v = IntKind.wrap .u64 ((BitVec.ofInt (IntKind.bits .u64) w ||| BitVec.ofInt (IntKind.bits .u64) p).toNat : Int)) (hw : U w) (hp : U p) (hi : p.toNat = 2 ^ i) :
    U v ∧ ∀ k, tb v k = (tb w k || decide (i = k)) := by
  obtain ⟨h1, h2⟩ := ofBV h
  refine ⟨h1, fun k => ?_⟩
  unfold tb
  rw [h2, BitVec.toNat_or, Nat.testBit_or, ofNat_of hw, ofNat_of hp, hi, Nat.testBit_two_pow]
theorem clr1 {w p v : Int} {i : Nat} (h : v = IntKind.wrap .u64 ((BitVec.ofInt (IntKind.bits .u64) w &&& ~~~BitVec.ofInt (IntKind.bits .u64) p).toNat : Int)) (hw : U w) (hp : U p) (hi : p.toNat = 2 ^ i) :
    U v ∧ ∀ k, tb v k = (tb w k && !decide (i = k)) := by
  obtain ⟨h1, h2⟩ := ofBV h
  refine ⟨h1, fun k => ?_⟩
  by_cases hk : k < 64
  · unfold tb
    rw [h2, BitVec.testBit_toNat, BitVec.getLsbD_and, BitVec.getLsbD_not, getU hw, getU hp, tb_pow hi]
    simp [bits64, hk, tb]
  · rw [tb_high h1 (by omega), tb_high hw (by omega)]; rfl
theorem shr_ {w v i : Int} (h : v = w.fdiv (2 ^ (min i.toNat (IntKind.bits .u64)))) (hw : U w) (h1 : i.toNat < 64) : U v ∧ ∀ k, tb v k = tb w (i.toNat + k) := by
  rw [bits64, Nat.min_eq_left (by omega)] at h
  have e2 : ((2 : Int) ^ i.toNat) = ((2 ^ i.toNat : Nat) : Int) := by simp
  rw [e2, Int.fdiv_eq_ediv_of_nonneg _ (Int.natCast_nonneg _)] at h
  unfold U at hw
  have hwn : w = ((w.toNat : Nat) : Int) := by omega
  rw [hwn, ← Int.natCast_ediv] at h
  have hle : w.toNat / 2 ^ i.toNat ≤ w.toNat := Nat.div_le_self _ _
  have hv : v.toNat = w.toNat / 2 ^ i.toNat := by rw [h, Int.toNat_natCast]
  generalize hz : w.toNat / 2 ^ i.toNat = z at h hle hv
  refine ⟨by unfold U; omega, fun k => ?_⟩
  unfold tb
  rw [hv, ← hz, Nat.testBit_div_two_pow, Nat.add_comm]
theorem and_one {w v : Int} (h : v = IntKind.wrap .u64 ((BitVec.ofInt (IntKind.bits .u64) w &&& BitVec.ofInt (IntKind.bits .u64) 1).toNat : Int)) (hw : U w) : (v = 1 ∧ tb w 0 = true) ∨ (v ≠ 1 ∧ tb w 0 = false) := by
  obtain ⟨h1, h2⟩ := ofBV h
  rw [BitVec.toNat_and, ofNat_of hw, ofNat_of (by unfold U; omega)] at h2
  have : (1 : Int).toNat = 1 := rfl
  rw [this, Nat.and_one_is_mod] at h2
  have e : tb w 0 = decide (w.toNat % 2 = 1) := by unfold tb; rw [Nat.testBit_zero]
  unfold U at h1
  rcases Nat.mod_two_eq_zero_or_one w.toNat with h3 | h3
  · right; rw [e, h3]; exact ⟨by omega, rfl⟩
  · left; rw [e, h3]; exact ⟨by omega, rfl⟩
theorem tb_zero (k : Nat) : tb 0 k = false := by unfold tb; exact Nat.zero_testBit k
theorem zero_of {w : Int} (hw : U w) (h : ∀ k, tb w k = false) : w = 0 := by
  have : w.toNat = 0 := Nat.eq_of_testBit_eq fun k => by rw [Nat.zero_testBit]; exact h k
  unfold U at hw
  omega
/-- The lowest bit. -/
def Low (w : Int) (k : Nat) : Prop := tb w k = true ∧ ∀ j, j < k → tb w j = false
theorem low_ex {w : Int} (hw : U w) (h : w ≠ 0) : ∃ k, k < 64 ∧ Low w k := by
  have h1 : ∃ k, tb w k = true := by
    apply Classical.byContradiction
    intro hn
    refine h (zero_of hw fun k => ?_)
    cases hk : tb w k with
    | false => rfl
    | true => exact (hn ⟨k, hk⟩).elim
  have key : ∀ n k, k ≤ n → tb w k = true → ∃ k, Low w k := by
    intro n
    induction n with
    | zero => intro k hk hb; exact ⟨k, hb, fun j hj => by omega⟩
    | succ n ih =>
      intro k hk hb
      by_cases hj : ∃ j, j < k ∧ tb w j = true
      · obtain ⟨j, h2, h3⟩ := hj
        exact ih j (by omega) h3
      · refine ⟨k, hb, fun j h2 => ?_⟩
        cases h3 : tb w j with
        | false => rfl
        | true => exact (hj ⟨j, h2, h3⟩).elim
  obtain ⟨k, hk⟩ := h1
  obtain ⟨k, hk⟩ := key k k (Nat.le_refl k) hk
  refine ⟨k, ?_, hk⟩
  apply Classical.byContradiction
  intro h2
  have h3 := hk.1
  rw [tb_high hw (by omega)] at h3
  cases h3
theorem low_mod {x k : Nat} (h : x.testBit k = true) (h2 : ∀ j, j < k → x.testBit j = false) : x = 2 ^ (k + 1) * (x / 2 ^ (k + 1)) + 2 ^ k := by
  have : x % 2 ^ (k + 1) = 2 ^ k := by
    refine Nat.eq_of_testBit_eq fun j => ?_
    rw [Nat.testBit_mod_two_pow, Nat.testBit_two_pow]
    by_cases hj : j < k
    · rw [h2 j hj]; simp; omega
    · by_cases e : j = k
      · subst e; rw [h]; simp
      · have : ¬ (k = j) := fun z => e z.symm
        simp [this]; omega
  rw [← this]
  exact (Nat.div_add_mod x (2 ^ (k + 1))).symm
theorem low_pred {x k : Nat} (h : x.testBit k = true) (h2 : ∀ j, j < k → x.testBit j = false) (j : Nat) : (x - 1).testBit j = if j < k then true else if j = k then false else x.testBit j := by
  have e := low_mod h h2
  have hp : 0 < 2 ^ k := Nat.two_pow_pos k
  have hk2 : 2 ^ (k + 1) = 2 * 2 ^ k := by rw [Nat.pow_succ]; omega
  have e1 : x - 1 = 2 ^ (k + 1) * (x / 2 ^ (k + 1)) + (2 ^ k - 1) := by omega
  rw [e1, Nat.testBit_two_pow_mul_add _ (by omega)]
  by_cases hj : j < k
  · rw [if_pos (by omega), if_pos hj, Nat.testBit_two_pow_sub_one]; simp [hj]
  · rw [if_neg hj]
    by_cases ej : j = k
    · subst ej; rw [if_pos (by omega), if_pos rfl, Nat.testBit_two_pow_sub_one]; simp
    · rw [if_neg (by omega), if_neg ej, Nat.testBit_div_two_pow]
      congr 1; omega
theorem low_pos {w : Int} {k : Nat} (h : Low w k) : 0 < w.toNat := by
  rcases Nat.eq_zero_or_pos w.toNat with e | e
  · have := h.1
    unfold tb at this
    rw [e, Nat.zero_testBit] at this
    cases this
  · exact e
/-- The lowest bit taken away. -/
theorem drop_low {w u v : Int} {k : Nat} (hu : u = IntKind.wrap .u64 (w - 1)) (h : v = IntKind.wrap .u64 ((BitVec.ofInt (IntKind.bits .u64) w &&& BitVec.ofInt (IntKind.bits .u64) u).toNat : Int)) (hw : U w) (hl : Low w k) :
    U v ∧ ∀ j, tb v j = (tb w j && decide (k < j)) := by
  obtain ⟨h1, h2⟩ := ofBV h
  have hp := low_pos hl
  unfold U at hw
  rw [wrapU] at hu
  have hu1 : u.toNat = w.toNat - 1 ∧ U u := by unfold U; omega
  refine ⟨h1, fun j => ?_⟩
  unfold tb
  rw [h2, BitVec.toNat_and, Nat.testBit_and, ofNat_of hw, ofNat_of hu1.2, hu1.1, low_pred hl.1 hl.2]
  by_cases hj : j < k
  · have := hl.2 j hj
    unfold tb at this
    rw [this]; simp
  · rw [if_neg hj]
    by_cases e : j = k
    · rw [if_pos e]; simp [e]
    · rw [if_neg e, Bool.and_self]; have : k < j := by omega
      simp [this]
/-- The lowest bit alone. -/
theorem only_low {w u v : Int} {k : Nat} (hu : u = IntKind.wrap .u64 (0 - w)) (h : v = IntKind.wrap .u64 ((BitVec.ofInt (IntKind.bits .u64) w &&& BitVec.ofInt (IntKind.bits .u64) u).toNat : Int)) (hw : U w) (hl : Low w k) : v = ((2 ^ k : Nat) : Int) := by
  obtain ⟨h1, h2⟩ := ofBV h
  have hp := low_pos hl
  have hw' := hw
  unfold U at hw
  rw [wrapU] at hu
  have hu1 : u.toNat = 2 ^ 64 - ((w.toNat - 1) + 1) ∧ U u := by
    have e : (2 : Nat) ^ 64 = 18446744073709551616 := by kernel_rfl
    unfold U; omega
  have hlt : w.toNat - 1 < 2 ^ 64 := by
    have e : (2 : Nat) ^ 64 = 18446744073709551616 := by kernel_rfl
    omega
  have : v.toNat = 2 ^ k := by
    refine Nat.eq_of_testBit_eq fun j => ?_
    rw [h2, BitVec.toNat_and, Nat.testBit_and, ofNat_of hw', ofNat_of hu1.2, hu1.1, Nat.testBit_two_pow_sub_succ hlt, low_pred hl.1 hl.2, Nat.testBit_two_pow]
    by_cases hj : j < k
    · have := hl.2 j hj
      unfold tb at this
      rw [this]; simp; omega
    · rw [if_neg hj]
      by_cases e : j = k
      · subst e
        have h3 := hl.1
        have h4 : j < 64 := by
          apply Classical.byContradiction
          intro h2
          rw [tb_high hw' (by omega)] at h3
          cases h3
        unfold tb at h3
        rw [h3]; simp [h4]
      · rw [if_neg e]
        have : ¬ (k = j) := fun z => e z.symm
        cases (w.toNat.testBit j) <;> simp [this]
  unfold U at h1
  omega
end Go.Proofs.YtkpddpdhpffhbaaDoor.Bit

namespace Go.Proofs.YtkpddpdhpffhbaaDoor.Bit
open Go.Ab
set_option linter.unusedVariables false
set_option linter.unusedSimpArgs false

set_option maxHeartbeats 400000 in
theorem tz_walk (x : Int) (w : World) (q : Nat) (k : Nat) (h0 : x ≠ 0) (hc : ∀ i : Nat, i < 64 → w.cell? ⟨0, i, none⟩ = some (.int .u8 (deB.getD i 0 : Nat)))
    (hq : IntKind.u64.wrap (bits BinOp.and IntKind.u64 x (IntKind.u64.wrap (-x)) * 285870213051353865) / 288230376151711744 = (q : Int)) (hq2 : q < 64) (hk : deB.getD q 0 = k) (hk2 : k < 64) :
    Calls Tryd.prog 26 #[.int .u64 x] w fun e w' => e = .returned (.int .i64 k) ∧ w' = w := by
  go_enter Tryd.func26, Tryd.ntmps26
  go_wp2
  go_ret
  have h3 : RowKit.wrap64 ((deB[q]?.getD 0 : Nat) : Int) = (k : Int) := by
    rw [← List.getD_eq_getElem?_getD, hk]
    unfold RowKit.wrap64
    omega
  refine ⟨?_, rfl⟩
  change Ending.returned (Value.int .i64 (RowKit.wrap64 ((deB[q]?.getD 0 : Nat) : Int))) = _
  rw [h3]
theorem tz_zero (w : World) : Calls Tryd.prog 26 #[.int .u64 0] w fun e w' => e = .returned (.int .i64 64) ∧ w' = w := by
  go_enter Tryd.func26, Tryd.ntmps26
  go_wp2
  go_ret
  exact ⟨rfl, rfl⟩
theorem deB_ok : ∀ k : Fin 64, (2 ^ k.val * 285870213051353865 % 18446744073709551616) / 288230376151711744 < 64 ∧ deB.getD ((2 ^ k.val * 285870213051353865 % 18446744073709551616) / 288230376151711744) 0 = k.val := by decide
/-- What it gives. -/
def tzN (x : Int) : Nat := ((List.range 64).find? fun k => tb x k).getD 64
theorem tz_low {x : Int} {k : Nat} (hl : Low x k) (hk : k < 64) : tzN x = k := by
  unfold tzN
  have : (List.range 64).find? (fun k => tb x k) = some k := by
    rw [List.find?_eq_some_iff_getElem]
    refine ⟨hl.1, k, by simpa using hk, by simp, fun j hj => ?_⟩
    simp [hl.2 j hj]
  rw [this]; rfl
theorem tz_null : tzN 0 = 64 := by
  unfold tzN
  have : (List.range 64).find? (fun k => tb 0 k) = none := by
    rw [List.find?_eq_none]
    intro k _
    simp [tb_zero]
  rw [this]; rfl
theorem isDeB_cell {w : World} {o : Obj} (h : w.heap[0]? = some o) (hq : isDeB o) : ∀ i : Nat, i < 64 → w.cell? ⟨0, i, none⟩ = some (.int .u8 (deB.getD i 0 : Nat)) := fun i hi => by
  cases o <;> first | exact hq.elim | skip
  rw [cell_mk h]
  exact hq i hi
theorem tzC (x : Int) (hx : U x) (m : Mem) (c : Nat) : CallS Tryd.prog 26 [.sym (.int .u64 x)] m c fun v m' c' => v = .sym (.int .i64 (tzN x : Nat)) ∧ m' = m ∧ c' = c := by
  refine ⟨fun μ w args hargs hS hf => ?_⟩
  have ha : args = [.int .u64 x] := by
    simp only [cnL, cn, Option.some.injEq] at hargs
    exact hargs.symm
  subst ha
  have hcells := isDeB_cell (hS.glob.ok 0 isDeB (by simp)).1.choose_spec.1 (hS.glob.ok 0 isDeB (by simp)).1.choose_spec.2
  refine .inl ⟨Tryd.f26, Tryd.func26, by rfl, by decide, ?_⟩
  have key : Calls Tryd.prog 26 #[.int .u64 x] w fun e w' => e = .returned (.int .i64 (tzN x : Nat)) ∧ w' = w := by
    by_cases h0 : x = 0
    · subst h0; rw [tz_null]; exact tz_zero w
    · obtain ⟨k, hk, hl⟩ := low_ex hx h0
      rw [tz_low hl hk]
      have h1 := only_low (w := x) (u := IntKind.wrap .u64 (0 - x)) (v := bits BinOp.and IntKind.u64 x (IntKind.u64.wrap (-x))) rfl (by rw [Int.zero_sub]; rfl) hx hl
      have h2 := deB_ok ⟨k, hk⟩
      refine tz_walk x w ((2 ^ k * 285870213051353865 % 18446744073709551616) / 288230376151711744) k h0 hcells ?_ h2.1 h2.2 hk
      rw [h1, wrapU]
      simp only [Int.natCast_ediv, Int.natCast_emod, Int.natCast_mul]
      rfl
  refine key.mono ?_
  rintro e w' ⟨rfl, rfl⟩
  exact ⟨_, rfl, .sym (.int .i64 (tzN x : Nat)), m, c, μ, ⟨rfl, rfl, rfl⟩, rfl, After.refl none hS hf⟩
end Go.Proofs.YtkpddpdhpffhbaaDoor.Bit

namespace Go.Proofs.YtkpddpdhpffhbaaDoor.Base
open Go.Ab Bit
theorem hm : Tryd.prog.follows .mixedOrders = true := by kernel_rfl
/-- TrailingZeros64, by an answer. -/
def g26 : List AV → Mem → Option AV
  | [A], _ => match norm A with
    | .int .u64 x => if 0 ≤ x ∧ x < 18446744073709551616 then some (.int .i64 (tzN x : Nat)) else none
    | _ => none
  | _, _ => none
theorem g26_ok : HintOK Tryd.prog (26, g26) := fun vs m v h c => by
  change g26 vs m = some v at h
  unfold g26 at h
  split at h
  · rename_i A m0
    split at h
    · rename_i x hx
      split at h
      · rename_i hU
        cases h
        refine CallS.normA (vs' := [.sym (.int .u64 x)]) (by simp only [normL, hx, norm]) ?_
        refine ⟨fun μ w args h1 h2 h3 => ((tzC x hU m c).ok μ w args h1 h2 h3).mono ?_⟩
        rintro val w' ⟨v', m', c', μ', ⟨rfl, rfl, rfl⟩, k1, k2⟩
        exact ⟨_, _, _, μ', ⟨rfl, rfl, rfl⟩, k1, k2⟩
      · cases h
    · cases h
  · cases h
noncomputable def callM : CallA := aRun Tryd.prog (readHints [(26, g26)]) 5
theorem X : Ctx Tryd.prog callM := ctx_read (l := [(26, g26)]) hm ⟨g26_ok, trivial⟩ 5
theorem awakeRuns : isYes (aRun Tryd.prog (readHints [(26, g26)]) 200 11 [] ⟨Tr.empty 6, []⟩ 0) = true := by kernel_rfl
theorem awakeS (m : Mem) (c : Nat) : CallS Tryd.prog 11 [] m c fun v m' c' => v = .bool true ∧ m' = m ∧ c' = c := by
  obtain ⟨m1, c1, h⟩ := of_isYes awakeRuns
  exact CallS.pure (R0 := fun v => v = .bool true) rfl (CallS.of_call (ctx_read (l := [(26, g26)]) hm ⟨g26_ok, trivial⟩ 200).hcall h ⟨rfl, rfl⟩)
theorem awakeT {m : Mem} {c : Nat} {K : AV → Mem → Nat → Prop} (h : K (.bool true) m c) : CallT (fun _ => Tryd.prog) 11 [] m c K :=
  ⟨⟨fun μ w args h1 h2 h3 => ((awakeS m c).ok μ w args h1 h2 h3).mono fun val w' ⟨v, m', c', μ', ⟨e1, e2, e3⟩, k1, k2⟩ => ⟨v, m', c', μ', by subst e1 e2 e3; exact h, k1, k2⟩⟩⟩
theorem tzT {x : Int} {A : AV} {m : Mem} {c : Nat} {K : AV → Mem → Nat → Prop} (hA : norm A = .int .u64 x) (hx : U x) (h : ∀ k : Int, 0 ≤ k ∧ k.toNat = tzN x → K (.sym (.int .i64 k)) m c) : CallT (fun _ => Tryd.prog) 26 [A] m c K :=
  ⟨CallS.normA (vs' := [.sym (.int .u64 x)]) (by simp only [normL, hA, norm]) ⟨fun μ w args h1 h2 h3 => ((tzC x hx m c).ok μ w args h1 h2 h3).mono fun val w' ⟨v, m', c', μ', ⟨e1, e2, e3⟩, k1, k2⟩ => ⟨v, m', c', μ', by subst e1 e2 e3; exact h _ ⟨by omega, by omega⟩, k1, k2⟩⟩⟩
end Go.Proofs.YtkpddpdhpffhbaaDoor.Base
