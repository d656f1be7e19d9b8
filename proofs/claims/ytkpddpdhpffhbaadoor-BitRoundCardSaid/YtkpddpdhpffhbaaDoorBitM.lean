/- Sets of numbers as lists; the next of them: plain. Sets as words: what Put, Drop, Has, Next, All come to. Sets as words: New. The reference's sets: rows of truth values. The reference's sets: Next, New. Rows of truth values; New over rows that are told otherwise. -/
import Derived.Test.YtkpddpdhpffhbaaDoorBase
import Derived.Test.YtkpddpdhpffhbaaDoorLend
import Derived.Test.YtkpddpdhpffhbaaDoorAb42
namespace Go.Proofs.YtkpddpdhpffhbaaDoor.Bit
open Go.Ab
set_option linter.unusedVariables false
set_option linter.unusedSimpArgs false

/-- The members below b, rising. -/
def memI (g : Nat → Bool) (b : Nat) : List Int := ((List.range b).filter g).map Int.ofNat
theorem memI_zero (g : Nat → Bool) : memI g 0 = [] := rfl
theorem memI_succ (g : Nat → Bool) (b : Nat) : memI g (b + 1) = memI g b ++ (if g b then [Int.ofNat b] else []) := by
  unfold memI
  rw [List.range_succ, List.filter_append, List.map_append]
  congr 1
  cases h : g b <;> simp [List.filter, h]
theorem memI_yes {g : Nat → Bool} {b : Nat} (h : g b = true) : memI g (b + 1) = memI g b ++ [Int.ofNat b] := by rw [memI_succ, if_pos h]
theorem memI_no {g : Nat → Bool} {b : Nat} (h : g b = false) : memI g (b + 1) = memI g b := by rw [memI_succ, h]; simp
theorem memI_gap {g : Nat → Bool} {b : Nat} : ∀ {c : Nat}, b ≤ c → (∀ j, b ≤ j → j < c → g j = false) → memI g c = memI g b
  | 0, h, _ => by rw [show b = 0 by omega]
  | c + 1, h, hg => by
    by_cases e : b = c + 1
    · rw [e]
    · rw [memI_no (hg c (by omega) (by omega))]
      exact memI_gap (by omega) fun j h1 h2 => hg j h1 (by omega)
theorem memI_next {g : Nat → Bool} {b k : Nat} (hb : b ≤ k) (hg : ∀ j, b ≤ j → j < k → g j = false) (hk : g k = true) : memI g (k + 1) = memI g b ++ [Int.ofNat k] := by
  rw [memI_yes hk, memI_gap hb hg]
theorem memI_top {g : Nat → Bool} {b s : Nat} (h1 : ∀ j, b ≤ j → g j = false) (h2 : ∀ j, s ≤ j → g j = false) : memI g b = memI g s := by
  rcases Nat.le_total b s with h | h
  · exact (memI_gap h fun j h3 _ => h1 j h3).symm
  · exact memI_gap h fun j h3 _ => h2 j h3
theorem memI_len (g : Nat → Bool) : ∀ b, (memI g b).length ≤ b
  | 0 => Nat.le_refl 0
  | b + 1 => by
    have := memI_len g b
    rw [memI_succ, List.length_append]
    split <;> simp <;> omega
theorem mem_memI {g : Nat → Bool} {b : Nat} {x : Int} : x ∈ memI g b ↔ 0 ≤ x ∧ x.toNat < b ∧ g x.toNat = true := by
  unfold memI
  simp only [List.mem_map, List.mem_filter, List.mem_range]
  constructor
  · rintro ⟨k, ⟨h1, h2⟩, rfl⟩
    exact ⟨by simp, h1, h2⟩
  · rintro ⟨h1, h2, h3⟩
    exact ⟨x.toNat, ⟨h2, h3⟩, by simp; omega⟩
theorem memI_congr {f g : Nat → Bool} {b : Nat} (h : ∀ j, j < b → f j = g j) : memI f b = memI g b := by
  unfold memI
  congr 1
  exact List.filter_congr fun k hk => h k (by simpa using hk)
theorem memI_nil {g : Nat → Bool} {b : Nat} : memI g b = [] ↔ ∀ j, j < b → g j = false := by
  constructor
  · intro h j hj
    cases hg : g j with
    | false => rfl
    | true =>
      have : Int.ofNat j ∈ memI g b := mem_memI.2 ⟨by simp, by simpa using hj, by simpa using hg⟩
      rw [h] at this; cases this
  · intro h
    have := memI_gap (g := g) (Nat.zero_le b) fun j _ hj => h j hj
    exact this

/-- The next one, round about. -/
def NX (g : Nat → Bool) (s : Nat) (i p : Int) : Prop := 0 ≤ p ∧ p.toNat < s ∧ g p.toNat = true ∧
  ((i < p ∧ ∀ j : Nat, i < Int.ofNat j → j < p.toNat → g j = false) ∨ ((∀ j : Nat, i < Int.ofNat j → j < s → g j = false) ∧ ∀ j, j < p.toNat → g j = false))
theorem NX.uniq {g : Nat → Bool} {s : Nat} {i p q : Int} (h1 : NX g s i p) (h2 : NX g s i q) : p = q := by
  obtain ⟨a1, a2, a3, a4⟩ := h1
  obtain ⟨b1, b2, b3, b4⟩ := h2
  have no : ∀ {k : Nat}, g k = true → g k = false → False := fun h h' => by rw [h] at h'; cases h'
  have ep : Int.ofNat p.toNat = p := by simp; omega
  have eq : Int.ofNat q.toNat = q := by simp; omega
  rcases a4 with ⟨a4, a5⟩ | ⟨a4, a5⟩
  · rcases b4 with ⟨b4, b5⟩ | ⟨b4, b5⟩
    · rcases Int.lt_trichotomy p q with h | h | h
      · exact (no a3 (b5 p.toNat (by rw [ep]; exact a4) (by omega))).elim
      · exact h
      · exact (no b3 (a5 q.toNat (by rw [eq]; exact b4) (by omega))).elim
    · exact (no a3 (b4 p.toNat (by rw [ep]; exact a4) a2)).elim
  · rcases b4 with ⟨b4, b5⟩ | ⟨b4, b5⟩
    · exact (no b3 (a4 q.toNat (by rw [eq]; exact b4) b2)).elim
    · rcases Int.lt_trichotomy p q with h | h | h
      · exact (no a3 (b5 p.toNat (by omega))).elim
      · exact h
      · exact (no b3 (a5 q.toNat (by omega))).elim
theorem NX.has {g : Nat → Bool} {s : Nat} {i p : Int} (h : NX g s i p) : ¬ ∀ j, j < s → g j = false := fun h2 => by
  have := h2 _ h.2.1
  rw [h.2.2.1] at this; cases this
theorem NX.congr {f g : Nat → Bool} {s : Nat} {i p : Int} (h : NX f s i p) (e : ∀ j, j < s → f j = g j) : NX g s i p := by
  obtain ⟨a1, a2, a3, a4⟩ := h
  refine ⟨a1, a2, by rw [← e _ a2]; exact a3, ?_⟩
  rcases a4 with ⟨a4, a5⟩ | ⟨a4, a5⟩
  · exact .inl ⟨a4, fun j h1 h2 => by rw [← e j (by omega)]; exact a5 j h1 h2⟩
  · exact .inr ⟨fun j h1 h2 => by rw [← e j h2]; exact a4 j h1 h2, fun j h1 => by rw [← e j (by omega)]; exact a5 j h1⟩

/-- A word that is a set of numbers below s. -/
structure WS (w s : Int) : Prop where
  u : U w
  s1 : 1 ≤ s
  s2 : s ≤ 64
  top : ∀ k : Nat, s.toNat ≤ k → tb w k = false
theorem WS.put {w s v p i : Int} (h : WS w s) (h0 : 0 ≤ i) (h1 : i < s) (hp : p = IntKind.wrap .u64 (1 * 2 ^ (min i.toNat (IntKind.bits .u64)))) (hv : v = IntKind.wrap .u64 ((BitVec.ofInt (IntKind.bits .u64) w ||| BitVec.ofInt (IntKind.bits .u64) p).toNat : Int)) :
    WS v s ∧ ∀ k, tb v k = (tb w k || decide (i.toNat = k)) := by
  have hs2 := h.s2
  obtain ⟨p1, p2⟩ := shl1 hp h0 (by omega)
  obtain ⟨v1, v2⟩ := or1 hv h.u p1 p2
  refine ⟨⟨v1, h.s1, h.s2, fun k hk => ?_⟩, v2⟩
  rw [v2, h.top k hk, Bool.false_or, decide_eq_false]
  omega
theorem WS.drop {w s v p i : Int} (h : WS w s) (h0 : 0 ≤ i) (h1 : i < s) (hp : p = IntKind.wrap .u64 (1 * 2 ^ (min i.toNat (IntKind.bits .u64)))) (hv : v = IntKind.wrap .u64 ((BitVec.ofInt (IntKind.bits .u64) w &&& ~~~BitVec.ofInt (IntKind.bits .u64) p).toNat : Int)) :
    WS v s ∧ ∀ k, tb v k = (tb w k && !decide (i.toNat = k)) := by
  have hs2 := h.s2
  obtain ⟨p1, p2⟩ := shl1 hp h0 (by omega)
  obtain ⟨v1, v2⟩ := clr1 hv h.u p1 p2
  refine ⟨⟨v1, h.s1, h.s2, fun k hk => ?_⟩, v2⟩
  rw [v2, h.top k hk, Bool.false_and]
/-- The bit at a place. -/
theorem WS.bit {w s a b i : Int} (h : WS w s) (h0 : 0 ≤ i) (h1 : i < s) (ha : a = w.fdiv (2 ^ (min i.toNat (IntKind.bits .u64)))) (hb : b = IntKind.wrap .u64 ((BitVec.ofInt (IntKind.bits .u64) a &&& BitVec.ofInt (IntKind.bits .u64) 1).toNat : Int)) :
    (b = 1 ∧ tb w i.toNat = true) ∨ (b ≠ 1 ∧ tb w i.toNat = false) := by
  have hs2 := h.s2
  obtain ⟨a1, a2⟩ := shr_ ha h.u (by omega)
  have := and_one hb a1
  rw [a2 0, Nat.add_zero] at this
  exact this
theorem tzN_low {w : Int} (hw : U w) (h : w ≠ 0) : tzN w < 64 ∧ Low w (tzN w) := by
  obtain ⟨k, hk, hl⟩ := low_ex hw h
  rw [tz_low hl hk]
  exact ⟨hk, hl⟩
/-- Of the lowest. -/
theorem WS.low {w s : Int} (h : WS w s) (hn : w ≠ 0) : tzN w < s.toNat ∧ Low w (tzN w) := by
  obtain ⟨h1, h2⟩ := tzN_low h.u hn
  refine ⟨?_, h2⟩
  apply Classical.byContradiction
  intro h3
  have := h2.1
  rw [h.top _ (by omega)] at this; cases this
theorem WS.none {w s : Int} (h : WS w s) : w = 0 ↔ ∀ j, j < s.toNat → tb w j = false := by
  constructor
  · rintro rfl j _; exact tb_zero j
  · intro h1
    refine zero_of h.u fun k => ?_
    by_cases hk : k < s.toNat
    · exact h1 k hk
    · exact h.top k (by omega)
/-- What Next reckons with. -/
theorem WS.above {w s a b i : Int} (h : WS w s) (h0 : 0 ≤ i) (h1 : i < s) (ha : a = w.fdiv (2 ^ (min i.toNat (IntKind.bits .u64)))) (hb : b = a.fdiv (2 ^ (min (Int.toNat 1) (IntKind.bits .u64)))) :
    U b ∧ ∀ k, tb b k = tb w (i.toNat + 1 + k) := by
  have hs2 := h.s2
  obtain ⟨a1, a2⟩ := shr_ ha h.u (by omega)
  obtain ⟨b1, b2⟩ := shr_ hb a1 (by decide)
  refine ⟨b1, fun k => ?_⟩
  rw [b2, a2]
  have : (1 : Int).toNat = 1 := rfl
  rw [this, Nat.add_assoc]
theorem WS.next1 {w s b i t p : Int} (h : WS w s) (h0 : 0 ≤ i) (h1 : i < s) (hb : U b ∧ ∀ k, tb b k = tb w (i.toNat + 1 + k)) (hn : b ≠ 0) (ht : 0 ≤ t ∧ t.toNat = tzN b) (hp : p = i + 1 + t) : NX (tb w) s.toNat i p := by
  obtain ⟨hbu, hbb⟩ := hb
  obtain ⟨k1, k2⟩ := tzN_low hbu hn
  generalize tzN b = k at *
  have e : p.toNat = i.toNat + 1 + k := by omega
  have h3 := k2.1
  rw [hbb] at h3
  refine ⟨by omega, ?_, by rw [e]; exact h3, .inl ⟨by omega, fun j j1 j2 => ?_⟩⟩
  · apply Classical.byContradiction
    intro h4
    rw [h.top _ (by omega)] at h3; cases h3
  · have j1' : i < (j : Int) := j1
    have := k2.2 (j - (i.toNat + 1)) (by omega)
    rw [hbb] at this
    rw [show i.toNat + 1 + (j - (i.toNat + 1)) = j by omega] at this
    exact this
theorem WS.next2 {w s i t : Int} (h : WS w s) (hn : w ≠ 0) (ht : 0 ≤ t ∧ t.toNat = tzN w) (hb : i < 0 ∨ ∀ j : Nat, i < Int.ofNat j → tb w j = false) : NX (tb w) s.toNat i t := by
  obtain ⟨k1, k2⟩ := h.low hn
  generalize tzN w = k at *
  have e : t.toNat = k := by omega
  refine ⟨by omega, by omega, by rw [e]; exact k2.1, ?_⟩
  rcases hb with hb | hb
  · exact .inl ⟨by omega, fun j _ j2 => k2.2 j (by omega)⟩
  · exact .inr ⟨fun j j1 _ => hb j j1, fun j j2 => k2.2 j (by omega)⟩
theorem WS.high {w s i : Int} (h : WS w s) (h1 : s ≤ i) : ∀ j : Nat, i < Int.ofNat j → tb w j = false := fun j hj => by
  have hj' : i < (j : Int) := hj
  have := h.s1
  exact h.top j (by omega)
theorem above_none {w b i : Int} (h0 : 0 ≤ i) (hb : U b ∧ ∀ k, tb b k = tb w (i.toNat + 1 + k)) (hz : b = 0) : ∀ j : Nat, i < Int.ofNat j → tb w j = false := fun j hj => by
  have hj' : i < (j : Int) := hj
  have := hb.2 (j - (i.toNat + 1))
  rw [hz, tb_zero, show i.toNat + 1 + (j - (i.toNat + 1)) = j by omega] at this
  exact this.symm
/-- One round of All. -/
structure AllI (w : Int) (v : Int) (b : Nat) : Prop where
  u : U v
  b1 : b ≤ 64
  bit : ∀ j, tb v j = (tb w j && decide (b ≤ j))
theorem AllI.start {w : Int} (h : U w) : AllI w w 0 := ⟨h, by omega, fun j => by simp⟩
theorem AllI.step {w v u v' t : Int} {b : Nat} (h : AllI w v b) (hn : v ≠ 0) (hu : u = IntKind.wrap .u64 (v - 1)) (hv : v' = IntKind.wrap .u64 ((BitVec.ofInt (IntKind.bits .u64) v &&& BitVec.ofInt (IntKind.bits .u64) u).toNat : Int)) (ht : 0 ≤ t ∧ t.toNat = tzN v) :
    ∃ b', AllI w v' b' ∧ memI (tb w) b' = memI (tb w) b ++ [t] ∧ v'.toNat < v.toNat := by
  obtain ⟨k1, k2⟩ := tzN_low h.u hn
  obtain ⟨d1, d2⟩ := drop_low hu hv h.u k2
  generalize tzN v = k at *
  have hk := k2.1
  rw [h.bit, Bool.and_eq_true, decide_eq_true_eq] at hk
  refine ⟨k + 1, ⟨d1, by omega, fun j => ?_⟩, ?_, ?_⟩
  · rw [d2, h.bit]
    by_cases hj : k < j
    · have : b ≤ j := by omega
      have h3 : k + 1 ≤ j := by omega
      simp [hj, this, h3]
    · have h3 : ¬ (k + 1 ≤ j) := by omega
      simp [hj, h3]
  · rw [show t = Int.ofNat k by simp; omega]
    refine memI_next hk.2 (fun j j1 j2 => ?_) hk.1
    have := k2.2 j j2
    rw [h.bit] at this
    simp [j1] at this
    exact this
  · have h1 := ofBV hv
    have hle : v'.toNat ≤ v.toNat := by
      rw [h1.2, BitVec.toNat_and, ofNat_of h.u]
      exact Nat.and_le_left
    rcases Nat.lt_or_ge v'.toNat v.toNat with h2 | h2
    · exact h2
    · have e : v'.toNat = v.toNat := by omega
      have h3 := d2 k
      have h4 := k2.1
      unfold tb at h3 h4
      rw [e, h4] at h3
      simp at h3
theorem AllI.done {w s v : Int} {b : Nat} (h : AllI w v b) (hw : WS w s) (hz : v = 0) : memI (tb w) b = memI (tb w) s.toNat := by
  refine memI_top (fun j hj => ?_) hw.top
  have := h.bit j
  rw [hz, tb_zero] at this
  simp [hj] at this
  exact this
end Go.Proofs.YtkpddpdhpffhbaaDoor.Bit

namespace Go.Proofs.YtkpddpdhpffhbaaDoor.Bit
open Go.Ab Base Kit
set_option linter.unusedVariables false
set_option linter.unusedSimpArgs false

def Sh.pos : Sh → Prop
  | .nil => True
  | .sl L _ _ => 1 ≤ L
abbrev WB (w s : Int) (rw : Bool) : ABlk := .cells rw 2 [[.sym (.int .u64 w), .sym (.int .i64 s)]]
theorem ArgV.int {l : List Vw} {B : AV} {k : IntKind} {i : Int} (h : norm B = .int k i) : ArgV l B (.sym (.int k i)) := fun μ x hx => by
  rw [← cn_norm' μ B, h] at hx
  exact hx
theorem WB.flat (w s : Int) : ∀ row ∈ [[AV.sym (.int .u64 w), AV.sym (.int .i64 s)]], AV.flatL row = true := fun row h => by rw [List.mem_singleton.1 h]; rfl

set_option maxRecDepth 100000 in
set_option maxHeartbeats 4000000 in
theorem putC (w s i : Int) (hw : WS w s) :
    CallS Tryd.prog 12 [.ptr 0 2 0 0, .sym (.int .i64 i)] (memB [some (WB w s true)] []) 1 fun v m' c' => ∃ w' e, ((0 ≤ i ∧ i < s) ∧ e = 0 ∧ WS w' s ∧ (∀ k, tb w' k = (tb w k || decide (i.toNat = k))) ∨ ¬ (0 ≤ i ∧ i < s) ∧ e = 300 ∧ w' = w) ∧
      v = .int .i64 e ∧ m' = memB [some (WB w' s true)] [0] ∧ c' = 1 := by
  refine CallS.ends rfl ?_
  refine CallS.enter X Tryd.func12 (by decide) ?_
  cbv
  repeat' first
    | ((with_reducible apply CallT.enter X Tryd.func24 (by decide)); cbv)
    | ((with_reducible intro v hv); cbv)
    | ((with_reducible apply uAnd); (focus first | kernel_rfl | omega); try cbv)
    | ((with_reducible apply And.intro) <;> (with_reducible intro h) <;> first | ((with_reducible exfalso); omega) | cbv)
  all_goals first
    | (have hq := WS.put hw (by assumption) (by assumption) (by assumption) hv
       refine ⟨[], [0], .int .i64 0, [some (WB v s true)], ?_, v, 0, .inl ⟨⟨by assumption, by assumption⟩, rfl, hq.1, hq.2⟩, rfl, rfl, rfl⟩)
    | refine ⟨[], [0], .int .i64 300, [some (WB w s true)], ?_, w, 300, .inr ⟨by omega, rfl, rfl⟩, rfl, rfl, rfl⟩
  all_goals
    refine Head.mk rfl rfl ?_ ?_ rfl ?_
    all_goals cbv
    exact ⟨BlkLe.flat (fun h => h) (WB.flat _ _), trivial⟩
theorem putT {w s i : Int} {A B : AV} {m : Mem} {c k : Nat} {K : AV → Mem → Nat → Prop} (hw : WS w s) (hA : norm A = .ptr k 2 0 0) (hB : norm B = .int .i64 i) (hm : m.get k = some (WB w s true)) (hk : k < c)
    (h1 : 0 ≤ i → i < s → ∀ w', WS w' s → (∀ k, tb w' k = (tb w k || decide (i.toNat = k))) → K (.int .i64 0) (m.write k (some (WB w' s true))) c)
    (h2 : ¬ (0 ≤ i ∧ i < s) → K (.int .i64 300) (m.write k (some (WB w s true))) c) : CallT (fun _ => Tryd.prog) 12 [A, B] m c K := by
  refine CallT.frameF [k] (putC w s i hw) rfl ?_ ?_ ⟨by simp, by simp; omega⟩ ?_
  · simp only [leL, normL, norm, hA, hB, renOL, renO, List.getElem?_cons_zero, Option.map_some]
  · refine ⟨?_, trivial⟩
    simp only [List.getElem?_cons_zero, hm]
    exact BlkLe.flat (fun e => e) (WB.flat _ _)
  · rintro v m' c' ⟨w', e, hb, rfl, rfl, rfl⟩
    refine ⟨⟨trivial, WB.flat _ _⟩, ?_⟩
    rcases hb with ⟨⟨a1, a2⟩, rfl, a3, a4⟩ | ⟨a1, rfl, rfl⟩
    · exact h1 a1 a2 w' a3 a4
    · exact h2 a1

set_option maxRecDepth 100000 in
set_option maxHeartbeats 4000000 in
theorem dropC (w s i : Int) (hw : WS w s) :
    CallS Tryd.prog 14 [.ptr 0 2 0 0, .sym (.int .i64 i)] (memB [some (WB w s true)] []) 1 fun v m' c' => ∃ w' e, ((0 ≤ i ∧ i < s) ∧ e = 0 ∧ WS w' s ∧ (∀ k, tb w' k = (tb w k && !decide (i.toNat = k))) ∨ ¬ (0 ≤ i ∧ i < s) ∧ e = 300 ∧ w' = w) ∧
      v = .int .i64 e ∧ m' = memB [some (WB w' s true)] [0] ∧ c' = 1 := by
  refine CallS.ends rfl ?_
  refine CallS.enter X Tryd.func14 (by decide) ?_
  cbv
  repeat' first
    | ((with_reducible apply CallT.enter X Tryd.func24 (by decide)); cbv)
    | ((with_reducible intro v hv); cbv)
    | ((with_reducible apply uAnd); (focus first | kernel_rfl | omega); try cbv)
    | ((with_reducible apply And.intro) <;> (with_reducible intro h) <;> first | ((with_reducible exfalso); omega) | cbv)
  all_goals first
    | (have hq := WS.drop hw (by assumption) (by assumption) (by assumption) hv
       refine ⟨[], [0], .int .i64 0, [some (WB v s true)], ?_, v, 0, .inl ⟨⟨by assumption, by assumption⟩, rfl, hq.1, hq.2⟩, rfl, rfl, rfl⟩)
    | refine ⟨[], [0], .int .i64 300, [some (WB w s true)], ?_, w, 300, .inr ⟨by omega, rfl, rfl⟩, rfl, rfl, rfl⟩
  all_goals
    refine Head.mk rfl rfl ?_ ?_ rfl ?_
    all_goals cbv
    exact ⟨BlkLe.flat (fun h => h) (WB.flat _ _), trivial⟩
theorem dropT {w s i : Int} {A B : AV} {m : Mem} {c k : Nat} {K : AV → Mem → Nat → Prop} (hw : WS w s) (hA : norm A = .ptr k 2 0 0) (hB : norm B = .int .i64 i) (hm : m.get k = some (WB w s true)) (hk : k < c)
    (h1 : 0 ≤ i → i < s → ∀ w', WS w' s → (∀ k, tb w' k = (tb w k && !decide (i.toNat = k))) → K (.int .i64 0) (m.write k (some (WB w' s true))) c)
    (h2 : ¬ (0 ≤ i ∧ i < s) → K (.int .i64 300) (m.write k (some (WB w s true))) c) : CallT (fun _ => Tryd.prog) 14 [A, B] m c K := by
  refine CallT.frameF [k] (dropC w s i hw) rfl ?_ ?_ ⟨by simp, by simp; omega⟩ ?_
  · simp only [leL, normL, norm, hA, hB, renOL, renO, List.getElem?_cons_zero, Option.map_some]
  · refine ⟨?_, trivial⟩
    simp only [List.getElem?_cons_zero, hm]
    exact BlkLe.flat (fun e => e) (WB.flat _ _)
  · rintro v m' c' ⟨w', e, hb, rfl, rfl, rfl⟩
    refine ⟨⟨trivial, WB.flat _ _⟩, ?_⟩
    rcases hb with ⟨⟨a1, a2⟩, rfl, a3, a4⟩ | ⟨a1, rfl, rfl⟩
    · exact h1 a1 a2 w' a3 a4
    · exact h2 a1

set_option maxRecDepth 100000 in
set_option maxHeartbeats 4000000 in
theorem hasC (w s i : Int) (hw : WS w s) :
    CallS Tryd.prog 18 [.ptr 0 2 0 0, .sym (.int .i64 i)] (memB [some (WB w s false)] []) 1 fun v m' c' => v.flat = true ∧ ∃ r, (r = true ↔ (0 ≤ i ∧ i < s ∧ tb w i.toNat = true)) ∧ Go.Ab.full v = .bool r := by
  refine CallS.enter X Tryd.func18 (by decide) ?_
  cbv
  repeat' first
    | ((with_reducible apply CallT.enter X Tryd.func24 (by decide)); cbv)
    | ((with_reducible intro v hv); cbv)
    | ((with_reducible apply uAnd); (focus first | kernel_rfl | omega); try cbv)
    | ((with_reducible apply And.intro) <;> (with_reducible intro h) <;> first | ((with_reducible exfalso); omega) | cbv)
  all_goals first
    | exact ⟨false, ⟨(fun e => by cases e), (fun e => by exfalso; omega)⟩, rfl⟩
    | (have hq := WS.bit hw (by assumption) (by assumption) (by assumption) (by assumption)
       rcases hq with ⟨q1, q2⟩ | ⟨q1, q2⟩
       · first
           | exact ⟨true, ⟨fun _ => ⟨by omega, by omega, q2⟩, fun _ => rfl⟩, rfl⟩
           | (exfalso; omega)
       · first
           | exact ⟨false, ⟨(fun e => by cases e), fun e => by (have e2 := e.2.2; rw [q2] at e2; cases e2)⟩, rfl⟩
           | (exfalso; omega))
theorem hasT {w s i : Int} {A B : AV} {m : Mem} {c k : Nat} {rw : Bool} {K : AV → Mem → Nat → Prop} (hw : WS w s) (hA : norm A = .ptr k 2 0 0) (hB : norm B = .int .i64 i) (hm : m.get k = some (WB w s rw))
    (h1 : 0 ≤ i → i < s → tb w i.toNat = true → K (.bool true) m c) (h2 : ¬ (0 ≤ i ∧ i < s ∧ tb w i.toNat = true) → K (.bool false) m c) : CallT (fun _ => Tryd.prog) 18 [A, B] m c K := by
  refine CallT.ofFlat (R0 := fun v => ∃ r, (r = true ↔ (0 ≤ i ∧ i < s ∧ tb w i.toNat = true)) ∧ v = .bool r) (CallS.view [⟨k, 0, none, 2⟩] (vs0 := [.sym (.ptr 0 2 0 0), .sym (.int .i64 i)]) (bs := [some (WB w s false)]) (Nat.le_refl 1) ⟨ArgV.ptr (j := 0) hA rfl, ArgV.int hB, trivial⟩ (fun i' b hb => ?_) ?_) ?_
  · match i' with
    | 0 => simp only [List.getElem?_cons_zero, Option.some.injEq] at hb; subst hb; exact ⟨_, _, rfl, rfl, ⟨rw, _, hm, WB.flat _ _, .inl rfl, fun i row0 hi => ⟨row0, by rw [Nat.zero_add]; exact hi, rfl⟩⟩⟩
    | i' + 1 => simp at hb
  · exact CallS.normA (by rfl) (hasC w s i hw)
  · rintro v ⟨r, hr, rfl⟩
    refine ⟨.bool r, rfl, ?_⟩
    cases r with
    | true => have := hr.1 rfl; exact h1 this.1 this.2.1 this.2.2
    | false => exact h2 fun e => by have := hr.2 e; cases this

set_option maxRecDepth 100000 in
set_option maxHeartbeats 4000000 in
theorem nextC (w s i : Int) (hw : WS w s) :
    CallS Tryd.prog 16 [.ptr 0 2 0 0, .sym (.int .i64 i)] (memB [some (WB w s false)] []) 1 fun v m' c' => v.flat = true ∧ ∃ p b, (b = false ∧ p = 0 ∧ (∀ j, j < s.toNat → tb w j = false) ∨ b = true ∧ NX (tb w) s.toNat i p) ∧ Go.Ab.full v = .tuple [.sym (.int .i64 p), .bool b] := by
  have hs1 := hw.s1; have hs2 := hw.s2
  refine CallS.enter X Tryd.func16 (by decide) ?_
  cbv
  repeat' first
    | ((with_reducible apply CallT.enter X Tryd.func24 (by decide)); cbv)
    | ((with_reducible apply tzT rfl (by assumption)); (with_reducible intro t ht); cbv)
    | ((with_reducible apply tzT rfl hw.u); (with_reducible intro t ht); cbv)
    | ((with_reducible intro v hv); (try (have hb := WS.above hw (by assumption) (by assumption) (by assumption) hv; have hbu := hb.1)); (try rw [wrap_i64] at hv); cbv)
    | ((with_reducible apply uAnd); (focus first | kernel_rfl | omega); try cbv)
    | ((with_reducible apply And.intro) <;> (with_reducible intro h) <;> first | ((with_reducible exfalso); omega) | cbv)
  all_goals first
    | exact ⟨0, false, .inl ⟨rfl, rfl, hw.none.1 (by assumption)⟩, rfl⟩
    | exact ⟨_, true, .inr ⟨rfl, WS.next2 hw (by assumption) ht (.inl (by assumption))⟩, rfl⟩
    | exact ⟨_, true, .inr ⟨rfl, WS.next2 hw (by assumption) ht (.inr (WS.high hw (by assumption)))⟩, rfl⟩
    | exact ⟨_, true, .inr ⟨rfl, WS.next2 hw (by assumption) ht (.inr (above_none (by assumption) hb (by assumption)))⟩, rfl⟩
    | (have e3 := (tzN_low hbu (by assumption)).1
       refine ⟨_, true, .inr ⟨rfl, WS.next1 (t := t) hw (by assumption) (by assumption) hb (by assumption) ht ?_⟩, rfl⟩
       omega)
theorem nextT {w s i : Int} {A B : AV} {m : Mem} {c k : Nat} {rw : Bool} {K : AV → Mem → Nat → Prop} (hw : WS w s) (hA : norm A = .ptr k 2 0 0) (hB : norm B = .int .i64 i) (hm : m.get k = some (WB w s rw))
    (h1 : (∀ j, j < s.toNat → tb w j = false) → K (.tuple [.sym (.int .i64 0), .bool false]) m c) (h2 : ∀ p, NX (tb w) s.toNat i p → K (.tuple [.sym (.int .i64 p), .bool true]) m c) : CallT (fun _ => Tryd.prog) 16 [A, B] m c K := by
  refine CallT.ofFlat (R0 := fun v => ∃ p b, (b = false ∧ p = 0 ∧ (∀ j, j < s.toNat → tb w j = false) ∨ b = true ∧ NX (tb w) s.toNat i p) ∧ v = .tuple [.sym (.int .i64 p), .bool b]) (CallS.view [⟨k, 0, none, 2⟩] (vs0 := [.sym (.ptr 0 2 0 0), .sym (.int .i64 i)]) (bs := [some (WB w s false)]) (Nat.le_refl 1) ⟨ArgV.ptr (j := 0) hA rfl, ArgV.int hB, trivial⟩ (fun i' b hb => ?_) ?_) ?_
  · match i' with
    | 0 => simp only [List.getElem?_cons_zero, Option.some.injEq] at hb; subst hb; exact ⟨_, _, rfl, rfl, ⟨rw, _, hm, WB.flat _ _, .inl rfl, fun i row0 hi => ⟨row0, by rw [Nat.zero_add]; exact hi, rfl⟩⟩⟩
    | i' + 1 => simp at hb
  · exact CallS.normA (by rfl) (nextC w s i hw)
  · rintro v ⟨p, b, hb, rfl⟩
    refine ⟨.tuple [.sym (.int .i64 p), .bool b], rfl, ?_⟩
    rcases hb with ⟨rfl, rfl, hn⟩ | ⟨rfl, hn⟩
    · exact h1 hn
    · exact h2 p hn

set_option maxRecDepth 100000 in
set_option maxHeartbeats 4000000 in
theorem allC (w s : Int) (hw : WS w s) :
    CallS Tryd.prog 21 [.ptr 0 2 0 0] (memB [some (WB w s false)] []) 1 fun v m' c' => ∃ sh : Sh, (sh.holds iv (memI (tb w) s.toNat) ∧ Sh.pos sh) ∧ v = sh.av 1 1 ∧ m' = memB [some (WB w s false), sh.blk 1] [] ∧ c' = 2 := by
  refine CallS.ends rfl ?_
  refine CallS.enter X Tryd.func21 (by decide) ?_
  cbv
  with_reducible
   refine LoopT.invR X (α := Int × Sh) 23 [] (fun s => (oI (s.at 4), s.sh 3)) (fun s => [s.nm 3 0])
    (fun a => [some (.ptr 0 2 0 0), none, none, some (a.2.av 1 1), some (.sym (.int .u64 a.1))])
    (fun a => [some (.cells false 2 [[.sym (.int .u64 w), .sym (.int .i64 s)]]), a.2.blk 1])
    (fun a => ∃ b, AllI w a.1 b ∧ a.2.holds iv (memI (tb w) b) ∧ Sh.pos a.2) (fun a => a.1.toNat) ?_ ?_
  · cbv
    refine And.intro (HoldAt.mk ?_) (Head.mk ?_ ?_ ?_ ?_ ?_ ?_)
    · exact ⟨0, AllI.start hw.u, rfl, trivial⟩
    all_goals cbv
    exact ⟨BlkLe.flat (fun h => h) (WB.flat _ _), trivial⟩
  · rintro ⟨v0, sh⟩ ⟨b, hI, hsh, hpos⟩
    dsimp only at hI hsh hpos
    have hb1 := hI.b1
    have hlen := memI_len (tb w) b
    have hu0 := hI.u
    cases sh with
    | nil =>
      have hb0 : memI (tb w) b = [] := hsh
      cbv
      repeat' first
        | with_reducible exact trivial
        | ((with_reducible apply tzT rfl hu0); (with_reducible intro t ht); cbv)
        | ((with_reducible intro v hv); cbv)
        | ((with_reducible apply uAnd); (focus first | kernel_rfl | omega); try cbv)
        | ((with_reducible apply And.intro) <;> (with_reducible intro h) <;> first | ((with_reducible exfalso); omega) | cbv)
      all_goals first
        | (obtain ⟨b', q1, q2, q3⟩ := hI.step (by assumption) (by assumption) hv ht
           refine And.intro (And.intro (HoldAt.mk ?_) True.intro) (Head.mk ?_ ?_ ?_ ?_ ?_ ?_)
           · dsimp only
             refine ⟨⟨b', q1, ?_, Nat.le_refl 1⟩, q3⟩
             rw [q2, hb0]
             exact Holds.one rfl rfl
           all_goals cbv
           exact ⟨BlkLe.flat (fun h => h) (WB.flat _ _), BlkLe.flat (fun h => h) (by simp [AV.flatL, AV.flat]), trivial⟩)
        | (refine ⟨[5], [], .nilslice, [some (WB w s false), none], ?_, .nil, ⟨?_, trivial⟩, rfl, rfl, rfl⟩
           · refine Head.mk rfl rfl ?_ ?_ rfl ?_
             all_goals cbv
             exact ⟨BlkLe.flat (fun h => h) (WB.flat _ _), trivial⟩
           · rw [← hI.done hw (by assumption)]; exact hb0)
    | sl L cap rows2 =>
      have hold : Holds iv (memI (tb w) b) L cap rows2 := hsh
      have hL0 := hold.len; have hL1 := hold.full; have hL2 := hold.le
      cbv
      repeat' first
        | with_reducible exact trivial
        | ((with_reducible apply tzT rfl hu0); (with_reducible intro t ht); cbv)
        | ((with_reducible intro L' rows' hL hr'); (simp only [List.length_cons, List.length_nil, Nat.zero_add] at hL); cbv)
        | ((with_reducible intro v hv); cbv)
        | ((with_reducible apply uAnd); (focus first | kernel_rfl | omega | (refine And.intro ?_ (And.intro ?_ (Or.inl rfl)) <;> omega) | (simp only [List.length_cons, List.length_nil]; omega)); try cbv)
        | ((with_reducible apply And.intro) <;> (with_reducible intro h) <;> (try simp only [List.length_cons, List.length_nil, Nat.zero_add] at h) <;> first | ((with_reducible exfalso); omega) | ((with_reducible exfalso); simp at h; done) | cbv)
      all_goals first
        | (obtain ⟨b', q1, q2, q3⟩ := hI.step (by assumption) (by assumption) hv ht
           first
             | have hh := hold.inPlace (x := t) (by rfl) (by assumption) hL hr'
             | have hh := hold.anew (x := t) (by rfl) hL hr'
           refine And.intro (And.intro (HoldAt.mk ?_) True.intro) (Head.mk ?_ ?_ ?_ ?_ ?_ ?_)
           · dsimp only
             refine ⟨⟨b', q1, ?_, (show 1 ≤ L' by omega)⟩, q3⟩
             rw [q2]
             exact hh
           all_goals cbv
           exact ⟨BlkLe.flat (fun h => h) (WB.flat _ _), BlkLe.flat (fun h => h) hh.flat, trivial⟩)
        | (rw [hI.done hw (by assumption)] at hold
           refine ⟨[1], [], .sym (.slice 1 1 0 L cap true none), [some (WB w s false), some (.cells true 1 rows2)], ?_, .sl L cap rows2, ⟨hold, hpos⟩, rfl, rfl, rfl⟩
           refine Head.mk rfl rfl ?_ ?_ rfl ?_
           all_goals cbv
           exact ⟨BlkLe.flat (fun h => h) (WB.flat _ _), BlkLe.flat (fun h => h) hold.flat, trivial⟩)
theorem allT {w s : Int} {A : AV} {m : Mem} {c k : Nat} {rw : Bool} {K : AV → Mem → Nat → Prop} (hw : WS w s) (hA : norm A = .ptr k 2 0 0) (hm : m.get k = some (WB w s rw)) (hk : k < c)
    (h1 : memI (tb w) s.toNat = [] → K .nilslice m (c + 1))
    (h2 : ∀ L cap rows', Holds iv (memI (tb w) s.toNat) L cap rows' → 1 ≤ L → K (.sym (.slice c 1 0 L cap true none)) (m.new c (.cells true 1 rows')) (c + 1)) : CallT (fun _ => Tryd.prog) 21 [A] m c K := by
  refine CallT.frameF [k] (allC w s hw) rfl ?_ ?_ ⟨by simp, by simp; omega⟩ ?_
  · simp only [leL, normL, norm, hA, renOL, renO, List.getElem?_cons_zero, Option.map_some]
  · refine ⟨?_, trivial⟩
    simp only [List.getElem?_cons_zero, hm]
    exact BlkLe.flat (fun e => by cases e) (WB.flat _ _)
  · rintro v m' c' ⟨sh, ⟨hsh, hpos⟩, rfl, rfl, rfl⟩
    cases sh with
    | nil => exact ⟨⟨⟨trivial, trivial⟩, trivial⟩, h1 hsh⟩
    | sl L cap rows' => exact ⟨⟨⟨trivial, trivial⟩, rfl, hsh.flat⟩, h2 L cap rows' hsh hpos⟩
end Go.Proofs.YtkpddpdhpffhbaaDoor.Bit

namespace Go.Proofs.YtkpddpdhpffhbaaDoor.Bit
open Go.Ab Base Kit
set_option linter.unusedVariables false
set_option linter.unusedSimpArgs false

/-- What New takes. -/
def InAll (s : Int) (xs : List Int) : Prop := (1 ≤ s ∧ s ≤ 64) ∧ ∀ x ∈ xs, 0 ≤ x ∧ x < s
def hasB (xs : List Int) (k : Nat) : Bool := xs.any fun x => decide (x.toNat = k)
theorem hasB_snoc (xs : List Int) (x : Int) (k : Nat) : hasB (xs ++ [x]) k = (hasB xs k || decide (x.toNat = k)) := by
  unfold hasB; rw [List.any_append]; simp
structure NewI (s : Int) (xs : List Int) (j : Int) (w : Int) : Prop where
  ws : WS w s
  bit : ∀ k, tb w k = hasB (xs.take j.toNat) k
  all : ∀ x ∈ xs.take j.toNat, 0 ≤ x ∧ x < s
theorem NewI.start {s : Int} (xs : List Int) (h : 1 ≤ s ∧ s ≤ 64) : NewI s xs 0 0 :=
  ⟨⟨by unfold U; omega, h.1, h.2, fun k _ => tb_zero k⟩, fun k => by rw [tb_zero]; rfl, fun x hx => by simp at hx⟩
theorem NewI.step {s j x w w' j' : Int} {xs : List Int} (h : NewI s xs j w) (hx : xs[j.toNat]? = some x) (h0 : 0 ≤ x) (h1 : x < s) (hw : WS w' s) (hb : ∀ k, tb w' k = (tb w k || decide (x.toNat = k))) (hj : j'.toNat = j.toNat + 1) : NewI s xs j' w' := by
  have e : xs.take j'.toNat = xs.take j.toNat ++ [x] := by rw [hj]; exact take_succ_at hx
  refine ⟨hw, fun k => by rw [hb, h.bit, e, hasB_snoc], fun y hy => ?_⟩
  rw [e] at hy
  rcases List.mem_append.1 hy with hy | hy
  · exact h.all y hy
  · simp at hy; subst hy; exact ⟨h0, h1⟩
theorem NewI.done {s j w : Int} {xs : List Int} (h : NewI s xs j w) (hj : xs.length ≤ j.toNat) : InAll s xs ∧ WS w s ∧ ∀ k, tb w k = hasB xs k := by
  obtain ⟨h1, h2, h3⟩ := h
  rw [List.take_of_length_le hj] at h3
  refine ⟨⟨⟨h1.s1, h1.s2⟩, h3⟩, h1, fun k => ?_⟩
  rw [h2, List.take_of_length_le hj]
theorem notAll {s x : Int} {xs : List Int} {j : Nat} (hx : xs[j]? = some x) (h : ¬ (0 ≤ x ∧ x < s)) : ¬ InAll s xs := fun h2 => h (h2.2 x (List.mem_of_getElem? hx))

set_option maxRecDepth 100000 in
set_option maxHeartbeats 4000000 in
theorem newC (s : Int) (xs : List Int) (rows : List (List AV)) (n cap : Nat) (opn : Bool) (hA : Hat iv xs rows n) :
    CallS Tryd.prog 7 [.sym (.int .i64 s), .sym (.slice 0 1 0 n cap opn none)] (memB [some (.cells false 1 rows)] []) 1 fun v m' c' =>
      (InAll s xs ∧ ∃ w, (WS w s ∧ ∀ k, tb w k = hasB xs k) ∧ v = .tuple [.ptr 1 2 0 0, .int .i64 0] ∧ m' = memB [some (.cells false 1 rows), some (WB w s true)] [] ∧ c' = 2) ∨
      (¬ InAll s xs ∧ v = .tuple [.nilptr, .int .i64 300] ∧ m' = memB [some (.cells false 1 rows)] [] ∧ c' = 1) := by
  obtain ⟨hna, hza, hfa, hra⟩ := hA
  refine CallS.ends rfl ?_
  refine CallS.enter X Tryd.func7 (by decide) ?_
  cbv
  repeat' first
    | ((with_reducible intro v hv); cbv)
    | ((with_reducible apply uAnd); (focus first | kernel_rfl | omega); try cbv)
    | ((with_reducible apply And.intro) <;> (with_reducible intro h) <;> first | ((with_reducible exfalso); omega) | cbv)
  rotate_right
  · with_reducible
     refine LoopT.invR X (α := Int × Int) 30 [] (fun s => (oI (s.at 20), oI (s.cell (oP (s.at 6)) 0 0))) (fun s => [oP (s.at 6)])
      (fun a => [none, none, none, none, none, none, some (.ptr 1 2 0 0), none, none, none, none, none, none, none, none, none, none, none, some (.sym (.slice 0 1 0 n cap opn none)), some (.sym (.int .i64 v)), some (.sym (.int .i64 a.1))])
      (fun a => [some (.cells false 1 rows), some (.cells true 2 [[.sym (.int .u64 a.2), .sym (.int .i64 s)]])])
      (fun a => 0 ≤ a.1 ∧ a.1.toNat ≤ n ∧ NewI s xs a.1 a.2) (fun a => n - a.1.toNat) ?_ ?_
    · cbv
      refine And.intro (HoldAt.mk ?_) (Head.mk ?_ ?_ ?_ ?_ ?_ ?_)
      · exact ⟨by decide, by simp, NewI.start xs ⟨by omega, by omega⟩⟩
      all_goals cbv
      exact ⟨BlkLe.flat (fun h => h) hfa, BlkLe.cells (fun h => h) (RowsLe.cons rfl RowsLe.nil), trivial⟩
    · rintro ⟨j, w⟩ ⟨j1, j2, hI⟩
      dsimp only at j1 j2 hI
      cbv
      repeat' first
        | with_reducible exact trivial
        | ((with_reducible apply putT hI.ws); (focus rfl); (focus rfl); (focus rfl); (focus decide); all_goals first
            | ((with_reducible intro p1 p2 w' hw' hb'); cbv)
            | ((with_reducible intro hbad); cbv))
        | ((with_reducible apply ld hra); (focus omega); intro x hx; rw [show v0 = j.toNat by omega] at hx; cbv)
        | ((with_reducible intro v0 hv0); (try rw [wrap_i64] at hv0); cbv)
        | ((with_reducible apply uAnd); (focus first | omega | kernel_rfl); try cbv)
        | ((with_reducible apply And.intro) <;> (with_reducible intro h) <;> first | ((with_reducible exfalso); omega) | cbv)
      all_goals first
        | (refine And.intro (And.intro (HoldAt.mk ?_) True.intro) (Head.mk ?_ ?_ ?_ ?_ ?_ ?_)
           · exact ⟨⟨by omega, by omega, hI.step hx p1 p2 hw' hb' (by omega)⟩, by omega⟩
           all_goals cbv
           exact ⟨BlkLe.flat (fun h => h) hfa, BlkLe.flat (fun h => h) (WB.flat _ _), trivial⟩)
        | (refine ⟨[], [], .tuple [.nilptr, .int .i64 300], [some (.cells false 1 rows)], ?_, .inr ⟨notAll hx hbad, rfl, rfl, rfl⟩⟩
           refine Head.mk rfl rfl ?_ ?_ rfl ?_
           all_goals cbv
           exact ⟨BlkLe.flat (fun h => h) hfa, trivial⟩)
        | (obtain ⟨d1, d2⟩ := hI.done (by omega)
           refine ⟨[1], [], .tuple [.ptr 1 2 0 0, .int .i64 0], [some (.cells false 1 rows), some (WB w s true)], ?_, .inl ⟨d1, w, d2, rfl, rfl, rfl⟩⟩
           refine Head.mk rfl rfl ?_ ?_ rfl ?_
           all_goals cbv
           exact ⟨BlkLe.flat (fun h => h) hfa, BlkLe.flat (fun h => h) (WB.flat _ _), trivial⟩)
  all_goals
    refine ⟨[], [], .tuple [.nilptr, .int .i64 300], [some (.cells false 1 rows)], ?_, .inr ⟨fun h2 => by have := h2.1; omega, rfl, rfl, rfl⟩⟩
    refine Head.mk rfl rfl ?_ ?_ rfl ?_
    all_goals cbv
    exact ⟨BlkLe.flat (fun h => h) hfa, trivial⟩
theorem newT {s : Int} {xs : List Int} {A S : AV} {m : Mem} {c k n cap : Nat} {opn rw : Bool} {rows : List (List AV)} {K : AV → Mem → Nat → Prop} (hA : norm A = .int .i64 s) (hS : norm S = .slice k 1 0 n cap opn none) (hk : m.get k = some (.cells rw 1 rows)) (hH : Hat iv xs rows n) (hkc : k < c)
    (h1 : InAll s xs → ∀ w, WS w s → (∀ k, tb w k = hasB xs k) → K (.tuple [.ptr c 2 0 0, .int .i64 0]) (m.new c (WB w s true)) (c + 1))
    (h2 : ¬ InAll s xs → K (.tuple [.nilptr, .int .i64 300]) m c) : CallT (fun _ => Tryd.prog) 7 [A, S] m c K := by
  refine CallT.frameF [k] (newC s xs rows n cap opn hH) rfl ?_ ?_ ⟨by simp, by simp; omega⟩ ?_
  · simp only [leL, normL, norm, hA, hS, renOL, renO, List.getElem?_cons_zero, Option.map_some]
  · refine ⟨?_, trivial⟩
    simp only [List.getElem?_cons_zero, hk]
    exact BlkLe.flat (fun e => by cases e) hH.2.2.1
  · rintro v m' c' (⟨hi, w, ⟨hw, hb⟩, rfl, rfl, rfl⟩ | ⟨hi, rfl, rfl, rfl⟩)
    · exact ⟨⟨⟨trivial, trivial⟩, rfl, WB.flat _ _⟩, h1 hi w hw hb⟩
    · exact ⟨⟨trivial, trivial⟩, h2 hi⟩

set_option maxRecDepth 100000 in
set_option maxHeartbeats 4000000 in
theorem newNilC (s : Int) :
    CallS Tryd.prog 7 [.sym (.int .i64 s), .nilslice] (memB [] []) 0 fun v m' c' =>
      ((1 ≤ s ∧ s ≤ 64) ∧ v = .tuple [.ptr 0 2 0 0, .int .i64 0] ∧ m' = memB [some (WB 0 s true)] [] ∧ c' = 1) ∨
      (¬ (1 ≤ s ∧ s ≤ 64) ∧ v = .tuple [.nilptr, .int .i64 300] ∧ m' = memB [] [] ∧ c' = 0) := by
  refine CallS.ends rfl ?_
  refine CallS.enter X Tryd.func7 (by decide) ?_
  cbv
  repeat' first
    | ((with_reducible intro v hv); cbv)
    | ((with_reducible apply uAnd); (focus first | kernel_rfl | omega); try cbv)
    | ((with_reducible apply And.intro) <;> (with_reducible intro h) <;> first | ((with_reducible exfalso); omega) | cbv)
    | ((with_reducible apply LoopT.one X); cbv)
  all_goals first
    | (refine ⟨[], [], .tuple [.nilptr, .int .i64 300], [], ?_, .inr ⟨by omega, rfl, rfl, rfl⟩⟩
       refine Head.mk rfl rfl ?_ ?_ rfl ?_
       all_goals cbv
       done)
    | (refine ⟨[10], [], .tuple [.ptr 0 2 0 0, .int .i64 0], [some (WB 0 s true)], ?_, .inl ⟨⟨by omega, by omega⟩, rfl, rfl, rfl⟩⟩
       refine Head.mk rfl rfl ?_ ?_ rfl ?_
       all_goals cbv
       exact ⟨BlkLe.cells (fun h => h) (RowsLe.cons rfl RowsLe.nil), trivial⟩)
theorem newNilT {s : Int} {A S : AV} {m : Mem} {c : Nat} {K : AV → Mem → Nat → Prop} (hA : norm A = .int .i64 s) (hS : norm S = .nilslice)
    (h1 : 1 ≤ s ∧ s ≤ 64 → ∀ w, WS w s → (∀ k, tb w k = hasB [] k) → K (.tuple [.ptr c 2 0 0, .int .i64 0]) (m.new c (WB w s true)) (c + 1))
    (h2 : ¬ (1 ≤ s ∧ s ≤ 64) → K (.tuple [.nilptr, .int .i64 300]) m c) : CallT (fun _ => Tryd.prog) 7 [A, S] m c K := by
  refine CallT.frameF [] (newNilC s) rfl ?_ trivial ⟨by simp, by simp⟩ ?_
  · simp only [leL, normL, norm, hA, hS, renOL, renO]
  · rintro v m' c' (⟨hb, rfl, rfl, rfl⟩ | ⟨hb, rfl, rfl, rfl⟩)
    · exact ⟨⟨trivial, rfl, WB.flat _ _⟩, h1 hb 0 (NewI.start [] hb).ws fun k => by rw [tb_zero]; rfl⟩
    · exact ⟨trivial, h2 hb⟩
end Go.Proofs.YtkpddpdhpffhbaaDoor.Bit

namespace Go.Proofs.YtkpddpdhpffhbaaDoor.Bit
open Go.Ab Base Kit
set_option linter.unusedVariables false
set_option linter.unusedSimpArgs false

/-- A reference's row. -/
structure BR (rows : List (List AV)) (R : List AV) (f : Nat → Bool) (s : Int) : Prop where
  row : rows[0]? = some R
  one : rows.length = 1
  len : R.length = 65
  arr : ∀ j, 1 ≤ j → j < 65 → R[j]? = some (.bool (f (j - 1)))
  size : R[0]? = some (.sym (.int .i64 s))
  flat : AV.flatL R = true
  s1 : 1 ≤ s
  s2 : s ≤ 64
section
variable {rows rows' : List (List AV)} {R R' : List AV} {f g : Nat → Bool} {s : Int}
theorem BR.flats (h : BR rows R f s) : ∀ row ∈ rows, AV.flatL row = true := one_flat h.row h.one h.flat
theorem BR.congr (h : BR rows R f s) (e : ∀ k, k < 64 → f k = g k) : BR rows R g s :=
  ⟨h.row, h.one, h.len, fun j h1 h2 => by rw [h.arr j h1 h2, e _ (by omega)], h.size, h.flat, h.s1, h.s2⟩
theorem BR.setArr (h : BR rows R f s) {j : Nat} {b : Bool} (h1 : 1 ≤ j) (h2 : j < 65) (h0 : rows'[0]? = some R') (e : R' = R.set j (.bool b)) (hl : rows'.length = rows.length) : BR rows' R' (fun k => if k = j - 1 then b else f k) s := by
  subst e
  refine ⟨h0, by rw [hl, h.one], by rw [List.length_set, h.len], fun i i1 i2 => ?_, ?_, set_flat h.flat rfl, h.s1, h.s2⟩
  · by_cases e : i = j
    · subst e; rw [set_same (by rw [h.len]; omega), if_pos rfl]
    · rw [set_other (fun k => e k.symm), h.arr i i1 i2, if_neg (by omega)]
  · rw [set_other (by omega), h.size]
end
/-- A truth value that is read. -/
theorem ldRB {p : Unit → Program} {t : TypeId} {rows : List (List AV)} {j f : Nat} {R : List AV} {b : Bool} {K : AV → Prop} (h0 : rows[j]? = some R) (ha : isAggT (p ()) t = some false) (hv : R[f]? = some (.bool b)) (h1 : b = true → K (.bool true)) (h2 : b = false → K (.bool false)) : ∃ row, rows[j]? = some row ∧ vRead p t row f K :=
  ldR h0 ha hv (by cases b; exact h2 rfl; exact h1 rfl)

set_option maxRecDepth 100000 in
set_option maxHeartbeats 4000000 in
theorem rputC (rows : List (List AV)) (R : List AV) (f : Nat → Bool) (s i : Int) (hR : BR rows R f s) :
    CallS Tryd.prog 13 [.sym (.ptr 0 65 0 0), .sym (.int .i64 i)] (memB [some (.cells true 65 rows)] []) 1 fun v m' c' => ∃ rows' R' f' e, BR rows' R' f' s ∧ ((0 ≤ i ∧ i < s) ∧ e = 0 ∧ (∀ k, f' k = (f k || decide (i.toNat = k))) ∨ ¬ (0 ≤ i ∧ i < s) ∧ e = 300 ∧ f' = f) ∧
      v = .int .i64 e ∧ m' = memB [some (.cells true 65 rows')] [0] ∧ c' = 1 := by
  have hs1 := hR.s1; have hs2 := hR.s2
  refine CallS.ends rfl ?_
  refine CallS.enter X Tryd.func13 (by decide) ?_
  cbv
  with_reducible apply CallT.enter X Tryd.func25 (by decide)
  cbv
  repeat' first
    | ((with_reducible apply ldR hR.row); (focus rfl); (focus exact hR.size); cbv)
    | ((with_reducible apply stR hR.row); (focus rfl); (focus rfl); (focus (rw [hR.len]; omega)); (intro rows' R' h0 he hl); (have hB := hR.setArr (by omega) (by omega) h0 he hl); cbv)
    | ((with_reducible apply symF); (focus rfl); cbv)
    | ((with_reducible intro v hv); cbv)
    | ((with_reducible apply uAnd); (focus first | kernel_rfl | omega); try cbv)
    | ((with_reducible apply And.intro) <;> (with_reducible intro h) <;> first | ((with_reducible exfalso); omega) | cbv)
  all_goals first
    | (refine ⟨[], [0], .int .i64 0, [some (.cells true 65 rows')], ?_, rows', R', _, 0, hB, .inl ⟨⟨by assumption, by assumption⟩, rfl, fun k => ?_⟩, rfl, rfl, rfl⟩
       · refine Head.mk rfl rfl ?_ ?_ rfl ?_
         all_goals cbv
         exact ⟨BlkLe.flat (fun h => h) hB.flats, trivial⟩
       · rw [show v - 1 = i.toNat by omega]
         cases f k <;> by_cases e : i.toNat = k <;> simp [e] <;> first | omega | (intro h9; exact absurd h9.symm e) | (intro h9; exact e h9.symm))
    | (refine ⟨[], [0], .int .i64 300, [some (.cells true 65 rows)], ?_, rows, R, f, 300, hR, .inr ⟨by omega, rfl, rfl⟩, rfl, rfl, rfl⟩
       refine Head.mk rfl rfl ?_ ?_ rfl ?_
       all_goals cbv
       exact ⟨BlkLe.flat (fun h => h) hR.flats, trivial⟩)
theorem rputT {rows : List (List AV)} {R : List AV} {f : Nat → Bool} {s i : Int} {A B : AV} {m : Mem} {c k : Nat} {K : AV → Mem → Nat → Prop} (hR : BR rows R f s) (hA : norm A = .ptr k 65 0 0) (hB : norm B = .int .i64 i) (hm : m.get k = some (.cells true 65 rows)) (hk : k < c)
    (h1 : 0 ≤ i → i < s → ∀ rows' R' f', BR rows' R' f' s → (∀ k, f' k = (f k || decide (i.toNat = k))) → K (.int .i64 0) (m.write k (some (.cells true 65 rows'))) c)
    (h2 : ¬ (0 ≤ i ∧ i < s) → ∀ rows' R', BR rows' R' f s → K (.int .i64 300) (m.write k (some (.cells true 65 rows'))) c) : CallT (fun _ => Tryd.prog) 13 [A, B] m c K := by
  refine CallT.frameF [k] (rputC rows R f s i hR) rfl ?_ ?_ ⟨by simp, by simp; omega⟩ ?_
  · simp only [leL, normL, norm, hA, hB, renOL, renO, List.getElem?_cons_zero, Option.map_some]
  · refine ⟨?_, trivial⟩
    simp only [List.getElem?_cons_zero, hm]
    exact BlkLe.flat (fun e => e) hR.flats
  · rintro v m' c' ⟨rows', R', f', e, hR', hb, rfl, rfl, rfl⟩
    refine ⟨⟨trivial, hR'.flats⟩, ?_⟩
    rcases hb with ⟨⟨a1, a2⟩, rfl, a3⟩ | ⟨a1, rfl, rfl⟩
    · exact h1 a1 a2 rows' R' f' hR' a3
    · exact h2 a1 rows' R' hR'

set_option maxRecDepth 100000 in
set_option maxHeartbeats 4000000 in
theorem rdropC (rows : List (List AV)) (R : List AV) (f : Nat → Bool) (s i : Int) (hR : BR rows R f s) :
    CallS Tryd.prog 15 [.sym (.ptr 0 65 0 0), .sym (.int .i64 i)] (memB [some (.cells true 65 rows)] []) 1 fun v m' c' => ∃ rows' R' f' e, BR rows' R' f' s ∧ ((0 ≤ i ∧ i < s) ∧ e = 0 ∧ (∀ k, f' k = (f k && !decide (i.toNat = k))) ∨ ¬ (0 ≤ i ∧ i < s) ∧ e = 300 ∧ f' = f) ∧
      v = .int .i64 e ∧ m' = memB [some (.cells true 65 rows')] [0] ∧ c' = 1 := by
  have hs1 := hR.s1; have hs2 := hR.s2
  refine CallS.ends rfl ?_
  refine CallS.enter X Tryd.func15 (by decide) ?_
  cbv
  with_reducible apply CallT.enter X Tryd.func25 (by decide)
  cbv
  repeat' first
    | ((with_reducible apply ldR hR.row); (focus rfl); (focus exact hR.size); cbv)
    | ((with_reducible apply stR hR.row); (focus rfl); (focus rfl); (focus (rw [hR.len]; omega)); (intro rows' R' h0 he hl); (have hB := hR.setArr (by omega) (by omega) h0 he hl); cbv)
    | ((with_reducible apply symF); (focus rfl); cbv)
    | ((with_reducible intro v hv); cbv)
    | ((with_reducible apply uAnd); (focus first | kernel_rfl | omega); try cbv)
    | ((with_reducible apply And.intro) <;> (with_reducible intro h) <;> first | ((with_reducible exfalso); omega) | cbv)
  all_goals first
    | (refine ⟨[], [0], .int .i64 0, [some (.cells true 65 rows')], ?_, rows', R', _, 0, hB, .inl ⟨⟨by assumption, by assumption⟩, rfl, fun k => ?_⟩, rfl, rfl, rfl⟩
       · refine Head.mk rfl rfl ?_ ?_ rfl ?_
         all_goals cbv
         exact ⟨BlkLe.flat (fun h => h) hB.flats, trivial⟩
       · rw [show v - 1 = i.toNat by omega]
         cases f k <;> by_cases e : i.toNat = k <;> simp [e] <;> first | omega | (intro h9; exact absurd h9.symm e) | (intro h9; exact e h9.symm))
    | (refine ⟨[], [0], .int .i64 300, [some (.cells true 65 rows)], ?_, rows, R, f, 300, hR, .inr ⟨by omega, rfl, rfl⟩, rfl, rfl, rfl⟩
       refine Head.mk rfl rfl ?_ ?_ rfl ?_
       all_goals cbv
       exact ⟨BlkLe.flat (fun h => h) hR.flats, trivial⟩)
theorem rdropT {rows : List (List AV)} {R : List AV} {f : Nat → Bool} {s i : Int} {A B : AV} {m : Mem} {c k : Nat} {K : AV → Mem → Nat → Prop} (hR : BR rows R f s) (hA : norm A = .ptr k 65 0 0) (hB : norm B = .int .i64 i) (hm : m.get k = some (.cells true 65 rows)) (hk : k < c)
    (h1 : 0 ≤ i → i < s → ∀ rows' R' f', BR rows' R' f' s → (∀ k, f' k = (f k && !decide (i.toNat = k))) → K (.int .i64 0) (m.write k (some (.cells true 65 rows'))) c)
    (h2 : ¬ (0 ≤ i ∧ i < s) → ∀ rows' R', BR rows' R' f s → K (.int .i64 300) (m.write k (some (.cells true 65 rows'))) c) : CallT (fun _ => Tryd.prog) 15 [A, B] m c K := by
  refine CallT.frameF [k] (rdropC rows R f s i hR) rfl ?_ ?_ ⟨by simp, by simp; omega⟩ ?_
  · simp only [leL, normL, norm, hA, hB, renOL, renO, List.getElem?_cons_zero, Option.map_some]
  · refine ⟨?_, trivial⟩
    simp only [List.getElem?_cons_zero, hm]
    exact BlkLe.flat (fun e => e) hR.flats
  · rintro v m' c' ⟨rows', R', f', e, hR', hb, rfl, rfl, rfl⟩
    refine ⟨⟨trivial, hR'.flats⟩, ?_⟩
    rcases hb with ⟨⟨a1, a2⟩, rfl, a3⟩ | ⟨a1, rfl, rfl⟩
    · exact h1 a1 a2 rows' R' f' hR' a3
    · exact h2 a1 rows' R' hR'

set_option maxRecDepth 100000 in
set_option maxHeartbeats 4000000 in
theorem rhasC (rows : List (List AV)) (R : List AV) (f : Nat → Bool) (s i : Int) (hR : BR rows R f s) :
    CallS Tryd.prog 19 [.sym (.ptr 0 65 0 0), .sym (.int .i64 i)] (memB [some (.cells false 65 rows)] []) 1 fun v m' c' => v.flat = true ∧ ∃ r, (r = true ↔ (0 ≤ i ∧ i < s ∧ f i.toNat = true)) ∧ Go.Ab.full v = .bool r := by
  have hs1 := hR.s1; have hs2 := hR.s2
  refine CallS.enter X Tryd.func19 (by decide) ?_
  cbv
  repeat' first
    | ((with_reducible apply ldR hR.row); (focus rfl); (focus exact hR.size); cbv)
    | ((with_reducible apply ldRB hR.row); (focus rfl); (focus exact hR.arr _ (by omega) (by omega)); all_goals ((with_reducible intro hf); cbv))
    | ((with_reducible apply symF); (focus rfl); cbv)
    | ((with_reducible intro v hv); cbv)
    | ((with_reducible apply uAnd); (focus first | kernel_rfl | omega); try cbv)
    | ((with_reducible apply And.intro) <;> (with_reducible intro h) <;> first | ((with_reducible exfalso); omega) | cbv)
  all_goals first
    | exact ⟨false, ⟨(fun e => by cases e), (fun e => by exfalso; omega)⟩, rfl⟩
    | (rw [show v - 1 = i.toNat by omega] at hf
       first
         | exact ⟨true, ⟨(fun _ => ⟨by assumption, by assumption, hf⟩), (fun _ => rfl)⟩, rfl⟩
         | exact ⟨false, ⟨(fun e => by cases e), (fun e => by (have e2 := e.2.2; rw [hf] at e2; cases e2))⟩, rfl⟩)
theorem rhasT {rows : List (List AV)} {R : List AV} {f : Nat → Bool} {s i : Int} {A B : AV} {m : Mem} {c k : Nat} {rw : Bool} {K : AV → Mem → Nat → Prop} (hR : BR rows R f s) (hA : norm A = .ptr k 65 0 0) (hB : norm B = .int .i64 i) (hm : m.get k = some (.cells rw 65 rows))
    (h1 : 0 ≤ i → i < s → f i.toNat = true → K (.bool true) m c) (h2 : ¬ (0 ≤ i ∧ i < s ∧ f i.toNat = true) → K (.bool false) m c) : CallT (fun _ => Tryd.prog) 19 [A, B] m c K := by
  refine CallT.ofFlat (R0 := fun v => ∃ r, (r = true ↔ (0 ≤ i ∧ i < s ∧ f i.toNat = true)) ∧ v = .bool r) (CallS.view [⟨k, 0, none, 65⟩] (vs0 := [.sym (.ptr 0 65 0 0), .sym (.int .i64 i)]) (bs := [some (.cells false 65 rows)]) (Nat.le_refl 1) ⟨ArgV.ptr (j := 0) hA rfl, ArgV.int hB, trivial⟩ (fun i' b hb => ?_) ?_) ?_
  · match i' with
    | 0 => simp only [List.getElem?_cons_zero, Option.some.injEq] at hb; subst hb; exact ⟨_, _, rfl, rfl, ⟨rw, _, hm, hR.flats, .inl rfl, fun i row0 hi => ⟨row0, by rw [Nat.zero_add]; exact hi, rfl⟩⟩⟩
    | i' + 1 => simp at hb
  · exact rhasC rows R f s i hR
  · rintro v ⟨r, hr, rfl⟩
    refine ⟨.bool r, rfl, ?_⟩
    cases r with
    | true => have := hr.1 rfl; exact h1 this.1 this.2.1 this.2.2
    | false => exact h2 fun e => by have := hr.2 e; cases this

set_option maxRecDepth 100000 in
set_option maxHeartbeats 4000000 in
theorem rallC (rows : List (List AV)) (R : List AV) (f : Nat → Bool) (s : Int) (hR : BR rows R f s) :
    CallS Tryd.prog 22 [.sym (.ptr 0 65 0 0)] (memB [some (.cells false 65 rows)] []) 1 fun v m' c' => ∃ sh : Sh, (sh.holds iv (memI f s.toNat) ∧ Sh.pos sh) ∧ v = sh.av 1 1 ∧ m' = memB [some (.cells false 65 rows), sh.blk 1] [] ∧ c' = 2 := by
  have hs1 := hR.s1; have hs2 := hR.s2
  refine CallS.ends rfl ?_
  refine CallS.enter X Tryd.func22 (by decide) ?_
  cbv
  with_reducible
   refine LoopT.invR X (α := Int × Sh) 24 [] (fun s => (oI (s.at 4), s.sh 3)) (fun s => [s.nm 3 0])
    (fun a => [some (.sym (.ptr 0 65 0 0)), none, none, some (a.2.av 1 1), some (.sym (.int .i64 a.1))])
    (fun a => [some (.cells false 65 rows), a.2.blk 1])
    (fun a => (0 ≤ a.1 ∧ a.1 ≤ s) ∧ a.2.holds iv (memI f a.1.toNat) ∧ Sh.pos a.2) (fun a => (s - a.1).toNat) ?_ ?_
  · cbv
    refine And.intro (HoldAt.mk ?_) (Head.mk ?_ ?_ ?_ ?_ ?_ ?_)
    · exact ⟨⟨by omega, by omega⟩, rfl, trivial⟩
    all_goals cbv
    exact ⟨BlkLe.flat (fun h => h) hR.flats, trivial⟩
  · rintro ⟨j, sh⟩ ⟨⟨j1, j2⟩, hsh, hpos⟩
    dsimp only at j1 j2 hsh hpos
    have hlen := memI_len f j.toNat
    cases sh with
    | nil =>
      have hb0 : memI f j.toNat = [] := hsh
      cbv
      repeat' first
        | with_reducible exact trivial
        | ((with_reducible apply ldR hR.row); (focus rfl); (focus exact hR.size); cbv)
        | ((with_reducible apply ldRB hR.row); (focus rfl); (focus exact hR.arr _ (by omega) (by omega)); all_goals ((with_reducible intro hf); cbv))
        | ((with_reducible apply symF); (focus rfl); cbv)
        | ((with_reducible intro v hv); (try rw [wrap_i64] at hv); cbv)
        | ((with_reducible apply uAnd); (focus first | kernel_rfl | omega); try cbv)
        | ((with_reducible apply And.intro) <;> (with_reducible intro h) <;> first | ((with_reducible exfalso); omega) | cbv)
      all_goals first
        | (refine ⟨[5], [], .nilslice, [some (.cells false 65 rows), none], ?_, .nil, ⟨?_, trivial⟩, rfl, rfl, rfl⟩
           · refine Head.mk rfl rfl ?_ ?_ rfl ?_
             all_goals cbv
             exact ⟨BlkLe.flat (fun h => h) hR.flats, trivial⟩
           · rw [show s.toNat = j.toNat by omega]; exact hb0)
        | (have hf2 : f j.toNat = false := by rw [← hf]; congr 1; omega
           refine And.intro (And.intro (HoldAt.mk ?_) True.intro) (Head.mk ?_ ?_ ?_ ?_ ?_ ?_)
           · dsimp only
             refine ⟨⟨⟨by omega, by omega⟩, ?_, trivial⟩, by omega⟩
             rw [show v.toNat = j.toNat + 1 by omega, memI_no hf2]
             exact hb0
           all_goals cbv
           exact ⟨BlkLe.flat (fun h => h) hR.flats, trivial⟩)
        | (have hf2 : f j.toNat = true := by rw [← hf]; congr 1; omega
           refine And.intro (And.intro (HoldAt.mk ?_) True.intro) (Head.mk ?_ ?_ ?_ ?_ ?_ ?_)
           · dsimp only
             refine ⟨⟨⟨by omega, by omega⟩, ?_, Nat.le_refl 1⟩, by omega⟩
             rw [show v.toNat = j.toNat + 1 by omega, memI_yes hf2, hb0, show Int.ofNat j.toNat = j by simp; omega]
             exact Holds.one rfl rfl
           all_goals cbv
           exact ⟨BlkLe.flat (fun h => h) hR.flats, BlkLe.flat (fun h => h) (by simp [AV.flatL, AV.flat]), trivial⟩)
    | sl L cap rows2 =>
      have hold : Holds iv (memI f j.toNat) L cap rows2 := hsh
      have hL0 := hold.len; have hL1 := hold.full; have hL2 := hold.le
      cbv
      repeat' first
        | with_reducible exact trivial
        | ((with_reducible apply ldR hR.row); (focus rfl); (focus exact hR.size); cbv)
        | ((with_reducible apply ldRB hR.row); (focus rfl); (focus exact hR.arr _ (by omega) (by omega)); all_goals ((with_reducible intro hf); cbv))
        | ((with_reducible apply symF); (focus rfl); cbv)
        | ((with_reducible intro L' rows' hL hr'); (simp only [List.length_cons, List.length_nil, Nat.zero_add] at hL); cbv)
        | ((with_reducible intro v hv); (try rw [wrap_i64] at hv); cbv)
        | ((with_reducible apply uAnd); (focus first | kernel_rfl | omega | (refine And.intro ?_ (And.intro ?_ (Or.inl rfl)) <;> omega) | (simp only [List.length_cons, List.length_nil]; omega)); try cbv)
        | ((with_reducible apply And.intro) <;> (with_reducible intro h) <;> (try simp only [List.length_cons, List.length_nil, Nat.zero_add] at h) <;> first | ((with_reducible exfalso); omega) | ((with_reducible exfalso); simp at h; done) | cbv)
      all_goals first
        | (have hf2 : f j.toNat = true := by rw [← hf]; congr 1; omega
           first
             | have hh := hold.inPlace (x := j) (by rfl) (by assumption) hL hr'
             | have hh := hold.anew (x := j) (by rfl) hL hr'
           refine And.intro (And.intro (HoldAt.mk ?_) True.intro) (Head.mk ?_ ?_ ?_ ?_ ?_ ?_)
           · dsimp only
             refine ⟨⟨⟨by omega, by omega⟩, ?_, (show 1 ≤ L' by omega)⟩, by omega⟩
             rw [show v.toNat = j.toNat + 1 by omega, memI_yes hf2, show Int.ofNat j.toNat = j by simp; omega]
             exact hh
           all_goals cbv
           exact ⟨BlkLe.flat (fun h => h) hR.flats, BlkLe.flat (fun h => h) hh.flat, trivial⟩)
        | (rw [show j.toNat = s.toNat by omega] at hold
           refine ⟨[1], [], .sym (.slice 1 1 0 L cap true none), [some (.cells false 65 rows), some (.cells true 1 rows2)], ?_, .sl L cap rows2, ⟨hold, hpos⟩, rfl, rfl, rfl⟩
           refine Head.mk rfl rfl ?_ ?_ rfl ?_
           all_goals cbv
           exact ⟨BlkLe.flat (fun h => h) hR.flats, BlkLe.flat (fun h => h) hold.flat, trivial⟩)
        | (have hf2 : f j.toNat = false := by rw [← hf]; congr 1; omega
           refine And.intro (And.intro (HoldAt.mk ?_) True.intro) (Head.mk ?_ ?_ ?_ ?_ ?_ ?_)
           · dsimp only
             refine ⟨⟨⟨by omega, by omega⟩, ?_, hpos⟩, by omega⟩
             rw [show v.toNat = j.toNat + 1 by omega, memI_no hf2]
             exact hold
           all_goals cbv
           exact ⟨BlkLe.flat (fun h => h) hR.flats, BlkLe.flat (fun h => h) hold.flat, trivial⟩)
theorem rallT {rows : List (List AV)} {R : List AV} {f : Nat → Bool} {s : Int} {A : AV} {m : Mem} {c k : Nat} {rw : Bool} {K : AV → Mem → Nat → Prop} (hR : BR rows R f s) (hA : norm A = .ptr k 65 0 0) (hm : m.get k = some (.cells rw 65 rows)) (hk : k < c)
    (h1 : memI f s.toNat = [] → K .nilslice m (c + 1))
    (h2 : ∀ L cap rows', Holds iv (memI f s.toNat) L cap rows' → 1 ≤ L → K (.sym (.slice c 1 0 L cap true none)) (m.new c (.cells true 1 rows')) (c + 1)) : CallT (fun _ => Tryd.prog) 22 [A] m c K := by
  refine CallT.frameF [k] (rallC rows R f s hR) rfl ?_ ?_ ⟨by simp, by simp; omega⟩ ?_
  · simp only [leL, normL, norm, hA, renOL, renO, List.getElem?_cons_zero, Option.map_some]
  · refine ⟨?_, trivial⟩
    simp only [List.getElem?_cons_zero, hm]
    exact BlkLe.flat (fun e => by cases e) hR.flats
  · rintro v m' c' ⟨sh, ⟨hsh, hpos⟩, rfl, rfl, rfl⟩
    cases sh with
    | nil => exact ⟨⟨⟨trivial, trivial⟩, trivial⟩, h1 hsh⟩
    | sl L cap rows' => exact ⟨⟨⟨trivial, trivial⟩, rfl, hsh.flat⟩, h2 L cap rows' hsh hpos⟩
end Go.Proofs.YtkpddpdhpffhbaaDoor.Bit

namespace Go.Proofs.YtkpddpdhpffhbaaDoor.Bit
open Go.Ab Base Kit
set_option linter.unusedVariables false
set_option linter.unusedSimpArgs false

theorem memI_sorted (g : Nat → Bool) (b : Nat) : (memI g b).Pairwise (· < ·) := by
  unfold memI
  rw [List.pairwise_map]
  refine List.Pairwise.imp ?_ (List.Pairwise.filter _ List.pairwise_lt_range)
  intro a b h
  exact Int.ofNat_lt.2 h
theorem sorted_at {l : List Int} (h : l.Pairwise (· < ·)) {i j : Nat} {x y : Int} (hi : l[i]? = some x) (hj : l[j]? = some y) (hlt : i < j) : x < y := by
  obtain ⟨h1, e1⟩ := List.getElem?_eq_some_iff.1 hi
  obtain ⟨h2, e2⟩ := List.getElem?_eq_some_iff.1 hj
  have := List.pairwise_iff_getElem.1 h i j h1 h2 hlt
  rw [e1, e2] at this
  exact this
theorem nx_found {g : Nat → Bool} {s : Nat} {i x : Int} {a : Nat} (hx : (memI g s)[a]? = some x) (hi : i < x) (hb : ∀ t, t < a → ∀ y, (memI g s)[t]? = some y → y ≤ i) : NX g s i x := by
  have hm := mem_memI.1 (List.mem_of_getElem? hx)
  refine ⟨hm.1, hm.2.1, hm.2.2, .inl ⟨hi, fun j h1 h2 => ?_⟩⟩
  cases hg : g j with
  | false => rfl
  | true =>
    have : (Int.ofNat j) ∈ memI g s := mem_memI.2 ⟨by simp, by simp; omega, by simpa using hg⟩
    obtain ⟨t, ht⟩ := List.getElem?_of_mem this
    have h2' : (Int.ofNat j) < x := by simp; omega
    rcases Nat.lt_trichotomy t a with h | h | h
    · have := hb t h _ ht; omega
    · subst h; rw [hx] at ht; cases ht; omega
    · have := sorted_at (memI_sorted g s) hx ht h; omega
theorem nx_wrap {g : Nat → Bool} {s : Nat} {i x : Int} (hx : (memI g s)[0]? = some x) (hb : ∀ (t : Nat) (y : Int), (memI g s)[t]? = some y → y ≤ i) : NX g s i x := by
  have hm := mem_memI.1 (List.mem_of_getElem? hx)
  have key : ∀ j : Nat, j < s → g j = true → ∃ t, (memI g s)[t]? = some (Int.ofNat j) := fun j h1 h2 =>
    List.getElem?_of_mem (mem_memI.2 ⟨by simp, by simp; omega, by simpa using h2⟩)
  refine ⟨hm.1, hm.2.1, hm.2.2, .inr ⟨fun j h1 h2 => ?_, fun j h1 => ?_⟩⟩
  · cases hg : g j with
    | false => rfl
    | true =>
      obtain ⟨t, ht⟩ := key j h2 hg
      have := hb t _ ht
      omega
  · cases hg : g j with
    | false => rfl
    | true =>
      obtain ⟨t, ht⟩ := key j (by omega) hg
      have h3 : (Int.ofNat j) < x := by simp; omega
      rcases Nat.eq_zero_or_pos t with h | h
      · subst h; rw [hx] at ht; cases ht; omega
      · have := sorted_at (memI_sorted g s) hx ht h; omega

set_option maxRecDepth 100000 in
set_option maxHeartbeats 4000000 in
theorem rnextC (rows : List (List AV)) (R : List AV) (f : Nat → Bool) (s i : Int) (hR : BR rows R f s) :
    CallS Tryd.prog 17 [.sym (.ptr 0 65 0 0), .sym (.int .i64 i)] (memB [some (.cells false 65 rows)] []) 1 fun v m' c' => v.flat = true ∧ ∃ p b, (b = false ∧ p = 0 ∧ (∀ j, j < s.toNat → f j = false) ∨ b = true ∧ NX f s.toNat i p) ∧ Go.Ab.full v = .tuple [.sym (.int .i64 p), .bool b] := by
  have hs1 := hR.s1; have hs2 := hR.s2
  refine CallS.enter X Tryd.func17 (by decide) ?_
  cbv
  with_reducible apply rallT hR
  focus rfl
  focus rfl
  focus decide
  · with_reducible intro hnil
    have hno := memI_nil.1 hnil
    cbv
    with_reducible apply LoopT.one X
    cbv
    exact ⟨0, false, .inl ⟨rfl, rfl, hno⟩, rfl⟩
  with_reducible intro L cap rows2 hold hLp
  obtain ⟨l, hl⟩ : ∃ l, l = memI f s.toNat := ⟨_, rfl⟩
  rw [← hl] at hold
  have hlen := memI_len f s.toNat
  rw [← hl] at hlen
  have hL0 := hold.len; have hL1 := hold.full; have hL2 := hold.le
  cbv
  with_reducible
   refine LoopT.invR X (α := Int) 32 [] (fun s => oI (s.at 7)) (fun s => [oP (s.at 6)])
    (fun a => [none, some (.sym (.int .i64 i)), none, none, none, none, some (.sym (.slice 1 1 0 L cap true none)), some (.sym (.int .i64 a))])
    (fun a => [some (.cells false 65 rows), some (.cells true 1 rows2)])
    (fun a => (0 ≤ a ∧ a.toNat ≤ L) ∧ ∀ t, t < a.toNat → ∀ y, l[t]? = some y → y ≤ i) (fun a => L - a.toNat) ?_ ?_
  · cbv
    refine And.intro (HoldAt.mk ?_) (Head.mk ?_ ?_ ?_ ?_ ?_ ?_)
    · exact ⟨⟨by decide, by simp⟩, fun t ht => by simp at ht⟩
    all_goals cbv
    exact ⟨BlkLe.flat (fun h => h) hR.flats, BlkLe.flat (fun h => h) hold.flat, trivial⟩
  · rintro j ⟨⟨j1, j2⟩, hI⟩
    cbv
    repeat' first
      | with_reducible exact trivial
      | ((with_reducible apply ld hold.at_); (focus omega); intro x hx; (try rw [show v = j.toNat by omega] at hx); (try (first | (have e := hx.symm.trans hxj; cases e) | have hxj := hx)); cbv)
      | ((with_reducible apply ldAt (by first | exact hold.at_ 0 _ (List.getElem?_eq_getElem (by omega)))); (focus omega); cbv)
      | ((with_reducible intro v hv); (try rw [wrap_i64] at hv); cbv)
      | ((with_reducible apply uAnd); (focus first | omega | kernel_rfl); try cbv)
      | ((with_reducible apply And.intro) <;> (with_reducible intro h) <;> first | ((with_reducible exfalso); omega) | cbv)
    all_goals first
      | (rw [hl] at hxj hI
         exact ⟨_, true, .inr ⟨rfl, nx_found hxj (by assumption) hI⟩, rfl⟩)
      | (refine And.intro (And.intro (HoldAt.mk ?_) True.intro) (Head.mk ?_ ?_ ?_ ?_ ?_ ?_)
         · refine ⟨⟨⟨by omega, by omega⟩, fun t ht y hy => ?_⟩, by omega⟩
           by_cases e : t < j.toNat
           · exact hI t e y hy
           · rw [show t = j.toNat by omega, hxj] at hy
             cases hy; assumption
         all_goals cbv
         exact ⟨BlkLe.flat (fun h => h) hR.flats, BlkLe.flat (fun h => h) hold.flat, trivial⟩)
      | (have hn : memI f s.toNat = [] := by (rw [← hl]; exact List.eq_nil_of_length_eq_zero (by omega))
         exact ⟨0, false, .inl ⟨rfl, rfl, memI_nil.1 hn⟩, rfl⟩)
      | (have hall : ∀ (t : Nat) (y : Int), l[t]? = some y → y ≤ i := fun t y hy => hI t (by have := (List.getElem?_eq_some_iff.1 hy).1; omega) y hy
         rw [hl] at hall hxj
         exact ⟨_, true, .inr ⟨rfl, nx_wrap (by first | exact hxj | (rw [show (0 : Nat) = v by omega]; exact hxj)) hall⟩, rfl⟩)
theorem rnextT {rows : List (List AV)} {R : List AV} {f : Nat → Bool} {s i : Int} {A B : AV} {m : Mem} {c k : Nat} {rw : Bool} {K : AV → Mem → Nat → Prop} (hR : BR rows R f s) (hA : norm A = .ptr k 65 0 0) (hB : norm B = .int .i64 i) (hm : m.get k = some (.cells rw 65 rows))
    (h1 : (∀ j, j < s.toNat → f j = false) → K (.tuple [.sym (.int .i64 0), .bool false]) m c) (h2 : ∀ p, NX f s.toNat i p → K (.tuple [.sym (.int .i64 p), .bool true]) m c) : CallT (fun _ => Tryd.prog) 17 [A, B] m c K := by
  refine CallT.ofFlat (R0 := fun v => ∃ p b, (b = false ∧ p = 0 ∧ (∀ j, j < s.toNat → f j = false) ∨ b = true ∧ NX f s.toNat i p) ∧ v = .tuple [.sym (.int .i64 p), .bool b]) (CallS.view [⟨k, 0, none, 65⟩] (vs0 := [.sym (.ptr 0 65 0 0), .sym (.int .i64 i)]) (bs := [some (.cells false 65 rows)]) (Nat.le_refl 1) ⟨ArgV.ptr (j := 0) hA rfl, ArgV.int hB, trivial⟩ (fun i' b hb => ?_) ?_) ?_
  · match i' with
    | 0 => simp only [List.getElem?_cons_zero, Option.some.injEq] at hb; subst hb; exact ⟨_, _, rfl, rfl, ⟨rw, _, hm, hR.flats, .inl rfl, fun i row0 hi => ⟨row0, by rw [Nat.zero_add]; exact hi, rfl⟩⟩⟩
    | i' + 1 => simp at hb
  · exact rnextC rows R f s i hR
  · rintro v ⟨p, b, hb, rfl⟩
    refine ⟨.tuple [.sym (.int .i64 p), .bool b], rfl, ?_⟩
    rcases hb with ⟨rfl, rfl, hn⟩ | ⟨rfl, hn⟩
    · exact h1 hn
    · exact h2 p hn

theorem newBR (s : Int) (h : 1 ≤ s ∧ s ≤ 64) : BR [.sym (.int .i64 s) :: List.replicate 64 (.bool false)] (.sym (.int .i64 s) :: List.replicate 64 (.bool false)) (fun _ => false) s := by
  refine ⟨rfl, rfl, rfl, fun j h1 h2 => ?_, rfl, rfl, h.1, h.2⟩
  obtain ⟨j, rfl⟩ : ∃ i, j = i + 1 := ⟨j - 1, by omega⟩
  rw [List.getElem?_cons_succ, List.getElem?_replicate, if_pos (by omega)]
structure RNewI (s : Int) (xs : List Int) (j : Int) (rows : List (List AV)) : Prop where
  ex : ∃ R f, BR rows R f s ∧ (∀ k, f k = hasB (xs.take j.toNat) k)
  all : ∀ x ∈ xs.take j.toNat, 0 ≤ x ∧ x < s
set_option maxRecDepth 100000 in
set_option maxHeartbeats 4000000 in
theorem rnewC (s : Int) (xs : List Int) (rows : List (List AV)) (n cap : Nat) (opn : Bool) (hA : Hat iv xs rows n) :
    CallS Tryd.prog 8 [.sym (.int .i64 s), .sym (.slice 0 1 0 n cap opn none)] (memB [some (.cells false 1 rows)] []) 1 fun v m' c' =>
      (InAll s xs ∧ ∃ rowsB R f, (BR rowsB R f s ∧ ∀ k, f k = hasB xs k) ∧ v = .tuple [.ptr 1 65 0 0, .int .i64 0] ∧ m' = memB [some (.cells false 1 rows), some (.cells true 65 rowsB)] [] ∧ c' = 2) ∨
      (¬ InAll s xs ∧ v = .tuple [.nilptr, .int .i64 300] ∧ m' = memB [some (.cells false 1 rows)] [] ∧ c' = 1) := by
  obtain ⟨hna, hza, hfa, hra⟩ := hA
  refine CallS.ends rfl ?_
  refine CallS.enter X Tryd.func8 (by decide) ?_
  cbv
  repeat' first
    | ((with_reducible intro v hv); cbv)
    | ((with_reducible apply uAnd); (focus first | kernel_rfl | omega); try cbv)
    | ((with_reducible apply And.intro) <;> (with_reducible intro h) <;> first | ((with_reducible exfalso); omega) | cbv)
  rotate_right
  · have hs : 1 ≤ s ∧ s ≤ 64 := ⟨by omega, by omega⟩
    with_reducible
     refine LoopT.invR X (α := Int × List (List AV)) 31 [] (fun s => (oI (s.at 7), s.rows (oP (s.at 6)))) (fun s => [oP (s.at 6)])
      (fun a => [none, some (.sym (.slice 0 1 0 n cap opn none)), none, none, none, none, some (.ptr 1 65 0 0), some (.sym (.int .i64 a.1))])
      (fun a => [some (.cells false 1 rows), some (.cells true 65 a.2)])
      (fun a => (0 ≤ a.1 ∧ a.1.toNat ≤ n) ∧ RNewI s xs a.1 a.2) (fun a => n - a.1.toNat) ?_ ?_
    · cbv
      refine And.intro (HoldAt.mk ?_) (Head.mk ?_ ?_ ?_ ?_ ?_ ?_)
      · exact ⟨⟨Int.le_refl 0, Nat.zero_le _⟩, ⟨_, _, newBR s hs, fun k => rfl⟩, fun x hx => by simp at hx⟩
      all_goals cbv
      exact ⟨BlkLe.flat (fun h => h) hfa, BlkLe.flat (fun h => h) (newBR s hs).flats, trivial⟩
    · rintro ⟨j, rowsB⟩ ⟨⟨j1, j2⟩, ⟨⟨R, f, hR, hf⟩, hall⟩⟩
      dsimp only at j1 j2 hR hf hall
      cbv
      repeat' first
        | with_reducible exact trivial
        | ((with_reducible apply rputT hR); (focus rfl); (focus rfl); (focus rfl); (focus decide); all_goals first
            | ((with_reducible intro p1 p2 rowsB' R' f' hR' hf'); cbv)
            | ((with_reducible intro hbad rowsB' R' hR'); cbv))
        | ((with_reducible apply ld hra); (focus omega); intro x hx; rw [show v0 = j.toNat by omega] at hx; cbv)
        | ((with_reducible intro v0 hv0); (try rw [wrap_i64] at hv0); cbv)
        | ((with_reducible apply uAnd); (focus first | omega | kernel_rfl); try cbv)
        | ((with_reducible apply And.intro) <;> (with_reducible intro h) <;> first | ((with_reducible exfalso); omega) | cbv)
      all_goals first
        | (have e : xs.take v0.toNat = xs.take j.toNat ++ [x] := by (rw [show v0.toNat = j.toNat + 1 by omega]; exact take_succ_at hx)
           refine And.intro (And.intro (HoldAt.mk ?_) True.intro) (Head.mk ?_ ?_ ?_ ?_ ?_ ?_)
           · refine ⟨⟨⟨by omega, by omega⟩, ⟨_, _, hR', fun k => ?_⟩, fun y hy => ?_⟩, by omega⟩
             · dsimp only
               rw [hf', hf, e, hasB_snoc]
             · dsimp only at hy
               rw [e] at hy
               rcases List.mem_append.1 hy with hy | hy
               · exact hall y hy
               · simp at hy; subst hy; exact ⟨p1, p2⟩
           all_goals cbv
           exact ⟨BlkLe.flat (fun h => h) hfa, BlkLe.flat (fun h => h) hR'.flats, trivial⟩)
        | (refine ⟨[], [], .tuple [.nilptr, .int .i64 300], [some (.cells false 1 rows)], ?_, .inr ⟨notAll hx hbad, rfl, rfl, rfl⟩⟩
           refine Head.mk rfl rfl ?_ ?_ rfl ?_
           all_goals cbv
           exact ⟨BlkLe.flat (fun h => h) hfa, trivial⟩)
        | (rw [List.take_of_length_le (by omega)] at hf hall
           refine ⟨[1], [], .tuple [.ptr 1 65 0 0, .int .i64 0], [some (.cells false 1 rows), some (.cells true 65 rowsB)], ?_, .inl ⟨⟨hs, hall⟩, rowsB, R, f, ⟨hR, hf⟩, rfl, rfl, rfl⟩⟩
           refine Head.mk rfl rfl ?_ ?_ rfl ?_
           all_goals cbv
           exact ⟨BlkLe.flat (fun h => h) hfa, BlkLe.flat (fun h => h) hR.flats, trivial⟩)
  all_goals
    refine ⟨[], [], .tuple [.nilptr, .int .i64 300], [some (.cells false 1 rows)], ?_, .inr ⟨fun h2 => by have := h2.1; omega, rfl, rfl, rfl⟩⟩
    refine Head.mk rfl rfl ?_ ?_ rfl ?_
    all_goals cbv
    exact ⟨BlkLe.flat (fun h => h) hfa, trivial⟩
theorem rnewT {s : Int} {xs : List Int} {A S : AV} {m : Mem} {c k n cap : Nat} {opn rw : Bool} {rows : List (List AV)} {K : AV → Mem → Nat → Prop} (hA : norm A = .int .i64 s) (hS : norm S = .slice k 1 0 n cap opn none) (hk : m.get k = some (.cells rw 1 rows)) (hH : Hat iv xs rows n) (hkc : k < c)
    (h1 : InAll s xs → ∀ rowsB R f, BR rowsB R f s → (∀ k, f k = hasB xs k) → K (.tuple [.ptr c 65 0 0, .int .i64 0]) (m.new c (.cells true 65 rowsB)) (c + 1))
    (h2 : ¬ InAll s xs → K (.tuple [.nilptr, .int .i64 300]) m c) : CallT (fun _ => Tryd.prog) 8 [A, S] m c K := by
  refine CallT.frameF [k] (rnewC s xs rows n cap opn hH) rfl ?_ ?_ ⟨by simp, by simp; omega⟩ ?_
  · simp only [leL, normL, norm, hA, hS, renOL, renO, List.getElem?_cons_zero, Option.map_some]
  · refine ⟨?_, trivial⟩
    simp only [List.getElem?_cons_zero, hk]
    exact BlkLe.flat (fun e => by cases e) hH.2.2.1
  · rintro v m' c' (⟨hi, rowsB, R, f, ⟨hR, hf⟩, rfl, rfl, rfl⟩ | ⟨hi, rfl, rfl, rfl⟩)
    · exact ⟨⟨⟨trivial, trivial⟩, rfl, hR.flats⟩, h1 hi rowsB R f hR hf⟩
    · exact ⟨⟨trivial, trivial⟩, h2 hi⟩
set_option maxRecDepth 100000 in
set_option maxHeartbeats 4000000 in
theorem rnewNilC (s : Int) :
    CallS Tryd.prog 8 [.sym (.int .i64 s), .nilslice] (memB [] []) 0 fun v m' c' =>
      ((1 ≤ s ∧ s ≤ 64) ∧ v = .tuple [.ptr 0 65 0 0, .int .i64 0] ∧ m' = memB [some (.cells true 65 [.sym (.int .i64 s) :: List.replicate 64 (.bool false)])] [] ∧ c' = 1) ∨
      (¬ (1 ≤ s ∧ s ≤ 64) ∧ v = .tuple [.nilptr, .int .i64 300] ∧ m' = memB [] [] ∧ c' = 0) := by
  refine CallS.ends rfl ?_
  refine CallS.enter X Tryd.func8 (by decide) ?_
  cbv
  repeat' first
    | ((with_reducible intro v hv); cbv)
    | ((with_reducible apply uAnd); (focus first | kernel_rfl | omega); try cbv)
    | ((with_reducible apply And.intro) <;> (with_reducible intro h) <;> first | ((with_reducible exfalso); omega) | cbv)
    | ((with_reducible apply LoopT.one X); cbv)
  all_goals first
    | (refine ⟨[], [], .tuple [.nilptr, .int .i64 300], [], ?_, .inr ⟨by omega, rfl, rfl, rfl⟩⟩
       refine Head.mk rfl rfl ?_ ?_ rfl ?_
       all_goals cbv
       done)
    | (refine ⟨[10], [], .tuple [.ptr 0 65 0 0, .int .i64 0], [some (.cells true 65 [.sym (.int .i64 s) :: List.replicate 64 (.bool false)])], ?_, .inl ⟨⟨by omega, by omega⟩, rfl, rfl, rfl⟩⟩
       refine Head.mk rfl rfl ?_ ?_ rfl ?_
       all_goals cbv
       exact ⟨BlkLe.flat (fun h => h) (newBR s ⟨by omega, by omega⟩).flats, trivial⟩)
theorem rnewNilT {s : Int} {A S : AV} {m : Mem} {c : Nat} {K : AV → Mem → Nat → Prop} (hA : norm A = .int .i64 s) (hS : norm S = .nilslice)
    (h1 : 1 ≤ s ∧ s ≤ 64 → ∀ rowsB R f, BR rowsB R f s → (∀ k, f k = hasB [] k) → K (.tuple [.ptr c 65 0 0, .int .i64 0]) (m.new c (.cells true 65 rowsB)) (c + 1))
    (h2 : ¬ (1 ≤ s ∧ s ≤ 64) → K (.tuple [.nilptr, .int .i64 300]) m c) : CallT (fun _ => Tryd.prog) 8 [A, S] m c K := by
  refine CallT.frameF [] (rnewNilC s) rfl ?_ trivial ⟨by simp, by simp⟩ ?_
  · simp only [leL, normL, norm, hA, hS, renOL, renO]
  · rintro v m' c' (⟨hb, rfl, rfl, rfl⟩ | ⟨hb, rfl, rfl, rfl⟩)
    · exact ⟨⟨trivial, rfl, (newBR s hb).flats⟩, h1 hb _ _ _ (newBR s hb) fun k => rfl⟩
    · exact ⟨trivial, h2 hb⟩
end Go.Proofs.YtkpddpdhpffhbaaDoor.Bit

namespace Go.Proofs.YtkpddpdhpffhbaaDoor.Bit
open Go.Ab Base Kit
set_option linter.unusedVariables false
set_option linter.unusedSimpArgs false

/-- A law's row of 64 truth values. -/
structure AR (rows : List (List AV)) (R : List AV) (f : Nat → Bool) : Prop where
  row : rows[0]? = some R
  one : rows.length = 1
  len : R.length = 64
  arr : ∀ j, j < 64 → R[j]? = some (.bool (f j))
  flat : AV.flatL R = true
section
variable {rows rows' : List (List AV)} {R R' : List AV} {f g : Nat → Bool}
theorem AR.flats (h : AR rows R f) : ∀ row ∈ rows, AV.flatL row = true := one_flat h.row h.one h.flat
theorem AR.congr (h : AR rows R f) (e : ∀ k, k < 64 → f k = g k) : AR rows R g :=
  ⟨h.row, h.one, h.len, fun j h1 => by rw [h.arr j h1, e _ h1], h.flat⟩
theorem AR.set (h : AR rows R f) {j : Nat} {b : Bool} (h1 : j < 64) (h0 : rows'[0]? = some R') (e : R' = R.set j (.bool b)) (hl : rows'.length = rows.length) : AR rows' R' (fun k => if k = j then b else f k) := by
  subst e
  refine ⟨h0, by rw [hl, h.one], by rw [List.length_set, h.len], fun i i1 => ?_, set_flat h.flat rfl⟩
  by_cases e : i = j
  · subst e; rw [set_same (by rw [h.len]; omega), if_pos rfl]
  · rw [set_other (fun k => e k.symm), h.arr i i1, if_neg e]
end
theorem newAR : AR [List.replicate 64 (.bool false)] (List.replicate 64 (.bool false)) (fun _ => false) := by
  refine ⟨rfl, rfl, rfl, fun j h1 => ?_, rfl⟩
  rw [List.getElem?_replicate, if_pos h1]
theorem newT2 {s : Int} {xs : List Int} {A S : AV} {m : Mem} {c k n cap : Nat} {opn rw : Bool} {rows0 rows : List (List AV)} {K : AV → Mem → Nat → Prop} (hA : norm A = .int .i64 s) (hS : norm S = .slice k 1 0 n cap opn none) (hk : m.get k = some (.cells rw 1 rows0)) (hr : RowsLe (fun n => [k][n]?) rows0 rows) (hH : Hat iv xs rows n) (hkc : k < c)
    (h1 : InAll s xs → ∀ w, WS w s → (∀ k, tb w k = hasB xs k) → K (.tuple [.ptr c 2 0 0, .int .i64 0]) (m.new c (WB w s true)) (c + 1))
    (h2 : ¬ InAll s xs → K (.tuple [.nilptr, .int .i64 300]) m c) : CallT (fun _ => Tryd.prog) 7 [A, S] m c K := by
  refine CallT.frameF [k] (newC s xs rows n cap opn hH) rfl ?_ ?_ ⟨by simp, by simp; omega⟩ ?_
  · simp only [leL, normL, norm, hA, hS, renOL, renO, List.getElem?_cons_zero, Option.map_some]
  · refine ⟨?_, trivial⟩
    simp only [List.getElem?_cons_zero, hk]
    exact BlkLe.cells (fun e => by cases e) hr
  · rintro v m' c' (⟨hi, w, ⟨hw, hb⟩, rfl, rfl, rfl⟩ | ⟨hi, rfl, rfl, rfl⟩)
    · exact ⟨⟨⟨trivial, trivial⟩, rfl, WB.flat _ _⟩, h1 hi w hw hb⟩
    · exact ⟨⟨trivial, trivial⟩, h2 hi⟩
/-- One number. -/
theorem hat1 (x : Int) : Hat iv [x] [[.sym (.int .i64 x)]] 1 := by
  refine ⟨rfl, by decide, fun row h => by rw [List.mem_singleton.1 h]; rfl, fun j y hy => ?_⟩
  cases j with
  | zero => simp only [List.getElem?_cons_zero, Option.some.injEq] at hy ⊢; rw [← hy]; rfl
  | succ j => simp at hy
theorem notIn1 {s x : Int} (h : ¬ (0 ≤ x ∧ x < s)) : ¬ InAll s [x] := fun h2 => h (h2.2 x (by simp))
theorem holds_hat {L cap : Nat} {rows : List (List AV)} {xs : List Int} (h : Holds iv xs L cap rows) (hs : L ≤ 140737488355328) : Hat iv xs rows L := ⟨h.len, hs, h.flat, h.at_⟩
/-- How many there are. -/
theorem memI_count {f g : Nat → Bool} {k : Nat} (hg : ∀ j, g j = (f j || decide (k = j))) : ∀ b, (memI g b).length = (memI f b).length + (if k < b ∧ f k = false then 1 else 0)
  | 0 => by simp [memI_zero]
  | b + 1 => by
    rw [memI_succ, memI_succ, List.length_append, List.length_append, memI_count hg b, hg b]
    by_cases e : k = b
    · subst e
      cases hf : f k <;> simp [hf]
    · have h1 : decide (k = b) = false := by simp [e]
      rw [h1, Bool.or_false]
      by_cases h2 : k < b
      · have h3 : k < b + 1 := by omega
        cases hf : f b <;> cases hk : f k <;> simp [h2, h3]
      · have h3 : ¬ k < b + 1 := by omega
        simp [h2, h3]
end Go.Proofs.YtkpddpdhpffhbaaDoor.Bit
