/- The law DealFair returns true at any input. -/
import Derived.Test.YtmbeolcdbifplaaDealC
import Derived.Test.YtmbeolcdbifplaaAb47
namespace Go.Proofs.Ytmbeolcdbifplaa.Deal
open Go.Ab
set_option linter.unusedVariables false
set_option linter.unusedSimpArgs false
namespace Fair
def pd (b : Int → Bool) : Nat → List Int
  | 0 => []
  | j + 1 => pd b j ++ (if b j then [(j : Int)] else [])
theorem pd_lt (b : Int → Bool) : ∀ (j : Nat), (∀ x ∈ pd b j, 0 ≤ x ∧ x < j) ∧ (pd b j).Pairwise (· < ·)
  | 0 => ⟨fun x h => by simp [pd] at h, List.Pairwise.nil⟩
  | j + 1 => by
    obtain ⟨h1, h2⟩ := pd_lt b j
    unfold pd
    refine ⟨fun x hx => ?_, ?_⟩
    · rcases List.mem_append.1 hx with hx | hx
      · have := h1 x hx; omega
      · split at hx
        · rw [List.mem_singleton.1 hx]; omega
        · simp at hx
    · rw [List.pairwise_append]
      refine ⟨h2, ?_, fun x hx y hy => ?_⟩
      · split
        · exact List.pairwise_singleton _ _
        · exact List.Pairwise.nil
      · split at hy
        · rw [List.mem_singleton.1 hy]; exact (h1 x hx).2
        · simp at hy
theorem pd_rises (b : Int → Bool) : Rises (pd b 8) := by
  obtain ⟨h1, h2⟩ := pd_lt b 8
  refine ⟨fun x hx => by have := h1 x hx; omega, fun i x y hx hy => ?_⟩
  obtain ⟨l1, e1⟩ := List.getElem?_eq_some_iff.1 hx
  obtain ⟨l2, e2⟩ := List.getElem?_eq_some_iff.1 hy
  rw [← e1, ← e2]
  exact List.pairwise_iff_getElem.1 h2 i (i + 1) l1 l2 (by omega)
theorem pd_len (b : Int → Bool) : ∀ j : Nat, (pd b j).length ≤ j
  | 0 => Nat.le_refl 0
  | j + 1 => by
    have := pd_len b j
    unfold pd
    split <;> simp <;> omega
theorem tm_bound {q d v : Int} (h : v = q.tmod d) (hq : 0 ≤ q) (hd : 0 < d) : 0 ≤ v ∧ v < d := by
  subst h
  exact ⟨Int.tmod_nonneg d hq, Int.tmod_lt_of_pos q hd⟩
theorem bits_of (mask : Int) : ∃ b : Int → Bool, ∀ i v1 v2 : Int, v1 = mask.fdiv (2 ^ (min i.toNat (IntKind.bits .i64))) → v2 = IntKind.wrap .i64 ((BitVec.ofInt (IntKind.bits .i64) v1 &&& BitVec.ofInt (IntKind.bits .i64) 1).toNat : Int) → (b i = true ∧ v2 = 1 ∨ b i = false ∧ v2 ≠ 1) := by
  refine ⟨fun i => decide (IntKind.wrap .i64 ((BitVec.ofInt (IntKind.bits .i64) (mask.fdiv (2 ^ (min i.toNat (IntKind.bits .i64)))) &&& BitVec.ofInt (IntKind.bits .i64) 1).toNat : Int) = 1), fun i v1 v2 h1 h2 => ?_⟩
  subst h1 h2
  by_cases h : IntKind.wrap .i64 ((BitVec.ofInt (IntKind.bits .i64) (mask.fdiv (2 ^ (min i.toNat (IntKind.bits .i64)))) &&& BitVec.ofInt (IntKind.bits .i64) 1).toNat : Int) = 1
  · exact .inl ⟨decide_eq_true h, h⟩
  · exact .inr ⟨decide_eq_false h, h⟩

theorem srt {l : List Int} (h : l.Pairwise (· < ·)) {i j : Nat} {x y : Int} (hi : l[i]? = some x) (hj : l[j]? = some y) (hlt : i < j) : x < y := by
  obtain ⟨h1, e1⟩ := List.getElem?_eq_some_iff.1 hi
  obtain ⟨h2, e2⟩ := List.getElem?_eq_some_iff.1 hj
  have := List.pairwise_iff_getElem.1 h i j h1 h2 hlt
  rw [e1, e2] at this
  exact this
theorem srt_inj {l : List Int} (h : l.Pairwise (· < ·)) {a b : Nat} {x : Int} (ha : l[a]? = some x) (hb : l[b]? = some x) : a = b := by
  rcases Nat.lt_trichotomy a b with h1 | h1 | h1
  · have := srt h ha hb h1; omega
  · exact h1
  · have := srt h hb ha h1; omega
/-- Whose turn it is, by places. -/
theorem turn_next {l : List Int} (h : l.Pairwise (· < ·)) {q : Nat} {x : Int} (hx : l[q]? = some x) : ∃ y, l[(q + 1) % l.length]? = some y ∧ turnOf x l = y := by
  have hq : q < l.length := (List.getElem?_eq_some_iff.1 hx).1
  by_cases h1 : q + 1 < l.length
  · rw [Nat.mod_eq_of_lt h1]
    refine ⟨l[q + 1], List.getElem?_eq_getElem h1, turn_found (j := q + 1) (fun y hy => ?_) (List.getElem?_eq_getElem h1) (srt h hx (List.getElem?_eq_getElem h1) (by omega))⟩
    obtain ⟨t, ht⟩ := List.getElem?_of_mem hy
    have htl : t < q + 1 := by have := (List.getElem?_eq_some_iff.1 ht).1; simp at this; omega
    rw [List.getElem?_take_of_lt htl] at ht
    by_cases e : t = q
    · subst e; rw [hx] at ht; cases ht; omega
    · have := srt h ht hx (by omega); omega
  · rw [show q + 1 = l.length by omega, Nat.mod_self]
    refine ⟨l[0], List.getElem?_eq_getElem (by omega), ?_⟩
    rw [turn_none fun y hy => ?_]
    · cases l with
      | nil => simp at hq
      | cons a l => rfl
    · obtain ⟨t, ht⟩ := List.getElem?_of_mem hy
      have htl := (List.getElem?_eq_some_iff.1 ht).1
      by_cases e : t = q
      · subst e; rw [hx] at ht; cases ht; omega
      · have := srt h ht hx (by omega); omega
theorem turn_some {l : List Int} (hl : 0 < l.length) (last : Int) : ∃ p, p < l.length ∧ l[p]? = some (turnOf last l) := by
  unfold turnOf
  cases e : l.find? (fun x => decide (last < x)) with
  | some y =>
    obtain ⟨p, hp⟩ := List.getElem?_of_mem (List.mem_of_find?_eq_some e)
    exact ⟨p, (List.getElem?_eq_some_iff.1 hp).1, hp⟩
  | none =>
    cases l with
    | nil => simp at hl
    | cons a l => exact ⟨0, by simp, rfl⟩
/-- How often the one at q came of i turns that began at p, of m. -/
def cnt (m p i q : Nat) : Nat := (i + (m - 1) - (q + m - p) % m) / m
theorem cnt_zero {m p q : Nat} (hm : 0 < m) (h8 : m ≤ 8) (hp : p < m) (hq : q < m) : cnt m p 0 q = 0 := by
  unfold cnt
  obtain rfl | rfl | rfl | rfl | rfl | rfl | rfl | rfl : m = 1 ∨ m = 2 ∨ m = 3 ∨ m = 4 ∨ m = 5 ∨ m = 6 ∨ m = 7 ∨ m = 8 := by omega
  all_goals omega
theorem cnt_succ {m p i q : Nat} (hm : 0 < m) (h8 : m ≤ 8) (hp : p < m) (hq : q < m) : cnt m p (i + 1) q = cnt m p i q + (if (p + i) % m = q then 1 else 0) := by
  unfold cnt
  obtain rfl | rfl | rfl | rfl | rfl | rfl | rfl | rfl : m = 1 ∨ m = 2 ∨ m = 3 ∨ m = 4 ∨ m = 5 ∨ m = 6 ∨ m = 7 ∨ m = 8 := by omega
  all_goals split <;> omega
theorem cnt_fair {m p i q : Nat} (hm : 0 < m) (h8 : m ≤ 8) (hp : p < m) (hq : q < m) : i / m ≤ cnt m p i q ∧ cnt m p i q ≤ (i + m - 1) / m := by
  unfold cnt
  obtain rfl | rfl | rfl | rfl | rfl | rfl | rfl | rfl : m = 1 ∨ m = 2 ∨ m = 3 ∨ m = 4 ∨ m = 5 ∨ m = 6 ∨ m = 7 ∨ m = 8 := by omega
  all_goals omega
structure FI (l : List Int) (i : Nat) (last : Int) (g : Nat → Int) : Prop where
  out : ∀ j : Nat, j < 8 → (Int.ofNat j) ∉ l → g j = 0
  way : 0 < l.length → ∃ p, p < l.length ∧ (i = 0 ∧ l[p]? = some (turnOf last l) ∨ 1 ≤ i ∧ l[(p + (i - 1)) % l.length]? = some last) ∧ ∀ (q : Nat) (x : Int), l[q]? = some x → g x.toNat = (cnt l.length p i q : Nat)
theorem FI.start {l : List Int} (h8 : l.length ≤ 8) (last : Int) : FI l 0 last (fun _ => 0) := by
  refine ⟨fun _ _ _ => rfl, fun hl => ?_⟩
  obtain ⟨p, hp, hx⟩ := turn_some hl last
  refine ⟨p, hp, .inl ⟨rfl, hx⟩, fun q x hq => ?_⟩
  rw [cnt_zero hl h8 hp (List.getElem?_eq_some_iff.1 hq).1]; rfl
theorem FI.step {l : List Int} {i : Nat} {last w : Int} {g : Nat → Int} (h : FI l i last g) (hs : l.Pairwise (· < ·)) (hb : ∀ x ∈ l, 0 ≤ x ∧ x < 8) (h8 : l.length ≤ 8) (hl : 0 < l.length) (hw : w = turnOf last l) : (0 ≤ w ∧ w < 8) ∧ FI l (i + 1) w (fun j => if j = w.toNat then g j + 1 else g j) := by
  obtain ⟨p, hp, hway, hg⟩ := h.way hl
  have hwl : l[(p + i) % l.length]? = some w := by
    rcases hway with ⟨rfl, h1⟩ | ⟨h1, h2⟩
    · rw [Nat.add_zero, Nat.mod_eq_of_lt hp, hw]; exact h1
    · obtain ⟨y, hy, ht⟩ := turn_next hs h2
      rw [hw, ht, ← hy, Nat.mod_add_mod, show p + (i - 1) + 1 = p + i by omega]
  have hwb := hb w (List.mem_of_getElem? hwl)
  refine ⟨hwb, fun j hj hn => ?_, fun _ => ⟨p, hp, .inr ⟨by omega, by rw [Nat.add_sub_cancel]; exact hwl⟩, fun q x hq => ?_⟩⟩
  · have : j ≠ w.toNat := fun e => hn (by rw [e, show Int.ofNat w.toNat = w by simp; omega]; exact List.mem_of_getElem? hwl)
    rw [if_neg this]; exact h.out j hj hn
  · have hql := (List.getElem?_eq_some_iff.1 hq).1
    have hxb := hb x (List.mem_of_getElem? hq)
    rw [cnt_succ hl h8 hp hql]
    have hgx := hg q x hq
    by_cases e : (p + i) % l.length = q
    · have hxw : x = w := by rw [e, hq] at hwl; exact Option.some.inj hwl
      subst hxw
      rw [if_pos rfl, if_pos e, hgx]; omega
    · have hne : x.toNat ≠ w.toNat := fun e2 => e (srt_inj hs (by rw [hwl, show w = x by omega]) hq)
      rw [if_neg hne, if_neg e, hgx]; omega
theorem FI.fair {l : List Int} {k : Nat} {last x : Int} {g : Nat → Int} (h : FI l k last g) (h8 : l.length ≤ 8) (hx : x ∈ l) : ((k / l.length : Nat) : Int) ≤ g x.toNat ∧ g x.toNat ≤ (((k + l.length - 1) / l.length : Nat) : Int) := by
  obtain ⟨q, hq⟩ := List.getElem?_of_mem hx
  have hql := (List.getElem?_eq_some_iff.1 hq).1
  obtain ⟨p, hp, _, hg⟩ := h.way (by omega)
  rw [hg q x hq]
  have := cnt_fair (i := k) (by omega) h8 hp hql
  omega

theorem FI.nil {l : List Int} {i : Nat} {last : Int} {g : Nat → Int} (h : FI l i last g) (hl : l = []) : FI l (i + 1) last g := ⟨h.out, fun h0 => by rw [hl] at h0; simp at h0⟩
theorem FI.congr {l : List Int} {i : Nat} {last : Int} {g g' : Nat → Int} (h : FI l i last g) (e : ∀ j, g j = g' j) : FI l i last g' := by
  have : g = g' := funext e
  rw [← this]; exact h
theorem finN {l : List Int} {i : Nat} {a a' : Int} {g : Nat → Int} (e : a' = a) (h : FI l i a g) : FI l i a' g := by rw [e]; exact h
theorem ifN {g : Nat → Int} {c : Int} {z q : Nat} (e : c = g q + 1) : (if z = q then g z + 1 else g z) = (if z = q then c else g z) := by
  by_cases h : z = q
  · rw [if_pos h, if_pos h, e, h]
  · rw [if_neg h, if_neg h]
theorem pd_mem (b : Int → Bool) : ∀ (j : Nat) (x : Int), x ∈ pd b j ↔ 0 ≤ x ∧ x < j ∧ b x = true
  | 0, x => by simp [pd]; omega
  | j + 1, x => by
    rw [pd, List.mem_append, pd_mem b j x]
    by_cases h : b (j : Int) = true
    · rw [if_pos h, List.mem_singleton]
      constructor
      · rintro (⟨h1, h2, h3⟩ | rfl)
        · exact ⟨h1, by omega, h3⟩
        · exact ⟨by omega, by omega, h⟩
      · rintro ⟨h1, h2, h3⟩
        by_cases e : x = j
        · exact .inr e
        · exact .inl ⟨h1, by omega, h3⟩
    · rw [if_neg h]
      constructor
      · rintro (⟨h1, h2, h3⟩ | h9)
        · exact ⟨h1, by omega, h3⟩
        · cases h9
      · rintro ⟨h1, h2, h3⟩
        by_cases e : x = j
        · subst e; exact (h h3).elim
        · exact .inl ⟨h1, by omega, h3⟩
theorem and1 {a v : Int} (h : v = IntKind.wrap .i64 ((BitVec.ofInt (IntKind.bits .i64) a &&& BitVec.ofInt (IntKind.bits .i64) 1).toNat : Int)) (h0 : 0 ≤ a) (h1 : a < 9223372036854775808) : v = a % 2 := by
  have e1 : (BitVec.ofInt (IntKind.bits .i64) a).toNat = a.toNat := by
    rw [BitVec.toNat_ofInt]
    have : ((2 ^ IntKind.bits .i64 : Nat) : Int) = 18446744073709551616 := by kernel_rfl
    rw [this]; omega
  have e2 : (BitVec.ofInt (IntKind.bits .i64) (1 : Int)).toNat = 1 := by kernel_rfl
  rw [BitVec.toNat_and, e1, e2, Nat.and_one_is_mod, wrap_i64] at h
  omega
theorem tdiv_nat {a b v : Int} (h : v = IntKind.wrap .i64 (a.tdiv b)) (ha : 0 ≤ a) (ha2 : a < 9223372036854775808) (hb : 0 < b) : 0 ≤ v ∧ v.toNat = a.toNat / b.toNat := by
  have e : a.tdiv b = ((a.toNat / b.toNat : Nat) : Int) := by
    rw [Int.tdiv_eq_ediv_of_nonneg ha, Int.natCast_ediv]
    congr 1 <;> omega
  have hle : a.toNat / b.toNat ≤ a.toNat := Nat.div_le_self _ _
  rw [e, wrap_i64] at h
  generalize a.toNat / b.toNat = z at *
  omega
/-- A row of eight numbers. -/
structure GR (rows : List (List AV)) (R : List AV) (g : Nat → Int) : Prop where
  row : rows[0]? = some R
  one : rows.length = 1
  len : R.length = 8
  arr : ∀ j, j < 8 → R[j]? = some (.sym (.int .i64 (g j)))
  flat : AV.flatL R = true
theorem GR.flats {rows : List (List AV)} {R : List AV} {g : Nat → Int} (h : GR rows R g) : ∀ row ∈ rows, AV.flatL row = true := one_flat h.row h.one h.flat
theorem GR.set {rows rows' : List (List AV)} {R R' : List AV} {g : Nat → Int} (h : GR rows R g) {j : Nat} {x : Int} (h1 : j < 8) (h0 : rows'[0]? = some R') (e : R' = R.set j (.sym (.int .i64 x))) (hl : rows'.length = rows.length) : GR rows' R' (fun k => if k = j then x else g k) := by
  subst e
  refine ⟨h0, by rw [hl, h.one], by rw [List.length_set, h.len], fun i i1 => ?_, set_flat h.flat rfl⟩
  by_cases e : i = j
  · subst e; rw [set_same (by rw [h.len]; omega), if_pos rfl]
  · rw [set_other (fun k => e k.symm), h.arr i i1, if_neg e]
theorem GR.at2 {rows : List (List AV)} {R : List AV} {g : Nat → Int} {f w : Nat} (h : GR rows R g) (e : f = w) (hw : w < 8) : R[f]? = some (.sym (.int .i64 (g w))) := by subst e; exact h.arr _ hw
theorem GR.set2 {rows rows' : List (List AV)} {R R' : List AV} {g : Nat → Int} (h : GR rows R g) {f w : Nat} {x : Int} (hf : f = w) (h1 : w < 8) (h0 : rows'[0]? = some R') (e : R' = R.set f (.sym (.int .i64 x))) (hl : rows'.length = rows.length) : GR rows' R' (fun k => if k = w then x else g k) := by
  subst hf; exact h.set h1 h0 e hl
theorem bnd7 {g : Nat → Int} {j w : Nat} {x i v : Int} (h : 0 ≤ g j ∧ g j ≤ i) (hx : 0 ≤ x ∧ x ≤ v) (hv : i ≤ v) : 0 ≤ (if j = w then x else g j) ∧ (if j = w then x else g j) ≤ v := by
  split <;> omega
theorem newGR : GR [List.replicate 8 (.sym (.int .i64 0))] (List.replicate 8 (.sym (.int .i64 0))) (fun _ => 0) := by
  refine ⟨rfl, rfl, rfl, fun j h1 => ?_, rfl⟩
  rw [List.getElem?_replicate, if_pos h1]
def Shp : Sh → Prop
  | .nil => True
  | .sl L _ _ => 1 ≤ L
end Fair
open Go.Proofs.Ytmbeolcdbifplaa.Deal.Fair

set_option maxRecDepth 200000 in
set_option maxHeartbeats 8000000 in
theorem dealFair (mask many last : Int) : CallS Try.prog 4 [.sym (.int .i64 mask), .sym (.int .i64 many), .sym (.int .i64 last)] (memB [] []) 0 fun v _ _ => v = .bool true := by
  obtain ⟨b, hbit⟩ := bits_of mask
  refine CallS.enterS Try.func4 (by kernel_rfl) (by decide) ?_
  refine SafeC.join X (α := Sh) 9 151 [] (fun s => s.sh 7) (fun s => [s.nm 7 0])
    (fun a => [some (.sym (.int .i64 mask)), some (.sym (.int .i64 many)), some (.sym (.int .i64 last)), none, none, none, none, some (a.av 0 1)])
    (fun a => [a.blk 1])
    (fun a => a.holds iv (pd b 8) ∧ Shp a) 1 ?_ ?_
  · cbv
    with_reducible apply awakeT
    cbv
    with_reducible
     refine LoopT.invR X (α := Int × Sh) 151 [] (fun s => (oI (s.at 8), s.sh 7)) (fun s => [s.nm 7 0])
      (fun a => [some (.sym (.int .i64 mask)), some (.sym (.int .i64 many)), some (.sym (.int .i64 last)), none, none, none, none, some (a.2.av 0 1), some (.sym (.int .i64 a.1))])
      (fun a => [a.2.blk 1])
      (fun a => (0 ≤ a.1 ∧ a.1 ≤ 8) ∧ a.2.holds iv (pd b a.1.toNat) ∧ Shp a.2) (fun a => (8 - a.1).toNat) ?_ ?_
    · cbv
      refine And.intro (HoldAt.mk ?_) (Head.mk ?_ ?_ ?_ ?_ ?_ ?_)
      · exact ⟨⟨Int.le_refl 0, (show (0 : Int) ≤ 8 by decide)⟩, rfl, trivial⟩
      all_goals cbv
    · rintro ⟨j, sh⟩ ⟨⟨j1, j2⟩, hsh0, hsp⟩
      dsimp only at j1 j2 hsh0 hsp
      have hpd : pd b (j.toNat + 1) = pd b j.toNat ++ (if b j then [j] else []) := by
        simp only [pd]
        rw [Int.toNat_of_nonneg j1]
      have hpl := pd_len b j.toNat
      cases sh with
      | nil =>
        have hnil : pd b j.toNat = [] := hsh0
        cbv
        repeat' first
          | with_reducible exact trivial
          | ((with_reducible intro v1 hv1); (have hsh : v1 = mask.fdiv _ := hv1); cbv)
          | ((with_reducible intro v2 hv2); (have hbt := hbit _ _ _ hsh hv2); cbv)
          | ((with_reducible intro L' rows' hL hr'); (simp only [List.length_cons, List.length_nil, Nat.zero_add] at hL); (first
              | have hN := Holds.inPlace (x := j) (f := iv) hold (by rfl) (by omega) hL hr'
              | have hN := Holds.anew (x := j) (f := iv) hold (by rfl) hL hr'); cbv)
          | ((with_reducible intro v hv); (try rw [wrap_i64] at hv); cbv)
          | ((with_reducible apply uAnd); (focus first | kernel_rfl | omega | (simp; done) | (refine And.intro ?_ (And.intro ?_ (Or.inl rfl)) <;> omega) | (simp only [List.length_cons, List.length_nil]; omega)); try cbv)
          | ((with_reducible apply And.intro) <;> (with_reducible intro h) <;> (try simp only [List.length_cons, List.length_nil, Nat.zero_add] at h) <;> first | ((with_reducible exfalso); omega) | ((with_reducible exfalso); simp at h; done) | cbv)
          | ((with_reducible intro h); first | ((with_reducible exfalso); omega) | cbv)
        all_goals first
          | (have h8 : j.toNat = 8 := by omega
             refine And.intro (And.intro (HoldAt.mk ?_) True.intro) (Head.mk ?_ ?_ ?_ ?_ ?_ ?_)
             · exact ⟨h8 ▸ hsh0, trivial⟩
             all_goals cbv
             done)
          | (refine And.intro (And.intro (HoldAt.mk ?_) True.intro) (Head.mk ?_ ?_ ?_ ?_ ?_ ?_)
             · dsimp only
               refine ⟨⟨⟨by omega, by omega⟩, ?_, ?_⟩, by omega⟩
               · rw [show v.toNat = j.toNat + 1 by omega, hpd]
                 rcases hbt with ⟨hb1, hb2⟩ | ⟨hb1, hb2⟩
                 · first
                     | (exfalso; omega)
                     | (rw [if_pos hb1, hnil]; exact Holds.one (f := iv) (x := j) (by rfl) rfl)
                 · first
                     | (exfalso; omega)
                     | (rw [if_neg (by simp [hb1]), List.append_nil]; exact hsh0)
               · first | trivial | exact Nat.le_refl 1
             all_goals cbv
             all_goals first
               | exact ⟨BlkLe.flat (fun h => h) (by simp [AV.flatL, AV.flat]), trivial⟩)
      | sl L cap rows =>
        have hold : Holds iv (pd b j.toNat) L cap rows := hsh0
        have hL0 := hold.len; have hL1 := hold.full; have hL2 := hold.le
        cbv
        repeat' first
          | with_reducible exact trivial
          | ((with_reducible intro v1 hv1); (have hsh : v1 = mask.fdiv _ := hv1); cbv)
          | ((with_reducible intro v2 hv2); (have hbt := hbit _ _ _ hsh hv2); cbv)
          | ((with_reducible intro L' rows' hL hr'); (simp only [List.length_cons, List.length_nil, Nat.zero_add] at hL); (first
              | have hN := Holds.inPlace (x := j) (f := iv) hold (by rfl) (by omega) hL hr'
              | have hN := Holds.anew (x := j) (f := iv) hold (by rfl) hL hr'); cbv)
          | ((with_reducible intro v hv); (try rw [wrap_i64] at hv); cbv)
          | ((with_reducible apply uAnd); (focus first | kernel_rfl | omega | (simp; done) | (refine And.intro ?_ (And.intro ?_ (Or.inl rfl)) <;> omega) | (simp only [List.length_cons, List.length_nil]; omega)); try cbv)
          | ((with_reducible apply And.intro) <;> (with_reducible intro h) <;> (try simp only [List.length_cons, List.length_nil, Nat.zero_add] at h) <;> first | ((with_reducible exfalso); omega) | ((with_reducible exfalso); simp at h; done) | cbv)
          | ((with_reducible intro h); first | ((with_reducible exfalso); omega) | cbv)
        all_goals first
          | (have h8 : j.toNat = 8 := by omega
             refine And.intro (And.intro (HoldAt.mk ?_) True.intro) (Head.mk ?_ ?_ ?_ ?_ ?_ ?_)
             · exact ⟨h8 ▸ hsh0, hsp⟩
             all_goals cbv
             exact ⟨BlkLe.flat (fun h => h) hold.flat, trivial⟩)
          | (refine And.intro (And.intro (HoldAt.mk ?_) True.intro) (Head.mk ?_ ?_ ?_ ?_ ?_ ?_)
             · dsimp only
               refine ⟨⟨⟨by omega, by omega⟩, ?_, ?_⟩, by omega⟩
               · rw [show v.toNat = j.toNat + 1 by omega, hpd]
                 rcases hbt with ⟨hb1, hb2⟩ | ⟨hb1, hb2⟩
                 · first
                     | (exfalso; omega)
                     | (rw [if_pos hb1]; exact hN)
                 · first
                     | (exfalso; omega)
                     | (rw [if_neg (by simp [hb1]), List.append_nil]; exact hold)
               · first | exact hsp | (show 1 ≤ L'; omega)
             all_goals cbv
             all_goals first
               | exact ⟨BlkLe.flat (fun h => h) hN.flat, trivial⟩
               | exact ⟨BlkLe.flat (fun h => h) hold.flat, trivial⟩)
  · rintro sh ⟨hsh, hsp⟩
    obtain ⟨l, hl⟩ : ∃ l, l = pd b 8 := ⟨_, rfl⟩
    have hlen8 : l.length ≤ 8 := by rw [hl]; exact pd_len b 8
    have hmem : ∀ x, x ∈ l ↔ 0 ≤ x ∧ x < 8 ∧ b x = true := fun x => by rw [hl, pd_mem b 8 x]; exact Iff.rfl
    have hsrt : l.Pairwise (· < ·) := by rw [hl]; exact (pd_lt b 8).2
    have hris : Rises l := by rw [hl]; exact pd_rises b
    have hlb : ∀ x ∈ l, 0 ≤ x ∧ x < 8 := fun x hx => ⟨((hmem x).1 hx).1, ((hmem x).1 hx).2.1⟩
    rw [← hl] at hsh
    clear hl
    cases sh with
    | nil =>
      have hl0 : l = [] := hsh
      have hll : l.length = 0 := by rw [hl0]; rfl
      refine SafeC.join X (α := Int × Int) 13 151 [] (fun s => (oI (s.at 11), oI (s.cell (oP (s.at 9)) 0 3))) (fun s => [s.nm 7 0, oP (s.at 9), oP (s.at 10)])
        (fun a => [some (.sym (.int .i64 mask)), none, none, none, none, none, none, some (.nilslice), none, some (.ptr 1 4 0 0), some (.ptr 2 8 0 0), some (.sym (.int .i64 a.1))])
        (fun a => [none, some (.cells true 4 [[.sym (.int .i64 0), .sym (.int .i64 0), .sym (.int .i64 0), .sym (.int .i64 a.2)]]), some (.cells true 8 [List.replicate 8 (.sym (.int .i64 0))])])
        (fun a => (0 ≤ a.1 ∧ a.1 ≤ 63) ∧ -1 ≤ a.2 ∧ a.2 < 8) 3 ?_ ?_
      · cbv
        with_reducible apply CallT.enter X Try.func14 (by decide)
        cbv
        with_reducible intro u hu
        rw [wrap_u64] at hu
        cbv
        with_reducible apply uAnd
        focus omega
        cbv
        with_reducible intro r hr
        have hrb := tm_bound hr (by omega) (by omega)
        clear hr
        cbv
        with_reducible intro r2 hr2
        rw [wrap_i64] at hr2
        cbv
        with_reducible intro la0 hla0
        rw [wrap_i64] at hla0
        have hlab : -1 ≤ la0 ∧ la0 < 8 := by omega
        clear hla0 hr2 hrb hu
        cbv
        with_reducible intro k hk
        have hkb := and_bound (by decide) (by decide) hk
        clear hk
        cbv
        refine And.intro (And.intro (HoldAt.mk ?_) True.intro) (Head.mk ?_ ?_ ?_ ?_ ?_ ?_)
        · exact ⟨hkb, hlab⟩
        all_goals cbv
        exact ⟨BlkLe.cells (fun h => h) (RowsLe.cons rfl RowsLe.nil), BlkLe.cells (fun h => h) (RowsLe.cons rfl RowsLe.nil), trivial⟩
      · rintro ⟨k, la0⟩ ⟨hkb, hlab⟩
        dsimp only at hkb hlab
        refine SafeC.join X (α := Int × Int × Int × Int × Int × List (List AV)) 22 151 [] (fun s => (oI (s.at 11), oI (s.cell (oP (s.at 9)) 0 0), oI (s.cell (oP (s.at 9)) 0 1), oI (s.cell (oP (s.at 9)) 0 2), oI (s.cell (oP (s.at 9)) 0 3), s.rows (oP (s.at 10)))) (fun s => [s.nm 7 0, oP (s.at 9), oP (s.at 10)])
          (fun a => [some (.sym (.int .i64 mask)), none, none, none, none, none, none, some (.nilslice), none, some (.ptr 1 4 0 0), some (.ptr 2 8 0 0), some (.sym (.int .i64 a.1))])
          (fun a => [none, some (.cells true 4 [[.sym (.int .i64 a.2.1), .sym (.int .i64 a.2.2.1), .sym (.int .i64 a.2.2.2.1), .sym (.int .i64 a.2.2.2.2.1)]]), some (.cells true 8 a.2.2.2.2.2)])
          (fun a => (0 ≤ a.1 ∧ a.1 ≤ 63) ∧ (a.2.1 = (a.1 + 1) / 2 ∧ a.2.1 = a.2.2.1 + a.2.2.2.1 ∧ a.2.2.1 = 0) ∧ ∃ R g, GR a.2.2.2.2.2 R g ∧ FI l a.1.toNat a.2.2.2.2.1 g) 3 ?_ ?_
        · cbv
          with_reducible
           refine LoopT.invR X (α := Int × Int × Int × Int × Int × List (List AV)) 151 [] (fun s => (oI (s.at 12), oI (s.cell (oP (s.at 9)) 0 0), oI (s.cell (oP (s.at 9)) 0 1), oI (s.cell (oP (s.at 9)) 0 2), oI (s.cell (oP (s.at 9)) 0 3), s.rows (oP (s.at 10)))) (fun s => [s.nm 7 0, oP (s.at 9), oP (s.at 10)])
            (fun a => [some (.sym (.int .i64 mask)), none, none, none, none, none, none, some (.nilslice), none, some (.ptr 1 4 0 0), some (.ptr 2 8 0 0), some (.sym (.int .i64 k)), some (.sym (.int .i64 a.1))])
            (fun a => [none, some (.cells true 4 [[.sym (.int .i64 a.2.1), .sym (.int .i64 a.2.2.1), .sym (.int .i64 a.2.2.2.1), .sym (.int .i64 a.2.2.2.2.1)]]), some (.cells true 8 a.2.2.2.2.2)])
            (fun a => (0 ≤ a.1 ∧ a.1 ≤ k) ∧ (a.2.1 = (a.1 + 1) / 2 ∧ a.2.1 = a.2.2.1 + a.2.2.2.1 ∧ a.2.2.1 = 0 ∧ 0 ≤ a.2.2.1 ∧ 0 ≤ a.2.2.2.1) ∧ (-1 ≤ a.2.2.2.2.1 ∧ a.2.2.2.2.1 < 8) ∧ ∃ R g, GR a.2.2.2.2.2 R g ∧ FI l a.1.toNat a.2.2.2.2.1 g ∧ ∀ j, j < 8 → 0 ≤ g j ∧ g j ≤ a.1) (fun a => (k - a.1).toNat) ?_ ?_
          · cbv
            refine And.intro (HoldAt.mk ?_) (Head.mk ?_ ?_ ?_ ?_ ?_ ?_)
            · exact ⟨⟨Int.le_refl 0, hkb.1⟩, ⟨rfl, rfl, rfl, Int.le_refl 0, Int.le_refl 0⟩, hlab, _, _, newGR, FI.start hlen8 la0, fun j _ => ⟨Int.le_refl 0, Int.le_refl 0⟩⟩
            all_goals cbv
            exact ⟨BlkLe.cells (fun h => h) (RowsLe.cons rfl RowsLe.nil), BlkLe.cells (fun h => h) (RowsLe.cons rfl RowsLe.nil), trivial⟩
          · rintro ⟨i, id, dl, lo, la, rowsG⟩ ⟨⟨i1, i2⟩, ⟨q1, q2, q3, q4, q5⟩, hla, RG, g, hG, hF, hgb⟩
            dsimp only at i1 i2 q1 q2 q3 q4 q5 hla hG hF hgb
            cbv
            repeat' first
              | with_reducible exact trivial
              | ((with_reducible apply dealT l); (focus exact Sl.nil rfl hl0); (focus rfl); (focus rfl); (focus rfl); (focus rfl); all_goals first
                  | ((with_reducible intro hc i' d' l' la' w hw hf); (simp only [iOf, Fits, one, if_true, Bool.false_eq_true, if_false] at hf hw); (have hw1 : w = -1 := by rw [hw, hl0]; rfl); cbv)
                  | ((with_reducible intro hno); (with_reducible exfalso); exact hno (by (simp only [iOf]; exact ⟨⟨by omega, by omega⟩, ⟨by omega, by omega⟩, ⟨by omega, by omega⟩, by omega, by omega, by omega, by omega, hris⟩))))
              | ((with_reducible apply ldR hG.row); (focus rfl); (focus exact hG.at2 (w := w.toNat) (by omega) (by omega)); (have hgw := hgb w.toNat (by omega)); cbv)
              | ((with_reducible apply stR hG.row); (focus rfl); (focus rfl); (focus (rw [hG.len]; omega)); (intro rowsG RG h0 he hl9); (have hG := hG.set2 (w := w.toNat) (by omega) (by omega) h0 he hl9); cbv)
              | ((with_reducible intro v1 hv1); (have hp := and1 hv1 (by omega) (by omega)); cbv)
              | ((with_reducible intro v hv); (try rw [wrap_i64] at hv); cbv)
              | ((with_reducible apply uAnd); (focus first | kernel_rfl | omega); try cbv)
              | ((with_reducible apply And.intro) <;> (with_reducible intro h) <;> first | ((with_reducible exfalso); omega) | cbv)
              | ((with_reducible apply CallT.enter X Try.func11 (by decide)); cbv)
            all_goals first
              | (refine And.intro (And.intro (HoldAt.mk ?_) True.intro) (Head.mk ?_ ?_ ?_ ?_ ?_ ?_)
                 · dsimp only
                   refine ⟨⟨⟨by omega, by omega⟩, ⟨by omega, by omega, by omega, by omega, by omega⟩, ⟨by omega, by omega⟩, _, _, hG, ?_, fun j hj => ?_⟩, by omega⟩
                   · rw [show v.toNat = i.toNat + 1 by omega]
                     exact finN (by omega) (hF.nil hl0)
                   · have h7 := hgb j hj
                     first
                       | exact ⟨by omega, by omega⟩
                       | exact bnd7 h7 ⟨by omega, by omega⟩ (by omega)
                 all_goals cbv
                 exact ⟨BlkLe.cells (fun h => h) (RowsLe.cons rfl RowsLe.nil), BlkLe.flat (fun h => h) hG.flats, trivial⟩)
              | (refine And.intro (And.intro (HoldAt.mk ?_) True.intro) (Head.mk ?_ ?_ ?_ ?_ ?_ ?_)
                 · have eik : i = k := by omega
                   exact ⟨hkb, ⟨by rw [← eik]; exact q1, q2, q3⟩, _, _, hG, by rw [← eik]; exact hF⟩
                 all_goals cbv
                 exact ⟨BlkLe.cells (fun h => h) (RowsLe.cons rfl RowsLe.nil), BlkLe.flat (fun h => h) hG.flats, trivial⟩)
        · rintro ⟨k, id, dl, lo, la, rowsG⟩ ⟨hkb, ⟨q1, q2, q3⟩, RG, g, hG, hF⟩
          dsimp only at hkb q1 q2 q3 hG hF
          refine SafeC.walk X ?_
          cbv
          with_reducible
           refine LoopT.invR X (α := Int) 151 [] (fun s => oI (s.at 16)) (fun s => [s.nm 7 0, oP (s.at 9), oP (s.at 10)])
            (fun a => [some (.sym (.int .i64 mask)), none, none, none, none, none, none, some (.nilslice), none, some (.ptr 1 4 0 0), some (.ptr 2 8 0 0), some (.sym (.int .i64 k)), none, none, none, none, some (.sym (.int .i64 a))])
            (fun a => [none, some (.cells true 4 [[.sym (.int .i64 id), .sym (.int .i64 dl), .sym (.int .i64 lo), .sym (.int .i64 la)]]), some (.cells true 8 rowsG)])
            (fun a => 0 ≤ a ∧ a ≤ 8) (fun a => (8 - a).toNat) ?_ ?_
          · cbv
            refine And.intro (HoldAt.mk ?_) (Head.mk ?_ ?_ ?_ ?_ ?_ ?_)
            · exact ⟨Int.le_refl 0, (show (0 : Int) ≤ 8 by decide)⟩
            all_goals cbv
            exact ⟨BlkLe.cells (fun h => h) (RowsLe.cons rfl RowsLe.nil), BlkLe.flat (fun h => h) hG.flats, trivial⟩
          · rintro i ⟨i1, i2⟩
            have hT : i < 8 → ∀ v2 : Int, (b i = true ∧ v2 = 1 ∨ b i = false ∧ v2 ≠ 1) → v2 = 1 → 0 < l.length ∧ 0 ≤ g i.toNat ∧ k.toNat / l.length ≤ (g i.toNat).toNat ∧ (g i.toNat).toNat ≤ (k.toNat + l.length - 1) / l.length := fun h8 v2 hb h1 => by
              have hbi : b i = true := by
                rcases hb with ⟨h2, _⟩ | ⟨_, h2⟩
                · exact h2
                · exact (h2 h1).elim
              have hx : i ∈ l := (hmem i).2 ⟨i1, h8, hbi⟩
              have hf := hF.fair hlen8 hx
              refine ⟨List.length_pos_of_mem hx, ?_⟩
              generalize k.toNat / l.length = A at *
              generalize (k.toNat + l.length - 1) / l.length = B at *
              exact ⟨by omega, by omega, by omega⟩
            have hN : i < 8 → ∀ v2 : Int, (b i = true ∧ v2 = 1 ∨ b i = false ∧ v2 ≠ 1) → v2 ≠ 1 → g i.toNat = 0 := fun h8 v2 hb h1 => by
              have hbi : b i = false := by
                rcases hb with ⟨_, h2⟩ | ⟨h2, _⟩
                · exact (h1 h2).elim
                · exact h2
              refine hF.out i.toNat (by omega) fun hx => ?_
              have := ((hmem _).1 hx).2.2
              rw [show Int.ofNat i.toNat = i by simp; omega, hbi] at this
              cases this
            cbv
            repeat' first
              | with_reducible exact trivial
              | ((with_reducible apply ldR hG.row); (focus rfl); (focus exact hG.at2 (w := i.toNat) (by omega) (by omega)); cbv)
              | ((with_reducible intro v1 hv1); (have hsh : v1 = mask.fdiv _ := hv1); cbv)
              | ((with_reducible intro v2 hv2); (have hbt := hbit _ _ _ hsh hv2); cbv)
              | ((with_reducible intro v3 hv3); (have hd := tdiv_nat hv3 (by omega) (by omega) (by omega)); (have hdp := hd.1); (first
                  | have hd2 : v3.toNat = k.toNat / l.length := by (rw [hd.2]; congr 1 <;> omega)
                  | have hd3 : v3.toNat = (k.toNat + l.length - 1) / l.length := by (rw [hd.2]; congr 1 <;> omega)
                  | have hd4 : v3.toNat = (k.toNat + 1) / 2 := by (rw [hd.2]; congr 1 <;> omega)); cbv)
              | ((with_reducible intro v hv); (try rw [wrap_i64] at hv); cbv)
              | ((with_reducible apply uAnd); (focus first | kernel_rfl | omega); try cbv)
              | ((with_reducible apply And.intro) <;> (with_reducible intro h) <;> (try have hft := hT (by omega) _ hbt h) <;> (try have hfn := hN (by omega) _ hbt h) <;> first | ((with_reducible exfalso); omega) | cbv)
            all_goals
              refine And.intro (And.intro (HoldAt.mk ?_) True.intro) (Head.mk ?_ ?_ ?_ ?_ ?_ ?_)
              · exact ⟨⟨by omega, by omega⟩, by omega⟩
              all_goals cbv
              exact ⟨BlkLe.cells (fun h => h) (RowsLe.cons rfl RowsLe.nil), BlkLe.flat (fun h => h) hG.flats, trivial⟩
    | sl L cap rows =>
      have hold : Holds iv l L cap rows := hsh
      have hLp : 1 ≤ L := hsp
      have hL0 := hold.len
      refine SafeC.join X (α := Int × Int) 13 151 [] (fun s => (oI (s.at 11), oI (s.cell (oP (s.at 9)) 0 3))) (fun s => [s.nm 7 0, oP (s.at 9), oP (s.at 10)])
        (fun a => [some (.sym (.int .i64 mask)), none, none, none, none, none, none, some (.sym (.slice 0 1 0 L cap true none)), none, some (.ptr 1 4 0 0), some (.ptr 2 8 0 0), some (.sym (.int .i64 a.1))])
        (fun a => [some (.cells true 1 rows), some (.cells true 4 [[.sym (.int .i64 0), .sym (.int .i64 0), .sym (.int .i64 0), .sym (.int .i64 a.2)]]), some (.cells true 8 [List.replicate 8 (.sym (.int .i64 0))])])
        (fun a => (0 ≤ a.1 ∧ a.1 ≤ 63) ∧ -1 ≤ a.2 ∧ a.2 < 8) 3 ?_ ?_
      · cbv
        with_reducible apply CallT.enter X Try.func14 (by decide)
        cbv
        with_reducible intro u hu
        rw [wrap_u64] at hu
        cbv
        with_reducible apply uAnd
        focus omega
        cbv
        with_reducible intro r hr
        have hrb := tm_bound hr (by omega) (by omega)
        clear hr
        cbv
        with_reducible intro r2 hr2
        rw [wrap_i64] at hr2
        cbv
        with_reducible intro la0 hla0
        rw [wrap_i64] at hla0
        have hlab : -1 ≤ la0 ∧ la0 < 8 := by omega
        clear hla0 hr2 hrb hu
        cbv
        with_reducible intro k hk
        have hkb := and_bound (by decide) (by decide) hk
        clear hk
        cbv
        refine And.intro (And.intro (HoldAt.mk ?_) True.intro) (Head.mk ?_ ?_ ?_ ?_ ?_ ?_)
        · exact ⟨hkb, hlab⟩
        all_goals cbv
        exact ⟨BlkLe.flat (fun h => h) hold.flat, BlkLe.cells (fun h => h) (RowsLe.cons rfl RowsLe.nil), BlkLe.cells (fun h => h) (RowsLe.cons rfl RowsLe.nil), trivial⟩
      · rintro ⟨k, la0⟩ ⟨hkb, hlab⟩
        dsimp only at hkb hlab
        refine SafeC.join X (α := Int × Int × Int × Int × Int × List (List AV)) 22 151 [] (fun s => (oI (s.at 11), oI (s.cell (oP (s.at 9)) 0 0), oI (s.cell (oP (s.at 9)) 0 1), oI (s.cell (oP (s.at 9)) 0 2), oI (s.cell (oP (s.at 9)) 0 3), s.rows (oP (s.at 10)))) (fun s => [s.nm 7 0, oP (s.at 9), oP (s.at 10)])
          (fun a => [some (.sym (.int .i64 mask)), none, none, none, none, none, none, some (.sym (.slice 0 1 0 L cap true none)), none, some (.ptr 1 4 0 0), some (.ptr 2 8 0 0), some (.sym (.int .i64 a.1))])
          (fun a => [some (.cells true 1 rows), some (.cells true 4 [[.sym (.int .i64 a.2.1), .sym (.int .i64 a.2.2.1), .sym (.int .i64 a.2.2.2.1), .sym (.int .i64 a.2.2.2.2.1)]]), some (.cells true 8 a.2.2.2.2.2)])
          (fun a => (0 ≤ a.1 ∧ a.1 ≤ 63) ∧ (a.2.1 = (a.1 + 1) / 2 ∧ a.2.1 = a.2.2.1 + a.2.2.2.1 ∧ a.2.2.2.1 = 0) ∧ ∃ R g, GR a.2.2.2.2.2 R g ∧ FI l a.1.toNat a.2.2.2.2.1 g) 3 ?_ ?_
        · cbv
          with_reducible
           refine LoopT.invR X (α := Int × Int × Int × Int × Int × List (List AV)) 151 [] (fun s => (oI (s.at 12), oI (s.cell (oP (s.at 9)) 0 0), oI (s.cell (oP (s.at 9)) 0 1), oI (s.cell (oP (s.at 9)) 0 2), oI (s.cell (oP (s.at 9)) 0 3), s.rows (oP (s.at 10)))) (fun s => [s.nm 7 0, oP (s.at 9), oP (s.at 10)])
            (fun a => [some (.sym (.int .i64 mask)), none, none, none, none, none, none, some (.sym (.slice 0 1 0 L cap true none)), none, some (.ptr 1 4 0 0), some (.ptr 2 8 0 0), some (.sym (.int .i64 k)), some (.sym (.int .i64 a.1))])
            (fun a => [some (.cells true 1 rows), some (.cells true 4 [[.sym (.int .i64 a.2.1), .sym (.int .i64 a.2.2.1), .sym (.int .i64 a.2.2.2.1), .sym (.int .i64 a.2.2.2.2.1)]]), some (.cells true 8 a.2.2.2.2.2)])
            (fun a => (0 ≤ a.1 ∧ a.1 ≤ k) ∧ (a.2.1 = (a.1 + 1) / 2 ∧ a.2.1 = a.2.2.1 + a.2.2.2.1 ∧ a.2.2.2.1 = 0 ∧ 0 ≤ a.2.2.1 ∧ 0 ≤ a.2.2.2.1) ∧ (-1 ≤ a.2.2.2.2.1 ∧ a.2.2.2.2.1 < 8) ∧ ∃ R g, GR a.2.2.2.2.2 R g ∧ FI l a.1.toNat a.2.2.2.2.1 g ∧ ∀ j, j < 8 → 0 ≤ g j ∧ g j ≤ a.1) (fun a => (k - a.1).toNat) ?_ ?_
          · cbv
            refine And.intro (HoldAt.mk ?_) (Head.mk ?_ ?_ ?_ ?_ ?_ ?_)
            · exact ⟨⟨Int.le_refl 0, hkb.1⟩, ⟨rfl, rfl, rfl, Int.le_refl 0, Int.le_refl 0⟩, hlab, _, _, newGR, FI.start hlen8 la0, fun j _ => ⟨Int.le_refl 0, Int.le_refl 0⟩⟩
            all_goals cbv
            exact ⟨BlkLe.flat (fun h => h) hold.flat, BlkLe.cells (fun h => h) (RowsLe.cons rfl RowsLe.nil), BlkLe.cells (fun h => h) (RowsLe.cons rfl RowsLe.nil), trivial⟩
          · rintro ⟨i, id, dl, lo, la, rowsG⟩ ⟨⟨i1, i2⟩, ⟨q1, q2, q3, q4, q5⟩, hla, RG, g, hG, hF, hgb⟩
            dsimp only at i1 i2 q1 q2 q3 q4 q5 hla hG hF hgb
            cbv
            repeat' first
              | with_reducible exact trivial
              | ((with_reducible apply dealT l); (focus exact hold.sl rfl rfl (by omega)); (focus rfl); (focus rfl); (focus rfl); (focus rfl); all_goals first
                  | ((with_reducible intro hc i' d' l' la' w hw hf); (simp only [iOf, Fits, one, if_true, Bool.false_eq_true, if_false] at hf hw); (have hst := hF.step hsrt hlb hlen8 (by omega) hw); cbv)
                  | ((with_reducible intro hno); (with_reducible exfalso); exact hno (by (simp only [iOf]; exact ⟨⟨by omega, by omega⟩, ⟨by omega, by omega⟩, ⟨by omega, by omega⟩, by omega, by omega, by omega, by omega, hris⟩))))
              | ((with_reducible apply ldR hG.row); (focus rfl); (focus exact hG.at2 (w := w.toNat) (by omega) (by omega)); (have hgw := hgb w.toNat (by omega)); cbv)
              | ((with_reducible apply stR hG.row); (focus rfl); (focus rfl); (focus (rw [hG.len]; omega)); (intro rowsG RG h0 he hl9); (have hG := hG.set2 (w := w.toNat) (by omega) (by omega) h0 he hl9); cbv)
              | ((with_reducible intro v1 hv1); (have hp := and1 hv1 (by omega) (by omega)); cbv)
              | ((with_reducible intro v hv); (try rw [wrap_i64] at hv); cbv)
              | ((with_reducible apply uAnd); (focus first | kernel_rfl | omega); try cbv)
              | ((with_reducible apply And.intro) <;> (with_reducible intro h) <;> first | ((with_reducible exfalso); omega) | cbv)
              | ((with_reducible apply CallT.enter X Try.func11 (by decide)); cbv)
            all_goals first
              | (refine And.intro (And.intro (HoldAt.mk ?_) True.intro) (Head.mk ?_ ?_ ?_ ?_ ?_ ?_)
                 · dsimp only
                   refine ⟨⟨⟨by omega, by omega⟩, ⟨by omega, by omega, by omega, by omega, by omega⟩, ⟨by omega, by omega⟩, _, _, hG, ?_, fun j hj => ?_⟩, by omega⟩
                   · rw [show v.toNat = i.toNat + 1 by omega]
                     exact finN (by omega) (hst.2.congr fun z => ifN (by omega))
                   · have h7 := hgb j hj
                     first
                       | exact ⟨by omega, by omega⟩
                       | exact bnd7 h7 ⟨by omega, by omega⟩ (by omega)
                 all_goals cbv
                 exact ⟨BlkLe.flat (fun h => h) hold.flat, BlkLe.cells (fun h => h) (RowsLe.cons rfl RowsLe.nil), BlkLe.flat (fun h => h) hG.flats, trivial⟩)
              | (refine And.intro (And.intro (HoldAt.mk ?_) True.intro) (Head.mk ?_ ?_ ?_ ?_ ?_ ?_)
                 · have eik : i = k := by omega
                   exact ⟨hkb, ⟨by rw [← eik]; exact q1, q2, q3⟩, _, _, hG, by rw [← eik]; exact hF⟩
                 all_goals cbv
                 exact ⟨BlkLe.flat (fun h => h) hold.flat, BlkLe.cells (fun h => h) (RowsLe.cons rfl RowsLe.nil), BlkLe.flat (fun h => h) hG.flats, trivial⟩)
        · rintro ⟨k, id, dl, lo, la, rowsG⟩ ⟨hkb, ⟨q1, q2, q3⟩, RG, g, hG, hF⟩
          dsimp only at hkb q1 q2 q3 hG hF
          refine SafeC.walk X ?_
          cbv
          with_reducible
           refine LoopT.invR X (α := Int) 151 [] (fun s => oI (s.at 16)) (fun s => [s.nm 7 0, oP (s.at 9), oP (s.at 10)])
            (fun a => [some (.sym (.int .i64 mask)), none, none, none, none, none, none, some (.sym (.slice 0 1 0 L cap true none)), none, some (.ptr 1 4 0 0), some (.ptr 2 8 0 0), some (.sym (.int .i64 k)), none, none, none, none, some (.sym (.int .i64 a))])
            (fun a => [some (.cells true 1 rows), some (.cells true 4 [[.sym (.int .i64 id), .sym (.int .i64 dl), .sym (.int .i64 lo), .sym (.int .i64 la)]]), some (.cells true 8 rowsG)])
            (fun a => 0 ≤ a ∧ a ≤ 8) (fun a => (8 - a).toNat) ?_ ?_
          · cbv
            refine And.intro (HoldAt.mk ?_) (Head.mk ?_ ?_ ?_ ?_ ?_ ?_)
            · exact ⟨Int.le_refl 0, (show (0 : Int) ≤ 8 by decide)⟩
            all_goals cbv
            exact ⟨BlkLe.flat (fun h => h) hold.flat, BlkLe.cells (fun h => h) (RowsLe.cons rfl RowsLe.nil), BlkLe.flat (fun h => h) hG.flats, trivial⟩
          · rintro i ⟨i1, i2⟩
            have hT : i < 8 → ∀ v2 : Int, (b i = true ∧ v2 = 1 ∨ b i = false ∧ v2 ≠ 1) → v2 = 1 → 0 < l.length ∧ 0 ≤ g i.toNat ∧ k.toNat / l.length ≤ (g i.toNat).toNat ∧ (g i.toNat).toNat ≤ (k.toNat + l.length - 1) / l.length := fun h8 v2 hb h1 => by
              have hbi : b i = true := by
                rcases hb with ⟨h2, _⟩ | ⟨_, h2⟩
                · exact h2
                · exact (h2 h1).elim
              have hx : i ∈ l := (hmem i).2 ⟨i1, h8, hbi⟩
              have hf := hF.fair hlen8 hx
              refine ⟨List.length_pos_of_mem hx, ?_⟩
              generalize k.toNat / l.length = A at *
              generalize (k.toNat + l.length - 1) / l.length = B at *
              exact ⟨by omega, by omega, by omega⟩
            have hN : i < 8 → ∀ v2 : Int, (b i = true ∧ v2 = 1 ∨ b i = false ∧ v2 ≠ 1) → v2 ≠ 1 → g i.toNat = 0 := fun h8 v2 hb h1 => by
              have hbi : b i = false := by
                rcases hb with ⟨_, h2⟩ | ⟨h2, _⟩
                · exact (h1 h2).elim
                · exact h2
              refine hF.out i.toNat (by omega) fun hx => ?_
              have := ((hmem _).1 hx).2.2
              rw [show Int.ofNat i.toNat = i by simp; omega, hbi] at this
              cases this
            cbv
            repeat' first
              | with_reducible exact trivial
              | ((with_reducible apply ldR hG.row); (focus rfl); (focus exact hG.at2 (w := i.toNat) (by omega) (by omega)); cbv)
              | ((with_reducible intro v1 hv1); (have hsh : v1 = mask.fdiv _ := hv1); cbv)
              | ((with_reducible intro v2 hv2); (have hbt := hbit _ _ _ hsh hv2); cbv)
              | ((with_reducible intro v3 hv3); (have hd := tdiv_nat hv3 (by omega) (by omega) (by omega)); (have hdp := hd.1); (first
                  | have hd2 : v3.toNat = k.toNat / l.length := by (rw [hd.2]; congr 1 <;> omega)
                  | have hd3 : v3.toNat = (k.toNat + l.length - 1) / l.length := by (rw [hd.2]; congr 1 <;> omega)
                  | have hd4 : v3.toNat = (k.toNat + 1) / 2 := by (rw [hd.2]; congr 1 <;> omega)); cbv)
              | ((with_reducible intro v hv); (try rw [wrap_i64] at hv); cbv)
              | ((with_reducible apply uAnd); (focus first | kernel_rfl | omega); try cbv)
              | ((with_reducible apply And.intro) <;> (with_reducible intro h) <;> (try have hft := hT (by omega) _ hbt h) <;> (try have hfn := hN (by omega) _ hbt h) <;> first | ((with_reducible exfalso); omega) | cbv)
            all_goals
              refine And.intro (And.intro (HoldAt.mk ?_) True.intro) (Head.mk ?_ ?_ ?_ ?_ ?_ ?_)
              · exact ⟨⟨by omega, by omega⟩, by omega⟩
              all_goals cbv
              exact ⟨BlkLe.flat (fun h => h) hold.flat, BlkLe.cells (fun h => h) (RowsLe.cons rfl RowsLe.nil), BlkLe.flat (fun h => h) hG.flats, trivial⟩
end Go.Proofs.Ytmbeolcdbifplaa.Deal
