/- The law DealTurn returns true at any input. -/
import Derived.Test.YtmbeolcdbifplaaDealC
import Derived.Test.YtmbeolcdbifplaaAb42
namespace Go.Proofs.Ytmbeolcdbifplaa.Deal
open Go.Ab
set_option linter.unusedVariables false
set_option linter.unusedSimpArgs false

/-- Those of the first j whose bit is set. -/
def pd (b : Int → Bool) : Nat → List Int
  | 0 => []
  | j + 1 => pd b j ++ (if b j then [(j : Int)] else [])
theorem pd_lt (b : Int → Bool) : ∀ (j : Nat), (∀ x ∈ pd b j, 0 ≤ x ∧ x < j) ∧ (pd b j).Pairwise (· < ·)
  | 0 => ⟨fun x h => by simp [pd] at h, List.Pairwise.nil⟩
  | j + 1 => by
    obtain ⟨h1, h2⟩ := pd_lt b j
    unfold pd
    refine ⟨fun x hx => ?_, ?_⟩
    · rcases List.mem_append.1 hx with hx | hx
      · have := h1 x hx; omega
      · split at hx
        · rw [List.mem_singleton.1 hx]; omega
        · simp at hx
    · rw [List.pairwise_append]
      refine ⟨h2, ?_, fun x hx y hy => ?_⟩
      · split
        · exact List.pairwise_singleton _ _
        · exact List.Pairwise.nil
      · split at hy
        · rw [List.mem_singleton.1 hy]; exact (h1 x hx).2
        · simp at hy
theorem pd_rises (b : Int → Bool) : Rises (pd b 8) := by
  obtain ⟨h1, h2⟩ := pd_lt b 8
  refine ⟨fun x hx => by have := h1 x hx; omega, fun i x y hx hy => ?_⟩
  obtain ⟨l1, e1⟩ := List.getElem?_eq_some_iff.1 hx
  obtain ⟨l2, e2⟩ := List.getElem?_eq_some_iff.1 hy
  rw [← e1, ← e2]
  exact List.pairwise_iff_getElem.1 h2 i (i + 1) l1 l2 (by omega)
theorem pd_len (b : Int → Bool) : ∀ j : Nat, (pd b j).length ≤ j
  | 0 => Nat.le_refl 0
  | j + 1 => by
    have := pd_len b j
    unfold pd
    split <;> simp <;> omega
/-- Whose turn it is, by going round. -/
def goes (b : Int → Bool) (k : Int) : Nat → Int → Int
  | 0, _ => -1
  | n + 1, i => if b ((k + i + 8).tmod 8) then (k + i + 8).tmod 8 else goes b k n (i + 1)
def sel (b0 b1 b2 b3 b4 b5 b6 b7 : Bool) (i : Int) : Bool := if i = 0 then b0 else if i = 1 then b1 else if i = 2 then b2 else if i = 3 then b3 else if i = 4 then b4 else if i = 5 then b5 else if i = 6 then b6 else b7
theorem brute : ∀ (k : Fin 9) (b0 b1 b2 b3 b4 b5 b6 b7 : Bool), turnOf ((k.val : Int) - 1) (pd (sel b0 b1 b2 b3 b4 b5 b6 b7) 8) = goes (sel b0 b1 b2 b3 b4 b5 b6 b7) ((k.val : Int) - 1) 8 1 := by decide +kernel
theorem pd_congr {b c : Int → Bool} : ∀ {j : Nat}, (∀ i : Nat, i < j → b i = c i) → pd b j = pd c j
  | 0, _ => rfl
  | j + 1, h => by
    unfold pd
    rw [pd_congr fun i hi => h i (by omega), h j (by omega)]
theorem goes_congr {b c : Int → Bool} {k : Int} (h : ∀ i : Int, 0 ≤ i → i < 8 → b i = c i) (hk : -1 ≤ k) : ∀ (n : Nat) (i : Int), 1 ≤ i → goes b k n i = goes c k n i
  | 0, _, _ => rfl
  | n + 1, i, hi => by
    unfold goes
    have e : (k + i + 8).tmod 8 = (k + i + 8) % 8 := Int.tmod_eq_emod_of_nonneg (by omega)
    rw [h _ (by rw [e]; omega) (by rw [e]; omega), goes_congr h hk n (i + 1) (by omega)]
theorem turn_goes (b : Int → Bool) (k : Int) (h1 : -1 ≤ k) (h2 : k < 8) : turnOf k (pd b 8) = goes b k 8 1 := by
  have hb : ∀ i : Int, 0 ≤ i → i < 8 → b i = sel (b 0) (b 1) (b 2) (b 3) (b 4) (b 5) (b 6) (b 7) i := fun i hi0 hi8 => by
    have : i = 0 ∨ i = 1 ∨ i = 2 ∨ i = 3 ∨ i = 4 ∨ i = 5 ∨ i = 6 ∨ i = 7 := by omega
    rcases this with rfl | rfl | rfl | rfl | rfl | rfl | rfl | rfl <;> rfl
  rw [pd_congr (c := sel (b 0) (b 1) (b 2) (b 3) (b 4) (b 5) (b 6) (b 7)) (fun i hi => hb i (by omega) (by omega)), goes_congr hb h1 8 1 (by omega)]
  have := brute ⟨(k + 1).toNat, by omega⟩ (b 0) (b 1) (b 2) (b 3) (b 4) (b 5) (b 6) (b 7)
  rw [show (((⟨(k + 1).toNat, by omega⟩ : Fin 9).val : Nat) : Int) - 1 = k by simp; omega] at this
  exact this
theorem tm_bound {q d v : Int} (h : v = q.tmod d) (hq : 0 ≤ q) (hd : 0 < d) : 0 ≤ v ∧ v < d := by
  subst h
  exact ⟨Int.tmod_nonneg d hq, Int.tmod_lt_of_pos q hd⟩
theorem bits_of (mask : Int) : ∃ b : Int → Bool, ∀ i v1 v2 : Int, v1 = mask.fdiv (2 ^ (min i.toNat (IntKind.bits .i64))) → v2 = IntKind.wrap .i64 ((BitVec.ofInt (IntKind.bits .i64) v1 &&& BitVec.ofInt (IntKind.bits .i64) 1).toNat : Int) → (b i = true ∧ v2 = 1 ∨ b i = false ∧ v2 ≠ 1) := by
  refine ⟨fun i => decide (IntKind.wrap .i64 ((BitVec.ofInt (IntKind.bits .i64) (mask.fdiv (2 ^ (min i.toNat (IntKind.bits .i64)))) &&& BitVec.ofInt (IntKind.bits .i64) 1).toNat : Int) = 1), fun i v1 v2 h1 h2 => ?_⟩
  subst h1 h2
  by_cases h : IntKind.wrap .i64 ((BitVec.ofInt (IntKind.bits .i64) (mask.fdiv (2 ^ (min i.toNat (IntKind.bits .i64)))) &&& BitVec.ofInt (IntKind.bits .i64) 1).toNat : Int) = 1
  · exact .inl ⟨decide_eq_true h, h⟩
  · exact .inr ⟨decide_eq_false h, h⟩

set_option maxRecDepth 200000 in
set_option maxHeartbeats 8000000 in
theorem dealTurn (mask last : Int) (high : Bool) : CallS Try.prog 6 [.sym (.int .i64 mask), .sym (.int .i64 last), .bool high] (memB [] []) 0 fun v _ _ => v = .bool true := by
  obtain ⟨b, hbit⟩ := bits_of mask
  refine CallS.enter X Try.func6 (by decide) ?_
  cbv
  with_reducible apply awakeT
  cbv
  with_reducible intro u hu
  rw [wrap_u64] at hu
  cbv
  with_reducible apply uAnd
  focus omega
  cbv
  with_reducible intro r hr
  have hrb := tm_bound hr (by omega) (by omega)
  clear hr
  cbv
  with_reducible intro r2 hr2
  rw [wrap_i64] at hr2
  cbv
  with_reducible intro k hk
  rw [wrap_i64] at hk
  have hkb : -1 ≤ k ∧ k < 8 := by omega
  clear hk hr2 hrb hu
  cbv
  with_reducible apply LoopT.hide
  intro K0 hK
  with_reducible
   refine LoopT.invR X (α := Int × Sh) 116 [] (fun s => (oI (s.at 9), s.sh 8)) (fun s => [s.nm 8 0])
    (fun a => [some (.sym (.int .i64 mask)), none, some (.bool high), none, none, none, none, some (.sym (.int .i64 k)), some (a.2.av 0 1), some (.sym (.int .i64 a.1))])
    (fun a => [a.2.blk 1])
    (fun a => 0 ≤ a.1 ∧ a.1 ≤ 8 ∧ a.2.holds iv (pd b a.1.toNat)) (fun a => (8 - a.1).toNat) ?_ ?_
  · cbv
    refine And.intro (HoldAt.mk ?_) (Head.mk ?_ ?_ ?_ ?_ ?_ ?_)
    · exact ⟨Int.le_refl 0, (show (0 : Int) ≤ 8 by decide), rfl⟩
    all_goals cbv
  · rintro ⟨j, sh⟩ ⟨j1, j2, hsh0⟩
    dsimp only at j1 j2 hsh0
    have hpd : pd b (j.toNat + 1) = pd b j.toNat ++ (if b j then [j] else []) := by
      simp only [pd]
      rw [Int.toNat_of_nonneg j1]
    cases sh with
    | nil =>
      have hnil : pd b j.toNat = [] := hsh0
      cbv
      repeat' first
        | with_reducible exact trivial
        | ((with_reducible apply hK); cbv)
        | ((with_reducible intro v1 hv1); (have hsh : v1 = mask.fdiv _ := hv1); cbv)
        | ((with_reducible intro v2 hv2); (have hbt := hbit _ _ _ hsh hv2); cbv)
        | ((with_reducible intro L' rows' hL hr'); (simp only [List.length_cons, List.length_nil, Nat.zero_add] at hL); (first
            | have hN := Holds.inPlace (x := j) (f := iv) hold (by rfl) (by omega) hL hr'
            | have hN := Holds.anew (x := j) (f := iv) hold (by rfl) hL hr'); cbv)
        | ((with_reducible intro v hv); (try rw [wrap_i64] at hv); cbv)
        | ((with_reducible apply uAnd); (focus first | kernel_rfl | omega | (simp; done) | (refine And.intro ?_ (And.intro ?_ (Or.inl rfl)) <;> omega) | (simp only [List.length_cons, List.length_nil]; omega)); try cbv)
        | ((with_reducible apply And.intro) <;> (with_reducible intro h) <;> (try simp only [List.length_cons, List.length_nil, Nat.zero_add] at h) <;> first | ((with_reducible exfalso); omega) | ((with_reducible exfalso); simp at h; done) | cbv)
        | ((with_reducible intro h); first | ((with_reducible exfalso); omega) | cbv)
        | ((with_reducible apply CallT.enter X Try.func14 (by decide)); cbv)
      all_goals first
        | (refine And.intro (And.intro (HoldAt.mk ?_) True.intro) (Head.mk ?_ ?_ ?_ ?_ ?_ ?_)
           · dsimp only
             refine ⟨⟨by omega, by omega, ?_⟩, by omega⟩
             rw [show v.toNat = j.toNat + 1 by omega, hpd]
             rcases hbt with ⟨hb1, hb2⟩ | ⟨hb1, hb2⟩
             · first
                 | (exfalso; omega)
                 | (rw [if_pos hb1]; first | exact hN | (rw [hnil]; exact Holds.one (f := iv) (by rfl) rfl))
             · first
                 | (exfalso; omega)
                 | (rw [if_neg (by simp [hb1]), List.append_nil]; first | exact hold | exact hsh0)
           all_goals cbv
           all_goals first
             | exact ⟨BlkLe.flat (fun h => h) hN.flat, trivial⟩
             | exact ⟨BlkLe.flat (fun h => h) hold.flat, trivial⟩
             | exact ⟨BlkLe.flat (fun h => h) (by simp [AV.flatL, AV.flat]), trivial⟩)
        | (have h8 : j.toNat = 8 := by omega
           clear hK
           have hsh8 : Sh.holds iv (pd b 8) _ := h8 ▸ hsh0
           cases high <;> cbv
           all_goals
             with_reducible apply dealT (pd b 8)
             focus first | exact Sl.nil rfl hsh8 | exact Holds.sl hsh8 rfl rfl (by omega)
             focus rfl
             focus rfl
             focus rfl
             focus rfl
             rotate_left
             · intro hno
               exact absurd ⟨by decide, by decide, by decide, by decide, by simp only [iOf]; omega, by simp only [iOf]; omega, by decide, pd_rises b⟩ hno
             with_reducible intro hc i' d' l' la' w hw hf
             simp only [iOf, Fits, one, if_true, Bool.false_eq_true, if_false] at hf hw
             rw [turn_goes b k hkb.1 hkb.2] at hw
             clear hc
             cbv
           · with_reducible
              refine LoopT.invR X (α := Int × Int) 116 [] (fun s => (oI (s.at 15), oI (s.at 14))) (fun s => [oP (s.at 11)])
               (fun a => [some (.sym (.int .i64 mask)), none, some (.bool false), none, none, none, none, some (.sym (.int .i64 k)), none, none, none, some (.ptr 0 4 0 0), some (.sym (.int .i64 w)), some (.int .i64 0), some (.sym (.int .i64 a.2)), some (.sym (.int .i64 a.1))])
               (fun a => [some (.cells true 4 [[.sym (.int .i64 i'), .sym (.int .i64 d'), .sym (.int .i64 l'), .sym (.int .i64 la')]])])
               (fun a => 1 ≤ a.1 ∧ a.1 ≤ 9 ∧ (a.2 = -1 ∧ w = goes b k (9 - a.1).toNat a.1 ∨ 0 ≤ a.2 ∧ w = a.2)) (fun a => (9 - a.1).toNat) ?_ ?_
             · cbv
               refine And.intro (HoldAt.mk ?_) (Head.mk ?_ ?_ ?_ ?_ ?_ ?_)
               · exact ⟨Int.le_refl 1, (show (1 : Int) ≤ 9 by decide), .inl ⟨rfl, hw⟩⟩
               all_goals cbv
               exact ⟨BlkLe.flat (fun h => h) (by simp [AV.flatL, AV.flat]), trivial⟩
             · rintro ⟨i, want⟩ ⟨g1, g2, g3⟩
               dsimp only at g1 g2 g3
               have hst : i ≤ 8 → goes b k (9 - i).toNat i = if b ((k + i + 8).tmod 8) then (k + i + 8).tmod 8 else goes b k (9 - (i + 1)).toNat (i + 1) := fun hi => by
                 rw [show (9 - i).toNat = (9 - (i + 1)).toNat + 1 by omega]
                 rfl
               have hend : i = 9 → goes b k (9 - i).toNat i = -1 := fun hi => by rw [hi]; rfl
               have hqb : 0 ≤ (k + i + 8).tmod 8 ∧ (k + i + 8).tmod 8 < 8 := tm_bound rfl (by omega) (by omega)
               cbv
               repeat' first
                 | with_reducible exact trivial
                 | ((with_reducible intro q hq); (have hqe : q = (k + i + 8).tmod 8 := by (rw [hq]; congr 1; omega)); (have hq8 : 0 ≤ q ∧ q < 8 := hqe ▸ hqb); cbv)
                 | ((with_reducible intro v1 hv1); (have hsh : v1 = mask.fdiv _ := hv1); cbv)
                 | ((with_reducible intro v2 hv2); (have hbt := hbit _ _ _ hsh hv2); cbv)
                 | ((with_reducible intro v hv); (try rw [wrap_i64] at hv); cbv)
                 | ((with_reducible apply uAnd); (focus first | kernel_rfl | omega); try cbv)
                 | ((with_reducible apply And.intro) <;> (with_reducible intro h) <;> first | ((with_reducible exfalso); omega) | cbv)
                 | ((with_reducible apply CallT.enter X Try.func11 (by decide)); cbv)
               all_goals
                 have hs := hst (by omega)
                 have hv9 : v = i + 1 := by omega
                 rw [← hqe] at hs
                 refine And.intro (And.intro (HoldAt.mk ?_) True.intro) (Head.mk ?_ ?_ ?_ ?_ ?_ ?_)
                 · dsimp only
                   refine ⟨⟨by omega, by omega, ?_⟩, by omega⟩
                   rcases hbt with ⟨hb1, hb2⟩ | ⟨hb1, hb2⟩
                   · first
                       | (exfalso; omega)
                       | (rw [if_pos hb1] at hs; exact .inr ⟨hq8.1, by omega⟩)
                   · first
                       | (exfalso; omega)
                       | (rw [if_neg (by simp [hb1])] at hs
                          rw [hv9]
                          exact .inl ⟨by omega, by omega⟩)
                 all_goals cbv
                 exact ⟨BlkLe.flat (fun h => h) (by simp [AV.flatL, AV.flat]), trivial⟩
           · with_reducible
              refine LoopT.invR X (α := Int × Int) 116 [] (fun s => (oI (s.at 15), oI (s.at 14))) (fun s => [oP (s.at 11)])
               (fun a => [some (.sym (.int .i64 mask)), none, some (.bool true), none, none, none, none, some (.sym (.int .i64 k)), none, none, none, some (.ptr 0 4 0 0), some (.sym (.int .i64 w)), some (.int .i64 0), some (.sym (.int .i64 a.2)), some (.sym (.int .i64 a.1))])
               (fun a => [some (.cells true 4 [[.sym (.int .i64 i'), .sym (.int .i64 d'), .sym (.int .i64 l'), .sym (.int .i64 la')]])])
               (fun a => 1 ≤ a.1 ∧ a.1 ≤ 9 ∧ (a.2 = -1 ∧ w = goes b k (9 - a.1).toNat a.1 ∨ 0 ≤ a.2 ∧ w = a.2)) (fun a => (9 - a.1).toNat) ?_ ?_
             · cbv
               refine And.intro (HoldAt.mk ?_) (Head.mk ?_ ?_ ?_ ?_ ?_ ?_)
               · exact ⟨Int.le_refl 1, (show (1 : Int) ≤ 9 by decide), .inl ⟨rfl, hw⟩⟩
               all_goals cbv
               exact ⟨BlkLe.flat (fun h => h) (by simp [AV.flatL, AV.flat]), trivial⟩
             · rintro ⟨i, want⟩ ⟨g1, g2, g3⟩
               dsimp only at g1 g2 g3
               have hst : i ≤ 8 → goes b k (9 - i).toNat i = if b ((k + i + 8).tmod 8) then (k + i + 8).tmod 8 else goes b k (9 - (i + 1)).toNat (i + 1) := fun hi => by
                 rw [show (9 - i).toNat = (9 - (i + 1)).toNat + 1 by omega]
                 rfl
               have hend : i = 9 → goes b k (9 - i).toNat i = -1 := fun hi => by rw [hi]; rfl
               have hqb : 0 ≤ (k + i + 8).tmod 8 ∧ (k + i + 8).tmod 8 < 8 := tm_bound rfl (by omega) (by omega)
               cbv
               repeat' first
                 | with_reducible exact trivial
                 | ((with_reducible intro q hq); (have hqe : q = (k + i + 8).tmod 8 := by (rw [hq]; congr 1; omega)); (have hq8 : 0 ≤ q ∧ q < 8 := hqe ▸ hqb); cbv)
                 | ((with_reducible intro v1 hv1); (have hsh : v1 = mask.fdiv _ := hv1); cbv)
                 | ((with_reducible intro v2 hv2); (have hbt := hbit _ _ _ hsh hv2); cbv)
                 | ((with_reducible intro v hv); (try rw [wrap_i64] at hv); cbv)
                 | ((with_reducible apply uAnd); (focus first | kernel_rfl | omega); try cbv)
                 | ((with_reducible apply And.intro) <;> (with_reducible intro h) <;> first | ((with_reducible exfalso); omega) | cbv)
                 | ((with_reducible apply CallT.enter X Try.func11 (by decide)); cbv)
               all_goals
                 have hs := hst (by omega)
                 have hv9 : v = i + 1 := by omega
                 rw [← hqe] at hs
                 refine And.intro (And.intro (HoldAt.mk ?_) True.intro) (Head.mk ?_ ?_ ?_ ?_ ?_ ?_)
                 · dsimp only
                   refine ⟨⟨by omega, by omega, ?_⟩, by omega⟩
                   rcases hbt with ⟨hb1, hb2⟩ | ⟨hb1, hb2⟩
                   · first
                       | (exfalso; omega)
                       | (rw [if_pos hb1] at hs; exact .inr ⟨hq8.1, by omega⟩)
                   · first
                       | (exfalso; omega)
                       | (rw [if_neg (by simp [hb1])] at hs
                          rw [hv9]
                          exact .inl ⟨by omega, by omega⟩)
                 all_goals cbv
                 exact ⟨BlkLe.flat (fun h => h) (by simp [AV.flatL, AV.flat]), trivial⟩
           )
    | sl L cap2 rows2 =>
      have hold : Holds iv (pd b j.toNat) L cap2 rows2 := hsh0
      have hL0 := hold.len; have hL1 := hold.full; have hL2 := hold.le
      have hpl := pd_len b j.toNat
      cbv
      repeat' first
        | with_reducible exact trivial
        | ((with_reducible apply hK); cbv)
        | ((with_reducible intro v1 hv1); (have hsh : v1 = mask.fdiv _ := hv1); cbv)
        | ((with_reducible intro v2 hv2); (have hbt := hbit _ _ _ hsh hv2); cbv)
        | ((with_reducible intro L' rows' hL hr'); (simp only [List.length_cons, List.length_nil, Nat.zero_add] at hL); (first
            | have hN := Holds.inPlace (x := j) (f := iv) hold (by rfl) (by omega) hL hr'
            | have hN := Holds.anew (x := j) (f := iv) hold (by rfl) hL hr'); cbv)
        | ((with_reducible intro v hv); (try rw [wrap_i64] at hv); cbv)
        | ((with_reducible apply uAnd); (focus first | kernel_rfl | omega | (simp; done) | (refine And.intro ?_ (And.intro ?_ (Or.inl rfl)) <;> omega) | (simp only [List.length_cons, List.length_nil]; omega)); try cbv)
        | ((with_reducible apply And.intro) <;> (with_reducible intro h) <;> (try simp only [List.length_cons, List.length_nil, Nat.zero_add] at h) <;> first | ((with_reducible exfalso); omega) | ((with_reducible exfalso); simp at h; done) | cbv)
        | ((with_reducible intro h); first | ((with_reducible exfalso); omega) | cbv)
        | ((with_reducible apply CallT.enter X Try.func14 (by decide)); cbv)
      all_goals first
        | (refine And.intro (And.intro (HoldAt.mk ?_) True.intro) (Head.mk ?_ ?_ ?_ ?_ ?_ ?_)
           · dsimp only
             refine ⟨⟨by omega, by omega, ?_⟩, by omega⟩
             rw [show v.toNat = j.toNat + 1 by omega, hpd]
             rcases hbt with ⟨hb1, hb2⟩ | ⟨hb1, hb2⟩
             · first
                 | (exfalso; omega)
                 | (rw [if_pos hb1]; first | exact hN | (rw [hnil]; exact Holds.one (f := iv) (by rfl) rfl))
             · first
                 | (exfalso; omega)
                 | (rw [if_neg (by simp [hb1]), List.append_nil]; first | exact hold | exact hsh0)
           all_goals cbv
           all_goals first
             | exact ⟨BlkLe.flat (fun h => h) hN.flat, trivial⟩
             | exact ⟨BlkLe.flat (fun h => h) hold.flat, trivial⟩
             | exact ⟨BlkLe.flat (fun h => h) (by simp [AV.flatL, AV.flat]), trivial⟩)
        | (have h8 : j.toNat = 8 := by omega
           clear hK
           have hsh8 : Sh.holds iv (pd b 8) _ := h8 ▸ hsh0
           cases high <;> cbv
           all_goals
             with_reducible apply dealT (pd b 8)
             focus first | exact Sl.nil rfl hsh8 | exact Holds.sl hsh8 rfl rfl (by omega)
             focus rfl
             focus rfl
             focus rfl
             focus rfl
             rotate_left
             · intro hno
               exact absurd ⟨by decide, by decide, by decide, by decide, by simp only [iOf]; omega, by simp only [iOf]; omega, by decide, pd_rises b⟩ hno
             with_reducible intro hc i' d' l' la' w hw hf
             simp only [iOf, Fits, one, if_true, Bool.false_eq_true, if_false] at hf hw
             rw [turn_goes b k hkb.1 hkb.2] at hw
             clear hc
             cbv
           · with_reducible
              refine LoopT.invR X (α := Int × Int) 116 [] (fun s => (oI (s.at 15), oI (s.at 14))) (fun s => [oP (s.at 11)])
               (fun a => [some (.sym (.int .i64 mask)), none, some (.bool false), none, none, none, none, some (.sym (.int .i64 k)), none, none, none, some (.ptr 0 4 0 0), some (.sym (.int .i64 w)), some (.int .i64 0), some (.sym (.int .i64 a.2)), some (.sym (.int .i64 a.1))])
               (fun a => [some (.cells true 4 [[.sym (.int .i64 i'), .sym (.int .i64 d'), .sym (.int .i64 l'), .sym (.int .i64 la')]])])
               (fun a => 1 ≤ a.1 ∧ a.1 ≤ 9 ∧ (a.2 = -1 ∧ w = goes b k (9 - a.1).toNat a.1 ∨ 0 ≤ a.2 ∧ w = a.2)) (fun a => (9 - a.1).toNat) ?_ ?_
             · cbv
               refine And.intro (HoldAt.mk ?_) (Head.mk ?_ ?_ ?_ ?_ ?_ ?_)
               · exact ⟨Int.le_refl 1, (show (1 : Int) ≤ 9 by decide), .inl ⟨rfl, hw⟩⟩
               all_goals cbv
               exact ⟨BlkLe.flat (fun h => h) (by simp [AV.flatL, AV.flat]), trivial⟩
             · rintro ⟨i, want⟩ ⟨g1, g2, g3⟩
               dsimp only at g1 g2 g3
               have hst : i ≤ 8 → goes b k (9 - i).toNat i = if b ((k + i + 8).tmod 8) then (k + i + 8).tmod 8 else goes b k (9 - (i + 1)).toNat (i + 1) := fun hi => by
                 rw [show (9 - i).toNat = (9 - (i + 1)).toNat + 1 by omega]
                 rfl
               have hend : i = 9 → goes b k (9 - i).toNat i = -1 := fun hi => by rw [hi]; rfl
               have hqb : 0 ≤ (k + i + 8).tmod 8 ∧ (k + i + 8).tmod 8 < 8 := tm_bound rfl (by omega) (by omega)
               cbv
               repeat' first
                 | with_reducible exact trivial
                 | ((with_reducible intro q hq); (have hqe : q = (k + i + 8).tmod 8 := by (rw [hq]; congr 1; omega)); (have hq8 : 0 ≤ q ∧ q < 8 := hqe ▸ hqb); cbv)
                 | ((with_reducible intro v1 hv1); (have hsh : v1 = mask.fdiv _ := hv1); cbv)
                 | ((with_reducible intro v2 hv2); (have hbt := hbit _ _ _ hsh hv2); cbv)
                 | ((with_reducible intro v hv); (try rw [wrap_i64] at hv); cbv)
                 | ((with_reducible apply uAnd); (focus first | kernel_rfl | omega); try cbv)
                 | ((with_reducible apply And.intro) <;> (with_reducible intro h) <;> first | ((with_reducible exfalso); omega) | cbv)
                 | ((with_reducible apply CallT.enter X Try.func11 (by decide)); cbv)
               all_goals
                 have hs := hst (by omega)
                 have hv9 : v = i + 1 := by omega
                 rw [← hqe] at hs
                 refine And.intro (And.intro (HoldAt.mk ?_) True.intro) (Head.mk ?_ ?_ ?_ ?_ ?_ ?_)
                 · dsimp only
                   refine ⟨⟨by omega, by omega, ?_⟩, by omega⟩
                   rcases hbt with ⟨hb1, hb2⟩ | ⟨hb1, hb2⟩
                   · first
                       | (exfalso; omega)
                       | (rw [if_pos hb1] at hs; exact .inr ⟨hq8.1, by omega⟩)
                   · first
                       | (exfalso; omega)
                       | (rw [if_neg (by simp [hb1])] at hs
                          rw [hv9]
                          exact .inl ⟨by omega, by omega⟩)
                 all_goals cbv
                 exact ⟨BlkLe.flat (fun h => h) (by simp [AV.flatL, AV.flat]), trivial⟩
           · with_reducible
              refine LoopT.invR X (α := Int × Int) 116 [] (fun s => (oI (s.at 15), oI (s.at 14))) (fun s => [oP (s.at 11)])
               (fun a => [some (.sym (.int .i64 mask)), none, some (.bool true), none, none, none, none, some (.sym (.int .i64 k)), none, none, none, some (.ptr 0 4 0 0), some (.sym (.int .i64 w)), some (.int .i64 0), some (.sym (.int .i64 a.2)), some (.sym (.int .i64 a.1))])
               (fun a => [some (.cells true 4 [[.sym (.int .i64 i'), .sym (.int .i64 d'), .sym (.int .i64 l'), .sym (.int .i64 la')]])])
               (fun a => 1 ≤ a.1 ∧ a.1 ≤ 9 ∧ (a.2 = -1 ∧ w = goes b k (9 - a.1).toNat a.1 ∨ 0 ≤ a.2 ∧ w = a.2)) (fun a => (9 - a.1).toNat) ?_ ?_
             · cbv
               refine And.intro (HoldAt.mk ?_) (Head.mk ?_ ?_ ?_ ?_ ?_ ?_)
               · exact ⟨Int.le_refl 1, (show (1 : Int) ≤ 9 by decide), .inl ⟨rfl, hw⟩⟩
               all_goals cbv
               exact ⟨BlkLe.flat (fun h => h) (by simp [AV.flatL, AV.flat]), trivial⟩
             · rintro ⟨i, want⟩ ⟨g1, g2, g3⟩
               dsimp only at g1 g2 g3
               have hst : i ≤ 8 → goes b k (9 - i).toNat i = if b ((k + i + 8).tmod 8) then (k + i + 8).tmod 8 else goes b k (9 - (i + 1)).toNat (i + 1) := fun hi => by
                 rw [show (9 - i).toNat = (9 - (i + 1)).toNat + 1 by omega]
                 rfl
               have hend : i = 9 → goes b k (9 - i).toNat i = -1 := fun hi => by rw [hi]; rfl
               have hqb : 0 ≤ (k + i + 8).tmod 8 ∧ (k + i + 8).tmod 8 < 8 := tm_bound rfl (by omega) (by omega)
               cbv
               repeat' first
                 | with_reducible exact trivial
                 | ((with_reducible intro q hq); (have hqe : q = (k + i + 8).tmod 8 := by (rw [hq]; congr 1; omega)); (have hq8 : 0 ≤ q ∧ q < 8 := hqe ▸ hqb); cbv)
                 | ((with_reducible intro v1 hv1); (have hsh : v1 = mask.fdiv _ := hv1); cbv)
                 | ((with_reducible intro v2 hv2); (have hbt := hbit _ _ _ hsh hv2); cbv)
                 | ((with_reducible intro v hv); (try rw [wrap_i64] at hv); cbv)
                 | ((with_reducible apply uAnd); (focus first | kernel_rfl | omega); try cbv)
                 | ((with_reducible apply And.intro) <;> (with_reducible intro h) <;> first | ((with_reducible exfalso); omega) | cbv)
                 | ((with_reducible apply CallT.enter X Try.func11 (by decide)); cbv)
               all_goals
                 have hs := hst (by omega)
                 have hv9 : v = i + 1 := by omega
                 rw [← hqe] at hs
                 refine And.intro (And.intro (HoldAt.mk ?_) True.intro) (Head.mk ?_ ?_ ?_ ?_ ?_ ?_)
                 · dsimp only
                   refine ⟨⟨by omega, by omega, ?_⟩, by omega⟩
                   rcases hbt with ⟨hb1, hb2⟩ | ⟨hb1, hb2⟩
                   · first
                       | (exfalso; omega)
                       | (rw [if_pos hb1] at hs; exact .inr ⟨hq8.1, by omega⟩)
                   · first
                       | (exfalso; omega)
                       | (rw [if_neg (by simp [hb1])] at hs
                          rw [hv9]
                          exact .inl ⟨by omega, by omega⟩)
                 all_goals cbv
                 exact ⟨BlkLe.flat (fun h => h) (by simp [AV.flatL, AV.flat]), trivial⟩
           )
end Go.Proofs.Ytmbeolcdbifplaa.Deal
