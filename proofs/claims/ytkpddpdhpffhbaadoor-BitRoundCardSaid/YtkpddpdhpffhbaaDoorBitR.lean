/- The law BitRound returns true at any input. -/
import Derived.Test.YtkpddpdhpffhbaaDoorBitM
import Derived.Test.YtkpddpdhpffhbaaDoorAb47
namespace Go.Proofs.YtkpddpdhpffhbaaDoor.Bit
open Go.Ab Base Kit
set_option linter.unusedVariables false
set_option linter.unusedSimpArgs false

namespace Rnd
theorem ifT {b : Bool} {k j p : Nat} (h : j = p) : (if k = j then true else b) = (b || decide (p = k)) := by
  subst h
  by_cases e : k = j
  · subst e; simp
  · have : ¬ j = k := fun z => e z.symm
    simp [e, this]
theorem AR.add {rows : List (List AV)} {R : List AV} {zs : List Int} {j : Nat} {y : Int} (h : AR rows R fun k => if k = j then true else hasB zs k) (e : j = y.toNat) : AR rows R (hasB (zs ++ [y])) := h.congr fun k _ => by rw [hasB_snoc]; exact ifT e
theorem inT {w : Nat → Bool} {i j : Nat} (h : w i = true) (h2 : w j = false) (e : j = i) : False := by
  subst e; rw [h] at h2; cases h2
theorem cnt0 : (memI (hasB []) 64).length = 0 := by rw [(memI_nil (g := hasB []) (b := 64)).2 (fun j _ => rfl)]; rfl
theorem cntT (zs : List Int) {y : Int} (h : hasB zs y.toNat = true) : (memI (hasB (zs ++ [y])) 64).length = (memI (hasB zs) 64).length := by
  rw [memI_count (f := hasB zs) (k := y.toNat) (fun j => hasB_snoc zs y j) 64, h]; simp
theorem cntF (zs : List Int) {y : Int} (hy : y.toNat < 64) (h : hasB zs y.toNat = false) : (memI (hasB (zs ++ [y])) 64).length = (memI (hasB zs) 64).length + 1 := by
  rw [memI_count (f := hasB zs) (k := y.toNat) (fun j => hasB_snoc zs y j) 64, h]; simp [hy]
end Rnd
open Rnd
theorem NX.pos {g : Nat → Bool} {s : Nat} {i p : Int} (h : NX g s i p) : 0 < (memI g s).length := by
  have : p ∈ memI g s := mem_memI.2 ⟨h.1, h.2.1, h.2.2.1⟩
  exact List.length_pos_of_mem this
theorem NX.gap {g : Nat → Bool} {s : Nat} {i p : Int} {j : Nat} (h : NX g s i p) (h1 : i < (j : Int)) (h2 : j < p.toNat) (h3 : j < s) (hf : g j = true) : False := by
  obtain ⟨a1, a2, a3, a4⟩ := h
  rcases a4 with ⟨a4, a5⟩ | ⟨a4, a5⟩
  · rw [a5 j h1 h2] at hf; cases hf
  · rw [a4 j h1 h3] at hf; cases hf
/-- Round about in a list of m. -/
def idx (m p t : Nat) : Nat := if p + t < m then p + t else p + t - m
structure RI (f : Nat → Bool) (i : Nat) (a : Int) (g : Nat → Bool) : Prop where
  at_ : 0 ≤ a ∧ a ≤ 63
  way : (i = 0 ∧ ∀ j, j < 64 → g j = false) ∨ (1 ≤ i ∧ ∃ p, p < (memI f 64).length ∧ (memI f 64)[idx (memI f 64).length p (i - 1)]? = some a ∧ ∀ j : Nat, j < 64 → (g j = true ↔ ∃ t, t < i ∧ (memI f 64)[idx (memI f 64).length p t]? = some (Int.ofNat j)))
theorem RI.start {f : Nat → Bool} {a : Int} (h : 0 ≤ a ∧ a ≤ 63) : RI f 0 a (fun _ => false) := ⟨h, .inl ⟨rfl, fun _ _ => rfl⟩⟩
theorem RI.congr {f g h : Nat → Bool} {i : Nat} {a : Int} (k : RI f i a g) (e : ∀ j, j < 64 → g j = h j) : RI f i a h := by
  refine ⟨k.at_, ?_⟩
  rcases k.way with ⟨k1, k2⟩ | ⟨k1, p, k2, k3, k4⟩
  · exact .inl ⟨k1, fun j hj => by rw [← e j hj]; exact k2 j hj⟩
  · exact .inr ⟨k1, p, k2, k3, fun j hj => by rw [← e j hj]; exact k4 j hj⟩
theorem at_inj {f : Nat → Bool} {s a b : Nat} {x : Int} (ha : (memI f s)[a]? = some x) (hb : (memI f s)[b]? = some x) : a = b := by
  rcases Nat.lt_trichotomy a b with h | h | h
  · have := sorted_at (memI_sorted f s) ha hb h; omega
  · exact h
  · have := sorted_at (memI_sorted f s) hb ha h; omega
theorem nx_idx {f : Nat → Bool} {q : Nat} {a k : Int} (ha : (memI f 64)[q]? = some a) (hp : NX f 64 a k) : (memI f 64)[if q + 1 < (memI f 64).length then q + 1 else 0]? = some k := by
  have hq : q < (memI f 64).length := (List.getElem?_eq_some_iff.1 ha).1
  by_cases h : q + 1 < (memI f 64).length
  · rw [if_pos h]
    obtain ⟨x, hx⟩ : ∃ x, (memI f 64)[q + 1]? = some x := ⟨_, List.getElem?_eq_getElem h⟩
    have h1 : NX f 64 a x := nx_found hx (sorted_at (memI_sorted f 64) ha hx (by omega)) fun t ht y hy => by
      by_cases e : t = q
      · subst e; rw [ha] at hy; cases hy; omega
      · have := sorted_at (memI_sorted f 64) hy ha (by omega); omega
    rw [hp.uniq h1]; exact hx
  · rw [if_neg h]
    obtain ⟨x, hx⟩ : ∃ x, (memI f 64)[0]? = some x := ⟨_, List.getElem?_eq_getElem (by omega)⟩
    have h1 : NX f 64 a x := nx_wrap hx fun t y hy => by
      have ht : t < (memI f 64).length := (List.getElem?_eq_some_iff.1 hy).1
      by_cases e : t = q
      · subst e; rw [ha] at hy; cases hy; omega
      · have := sorted_at (memI_sorted f 64) hy ha (by omega); omega
    rw [hp.uniq h1]; exact hx
theorem RI.step {f g : Nat → Bool} {i : Nat} {a k : Int} (h : RI f i a g) (hi : i < (memI f 64).length) (hp : NX f 64 a k) : g k.toNat = false ∧ RI f (i + 1) k (fun j => if j = k.toNat then true else g j) := by
  have hp0 := hp
  obtain ⟨hk0, hk1, hk2, _⟩ := hp0
  have hkn : Int.ofNat k.toNat = k := by simp; omega
  rcases h.way with ⟨h1, h2⟩ | ⟨h1, p, h2, h3, h4⟩
  · subst h1
    obtain ⟨q, hq⟩ := List.getElem?_of_mem (mem_memI.2 ⟨hk0, hk1, hk2⟩)
    have hql : q < (memI f 64).length := (List.getElem?_eq_some_iff.1 hq).1
    have e0 : idx (memI f 64).length q 0 = q := by unfold idx; rw [if_pos (by omega)]; omega
    refine ⟨h2 _ hk1, ⟨hk0, by omega⟩, .inr ⟨by omega, q, hql, by rw [show 0 + 1 - 1 = 0 by rfl, e0]; exact hq, fun j hj => ?_⟩⟩
    by_cases e : j = k.toNat
    · rw [if_pos e]
      exact ⟨fun _ => ⟨0, by omega, by rw [e0, e, hkn]; exact hq⟩, fun _ => rfl⟩
    · rw [if_neg e]
      refine ⟨fun hg => (by rw [h2 j hj] at hg; cases hg), fun ⟨t, ht, hx⟩ => ?_⟩
      rw [show t = 0 by omega, e0, hq] at hx
      have : k = Int.ofNat j := Option.some.inj hx
      exact (e (by rw [this]; rfl)).elim
  · have hn := nx_idx h3 hp
    have e1 : (if idx (memI f 64).length p (i - 1) + 1 < (memI f 64).length then idx (memI f 64).length p (i - 1) + 1 else 0) = idx (memI f 64).length p i := by
      generalize (memI f 64).length = m at *
      unfold idx
      split <;> split <;> split <;> omega
    rw [e1] at hn
    have fresh : ¬ ∃ t, t < i ∧ (memI f 64)[idx (memI f 64).length p t]? = some (Int.ofNat k.toNat) := fun ⟨t, ht, hx⟩ => by
      rw [hkn] at hx
      have := at_inj hx hn
      generalize (memI f 64).length = m at *
      unfold idx at this
      split at this <;> split at this <;> omega
    refine ⟨?_, ⟨hk0, by omega⟩, .inr ⟨by omega, p, h2, by rw [Nat.add_sub_cancel]; exact hn, fun j hj => ?_⟩⟩
    · cases hg : g k.toNat with
      | false => rfl
      | true => exact (fresh ((h4 _ hk1).1 hg)).elim
    · by_cases e : j = k.toNat
      · rw [if_pos e]
        exact ⟨fun _ => ⟨i, by omega, by rw [e, hkn]; exact hn⟩, fun _ => rfl⟩
      · rw [if_neg e, h4 j hj]
        refine ⟨fun ⟨t, ht, hx⟩ => ⟨t, by omega, hx⟩, fun ⟨t, ht, hx⟩ => ?_⟩
        by_cases e2 : t = i
        · rw [e2, hn] at hx
          have : k = Int.ofNat j := Option.some.inj hx
          exact (e (by rw [this]; rfl)).elim
        · exact ⟨t, by omega, hx⟩
theorem RI.fresh {f g : Nat → Bool} {i : Nat} {a k : Int} (h : RI f i a g) (hi : i < (memI f 64).length) (hp : NX f 64 a k) : g k.toNat = false := (h.step hi hp).1
theorem RI.next {f g : Nat → Bool} {i : Nat} {a k : Int} (h : RI f i a g) (hi : i < (memI f 64).length) (hp : NX f 64 a k) : RI f (i + 1) k (fun j => if j = k.toNat then true else g j) := (h.step hi hp).2

set_option maxRecDepth 200000 in
set_option maxHeartbeats 4000000 in
theorem bitRound_s (xs : List Int) (rows : List (List AV)) (n cap : Nat) (hn : n = xs.length) (hflat : ∀ row ∈ rows, AV.flatL row = true) (hrows : At iv xs rows) (hw : ∀ x ∈ xs, inI x) (hsz : n * 8 ≤ 140737488351232) (hre : rows = xs.map iv) (frm : Int) :
    CallS Tryd.prog 4 [.sym (.slice 0 1 0 n cap false none), .sym (.int .i64 frm)] (memB [some (.cells false 1 rows)] []) 1 fun v _ _ => v = .bool true := by
  refine CallS.enterS Tryd.func4 (by kernel_rfl) (by decide) ?_
  refine SafeC.join X (α := Sh × List (List AV) × Int) 14 125 [] (fun s => (s.sh 5, s.rows (oP (s.at 6)), oI (s.at 7))) (fun s => [oP (s.at 6), s.nm 5 0])
    (fun a => [none, some (.sym (.int .i64 frm)), none, none, none, some (a.1.av 2 1), some (.ptr 1 64 0 0), some (.sym (.int .i64 a.2.2))])
    (fun a => [some (.cells false 1 rows), some (.cells true 64 a.2.1), a.1.blk 1])
    (fun a => ∃ zs : List Int, a.1.holds iv zs ∧ zs.length ≤ 64 ∧ (∀ z ∈ zs, 0 ≤ z ∧ z < 64) ∧ (0 ≤ a.2.2 ∧ a.2.2.toNat = (memI (hasB zs) 64).length) ∧ ∃ R, AR a.2.1 R (hasB zs)) 2 ?_ ?_
  · cbv
    with_reducible apply awakeT
    cbv
    with_reducible
     refine LoopT.invR X (α := Int × Sh × List (List AV) × Int) 125 [] (fun s => (oI (s.at 8), s.sh 5, s.rows (oP (s.at 6)), oI (s.at 7))) (fun s => [oP (s.at 6), s.nm 5 0])
      (fun a => [some (.sym (.slice 0 1 0 n cap false none)), some (.sym (.int .i64 frm)), none, none, none, some (a.2.1.av 2 1), some (.ptr 1 64 0 0), some (.sym (.int .i64 a.2.2.2)), some (.sym (.int .i64 a.1))])
      (fun a => [some (.cells false 1 rows), some (.cells true 64 a.2.2.1), a.2.1.blk 1])
      (fun a => (0 ≤ a.1 ∧ a.1 ≤ 64) ∧ ∃ zs : List Int, a.2.1.holds iv zs ∧ zs.length = a.1.toNat ∧ (∀ z ∈ zs, 0 ≤ z ∧ z < 64) ∧ (0 ≤ a.2.2.2 ∧ a.2.2.2.toNat = (memI (hasB zs) 64).length) ∧ ∃ R, AR a.2.2.1 R (hasB zs)) (fun a => (64 - a.1).toNat) ?_ ?_
    · cbv
      refine And.intro (HoldAt.mk ?_) (Head.mk ?_ ?_ ?_ ?_ ?_ ?_)
      · exact ⟨⟨Int.le_refl 0, (show (0 : Int) ≤ 64 by decide)⟩, [], rfl, rfl, (fun z hz => absurd hz List.not_mem_nil), ⟨Int.le_refl 0, by rw [cnt0]; rfl⟩, _, newAR⟩
      all_goals cbv
      exact ⟨BlkLe.flat (fun h => h) hflat, BlkLe.flat (fun h => h) newAR.flats, trivial⟩
    · rintro ⟨j, sh, rowsI, many⟩ ⟨⟨j1, j2⟩, zs, hsh, hzl, hall, ⟨hm0, hm⟩, R, hR⟩
      dsimp only at j1 j2 hsh hzl hm0 hm hR
      have hlen := memI_len (hasB zs) 64
      cases sh with
      | nil =>
        have hz0 : zs = [] := hsh
        subst hz0
        simp only [List.length_nil] at hzl
        cbv
        repeat' first
          | with_reducible exact trivial
          | ((with_reducible apply ld hrows); (focus omega); intro x hx; (try (first | (have e := hx.symm.trans hxj; cases e) | have hxj := hx)); cbv)
          | ((with_reducible apply ldRB hR.row); (focus rfl); (focus exact hR.arr _ (by omega)); all_goals ((with_reducible intro hf); (rw [show vb = y.toNat by omega] at hf); cbv))
          | ((with_reducible apply stR hR.row); (focus rfl); (focus rfl); (focus (rw [hR.len]; omega)); (intro rowsI R h0 he hl); (have hR := (hR.set (b := true) (by omega) h0 he hl)); cbv)
          | ((with_reducible intro L' rows' hL hr'); (simp only [List.length_cons, List.length_nil, Nat.zero_add] at hL); cbv)
          | ((with_reducible intro y hy); (have hyb := and_bound (by decide) (by decide) hy); cbv)
          | ((with_reducible intro vb hvb); (have hvb2 : vb = 0 + y.toNat * 1 := hvb); cbv)
          | ((with_reducible intro v0 hv0); (try rw [wrap_i64] at hv0); cbv)
          | ((with_reducible apply uAnd); (focus first | kernel_rfl | omega | (refine And.intro ?_ (And.intro ?_ (Or.inl rfl)) <;> omega) | (simp only [List.length_cons, List.length_nil]; omega)); try cbv)
          | ((with_reducible apply And.intro) <;> (with_reducible intro h) <;> (try simp only [List.length_cons, List.length_nil, Nat.zero_add] at h) <;> first | ((with_reducible exfalso); omega) | ((with_reducible exfalso); simp at h; done) | cbv)
        all_goals first
          | (have hh1 : Sh.holds iv ([] ++ [y]) (Sh.sl 1 1 [[.sym (.int .i64 y)]]) := Holds.one (f := iv) (x := y) rfl rfl
             first
               | have hc := cntT [] hf
               | have hc := cntF [] (show y.toNat < 64 by omega) hf
             refine And.intro (And.intro (HoldAt.mk ?_) True.intro) (Head.mk ?_ ?_ ?_ ?_ ?_ ?_)
             · dsimp only
               refine ⟨⟨⟨by omega, by omega⟩, [] ++ [y], hh1, ?_, ?_, ⟨by omega, by omega⟩, _, AR.add hR (by omega)⟩, by omega⟩
               · simp only [List.length_append, List.length_cons, List.length_nil]; omega
               · intro z hz
                 rcases List.mem_append.1 hz with hz | hz
                 · exact hall z hz
                 · simp only [List.mem_singleton] at hz; subst hz; omega
             all_goals cbv
             exact ⟨BlkLe.flat (fun h => h) hflat, BlkLe.flat (fun h => h) hR.flats, BlkLe.flat (fun h => h) (by simp [AV.flatL, AV.flat]), trivial⟩)
          | (refine And.intro (And.intro (HoldAt.mk ?_) True.intro) (Head.mk ?_ ?_ ?_ ?_ ?_ ?_)
             · exact ⟨[], hsh, Nat.zero_le _, hall, ⟨hm0, hm⟩, _, hR⟩
             all_goals cbv
             exact ⟨BlkLe.flat (fun h => h) hflat, BlkLe.flat (fun h => h) hR.flats, trivial⟩)
      | sl L cap2 rows2 =>
        have hold : Holds iv zs L cap2 rows2 := hsh
        have hL0 := hold.len; have hL1 := hold.full; have hL2 := hold.le
        cbv
        repeat' first
          | with_reducible exact trivial
          | ((with_reducible apply ld hrows); (focus omega); intro x hx; (try (first | (have e := hx.symm.trans hxj; cases e) | have hxj := hx)); cbv)
          | ((with_reducible apply ldRB hR.row); (focus rfl); (focus exact hR.arr _ (by omega)); all_goals ((with_reducible intro hf); (rw [show vb = y.toNat by omega] at hf); cbv))
          | ((with_reducible apply stR hR.row); (focus rfl); (focus rfl); (focus (rw [hR.len]; omega)); (intro rowsI R h0 he hl); (have hR := (hR.set (b := true) (by omega) h0 he hl)); cbv)
          | ((with_reducible intro L' rows' hL hr'); (simp only [List.length_cons, List.length_nil, Nat.zero_add] at hL); cbv)
          | ((with_reducible intro y hy); (have hyb := and_bound (by decide) (by decide) hy); cbv)
          | ((with_reducible intro vb hvb); (have hvb2 : vb = 0 + y.toNat * 1 := hvb); cbv)
          | ((with_reducible intro v0 hv0); (try rw [wrap_i64] at hv0); cbv)
          | ((with_reducible apply uAnd); (focus first | kernel_rfl | omega | (refine And.intro ?_ (And.intro ?_ (Or.inl rfl)) <;> omega) | (simp only [List.length_cons, List.length_nil]; omega)); try cbv)
          | ((with_reducible apply And.intro) <;> (with_reducible intro h) <;> (try simp only [List.length_cons, List.length_nil, Nat.zero_add] at h) <;> first | ((with_reducible exfalso); omega) | ((with_reducible exfalso); simp at h; done) | cbv)
        all_goals first
          | (first
               | have hh := hold.inPlace (x := y) (by rfl) (by assumption) hL hr'
               | have hh := hold.anew (x := y) (by rfl) hL hr'
             first
               | have hc := cntT zs hf
               | have hc := cntF zs (show y.toNat < 64 by omega) hf
             refine And.intro (And.intro (HoldAt.mk ?_) True.intro) (Head.mk ?_ ?_ ?_ ?_ ?_ ?_)
             · dsimp only
               refine ⟨⟨⟨by omega, by omega⟩, zs ++ [y], hh, ?_, ?_, ⟨by omega, by omega⟩, _, AR.add hR (by omega)⟩, by omega⟩
               · simp only [List.length_append, List.length_cons, List.length_nil]; omega
               · intro z hz
                 rcases List.mem_append.1 hz with hz | hz
                 · exact hall z hz
                 · simp only [List.mem_singleton] at hz; subst hz; omega
             all_goals cbv
             exact ⟨BlkLe.flat (fun h => h) hflat, BlkLe.flat (fun h => h) hR.flats, BlkLe.flat (fun h => h) hh.flat, trivial⟩)
          | (refine And.intro (And.intro (HoldAt.mk ?_) True.intro) (Head.mk ?_ ?_ ?_ ?_ ?_ ?_)
             · exact ⟨zs, hsh, by omega, hall, ⟨hm0, hm⟩, _, hR⟩
             all_goals cbv
             exact ⟨BlkLe.flat (fun h => h) hflat, BlkLe.flat (fun h => h) hR.flats, BlkLe.flat (fun h => h) hold.flat, trivial⟩)
  · rintro ⟨sh, rowsI, many⟩ ⟨zs, hsh, hzl, hall, ⟨hm0, hm⟩, R, hR⟩
    dsimp only at hsh hm0 hm hR
    refine SafeC.join X (α := Int × List (List AV) × Int) 17 125 [] (fun s => (oI (s.cell (oP (s.at 10)) 0 0), s.rows (oP (s.at 6)), oI (s.at 7))) (fun s => [oP (s.at 6), oP (s.at 10)])
      (fun a => [none, some (.sym (.int .i64 frm)), none, none, none, none, some (.ptr 1 64 0 0), some (.sym (.int .i64 a.2.2)), none, none, some (.ptr 2 2 0 0)])
      (fun a => [some (.cells false 1 rows), some (.cells true 64 a.2.1), some (.cells true 2 [[.sym (.int .u64 a.1), .sym (.int .i64 64)]])])
      (fun a => WS a.1 64 ∧ (0 ≤ a.2.2 ∧ a.2.2.toNat = (memI (tb a.1) 64).length) ∧ ∃ R, AR a.2.1 R (tb a.1)) 2 ?_ ?_
    · cases sh with
      | nil =>
        have hz0 : zs = [] := hsh
        subst hz0
        cbv
        repeat' first
          | with_reducible exact trivial
          | ((with_reducible apply newNilT rfl rfl); all_goals first
              | ((with_reducible intro hin w hws hbits); (have hR := hR.congr (g := tb w) (fun k _ => (hbits k).symm)); cbv)
              | ((with_reducible intro hnin); (with_reducible exfalso); exact hnin (by decide)))
          | ((with_reducible apply newT rfl rfl rfl hHz (by decide)); all_goals first
              | ((with_reducible intro hin w hws hbits); (have hR := hR.congr (g := tb w) (fun k _ => (hbits k).symm)); cbv)
              | ((with_reducible intro hnin); (with_reducible exfalso); exact hnin ⟨by decide, hall⟩))
          | ((with_reducible apply CallT.enter X Tryd.func10 (by decide)); cbv)
          | ((with_reducible intro v0 hv0); cbv)
          | ((with_reducible apply uAnd); (focus first | kernel_rfl | omega); try cbv)
          | ((with_reducible apply And.intro) <;> (with_reducible intro h) <;> first | ((with_reducible exfalso); omega) | cbv)
        all_goals
          refine And.intro (And.intro (HoldAt.mk ?_) True.intro) (Head.mk ?_ ?_ ?_ ?_ ?_ ?_)
          · exact ⟨hws, ⟨hm0, by rw [memI_congr (f := tb w) (g := hasB _) fun k _ => hbits k]; exact hm⟩, _, hR⟩
          all_goals cbv
          exact ⟨BlkLe.flat (fun h => h) hflat, BlkLe.flat (fun h => h) hR.flats, BlkLe.flat (fun h => h) (WB.flat _ _), trivial⟩
      | sl L cap2 rows2 =>
        have hold : Holds iv zs L cap2 rows2 := hsh
        have hL0 := hold.len; have hL1 := hold.full; have hL2 := hold.le
        have hHz := holds_hat hold (by omega)
        cbv
        repeat' first
          | with_reducible exact trivial
          | ((with_reducible apply newNilT rfl rfl); all_goals first
              | ((with_reducible intro hin w hws hbits); (have hR := hR.congr (g := tb w) (fun k _ => (hbits k).symm)); cbv)
              | ((with_reducible intro hnin); (with_reducible exfalso); exact hnin (by decide)))
          | ((with_reducible apply newT rfl rfl rfl hHz (by decide)); all_goals first
              | ((with_reducible intro hin w hws hbits); (have hR := hR.congr (g := tb w) (fun k _ => (hbits k).symm)); cbv)
              | ((with_reducible intro hnin); (with_reducible exfalso); exact hnin ⟨by decide, hall⟩))
          | ((with_reducible apply CallT.enter X Tryd.func10 (by decide)); cbv)
          | ((with_reducible intro v0 hv0); cbv)
          | ((with_reducible apply uAnd); (focus first | kernel_rfl | omega); try cbv)
          | ((with_reducible apply And.intro) <;> (with_reducible intro h) <;> first | ((with_reducible exfalso); omega) | cbv)
        all_goals
          refine And.intro (And.intro (HoldAt.mk ?_) True.intro) (Head.mk ?_ ?_ ?_ ?_ ?_ ?_)
          · exact ⟨hws, ⟨hm0, by rw [memI_congr (f := tb w) (g := hasB _) fun k _ => hbits k]; exact hm⟩, _, hR⟩
          all_goals cbv
          exact ⟨BlkLe.flat (fun h => h) hflat, BlkLe.flat (fun h => h) hR.flats, BlkLe.flat (fun h => h) (WB.flat _ _), trivial⟩
    · clear hR hsh hall hzl hm hm0
      rintro ⟨w, rowsI, many⟩ ⟨hws, ⟨hm0, hm⟩, R, hR⟩
      dsimp only at hws hm0 hm hR
      have hlen := memI_len (tb w) 64
      refine SafeC.walk X ?_
      cbv
      with_reducible intro a0 ha0
      have ha0b := and_bound (by decide) (by decide) ha0
      clear ha0
      cbv
      with_reducible
       refine LoopT.invS (α := Int × Int × List (List AV)) 125 [] (fun s => (oI (s.at 14), oI (s.at 12), s.rows (oP (s.at 13)))) (fun s => [oP (s.at 6), oP (s.at 10), oP (s.at 13)])
        (fun a => [none, none, none, none, none, none, some (.ptr 1 64 0 0), some (.sym (.int .i64 many)), none, none, some (.ptr 2 2 0 0), none, some (.sym (.int .i64 a.2.1)), some (.ptr 3 64 0 0), some (.sym (.int .i64 a.1))])
        (fun a => [some (.cells false 1 rows), some (.cells true 64 rowsI), some (.cells true 2 [[.sym (.int .u64 w), .sym (.int .i64 64)]]), some (.cells true 64 a.2.2)])
        (fun a => (0 ≤ a.1 ∧ a.1 ≤ many) ∧ ∃ R g, AR a.2.2 R g ∧ RI (tb w) a.1.toNat a.2.1 g) (fun a => (many - a.1).toNat) ?_ ?_
      · cbv
        refine And.intro (HoldAt.mk ?_) (Head.mk ?_ ?_ ?_ ?_ ?_ ?_)
        · exact ⟨⟨Int.le_refl 0, hm0⟩, _, _, newAR, RI.start ha0b⟩
        all_goals cbv
        exact ⟨BlkLe.flat (fun h => h) hflat, BlkLe.flat (fun h => h) hR.flats, BlkLe.flat (fun h => h) (WB.flat _ _), BlkLe.flat (fun h => h) newAR.flats, trivial⟩
      · rintro ⟨i, at0, rowsS⟩ ⟨⟨i1, i2⟩, RS, g, hS, hI⟩
        dsimp only at i1 i2 hS hI
        have hatb := hI.at_
        refine SafeC.join X (α := Int × Int × List (List AV)) 30 125 [] (fun s => (oI (s.at 14), oI (s.at 15), s.rows (oP (s.at 13)))) (fun s => [oP (s.at 6), oP (s.at 10), oP (s.at 13)])
          (fun a => [none, none, none, none, none, none, some (.ptr 1 64 0 0), some (.sym (.int .i64 many)), none, none, some (.ptr 2 2 0 0), none, none, some (.ptr 3 64 0 0), some (.sym (.int .i64 a.1)), some (.sym (.int .i64 a.2.1))])
          (fun a => [some (.cells false 1 rows), some (.cells true 64 rowsI), some (.cells true 2 [[.sym (.int .u64 w), .sym (.int .i64 64)]]), some (.cells true 64 a.2.2)])
          (fun a => (a.1 = i ∧ i < many) ∧ NX (tb w) 64 at0 a.2.1 ∧ ∃ R, AR a.2.2 R g) 3 ?_ ?_
        · cbv
          repeat' first
            | with_reducible exact trivial
            | ((with_reducible apply nextT hws); (focus rfl); (focus rfl); (focus rfl); all_goals first
                | ((with_reducible intro p hp0); (have hp : NX (tb w) 64 at0 p := hp0); (have hpa := hp.1); (have hpb := hp.2.1); cbv)
                | ((with_reducible intro he0); (have he : ∀ j, j < 64 → tb w j = false := he0); (have hz := congrArg List.length (memI_nil.2 he)); (simp only [List.length_nil] at hz); (first | ((with_reducible exfalso); omega) | cbv)))
            | ((with_reducible apply allT hws); (focus rfl); (focus rfl); (focus decide); all_goals first
                | ((with_reducible intro La capa rowsa ha hpa9); (have hla : La = (memI (tb w) 64).length := ha.len); cbv)
                | ((with_reducible intro hna); (have hz9 : (memI (tb w) 64).length = 0 := by (rw [show memI (tb w) 64 = [] from hna]; rfl)); cbv))
            | ((with_reducible apply ldRB hR.row); (focus rfl); (focus exact hR.arr _ (by omega)); all_goals
                ((with_reducible intro hf); (first
                    | ((with_reducible exfalso); exact inT hp.2.2.1 hf (by omega))
                    | cbv)))
            | ((with_reducible apply ldRB hS.row); (focus rfl); (focus exact hS.arr _ (by omega)); all_goals
                ((with_reducible intro hg); (first
                    | ((with_reducible exfalso); exact inT hg (hI.fresh (by omega) hp) (by omega))
                    | cbv)))
            | ((with_reducible intro v0 hv0); (try rw [wrap_i64] at hv0); cbv)
            | ((with_reducible apply uAnd); (focus first | kernel_rfl | omega); try cbv)
            | ((with_reducible apply And.intro) <;> (with_reducible intro h) <;> first | ((with_reducible exfalso); omega) | ((with_reducible exfalso); (have hz8 := hp.pos); omega) | cbv)
          with_reducible
           refine LoopT.invR X (α := Int) 125 [] (fun s => oI (s.at 17)) (fun s => [oP (s.at 6), oP (s.at 10), oP (s.at 13)])
            (fun a => [none, none, none, none, none, none, some (.ptr 1 64 0 0), some (.sym (.int .i64 many)), none, none, some (.ptr 2 2 0 0), none, none, some (.ptr 3 64 0 0), some (.sym (.int .i64 i)), some (.sym (.int .i64 p)), none, some (.sym (.int .i64 a))])
            (fun a => [some (.cells false 1 rows), some (.cells true 64 rowsI), some (.cells true 2 [[.sym (.int .u64 w), .sym (.int .i64 64)]]), some (.cells true 64 rowsS)])
            (fun a => at0 < a) (fun a => (p - a).toNat) ?_ ?_
          · cbv
            refine And.intro (HoldAt.mk ?_) (Head.mk ?_ ?_ ?_ ?_ ?_ ?_)
            · omega
            all_goals cbv
            exact ⟨BlkLe.flat (fun h => h) hflat, BlkLe.flat (fun h => h) hR.flats, BlkLe.flat (fun h => h) (WB.flat _ _), BlkLe.flat (fun h => h) hS.flats, trivial⟩
          · rintro j hj
            cbv
            repeat' first
              | with_reducible exact trivial
              | ((with_reducible apply ldRB hR.row); (focus rfl); (focus exact hR.arr _ (by omega)); all_goals
                  ((with_reducible intro hf); (first
                      | ((with_reducible exfalso); exact hp.gap (by omega) (by omega) (by omega) hf)
                      | cbv)))
              | ((with_reducible intro v0 hv0); (try rw [wrap_i64] at hv0); cbv)
              | ((with_reducible apply uAnd); (focus first | kernel_rfl | omega); try cbv)
              | ((with_reducible apply And.intro) <;> (with_reducible intro h) <;> first | ((with_reducible exfalso); omega) | cbv)
            all_goals first
              | (refine And.intro (And.intro (HoldAt.mk ?_) True.intro) (Head.mk ?_ ?_ ?_ ?_ ?_ ?_)
                 · exact ⟨by omega, by omega⟩
                 all_goals cbv
                 exact ⟨BlkLe.flat (fun h => h) hflat, BlkLe.flat (fun h => h) hR.flats, BlkLe.flat (fun h => h) (WB.flat _ _), BlkLe.flat (fun h => h) hS.flats, trivial⟩)
              | (refine And.intro (And.intro (HoldAt.mk ?_) True.intro) (Head.mk ?_ ?_ ?_ ?_ ?_ ?_)
                 · exact ⟨⟨rfl, by omega⟩, hp, _, hS⟩
                 all_goals cbv
                 exact ⟨BlkLe.flat (fun h => h) hflat, BlkLe.flat (fun h => h) hR.flats, BlkLe.flat (fun h => h) (WB.flat _ _), BlkLe.flat (fun h => h) hS.flats, trivial⟩)
        · clear hS
          rintro ⟨i', p, rowsS⟩ ⟨⟨e1, e2⟩, hp, RS, hS⟩
          dsimp only at e1 hp hS
          have hpa := hp.1; have hpb := hp.2.1
          refine SafeC.walk X ?_
          cbv
          repeat' first
            | ((with_reducible apply stR hS.row); (focus rfl); (focus rfl); (focus (rw [hS.len]; omega)); (intro rowsS RS h0 he hl); (have hS := (hS.set (b := true) (by omega) h0 he hl)); cbv)
            | ((with_reducible intro v0 hv0); (try rw [wrap_i64] at hv0); cbv)
            | ((with_reducible apply uAnd); (focus first | kernel_rfl | omega); try cbv)
          all_goals
            refine And.intro (And.intro (HoldAt.mk ?_) True.intro) (Head.mk ?_ ?_ ?_ ?_ ?_ ?_)
            · dsimp only
              refine ⟨⟨⟨by omega, by omega⟩, _, _, hS, ?_⟩, by omega⟩
              have h5 := hI.next (by omega) hp
              rw [show v0.toNat = i.toNat + 1 by omega]
              exact h5.congr fun k hk => by
                by_cases e : k = p.toNat
                · rw [if_pos e, if_pos (by omega)]
                · rw [if_neg e, if_neg (by omega)]
            all_goals cbv
            exact ⟨BlkLe.flat (fun h => h) hflat, BlkLe.flat (fun h => h) hR.flats, BlkLe.flat (fun h => h) (WB.flat _ _), BlkLe.flat (fun h => h) hS.flats, trivial⟩

set_option maxRecDepth 200000 in
set_option maxHeartbeats 4000000 in
theorem bitRound_n  (frm : Int) :
    CallS Tryd.prog 4 [.nilslice, .sym (.int .i64 frm)] (memB [] []) 0 fun v _ _ => v = .bool true := by
  refine CallS.enterS Tryd.func4 (by kernel_rfl) (by decide) ?_
  refine SafeC.join X (α := Sh × List (List AV) × Int) 14 125 [] (fun s => (s.sh 5, s.rows (oP (s.at 6)), oI (s.at 7))) (fun s => [oP (s.at 6), s.nm 5 0])
    (fun a => [none, some (.sym (.int .i64 frm)), none, none, none, some (a.1.av 1 1), some (.ptr 0 64 0 0), some (.sym (.int .i64 a.2.2))])
    (fun a => [some (.cells true 64 a.2.1), a.1.blk 1])
    (fun a => ∃ zs : List Int, a.1.holds iv zs ∧ zs.length ≤ 64 ∧ (∀ z ∈ zs, 0 ≤ z ∧ z < 64) ∧ (0 ≤ a.2.2 ∧ a.2.2.toNat = (memI (hasB zs) 64).length) ∧ ∃ R, AR a.2.1 R (hasB zs)) 2 ?_ ?_
  · cbv
    with_reducible apply awakeT
    cbv
    with_reducible
     refine LoopT.invR X (α := Int × Sh × List (List AV) × Int) 125 [] (fun s => (oI (s.at 8), s.sh 5, s.rows (oP (s.at 6)), oI (s.at 7))) (fun s => [oP (s.at 6), s.nm 5 0])
      (fun a => [some (.nilslice), some (.sym (.int .i64 frm)), none, none, none, some (a.2.1.av 1 1), some (.ptr 0 64 0 0), some (.sym (.int .i64 a.2.2.2)), some (.sym (.int .i64 a.1))])
      (fun a => [some (.cells true 64 a.2.2.1), a.2.1.blk 1])
      (fun a => (0 ≤ a.1 ∧ a.1 ≤ 64) ∧ ∃ zs : List Int, a.2.1.holds iv zs ∧ zs.length = a.1.toNat ∧ (∀ z ∈ zs, 0 ≤ z ∧ z < 64) ∧ (0 ≤ a.2.2.2 ∧ a.2.2.2.toNat = (memI (hasB zs) 64).length) ∧ ∃ R, AR a.2.2.1 R (hasB zs)) (fun a => (64 - a.1).toNat) ?_ ?_
    · cbv
      refine And.intro (HoldAt.mk ?_) (Head.mk ?_ ?_ ?_ ?_ ?_ ?_)
      · exact ⟨⟨Int.le_refl 0, (show (0 : Int) ≤ 64 by decide)⟩, [], rfl, rfl, (fun z hz => absurd hz List.not_mem_nil), ⟨Int.le_refl 0, by rw [cnt0]; rfl⟩, _, newAR⟩
      all_goals cbv
      exact ⟨BlkLe.flat (fun h => h) newAR.flats, trivial⟩
    · rintro ⟨j, sh, rowsI, many⟩ ⟨⟨j1, j2⟩, zs, hsh, hzl, hall, ⟨hm0, hm⟩, R, hR⟩
      dsimp only at j1 j2 hsh hzl hm0 hm hR
      have hlen := memI_len (hasB zs) 64
      cases sh with
      | nil =>
        have hz0 : zs = [] := hsh
        subst hz0
        simp only [List.length_nil] at hzl
        cbv
        repeat' first
          | with_reducible exact trivial
          | ((with_reducible apply ld hrows); (focus omega); intro x hx; (try (first | (have e := hx.symm.trans hxj; cases e) | have hxj := hx)); cbv)
          | ((with_reducible apply ldRB hR.row); (focus rfl); (focus exact hR.arr _ (by omega)); all_goals ((with_reducible intro hf); (rw [show vb = y.toNat by omega] at hf); cbv))
          | ((with_reducible apply stR hR.row); (focus rfl); (focus rfl); (focus (rw [hR.len]; omega)); (intro rowsI R h0 he hl); (have hR := (hR.set (b := true) (by omega) h0 he hl)); cbv)
          | ((with_reducible intro L' rows' hL hr'); (simp only [List.length_cons, List.length_nil, Nat.zero_add] at hL); cbv)
          | ((with_reducible intro y hy); (have hyb := and_bound (by decide) (by decide) hy); cbv)
          | ((with_reducible intro vb hvb); (have hvb2 : vb = 0 + y.toNat * 1 := hvb); cbv)
          | ((with_reducible intro v0 hv0); (try rw [wrap_i64] at hv0); cbv)
          | ((with_reducible apply uAnd); (focus first | kernel_rfl | omega | (refine And.intro ?_ (And.intro ?_ (Or.inl rfl)) <;> omega) | (simp only [List.length_cons, List.length_nil]; omega)); try cbv)
          | ((with_reducible apply And.intro) <;> (with_reducible intro h) <;> (try simp only [List.length_cons, List.length_nil, Nat.zero_add] at h) <;> first | ((with_reducible exfalso); omega) | ((with_reducible exfalso); simp at h; done) | cbv)
        all_goals first
          | (have hh1 : Sh.holds iv ([] ++ [y]) (Sh.sl 1 1 [[.sym (.int .i64 y)]]) := Holds.one (f := iv) (x := y) rfl rfl
             first
               | have hc := cntT [] hf
               | have hc := cntF [] (show y.toNat < 64 by omega) hf
             refine And.intro (And.intro (HoldAt.mk ?_) True.intro) (Head.mk ?_ ?_ ?_ ?_ ?_ ?_)
             · dsimp only
               refine ⟨⟨⟨by omega, by omega⟩, [] ++ [y], hh1, ?_, ?_, ⟨by omega, by omega⟩, _, AR.add hR (by omega)⟩, by omega⟩
               · simp only [List.length_append, List.length_cons, List.length_nil]; omega
               · intro z hz
                 rcases List.mem_append.1 hz with hz | hz
                 · exact hall z hz
                 · simp only [List.mem_singleton] at hz; subst hz; omega
             all_goals cbv
             exact ⟨BlkLe.flat (fun h => h) hR.flats, BlkLe.flat (fun h => h) (by simp [AV.flatL, AV.flat]), trivial⟩)
          | (refine And.intro (And.intro (HoldAt.mk ?_) True.intro) (Head.mk ?_ ?_ ?_ ?_ ?_ ?_)
             · exact ⟨[], hsh, Nat.zero_le _, hall, ⟨hm0, hm⟩, _, hR⟩
             all_goals cbv
             exact ⟨BlkLe.flat (fun h => h) hR.flats, trivial⟩)
      | sl L cap2 rows2 =>
        have hold : Holds iv zs L cap2 rows2 := hsh
        have hL0 := hold.len; have hL1 := hold.full; have hL2 := hold.le
        cbv
        repeat' first
          | with_reducible exact trivial
          | ((with_reducible apply ld hrows); (focus omega); intro x hx; (try (first | (have e := hx.symm.trans hxj; cases e) | have hxj := hx)); cbv)
          | ((with_reducible apply ldRB hR.row); (focus rfl); (focus exact hR.arr _ (by omega)); all_goals ((with_reducible intro hf); (rw [show vb = y.toNat by omega] at hf); cbv))
          | ((with_reducible apply stR hR.row); (focus rfl); (focus rfl); (focus (rw [hR.len]; omega)); (intro rowsI R h0 he hl); (have hR := (hR.set (b := true) (by omega) h0 he hl)); cbv)
          | ((with_reducible intro L' rows' hL hr'); (simp only [List.length_cons, List.length_nil, Nat.zero_add] at hL); cbv)
          | ((with_reducible intro y hy); (have hyb := and_bound (by decide) (by decide) hy); cbv)
          | ((with_reducible intro vb hvb); (have hvb2 : vb = 0 + y.toNat * 1 := hvb); cbv)
          | ((with_reducible intro v0 hv0); (try rw [wrap_i64] at hv0); cbv)
          | ((with_reducible apply uAnd); (focus first | kernel_rfl | omega | (refine And.intro ?_ (And.intro ?_ (Or.inl rfl)) <;> omega) | (simp only [List.length_cons, List.length_nil]; omega)); try cbv)
          | ((with_reducible apply And.intro) <;> (with_reducible intro h) <;> (try simp only [List.length_cons, List.length_nil, Nat.zero_add] at h) <;> first | ((with_reducible exfalso); omega) | ((with_reducible exfalso); simp at h; done) | cbv)
        all_goals first
          | (first
               | have hh := hold.inPlace (x := y) (by rfl) (by assumption) hL hr'
               | have hh := hold.anew (x := y) (by rfl) hL hr'
             first
               | have hc := cntT zs hf
               | have hc := cntF zs (show y.toNat < 64 by omega) hf
             refine And.intro (And.intro (HoldAt.mk ?_) True.intro) (Head.mk ?_ ?_ ?_ ?_ ?_ ?_)
             · dsimp only
               refine ⟨⟨⟨by omega, by omega⟩, zs ++ [y], hh, ?_, ?_, ⟨by omega, by omega⟩, _, AR.add hR (by omega)⟩, by omega⟩
               · simp only [List.length_append, List.length_cons, List.length_nil]; omega
               · intro z hz
                 rcases List.mem_append.1 hz with hz | hz
                 · exact hall z hz
                 · simp only [List.mem_singleton] at hz; subst hz; omega
             all_goals cbv
             exact ⟨BlkLe.flat (fun h => h) hR.flats, BlkLe.flat (fun h => h) hh.flat, trivial⟩)
          | (refine And.intro (And.intro (HoldAt.mk ?_) True.intro) (Head.mk ?_ ?_ ?_ ?_ ?_ ?_)
             · exact ⟨zs, hsh, by omega, hall, ⟨hm0, hm⟩, _, hR⟩
             all_goals cbv
             exact ⟨BlkLe.flat (fun h => h) hR.flats, BlkLe.flat (fun h => h) hold.flat, trivial⟩)
  · rintro ⟨sh, rowsI, many⟩ ⟨zs, hsh, hzl, hall, ⟨hm0, hm⟩, R, hR⟩
    dsimp only at hsh hm0 hm hR
    refine SafeC.join X (α := Int × List (List AV) × Int) 17 125 [] (fun s => (oI (s.cell (oP (s.at 10)) 0 0), s.rows (oP (s.at 6)), oI (s.at 7))) (fun s => [oP (s.at 6), oP (s.at 10)])
      (fun a => [none, some (.sym (.int .i64 frm)), none, none, none, none, some (.ptr 0 64 0 0), some (.sym (.int .i64 a.2.2)), none, none, some (.ptr 1 2 0 0)])
      (fun a => [some (.cells true 64 a.2.1), some (.cells true 2 [[.sym (.int .u64 a.1), .sym (.int .i64 64)]])])
      (fun a => WS a.1 64 ∧ (0 ≤ a.2.2 ∧ a.2.2.toNat = (memI (tb a.1) 64).length) ∧ ∃ R, AR a.2.1 R (tb a.1)) 2 ?_ ?_
    · cases sh with
      | nil =>
        have hz0 : zs = [] := hsh
        subst hz0
        cbv
        repeat' first
          | with_reducible exact trivial
          | ((with_reducible apply newNilT rfl rfl); all_goals first
              | ((with_reducible intro hin w hws hbits); (have hR := hR.congr (g := tb w) (fun k _ => (hbits k).symm)); cbv)
              | ((with_reducible intro hnin); (with_reducible exfalso); exact hnin (by decide)))
          | ((with_reducible apply newT rfl rfl rfl hHz (by decide)); all_goals first
              | ((with_reducible intro hin w hws hbits); (have hR := hR.congr (g := tb w) (fun k _ => (hbits k).symm)); cbv)
              | ((with_reducible intro hnin); (with_reducible exfalso); exact hnin ⟨by decide, hall⟩))
          | ((with_reducible apply CallT.enter X Tryd.func10 (by decide)); cbv)
          | ((with_reducible intro v0 hv0); cbv)
          | ((with_reducible apply uAnd); (focus first | kernel_rfl | omega); try cbv)
          | ((with_reducible apply And.intro) <;> (with_reducible intro h) <;> first | ((with_reducible exfalso); omega) | cbv)
        all_goals
          refine And.intro (And.intro (HoldAt.mk ?_) True.intro) (Head.mk ?_ ?_ ?_ ?_ ?_ ?_)
          · exact ⟨hws, ⟨hm0, by rw [memI_congr (f := tb w) (g := hasB _) fun k _ => hbits k]; exact hm⟩, _, hR⟩
          all_goals cbv
          exact ⟨BlkLe.flat (fun h => h) hR.flats, BlkLe.flat (fun h => h) (WB.flat _ _), trivial⟩
      | sl L cap2 rows2 =>
        have hold : Holds iv zs L cap2 rows2 := hsh
        have hL0 := hold.len; have hL1 := hold.full; have hL2 := hold.le
        have hHz := holds_hat hold (by omega)
        cbv
        repeat' first
          | with_reducible exact trivial
          | ((with_reducible apply newNilT rfl rfl); all_goals first
              | ((with_reducible intro hin w hws hbits); (have hR := hR.congr (g := tb w) (fun k _ => (hbits k).symm)); cbv)
              | ((with_reducible intro hnin); (with_reducible exfalso); exact hnin (by decide)))
          | ((with_reducible apply newT rfl rfl rfl hHz (by decide)); all_goals first
              | ((with_reducible intro hin w hws hbits); (have hR := hR.congr (g := tb w) (fun k _ => (hbits k).symm)); cbv)
              | ((with_reducible intro hnin); (with_reducible exfalso); exact hnin ⟨by decide, hall⟩))
          | ((with_reducible apply CallT.enter X Tryd.func10 (by decide)); cbv)
          | ((with_reducible intro v0 hv0); cbv)
          | ((with_reducible apply uAnd); (focus first | kernel_rfl | omega); try cbv)
          | ((with_reducible apply And.intro) <;> (with_reducible intro h) <;> first | ((with_reducible exfalso); omega) | cbv)
        all_goals
          refine And.intro (And.intro (HoldAt.mk ?_) True.intro) (Head.mk ?_ ?_ ?_ ?_ ?_ ?_)
          · exact ⟨hws, ⟨hm0, by rw [memI_congr (f := tb w) (g := hasB _) fun k _ => hbits k]; exact hm⟩, _, hR⟩
          all_goals cbv
          exact ⟨BlkLe.flat (fun h => h) hR.flats, BlkLe.flat (fun h => h) (WB.flat _ _), trivial⟩
    · clear hR hsh hall hzl hm hm0
      rintro ⟨w, rowsI, many⟩ ⟨hws, ⟨hm0, hm⟩, R, hR⟩
      dsimp only at hws hm0 hm hR
      have hlen := memI_len (tb w) 64
      refine SafeC.walk X ?_
      cbv
      with_reducible intro a0 ha0
      have ha0b := and_bound (by decide) (by decide) ha0
      clear ha0
      cbv
      with_reducible
       refine LoopT.invS (α := Int × Int × List (List AV)) 125 [] (fun s => (oI (s.at 14), oI (s.at 12), s.rows (oP (s.at 13)))) (fun s => [oP (s.at 6), oP (s.at 10), oP (s.at 13)])
        (fun a => [none, none, none, none, none, none, some (.ptr 0 64 0 0), some (.sym (.int .i64 many)), none, none, some (.ptr 1 2 0 0), none, some (.sym (.int .i64 a.2.1)), some (.ptr 2 64 0 0), some (.sym (.int .i64 a.1))])
        (fun a => [some (.cells true 64 rowsI), some (.cells true 2 [[.sym (.int .u64 w), .sym (.int .i64 64)]]), some (.cells true 64 a.2.2)])
        (fun a => (0 ≤ a.1 ∧ a.1 ≤ many) ∧ ∃ R g, AR a.2.2 R g ∧ RI (tb w) a.1.toNat a.2.1 g) (fun a => (many - a.1).toNat) ?_ ?_
      · cbv
        refine And.intro (HoldAt.mk ?_) (Head.mk ?_ ?_ ?_ ?_ ?_ ?_)
        · exact ⟨⟨Int.le_refl 0, hm0⟩, _, _, newAR, RI.start ha0b⟩
        all_goals cbv
        exact ⟨BlkLe.flat (fun h => h) hR.flats, BlkLe.flat (fun h => h) (WB.flat _ _), BlkLe.flat (fun h => h) newAR.flats, trivial⟩
      · rintro ⟨i, at0, rowsS⟩ ⟨⟨i1, i2⟩, RS, g, hS, hI⟩
        dsimp only at i1 i2 hS hI
        have hatb := hI.at_
        refine SafeC.join X (α := Int × Int × List (List AV)) 30 125 [] (fun s => (oI (s.at 14), oI (s.at 15), s.rows (oP (s.at 13)))) (fun s => [oP (s.at 6), oP (s.at 10), oP (s.at 13)])
          (fun a => [none, none, none, none, none, none, some (.ptr 0 64 0 0), some (.sym (.int .i64 many)), none, none, some (.ptr 1 2 0 0), none, none, some (.ptr 2 64 0 0), some (.sym (.int .i64 a.1)), some (.sym (.int .i64 a.2.1))])
          (fun a => [some (.cells true 64 rowsI), some (.cells true 2 [[.sym (.int .u64 w), .sym (.int .i64 64)]]), some (.cells true 64 a.2.2)])
          (fun a => (a.1 = i ∧ i < many) ∧ NX (tb w) 64 at0 a.2.1 ∧ ∃ R, AR a.2.2 R g) 3 ?_ ?_
        · cbv
          repeat' first
            | with_reducible exact trivial
            | ((with_reducible apply nextT hws); (focus rfl); (focus rfl); (focus rfl); all_goals first
                | ((with_reducible intro p hp0); (have hp : NX (tb w) 64 at0 p := hp0); (have hpa := hp.1); (have hpb := hp.2.1); cbv)
                | ((with_reducible intro he0); (have he : ∀ j, j < 64 → tb w j = false := he0); (have hz := congrArg List.length (memI_nil.2 he)); (simp only [List.length_nil] at hz); (first | ((with_reducible exfalso); omega) | cbv)))
            | ((with_reducible apply allT hws); (focus rfl); (focus rfl); (focus decide); all_goals first
                | ((with_reducible intro La capa rowsa ha hpa9); (have hla : La = (memI (tb w) 64).length := ha.len); cbv)
                | ((with_reducible intro hna); (have hz9 : (memI (tb w) 64).length = 0 := by (rw [show memI (tb w) 64 = [] from hna]; rfl)); cbv))
            | ((with_reducible apply ldRB hR.row); (focus rfl); (focus exact hR.arr _ (by omega)); all_goals
                ((with_reducible intro hf); (first
                    | ((with_reducible exfalso); exact inT hp.2.2.1 hf (by omega))
                    | cbv)))
            | ((with_reducible apply ldRB hS.row); (focus rfl); (focus exact hS.arr _ (by omega)); all_goals
                ((with_reducible intro hg); (first
                    | ((with_reducible exfalso); exact inT hg (hI.fresh (by omega) hp) (by omega))
                    | cbv)))
            | ((with_reducible intro v0 hv0); (try rw [wrap_i64] at hv0); cbv)
            | ((with_reducible apply uAnd); (focus first | kernel_rfl | omega); try cbv)
            | ((with_reducible apply And.intro) <;> (with_reducible intro h) <;> first | ((with_reducible exfalso); omega) | ((with_reducible exfalso); (have hz8 := hp.pos); omega) | cbv)
          with_reducible
           refine LoopT.invR X (α := Int) 125 [] (fun s => oI (s.at 17)) (fun s => [oP (s.at 6), oP (s.at 10), oP (s.at 13)])
            (fun a => [none, none, none, none, none, none, some (.ptr 0 64 0 0), some (.sym (.int .i64 many)), none, none, some (.ptr 1 2 0 0), none, none, some (.ptr 2 64 0 0), some (.sym (.int .i64 i)), some (.sym (.int .i64 p)), none, some (.sym (.int .i64 a))])
            (fun a => [some (.cells true 64 rowsI), some (.cells true 2 [[.sym (.int .u64 w), .sym (.int .i64 64)]]), some (.cells true 64 rowsS)])
            (fun a => at0 < a) (fun a => (p - a).toNat) ?_ ?_
          · cbv
            refine And.intro (HoldAt.mk ?_) (Head.mk ?_ ?_ ?_ ?_ ?_ ?_)
            · omega
            all_goals cbv
            exact ⟨BlkLe.flat (fun h => h) hR.flats, BlkLe.flat (fun h => h) (WB.flat _ _), BlkLe.flat (fun h => h) hS.flats, trivial⟩
          · rintro j hj
            cbv
            repeat' first
              | with_reducible exact trivial
              | ((with_reducible apply ldRB hR.row); (focus rfl); (focus exact hR.arr _ (by omega)); all_goals
                  ((with_reducible intro hf); (first
                      | ((with_reducible exfalso); exact hp.gap (by omega) (by omega) (by omega) hf)
                      | cbv)))
              | ((with_reducible intro v0 hv0); (try rw [wrap_i64] at hv0); cbv)
              | ((with_reducible apply uAnd); (focus first | kernel_rfl | omega); try cbv)
              | ((with_reducible apply And.intro) <;> (with_reducible intro h) <;> first | ((with_reducible exfalso); omega) | cbv)
            all_goals first
              | (refine And.intro (And.intro (HoldAt.mk ?_) True.intro) (Head.mk ?_ ?_ ?_ ?_ ?_ ?_)
                 · exact ⟨by omega, by omega⟩
                 all_goals cbv
                 exact ⟨BlkLe.flat (fun h => h) hR.flats, BlkLe.flat (fun h => h) (WB.flat _ _), BlkLe.flat (fun h => h) hS.flats, trivial⟩)
              | (refine And.intro (And.intro (HoldAt.mk ?_) True.intro) (Head.mk ?_ ?_ ?_ ?_ ?_ ?_)
                 · exact ⟨⟨rfl, by omega⟩, hp, _, hS⟩
                 all_goals cbv
                 exact ⟨BlkLe.flat (fun h => h) hR.flats, BlkLe.flat (fun h => h) (WB.flat _ _), BlkLe.flat (fun h => h) hS.flats, trivial⟩)
        · clear hS
          rintro ⟨i', p, rowsS⟩ ⟨⟨e1, e2⟩, hp, RS, hS⟩
          dsimp only at e1 hp hS
          have hpa := hp.1; have hpb := hp.2.1
          refine SafeC.walk X ?_
          cbv
          repeat' first
            | ((with_reducible apply stR hS.row); (focus rfl); (focus rfl); (focus (rw [hS.len]; omega)); (intro rowsS RS h0 he hl); (have hS := (hS.set (b := true) (by omega) h0 he hl)); cbv)
            | ((with_reducible intro v0 hv0); (try rw [wrap_i64] at hv0); cbv)
            | ((with_reducible apply uAnd); (focus first | kernel_rfl | omega); try cbv)
          all_goals
            refine And.intro (And.intro (HoldAt.mk ?_) True.intro) (Head.mk ?_ ?_ ?_ ?_ ?_ ?_)
            · dsimp only
              refine ⟨⟨⟨by omega, by omega⟩, _, _, hS, ?_⟩, by omega⟩
              have h5 := hI.next (by omega) hp
              rw [show v0.toNat = i.toNat + 1 by omega]
              exact h5.congr fun k hk => by
                by_cases e : k = p.toNat
                · rw [if_pos e, if_pos (by omega)]
                · rw [if_neg e, if_neg (by omega)]
            all_goals cbv
            exact ⟨BlkLe.flat (fun h => h) hR.flats, BlkLe.flat (fun h => h) (WB.flat _ _), BlkLe.flat (fun h => h) hS.flats, trivial⟩
end Go.Proofs.YtkpddpdhpffhbaaDoor.Bit
