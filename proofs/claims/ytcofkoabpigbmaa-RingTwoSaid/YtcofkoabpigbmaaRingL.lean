/- The law RingTwo returns true at any input. -/
import Derived.Test.YtcofkoabpigbmaaRingC
import Derived.Test.YtcofkoabpigbmaaSpoil
import Derived.Test.YtcofkoabpigbmaaAb42
namespace Go.Proofs.Ytcofkoabpigbmaa.Ring
open Go.Ab Base Kit
set_option linter.unusedVariables false
set_option linter.unusedSimpArgs false

set_option maxRecDepth 200000 in
set_option maxHeartbeats 4000000 in
theorem ringTwo (xs : List Int) (rows : List (List AV)) (n cap : Nat) (hn : n = xs.length) (hflat : ∀ row ∈ rows, AV.flatL row = true) (hrows : At iv xs rows) (hw : ∀ x ∈ xs, inI x) (hsz : n * 8 ≤ 140737488351232) :
    CallS Try.prog 6 [.sym (.slice 0 1 0 n cap false none)] (memB [some (.cells false 1 rows)] []) 1 fun v _ _ => v = .bool true := by
  have hrl : ∀ j : Nat, j < n → j < xs.length := fun j h => by omega
  refine CallS.enter X Try.func6 (by decide) ?_
  cbv
  with_reducible apply awakeT
  cbv
  with_reducible apply newT 5
  focus rfl
  rotate_left
  · intro hb; omega
  with_reducible intro hb rowsA RA aA fA mA hRA hQA
  cbv
  with_reducible apply newT 5
  focus rfl
  rotate_left
  · intro hb; omega
  with_reducible intro hb2 rowsB RB aB fB mB hRB hQB
  cbv
  repeat' first
    | ((with_reducible apply CallT.enter X Try.func9 (by decide)); cbv)
    | ((with_reducible apply uAnd); (focus first | kernel_rfl | omega); try cbv)
  with_reducible
   refine LoopT.invR X (α := Int × List (List AV) × List (List AV) × Sh) 90 [] (fun s => (oI (s.at 8), s.rows (oP (s.at 3)), s.rows (oP (s.at 5)), s.sh 7)) (fun s => [oP (s.at 3), oP (s.at 5), s.nm 7 0])
    (fun a => [some (.sym (.slice 0 1 0 n cap false none)), none, none, some (.ptr 1 67 0 0), none, some (.ptr 2 67 0 0), none, some (a.2.2.2.av 3 1), some (.sym (.int .i64 a.1))])
    (fun a => [some (.cells false 1 rows), some (.cells true 67 a.2.1), some (.cells true 67 a.2.2.1), a.2.2.2.blk 1])
    (fun a => 0 ≤ a.1 ∧ a.1 ≤ 60 ∧ (∃ q, (∃ R ar f mm, RR a.2.1 R ar 5 f mm ∧ QQ ar 5 f mm q) ∧ a.2.2.2.holds iv q) ∧ ∃ R ar f mm, RR a.2.2.1 R ar 5 f mm ∧ QQ ar 5 f mm []) (fun a => (60 - a.1).toNat) ?_ ?_
  · cbv
    refine And.intro (HoldAt.mk ?_) (Head.mk ?_ ?_ ?_ ?_ ?_ ?_)
    · exact ⟨Int.le_refl 0, (show (0 : Int) ≤ 60 by decide), ⟨[], ⟨_, _, _, _, hRA, hQA⟩, rfl⟩, _, _, _, _, hRB, hQB⟩
    all_goals cbv
    exact ⟨BlkLe.flat (fun h => h) hflat, BlkLe.flat (fun h => h) hRA.flats, BlkLe.flat (fun h => h) hRB.flats, trivial⟩
  · clear hRA hQA hRB hQB
    rintro ⟨j, rA, rB, sh⟩ ⟨j1, j2, ⟨q, ⟨RA, aA, fA, mA, hRA, hQA⟩, hsh⟩, ⟨RB, aB, fB, mB, hRB, hQB⟩⟩
    dsimp only at j1 j2 hRA hQA hRB hQB hsh
    have hm1 := hQA.m1; have hm2 := hQA.m2; have hle := hQA.le
    cases sh with
    | nil =>
      have hq : q = [] := hsh
      subst hq
      simp only [List.length_nil] at hm2
      cbv
      repeat' first
        | with_reducible exact trivial
        | ((with_reducible apply pushT x hRA hQA); (focus rfl); (focus rfl); (focus rfl); (focus decide); all_goals first
            | ((with_reducible intro he y q2 hq rowsA' RA' aA' fA' mA' hRA hQA); (with_reducible exfalso); omega)
            | ((with_reducible intro hlt rowsA' RA' aA' fA' mA' hRA hQA); (have hN := Holds.one (f := iv) (x := x) (by rfl) rfl); cbv))
        | ((with_reducible apply allT hRA hQA); (focus rfl); (focus rfl); (focus decide); all_goals first
            | ((with_reducible intro Lx capx rowsx hx); cbv)
            | ((with_reducible intro hq0); (with_reducible exfalso); simp at hq0; done)
            | ((with_reducible intro hq0); cbv))
        | ((with_reducible apply allT hRB hQB); (focus rfl); (focus rfl); (focus decide); all_goals first
            | ((with_reducible intro Lx capx rowsx hx); (have hx0 := hx.len); simp only [List.length_nil] at hx0; cbv)
            | ((with_reducible intro hq0); cbv))
        | ((with_reducible apply popT hRB hQB); (focus rfl); (focus rfl); (focus decide); all_goals first
            | ((with_reducible intro x0 q0 hq0); (with_reducible exfalso); cases hq0; done)
            | ((with_reducible intro hq0 rowsB' RB' aB' fB' mB' hRB' hQB'); cbv))
        | ((with_reducible apply spoilT hx (by (have := hx.len; simp at this; omega))); (focus rfl); (focus rfl); (focus decide); (with_reducible intro ys' rowsx' hx'); cbv)
        | ((with_reducible apply spoilNilT); (focus rfl); cbv)
        | ((with_reducible apply sameIntsT (xs := [] ++ [x]) (ys := [] ++ [x])); (focus exact hx.sl rfl rfl (by (have := hx.len; simp at this; omega))); (focus exact hN.sl rfl rfl (by (have := hx.len; simp at this; omega))); all_goals first
            | ((with_reducible intro hne); (with_reducible exfalso); exact hne rfl)
            | ((with_reducible intro _); cbv))
        | ((with_reducible apply ld hrows); (focus omega); intro x hx; rw [show v = j.toNat by omega] at hx; (first | (have e := hx.symm.trans hxj; cases e) | have hxj := hx); cbv)
        | ((with_reducible intro hlc i1 len1 cap1 hi1 hl1 hc1); cbv)
        | ((with_reducible intro L' rows' hL hr'); (simp only [List.length_cons, List.length_nil, Nat.zero_add] at hL); cbv)
        | ((with_reducible intro v hv); (try rw [wrap_i64] at hv); cbv)
        | ((with_reducible apply uAnd); (focus first | kernel_rfl | omega | (simp; done) | (refine And.intro ?_ (And.intro ?_ (Or.inl rfl)) <;> omega) | (simp only [List.length_cons, List.length_nil]; omega)); try cbv)
        | ((with_reducible apply And.intro) <;> (with_reducible intro h) <;> (try simp only [List.length_cons, List.length_nil, Nat.zero_add] at h) <;> (try (have hz := congrArg List.length h; rw [List.length_nil] at hz)) <;> (try (have hz2 := List.length_pos_iff.2 h)) <;> first | ((with_reducible exfalso); omega) | ((with_reducible exfalso); simp at h; done) | cbv)
        | ((with_reducible intro h); (with_reducible exfalso); omega)
      all_goals
        refine And.intro (And.intro (HoldAt.mk ?_) True.intro) (Head.mk ?_ ?_ ?_ ?_ ?_ ?_)
        · dsimp only
          exact ⟨⟨by omega, by omega, ⟨_, ⟨_, _, _, _, hRA, hQA⟩, hN⟩, _, _, _, _, hRB, hQB⟩, by omega⟩
        all_goals cbv
        exact ⟨BlkLe.flat (fun h => h) hflat, BlkLe.flat (fun h => h) hRA.flats, BlkLe.flat (fun h => h) hRB.flats, BlkLe.flat (fun h => h) hN.flat, trivial⟩
    | sl L cap2 rows2 =>
      have hold : Holds iv q L cap2 rows2 := hsh
      have hL0 := hold.len; have hL1 := hold.full; have hL2 := hold.le
      cbv
      repeat' first
        | with_reducible exact trivial
        | ((with_reducible apply pushT x hRA hQA); (focus rfl); (focus rfl); (focus rfl); (focus decide); all_goals first
            | ((with_reducible intro he y q2 hq rowsA' RA' aA' fA' mA' hRA hQA); (have hqx : q.length = q2.length + 1 := by rw [hq]; rfl); cbv)
            | ((with_reducible intro hlt rowsA' RA' aA' fA' mA' hRA hQA); cbv))
        | ((with_reducible apply allT hRA hQA); (focus rfl); (focus rfl); (focus decide); all_goals first
            | ((with_reducible intro Lx capx rowsx hx); cbv)
            | ((with_reducible intro hq0); (with_reducible exfalso); simp at hq0; done)
            | ((with_reducible intro hq0); cbv))
        | ((with_reducible apply allT hRB hQB); (focus rfl); (focus rfl); (focus decide); all_goals first
            | ((with_reducible intro Lx capx rowsx hx); (have hx0 := hx.len); simp only [List.length_nil] at hx0; cbv)
            | ((with_reducible intro hq0); cbv))
        | ((with_reducible apply popT hRB hQB); (focus rfl); (focus rfl); (focus decide); all_goals first
            | ((with_reducible intro x0 q0 hq0); (with_reducible exfalso); cases hq0; done)
            | ((with_reducible intro hq0 rowsB' RB' aB' fB' mB' hRB' hQB'); cbv))
        | ((with_reducible apply spoilT hx (by (have := hx.len; simp at this; omega))); (focus rfl); (focus rfl); (focus decide); (with_reducible intro ys' rowsx' hx'); cbv)
        | ((with_reducible apply spoilNilT); (focus rfl); cbv)
        | ((with_reducible apply sameIntsT (xs := q ++ [x]) (ys := q ++ [x])); (focus exact hx.sl rfl rfl (by (have := hx.len; simp at this; omega))); (focus exact hN.sl rfl rfl (by (have := hx.len; simp at this; omega))); all_goals first
            | ((with_reducible intro hne); (with_reducible exfalso); exact hne rfl)
            | ((with_reducible intro _); cbv))
        | ((with_reducible apply sameIntsT (xs := q2 ++ [x]) (ys := q2 ++ [x])); (focus exact hx.sl rfl rfl (by (have := hx.len; simp at this; omega))); (focus exact hN.sl rfl rfl (by (have := hx.len; simp at this; omega))); all_goals first
            | ((with_reducible intro hne); (with_reducible exfalso); exact hne rfl)
            | ((with_reducible intro _); cbv))
        | ((with_reducible apply ld hrows); (focus omega); intro x hx; rw [show v = j.toNat by omega] at hx; (first | (have e := hx.symm.trans hxj; cases e) | have hxj := hx); cbv)
        | ((with_reducible intro hlc i1 len1 cap1 hi1 hl1 hc1); cbv)
        | ((with_reducible intro L' rows' hL hr'); (simp only [List.length_cons, List.length_nil, Nat.zero_add] at hL); (first
            | have hN := Holds.inPlace (x := x) hold (by rfl) (by omega) hL hr'
            | have hN := Holds.anew (x := x) hold (by rfl) hL hr'
            | (have hN := Holds.tail2 hN hq hsrc (by omega) (by omega) (show rows' = src by rw [hr']; rfl) hL)); (have hNl := hN.len); (have hNf := hN.full); (have hNe := hN.le); (simp only [List.length_append, List.length_cons, List.length_nil] at hNl); cbv)
        | ((with_reducible intro src hsrc); (have hsl : src.length = L' - 1 := by (rw [hsrc]; simp only [List.length_take, List.length_drop]; omega)); cbv)
        | ((with_reducible intro v hv); (try rw [wrap_i64] at hv); cbv)
        | ((with_reducible apply uAnd); (focus first | kernel_rfl | omega | (simp; done) | (refine And.intro ?_ (And.intro ?_ (Or.inl rfl)) <;> omega) | (simp only [List.length_cons, List.length_nil]; omega)); try cbv)
        | ((with_reducible apply and3) <;> (with_reducible intro h) <;> first | ((with_reducible exfalso); omega) | cbv)
        | ((with_reducible apply And.intro) <;> (with_reducible intro h) <;> (try simp only [List.length_cons, List.length_nil, Nat.zero_add] at h) <;> (try (have hz := congrArg List.length h; rw [List.length_nil] at hz)) <;> (try (have hz2 := List.length_pos_iff.2 h)) <;> first | ((with_reducible exfalso); omega) | ((with_reducible exfalso); simp at h; done) | cbv)
        | ((with_reducible intro h); (with_reducible exfalso); omega)
      all_goals
        refine And.intro (And.intro (HoldAt.mk ?_) True.intro) (Head.mk ?_ ?_ ?_ ?_ ?_ ?_)
        · dsimp only
          exact ⟨⟨by omega, by omega, ⟨_, ⟨_, _, _, _, hRA, hQA⟩, hN⟩, _, _, _, _, hRB, hQB⟩, by omega⟩
        all_goals cbv
        exact ⟨BlkLe.flat (fun h => h) hflat, BlkLe.flat (fun h => h) hRA.flats, BlkLe.flat (fun h => h) hRB.flats, BlkLe.flat (fun h => h) hN.flat, trivial⟩
end Go.Proofs.Ytcofkoabpigbmaa.Ring
