/- The law QueueKeeps returns true at any input. -/
import Derived.Test.YtgkmjlchflkckaaRingC
import Derived.Test.YtgkmjlchflkckaaAb42
namespace Go.Proofs.Ytgkmjlchflkckaa.Que
open Go.Ab Base Kit
set_option linter.unusedVariables false
set_option linter.unusedSimpArgs false
theorem tm_bound {q d v : Int} (h : v = q.tmod d) (hq : 0 ≤ q) (hd : 0 < d) : 0 ≤ v ∧ v < d := by
  subst h
  exact ⟨Int.tmod_nonneg d hq, Int.tmod_lt_of_pos q hd⟩

set_option maxRecDepth 200000 in
set_option maxHeartbeats 4000000 in
theorem queueKeeps (xs : List Int) (rows : List (List AV)) (n cap : Nat) (hn : n = xs.length) (hflat : ∀ row ∈ rows, AV.flatL row = true) (hrows : At iv xs rows) (hw : ∀ x ∈ xs, inI x) (hsz : n * 8 ≤ 140737488351232) (size : Int) :
    CallS Try.prog 4 [.sym (.int .i64 size), .sym (.slice 0 1 0 n cap false none)] (memB [some (.cells false 1 rows)] []) 1 fun v _ _ => v = .bool true := by
  refine CallS.enter X Try.func4 (by decide) ?_
  cbv
  with_reducible apply awakeT
  cbv
  with_reducible intro u hu
  rw [wrap_u64] at hu
  cbv
  with_reducible apply uAnd
  focus omega
  cbv
  with_reducible intro r hr
  have hrb := tm_bound hr (by omega) (by omega)
  clear hr
  cbv
  with_reducible intro r2 hr2
  rw [wrap_i64] at hr2
  cbv
  with_reducible intro k hk
  rw [wrap_i64] at hk
  have hkb : 1 ≤ k ∧ k ≤ 8 := by omega
  clear hk hr2 hrb hu
  cbv
  repeat' first
    | ((with_reducible apply newT); (focus rfl); all_goals first
        | ((with_reducible intro hb3); (with_reducible exfalso); omega)
        | ((with_reducible intro hb3 rowsA RA aA fA mA hRA hQA); cbv))
    | ((with_reducible apply CallT.enter X Try.func5 (by decide)); cbv)
    | ((with_reducible apply CallT.enter X Try.func7 (by decide)); cbv)
    | ((with_reducible intro v hv); (try rw [wrap_i64] at hv); cbv)
    | ((with_reducible apply uAnd); (focus first | kernel_rfl | omega); try cbv)
    | ((with_reducible apply And.intro) <;> (with_reducible intro h) <;> first | ((with_reducible exfalso); omega) | cbv)
  with_reducible
   refine LoopT.invR X (α := Int × List (List AV) × Sh) 136 [] (fun s => (oI (s.at 13), s.rows (oP (s.cell (oP (s.at 6)) 0 0)), s.sh 12)) (fun s => [oP (s.at 6), oP (s.cell (oP (s.at 6)) 0 0), s.nm 12 0])
    (fun a => [none, some (.sym (.slice 0 1 0 n cap false none)), none, none, none, some (.sym (.int .i64 k)), some (.ptr 1 1 0 0), none, none, none, none, none, some (a.2.2.av 3 1), some (.sym (.int .i64 a.1))])
    (fun a => [some (.cells false 1 rows), some (.cells true 1 [[.ptr 2 67 0 0]]), some (.cells true 67 a.2.1), a.2.2.blk 1])
    (fun a => 0 ≤ a.1 ∧ a.1 ≤ 80 ∧ ∃ q, (∃ R ar f mm, RR a.2.1 R ar k f mm ∧ QQ ar k f mm q) ∧ a.2.2.holds iv q) (fun a => (80 - a.1).toNat) ?_ ?_
  · cbv
    refine And.intro (HoldAt.mk ?_) (Head.mk ?_ ?_ ?_ ?_ ?_ ?_)
    · exact ⟨Int.le_refl 0, (show (0 : Int) ≤ 80 by decide), [], ⟨_, _, _, _, hRA, hQA⟩, rfl⟩
    all_goals cbv
    exact ⟨BlkLe.flat (fun h => h) hflat, BlkLe.cells (fun h => h) (RowsLe.cons rfl RowsLe.nil), BlkLe.flat (fun h => h) hRA.flats, trivial⟩
  · clear hRA hQA
    rintro ⟨j, rA, sh⟩ ⟨j1, j2, q, ⟨RA, aA, fA, mA, hRA, hQA⟩, hsh⟩
    dsimp only at j1 j2 hRA hQA hsh
    have hm1 := hQA.m1; have hm2 := hQA.m2; have hle := hQA.le
    cases sh with
    | nil =>
     as_aux_lemma =>
      have hq : q = [] := hsh
      subst hq
      simp only [List.length_nil] at hm2
      cbv
      repeat' first
        | with_reducible exact trivial
        | ((with_reducible apply CallT.enter X Try.func10 (by decide)); cbv)
        | ((with_reducible apply CallT.enter X Try.func11 (by decide)); cbv)
        | ((with_reducible apply CallT.enter X Try.func13 (by decide)); cbv)
        | ((with_reducible apply popT hRA hQA); (focus rfl); (focus rfl); (focus decide); all_goals first
            | ((with_reducible intro y q2 hq rowsA' RA' aA' fA' mA' hRA hQA); (with_reducible exfalso); cases hq; done)
            | ((with_reducible intro hq0 rowsA' RA' aA' fA' mA' hRA hQA); cbv))
        | ((with_reducible apply pushT x hRA hQA); (focus rfl); (focus rfl); (focus rfl); (focus decide); all_goals first
            | ((with_reducible intro he y q2 hq rowsA' RA' aA' fA' mA' hRA hQA); (with_reducible exfalso); cases hq; done)
            | ((with_reducible intro hlt rowsA' RA' aA' fA' mA' hRA hQA); cbv))
        | ((with_reducible apply allT hRA hQA); (focus rfl); (focus rfl); (focus decide); all_goals first
            | ((with_reducible intro Lx capx rowsx hx); (have hxl := hx.len); (try simp only [List.length_append, List.length_cons, List.length_nil] at hxl); cbv)
            | ((with_reducible intro hqn); (have hql0 := congrArg List.length hqn); (try simp only [List.length_append, List.length_cons, List.length_nil] at hql0); cbv))
        | ((with_reducible apply ld hrows); (focus omega); intro x hx; rw [show v = j.toNat by omega] at hx; (first | (have e := hx.symm.trans hxj; cases e) | have hxj := hx); cbv)
        | ((with_reducible intro hlc i1 len1 cap1 hi1 hl1 hc1); cbv)
        | ((with_reducible intro L' rows' hL hr'); (simp only [List.length_cons, List.length_nil, Nat.zero_add] at hL); (first
            | have hN := Holds.inPlace (x := x) hold (by rfl) (by omega) hL hr'
            | have hN := Holds.anew (x := x) hold (by rfl) hL hr'
            | have hN := Holds.tail2 hN hq hsrc (by omega) (by omega) (show rows' = src by rw [hr']; rfl) hL
            | have hN := Holds.tail (y := y) (xs := q2) (hq ▸ hold) (by omega) (by omega) hsrc (show rows' = src by rw [hr']; rfl) hL); (have hNl := hN.len); (have hNf := hN.full); (have hNe := hN.le); (try simp only [List.length_append, List.length_cons, List.length_nil] at hNl); cbv)
        | ((with_reducible intro src hsrc); (have hsl := congrArg List.length hsrc); (simp only [List.length_take, List.length_drop] at hsl); cbv)
        | ((with_reducible intro v hv); (try rw [wrap_i64] at hv); cbv)
        | ((with_reducible apply uAnd); (focus first | kernel_rfl | omega | (simp; done) | (refine And.intro ?_ (And.intro ?_ (Or.inl rfl)) <;> omega) | (simp only [List.length_cons, List.length_nil]; omega)); try cbv)
        | ((with_reducible apply and3) <;> (with_reducible intro h) <;> first | ((with_reducible exfalso); omega) | cbv)
        | ((with_reducible apply And.intro) <;> (with_reducible intro h) <;> (try simp only [List.length_cons, List.length_nil, Nat.zero_add] at h) <;> (try (have hz := congrArg List.length h; rw [List.length_nil] at hz)) <;> (try (have hz2 := List.length_pos_iff.2 h)) <;> first | ((with_reducible exfalso); omega) | ((with_reducible exfalso); simp at h; done) | cbv)
        | ((with_reducible intro h); first | ((with_reducible exfalso); omega) | cbv)
      all_goals try ((with_reducible exfalso); (try simp only [Int.ofNat_eq_natCast] at h); omega)
      all_goals
        refine And.intro (And.intro (HoldAt.mk ?_) True.intro) (Head.mk ?_ ?_ ?_ ?_ ?_ ?_)
        · dsimp only
          refine ⟨⟨by omega, by omega, _, ⟨_, _, _, _, hRA, hQA⟩, ?_⟩, by omega⟩
          first
            | exact hN
            | exact hold
            | exact (hq0 ▸ hold)
            | exact Holds.one (f := iv) (x := x) (by rfl) rfl
            | (rw [show q2 = [] from List.eq_nil_of_length_eq_zero (by omega)]; exact Holds.empty rfl (by simp))
            | rfl
        all_goals cbv
        first
          | exact ⟨BlkLe.flat (fun h => h) hflat, BlkLe.cells (fun h => h) (RowsLe.cons rfl RowsLe.nil), BlkLe.flat (fun h => h) hRA.flats, BlkLe.flat (fun h => h) hN.flat, trivial⟩
          | exact ⟨BlkLe.flat (fun h => h) hflat, BlkLe.cells (fun h => h) (RowsLe.cons rfl RowsLe.nil), BlkLe.flat (fun h => h) hRA.flats, BlkLe.flat (fun h => h) hold.flat, trivial⟩
          | exact ⟨BlkLe.flat (fun h => h) hflat, BlkLe.cells (fun h => h) (RowsLe.cons rfl RowsLe.nil), BlkLe.flat (fun h => h) hRA.flats, BlkLe.flat (fun h => h) (by simp [AV.flatL, AV.flat]), trivial⟩
          | exact ⟨BlkLe.flat (fun h => h) hflat, BlkLe.cells (fun h => h) (RowsLe.cons rfl RowsLe.nil), BlkLe.flat (fun h => h) hRA.flats, trivial⟩
    | sl L cap2 rows2 =>
     as_aux_lemma =>
      have hold : Holds iv q L cap2 rows2 := hsh
      have hL0 := hold.len; have hL1 := hold.full; have hL2 := hold.le
      cbv
      repeat' first
        | with_reducible exact trivial
        | ((with_reducible apply CallT.enter X Try.func10 (by decide)); cbv)
        | ((with_reducible apply CallT.enter X Try.func11 (by decide)); cbv)
        | ((with_reducible apply CallT.enter X Try.func13 (by decide)); cbv)
        | ((with_reducible apply popT hRA hQA); (focus rfl); (focus rfl); (focus decide); all_goals first
            | ((with_reducible intro y q2 hq rowsA' RA' aA' fA' mA' hRA hQA); (have hql : q.length = q2.length + 1 := by rw [hq]; rfl); cbv)
            | ((with_reducible intro hq0 rowsA' RA' aA' fA' mA' hRA hQA); (have hql : q.length = 0 := by rw [hq0]; rfl); cbv))
        | ((with_reducible apply pushT x hRA hQA); (focus rfl); (focus rfl); (focus rfl); (focus decide); all_goals first
            | ((with_reducible intro he y q2 hq rowsA' RA' aA' fA' mA' hRA hQA); (have hql : q.length = q2.length + 1 := by rw [hq]; rfl); cbv)
            | ((with_reducible intro hlt rowsA' RA' aA' fA' mA' hRA hQA); cbv))
        | ((with_reducible apply allT hRA hQA); (focus rfl); (focus rfl); (focus decide); all_goals first
            | ((with_reducible intro Lx capx rowsx hx); (have hxl := hx.len); (try simp only [List.length_append, List.length_cons, List.length_nil] at hxl); cbv)
            | ((with_reducible intro hqn); (have hql0 := congrArg List.length hqn); (try simp only [List.length_append, List.length_cons, List.length_nil] at hql0); cbv))
        | ((with_reducible apply ld hrows); (focus omega); intro x hx; rw [show v = j.toNat by omega] at hx; (first | (have e := hx.symm.trans hxj; cases e) | have hxj := hx); cbv)
        | ((with_reducible apply ld hold.at_); (focus omega); intro z hz; (rw [show v = 0 by omega] at hz); (have hzy : y = z := by (rw [hq] at hz; simpa using hz)); cbv)
        | ((with_reducible intro hlc i1 len1 cap1 hi1 hl1 hc1); cbv)
        | ((with_reducible intro L' rows' hL hr'); (simp only [List.length_cons, List.length_nil, Nat.zero_add] at hL); (first
            | have hN := Holds.inPlace (x := x) hold (by rfl) (by omega) hL hr'
            | have hN := Holds.anew (x := x) hold (by rfl) hL hr'
            | have hN := Holds.tail2 hN hq hsrc (by omega) (by omega) (show rows' = src by rw [hr']; rfl) hL
            | have hN := Holds.tail (y := y) (xs := q2) (hq ▸ hold) (by omega) (by omega) hsrc (show rows' = src by rw [hr']; rfl) hL); (have hNl := hN.len); (have hNf := hN.full); (have hNe := hN.le); (try simp only [List.length_append, List.length_cons, List.length_nil] at hNl); cbv)
        | ((with_reducible intro src hsrc); (have hsl := congrArg List.length hsrc); (simp only [List.length_take, List.length_drop] at hsl); cbv)
        | ((with_reducible intro v hv); (try rw [wrap_i64] at hv); cbv)
        | ((with_reducible apply uAnd); (focus first | kernel_rfl | omega | (simp; done) | (refine And.intro ?_ (And.intro ?_ (Or.inl rfl)) <;> omega) | (simp only [List.length_cons, List.length_nil]; omega)); try cbv)
        | ((with_reducible apply and3) <;> (with_reducible intro h) <;> first | ((with_reducible exfalso); omega) | cbv)
        | ((with_reducible apply And.intro) <;> (with_reducible intro h) <;> (try simp only [List.length_cons, List.length_nil, Nat.zero_add] at h) <;> (try (have hz := congrArg List.length h; rw [List.length_nil] at hz)) <;> (try (have hz2 := List.length_pos_iff.2 h)) <;> first | ((with_reducible exfalso); omega) | ((with_reducible exfalso); simp at h; done) | cbv)
        | ((with_reducible intro h); first | ((with_reducible exfalso); omega) | cbv)
      all_goals try ((with_reducible exfalso); (try simp only [Int.ofNat_eq_natCast] at h); omega)
      all_goals
        refine And.intro (And.intro (HoldAt.mk ?_) True.intro) (Head.mk ?_ ?_ ?_ ?_ ?_ ?_)
        · dsimp only
          refine ⟨⟨by omega, by omega, _, ⟨_, _, _, _, hRA, hQA⟩, ?_⟩, by omega⟩
          first
            | exact hN
            | exact hold
            | exact (hq0 ▸ hold)
            | exact Holds.one (f := iv) (x := x) (by rfl) rfl
            | (rw [show q2 = [] from List.eq_nil_of_length_eq_zero (by omega)]; exact Holds.empty rfl (by simp))
            | rfl
        all_goals cbv
        first
          | exact ⟨BlkLe.flat (fun h => h) hflat, BlkLe.cells (fun h => h) (RowsLe.cons rfl RowsLe.nil), BlkLe.flat (fun h => h) hRA.flats, BlkLe.flat (fun h => h) hN.flat, trivial⟩
          | exact ⟨BlkLe.flat (fun h => h) hflat, BlkLe.cells (fun h => h) (RowsLe.cons rfl RowsLe.nil), BlkLe.flat (fun h => h) hRA.flats, BlkLe.flat (fun h => h) hold.flat, trivial⟩
          | exact ⟨BlkLe.flat (fun h => h) hflat, BlkLe.cells (fun h => h) (RowsLe.cons rfl RowsLe.nil), BlkLe.flat (fun h => h) hRA.flats, BlkLe.flat (fun h => h) (by simp [AV.flatL, AV.flat]), trivial⟩
          | exact ⟨BlkLe.flat (fun h => h) hflat, BlkLe.cells (fun h => h) (RowsLe.cons rfl RowsLe.nil), BlkLe.flat (fun h => h) hRA.flats, trivial⟩

set_option maxRecDepth 200000 in
set_option maxHeartbeats 4000000 in
theorem queueKeepsNil (size : Int) : CallS Try.prog 4 [.sym (.int .i64 size), .nilslice] (memB [] []) 0 fun v _ _ => v = .bool true := by
  refine CallS.enter X Try.func4 (by decide) ?_
  cbv
  with_reducible apply awakeT
  cbv
  with_reducible intro u hu
  rw [wrap_u64] at hu
  cbv
  with_reducible apply uAnd
  focus omega
  cbv
  with_reducible intro r hr
  have hrb := tm_bound hr (by omega) (by omega)
  clear hr
  cbv
  with_reducible intro r2 hr2
  rw [wrap_i64] at hr2
  cbv
  with_reducible intro k hk
  rw [wrap_i64] at hk
  have hkb : 1 ≤ k ∧ k ≤ 8 := by omega
  clear hk hr2 hrb hu
  cbv
  repeat' first
    | ((with_reducible apply newT); (focus rfl); all_goals first
        | ((with_reducible intro hb3); (with_reducible exfalso); omega)
        | ((with_reducible intro hb3 rowsA RA aA fA mA hRA hQA); cbv))
    | ((with_reducible apply CallT.enter X Try.func5 (by decide)); cbv)
    | ((with_reducible apply CallT.enter X Try.func7 (by decide)); cbv)
    | ((with_reducible intro v hv); (try rw [wrap_i64] at hv); cbv)
    | ((with_reducible apply uAnd); (focus first | kernel_rfl | omega); try cbv)
    | ((with_reducible apply And.intro) <;> (with_reducible intro h) <;> first | ((with_reducible exfalso); omega) | cbv)
  with_reducible apply LoopT.one X
  cbv
end Go.Proofs.Ytgkmjlchflkckaa.Que
