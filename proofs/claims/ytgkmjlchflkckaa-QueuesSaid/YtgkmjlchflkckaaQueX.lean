/- The law Queues returns true at any input. -/
import Derived.Test.YtgkmjlchflkckaaQueL
namespace Go.Proofs.Ytgkmjlchflkckaa.QueX
open Go.Ab Base Kit QueL
set_option linter.unusedVariables false
set_option linter.unusedSimpArgs false
theorem inPlaceI {xs : List Int} {x : Int} {L cap L' : Nat} {rows rows' : List (List AV)} (h : Holds iv xs L cap rows) (hc : L + 1 ≤ cap) (hL : L' = L + 1) (e : rows' = List.take (0 + L) rows ++ [[AV.sym (.int .i64 x)]] ++ List.drop (0 + L + [[AV.sym (.int .i64 x)]].length) rows) : Holds iv (xs ++ [x]) L' cap rows' := Holds.inPlace h rfl hc hL e
theorem anewI {xs : List Int} {x : Int} {L cap L' : Nat} {rows rows' : List (List AV)} (h : Holds iv xs L cap rows) (hL : L' = L + 1) (e : rows' = List.take L (List.drop 0 rows) ++ [[AV.sym (.int .i64 x)]]) : Holds iv (xs ++ [x]) L' L' rows' := Holds.anew h rfl hL e
theorem hd_of {q : List Int} {y : Int} (h : q[0]? = some y) : ∃ q2, q = y :: q2 := by
  cases q with
  | nil => simp at h
  | cons a l => simp at h; subst h; exact ⟨l, rfl⟩
theorem hd_tl {q q2 q3 : List Int} {y y3 : Int} (h : q = y :: q2) (h3 : q = y3 :: q3) : y3 = y ∧ q2 = q3 := by
  rw [h] at h3; cases h3; exact ⟨rfl, rfl⟩

set_option maxRecDepth 200000 in
set_option maxHeartbeats 400000000 in
theorem queues_s (xs : List Int) (rows : List (List AV)) (n cap : Nat) (hn : n = xs.length) (hflat : ∀ row ∈ rows, AV.flatL row = true) (hrows : At iv xs rows) (hw : ∀ x ∈ xs, inI x) (hsz : n * 8 ≤ 140737488351232) (hre : rows = xs.map iv) (k : Int) :
    CallS Try.prog 3 [.sym (.int .i64 k), .sym (.slice 0 1 0 n cap false none)] (memB [some (.cells false 1 rows)] []) 1 fun v _ _ => v = .bool true := by
  obtain ⟨call, X, h13⟩ := lenCtx
  refine CallS.enter X Try.func3 (by decide) ?_
  cbv
  repeat' first
  | with_reducible exact trivial
  | ((with_reducible apply newT); (focus rfl); all_goals first
      | ((with_reducible intro hb3 rowsA RA aA fA mA hRA hQA); (first | ((with_reducible exfalso); omega) | cbv))
      | ((with_reducible intro hb3); (first | ((with_reducible exfalso); omega) | cbv)))
  | ((with_reducible apply CallT.enter X Try.func5 (by decide)); cbv)
  | ((with_reducible apply CallT.enter X Try.func6 (by decide)); cbv)
  | ((with_reducible apply CallT.enter X Try.func7 (by decide)); cbv)
  | ((with_reducible apply CallT.enter X Try.func15 (by decide)); cbv)
  | ((with_reducible apply awakeT); cbv)
  | ((with_reducible intro v hv); (try rw [wrap_i64] at hv); cbv)
  | ((with_reducible apply uAnd); (focus first | kernel_rfl | omega); try cbv)
  | ((with_reducible apply And.intro) <;> (with_reducible intro h) <;> first | ((with_reducible exfalso); omega) | cbv)
  with_reducible apply LoopT.hide
  intro K0 hK
  with_reducible
   refine LoopT.invS (α := Int × List (List AV) × Sh) 106 [] (fun s => (oI (s.at 9), s.rows (oP (s.cell (oP (s.at 5)) 0 0)), AV.sh s (s.cell (oP (s.at 7)) 0 1))) (fun s => [oP (s.at 5), oP (s.cell (oP (s.at 5)) 0 0), oP (s.at 7), AV.nm s 0 (s.cell (oP (s.at 7)) 0 1)])
    (fun a => [none, some (.sym (.slice 0 1 0 n cap false none)), none, none, none, some (.ptr 1 1 0 0), none, some (.ptr 3 2 0 0), none, some (.sym (.int .i64 a.1))])
    (fun a => [some (.cells false 1 rows), some (.cells true 1 [[.ptr 2 67 0 0]]), some (.cells true 67 a.2.1), some (.cells true 2 [[.sym (.int .i64 k), a.2.2.av 4 1]]), a.2.2.blk 1])
    (fun a => 0 ≤ a.1 ∧ a.1 ≤ 80 ∧ ∃ q, (∃ R ar f mm, RR a.2.1 R ar k f mm ∧ QQ ar k f mm q) ∧ a.2.2.holds iv q) (fun a => (80 - a.1).toNat) ?_ ?_
  · cbv
    refine And.intro (HoldAt.mk ?_) (Head.mk ?_ ?_ ?_ ?_ ?_ ?_)
    · exact ⟨Int.le_refl 0, (show (0 : Int) ≤ 80 by decide), [], ⟨_, _, _, _, hRA, hQA⟩, rfl⟩
    all_goals cbv
    exact ⟨BlkLe.flat (fun h => h) hflat, BlkLe.cells (fun h => h) (RowsLe.cons rfl RowsLe.nil), BlkLe.flat (fun h => h) hRA.flats, BlkLe.cells (fun h => h) (RowsLe.cons rfl RowsLe.nil), trivial⟩
  · clear hRA hQA
    rintro ⟨j, rA, sh⟩ ⟨j1, j2, q, ⟨RA, aA, fA, mA, hRA, hQA⟩, hsh⟩
    dsimp only at j1 j2 hRA hQA hsh
    have hm1 := hQA.m1; have hm2 := hQA.m2; have hle := hQA.le
    refine SafeC.join X (α := Int × List (List AV) × Sh) 18 106 [] (fun s => (oI (s.at 9), s.rows (oP (s.cell (oP (s.at 5)) 0 0)), AV.sh s (s.cell (oP (s.at 7)) 0 1))) (fun s => [oP (s.at 5), oP (s.cell (oP (s.at 5)) 0 0), oP (s.at 7), AV.nm s 0 (s.cell (oP (s.at 7)) 0 1)])
      (fun a => [none, some (.sym (.slice 0 1 0 n cap false none)), none, none, none, some (.ptr 1 1 0 0), none, some (.ptr 3 2 0 0), none, some (.sym (.int .i64 a.1))])
      (fun a => [some (.cells false 1 rows), some (.cells true 1 [[.ptr 2 67 0 0]]), some (.cells true 67 a.2.1), some (.cells true 2 [[.sym (.int .i64 k), a.2.2.av 4 1]]), a.2.2.blk 1])
      (fun a => (a.1 = j ∧ j.toNat < n ∧ j < 80) ∧ ∃ q, (∃ R ar f mm, RR a.2.1 R ar k f mm ∧ QQ ar k f mm q) ∧ a.2.2.holds iv q) 4 ?_ ?_
    · cases sh with
      | nil =>
        have hq : q = [] := hsh
        subst hq
        simp only [List.length_nil] at hm2
        cbv
        repeat' first
          | with_reducible exact trivial
          | ((with_reducible apply CallT.hide); (intro KPush hPush); (with_reducible apply CallT.enter X Try.func9 (by decide)); cbv)
          | ((with_reducible apply hPush); cbv)
          | ((with_reducible apply CallT.hide); (intro KOff hOff); (with_reducible apply CallT.enter X Try.func16 (by decide)); cbv)
          | ((with_reducible apply hOff); cbv)
          | ((with_reducible apply CallT.hide); (intro KPop hPop); (with_reducible apply CallT.enter X Try.func12 (by decide)); cbv)
          | ((with_reducible apply hPop); cbv)
          | ((with_reducible apply CallT.hide); (intro KWr hWr); (with_reducible apply CallT.enter X Try.func10 (by decide)); cbv)
          | ((with_reducible apply hWr); cbv)
          | ((with_reducible apply CallT.hide); (intro KRd hRd); (with_reducible apply CallT.enter X Try.func11 (by decide)); cbv)
          | ((with_reducible apply hRd); cbv)
          | ((with_reducible apply awakeT); cbv)
          | ((with_reducible apply hK); cbv)
          | ((with_reducible apply popT hRA hQA); (focus rfl); (focus rfl); (focus decide); all_goals first
              | ((with_reducible intro y q2 hq rowsA' RA' aA' fA' mA' hRA hQA); (with_reducible exfalso); cases hq; done)
              | ((with_reducible intro hq0 rowsA' RA' aA' fA' mA' hRA hQA); cbv))
          | ((with_reducible apply pushT x hRA hQA); (focus rfl); (focus rfl); (focus rfl); (focus decide); all_goals first
              | ((with_reducible intro he y q2 hq rowsA' RA' aA' fA' mA' hRA hQA); (with_reducible exfalso); cases hq; done)
              | ((with_reducible intro hlt rowsA' RA' aA' fA' mA' hRA hQA); cbv))
          | ((with_reducible apply ld hrows); (focus omega); intro x hx; rw [show v = j.toNat by omega] at hx; (first | (have e := hx.symm.trans hxj; cases e) | have hxj := hx); cbv)
          | ((with_reducible intro hlc i1 len1 cap1 hi1 hl1 hc1); cbv)
          | ((with_reducible intro L' rows' hL hr'); (simp only [List.length_cons, List.length_nil, Nat.zero_add] at hL); (first
              | with_reducible have hold := inPlaceI (x := x) hold (by assumption) hL hr'
              | with_reducible have hold := anewI (x := x) hold hL hr'
              | with_reducible have hold := anewI (L := 0) (cap := 0) (rows := []) (x := x) (xs := q2) (by rw [show q2 = [] from List.eq_nil_of_length_eq_zero (by omega)]; exact Holds.empty rfl (by simp)) hL hr'
              | have hold := Holds.tail (y := y) (xs := q2) (hq ▸ hold) (by omega) (by omega) hsrc (show rows' = src by rw [hr']; rfl) hL); (have hNl := hold.len); (have hNf := hold.full); (have hNe := hold.le); (try simp only [List.length_append, List.length_cons, List.length_nil] at hNl); cbv)
          | ((with_reducible intro src hsrc); (have hsl := congrArg List.length hsrc); (simp only [List.length_take, List.length_drop] at hsl); cbv)
          | ((with_reducible intro v hv); (try rw [wrap_i64] at hv); cbv)
          | ((with_reducible apply uAnd); (focus first | kernel_rfl | omega | (simp; done) | (refine And.intro ?_ (And.intro ?_ (Or.inl rfl)) <;> omega) | (simp only [List.length_cons, List.length_nil]; omega)); try cbv)
          | ((with_reducible apply and3) <;> (with_reducible intro h) <;> first | ((with_reducible exfalso); omega) | cbv)
          | ((with_reducible apply And.intro) <;> (with_reducible intro h) <;> (try simp only [List.length_cons, List.length_nil, Nat.zero_add, Int.ofNat_eq_natCast] at h) <;> (try (have hz := congrArg List.length h; rw [List.length_nil] at hz)) <;> (try (have hz2 := List.length_pos_iff.2 h)) <;> first | ((with_reducible exfalso); omega) | ((with_reducible exfalso); simp at h; done) | cbv)
          | ((with_reducible intro h); first | ((with_reducible exfalso); omega) | cbv)
        all_goals try ((with_reducible exfalso); omega)
        all_goals
          refine And.intro (And.intro (HoldAt.mk ?_) True.intro) (Head.mk ?_ ?_ ?_ ?_ ?_ ?_)
          · dsimp only
            refine ⟨⟨by omega, by omega, by omega⟩, _, ⟨_, _, _, _, hRA, hQA⟩, ?_⟩
            first
              | exact hold
              | exact (hq0 ▸ hold)
              | exact Holds.one (f := iv) (x := x) (by rfl) rfl
              | (rw [show q2 = [] from List.eq_nil_of_length_eq_zero (by omega)]; exact Holds.empty rfl (by simp))
              | rfl
          all_goals cbv
          first
            | exact ⟨BlkLe.flat (fun h => h) hflat, BlkLe.cells (fun h => h) (RowsLe.cons rfl RowsLe.nil), BlkLe.flat (fun h => h) hRA.flats, BlkLe.cells (fun h => h) (RowsLe.cons rfl RowsLe.nil), BlkLe.flat (fun h => h) hold.flat, trivial⟩
            | exact ⟨BlkLe.flat (fun h => h) hflat, BlkLe.cells (fun h => h) (RowsLe.cons rfl RowsLe.nil), BlkLe.flat (fun h => h) hRA.flats, BlkLe.cells (fun h => h) (RowsLe.cons rfl RowsLe.nil), BlkLe.flat (fun h => h) (by simp [AV.flatL, AV.flat]), trivial⟩
            | exact ⟨BlkLe.flat (fun h => h) hflat, BlkLe.cells (fun h => h) (RowsLe.cons rfl RowsLe.nil), BlkLe.flat (fun h => h) hRA.flats, BlkLe.cells (fun h => h) (RowsLe.cons rfl RowsLe.nil), trivial⟩
      | sl L cap2 rows2 =>
        have hold : Holds iv q L cap2 rows2 := hsh
        have hL0 := hold.len; have hL1 := hold.full; have hL2 := hold.le
        cbv
        repeat' first
          | with_reducible exact trivial
          | ((with_reducible apply CallT.hide); (intro KPush hPush); (with_reducible apply CallT.enter X Try.func9 (by decide)); cbv)
          | ((with_reducible apply hPush); cbv)
          | ((with_reducible apply CallT.hide); (intro KOff hOff); (with_reducible apply CallT.enter X Try.func16 (by decide)); cbv)
          | ((with_reducible apply hOff); cbv)
          | ((with_reducible apply CallT.hide); (intro KPop hPop); (with_reducible apply CallT.enter X Try.func12 (by decide)); cbv)
          | ((with_reducible apply hPop); cbv)
          | ((with_reducible apply CallT.hide); (intro KWr hWr); (with_reducible apply CallT.enter X Try.func10 (by decide)); cbv)
          | ((with_reducible apply hWr); cbv)
          | ((with_reducible apply CallT.hide); (intro KRd hRd); (with_reducible apply CallT.enter X Try.func11 (by decide)); cbv)
          | ((with_reducible apply hRd); cbv)
          | ((with_reducible apply awakeT); cbv)
          | ((with_reducible apply popT hRA hQA); (focus rfl); (focus rfl); (focus decide); all_goals first
              | ((with_reducible intro y3 q3 hq3 rowsA' RA' aA' fA' mA' hRA hQA); (have hql3 : q.length = q3.length + 1 := by rw [hq3]; rfl); (first
                  | ((with_reducible exfalso); omega)
                  | ((have e3 := hd_tl hq hq3); (have e4 := e3.1); (rw [← e3.2] at hQA); cbv)
                  | cbv))
              | ((with_reducible intro hq0 rowsA' RA' aA' fA' mA' hRA hQA); (have hql3 : q.length = 0 := by rw [hq0]; rfl); (first | ((with_reducible exfalso); omega) | cbv)))
          | ((with_reducible apply pushT x hRA hQA); (focus rfl); (focus rfl); (focus rfl); (focus decide); all_goals first
              | ((with_reducible intro he y3 q3 hq3 rowsA' RA' aA' fA' mA' hRA hQA); (have hql3 : q.length = q3.length + 1 := by rw [hq3]; rfl); (first
                  | ((with_reducible exfalso); omega)
                  | ((have e3 := hd_tl hq hq3); (have e4 := e3.1); (rw [← e3.2] at hQA); cbv)
                  | cbv))
              | ((with_reducible intro hlt rowsA' RA' aA' fA' mA' hRA hQA); (first | ((with_reducible exfalso); omega) | cbv)))
          | ((with_reducible apply ld hold.at_); (focus omega); intro y hz; (rw [show v = 0 by omega] at hz); (obtain ⟨q2, hq⟩ := hd_of hz); (have hql : q.length = q2.length + 1 := by rw [hq]; rfl); (try (have e3 := hd_tl hq hq3; have e4 := e3.1; rw [← e3.2] at hQA)); cbv)
          | ((with_reducible apply hK); cbv)
          | ((with_reducible apply ld hrows); (focus omega); intro x hx; rw [show v = j.toNat by omega] at hx; (first | (have e := hx.symm.trans hxj; cases e) | have hxj := hx); cbv)
          | ((with_reducible intro hlc i1 len1 cap1 hi1 hl1 hc1); cbv)
          | ((with_reducible intro L' rows' hL hr'); (simp only [List.length_cons, List.length_nil, Nat.zero_add] at hL); (first
              | with_reducible have hold := inPlaceI (x := x) hold (by assumption) hL hr'
              | with_reducible have hold := anewI (x := x) hold hL hr'
              | with_reducible have hold := anewI (L := 0) (cap := 0) (rows := []) (x := x) (xs := q2) (by rw [show q2 = [] from List.eq_nil_of_length_eq_zero (by omega)]; exact Holds.empty rfl (by simp)) hL hr'
              | have hold := Holds.tail (y := y) (xs := q2) (hq ▸ hold) (by omega) (by omega) hsrc (show rows' = src by rw [hr']; rfl) hL); (have hNl := hold.len); (have hNf := hold.full); (have hNe := hold.le); (try simp only [List.length_append, List.length_cons, List.length_nil] at hNl); cbv)
          | ((with_reducible intro src hsrc); (have hsl := congrArg List.length hsrc); (simp only [List.length_take, List.length_drop] at hsl); cbv)
          | ((with_reducible intro v hv); (try rw [wrap_i64] at hv); cbv)
          | ((with_reducible apply uAnd); (focus first | kernel_rfl | omega | (simp; done) | (refine And.intro ?_ (And.intro ?_ (Or.inl rfl)) <;> omega) | (simp only [List.length_cons, List.length_nil]; omega)); try cbv)
          | ((with_reducible apply and3) <;> (with_reducible intro h) <;> first | ((with_reducible exfalso); omega) | cbv)
          | ((with_reducible apply And.intro) <;> (with_reducible intro h) <;> (try simp only [List.length_cons, List.length_nil, Nat.zero_add, Int.ofNat_eq_natCast] at h) <;> (try (have hz := congrArg List.length h; rw [List.length_nil] at hz)) <;> (try (have hz2 := List.length_pos_iff.2 h)) <;> first | ((with_reducible exfalso); omega) | ((with_reducible exfalso); simp at h; done) | cbv)
          | ((with_reducible intro h); first | ((with_reducible exfalso); omega) | cbv)
        all_goals try ((with_reducible exfalso); omega)
        all_goals
          refine And.intro (And.intro (HoldAt.mk ?_) True.intro) (Head.mk ?_ ?_ ?_ ?_ ?_ ?_)
          · dsimp only
            refine ⟨⟨by omega, by omega, by omega⟩, _, ⟨_, _, _, _, hRA, hQA⟩, ?_⟩
            first
              | exact hold
              | exact (hq0 ▸ hold)
              | exact Holds.one (f := iv) (x := x) (by rfl) rfl
              | (rw [show q2 = [] from List.eq_nil_of_length_eq_zero (by omega)]; exact Holds.empty rfl (by simp))
              | rfl
          all_goals cbv
          first
            | exact ⟨BlkLe.flat (fun h => h) hflat, BlkLe.cells (fun h => h) (RowsLe.cons rfl RowsLe.nil), BlkLe.flat (fun h => h) hRA.flats, BlkLe.cells (fun h => h) (RowsLe.cons rfl RowsLe.nil), BlkLe.flat (fun h => h) hold.flat, trivial⟩
            | exact ⟨BlkLe.flat (fun h => h) hflat, BlkLe.cells (fun h => h) (RowsLe.cons rfl RowsLe.nil), BlkLe.flat (fun h => h) hRA.flats, BlkLe.cells (fun h => h) (RowsLe.cons rfl RowsLe.nil), BlkLe.flat (fun h => h) (by simp [AV.flatL, AV.flat]), trivial⟩
            | exact ⟨BlkLe.flat (fun h => h) hflat, BlkLe.cells (fun h => h) (RowsLe.cons rfl RowsLe.nil), BlkLe.flat (fun h => h) hRA.flats, BlkLe.cells (fun h => h) (RowsLe.cons rfl RowsLe.nil), trivial⟩
    · clear hRA hQA hsh hm1 hm2 hle
      rintro ⟨j', rA, sh⟩ ⟨⟨e1, e2, e3⟩, q, ⟨RA, aA, fA, mA, hRA, hQA⟩, hsh⟩
      dsimp only at e1 hRA hQA hsh
      refine SafeC.walk X ?_
      cases sh with
      | nil =>
        have hq : q = [] := hsh
        have hq0 : q.length = 0 := by rw [hq]; rfl
        obtain ⟨z, hz⟩ : ∃ z : Int, 0 ≤ z ∧ z.toNat = q.length := ⟨q.length, by omega, by omega⟩
        cbv
        rw [h13 hRA hQA hz]; rotate_left; (focus rfl); (focus rfl); (focus rfl); (focus rfl)
        cbv
        repeat' first
          | with_reducible exact trivial
          | ((with_reducible intro v hv); (try rw [wrap_i64] at hv); cbv)
          | ((with_reducible apply uAnd); (focus first | kernel_rfl | omega); try cbv)
          | ((with_reducible apply And.intro) <;> (with_reducible intro h) <;> first | ((with_reducible exfalso); omega) | cbv)
        all_goals
          refine And.intro (And.intro (HoldAt.mk ?_) True.intro) (Head.mk ?_ ?_ ?_ ?_ ?_ ?_)
          · exact ⟨⟨by omega, by omega, q, ⟨_, _, _, _, hRA, hQA⟩, hsh⟩, by omega⟩
          all_goals cbv
          exact ⟨BlkLe.flat (fun h => h) hflat, BlkLe.cells (fun h => h) (RowsLe.cons rfl RowsLe.nil), BlkLe.flat (fun h => h) hRA.flats, BlkLe.cells (fun h => h) (RowsLe.cons rfl RowsLe.nil), trivial⟩
      | sl L cap2 rows2 =>
        have hold : Holds iv q L cap2 rows2 := hsh
        have hL0 := hold.len
        obtain ⟨z, hz⟩ : ∃ z : Int, 0 ≤ z ∧ z.toNat = q.length := ⟨q.length, by omega, by omega⟩
        cbv
        rw [h13 hRA hQA hz]; rotate_left; (focus rfl); (focus rfl); (focus rfl); (focus rfl)
        cbv
        repeat' first
          | with_reducible exact trivial
          | ((with_reducible intro v hv); (try rw [wrap_i64] at hv); cbv)
          | ((with_reducible apply uAnd); (focus first | kernel_rfl | omega); try cbv)
          | ((with_reducible apply And.intro) <;> (with_reducible intro h) <;> first | ((with_reducible exfalso); omega) | cbv)
        all_goals
          refine And.intro (And.intro (HoldAt.mk ?_) True.intro) (Head.mk ?_ ?_ ?_ ?_ ?_ ?_)
          · exact ⟨⟨by omega, by omega, q, ⟨_, _, _, _, hRA, hQA⟩, hold⟩, by omega⟩
          all_goals cbv
          exact ⟨BlkLe.flat (fun h => h) hflat, BlkLe.cells (fun h => h) (RowsLe.cons rfl RowsLe.nil), BlkLe.flat (fun h => h) hRA.flats, BlkLe.cells (fun h => h) (RowsLe.cons rfl RowsLe.nil), BlkLe.flat (fun h => h) hold.flat, trivial⟩

set_option maxRecDepth 200000 in
set_option maxHeartbeats 4000000 in
theorem queues_n (k : Int) : CallS Try.prog 3 [.sym (.int .i64 k), .nilslice] (memB [] []) 0 fun v _ _ => v = .bool true := by
  refine CallS.enter X Try.func3 (by decide) ?_
  cbv
  repeat' first
  | with_reducible exact trivial
  | ((with_reducible apply newT); (focus rfl); all_goals first
      | ((with_reducible intro hb3 rowsA RA aA fA mA hRA hQA); (first | ((with_reducible exfalso); omega) | cbv))
      | ((with_reducible intro hb3); (first | ((with_reducible exfalso); omega) | cbv)))
  | ((with_reducible apply CallT.enter X Try.func5 (by decide)); cbv)
  | ((with_reducible apply CallT.enter X Try.func6 (by decide)); cbv)
  | ((with_reducible apply CallT.enter X Try.func7 (by decide)); cbv)
  | ((with_reducible apply CallT.enter X Try.func15 (by decide)); cbv)
  | ((with_reducible apply awakeT); cbv)
  | ((with_reducible intro v hv); (try rw [wrap_i64] at hv); cbv)
  | ((with_reducible apply uAnd); (focus first | kernel_rfl | omega); try cbv)
  | ((with_reducible apply And.intro) <;> (with_reducible intro h) <;> first | ((with_reducible exfalso); omega) | cbv)
    | ((with_reducible apply LoopT.one X); cbv)
end Go.Proofs.Ytgkmjlchflkckaa.QueX
