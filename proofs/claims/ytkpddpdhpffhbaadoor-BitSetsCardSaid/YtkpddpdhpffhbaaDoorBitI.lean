/- The law BitSets returns true at any input. -/
import Derived.Test.YtkpddpdhpffhbaaDoorBitM
import Derived.Test.YtkpddpdhpffhbaaDoorAb47
namespace Go.Proofs.YtkpddpdhpffhbaaDoor.Bit
open Go.Ab Base Kit
set_option linter.unusedVariables false
set_option linter.unusedSimpArgs false

theorem tmod_b {a b v : Int} (h : v = a.tmod b) (ha : 0 ≤ a) (hb : 0 < b) : 0 ≤ v ∧ v < b := by
  rw [Int.tmod_eq_emod_of_nonneg ha] at h
  rw [h]
  exact ⟨Int.emod_nonneg _ (by omega), Int.emod_lt_of_pos _ hb⟩
theorem ifT {b : Bool} {k j p : Nat} (h : j = p) : (if k = j then true else b) = (b || decide (p = k)) := by
  subst h
  by_cases e : k = j
  · subst e; simp
  · have : ¬ j = k := fun z => e z.symm
    simp [e, this]
theorem AR.add {rows : List (List AV)} {R : List AV} {zs : List Int} {j : Nat} {y : Int} (h : AR rows R fun k => if k = j then true else hasB zs k) (e : j = y.toNat) : AR rows R (hasB (zs ++ [y])) := h.congr fun k _ => by rw [hasB_snoc]; exact ifT e
theorem inT {w : Int} {i j : Nat} (h : tb w i = true) (h2 : tb w j = false) (e : j = i) : False := by
  subst e; rw [h] at h2; cases h2
theorem inF {w s i : Int} {j : Nat} (hw : WS w s) (h : tb w j = true) (h0 : 0 ≤ i) (e : j = i.toNat) : 0 ≤ i ∧ i < s ∧ tb w i.toNat = true := by
  subst e
  refine ⟨h0, ?_, h⟩
  apply Classical.byContradiction
  intro h2
  have h3 := hw.s1
  rw [hw.top _ (by omega)] at h; cases h
theorem ifF {b : Bool} {k j p : Nat} (h : j = p) : (if k = j then false else b) = (b && !decide (p = k)) := by
  subst h
  by_cases e : k = j
  · subst e; simp
  · have : ¬ j = k := fun z => e z.symm
    simp [e, this]

set_option maxRecDepth 200000 in
set_option maxHeartbeats 4000000 in
theorem bitSets_s (xs : List Int) (rows : List (List AV)) (n cap : Nat) (hn : n = xs.length) (hflat : ∀ row ∈ rows, AV.flatL row = true) (hrows : At iv xs rows) (hw : ∀ x ∈ xs, inI x) (hsz : n * 8 ≤ 140737488351232) (hre : rows = xs.map iv) (size put drop : Int) :
    CallS Tryd.prog 5 [.sym (.int .i64 size), .sym (.slice 0 1 0 n cap false none), .sym (.int .i64 put), .sym (.int .i64 drop)] (memB [some (.cells false 1 rows)] []) 1 fun v _ _ => v = .bool true := by
  refine CallS.enterS Tryd.func5 (by kernel_rfl) (by decide) ?_
  refine SafeC.join X (α := Int × Sh × List (List AV)) 12 171 [] (fun s => (oI (s.at 9), s.sh 11, s.rows (oP (s.at 10)))) (fun s => [oP (s.at 10), s.nm 11 0])
    (fun a => [none, none, some (.sym (.int .i64 put)), some (.sym (.int .i64 drop)), none, none, none, none, none, some (.sym (.int .i64 a.1)), some (.ptr 1 64 0 0), some (a.2.1.av 2 1)])
    (fun a => [some (.cells false 1 rows), some (.cells true 64 a.2.2), a.2.1.blk 1])
    (fun a => (1 ≤ a.1 ∧ a.1 ≤ 64) ∧ ∃ zs : List Int, a.2.1.holds iv zs ∧ zs.length ≤ 40 ∧ (∀ z ∈ zs, 0 ≤ z ∧ z < a.1) ∧ ∃ R, AR a.2.2 R (hasB zs)) 2 ?_ ?_
  · cbv
    with_reducible apply awakeT
    cbv
    repeat' first
      | ((with_reducible intro v hv); (try rw [wrap_i64] at hv); (try rw [wrapU] at hv); (try (have hm := tmod_b hv (by omega) (by omega))); cbv)
      | ((with_reducible apply uAnd); (focus first | kernel_rfl | omega | decide); try cbv)
    have hk : 1 ≤ v ∧ v ≤ 64 := by omega
    clear hv hm
    with_reducible
     refine LoopT.invR X (α := Int × Sh × List (List AV)) 171 [] (fun s => (oI (s.at 12), s.sh 11, s.rows (oP (s.at 10)))) (fun s => [oP (s.at 10), s.nm 11 0])
      (fun a => [none, some (.sym (.slice 0 1 0 n cap false none)), some (.sym (.int .i64 put)), some (.sym (.int .i64 drop)), none, none, none, none, none, some (.sym (.int .i64 v)), some (.ptr 1 64 0 0), some (a.2.1.av 2 1), some (.sym (.int .i64 a.1))])
      (fun a => [some (.cells false 1 rows), some (.cells true 64 a.2.2), a.2.1.blk 1])
      (fun a => (0 ≤ a.1 ∧ a.1 ≤ 40) ∧ ∃ zs : List Int, a.2.1.holds iv zs ∧ zs.length = a.1.toNat ∧ (∀ z ∈ zs, 0 ≤ z ∧ z < v) ∧ ∃ R, AR a.2.2 R (hasB zs)) (fun a => (40 - a.1).toNat) ?_ ?_
    · cbv
      refine And.intro (HoldAt.mk ?_) (Head.mk ?_ ?_ ?_ ?_ ?_ ?_)
      · exact ⟨⟨Int.le_refl 0, (show (0 : Int) ≤ 40 by decide)⟩, [], rfl, rfl, (fun z hz => absurd hz List.not_mem_nil), _, newAR⟩
      all_goals cbv
      exact ⟨BlkLe.flat (fun h => h) hflat, BlkLe.flat (fun h => h) newAR.flats, trivial⟩
    · rintro ⟨j, sh, rowsI⟩ ⟨⟨j1, j2⟩, zs, hsh, hzl, hall, R, hR⟩
      dsimp only at j1 j2 hsh hzl hR
      cases sh with
      | nil =>
        have hz0 : zs = [] := hsh
        subst hz0
        simp only [List.length_nil] at hzl
        cbv
        repeat' first
          | with_reducible exact trivial
          | ((with_reducible apply ld hrows); (focus omega); intro x hx; (try (first | (have e := hx.symm.trans hxj; cases e) | have hxj := hx)); cbv)
          | ((with_reducible apply stR hR.row); (focus rfl); (focus rfl); (focus (rw [hR.len]; omega)); (intro rowsI R h0 he hl); (have hR := (hR.set (b := true) (by omega) h0 he hl)); cbv)
          | ((with_reducible intro L' rows' hL hr'); (simp only [List.length_cons, List.length_nil, Nat.zero_add] at hL); cbv)
          | ((with_reducible intro v0 hv0); (try rw [wrap_i64] at hv0); (try rw [wrapU] at hv0); (try (have hm := tmod_b hv0 (by omega) (by omega))); cbv)
          | ((with_reducible apply uAnd); (focus first | kernel_rfl | omega | (refine And.intro ?_ (And.intro ?_ (Or.inl rfl)) <;> omega) | (simp only [List.length_cons, List.length_nil]; omega)); try cbv)
          | ((with_reducible apply And.intro) <;> (with_reducible intro h) <;> (try simp only [List.length_cons, List.length_nil, Nat.zero_add] at h) <;> first | ((with_reducible exfalso); omega) | ((with_reducible exfalso); simp at h; done) | cbv)
        all_goals first
          | (rename_i y hy iy hiy
             have hh1 : Sh.holds iv ([] ++ [y]) (Sh.sl 1 1 [[.sym (.int .i64 y)]]) := Holds.one (f := iv) (x := y) rfl rfl
             refine And.intro (And.intro (HoldAt.mk ?_) True.intro) (Head.mk ?_ ?_ ?_ ?_ ?_ ?_)
             · dsimp only
               refine ⟨⟨⟨by omega, by omega⟩, [] ++ [y], hh1, ?_, ?_, _, AR.add hR (by omega)⟩, by omega⟩
               · simp only [List.length_append, List.length_cons, List.length_nil]; omega
               · intro z hz
                 rcases List.mem_append.1 hz with hz | hz
                 · exact hall z hz
                 · simp only [List.mem_singleton] at hz; subst hz; omega
             all_goals cbv
             exact ⟨BlkLe.flat (fun h => h) hflat, BlkLe.flat (fun h => h) hR.flats, BlkLe.flat (fun h => h) (by simp [AV.flatL, AV.flat]), trivial⟩)
          | (refine And.intro (And.intro (HoldAt.mk ?_) True.intro) (Head.mk ?_ ?_ ?_ ?_ ?_ ?_)
             · exact ⟨hk, [], hsh, Nat.zero_le _, hall, _, hR⟩
             all_goals cbv
             exact ⟨BlkLe.flat (fun h => h) hflat, BlkLe.flat (fun h => h) hR.flats, trivial⟩)
      | sl L cap2 rows2 =>
        have hold : Holds iv zs L cap2 rows2 := hsh
        have hL0 := hold.len; have hL1 := hold.full; have hL2 := hold.le
        cbv
        repeat' first
          | with_reducible exact trivial
          | ((with_reducible apply ld hrows); (focus omega); intro x hx; (try (first | (have e := hx.symm.trans hxj; cases e) | have hxj := hx)); cbv)
          | ((with_reducible apply stR hR.row); (focus rfl); (focus rfl); (focus (rw [hR.len]; omega)); (intro rowsI R h0 he hl); (have hR := (hR.set (b := true) (by omega) h0 he hl)); cbv)
          | ((with_reducible intro L' rows' hL hr'); (simp only [List.length_cons, List.length_nil, Nat.zero_add] at hL); cbv)
          | ((with_reducible intro v0 hv0); (try rw [wrap_i64] at hv0); (try rw [wrapU] at hv0); (try (have hm := tmod_b hv0 (by omega) (by omega))); cbv)
          | ((with_reducible apply uAnd); (focus first | kernel_rfl | omega | (refine And.intro ?_ (And.intro ?_ (Or.inl rfl)) <;> omega) | (simp only [List.length_cons, List.length_nil]; omega)); try cbv)
          | ((with_reducible apply And.intro) <;> (with_reducible intro h) <;> (try simp only [List.length_cons, List.length_nil, Nat.zero_add] at h) <;> first | ((with_reducible exfalso); omega) | ((with_reducible exfalso); simp at h; done) | cbv)
        all_goals first
          | (rename_i y hy hne iy hiy
             first
               | have hh := hold.inPlace (x := y) (by rfl) (by assumption) hL hr'
               | have hh := hold.anew (x := y) (by rfl) hL hr'
             refine And.intro (And.intro (HoldAt.mk ?_) True.intro) (Head.mk ?_ ?_ ?_ ?_ ?_ ?_)
             · dsimp only
               refine ⟨⟨⟨by omega, by omega⟩, zs ++ [y], hh, ?_, ?_, _, AR.add hR (by omega)⟩, by omega⟩
               · simp only [List.length_append, List.length_cons, List.length_nil]; omega
               · intro z hz
                 rcases List.mem_append.1 hz with hz | hz
                 · exact hall z hz
                 · simp only [List.mem_singleton] at hz; subst hz; omega
             all_goals cbv
             exact ⟨BlkLe.flat (fun h => h) hflat, BlkLe.flat (fun h => h) hR.flats, BlkLe.flat (fun h => h) hh.flat, trivial⟩)
          | (refine And.intro (And.intro (HoldAt.mk ?_) True.intro) (Head.mk ?_ ?_ ?_ ?_ ?_ ?_)
             · exact ⟨hk, zs, hsh, by omega, hall, _, hR⟩
             all_goals cbv
             exact ⟨BlkLe.flat (fun h => h) hflat, BlkLe.flat (fun h => h) hR.flats, BlkLe.flat (fun h => h) hold.flat, trivial⟩)
  · rintro ⟨v, sh, rowsI⟩ ⟨hk, zs, hsh, hzl, hall, R, hR⟩
    dsimp only at hk hsh hR hall
    refine SafeC.join X (α := Int × List (List AV)) 18 171 [] (fun s => (oI (s.cell (oP (s.at 14)) 0 0), s.rows (oP (s.at 10)))) (fun s => [oP (s.at 10), oP (s.at 14)])
      (fun a => [none, none, some (.sym (.int .i64 put)), some (.sym (.int .i64 drop)), none, none, none, none, none, some (.sym (.int .i64 v)), some (.ptr 1 64 0 0), none, none, none, some (.ptr 2 2 0 0)])
      (fun a => [some (.cells false 1 rows), some (.cells true 64 a.2), some (.cells true 2 [[.sym (.int .u64 a.1), .sym (.int .i64 v)]])])
      (fun a => WS a.1 v ∧ ∃ R, AR a.2 R (tb a.1)) 2 ?_ ?_
    · cases sh with
      | nil =>
        have hz0 : zs = [] := hsh
        subst hz0
        cbv
        repeat' first
          | with_reducible exact trivial
          | ((with_reducible apply newNilT rfl rfl); all_goals first
              | ((with_reducible intro hin w hws hbits); (first | ((with_reducible exfalso); omega) | ((have hR := hR.congr (g := tb w) (fun k _ => (hbits k).symm)); cbv)))
              | ((with_reducible intro hnin); (first | ((with_reducible exfalso); exact hnin hk) | cbv)))
          | ((with_reducible apply newT2 (xs := [v]) (hH := hat1 v)); (focus rfl); (focus rfl); (focus rfl); (focus exact RowsLe.cons rfl RowsLe.nil); (focus decide); all_goals first
              | ((with_reducible intro hin ww hws2 hbits2); (with_reducible exfalso); exact notIn1 (by omega) hin)
              | ((with_reducible intro hnin); cbv))
          | ((with_reducible apply newT2 (xs := [-1]) (hH := hat1 (-1))); (focus rfl); (focus rfl); (focus rfl); (focus exact RowsLe.cons rfl RowsLe.nil); (focus decide); all_goals first
              | ((with_reducible intro hin ww hws2 hbits2); (with_reducible exfalso); exact notIn1 (by omega) hin)
              | ((with_reducible intro hnin); cbv))
          | ((with_reducible apply newT rfl rfl rfl hHz (by decide)); all_goals first
              | ((with_reducible intro hin w hws hbits); (have hR := hR.congr (g := tb w) (fun k _ => (hbits k).symm)); cbv)
              | ((with_reducible intro hnin); (with_reducible exfalso); exact hnin ⟨hk, hall⟩))
          | ((with_reducible apply CallT.enter X Tryd.func10 (by decide)); cbv)
          | ((with_reducible intro v0 hv0); cbv)
          | ((with_reducible apply uAnd); (focus first | kernel_rfl | omega); try cbv)
          | ((with_reducible apply And.intro) <;> (with_reducible intro h) <;> first | ((with_reducible exfalso); omega) | cbv)
        all_goals
          refine And.intro (And.intro (HoldAt.mk ?_) True.intro) (Head.mk ?_ ?_ ?_ ?_ ?_ ?_)
          · exact ⟨hws, _, hR⟩
          all_goals cbv
          exact ⟨BlkLe.flat (fun h => h) hflat, BlkLe.flat (fun h => h) hR.flats, BlkLe.flat (fun h => h) (WB.flat _ _), trivial⟩
      | sl L cap2 rows2 =>
        have hold : Holds iv zs L cap2 rows2 := hsh
        have hL0 := hold.len; have hL1 := hold.full; have hL2 := hold.le
        have hHz := holds_hat hold (by omega)
        cbv
        repeat' first
          | with_reducible exact trivial
          | ((with_reducible apply newNilT rfl rfl); all_goals first
              | ((with_reducible intro hin w hws hbits); (first | ((with_reducible exfalso); omega) | ((have hR := hR.congr (g := tb w) (fun k _ => (hbits k).symm)); cbv)))
              | ((with_reducible intro hnin); (first | ((with_reducible exfalso); exact hnin hk) | cbv)))
          | ((with_reducible apply newT2 (xs := [v]) (hH := hat1 v)); (focus rfl); (focus rfl); (focus rfl); (focus exact RowsLe.cons rfl RowsLe.nil); (focus decide); all_goals first
              | ((with_reducible intro hin ww hws2 hbits2); (with_reducible exfalso); exact notIn1 (by omega) hin)
              | ((with_reducible intro hnin); cbv))
          | ((with_reducible apply newT2 (xs := [-1]) (hH := hat1 (-1))); (focus rfl); (focus rfl); (focus rfl); (focus exact RowsLe.cons rfl RowsLe.nil); (focus decide); all_goals first
              | ((with_reducible intro hin ww hws2 hbits2); (with_reducible exfalso); exact notIn1 (by omega) hin)
              | ((with_reducible intro hnin); cbv))
          | ((with_reducible apply newT rfl rfl rfl hHz (by decide)); all_goals first
              | ((with_reducible intro hin w hws hbits); (have hR := hR.congr (g := tb w) (fun k _ => (hbits k).symm)); cbv)
              | ((with_reducible intro hnin); (with_reducible exfalso); exact hnin ⟨hk, hall⟩))
          | ((with_reducible apply CallT.enter X Tryd.func10 (by decide)); cbv)
          | ((with_reducible intro v0 hv0); cbv)
          | ((with_reducible apply uAnd); (focus first | kernel_rfl | omega); try cbv)
          | ((with_reducible apply And.intro) <;> (with_reducible intro h) <;> first | ((with_reducible exfalso); omega) | cbv)
        all_goals
          refine And.intro (And.intro (HoldAt.mk ?_) True.intro) (Head.mk ?_ ?_ ?_ ?_ ?_ ?_)
          · exact ⟨hws, _, hR⟩
          all_goals cbv
          exact ⟨BlkLe.flat (fun h => h) hflat, BlkLe.flat (fun h => h) hR.flats, BlkLe.flat (fun h => h) (WB.flat _ _), trivial⟩
    · clear hR hsh hall hzl
      rintro ⟨w, rowsI⟩ ⟨hws, R, hR⟩
      dsimp only at hws hR
      refine SafeC.join X (α := Int × List (List AV)) 25 171 [] (fun s => (oI (s.cell (oP (s.at 14)) 0 0), s.rows (oP (s.at 10)))) (fun s => [oP (s.at 10), oP (s.at 14)])
        (fun a => [none, none, none, none, none, none, none, none, none, none, some (.ptr 1 64 0 0), none, none, none, some (.ptr 2 2 0 0)])
        (fun a => [some (.cells false 1 rows), some (.cells true 64 a.2), some (.cells true 2 [[.sym (.int .u64 a.1), .sym (.int .i64 v)]])])
        (fun a => WS a.1 v ∧ ∃ R, AR a.2 R (tb a.1)) 2 ?_ ?_
      · cbv
        repeat' first
          | ((with_reducible apply stR hR.row); (focus rfl); (focus rfl); (focus (rw [hR.len]; omega)); (intro rowsI R h0 he hl); (first
              | have hR := (hR.set (b := true) (by omega) h0 he hl).congr (g := tb w1) (fun k _ => by rw [hb1]; exact ifT (by omega))
              | have hR := (hR.set (b := false) (by omega) h0 he hl).congr (g := tb w2) (fun k _ => by rw [hb2]; exact ifF (by omega))); cbv)
          | ((with_reducible apply putT hws); (focus rfl); (focus rfl); (focus rfl); (focus decide); all_goals first
              | ((with_reducible intro p1 p2 w1 hws hb1); cbv)
              | ((with_reducible intro hbad1); cbv))
          | ((with_reducible apply dropT hws); (focus rfl); (focus rfl); (focus rfl); (focus decide); all_goals first
              | ((with_reducible intro d1 d2 w2 hws hb2); cbv)
              | ((with_reducible intro hbad2); cbv))
          | ((with_reducible apply CallT.enter X Tryd.func10 (by decide)); cbv)
          | ((with_reducible intro v0 hv0); cbv)
          | ((with_reducible apply uAnd); (focus first | kernel_rfl | omega); try cbv)
          | ((with_reducible apply And.intro) <;> (with_reducible intro h) <;> first | ((with_reducible exfalso); omega) | cbv)
        all_goals
          refine And.intro (And.intro (HoldAt.mk ?_) True.intro) (Head.mk ?_ ?_ ?_ ?_ ?_ ?_)
          · exact ⟨hws, _, hR⟩
          all_goals cbv
          exact ⟨BlkLe.flat (fun h => h) hflat, BlkLe.flat (fun h => h) hR.flats, BlkLe.flat (fun h => h) (WB.flat _ _), trivial⟩
      · clear hws hR
        rintro ⟨w, rowsI⟩ ⟨hws, R, hR⟩
        dsimp only at hws hR
        refine SafeC.walk X ?_
        cbv
        with_reducible
         refine LoopT.invR X (α := Int) 171 [] (fun s => oI (s.at 24)) (fun s => [oP (s.at 10), oP (s.at 14)])
          (fun a => [none, none, none, none, none, none, none, none, none, none, some (.ptr 1 64 0 0), none, none, none, some (.ptr 2 2 0 0), none, none, none, none, none, none, none, none, none, some (.sym (.int .i64 a))])
          (fun a => [some (.cells false 1 rows), some (.cells true 64 rowsI), some (.cells true 2 [[.sym (.int .u64 w), .sym (.int .i64 v)]])])
          (fun a => -2 ≤ a ∧ a ≤ 66) (fun a => (66 - a).toNat) ?_ ?_
        · cbv
          refine And.intro (HoldAt.mk ?_) (Head.mk ?_ ?_ ?_ ?_ ?_ ?_)
          · exact ⟨(show (-2 : Int) ≤ -2 by decide), (show (-2 : Int) ≤ 66 by decide)⟩
          all_goals cbv
          exact ⟨BlkLe.flat (fun h => h) hflat, BlkLe.flat (fun h => h) hR.flats, BlkLe.flat (fun h => h) (WB.flat _ _), trivial⟩
        · rintro i ⟨i1, i2⟩
          cbv
          repeat' first
            | with_reducible exact trivial
            | ((with_reducible apply hasT hws); (focus rfl); (focus rfl); (focus rfl); all_goals first
                | ((with_reducible intro b1 b2 b3); cbv)
                | ((with_reducible intro hno); cbv))
            | ((with_reducible apply ldRB hR.row); (focus rfl); (focus exact hR.arr _ (by omega)); all_goals
                ((with_reducible intro hf); (first
                    | ((with_reducible exfalso); exact inT b3 hf (by omega))
                    | ((with_reducible exfalso); exact hno (inF hws hf (by omega) (by omega)))
                    | cbv)))
            | ((with_reducible intro v0 hv0); (try rw [wrap_i64] at hv0); cbv)
            | ((with_reducible apply uAnd); (focus first | kernel_rfl | omega); try cbv)
            | ((with_reducible apply And.intro) <;> (with_reducible intro h) <;> first | ((with_reducible exfalso); omega) | cbv)
          all_goals
            refine And.intro (And.intro (HoldAt.mk ?_) True.intro) (Head.mk ?_ ?_ ?_ ?_ ?_ ?_)
            · exact ⟨⟨by omega, by omega⟩, by omega⟩
            all_goals cbv
            exact ⟨BlkLe.flat (fun h => h) hflat, BlkLe.flat (fun h => h) hR.flats, BlkLe.flat (fun h => h) (WB.flat _ _), trivial⟩

set_option maxRecDepth 200000 in
set_option maxHeartbeats 4000000 in
theorem bitSets_n  (size put drop : Int) :
    CallS Tryd.prog 5 [.sym (.int .i64 size), .nilslice, .sym (.int .i64 put), .sym (.int .i64 drop)] (memB [] []) 0 fun v _ _ => v = .bool true := by
  refine CallS.enterS Tryd.func5 (by kernel_rfl) (by decide) ?_
  refine SafeC.join X (α := Int × Sh × List (List AV)) 12 171 [] (fun s => (oI (s.at 9), s.sh 11, s.rows (oP (s.at 10)))) (fun s => [oP (s.at 10), s.nm 11 0])
    (fun a => [none, none, some (.sym (.int .i64 put)), some (.sym (.int .i64 drop)), none, none, none, none, none, some (.sym (.int .i64 a.1)), some (.ptr 0 64 0 0), some (a.2.1.av 1 1)])
    (fun a => [some (.cells true 64 a.2.2), a.2.1.blk 1])
    (fun a => (1 ≤ a.1 ∧ a.1 ≤ 64) ∧ ∃ zs : List Int, a.2.1.holds iv zs ∧ zs.length ≤ 40 ∧ (∀ z ∈ zs, 0 ≤ z ∧ z < a.1) ∧ ∃ R, AR a.2.2 R (hasB zs)) 2 ?_ ?_
  · cbv
    with_reducible apply awakeT
    cbv
    repeat' first
      | ((with_reducible intro v hv); (try rw [wrap_i64] at hv); (try rw [wrapU] at hv); (try (have hm := tmod_b hv (by omega) (by omega))); cbv)
      | ((with_reducible apply uAnd); (focus first | kernel_rfl | omega | decide); try cbv)
    have hk : 1 ≤ v ∧ v ≤ 64 := by omega
    clear hv hm
    with_reducible
     refine LoopT.invR X (α := Int × Sh × List (List AV)) 171 [] (fun s => (oI (s.at 12), s.sh 11, s.rows (oP (s.at 10)))) (fun s => [oP (s.at 10), s.nm 11 0])
      (fun a => [none, some (.nilslice), some (.sym (.int .i64 put)), some (.sym (.int .i64 drop)), none, none, none, none, none, some (.sym (.int .i64 v)), some (.ptr 0 64 0 0), some (a.2.1.av 1 1), some (.sym (.int .i64 a.1))])
      (fun a => [some (.cells true 64 a.2.2), a.2.1.blk 1])
      (fun a => (0 ≤ a.1 ∧ a.1 ≤ 40) ∧ ∃ zs : List Int, a.2.1.holds iv zs ∧ zs.length = a.1.toNat ∧ (∀ z ∈ zs, 0 ≤ z ∧ z < v) ∧ ∃ R, AR a.2.2 R (hasB zs)) (fun a => (40 - a.1).toNat) ?_ ?_
    · cbv
      refine And.intro (HoldAt.mk ?_) (Head.mk ?_ ?_ ?_ ?_ ?_ ?_)
      · exact ⟨⟨Int.le_refl 0, (show (0 : Int) ≤ 40 by decide)⟩, [], rfl, rfl, (fun z hz => absurd hz List.not_mem_nil), _, newAR⟩
      all_goals cbv
      exact ⟨BlkLe.flat (fun h => h) newAR.flats, trivial⟩
    · rintro ⟨j, sh, rowsI⟩ ⟨⟨j1, j2⟩, zs, hsh, hzl, hall, R, hR⟩
      dsimp only at j1 j2 hsh hzl hR
      cases sh with
      | nil =>
        have hz0 : zs = [] := hsh
        subst hz0
        simp only [List.length_nil] at hzl
        cbv
        repeat' first
          | with_reducible exact trivial
          | ((with_reducible apply ld hrows); (focus omega); intro x hx; (try (first | (have e := hx.symm.trans hxj; cases e) | have hxj := hx)); cbv)
          | ((with_reducible apply stR hR.row); (focus rfl); (focus rfl); (focus (rw [hR.len]; omega)); (intro rowsI R h0 he hl); (have hR := (hR.set (b := true) (by omega) h0 he hl)); cbv)
          | ((with_reducible intro L' rows' hL hr'); (simp only [List.length_cons, List.length_nil, Nat.zero_add] at hL); cbv)
          | ((with_reducible intro v0 hv0); (try rw [wrap_i64] at hv0); (try rw [wrapU] at hv0); (try (have hm := tmod_b hv0 (by omega) (by omega))); cbv)
          | ((with_reducible apply uAnd); (focus first | kernel_rfl | omega | (refine And.intro ?_ (And.intro ?_ (Or.inl rfl)) <;> omega) | (simp only [List.length_cons, List.length_nil]; omega)); try cbv)
          | ((with_reducible apply And.intro) <;> (with_reducible intro h) <;> (try simp only [List.length_cons, List.length_nil, Nat.zero_add] at h) <;> first | ((with_reducible exfalso); omega) | ((with_reducible exfalso); simp at h; done) | cbv)
        all_goals first
          | (rename_i y hy iy hiy
             have hh1 : Sh.holds iv ([] ++ [y]) (Sh.sl 1 1 [[.sym (.int .i64 y)]]) := Holds.one (f := iv) (x := y) rfl rfl
             refine And.intro (And.intro (HoldAt.mk ?_) True.intro) (Head.mk ?_ ?_ ?_ ?_ ?_ ?_)
             · dsimp only
               refine ⟨⟨⟨by omega, by omega⟩, [] ++ [y], hh1, ?_, ?_, _, AR.add hR (by omega)⟩, by omega⟩
               · simp only [List.length_append, List.length_cons, List.length_nil]; omega
               · intro z hz
                 rcases List.mem_append.1 hz with hz | hz
                 · exact hall z hz
                 · simp only [List.mem_singleton] at hz; subst hz; omega
             all_goals cbv
             exact ⟨BlkLe.flat (fun h => h) hR.flats, BlkLe.flat (fun h => h) (by simp [AV.flatL, AV.flat]), trivial⟩)
          | (refine And.intro (And.intro (HoldAt.mk ?_) True.intro) (Head.mk ?_ ?_ ?_ ?_ ?_ ?_)
             · exact ⟨hk, [], hsh, Nat.zero_le _, hall, _, hR⟩
             all_goals cbv
             exact ⟨BlkLe.flat (fun h => h) hR.flats, trivial⟩)
      | sl L cap2 rows2 =>
        have hold : Holds iv zs L cap2 rows2 := hsh
        have hL0 := hold.len; have hL1 := hold.full; have hL2 := hold.le
        cbv
        repeat' first
          | with_reducible exact trivial
          | ((with_reducible apply ld hrows); (focus omega); intro x hx; (try (first | (have e := hx.symm.trans hxj; cases e) | have hxj := hx)); cbv)
          | ((with_reducible apply stR hR.row); (focus rfl); (focus rfl); (focus (rw [hR.len]; omega)); (intro rowsI R h0 he hl); (have hR := (hR.set (b := true) (by omega) h0 he hl)); cbv)
          | ((with_reducible intro L' rows' hL hr'); (simp only [List.length_cons, List.length_nil, Nat.zero_add] at hL); cbv)
          | ((with_reducible intro v0 hv0); (try rw [wrap_i64] at hv0); (try rw [wrapU] at hv0); (try (have hm := tmod_b hv0 (by omega) (by omega))); cbv)
          | ((with_reducible apply uAnd); (focus first | kernel_rfl | omega | (refine And.intro ?_ (And.intro ?_ (Or.inl rfl)) <;> omega) | (simp only [List.length_cons, List.length_nil]; omega)); try cbv)
          | ((with_reducible apply And.intro) <;> (with_reducible intro h) <;> (try simp only [List.length_cons, List.length_nil, Nat.zero_add] at h) <;> first | ((with_reducible exfalso); omega) | ((with_reducible exfalso); simp at h; done) | cbv)
        all_goals first
          | (rename_i y hy hne iy hiy
             first
               | have hh := hold.inPlace (x := y) (by rfl) (by assumption) hL hr'
               | have hh := hold.anew (x := y) (by rfl) hL hr'
             refine And.intro (And.intro (HoldAt.mk ?_) True.intro) (Head.mk ?_ ?_ ?_ ?_ ?_ ?_)
             · dsimp only
               refine ⟨⟨⟨by omega, by omega⟩, zs ++ [y], hh, ?_, ?_, _, AR.add hR (by omega)⟩, by omega⟩
               · simp only [List.length_append, List.length_cons, List.length_nil]; omega
               · intro z hz
                 rcases List.mem_append.1 hz with hz | hz
                 · exact hall z hz
                 · simp only [List.mem_singleton] at hz; subst hz; omega
             all_goals cbv
             exact ⟨BlkLe.flat (fun h => h) hR.flats, BlkLe.flat (fun h => h) hh.flat, trivial⟩)
          | (refine And.intro (And.intro (HoldAt.mk ?_) True.intro) (Head.mk ?_ ?_ ?_ ?_ ?_ ?_)
             · exact ⟨hk, zs, hsh, by omega, hall, _, hR⟩
             all_goals cbv
             exact ⟨BlkLe.flat (fun h => h) hR.flats, BlkLe.flat (fun h => h) hold.flat, trivial⟩)
  · rintro ⟨v, sh, rowsI⟩ ⟨hk, zs, hsh, hzl, hall, R, hR⟩
    dsimp only at hk hsh hR hall
    refine SafeC.join X (α := Int × List (List AV)) 18 171 [] (fun s => (oI (s.cell (oP (s.at 14)) 0 0), s.rows (oP (s.at 10)))) (fun s => [oP (s.at 10), oP (s.at 14)])
      (fun a => [none, none, some (.sym (.int .i64 put)), some (.sym (.int .i64 drop)), none, none, none, none, none, some (.sym (.int .i64 v)), some (.ptr 0 64 0 0), none, none, none, some (.ptr 1 2 0 0)])
      (fun a => [some (.cells true 64 a.2), some (.cells true 2 [[.sym (.int .u64 a.1), .sym (.int .i64 v)]])])
      (fun a => WS a.1 v ∧ ∃ R, AR a.2 R (tb a.1)) 2 ?_ ?_
    · cases sh with
      | nil =>
        have hz0 : zs = [] := hsh
        subst hz0
        cbv
        repeat' first
          | with_reducible exact trivial
          | ((with_reducible apply newNilT rfl rfl); all_goals first
              | ((with_reducible intro hin w hws hbits); (first | ((with_reducible exfalso); omega) | ((have hR := hR.congr (g := tb w) (fun k _ => (hbits k).symm)); cbv)))
              | ((with_reducible intro hnin); (first | ((with_reducible exfalso); exact hnin hk) | cbv)))
          | ((with_reducible apply newT2 (xs := [v]) (hH := hat1 v)); (focus rfl); (focus rfl); (focus rfl); (focus exact RowsLe.cons rfl RowsLe.nil); (focus decide); all_goals first
              | ((with_reducible intro hin ww hws2 hbits2); (with_reducible exfalso); exact notIn1 (by omega) hin)
              | ((with_reducible intro hnin); cbv))
          | ((with_reducible apply newT2 (xs := [-1]) (hH := hat1 (-1))); (focus rfl); (focus rfl); (focus rfl); (focus exact RowsLe.cons rfl RowsLe.nil); (focus decide); all_goals first
              | ((with_reducible intro hin ww hws2 hbits2); (with_reducible exfalso); exact notIn1 (by omega) hin)
              | ((with_reducible intro hnin); cbv))
          | ((with_reducible apply newT rfl rfl rfl hHz (by decide)); all_goals first
              | ((with_reducible intro hin w hws hbits); (have hR := hR.congr (g := tb w) (fun k _ => (hbits k).symm)); cbv)
              | ((with_reducible intro hnin); (with_reducible exfalso); exact hnin ⟨hk, hall⟩))
          | ((with_reducible apply CallT.enter X Tryd.func10 (by decide)); cbv)
          | ((with_reducible intro v0 hv0); cbv)
          | ((with_reducible apply uAnd); (focus first | kernel_rfl | omega); try cbv)
          | ((with_reducible apply And.intro) <;> (with_reducible intro h) <;> first | ((with_reducible exfalso); omega) | cbv)
        all_goals
          refine And.intro (And.intro (HoldAt.mk ?_) True.intro) (Head.mk ?_ ?_ ?_ ?_ ?_ ?_)
          · exact ⟨hws, _, hR⟩
          all_goals cbv
          exact ⟨BlkLe.flat (fun h => h) hR.flats, BlkLe.flat (fun h => h) (WB.flat _ _), trivial⟩
      | sl L cap2 rows2 =>
        have hold : Holds iv zs L cap2 rows2 := hsh
        have hL0 := hold.len; have hL1 := hold.full; have hL2 := hold.le
        have hHz := holds_hat hold (by omega)
        cbv
        repeat' first
          | with_reducible exact trivial
          | ((with_reducible apply newNilT rfl rfl); all_goals first
              | ((with_reducible intro hin w hws hbits); (first | ((with_reducible exfalso); omega) | ((have hR := hR.congr (g := tb w) (fun k _ => (hbits k).symm)); cbv)))
              | ((with_reducible intro hnin); (first | ((with_reducible exfalso); exact hnin hk) | cbv)))
          | ((with_reducible apply newT2 (xs := [v]) (hH := hat1 v)); (focus rfl); (focus rfl); (focus rfl); (focus exact RowsLe.cons rfl RowsLe.nil); (focus decide); all_goals first
              | ((with_reducible intro hin ww hws2 hbits2); (with_reducible exfalso); exact notIn1 (by omega) hin)
              | ((with_reducible intro hnin); cbv))
          | ((with_reducible apply newT2 (xs := [-1]) (hH := hat1 (-1))); (focus rfl); (focus rfl); (focus rfl); (focus exact RowsLe.cons rfl RowsLe.nil); (focus decide); all_goals first
              | ((with_reducible intro hin ww hws2 hbits2); (with_reducible exfalso); exact notIn1 (by omega) hin)
              | ((with_reducible intro hnin); cbv))
          | ((with_reducible apply newT rfl rfl rfl hHz (by decide)); all_goals first
              | ((with_reducible intro hin w hws hbits); (have hR := hR.congr (g := tb w) (fun k _ => (hbits k).symm)); cbv)
              | ((with_reducible intro hnin); (with_reducible exfalso); exact hnin ⟨hk, hall⟩))
          | ((with_reducible apply CallT.enter X Tryd.func10 (by decide)); cbv)
          | ((with_reducible intro v0 hv0); cbv)
          | ((with_reducible apply uAnd); (focus first | kernel_rfl | omega); try cbv)
          | ((with_reducible apply And.intro) <;> (with_reducible intro h) <;> first | ((with_reducible exfalso); omega) | cbv)
        all_goals
          refine And.intro (And.intro (HoldAt.mk ?_) True.intro) (Head.mk ?_ ?_ ?_ ?_ ?_ ?_)
          · exact ⟨hws, _, hR⟩
          all_goals cbv
          exact ⟨BlkLe.flat (fun h => h) hR.flats, BlkLe.flat (fun h => h) (WB.flat _ _), trivial⟩
    · clear hR hsh hall hzl
      rintro ⟨w, rowsI⟩ ⟨hws, R, hR⟩
      dsimp only at hws hR
      refine SafeC.join X (α := Int × List (List AV)) 25 171 [] (fun s => (oI (s.cell (oP (s.at 14)) 0 0), s.rows (oP (s.at 10)))) (fun s => [oP (s.at 10), oP (s.at 14)])
        (fun a => [none, none, none, none, none, none, none, none, none, none, some (.ptr 0 64 0 0), none, none, none, some (.ptr 1 2 0 0)])
        (fun a => [some (.cells true 64 a.2), some (.cells true 2 [[.sym (.int .u64 a.1), .sym (.int .i64 v)]])])
        (fun a => WS a.1 v ∧ ∃ R, AR a.2 R (tb a.1)) 2 ?_ ?_
      · cbv
        repeat' first
          | ((with_reducible apply stR hR.row); (focus rfl); (focus rfl); (focus (rw [hR.len]; omega)); (intro rowsI R h0 he hl); (first
              | have hR := (hR.set (b := true) (by omega) h0 he hl).congr (g := tb w1) (fun k _ => by rw [hb1]; exact ifT (by omega))
              | have hR := (hR.set (b := false) (by omega) h0 he hl).congr (g := tb w2) (fun k _ => by rw [hb2]; exact ifF (by omega))); cbv)
          | ((with_reducible apply putT hws); (focus rfl); (focus rfl); (focus rfl); (focus decide); all_goals first
              | ((with_reducible intro p1 p2 w1 hws hb1); cbv)
              | ((with_reducible intro hbad1); cbv))
          | ((with_reducible apply dropT hws); (focus rfl); (focus rfl); (focus rfl); (focus decide); all_goals first
              | ((with_reducible intro d1 d2 w2 hws hb2); cbv)
              | ((with_reducible intro hbad2); cbv))
          | ((with_reducible apply CallT.enter X Tryd.func10 (by decide)); cbv)
          | ((with_reducible intro v0 hv0); cbv)
          | ((with_reducible apply uAnd); (focus first | kernel_rfl | omega); try cbv)
          | ((with_reducible apply And.intro) <;> (with_reducible intro h) <;> first | ((with_reducible exfalso); omega) | cbv)
        all_goals
          refine And.intro (And.intro (HoldAt.mk ?_) True.intro) (Head.mk ?_ ?_ ?_ ?_ ?_ ?_)
          · exact ⟨hws, _, hR⟩
          all_goals cbv
          exact ⟨BlkLe.flat (fun h => h) hR.flats, BlkLe.flat (fun h => h) (WB.flat _ _), trivial⟩
      · clear hws hR
        rintro ⟨w, rowsI⟩ ⟨hws, R, hR⟩
        dsimp only at hws hR
        refine SafeC.walk X ?_
        cbv
        with_reducible
         refine LoopT.invR X (α := Int) 171 [] (fun s => oI (s.at 24)) (fun s => [oP (s.at 10), oP (s.at 14)])
          (fun a => [none, none, none, none, none, none, none, none, none, none, some (.ptr 0 64 0 0), none, none, none, some (.ptr 1 2 0 0), none, none, none, none, none, none, none, none, none, some (.sym (.int .i64 a))])
          (fun a => [some (.cells true 64 rowsI), some (.cells true 2 [[.sym (.int .u64 w), .sym (.int .i64 v)]])])
          (fun a => -2 ≤ a ∧ a ≤ 66) (fun a => (66 - a).toNat) ?_ ?_
        · cbv
          refine And.intro (HoldAt.mk ?_) (Head.mk ?_ ?_ ?_ ?_ ?_ ?_)
          · exact ⟨(show (-2 : Int) ≤ -2 by decide), (show (-2 : Int) ≤ 66 by decide)⟩
          all_goals cbv
          exact ⟨BlkLe.flat (fun h => h) hR.flats, BlkLe.flat (fun h => h) (WB.flat _ _), trivial⟩
        · rintro i ⟨i1, i2⟩
          cbv
          repeat' first
            | with_reducible exact trivial
            | ((with_reducible apply hasT hws); (focus rfl); (focus rfl); (focus rfl); all_goals first
                | ((with_reducible intro b1 b2 b3); cbv)
                | ((with_reducible intro hno); cbv))
            | ((with_reducible apply ldRB hR.row); (focus rfl); (focus exact hR.arr _ (by omega)); all_goals
                ((with_reducible intro hf); (first
                    | ((with_reducible exfalso); exact inT b3 hf (by omega))
                    | ((with_reducible exfalso); exact hno (inF hws hf (by omega) (by omega)))
                    | cbv)))
            | ((with_reducible intro v0 hv0); (try rw [wrap_i64] at hv0); cbv)
            | ((with_reducible apply uAnd); (focus first | kernel_rfl | omega); try cbv)
            | ((with_reducible apply And.intro) <;> (with_reducible intro h) <;> first | ((with_reducible exfalso); omega) | cbv)
          all_goals
            refine And.intro (And.intro (HoldAt.mk ?_) True.intro) (Head.mk ?_ ?_ ?_ ?_ ?_ ?_)
            · exact ⟨⟨by omega, by omega⟩, by omega⟩
            all_goals cbv
            exact ⟨BlkLe.flat (fun h => h) hR.flats, BlkLe.flat (fun h => h) (WB.flat _ _), trivial⟩
end Go.Proofs.YtkpddpdhpffhbaaDoor.Bit
