/- The law BitActs returns true at any input. -/
import Derived.Test.YtkpddpdhpffhbaaDoorBitM
import Derived.Test.YtkpddpdhpffhbaaDoorAb47
namespace Go.Proofs.YtkpddpdhpffhbaaDoor.Bit
open Go.Ab Base Kit
set_option linter.unusedVariables false
set_option linter.unusedSimpArgs false

set_option maxRecDepth 200000 in
set_option maxHeartbeats 4000000 in
theorem bitActs_ss (xs : List Int) (rows : List (List AV)) (n cap : Nat) (hn : n = xs.length) (hflat : ∀ row ∈ rows, AV.flatL row = true) (hrows : At iv xs rows) (hw : ∀ x ∈ xs, inI x) (hsz : n * 8 ≤ 140737488351232) (hre : rows = xs.map iv) (ys : List Int) (rows2 : List (List AV)) (n2 cap2 : Nat) (hn2 : n2 = ys.length) (hflat2 : ∀ row ∈ rows2, AV.flatL row = true) (hrows2 : At iv ys rows2) (hw2 : ∀ x ∈ ys, inI x) (hsz2 : n2 * 8 ≤ 140737488351232) (hre2 : rows2 = ys.map iv) (size : Int) :
    CallS Tryd.prog 3 [.sym (.int .i64 size), .sym (.slice 0 1 0 n cap false none), .sym (.slice 1 1 0 n2 cap2 false none)] (memB [some (.cells false 1 rows), some (.cells false 1 rows2)] []) 2 fun v _ _ => v = .bool true := by
  have hH : Hat iv xs rows n := ⟨hn, by omega, hflat, hrows⟩
  have hlr : n ≤ rows.length := by rw [hre, List.length_map]; omega
  refine CallS.enter X Tryd.func3 (by decide) ?_
  cbv
  repeat' first
    | with_reducible exact trivial
    | ((with_reducible apply lendIntsT rfl rfl hH hlr hsz (by decide)); (with_reducible intro rowsL hLt); (have hHL : Hat iv xs rowsL n := ⟨hn, by omega, hLt.1, hLt.2.1⟩); cbv)
    | ((with_reducible apply newT rfl rfl rfl hHL (by decide)); all_goals first
        | ((with_reducible intro hin w hws hbits); cbv)
        | ((with_reducible intro hnin); cbv))
    | ((with_reducible apply rnewT rfl rfl rfl hH (by decide)); all_goals first
        | ((with_reducible intro hin2 rowsB R f hR0 hf0); (first | ((with_reducible exfalso); exact hnin hin2) | ((have hR := hR0.congr (g := tb w) (fun k _ => by rw [hf0, hbits])); cbv)))
        | ((with_reducible intro hnin2); (first | ((with_reducible exfalso); exact hnin2 hin) | cbv)))
    | ((with_reducible apply keptIntsT rfl rfl hLt rfl rfl hH hsz); cbv)
    | ((with_reducible apply CallT.enter X Tryd.func10 (by decide)); cbv)
    | ((with_reducible apply awakeT); cbv)
    | ((with_reducible intro v hv); cbv)
    | ((with_reducible apply uAnd); (focus first | kernel_rfl | omega); try cbv)
    | ((with_reducible apply And.intro) <;> (with_reducible intro h) <;> first | ((with_reducible exfalso); omega) | cbv)
  with_reducible
   refine LoopT.invS (α := Int × Int × List (List AV)) 140 [] (fun s => (oI (s.at 12), oI (s.cell (oP (s.at 8)) 0 0), s.rows (oP (s.at 10)))) (fun s => [oP (s.at 8), oP (s.at 10)])
    (fun a => [none, none, some (.sym (.slice 1 1 0 n2 cap2 false none)), none, none, none, none, none, some (.ptr 2 2 0 0), none, some (.ptr 3 65 0 0), none, some (.sym (.int .i64 a.1))])
    (fun a => [some (.cells false 1 rows), some (.cells false 1 rows2), some (.cells true 2 [[.sym (.int .u64 a.2.1), .sym (.int .i64 size)]]), some (.cells true 65 a.2.2)])
    (fun a => (0 ≤ a.1 ∧ a.1.toNat ≤ n2 ∧ a.1 ≤ 100) ∧ WS a.2.1 size ∧ ∃ R, BR a.2.2 R (tb a.2.1) size) (fun a => n2 - a.1.toNat) ?_ ?_
  · cbv
    refine And.intro (HoldAt.mk ?_) (Head.mk ?_ ?_ ?_ ?_ ?_ ?_)
    · exact ⟨⟨Int.le_refl 0, Nat.zero_le _, (show (0 : Int) ≤ 100 by decide)⟩, hws, R, hR⟩
    all_goals cbv
    exact ⟨BlkLe.flat (fun h => h) hflat, BlkLe.flat (fun h => h) hflat2, BlkLe.flat (fun h => h) (WB.flat _ _), BlkLe.flat (fun h => h) hR.flats, trivial⟩
  · clear hws hR hR0 hf0 hbits
    rintro ⟨j, w, rowsB⟩ ⟨⟨j1, j2, j3⟩, hws, R, hR⟩
    dsimp only at j1 j2 j3 hws hR
    refine SafeC.join X (α := Int × Int × List (List AV) × Int) 24 140 [] (fun s => (oI (s.at 12), oI (s.cell (oP (s.at 8)) 0 0), s.rows (oP (s.at 10)), oI (s.at 13))) (fun s => [oP (s.at 8), oP (s.at 10)])
      (fun a => [none, none, some (.sym (.slice 1 1 0 n2 cap2 false none)), none, none, none, none, none, some (.ptr 2 2 0 0), none, some (.ptr 3 65 0 0), none, some (.sym (.int .i64 a.1)), some (.sym (.int .i64 a.2.2.2))])
      (fun a => [some (.cells false 1 rows), some (.cells false 1 rows2), some (.cells true 2 [[.sym (.int .u64 a.2.1), .sym (.int .i64 size)]]), some (.cells true 65 a.2.2.1)])
      (fun a => (a.1 = j ∧ j.toNat < n2 ∧ j < 100) ∧ WS a.2.1 size ∧ ∃ R, BR a.2.2.1 R (tb a.2.1) size) 2 ?_ ?_
    · cbv
      repeat' first
        | ((with_reducible intro v hv); (try rw [wrap_i64] at hv); cbv)
        | ((with_reducible apply uAnd); (focus first | kernel_rfl | omega); try cbv)
        | ((with_reducible apply And.intro) <;> (with_reducible intro h) <;> first | ((with_reducible exfalso); omega) | cbv)
        | ((with_reducible apply ld hrows2); (focus omega); intro x hx; (try rw [show v = j.toNat by omega] at hx); (try (first | (have e := hx.symm.trans hxj; cases e) | have hxj := hx)); cbv)
        | ((with_reducible apply putT hws); (focus rfl); (focus rfl); (focus rfl); (focus decide); all_goals first
            | ((with_reducible intro p1 p2 w hws hb); cbv)
            | ((with_reducible intro hbad); cbv))
        | ((with_reducible apply dropT hws); (focus rfl); (focus rfl); (focus rfl); (focus decide); all_goals first
            | ((with_reducible intro p1 p2 w hws hb); cbv)
            | ((with_reducible intro hbad); cbv))
        | ((with_reducible apply rputT hR); (focus rfl); (focus rfl); (focus rfl); (focus decide); all_goals first
            | ((with_reducible intro q1 q2 rowsB' R' f' hR' hf'); (first | ((with_reducible exfalso); exact hbad ⟨q1, q2⟩) | ((have hR := hR'.congr (g := tb w) (fun k _ => by rw [hf', hb])); cbv)))
            | ((with_reducible intro hbad2 rowsB' R' hR); (first | ((with_reducible exfalso); exact hbad2 ⟨p1, p2⟩) | cbv)))
        | ((with_reducible apply rdropT hR); (focus rfl); (focus rfl); (focus rfl); (focus decide); all_goals first
            | ((with_reducible intro q1 q2 rowsB' R' f' hR' hf'); (first | ((with_reducible exfalso); exact hbad ⟨q1, q2⟩) | ((have hR := hR'.congr (g := tb w) (fun k _ => by rw [hf', hb])); cbv)))
            | ((with_reducible intro hbad2 rowsB' R' hR); (first | ((with_reducible exfalso); exact hbad2 ⟨p1, p2⟩) | cbv)))
        | ((with_reducible apply CallT.enter X Tryd.func10 (by decide)); cbv)
        | ((with_reducible apply awakeT); cbv)
      all_goals
        refine And.intro (And.intro (HoldAt.mk ?_) True.intro) (Head.mk ?_ ?_ ?_ ?_ ?_ ?_)
        · exact ⟨⟨rfl, by omega, by omega⟩, hws, _, hR⟩
        all_goals cbv
        exact ⟨BlkLe.flat (fun h => h) hflat, BlkLe.flat (fun h => h) hflat2, BlkLe.flat (fun h => h) (WB.flat _ _), BlkLe.flat (fun h => h) hR.flats, trivial⟩
    · clear hws hR
      rintro ⟨j', w, rowsB, k⟩ ⟨⟨e1, e2, e3⟩, hws, R, hR⟩
      dsimp only at e1 hws hR
      refine SafeC.walk X ?_
      cbv
      repeat' first
        | with_reducible exact trivial
        | ((with_reducible apply nextT hws); (focus rfl); (focus rfl); (focus rfl); all_goals first
            | ((with_reducible intro p hp); cbv)
            | ((with_reducible intro he); cbv))
        | ((with_reducible apply rnextT hR); (focus rfl); (focus rfl); (focus rfl); all_goals first
            | ((with_reducible intro p2 hp2); (first | ((with_reducible exfalso); exact hp2.has he) | cbv))
            | ((with_reducible intro he2); (first | ((with_reducible exfalso); exact hp.has he2) | cbv)))
        | ((with_reducible apply hasT hws); (focus rfl); (focus rfl); (focus rfl); all_goals first
            | ((with_reducible intro b1 b2 b3); cbv)
            | ((with_reducible intro hno); cbv))
        | ((with_reducible apply rhasT hR); (focus rfl); (focus rfl); (focus rfl); all_goals first
            | ((with_reducible intro c1 c2 c3); (first | ((with_reducible exfalso); exact hno ⟨c1, c2, c3⟩) | cbv))
            | ((with_reducible intro hno2); (first | ((with_reducible exfalso); exact hno2 ⟨b1, b2, b3⟩) | cbv)))
        | ((with_reducible apply allT hws); (focus rfl); (focus rfl); (focus decide); all_goals first
            | ((with_reducible intro La capa rowsa ha hpa); (have hla : La ≤ 140737488355328 := by (have := ha.len; have := memI_len (tb w) size.toNat; have := hws.s2; omega)); cbv)
            | ((with_reducible intro hna); cbv))
        | ((with_reducible apply rallT hR); (focus rfl); (focus rfl); (focus decide); all_goals first
            | ((with_reducible intro Lb capb rowsb hbb hpb); (first
                | ((with_reducible exfalso); (have e9 := hbb.len; rw [hna] at e9; simp at e9; omega))
                | ((have hlb : Lb ≤ 140737488355328 := by (have := hbb.len; have := memI_len (tb w) size.toNat; have := hws.s2; omega)); cbv)))
            | ((with_reducible intro hnb); (first
                | ((with_reducible exfalso); (have e9 := ha.len; rw [hnb] at e9; simp at e9; omega))
                | cbv)))
        | ((with_reducible apply sameIntsT (xs := memI (tb w) size.toNat) (ys := memI (tb w) size.toNat)); (focus first | exact ha.sl rfl rfl hla | exact Sl.nil rfl hna); (focus first | exact hbb.sl rfl rfl hlb | exact Sl.nil rfl hnb); all_goals first
              | ((with_reducible intro hne); (with_reducible exfalso); exact hne rfl)
              | ((with_reducible intro _); cbv))
        | ((with_reducible intro v hv); (try rw [wrap_i64] at hv); cbv)
        | ((with_reducible apply And.intro) <;> (with_reducible intro h) <;> first | ((with_reducible exfalso); omega) | ((with_reducible exfalso); exact h (hp.uniq hp2)) | cbv)
      all_goals
        refine And.intro (And.intro (HoldAt.mk ?_) True.intro) (Head.mk ?_ ?_ ?_ ?_ ?_ ?_)
        · exact ⟨⟨⟨by omega, by omega, by omega⟩, hws, _, hR⟩, by omega⟩
        all_goals cbv
        exact ⟨BlkLe.flat (fun h => h) hflat, BlkLe.flat (fun h => h) hflat2, BlkLe.flat (fun h => h) (WB.flat _ _), BlkLe.flat (fun h => h) hR.flats, trivial⟩

set_option maxRecDepth 200000 in
set_option maxHeartbeats 4000000 in
theorem bitActs_sn (xs : List Int) (rows : List (List AV)) (n cap : Nat) (hn : n = xs.length) (hflat : ∀ row ∈ rows, AV.flatL row = true) (hrows : At iv xs rows) (hw : ∀ x ∈ xs, inI x) (hsz : n * 8 ≤ 140737488351232) (hre : rows = xs.map iv) (size : Int) :
    CallS Tryd.prog 3 [.sym (.int .i64 size), .sym (.slice 0 1 0 n cap false none), .nilslice] (memB [some (.cells false 1 rows)] []) 1 fun v _ _ => v = .bool true := by
  have hH : Hat iv xs rows n := ⟨hn, by omega, hflat, hrows⟩
  have hlr : n ≤ rows.length := by rw [hre, List.length_map]; omega
  refine CallS.enter X Tryd.func3 (by decide) ?_
  cbv
  repeat' first
    | with_reducible exact trivial
    | ((with_reducible apply lendIntsT rfl rfl hH hlr hsz (by decide)); (with_reducible intro rowsL hLt); (have hHL : Hat iv xs rowsL n := ⟨hn, by omega, hLt.1, hLt.2.1⟩); cbv)
    | ((with_reducible apply newT rfl rfl rfl hHL (by decide)); all_goals first
        | ((with_reducible intro hin w hws hbits); cbv)
        | ((with_reducible intro hnin); cbv))
    | ((with_reducible apply rnewT rfl rfl rfl hH (by decide)); all_goals first
        | ((with_reducible intro hin2 rowsB R f hR0 hf0); (first | ((with_reducible exfalso); exact hnin hin2) | ((have hR := hR0.congr (g := tb w) (fun k _ => by rw [hf0, hbits])); cbv)))
        | ((with_reducible intro hnin2); (first | ((with_reducible exfalso); exact hnin2 hin) | cbv)))
    | ((with_reducible apply keptIntsT rfl rfl hLt rfl rfl hH hsz); cbv)
    | ((with_reducible apply CallT.enter X Tryd.func10 (by decide)); cbv)
    | ((with_reducible apply awakeT); cbv)
    | ((with_reducible intro v hv); cbv)
    | ((with_reducible apply uAnd); (focus first | kernel_rfl | omega); try cbv)
    | ((with_reducible apply And.intro) <;> (with_reducible intro h) <;> first | ((with_reducible exfalso); omega) | cbv)
    | ((with_reducible apply LoopT.one X); cbv)

set_option maxRecDepth 200000 in
set_option maxHeartbeats 4000000 in
theorem bitActs_ns (ys : List Int) (rows2 : List (List AV)) (n2 cap2 : Nat) (hn2 : n2 = ys.length) (hflat2 : ∀ row ∈ rows2, AV.flatL row = true) (hrows2 : At iv ys rows2) (hw2 : ∀ x ∈ ys, inI x) (hsz2 : n2 * 8 ≤ 140737488351232) (hre2 : rows2 = ys.map iv) (size : Int) :
    CallS Tryd.prog 3 [.sym (.int .i64 size), .nilslice, .sym (.slice 0 1 0 n2 cap2 false none)] (memB [some (.cells false 1 rows2)] []) 1 fun v _ _ => v = .bool true := by
  refine CallS.enter X Tryd.func3 (by decide) ?_
  cbv
  repeat' first
    | with_reducible exact trivial
    | ((with_reducible apply lendIntsNilT rfl); (with_reducible intro rowsL hLt); (have hHL : Hat iv ([] : List Int) rowsL 0 := ⟨rfl, by decide, hLt.1, hLt.2.1⟩); cbv)
    | ((with_reducible apply newT rfl rfl rfl hHL (by decide)); all_goals first
        | ((with_reducible intro hin w hws hbits); cbv)
        | ((with_reducible intro hnin); cbv))
    | ((with_reducible apply rnewNilT rfl rfl); all_goals first
        | ((with_reducible intro hin2 rowsB R f hR0 hf0); (first | ((with_reducible exfalso); exact hnin ⟨hin2, fun x hx => by cases hx⟩) | ((have hR := hR0.congr (g := tb w) (fun k _ => by rw [hf0, hbits])); cbv)))
        | ((with_reducible intro hnin2); (first | ((with_reducible exfalso); exact hnin2 hin.1) | cbv)))
    | ((with_reducible apply keptIntsNilT rfl rfl hLt rfl); cbv)
    | ((with_reducible apply CallT.enter X Tryd.func10 (by decide)); cbv)
    | ((with_reducible apply awakeT); cbv)
    | ((with_reducible intro v hv); cbv)
    | ((with_reducible apply uAnd); (focus first | kernel_rfl | omega); try cbv)
    | ((with_reducible apply And.intro) <;> (with_reducible intro h) <;> first | ((with_reducible exfalso); omega) | cbv)
  with_reducible
   refine LoopT.invS (α := Int × Int × List (List AV)) 140 [] (fun s => (oI (s.at 12), oI (s.cell (oP (s.at 8)) 0 0), s.rows (oP (s.at 10)))) (fun s => [oP (s.at 8), oP (s.at 10)])
    (fun a => [none, none, some (.sym (.slice 0 1 0 n2 cap2 false none)), none, none, none, none, none, some (.ptr 1 2 0 0), none, some (.ptr 2 65 0 0), none, some (.sym (.int .i64 a.1))])
    (fun a => [some (.cells false 1 rows2), some (.cells true 2 [[.sym (.int .u64 a.2.1), .sym (.int .i64 size)]]), some (.cells true 65 a.2.2)])
    (fun a => (0 ≤ a.1 ∧ a.1.toNat ≤ n2 ∧ a.1 ≤ 100) ∧ WS a.2.1 size ∧ ∃ R, BR a.2.2 R (tb a.2.1) size) (fun a => n2 - a.1.toNat) ?_ ?_
  · cbv
    refine And.intro (HoldAt.mk ?_) (Head.mk ?_ ?_ ?_ ?_ ?_ ?_)
    · exact ⟨⟨Int.le_refl 0, Nat.zero_le _, (show (0 : Int) ≤ 100 by decide)⟩, hws, R, hR⟩
    all_goals cbv
    exact ⟨BlkLe.flat (fun h => h) hflat2, BlkLe.flat (fun h => h) (WB.flat _ _), BlkLe.flat (fun h => h) hR.flats, trivial⟩
  · clear hws hR hR0 hf0 hbits
    rintro ⟨j, w, rowsB⟩ ⟨⟨j1, j2, j3⟩, hws, R, hR⟩
    dsimp only at j1 j2 j3 hws hR
    refine SafeC.join X (α := Int × Int × List (List AV) × Int) 24 140 [] (fun s => (oI (s.at 12), oI (s.cell (oP (s.at 8)) 0 0), s.rows (oP (s.at 10)), oI (s.at 13))) (fun s => [oP (s.at 8), oP (s.at 10)])
      (fun a => [none, none, some (.sym (.slice 0 1 0 n2 cap2 false none)), none, none, none, none, none, some (.ptr 1 2 0 0), none, some (.ptr 2 65 0 0), none, some (.sym (.int .i64 a.1)), some (.sym (.int .i64 a.2.2.2))])
      (fun a => [some (.cells false 1 rows2), some (.cells true 2 [[.sym (.int .u64 a.2.1), .sym (.int .i64 size)]]), some (.cells true 65 a.2.2.1)])
      (fun a => (a.1 = j ∧ j.toNat < n2 ∧ j < 100) ∧ WS a.2.1 size ∧ ∃ R, BR a.2.2.1 R (tb a.2.1) size) 2 ?_ ?_
    · cbv
      repeat' first
        | ((with_reducible intro v hv); (try rw [wrap_i64] at hv); cbv)
        | ((with_reducible apply uAnd); (focus first | kernel_rfl | omega); try cbv)
        | ((with_reducible apply And.intro) <;> (with_reducible intro h) <;> first | ((with_reducible exfalso); omega) | cbv)
        | ((with_reducible apply ld hrows2); (focus omega); intro x hx; (try rw [show v = j.toNat by omega] at hx); (try (first | (have e := hx.symm.trans hxj; cases e) | have hxj := hx)); cbv)
        | ((with_reducible apply putT hws); (focus rfl); (focus rfl); (focus rfl); (focus decide); all_goals first
            | ((with_reducible intro p1 p2 w hws hb); cbv)
            | ((with_reducible intro hbad); cbv))
        | ((with_reducible apply dropT hws); (focus rfl); (focus rfl); (focus rfl); (focus decide); all_goals first
            | ((with_reducible intro p1 p2 w hws hb); cbv)
            | ((with_reducible intro hbad); cbv))
        | ((with_reducible apply rputT hR); (focus rfl); (focus rfl); (focus rfl); (focus decide); all_goals first
            | ((with_reducible intro q1 q2 rowsB' R' f' hR' hf'); (first | ((with_reducible exfalso); exact hbad ⟨q1, q2⟩) | ((have hR := hR'.congr (g := tb w) (fun k _ => by rw [hf', hb])); cbv)))
            | ((with_reducible intro hbad2 rowsB' R' hR); (first | ((with_reducible exfalso); exact hbad2 ⟨p1, p2⟩) | cbv)))
        | ((with_reducible apply rdropT hR); (focus rfl); (focus rfl); (focus rfl); (focus decide); all_goals first
            | ((with_reducible intro q1 q2 rowsB' R' f' hR' hf'); (first | ((with_reducible exfalso); exact hbad ⟨q1, q2⟩) | ((have hR := hR'.congr (g := tb w) (fun k _ => by rw [hf', hb])); cbv)))
            | ((with_reducible intro hbad2 rowsB' R' hR); (first | ((with_reducible exfalso); exact hbad2 ⟨p1, p2⟩) | cbv)))
        | ((with_reducible apply CallT.enter X Tryd.func10 (by decide)); cbv)
        | ((with_reducible apply awakeT); cbv)
      all_goals
        refine And.intro (And.intro (HoldAt.mk ?_) True.intro) (Head.mk ?_ ?_ ?_ ?_ ?_ ?_)
        · exact ⟨⟨rfl, by omega, by omega⟩, hws, _, hR⟩
        all_goals cbv
        exact ⟨BlkLe.flat (fun h => h) hflat2, BlkLe.flat (fun h => h) (WB.flat _ _), BlkLe.flat (fun h => h) hR.flats, trivial⟩
    · clear hws hR
      rintro ⟨j', w, rowsB, k⟩ ⟨⟨e1, e2, e3⟩, hws, R, hR⟩
      dsimp only at e1 hws hR
      refine SafeC.walk X ?_
      cbv
      repeat' first
        | with_reducible exact trivial
        | ((with_reducible apply nextT hws); (focus rfl); (focus rfl); (focus rfl); all_goals first
            | ((with_reducible intro p hp); cbv)
            | ((with_reducible intro he); cbv))
        | ((with_reducible apply rnextT hR); (focus rfl); (focus rfl); (focus rfl); all_goals first
            | ((with_reducible intro p2 hp2); (first | ((with_reducible exfalso); exact hp2.has he) | cbv))
            | ((with_reducible intro he2); (first | ((with_reducible exfalso); exact hp.has he2) | cbv)))
        | ((with_reducible apply hasT hws); (focus rfl); (focus rfl); (focus rfl); all_goals first
            | ((with_reducible intro b1 b2 b3); cbv)
            | ((with_reducible intro hno); cbv))
        | ((with_reducible apply rhasT hR); (focus rfl); (focus rfl); (focus rfl); all_goals first
            | ((with_reducible intro c1 c2 c3); (first | ((with_reducible exfalso); exact hno ⟨c1, c2, c3⟩) | cbv))
            | ((with_reducible intro hno2); (first | ((with_reducible exfalso); exact hno2 ⟨b1, b2, b3⟩) | cbv)))
        | ((with_reducible apply allT hws); (focus rfl); (focus rfl); (focus decide); all_goals first
            | ((with_reducible intro La capa rowsa ha hpa); (have hla : La ≤ 140737488355328 := by (have := ha.len; have := memI_len (tb w) size.toNat; have := hws.s2; omega)); cbv)
            | ((with_reducible intro hna); cbv))
        | ((with_reducible apply rallT hR); (focus rfl); (focus rfl); (focus decide); all_goals first
            | ((with_reducible intro Lb capb rowsb hbb hpb); (first
                | ((with_reducible exfalso); (have e9 := hbb.len; rw [hna] at e9; simp at e9; omega))
                | ((have hlb : Lb ≤ 140737488355328 := by (have := hbb.len; have := memI_len (tb w) size.toNat; have := hws.s2; omega)); cbv)))
            | ((with_reducible intro hnb); (first
                | ((with_reducible exfalso); (have e9 := ha.len; rw [hnb] at e9; simp at e9; omega))
                | cbv)))
        | ((with_reducible apply sameIntsT (xs := memI (tb w) size.toNat) (ys := memI (tb w) size.toNat)); (focus first | exact ha.sl rfl rfl hla | exact Sl.nil rfl hna); (focus first | exact hbb.sl rfl rfl hlb | exact Sl.nil rfl hnb); all_goals first
              | ((with_reducible intro hne); (with_reducible exfalso); exact hne rfl)
              | ((with_reducible intro _); cbv))
        | ((with_reducible intro v hv); (try rw [wrap_i64] at hv); cbv)
        | ((with_reducible apply And.intro) <;> (with_reducible intro h) <;> first | ((with_reducible exfalso); omega) | ((with_reducible exfalso); exact h (hp.uniq hp2)) | cbv)
      all_goals
        refine And.intro (And.intro (HoldAt.mk ?_) True.intro) (Head.mk ?_ ?_ ?_ ?_ ?_ ?_)
        · exact ⟨⟨⟨by omega, by omega, by omega⟩, hws, _, hR⟩, by omega⟩
        all_goals cbv
        exact ⟨BlkLe.flat (fun h => h) hflat2, BlkLe.flat (fun h => h) (WB.flat _ _), BlkLe.flat (fun h => h) hR.flats, trivial⟩

set_option maxRecDepth 200000 in
set_option maxHeartbeats 4000000 in
theorem bitActs_nn  (size : Int) :
    CallS Tryd.prog 3 [.sym (.int .i64 size), .nilslice, .nilslice] (memB [] []) 0 fun v _ _ => v = .bool true := by
  refine CallS.enter X Tryd.func3 (by decide) ?_
  cbv
  repeat' first
    | with_reducible exact trivial
    | ((with_reducible apply lendIntsNilT rfl); (with_reducible intro rowsL hLt); (have hHL : Hat iv ([] : List Int) rowsL 0 := ⟨rfl, by decide, hLt.1, hLt.2.1⟩); cbv)
    | ((with_reducible apply newT rfl rfl rfl hHL (by decide)); all_goals first
        | ((with_reducible intro hin w hws hbits); cbv)
        | ((with_reducible intro hnin); cbv))
    | ((with_reducible apply rnewNilT rfl rfl); all_goals first
        | ((with_reducible intro hin2 rowsB R f hR0 hf0); (first | ((with_reducible exfalso); exact hnin ⟨hin2, fun x hx => by cases hx⟩) | ((have hR := hR0.congr (g := tb w) (fun k _ => by rw [hf0, hbits])); cbv)))
        | ((with_reducible intro hnin2); (first | ((with_reducible exfalso); exact hnin2 hin.1) | cbv)))
    | ((with_reducible apply keptIntsNilT rfl rfl hLt rfl); cbv)
    | ((with_reducible apply CallT.enter X Tryd.func10 (by decide)); cbv)
    | ((with_reducible apply awakeT); cbv)
    | ((with_reducible intro v hv); cbv)
    | ((with_reducible apply uAnd); (focus first | kernel_rfl | omega); try cbv)
    | ((with_reducible apply And.intro) <;> (with_reducible intro h) <;> first | ((with_reducible exfalso); omega) | cbv)
    | ((with_reducible apply LoopT.one X); cbv)
end Go.Proofs.YtkpddpdhpffhbaaDoor.Bit
