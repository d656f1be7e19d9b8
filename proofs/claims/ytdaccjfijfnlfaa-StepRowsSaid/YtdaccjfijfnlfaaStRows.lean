/- The law StepRows: many steps, one behind the other. -/
import Derived.Test.YtdaccjfijfnlfaaRowsC
namespace Go.Proofs.Ytdaccjfijfnlfaa.Stp
open Go.Ab Base Cod Kit
set_option linter.unusedVariables false
set_option linter.unusedSimpArgs false
/-- The cells of the block that a slot points to. -/
def cf (s : St) (t : Nat) : Nat → Int := fun n => match s.sl.getD t none with
  | some (.ptr k _ _ _) => (match s.m.get k with
    | some (.cells _ _ rows) => oI ((rows.getD 0 [])[n]?)
    | _ => 0)
  | _ => 0
set_option maxRecDepth 200000 in
set_option maxHeartbeats 40000000 in
theorem stepRows_sss (p : List Instr) (rows : List (List AV)) (n cap : Nat) (hn : n = p.length) (hflat : ∀ row ∈ rows, AV.flatL row = true) (hrows : At Cod.tv p rows) (hw : ∀ x ∈ p, InstrIn x) (hsz : n * 16 ≤ 140737488351232) (hre : rows = p.map Cod.tv) (is : List Int) (rowsI : List (List AV)) (ni capI : Nat) (hni : ni = is.length) (hflatI : ∀ row ∈ rowsI, AV.flatL row = true) (hrowsI : At iv is rowsI) (hwI : ∀ x ∈ is, inI x) (hszI : ni * 8 ≤ 140737488351232) (hreI : rowsI = is.map iv) (gs : List Int) (rowsG : List (List AV)) (ng capG : Nat) (hng : ng = gs.length) (hflatG : ∀ row ∈ rowsG, AV.flatL row = true) (hrowsG : At iv gs rowsG) (hwG : ∀ x ∈ gs, inI x) (hszG : ng * 8 ≤ 140737488351232) (hreG : rowsG = gs.map iv) (x2 : Int) : CallS Try.prog 4 [.sym (.slice 0 2 0 n cap false none), .sym (.slice 1 1 0 ni capI false none), .sym (.int .i64 x2), .sym (.slice 2 1 0 ng capG false none)] (memB [some (.cells false 2 rows), some (.cells false 1 rowsI), some (.cells false 1 rowsG)] []) 3 fun v _ _ => v = .bool true := by
  obtain ⟨call, X, h12, h13⟩ := stepCtx
  have hP : Hat Cod.tv p rows n := ⟨hn, by omega, hflat, hrows⟩
  have hG : Hat iv gs rowsG ng := ⟨hng, by omega, hflatG, hrowsG⟩
  refine CallS.enter X Try.func4 (by decide) ?_
  cbv
  refine LoopT.hide fun K0 hK => ?_
  with_reducible
   refine LoopT.invR X (α := Int × (Nat → Int)) 75 [7, 6] (fun s => (oI (s.at 11), cf s 9)) (fun s => [pn s 9 6, pn s 10 7])
    (fun a => [some (.sym (.slice 0 2 0 n cap false none)), some (.sym (.slice 1 1 0 ni capI false none)), some (.sym (.int .i64 x2)), some (.sym (.slice 2 1 0 ng capG false none)), none, none, none, none, none, some (.ptr 3 18 0 0), some (.ptr 4 18 0 0), some (.sym (.int .i64 a.1))])
    (fun a => [some (.cells false 2 rows), some (.cells false 1 rowsI), some (.cells false 1 rowsG), some (.cells true 18 [[.sym (.int .i64 (a.2 0)), .sym (.int .i64 (a.2 1)), .sym (.int .i64 (a.2 2)), .sym (.int .i64 (a.2 3)), .sym (.int .i64 (a.2 4)), .sym (.int .i64 (a.2 5)), .sym (.int .i64 (a.2 6)), .sym (.int .i64 (a.2 7)), .sym (.int .i64 (a.2 8)), .sym (.int .i64 (a.2 9)), .sym (.int .i64 (a.2 10)), .sym (.int .i64 (a.2 11)), .sym (.int .i64 (a.2 12)), .sym (.int .i64 (a.2 13)), .sym (.int .i64 (a.2 14)), .sym (.int .i64 (a.2 15)), .sym (.int .i64 (a.2 16)), .sym (.int .i64 (a.2 17))]]), some (.cells true 18 [[.sym (.int .i64 (a.2 0)), .sym (.int .i64 (a.2 1)), .sym (.int .i64 (a.2 2)), .sym (.int .i64 (a.2 3)), .sym (.int .i64 (a.2 4)), .sym (.int .i64 (a.2 5)), .sym (.int .i64 (a.2 6)), .sym (.int .i64 (a.2 7)), .sym (.int .i64 (a.2 8)), .sym (.int .i64 (a.2 9)), .sym (.int .i64 (a.2 10)), .sym (.int .i64 (a.2 11)), .sym (.int .i64 (a.2 12)), .sym (.int .i64 (a.2 13)), .sym (.int .i64 (a.2 14)), .sym (.int .i64 (a.2 15)), .sym (.int .i64 (a.2 16)), .sym (.int .i64 (a.2 17))]])])
    (fun a => 0 ≤ a.1) (fun a => ni - a.1.toNat) ?_ ?_
  · cbv
    refine And.intro (HoldAt.mk ?_) (Head.mk ?_ ?_ ?_ ?_ ?_ ?_)
    · exact Int.le_refl 0
    all_goals cbv
    exact ⟨BlkLe.flat (fun h => h) hflat, BlkLe.flat (fun h => h) hflatI, BlkLe.flat (fun h => h) hflatG, BlkLe.cells (fun h => h) (RowsLe.cons rfl RowsLe.nil), BlkLe.cells (fun h => h) (RowsLe.cons rfl RowsLe.nil), trivial⟩
  · rintro ⟨j, q⟩ j1
    replace j1 : 0 ≤ j := j1
    cbv
    repeat' first
      | with_reducible exact trivial
      | ((with_reducible apply hK); cbv)
      | ((with_reducible apply awakeT); cbv)
      | ((with_reducible apply ldAt hri); (focus omega); cbv)
      | ((with_reducible apply ld hrowsI); (focus omega); (with_reducible intro x hx); (rw [show v = j.toNat by omega] at hx); (have hri : rowsI[j.toNat]? = some [.sym (.int .i64 x)] := hrowsI _ _ hx); (with_reducible apply stepElim (p := p) (gs := gs) (pc := q 0) (acc := q 1) (x0 := q 2) (x1 := q 3) (x2 := q 4) (x3 := q 5) (x4 := q 6) (x5 := q 7) (x6 := q 8) (x7 := q 9) (x8 := q 10) (x9 := q 11) (x10 := q 12) (x11 := q 13) (x12 := q 14) (x13 := q 15) (x14 := q 16) (x15 := q 17) (inn := x) (outs := x2)) <;> (with_reducible intro u0 u1 u2 u3 u4 u5 u6 u7 u8 u9 u10 u11 u12 u13 u14 u15 u16 u17 w g vv e hs he) <;> cbv)
      | ((rw [h12 hs rfl rfl]); rotate_left; (focus exact slTu (Sl.rows0 rfl rfl hP.1 hP.2.1 hP.2.2.2)); (focus exact Sl.rows0 rfl rfl hG.1 hG.2.1 hG.2.2.2); (focus rfl); (focus rfl); (focus rfl); cbv)
      | ((rw [h13 hs rfl rfl]); rotate_left; (focus exact slTu (Sl.rows0 rfl rfl hP.1 hP.2.1 hP.2.2.2)); (focus exact Sl.rows0 rfl rfl hG.1 hG.2.1 hG.2.2.2); (focus rfl); (focus rfl); (focus rfl); cbv)
      | ((with_reducible apply CallT.enter X Try.func14 (by decide)); cbv)
      | ((with_reducible intro v hv); (try rw [wrap_i64] at hv); cbv)
      | ((with_reducible apply uAnd); (focus first | kernel_rfl | omega); try cbv)
      | ((with_reducible apply And.intro) <;> (with_reducible intro h) <;> first | ((with_reducible exfalso); first | omega | exact h trivial | exact h rfl) | cbv)
    all_goals
      refine And.intro (And.intro (HoldAt.mk ?_) True.intro) (Head.mk ?_ ?_ ?_ ?_ ?_ ?_)
      · constructor
        · show 0 ≤ v
          omega
        · show ni - v.toNat < ni - j.toNat
          omega
      all_goals cbv
      exact ⟨BlkLe.flat (fun h => h) hflat, BlkLe.flat (fun h => h) hflatI, BlkLe.flat (fun h => h) hflatG, BlkLe.cells (fun h => h) (RowsLe.cons rfl RowsLe.nil), BlkLe.cells (fun h => h) (RowsLe.cons rfl RowsLe.nil), trivial⟩

set_option maxRecDepth 200000 in
set_option maxHeartbeats 40000000 in
theorem stepRows_ssn (p : List Instr) (rows : List (List AV)) (n cap : Nat) (hn : n = p.length) (hflat : ∀ row ∈ rows, AV.flatL row = true) (hrows : At Cod.tv p rows) (hw : ∀ x ∈ p, InstrIn x) (hsz : n * 16 ≤ 140737488351232) (hre : rows = p.map Cod.tv) (is : List Int) (rowsI : List (List AV)) (ni capI : Nat) (hni : ni = is.length) (hflatI : ∀ row ∈ rowsI, AV.flatL row = true) (hrowsI : At iv is rowsI) (hwI : ∀ x ∈ is, inI x) (hszI : ni * 8 ≤ 140737488351232) (hreI : rowsI = is.map iv) (x2 : Int) : CallS Try.prog 4 [.sym (.slice 0 2 0 n cap false none), .sym (.slice 1 1 0 ni capI false none), .sym (.int .i64 x2), .nilslice] (memB [some (.cells false 2 rows), some (.cells false 1 rowsI)] []) 2 fun v _ _ => v = .bool true := by
  obtain ⟨call, X, h12, h13⟩ := stepCtx
  have hP : Hat Cod.tv p rows n := ⟨hn, by omega, hflat, hrows⟩
  refine CallS.enter X Try.func4 (by decide) ?_
  cbv
  refine LoopT.hide fun K0 hK => ?_
  with_reducible
   refine LoopT.invR X (α := Int × (Nat → Int)) 75 [6, 5] (fun s => (oI (s.at 11), cf s 9)) (fun s => [pn s 9 5, pn s 10 6])
    (fun a => [some (.sym (.slice 0 2 0 n cap false none)), some (.sym (.slice 1 1 0 ni capI false none)), some (.sym (.int .i64 x2)), some (.nilslice), none, none, none, none, none, some (.ptr 2 18 0 0), some (.ptr 3 18 0 0), some (.sym (.int .i64 a.1))])
    (fun a => [some (.cells false 2 rows), some (.cells false 1 rowsI), some (.cells true 18 [[.sym (.int .i64 (a.2 0)), .sym (.int .i64 (a.2 1)), .sym (.int .i64 (a.2 2)), .sym (.int .i64 (a.2 3)), .sym (.int .i64 (a.2 4)), .sym (.int .i64 (a.2 5)), .sym (.int .i64 (a.2 6)), .sym (.int .i64 (a.2 7)), .sym (.int .i64 (a.2 8)), .sym (.int .i64 (a.2 9)), .sym (.int .i64 (a.2 10)), .sym (.int .i64 (a.2 11)), .sym (.int .i64 (a.2 12)), .sym (.int .i64 (a.2 13)), .sym (.int .i64 (a.2 14)), .sym (.int .i64 (a.2 15)), .sym (.int .i64 (a.2 16)), .sym (.int .i64 (a.2 17))]]), some (.cells true 18 [[.sym (.int .i64 (a.2 0)), .sym (.int .i64 (a.2 1)), .sym (.int .i64 (a.2 2)), .sym (.int .i64 (a.2 3)), .sym (.int .i64 (a.2 4)), .sym (.int .i64 (a.2 5)), .sym (.int .i64 (a.2 6)), .sym (.int .i64 (a.2 7)), .sym (.int .i64 (a.2 8)), .sym (.int .i64 (a.2 9)), .sym (.int .i64 (a.2 10)), .sym (.int .i64 (a.2 11)), .sym (.int .i64 (a.2 12)), .sym (.int .i64 (a.2 13)), .sym (.int .i64 (a.2 14)), .sym (.int .i64 (a.2 15)), .sym (.int .i64 (a.2 16)), .sym (.int .i64 (a.2 17))]])])
    (fun a => 0 ≤ a.1) (fun a => ni - a.1.toNat) ?_ ?_
  · cbv
    refine And.intro (HoldAt.mk ?_) (Head.mk ?_ ?_ ?_ ?_ ?_ ?_)
    · exact Int.le_refl 0
    all_goals cbv
    exact ⟨BlkLe.flat (fun h => h) hflat, BlkLe.flat (fun h => h) hflatI, BlkLe.cells (fun h => h) (RowsLe.cons rfl RowsLe.nil), BlkLe.cells (fun h => h) (RowsLe.cons rfl RowsLe.nil), trivial⟩
  · rintro ⟨j, q⟩ j1
    replace j1 : 0 ≤ j := j1
    cbv
    repeat' first
      | with_reducible exact trivial
      | ((with_reducible apply hK); cbv)
      | ((with_reducible apply awakeT); cbv)
      | ((with_reducible apply ldAt hri); (focus omega); cbv)
      | ((with_reducible apply ld hrowsI); (focus omega); (with_reducible intro x hx); (rw [show v = j.toNat by omega] at hx); (have hri : rowsI[j.toNat]? = some [.sym (.int .i64 x)] := hrowsI _ _ hx); (with_reducible apply stepElim (p := p) (gs := []) (pc := q 0) (acc := q 1) (x0 := q 2) (x1 := q 3) (x2 := q 4) (x3 := q 5) (x4 := q 6) (x5 := q 7) (x6 := q 8) (x7 := q 9) (x8 := q 10) (x9 := q 11) (x10 := q 12) (x11 := q 13) (x12 := q 14) (x13 := q 15) (x14 := q 16) (x15 := q 17) (inn := x) (outs := x2)) <;> (with_reducible intro u0 u1 u2 u3 u4 u5 u6 u7 u8 u9 u10 u11 u12 u13 u14 u15 u16 u17 w g vv e hs he) <;> cbv)
      | ((rw [h12 hs rfl rfl]); rotate_left; (focus exact slTu (Sl.rows0 rfl rfl hP.1 hP.2.1 hP.2.2.2)); (focus exact Sl.nil rfl rfl); (focus rfl); (focus rfl); (focus rfl); cbv)
      | ((rw [h13 hs rfl rfl]); rotate_left; (focus exact slTu (Sl.rows0 rfl rfl hP.1 hP.2.1 hP.2.2.2)); (focus exact Sl.nil rfl rfl); (focus rfl); (focus rfl); (focus rfl); cbv)
      | ((with_reducible apply CallT.enter X Try.func14 (by decide)); cbv)
      | ((with_reducible intro v hv); (try rw [wrap_i64] at hv); cbv)
      | ((with_reducible apply uAnd); (focus first | kernel_rfl | omega); try cbv)
      | ((with_reducible apply And.intro) <;> (with_reducible intro h) <;> first | ((with_reducible exfalso); first | omega | exact h trivial | exact h rfl) | cbv)
    all_goals
      refine And.intro (And.intro (HoldAt.mk ?_) True.intro) (Head.mk ?_ ?_ ?_ ?_ ?_ ?_)
      · constructor
        · show 0 ≤ v
          omega
        · show ni - v.toNat < ni - j.toNat
          omega
      all_goals cbv
      exact ⟨BlkLe.flat (fun h => h) hflat, BlkLe.flat (fun h => h) hflatI, BlkLe.cells (fun h => h) (RowsLe.cons rfl RowsLe.nil), BlkLe.cells (fun h => h) (RowsLe.cons rfl RowsLe.nil), trivial⟩

set_option maxRecDepth 200000 in
set_option maxHeartbeats 40000000 in
theorem stepRows_sns (p : List Instr) (rows : List (List AV)) (n cap : Nat) (hn : n = p.length) (hflat : ∀ row ∈ rows, AV.flatL row = true) (hrows : At Cod.tv p rows) (hw : ∀ x ∈ p, InstrIn x) (hsz : n * 16 ≤ 140737488351232) (hre : rows = p.map Cod.tv) (gs : List Int) (rowsG : List (List AV)) (ng capG : Nat) (hng : ng = gs.length) (hflatG : ∀ row ∈ rowsG, AV.flatL row = true) (hrowsG : At iv gs rowsG) (hwG : ∀ x ∈ gs, inI x) (hszG : ng * 8 ≤ 140737488351232) (hreG : rowsG = gs.map iv) (x2 : Int) : CallS Try.prog 4 [.sym (.slice 0 2 0 n cap false none), .nilslice, .sym (.int .i64 x2), .sym (.slice 1 1 0 ng capG false none)] (memB [some (.cells false 2 rows), some (.cells false 1 rowsG)] []) 2 fun v _ _ => v = .bool true := by
  obtain ⟨call, X, h12, h13⟩ := stepCtx
  refine CallS.enter X Try.func4 (by decide) ?_
  cbv
  repeat' first
    | with_reducible exact trivial
    | ((with_reducible apply awakeT); cbv)
    | ((with_reducible apply LoopT.one X); cbv)

set_option maxRecDepth 200000 in
set_option maxHeartbeats 40000000 in
theorem stepRows_snn (p : List Instr) (rows : List (List AV)) (n cap : Nat) (hn : n = p.length) (hflat : ∀ row ∈ rows, AV.flatL row = true) (hrows : At Cod.tv p rows) (hw : ∀ x ∈ p, InstrIn x) (hsz : n * 16 ≤ 140737488351232) (hre : rows = p.map Cod.tv) (x2 : Int) : CallS Try.prog 4 [.sym (.slice 0 2 0 n cap false none), .nilslice, .sym (.int .i64 x2), .nilslice] (memB [some (.cells false 2 rows)] []) 1 fun v _ _ => v = .bool true := by
  obtain ⟨call, X, h12, h13⟩ := stepCtx
  refine CallS.enter X Try.func4 (by decide) ?_
  cbv
  repeat' first
    | with_reducible exact trivial
    | ((with_reducible apply awakeT); cbv)
    | ((with_reducible apply LoopT.one X); cbv)

set_option maxRecDepth 200000 in
set_option maxHeartbeats 40000000 in
theorem stepRows_nss (is : List Int) (rowsI : List (List AV)) (ni capI : Nat) (hni : ni = is.length) (hflatI : ∀ row ∈ rowsI, AV.flatL row = true) (hrowsI : At iv is rowsI) (hwI : ∀ x ∈ is, inI x) (hszI : ni * 8 ≤ 140737488351232) (hreI : rowsI = is.map iv) (gs : List Int) (rowsG : List (List AV)) (ng capG : Nat) (hng : ng = gs.length) (hflatG : ∀ row ∈ rowsG, AV.flatL row = true) (hrowsG : At iv gs rowsG) (hwG : ∀ x ∈ gs, inI x) (hszG : ng * 8 ≤ 140737488351232) (hreG : rowsG = gs.map iv) (x2 : Int) : CallS Try.prog 4 [.nilslice, .sym (.slice 0 1 0 ni capI false none), .sym (.int .i64 x2), .sym (.slice 1 1 0 ng capG false none)] (memB [some (.cells false 1 rowsI), some (.cells false 1 rowsG)] []) 2 fun v _ _ => v = .bool true := by
  obtain ⟨call, X, h12, h13⟩ := stepCtx
  have hG : Hat iv gs rowsG ng := ⟨hng, by omega, hflatG, hrowsG⟩
  refine CallS.enter X Try.func4 (by decide) ?_
  cbv
  refine LoopT.hide fun K0 hK => ?_
  with_reducible
   refine LoopT.invR X (α := Int × (Nat → Int)) 75 [6, 5] (fun s => (oI (s.at 11), cf s 9)) (fun s => [pn s 9 5, pn s 10 6])
    (fun a => [some (.nilslice), some (.sym (.slice 0 1 0 ni capI false none)), some (.sym (.int .i64 x2)), some (.sym (.slice 1 1 0 ng capG false none)), none, none, none, none, none, some (.ptr 2 18 0 0), some (.ptr 3 18 0 0), some (.sym (.int .i64 a.1))])
    (fun a => [some (.cells false 1 rowsI), some (.cells false 1 rowsG), some (.cells true 18 [[.sym (.int .i64 (a.2 0)), .sym (.int .i64 (a.2 1)), .sym (.int .i64 (a.2 2)), .sym (.int .i64 (a.2 3)), .sym (.int .i64 (a.2 4)), .sym (.int .i64 (a.2 5)), .sym (.int .i64 (a.2 6)), .sym (.int .i64 (a.2 7)), .sym (.int .i64 (a.2 8)), .sym (.int .i64 (a.2 9)), .sym (.int .i64 (a.2 10)), .sym (.int .i64 (a.2 11)), .sym (.int .i64 (a.2 12)), .sym (.int .i64 (a.2 13)), .sym (.int .i64 (a.2 14)), .sym (.int .i64 (a.2 15)), .sym (.int .i64 (a.2 16)), .sym (.int .i64 (a.2 17))]]), some (.cells true 18 [[.sym (.int .i64 (a.2 0)), .sym (.int .i64 (a.2 1)), .sym (.int .i64 (a.2 2)), .sym (.int .i64 (a.2 3)), .sym (.int .i64 (a.2 4)), .sym (.int .i64 (a.2 5)), .sym (.int .i64 (a.2 6)), .sym (.int .i64 (a.2 7)), .sym (.int .i64 (a.2 8)), .sym (.int .i64 (a.2 9)), .sym (.int .i64 (a.2 10)), .sym (.int .i64 (a.2 11)), .sym (.int .i64 (a.2 12)), .sym (.int .i64 (a.2 13)), .sym (.int .i64 (a.2 14)), .sym (.int .i64 (a.2 15)), .sym (.int .i64 (a.2 16)), .sym (.int .i64 (a.2 17))]])])
    (fun a => 0 ≤ a.1) (fun a => ni - a.1.toNat) ?_ ?_
  · cbv
    refine And.intro (HoldAt.mk ?_) (Head.mk ?_ ?_ ?_ ?_ ?_ ?_)
    · exact Int.le_refl 0
    all_goals cbv
    exact ⟨BlkLe.flat (fun h => h) hflatI, BlkLe.flat (fun h => h) hflatG, BlkLe.cells (fun h => h) (RowsLe.cons rfl RowsLe.nil), BlkLe.cells (fun h => h) (RowsLe.cons rfl RowsLe.nil), trivial⟩
  · rintro ⟨j, q⟩ j1
    replace j1 : 0 ≤ j := j1
    cbv
    repeat' first
      | with_reducible exact trivial
      | ((with_reducible apply hK); cbv)
      | ((with_reducible apply awakeT); cbv)
      | ((with_reducible apply ldAt hri); (focus omega); cbv)
      | ((with_reducible apply ld hrowsI); (focus omega); (with_reducible intro x hx); (rw [show v = j.toNat by omega] at hx); (have hri : rowsI[j.toNat]? = some [.sym (.int .i64 x)] := hrowsI _ _ hx); (with_reducible apply stepElim (p := []) (gs := gs) (pc := q 0) (acc := q 1) (x0 := q 2) (x1 := q 3) (x2 := q 4) (x3 := q 5) (x4 := q 6) (x5 := q 7) (x6 := q 8) (x7 := q 9) (x8 := q 10) (x9 := q 11) (x10 := q 12) (x11 := q 13) (x12 := q 14) (x13 := q 15) (x14 := q 16) (x15 := q 17) (inn := x) (outs := x2)) <;> (with_reducible intro u0 u1 u2 u3 u4 u5 u6 u7 u8 u9 u10 u11 u12 u13 u14 u15 u16 u17 w g vv e hs he) <;> cbv)
      | ((rw [h12 hs rfl rfl]); rotate_left; (focus exact Sl.nil rfl rfl); (focus exact Sl.rows0 rfl rfl hG.1 hG.2.1 hG.2.2.2); (focus rfl); (focus rfl); (focus rfl); cbv)
      | ((rw [h13 hs rfl rfl]); rotate_left; (focus exact Sl.nil rfl rfl); (focus exact Sl.rows0 rfl rfl hG.1 hG.2.1 hG.2.2.2); (focus rfl); (focus rfl); (focus rfl); cbv)
      | ((with_reducible apply CallT.enter X Try.func14 (by decide)); cbv)
      | ((with_reducible intro v hv); (try rw [wrap_i64] at hv); cbv)
      | ((with_reducible apply uAnd); (focus first | kernel_rfl | omega); try cbv)
      | ((with_reducible apply And.intro) <;> (with_reducible intro h) <;> first | ((with_reducible exfalso); first | omega | exact h trivial | exact h rfl) | cbv)
    all_goals
      refine And.intro (And.intro (HoldAt.mk ?_) True.intro) (Head.mk ?_ ?_ ?_ ?_ ?_ ?_)
      · constructor
        · show 0 ≤ v
          omega
        · show ni - v.toNat < ni - j.toNat
          omega
      all_goals cbv
      exact ⟨BlkLe.flat (fun h => h) hflatI, BlkLe.flat (fun h => h) hflatG, BlkLe.cells (fun h => h) (RowsLe.cons rfl RowsLe.nil), BlkLe.cells (fun h => h) (RowsLe.cons rfl RowsLe.nil), trivial⟩

set_option maxRecDepth 200000 in
set_option maxHeartbeats 40000000 in
theorem stepRows_nsn (is : List Int) (rowsI : List (List AV)) (ni capI : Nat) (hni : ni = is.length) (hflatI : ∀ row ∈ rowsI, AV.flatL row = true) (hrowsI : At iv is rowsI) (hwI : ∀ x ∈ is, inI x) (hszI : ni * 8 ≤ 140737488351232) (hreI : rowsI = is.map iv) (x2 : Int) : CallS Try.prog 4 [.nilslice, .sym (.slice 0 1 0 ni capI false none), .sym (.int .i64 x2), .nilslice] (memB [some (.cells false 1 rowsI)] []) 1 fun v _ _ => v = .bool true := by
  obtain ⟨call, X, h12, h13⟩ := stepCtx
  refine CallS.enter X Try.func4 (by decide) ?_
  cbv
  refine LoopT.hide fun K0 hK => ?_
  with_reducible
   refine LoopT.invR X (α := Int × (Nat → Int)) 75 [5, 4] (fun s => (oI (s.at 11), cf s 9)) (fun s => [pn s 9 4, pn s 10 5])
    (fun a => [some (.nilslice), some (.sym (.slice 0 1 0 ni capI false none)), some (.sym (.int .i64 x2)), some (.nilslice), none, none, none, none, none, some (.ptr 1 18 0 0), some (.ptr 2 18 0 0), some (.sym (.int .i64 a.1))])
    (fun a => [some (.cells false 1 rowsI), some (.cells true 18 [[.sym (.int .i64 (a.2 0)), .sym (.int .i64 (a.2 1)), .sym (.int .i64 (a.2 2)), .sym (.int .i64 (a.2 3)), .sym (.int .i64 (a.2 4)), .sym (.int .i64 (a.2 5)), .sym (.int .i64 (a.2 6)), .sym (.int .i64 (a.2 7)), .sym (.int .i64 (a.2 8)), .sym (.int .i64 (a.2 9)), .sym (.int .i64 (a.2 10)), .sym (.int .i64 (a.2 11)), .sym (.int .i64 (a.2 12)), .sym (.int .i64 (a.2 13)), .sym (.int .i64 (a.2 14)), .sym (.int .i64 (a.2 15)), .sym (.int .i64 (a.2 16)), .sym (.int .i64 (a.2 17))]]), some (.cells true 18 [[.sym (.int .i64 (a.2 0)), .sym (.int .i64 (a.2 1)), .sym (.int .i64 (a.2 2)), .sym (.int .i64 (a.2 3)), .sym (.int .i64 (a.2 4)), .sym (.int .i64 (a.2 5)), .sym (.int .i64 (a.2 6)), .sym (.int .i64 (a.2 7)), .sym (.int .i64 (a.2 8)), .sym (.int .i64 (a.2 9)), .sym (.int .i64 (a.2 10)), .sym (.int .i64 (a.2 11)), .sym (.int .i64 (a.2 12)), .sym (.int .i64 (a.2 13)), .sym (.int .i64 (a.2 14)), .sym (.int .i64 (a.2 15)), .sym (.int .i64 (a.2 16)), .sym (.int .i64 (a.2 17))]])])
    (fun a => 0 ≤ a.1) (fun a => ni - a.1.toNat) ?_ ?_
  · cbv
    refine And.intro (HoldAt.mk ?_) (Head.mk ?_ ?_ ?_ ?_ ?_ ?_)
    · exact Int.le_refl 0
    all_goals cbv
    exact ⟨BlkLe.flat (fun h => h) hflatI, BlkLe.cells (fun h => h) (RowsLe.cons rfl RowsLe.nil), BlkLe.cells (fun h => h) (RowsLe.cons rfl RowsLe.nil), trivial⟩
  · rintro ⟨j, q⟩ j1
    replace j1 : 0 ≤ j := j1
    cbv
    repeat' first
      | with_reducible exact trivial
      | ((with_reducible apply hK); cbv)
      | ((with_reducible apply awakeT); cbv)
      | ((with_reducible apply ldAt hri); (focus omega); cbv)
      | ((with_reducible apply ld hrowsI); (focus omega); (with_reducible intro x hx); (rw [show v = j.toNat by omega] at hx); (have hri : rowsI[j.toNat]? = some [.sym (.int .i64 x)] := hrowsI _ _ hx); (with_reducible apply stepElim (p := []) (gs := []) (pc := q 0) (acc := q 1) (x0 := q 2) (x1 := q 3) (x2 := q 4) (x3 := q 5) (x4 := q 6) (x5 := q 7) (x6 := q 8) (x7 := q 9) (x8 := q 10) (x9 := q 11) (x10 := q 12) (x11 := q 13) (x12 := q 14) (x13 := q 15) (x14 := q 16) (x15 := q 17) (inn := x) (outs := x2)) <;> (with_reducible intro u0 u1 u2 u3 u4 u5 u6 u7 u8 u9 u10 u11 u12 u13 u14 u15 u16 u17 w g vv e hs he) <;> cbv)
      | ((rw [h12 hs rfl rfl]); rotate_left; (focus exact Sl.nil rfl rfl); (focus exact Sl.nil rfl rfl); (focus rfl); (focus rfl); (focus rfl); cbv)
      | ((rw [h13 hs rfl rfl]); rotate_left; (focus exact Sl.nil rfl rfl); (focus exact Sl.nil rfl rfl); (focus rfl); (focus rfl); (focus rfl); cbv)
      | ((with_reducible apply CallT.enter X Try.func14 (by decide)); cbv)
      | ((with_reducible intro v hv); (try rw [wrap_i64] at hv); cbv)
      | ((with_reducible apply uAnd); (focus first | kernel_rfl | omega); try cbv)
      | ((with_reducible apply And.intro) <;> (with_reducible intro h) <;> first | ((with_reducible exfalso); first | omega | exact h trivial | exact h rfl) | cbv)
    all_goals
      refine And.intro (And.intro (HoldAt.mk ?_) True.intro) (Head.mk ?_ ?_ ?_ ?_ ?_ ?_)
      · constructor
        · show 0 ≤ v
          omega
        · show ni - v.toNat < ni - j.toNat
          omega
      all_goals cbv
      exact ⟨BlkLe.flat (fun h => h) hflatI, BlkLe.cells (fun h => h) (RowsLe.cons rfl RowsLe.nil), BlkLe.cells (fun h => h) (RowsLe.cons rfl RowsLe.nil), trivial⟩

set_option maxRecDepth 200000 in
set_option maxHeartbeats 40000000 in
theorem stepRows_nns (gs : List Int) (rowsG : List (List AV)) (ng capG : Nat) (hng : ng = gs.length) (hflatG : ∀ row ∈ rowsG, AV.flatL row = true) (hrowsG : At iv gs rowsG) (hwG : ∀ x ∈ gs, inI x) (hszG : ng * 8 ≤ 140737488351232) (hreG : rowsG = gs.map iv) (x2 : Int) : CallS Try.prog 4 [.nilslice, .nilslice, .sym (.int .i64 x2), .sym (.slice 0 1 0 ng capG false none)] (memB [some (.cells false 1 rowsG)] []) 1 fun v _ _ => v = .bool true := by
  obtain ⟨call, X, h12, h13⟩ := stepCtx
  refine CallS.enter X Try.func4 (by decide) ?_
  cbv
  repeat' first
    | with_reducible exact trivial
    | ((with_reducible apply awakeT); cbv)
    | ((with_reducible apply LoopT.one X); cbv)

set_option maxRecDepth 200000 in
set_option maxHeartbeats 40000000 in
theorem stepRows_nnn (x2 : Int) : CallS Try.prog 4 [.nilslice, .nilslice, .sym (.int .i64 x2), .nilslice] (memB [] []) 0 fun v _ _ => v = .bool true := by
  obtain ⟨call, X, h12, h13⟩ := stepCtx
  refine CallS.enter X Try.func4 (by decide) ?_
  cbv
  repeat' first
    | with_reducible exact trivial
    | ((with_reducible apply awakeT); cbv)
    | ((with_reducible apply LoopT.one X); cbv)

end Go.Proofs.Ytdaccjfijfnlfaa.Stp
