/- The law StepKeeps: a step turns at most one word. -/
import Derived.Test.YtdaccjfijfnlfaaRefW
namespace Go.Proofs.Ytdaccjfijfnlfaa.Stp
open Go.Ab Base Cod Kit
set_option linter.unusedVariables false
set_option linter.unusedSimpArgs false
set_option maxRecDepth 200000 in
set_option maxHeartbeats 40000000 in
theorem stepKeeps_ss (p : List Instr) (rows : List (List AV)) (n cap : Nat) (hn : n = p.length) (hflat : ∀ row ∈ rows, AV.flatL row = true) (hrows : At Cod.tv p rows) (hw : ∀ x ∈ p, InstrIn x) (hsz : n * 16 ≤ 140737488351232) (hre : rows = p.map Cod.tv) (gs : List Int) (rowsG : List (List AV)) (ng capG : Nat) (hng : ng = gs.length) (hflatG : ∀ row ∈ rowsG, AV.flatL row = true) (hrowsG : At iv gs rowsG) (hwG : ∀ x ∈ gs, inI x) (hszG : ng * 8 ≤ 140737488351232) (hreG : rowsG = gs.map iv) (x1_0 x1_1 x1_2 x1_3 x1_4 x1_5 x1_6 x1_7 x1_8 x1_9 x1_10 x1_11 x1_12 x1_13 x1_14 x1_15 x1_16 x1_17 x2 x3 : Int) : CallS Try.prog 9 [.sym (.slice 0 2 0 n cap false none), .agg [.sym (.int .i64 x1_0), .sym (.int .i64 x1_1), .sym (.int .i64 x1_2), .sym (.int .i64 x1_3), .sym (.int .i64 x1_4), .sym (.int .i64 x1_5), .sym (.int .i64 x1_6), .sym (.int .i64 x1_7), .sym (.int .i64 x1_8), .sym (.int .i64 x1_9), .sym (.int .i64 x1_10), .sym (.int .i64 x1_11), .sym (.int .i64 x1_12), .sym (.int .i64 x1_13), .sym (.int .i64 x1_14), .sym (.int .i64 x1_15), .sym (.int .i64 x1_16), .sym (.int .i64 x1_17)], .sym (.int .i64 x2), .sym (.int .i64 x3), .sym (.slice 1 1 0 ng capG false none)] (memB [some (.cells false 2 rows), some (.cells false 1 rowsG)] []) 2 fun v _ _ => v = .bool true := by
  have hP : Hat Cod.tv p rows n := ⟨hn, by omega, hflat, hrows⟩
  have hrl : n ≤ rows.length := by rw [hre, List.length_map, hn]; exact Nat.le_refl _
  have hG : Hat iv gs rowsG ng := ⟨hng, by omega, hflatG, hrowsG⟩
  have hglen : ng ≤ rowsG.length := by rw [hreG, List.length_map, hng]; exact Nat.le_refl _
  refine CallS.enter X Try.func9 (by decide) ?_
  cbv
  repeat' first
    | with_reducible exact trivial
    | ((with_reducible apply awakeT); cbv)
    | ((with_reducible apply stepKeep (p := p) (gs := gs) (pc := x1_0) (acc := x1_1) (x0 := x1_2) (x1 := x1_3) (x2 := x1_4) (x3 := x1_5) (x4 := x1_6) (x5 := x1_7) (x6 := x1_8) (x7 := x1_9) (x8 := x1_10) (x9 := x1_11) (x10 := x1_12) (x11 := x1_13) (x12 := x1_14) (x13 := x1_15) (x14 := x1_16) (x15 := x1_17) (inn := x2) (outs := x3)); (focus exact slTu (Sl.rows0 rfl rfl hP.1 hP.2.1 hP.2.2.2)); (focus exact Sl.rows0 rfl rfl hG.1 hG.2.1 hG.2.2.2); (focus rfl); (focus rfl); (focus rfl); all_goals first
      | ((with_reducible intro op arg qa qb y0 y1 y2 y3 y4 y5 y6 y7 y8 y9 y10 y11 y12 y13 y14 y15 w g vv t f hx0 hpc harg hk); (have hkp : 0 ≤ qa ∧ qa.toNat < p.length := hk.kpc); (have hka : 0 ≤ qb ∧ qb < 4294967296 := hk.kacc); cbv)
      | ((with_reducible intro hnil); (have hn0 : n = 0 := (by rw [hn, hnil]; rfl)); cbv)
      | ((with_reducible intro hbad); cbv))
    | ((with_reducible apply CallT.enter X Try.func14 (by decide)); cbv)
    | ((with_reducible apply ldAt hri); (focus omega); cbv)
    | ((with_reducible apply ld hrows); (focus omega); (with_reducible intro x hx); (rw [show v = x1_0.toNat by omega, hx0] at hx); (have ex : x = ⟨op, arg⟩ := (Option.some.inj hx).symm); subst ex; (have hri : rows[x1_0.toNat]? = some [.sym (.int .i64 op), .sym (.int .i64 arg)] := hrows _ _ hx0); cbv)
    | ((with_reducible intro v hv); (try rw [wrap_i64] at hv); cbv)
    | ((with_reducible apply uAnd); (focus first | kernel_rfl | omega); try cbv)
    | ((with_reducible apply And.intro) <;> (with_reducible intro h) <;> first | ((with_reducible exfalso); first | omega | exact h trivial | exact h rfl) | cbv)
  (have km0 : ∀ n, n < 16 → [y0, y1, y2, y3, y4, y5, y6, y7, y8, y9, y10, y11, y12, y13, y14, y15].getD n 0 = if op = 3 ∧ arg.toNat = n then x1_1 else [x1_2, x1_3, x1_4, x1_5, x1_6, x1_7, x1_8, x1_9, x1_10, x1_11, x1_12, x1_13, x1_14, x1_15, x1_16, x1_17].getD n 0 := hk.kmem)
  (have k1 : t = true ↔ op = 8 := hk.ktook)
  (have k2 : f = true → op = 9 ∨ op = 10 := hk.kfault)
  (have k3 : 0 ≤ w → op = 9 ∧ vv = x1_1 := hk.kwrite)
  (have k4 : 0 ≤ g → op = 10 := hk.kgot)
  refine LoopT.hide fun K0 hK => ?_
  with_reducible
   refine LoopT.invR X (α := Int) 158 [57, 17, 16] (fun s => oI (s.at 15)) (fun s => [pn s 6 2, pn s 11 3, pn s 12 4, pn s 14 5])
    (fun a => [none, none, none, none, none, none, some (.ptr 2 18 0 0), none, none, none, none, some (.ptr 3 18 0 0), some (.ptr 4 5 0 0), none, some (.ptr 5 2 0 0), some (.sym (.int .i64 a))])
    (fun a => [some (.cells false 2 rows), some (.cells false 1 rowsG), some (.cells true 18 [[.sym (.int .i64 x1_0), .sym (.int .i64 x1_1), .sym (.int .i64 x1_2), .sym (.int .i64 x1_3), .sym (.int .i64 x1_4), .sym (.int .i64 x1_5), .sym (.int .i64 x1_6), .sym (.int .i64 x1_7), .sym (.int .i64 x1_8), .sym (.int .i64 x1_9), .sym (.int .i64 x1_10), .sym (.int .i64 x1_11), .sym (.int .i64 x1_12), .sym (.int .i64 x1_13), .sym (.int .i64 x1_14), .sym (.int .i64 x1_15), .sym (.int .i64 x1_16), .sym (.int .i64 x1_17)]]), some (.cells true 18 [[.sym (.int .i64 qa), .sym (.int .i64 qb), .sym (.int .i64 y0), .sym (.int .i64 y1), .sym (.int .i64 y2), .sym (.int .i64 y3), .sym (.int .i64 y4), .sym (.int .i64 y5), .sym (.int .i64 y6), .sym (.int .i64 y7), .sym (.int .i64 y8), .sym (.int .i64 y9), .sym (.int .i64 y10), .sym (.int .i64 y11), .sym (.int .i64 y12), .sym (.int .i64 y13), .sym (.int .i64 y14), .sym (.int .i64 y15)]]), some (.cells true 5 [[.bool t, .sym (.int .i64 w), .sym (.int .i64 g), .sym (.int .i64 vv), .bool f]]), some (.cells true 2 [[.sym (.int .i64 op), .sym (.int .i64 arg)]])])
    (fun a => 0 ≤ a ∧ a.toNat ≤ 16) (fun a => 16 - a.toNat) ?_ ?_
  · cbv
    refine And.intro (HoldAt.mk ?_) (Head.mk ?_ ?_ ?_ ?_ ?_ ?_)
    · exact ⟨by decide, by decide⟩
    all_goals cbv
    exact ⟨BlkLe.flat (fun h => h) hflat, BlkLe.flat (fun h => h) hflatG, BlkLe.cells (fun h => h) (RowsLe.cons rfl RowsLe.nil), BlkLe.cells (fun h => h) (RowsLe.cons rfl RowsLe.nil), BlkLe.cells (fun h => h) (RowsLe.cons rfl RowsLe.nil), BlkLe.cells (fun h => h) (RowsLe.cons rfl RowsLe.nil), trivial⟩
  · rintro j ⟨j1, j2⟩
    cbv
    repeat' first
      | with_reducible exact trivial
      | ((with_reducible apply hK); (with_reducible apply (boolSplitE (b := t))) <;> (with_reducible intro ht) <;> (with_reducible apply (boolSplitE (b := f))) <;> (with_reducible intro hf) <;> (first | (have k1a := k1.1 ht) | (have k1a := took_no k1 ht)) <;> (try have k2a := k2 hf) <;> cbv)
      | ((with_reducible apply ldX (nx := x1_0) hv j1 (by omega)); (with_reducible intro z hz hzm); cbv)
      | ((with_reducible apply ldX (nx := qa) hv j1 (by omega)); (with_reducible intro u hu hum); (have km := km0 j.toNat (by omega)); (rw [hu, hz] at km); cbv)
      | ((with_reducible intro v hv); (try rw [wrap_i64] at hv); cbv)
      | ((with_reducible apply uAnd); (focus first | kernel_rfl | omega); try cbv)
      | ((with_reducible apply And.intro) <;> (with_reducible intro h) <;> first | ((with_reducible exfalso); first | omega | exact h trivial | exact h rfl | (rw [if_pos (by omega)] at km; omega) | (rw [if_neg (by omega)] at km; omega)) | cbv)
    all_goals
      refine And.intro (And.intro (HoldAt.mk ?_) True.intro) (Head.mk ?_ ?_ ?_ ?_ ?_ ?_)
      · exact ⟨⟨by omega, by omega⟩, by omega⟩
      all_goals cbv
      exact ⟨BlkLe.flat (fun h => h) hflat, BlkLe.flat (fun h => h) hflatG, BlkLe.cells (fun h => h) (RowsLe.cons rfl RowsLe.nil), BlkLe.cells (fun h => h) (RowsLe.cons rfl RowsLe.nil), BlkLe.cells (fun h => h) (RowsLe.cons rfl RowsLe.nil), BlkLe.cells (fun h => h) (RowsLe.cons rfl RowsLe.nil), trivial⟩

set_option maxRecDepth 200000 in
set_option maxHeartbeats 40000000 in
theorem stepKeeps_sn (p : List Instr) (rows : List (List AV)) (n cap : Nat) (hn : n = p.length) (hflat : ∀ row ∈ rows, AV.flatL row = true) (hrows : At Cod.tv p rows) (hw : ∀ x ∈ p, InstrIn x) (hsz : n * 16 ≤ 140737488351232) (hre : rows = p.map Cod.tv) (x1_0 x1_1 x1_2 x1_3 x1_4 x1_5 x1_6 x1_7 x1_8 x1_9 x1_10 x1_11 x1_12 x1_13 x1_14 x1_15 x1_16 x1_17 x2 x3 : Int) : CallS Try.prog 9 [.sym (.slice 0 2 0 n cap false none), .agg [.sym (.int .i64 x1_0), .sym (.int .i64 x1_1), .sym (.int .i64 x1_2), .sym (.int .i64 x1_3), .sym (.int .i64 x1_4), .sym (.int .i64 x1_5), .sym (.int .i64 x1_6), .sym (.int .i64 x1_7), .sym (.int .i64 x1_8), .sym (.int .i64 x1_9), .sym (.int .i64 x1_10), .sym (.int .i64 x1_11), .sym (.int .i64 x1_12), .sym (.int .i64 x1_13), .sym (.int .i64 x1_14), .sym (.int .i64 x1_15), .sym (.int .i64 x1_16), .sym (.int .i64 x1_17)], .sym (.int .i64 x2), .sym (.int .i64 x3), .nilslice] (memB [some (.cells false 2 rows)] []) 1 fun v _ _ => v = .bool true := by
  have hP : Hat Cod.tv p rows n := ⟨hn, by omega, hflat, hrows⟩
  have hrl : n ≤ rows.length := by rw [hre, List.length_map, hn]; exact Nat.le_refl _
  refine CallS.enter X Try.func9 (by decide) ?_
  cbv
  repeat' first
    | with_reducible exact trivial
    | ((with_reducible apply awakeT); cbv)
    | ((with_reducible apply stepKeep (p := p) (gs := []) (pc := x1_0) (acc := x1_1) (x0 := x1_2) (x1 := x1_3) (x2 := x1_4) (x3 := x1_5) (x4 := x1_6) (x5 := x1_7) (x6 := x1_8) (x7 := x1_9) (x8 := x1_10) (x9 := x1_11) (x10 := x1_12) (x11 := x1_13) (x12 := x1_14) (x13 := x1_15) (x14 := x1_16) (x15 := x1_17) (inn := x2) (outs := x3)); (focus exact slTu (Sl.rows0 rfl rfl hP.1 hP.2.1 hP.2.2.2)); (focus exact Sl.nil rfl rfl); (focus rfl); (focus rfl); (focus rfl); all_goals first
      | ((with_reducible intro op arg qa qb y0 y1 y2 y3 y4 y5 y6 y7 y8 y9 y10 y11 y12 y13 y14 y15 w g vv t f hx0 hpc harg hk); (have hkp : 0 ≤ qa ∧ qa.toNat < p.length := hk.kpc); (have hka : 0 ≤ qb ∧ qb < 4294967296 := hk.kacc); cbv)
      | ((with_reducible intro hnil); (have hn0 : n = 0 := (by rw [hn, hnil]; rfl)); cbv)
      | ((with_reducible intro hbad); cbv))
    | ((with_reducible apply CallT.enter X Try.func14 (by decide)); cbv)
    | ((with_reducible apply ldAt hri); (focus omega); cbv)
    | ((with_reducible apply ld hrows); (focus omega); (with_reducible intro x hx); (rw [show v = x1_0.toNat by omega, hx0] at hx); (have ex : x = ⟨op, arg⟩ := (Option.some.inj hx).symm); subst ex; (have hri : rows[x1_0.toNat]? = some [.sym (.int .i64 op), .sym (.int .i64 arg)] := hrows _ _ hx0); cbv)
    | ((with_reducible intro v hv); (try rw [wrap_i64] at hv); cbv)
    | ((with_reducible apply uAnd); (focus first | kernel_rfl | omega); try cbv)
    | ((with_reducible apply And.intro) <;> (with_reducible intro h) <;> first | ((with_reducible exfalso); first | omega | exact h trivial | exact h rfl) | cbv)
  (have km0 : ∀ n, n < 16 → [y0, y1, y2, y3, y4, y5, y6, y7, y8, y9, y10, y11, y12, y13, y14, y15].getD n 0 = if op = 3 ∧ arg.toNat = n then x1_1 else [x1_2, x1_3, x1_4, x1_5, x1_6, x1_7, x1_8, x1_9, x1_10, x1_11, x1_12, x1_13, x1_14, x1_15, x1_16, x1_17].getD n 0 := hk.kmem)
  (have k1 : t = true ↔ op = 8 := hk.ktook)
  (have k2 : f = true → op = 9 ∨ op = 10 := hk.kfault)
  (have k3 : 0 ≤ w → op = 9 ∧ vv = x1_1 := hk.kwrite)
  (have k4 : 0 ≤ g → op = 10 := hk.kgot)
  refine LoopT.hide fun K0 hK => ?_
  with_reducible
   refine LoopT.invR X (α := Int) 158 [56, 16, 15] (fun s => oI (s.at 15)) (fun s => [pn s 6 1, pn s 11 2, pn s 12 3, pn s 14 4])
    (fun a => [none, none, none, none, none, none, some (.ptr 1 18 0 0), none, none, none, none, some (.ptr 2 18 0 0), some (.ptr 3 5 0 0), none, some (.ptr 4 2 0 0), some (.sym (.int .i64 a))])
    (fun a => [some (.cells false 2 rows), some (.cells true 18 [[.sym (.int .i64 x1_0), .sym (.int .i64 x1_1), .sym (.int .i64 x1_2), .sym (.int .i64 x1_3), .sym (.int .i64 x1_4), .sym (.int .i64 x1_5), .sym (.int .i64 x1_6), .sym (.int .i64 x1_7), .sym (.int .i64 x1_8), .sym (.int .i64 x1_9), .sym (.int .i64 x1_10), .sym (.int .i64 x1_11), .sym (.int .i64 x1_12), .sym (.int .i64 x1_13), .sym (.int .i64 x1_14), .sym (.int .i64 x1_15), .sym (.int .i64 x1_16), .sym (.int .i64 x1_17)]]), some (.cells true 18 [[.sym (.int .i64 qa), .sym (.int .i64 qb), .sym (.int .i64 y0), .sym (.int .i64 y1), .sym (.int .i64 y2), .sym (.int .i64 y3), .sym (.int .i64 y4), .sym (.int .i64 y5), .sym (.int .i64 y6), .sym (.int .i64 y7), .sym (.int .i64 y8), .sym (.int .i64 y9), .sym (.int .i64 y10), .sym (.int .i64 y11), .sym (.int .i64 y12), .sym (.int .i64 y13), .sym (.int .i64 y14), .sym (.int .i64 y15)]]), some (.cells true 5 [[.bool t, .sym (.int .i64 w), .sym (.int .i64 g), .sym (.int .i64 vv), .bool f]]), some (.cells true 2 [[.sym (.int .i64 op), .sym (.int .i64 arg)]])])
    (fun a => 0 ≤ a ∧ a.toNat ≤ 16) (fun a => 16 - a.toNat) ?_ ?_
  · cbv
    refine And.intro (HoldAt.mk ?_) (Head.mk ?_ ?_ ?_ ?_ ?_ ?_)
    · exact ⟨by decide, by decide⟩
    all_goals cbv
    exact ⟨BlkLe.flat (fun h => h) hflat, BlkLe.cells (fun h => h) (RowsLe.cons rfl RowsLe.nil), BlkLe.cells (fun h => h) (RowsLe.cons rfl RowsLe.nil), BlkLe.cells (fun h => h) (RowsLe.cons rfl RowsLe.nil), BlkLe.cells (fun h => h) (RowsLe.cons rfl RowsLe.nil), trivial⟩
  · rintro j ⟨j1, j2⟩
    cbv
    repeat' first
      | with_reducible exact trivial
      | ((with_reducible apply hK); (with_reducible apply (boolSplitE (b := t))) <;> (with_reducible intro ht) <;> (with_reducible apply (boolSplitE (b := f))) <;> (with_reducible intro hf) <;> (first | (have k1a := k1.1 ht) | (have k1a := took_no k1 ht)) <;> (try have k2a := k2 hf) <;> cbv)
      | ((with_reducible apply ldX (nx := x1_0) hv j1 (by omega)); (with_reducible intro z hz hzm); cbv)
      | ((with_reducible apply ldX (nx := qa) hv j1 (by omega)); (with_reducible intro u hu hum); (have km := km0 j.toNat (by omega)); (rw [hu, hz] at km); cbv)
      | ((with_reducible intro v hv); (try rw [wrap_i64] at hv); cbv)
      | ((with_reducible apply uAnd); (focus first | kernel_rfl | omega); try cbv)
      | ((with_reducible apply And.intro) <;> (with_reducible intro h) <;> first | ((with_reducible exfalso); first | omega | exact h trivial | exact h rfl | (rw [if_pos (by omega)] at km; omega) | (rw [if_neg (by omega)] at km; omega)) | cbv)
    all_goals
      refine And.intro (And.intro (HoldAt.mk ?_) True.intro) (Head.mk ?_ ?_ ?_ ?_ ?_ ?_)
      · exact ⟨⟨by omega, by omega⟩, by omega⟩
      all_goals cbv
      exact ⟨BlkLe.flat (fun h => h) hflat, BlkLe.cells (fun h => h) (RowsLe.cons rfl RowsLe.nil), BlkLe.cells (fun h => h) (RowsLe.cons rfl RowsLe.nil), BlkLe.cells (fun h => h) (RowsLe.cons rfl RowsLe.nil), BlkLe.cells (fun h => h) (RowsLe.cons rfl RowsLe.nil), trivial⟩

set_option maxRecDepth 200000 in
set_option maxHeartbeats 40000000 in
theorem stepKeeps_ns (gs : List Int) (rowsG : List (List AV)) (ng capG : Nat) (hng : ng = gs.length) (hflatG : ∀ row ∈ rowsG, AV.flatL row = true) (hrowsG : At iv gs rowsG) (hwG : ∀ x ∈ gs, inI x) (hszG : ng * 8 ≤ 140737488351232) (hreG : rowsG = gs.map iv) (x1_0 x1_1 x1_2 x1_3 x1_4 x1_5 x1_6 x1_7 x1_8 x1_9 x1_10 x1_11 x1_12 x1_13 x1_14 x1_15 x1_16 x1_17 x2 x3 : Int) : CallS Try.prog 9 [.nilslice, .agg [.sym (.int .i64 x1_0), .sym (.int .i64 x1_1), .sym (.int .i64 x1_2), .sym (.int .i64 x1_3), .sym (.int .i64 x1_4), .sym (.int .i64 x1_5), .sym (.int .i64 x1_6), .sym (.int .i64 x1_7), .sym (.int .i64 x1_8), .sym (.int .i64 x1_9), .sym (.int .i64 x1_10), .sym (.int .i64 x1_11), .sym (.int .i64 x1_12), .sym (.int .i64 x1_13), .sym (.int .i64 x1_14), .sym (.int .i64 x1_15), .sym (.int .i64 x1_16), .sym (.int .i64 x1_17)], .sym (.int .i64 x2), .sym (.int .i64 x3), .sym (.slice 0 1 0 ng capG false none)] (memB [some (.cells false 1 rowsG)] []) 1 fun v _ _ => v = .bool true := by
  have hG : Hat iv gs rowsG ng := ⟨hng, by omega, hflatG, hrowsG⟩
  have hglen : ng ≤ rowsG.length := by rw [hreG, List.length_map, hng]; exact Nat.le_refl _
  refine CallS.enter X Try.func9 (by decide) ?_
  cbv
  repeat' first
    | with_reducible exact trivial
    | ((with_reducible apply awakeT); cbv)
    | ((with_reducible apply stepKeep (p := []) (gs := gs) (pc := x1_0) (acc := x1_1) (x0 := x1_2) (x1 := x1_3) (x2 := x1_4) (x3 := x1_5) (x4 := x1_6) (x5 := x1_7) (x6 := x1_8) (x7 := x1_9) (x8 := x1_10) (x9 := x1_11) (x10 := x1_12) (x11 := x1_13) (x12 := x1_14) (x13 := x1_15) (x14 := x1_16) (x15 := x1_17) (inn := x2) (outs := x3)); (focus exact Sl.nil rfl rfl); (focus exact Sl.rows0 rfl rfl hG.1 hG.2.1 hG.2.2.2); (focus rfl); (focus rfl); (focus rfl); all_goals first
      | ((with_reducible intro op arg qa qb y0 y1 y2 y3 y4 y5 y6 y7 y8 y9 y10 y11 y12 y13 y14 y15 w g vv t f hx0 hpc harg hk); (with_reducible exfalso); (simp at hx0; done))
      | ((with_reducible intro hbad); cbv))
    | ((with_reducible apply CallT.enter X Try.func14 (by decide)); cbv)
    | ((with_reducible intro v hv); (try rw [wrap_i64] at hv); cbv)
    | ((with_reducible apply uAnd); (focus first | kernel_rfl | omega); try cbv)
    | ((with_reducible apply And.intro) <;> (with_reducible intro h) <;> first | ((with_reducible exfalso); first | omega | exact h trivial | exact h rfl) | cbv)

set_option maxRecDepth 200000 in
set_option maxHeartbeats 40000000 in
theorem stepKeeps_nn (x1_0 x1_1 x1_2 x1_3 x1_4 x1_5 x1_6 x1_7 x1_8 x1_9 x1_10 x1_11 x1_12 x1_13 x1_14 x1_15 x1_16 x1_17 x2 x3 : Int) : CallS Try.prog 9 [.nilslice, .agg [.sym (.int .i64 x1_0), .sym (.int .i64 x1_1), .sym (.int .i64 x1_2), .sym (.int .i64 x1_3), .sym (.int .i64 x1_4), .sym (.int .i64 x1_5), .sym (.int .i64 x1_6), .sym (.int .i64 x1_7), .sym (.int .i64 x1_8), .sym (.int .i64 x1_9), .sym (.int .i64 x1_10), .sym (.int .i64 x1_11), .sym (.int .i64 x1_12), .sym (.int .i64 x1_13), .sym (.int .i64 x1_14), .sym (.int .i64 x1_15), .sym (.int .i64 x1_16), .sym (.int .i64 x1_17)], .sym (.int .i64 x2), .sym (.int .i64 x3), .nilslice] (memB [] []) 0 fun v _ _ => v = .bool true := by
  refine CallS.enter X Try.func9 (by decide) ?_
  cbv
  repeat' first
    | with_reducible exact trivial
    | ((with_reducible apply awakeT); cbv)
    | ((with_reducible apply stepKeep (p := []) (gs := []) (pc := x1_0) (acc := x1_1) (x0 := x1_2) (x1 := x1_3) (x2 := x1_4) (x3 := x1_5) (x4 := x1_6) (x5 := x1_7) (x6 := x1_8) (x7 := x1_9) (x8 := x1_10) (x9 := x1_11) (x10 := x1_12) (x11 := x1_13) (x12 := x1_14) (x13 := x1_15) (x14 := x1_16) (x15 := x1_17) (inn := x2) (outs := x3)); (focus exact Sl.nil rfl rfl); (focus exact Sl.nil rfl rfl); (focus rfl); (focus rfl); (focus rfl); all_goals first
      | ((with_reducible intro op arg qa qb y0 y1 y2 y3 y4 y5 y6 y7 y8 y9 y10 y11 y12 y13 y14 y15 w g vv t f hx0 hpc harg hk); (with_reducible exfalso); (simp at hx0; done))
      | ((with_reducible intro hbad); cbv))
    | ((with_reducible apply CallT.enter X Try.func14 (by decide)); cbv)
    | ((with_reducible intro v hv); (try rw [wrap_i64] at hv); cbv)
    | ((with_reducible apply uAnd); (focus first | kernel_rfl | omega); try cbv)
    | ((with_reducible apply And.intro) <;> (with_reducible intro h) <;> first | ((with_reducible exfalso); first | omega | exact h trivial | exact h rfl) | cbv)

end Go.Proofs.Ytdaccjfijfnlfaa.Stp
