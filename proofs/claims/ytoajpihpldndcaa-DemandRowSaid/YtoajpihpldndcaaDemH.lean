/- The law DemandRow returns true at any input. -/
import Derived.Test.YtoajpihpldndcaaDemV
import Derived.Test.YtoajpihpldndcaaAb47
namespace Go.Proofs.Ytoajpihpldndcaa.Dem
open Go.Ab Kit
set_option linter.unusedVariables false
set_option linter.unusedSimpArgs false

theorem bsum_reverse (P k : Int) : ∀ ts : List Task, bsum P k ts.reverse = bsum P k ts
  | [] => rfl
  | t :: ts => by rw [List.reverse_cons, bsum_append, bsum_reverse P k ts]; simp only [bsum]; omega
theorem bsum_filter (P k : Int) : ∀ ts : List Task, bsum P k (ts.filter fun t => decide (t.prio ≤ P)) = bsum P k ts
  | [] => rfl
  | t :: ts => by
    have ih := bsum_filter P k ts
    by_cases h : t.prio ≤ P
    · rw [List.filter_cons_of_pos (by simpa using h)]
      simp only [bsum, ih]
    · rw [List.filter_cons_of_neg (by simpa using h)]
      simp only [bsum, ih, term, if_neg (show ¬ t.prio < P by omega)]
      omega
theorem okAll_reverse {ts : List Task} (h : OkAll ts) : OkAll ts.reverse := by
  refine ⟨fun t ht => h.1 t (List.mem_reverse.1 ht), ?_⟩
  have : prios ts.reverse = (prios ts).reverse := by simp [prios]
  rw [this]
  exact List.pairwise_reverse.2 (h.2.imp fun hne e => hne e.symm)
theorem okAll_filter {ts : List Task} (h : OkAll ts) (p : Task → Bool) : OkAll (ts.filter p) :=
  ⟨fun t ht => h.1 t (List.mem_filter.1 ht).1, (List.filter_sublist.map _).nodup h.2⟩
theorem fine_reverse {ts : List Task} {i k i2 : Int} (h : Fine ts i k) (hi : i2 = ts.length - 1 - i) : Fine ts.reverse i2 k ∧ valD ts.reverse i2 k = valD ts i k := by
  obtain ⟨h1, h2, h3, h4, h5⟩ := h
  refine ⟨⟨okAll_reverse h1, by omega, by simp; omega, h4, h5⟩, ?_⟩
  have e : ts.reverse[i2.toNat]? = ts[i.toNat]? := by
    rw [List.getElem?_reverse (by omega)]
    congr 1
    omega
  simp only [valD, e]
  cases ts[i.toNat]? with
  | none => rfl
  | some t => simp only [bsum_reverse]
theorem fine_filter {ts : List Task} {i k at_ : Int} {t0 : Task} (h : Fine ts i k) (ht : ts[i.toNat]? = some t0) (h0 : 0 ≤ at_) (ha : at_.toNat = ((ts.take i.toNat).filter fun t => decide (t.prio ≤ t0.prio)).length) :
    Fine (ts.filter fun t => decide (t.prio ≤ t0.prio)) at_ k ∧ valD (ts.filter fun t => decide (t.prio ≤ t0.prio)) at_ k = valD ts i k := by
  obtain ⟨h1, h2, h3, h4, h5⟩ := h
  have e : (ts.filter fun t => decide (t.prio ≤ t0.prio))[at_.toNat]? = some t0 := by
    have hs : ts = ts.take i.toNat ++ t0 :: ts.drop (i.toNat + 1) := by
      have := List.getElem?_eq_some_iff.1 ht
      obtain ⟨hl, he⟩ := this
      rw [← he, ← List.drop_eq_getElem_cons hl, List.take_append_drop]
    have hf : (ts.filter fun t => decide (t.prio ≤ t0.prio)) = ((ts.take i.toNat).filter fun t => decide (t.prio ≤ t0.prio)) ++ t0 :: ((ts.drop (i.toNat + 1)).filter fun t => decide (t.prio ≤ t0.prio)) := by
      conv => lhs; rw [hs]
      rw [List.filter_append, List.filter_cons_of_pos (by simp)]
    rw [hf, ha, List.getElem?_append_right (Nat.le_refl _), Nat.sub_self]
    rfl
  refine ⟨⟨okAll_filter h1 _, h0, (List.getElem?_eq_some_iff.1 e).1, h4, h5⟩, ?_⟩
  simp only [valD, e, ht, bsum_filter]

theorem inPlaceT {xs : List Task} {kd p d cl ch pr : Int} {L cap L' : Nat} {rows rows' : List (List AV)} (h : Holds tv xs L cap rows) (hc : L + 1 ≤ cap) (hL : L' = L + 1) (e : rows' = List.take (0 + L) rows ++ [[AV.sym (.int .i64 kd), AV.sym (.int .i64 p), AV.sym (.int .i64 d), AV.sym (.int .i64 cl), AV.sym (.int .i64 ch), AV.sym (.int .i64 pr)]] ++ List.drop (0 + L + [[AV.sym (.int .i64 kd), AV.sym (.int .i64 p), AV.sym (.int .i64 d), AV.sym (.int .i64 cl), AV.sym (.int .i64 ch), AV.sym (.int .i64 pr)]].length) rows) : Holds tv (xs ++ [⟨kd, p, d, cl, ch, pr⟩]) L' cap rows' := Holds.inPlace h rfl hc hL e
theorem anewT {xs : List Task} {kd p d cl ch pr : Int} {L cap L' : Nat} {rows rows' : List (List AV)} (h : Holds tv xs L cap rows) (hL : L' = L + 1) (e : rows' = List.take L (List.drop 0 rows) ++ [[AV.sym (.int .i64 kd), AV.sym (.int .i64 p), AV.sym (.int .i64 d), AV.sym (.int .i64 cl), AV.sym (.int .i64 ch), AV.sym (.int .i64 pr)]]) : Holds tv (xs ++ [⟨kd, p, d, cl, ch, pr⟩]) L' L' rows' := Holds.anew h rfl hL e


theorem hold_ne {xs : List Task} {t : Task} {j : Nat} (h : xs[j]? = some t) : 0 < xs.length := by have := (List.getElem?_eq_some_iff.1 h).1; omega
set_option maxRecDepth 200000 in
set_option maxHeartbeats 4000000 in
theorem demandRow_s (ts : List Task) (rows : List (List AV)) (n cap : Nat) (hn : n = ts.length) (hflat : ∀ row ∈ rows, AV.flatL row = true) (hrows : At tv ts rows) (hw : ∀ t ∈ ts, TaskIn t) (hsz : n * 48 ≤ 140737488351232) (hre : rows = ts.map tv) (i len : Int) :
    CallS Try.prog 7 [.sym (.slice 0 6 0 n cap false none), .sym (.int .i64 i), .sym (.int .i64 len)] (memB [some (.cells false 6 rows)] []) 1 fun v _ _ => v = .bool true := by
  refine CallS.enterS Try.func7 (by kernel_rfl) (by decide) ?_
  refine SafeC.join X (α := Int × Int × Sh) 13 131 [] (fun s => (oI (s.at 7), oI (s.at 8), s.sh 10)) (fun s => [s.nm 10 0])
    (fun a => [some (.sym (.slice 0 6 0 n cap false none)), some (.sym (.int .i64 i)), none, none, none, none, none, some (.sym (.int .i64 a.1)), some (.sym (.int .i64 a.2.1)), none, some (a.2.2.av 1 6), some (.nilslice), some (.int .i64 0), some (.int .i64 0)])
    (fun a => [some (.cells false 6 rows), a.2.2.blk 6])
    (fun a => (Fine ts i a.1 ∧ a.2.1 = valD ts i a.1) ∧ a.2.2.holds tv ts.reverse) 1 ?_ ?_
  · cbv
    with_reducible apply awakeT
    cbv
    with_reducible intro k hk
    have hkb := and_bound (by decide) (by decide) hk
    clear hk
    cbv
    with_reducible apply boundS (ts := ts) i k
    focus exact Sl.rows0 rfl rfl hn (by omega) hrows
    focus omega
    focus rfl
    focus rfl
    rotate_left
    · intro hno
      cbv
      repeat' first
        | with_reducible exact trivial
        | ((with_reducible intro v hv); (try rw [wrap_i64] at hv); cbv)
        | ((with_reducible apply uAnd); (focus first | kernel_rfl | omega); try cbv)
        | ((with_reducible apply And.intro) <;> (with_reducible intro h) <;> first | ((with_reducible exfalso); omega) | cbv)
        | ((with_reducible apply CallT.enter X Try.func11 (by decide)); cbv)
    intro hfine r hr
    have hf2 := hfine
    obtain ⟨hall, hi0, hin, _, _⟩ := hf2
    cbv
    repeat' first
      | with_reducible exact trivial
      | ((with_reducible intro v hv); (try rw [wrap_i64] at hv); cbv)
      | ((with_reducible apply uAnd); (focus first | kernel_rfl | omega); try cbv)
      | ((with_reducible apply And.intro) <;> (with_reducible intro h) <;> first | ((with_reducible exfalso); omega) | cbv)
      | ((with_reducible apply CallT.enter X Try.func11 (by decide)); cbv)
    obtain ⟨bk, hbk⟩ : ∃ bk : Nat → List Task, ∀ j, bk j = (ts.drop j).reverse := ⟨_, fun _ => rfl⟩
    have hbs : ∀ (j : Nat) (t : Task), ts[j]? = some t → bk j = bk (j + 1) ++ [t] := fun j t ht => by
      obtain ⟨hl, rfl⟩ := List.getElem?_eq_some_iff.1 ht
      rw [hbk, hbk, List.drop_eq_getElem_cons hl, List.reverse_cons]
    have hbl : ∀ j, (bk j).length = ts.length - j := fun j => by rw [hbk]; simp
    have hbe : ∀ j : Int, j = -1 → bk (j + 1).toNat = ts.reverse := fun j hj => by subst hj; rw [hbk]; rfl
    with_reducible
     refine LoopT.invR X (α := Int × Sh) 131 [] (fun s => (oI (s.at 14), s.sh 10)) (fun s => [s.nm 10 0])
      (fun a => [some (.sym (.slice 0 6 0 n cap false none)), some (.sym (.int .i64 i)), none, none, none, none, none, some (.sym (.int .i64 k)), some (.sym (.int .i64 r)), none, some (a.2.av 1 6), some (.nilslice), some (.int .i64 0), some (.int .i64 0), some (.sym (.int .i64 a.1))])
      (fun a => [some (.cells false 6 rows), a.2.blk 6])
      (fun a => (-1 ≤ a.1 ∧ (a.1 + 1).toNat ≤ n) ∧ a.2.holds tv (bk (a.1 + 1).toNat)) (fun a => (a.1 + 1).toNat) ?_ ?_
    · cbv
      refine And.intro (HoldAt.mk ?_) (Head.mk ?_ ?_ ?_ ?_ ?_ ?_)
      · refine ⟨⟨by omega, by omega⟩, ?_⟩
        have h0 : bk (v + 1).toNat = [] := List.eq_nil_of_length_eq_zero (by rw [hbl]; omega)
        exact h0
      all_goals cbv
      exact ⟨BlkLe.flat (fun h => h) hflat, trivial⟩
    · clear hv
      rintro ⟨j, sh⟩ ⟨⟨j1, j2⟩, hsh⟩
      dsimp only at j1 j2 hsh
      cases sh with
      | nil =>
        have hb0 : (bk (j + 1).toNat).length = 0 := by rw [show bk (j + 1).toNat = [] from hsh]; rfl
        rw [hbl] at hb0
        cbv
        repeat' first
        | with_reducible exact trivial
        | ((with_reducible apply ldAt hrj); (focus omega); cbv)
        | ((with_reducible apply ldAt hri); (focus omega); cbv)
        | ((with_reducible apply ld hrows); (focus omega); rintro ⟨kd, p, d, cl, ch, pr⟩ hx; rw [show v = j.toNat by omega] at hx; have hrj : rows[j.toNat]? = some [.sym (.int .i64 kd), .sym (.int .i64 p), .sym (.int .i64 d), .sym (.int .i64 cl), .sym (.int .i64 ch), .sym (.int .i64 pr)] := hrows _ _ hx; cbv)
        | ((with_reducible intro L' rows' hL hr'); (simp only [List.length_cons, List.length_nil, Nat.zero_add] at hL); (first | with_reducible have hN := inPlaceT hold (by assumption) hL hr' | with_reducible have hN := anewT hold hL hr'); cbv)
        | ((with_reducible intro v hv); (try rw [wrap_i64] at hv); cbv)
        | ((with_reducible apply uAnd); (focus first | kernel_rfl | omega | (simp; done) | (refine And.intro ?_ (And.intro ?_ (Or.inl rfl)) <;> omega) | (simp only [List.length_cons, List.length_nil]; omega)); try cbv)
        | ((with_reducible apply And.intro) <;> (with_reducible intro h) <;> (try simp only [List.length_cons, List.length_nil, Nat.zero_add] at h) <;> first | ((with_reducible exfalso); omega) | ((with_reducible exfalso); simp at h; done) | cbv)
        | ((with_reducible intro h); first | ((with_reducible exfalso); omega) | cbv)
        · have hb := hbs _ _ hx
          refine And.intro (And.intro (HoldAt.mk ?_) True.intro) (Head.mk ?_ ?_ ?_ ?_ ?_ ?_)
          · dsimp only
            refine ⟨⟨⟨by omega, by omega⟩, ?_⟩, by omega⟩
            rw [show (v + 1).toNat = j.toNat by omega, hb, show j.toNat + 1 = (j + 1).toNat by omega]
            rw [show bk (j + 1).toNat = [] from hsh]
            exact Holds.one (f := tv) (by rfl) rfl
          all_goals cbv
          exact ⟨BlkLe.flat (fun h => h) hflat, BlkLe.flat (fun h => h) (by simp [AV.flatL, AV.flat]), trivial⟩
      | sl L cap2 rows2 =>
        have hold : Holds tv (bk (j + 1).toNat) L cap2 rows2 := hsh
        have hL0 := hold.len; have hL1 := hold.full; have hL2 := hold.le
        rw [hbl] at hL0
        cbv
        repeat' first
        | with_reducible exact trivial
        | ((with_reducible apply ldAt hrj); (focus omega); cbv)
        | ((with_reducible apply ldAt hri); (focus omega); cbv)
        | ((with_reducible apply ld hrows); (focus omega); rintro ⟨kd, p, d, cl, ch, pr⟩ hx; rw [show v = j.toNat by omega] at hx; have hrj : rows[j.toNat]? = some [.sym (.int .i64 kd), .sym (.int .i64 p), .sym (.int .i64 d), .sym (.int .i64 cl), .sym (.int .i64 ch), .sym (.int .i64 pr)] := hrows _ _ hx; cbv)
        | ((with_reducible intro L' rows' hL hr'); (simp only [List.length_cons, List.length_nil, Nat.zero_add] at hL); (first | with_reducible have hN := inPlaceT hold (by assumption) hL hr' | with_reducible have hN := anewT hold hL hr'); cbv)
        | ((with_reducible intro v hv); (try rw [wrap_i64] at hv); cbv)
        | ((with_reducible apply uAnd); (focus first | kernel_rfl | omega | (simp; done) | (refine And.intro ?_ (And.intro ?_ (Or.inl rfl)) <;> omega) | (simp only [List.length_cons, List.length_nil]; omega)); try cbv)
        | ((with_reducible apply And.intro) <;> (with_reducible intro h) <;> (try simp only [List.length_cons, List.length_nil, Nat.zero_add] at h) <;> first | ((with_reducible exfalso); omega) | ((with_reducible exfalso); simp at h; done) | cbv)
        | ((with_reducible intro h); first | ((with_reducible exfalso); omega) | cbv)
        all_goals first
          | (have hb := hbs _ _ hx
             refine And.intro (And.intro (HoldAt.mk ?_) True.intro) (Head.mk ?_ ?_ ?_ ?_ ?_ ?_)
             · dsimp only
               refine ⟨⟨⟨by omega, by omega⟩, ?_⟩, by omega⟩
               rw [show (v + 1).toNat = j.toNat by omega, hb, show j.toNat + 1 = (j + 1).toNat by omega]
               exact hN
             all_goals cbv
             exact ⟨BlkLe.flat (fun h => h) hflat, BlkLe.flat (fun h => h) hN.flat, trivial⟩)
          | (rw [hbe j (by omega)] at hsh
             refine And.intro (And.intro (HoldAt.mk ?_) True.intro) (Head.mk ?_ ?_ ?_ ?_ ?_ ?_)
             · exact ⟨⟨hfine, hr⟩, hsh⟩
             all_goals cbv
             exact ⟨BlkLe.flat (fun h => h) hflat, BlkLe.flat (fun h => h) hold.flat, trivial⟩)
  · rintro ⟨k, r, sh⟩ ⟨⟨hfine, hr⟩, hsh⟩
    dsimp only at hfine hr hsh
    have hf2 := hfine
    obtain ⟨hall, hi0, hin, _, _⟩ := hf2
    obtain ⟨⟨kd0, p0, d0, cl0, c0, q0⟩, ht0⟩ : ∃ t, ts[i.toNat]? = some t := ⟨_, List.getElem?_eq_getElem hin⟩
    have hri : rows[i.toNat]? = some [.sym (.int .i64 kd0), .sym (.int .i64 p0), .sym (.int .i64 d0), .sym (.int .i64 cl0), .sym (.int .i64 c0), .sym (.int .i64 q0)] := hrows _ _ ht0
    obtain ⟨fl, hfl⟩ : ∃ fl : Nat → List Task, ∀ j, fl j = (ts.take j).filter (fun t => decide (t.prio ≤ q0)) := ⟨_, fun _ => rfl⟩
    have hf0 : fl 0 = [] := by rw [hfl]; rfl
    have hfs : ∀ (j : Nat) (t : Task), ts[j]? = some t → (t.prio ≤ q0 → fl (j + 1) = fl j ++ [t]) ∧ (q0 < t.prio → fl (j + 1) = fl j) := fun j t ht => by
      rw [hfl, hfl, take_succ_at ht, List.filter_append]
      refine ⟨fun h => by simp [h], fun h => by simp [show ¬ t.prio ≤ q0 by omega]⟩
    have hfn : ∀ j, (fl j).length ≤ n := fun j => by
      rw [hfl]
      refine Nat.le_trans (List.length_filter_le _ _) ?_
      simp; omega
    cases sh with
    | nil =>
      have h9 : ts.reverse = [] := hsh
      have h8 : ts = [] := by simpa using h9
      rw [h8] at hin
      simp at hin
    | sl L cap2 rows2 =>
      have hold0 : Holds tv ts.reverse L cap2 rows2 := hsh
      have hLn : L = n := by rw [hold0.len, List.length_reverse, hn]
      refine SafeC.join X (α := Int × Sh) 21 131 [] (fun s => (oI (s.at 12), s.sh 11)) (fun s => [oP (s.at 10), s.nm 11 0])
        (fun a => [some (.sym (.slice 0 6 0 n cap false none)), some (.sym (.int .i64 i)), none, none, none, none, none, some (.sym (.int .i64 k)), some (.sym (.int .i64 r)), none, some (.sym (.slice 1 6 0 L cap2 true none)), some (a.2.av 2 6), some (.sym (.int .i64 a.1))])
        (fun a => [some (.cells false 6 rows), some (.cells true 6 rows2), a.2.blk 6])
        (fun a => (0 ≤ a.1 ∧ a.1.toNat = (fl i.toNat).length) ∧ a.2.holds tv (fl n)) 2 ?_ ?_
      · cbv
        with_reducible
         refine LoopT.invS (α := Int × Int × Int × Sh) 131 [] (fun s => (oI (s.at 15), oI (s.at 12), oI (s.at 13), s.sh 11)) (fun s => [oP (s.at 10), s.nm 11 0])
          (fun a => [some (.sym (.slice 0 6 0 n cap false none)), some (.sym (.int .i64 i)), none, none, none, none, none, some (.sym (.int .i64 k)), some (.sym (.int .i64 r)), none, some (.sym (.slice 1 6 0 L cap2 true none)), some (a.2.2.2.av 2 6), some (.sym (.int .i64 a.2.1)), some (.sym (.int .i64 a.2.2.1)), none, some (.sym (.int .i64 a.1))])
          (fun a => [some (.cells false 6 rows), some (.cells true 6 rows2), a.2.2.2.blk 6])
          (fun a => (0 ≤ a.1 ∧ a.1.toNat ≤ n) ∧ (0 ≤ a.2.2.1 ∧ a.2.2.1.toNat = (fl a.1.toNat).length) ∧ (i < a.1 → 0 ≤ a.2.1 ∧ a.2.1.toNat = (fl i.toNat).length) ∧ a.2.2.2.holds tv (fl a.1.toNat)) (fun a => n - a.1.toNat) ?_ ?_
        · cbv
          refine And.intro (HoldAt.mk ?_) (Head.mk ?_ ?_ ?_ ?_ ?_ ?_)
          · refine ⟨⟨Int.le_refl 0, Nat.zero_le _⟩, ⟨Int.le_refl 0, ?_⟩, fun h => ?_, hf0⟩
            · dsimp only
              rw [show (0 : Int).toNat = 0 from rfl, hf0]; rfl
            · exfalso; have h : i < 0 := h; omega
          all_goals cbv
          exact ⟨BlkLe.flat (fun h => h) hflat, BlkLe.flat (fun h => h) hold0.flat, trivial⟩
        · rintro ⟨j, at_, seen, sh⟩ ⟨⟨j1, j2⟩, j3, j4, hsh⟩
          dsimp only at j1 j2 j3 j4 hsh
          have hfj := hfn j.toNat
          refine SafeC.join X (α := Int × Int × Int × Sh) 18 131 [] (fun s => (oI (s.at 15), oI (s.at 12), oI (s.at 13), s.sh 11)) (fun s => [oP (s.at 10), s.nm 11 0])
            (fun a => [some (.sym (.slice 0 6 0 n cap false none)), some (.sym (.int .i64 i)), none, none, none, none, none, some (.sym (.int .i64 k)), some (.sym (.int .i64 r)), none, some (.sym (.slice 1 6 0 L cap2 true none)), some (a.2.2.2.av 2 6), some (.sym (.int .i64 a.2.1)), some (.sym (.int .i64 a.2.2.1)), none, some (.sym (.int .i64 a.1))])
            (fun a => [some (.cells false 6 rows), some (.cells true 6 rows2), a.2.2.2.blk 6])
            (fun a => (a.1 = j ∧ j.toNat < n) ∧ (0 ≤ a.2.2.1 ∧ a.2.2.1.toNat = (fl j.toNat).length) ∧ (i ≤ j → 0 ≤ a.2.1 ∧ a.2.1.toNat = (fl i.toNat).length) ∧ a.2.2.2.holds tv (fl j.toNat)) 2 ?_ ?_
          · have hje : j = i → (fl j.toNat).length = (fl i.toNat).length := fun e => by rw [e]
            cases sh with
            | nil =>
              cbv
              repeat' first
              | with_reducible exact trivial
              | ((with_reducible apply ldAt hrj); (focus omega); cbv)
              | ((with_reducible apply ldAt hri); (focus omega); cbv)
              | ((with_reducible apply ld hrows); (focus omega); rintro ⟨kd, p, d, cl, ch, pr⟩ hx; rw [show v = j.toNat by omega] at hx; have hrj : rows[j.toNat]? = some [.sym (.int .i64 kd), .sym (.int .i64 p), .sym (.int .i64 d), .sym (.int .i64 cl), .sym (.int .i64 ch), .sym (.int .i64 pr)] := hrows _ _ hx; cbv)
              | ((with_reducible intro L' rows' hL hr'); (simp only [List.length_cons, List.length_nil, Nat.zero_add] at hL); (first | with_reducible have hN := inPlaceT hold (by assumption) hL hr' | with_reducible have hN := anewT hold hL hr'); cbv)
              | ((with_reducible intro v hv); (try rw [wrap_i64] at hv); cbv)
              | ((with_reducible apply uAnd); (focus first | kernel_rfl | omega | (simp; done) | (refine And.intro ?_ (And.intro ?_ (Or.inl rfl)) <;> omega) | (simp only [List.length_cons, List.length_nil]; omega)); try cbv)
              | ((with_reducible apply And.intro) <;> (with_reducible intro h) <;> (try simp only [List.length_cons, List.length_nil, Nat.zero_add] at h) <;> first | ((with_reducible exfalso); omega) | ((with_reducible exfalso); simp at h; done) | cbv)
              | ((with_reducible intro h); first | ((with_reducible exfalso); omega) | cbv)
              all_goals first
                | (refine And.intro (And.intro (HoldAt.mk ?_) True.intro) (Head.mk ?_ ?_ ?_ ?_ ?_ ?_)
                   · exact ⟨⟨rfl, by omega⟩, j3, (fun hle => by first | exact j4 (by omega) | exact ⟨j3.1, j3.2.trans (hje (by assumption))⟩), hsh⟩
                   all_goals cbv
                   exact ⟨BlkLe.flat (fun h => h) hflat, BlkLe.flat (fun h => h) hold0.flat, trivial⟩)
                | (refine And.intro (And.intro (HoldAt.mk ?_) True.intro) (Head.mk ?_ ?_ ?_ ?_ ?_ ?_)
                   · exact ⟨j4 (by omega), by rw [show n = j.toNat by omega]; exact hsh⟩
                   all_goals cbv
                   exact ⟨BlkLe.flat (fun h => h) hflat, BlkLe.flat (fun h => h) hold0.flat, trivial⟩)
            | sl L3 cap3 rows3 =>
              have hold : Holds tv (fl j.toNat) L3 cap3 rows3 := hsh
              cbv
              repeat' first
              | with_reducible exact trivial
              | ((with_reducible apply ldAt hrj); (focus omega); cbv)
              | ((with_reducible apply ldAt hri); (focus omega); cbv)
              | ((with_reducible apply ld hrows); (focus omega); rintro ⟨kd, p, d, cl, ch, pr⟩ hx; rw [show v = j.toNat by omega] at hx; have hrj : rows[j.toNat]? = some [.sym (.int .i64 kd), .sym (.int .i64 p), .sym (.int .i64 d), .sym (.int .i64 cl), .sym (.int .i64 ch), .sym (.int .i64 pr)] := hrows _ _ hx; cbv)
              | ((with_reducible intro L' rows' hL hr'); (simp only [List.length_cons, List.length_nil, Nat.zero_add] at hL); (first | with_reducible have hN := inPlaceT hold (by assumption) hL hr' | with_reducible have hN := anewT hold hL hr'); cbv)
              | ((with_reducible intro v hv); (try rw [wrap_i64] at hv); cbv)
              | ((with_reducible apply uAnd); (focus first | kernel_rfl | omega | (simp; done) | (refine And.intro ?_ (And.intro ?_ (Or.inl rfl)) <;> omega) | (simp only [List.length_cons, List.length_nil]; omega)); try cbv)
              | ((with_reducible apply And.intro) <;> (with_reducible intro h) <;> (try simp only [List.length_cons, List.length_nil, Nat.zero_add] at h) <;> first | ((with_reducible exfalso); omega) | ((with_reducible exfalso); simp at h; done) | cbv)
              | ((with_reducible intro h); first | ((with_reducible exfalso); omega) | cbv)
              all_goals first
                | (refine And.intro (And.intro (HoldAt.mk ?_) True.intro) (Head.mk ?_ ?_ ?_ ?_ ?_ ?_)
                   · exact ⟨⟨rfl, by omega⟩, j3, (fun hle => by first | exact j4 (by omega) | exact ⟨j3.1, j3.2.trans (hje (by assumption))⟩), hsh⟩
                   all_goals cbv
                   exact ⟨BlkLe.flat (fun h => h) hflat, BlkLe.flat (fun h => h) hold0.flat, BlkLe.flat (fun h => h) hold.flat, trivial⟩)
                | (refine And.intro (And.intro (HoldAt.mk ?_) True.intro) (Head.mk ?_ ?_ ?_ ?_ ?_ ?_)
                   · exact ⟨j4 (by omega), by rw [show n = j.toNat by omega]; exact hsh⟩
                   all_goals cbv
                   exact ⟨BlkLe.flat (fun h => h) hflat, BlkLe.flat (fun h => h) hold0.flat, BlkLe.flat (fun h => h) hold.flat, trivial⟩)
          · clear hsh j3 j4
            rintro ⟨j', at_, seen, sh⟩ ⟨⟨e1, e2⟩, j3, j4, hsh⟩
            dsimp only at e1 j3 j4 hsh
            subst e1
            refine SafeC.walk X ?_
            cases sh with
            | nil =>
              have hfj0 : (fl j'.toNat).length = 0 := by rw [show fl j'.toNat = [] from hsh]; rfl
              cbv
              repeat' first
              | with_reducible exact trivial
              | ((with_reducible apply ldAt hrj); (focus omega); cbv)
              | ((with_reducible apply ldAt hri); (focus omega); cbv)
              | ((with_reducible apply ld hrows); (focus omega); rintro ⟨kd, p, d, cl, ch, pr⟩ hx; rw [show v = j'.toNat by omega] at hx; have hrj : rows[j'.toNat]? = some [.sym (.int .i64 kd), .sym (.int .i64 p), .sym (.int .i64 d), .sym (.int .i64 cl), .sym (.int .i64 ch), .sym (.int .i64 pr)] := hrows _ _ hx; cbv)
              | ((with_reducible intro L' rows' hL hr'); (simp only [List.length_cons, List.length_nil, Nat.zero_add] at hL); (first | with_reducible have hN := inPlaceT hold (by assumption) hL hr' | with_reducible have hN := anewT hold hL hr'); cbv)
              | ((with_reducible intro v hv); (try rw [wrap_i64] at hv); cbv)
              | ((with_reducible apply uAnd); (focus first | kernel_rfl | omega | (simp; done) | (refine And.intro ?_ (And.intro ?_ (Or.inl rfl)) <;> omega) | (simp only [List.length_cons, List.length_nil]; omega)); try cbv)
              | ((with_reducible apply And.intro) <;> (with_reducible intro h) <;> (try simp only [List.length_cons, List.length_nil, Nat.zero_add] at h) <;> first | ((with_reducible exfalso); omega) | ((with_reducible exfalso); simp at h; done) | cbv)
              | ((with_reducible intro h); first | ((with_reducible exfalso); omega) | cbv)
              all_goals
                first
                  | have e9 := (hfs _ _ hx).1 (by assumption)
                  | have e9 := (hfs _ _ hx).2 (by assumption)
                  | (have hji : j' = i := by assumption
                     have e9 := (hfs _ _ ht0).1 (Int.le_refl q0)
                     rw [← hji] at e9)
                have el := congrArg List.length e9
                try simp only [List.length_append, List.length_cons, List.length_nil] at el
                refine And.intro (And.intro (HoldAt.mk ?_) True.intro) (Head.mk ?_ ?_ ?_ ?_ ?_ ?_)
                · dsimp only
                  refine ⟨⟨⟨by omega, by omega⟩, ⟨by omega, ?_⟩, (fun hlt => j4 (by omega)), ?_⟩, by omega⟩
                  · rw [show v.toNat = j'.toNat + 1 by omega]; omega
                  · rw [show v.toNat = j'.toNat + 1 by omega, e9]
                    first
                      | exact hN
                      | exact hold
                      | exact hsh
                      | (rw [show fl j'.toNat = [] from hsh]; exact Holds.one (f := tv) (by rfl) rfl)
                all_goals cbv
                first
                  | exact ⟨BlkLe.flat (fun h => h) hflat, BlkLe.flat (fun h => h) hold0.flat, BlkLe.flat (fun h => h) hN.flat, trivial⟩
                  | exact ⟨BlkLe.flat (fun h => h) hflat, BlkLe.flat (fun h => h) hold0.flat, BlkLe.flat (fun h => h) hold.flat, trivial⟩
                  | exact ⟨BlkLe.flat (fun h => h) hflat, BlkLe.flat (fun h => h) hold0.flat, BlkLe.flat (fun h => h) (by simp [AV.flatL, AV.flat]), trivial⟩
                  | exact ⟨BlkLe.flat (fun h => h) hflat, BlkLe.flat (fun h => h) hold0.flat, trivial⟩
            | sl L3 cap3 rows3 =>
              have hold : Holds tv (fl j'.toNat) L3 cap3 rows3 := hsh
              have hL0 := hold.len; have hL1 := hold.full; have hL2' := hold.le
              cbv
              repeat' first
              | with_reducible exact trivial
              | ((with_reducible apply ldAt hrj); (focus omega); cbv)
              | ((with_reducible apply ldAt hri); (focus omega); cbv)
              | ((with_reducible apply ld hrows); (focus omega); rintro ⟨kd, p, d, cl, ch, pr⟩ hx; rw [show v = j'.toNat by omega] at hx; have hrj : rows[j'.toNat]? = some [.sym (.int .i64 kd), .sym (.int .i64 p), .sym (.int .i64 d), .sym (.int .i64 cl), .sym (.int .i64 ch), .sym (.int .i64 pr)] := hrows _ _ hx; cbv)
              | ((with_reducible intro L' rows' hL hr'); (simp only [List.length_cons, List.length_nil, Nat.zero_add] at hL); (first | with_reducible have hN := inPlaceT hold (by assumption) hL hr' | with_reducible have hN := anewT hold hL hr'); cbv)
              | ((with_reducible intro v hv); (try rw [wrap_i64] at hv); cbv)
              | ((with_reducible apply uAnd); (focus first | kernel_rfl | omega | (simp; done) | (refine And.intro ?_ (And.intro ?_ (Or.inl rfl)) <;> omega) | (simp only [List.length_cons, List.length_nil]; omega)); try cbv)
              | ((with_reducible apply And.intro) <;> (with_reducible intro h) <;> (try simp only [List.length_cons, List.length_nil, Nat.zero_add] at h) <;> first | ((with_reducible exfalso); omega) | ((with_reducible exfalso); simp at h; done) | cbv)
              | ((with_reducible intro h); first | ((with_reducible exfalso); omega) | cbv)
              all_goals
                first
                  | have e9 := (hfs _ _ hx).1 (by assumption)
                  | have e9 := (hfs _ _ hx).2 (by assumption)
                  | (have hji : j' = i := by assumption
                     have e9 := (hfs _ _ ht0).1 (Int.le_refl q0)
                     rw [← hji] at e9)
                have el := congrArg List.length e9
                try simp only [List.length_append, List.length_cons, List.length_nil] at el
                refine And.intro (And.intro (HoldAt.mk ?_) True.intro) (Head.mk ?_ ?_ ?_ ?_ ?_ ?_)
                · dsimp only
                  refine ⟨⟨⟨by omega, by omega⟩, ⟨by omega, ?_⟩, (fun hlt => j4 (by omega)), ?_⟩, by omega⟩
                  · rw [show v.toNat = j'.toNat + 1 by omega]; omega
                  · rw [show v.toNat = j'.toNat + 1 by omega, e9]
                    first
                      | exact hN
                      | exact hold
                      | exact hsh
                      | (rw [show fl j'.toNat = [] from hsh]; exact Holds.one (f := tv) (by rfl) rfl)
                all_goals cbv
                first
                  | exact ⟨BlkLe.flat (fun h => h) hflat, BlkLe.flat (fun h => h) hold0.flat, BlkLe.flat (fun h => h) hN.flat, trivial⟩
                  | exact ⟨BlkLe.flat (fun h => h) hflat, BlkLe.flat (fun h => h) hold0.flat, BlkLe.flat (fun h => h) hold.flat, trivial⟩
                  | exact ⟨BlkLe.flat (fun h => h) hflat, BlkLe.flat (fun h => h) hold0.flat, BlkLe.flat (fun h => h) (by simp [AV.flatL, AV.flat]), trivial⟩
                  | exact ⟨BlkLe.flat (fun h => h) hflat, BlkLe.flat (fun h => h) hold0.flat, trivial⟩
      · rintro ⟨at_, sh⟩ ⟨⟨ha0, ha1⟩, hsh⟩
        dsimp only at ha0 ha1 hsh
        have hfa : fl n = ts.filter (fun t => decide (t.prio ≤ q0)) := by rw [hfl, List.take_of_length_le (by omega)]
        have hff := fine_filter (at_ := at_) hfine ht0 ha0 (by rw [ha1, hfl])
        rw [← hfa] at hff
        have hfnn := hfn n
        refine SafeC.walk X ?_
        cases sh with
        | nil =>
          exfalso
          have hm : (⟨kd0, p0, d0, cl0, c0, q0⟩ : Task) ∈ fl n := by
            rw [hfa, List.mem_filter]
            exact ⟨List.mem_of_getElem? ht0, by simp⟩
          rw [show fl n = [] from hsh] at hm
          cases hm
        | sl L3 cap3 rows3 =>
          have hold : Holds tv (fl n) L3 cap3 rows3 := hsh
          have hL0 := hold.len
          cbv
          repeat' first
            | with_reducible exact trivial
            | ((with_reducible apply boundS (ts := ts.reverse)); (focus exact hold0.sl rfl rfl (by omega)); (focus (rw [List.length_reverse]; omega)); (focus rfl); (focus rfl); all_goals first
                 | ((with_reducible intro hc r2 hr2); cbv)
                 | ((with_reducible intro hno); (with_reducible exfalso); exact hno (fine_reverse hfine (by omega)).1))
            | ((with_reducible apply boundS (ts := fl n)); (focus exact hold.sl rfl rfl (by omega)); (focus omega); (focus rfl); (focus rfl); all_goals first
                 | ((with_reducible intro hc3 r3 hr3); (have hv1 := (fine_reverse hfine (i2 := _) (by omega)).2.symm.trans hr2.symm); (have hv2 := hff.2); cbv)
                 | ((with_reducible intro hno); (with_reducible exfalso); exact hno hff.1))
            | ((with_reducible intro v hv); (try rw [wrap_i64] at hv); cbv)
            | ((with_reducible apply uAnd); (focus first | kernel_rfl | omega); try cbv)
            | ((with_reducible apply And.intro) <;> (with_reducible intro h) <;> first | ((with_reducible exfalso); omega) | cbv)
            | ((with_reducible apply CallT.enter X Try.func11 (by decide)); cbv)
set_option maxRecDepth 200000 in
set_option maxHeartbeats 4000000 in
theorem demandRow_n (i len : Int) : CallS Try.prog 7 [.nilslice, .sym (.int .i64 i), .sym (.int .i64 len)] (memB [] []) 0 fun v _ _ => v = .bool true := by
  refine CallS.enter X Try.func7 (by decide) ?_
  cbv
  with_reducible apply awakeT
  cbv
  with_reducible intro k hk
  have hkb := and_bound (by decide) (by decide) hk
  clear hk
  cbv
  with_reducible apply boundS (ts := []) i k
  focus exact Sl.nil rfl rfl
  focus decide
  focus rfl
  focus rfl
  · intro hf
    exfalso
    have := hf.2.2.1
    simp at this
  · intro hno
    cbv
    repeat' first
      | with_reducible exact trivial
      | ((with_reducible intro v hv); (try rw [wrap_i64] at hv); cbv)
      | ((with_reducible apply uAnd); (focus first | kernel_rfl | omega); try cbv)
      | ((with_reducible apply And.intro) <;> (with_reducible intro h) <;> first | ((with_reducible exfalso); omega) | cbv)
      | ((with_reducible apply CallT.enter X Try.func11 (by decide)); cbv)
end Go.Proofs.Ytoajpihpldndcaa.Dem
