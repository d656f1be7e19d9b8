/- The law TickSums. -/
import Derived.Test.YtbgapiiopocncaaTicF
namespace Go.Proofs.Ytbgapiiopocncaa.Tic
open Go.Ab
set_option linter.unusedVariables false
set_option linter.unusedSimpArgs false
theorem sum_reverse (xs : List Int) : sum xs.reverse = sum xs := by
  induction xs with
  | nil => rfl
  | cons x xs ih => rw [List.reverse_cons, sum_append, ih]; simp [sum]; omega
theorem rev_step {xs : List Int} {j : Nat} {x : Int} (h : xs[j]? = some x) : (xs.drop (j + 1)).reverse ++ [x] = (xs.drop j).reverse := by
  obtain ⟨hl, rfl⟩ := List.getElem?_eq_some_iff.1 h
  rw [List.drop_eq_getElem_cons hl, List.reverse_cons]
theorem allU_reverse {xs : List Int} (h : AllU xs) : AllU xs.reverse := fun x hx => h x (List.mem_reverse.1 hx)

set_option maxRecDepth 200000 in
set_option maxHeartbeats 8000000 in
theorem tickSums (xs : List Int) (rows : List (List AV)) (n cap : Nat) (hn : n = xs.length) (hflat : ∀ row ∈ rows, AV.flatL row = true) (hrows : At wv xs rows) (hw : AllU xs) (hsz : n * 8 ≤ 140737488351232) :
    CallS Try.prog 7 [.sym (.slice 0 1 0 n cap false none)] (memB [some (.cells false 1 rows)] []) 1 fun v _ _ => v = .bool true := by
  refine CallS.enter X Try.func7 (by decide) ?_
  cbv
  repeat' first
    | with_reducible exact trivial
    | ((with_reducible apply awakeT); cbv)
    | ((with_reducible apply sumT hw); (focus exact Sl.rows0 rfl rfl hn (by omega) hrows); all_goals first
        | ((with_reducible intro hlt s hs); cbv)
        | ((with_reducible intro hge); cbv))
    | ((with_reducible intro v hv); (try rw [wrap_i64] at hv); cbv)
    | ((with_reducible apply uAnd); (focus first | kernel_rfl | omega); try cbv)
    | ((with_reducible apply And.intro) <;> (with_reducible intro h) <;> first | ((with_reducible exfalso); omega) | cbv)
  · with_reducible
     refine LoopT.invR X (α := Int × Bool × Int) 98 [] (fun s => (oI (s.at 5), oB (s.at 6), oI (s.at 7))) (fun s => [])
      (fun a => [some (.sym (.slice 0 1 0 n cap false none)), none, none, some (.sym (.int .u64 s)), some (.int .i64 0), some (.sym (.int .u64 a.1)), some (.bool a.2.1), some (.sym (.int .i64 a.2.2))])
      (fun a => [some (.cells false 1 rows)])
      (fun a => a.2.1 = false ∧ 0 ≤ a.2.2 ∧ a.2.2.toNat ≤ n ∧ a.1 = sum (xs.take a.2.2.toNat)) (fun a => n - a.2.2.toNat) ?_ ?_
    · cbv
      refine And.intro (HoldAt.mk ?_) (Head.mk ?_ ?_ ?_ ?_ ?_ ?_)
      · exact ⟨rfl, by decide, by simp, rfl⟩
      all_goals cbv
      exact ⟨BlkLe.flat (fun h => h) hflat, trivial⟩
    rintro ⟨t, o, j⟩ ⟨j0, j1, j2, j3⟩
    dsimp only at j0 j1 j2 j3
    have hs0 : 0 ≤ t := by rw [j3]; exact sum_nonneg fun y hy => hw y (List.mem_of_mem_take hy)
    have hs1 : t ≤ sum xs := by rw [j3]; exact sum_le_take hw _
    have hut : U t := by unfold U; omega
    subst j0
    cbv
    repeat' first
      | with_reducible exact trivial
      | ((with_reducible apply addT2 (x := t) (y := x)); (focus rfl); (focus rfl); (focus exact hut); (focus exact hux); all_goals first
          | ((with_reducible intro hlt2 s2 hs2); cbv)
          | ((with_reducible intro hge2); first | ((with_reducible exfalso); omega) | cbv))
      | ((with_reducible intro v hv); (try rw [wrap_i64] at hv); cbv)
      | ((with_reducible apply uAnd); (focus first | omega | (cbv; done) | kernel_rfl); try cbv)
      | ((with_reducible apply And.intro) <;> (with_reducible intro h) <;> first | ((with_reducible exfalso); omega) | cbv)
      | ((with_reducible apply ld hrows); (focus omega); (with_reducible intro x hx); (rw [show v = j.toNat by omega] at hx); (have hux : U x := u_at hw hx); (have hux2 := u_at hw hx); (have hsx := sum_succ hx); (have hle := sum_le_take hw (j.toNat + 1)); cbv)
      | ((with_reducible apply CallT.enter X Try.func16 (by decide)); cbv)
    · refine And.intro (And.intro (HoldAt.mk ?_) True.intro) (Head.mk ?_ ?_ ?_ ?_ ?_ ?_)
      · have e4 : v.toNat = j.toNat + 1 := by omega
        dsimp only
        refine ⟨⟨rfl, by omega, by omega, (by rw [e4, hsx]; omega)⟩, by omega⟩
      all_goals cbv
      exact ⟨BlkLe.flat (fun h => h) hflat, trivial⟩
    · have htt : t = sum xs := by rw [j3, List.take_of_length_le (by omega)]
      with_reducible
       refine LoopT.invR X (α := Sh × Int) 98 [] (fun s => (s.sh 10, oI (s.at 11))) (fun s => [s.nm 10 0])
        (fun a => [some (.sym (.slice 0 1 0 n cap false none)), none, none, some (.sym (.int .u64 s)), some (.int .i64 0), some (.sym (.int .u64 t)), some (.bool false), none, none, none, some (a.1.av 1 1), some (.sym (.int .i64 a.2))])
        (fun a => [some (.cells false 1 rows), a.1.blk 1])
        (fun a => -1 ≤ a.2 ∧ (a.2 + 1).toNat ≤ n ∧ a.1.holds wv (xs.drop (a.2 + 1).toNat).reverse) (fun a => (a.2 + 1).toNat) ?_ ?_
      · cbv
        refine And.intro (HoldAt.mk ?_) (Head.mk ?_ ?_ ?_ ?_ ?_ ?_)
        · refine ⟨by omega, by omega, ?_⟩
          show (xs.drop (v + 1).toNat).reverse = []
          rw [List.drop_eq_nil_of_le (by omega)]
          rfl
        all_goals cbv
        exact ⟨BlkLe.flat (fun h => h) hflat, trivial⟩
      rintro ⟨sh, i⟩ ⟨i1, i2, hsh⟩
      dsimp only at i1 i2 hsh
      cases sh with
      | nil =>
        have hq0 : (xs.drop (i + 1).toNat).reverse = [] := hsh
        have hq1 := congrArg List.length hq0
        simp only [List.length_reverse, List.length_drop, List.length_nil] at hq1
        cbv
        repeat' first
          | with_reducible exact trivial
          | ((with_reducible apply sumT (allU_reverse hw)); (focus exact Sl.nil rfl (by rw [show (i + 1).toNat = 0 by omega] at hq0; simpa using hq0)); (all_goals rw [sum_reverse]); all_goals first
              | ((with_reducible intro hlt4 s4 hs4); first | ((with_reducible exfalso); omega) | cbv)
              | ((with_reducible intro hge4); first | ((with_reducible exfalso); omega) | cbv))
          | ((with_reducible intro L' rows' hL hr'); (simp only [List.length_cons, List.length_nil, Nat.zero_add] at hL); (first
              | ((have hc : L + 1 ≤ cap2 := by omega); (have hN := Holds.inPlace (f := wv) (x := x) hold rfl hc hL hr'))
              | (have hN := Holds.anew (f := wv) (x := x) hold rfl hL hr')); cbv)
          | ((with_reducible apply ld hrows); (focus omega); (with_reducible intro x hx); (rw [show v = i.toNat by omega] at hx); (have hrv := rev_step hx); cbv)
          | ((with_reducible intro v hv); (try rw [wrap_i64] at hv); cbv)
          | ((with_reducible apply uAnd); (focus first | omega | (refine And.intro ?_ (And.intro ?_ (Or.inl rfl)) <;> omega) | (simp only [List.length_cons, List.length_nil]; omega) | kernel_rfl | (simp; done)); try cbv)
          | ((with_reducible apply and3) <;> (with_reducible intro h) <;> first | ((with_reducible exfalso); omega) | cbv)
          | ((with_reducible apply And.intro) <;> (with_reducible intro h) <;> (try simp only [List.length_cons, List.length_nil, Nat.zero_add] at h) <;> first | ((with_reducible exfalso); omega) | ((with_reducible exfalso); simp at h; done) | cbv)
          | ((with_reducible apply CallT.enter X Try.func16 (by decide)); cbv)
          | ((with_reducible intro h); first | ((with_reducible exfalso); omega) | cbv)
        all_goals
          refine And.intro (And.intro (HoldAt.mk ?_) True.intro) (Head.mk ?_ ?_ ?_ ?_ ?_ ?_)
          · dsimp only
            have e4 : (v + 1).toNat = i.toNat := by omega
            refine ⟨⟨by omega, by omega, ?_⟩, by omega⟩
            rw [e4, ← hrv]
            rw [show (i + 1).toNat = i.toNat + 1 by omega] at hq0
            rw [hq0]
            exact Holds.one (by rfl) rfl
          all_goals cbv
          first
            | exact ⟨BlkLe.flat (fun h => h) hflat, BlkLe.flat (fun h => h) hN.flat, trivial⟩
            | exact ⟨BlkLe.flat (fun h => h) hflat, BlkLe.flat (fun h => h) (by simp [AV.flatL, AV.flat]), trivial⟩
      | sl L cap2 rows2 =>
        have hold : Holds wv (xs.drop (i + 1).toNat).reverse L cap2 rows2 := hsh
        have hL0 := hold.len; have hL1 := hold.full; have hL2 := hold.le
        simp only [List.length_reverse, List.length_drop] at hL0
        cbv
        repeat' first
          | with_reducible exact trivial
          | ((with_reducible apply sumT (allU_reverse hw)); (focus exact (show Holds wv xs.reverse L cap2 rows2 by rw [show (i + 1).toNat = 0 by omega] at hold; simpa using hold).sl rfl rfl (by omega)); (all_goals rw [sum_reverse]); all_goals first
              | ((with_reducible intro hlt4 s4 hs4); first | ((with_reducible exfalso); omega) | cbv)
              | ((with_reducible intro hge4); first | ((with_reducible exfalso); omega) | cbv))
          | ((with_reducible intro L' rows' hL hr'); (simp only [List.length_cons, List.length_nil, Nat.zero_add] at hL); (first
              | ((have hc : L + 1 ≤ cap2 := by omega); (have hN := Holds.inPlace (f := wv) (x := x) hold rfl hc hL hr'))
              | (have hN := Holds.anew (f := wv) (x := x) hold rfl hL hr')); cbv)
          | ((with_reducible apply ld hrows); (focus omega); (with_reducible intro x hx); (rw [show v = i.toNat by omega] at hx); (have hrv := rev_step hx); cbv)
          | ((with_reducible intro v hv); (try rw [wrap_i64] at hv); cbv)
          | ((with_reducible apply uAnd); (focus first | omega | (refine And.intro ?_ (And.intro ?_ (Or.inl rfl)) <;> omega) | (simp only [List.length_cons, List.length_nil]; omega) | kernel_rfl | (simp; done)); try cbv)
          | ((with_reducible apply and3) <;> (with_reducible intro h) <;> first | ((with_reducible exfalso); omega) | cbv)
          | ((with_reducible apply And.intro) <;> (with_reducible intro h) <;> (try simp only [List.length_cons, List.length_nil, Nat.zero_add] at h) <;> first | ((with_reducible exfalso); omega) | ((with_reducible exfalso); simp at h; done) | cbv)
          | ((with_reducible apply CallT.enter X Try.func16 (by decide)); cbv)
          | ((with_reducible intro h); first | ((with_reducible exfalso); omega) | cbv)
        all_goals
          refine And.intro (And.intro (HoldAt.mk ?_) True.intro) (Head.mk ?_ ?_ ?_ ?_ ?_ ?_)
          · dsimp only
            have e4 : (v + 1).toNat = i.toNat := by omega
            refine ⟨⟨by omega, by omega, ?_⟩, by omega⟩
            rw [e4, ← hrv]
            rw [show (i + 1).toNat = i.toNat + 1 by omega] at hN
            exact hN
          all_goals cbv
          first
            | exact ⟨BlkLe.flat (fun h => h) hflat, BlkLe.flat (fun h => h) hN.flat, trivial⟩
            | exact ⟨BlkLe.flat (fun h => h) hflat, BlkLe.flat (fun h => h) (by simp [AV.flatL, AV.flat]), trivial⟩
  · with_reducible
     refine LoopT.invR X (α := Int × Bool × Int) 98 [] (fun s => (oI (s.at 5), oB (s.at 6), oI (s.at 7))) (fun s => [])
      (fun a => [some (.sym (.slice 0 1 0 n cap false none)), none, none, some (.int .u64 0), some (.int .i64 100), some (.sym (.int .u64 a.1)), some (.bool a.2.1), some (.sym (.int .i64 a.2.2))])
      (fun a => [some (.cells false 1 rows)])
      (fun a => U a.1 ∧ 0 ≤ a.2.2 ∧ a.2.2.toNat ≤ n ∧ (a.2.1 = false → a.1 = sum (xs.take a.2.2.toNat))) (fun a => n - a.2.2.toNat) ?_ ?_
    · cbv
      refine And.intro (HoldAt.mk ?_) (Head.mk ?_ ?_ ?_ ?_ ?_ ?_)
      · exact ⟨by unfold U; decide, by decide, by simp, fun _ => rfl⟩
      all_goals cbv
      exact ⟨BlkLe.flat (fun h => h) hflat, trivial⟩
    rintro ⟨t, o, j⟩ ⟨hut, j1, j2, j3⟩
    dsimp only at hut j1 j2 j3
    cases o
    · replace j3 := j3 rfl
      have hut2 := hut
      unfold U at hut2
      cbv
      repeat' first
        | with_reducible exact trivial
        | ((with_reducible apply addT2 (x := t) (y := x)); (focus rfl); (focus rfl); (focus exact hut); (focus exact hux); all_goals first
            | ((with_reducible intro hlt2 s2 hs2); cbv)
            | ((with_reducible intro hge2); first | ((with_reducible exfalso); omega) | cbv))
        | ((with_reducible intro v hv); (try rw [wrap_i64] at hv); cbv)
        | ((with_reducible apply uAnd); (focus first | omega | (cbv; done) | kernel_rfl); try cbv)
        | ((with_reducible apply And.intro) <;> (with_reducible intro h) <;> first | ((with_reducible exfalso); omega) | cbv)
        | ((with_reducible apply ld hrows); (focus omega); (with_reducible intro x hx); (rw [show v = j.toNat by omega] at hx); (have hux : U x := u_at hw hx); (have hux2 := u_at hw hx); (have hsx := sum_succ hx); (have hle := sum_le_take hw (j.toNat + 1)); cbv)
        | ((with_reducible apply CallT.enter X Try.func16 (by decide)); cbv)
      all_goals first
      | (exfalso
         rw [List.take_of_length_le (by omega)] at j3
         unfold U at hut
         omega)
      | (refine And.intro (And.intro (HoldAt.mk ?_) True.intro) (Head.mk ?_ ?_ ?_ ?_ ?_ ?_)
         · have e4 : v.toNat = j.toNat + 1 := by omega
           dsimp only
           refine ⟨⟨(by unfold U; omega), by omega, by omega, (by first | exact fun _ => (by rw [e4, hsx]; omega) | exact fun e => (by cases e))⟩, by omega⟩
         all_goals cbv
         exact ⟨BlkLe.flat (fun h => h) hflat, trivial⟩
        )
    · cbv
      repeat' first
        | with_reducible exact trivial
        | ((with_reducible apply addT2 (x := t) (y := x)); (focus rfl); (focus rfl); (focus exact hut); (focus exact hux); all_goals first
            | ((with_reducible intro hlt2 s2 hs2); cbv)
            | ((with_reducible intro hge2); first | ((with_reducible exfalso); omega) | cbv))
        | ((with_reducible intro v hv); (try rw [wrap_i64] at hv); cbv)
        | ((with_reducible apply uAnd); (focus first | omega | (cbv; done) | kernel_rfl); try cbv)
        | ((with_reducible apply And.intro) <;> (with_reducible intro h) <;> first | ((with_reducible exfalso); omega) | cbv)
        | ((with_reducible apply ld hrows); (focus omega); (with_reducible intro x hx); (rw [show v = j.toNat by omega] at hx); (have hux : U x := u_at hw hx); (have hux2 := u_at hw hx); (have hsx := sum_succ hx); (have hle := sum_le_take hw (j.toNat + 1)); cbv)
        | ((with_reducible apply CallT.enter X Try.func16 (by decide)); cbv)
      all_goals
        with_reducible
         refine LoopT.invR X (α := Sh × Int) 98 [] (fun s => (s.sh 10, oI (s.at 11))) (fun s => [s.nm 10 0])
          (fun a => [some (.sym (.slice 0 1 0 n cap false none)), none, none, some (.int .u64 0), some (.int .i64 100), some (.sym (.int .u64 t)), some (.bool true), none, none, none, some (a.1.av 1 1), some (.sym (.int .i64 a.2))])
          (fun a => [some (.cells false 1 rows), a.1.blk 1])
          (fun a => -1 ≤ a.2 ∧ (a.2 + 1).toNat ≤ n ∧ a.1.holds wv (xs.drop (a.2 + 1).toNat).reverse) (fun a => (a.2 + 1).toNat) ?_ ?_
        · cbv
          refine And.intro (HoldAt.mk ?_) (Head.mk ?_ ?_ ?_ ?_ ?_ ?_)
          · refine ⟨by omega, by omega, ?_⟩
            show (xs.drop (v + 1).toNat).reverse = []
            rw [List.drop_eq_nil_of_le (by omega)]
            rfl
          all_goals cbv
          exact ⟨BlkLe.flat (fun h => h) hflat, trivial⟩
        rintro ⟨sh, i⟩ ⟨i1, i2, hsh⟩
        dsimp only at i1 i2 hsh
        cases sh with
        | nil =>
          have hq0 : (xs.drop (i + 1).toNat).reverse = [] := hsh
          have hq1 := congrArg List.length hq0
          simp only [List.length_reverse, List.length_drop, List.length_nil] at hq1
          cbv
          repeat' first
            | with_reducible exact trivial
            | ((with_reducible apply sumT (allU_reverse hw)); (focus exact Sl.nil rfl (by rw [show (i + 1).toNat = 0 by omega] at hq0; simpa using hq0)); (all_goals rw [sum_reverse]); all_goals first
                | ((with_reducible intro hlt4 s4 hs4); first | ((with_reducible exfalso); omega) | cbv)
                | ((with_reducible intro hge4); first | ((with_reducible exfalso); omega) | cbv))
            | ((with_reducible intro L' rows' hL hr'); (simp only [List.length_cons, List.length_nil, Nat.zero_add] at hL); (first
                | ((have hc : L + 1 ≤ cap2 := by omega); (have hN := Holds.inPlace (f := wv) (x := x) hold rfl hc hL hr'))
                | (have hN := Holds.anew (f := wv) (x := x) hold rfl hL hr')); cbv)
            | ((with_reducible apply ld hrows); (focus omega); (with_reducible intro x hx); (rw [show v = i.toNat by omega] at hx); (have hrv := rev_step hx); cbv)
            | ((with_reducible intro v hv); (try rw [wrap_i64] at hv); cbv)
            | ((with_reducible apply uAnd); (focus first | omega | (refine And.intro ?_ (And.intro ?_ (Or.inl rfl)) <;> omega) | (simp only [List.length_cons, List.length_nil]; omega) | kernel_rfl | (simp; done)); try cbv)
            | ((with_reducible apply and3) <;> (with_reducible intro h) <;> first | ((with_reducible exfalso); omega) | cbv)
            | ((with_reducible apply And.intro) <;> (with_reducible intro h) <;> (try simp only [List.length_cons, List.length_nil, Nat.zero_add] at h) <;> first | ((with_reducible exfalso); omega) | ((with_reducible exfalso); simp at h; done) | cbv)
            | ((with_reducible apply CallT.enter X Try.func16 (by decide)); cbv)
            | ((with_reducible intro h); first | ((with_reducible exfalso); omega) | cbv)
          all_goals
            refine And.intro (And.intro (HoldAt.mk ?_) True.intro) (Head.mk ?_ ?_ ?_ ?_ ?_ ?_)
            · dsimp only
              have e4 : (v + 1).toNat = i.toNat := by omega
              refine ⟨⟨by omega, by omega, ?_⟩, by omega⟩
              rw [e4, ← hrv]
              rw [show (i + 1).toNat = i.toNat + 1 by omega] at hq0
              rw [hq0]
              exact Holds.one (by rfl) rfl
            all_goals cbv
            first
              | exact ⟨BlkLe.flat (fun h => h) hflat, BlkLe.flat (fun h => h) hN.flat, trivial⟩
              | exact ⟨BlkLe.flat (fun h => h) hflat, BlkLe.flat (fun h => h) (by simp [AV.flatL, AV.flat]), trivial⟩
        | sl L cap2 rows2 =>
          have hold : Holds wv (xs.drop (i + 1).toNat).reverse L cap2 rows2 := hsh
          have hL0 := hold.len; have hL1 := hold.full; have hL2 := hold.le
          simp only [List.length_reverse, List.length_drop] at hL0
          cbv
          repeat' first
            | with_reducible exact trivial
            | ((with_reducible apply sumT (allU_reverse hw)); (focus exact (show Holds wv xs.reverse L cap2 rows2 by rw [show (i + 1).toNat = 0 by omega] at hold; simpa using hold).sl rfl rfl (by omega)); (all_goals rw [sum_reverse]); all_goals first
                | ((with_reducible intro hlt4 s4 hs4); first | ((with_reducible exfalso); omega) | cbv)
                | ((with_reducible intro hge4); first | ((with_reducible exfalso); omega) | cbv))
            | ((with_reducible intro L' rows' hL hr'); (simp only [List.length_cons, List.length_nil, Nat.zero_add] at hL); (first
                | ((have hc : L + 1 ≤ cap2 := by omega); (have hN := Holds.inPlace (f := wv) (x := x) hold rfl hc hL hr'))
                | (have hN := Holds.anew (f := wv) (x := x) hold rfl hL hr')); cbv)
            | ((with_reducible apply ld hrows); (focus omega); (with_reducible intro x hx); (rw [show v = i.toNat by omega] at hx); (have hrv := rev_step hx); cbv)
            | ((with_reducible intro v hv); (try rw [wrap_i64] at hv); cbv)
            | ((with_reducible apply uAnd); (focus first | omega | (refine And.intro ?_ (And.intro ?_ (Or.inl rfl)) <;> omega) | (simp only [List.length_cons, List.length_nil]; omega) | kernel_rfl | (simp; done)); try cbv)
            | ((with_reducible apply and3) <;> (with_reducible intro h) <;> first | ((with_reducible exfalso); omega) | cbv)
            | ((with_reducible apply And.intro) <;> (with_reducible intro h) <;> (try simp only [List.length_cons, List.length_nil, Nat.zero_add] at h) <;> first | ((with_reducible exfalso); omega) | ((with_reducible exfalso); simp at h; done) | cbv)
            | ((with_reducible apply CallT.enter X Try.func16 (by decide)); cbv)
            | ((with_reducible intro h); first | ((with_reducible exfalso); omega) | cbv)
          all_goals
            refine And.intro (And.intro (HoldAt.mk ?_) True.intro) (Head.mk ?_ ?_ ?_ ?_ ?_ ?_)
            · dsimp only
              have e4 : (v + 1).toNat = i.toNat := by omega
              refine ⟨⟨by omega, by omega, ?_⟩, by omega⟩
              rw [e4, ← hrv]
              rw [show (i + 1).toNat = i.toNat + 1 by omega] at hN
              exact hN
            all_goals cbv
            first
              | exact ⟨BlkLe.flat (fun h => h) hflat, BlkLe.flat (fun h => h) hN.flat, trivial⟩
              | exact ⟨BlkLe.flat (fun h => h) hflat, BlkLe.flat (fun h => h) (by simp [AV.flatL, AV.flat]), trivial⟩

set_option maxRecDepth 200000 in
set_option maxHeartbeats 8000000 in
theorem tickSumsNil : CallS Try.prog 7 [.nilslice] (memB [] []) 0 fun v _ _ => v = .bool true := by
  obtain ⟨xs, hxs⟩ : ∃ xs : List Int, xs = [] := ⟨_, rfl⟩
  have hw : AllU xs := by rw [hxs]; exact fun x h => by cases h
  have hs0 : sum xs = 0 := by rw [hxs]; rfl
  refine CallS.enter X Try.func7 (by decide) ?_
  cbv
  repeat' first
    | with_reducible exact trivial
    | ((with_reducible apply awakeT); cbv)
    | ((with_reducible apply sumT hw); (focus exact Sl.nil rfl hxs); all_goals first
        | ((with_reducible intro hlt s hs); cbv)
        | ((with_reducible intro hge); first | ((with_reducible exfalso); omega) | cbv))
    | ((with_reducible apply LoopT.one X); cbv)
    | ((with_reducible intro v hv); (try rw [wrap_i64] at hv); cbv)
    | ((with_reducible apply uAnd); (focus first | kernel_rfl | omega); try cbv)
    | ((with_reducible apply And.intro) <;> (with_reducible intro h) <;> first | ((with_reducible exfalso); omega) | cbv)
    | ((with_reducible apply CallT.enter X Try.func16 (by decide)); cbv)
def wvals (x : Int) : List Value := [.int .u64 x]
theorem w_open {row : List Value} (h : allOk [.int .u64] row) : ∃ x, row = wvals x ∧ U x := by
  rcases row with _ | ⟨a0, _ | ⟨a1, row⟩⟩
  · exact h.elim
  · obtain ⟨⟨x, rfl, hx⟩, _⟩ := h
    exact ⟨x, rfl, wf_u64 hx⟩
  · exact h.2.elim
end Go.Proofs.Ytbgapiiopocncaa.Tic
