/- The law Ticks. -/
import Derived.Test.YtbgapiiopocncaaTicG
namespace Go.Proofs.Ytbgapiiopocncaa.Tic
open Go.Ab
set_option linter.unusedVariables false
set_option linter.unusedSimpArgs false

def Two (R : AV → Prop) (V E : Int) : Prop := ∀ v, R v → v = .tuple [.sym (.int .u64 V), .sym (.int .i64 E)]
theorem two_sum (s : Int) : ∃ V E, Two (SumR s) V E := by
  by_cases h : s < 18446744073709551616
  · refine ⟨s, 0, ?_⟩
    rintro v (⟨_, rfl⟩ | ⟨h2, rfl⟩)
    · rfl
    · omega
  · refine ⟨0, 100, ?_⟩
    rintro v (⟨h2, rfl⟩ | ⟨_, rfl⟩)
    · omega
    · rfl
theorem two_mul (x y : Int) : ∃ V E, Two (MulR x y) V E := two_sum (x * y)
theorem two_lcm (x y : Int) : ∃ V E, Two (LcmR x y) V E := by
  by_cases h : x = 0 ∨ y = 0
  · refine ⟨0, 0, ?_⟩
    rintro v (⟨_, rfl⟩ | ⟨h1, h2, _⟩)
    · rfl
    · omega
  · obtain ⟨V, E, hV⟩ := two_mul (x / gcdI x y) y
    refine ⟨V, E, ?_⟩
    rintro v (⟨h1, _⟩ | ⟨_, _, h3⟩)
    · exact (h h1).elim
    · exact hV v h3
theorem oneT {f : FuncId} {x y V E : Int} {R : AV → Prop} {A B : AV} {m : Mem} {c : Nat} {K : AV → Mem → Nat → Prop} (hR : Two R V E) (h : ∀ (m : Mem) (c : Nat), CallS Try.prog f [.sym (.int .u64 x), .sym (.int .u64 y)] m c fun v m' c' => R v ∧ m' = m ∧ c' = c)
    (hA : norm A = .int .u64 x) (hB : norm B = .int .u64 y) (k : ∀ r e, r = V → e = E → K (.tuple [.sym (.int .u64 r), .sym (.int .i64 e)]) m c) : CallT (fun _ => Try.prog) f [A, B] m c K := by
  refine ⟨CallS.normA (vs' := [.sym (.int .u64 x), .sym (.int .u64 y)]) (by simp only [normL, norm, hA, hB]) ((h m c).mono ?_)⟩
  rintro v m' c' ⟨hv, rfl, rfl⟩
  rw [hR v hv]
  exact k V E rfl rfl
theorem sumOneT {f : FuncId} {xs : List Int} {V E : Int} {S : AV} {m : Mem} {c : Nat} {K : AV → Mem → Nat → Prop} (hR : Two (SumR (sum xs)) V E)
    (h : ∀ {K : AV → Mem → Nat → Prop}, (sum xs < 18446744073709551616 → ∀ s, s = sum xs → K (.tuple [.sym (.int .u64 s), .int .i64 0]) m c) → (18446744073709551616 ≤ sum xs → K (.tuple [.int .u64 0, .int .i64 100]) m c) → CallT (fun _ => Try.prog) f [S] m c K)
    (k : ∀ r e, r = V → e = E → K (.tuple [.sym (.int .u64 r), .sym (.int .i64 e)]) m c) : CallT (fun _ => Try.prog) f [S] m c K := by
  have h1 : CallS Try.prog f [S] m c fun v m' c' => Go.Ab.full v = .tuple [.sym (.int .u64 V), .sym (.int .i64 E)] ∧ m' = m ∧ c' = c := by
    refine (h (K := fun v m' c' => Go.Ab.full v = .tuple [.sym (.int .u64 V), .sym (.int .i64 E)] ∧ m' = m ∧ c' = c) (fun hl s hs => ⟨?_, rfl, rfl⟩) fun hg => ⟨?_, rfl, rfl⟩).ok
    · subst hs; exact hR _ (.inl ⟨hl, rfl⟩)
    · exact hR _ (.inr ⟨hg, rfl⟩)
  refine ⟨CallS.asFull (h1.mono ?_)⟩
  rintro v m' c' ⟨hv, rfl, rfl⟩
  exact ⟨.tuple [.sym (.int .u64 V), .sym (.int .i64 E)], by rw [hv]; rfl, k V E rfl rfl⟩

set_option maxRecDepth 200000 in
set_option maxHeartbeats 8000000 in
theorem ticks (xs : List Int) (rows : List (List AV)) (n cap : Nat) (hn : n = xs.length) (hflat : ∀ row ∈ rows, AV.flatL row = true) (hrows : At wv xs rows) (hw : AllU xs) (hsz : n * 8 ≤ 140737488351232) (hre : rows = xs.map wv) (a b : Int) (ha : U a) (hb : U b) :
    CallS Try.prog 3 [.sym (.int .u64 a), .sym (.int .u64 b), .sym (.slice 0 1 0 n cap false none)] (memB [some (.cells false 1 rows)] []) 1 fun v _ _ => v = .bool true := by
  have hrl : rows.length = n := by rw [hre, List.length_map, hn]
  obtain ⟨V1, E1, t1⟩ := two_sum (a + b)
  obtain ⟨V2, E2, t2⟩ := two_mul a b
  obtain ⟨V3, E3, t3⟩ := two_lcm a b
  obtain ⟨V4, E4, t4⟩ := two_sum (sum xs)
  refine CallS.enter X Try.func3 (by decide) ?_
  cbv
  repeat' first
    | with_reducible exact trivial
    | ((with_reducible apply oneT t1 (addC a b ha hb)); (focus rfl); (focus rfl); (with_reducible intro p1 e1 hp1 he1); cbv)
    | ((with_reducible apply oneT t1 (refAddC a b ha hb)); (focus rfl); (focus rfl); (with_reducible intro p2 e2 hp2 he2); cbv)
    | ((with_reducible apply oneT t2 (mulC a b ha hb)); (focus rfl); (focus rfl); (with_reducible intro p3 e3 hp3 he3); cbv)
    | ((with_reducible apply oneT t2 (refMulC a b ha hb)); (focus rfl); (focus rfl); (with_reducible intro p4 e4 hp4 he4); cbv)
    | ((with_reducible apply oneT t3 (lcmC a b ha hb)); (focus rfl); (focus rfl); (with_reducible intro p5 e5 hp5 he5); cbv)
    | ((with_reducible apply oneT t3 (refLcmC a b ha hb)); (focus rfl); (focus rfl); (with_reducible intro p6 e6 hp6 he6); cbv)
    | ((with_reducible apply gcdRT (gcdC a b ha hb)); (focus rfl); (focus rfl); (with_reducible intro g1 hg1); cbv)
    | ((with_reducible apply gcdRT (refGcdC a b ha hb)); (focus rfl); (focus rfl); (with_reducible intro g2 hg2); cbv)
    | ((with_reducible apply sumOneT (f := 15) t4); (focus exact refSumT hw (Sl.rows0 rfl rfl hn (by omega) hrows)); (with_reducible intro p8 e8 hp8 he8); cbv)
    | ((with_reducible apply sumOneT (f := 14) t4); (focus exact sumT hw (Sl.rows0 rfl rfl (by omega) (by omega) hat2)); (with_reducible intro p7 e7 hp7 he7); cbv)
    | ((with_reducible intro src hsrc); (have hsv : src = rows := by (rw [hsrc, List.drop_zero, List.take_of_length_le (by omega)])); (have hsl : src.length = n := by rw [hsv, hrl]); cbv)
    | ((with_reducible intro L1 r1 hL1 hr1); (have hr1l := congrArg List.length hr1); (simp only [List.length_append, List.length_take, List.length_drop, List.length_cons, List.length_nil] at hr1l hL1); (first
        | have hq : r1 = rows ++ [[.int .u64 77]] := (by rw [hr1, List.eq_nil_of_length_eq_zero (show rows.length = 0 by omega)]; rfl)
        | have hq : r1 = rows ++ [[.int .u64 77]] := (by rw [hr1, hr0, List.drop_zero, List.take_of_length_le (by omega), hsv])
        | have hr0 : r1 = src := (by rw [hr1]; simp)); (try (have hat2 : At wv xs r1 := (by rw [hq]; exact hrows.app _))); (try (have h77 : r1[n]? = some [.int .u64 77] := (by rw [hq, List.getElem?_append_right (by omega), hrl, Nat.sub_self]; rfl))); cbv)
    | ((with_reducible apply ldAt h77); (focus omega); cbv)
    | ((with_reducible intro v hv); (try rw [wrap_i64] at hv); cbv)
    | ((with_reducible apply uAnd); (focus first | omega | kernel_rfl | exact ⟨rfl, Nat.le_refl _, Or.inl rfl⟩ | (refine And.intro ?_ (And.intro ?_ (Or.inl rfl)) <;> omega) | (refine And.intro ?_ ?_ <;> omega) | (simp only [List.length_cons, List.length_nil]; omega)); try cbv)
    | ((with_reducible apply and3) <;> (with_reducible intro h) <;> first | ((with_reducible exfalso); omega) | cbv)
    | ((with_reducible apply And.intro) <;> (with_reducible intro h) <;> (try simp only [List.length_cons, List.length_nil, Nat.zero_add] at h) <;> (try (have hz := congrArg List.length h; rw [List.length_nil] at hz)) <;> (try (have hz2 := List.length_pos_iff.2 h)) <;> first | ((with_reducible exfalso); omega) | ((with_reducible exfalso); simp at h; done) | cbv)
    | ((with_reducible apply CallT.enter X Try.func16 (by decide)); cbv)
    | ((with_reducible intro h); first | ((with_reducible exfalso); omega) | cbv)
  all_goals
    have hfl1 : ∀ row ∈ r1, AV.flatL row = true := fun row hr => by
      rw [hq] at hr
      rcases List.mem_append.1 hr with hr | hr
      · exact hflat row hr
      · rw [List.mem_singleton.1 hr]; rfl
    with_reducible
     refine LoopT.invR X (α := Int) 154 [] (fun s => oI (s.at 24)) (fun s => [oP (s.at 7)])
      (fun a => [none, none, some (.sym (.slice 0 1 0 n cap false none)), none, none, none, none, some (.sym (.slice 1 1 0 L1 L1 true none)), none, none, none, none, none, none, none, none, none, none, none, none, none, none, none, none, some (.sym (.int .i64 a))])
      (fun a => [some (.cells false 1 rows), some (.cells true 1 r1)])
      (fun a => 0 ≤ a ∧ a.toNat ≤ n) (fun a => n - a.toNat) ?_ ?_
    · cbv
      refine And.intro (HoldAt.mk ?_) (Head.mk ?_ ?_ ?_ ?_ ?_ ?_)
      · exact ⟨by decide, by simp⟩
      all_goals cbv
      exact ⟨BlkLe.flat (fun h => h) hflat, BlkLe.flat (fun h => h) hfl1, trivial⟩
    · rintro j ⟨j1, j2⟩
      cbv
      repeat' first
        | with_reducible exact trivial
        | ((with_reducible apply awakeT); cbv)
        | ((with_reducible apply ld hat2); (focus omega); (with_reducible intro x hx); (rw [show v = j.toNat by omega] at hx); cbv)
        | ((with_reducible apply ld hrows); (focus omega); (with_reducible intro y hy); (rw [show v = j.toNat by omega] at hy); (have hxy : x = y := Option.some.inj (hx.symm.trans hy)); cbv)
        | ((with_reducible intro v hv); (try rw [wrap_i64] at hv); cbv)
        | ((with_reducible apply uAnd); (focus first | omega | kernel_rfl); try cbv)
        | ((with_reducible apply And.intro) <;> (with_reducible intro h) <;> first | ((with_reducible exfalso); omega) | cbv)
      all_goals
        refine And.intro (And.intro (HoldAt.mk ?_) True.intro) (Head.mk ?_ ?_ ?_ ?_ ?_ ?_)
        · exact ⟨⟨by omega, by omega⟩, by omega⟩
        all_goals cbv
        exact ⟨BlkLe.flat (fun h => h) hflat, BlkLe.flat (fun h => h) hfl1, trivial⟩

set_option maxRecDepth 200000 in
set_option maxHeartbeats 8000000 in
theorem ticksNil (a b : Int) (ha : U a) (hb : U b) : CallS Try.prog 3 [.sym (.int .u64 a), .sym (.int .u64 b), .nilslice] (memB [] []) 0 fun v _ _ => v = .bool true := by
  obtain ⟨xs, hxs⟩ : ∃ xs : List Int, xs = [] := ⟨_, rfl⟩
  have hw : AllU xs := by rw [hxs]; exact fun x h => by cases h
  obtain ⟨V1, E1, t1⟩ := two_sum (a + b)
  obtain ⟨V2, E2, t2⟩ := two_mul a b
  obtain ⟨V3, E3, t3⟩ := two_lcm a b
  obtain ⟨V4, E4, t4⟩ := two_sum (sum xs)
  refine CallS.enter X Try.func3 (by decide) ?_
  cbv
  repeat' first
    | with_reducible exact trivial
    | ((with_reducible apply oneT t1 (addC a b ha hb)); (focus rfl); (focus rfl); (with_reducible intro p1 e1 hp1 he1); cbv)
    | ((with_reducible apply oneT t1 (refAddC a b ha hb)); (focus rfl); (focus rfl); (with_reducible intro p2 e2 hp2 he2); cbv)
    | ((with_reducible apply oneT t2 (mulC a b ha hb)); (focus rfl); (focus rfl); (with_reducible intro p3 e3 hp3 he3); cbv)
    | ((with_reducible apply oneT t2 (refMulC a b ha hb)); (focus rfl); (focus rfl); (with_reducible intro p4 e4 hp4 he4); cbv)
    | ((with_reducible apply oneT t3 (lcmC a b ha hb)); (focus rfl); (focus rfl); (with_reducible intro p5 e5 hp5 he5); cbv)
    | ((with_reducible apply oneT t3 (refLcmC a b ha hb)); (focus rfl); (focus rfl); (with_reducible intro p6 e6 hp6 he6); cbv)
    | ((with_reducible apply gcdRT (gcdC a b ha hb)); (focus rfl); (focus rfl); (with_reducible intro g1 hg1); cbv)
    | ((with_reducible apply gcdRT (refGcdC a b ha hb)); (focus rfl); (focus rfl); (with_reducible intro g2 hg2); cbv)
    | ((with_reducible apply sumOneT (f := 15) t4); (focus exact refSumT hw (Sl.nil rfl hxs)); (with_reducible intro p8 e8 hp8 he8); cbv)
    | ((with_reducible apply sumOneT (f := 14) t4); (focus exact sumT hw (by rw [hxs]; exact Sl.text rfl rfl rfl rfl trivial)); (with_reducible intro p7 e7 hp7 he7); cbv)
    | ((with_reducible apply sumOneT (f := 14) t4); (focus exact sumT hw (by rw [hxs]; exact Sl.rows0 rfl rfl rfl (by omega) (fun j x hx => by simp at hx))); (with_reducible intro p7 e7 hp7 he7); cbv)
    | ((with_reducible intro L1 r1 hL1 hr1); cbv)
    | ((with_reducible intro v hv); (try rw [wrap_i64] at hv); cbv)
    | ((with_reducible apply uAnd); (focus first | omega | kernel_rfl | exact ⟨rfl, Nat.le_refl _, Or.inl rfl⟩ | (refine And.intro ?_ ?_ <;> omega) | (simp only [List.length_cons, List.length_nil]; omega)); try cbv)
    | ((with_reducible apply and3) <;> (with_reducible intro h) <;> first | ((with_reducible exfalso); omega) | cbv)
    | ((with_reducible apply And.intro) <;> (with_reducible intro h) <;> first | ((with_reducible exfalso); omega) | cbv)
    | ((with_reducible apply CallT.enter X Try.func16 (by decide)); cbv)
    | ((with_reducible apply LoopT.one X); cbv)
    | ((with_reducible apply awakeT); cbv)
end Go.Proofs.Ytbgapiiopocncaa.Tic
