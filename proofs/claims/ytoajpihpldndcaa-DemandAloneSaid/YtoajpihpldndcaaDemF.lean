/- The law DemandAlone returns true at any tasks. -/
import Derived.Test.YtoajpihpldndcaaDemD
namespace Go.Proofs.Ytoajpihpldndcaa.Dem
open Go.Ab
set_option linter.unusedVariables false
set_option linter.unusedSimpArgs false

theorem term_bound {P k : Int} {t : Task} (h : Ok t) (h1 : 0 ≤ k) (h2 : k ≤ 4096) : 0 ≤ term P k t ∧ term P k t ≤ 5120 := by
  obtain ⟨_, p1, p2, d1, d2, c1, c2, c3, _, _⟩ := h
  unfold term
  split
  · have e : (k + t.period - 1).tdiv t.period = (k + t.period - 1) / t.period := Int.tdiv_eq_ediv_of_nonneg (by omega)
    rw [e]
    have h5 : 0 ≤ (k + t.period - 1) / t.period := Int.ediv_nonneg (by omega) (by omega)
    have h6 : t.chigh * ((k + t.period - 1) / t.period) ≤ t.period * ((k + t.period - 1) / t.period) := Int.mul_le_mul_of_nonneg_right (by omega) h5
    have h7 : t.period * ((k + t.period - 1) / t.period) ≤ k + t.period - 1 := Int.mul_ediv_self_le (by omega)
    exact ⟨Int.mul_nonneg (by omega) h5, by omega⟩
  · omega
theorem bsum_bound {P k : Int} (h1 : 0 ≤ k) (h2 : k ≤ 4096) : ∀ ts : List Task, (∀ t ∈ ts, Ok t) → 0 ≤ bsum P k ts ∧ bsum P k ts ≤ 5120 * (ts.length : Int)
  | [], _ => by simp [bsum]
  | t :: ts, h => by
    have ih := bsum_bound (P := P) h1 h2 ts fun u hu => h u (by simp [hu])
    have := term_bound (P := P) (h t (by simp)) h1 h2
    simp only [bsum, List.length_cons]
    omega
theorem bsum_first {P k : Int} : ∀ ts : List Task, (∀ t ∈ ts, P ≤ t.prio) → bsum P k ts = 0
  | [], _ => rfl
  | t :: ts, h => by
    have ih := bsum_first (P := P) (k := k) ts fun u hu => h u (by simp [hu])
    have := h t (by simp)
    simp only [bsum, term, ih]
    rw [if_neg (by omega)]; rfl
theorem first_succ {P : Int} {ts : List Task} {j : Nat} {kd p d cl ch pr : Int} (h : ∀ t ∈ ts.take j, P ≤ t.prio) (hx : ts[j]? = some ⟨kd, p, d, cl, ch, pr⟩) (hp : P ≤ pr) : ∀ t ∈ ts.take (j + 1), P ≤ t.prio := by
  rw [take_succ_at hx]
  intro t ht
  rcases List.mem_append.1 ht with ht | ht
  · exact h t ht
  · rw [List.mem_singleton.1 ht]; exact hp

set_option maxRecDepth 200000 in
set_option maxHeartbeats 4000000 in
theorem demandAlone (ts : List Task) (rows : List (List AV)) (n cap : Nat) (hn : n = ts.length) (hflat : ∀ row ∈ rows, AV.flatL row = true) (hrows : At tv ts rows) (hw : ∀ t ∈ ts, TaskIn t) (hsz : n * 48 ≤ 140737488351232) (len : Int) :
    CallS Try.prog 6 [.sym (.slice 0 6 0 n cap false none), .sym (.int .i64 len)] (memB [some (.cells false 6 rows)] []) 1 fun v _ _ => v = .bool true := by
  refine CallS.enter X Try.func6 (by decide) ?_
  cbv
  with_reducible apply awakeT
  cbv
  with_reducible intro k hk
  have hkb := and_bound (by decide) (by decide) hk
  clear hk
  cbv
  with_reducible
   refine LoopT.invR X (α := Int) 72 [] (fun s => oI (s.at 6)) (fun s => [])
    (fun a => [some (.sym (.slice 0 6 0 n cap false none)), none, none, none, none, some (.sym (.int .i64 k)), some (.sym (.int .i64 a))])
    (fun a => [some (.cells false 6 rows)])
    (fun a => 0 ≤ a ∧ a.toNat ≤ n) (fun a => n - a.toNat) ?_ ?_
  · cbv
    refine And.intro (HoldAt.mk ?_) (Head.mk ?_ ?_ ?_ ?_ ?_ ?_)
    · exact ⟨by decide, by simp⟩
    all_goals cbv
    refine ⟨BlkLe.flat (fun h => h) hflat, trivial⟩
  · rintro i ⟨i1, i2⟩
    cbv
    with_reducible intro v hv
    cbv
    with_reducible apply And.intro
    rotate_left
    · with_reducible intro h
      cbv
    with_reducible intro hiv
    have hin : i.toNat < ts.length := by omega
    obtain ⟨⟨kd0, p0, d0, cl0, c0, q0⟩, ht0⟩ : ∃ t, ts[i.toNat]? = some t := ⟨_, List.getElem?_eq_getElem hin⟩
    have hri : rows[i.toNat]? = some [.sym (.int .i64 kd0), .sym (.int .i64 p0), .sym (.int .i64 d0), .sym (.int .i64 cl0), .sym (.int .i64 c0), .sym (.int .i64 q0)] := hrows _ _ ht0
    cbv
    with_reducible
     refine LoopT.invR X (α := Int × Bool) 72 [] (fun s => (oI (s.at 8), oB (s.at 7))) (fun s => [])
      (fun a => [some (.sym (.slice 0 6 0 n cap false none)), none, none, none, none, some (.sym (.int .i64 k)), some (.sym (.int .i64 i)), some (.bool a.2), some (.sym (.int .i64 a.1))])
      (fun a => [some (.cells false 6 rows)])
      (fun a => 0 ≤ a.1 ∧ a.1.toNat ≤ n ∧ (a.2 = true → ∀ t ∈ ts.take a.1.toNat, q0 ≤ t.prio)) (fun a => n - a.1.toNat) ?_ ?_
    · cbv
      refine And.intro (HoldAt.mk ?_) (Head.mk ?_ ?_ ?_ ?_ ?_ ?_)
      · exact ⟨by decide, by simp, by simp⟩
      all_goals cbv
      refine ⟨BlkLe.flat (fun h => h) hflat, trivial⟩
    · rintro ⟨j, first⟩ ⟨j1, j2, j3⟩
      dsimp only at j1 j2 j3
      cases first
      all_goals
        cbv
        repeat' first
          | with_reducible exact trivial
          | ((with_reducible intro v hv); (try rw [wrap_i64] at hv); cbv)
          | ((with_reducible apply uAnd); (focus first | omega | (cbv; done) | kernel_rfl); try cbv)
          | ((with_reducible apply And.intro) <;> (with_reducible intro h) <;> first | ((with_reducible exfalso); omega) | cbv)
          | ((with_reducible apply CallT.enter X Try.func11 (by decide)); cbv)
          | ((with_reducible apply ldAt hri); (focus omega); cbv)
          | ((with_reducible apply ldAt hrj); (focus omega); cbv)
          | ((with_reducible apply ld hrows); (focus omega); rintro ⟨kd, p, d, cl, ch, pr⟩ hx; rw [show v = j.toNat by omega] at hx; have hrj : rows[j.toNat]? = some [.sym (.int .i64 kd), .sym (.int .i64 p), .sym (.int .i64 d), .sym (.int .i64 cl), .sym (.int .i64 ch), .sym (.int .i64 pr)] := hrows _ _ hx; cbv)
      · refine And.intro (And.intro (HoldAt.mk ?_) True.intro) (Head.mk ?_ ?_ ?_ ?_ ?_ ?_)
        · exact ⟨⟨by omega, by omega, fun h => by cases h⟩, by dsimp only; omega⟩
        all_goals cbv
        refine ⟨BlkLe.flat (fun h => h) hflat, trivial⟩
      · with_reducible apply boundT hn hsz hflat hrows i k
        focus rfl
        focus rfl
        · rintro ⟨hall, -, -, -, -⟩ t ht r hr
          rw [ht0] at ht
          cases ht
          dsimp only at hr
          have hb := bsum_bound (P := q0) (k := k) (by omega) (by omega) ts hall.1
          have hok0 := ok_vars hall ht0
          rw [wrap_i64] at hr
          have hr2 : r = c0 + bsum q0 k ts := by omega
          clear hr
          cbv
          repeat' first
            | with_reducible exact trivial
            | ((with_reducible intro v hv); (try rw [wrap_i64] at hv); cbv)
            | ((with_reducible apply uAnd); (focus first | omega | (cbv; done) | kernel_rfl); try cbv)
            | ((with_reducible apply And.intro) <;> (with_reducible intro h) <;> first | ((with_reducible exfalso); omega) | cbv)
            | ((with_reducible apply CallT.enter X Try.func11 (by decide)); cbv)
            | ((with_reducible apply ldAt hri); (focus omega); cbv)
          refine And.intro (And.intro (HoldAt.mk ?_) True.intro) (Head.mk ?_ ?_ ?_ ?_ ?_ ?_)
          · exact ⟨⟨by omega, by omega⟩, by omega⟩
          all_goals cbv
          refine ⟨BlkLe.flat (fun h => h) hflat, trivial⟩
        · intro hno
          cbv
          repeat' first
            | with_reducible exact trivial
            | ((with_reducible intro v hv); (try rw [wrap_i64] at hv); cbv)
            | ((with_reducible apply uAnd); (focus first | omega | (cbv; done) | kernel_rfl); try cbv)
            | ((with_reducible apply And.intro) <;> (with_reducible intro h) <;> first | ((with_reducible exfalso); omega) | cbv)
            | ((with_reducible apply CallT.enter X Try.func11 (by decide)); cbv)
            | ((with_reducible apply ldAt hri); (focus omega); cbv)
      · refine And.intro (And.intro (HoldAt.mk ?_) True.intro) (Head.mk ?_ ?_ ?_ ?_ ?_ ?_)
        · refine ⟨⟨by omega, by omega, fun _ => ?_⟩, by dsimp only; omega⟩
          rw [show (v, true).1.toNat = j.toNat + 1 by dsimp only; omega]
          exact first_succ (j3 rfl) hx (by omega)
        all_goals cbv
        refine ⟨BlkLe.flat (fun h => h) hflat, trivial⟩
      · refine And.intro (And.intro (HoldAt.mk ?_) True.intro) (Head.mk ?_ ?_ ?_ ?_ ?_ ?_)
        · exact ⟨⟨by omega, by omega, fun h => by cases h⟩, by dsimp only; omega⟩
        all_goals cbv
        refine ⟨BlkLe.flat (fun h => h) hflat, trivial⟩
      · with_reducible apply boundT hn hsz hflat hrows i k
        focus rfl
        focus rfl
        · rintro ⟨hall, -, -, -, -⟩ t ht r hr
          rw [ht0] at ht
          cases ht
          dsimp only at hr
          have hb := bsum_bound (P := q0) (k := k) (by omega) (by omega) ts hall.1
          have hok0 := ok_vars hall ht0
          rw [wrap_i64] at hr
          have hr2 : r = c0 + bsum q0 k ts := by omega
          clear hr
          have hfst : bsum q0 k ts = 0 := bsum_first ts (by
            have h9 := j3 rfl
            rwa [List.take_of_length_le (by omega)] at h9)
          cbv
          repeat' first
            | with_reducible exact trivial
            | ((with_reducible intro v hv); (try rw [wrap_i64] at hv); cbv)
            | ((with_reducible apply uAnd); (focus first | omega | (cbv; done) | kernel_rfl); try cbv)
            | ((with_reducible apply And.intro) <;> (with_reducible intro h) <;> first | ((with_reducible exfalso); omega) | cbv)
            | ((with_reducible apply CallT.enter X Try.func11 (by decide)); cbv)
            | ((with_reducible apply ldAt hri); (focus omega); cbv)
          refine And.intro (And.intro (HoldAt.mk ?_) True.intro) (Head.mk ?_ ?_ ?_ ?_ ?_ ?_)
          · exact ⟨⟨by omega, by omega⟩, by omega⟩
          all_goals cbv
          refine ⟨BlkLe.flat (fun h => h) hflat, trivial⟩
        · intro hno
          cbv
          repeat' first
            | with_reducible exact trivial
            | ((with_reducible intro v hv); (try rw [wrap_i64] at hv); cbv)
            | ((with_reducible apply uAnd); (focus first | omega | (cbv; done) | kernel_rfl); try cbv)
            | ((with_reducible apply And.intro) <;> (with_reducible intro h) <;> first | ((with_reducible exfalso); omega) | cbv)
            | ((with_reducible apply CallT.enter X Try.func11 (by decide)); cbv)
            | ((with_reducible apply ldAt hri); (focus omega); cbv)

set_option maxHeartbeats 4000000 in
theorem demandAloneNil (len : Int) : CallS Try.prog 6 [.nilslice, .sym (.int .i64 len)] (memB [] []) 0 fun v _ _ => v = .bool true := by
  refine CallS.enter X Try.func6 (by decide) ?_
  cbv
  with_reducible apply awakeT
  cbv
  repeat' first
    | with_reducible exact trivial
    | ((with_reducible intro v hv); cbv)
    | ((with_reducible apply LoopT.once X); cbv)
end Go.Proofs.Ytoajpihpldndcaa.Dem
