/- The law DemandGrows returns true at any tasks. -/
import Derived.Test.YtoajpihpldndcaaDemC
import Derived.Test.YtoajpihpldndcaaDemT
namespace Go.Proofs.Ytoajpihpldndcaa.Dem
open Go.Ab
set_option linter.unusedVariables false
set_option linter.unusedSimpArgs false

/-- demand.Bound at any memory in which the tasks lie. -/
theorem boundT {ts : List Task} {rows : List (List AV)} {n cap : Nat} {opn : Bool} (hn : n = ts.length) (hsz : n * 48 ≤ 140737488351232) (hflat : ∀ row ∈ rows, AV.flatL row = true) (hrows : At tv ts rows) (i k : Int)
    {vs : List AV} {m : Mem} {c l : Nat} {rw : Bool} {K : AV → Mem → Nat → Prop}
    (hv : leL (oneAt l) vs [.sym (.slice 0 6 0 n cap opn none), .sym (.int .i64 i), .sym (.int .i64 k)]) (hk : m.get l = some (.cells rw 6 rows))
    (h1 : OkAll ts ∧ 0 ≤ i ∧ i.toNat < n ∧ 0 ≤ k ∧ k ≤ 4096 → ∀ t, ts[i.toNat]? = some t → ∀ r : Int, r = IntKind.wrap .i64 (t.chigh + bsum t.prio k ts) → K (.tuple [.sym (.int .i64 r), .int .i64 0]) m c)
    (h2 : ¬ (OkAll ts ∧ 0 ≤ i ∧ i.toNat < n ∧ 0 ≤ k ∧ k ≤ 4096) → K (.tuple [.int .i64 0, .int .i64 800]) m c) : CallT (fun _ => Try.prog) 9 vs m c K := by
  refine CallT.readV (R0 := fun v => ∃ r e, SpecD ts i k r e ∧ v = .tuple [.sym (.int .i64 r), .sym (.int .i64 e)]) (boundC ts rows n cap opn hn hsz hflat hrows i k) hv hk hflat ?_
  rintro v ⟨r, e, ⟨ha, hi, hk1, hk2, rfl, t, ht, hr⟩ | ⟨hno, rfl, rfl⟩, rfl⟩
  · exact ⟨_, rfl, h1 ⟨ha, hi, by rw [hn]; exact (List.getElem?_eq_some_iff.1 ht).1, hk1, hk2⟩ t ht r hr⟩
  · exact ⟨_, rfl, h2 (by rw [hn]; exact hno)⟩

/-- One more tick: a job more of those whose period begins. -/
theorem div_next {k p : Int} (h : 0 ≤ k) (hp : 1 ≤ p) : (k + 1 + p - 1).tdiv p = (k + p - 1).tdiv p + if k.tmod p = 0 then 1 else 0 := by
  rw [Int.tdiv_eq_ediv_of_nonneg (by omega), Int.tdiv_eq_ediv_of_nonneg (by omega), Int.tmod_eq_emod_of_nonneg h]
  have e1 := Int.mul_ediv_add_emod k p
  have e2 := Int.emod_nonneg k (show p ≠ 0 by omega)
  have e3 := Int.emod_lt_of_pos k (show 0 < p by omega)
  have f1 : (k + 1 + p - 1) / p = k / p + 1 := by
    rw [show k + 1 + p - 1 = k + p * 1 by omega, Int.add_mul_ediv_left _ _ (by omega)]
  rw [f1]
  by_cases h0 : k % p = 0
  · rw [if_pos h0]
    have : (k + p - 1) / p = k / p := by
      rw [show k + p - 1 = (p - 1) + p * (k / p) by omega, Int.add_mul_ediv_left _ _ (by omega), Int.ediv_eq_zero_of_lt (by omega) (by omega)]
      omega
    omega
  · rw [if_neg h0]
    have : (k + p - 1) / p = k / p + 1 := by
      rw [show k + p - 1 = (k % p - 1) + p * (k / p + 1) by rw [Int.mul_add]; omega, Int.add_mul_ediv_left _ _ (by omega), Int.ediv_eq_zero_of_lt (by omega) (by omega)]
      omega
    omega
def msum (p k : Int) : List Task → Int
  | [] => 0
  | t :: ts => (if t.prio < p ∧ k.tmod t.period = 0 then t.chigh else 0) + msum p k ts
theorem msum_append (p k : Int) : ∀ xs ys : List Task, msum p k (xs ++ ys) = msum p k xs + msum p k ys
  | [], ys => by simp [msum]
  | t :: xs, ys => by simp only [List.cons_append, msum, msum_append p k xs ys]; omega
theorem ms_vars {P k : Int} {ts : List Task} {j : Nat} {kd p d cl ch pr : Int} (ht : ts[j]? = some ⟨kd, p, d, cl, ch, pr⟩) :
    ((pr < P ∧ k.tmod p = 0) ∧ msum P k (ts.take (j + 1)) = msum P k (ts.take j) + ch) ∨ (¬ (pr < P ∧ k.tmod p = 0) ∧ msum P k (ts.take (j + 1)) = msum P k (ts.take j)) := by
  have h : msum P k (ts.take (j + 1)) = msum P k (ts.take j) + msum P k [⟨kd, p, d, cl, ch, pr⟩] := by rw [take_succ_at ht, msum_append]
  by_cases e : pr < P ∧ k.tmod p = 0
  · exact .inl ⟨e, by rw [h]; simp [msum, e]⟩
  · exact .inr ⟨e, by rw [h]; simp [msum, e]⟩
theorem bsum_next {P k : Int} (hk : 0 ≤ k) : ∀ ts : List Task, (∀ t ∈ ts, Ok t) → bsum P (k + 1) ts = bsum P k ts + msum P k ts
  | [], _ => rfl
  | t :: ts, h => by
    have ih := bsum_next (P := P) hk ts fun u hu => h u (by simp [hu])
    obtain ⟨_, hp, _⟩ := h t (by simp)
    have hd := div_next hk hp
    simp only [bsum, msum, term, ih]
    by_cases e1 : t.prio < P
    · rw [if_pos e1, if_pos e1, hd, Int.mul_add]
      by_cases e2 : k.tmod t.period = 0
      · rw [if_pos e2, if_pos ⟨e1, e2⟩]; omega
      · rw [if_neg e2, if_neg (fun h => e2 h.2)]; omega
    · rw [if_neg e1, if_neg e1, if_neg (fun h => e1 h.1)]; omega
theorem bsum_zero {P : Int} : ∀ ts : List Task, (∀ t ∈ ts, Ok t) → bsum P 0 ts = 0
  | [], _ => rfl
  | t :: ts, h => by
    have ih := bsum_zero (P := P) ts fun u hu => h u (by simp [hu])
    obtain ⟨_, hp, _⟩ := h t (by simp)
    have : (0 + t.period - 1).tdiv t.period = 0 := by
      rw [Int.tdiv_eq_ediv_of_nonneg (by omega)]
      exact Int.ediv_eq_zero_of_lt (by omega) (by omega)
    simp only [bsum, term, ih, this, Int.mul_zero, ite_self, Int.add_zero]

set_option maxRecDepth 200000 in
set_option maxHeartbeats 4000000 in
theorem demandGrows (ts : List Task) (rows : List (List AV)) (n cap : Nat) (hn : n = ts.length) (hflat : ∀ row ∈ rows, AV.flatL row = true) (hrows : At tv ts rows) (hw : ∀ t ∈ ts, TaskIn t) (hsz : n * 48 ≤ 140737488351232) (i len : Int) :
    CallS Try.prog 4 [.sym (.slice 0 6 0 n cap false none), .sym (.int .i64 i), .sym (.int .i64 len)] (memB [some (.cells false 6 rows)] []) 1 fun v _ _ => v = .bool true := by
  refine CallS.enter X Try.func4 (by decide) ?_
  cbv
  with_reducible apply awakeT
  cbv
  with_reducible intro k hk
  have hkb := and_bound (by decide) (by decide) hk
  clear hk
  cbv
  with_reducible apply boundT hn hsz hflat hrows i k
  focus rfl
  focus rfl
  · rintro hok ⟨kd0, p0, d0, cl0, c0, q0⟩ ht0 r hr
    dsimp only at hr
    obtain ⟨hall, hi, hin, _, _⟩ := hok
    have hok0 := ok_vars hall ht0
    have hri : rows[i.toNat]? = some [.sym (.int .i64 kd0), .sym (.int .i64 p0), .sym (.int .i64 d0), .sym (.int .i64 cl0), .sym (.int .i64 c0), .sym (.int .i64 q0)] := hrows _ _ ht0
    cbv
    with_reducible intro k1 hk1
    rw [wrap_i64] at hk1
    have hk1 : k1 = k + 1 := by omega
    cbv
    with_reducible apply boundT hn hsz hflat hrows i k1
    focus rfl
    focus rfl
    rotate_left
    · intro hno
      exact absurd ⟨hall, hi, hin, by omega, by omega⟩ hno
    intro _ t1 ht1 r1 hr1
    rw [ht0] at ht1
    cases ht1
    dsimp only at hr1
    rw [hk1, bsum_next hkb.1 ts hall.1] at hr1
    cbv
    with_reducible apply boundT hn hsz hflat hrows i 0
    focus rfl
    focus rfl
    rotate_left
    · intro hno
      exact absurd ⟨hall, hi, hin, by omega, by omega⟩ hno
    intro _ t2 ht2 r2 hr2
    rw [ht0] at ht2
    cases ht2
    dsimp only at hr2
    rw [bsum_zero ts hall.1] at hr2
    cbv
    repeat' first
      | with_reducible exact trivial
      | ((with_reducible intro v hv); cbv)
      | ((with_reducible apply uAnd); (focus first | omega | (cbv; done) | kernel_rfl); try cbv)
      | ((with_reducible apply And.intro) <;> (with_reducible intro h) <;> first | ((with_reducible exfalso); omega) | cbv)
      | ((with_reducible apply CallT.enter X Try.func11 (by decide)); cbv)
    with_reducible
     refine LoopT.invR X (α := Int × Int) 117 [] (fun s => (oI (s.at 15), oI (s.at 14))) (fun s => [])
      (fun a => [some (.sym (.slice 0 6 0 n cap false none)), some (.sym (.int .i64 i)), none, none, none, none, none, some (.sym (.int .i64 k)), some (.sym (.int .i64 r)), some (.int .i64 0), some (.sym (.int .i64 r1)), some (.int .i64 0), some (.sym (.int .i64 r2)), some (.int .i64 0), some (.sym (.int .i64 a.2)), some (.sym (.int .i64 a.1))])
      (fun a => [some (.cells false 6 rows)])
      (fun a => 0 ≤ a.1 ∧ a.1.toNat ≤ n ∧ a.2 = IntKind.wrap .i64 (msum q0 k (ts.take a.1.toNat))) (fun a => n - a.1.toNat) ?_ ?_
    · cbv
      refine And.intro (HoldAt.mk ?_) (Head.mk ?_ ?_ ?_ ?_ ?_ ?_)
      · refine ⟨by simp, by simp, ?_⟩
        simp only [Int.toNat_zero, List.take_zero, msum]
        rfl
      all_goals cbv
      refine ⟨BlkLe.flat (fun h => h) hflat, trivial⟩
    · rintro ⟨j, acc⟩ ⟨j1, j2, j3⟩
      dsimp only at j1 j2 j3
      cbv
      repeat' first
        | with_reducible exact trivial
        | ((with_reducible intro v hv); cbv)
        | ((with_reducible apply uAnd); (focus first | omega | (cbv; done) | kernel_rfl); try cbv)
        | ((with_reducible apply And.intro) <;> (with_reducible intro h) <;> first | ((with_reducible exfalso); omega) | cbv)
        | ((with_reducible apply CallT.enter X Try.func11 (by decide)); cbv)
        | ((with_reducible apply ldAt hri); (focus omega); cbv)
        | ((with_reducible apply ldAt hrj); (focus omega); cbv)
        | ((with_reducible apply ld hrows); (focus omega); rintro ⟨kd, p, d, cl, ch, pr⟩ hx; rw [show v = j.toNat by omega] at hx; have hrj : rows[j.toNat]? = some [.sym (.int .i64 kd), .sym (.int .i64 p), .sym (.int .i64 d), .sym (.int .i64 cl), .sym (.int .i64 ch), .sym (.int .i64 pr)] := hrows _ _ hx; have hms := ms_vars (P := q0) (k := k) hx; have hok := ok_vars hall hx; cbv)
      all_goals first
        | (refine And.intro (And.intro (HoldAt.mk ?_) True.intro) (Head.mk ?_ ?_ ?_ ?_ ?_ ?_)
           · dsimp only
             simp only [wrap_i64] at *
             have e6 : v.toNat = j.toNat + 1 := by omega
             refine ⟨⟨by omega, by omega, ?_⟩, by omega⟩
             rw [e6]
             omega
           all_goals cbv
           refine ⟨BlkLe.flat (fun h => h) hflat, trivial⟩)
        | (exfalso
           rw [List.take_of_length_le (by omega)] at j3
           simp only [wrap_i64] at *
           omega)
  · intro hno
    cbv
    with_reducible intro k1 hk1
    rw [wrap_i64] at hk1
    have hk1 : k1 = k + 1 := by omega
    cbv
    with_reducible apply boundT hn hsz hflat hrows i k1
    focus rfl
    focus rfl
    · intro hok
      exact absurd ⟨hok.1, hok.2.1, hok.2.2.1, by omega, by omega⟩ hno
    intro _
    cbv
    with_reducible apply boundT hn hsz hflat hrows i 0
    focus rfl
    focus rfl
    · intro hok
      exact absurd ⟨hok.1, hok.2.1, hok.2.2.1, by omega, by omega⟩ hno
    intro _
    cbv
    repeat' first
      | with_reducible exact trivial
      | ((with_reducible intro v hv); cbv)
      | ((with_reducible apply uAnd); (focus first | omega | (cbv; done) | kernel_rfl); try cbv)
      | ((with_reducible apply And.intro) <;> (with_reducible intro h) <;> first | ((with_reducible exfalso); omega) | cbv)
      | ((with_reducible apply CallT.enter X Try.func11 (by decide)); cbv)

theorem boundNilT {A B : AV} {m : Mem} {c : Nat} {K : AV → Mem → Nat → Prop} (hA : Go.Ab.full A = .sym (.int .i64 (iOf A))) (hB : Go.Ab.full B = .sym (.int .i64 (iOf B))) (h : K (.tuple [.int .i64 0, .int .i64 800]) m c) :
    CallT (fun _ => Try.prog) 9 [.nilslice, A, B] m c K := by
  refine ⟨CallS.fullA (CallS.asFull ?_)⟩
  simp only [fullL, Go.Ab.full, hA, hB]
  refine (boundNil (iOf A) (iOf B) m c).mono ?_
  rintro v m' c' ⟨rfl, rfl, rfl⟩
  exact ⟨.tuple [.int .i64 0, .int .i64 800], rfl, h⟩
set_option maxHeartbeats 4000000 in
theorem demandGrowsNil (i len : Int) : CallS Try.prog 4 [.nilslice, .sym (.int .i64 i), .sym (.int .i64 len)] (memB [] []) 0 fun v _ _ => v = .bool true := by
  refine CallS.enter X Try.func4 (by decide) ?_
  cbv
  with_reducible apply awakeT
  cbv
  repeat' first
    | with_reducible exact trivial
    | ((with_reducible intro v hv); cbv)
    | ((with_reducible apply uAnd); (focus first | omega | (cbv; done) | kernel_rfl); try cbv)
    | ((with_reducible apply And.intro) <;> (with_reducible intro h) <;> first | ((with_reducible exfalso); omega) | cbv)
    | ((with_reducible apply CallT.enter X Try.func11 (by decide)); cbv)
    | ((with_reducible apply boundNilT); (focus rfl); (focus rfl); cbv)
end Go.Proofs.Ytoajpihpldndcaa.Dem
