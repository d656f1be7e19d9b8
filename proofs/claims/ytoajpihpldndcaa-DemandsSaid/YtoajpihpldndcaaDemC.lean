/- What demand.Bound and the document's Bound give: any tasks, any number, any length. -/
import Derived.Test.YtoajpihpldndcaaDemB
namespace Go.Proofs.Ytoajpihpldndcaa.Dem
open Go.Ab
set_option linter.unusedVariables false
set_option linter.unusedSimpArgs false

def term (p k : Int) (t : Task) : Int := if t.prio < p then t.chigh * ((k + t.period - 1).tdiv t.period) else 0
def bsum (p k : Int) : List Task → Int
  | [] => 0
  | t :: ts => term p k t + bsum p k ts
theorem bsum_append (p k : Int) : ∀ xs ys : List Task, bsum p k (xs ++ ys) = bsum p k xs + bsum p k ys
  | [], ys => by simp [bsum]
  | t :: xs, ys => by simp only [List.cons_append, bsum, bsum_append p k xs ys]; omega
theorem bsum_succ {p k : Int} {ts : List Task} {j : Nat} {t : Task} (h : ts[j]? = some t) : bsum p k (ts.take (j + 1)) = bsum p k (ts.take j) + term p k t := by
  rw [take_succ_at h, bsum_append]; simp [bsum]
theorem bsum_all {p k : Int} {ts : List Task} {j : Nat} (h : ts.length ≤ j) : bsum p k (ts.take j) = bsum p k ts := by rw [List.take_of_length_le h]
/-- What is given. -/
def SpecD (ts : List Task) (i k r e : Int) : Prop :=
  (OkAll ts ∧ 0 ≤ i ∧ 0 ≤ k ∧ k ≤ 4096 ∧ e = 0 ∧ ∃ t, ts[i.toNat]? = some t ∧ r = IntKind.wrap .i64 (t.chigh + bsum t.prio k ts)) ∨ (¬ (OkAll ts ∧ 0 ≤ i ∧ i.toNat < ts.length ∧ 0 ≤ k ∧ k ≤ 4096) ∧ r = 0 ∧ e = 800)
theorem ok_of {ts : List Task} (h : OkAll ts) {j : Nat} {t : Task} (ht : ts[j]? = some t) : Ok t := h.1 t (List.mem_of_getElem? ht)
theorem div_bound {k p : Int} (h1 : 0 ≤ k) (h2 : k ≤ 4096) (h3 : 1 ≤ p) (h4 : p ≤ 1024) : 0 ≤ (k + p - 1).tdiv p ∧ (k + p - 1).tdiv p ≤ 6000 := by
  have e : (k + p - 1).tdiv p = (k + p - 1) / p := Int.tdiv_eq_ediv_of_nonneg (by omega)
  rw [e]
  have h5 : 0 ≤ (k + p - 1) / p := Int.ediv_nonneg (by omega) (by omega)
  have h6 : (k + p - 1) / p ≤ k + p - 1 := Int.ediv_le_self _ (by omega)
  omega
theorem mul_bound {c d : Int} (h1 : 0 ≤ c) (h2 : c ≤ 1024) (h3 : 0 ≤ d) (h4 : d ≤ 6000) : 0 ≤ c * d ∧ c * d ≤ 6144000 :=
  ⟨Int.mul_nonneg h1 h3, by
    have := Int.mul_le_mul h2 h4 h3 (by omega)
    omega⟩

theorem ok_vars {ts : List Task} (h : OkAll ts) {j : Nat} {kd p d cl ch pr : Int} (ht : ts[j]? = some ⟨kd, p, d, cl, ch, pr⟩) : 1 ≤ p ∧ p ≤ 1024 ∧ 1 ≤ ch ∧ ch ≤ 1024 ∧ 0 ≤ pr ∧ pr ≤ 255 := by
  obtain ⟨_, h1, h2, h3, h4, h5, h6, h7, h8, h9⟩ := ok_of h ht
  dsimp only at *
  omega
theorem bs_vars {P k : Int} {ts : List Task} {j : Nat} {kd p d cl ch pr : Int} (ht : ts[j]? = some ⟨kd, p, d, cl, ch, pr⟩) :
    (pr < P ∧ bsum P k (ts.take (j + 1)) = bsum P k (ts.take j) + ch * ((k + p - 1).tdiv p)) ∨ (P ≤ pr ∧ bsum P k (ts.take (j + 1)) = bsum P k (ts.take j)) := by
  have h := bsum_succ (p := P) (k := k) ht
  by_cases e : pr < P
  · exact .inl ⟨e, by rw [h]; simp [term, e]⟩
  · exact .inr ⟨by omega, by rw [h]; simp [term, e]⟩
theorem val_of {k p ch v1 v2 v3 v4 : Int} (h1 : 0 ≤ k) (h2 : k ≤ 4096) (hp : 1 ≤ p ∧ p ≤ 1024 ∧ 1 ≤ ch ∧ ch ≤ 1024) (e1 : v1 = IntKind.wrap .i64 (k + p)) (e2 : v2 = IntKind.wrap .i64 (v1 - 1)) (e3 : v3 = IntKind.wrap .i64 (v2.tdiv p)) (e4 : v4 = IntKind.wrap .i64 (ch * v3)) :
    v4 = ch * ((k + p - 1).tdiv p) ∧ 0 ≤ v4 ∧ v4 ≤ 6144000 := by
  rw [wrap_i64] at e1 e2
  have f1 : v1 = k + p := by omega
  have f2 : v2 = k + p - 1 := by omega
  subst f2
  have b := div_bound h1 h2 hp.1 hp.2.1
  rw [wrap_i64] at e3
  have f3 : v3 = (k + p - 1).tdiv p := by omega
  subst f3
  have m := mul_bound (c := ch) (by omega) hp.2.2.2 b.1 b.2
  rw [wrap_i64] at e4
  omega
theorem wrap_step {a b s acc acc' : Int} (h : acc = IntKind.wrap .i64 (a + s)) (h' : acc' = IntKind.wrap .i64 (acc + b)) : acc' = IntKind.wrap .i64 (a + (s + b)) := by
  rw [wrap_i64] at *
  omega

set_option maxHeartbeats 4000000 in
theorem boundC (ts : List Task) (rows : List (List AV)) (n cap : Nat) (opn : Bool) (hn : n = ts.length) (hsz : n * 48 ≤ 140737488351232) (hflat : ∀ row ∈ rows, AV.flatL row = true) (hrows : At tv ts rows) (i k : Int) :
    CallS Try.prog 9 [.sym (.slice 0 6 0 n cap opn none), .sym (.int .i64 i), .sym (.int .i64 k)] (memB [some (.cells false 6 rows)] []) 1 fun v _ _ => v.flat = true ∧ ∃ r e, SpecD ts i k r e ∧ Go.Ab.full v = .tuple [.sym (.int .i64 r), .sym (.int .i64 e)] := by
  refine CallS.enter X Try.func9 (by decide) ?_
  cbv
  with_reducible apply CallT.readB (mayAll ts rows n cap opn hn hsz hflat hrows)
  focus rfl
  focus rfl
  focus exact hflat
  rotate_left
  · intro hno
    cbv
    exact ⟨0, 800, .inr ⟨fun h => hno h.1, rfl, rfl⟩, rfl⟩
  intro hall
  cbv
  repeat' first
    | with_reducible exact trivial
    | ((with_reducible intro v hv); (try rw [wrap_i64] at hv); cbv)
    | ((with_reducible apply uAnd); (focus first | omega | (cbv; done) | kernel_rfl); try cbv)
    | ((with_reducible apply And.intro) <;> (with_reducible intro h) <;> first | ((with_reducible exfalso); omega) | cbv)
    | ((with_reducible apply ld hrows); (focus omega); rintro ⟨kd, p, d, cl, ch, pr⟩ hx; cbv)
  all_goals try (refine ⟨0, 800, .inr ⟨fun ⟨_, a, b, c, d⟩ => by omega, rfl, rfl⟩, rfl⟩; done)
  rename_i w hw
  have hok0 := ok_vars hall hx
  obtain ⟨t0, q0, c0, ht0, hp0, hc0, eq, ec⟩ : ∃ (t : Task) (q c : Int), ts[i.toNat]? = some t ∧ t.prio = q ∧ t.chigh = c ∧ q = pr ∧ c = ch := by
    rw [show w = i.toNat by omega] at hx
    exact ⟨_, _, _, hx, rfl, rfl, rfl, rfl⟩
  clear hx hw
  subst eq ec
  with_reducible
   refine LoopT.invR X (α := Int × Int) 66 [] (fun s => (oI (s.at 39), oI (s.at 8))) (fun s => [])
    (fun a => [some (.sym (.slice 0 6 0 n cap opn none)), some (.sym (.int .i64 i)), some (.sym (.int .i64 k)), none, none, none, none, none, some (.sym (.int .i64 a.2)), none, none, none, none, none, none, none, none, none, none, none, none, none, none, none, none, none, none, none, none, none, none, none, none, none, none, none, none, some (.sym (.slice 0 6 0 n cap opn none)), some (.sym (.int .i64 v)), some (.sym (.int .i64 a.1))])
    (fun a => [some (.cells false 6 rows)])
    (fun a => 0 ≤ a.1 ∧ a.1.toNat ≤ n ∧ a.2 = IntKind.wrap .i64 (c0 + bsum q0 k (ts.take a.1.toNat))) (fun a => n - a.1.toNat) ?_ ?_
  · cbv
    refine And.intro (HoldAt.mk ?_) (Head.mk ?_ ?_ ?_ ?_ ?_ ?_)
    · refine ⟨by simp, by simp, ?_⟩
      rw [wrap_i64]
      dsimp only
      simp only [Int.toNat_zero, List.take_zero, bsum]
      omega
    all_goals cbv
    refine ⟨BlkLe.flat (fun h => h) hflat, trivial⟩
  · rintro ⟨j, acc⟩ ⟨j1, j2, j3⟩
    dsimp only at j1 j2 j3
    cbv
    repeat' first
      | with_reducible exact trivial
      | ((with_reducible intro v hv); cbv)
      | ((with_reducible apply uAnd); (focus first | omega | (cbv; done) | kernel_rfl); try cbv)
      | ((with_reducible apply And.intro) <;> (with_reducible intro h) <;> first | ((with_reducible exfalso); omega) | cbv)
      | ((with_reducible apply ld hrows); (focus omega); rintro ⟨kd, p, d, cl, ch, pr⟩ hx; (first | (rw [show v = j.toNat by omega] at hx; have hbs := bs_vars (P := q0) (k := k) hx) | (rw [show v = i.toNat by omega, ht0] at hx; have hpr : q0 = pr := by cases hx; exact hp0.symm)); (try have hok := ok_vars hall hx); cbv)
    · rename_i kd2 p2 d2 cl2 ch2 pr2 hx2 vi hvi v1 e1 v2 e2 v3 e3 v4 e4 v5 e5
      have hv4 := val_of (by assumption) (by assumption) ⟨hok.1, hok.2.1, hok.2.2.1, hok.2.2.2.1⟩ e1 e2 e3 e4
      rw [wrap_i64] at hv
      have e6 : v.toNat = j.toNat + 1 := by omega
      refine And.intro (And.intro (HoldAt.mk ?_) True.intro) (Head.mk ?_ ?_ ?_ ?_ ?_ ?_)
      · dsimp only
        refine ⟨⟨by omega, by omega, ?_⟩, by omega⟩
        rw [e6, show bsum q0 k (ts.take (j.toNat + 1)) = bsum q0 k (ts.take j.toNat) + v4 by omega]
        exact wrap_step j3 e5
      all_goals cbv
      refine ⟨BlkLe.flat (fun h => h) hflat, trivial⟩
    · rw [wrap_i64] at hv
      have e6 : v.toNat = j.toNat + 1 := by omega
      refine And.intro (And.intro (HoldAt.mk ?_) True.intro) (Head.mk ?_ ?_ ?_ ?_ ?_ ?_)
      · dsimp only
        refine ⟨⟨by omega, by omega, ?_⟩, by omega⟩
        rw [e6, show bsum q0 k (ts.take (j.toNat + 1)) = bsum q0 k (ts.take j.toNat) by omega]
        exact j3
      all_goals cbv
      refine ⟨BlkLe.flat (fun h => h) hflat, trivial⟩
    · refine ⟨_, _, .inl ⟨hall, by assumption, by assumption, by assumption, rfl, t0, ht0, ?_⟩, rfl⟩
      rw [j3, bsum_all (by omega), hp0, hc0]

theorem val_of' {k p ch v1 v2 v3 v4 : Int} (h1 : 0 ≤ k) (h2 : k ≤ 4096) (hp : 1 ≤ p ∧ p ≤ 1024 ∧ 1 ≤ ch ∧ ch ≤ 1024) (e1 : v1 = IntKind.wrap .i64 (k + p)) (e2 : v2 = IntKind.wrap .i64 (v1 - 1)) (e3 : v3 = IntKind.wrap .i64 (v2.tdiv p)) (e4 : v4 = IntKind.wrap .i64 (v3 * ch)) :
    v4 = ch * ((k + p - 1).tdiv p) ∧ 0 ≤ v4 ∧ v4 ≤ 6144000 := val_of h1 h2 hp e1 e2 e3 (by rw [Int.mul_comm]; exact e4)

set_option maxRecDepth 200000 in
set_option maxHeartbeats 4000000 in
theorem refBoundI (ts : List Task) (rows : List (List AV)) (n cap : Nat) (opn : Bool) (hn : n = ts.length) (hsz : n * 48 ≤ 140737488351232) (hflat : ∀ row ∈ rows, AV.flatL row = true) (hrows : At tv ts rows) (i k : Int)
    (hall : OkAll ts) (t0 : Task) (ht0 : ts[i.toNat]? = some t0) (hi : 0 ≤ i) (hk1 : 0 ≤ k) (hk2 : k ≤ 4096) :
    CallS Try.prog 17 [.sym (.slice 0 6 0 n cap opn none), .sym (.int .i64 i), .sym (.int .i64 k)] (memB [some (.cells false 6 rows)] []) 1 fun v _ _ => v.flat = true ∧ ∃ r, r = IntKind.wrap .i64 (t0.chigh + bsum t0.prio k ts) ∧ Go.Ab.full v = .sym (.int .i64 r) := by
  have hil : i.toNat < ts.length := (List.getElem?_eq_some_iff.1 ht0).1
  obtain ⟨q0, hp0⟩ : ∃ q, t0.prio = q := ⟨_, rfl⟩
  obtain ⟨c0, hc0⟩ : ∃ q, t0.chigh = q := ⟨_, rfl⟩
  refine CallS.enter X Try.func17 (by decide) ?_
  cbv
  repeat' first
    | with_reducible exact trivial
    | ((with_reducible intro v hv); cbv)
    | ((with_reducible apply uAnd); (focus first | omega | (cbv; done) | kernel_rfl); try cbv)
    | ((with_reducible apply And.intro) <;> (with_reducible intro h) <;> first | ((with_reducible exfalso); omega) | cbv)
    | ((with_reducible apply ld hrows); (focus omega); rintro ⟨kd, p, d, cl, ch, pr⟩ hx; (rw [show v = i.toNat by omega] at hx); cbv)
  have hok0 := ok_vars hall hx
  have hri : rows[i.toNat]? = some [.sym (.int .i64 kd), .sym (.int .i64 p), .sym (.int .i64 d), .sym (.int .i64 cl), .sym (.int .i64 ch), .sym (.int .i64 pr)] := hrows _ _ hx
  have eq : c0 = ch ∧ q0 = pr := by
    rw [ht0] at hx; cases hx; exact ⟨hc0.symm, hp0.symm⟩
  obtain ⟨eq, eq2⟩ := eq
  clear hx
  subst eq eq2
  with_reducible
   refine LoopT.invR X (α := Int × Int) 54 [] (fun s => (oI (s.at 8), oI (s.at 7))) (fun s => [])
    (fun a => [some (.sym (.slice 0 6 0 n cap opn none)), some (.sym (.int .i64 i)), some (.sym (.int .i64 k)), none, none, none, none, some (.sym (.int .i64 a.2)), some (.sym (.int .i64 a.1))])
    (fun a => [some (.cells false 6 rows)])
    (fun a => 0 ≤ a.1 ∧ a.1.toNat ≤ n ∧ a.2 = IntKind.wrap .i64 (c0 + bsum q0 k (ts.take a.1.toNat))) (fun a => n - a.1.toNat) ?_ ?_
  · cbv
    refine And.intro (HoldAt.mk ?_) (Head.mk ?_ ?_ ?_ ?_ ?_ ?_)
    · refine ⟨by simp, by simp, ?_⟩
      rw [wrap_i64]
      dsimp only
      simp only [Int.toNat_zero, List.take_zero, bsum]
      omega
    all_goals cbv
    refine ⟨BlkLe.flat (fun h => h) hflat, trivial⟩
  · rintro ⟨j, acc⟩ ⟨j1, j2, j3⟩
    dsimp only at j1 j2 j3
    cbv
    repeat' first
      | with_reducible exact trivial
      | ((with_reducible intro v hv); cbv)
      | ((with_reducible apply uAnd); (focus first | omega | (cbv; done) | kernel_rfl); try cbv)
      | ((with_reducible apply And.intro) <;> (with_reducible intro h) <;> first | ((with_reducible exfalso); omega) | cbv)
      | ((with_reducible apply ldAt hri); (focus omega); cbv)
      | ((with_reducible apply ldAt hrj); (focus omega); cbv)
      | ((with_reducible apply ld hrows); (focus omega); rintro ⟨kd, p, d, cl, ch, pr⟩ hx; rw [show v = j.toNat by omega] at hx; have hrj : rows[j.toNat]? = some [.sym (.int .i64 kd), .sym (.int .i64 p), .sym (.int .i64 d), .sym (.int .i64 cl), .sym (.int .i64 ch), .sym (.int .i64 pr)] := hrows _ _ hx; have hbs := bs_vars (P := q0) (k := k) hx; have hok := ok_vars hall hx; cbv)
    · rename_i u1 f1 u2 f2 v1 e1 v2 e2 u3 f3 v3 e3 u4 f4 v4 e4 v5 e5
      have hv4 := val_of' hk1 hk2 ⟨hok.1, hok.2.1, hok.2.2.1, hok.2.2.2.1⟩ e1 e2 e3 e4
      rw [wrap_i64] at hv
      have e6 : v.toNat = j.toNat + 1 := by omega
      refine And.intro (And.intro (HoldAt.mk ?_) True.intro) (Head.mk ?_ ?_ ?_ ?_ ?_ ?_)
      · dsimp only
        refine ⟨⟨by omega, by omega, ?_⟩, by omega⟩
        rw [e6, show bsum q0 k (ts.take (j.toNat + 1)) = bsum q0 k (ts.take j.toNat) + v4 by omega]
        exact wrap_step j3 e5
      all_goals cbv
      refine ⟨BlkLe.flat (fun h => h) hflat, trivial⟩
    · rw [wrap_i64] at hv
      have e6 : v.toNat = j.toNat + 1 := by omega
      refine And.intro (And.intro (HoldAt.mk ?_) True.intro) (Head.mk ?_ ?_ ?_ ?_ ?_ ?_)
      · dsimp only
        refine ⟨⟨by omega, by omega, ?_⟩, by omega⟩
        rw [e6, show bsum q0 k (ts.take (j.toNat + 1)) = bsum q0 k (ts.take j.toNat) by omega]
        exact j3
      all_goals cbv
      refine ⟨BlkLe.flat (fun h => h) hflat, trivial⟩
    · refine ⟨_, ?_, rfl⟩
      rw [j3, bsum_all (by omega), hp0, hc0]

set_option maxRecDepth 200000 in
set_option maxHeartbeats 4000000 in
theorem refBoundC (ts : List Task) (rows : List (List AV)) (n cap : Nat) (opn : Bool) (hn : n = ts.length) (hsz : n * 48 ≤ 140737488351232) (hflat : ∀ row ∈ rows, AV.flatL row = true) (hrows : At tv ts rows) (i k : Int) :
    CallS Try.prog 10 [.sym (.slice 0 6 0 n cap opn none), .sym (.int .i64 i), .sym (.int .i64 k)] (memB [some (.cells false 6 rows)] []) 1 fun v _ _ => v.flat = true ∧ ∃ r e, SpecD ts i k r e ∧ Go.Ab.full v = .tuple [.sym (.int .i64 r), .sym (.int .i64 e)] := by
  refine CallS.enter X Try.func10 (by decide) ?_
  cbv
  with_reducible apply CallT.readB (refMayAll ts rows n cap opn hn hsz hflat hrows)
  focus rfl
  focus rfl
  focus exact hflat
  rotate_left
  · intro hno
    cbv
    exact ⟨0, 800, .inr ⟨fun h => hno h.1, rfl, rfl⟩, rfl⟩
  intro hall
  cbv
  repeat' first
    | with_reducible exact trivial
    | ((with_reducible intro v hv); cbv)
    | ((with_reducible apply uAnd); (focus first | omega | (cbv; done) | kernel_rfl); try cbv)
    | ((with_reducible apply And.intro) <;> (with_reducible intro h) <;> first | ((with_reducible exfalso); omega) | cbv)
  all_goals try (refine ⟨0, 800, .inr ⟨fun ⟨_, a, b, c, d⟩ => by omega, rfl, rfl⟩, rfl⟩; done)
  have hil : i.toNat < ts.length := by omega
  have ht0 := List.getElem?_eq_getElem hil
  with_reducible apply CallT.readF (R0 := fun v => ∃ r, r = IntKind.wrap .i64 (ts[i.toNat].chigh + bsum ts[i.toNat].prio k ts) ∧ v = .sym (.int .i64 r)) (refBoundI ts rows n cap opn hn hsz hflat hrows i k hall _ ht0 (by assumption) (by assumption) (by assumption))
  focus rfl
  focus rfl
  focus exact hflat
  rintro v2 ⟨r, hr, rfl⟩
  cbv
  exact ⟨_, _, .inl ⟨hall, by assumption, by assumption, by assumption, rfl, _, ht0, hr⟩, rfl⟩

/-! ### without any task -/
theorem okAll_nil : OkAll [] := ⟨(fun t h => by cases h), List.Pairwise.nil⟩
set_option maxHeartbeats 4000000 in
theorem boundNil (i k : Int) (m : Mem) (c : Nat) : CallS Try.prog 9 [.nilslice, .sym (.int .i64 i), .sym (.int .i64 k)] m c fun v m' c' => v = .tuple [.sym (.int .i64 0), .sym (.int .i64 800)] ∧ m' = m ∧ c' = c := by
  refine CallS.at0 X Try.func9 (by decide) rfl (d := 2) (R0 := fun v => v = .tuple [.sym (.int .i64 0), .sym (.int .i64 800)]) ?_ m c
  cbv
  repeat' first
    | with_reducible exact trivial
    | ((with_reducible intro v hv); cbv)
    | ((with_reducible apply uAnd); (focus first | omega | (cbv; done) | kernel_rfl); try cbv)
    | ((with_reducible apply And.intro) <;> (with_reducible intro h) <;> first | ((with_reducible exfalso); omega) | cbv)
    | ((with_reducible apply CallT.enter X Try.func15 (by decide)); cbv)
    | ((with_reducible apply LoopT.once X); cbv)
set_option maxHeartbeats 4000000 in
theorem refBoundNil (i k : Int) (m : Mem) (c : Nat) : CallS Try.prog 10 [.nilslice, .sym (.int .i64 i), .sym (.int .i64 k)] m c fun v m' c' => v = .tuple [.sym (.int .i64 0), .sym (.int .i64 800)] ∧ m' = m ∧ c' = c := by
  refine CallS.at0 X Try.func10 (by decide) rfl (d := 2) (R0 := fun v => v = .tuple [.sym (.int .i64 0), .sym (.int .i64 800)]) ?_ m c
  cbv
  repeat' first
    | with_reducible exact trivial
    | ((with_reducible intro v hv); cbv)
    | ((with_reducible apply uAnd); (focus first | omega | (cbv; done) | kernel_rfl); try cbv)
    | ((with_reducible apply And.intro) <;> (with_reducible intro h) <;> first | ((with_reducible exfalso); omega) | cbv)
    | ((with_reducible apply CallT.enter X Try.func16 (by decide)); cbv)
    | ((with_reducible apply LoopT.once X); cbv)
end Go.Proofs.Ytoajpihpldndcaa.Dem
