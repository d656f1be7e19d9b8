/- What task.May, the document's TaskMay and their callers do: tasks that may be. May tasks be, each of a Prio of its own: the program's may, the document's TasksMay. What demand.Bound and the document's Bound give: any tasks, any number, any length. A task's cells, opened. The law DemandGrows returns true at any tasks. -/
import Derived.Test.YtoajpihpldndcaaAb34
import Derived.Test.YtoajpihpldndcaaProg
import Derived.Test.YtoajpihpldndcaaAb35
namespace Go.Proofs.Ytoajpihpldndcaa.Dem
open Go.Ab
set_option linter.unusedVariables false
set_option linter.unusedSimpArgs false

structure Task where
  kind : Int
  period : Int
  deadline : Int
  clow : Int
  chigh : Int
  prio : Int
def tv (t : Task) : List AV := [.sym (.int .i64 t.kind), .sym (.int .i64 t.period), .sym (.int .i64 t.deadline), .sym (.int .i64 t.clow), .sym (.int .i64 t.chigh), .sym (.int .i64 t.prio)]
/-- May a task be? -/
def Ok (t : Task) : Prop := (t.kind = 0 ∨ t.kind = 1) ∧ 1 ≤ t.period ∧ t.period ≤ 1024 ∧ 1 ≤ t.deadline ∧ t.deadline ≤ t.period ∧ 1 ≤ t.clow ∧ t.clow ≤ t.chigh ∧ t.chigh ≤ t.deadline ∧ 0 ≤ t.prio ∧ t.prio ≤ 255

theorem hm : Try.prog.follows .mixedOrders = true := by kernel_rfl
theorem awakeRuns : isYes (aRun Try.prog ⟨fun _ => none, fun _ _ => none⟩ 20 13 [] ⟨Tr.empty 6, []⟩ 0) = true := by kernel_rfl
noncomputable def callM : CallA := aRun Try.prog (yesAt 13) 5
theorem X : Ctx Try.prog callM := by
  obtain ⟨m, c, h⟩ := of_isYes awakeRuns
  exact ctx_yes hm h 5
theorem awakeT {m : Mem} {c : Nat} {R : AV → Mem → Nat → Prop} (h : R (.bool true) m c) : CallT (fun _ => Try.prog) 13 [] m c R :=
  ⟨CallS.of_call X.hcall (v := .bool true) (m' := m) (c' := c) (by kernel_rfl) h⟩

set_option maxHeartbeats 1000000 in
theorem mayC (a b c d e f : Int) (m : Mem) (n : Nat) : CallS Try.prog 19 [.agg [.sym (.int .i64 a), .sym (.int .i64 b), .sym (.int .i64 c), .sym (.int .i64 d), .sym (.int .i64 e), .sym (.int .i64 f)]] m n
    fun v m' n' => (∃ r, (r = true ↔ Ok ⟨a, b, c, d, e, f⟩) ∧ v = .bool r) ∧ m' = m ∧ n' = n := by
  refine CallS.at0 X Try.func19 (by decide) rfl (d := 2) (R0 := fun v => ∃ r, (r = true ↔ Ok ⟨a, b, c, d, e, f⟩) ∧ v = .bool r) ?_ m n
  cbv
  repeat' first
    | ((with_reducible apply And.intro) <;> (with_reducible intro h) <;> cbv)
  all_goals
    refine ⟨_, ?_, rfl⟩
    simp only [Ok, reduceCtorEq, true_iff, false_iff]
    omega

set_option maxHeartbeats 1000000 in
theorem refMayC (a b c d e f : Int) (m : Mem) (n : Nat) : CallS Try.prog 20 [.agg [.sym (.int .i64 a), .sym (.int .i64 b), .sym (.int .i64 c), .sym (.int .i64 d), .sym (.int .i64 e), .sym (.int .i64 f)]] m n
    fun v m' n' => (∃ r, (r = true ↔ Ok ⟨a, b, c, d, e, f⟩) ∧ v = .bool r) ∧ m' = m ∧ n' = n := by
  refine CallS.at0 X Try.func20 (by decide) rfl (d := 2) (R0 := fun v => ∃ r, (r = true ↔ Ok ⟨a, b, c, d, e, f⟩) ∧ v = .bool r) ?_ m n
  cbv
  repeat' first
    | ((with_reducible apply And.intro) <;> (with_reducible intro h) <;> cbv)
  all_goals
    refine ⟨_, ?_, rfl⟩
    simp only [Ok, reduceCtorEq, true_iff, false_iff]
    omega

end Go.Proofs.Ytoajpihpldndcaa.Dem

namespace Go.Proofs.Ytoajpihpldndcaa.Dem
open Go.Ab
set_option linter.unusedVariables false
set_option linter.unusedSimpArgs false

def prios (ts : List Task) : List Int := ts.map (·.prio)
/-- May tasks be? -/
def OkAll (ts : List Task) : Prop := (∀ t ∈ ts, Ok t) ∧ (prios ts).Nodup

theorem prio_at {ts : List Task} {j : Nat} {t : Task} (h : ts[j]? = some t) : (prios ts)[j]? = some t.prio := by simp [prios, h]
theorem not_ok_at {ts : List Task} {j : Nat} {t : Task} (h : ts[j]? = some t) (hn : ¬ Ok t) : ¬ OkAll ts := fun ⟨h1, _⟩ => hn (h1 t (List.mem_of_getElem? h))
theorem not_nodup_at {ts : List Task} {j : Nat} {t : Task} (h : ts[j]? = some t) (hm : t.prio ∈ (prios ts).take j) : ¬ OkAll ts := fun ⟨_, h2⟩ => by
  obtain ⟨i, hi⟩ := List.getElem?_of_mem hm
  rw [List.getElem?_take] at hi
  split at hi
  · rename_i hlt
    obtain ⟨l1, e1⟩ := List.getElem?_eq_some_iff.1 hi
    obtain ⟨l2, e2⟩ := List.getElem?_eq_some_iff.1 (prio_at h)
    exact (List.pairwise_iff_getElem.1 h2 _ _ l1 l2 hlt) (e1.trans e2.symm)
  · cases hi
/-- All of the first j. -/
def Pre (ts : List Task) (j : Nat) : Prop := (∀ i t, i < j → ts[i]? = some t → Ok t) ∧ ((prios ts).take j).Nodup
theorem Pre.zero (ts : List Task) : Pre ts 0 := ⟨fun i t h => by omega, by simp⟩
theorem Pre.succ {ts : List Task} {j : Nat} {t : Task} (h : Pre ts j) (ht : ts[j]? = some t) (hok : Ok t) (hn : t.prio ∉ (prios ts).take j) : Pre ts (j + 1) := by
  refine ⟨fun i u hi hu => ?_, ?_⟩
  · by_cases e : i = j
    · subst e; rw [ht] at hu; cases hu; exact hok
    · exact h.1 i u (by omega) hu
  · rw [take_succ_at (prio_at ht), List.nodup_append]
    exact ⟨h.2, by simp, fun a ha b hb e => by simp at hb; subst hb; subst e; exact hn ha⟩
theorem Pre.all {ts : List Task} {j : Nat} (h : Pre ts j) (hj : ts.length ≤ j) : OkAll ts := by
  refine ⟨fun t ht => ?_, ?_⟩
  · obtain ⟨i, hi⟩ := List.getElem?_of_mem ht
    exact h.1 i t (by have := (List.getElem?_eq_some_iff.1 hi).1; omega) hi
  · have := h.2
    rwa [List.take_of_length_le (by simp [prios]; exact hj)] at this

set_option maxHeartbeats 4000000 in
theorem mayAll (ts : List Task) (rows : List (List AV)) (n cap : Nat) (opn : Bool) (hn : n = ts.length) (hsz : n * 48 ≤ 140737488351232) (hflat : ∀ row ∈ rows, AV.flatL row = true) (hrows : At tv ts rows) :
    CallS Try.prog 15 [.sym (.slice 0 6 0 n cap opn none)] (memB [some (.cells false 6 rows)] []) 1 fun v _ _ => v.flat = true ∧ ∃ r, (r = true ↔ OkAll ts) ∧ v = .bool r := by
  obtain ⟨M, hM⟩ : ∃ M : Int → List (AV × AV), ∀ i, M i = kv ((prios ts).take i.toNat) := ⟨_, fun _ => rfl⟩
  refine CallS.enter X Try.func15 (by decide) ?_
  cbv
  with_reducible intro len hlen
  cbv
  with_reducible
   refine LoopT.invR X (α := Int) 26 [] (fun s => oI (s.at 9)) (fun s => [oP (s.at 3)])
    (fun i => [none, none, none, some (.map 1), none, none, none, some (.sym (.slice 0 6 0 n cap opn none)), some (.sym (.int .i64 len)), some (.sym (.int .i64 i))])
    (fun i => [some (.cells false 6 rows), some (.map (M i))])
    (fun i => 0 ≤ i ∧ i.toNat ≤ n ∧ Pre ts i.toNat) (fun i => (len - i).toNat) ?_ ?_
  · cbv
    refine And.intro (HoldAt.mk ?_) (Head.mk ?_ ?_ ?_ ?_ ?_ ?_)
    · exact ⟨by decide, by simp, Pre.zero ts⟩
    all_goals cbv
    refine ⟨BlkLe.flat (fun h => h) hflat, BlkLe.kvM (ps := []) rfl (hM 0), trivial⟩
  · rintro i ⟨h1, h2, h3⟩
    cbv
    repeat' first
      | with_reducible exact trivial
      | ((with_reducible intro v hv); (try rw [wrap_i64] at hv); cbv)
      | ((with_reducible apply uAnd); (focus first | omega | (cbv; done) | kernel_rfl); try cbv)
      | ((with_reducible apply And.intro) <;> (with_reducible intro h) <;> first | ((with_reducible exfalso); omega) | cbv)
      | ((with_reducible apply ld hrows); (focus omega); rintro ⟨k, p, d, cl, ch, pr⟩ hx; cbv)
      | ((with_reducible apply CallT.pureB (mayC _ _ _ _ _ _ _ _)) <;> intro h <;> cbv)
      | ((with_reducible apply lkKvM (hM i)) <;> intro hp <;> cbv)
      | ((with_reducible apply upKvM (hM i) (es2 := M (i + 1))); (focus assumption); (focus
          have e : (i + 1).toNat = v + 1 := by omega
          have e2 : v = i.toNat := by omega
          rw [hM, e, take_succ_at (prio_at hx), e2]); cbv)
    · have e : v = i.toNat := by omega
      subst e
      exact ⟨false, ⟨(fun e => by cases e), fun ha => absurd ha (not_nodup_at hx hp)⟩, rfl⟩
    · rename_i j hj
      have e : j = i.toNat := by omega
      subst e
      refine And.intro (And.intro (HoldAt.mk ?_) True.intro) (Head.mk ?_ ?_ ?_ ?_ ?_ ?_)
      · have e2 : v.toNat = i.toNat + 1 := by omega
        refine ⟨⟨by omega, by omega, ?_⟩, by omega⟩
        rw [e2]
        exact h3.succ hx h hp
      all_goals cbv
      refine ⟨BlkLe.flat (fun h => h) hflat, BlkLe.kvM (hM (i + 1)) ?_, trivial⟩
      show M v = M (i + 1)
      exact congrArg M (by omega)
    · exact ⟨false, ⟨(fun e => by cases e), fun ha => absurd ha (not_ok_at hx h)⟩, rfl⟩
    · exact ⟨true, ⟨fun _ => h3.all (by omega), fun _ => rfl⟩, rfl⟩

set_option maxHeartbeats 4000000 in
theorem refMayAll (ts : List Task) (rows : List (List AV)) (n cap : Nat) (opn : Bool) (hn : n = ts.length) (hsz : n * 48 ≤ 140737488351232) (hflat : ∀ row ∈ rows, AV.flatL row = true) (hrows : At tv ts rows) :
    CallS Try.prog 16 [.sym (.slice 0 6 0 n cap opn none)] (memB [some (.cells false 6 rows)] []) 1 fun v _ _ => v.flat = true ∧ ∃ r, (r = true ↔ OkAll ts) ∧ v = .bool r := by
  refine CallS.enter X Try.func16 (by decide) ?_
  cbv
  with_reducible
   refine LoopT.invR X (α := Int) 33 [] (fun s => oI (s.at 3)) (fun s => [])
    (fun i => [some (.sym (.slice 0 6 0 n cap opn none)), none, none, some (.sym (.int .i64 i))])
    (fun i => [some (.cells false 6 rows)])
    (fun i => 0 ≤ i ∧ i.toNat ≤ n ∧ Pre ts i.toNat) (fun i => n - i.toNat) ?_ ?_
  · cbv
    refine And.intro (HoldAt.mk ?_) (Head.mk ?_ ?_ ?_ ?_ ?_ ?_)
    · exact ⟨by decide, by simp, Pre.zero ts⟩
    all_goals cbv
    refine ⟨BlkLe.flat (fun h => h) hflat, trivial⟩
  · rintro i ⟨h1, h2, h3⟩
    cbv
    repeat' first
      | with_reducible exact trivial
      | ((with_reducible intro v hv); (try rw [wrap_i64] at hv); cbv)
      | ((with_reducible apply uAnd); (focus first | omega | (cbv; done) | kernel_rfl); try cbv)
      | ((with_reducible apply And.intro) <;> (with_reducible intro h) <;> first | ((with_reducible exfalso); omega) | cbv)
      | ((with_reducible apply ld hrows); (focus omega); rintro ⟨k, p, d, cl, ch, pr⟩ hx; cbv)
      | ((with_reducible apply CallT.pureB (refMayC _ _ _ _ _ _ _ _)) <;> intro h <;> cbv)
    · skip
      have ew : v = i.toNat := by omega
      subst ew
      obtain ⟨t0, ht0, hok0, hp0⟩ : ∃ t : Task, ts[i.toNat]? = some t ∧ Ok t ∧ t.prio = pr := ⟨_, hx, h, rfl⟩
      clear hx h
      with_reducible
       refine LoopT.invR X (α := Int) 33 [] (fun s => oI (s.at 4)) (fun s => [])
        (fun j => [some (.sym (.slice 0 6 0 n cap opn none)), none, none, some (.sym (.int .i64 i)), some (.sym (.int .i64 j))])
        (fun j => [some (.cells false 6 rows)])
        (fun j => 0 ≤ j ∧ j ≤ i ∧ t0.prio ∉ (prios ts).take j.toNat) (fun j => (i - j).toNat) ?_ ?_
      · cbv
        refine And.intro (HoldAt.mk ?_) (Head.mk ?_ ?_ ?_ ?_ ?_ ?_)
        · exact ⟨by decide, h1, by simp⟩
        all_goals cbv
        refine ⟨BlkLe.flat (fun h => h) hflat, trivial⟩
      · rintro j ⟨j1, j2, j3⟩
        cbv
        repeat' first
          | with_reducible exact trivial
          | ((with_reducible intro v hv); (try rw [wrap_i64] at hv); cbv)
          | ((with_reducible apply uAnd); (focus first | omega | (cbv; done) | kernel_rfl); try cbv)
          | ((with_reducible apply And.intro) <;> (with_reducible intro h) <;> first | ((with_reducible exfalso); omega) | cbv)
          | ((with_reducible apply ld hrows); (focus omega); rintro ⟨k, p, d, cl, ch, pr⟩ hx; cbv)
        · rename_i v2 hv2 k2 p2 d2 cl2 ch2 pr2 hx2
          have e2 : v2 = j.toNat := by omega
          have e3 : v = i.toNat := by omega
          subst e2; subst e3
          rw [ht0, Option.some.injEq] at hx
          subst hx
          have hlt : j.toNat < i.toNat := by omega
          refine ⟨false, ⟨(fun e => by cases e), fun ha => absurd ha (not_nodup_at ht0 ?_)⟩, rfl⟩
          refine List.mem_of_getElem? (i := j.toNat) ?_
          rw [List.getElem?_take, if_pos hlt, prio_at hx2]
          exact congrArg some h
        · rename_i v2 hv2 k2 p2 d2 cl2 ch2 pr2 hx2 v3 hv3
          have e2 : v2 = j.toNat := by omega
          have e3 : v3 = i.toNat := by omega
          subst e2; subst e3
          rw [ht0, Option.some.injEq] at hx
          subst hx
          refine And.intro (And.intro (HoldAt.mk ?_) True.intro) (Head.mk ?_ ?_ ?_ ?_ ?_ ?_)
          · have e4 : v.toNat = j.toNat + 1 := by omega
            refine ⟨⟨by omega, by omega, ?_⟩, by omega⟩
            rw [e4, take_succ_at (prio_at hx2), List.mem_append, not_or]
            exact ⟨j3, fun hm => h (List.mem_singleton.1 hm).symm⟩
          all_goals cbv
          refine ⟨BlkLe.flat (fun h => h) hflat, trivial⟩
        · refine And.intro (And.intro (HoldAt.mk ?_) True.intro) (Head.mk ?_ ?_ ?_ ?_ ?_ ?_)
          · have e4 : v.toNat = i.toNat + 1 := by omega
            have e5 : j = i := by omega
            subst e5
            refine ⟨⟨by omega, by omega, ?_⟩, by omega⟩
            rw [e4]
            exact h3.succ ht0 hok0 j3
          all_goals cbv
          refine ⟨BlkLe.flat (fun h => h) hflat, trivial⟩
    · exact ⟨false, ⟨(fun e => by cases e), fun ha => absurd ha (not_ok_at hx h)⟩, rfl⟩
    · exact ⟨true, ⟨fun _ => h3.all (by omega), fun _ => rfl⟩, rfl⟩
end Go.Proofs.Ytoajpihpldndcaa.Dem

namespace Go.Proofs.Ytoajpihpldndcaa.Dem
open Go.Ab
set_option linter.unusedVariables false
set_option linter.unusedSimpArgs false

def term (p k : Int) (t : Task) : Int := if t.prio < p then t.chigh * ((k + t.period - 1).tdiv t.period) else 0
def bsum (p k : Int) : List Task → Int
  | [] => 0
  | t :: ts => term p k t + bsum p k ts
theorem bsum_append (p k : Int) : ∀ xs ys : List Task, bsum p k (xs ++ ys) = bsum p k xs + bsum p k ys
  | [], ys => by simp [bsum]
  | t :: xs, ys => by simp only [List.cons_append, bsum, bsum_append p k xs ys]; omega
theorem bsum_succ {p k : Int} {ts : List Task} {j : Nat} {t : Task} (h : ts[j]? = some t) : bsum p k (ts.take (j + 1)) = bsum p k (ts.take j) + term p k t := by
  rw [take_succ_at h, bsum_append]; simp [bsum]
theorem bsum_all {p k : Int} {ts : List Task} {j : Nat} (h : ts.length ≤ j) : bsum p k (ts.take j) = bsum p k ts := by rw [List.take_of_length_le h]
/-- What is given. -/
def SpecD (ts : List Task) (i k r e : Int) : Prop :=
  (OkAll ts ∧ 0 ≤ i ∧ 0 ≤ k ∧ k ≤ 4096 ∧ e = 0 ∧ ∃ t, ts[i.toNat]? = some t ∧ r = IntKind.wrap .i64 (t.chigh + bsum t.prio k ts)) ∨ (¬ (OkAll ts ∧ 0 ≤ i ∧ i.toNat < ts.length ∧ 0 ≤ k ∧ k ≤ 4096) ∧ r = 0 ∧ e = 800)
theorem ok_of {ts : List Task} (h : OkAll ts) {j : Nat} {t : Task} (ht : ts[j]? = some t) : Ok t := h.1 t (List.mem_of_getElem? ht)
theorem div_bound {k p : Int} (h1 : 0 ≤ k) (h2 : k ≤ 4096) (h3 : 1 ≤ p) (h4 : p ≤ 1024) : 0 ≤ (k + p - 1).tdiv p ∧ (k + p - 1).tdiv p ≤ 6000 := by
  have e : (k + p - 1).tdiv p = (k + p - 1) / p := Int.tdiv_eq_ediv_of_nonneg (by omega)
  rw [e]
  have h5 : 0 ≤ (k + p - 1) / p := Int.ediv_nonneg (by omega) (by omega)
  have h6 : (k + p - 1) / p ≤ k + p - 1 := Int.ediv_le_self _ (by omega)
  omega
theorem mul_bound {c d : Int} (h1 : 0 ≤ c) (h2 : c ≤ 1024) (h3 : 0 ≤ d) (h4 : d ≤ 6000) : 0 ≤ c * d ∧ c * d ≤ 6144000 :=
  ⟨Int.mul_nonneg h1 h3, by
    have := Int.mul_le_mul h2 h4 h3 (by omega)
    omega⟩

theorem ok_vars {ts : List Task} (h : OkAll ts) {j : Nat} {kd p d cl ch pr : Int} (ht : ts[j]? = some ⟨kd, p, d, cl, ch, pr⟩) : 1 ≤ p ∧ p ≤ 1024 ∧ 1 ≤ ch ∧ ch ≤ 1024 ∧ 0 ≤ pr ∧ pr ≤ 255 := by
  obtain ⟨_, h1, h2, h3, h4, h5, h6, h7, h8, h9⟩ := ok_of h ht
  dsimp only at *
  omega
theorem bs_vars {P k : Int} {ts : List Task} {j : Nat} {kd p d cl ch pr : Int} (ht : ts[j]? = some ⟨kd, p, d, cl, ch, pr⟩) :
    (pr < P ∧ bsum P k (ts.take (j + 1)) = bsum P k (ts.take j) + ch * ((k + p - 1).tdiv p)) ∨ (P ≤ pr ∧ bsum P k (ts.take (j + 1)) = bsum P k (ts.take j)) := by
  have h := bsum_succ (p := P) (k := k) ht
  by_cases e : pr < P
  · exact .inl ⟨e, by rw [h]; simp [term, e]⟩
  · exact .inr ⟨by omega, by rw [h]; simp [term, e]⟩
theorem val_of {k p ch v1 v2 v3 v4 : Int} (h1 : 0 ≤ k) (h2 : k ≤ 4096) (hp : 1 ≤ p ∧ p ≤ 1024 ∧ 1 ≤ ch ∧ ch ≤ 1024) (e1 : v1 = IntKind.wrap .i64 (k + p)) (e2 : v2 = IntKind.wrap .i64 (v1 - 1)) (e3 : v3 = IntKind.wrap .i64 (v2.tdiv p)) (e4 : v4 = IntKind.wrap .i64 (ch * v3)) :
    v4 = ch * ((k + p - 1).tdiv p) ∧ 0 ≤ v4 ∧ v4 ≤ 6144000 := by
  rw [wrap_i64] at e1 e2
  have f1 : v1 = k + p := by omega
  have f2 : v2 = k + p - 1 := by omega
  subst f2
  have b := div_bound h1 h2 hp.1 hp.2.1
  rw [wrap_i64] at e3
  have f3 : v3 = (k + p - 1).tdiv p := by omega
  subst f3
  have m := mul_bound (c := ch) (by omega) hp.2.2.2 b.1 b.2
  rw [wrap_i64] at e4
  omega
theorem wrap_step {a b s acc acc' : Int} (h : acc = IntKind.wrap .i64 (a + s)) (h' : acc' = IntKind.wrap .i64 (acc + b)) : acc' = IntKind.wrap .i64 (a + (s + b)) := by
  rw [wrap_i64] at *
  omega

set_option maxHeartbeats 4000000 in
theorem boundC (ts : List Task) (rows : List (List AV)) (n cap : Nat) (opn : Bool) (hn : n = ts.length) (hsz : n * 48 ≤ 140737488351232) (hflat : ∀ row ∈ rows, AV.flatL row = true) (hrows : At tv ts rows) (i k : Int) :
    CallS Try.prog 9 [.sym (.slice 0 6 0 n cap opn none), .sym (.int .i64 i), .sym (.int .i64 k)] (memB [some (.cells false 6 rows)] []) 1 fun v _ _ => v.flat = true ∧ ∃ r e, SpecD ts i k r e ∧ Go.Ab.full v = .tuple [.sym (.int .i64 r), .sym (.int .i64 e)] := by
  refine CallS.enter X Try.func9 (by decide) ?_
  cbv
  with_reducible apply CallT.readB (mayAll ts rows n cap opn hn hsz hflat hrows)
  focus rfl
  focus rfl
  focus exact hflat
  rotate_left
  · intro hno
    cbv
    exact ⟨0, 800, .inr ⟨fun h => hno h.1, rfl, rfl⟩, rfl⟩
  intro hall
  cbv
  repeat' first
    | with_reducible exact trivial
    | ((with_reducible intro v hv); (try rw [wrap_i64] at hv); cbv)
    | ((with_reducible apply uAnd); (focus first | omega | (cbv; done) | kernel_rfl); try cbv)
    | ((with_reducible apply And.intro) <;> (with_reducible intro h) <;> first | ((with_reducible exfalso); omega) | cbv)
    | ((with_reducible apply ld hrows); (focus omega); rintro ⟨kd, p, d, cl, ch, pr⟩ hx; cbv)
  all_goals try (refine ⟨0, 800, .inr ⟨fun ⟨_, a, b, c, d⟩ => by omega, rfl, rfl⟩, rfl⟩; done)
  rename_i w hw
  have hok0 := ok_vars hall hx
  obtain ⟨t0, q0, c0, ht0, hp0, hc0, eq, ec⟩ : ∃ (t : Task) (q c : Int), ts[i.toNat]? = some t ∧ t.prio = q ∧ t.chigh = c ∧ q = pr ∧ c = ch := by
    rw [show w = i.toNat by omega] at hx
    exact ⟨_, _, _, hx, rfl, rfl, rfl, rfl⟩
  clear hx hw
  subst eq ec
  with_reducible
   refine LoopT.invR X (α := Int × Int) 66 [] (fun s => (oI (s.at 39), oI (s.at 8))) (fun s => [])
    (fun a => [some (.sym (.slice 0 6 0 n cap opn none)), some (.sym (.int .i64 i)), some (.sym (.int .i64 k)), none, none, none, none, none, some (.sym (.int .i64 a.2)), none, none, none, none, none, none, none, none, none, none, none, none, none, none, none, none, none, none, none, none, none, none, none, none, none, none, none, none, some (.sym (.slice 0 6 0 n cap opn none)), some (.sym (.int .i64 v)), some (.sym (.int .i64 a.1))])
    (fun a => [some (.cells false 6 rows)])
    (fun a => 0 ≤ a.1 ∧ a.1.toNat ≤ n ∧ a.2 = IntKind.wrap .i64 (c0 + bsum q0 k (ts.take a.1.toNat))) (fun a => n - a.1.toNat) ?_ ?_
  · cbv
    refine And.intro (HoldAt.mk ?_) (Head.mk ?_ ?_ ?_ ?_ ?_ ?_)
    · refine ⟨by simp, by simp, ?_⟩
      rw [wrap_i64]
      dsimp only
      simp only [Int.toNat_zero, List.take_zero, bsum]
      omega
    all_goals cbv
    refine ⟨BlkLe.flat (fun h => h) hflat, trivial⟩
  · rintro ⟨j, acc⟩ ⟨j1, j2, j3⟩
    dsimp only at j1 j2 j3
    cbv
    repeat' first
      | with_reducible exact trivial
      | ((with_reducible intro v hv); cbv)
      | ((with_reducible apply uAnd); (focus first | omega | (cbv; done) | kernel_rfl); try cbv)
      | ((with_reducible apply And.intro) <;> (with_reducible intro h) <;> first | ((with_reducible exfalso); omega) | cbv)
      | ((with_reducible apply ld hrows); (focus omega); rintro ⟨kd, p, d, cl, ch, pr⟩ hx; (first | (rw [show v = j.toNat by omega] at hx; have hbs := bs_vars (P := q0) (k := k) hx) | (rw [show v = i.toNat by omega, ht0] at hx; have hpr : q0 = pr := by cases hx; exact hp0.symm)); (try have hok := ok_vars hall hx); cbv)
    · rename_i kd2 p2 d2 cl2 ch2 pr2 hx2 vi hvi v1 e1 v2 e2 v3 e3 v4 e4 v5 e5
      have hv4 := val_of (by assumption) (by assumption) ⟨hok.1, hok.2.1, hok.2.2.1, hok.2.2.2.1⟩ e1 e2 e3 e4
      rw [wrap_i64] at hv
      have e6 : v.toNat = j.toNat + 1 := by omega
      refine And.intro (And.intro (HoldAt.mk ?_) True.intro) (Head.mk ?_ ?_ ?_ ?_ ?_ ?_)
      · dsimp only
        refine ⟨⟨by omega, by omega, ?_⟩, by omega⟩
        rw [e6, show bsum q0 k (ts.take (j.toNat + 1)) = bsum q0 k (ts.take j.toNat) + v4 by omega]
        exact wrap_step j3 e5
      all_goals cbv
      refine ⟨BlkLe.flat (fun h => h) hflat, trivial⟩
    · rw [wrap_i64] at hv
      have e6 : v.toNat = j.toNat + 1 := by omega
      refine And.intro (And.intro (HoldAt.mk ?_) True.intro) (Head.mk ?_ ?_ ?_ ?_ ?_ ?_)
      · dsimp only
        refine ⟨⟨by omega, by omega, ?_⟩, by omega⟩
        rw [e6, show bsum q0 k (ts.take (j.toNat + 1)) = bsum q0 k (ts.take j.toNat) by omega]
        exact j3
      all_goals cbv
      refine ⟨BlkLe.flat (fun h => h) hflat, trivial⟩
    · refine ⟨_, _, .inl ⟨hall, by assumption, by assumption, by assumption, rfl, t0, ht0, ?_⟩, rfl⟩
      rw [j3, bsum_all (by omega), hp0, hc0]

theorem val_of' {k p ch v1 v2 v3 v4 : Int} (h1 : 0 ≤ k) (h2 : k ≤ 4096) (hp : 1 ≤ p ∧ p ≤ 1024 ∧ 1 ≤ ch ∧ ch ≤ 1024) (e1 : v1 = IntKind.wrap .i64 (k + p)) (e2 : v2 = IntKind.wrap .i64 (v1 - 1)) (e3 : v3 = IntKind.wrap .i64 (v2.tdiv p)) (e4 : v4 = IntKind.wrap .i64 (v3 * ch)) :
    v4 = ch * ((k + p - 1).tdiv p) ∧ 0 ≤ v4 ∧ v4 ≤ 6144000 := val_of h1 h2 hp e1 e2 e3 (by rw [Int.mul_comm]; exact e4)

set_option maxRecDepth 200000 in
set_option maxHeartbeats 4000000 in
theorem refBoundI (ts : List Task) (rows : List (List AV)) (n cap : Nat) (opn : Bool) (hn : n = ts.length) (hsz : n * 48 ≤ 140737488351232) (hflat : ∀ row ∈ rows, AV.flatL row = true) (hrows : At tv ts rows) (i k : Int)
    (hall : OkAll ts) (t0 : Task) (ht0 : ts[i.toNat]? = some t0) (hi : 0 ≤ i) (hk1 : 0 ≤ k) (hk2 : k ≤ 4096) :
    CallS Try.prog 17 [.sym (.slice 0 6 0 n cap opn none), .sym (.int .i64 i), .sym (.int .i64 k)] (memB [some (.cells false 6 rows)] []) 1 fun v _ _ => v.flat = true ∧ ∃ r, r = IntKind.wrap .i64 (t0.chigh + bsum t0.prio k ts) ∧ Go.Ab.full v = .sym (.int .i64 r) := by
  have hil : i.toNat < ts.length := (List.getElem?_eq_some_iff.1 ht0).1
  obtain ⟨q0, hp0⟩ : ∃ q, t0.prio = q := ⟨_, rfl⟩
  obtain ⟨c0, hc0⟩ : ∃ q, t0.chigh = q := ⟨_, rfl⟩
  refine CallS.enter X Try.func17 (by decide) ?_
  cbv
  repeat' first
    | with_reducible exact trivial
    | ((with_reducible intro v hv); cbv)
    | ((with_reducible apply uAnd); (focus first | omega | (cbv; done) | kernel_rfl); try cbv)
    | ((with_reducible apply And.intro) <;> (with_reducible intro h) <;> first | ((with_reducible exfalso); omega) | cbv)
    | ((with_reducible apply ld hrows); (focus omega); rintro ⟨kd, p, d, cl, ch, pr⟩ hx; (rw [show v = i.toNat by omega] at hx); cbv)
  have hok0 := ok_vars hall hx
  have hri : rows[i.toNat]? = some [.sym (.int .i64 kd), .sym (.int .i64 p), .sym (.int .i64 d), .sym (.int .i64 cl), .sym (.int .i64 ch), .sym (.int .i64 pr)] := hrows _ _ hx
  have eq : c0 = ch ∧ q0 = pr := by
    rw [ht0] at hx; cases hx; exact ⟨hc0.symm, hp0.symm⟩
  obtain ⟨eq, eq2⟩ := eq
  clear hx
  subst eq eq2
  with_reducible
   refine LoopT.invR X (α := Int × Int) 54 [] (fun s => (oI (s.at 8), oI (s.at 7))) (fun s => [])
    (fun a => [some (.sym (.slice 0 6 0 n cap opn none)), some (.sym (.int .i64 i)), some (.sym (.int .i64 k)), none, none, none, none, some (.sym (.int .i64 a.2)), some (.sym (.int .i64 a.1))])
    (fun a => [some (.cells false 6 rows)])
    (fun a => 0 ≤ a.1 ∧ a.1.toNat ≤ n ∧ a.2 = IntKind.wrap .i64 (c0 + bsum q0 k (ts.take a.1.toNat))) (fun a => n - a.1.toNat) ?_ ?_
  · cbv
    refine And.intro (HoldAt.mk ?_) (Head.mk ?_ ?_ ?_ ?_ ?_ ?_)
    · refine ⟨by simp, by simp, ?_⟩
      rw [wrap_i64]
      dsimp only
      simp only [Int.toNat_zero, List.take_zero, bsum]
      omega
    all_goals cbv
    refine ⟨BlkLe.flat (fun h => h) hflat, trivial⟩
  · rintro ⟨j, acc⟩ ⟨j1, j2, j3⟩
    dsimp only at j1 j2 j3
    cbv
    repeat' first
      | with_reducible exact trivial
      | ((with_reducible intro v hv); cbv)
      | ((with_reducible apply uAnd); (focus first | omega | (cbv; done) | kernel_rfl); try cbv)
      | ((with_reducible apply And.intro) <;> (with_reducible intro h) <;> first | ((with_reducible exfalso); omega) | cbv)
      | ((with_reducible apply ldAt hri); (focus omega); cbv)
      | ((with_reducible apply ldAt hrj); (focus omega); cbv)
      | ((with_reducible apply ld hrows); (focus omega); rintro ⟨kd, p, d, cl, ch, pr⟩ hx; rw [show v = j.toNat by omega] at hx; have hrj : rows[j.toNat]? = some [.sym (.int .i64 kd), .sym (.int .i64 p), .sym (.int .i64 d), .sym (.int .i64 cl), .sym (.int .i64 ch), .sym (.int .i64 pr)] := hrows _ _ hx; have hbs := bs_vars (P := q0) (k := k) hx; have hok := ok_vars hall hx; cbv)
    · rename_i u1 f1 u2 f2 v1 e1 v2 e2 u3 f3 v3 e3 u4 f4 v4 e4 v5 e5
      have hv4 := val_of' hk1 hk2 ⟨hok.1, hok.2.1, hok.2.2.1, hok.2.2.2.1⟩ e1 e2 e3 e4
      rw [wrap_i64] at hv
      have e6 : v.toNat = j.toNat + 1 := by omega
      refine And.intro (And.intro (HoldAt.mk ?_) True.intro) (Head.mk ?_ ?_ ?_ ?_ ?_ ?_)
      · dsimp only
        refine ⟨⟨by omega, by omega, ?_⟩, by omega⟩
        rw [e6, show bsum q0 k (ts.take (j.toNat + 1)) = bsum q0 k (ts.take j.toNat) + v4 by omega]
        exact wrap_step j3 e5
      all_goals cbv
      refine ⟨BlkLe.flat (fun h => h) hflat, trivial⟩
    · rw [wrap_i64] at hv
      have e6 : v.toNat = j.toNat + 1 := by omega
      refine And.intro (And.intro (HoldAt.mk ?_) True.intro) (Head.mk ?_ ?_ ?_ ?_ ?_ ?_)
      · dsimp only
        refine ⟨⟨by omega, by omega, ?_⟩, by omega⟩
        rw [e6, show bsum q0 k (ts.take (j.toNat + 1)) = bsum q0 k (ts.take j.toNat) by omega]
        exact j3
      all_goals cbv
      refine ⟨BlkLe.flat (fun h => h) hflat, trivial⟩
    · refine ⟨_, ?_, rfl⟩
      rw [j3, bsum_all (by omega), hp0, hc0]

set_option maxRecDepth 200000 in
set_option maxHeartbeats 4000000 in
theorem refBoundC (ts : List Task) (rows : List (List AV)) (n cap : Nat) (opn : Bool) (hn : n = ts.length) (hsz : n * 48 ≤ 140737488351232) (hflat : ∀ row ∈ rows, AV.flatL row = true) (hrows : At tv ts rows) (i k : Int) :
    CallS Try.prog 10 [.sym (.slice 0 6 0 n cap opn none), .sym (.int .i64 i), .sym (.int .i64 k)] (memB [some (.cells false 6 rows)] []) 1 fun v _ _ => v.flat = true ∧ ∃ r e, SpecD ts i k r e ∧ Go.Ab.full v = .tuple [.sym (.int .i64 r), .sym (.int .i64 e)] := by
  refine CallS.enter X Try.func10 (by decide) ?_
  cbv
  with_reducible apply CallT.readB (refMayAll ts rows n cap opn hn hsz hflat hrows)
  focus rfl
  focus rfl
  focus exact hflat
  rotate_left
  · intro hno
    cbv
    exact ⟨0, 800, .inr ⟨fun h => hno h.1, rfl, rfl⟩, rfl⟩
  intro hall
  cbv
  repeat' first
    | with_reducible exact trivial
    | ((with_reducible intro v hv); cbv)
    | ((with_reducible apply uAnd); (focus first | omega | (cbv; done) | kernel_rfl); try cbv)
    | ((with_reducible apply And.intro) <;> (with_reducible intro h) <;> first | ((with_reducible exfalso); omega) | cbv)
  all_goals try (refine ⟨0, 800, .inr ⟨fun ⟨_, a, b, c, d⟩ => by omega, rfl, rfl⟩, rfl⟩; done)
  have hil : i.toNat < ts.length := by omega
  have ht0 := List.getElem?_eq_getElem hil
  with_reducible apply CallT.readF (R0 := fun v => ∃ r, r = IntKind.wrap .i64 (ts[i.toNat].chigh + bsum ts[i.toNat].prio k ts) ∧ v = .sym (.int .i64 r)) (refBoundI ts rows n cap opn hn hsz hflat hrows i k hall _ ht0 (by assumption) (by assumption) (by assumption))
  focus rfl
  focus rfl
  focus exact hflat
  rintro v2 ⟨r, hr, rfl⟩
  cbv
  exact ⟨_, _, .inl ⟨hall, by assumption, by assumption, by assumption, rfl, _, ht0, hr⟩, rfl⟩

/-! ### without any task -/
theorem okAll_nil : OkAll [] := ⟨(fun t h => by cases h), List.Pairwise.nil⟩
set_option maxHeartbeats 4000000 in
theorem boundNil (i k : Int) (m : Mem) (c : Nat) : CallS Try.prog 9 [.nilslice, .sym (.int .i64 i), .sym (.int .i64 k)] m c fun v m' c' => v = .tuple [.sym (.int .i64 0), .sym (.int .i64 800)] ∧ m' = m ∧ c' = c := by
  refine CallS.at0 X Try.func9 (by decide) rfl (d := 2) (R0 := fun v => v = .tuple [.sym (.int .i64 0), .sym (.int .i64 800)]) ?_ m c
  cbv
  repeat' first
    | with_reducible exact trivial
    | ((with_reducible intro v hv); cbv)
    | ((with_reducible apply uAnd); (focus first | omega | (cbv; done) | kernel_rfl); try cbv)
    | ((with_reducible apply And.intro) <;> (with_reducible intro h) <;> first | ((with_reducible exfalso); omega) | cbv)
    | ((with_reducible apply CallT.enter X Try.func15 (by decide)); cbv)
    | ((with_reducible apply LoopT.once X); cbv)
set_option maxHeartbeats 4000000 in
theorem refBoundNil (i k : Int) (m : Mem) (c : Nat) : CallS Try.prog 10 [.nilslice, .sym (.int .i64 i), .sym (.int .i64 k)] m c fun v m' c' => v = .tuple [.sym (.int .i64 0), .sym (.int .i64 800)] ∧ m' = m ∧ c' = c := by
  refine CallS.at0 X Try.func10 (by decide) rfl (d := 2) (R0 := fun v => v = .tuple [.sym (.int .i64 0), .sym (.int .i64 800)]) ?_ m c
  cbv
  repeat' first
    | with_reducible exact trivial
    | ((with_reducible intro v hv); cbv)
    | ((with_reducible apply uAnd); (focus first | omega | (cbv; done) | kernel_rfl); try cbv)
    | ((with_reducible apply And.intro) <;> (with_reducible intro h) <;> first | ((with_reducible exfalso); omega) | cbv)
    | ((with_reducible apply CallT.enter X Try.func16 (by decide)); cbv)
    | ((with_reducible apply LoopT.once X); cbv)
end Go.Proofs.Ytoajpihpldndcaa.Dem

namespace Go.Proofs.Ytoajpihpldndcaa.Dem
open Go.Ab
def tvals (t : Task) : List Value := [.int .i64 t.kind, .int .i64 t.period, .int .i64 t.deadline, .int .i64 t.clow, .int .i64 t.chigh, .int .i64 t.prio]
def TaskIn (t : Task) : Prop := inI t.kind ∧ inI t.period ∧ inI t.deadline ∧ inI t.clow ∧ inI t.chigh ∧ inI t.prio
theorem task_open {row : List Value} (h : allOk [.int .i64, .int .i64, .int .i64, .int .i64, .int .i64, .int .i64] row) : ∃ t, row = tvals t ∧ TaskIn t := by
  rcases row with _ | ⟨a0, row⟩
  · exact h.elim
  rcases row with _ | ⟨a1, row⟩
  · exact h.2.elim
  rcases row with _ | ⟨a2, row⟩
  · exact h.2.2.elim
  rcases row with _ | ⟨a3, row⟩
  · exact h.2.2.2.elim
  rcases row with _ | ⟨a4, row⟩
  · exact h.2.2.2.2.elim
  rcases row with _ | ⟨a5, row⟩
  · exact h.2.2.2.2.2.elim
  rcases row with _ | ⟨a6, row⟩
  · obtain ⟨⟨x0, rfl, h0⟩, ⟨x1, rfl, h1⟩, ⟨x2, rfl, h2⟩, ⟨x3, rfl, h3⟩, ⟨x4, rfl, h4⟩, ⟨x5, rfl, h5⟩, _⟩ := h
    exact ⟨⟨x0, x1, x2, x3, x4, x5⟩, rfl, wf_i64 h0, wf_i64 h1, wf_i64 h2, wf_i64 h3, wf_i64 h4, wf_i64 h5⟩
  · exact h.2.2.2.2.2.2.elim
end Go.Proofs.Ytoajpihpldndcaa.Dem

namespace Go.Proofs.Ytoajpihpldndcaa.Dem
open Go.Ab
set_option linter.unusedVariables false
set_option linter.unusedSimpArgs false

/-- demand.Bound at any memory in which the tasks lie. -/
theorem boundT {ts : List Task} {rows : List (List AV)} {n cap : Nat} {opn : Bool} (hn : n = ts.length) (hsz : n * 48 ≤ 140737488351232) (hflat : ∀ row ∈ rows, AV.flatL row = true) (hrows : At tv ts rows) (i k : Int)
    {vs : List AV} {m : Mem} {c l : Nat} {rw : Bool} {K : AV → Mem → Nat → Prop}
    (hv : leL (oneAt l) vs [.sym (.slice 0 6 0 n cap opn none), .sym (.int .i64 i), .sym (.int .i64 k)]) (hk : m.get l = some (.cells rw 6 rows))
    (h1 : OkAll ts ∧ 0 ≤ i ∧ i.toNat < n ∧ 0 ≤ k ∧ k ≤ 4096 → ∀ t, ts[i.toNat]? = some t → ∀ r : Int, r = IntKind.wrap .i64 (t.chigh + bsum t.prio k ts) → K (.tuple [.sym (.int .i64 r), .int .i64 0]) m c)
    (h2 : ¬ (OkAll ts ∧ 0 ≤ i ∧ i.toNat < n ∧ 0 ≤ k ∧ k ≤ 4096) → K (.tuple [.int .i64 0, .int .i64 800]) m c) : CallT (fun _ => Try.prog) 9 vs m c K := by
  refine CallT.readV (R0 := fun v => ∃ r e, SpecD ts i k r e ∧ v = .tuple [.sym (.int .i64 r), .sym (.int .i64 e)]) (boundC ts rows n cap opn hn hsz hflat hrows i k) hv hk hflat ?_
  rintro v ⟨r, e, ⟨ha, hi, hk1, hk2, rfl, t, ht, hr⟩ | ⟨hno, rfl, rfl⟩, rfl⟩
  · exact ⟨_, rfl, h1 ⟨ha, hi, by rw [hn]; exact (List.getElem?_eq_some_iff.1 ht).1, hk1, hk2⟩ t ht r hr⟩
  · exact ⟨_, rfl, h2 (by rw [hn]; exact hno)⟩

/-- One more tick: a job more of those whose period begins. -/
theorem div_next {k p : Int} (h : 0 ≤ k) (hp : 1 ≤ p) : (k + 1 + p - 1).tdiv p = (k + p - 1).tdiv p + if k.tmod p = 0 then 1 else 0 := by
  rw [Int.tdiv_eq_ediv_of_nonneg (by omega), Int.tdiv_eq_ediv_of_nonneg (by omega), Int.tmod_eq_emod_of_nonneg h]
  have e1 := Int.mul_ediv_add_emod k p
  have e2 := Int.emod_nonneg k (show p ≠ 0 by omega)
  have e3 := Int.emod_lt_of_pos k (show 0 < p by omega)
  have f1 : (k + 1 + p - 1) / p = k / p + 1 := by
    rw [show k + 1 + p - 1 = k + p * 1 by omega, Int.add_mul_ediv_left _ _ (by omega)]
  rw [f1]
  by_cases h0 : k % p = 0
  · rw [if_pos h0]
    have : (k + p - 1) / p = k / p := by
      rw [show k + p - 1 = (p - 1) + p * (k / p) by omega, Int.add_mul_ediv_left _ _ (by omega), Int.ediv_eq_zero_of_lt (by omega) (by omega)]
      omega
    omega
  · rw [if_neg h0]
    have : (k + p - 1) / p = k / p + 1 := by
      rw [show k + p - 1 = (k % p - 1) + p * (k / p + 1) by rw [Int.mul_add]; omega, Int.add_mul_ediv_left _ _ (by omega), Int.ediv_eq_zero_of_lt (by omega) (by omega)]
      omega
    omega
def msum (p k : Int) : List Task → Int
  | [] => 0
  | t :: ts => (if t.prio < p ∧ k.tmod t.period = 0 then t.chigh else 0) + msum p k ts
theorem msum_append (p k : Int) : ∀ xs ys : List Task, msum p k (xs ++ ys) = msum p k xs + msum p k ys
  | [], ys => by simp [msum]
  | t :: xs, ys => by simp only [List.cons_append, msum, msum_append p k xs ys]; omega
theorem ms_vars {P k : Int} {ts : List Task} {j : Nat} {kd p d cl ch pr : Int} (ht : ts[j]? = some ⟨kd, p, d, cl, ch, pr⟩) :
    ((pr < P ∧ k.tmod p = 0) ∧ msum P k (ts.take (j + 1)) = msum P k (ts.take j) + ch) ∨ (¬ (pr < P ∧ k.tmod p = 0) ∧ msum P k (ts.take (j + 1)) = msum P k (ts.take j)) := by
  have h : msum P k (ts.take (j + 1)) = msum P k (ts.take j) + msum P k [⟨kd, p, d, cl, ch, pr⟩] := by rw [take_succ_at ht, msum_append]
  by_cases e : pr < P ∧ k.tmod p = 0
  · exact .inl ⟨e, by rw [h]; simp [msum, e]⟩
  · exact .inr ⟨e, by rw [h]; simp [msum, e]⟩
theorem bsum_next {P k : Int} (hk : 0 ≤ k) : ∀ ts : List Task, (∀ t ∈ ts, Ok t) → bsum P (k + 1) ts = bsum P k ts + msum P k ts
  | [], _ => rfl
  | t :: ts, h => by
    have ih := bsum_next (P := P) hk ts fun u hu => h u (by simp [hu])
    obtain ⟨_, hp, _⟩ := h t (by simp)
    have hd := div_next hk hp
    simp only [bsum, msum, term, ih]
    by_cases e1 : t.prio < P
    · rw [if_pos e1, if_pos e1, hd, Int.mul_add]
      by_cases e2 : k.tmod t.period = 0
      · rw [if_pos e2, if_pos ⟨e1, e2⟩]; omega
      · rw [if_neg e2, if_neg (fun h => e2 h.2)]; omega
    · rw [if_neg e1, if_neg e1, if_neg (fun h => e1 h.1)]; omega
theorem bsum_zero {P : Int} : ∀ ts : List Task, (∀ t ∈ ts, Ok t) → bsum P 0 ts = 0
  | [], _ => rfl
  | t :: ts, h => by
    have ih := bsum_zero (P := P) ts fun u hu => h u (by simp [hu])
    obtain ⟨_, hp, _⟩ := h t (by simp)
    have : (0 + t.period - 1).tdiv t.period = 0 := by
      rw [Int.tdiv_eq_ediv_of_nonneg (by omega)]
      exact Int.ediv_eq_zero_of_lt (by omega) (by omega)
    simp only [bsum, term, ih, this, Int.mul_zero, ite_self, Int.add_zero]

set_option maxRecDepth 200000 in
set_option maxHeartbeats 4000000 in
theorem demandGrows (ts : List Task) (rows : List (List AV)) (n cap : Nat) (hn : n = ts.length) (hflat : ∀ row ∈ rows, AV.flatL row = true) (hrows : At tv ts rows) (hw : ∀ t ∈ ts, TaskIn t) (hsz : n * 48 ≤ 140737488351232) (i len : Int) :
    CallS Try.prog 4 [.sym (.slice 0 6 0 n cap false none), .sym (.int .i64 i), .sym (.int .i64 len)] (memB [some (.cells false 6 rows)] []) 1 fun v _ _ => v = .bool true := by
  refine CallS.enter X Try.func4 (by decide) ?_
  cbv
  with_reducible apply awakeT
  cbv
  with_reducible intro k hk
  have hkb := and_bound (by decide) (by decide) hk
  clear hk
  cbv
  with_reducible apply boundT hn hsz hflat hrows i k
  focus rfl
  focus rfl
  · rintro hok ⟨kd0, p0, d0, cl0, c0, q0⟩ ht0 r hr
    dsimp only at hr
    obtain ⟨hall, hi, hin, _, _⟩ := hok
    have hok0 := ok_vars hall ht0
    have hri : rows[i.toNat]? = some [.sym (.int .i64 kd0), .sym (.int .i64 p0), .sym (.int .i64 d0), .sym (.int .i64 cl0), .sym (.int .i64 c0), .sym (.int .i64 q0)] := hrows _ _ ht0
    cbv
    with_reducible intro k1 hk1
    rw [wrap_i64] at hk1
    have hk1 : k1 = k + 1 := by omega
    cbv
    with_reducible apply boundT hn hsz hflat hrows i k1
    focus rfl
    focus rfl
    rotate_left
    · intro hno
      exact absurd ⟨hall, hi, hin, by omega, by omega⟩ hno
    intro _ t1 ht1 r1 hr1
    rw [ht0] at ht1
    cases ht1
    dsimp only at hr1
    rw [hk1, bsum_next hkb.1 ts hall.1] at hr1
    cbv
    with_reducible apply boundT hn hsz hflat hrows i 0
    focus rfl
    focus rfl
    rotate_left
    · intro hno
      exact absurd ⟨hall, hi, hin, by omega, by omega⟩ hno
    intro _ t2 ht2 r2 hr2
    rw [ht0] at ht2
    cases ht2
    dsimp only at hr2
    rw [bsum_zero ts hall.1] at hr2
    cbv
    repeat' first
      | with_reducible exact trivial
      | ((with_reducible intro v hv); cbv)
      | ((with_reducible apply uAnd); (focus first | omega | (cbv; done) | kernel_rfl); try cbv)
      | ((with_reducible apply And.intro) <;> (with_reducible intro h) <;> first | ((with_reducible exfalso); omega) | cbv)
      | ((with_reducible apply CallT.enter X Try.func11 (by decide)); cbv)
    with_reducible
     refine LoopT.invR X (α := Int × Int) 117 [] (fun s => (oI (s.at 15), oI (s.at 14))) (fun s => [])
      (fun a => [some (.sym (.slice 0 6 0 n cap false none)), some (.sym (.int .i64 i)), none, none, none, none, none, some (.sym (.int .i64 k)), some (.sym (.int .i64 r)), some (.int .i64 0), some (.sym (.int .i64 r1)), some (.int .i64 0), some (.sym (.int .i64 r2)), some (.int .i64 0), some (.sym (.int .i64 a.2)), some (.sym (.int .i64 a.1))])
      (fun a => [some (.cells false 6 rows)])
      (fun a => 0 ≤ a.1 ∧ a.1.toNat ≤ n ∧ a.2 = IntKind.wrap .i64 (msum q0 k (ts.take a.1.toNat))) (fun a => n - a.1.toNat) ?_ ?_
    · cbv
      refine And.intro (HoldAt.mk ?_) (Head.mk ?_ ?_ ?_ ?_ ?_ ?_)
      · refine ⟨by simp, by simp, ?_⟩
        simp only [Int.toNat_zero, List.take_zero, msum]
        rfl
      all_goals cbv
      refine ⟨BlkLe.flat (fun h => h) hflat, trivial⟩
    · rintro ⟨j, acc⟩ ⟨j1, j2, j3⟩
      dsimp only at j1 j2 j3
      cbv
      repeat' first
        | with_reducible exact trivial
        | ((with_reducible intro v hv); cbv)
        | ((with_reducible apply uAnd); (focus first | omega | (cbv; done) | kernel_rfl); try cbv)
        | ((with_reducible apply And.intro) <;> (with_reducible intro h) <;> first | ((with_reducible exfalso); omega) | cbv)
        | ((with_reducible apply CallT.enter X Try.func11 (by decide)); cbv)
        | ((with_reducible apply ldAt hri); (focus omega); cbv)
        | ((with_reducible apply ldAt hrj); (focus omega); cbv)
        | ((with_reducible apply ld hrows); (focus omega); rintro ⟨kd, p, d, cl, ch, pr⟩ hx; rw [show v = j.toNat by omega] at hx; have hrj : rows[j.toNat]? = some [.sym (.int .i64 kd), .sym (.int .i64 p), .sym (.int .i64 d), .sym (.int .i64 cl), .sym (.int .i64 ch), .sym (.int .i64 pr)] := hrows _ _ hx; have hms := ms_vars (P := q0) (k := k) hx; have hok := ok_vars hall hx; cbv)
      all_goals first
        | (refine And.intro (And.intro (HoldAt.mk ?_) True.intro) (Head.mk ?_ ?_ ?_ ?_ ?_ ?_)
           · dsimp only
             simp only [wrap_i64] at *
             have e6 : v.toNat = j.toNat + 1 := by omega
             refine ⟨⟨by omega, by omega, ?_⟩, by omega⟩
             rw [e6]
             omega
           all_goals cbv
           refine ⟨BlkLe.flat (fun h => h) hflat, trivial⟩)
        | (exfalso
           rw [List.take_of_length_le (by omega)] at j3
           simp only [wrap_i64] at *
           omega)
  · intro hno
    cbv
    with_reducible intro k1 hk1
    rw [wrap_i64] at hk1
    have hk1 : k1 = k + 1 := by omega
    cbv
    with_reducible apply boundT hn hsz hflat hrows i k1
    focus rfl
    focus rfl
    · intro hok
      exact absurd ⟨hok.1, hok.2.1, hok.2.2.1, by omega, by omega⟩ hno
    intro _
    cbv
    with_reducible apply boundT hn hsz hflat hrows i 0
    focus rfl
    focus rfl
    · intro hok
      exact absurd ⟨hok.1, hok.2.1, hok.2.2.1, by omega, by omega⟩ hno
    intro _
    cbv
    repeat' first
      | with_reducible exact trivial
      | ((with_reducible intro v hv); cbv)
      | ((with_reducible apply uAnd); (focus first | omega | (cbv; done) | kernel_rfl); try cbv)
      | ((with_reducible apply And.intro) <;> (with_reducible intro h) <;> first | ((with_reducible exfalso); omega) | cbv)
      | ((with_reducible apply CallT.enter X Try.func11 (by decide)); cbv)

theorem boundNilT {A B : AV} {m : Mem} {c : Nat} {K : AV → Mem → Nat → Prop} (hA : Go.Ab.full A = .sym (.int .i64 (iOf A))) (hB : Go.Ab.full B = .sym (.int .i64 (iOf B))) (h : K (.tuple [.int .i64 0, .int .i64 800]) m c) :
    CallT (fun _ => Try.prog) 9 [.nilslice, A, B] m c K := by
  refine ⟨CallS.fullA (CallS.asFull ?_)⟩
  simp only [fullL, Go.Ab.full, hA, hB]
  refine (boundNil (iOf A) (iOf B) m c).mono ?_
  rintro v m' c' ⟨rfl, rfl, rfl⟩
  exact ⟨.tuple [.int .i64 0, .int .i64 800], rfl, h⟩
set_option maxHeartbeats 4000000 in
theorem demandGrowsNil (i len : Int) : CallS Try.prog 4 [.nilslice, .sym (.int .i64 i), .sym (.int .i64 len)] (memB [] []) 0 fun v _ _ => v = .bool true := by
  refine CallS.enter X Try.func4 (by decide) ?_
  cbv
  with_reducible apply awakeT
  cbv
  repeat' first
    | with_reducible exact trivial
    | ((with_reducible intro v hv); cbv)
    | ((with_reducible apply uAnd); (focus first | omega | (cbv; done) | kernel_rfl); try cbv)
    | ((with_reducible apply And.intro) <;> (with_reducible intro h) <;> first | ((with_reducible exfalso); omega) | cbv)
    | ((with_reducible apply CallT.enter X Try.func11 (by decide)); cbv)
    | ((with_reducible apply boundNilT); (focus rfl); (focus rfl); cbv)
end Go.Proofs.Ytoajpihpldndcaa.Dem
