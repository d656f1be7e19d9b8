/- May tasks be, each of a Prio of its own: the program's may, the document's TasksMay. -/
import Derived.Test.YtoajpihpldndcaaDemA
import Derived.Test.YtoajpihpldndcaaAb35
namespace Go.Proofs.Ytoajpihpldndcaa.Dem
open Go.Ab
set_option linter.unusedVariables false
set_option linter.unusedSimpArgs false

def prios (ts : List Task) : List Int := ts.map (·.prio)
/-- May tasks be? -/
def OkAll (ts : List Task) : Prop := (∀ t ∈ ts, Ok t) ∧ (prios ts).Nodup

theorem prio_at {ts : List Task} {j : Nat} {t : Task} (h : ts[j]? = some t) : (prios ts)[j]? = some t.prio := by simp [prios, h]
theorem not_ok_at {ts : List Task} {j : Nat} {t : Task} (h : ts[j]? = some t) (hn : ¬ Ok t) : ¬ OkAll ts := fun ⟨h1, _⟩ => hn (h1 t (List.mem_of_getElem? h))
theorem not_nodup_at {ts : List Task} {j : Nat} {t : Task} (h : ts[j]? = some t) (hm : t.prio ∈ (prios ts).take j) : ¬ OkAll ts := fun ⟨_, h2⟩ => by
  obtain ⟨i, hi⟩ := List.getElem?_of_mem hm
  rw [List.getElem?_take] at hi
  split at hi
  · rename_i hlt
    obtain ⟨l1, e1⟩ := List.getElem?_eq_some_iff.1 hi
    obtain ⟨l2, e2⟩ := List.getElem?_eq_some_iff.1 (prio_at h)
    exact (List.pairwise_iff_getElem.1 h2 _ _ l1 l2 hlt) (e1.trans e2.symm)
  · cases hi
/-- All of the first j. -/
def Pre (ts : List Task) (j : Nat) : Prop := (∀ i t, i < j → ts[i]? = some t → Ok t) ∧ ((prios ts).take j).Nodup
theorem Pre.zero (ts : List Task) : Pre ts 0 := ⟨fun i t h => by omega, by simp⟩
theorem Pre.succ {ts : List Task} {j : Nat} {t : Task} (h : Pre ts j) (ht : ts[j]? = some t) (hok : Ok t) (hn : t.prio ∉ (prios ts).take j) : Pre ts (j + 1) := by
  refine ⟨fun i u hi hu => ?_, ?_⟩
  · by_cases e : i = j
    · subst e; rw [ht] at hu; cases hu; exact hok
    · exact h.1 i u (by omega) hu
  · rw [take_succ_at (prio_at ht), List.nodup_append]
    exact ⟨h.2, by simp, fun a ha b hb e => by simp at hb; subst hb; subst e; exact hn ha⟩
theorem Pre.all {ts : List Task} {j : Nat} (h : Pre ts j) (hj : ts.length ≤ j) : OkAll ts := by
  refine ⟨fun t ht => ?_, ?_⟩
  · obtain ⟨i, hi⟩ := List.getElem?_of_mem ht
    exact h.1 i t (by have := (List.getElem?_eq_some_iff.1 hi).1; omega) hi
  · have := h.2
    rwa [List.take_of_length_le (by simp [prios]; exact hj)] at this

set_option maxHeartbeats 4000000 in
theorem mayAll (ts : List Task) (rows : List (List AV)) (n cap : Nat) (opn : Bool) (hn : n = ts.length) (hsz : n * 48 ≤ 140737488351232) (hflat : ∀ row ∈ rows, AV.flatL row = true) (hrows : At tv ts rows) :
    CallS Try.prog 15 [.sym (.slice 0 6 0 n cap opn none)] (memB [some (.cells false 6 rows)] []) 1 fun v _ _ => v.flat = true ∧ ∃ r, (r = true ↔ OkAll ts) ∧ v = .bool r := by
  obtain ⟨M, hM⟩ : ∃ M : Int → List (AV × AV), ∀ i, M i = kv ((prios ts).take i.toNat) := ⟨_, fun _ => rfl⟩
  refine CallS.enter X Try.func15 (by decide) ?_
  cbv
  with_reducible intro len hlen
  cbv
  with_reducible
   refine LoopT.invR X (α := Int) 26 [] (fun s => oI (s.at 9)) (fun s => [oP (s.at 3)])
    (fun i => [none, none, none, some (.map 1), none, none, none, some (.sym (.slice 0 6 0 n cap opn none)), some (.sym (.int .i64 len)), some (.sym (.int .i64 i))])
    (fun i => [some (.cells false 6 rows), some (.map (M i))])
    (fun i => 0 ≤ i ∧ i.toNat ≤ n ∧ Pre ts i.toNat) (fun i => (len - i).toNat) ?_ ?_
  · cbv
    refine And.intro (HoldAt.mk ?_) (Head.mk ?_ ?_ ?_ ?_ ?_ ?_)
    · exact ⟨by decide, by simp, Pre.zero ts⟩
    all_goals cbv
    refine ⟨BlkLe.flat (fun h => h) hflat, BlkLe.kvM (ps := []) rfl (hM 0), trivial⟩
  · rintro i ⟨h1, h2, h3⟩
    cbv
    repeat' first
      | with_reducible exact trivial
      | ((with_reducible intro v hv); (try rw [wrap_i64] at hv); cbv)
      | ((with_reducible apply uAnd); (focus first | omega | (cbv; done) | kernel_rfl); try cbv)
      | ((with_reducible apply And.intro) <;> (with_reducible intro h) <;> first | ((with_reducible exfalso); omega) | cbv)
      | ((with_reducible apply ld hrows); (focus omega); rintro ⟨k, p, d, cl, ch, pr⟩ hx; cbv)
      | ((with_reducible apply CallT.pureB (mayC _ _ _ _ _ _ _ _)) <;> intro h <;> cbv)
      | ((with_reducible apply lkKvM (hM i)) <;> intro hp <;> cbv)
      | ((with_reducible apply upKvM (hM i) (es2 := M (i + 1))); (focus assumption); (focus
          have e : (i + 1).toNat = v + 1 := by omega
          have e2 : v = i.toNat := by omega
          rw [hM, e, take_succ_at (prio_at hx), e2]); cbv)
    · have e : v = i.toNat := by omega
      subst e
      exact ⟨false, ⟨(fun e => by cases e), fun ha => absurd ha (not_nodup_at hx hp)⟩, rfl⟩
    · rename_i j hj
      have e : j = i.toNat := by omega
      subst e
      refine And.intro (And.intro (HoldAt.mk ?_) True.intro) (Head.mk ?_ ?_ ?_ ?_ ?_ ?_)
      · have e2 : v.toNat = i.toNat + 1 := by omega
        refine ⟨⟨by omega, by omega, ?_⟩, by omega⟩
        rw [e2]
        exact h3.succ hx h hp
      all_goals cbv
      refine ⟨BlkLe.flat (fun h => h) hflat, BlkLe.kvM (hM (i + 1)) ?_, trivial⟩
      show M v = M (i + 1)
      exact congrArg M (by omega)
    · exact ⟨false, ⟨(fun e => by cases e), fun ha => absurd ha (not_ok_at hx h)⟩, rfl⟩
    · exact ⟨true, ⟨fun _ => h3.all (by omega), fun _ => rfl⟩, rfl⟩

set_option maxHeartbeats 4000000 in
theorem refMayAll (ts : List Task) (rows : List (List AV)) (n cap : Nat) (opn : Bool) (hn : n = ts.length) (hsz : n * 48 ≤ 140737488351232) (hflat : ∀ row ∈ rows, AV.flatL row = true) (hrows : At tv ts rows) :
    CallS Try.prog 16 [.sym (.slice 0 6 0 n cap opn none)] (memB [some (.cells false 6 rows)] []) 1 fun v _ _ => v.flat = true ∧ ∃ r, (r = true ↔ OkAll ts) ∧ v = .bool r := by
  refine CallS.enter X Try.func16 (by decide) ?_
  cbv
  with_reducible
   refine LoopT.invR X (α := Int) 33 [] (fun s => oI (s.at 3)) (fun s => [])
    (fun i => [some (.sym (.slice 0 6 0 n cap opn none)), none, none, some (.sym (.int .i64 i))])
    (fun i => [some (.cells false 6 rows)])
    (fun i => 0 ≤ i ∧ i.toNat ≤ n ∧ Pre ts i.toNat) (fun i => n - i.toNat) ?_ ?_
  · cbv
    refine And.intro (HoldAt.mk ?_) (Head.mk ?_ ?_ ?_ ?_ ?_ ?_)
    · exact ⟨by decide, by simp, Pre.zero ts⟩
    all_goals cbv
    refine ⟨BlkLe.flat (fun h => h) hflat, trivial⟩
  · rintro i ⟨h1, h2, h3⟩
    cbv
    repeat' first
      | with_reducible exact trivial
      | ((with_reducible intro v hv); (try rw [wrap_i64] at hv); cbv)
      | ((with_reducible apply uAnd); (focus first | omega | (cbv; done) | kernel_rfl); try cbv)
      | ((with_reducible apply And.intro) <;> (with_reducible intro h) <;> first | ((with_reducible exfalso); omega) | cbv)
      | ((with_reducible apply ld hrows); (focus omega); rintro ⟨k, p, d, cl, ch, pr⟩ hx; cbv)
      | ((with_reducible apply CallT.pureB (refMayC _ _ _ _ _ _ _ _)) <;> intro h <;> cbv)
    · skip
      have ew : v = i.toNat := by omega
      subst ew
      obtain ⟨t0, ht0, hok0, hp0⟩ : ∃ t : Task, ts[i.toNat]? = some t ∧ Ok t ∧ t.prio = pr := ⟨_, hx, h, rfl⟩
      clear hx h
      with_reducible
       refine LoopT.invR X (α := Int) 33 [] (fun s => oI (s.at 4)) (fun s => [])
        (fun j => [some (.sym (.slice 0 6 0 n cap opn none)), none, none, some (.sym (.int .i64 i)), some (.sym (.int .i64 j))])
        (fun j => [some (.cells false 6 rows)])
        (fun j => 0 ≤ j ∧ j ≤ i ∧ t0.prio ∉ (prios ts).take j.toNat) (fun j => (i - j).toNat) ?_ ?_
      · cbv
        refine And.intro (HoldAt.mk ?_) (Head.mk ?_ ?_ ?_ ?_ ?_ ?_)
        · exact ⟨by decide, h1, by simp⟩
        all_goals cbv
        refine ⟨BlkLe.flat (fun h => h) hflat, trivial⟩
      · rintro j ⟨j1, j2, j3⟩
        cbv
        repeat' first
          | with_reducible exact trivial
          | ((with_reducible intro v hv); (try rw [wrap_i64] at hv); cbv)
          | ((with_reducible apply uAnd); (focus first | omega | (cbv; done) | kernel_rfl); try cbv)
          | ((with_reducible apply And.intro) <;> (with_reducible intro h) <;> first | ((with_reducible exfalso); omega) | cbv)
          | ((with_reducible apply ld hrows); (focus omega); rintro ⟨k, p, d, cl, ch, pr⟩ hx; cbv)
        · rename_i v2 hv2 k2 p2 d2 cl2 ch2 pr2 hx2
          have e2 : v2 = j.toNat := by omega
          have e3 : v = i.toNat := by omega
          subst e2; subst e3
          rw [ht0, Option.some.injEq] at hx
          subst hx
          have hlt : j.toNat < i.toNat := by omega
          refine ⟨false, ⟨(fun e => by cases e), fun ha => absurd ha (not_nodup_at ht0 ?_)⟩, rfl⟩
          refine List.mem_of_getElem? (i := j.toNat) ?_
          rw [List.getElem?_take, if_pos hlt, prio_at hx2]
          exact congrArg some h
        · rename_i v2 hv2 k2 p2 d2 cl2 ch2 pr2 hx2 v3 hv3
          have e2 : v2 = j.toNat := by omega
          have e3 : v3 = i.toNat := by omega
          subst e2; subst e3
          rw [ht0, Option.some.injEq] at hx
          subst hx
          refine And.intro (And.intro (HoldAt.mk ?_) True.intro) (Head.mk ?_ ?_ ?_ ?_ ?_ ?_)
          · have e4 : v.toNat = j.toNat + 1 := by omega
            refine ⟨⟨by omega, by omega, ?_⟩, by omega⟩
            rw [e4, take_succ_at (prio_at hx2), List.mem_append, not_or]
            exact ⟨j3, fun hm => h (List.mem_singleton.1 hm).symm⟩
          all_goals cbv
          refine ⟨BlkLe.flat (fun h => h) hflat, trivial⟩
        · refine And.intro (And.intro (HoldAt.mk ?_) True.intro) (Head.mk ?_ ?_ ?_ ?_ ?_ ?_)
          · have e4 : v.toNat = i.toNat + 1 := by omega
            have e5 : j = i := by omega
            subst e5
            refine ⟨⟨by omega, by omega, ?_⟩, by omega⟩
            rw [e4]
            exact h3.succ ht0 hok0 j3
          all_goals cbv
          refine ⟨BlkLe.flat (fun h => h) hflat, trivial⟩
    · exact ⟨false, ⟨(fun e => by cases e), fun ha => absurd ha (not_ok_at hx h)⟩, rfl⟩
    · exact ⟨true, ⟨fun _ => h3.all (by omega), fun _ => rfl⟩, rfl⟩
end Go.Proofs.Ytoajpihpldndcaa.Dem
