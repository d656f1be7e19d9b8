/- Rows of a fixed size: All, and the same rows?, by answers in drawn regions. -/
import Derived.Test.YtcofkoabpigbmaaRingC
import Derived.Test.YtcofkoabpigbmaaSameInts
import Derived.Test.YtcofkoabpigbmaaAb44
namespace Go.Proofs.Ytcofkoabpigbmaa.Kit
open Go.Ab Base
set_option linter.unusedVariables false
set_option linter.unusedSimpArgs false

/-- The slice that holds these and no more. -/
def shOf : List Int → Sh
  | [] => .nil
  | x :: l => .sl (x :: l).length (x :: l).length ((x :: l).map iv)
theorem shOf_nil {l : List Int} (h : shOf l = .nil) : l = [] := by cases l with | nil => rfl | cons x l => cases h
theorem shOf_sl {l : List Int} {L cap : Nat} {rows : List (List AV)} (h : shOf l = .sl L cap rows) : L = l.length ∧ cap = l.length ∧ rows = l.map iv ∧ l ≠ [] := by
  cases l with
  | nil => cases h
  | cons x l => cases h; exact ⟨rfl, rfl, rfl, by simp⟩
theorem shOf_snoc (l : List Int) (x : Int) : shOf (l ++ [x]) = .sl (l.length + 1) (l.length + 1) ((l ++ [x]).map iv) := by
  cases l <;> simp [shOf]

set_option maxRecDepth 100000 in
set_option maxHeartbeats 4000000 in
theorem allC2 (rows : List (List AV)) (R : List AV) (a : Nat → Int) (s f mm : Int) (q : List Int) (hR : RR rows R a s f mm) (hQ : QQ a s f mm q) :
    CallS Try.prog 17 [.sym (.ptr 0 67 0 0)] (memB [some (.cells false 67 rows)] []) 1 fun v m' c' => v = (shOf q).av 1 1 ∧ m' = memB [some (.cells false 67 rows), (shOf q).blk 1] [] ∧ c' = 2 := by
  obtain ⟨call, X, hcall⟩ := ringCtx
  have hs0 : s ≠ 0 := by have := hQ.s1; omega
  have hs1 := hQ.s1; have hs2 := hQ.s2; have hf1 := hQ.f1; have hf2 := hQ.f2; have hm1 := hQ.m1; have hle := hQ.le; have hm2 := hQ.m2
  refine CallS.ends rfl ?_
  refine CallS.enter X Try.func17 (by decide) ?_
  cbv
  repeat' first
    | ((with_reducible apply ldR hR.row); (focus rfl); (focus first | exact hR.size | exact hR.first | exact hR.many | exact hR.arr _ (by omega)); cbv)
    | ((with_reducible apply symF); (focus rfl); cbv)
    | ((with_reducible intro v hv); (try rw [wrap_i64] at hv); cbv)
    | ((with_reducible apply uAnd); (focus first | kernel_rfl | omega); try cbv)
    | ((with_reducible apply And.intro) <;> (with_reducible intro h) <;> first | ((with_reducible exfalso); omega) | cbv)
  with_reducible
   refine LoopT.invR X (α := Int × Sh) 27 [] (fun s => (oI (s.at 11), s.sh 3)) (fun s => [s.nm 3 0])
    (fun a => [some (.sym (.ptr 0 67 0 0)), none, none, some (a.2.av 1 1), none, none, none, none, none, none, some (.sym (.int .i64 mm)), some (.sym (.int .i64 a.1))])
    (fun a => [some (.cells false 67 rows), a.2.blk 1])
    (fun a => 0 ≤ a.1 ∧ a.1 ≤ mm ∧ a.2 = shOf (q.take a.1.toNat)) (fun a => (mm - a.1).toNat) ?_ ?_
  · cbv
    refine And.intro (HoldAt.mk ?_) (Head.mk ?_ ?_ ?_ ?_ ?_ ?_)
    · exact ⟨by omega, by omega, rfl⟩
    all_goals cbv
    exact ⟨BlkLe.flat (fun h => h) hR.flats, trivial⟩
  · rintro ⟨j, sh⟩ ⟨j1, j2, j3⟩
    dsimp only at j1 j2 j3
    obtain ⟨w1, hw1⟩ : ∃ w, w = (IntKind.wrap .i64 (f + j)).tmod s := ⟨_, rfl⟩
    have hw1b : 0 ≤ w1 ∧ w1 < s := by
      rw [wrap_i64_id (by omega) (by omega), Int.tmod_eq_emod_of_nonneg (by omega)] at hw1
      rw [hw1]
      exact ⟨Int.emod_nonneg _ (by omega), Int.emod_lt_of_pos _ (by omega)⟩
    have hjq : j < mm → ∀ v0 : Nat, v0 = 0 + w1.toNat * 1 → q.take (j.toNat + 1) = q.take j.toNat ++ [a v0] := fun hlt v0 hv0 => by
      have hjl : j.toNat < q.length := by omega
      have hx := hQ.at_ j.toNat _ (List.getElem?_eq_getElem hjl)
      have e2 : v0 = (f.toNat + j.toNat) % s.toNat := by
        rw [wrap_i64_id (by omega) (by omega), Int.tmod_eq_emod_of_nonneg (by omega)] at hw1
        have h9 : (w1 : Int) = ((f.toNat + j.toNat : Nat) : Int) % (s.toNat : Int) := by
          rw [hw1, Int.toNat_of_nonneg (by omega)]
          congr 1
          omega
        omega
      rw [e2, hx]
      exact take_succ_at (List.getElem?_eq_getElem hjl)
    cases sh with
    | nil =>
      have j3 : q.take j.toNat = [] := shOf_nil j3.symm
      have hj0 : j < mm → j = 0 := fun hlt => by
        have : (q.take j.toNat).length = 0 := by rw [j3]; rfl
        rw [List.length_take] at this
        omega
      cbv
      repeat' first
        | with_reducible exact trivial
        | ((with_reducible apply ldR hR.row); (focus rfl); (focus first | exact hR.size | exact hR.first | exact hR.many | exact hR.arr _ (by omega)); cbv)
        | ((rw [hcall hR hs0 hw1]); rotate_left; (focus rfl); (focus rfl); (focus rfl); cbv)
        | ((with_reducible apply symF); (focus rfl); cbv)
        | ((with_reducible intro v hv); (try rw [wrap_i64] at hv); cbv)
        | ((with_reducible apply uAnd); (focus first | kernel_rfl | omega); try cbv)
        | ((with_reducible apply And.intro) <;> (with_reducible intro h) <;> first | ((with_reducible exfalso); omega) | cbv)
      · rename_i v0 hv0
        have h4 := hjq h v0 hv0
        have hj := hj0 h
        refine And.intro (And.intro (HoldAt.mk ?_) True.intro) (Head.mk ?_ ?_ ?_ ?_ ?_ ?_)
        · dsimp only
          refine ⟨⟨by omega, by omega, ?_⟩, by omega⟩
          rw [show v.toNat = j.toNat + 1 by omega, h4, j3]
          rfl
        all_goals cbv
        exact ⟨BlkLe.flat (fun h => h) hR.flats, BlkLe.flat (fun h => h) (by simp [AV.flatL, AV.flat]), trivial⟩
      · have hq : q = [] := by
          have h5 : q.take j.toNat = [] := j3
          rw [List.take_of_length_le (by omega)] at h5
          exact h5
        refine ⟨[5], [], .nilslice, [some (.cells false 67 rows), none], ?_, by rw [hq]; rfl, by rw [hq]; rfl, rfl⟩
        refine Head.mk rfl rfl ?_ ?_ rfl ?_
        all_goals cbv
        exact ⟨BlkLe.flat (fun h => h) hR.flats, trivial⟩
    | sl L cap rows2 =>
      obtain ⟨g1, g2, g3, hne⟩ := shOf_sl j3.symm
      have hfl : ∀ row ∈ rows2, AV.flatL row = true := by (rw [g3]; exact map_flat _ fun x => rfl)
      have g4 : rows2.length = cap := by (rw [g3, g2]; simp)
      have g5 : L ≤ 64 := by (rw [g1, List.length_take]; omega)
      have g6 : L = cap := g1.trans g2.symm
      cbv
      repeat' first
        | with_reducible exact trivial
        | ((with_reducible apply ldR hR.row); (focus rfl); (focus first | exact hR.size | exact hR.first | exact hR.many | exact hR.arr _ (by omega)); cbv)
        | ((rw [hcall hR hs0 hw1]); rotate_left; (focus rfl); (focus rfl); (focus rfl); cbv)
        | ((with_reducible apply symF); (focus rfl); cbv)
        | ((with_reducible intro L' rows' hL hr'); (simp only [List.length_cons, List.length_nil, Nat.zero_add] at hL); cbv)
        | ((with_reducible intro v hv); (try rw [wrap_i64] at hv); cbv)
        | ((with_reducible apply uAnd); (focus first | kernel_rfl | omega | (refine And.intro ?_ (And.intro ?_ (Or.inl rfl)) <;> omega) | (simp only [List.length_cons, List.length_nil]; omega)); try cbv)
        | ((with_reducible apply And.intro) <;> (with_reducible intro h) <;> (try simp only [List.length_cons, List.length_nil, Nat.zero_add] at h) <;> first | ((with_reducible exfalso); omega) | ((with_reducible exfalso); simp at h; done) | cbv)
      · obtain ⟨z, h4, hr2⟩ : ∃ z, q.take (j.toNat + 1) = q.take j.toNat ++ [z] ∧ rows' = List.take L (List.drop 0 rows2) ++ [[AV.sym (.int .i64 z)]] := ⟨_, hjq (by assumption) _ (by assumption), hr'⟩
        have hh : Sh.sl L' L' rows' = shOf (q.take j.toNat ++ [z]) := by
          have e1 : List.take L (List.drop 0 rows2) = (q.take j.toNat).map iv := by rw [List.drop_zero, List.take_of_length_le (by omega), g3]
          rw [shOf_snoc, hL, hr2, e1, List.map_append, g1]; rfl
        have hfl2 : ∀ row ∈ rows', AV.flatL row = true := by
          have := shOf_sl hh.symm
          rw [this.2.2.1]; exact map_flat _ fun x => rfl
        refine And.intro (And.intro (HoldAt.mk ?_) True.intro) (Head.mk ?_ ?_ ?_ ?_ ?_ ?_)
        · dsimp only
          refine ⟨⟨by omega, by omega, ?_⟩, by omega⟩
          rw [show v.toNat = j.toNat + 1 by omega, h4]
          exact hh
        all_goals cbv
        exact ⟨BlkLe.flat (fun h => h) hR.flats, BlkLe.flat (fun h => h) hfl2, trivial⟩
      · rw [List.take_of_length_le (by omega)] at j3
        refine ⟨[1], [], .sym (.slice 1 1 0 L cap true none), [some (.cells false 67 rows), some (.cells true 1 rows2)], ?_, by rw [← j3]; rfl, by rw [← j3]; rfl, rfl⟩
        refine Head.mk rfl rfl ?_ ?_ rfl ?_
        all_goals cbv
        exact ⟨BlkLe.flat (fun h => h) hR.flats, BlkLe.flat (fun h => h) hfl, trivial⟩

def allM (q : List Int) (m : Mem) (c : Nat) : Mem := match shOf q with
  | .nil => m
  | .sl _ _ rows => m.new c (.cells true 1 rows)
theorem allS {rows : List (List AV)} {R : List AV} {a : Nat → Int} {s f mm : Int} {q : List Int} {A : AV} {m : Mem} {c k : Nat} {rw : Bool} (hR : RR rows R a s f mm) (hQ : QQ a s f mm q) (hA : norm A = .ptr k 67 0 0) (hm : m.get k = some (.cells rw 67 rows)) (hk : k < c) :
    CallS Try.prog 17 [A] m c fun v m' c' => v = (shOf q).av c 1 ∧ m' = allM q m c ∧ c' = c + 1 := by
  refine (CallT.frameF (P := Try.prog) (K := fun v m' c' => v = (shOf q).av c 1 ∧ m' = allM q m c ∧ c' = c + 1) [k] (allC2 rows R a s f mm q hR hQ) rfl ?_ ?_ ⟨by simp, by simp; omega⟩ ?_).ok
  · simp only [leL, normL, norm, hA, renOL, renO, List.getElem?_cons_zero, Option.map_some]
  · refine ⟨?_, trivial⟩
    simp only [List.getElem?_cons_zero, hm]
    exact BlkLe.flat (fun e => by cases e) hR.flats
  · rintro v m' c' ⟨rfl, rfl, rfl⟩
    unfold allM
    cases e : shOf q with
    | nil => exact ⟨⟨⟨trivial, trivial⟩, trivial⟩, rfl, rfl, rfl⟩
    | sl L cap rows' =>
      have := (shOf_sl e).2.2.1
      subst this
      exact ⟨⟨⟨trivial, trivial⟩, rfl, map_flat _ fun x => rfl⟩, rfl, rfl, rfl⟩
theorem rr_uniq {rows : List (List AV)} {R R' : List AV} {a a' : Nat → Int} {s f mm s' f' mm' : Int} {q q' : List Int} (hR : RR rows R a s f mm) (hQ : QQ a s f mm q) (hR' : RR rows R' a' s' f' mm') (hQ' : QQ a' s' f' mm' q') : q = q' := by
  have e := Option.some.inj (hR.row.symm.trans hR'.row)
  subst e
  have e1 : s = s' := by have := hR.size.symm.trans hR'.size; simpa using this
  have e2 : f = f' := by have := hR.first.symm.trans hR'.first; simpa using this
  have e3 : mm = mm' := by have := hR.many.symm.trans hR'.many; simpa using this
  subst e1 e2 e3
  have h1 := hQ.m2; have h2 := hQ'.m2
  have hs1 := hQ.s1; have hs2 := hQ.s2
  apply List.ext_getElem?
  intro i
  by_cases hi : i < q.length
  · obtain ⟨x, hx⟩ : ∃ x, q[i]? = some x := ⟨_, List.getElem?_eq_getElem hi⟩
    obtain ⟨y, hy⟩ : ∃ y, q'[i]? = some y := ⟨_, List.getElem?_eq_getElem (by omega)⟩
    have hlt : (f.toNat + i) % s.toNat < 64 := by
      have := Nat.mod_lt (f.toNat + i) (show 0 < s.toNat by omega)
      omega
    have h3 := (hR.arr _ hlt).symm.trans (hR'.arr _ hlt)
    rw [hQ.at_ i x hx, hQ'.at_ i y hy] at h3
    rw [hx, hy]
    simpa using h3
  · rw [List.getElem?_eq_none (by omega), List.getElem?_eq_none (by omega)]
theorem FrA.new1 (m : Mem) (c : Nat) (b : ABlk) : FrA none m c (m.new c b) (c + 1) :=
  ⟨Nat.le_succ c, fun n hn _ h => by rw [Mem.get_new, if_neg (by omega)]; exact h, fun _ ht n hn => by rw [Mem.get_new, if_neg (by omega)]; exact ht n (by omega), [], rfl, fun n hn _ _ => by rw [Mem.get_new, if_neg (by omega)]⟩
theorem FrA.up1 (m : Mem) (c : Nat) : FrA none m c m (c + 1) :=
  ⟨Nat.le_succ c, fun _ _ _ h => h, fun _ ht n hn => ht n (by omega), [], rfl, fun _ _ _ _ => rfl⟩
/-- All, by an answer. -/
def AllGood (vs : List AV) (m : Mem) (c : Nat) (q : List Int) : Prop := ∃ A k rw rows R a s f mm, vs = [A] ∧ norm A = .ptr k 67 0 0 ∧ m.get k = some (.cells rw 67 rows) ∧ k < c ∧ RR rows R a s f mm ∧ QQ a s f mm q
open Classical in
noncomputable def gAllE : Eff := fun vs m c => if h : ∃ q, AllGood vs m c q then some ((shOf h.choose).av c 1, allM h.choose m c, c + 1) else none
theorem gAllE_ok : EffOK Try.prog (17, gAllE) := fun vs m c v m1 c1 e => by
  change gAllE vs m c = some (v, m1, c1) at e
  unfold gAllE at e
  split at e
  · rename_i h
    cases e
    obtain ⟨A, k, rw_, rows, R, a, s, f, mm, rfl, hA, hm, hk, hR, hQ⟩ := h.choose_spec
    refine ⟨(allS hR hQ hA hm hk).mono ?_, ?_⟩
    · rintro v' m' c' ⟨rfl, rfl, rfl⟩
      exact ⟨rfl, rfl, rfl⟩
    · unfold allM
      cases shOf h.choose with
      | nil => exact FrA.up1 m c
      | sl L cap rows' => exact FrA.new1 m c _
  · cases e
/-- The same rows: told alone where they are. -/
def SameGood (vs : List AV) (m : Mem) : Prop := ∃ A B xs, vs = [A, B] ∧ Sl iv 1 m A xs ∧ Sl iv 1 m B xs
open Classical in
noncomputable def gSameE : Eff := fun vs m c => if SameGood vs m then some (.bool true, m, c) else none
theorem gSameE_ok : EffOK Try.prog (18, gSameE) := fun vs m c v m1 c1 e => by
  change gSameE vs m c = some (v, m1, c1) at e
  unfold gSameE at e
  split at e
  · rename_i h
    cases e
    obtain ⟨A, B, xs, rfl, hA, hB⟩ := h
    exact ⟨(sameIntsT (K := fun v' m' c' => full v' = full (.bool true) ∧ m' = m ∧ c' = c) hA hB (fun _ => ⟨rfl, rfl, rfl⟩) fun hne => (hne rfl).elim).ok, FrA.refl _ _ _⟩
  · cases e
theorem ringCtxE : ∃ (call : CallA), Ctx Try.prog call ∧
    (∀ {rows : List (List AV)} {R : List AV} {a : Nat → Int} {s f mm : Int} {q : List Int} {A : AV} {m : Mem} {c k : Nat} {rw : Bool}, RR rows R a s f mm → QQ a s f mm q → norm A = .ptr k 67 0 0 → m.get k = some (.cells rw 67 rows) → k < c →
      call 17 [A] m c = some ((shOf q).av c 1, allM q m c, c + 1)) ∧
    ∀ {A B : AV} {m : Mem} {c : Nat} {xs : List Int}, Sl iv 1 m A xs → Sl iv 1 m B xs → call 18 [A, B] m c = some (.bool true, m, c) := by
  refine ⟨aRun Try.prog (effHints [(17, gAllE), (18, gSameE)]) 5, ctx_eff (l := [(17, gAllE), (18, gSameE)]) hm ⟨gAllE_ok, gSameE_ok, trivial⟩ 5, ?_, ?_⟩
  · intro rows R a s f mm q A m c k rw hR hQ hA hm hk
    have hx : (effHints [(17, gAllE), (18, gSameE)]).ext 17 = some gAllE := rfl
    have hg : AllGood [A] m c q := ⟨A, k, rw, rows, R, a, s, f, mm, rfl, hA, hm, hk, hR, hQ⟩
    have hex : ∃ q, AllGood [A] m c q := ⟨q, hg⟩
    have hu : hex.choose = q := by
      obtain ⟨A', k', rw', rows', R', a', s', f', mm', e1, e2, e3, _, e5, e6⟩ := hex.choose_spec
      cases e1
      rw [hA] at e2; cases e2
      rw [hm] at e3; cases e3
      exact rr_uniq e5 e6 hR hQ
    have : gAllE [A] m c = some ((shOf q).av c 1, allM q m c, c + 1) := by
      unfold gAllE
      rw [dif_pos hex, hu]
    simp only [aRun, hx, this]
  · intro A B m c xs hA hB
    have hx : (effHints [(17, gAllE), (18, gSameE)]).ext 18 = some gSameE := rfl
    have : gSameE [A, B] m c = some (.bool true, m, c) := by
      unfold gSameE
      rw [if_pos ⟨A, B, xs, rfl, hA, hB⟩]
    simp only [aRun, hx, this]
/-- The same, by whether there is any. -/
theorem ringCtxE2 : ∃ (call : CallA), Ctx Try.prog call ∧
    (∀ {rows : List (List AV)} {R : List AV} {a : Nat → Int} {s f mm : Int} {q : List Int} {A : AV} {m : Mem} {c k : Nat} {rw : Bool}, q = [] → RR rows R a s f mm → QQ a s f mm q → norm A = .ptr k 67 0 0 → m.get k = some (.cells rw 67 rows) → k < c →
      call 17 [A] m c = some (.nilslice, m, c + 1)) ∧
    (∀ {rows : List (List AV)} {R : List AV} {a : Nat → Int} {s f mm : Int} {q : List Int} {A : AV} {m : Mem} {c k L : Nat} {rw : Bool} {rowsQ : List (List AV)}, q ≠ [] → L = q.length → rowsQ = q.map iv → RR rows R a s f mm → QQ a s f mm q → norm A = .ptr k 67 0 0 → m.get k = some (.cells rw 67 rows) → k < c →
      call 17 [A] m c = some (.sym (.slice c 1 0 L L true none), m.new c (.cells true 1 rowsQ), c + 1)) ∧
    ∀ {A B : AV} {m : Mem} {c : Nat} {xs : List Int}, Sl iv 1 m A xs → Sl iv 1 m B xs → call 18 [A, B] m c = some (.bool true, m, c) := by
  obtain ⟨call, X, h1, h2⟩ := ringCtxE
  refine ⟨call, X, fun hq hR hQ hA hm hk => ?_, fun hq hL hr hR hQ hA hm hk => ?_, h2⟩
  · rw [h1 hR hQ hA hm hk]; subst hq; rfl
  · rename_i q _ _ _ _ _ _ _
    rw [h1 hR hQ hA hm hk]
    subst hL hr
    cases q with
    | nil => exact (hq rfl).elim
    | cons x l => rfl
end Go.Proofs.Ytcofkoabpigbmaa.Kit
