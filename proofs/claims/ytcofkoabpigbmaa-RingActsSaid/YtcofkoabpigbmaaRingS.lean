/- Rows of a fixed size as queues: Offer. Rows of numbers, written over. -/
import Derived.Test.YtcofkoabpigbmaaRingB
import Derived.Test.YtcofkoabpigbmaaAb41
import Derived.Test.YtcofkoabpigbmaaSameInts
namespace Go.Proofs.Ytcofkoabpigbmaa.Kit
open Go.Ab Base
set_option linter.unusedVariables false
set_option linter.unusedSimpArgs false

set_option maxRecDepth 100000 in
set_option maxHeartbeats 4000000 in
theorem offerC (rows : List (List AV)) (R : List AV) (a : Nat → Int) (s f mm x : Int) (q : List Int) (hR : RR rows R a s f mm) (hQ : QQ a s f mm q) :
    CallS Try.prog 13 [.sym (.ptr 0 67 0 0), .sym (.int .i64 x)] (memB [some (.cells true 67 rows)] []) 1 fun v m' c' => ∃ rows' R' a' f' mm' q' b, RR rows' R' a' s f' mm' ∧ QQ a' s f' mm' q' ∧ (b = true ∧ mm < s ∧ q' = q ++ [x] ∨ b = false ∧ mm = s ∧ q' = q) ∧
      v = .bool b ∧ m' = RingM rows' ∧ c' = 1 := by
  obtain ⟨call, X, hcall⟩ := ringCtx
  have hs0 : s ≠ 0 := by have := hQ.s1; omega
  have hs1 := hQ.s1; have hs2 := hQ.s2; have hf1 := hQ.f1; have hf2 := hQ.f2; have hm1 := hQ.m1; have hle := hQ.le; have hm2 := hQ.m2
  refine CallS.ends rfl ?_
  refine CallS.enter X Try.func13 (by decide) ?_
  cbv
  repeat' first
    | ((with_reducible apply ldR hR.row); (focus rfl); (focus first | exact hR.size | exact hR.first | exact hR.many | exact hR.arr _ (by omega)); cbv)
    | ((with_reducible apply pushT x hR hQ); (focus rfl); (focus rfl); (focus rfl); (focus decide); all_goals first
        | ((with_reducible intro he y q2 hq rows' R' a' f' mm' hR' hQ'); (with_reducible exfalso); omega)
        | ((with_reducible intro hlt rows' R' a' f' mm' hR' hQ'); cbv))
    | ((with_reducible apply symF); (focus rfl); cbv)
    | ((with_reducible intro v hv); (try rw [wrap_i64] at hv); cbv)
    | ((with_reducible apply uAnd); (focus first | kernel_rfl | omega); try cbv)
    | ((with_reducible apply And.intro) <;> (with_reducible intro h) <;> first | ((with_reducible exfalso); omega) | cbv)
  · refine ⟨[], [0], .bool false, [some (.cells true 67 rows)], ?_, rows, R, a, f, mm, q, false, hR, hQ, .inr ⟨rfl, h, rfl⟩, rfl, rfl, rfl⟩
    refine Head.mk rfl rfl ?_ ?_ rfl ?_
    all_goals cbv
    exact ⟨BlkLe.flat (fun h => h) hR.flats, trivial⟩
  · refine ⟨[], [0], .bool true, [some (.cells true 67 rows')], ?_, rows', R', a', f', mm', q ++ [x], true, hR', hQ', .inl ⟨rfl, hlt, rfl⟩, rfl, rfl, rfl⟩
    refine Head.mk rfl rfl ?_ ?_ rfl ?_
    all_goals cbv
    exact ⟨BlkLe.flat (fun h => h) hR'.flats, trivial⟩
theorem offerT {rows : List (List AV)} {R : List AV} {a : Nat → Int} {s f mm : Int} (x : Int) {q : List Int} {A B : AV} {m : Mem} {c k : Nat} {K : AV → Mem → Nat → Prop} (hR : RR rows R a s f mm) (hQ : QQ a s f mm q) (hA : norm A = .ptr k 67 0 0) (hB : norm B = .int .i64 x) (hm : m.get k = some (.cells true 67 rows)) (hk : k < c)
    (h1 : mm < s → ∀ rows' R' a' f' mm', RR rows' R' a' s f' mm' → QQ a' s f' mm' (q ++ [x]) → K (.bool true) (m.write k (some (.cells true 67 rows'))) c)
    (h2 : mm = s → ∀ rows' R' a' f' mm', RR rows' R' a' s f' mm' → QQ a' s f' mm' q → K (.bool false) (m.write k (some (.cells true 67 rows'))) c) : CallT (fun _ => Try.prog) 13 [A, B] m c K := by
  refine ⟨CallS.asFull (R := K) ?_⟩
  refine (CallT.frameF [k] (offerC rows R a s f mm x q hR hQ) rfl ?_ ?_ ⟨by simp, by simp; omega⟩ ?_).ok
  · simp only [leL, normL, norm, hA, hB, renOL, renO, List.getElem?_cons_zero, Option.map_some]
  · refine ⟨?_, trivial⟩
    simp only [List.getElem?_cons_zero, hm]
    exact BlkLe.flat (fun e => e) hR.flats
  · rintro v m' c' ⟨rows', R', a', f', mm', q', b, hR', hQ', hb, rfl, rfl, rfl⟩
    refine ⟨ringM_new hR' rows, ?_⟩
    rcases hb with ⟨rfl, hlt, rfl⟩ | ⟨rfl, he, rfl⟩
    · exact ⟨.bool true, rfl, h1 hlt rows' R' a' f' mm' hR' hQ'⟩
    · exact ⟨.bool false, rfl, h2 he rows' R' a' f' mm' hR' hQ'⟩
end Go.Proofs.Ytcofkoabpigbmaa.Kit

namespace Go.Proofs.Ytcofkoabpigbmaa.Kit
open Go.Ab Base
set_option linter.unusedVariables false
set_option linter.unusedSimpArgs false

theorem holds_put {ys : List Int} {L cap j : Nat} {rows : List (List AV)} (h : Holds iv ys L cap rows) (hj : j < L) (x : Int) : Holds iv (ys.set j x) L cap (rows.set j (iv x)) := by
  obtain ⟨h1, h2, h3, h4, h5⟩ := h
  refine ⟨by rw [List.length_set, h1], by rw [List.length_set, h2], h3, fun row hr => ?_, fun i y hy => ?_⟩
  · rcases List.mem_or_eq_of_mem_set hr with hr | rfl
    · exact h4 row hr
    · rfl
  · by_cases e : j = i
    · subst e
      rw [List.getElem?_set_self (by omega)] at hy ⊢
      cases hy; rfl
    · rw [List.getElem?_set_ne e] at hy ⊢
      exact h5 i y hy
theorem stI {ys : List Int} {L cap j s : Nat} {x : Int} {cs : List AV} {rows : List (List AV)} {K : List (List AV) → Prop} (h : Holds iv ys L cap rows) (hj : j < L) (hs : s = 1) (hc : cs = [.sym (.int .i64 x)]) (hk : ∀ rows', Holds iv (ys.set j x) L cap rows' → K rows') :
    ∃ row, rows[j]? = some row ∧ (Unit → 0 + s ≤ row.length) ∧ ∀ rows', rows' = rows.set j (setCells row 0 cs) → K rows' := by
  subst hs hc
  have hj' : j < ys.length := by have := h.len; omega
  have h0 := h.at_ j _ (List.getElem?_eq_getElem hj')
  refine ⟨_, h0, fun _ => Nat.le_refl 1, fun rows' e => hk rows' ?_⟩
  rw [e]
  exact holds_put h hj x

set_option maxRecDepth 100000 in
set_option maxHeartbeats 4000000 in
theorem spoilC (ys : List Int) (L cap : Nat) (rows : List (List AV)) (h : Holds iv ys L cap rows) (hs : L ≤ 140737488355328) :
    CallS Try.prog 19 [.sym (.slice 0 1 0 L cap true none)] (memB [some (.cells true 1 rows)] []) 1 fun v m' c' => ∃ ys' rows', Holds iv ys' L cap rows' ∧ v = .tuple [] ∧ m' = memB [some (.cells true 1 rows')] [0] ∧ c' = 1 := by
  refine CallS.ends rfl ?_
  refine CallS.enter X Try.func19 (by decide) ?_
  cbv
  with_reducible
   refine LoopT.invR X (α := Int × List (List AV)) 17 [0] (fun s => (oI (s.at 2), s.rows 0)) (fun s => [])
    (fun a => [some (.sym (.slice 0 1 0 L cap true none)), none, some (.sym (.int .i64 a.1))])
    (fun a => [some (.cells true 1 a.2)])
    (fun a => 0 ≤ a.1 ∧ a.1.toNat ≤ L ∧ ∃ ys, Holds iv ys L cap a.2) (fun a => L - a.1.toNat) ?_ ?_
  · cbv
    refine And.intro (HoldAt.mk ?_) (Head.mk ?_ ?_ ?_ ?_ ?_ ?_)
    · exact ⟨Int.le_refl 0, by simp, ys, h⟩
    all_goals cbv
    exact ⟨BlkLe.flat (fun h => h) h.flat, trivial⟩
  · rintro ⟨j, rws⟩ ⟨j1, j2, ys2, hh⟩
    dsimp only at j1 j2 hh
    cbv
    repeat' first
      | with_reducible exact trivial
      | ((with_reducible apply stI hh); (focus omega); (focus rfl); (focus rfl); intro rows' hh'; cbv)
      | ((with_reducible apply ld hh.at_); (focus (have := hh.len; omega)); intro x hx; cbv)
      | ((with_reducible intro v hv); (try rw [wrap_i64] at hv); cbv)
      | ((with_reducible apply uAnd); (focus first | kernel_rfl | omega); try cbv)
      | ((with_reducible apply And.intro) <;> (with_reducible intro h) <;> first | ((with_reducible exfalso); omega) | cbv)
    · refine And.intro (And.intro (HoldAt.mk ?_) True.intro) (Head.mk ?_ ?_ ?_ ?_ ?_ ?_)
      · exact ⟨⟨by omega, by omega, _, hh'⟩, by omega⟩
      all_goals cbv
      exact ⟨BlkLe.flat (fun h => h) hh'.flat, trivial⟩
    · refine ⟨[], [0], .tuple [], [some (.cells true 1 rws)], ?_, _, rws, hh, rfl, rfl, rfl⟩
      refine Head.mk rfl rfl ?_ ?_ rfl ?_
      all_goals cbv
      exact ⟨BlkLe.flat (fun h => h) hh.flat, trivial⟩
theorem spoilT {ys : List Int} {L cap k : Nat} {rows : List (List AV)} {A : AV} {m : Mem} {c : Nat} {K : AV → Mem → Nat → Prop} (h : Holds iv ys L cap rows) (hs : L ≤ 140737488355328) (hA : norm A = .slice k 1 0 L cap true none) (hm : m.get k = some (.cells true 1 rows)) (hk : k < c)
    (h1 : ∀ ys' rows', Holds iv ys' L cap rows' → K (.tuple []) (m.write k (some (.cells true 1 rows'))) c) : CallT (fun _ => Try.prog) 19 [A] m c K := by
  refine CallT.frameF [k] (spoilC ys L cap rows h hs) rfl ?_ ?_ ⟨by simp, by simp; omega⟩ ?_
  · simp only [leL, normL, norm, hA, renOL, renO, List.getElem?_cons_zero, Option.map_some]
  · refine ⟨?_, trivial⟩
    simp only [List.getElem?_cons_zero, hm]
    exact BlkLe.flat (fun e => e) h.flat
  · rintro v m' c' ⟨ys', rows', hh, rfl, rfl, rfl⟩
    exact ⟨⟨trivial, hh.flat⟩, h1 ys' rows' hh⟩
set_option maxHeartbeats 4000000 in
theorem spoilNilT {A : AV} {m : Mem} {c : Nat} {K : AV → Mem → Nat → Prop} (hA : norm A = .nilslice) (h1 : K (.tuple []) m c) : CallT (fun _ => Try.prog) 19 [A] m c K := by
  refine ⟨CallS.normA (vs' := [.nilslice]) (by simp only [normL, norm, hA]) ?_⟩
  have h : CallS Try.prog 19 [.nilslice] m c fun v m' c' => v = .tuple [] ∧ m' = m ∧ c' = c := by
    refine CallS.at0 X Try.func19 (by decide) rfl (d := 2) (R0 := fun v => v = .tuple []) ?_ m c
    cbv
    with_reducible apply LoopT.once X
    cbv
  refine h.mono ?_
  rintro v m' c' ⟨rfl, rfl, rfl⟩
  exact h1
end Go.Proofs.Ytcofkoabpigbmaa.Kit
