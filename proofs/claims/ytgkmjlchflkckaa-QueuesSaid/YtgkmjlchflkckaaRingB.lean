/- Rows of a fixed size as queues: Pop, Push, Offer. -/
import Derived.Test.YtgkmjlchflkckaaRingA
namespace Go.Proofs.Ytgkmjlchflkckaa.Kit
open Go.Ab Base
set_option linter.unusedVariables false
set_option linter.unusedSimpArgs false

/-- A ring holds a queue. -/
structure QQ (a : Nat → Int) (s f m : Int) (q : List Int) : Prop where
  s1 : 1 ≤ s
  s2 : s ≤ 64
  f1 : 0 ≤ f
  f2 : f < s
  m1 : 0 ≤ m
  m2 : m.toNat = q.length
  le : m ≤ s
  at_ : ∀ (i : Nat) (x : Int), q[i]? = some x → a ((f.toNat + i) % s.toNat) = x
theorem QQ.pop {a : Nat → Int} {s f m f' m' x : Int} {q : List Int} (h : QQ a s f m (x :: q)) (hf : f' = (f + 1).tmod s) (hm : m' = m - 1) : QQ a s f' m' q := by
  obtain ⟨h1, h2, h3, h4, h5, h6, h7, h8⟩ := h
  simp only [List.length_cons] at h6
  have e : f' = (f + 1) % s := by rw [hf, Int.tmod_eq_emod_of_nonneg (by omega)]
  have b1 : 0 ≤ f' := by rw [e]; exact Int.emod_nonneg _ (by omega)
  have b2 : f' < s := by rw [e]; exact Int.emod_lt_of_pos _ (by omega)
  refine ⟨h1, h2, b1, b2, by omega, by omega, by omega, fun i y hy => ?_⟩
  have := h8 (i + 1) y (by simpa using hy)
  rw [← this]
  congr 1
  have e2 : f'.toNat = (f.toNat + 1) % s.toNat := by
    have h9 : (f' : Int) = ((f.toNat + 1 : Nat) : Int) % (s.toNat : Int) := by
      rw [e, Int.toNat_of_nonneg (by omega)]
      congr 1
      omega
    omega
  rw [e2, Nat.add_mod, Nat.mod_mod, ← Nat.add_mod]
  congr 1
  omega
theorem QQ.head {a : Nat → Int} {s f m x : Int} {q : List Int} (h : QQ a s f m (x :: q)) : a f.toNat = x := by
  have := h.at_ 0 x rfl
  rwa [Nat.add_zero, Nat.mod_eq_of_lt (by have := h.f1; have := h.f2; omega)] at this
theorem QQ.push {a : Nat → Int} {s f m m' p x : Int} {q : List Int} (h : QQ a s f m q) (hlt : m < s) (hp : p = (f + m).tmod s) (hm : m' = m + 1) : QQ (fun i => if i = p.toNat then x else a i) s f m' (q ++ [x]) ∧ 0 ≤ p ∧ p < s := by
  obtain ⟨h1, h2, h3, h4, h5, h6, h7, h8⟩ := h
  have e : p = (f + m) % s := by rw [hp, Int.tmod_eq_emod_of_nonneg (by omega)]
  have b1 : 0 ≤ p := by rw [e]; exact Int.emod_nonneg _ (by omega)
  have b2 : p < s := by rw [e]; exact Int.emod_lt_of_pos _ (by omega)
  have e2 : p.toNat = (f.toNat + q.length) % s.toNat := by
    have h9 : (p : Int) = ((f.toNat + q.length : Nat) : Int) % (s.toNat : Int) := by
      rw [e, Int.toNat_of_nonneg (by omega)]
      congr 1
      omega
    omega
  refine ⟨⟨h1, h2, h3, h4, by omega, by simp; omega, by omega, fun i y hy => ?_⟩, b1, b2⟩
  by_cases hi : i < q.length
  · rw [List.getElem?_append_left hi] at hy
    have hne : (f.toNat + i) % s.toNat ≠ p.toNat := by
      rw [e2]
      intro hc
      have hs : q.length < s.toNat := by omega
      have c1 : (f.toNat + i) % s.toNat = if f.toNat + i < s.toNat then f.toNat + i else f.toNat + i - s.toNat := by
        split
        · exact Nat.mod_eq_of_lt ‹_›
        · rw [Nat.mod_eq_sub_mod (by omega), Nat.mod_eq_of_lt (by omega)]
      have c2 : (f.toNat + q.length) % s.toNat = if f.toNat + q.length < s.toNat then f.toNat + q.length else f.toNat + q.length - s.toNat := by
        split
        · exact Nat.mod_eq_of_lt ‹_›
        · rw [Nat.mod_eq_sub_mod (by omega), Nat.mod_eq_of_lt (by omega)]
      rw [c1, c2] at hc
      split at hc <;> split at hc <;> omega
    rw [if_neg hne]
    exact h8 i y hy
  · have hjl : i < (q ++ [x]).length := (List.getElem?_eq_some_iff.1 hy).1
    have hj' : i = q.length := by simp at hjl; omega
    subst hj'
    rw [List.getElem?_append_right (Nat.le_refl _), Nat.sub_self] at hy
    simp only [List.getElem?_cons_zero, Option.some.injEq] at hy
    rw [if_pos e2.symm, hy]
theorem QQ.new (s : Int) (h1 : 1 ≤ s) (h2 : s ≤ 64) (a : Nat → Int) : QQ a s 0 0 [] := ⟨h1, h2, by omega, by omega, by omega, rfl, by omega, fun i x h => by simp at h⟩

theorem atT {rows : List (List AV)} {R : List AV} {a : Nat → Int} {s f mm : Int} {A B : AV} {m : Mem} {c k : Nat} {rw : Bool} {K : AV → Mem → Nat → Prop} (hR : RR rows R a s f mm) (hs : s ≠ 0) (hA : norm A = .ptr k 67 0 0) (hB : norm B = .int .i64 (iOf B)) (hm : m.get k = some (.cells rw 67 rows))
    (h : ∀ r : Int, r = (IntKind.wrap .i64 (f + iOf B)).tmod s → K (.sym (.int .i64 r)) m c) : CallT (fun _ => Try.prog) 20 [A, B] m c K := by
  refine CallT.ofFlat (R0 := fun v => ∃ r, r = (IntKind.wrap .i64 (f + iOf B)).tmod s ∧ v = .sym (.int .i64 r)) (CallS.ptr1 (vs := [A, B]) (fun P => [P, .sym (.int .i64 (iOf B))]) hA hm hR.row (row0 := R) rfl hR.flat (fun l B' h => ⟨h, ArgV.flat rfl (by rw [hB]; rfl), trivial⟩) (atC [R] R s f (iOf B) rfl hR.size hR.first hs)) ?_
  rintro v ⟨r, hr, rfl⟩
  exact ⟨_, rfl, h r hr⟩

/-- What is left of a ring. -/
def RingM (rows : List (List AV)) : Mem := memB [some (.cells true 67 rows)] [0]

set_option maxRecDepth 100000 in
set_option maxHeartbeats 4000000 in
theorem popC (rows : List (List AV)) (R : List AV) (a : Nat → Int) (s f mm : Int) (q : List Int) (hR : RR rows R a s f mm) (hQ : QQ a s f mm q) :
    CallS Try.prog 18 [.sym (.ptr 0 67 0 0)] (memB [some (.cells true 67 rows)] []) 1 fun v m' c' => ∃ rows' R' a' f' mm' q' x b, RR rows' R' a' s f' mm' ∧ QQ a' s f' mm' q' ∧ (b = false ∧ x = 0 ∧ q = [] ∧ q' = [] ∨ b = true ∧ q = x :: q') ∧
      v = .tuple [.sym (.int .i64 x), .bool b] ∧ m' = RingM rows' ∧ c' = 1 := by
  obtain ⟨call, X, hcall⟩ := ringCtx
  have hs0 : s ≠ 0 := by have := hQ.s1; omega
  have hs1 := hQ.s1; have hs2 := hQ.s2; have hf1 := hQ.f1; have hf2 := hQ.f2; have hm1 := hQ.m1; have hle := hQ.le; have hm2 := hQ.m2
  refine CallS.ends rfl ?_
  refine CallS.enter X Try.func18 (by decide) ?_
  cbv
  repeat' first
    | ((with_reducible apply ldR hR.row); (focus rfl); (focus first | exact hR.size | exact hR.first | exact hR.many | exact hR.arr _ (by omega)); cbv)
    | ((with_reducible apply stR hR.row); (focus rfl); (focus rfl); (focus (rw [hR.len]; omega)); (intro rows' R' h0 he hl); (first | have hR := hR.setFirst h0 he hl | have hR := hR.setMany h0 he hl | have hR := hR.setArr (by omega) h0 he hl); cbv)
    | ((with_reducible apply atT hR hs0); (focus rfl); (focus rfl); (focus rfl); (intro r hr); cbv)
    | ((with_reducible apply symF); (focus rfl); cbv)
    | ((with_reducible intro v hv); (try rw [wrap_i64] at hv); cbv)
    | ((with_reducible apply uAnd); (focus first | kernel_rfl | omega); try cbv)
    | ((with_reducible apply And.intro) <;> (with_reducible intro h) <;> first | ((with_reducible exfalso); omega) | cbv)
  · have hq : q = [] := List.eq_nil_of_length_eq_zero (by omega)
    refine ⟨[], [0], .tuple [.sym (.int .i64 0), .bool false], [some (.cells true 67 rows)], ?_, rows, R, a, f, mm, q, 0, false, hR, hQ, .inl ⟨rfl, rfl, hq, hq⟩, rfl, rfl, rfl⟩
    refine Head.mk rfl rfl ?_ ?_ rfl ?_
    all_goals cbv
    exact ⟨BlkLe.flat (fun h => h) hR.flats, trivial⟩
  · rename_i v0 hv0 _ _ _ _ _ _
    cases q with
    | nil => simp at hm2; omega
    | cons x q' =>
      have hx : a v0 = x := by rw [show v0 = f.toNat by omega]; exact hQ.head
      have hQ2 := hQ.pop (f' := r) (m' := v) (by rw [hr, wrap_i64]; simp only [iOf]; congr 1; omega) (by omega)
      refine ⟨[], [0], .tuple [.sym (.int .i64 (a v0)), .bool true], [some (.cells true 67 rows')], ?_, rows', R', a, r, v, q', a v0, true, hR, hQ2, .inr ⟨rfl, by rw [hx]⟩, rfl, rfl, rfl⟩
      refine Head.mk rfl rfl ?_ ?_ rfl ?_
      all_goals cbv
      exact ⟨BlkLe.flat (fun h => h) hR.flats, trivial⟩
/-- A ring after a call: at any memory. -/
theorem ringM_new {rows : List (List AV)} {R : List AV} {a : Nat → Int} {s f m : Int} (h : RR rows R a s f m) (rows0 : List (List AV)) : newF 1 [some (.cells true 67 rows0)] (RingM rows) 1 := ⟨trivial, h.flats⟩
theorem popT {rows : List (List AV)} {R : List AV} {a : Nat → Int} {s f mm : Int} {q : List Int} {A : AV} {m : Mem} {c k : Nat} {K : AV → Mem → Nat → Prop} (hR : RR rows R a s f mm) (hQ : QQ a s f mm q) (hA : norm A = .ptr k 67 0 0) (hm : m.get k = some (.cells true 67 rows)) (hk : k < c)
    (h1 : q = [] → ∀ rows' R' a' f' mm', RR rows' R' a' s f' mm' → QQ a' s f' mm' [] → K (.tuple [.int .i64 0, .bool false]) (m.write k (some (.cells true 67 rows'))) c)
    (h2 : ∀ x q', q = x :: q' → ∀ rows' R' a' f' mm', RR rows' R' a' s f' mm' → QQ a' s f' mm' q' → K (.tuple [.sym (.int .i64 x), .bool true]) (m.write k (some (.cells true 67 rows'))) c) : CallT (fun _ => Try.prog) 18 [A] m c K := by
  refine ⟨CallS.asFull (R := K) ?_⟩
  refine (CallT.frameF [k] (popC rows R a s f mm q hR hQ) rfl ?_ ?_ ⟨by simp, by simp; omega⟩ ?_).ok
  · simp only [leL, normL, norm, hA, renOL, renO, List.getElem?_cons_zero, Option.map_some]
  · refine ⟨?_, trivial⟩
    simp only [List.getElem?_cons_zero, hm]
    exact BlkLe.flat (fun e => e) hR.flats
  · rintro v m' c' ⟨rows', R', a', f', mm', q', x, b, hR', hQ', hb, rfl, rfl, rfl⟩
    refine ⟨ringM_new hR' rows, ?_⟩
    rcases hb with ⟨rfl, rfl, rfl, rfl⟩ | ⟨rfl, hq⟩
    · exact ⟨.tuple [.int .i64 0, .bool false], rfl, h1 rfl rows' R' a' f' mm' hR' hQ'⟩
    · exact ⟨.tuple [.sym (.int .i64 x), .bool true], rfl, h2 x q' hq rows' R' a' f' mm' hR' hQ'⟩

set_option maxRecDepth 100000 in
set_option maxHeartbeats 4000000 in
theorem pushC (rows : List (List AV)) (R : List AV) (a : Nat → Int) (s f mm x : Int) (q : List Int) (hR : RR rows R a s f mm) (hQ : QQ a s f mm q) :
    CallS Try.prog 17 [.sym (.ptr 0 67 0 0), .sym (.int .i64 x)] (memB [some (.cells true 67 rows)] []) 1 fun v m' c' => ∃ rows' R' a' f' mm' q' y b, RR rows' R' a' s f' mm' ∧ QQ a' s f' mm' q' ∧ (b = false ∧ y = 0 ∧ mm < s ∧ q' = q ++ [x] ∨ b = true ∧ mm = s ∧ ∃ q2, q = y :: q2 ∧ q' = q2 ++ [x]) ∧
      v = .tuple [.sym (.int .i64 y), .bool b] ∧ m' = RingM rows' ∧ c' = 1 := by
  obtain ⟨call, X, hcall⟩ := ringCtx
  have hs0 : s ≠ 0 := by have := hQ.s1; omega
  have hs1 := hQ.s1; have hs2 := hQ.s2; have hf1 := hQ.f1; have hf2 := hQ.f2; have hm1 := hQ.m1; have hle := hQ.le; have hm2 := hQ.m2
  obtain ⟨w1, hw1⟩ : ∃ w, w = (IntKind.wrap .i64 (f + mm)).tmod s := ⟨_, rfl⟩
  have hb1 : mm < s → 0 ≤ w1 ∧ w1 < s := fun hlt => (hQ.push (p := w1) (m' := mm + 1) (x := x) hlt (by rw [hw1, wrap_i64]; congr 1; omega) rfl).2
  refine CallS.ends rfl ?_
  refine CallS.enter X Try.func17 (by decide) ?_
  cbv
  repeat' first
    | ((with_reducible apply ldR hR.row); (focus rfl); (focus first | exact hR.size | exact hR.first | exact hR.many | exact hR.arr _ (by omega)); cbv)
    | ((with_reducible apply stR hR.row); (focus rfl); (focus rfl); (focus (rw [hR.len]; omega)); (intro rows' R' h0 he hl); (first | have hR := hR.setFirst h0 he hl | have hR := hR.setMany h0 he hl | have hR := hR.setArr (by omega) h0 he hl); cbv)
    | ((with_reducible apply popT hR hQ); (focus rfl); (focus rfl); (focus decide); all_goals first
        | ((with_reducible intro x0 q2 hq rows' R' a' f' mm' hR hQ2); (have hm3 := hQ2.m1); (have hm4 := hQ2.m2); (have hf3 := hQ2.f1); (have hf4 := hQ2.f2); (have hql : q.length = q2.length + 1 := by rw [hq]; rfl); (obtain ⟨w2, hw2⟩ : ∃ w, w = (IntKind.wrap .i64 (f' + mm')).tmod s := ⟨_, rfl⟩); (have hb2 := hQ2.push (p := w2) (m' := mm' + 1) (x := x) (by omega) (by rw [hw2, wrap_i64]; congr 1; omega) rfl); cbv)
        | ((with_reducible intro hq rows' R' a' f' mm' hR hQ2); (with_reducible exfalso); (simp [hq] at hm2); omega))
    | ((first | rw [hcall hR hs0 hw1] | rw [hcall hR hs0 hw2]); rotate_left; (focus rfl); (focus rfl); (focus rfl); cbv)
    | ((with_reducible apply symF); (focus rfl); cbv)
    | ((with_reducible intro v hv); (try rw [wrap_i64] at hv); cbv)
    | ((with_reducible apply uAnd); (focus first | kernel_rfl | omega); try cbv)
    | ((with_reducible apply And.intro) <;> (with_reducible intro h) <;> first | ((with_reducible exfalso); omega) | cbv)
  · rename_i v0 hv0 _ _ _ _ _ _
    have hQ3 : QQ (fun i => if i = v0 then x else a' i) s f' v (q2 ++ [x]) := by
      have h4 := hb2.1
      rw [show v = mm' + 1 by omega, show v0 = w2.toNat by omega]
      exact h4
    refine ⟨[], [0], .tuple [.sym (.int .i64 x0), .bool true], [some (.cells true 67 rows')], ?_, rows', R', _, f', v, q2 ++ [x], x0, true, hR, hQ3, .inr ⟨rfl, h, q2, hq, rfl⟩, rfl, rfl, rfl⟩
    refine Head.mk rfl rfl ?_ ?_ rfl ?_
    all_goals cbv
    exact ⟨BlkLe.flat (fun h => h) hR.flats, trivial⟩
  · rename_i v0 hv0 _ _ _ _ _ _
    have hlt : mm < s := by omega
    have hQ3 : QQ (fun i => if i = v0 then x else a i) s f v (q ++ [x]) := by
      have h4 := (hQ.push (p := w1) (m' := mm + 1) (x := x) hlt (by rw [hw1, wrap_i64]; congr 1; omega) rfl).1
      rw [show v = mm + 1 by omega, show v0 = w1.toNat by omega]
      exact h4
    refine ⟨[], [0], .tuple [.sym (.int .i64 0), .bool false], [some (.cells true 67 rows')], ?_, rows', R', _, f, v, q ++ [x], 0, false, hR, hQ3, .inl ⟨rfl, rfl, hlt, rfl⟩, rfl, rfl, rfl⟩
    refine Head.mk rfl rfl ?_ ?_ rfl ?_
    all_goals cbv
    exact ⟨BlkLe.flat (fun h => h) hR.flats, trivial⟩
theorem pushT {rows : List (List AV)} {R : List AV} {a : Nat → Int} {s f mm : Int} (x : Int) {q : List Int} {A B : AV} {m : Mem} {c k : Nat} {K : AV → Mem → Nat → Prop} (hR : RR rows R a s f mm) (hQ : QQ a s f mm q) (hA : norm A = .ptr k 67 0 0) (hB : norm B = .int .i64 x) (hm : m.get k = some (.cells true 67 rows)) (hk : k < c)
    (h1 : mm < s → ∀ rows' R' a' f' mm', RR rows' R' a' s f' mm' → QQ a' s f' mm' (q ++ [x]) → K (.tuple [.int .i64 0, .bool false]) (m.write k (some (.cells true 67 rows'))) c)
    (h2 : mm = s → ∀ y q2, q = y :: q2 → ∀ rows' R' a' f' mm', RR rows' R' a' s f' mm' → QQ a' s f' mm' (q2 ++ [x]) → K (.tuple [.sym (.int .i64 y), .bool true]) (m.write k (some (.cells true 67 rows'))) c) : CallT (fun _ => Try.prog) 17 [A, B] m c K := by
  refine ⟨CallS.asFull (R := K) ?_⟩
  refine (CallT.frameF [k] (pushC rows R a s f mm x q hR hQ) rfl ?_ ?_ ⟨by simp, by simp; omega⟩ ?_).ok
  · simp only [leL, normL, norm, hA, hB, renOL, renO, List.getElem?_cons_zero, Option.map_some]
  · refine ⟨?_, trivial⟩
    simp only [List.getElem?_cons_zero, hm]
    exact BlkLe.flat (fun e => e) hR.flats
  · rintro v m' c' ⟨rows', R', a', f', mm', q', y, b, hR', hQ', hb, rfl, rfl, rfl⟩
    refine ⟨ringM_new hR' rows, ?_⟩
    rcases hb with ⟨rfl, rfl, hlt, rfl⟩ | ⟨rfl, he, q2, hq, rfl⟩
    · exact ⟨.tuple [.int .i64 0, .bool false], rfl, h1 hlt rows' R' a' f' mm' hR' hQ'⟩
    · exact ⟨.tuple [.sym (.int .i64 y), .bool true], rfl, h2 he y q2 hq rows' R' a' f' mm' hR' hQ'⟩

end Go.Proofs.Ytgkmjlchflkckaa.Kit
