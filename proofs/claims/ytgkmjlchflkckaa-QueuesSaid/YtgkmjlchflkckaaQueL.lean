/- Queues: Len, by an answer in drawn regions. -/
import Derived.Test.YtgkmjlchflkckaaRingC
import Derived.Test.YtgkmjlchflkckaaAb47
namespace Go.Proofs.Ytgkmjlchflkckaa.QueL
open Go.Ab Base Kit
set_option linter.unusedVariables false
set_option linter.unusedSimpArgs false

theorem rr_uniq {rows : List (List AV)} {R R' : List AV} {a a' : Nat → Int} {s f mm s' f' mm' : Int} {q q' : List Int} (hR : RR rows R a s f mm) (hQ : QQ a s f mm q) (hR' : RR rows R' a' s' f' mm') (hQ' : QQ a' s' f' mm' q') : q = q' := by
  have e := Option.some.inj (hR.row.symm.trans hR'.row)
  subst e
  have e1 : s = s' := by have := hR.size.symm.trans hR'.size; simpa using this
  have e2 : f = f' := by have := hR.first.symm.trans hR'.first; simpa using this
  have e3 : mm = mm' := by have := hR.many.symm.trans hR'.many; simpa using this
  subst e1 e2 e3
  have h1 := hQ.m2; have h2 := hQ'.m2
  have hs1 := hQ.s1; have hs2 := hQ.s2
  apply List.ext_getElem?
  intro i
  by_cases hi : i < q.length
  · obtain ⟨x, hx⟩ : ∃ x, q[i]? = some x := ⟨_, List.getElem?_eq_getElem hi⟩
    obtain ⟨y, hy⟩ : ∃ y, q'[i]? = some y := ⟨_, List.getElem?_eq_getElem (by omega)⟩
    have hlt : (f.toNat + i) % s.toNat < 64 := by
      have := Nat.mod_lt (f.toNat + i) (show 0 < s.toNat by omega)
      omega
    have h3 := (hR.arr _ hlt).symm.trans (hR'.arr _ hlt)
    rw [hQ.at_ i x hx, hQ'.at_ i y hy] at h3
    rw [hx, hy]
    simpa using h3
  · rw [List.getElem?_eq_none (by omega), List.getElem?_eq_none (by omega)]

set_option maxRecDepth 100000 in
set_option maxHeartbeats 4000000 in
theorem lenC (rows : List (List AV)) (R : List AV) (a : Nat → Int) (s f mm : Int) (q : List Int) (hR : RR rows R a s f mm) (hQ : QQ a s f mm q) :
    CallS Try.prog 13 [.ptr 0 1 0 0] (memB [some (.cells false 1 [[.ptr 1 67 0 0]]), some (.cells false 67 rows)] []) 2 fun v m' c' => (v.flat = true ∧ ∃ z : Int, 0 ≤ z ∧ z.toNat = q.length ∧ full v = .sym (.int .i64 z)) ∧ m' = memB [some (.cells false 1 [[.ptr 1 67 0 0]]), some (.cells false 67 rows)] [] ∧ c' = 2 := by
  refine CallS.calm ?_
  refine CallS.enter X Try.func13 (by decide) ?_
  cbv
  repeat' first
    | ((with_reducible apply allT hR hQ); (focus rfl); (focus rfl); (focus decide); all_goals first
        | ((with_reducible intro Lx capx rowsx hx); (have hxl := hx.len); cbv)
        | ((with_reducible intro hqn); cbv))
    | ((with_reducible intro v hv); cbv)
    | ((with_reducible apply uAnd); (focus first | kernel_rfl | omega); try cbv)
  · exact ⟨⟨0, Int.le_refl 0, by rw [hqn]; rfl, rfl⟩, trivial⟩
  · exact ⟨⟨v, hv.1, by omega, rfl⟩, trivial⟩
theorem lenS {rows : List (List AV)} {R : List AV} {a : Nat → Int} {s f mm : Int} {q : List Int} {A P : AV} {m : Mem} {c k1 k2 : Nat} {rw1 rw2 : Bool} (hR : RR rows R a s f mm) (hQ : QQ a s f mm q) (hA : norm A = .ptr k1 1 0 0) (hm1 : m.get k1 = some (.cells rw1 1 [[P]])) (hP : norm P = .ptr k2 67 0 0) (hm2 : m.get k2 = some (.cells rw2 67 rows)) :
    CallS Try.prog 13 [A] m c fun v m' c' => full v = .sym (.int .i64 (q.length : Nat)) ∧ m' = m ∧ c' = c := by
  refine ⟨fun μ w args h1 hS hf => ?_⟩
  have hk1 := get_some_lt hS hf hm1
  have hk2 := get_some_lt hS hf hm2
  have hne : k1 ≠ k2 := fun e => by subst e; rw [hm1] at hm2; cases hm2
  refine (CallT.frameF (P := Try.prog) (K := fun v m' c' => full v = .sym (.int .i64 (q.length : Nat)) ∧ m' = m ∧ c' = c) [k1, k2] (lenC rows R a s f mm q hR hQ) rfl ?_ ?_ ⟨by simp [hne], by simp; omega⟩ ?_).ok.ok μ w args h1 hS hf
  · simp only [leL, normL, norm, hA, renOL, renO, List.getElem?_cons_zero, Option.map_some]
  · refine ⟨?_, ?_, trivial⟩
    · simp only [List.getElem?_cons_zero, hm1]
      refine BlkLe.cells (fun e => by cases e) (RowsLe.cons ?_ RowsLe.nil)
      simp only [leL, normL, norm, hP, renOL, renO, List.getElem?_cons_zero, List.getElem?_cons_succ, Option.map_some]
    · simp only [Nat.zero_add, List.getElem?_cons_zero, List.getElem?_cons_succ, hm2]
      exact BlkLe.flat (fun e => by cases e) hR.flats
  · rintro v m' c' ⟨⟨hfl, z, hz0, hz1, hz2⟩, rfl, rfl⟩
    refine ⟨⟨⟨trivial, trivial⟩, trivial⟩, ?_, rfl, rfl⟩
    rw [renV_flat _ _ hfl, hz2]
    congr 2
    omega
def LenGood (vs : List AV) (m : Mem) (q : List Int) : Prop := ∃ A P k1 k2 rw1 rw2 rows R a s f mm, vs = [A] ∧ norm A = .ptr k1 1 0 0 ∧ m.get k1 = some (.cells rw1 1 [[P]]) ∧ norm P = .ptr k2 67 0 0 ∧ m.get k2 = some (.cells rw2 67 rows) ∧ RR rows R a s f mm ∧ QQ a s f mm q
open Classical in
noncomputable def gLen : List AV → Mem → Option AV := fun vs m => if h : ∃ q, LenGood vs m q then some (.sym (.int .i64 (h.choose.length : Nat))) else none
theorem gLen_ok : HintOK Try.prog (13, gLen) := fun vs m v e c => by
  change gLen vs m = some v at e
  unfold gLen at e
  split at e
  · rename_i h
    cases e
    obtain ⟨A, P, k1, k2, rw1, rw2, rows, R, a, s, f, mm, rfl, hA, hm1, hP, hm2, hR, hQ⟩ := h.choose_spec
    exact lenS hR hQ hA hm1 hP hm2
  · cases e
theorem lenCtx : ∃ (call : CallA), Ctx Try.prog call ∧
    ∀ {rows : List (List AV)} {R : List AV} {a : Nat → Int} {s f mm z : Int} {q : List Int} {A P : AV} {m : Mem} {c k1 k2 : Nat} {rw1 rw2 : Bool}, RR rows R a s f mm → QQ a s f mm q → 0 ≤ z ∧ z.toNat = q.length → norm A = .ptr k1 1 0 0 → m.get k1 = some (.cells rw1 1 [[P]]) → norm P = .ptr k2 67 0 0 → m.get k2 = some (.cells rw2 67 rows) →
      call 13 [A] m c = some (.sym (.int .i64 z), m, c) := by
  refine ⟨aRun Try.prog (readHints [(13, gLen)]) 5, ctx_read (l := [(13, gLen)]) hm ⟨gLen_ok, trivial⟩ 5, ?_⟩
  intro rows R a s f mm z q A P m c k1 k2 rw1 rw2 hR hQ hz hA hm1 hP hm2
  have hx : (readHints [(13, gLen)]).ext 13 = some fun vs m c => (gLen vs m).map fun v => (v, m, c) := rfl
  have hex : ∃ q, LenGood [A] m q := ⟨q, A, P, k1, k2, rw1, rw2, rows, R, a, s, f, mm, rfl, hA, hm1, hP, hm2, hR, hQ⟩
  have hu : hex.choose = q := by
    obtain ⟨A', P', k1', k2', rw1', rw2', rows', R', a', s', f', mm', e1, e2, e3, e4, e5, e6, e7⟩ := hex.choose_spec
    cases e1
    rw [hA] at e2; cases e2
    rw [hm1] at e3; cases e3
    rw [hP] at e4; cases e4
    rw [hm2] at e5; cases e5
    exact rr_uniq e6 e7 hR hQ
  have : gLen [A] m = some (.sym (.int .i64 z)) := by
    unfold gLen
    rw [dif_pos hex, hu]
    congr 3
    omega
  simp only [aRun, hx, this, Option.map_some]
end Go.Proofs.Ytgkmjlchflkckaa.QueL
