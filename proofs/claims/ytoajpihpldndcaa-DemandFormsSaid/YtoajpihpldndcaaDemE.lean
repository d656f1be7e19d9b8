/- The law DemandForms returns true at any numbers. -/
import Derived.Test.YtoajpihpldndcaaDemD
import Derived.Test.YtoajpihpldndcaaAb36
namespace Go.Proofs.Ytoajpihpldndcaa.Dem
open Go.Ab
set_option linter.unusedVariables false
set_option linter.unusedSimpArgs false

def tsOf (rows : List (List AV)) : List Task := rows.map fun r => match r with
  | [a, b, c, d, e, f] => ⟨iOf a, iOf b, iOf c, iOf d, iOf e, iOf f⟩
  | _ => ⟨0, 0, 0, 0, 0, 0⟩
/-- demand.Bound over rows as they stand. -/
theorem boundTG {n cap l : Nat} {opn rw : Bool} {rowsB : List (List AV)} {A B : AV} {m : Mem} {c : Nat} {K : AV → Mem → Nat → Prop} (hk : m.get l = some (.cells rw 6 rowsB)) (hn : n = (tsOf rowsB).length) (hsz : n * 48 ≤ 140737488351232)
    (hA : norm A = .int .i64 (iOf A)) (hB : norm B = .int .i64 (iOf B)) (hr : RowsLe (oneAt l) rowsB ((tsOf rowsB).map tv))
    (h1 : OkAll (tsOf rowsB) ∧ 0 ≤ iOf A ∧ (iOf A).toNat < n ∧ 0 ≤ iOf B ∧ iOf B ≤ 4096 → ∀ r : Int, K (.tuple [.sym (.int .i64 r), .int .i64 0]) m c)
    (h2 : ¬ (OkAll (tsOf rowsB) ∧ 0 ≤ iOf A ∧ (iOf A).toNat < n ∧ 0 ≤ iOf B ∧ iOf B ≤ 4096) → K (.tuple [.int .i64 0, .int .i64 800]) m c) : CallT (fun _ => Try.prog) 9 [.slice l 6 0 n cap opn none, A, B] m c K := by
  refine CallT.readG (k := l) (R0 := fun v => ∃ r e, SpecD (tsOf rowsB) (iOf A) (iOf B) r e ∧ v = .tuple [.sym (.int .i64 r), .sym (.int .i64 e)]) (boundC (tsOf rowsB) _ n cap opn hn hsz (map_flat _ fun x => rfl) (At.map tv _) (iOf A) (iOf B)) ?_ hk hr ?_
  · simp only [leL, normL, norm, hA, hB, renOL, renO, oneAt, Option.map_some]
  · rintro v ⟨r, e, ⟨ha, hi, hk1, hk2, rfl, t, ht, hr⟩ | ⟨hno, rfl, rfl⟩, rfl⟩
    · exact ⟨_, rfl, h1 ⟨ha, hi, by rw [hn]; exact (List.getElem?_eq_some_iff.1 ht).1, hk1, hk2⟩ r⟩
    · exact ⟨.tuple [.int .i64 0, .int .i64 800], rfl, h2 (by rw [hn]; exact hno)⟩

set_option maxRecDepth 200000 in
set_option maxHeartbeats 4000000 in
theorem demandForms (which x : Int) : CallS Try.prog 5 [.sym (.int .i64 which), .sym (.int .i64 x)] (memB [] []) 0 fun v _ _ => v = .bool true := by
  refine CallS.enter X Try.func5 (by decide) ?_
  cbv
  with_reducible apply awakeT
  cbv
  with_reducible intro k hk
  have hkb := and_bound (by decide) (by decide) hk
  clear hk
  cbv
  with_reducible intro d hd
  rw [wrap_i64] at hd
  have hd1 : 1 ≤ d ∧ d ≤ 64 := by omega
  clear hd hkb
  cbv
  with_reducible apply boundTG
  focus rfl
  focus rfl
  focus decide
  focus rfl
  focus rfl
  focus exact RowsLe.cons rfl (RowsLe.cons rfl RowsLe.nil)
  rotate_left
  · intro hno
    exfalso
    refine hno ⟨⟨?_, ?_⟩, by decide, by decide, by decide, by decide⟩
    · intro t ht
      simp only [tsOf, iOf, List.map_cons, List.map_nil, List.mem_cons, List.not_mem_nil, or_false] at ht
      rcases ht with rfl | rfl <;> simp [Ok]
    · simp [tsOf, prios, iOf]
  intro _ r
  cbv
  repeat' first
    | with_reducible exact trivial
    | ((with_reducible intro v hv); (try rw [wrap_i64] at hv); cbv)
    | ((with_reducible apply uAnd); (focus first | omega | (cbv; done) | kernel_rfl | decide); try cbv)
    | ((with_reducible apply And.intro) <;> (with_reducible intro h) <;> first | ((with_reducible exfalso); omega) | cbv)
    | ((with_reducible apply CallT.enter X Try.func11 (by decide)); cbv)
    | ((with_reducible apply boundNilT); (focus rfl); (focus rfl); cbv)
    | ((with_reducible apply boundTG); (focus rfl); (focus rfl); (focus decide); (focus rfl); (focus rfl); (focus exact RowsLe.cons rfl (RowsLe.cons rfl RowsLe.nil)); (focus (intro hok; exfalso; obtain ⟨⟨ha, hb⟩, hc⟩ := hok; have h0 := ha _ (List.mem_cons_self); have h1 := ha _ (List.mem_cons_of_mem _ List.mem_cons_self); (simp [tsOf, prios, iOf, Ok] at h0 h1 hb hc <;> omega))); intro hno; cbv)
end Go.Proofs.Ytoajpihpldndcaa.Dem
