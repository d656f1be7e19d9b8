/- Rows of a fixed size: their cells, places in them. -/
import Derived.Test.YtgkmjlchflkckaaAb41
import Derived.Test.YtgkmjlchflkckaaSameInts0
namespace Go.Proofs.Ytgkmjlchflkckaa.Kit
open Go.Ab Base
set_option linter.unusedVariables false
set_option linter.unusedSimpArgs false

/-- A ring's row. -/
structure RR (rows : List (List AV)) (R : List AV) (a : Nat → Int) (s f m : Int) : Prop where
  row : rows[0]? = some R
  one : rows.length = 1
  len : R.length = 67
  arr : ∀ i, i < 64 → R[i]? = some (.sym (.int .i64 (a i)))
  size : R[64]? = some (.sym (.int .i64 s))
  first : R[65]? = some (.sym (.int .i64 f))
  many : R[66]? = some (.sym (.int .i64 m))
  flat : AV.flatL R = true
section
variable {rows rows' : List (List AV)} {R R' : List AV} {a : Nat → Int} {s f m : Int}
theorem RR.flats (h : RR rows R a s f m) : ∀ row ∈ rows, AV.flatL row = true := one_flat h.row h.one h.flat
theorem RR.setArr (h : RR rows R a s f m) {j : Nat} {x : Int} (hj : j < 64) (h0 : rows'[0]? = some R') (e : R' = R.set j (.sym (.int .i64 x))) (hl : rows'.length = rows.length) : RR rows' R' (fun i => if i = j then x else a i) s f m := by
  subst e
  refine ⟨h0, by rw [hl, h.one], by rw [List.length_set, h.len], fun i hi => ?_, ?_, ?_, ?_, set_flat h.flat rfl⟩
  · by_cases e : i = j
    · subst e; rw [set_same (by rw [h.len]; omega), if_pos rfl]
    · rw [set_other (fun k => e k.symm), h.arr i hi, if_neg e]
  · rw [set_other (by omega), h.size]
  · rw [set_other (by omega), h.first]
  · rw [set_other (by omega), h.many]
theorem RR.setFirst (h : RR rows R a s f m) {x : Int} (h0 : rows'[0]? = some R') (e : R' = R.set 65 (.sym (.int .i64 x))) (hl : rows'.length = rows.length) : RR rows' R' a s x m := by
  subst e
  refine ⟨h0, by rw [hl, h.one], by rw [List.length_set, h.len], fun i hi => ?_, ?_, ?_, ?_, set_flat h.flat rfl⟩
  · rw [set_other (by omega), h.arr i hi]
  · rw [set_other (by omega), h.size]
  · rw [set_same (by rw [h.len]; omega)]
  · rw [set_other (by omega), h.many]
theorem RR.setMany (h : RR rows R a s f m) {x : Int} (h0 : rows'[0]? = some R') (e : R' = R.set 66 (.sym (.int .i64 x))) (hl : rows'.length = rows.length) : RR rows' R' a s f x := by
  subst e
  refine ⟨h0, by rw [hl, h.one], by rw [List.length_set, h.len], fun i hi => ?_, ?_, ?_, ?_, set_flat h.flat rfl⟩
  · rw [set_other (by omega), h.arr i hi]
  · rw [set_other (by omega), h.size]
  · rw [set_other (by omega), h.first]
  · rw [set_same (by rw [h.len]; omega)]
end

set_option maxHeartbeats 4000000 in
theorem atC (rows : List (List AV)) (R : List AV) (s f i : Int) (h0 : rows[0]? = some R) (hs : R[64]? = some (.sym (.int .i64 s))) (hf : R[65]? = some (.sym (.int .i64 f))) (hn : s ≠ 0) :
    CallS Try.prog 20 [.sym (.ptr 0 67 0 0), .sym (.int .i64 i)] (memB [some (.cells false 67 rows)] []) 1 fun v _ _ => v.flat = true ∧ ∃ r, r = (IntKind.wrap .i64 (f + i)).tmod s ∧ Go.Ab.full v = .sym (.int .i64 r) := by
  refine CallS.enter X Try.func20 (by decide) ?_
  cbv
  repeat' first
    | ((with_reducible apply ldR h0); (focus rfl); (focus first | exact hs | exact hf); cbv)
    | ((with_reducible intro v hv); cbv)
    | ((with_reducible apply uAnd); (focus first | exact hn | kernel_rfl | omega); try cbv)
  rename_i w hw
  exact ⟨v, by rw [hv, hw], rfl⟩

section
variable (atF : Int → Int → Int → Int)
def gAt : List AV → Mem → Option AV
  | [A, B], m => match norm A, norm B with
    | .ptr n 67 i0 0, .int .i64 i => match m.get n with
      | some (.cells _ 67 rows) => match rows[i0]? with
        | some row => bif AV.flatL row then match (row[64]?).map norm, (row[65]?).map norm with
            | some (.int .i64 s), some (.int .i64 f) => if s = 0 then none else some (.sym (.int .i64 (atF f i s)))
            | _, _ => none
          else none
        | none => none
      | _ => none
    | _, _ => none
  | _, _ => none
theorem flatL_sym : ∀ row : List AV, AV.flatL row = true → AV.flatL (row.map fun v => .sym (norm v)) = true
  | [], _ => rfl
  | v :: row, h => by
    simp only [AV.flatL, Bool.and_eq_true] at h
    simp only [List.map_cons, AV.flatL, AV.flat, flat_norm, h.1, flatL_sym row h.2, Bool.and_self]
theorem normL_sym (row : List AV) : normL (row.map fun v => .sym (norm v)) = normL row := by
  rw [normL_eq, normL_eq, List.map_map]
  exact List.map_congr_left fun v _ => by simp only [Function.comp, norm]; exact norm_norm v
theorem gAt_ok (hat : ∀ f i s, atF f i s = (IntKind.wrap .i64 (f + i)).tmod s) : HintOK Try.prog (20, gAt atF) := fun vs m v hv c => by
  dsimp only at hv ⊢
  unfold gAt at hv
  split at hv
  · rename_i A B
    split at hv
    · rename_i n i0 i hA hB
      split at hv
      · rename_i rw rows hk
        split at hv
        · rename_i row hr
          cases hfl : AV.flatL row with
          | false => rw [hfl] at hv; cases hv
          | true =>
            rw [hfl] at hv
            simp only [cond_true] at hv
            split at hv
            · rename_i s f h64 h65
              split at hv
              · cases hv
              · rename_i hs0
                cases hv
                rw [Option.map_eq_some_iff] at h64 h65
                obtain ⟨x64, h64, e64⟩ := h64
                obtain ⟨x65, h65, e65⟩ := h65
                refine (CallS.ptr1 (vs := [A, B]) (R0 := fun v => ∃ r, r = (IntKind.wrap .i64 (f + i)).tmod s ∧ Go.Ab.full v = .sym (.int .i64 r)) (fun P => [P, .sym (.int .i64 i)]) hA hk hr (row0 := row.map fun v => .sym (norm v)) (normL_sym row).symm (flatL_sym row hfl) (fun l B' h => ⟨h, ArgV.flat rfl (by rw [hB]; rfl), trivial⟩)
                  (atC _ (row.map fun v => .sym (norm v)) s f i rfl (by rw [List.getElem?_map, h64]; simp only [Option.map_some, e64]) (by rw [List.getElem?_map, h65]; simp only [Option.map_some, e65]) hs0)).mono ?_
                rintro v m' c' ⟨⟨r, hr, hv⟩, rfl, rfl⟩
                refine ⟨?_, rfl, rfl⟩
                rw [hv, hr, ← hat]; rfl
            · cases hv
        · cases hv
      · cases hv
    · cases hv
  · cases hv
end
/-- A context in which places are told of. -/
theorem ringCtx : ∃ (call : CallA), Ctx Try.prog call ∧
    ∀ {rows : List (List AV)} {R : List AV} {a : Nat → Int} {s f mm i w : Int} {A B : AV} {m : Mem} {c k : Nat} {rw : Bool}, RR rows R a s f mm → s ≠ 0 → w = (IntKind.wrap .i64 (f + i)).tmod s → norm A = .ptr k 67 0 0 → norm B = .int .i64 i → m.get k = some (.cells rw 67 rows) →
      call 20 [A, B] m c = some (.sym (.int .i64 w), m, c) := by
  obtain ⟨atF, hat⟩ : ∃ atF : Int → Int → Int → Int, ∀ f i s, atF f i s = (IntKind.wrap .i64 (f + i)).tmod s := ⟨_, fun _ _ _ => rfl⟩
  refine ⟨aRun Try.prog (readHints [(20, gAt atF)]) 5, ctx_read (l := [(20, gAt atF)]) hm ⟨gAt_ok atF hat, trivial⟩ 5, ?_⟩
  intro rows R a s f mm i w A B m c k rw hR hs hw hA hB hm
  have hg : gAt atF [A, B] m = some (.sym (.int .i64 w)) := by
    unfold gAt
    simp only [hA, hB, hm, hR.row, hR.flat, cond_true, hR.size, hR.first, Option.map_some, norm, if_neg hs, hat, hw]
  have hx : (readHints [(20, gAt atF)]).ext 20 = some fun vs m c => (gAt atF vs m).map fun v => (v, m, c) := rfl
  simp only [aRun, hx, hg, Option.map_some]
end Go.Proofs.Ytgkmjlchflkckaa.Kit
