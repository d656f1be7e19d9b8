/- append and map stores: the abstract ones are the model's. -/
import Derived.Test.YtndbcpfbddhonaaAb11
namespace Go.Ab
set_option linter.unusedSimpArgs false
set_option linter.unusedVariables false

section
variable {P : Program} {μ : Mu} {w : World} {nm c : Nat} {m : Mem}

/-- The rows of a slice, as the model reads them. -/
theorem rows_read {z i k : Nat} {rows : List (List AV)} {cs : Array Value} {el : TypeId} {fz : Nat × Nat} {p : Pl} {rw_ : Bool} (hb : BlkR μ p (.cells rw_ z rows) (.cells cs el fz)) (hle : i + k ≤ rows.length) :
    ∃ olds, cnL μ ((rows.drop i).take k).flatten = some olds ∧ olds.length = k * z ∧ (∀ (j : Nat) (u : Value), olds[j]? = some u → cs[p.shift + i * z + j]? = some u) ∧ ∀ row ∈ (rows.drop i).take k, row.length = z ∧ ∀ v ∈ row, v.isCell = true := by
  suffices ∀ (k i : Nat), i + k ≤ rows.length → ∃ news, cnL μ ((rows.drop i).take k).flatten = some news ∧ news.length = k * z ∧ ∀ (j : Nat) (u : Value), news[j]? = some u → cs[p.shift + i * z + j]? = some u by
    obtain ⟨n, h1, h2, h3⟩ := this k i hle
    exact ⟨n, h1, h2, h3, fun row hr => hb.1 row (List.mem_of_mem_drop (List.mem_of_mem_take hr))⟩
  intro k
  induction k with
  | zero => intro i _; exact ⟨[], by simp [cnL], by simp, fun j u hj => by simp at hj⟩
  | succ k ih =>
    intro i hi
    obtain ⟨news, h1, h2, h3⟩ := ih (i + 1) (by omega)
    have hilt : i < rows.length := by omega
    have hrow : rows[i]? = some rows[i] := List.getElem?_eq_getElem hilt
    obtain ⟨l, hl, hlc⟩ := row_cells hb hrow
    have hlz : l.length = z := (cnL_length hl).trans (hb.1 _ (List.mem_of_getElem? hrow)).1
    refine ⟨l ++ news, ?_, by rw [List.length_append, h2, hlz, Nat.succ_mul]; omega, fun j u hj => ?_⟩
    · rw [List.drop_eq_getElem_cons hilt, List.take_succ_cons, List.flatten_cons]
      exact cnL_append hl h1
    · by_cases hjz : j < l.length
      · rw [List.getElem?_append_left hjz] at hj
        exact hlc j u hj
      · rw [List.getElem?_append_right (by omega)] at hj
        have := h3 _ u hj
        rw [← this]
        congr 1
        rw [Nat.succ_mul, hlz]
        omega

/-- The rows that are appended, as the model reads them. -/
theorem src_ok (hS : Sim μ m.get w) {z : Nat} {tx : TypeId} {x : AV} {X : Value} {src : List (List AV)} (hx : cn μ x = some X) (h : srcA P m.get z tx x = some src) :
    ∃ news, cnL μ src.flatten = some news ∧ (∀ row ∈ src, row.length = z ∧ ∀ v ∈ row, v.isCell = true) ∧ (Builtin.lenOf X).run P w = .ok src.length w ∧
      (∀ d, (Builtin.firstCells z src.length X).run P { w with drawn := d } = .ok news.toArray { w with drawn := d }) ∧ (∃ d, P.underlying tx = some d ∧ ∀ k, d ≠ .int k) := by
  unfold srcA at h
  split at h
  · split at h
    · rename_i e hu
      cases h
      simp only [cn, Option.some.injEq] at hx
      subst hx
      exact ⟨[], rfl, by simp, rfl, fun d => rfl, _, hu, fun k e => by cases e⟩
    · cases h
  · rename_i n z' i len cap opn alt
    simp only [cn, Option.map_eq_some_iff] at hx
    obtain ⟨p, hp, rfl⟩ := hx
    split at h
    · rename_i e hu
      split at h
      · rename_i h0
        cases h
        subst h0
        exact ⟨[], rfl, by simp, rfl, fun d => by simp [Builtin.firstCells, plSlice, loadCells, loadCellsFrom], _, hu, fun k e => by cases e⟩
      · rename_i h0
        split at h
        · rename_i rw_ z'' rows hg
          split at h
          · rename_i hc
            obtain ⟨rfl, rfl, hle⟩ := hc
            cases h
            obtain ⟨p', o, hp', ho, hb⟩ := hS.blk n _ hg
            rw [hp] at hp'; cases hp'
            cases o <;> first | exact hb.elim | skip
            rename_i cs el fz
            obtain ⟨news, h1, h2, h3, h4⟩ := rows_read (k := len) hb hle
            have hlen : ((rows.drop i).take len).length = len := by simp; omega
            refine ⟨news, h1, h4, by rw [hlen]; rfl, fun d => ?_, _, hu, fun k e => by cases e⟩
            rw [hlen]
            simp only [plSlice, Option.getD_none, ite_self]
            refine run_firstCells_some (P := P) { w with drawn := d } _ len _ _ _ news h2 fun j u hj => ?_
            rw [add_mk]
            exact (cell_mk (w := { w with drawn := d }) ho).trans (h3 j u hj)
          · cases h
        · cases h
    · cases h
  · rename_i s
    simp only [cn, Option.some.injEq] at hx
    subst hx
    split at h
    · rename_i hu
      split at h
      · rename_i hz
        cases h
        subst hz
        refine ⟨s.map fun b => .int .u8 b.toNat, ?_, fun row hr => ?_, ?_, fun d => ?_, _, hu, fun k e => by cases e⟩
        · rw [flat_bytes]
          exact cnL_of (by simp) fun i a hi => by
            simp only [List.getElem?_map, Option.map_eq_some_iff] at hi ⊢
            obtain ⟨b, hb, rfl⟩ := hi
            exact ⟨.int .u8 b.toNat, by simp [cn], b, hb, rfl⟩
        · simp only [List.mem_map] at hr
          obtain ⟨b, _, rfl⟩ := hr
          exact ⟨rfl, fun v hv => by simp at hv; subst hv; rfl⟩
        · simp only [List.length_map]; rfl
        · simp only [Builtin.firstCells, List.length_map, Sem.run_pure]
          congr 1
          apply Array.ext'
          have : (⟨s.toArray⟩ : ByteArray).extract 0 s.length = ⟨s.toArray⟩ := by
            apply ByteArray.ext
            rw [ByteArray.data_extract]
            apply Array.ext'
            simp
          rw [this]
          simp
      · cases h
    · cases h
  · cases h

theorem append_grow {ts tx ty e : TypeId} {z b n sLen sCap : Nat} {zv : Value} {base : Option Addr} {X : Value} {olds news : List Value} {i : TypeInfo} (he : P.underlying ts = some (.slice e)) (hi : P.info? e = some i) (hz : i.size = z) (hbb : i.bytes = b) (hzv : i.zero = some zv)
    (hx : ∃ d, P.underlying tx = some d ∧ ∀ k, d ≠ .int k) (hlen : (Builtin.lenOf X).run P w = .ok n w) (hfc : ∀ d, (Builtin.firstCells z n X).run P { w with drawn := d } = .ok news.toArray { w with drawn := d })
    (hfo : ∀ d, (Builtin.firstCells z sLen (.slice base sLen sCap)).run P { w with drawn := d } = .ok olds.toArray { w with drawn := d }) (hg : sCap < sLen + n) (hb : (sLen + n) * b ≤ 140737488355328) (hm : sLen + n ≤ 140737488355328) :
    (Builtin.append_ #[ts, tx] ty #[.slice base sLen sCap, X]).run P w = .ok (.slice (some ⟨w.heap.size, 0, none⟩) (sLen + n) (grownCap w (sLen + n) sCap e))
      { w with heap := w.heap.push (.cells (olds.toArray ++ news.toArray ++ Builtin.zeroCells zv.cells (grownCap w (sLen + n) sCap e - (sLen + n))) e), drawn := w.drawn + 1 } := by
  obtain ⟨d, hd, hdk⟩ := hx
  subst hz; subst hbb
  have hzeros : ((d matches .int _) : Bool) = false := by cases d <;> first | rfl | exact (hdk _ rfl).elim
  have h1 : ¬ (sLen + n ≤ sCap) := by omega
  have hmax : IntKind.i64.max = 9223372036854775807 := by decide
  have h2 : ¬ ((((sLen + n : Nat)) : Int) > IntKind.i64.max) := by rw [hmax]; omega
  have h3 : ¬ (Builtin.nextslicecap (sLen + n) sCap * i.bytes > 2 ^ 48) := by have := growslice_fits hg hb; omega
  have hfo' := hfo (w.drawn + 1)
  have hfc' := hfc (w.drawn + 1)
  have hgc : (Question.appendCap (sLen + n) sCap e).cut (w.tape w.drawn (Question.appendCap (sLen + n) sCap e)) = grownCap w (sLen + n) sCap e := rfl
  simp only [Builtin.append_, List.getElem?_toArray, List.getElem?_cons_zero, List.getElem?_cons_succ, Sem.run_bind, run_underlying he, Result.andThen_ok, sizeOf, typeInfo, run_program, hi, Sem.run_pure, run_underlying hd, hzeros, Bool.false_eq_true, if_false, hlen, h1,
    h2, false_and, h3, run_choose, Question.forced, hgc, run_askRoom, hfo', hfc', Bool.not_false, if_true, zeroValue, hzv, newRow, run_newObj]

theorem append_fits {ts tx ty e : TypeId} {z n sLen sCap : Nat} {a : Addr} {X : Value} {news : List Value} {w' : World} {i : TypeInfo} (he : P.underlying ts = some (.slice e)) (hi : P.info? e = some i) (hz : i.size = z)
    (hx : ∃ d, P.underlying tx = some d ∧ ∀ k, d ≠ .int k) (hlen : (Builtin.lenOf X).run P w = .ok n w) (hfc : (Builtin.firstCells z n X).run P w = .ok news.toArray w)
    (hst : (storeCells (a.add (sLen * z)) news).run P w = .ok () w') (hg : sLen + n ≤ sCap) :
    (Builtin.append_ #[ts, tx] ty #[.slice (some a) sLen sCap, X]).run P w = .ok (.slice (some a) (sLen + n) sCap) w' := by
  obtain ⟨d, hd, hdk⟩ := hx
  subst hz
  have hzeros : ((d matches .int _) : Bool) = false := by cases d <;> first | rfl | exact (hdk _ rfl).elim
  simp only [Builtin.append_, List.getElem?_toArray, List.getElem?_cons_zero, List.getElem?_cons_succ, Sem.run_bind, run_underlying he, Result.andThen_ok, sizeOf, typeInfo, run_program, hi, Sem.run_pure, run_underlying hd, hzeros, Bool.false_eq_true, if_false, hlen, hg, if_true,
    Bool.not_false, hfc, hst]
end

end Go.Ab
