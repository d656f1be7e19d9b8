/- The operations that leave alone what was there: the abstract ones are the model's. -/
import Derived.Test.YtndbcpfbddhonaaAb3
namespace Go.Ab

theorem add_mk (b o n : Nat) : (⟨b, o, none⟩ : Addr).add n = ⟨b, o + n, none⟩ := by unfold Addr.add; split <;> simp_all
theorem cell_mk {w : World} {b o : Nat} {cs : Array Value} {el : TypeId} {fz : Nat × Nat} (h : w.heap[b]? = some (.cells cs el fz)) : w.cell? ⟨b, o, none⟩ = cs[o]? := by
  simp [World.cell?, h]
theorem size_run {P : Program} {t : TypeId} {s : Nat} (h : sizeT P t = some s) (w : World) : (sizeOf t).run P w = .ok s w := by
  simp only [sizeT, Option.map_eq_some_iff] at h
  obtain ⟨i, hi, rfl⟩ := h
  simp [sizeOf, typeInfo, hi]
theorem info_run {P : Program} {t : TypeId} {i : TypeInfo} (h : P.info? t = some i) (w : World) : (typeInfo t).run P w = .ok i w := by simp [typeInfo, h]
theorem bytes_info {P : Program} {t : TypeId} {b : Nat} (h : bytesT P t = some b) : ∃ i, P.info? t = some i ∧ i.bytes = b := by
  simpa [bytesT, Option.map_eq_some_iff] using h
theorem agg_run {P : Program} {t : TypeId} {b : Bool} (h : isAggT P t = some b) (w : World) : (isAgg t).run P w = .ok b w := by
  unfold isAggT at h
  split at h
  · rename_i hu; cases h; simp [isAgg, run_underlying hu]
  · rename_i hu; cases h; simp [isAgg, run_underlying hu]
  · rename_i d h1 h2 hu
    cases h
    simp only [isAgg, Sem.run_bind, run_underlying hu, Result.andThen_ok]
    cases d <;> first | rfl | exact (h1 _ hu).elim | exact (h2 _ _ hu).elim
  · cases h
theorem zero_run {P : Program} {t : TypeId} {v : AV} (h : zeroT P t = some v) (w : World) : ∃ z, (∀ μ, cn μ v = some z) ∧ (zeroValue t).run P w = .ok z w := by
  unfold zeroT at h
  simp only [Option.bind_eq_some_iff] at h
  obtain ⟨z, ⟨i, hi, hz⟩, hv⟩ := h
  exact ⟨z, fun μ => absV_cn hv, by simp [zeroValue, info_run hi, hz]⟩
theorem und_of_elem {P : Program} {t e : TypeId} (h : elemT P t = some e) : P.underlying t = some (.slice e) := by
  unfold elemT at h
  split at h
  · rename_i hu; cases h; exact hu
  · cases h

theorem row_cells {μ : Mu} {p : Pl} {rw : Bool} {z : Nat} {rows : List (List AV)} {cs : Array Value} {el : TypeId} {fz : Nat × Nat}
    (hb : BlkR μ p (.cells rw z rows) (.cells cs el fz)) {i : Nat} {row : List AV} (hi : rows[i]? = some row) :
    ∃ l, cnL μ row = some l ∧ ∀ (f : Nat) (u : Value), l[f]? = some u → cs[p.shift + i * z + f]? = some u := by
  obtain ⟨h1, h2, _⟩ := hb
  have : ∀ (f : Nat) (v : AV), row[f]? = some v → ∃ u, cn μ v = some u := fun f v hf => let ⟨u, hu, _⟩ := h2 i row f v hi hf; ⟨u, hu⟩
  have hex : ∀ r : List AV, (∀ (f : Nat) (v : AV), r[f]? = some v → ∃ u, cn μ v = some u) → ∃ l, cnL μ r = some l := by
    intro r
    induction r with
    | nil => intro _; exact ⟨[], rfl⟩
    | cons a r ih =>
      intro h
      obtain ⟨u, hu⟩ := h 0 a rfl
      obtain ⟨l, hl⟩ := ih fun f v hf => h (f + 1) v (by simpa using hf)
      exact ⟨u :: l, cnL_mk hu hl⟩
  obtain ⟨l, hl⟩ := hex row this
  refine ⟨l, hl, fun f u hf => ?_⟩
  obtain ⟨a, ha, hu⟩ := cnL_get' hl f u hf
  obtain ⟨u', hu', hc⟩ := h2 i row f a hi ha
  rw [hu] at hu'; cases hu'; exact hc

theorem read_run {P : Program} {μ : Mu} {w : World} {b off : Nat} {cs : Array Value} {el : TypeId} {fz : Nat × Nat} {row : List AV} {l : List Value} {t : TypeId} {f : Nat} {v : AV}
    (hh : w.heap[b]? = some (.cells cs el fz)) (hl : cnL μ row = some l) (hc : ∀ (f : Nat) (u : Value), l[f]? = some u → cs[off + f]? = some u)
    (h : readAt P t row f = some v) : ∃ u, (loadVar t ⟨b, off + f, none⟩).run P w = .ok u w ∧ cn μ v = some u := by
  unfold readAt at h
  split at h
  · rename_i s ha hs
    split at h
    · rename_i hle
      cases h
      have hk := cnL_take (cnL_drop hl f) s
      refine ⟨.agg ((l.drop f).take s).toArray, ?_, by simp [cn, hk]⟩
      have hlen : ((l.drop f).take s).length = s := by simp [cnL_length hl]; omega
      have hlo := run_loadCells_list (P := P) w ⟨b, off + f, none⟩ ((l.drop f).take s) (fun j u hj => by
        rw [add_mk, cell_mk hh]
        rw [List.getElem?_take] at hj
        split at hj
        · rw [List.getElem?_drop] at hj
          have := hc _ _ hj
          rwa [show off + f + j = off + (f + j) by omega]
        · cases hj)
      rw [hlen] at hlo
      simp [loadVar, agg_run ha, size_run hs, hlo]
    · cases h
  · rename_i s ha
    obtain ⟨u, hu, hf⟩ := cnL_get hl f v h
    refine ⟨u, ?_, hu⟩
    have := hc _ _ hf
    simp [loadVar, agg_run ha, cell_mk hh, this]
  · cases h

theorem part_run {P : Program} {μ : Mu} {w : World} {cs : List AV} {l : List Value} {t : TypeId} {off : Nat} {v : AV}
    (hl : cnL μ cs = some l) (h : partAt P t cs off = some v) : ∃ u, (part t l.toArray off).run P w = .ok u w ∧ cn μ v = some u := by
  unfold partAt at h
  split at h
  · rename_i s ha hs
    cases h
    have hk := cnL_take (cnL_drop hl off) s
    refine ⟨.agg ((l.drop off).take s).toArray, ?_, by simp [cn, hk]⟩
    simp only [part, Sem.run_bind, agg_run ha, Result.andThen_ok, if_true, size_run hs, Sem.run_pure]
    congr 2
    apply Array.ext'
    simp [List.extract_eq_take_drop]
  · rename_i s ha
    obtain ⟨u, hu, hf⟩ := cnL_get hl off v h
    refine ⟨u, ?_, hu⟩
    simp [part, agg_run ha, hf]
  · cases h

/-- What is owed of an operation that leaves alone what was there. -/
def NOk (P : Program) (μ : Mu) (w : World) (nm : Nat) (s : Sem Value) (r : NR) : Prop :=
  ∃ val w', s.run P w = .ok val w' ∧
    match r.nb with
    | none => w' = w ∧ cn μ r.v = some val
    | some b => ∃ obj d extra, w' = { w with heap := w.heap.push obj, drawn := d } ∧ b.isRw = true ∧
        BlkR (μ.upd nm ⟨w.heap.size, 0, extra⟩) ⟨w.heap.size, 0, extra⟩ b obj ∧ cn (μ.upd nm ⟨w.heap.size, 0, extra⟩) r.v = some val

theorem NOk.pure {P : Program} {μ : Mu} {w : World} {nm : Nat} {s : Sem Value} {v : AV} {val : Value} {rd : List Nat} (h : s.run P w = .ok val w) (hv : cn μ v = some val) : NOk P μ w nm s ⟨v, none, rd⟩ :=
  ⟨val, w, h, rfl, hv⟩
theorem pureR_some {v : Option AV} {r : NR} (h : pureR v = some r) : ∃ a, v = some a ∧ r = ⟨a, none, []⟩ := by
  simp only [pureR, Option.map_eq_some_iff] at h
  obtain ⟨a, ha, rfl⟩ := h
  exact ⟨a, ha, rfl⟩

/-- A new block of cells. -/
theorem new_blk {μ : Mu} {w : World} {nm : Nat} (hnm : μ nm = none) {z : Nat} {rows : List (List AV)} {cs : Array Value} {el : TypeId} {fz : Nat × Nat} {extra : Nat} {l : List Value}
    (h1 : ∀ row ∈ rows, row.length = z ∧ ∀ v ∈ row, v.isCell = true) (hl : cnL μ rows.flatten = some l) (hcs : ∀ (j : Nat) (u : Value), l[j]? = some u → cs[j]? = some u)
    (hsz : cs.size = (rows.length + extra) * z) (hfz : ∀ off, off < cs.size → fz.1 = fz.2 ∨ off < fz.1) :
    BlkR (μ.upd nm ⟨w.heap.size, 0, extra⟩) ⟨w.heap.size, 0, extra⟩ (.cells true z rows) (.cells cs el fz) := by
  refine ⟨h1, fun i row f v hi hf => ?_, fun _ => ⟨by simpa using hsz, hfz⟩⟩
  have key : ∀ (rs : List (List AV)), (∀ row ∈ rs, row.length = z) → ∀ (i : Nat) (row : List AV) (f : Nat) (v : AV), rs[i]? = some row → row[f]? = some v → rs.flatten[i * z + f]? = some v := by
    intro rs
    induction rs with
    | nil => intro _ i row f v hi; simp at hi
    | cons r rs ih =>
      intro hr i row f v hi hf
      have hrz := hr r (by simp)
      cases i with
      | zero =>
        simp at hi; subst hi
        have : f < r.length := (List.getElem?_eq_some_iff.1 hf).1
        simp only [List.flatten_cons, Nat.zero_mul, Nat.zero_add]
        rw [List.getElem?_append_left this]; exact hf
      | succ i =>
        have := ih (fun row h => hr row (by simp [h])) i row f v (by simpa using hi) hf
        simp only [List.flatten_cons]
        rw [List.getElem?_append_right (by rw [hrz, Nat.succ_mul]; omega), ← this]
        congr 1
        rw [hrz, Nat.succ_mul]; omega
  obtain ⟨u, hu, hlu⟩ := cnL_get hl _ v (key rows (fun row h => (h1 row h).1) i row f v hi hf)
  exact ⟨u, cn_le (Mu.le_upd hnm) _ _ hu, by simpa using hcs _ _ hlu⟩

theorem box_ok {P : Program} {μ : Mu} {w : World} {nm : Nat} (hnm : μ nm = none) {v : AV} {val : Value} {e : TypeId} (hv : cn μ v = some val) (hc : v.cells.all AV.isCell = true) {s : Sem Value}
    (hs : s.run P w = .ok (.pointer (some ⟨w.heap.size, 0, none⟩)) { w with heap := w.heap.push (.cells val.cells e) }) :
    NOk P μ w nm s ⟨.ptr nm v.cells.length 0 0, some (.cells true v.cells.length [v.cells]), []⟩ := by
  refine ⟨_, _, hs, .cells val.cells e, w.drawn, 0, rfl, rfl, ?_, by simp [cn, Mu.upd_same, plPtr]⟩
  have hl := cells_cn hv
  refine new_blk hnm (l := val.cells.toList) ?_ (by simpa using hl) (fun j u hj => by simpa using hj) ?_ (fun off _ => .inl rfl)
  · intro row hrow
    simp at hrow; subst hrow
    exact ⟨rfl, fun v hv => List.all_eq_true.1 hc v hv⟩
  · have := cnL_length hl
    simp at this
    simp [this]

end Go.Ab
