/- Conversions, slicing, maps, makes, literals: the abstract ones are the model's. -/
import Derived.Test.YtndbcpfbddhonaaAb6
import Derived.IntWalk
namespace Go.Ab
set_option linter.unusedSimpArgs false
set_option linter.unusedVariables false

theorem get_flat {α : Type} (l : List α) (hl : l.length ≠ 0) : ∀ (c i : Nat), (List.replicate c l).flatten[i]? = if i < c * l.length then l[i % l.length]? else none
  | 0, i => by simp
  | c + 1, i => by
    rw [List.replicate_succ, List.flatten_cons]
    by_cases h : i < l.length
    · rw [List.getElem?_append_left h, if_pos (by rw [Nat.succ_mul]; omega), Nat.mod_eq_of_lt h]
    · rw [List.getElem?_append_right (by omega), get_flat l hl c]
      have : (i - l.length) % l.length = i % l.length := by
        conv => rhs; rw [show i = (i - l.length) + l.length by omega]
        rw [Nat.add_mod_right]
      rw [this, Nat.succ_mul]
      by_cases h2 : i - l.length < c * l.length
      · rw [if_pos h2, if_pos (by omega)]
      · rw [if_neg h2, if_neg (by omega)]
theorem range_flat (l : List Value) (hl : l.length ≠ 0) (c : Nat) : ((Array.range (c * l.length)).map fun i => l.toArray[i % l.toArray.size]!).toList = (List.replicate c l).flatten := by
  apply List.ext_getElem?
  intro i
  rw [get_flat l hl]
  by_cases h : i < c * l.length
  · rw [if_pos h]
    have hm : i % l.length < l.length := Nat.mod_lt _ (by omega)
    simp [h, hm, List.getElem?_eq_getElem hm]
  · rw [if_neg h]
    simp [h]
theorem rowsOf_flat (z : Nat) : ∀ (n : Nat) (cs : List AV), cs.length = n * z → (rowsOf z n cs).flatten = cs ∧ (rowsOf z n cs).length = n ∧ ∀ row ∈ rowsOf z n cs, row.length = z
  | 0, cs, h => by
    have : cs = [] := List.eq_nil_of_length_eq_zero (by simpa using h)
    subst this; simp [rowsOf]
  | n + 1, cs, h => by
    rw [Nat.succ_mul] at h
    obtain ⟨h1, h2, h3⟩ := rowsOf_flat z n (cs.drop z) (by simp; omega)
    refine ⟨by simp [rowsOf, h1], by simp [rowsOf, h2], fun row hr => ?_⟩
    simp only [rowsOf, List.mem_cons] at hr
    rcases hr with rfl | hr
    · simp; omega
    · exact h3 row hr
theorem rowsOf_mem (z : Nat) : ∀ (n : Nat) (cs : List AV), ∀ row ∈ rowsOf z n cs, ∀ v ∈ row, v ∈ cs
  | 0, cs, row, h, v, hv => by simp [rowsOf] at h
  | n + 1, cs, row, h, v, hv => by
    simp only [rowsOf, List.mem_cons] at h
    rcases h with rfl | h
    · exact List.mem_of_mem_take hv
    · exact List.mem_of_mem_drop (rowsOf_mem z n _ row h v hv)

def setV : List Value → Nat → List Value → List Value
  | row, _, [] => row
  | row, f, v :: vs => setV (row.set f v) (f + 1) vs
theorem setV_length : ∀ (vs : List Value) (row : List Value) (f : Nat), (setV row f vs).length = row.length
  | [], _, _ => rfl
  | v :: vs, row, f => by rw [setV, setV_length vs]; simp
theorem setCells_length : ∀ (vs row : List AV) (f : Nat), (setCells row f vs).length = row.length
  | [], _, _ => rfl
  | v :: vs, row, f => by rw [setCells, setCells_length vs]; simp
theorem setCells_cn {μ : Mu} : ∀ {vs : List AV} {us : List Value} {row : List AV} {l : List Value} (f : Nat), cnL μ row = some l → cnL μ vs = some us → cnL μ (setCells row f vs) = some (setV l f us)
  | [], us, row, l, f, hr, hv => by rw [cnL_nil hv]; exact hr
  | v :: vs, us, row, l, f, hr, hv => by
    obtain ⟨u, us', rfl, hu, hus⟩ := cnL_cons hv
    exact setCells_cn (f + 1) (cnL_set hr f hu) hus
theorem setCells_mem : ∀ (vs row : List AV) (f : Nat) (v : AV), v ∈ setCells row f vs → v ∈ row ∨ v ∈ vs
  | [], row, f, v, h => .inl h
  | u :: vs, row, f, v, h => by
    rcases setCells_mem vs _ _ v h with h | h
    · rcases List.mem_or_eq_of_mem_set h with h | h
      · exact .inl h
      · exact .inr (by simp [h])
    · exact .inr (by simp [h])
theorem setV_get : ∀ (vs row : List Value) (f i : Nat), f + vs.length ≤ row.length → (setV row f vs)[i]? = if f ≤ i ∧ i < f + vs.length then vs[i - f]? else row[i]?
  | [], row, f, i, h => by
    simp only [setV, List.length_nil, Nat.add_zero]
    rw [if_neg (by omega)]
  | v :: vs, row, f, i, h => by
    simp only [List.length_cons] at h
    rw [setV, setV_get vs _ _ _ (by simp; omega)]
    simp only [List.length_cons]
    by_cases h1 : f + 1 ≤ i ∧ i < f + 1 + vs.length
    · rw [if_pos h1, if_pos (by omega), show i - f = (i - (f + 1)) + 1 by omega]; simp
    · rw [if_neg h1, List.getElem?_set]
      by_cases h2 : f = i
      · subst h2; simp; omega
      · rw [if_neg h2, if_neg (by omega)]
theorem foldl_setV : ∀ (vs : List Value) (cs : Array Value) (off k : Nat), ((vs.zipIdx k).foldl (fun cs (x : Value × Nat) => cs.setIfInBounds (off + x.2) x.1) cs).toList = setV cs.toList (off + k) vs
  | [], cs, off, k => by simp [setV]
  | v :: vs, cs, off, k => by
    simp only [List.zipIdx_cons, List.foldl_cons, setV]
    rw [foldl_setV vs]
    simp [Nat.add_assoc]
theorem fill_ok {μ : Mu} {place : Nat → Option (Nat × Nat)} : ∀ {ps : List (Nat × AV)} {vs : List (Nat × Value)} {cells cs : List AV} {l : List Value},
    ps.length = vs.length → (∀ (i : Nat) (p : Nat × AV), ps[i]? = some p → ∃ u, vs[i]? = some (p.1, u) ∧ cn μ p.2 = some u) → cnL μ cells = some l → fillA place cells ps = some cs →
    ∃ l', Instr.fill place l.toArray vs = some l'.toArray ∧ cnL μ cs = some l' ∧ cs.length = cells.length
  | [], vs, cells, cs, l, hlen, hv, hl, h => by
    have : vs = [] := List.eq_nil_of_length_eq_zero (by simpa using hlen.symm)
    subst this
    simp [fillA] at h; subst h
    exact ⟨l, by simp [Instr.fill], hl, rfl⟩
  | (i, v) :: ps, vs, cells, cs, l, hlen, hv, hl, h => by
    cases vs with
    | nil => simp at hlen
    | cons x vs =>
      obtain ⟨u, hu, hcu⟩ := hv 0 (i, v) rfl
      simp at hu; subst hu
      simp only [fillA] at h
      split at h
      · cases h
      · rename_i off size hp
        split at h
        · rename_i hc
          have hk := cells_cn hcu
          have hkl := cnL_length hk
          obtain ⟨l', hf, hc', hlen'⟩ := fill_ok (ps := ps) (vs := vs) (cells := setCells cells off v.cells) (l := setV l off u.cells.toList) (by simpa using hlen)
            (fun j p hj => by simpa using hv (j + 1) p (by simpa using hj)) (setCells_cn off hl hk) h
          refine ⟨l', ?_, hc', by rw [hlen', setCells_length]⟩
          have hsz : u.cells.size = size := by simpa using hkl.trans hc.1
          simp only [Instr.fill, hp]
          rw [if_neg (by simp [hsz, cnL_length hl]; omega)]
          rw [← hf]
          congr 1
          apply Array.ext'
          have := foldl_setV u.cells.toList l.toArray off 0
          rw [← Array.foldl_toList]
          simpa using this
        · cases h
theorem partsA_ok {μ : Mu} {ρ : Rho} {ρc : Operand → Value} (hρ : ∀ x v, ρ x = some v → cn μ v = some (ρc x)) : ∀ {parts : List (Nat × Operand)} {ps : List (Nat × AV)}, partsA ρ parts = some ps →
    ps.length = (parts.map fun (i, x) => (i, ρc x)).length ∧ ∀ (i : Nat) (p : Nat × AV), ps[i]? = some p → ∃ u, (parts.map fun (i, x) => (i, ρc x))[i]? = some (p.1, u) ∧ cn μ p.2 = some u
  | [], ps, h => by simp [partsA] at h; subst h; simp
  | (i, x) :: r, ps, h => by
    simp only [partsA] at h
    split at h
    · rename_i v l hv hl
      cases h
      obtain ⟨h1, h2⟩ := partsA_ok hρ hl
      refine ⟨by simpa using h1, fun j p hj => ?_⟩
      cases j with
      | zero => simp at hj; subst hj; exact ⟨_, by simp, hρ _ _ hv⟩
      | succ j => simpa using h2 j p (by simpa using hj)
    · cases h
theorem valsA_ok {μ : Mu} {ρ : Rho} {ρc : Operand → Value} (hρ : ∀ x v, ρ x = some v → cn μ v = some (ρc x)) : ∀ {xs : List Operand} {vs : List AV}, valsA ρ xs = some vs → cnL μ vs = some (xs.map ρc)
  | [], vs, h => by simp [valsA] at h; subst h; rfl
  | x :: r, vs, h => by
    simp only [valsA] at h
    split at h
    · rename_i v l hv hl; cases h; exact cnL_mk (hρ _ _ hv) (valsA_ok hρ hl)
    · cases h

section
variable {P : Program} {μ : Mu} {w : World} {nm : Nat}

theorem mapM_places : ∀ (fs : List Field), (∀ f ∈ fs, ∃ s, sizeT P f.type = some s) →
    (fs.mapM (fun f => do pure (f.offset, ← sizeOf f.type) : Field → Sem (Nat × Nat))).run P w = .ok (fs.map fun f => (f.offset, (sizeT P f.type).getD 0)) w
  | [], _ => by simp
  | f :: fs, h => by
    obtain ⟨s, hs⟩ := h f (by simp)
    have ih := mapM_places fs fun g hg => h g (by simp [hg])
    simp only [List.mapM_cons, Sem.run_bind, size_run hs, Result.andThen_ok, Sem.run_pure, ih, List.map_cons, hs, Option.getD_some]

theorem n_build {ρ : Rho} {ρc : Operand → Value} (hρ : ∀ x v, ρ x = some v → cn μ v = some (ρc x)) {t : TypeId} {parts : Array (Nat × Operand)} {get : Nat → Option ABlk} {r : NR} (h : aN P ρ get nm (.build t parts) = some r) :
    NOk P μ w nm (Instr.build t (parts.map fun (i, x) => (i, ρc x))) r := by
  simp only [aN] at h
  split at h
  · rename_i zv ps hz hp
    obtain ⟨z, hzc, hzr⟩ := zero_run hz w
    have hzl := cells_cn (hzc μ)
    obtain ⟨hpl, hpv⟩ := partsA_ok hρ hp
    have hpt : (parts.map fun (i, x) => (i, ρc x)).toList = parts.toList.map fun (i, x) => (i, ρc x) := by simp
    split at h
    · rename_i fs hu
      split at h
      · cases h
      · rename_i hall
        obtain ⟨v, hv, rfl⟩ := pureR_some h
        simp only [Option.map_eq_some_iff] at hv
        obtain ⟨cs, hcs, rfl⟩ := hv
        have hall' : ∀ f ∈ fs.toList, ∃ s, sizeT P f.type = some s := by
          intro f hf
          have : fs.all (fun f => (sizeT P f.type).isSome) = true := by
            cases hh : fs.all (fun f => (sizeT P f.type).isSome) with
            | true => rfl
            | false => exact (hall (by rw [hh]; rfl)).elim
          rw [← Array.all_toList] at this
          exact Option.isSome_iff_exists.1 (List.all_eq_true.1 this f hf)
        have hplaces : placeS P fs = fun i => ((fs.toList.map fun f => (f.offset, (sizeT P f.type).getD 0)).toArray)[i]? := by
          funext i
          simp only [placeS, List.getElem?_toArray, List.getElem?_map, Array.getElem?_toList]
          cases hi : fs[i]? with
          | none => rfl
          | some f =>
            obtain ⟨s, hs⟩ := hall' f (by rw [← Array.getElem?_toList] at hi; exact List.mem_of_getElem? hi)
            simp [hs]
        rw [hplaces] at hcs
        obtain ⟨l', hf, hc, _⟩ := fill_ok hpl hpv hzl hcs
        refine NOk.pure (val := .agg l'.toArray) ?_ (by simp [cn, hc])
        simp only [Instr.build, Sem.run_bind, hzr, Result.andThen_ok, run_underlying hu, Array.mapM_eq_mapM_toList, Sem.run_map, mapM_places fs.toList hall']
        rw [hpt]
        simp only [Array.toArray_toList] at hf
        rw [hf]
        rfl
    · rename_i e hu
      split at h
      · rename_i s hs
        obtain ⟨v, hv, rfl⟩ := pureR_some h
        simp only [Option.map_eq_some_iff] at hv
        obtain ⟨cs, hcs, rfl⟩ := hv
        obtain ⟨l', hf, hc, _⟩ := fill_ok hpl hpv hzl hcs
        refine NOk.pure (val := .agg l'.toArray) ?_ (by simp [cn, hc])
        simp only [Instr.build, Sem.run_bind, hzr, Result.andThen_ok, run_underlying hu, size_run hs]
        rw [hpt]
        simp only [Array.toArray_toList] at hf
        rw [hf]
        rfl
      · cases h
    · cases h
  · cases h

theorem n_buildSlice {ρ : Rho} {ρc : Operand → Value} (hρ : ∀ x v, ρ x = some v → cn μ v = some (ρc x)) (hnm : μ nm = none) {t : TypeId} {len : Nat} {parts : Array (Nat × Operand)} {get : Nat → Option ABlk} {r : NR}
    (h : aN P ρ get nm (.buildSlice t len parts) = some r) : NOk P μ w nm (Instr.buildSlice t len (parts.map fun (i, x) => (i, ρc x))) r := by
  simp only [aN] at h
  split at h
  · rename_i e ps he hp
    split at h
    · rename_i s zv hs hz
      split at h
      · cases h
      · rename_i hcond
        split at h
        · rename_i cs hcs
          split at h
          · rename_i hcell
            cases h
            have hu := und_of_elem he
            obtain ⟨z, hzc, hzr⟩ := zero_run hz w
            have hzl := cells_cn (hzc μ)
            have hzlen := cnL_length hzl
            obtain ⟨hpl, hpv⟩ := partsA_ok hρ hp
            have hpt : (parts.map fun (i, x) => (i, ρc x)).toList = parts.toList.map fun (i, x) => (i, ρc x) := by simp
            have h1 : ¬ len * s > 16777216 := fun h => hcond (.inl h)
            have h2 : s ≠ 0 := fun h => hcond (.inr (.inl h))
            have h3 : zv.cells.length = s := Classical.byContradiction fun h => hcond (.inr (.inr h))
            have hzs : z.cells.toList.length = s := hzlen.trans h3
            obtain ⟨l', hf, hc, hcl⟩ := fill_ok hpl hpv (cnL_flat hzl len) hcs
            have hflat : (List.replicate len zv.cells).flatten.length = len * s := by simp [List.length_flatten, h3]
            have hrun : (Instr.buildSlice t len (parts.map fun (i, x) => (i, ρc x))).run P w = .ok (.slice (some ⟨w.heap.size, 0, none⟩) len len) { w with heap := w.heap.push (.cells l'.toArray e) } := by
              simp only [Instr.buildSlice, Sem.run_bind, run_underlying hu, Result.andThen_ok, size_run hs]
              rw [if_neg (by simpa using h1)]
              have harr := range_flat z.cells.toList (by omega) len
              rw [hzs] at harr
              simp only [Array.toArray_toList] at harr
              by_cases h0 : len * s = 0
              · have hlen0 : len = 0 := (Nat.mul_eq_zero.1 h0).resolve_right h2
                subst hlen0
                have e0 : ∀ f : Nat → Value, Array.map f (Array.range 0) = #[] := fun f => by simp
                simp only [h0, if_true, Sem.run_bind, Sem.run_pure, Result.andThen_ok, e0, hpt]
                simp only [List.replicate_zero, List.flatten_nil] at hf
                rw [hf]
                rfl
              · have harr' : Array.map (fun x => z.cells[x % z.cells.size]!) (Array.range (len * s)) = (List.replicate len z.cells.toList).flatten.toArray := by
                  apply Array.ext'
                  rw [harr]
                simp only [h0, if_false, Sem.run_bind, hzr, Sem.run_pure, Result.andThen_ok, harr', hpt]
                rw [hf]
                rfl
            obtain ⟨g1, g2, g3⟩ := rowsOf_flat s len cs (by rw [hcl, hflat])
            refine ⟨_, _, hrun, _, w.drawn, 0, rfl, rfl, new_blk hnm (l := l') (fun row hr => ⟨g3 row hr, fun v hv => List.all_eq_true.1 hcell v (rowsOf_mem s len cs row hr v hv)⟩) (by rw [g1]; exact hc) (fun j u hj => by simpa using hj) ?_ (fun off _ => .inl rfl), ?_⟩
            · have := cnL_length hc
              simp [g2, this, hcl, hflat]
            · simp [cn, Mu.upd_same, plSlice]
          · cases h
        · cases h
    · cases h
  · cases h

theorem n_makeSlice (hnm : μ nm = none) {t e : TypeId} {k k' : IntKind} {l c : Int} {s b : Nat} {zv : AV} {L C : Value} (hL : cn μ (.int k l) = some L) (hC : cn μ (.int k' c) = some C) (he : elemT P t = some e) (hs : sizeT P e = some s) (hz : zeroT P e = some zv) (hb : bytesT P e = some b)
    (h : 0 ≤ l ∧ l ≤ c ∧ c ≤ 140737488355328 ∧ b * c ≤ 140737488355328 ∧ s ≠ 0 ∧ zv.cells.length = s ∧ zv.cells.all AV.isCell) :
    NOk P μ w nm (Instr.makeSlice t L C) ⟨.slice nm s 0 l.toNat c.toNat true none, some (.cells true s (List.replicate c.toNat zv.cells)), []⟩ := by
  obtain ⟨h0, h1, h2, h3, h4, h5, h6⟩ := h
  simp only [cn, Option.some.injEq] at hL hC
  subst hL; subst hC
  have hu := und_of_elem he
  obtain ⟨i, hi, hib⟩ := bytes_info hb
  obtain ⟨z, hzc, hzr⟩ := zero_run hz w
  have hzl := cells_cn (hzc μ)
  have hzs : z.cells.toList.length = s := (cnL_length hzl).trans h5
  have w1 : IntKind.i64.wrap l = l := IntWalk.i64_in _ (by omega)
  have w2 : IntKind.i64.wrap c = c := IntWalk.i64_in _ (by omega)
  have harr := range_flat z.cells.toList (by omega) c.toNat
  rw [hzs] at harr
  simp only [Array.toArray_toList] at harr
  have harr' : Array.map (fun x => z.cells[x % z.cells.size]!) (Array.range (c.toNat * s)) = (List.replicate c.toNat z.cells.toList).flatten.toArray := by
    apply Array.ext'
    rw [harr]
  have hrun : (Instr.makeSlice t (.int k l) (.int k' c)).run P w = .ok (.slice (some ⟨w.heap.size, 0, none⟩) l.toNat c.toNat) { w with heap := w.heap.push (.cells (List.replicate c.toNat z.cells.toList).flatten.toArray e) } := by
    have hcond : ¬ ((decide (IntKind.i64.wrap c < 0) || decide (((i.bytes : Nat) : Int) * IntKind.i64.wrap c > 281474976710656)) || decide (IntKind.i64.wrap l < 0) || decide (IntKind.i64.wrap l > IntKind.i64.wrap c)) = true := by
      rw [w1, w2, hib]
      simp
      omega
    simp only [Instr.makeSlice, Sem.run_bind, run_underlying hu, Result.andThen_ok, asInt, asIntOf, Sem.run_pure, info_run hi, w1, w2, hib]
    rw [w1, w2, hib] at hcond
    rw [if_neg (by simpa using hcond)]
    simp only [run_askRoom, Sem.run_bind, Sem.run_pure, Result.andThen_ok, size_run hs]
    by_cases hc0 : c.toNat * s = 0
    · have hc1 : c.toNat = 0 := (Nat.mul_eq_zero.1 hc0).resolve_right h4
      have e0 : ∀ f : Nat → Value, Array.map f (Array.range 0) = #[] := fun f => by simp
      simp only [hc0, if_true, Sem.run_bind, Sem.run_pure, Result.andThen_ok, e0]
      rw [hc1]
      rfl
    · simp only [hc0, if_false, Sem.run_bind, hzr, Sem.run_pure, Result.andThen_ok, harr']
      rfl
  refine ⟨_, _, hrun, _, w.drawn, 0, rfl, rfl, new_blk hnm (l := (List.replicate c.toNat z.cells.toList).flatten) ?_ (cnL_flat hzl _) (fun j u hj => by simpa using hj) ?_ (fun off _ => .inl rfl), ?_⟩
  · intro row hr
    rw [List.mem_replicate] at hr
    obtain ⟨_, rfl⟩ := hr
    exact ⟨h5, fun v hv => List.all_eq_true.1 h6 v hv⟩
  · have : z.cells.size = s := by simpa using hzs
    simp [List.length_flatten, this]
  · simp [cn, Mu.upd_same, plSlice]
end

end Go.Ab
