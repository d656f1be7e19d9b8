/- append and map stores, all ways: the abstract ones are the model's. -/
import Derived.Test.YtndbcpfbddhonaaAb12
namespace Go.Ab
set_option linter.unusedSimpArgs false
set_option linter.unusedVariables false

theorem flat_get {z : Nat} : ∀ (rs : List (List AV)), (∀ row ∈ rs, row.length = z) → ∀ (i : Nat) (row : List AV) (f : Nat) (v : AV), rs[i]? = some row → row[f]? = some v → rs.flatten[i * z + f]? = some v
  | [], _, i, row, f, v, hi, _ => by simp at hi
  | r :: rs, hr, i, row, f, v, hi, hf => by
    have hrz := hr r (by simp)
    cases i with
    | zero =>
      simp at hi; subst hi
      have : f < r.length := (List.getElem?_eq_some_iff.1 hf).1
      simp only [List.flatten_cons, Nat.zero_mul, Nat.zero_add]
      rw [List.getElem?_append_left this]; exact hf
    | succ i =>
      have := flat_get rs (fun row h => hr row (by simp [h])) i row f v (by simpa using hi) hf
      simp only [List.flatten_cons]
      rw [List.getElem?_append_right (by rw [hrz, Nat.succ_mul]; omega), ← this]
      congr 1
      rw [hrz, Nat.succ_mul]; omega
theorem flat_len {z : Nat} : ∀ (rs : List (List AV)), (∀ row ∈ rs, row.length = z) → rs.flatten.length = rs.length * z
  | [], _ => by simp
  | r :: rs, h => by rw [List.flatten_cons, List.length_append, h r (by simp), flat_len rs (fun row hr => h row (by simp [hr])), List.length_cons, Nat.succ_mul]; omega

section
variable {P : Program} {μ : Mu} {w : World} {nm c : Nat} {m : Mem}

theorem cells_put {p : Pl} {z r0 : Nat} {rows src : List (List AV)} {cs : Array Value} {el : TypeId} {fz : Nat × Nat} {news : List Value} (hb : BlkR μ p (.cells true z rows) (.cells cs el fz)) (hsrc : cnL μ src.flatten = some news)
    (hz : ∀ row ∈ src, row.length = z) (hfit : r0 + src.length ≤ rows.length + p.extra) :
    p.shift + r0 * z + news.length ≤ cs.size ∧
    (∀ (r : Nat) (row : List AV) (f : Nat) (v : AV), src[r]? = some row → row[f]? = some v → ∃ u, cn μ v = some u ∧ (setV cs.toList (p.shift + r0 * z) news)[p.shift + (r0 + r) * z + f]? = some u) ∧
    (∀ (r : Nat) (row : List AV) (f : Nat) (v : AV), (r < r0 ∨ r0 + src.length ≤ r) → rows[r]? = some row → row[f]? = some v → ∃ u, cn μ v = some u ∧ (setV cs.toList (p.shift + r0 * z) news)[p.shift + r * z + f]? = some u) := by
  obtain ⟨hb1, hb2, hb3⟩ := hb
  obtain ⟨hsz, hfz⟩ := hb3 rfl
  have hnl : news.length = src.length * z := (cnL_length hsrc).trans (flat_len src hz)
  have hle : p.shift + r0 * z + news.length ≤ cs.size := by
    rw [hnl, hsz]
    have : (r0 + src.length) * z ≤ (rows.length + p.extra) * z := Nat.mul_le_mul_right z hfit
    rw [Nat.add_mul] at this
    omega
  refine ⟨hle, fun r row f v hr hf => ?_, fun r row f v hro hr hf => ?_⟩
  · obtain ⟨u, hu, hn⟩ := cnL_get hsrc _ v (flat_get src hz r row f v hr hf)
    refine ⟨u, hu, ?_⟩
    have hlt := (List.getElem?_eq_some_iff.1 hn).1
    rw [setV_get _ _ _ _ (by simpa using hle), if_pos (by rw [Nat.add_mul]; omega), ← hn]
    congr 1
    rw [Nat.add_mul]; omega
  · obtain ⟨u, hu, hc⟩ := hb2 r row f v hr hf
    refine ⟨u, hu, ?_⟩
    have hrz := (hb1 row (List.mem_of_getElem? hr)).1
    have hfl : f < z := by rw [← hrz]; exact (List.getElem?_eq_some_iff.1 hf).1
    rw [setV_get _ _ _ _ (by simpa using hle), if_neg ?_]
    · simpa using hc
    · rw [hnl]
      rcases hro with h | h
      · have : (r + 1) * z ≤ r0 * z := Nat.mul_le_mul_right z h
        rw [Nat.succ_mul] at this
        omega
      · have : (r0 + src.length) * z ≤ r * z := Nat.mul_le_mul_right z h
        rw [Nat.add_mul] at this
        omega

theorem zero_parts {e : TypeId} {zv : AV} (h : zeroT P e = some zv) : ∃ i z, P.info? e = some i ∧ i.zero = some z ∧ ∀ μ, cn μ zv = some z := by
  unfold zeroT at h
  simp only [Option.bind_eq_some_iff] at h
  obtain ⟨z, ⟨i, hi, hz⟩, hv⟩ := h
  exact ⟨i, z, hi, hz, fun μ => absV_cn hv⟩

/-- The new block that an append makes. -/
theorem grown_blk (hnm : μ nm = none) {z need old : Nat} {rows : List (List AV)} {olds news : List Value} {zv : Value} {e : TypeId} {l : List Value} (h1 : ∀ row ∈ rows, row.length = z ∧ ∀ v ∈ row, v.isCell = true) (hl : cnL μ rows.flatten = some (olds ++ news)) (hn : rows.length = need) (hzs : zv.cells.size = z) :
    BlkR (μ.upd nm ⟨w.heap.size, 0, grownCap w need old e - need⟩) ⟨w.heap.size, 0, grownCap w need old e - need⟩ (.cells true z rows) (.cells (olds.toArray ++ news.toArray ++ Builtin.zeroCells zv.cells (grownCap w need old e - need)) e (0, 0)) := by
  have hlen : (olds ++ news).length = need * z := by rw [cnL_length hl, flat_len rows (fun r hr => (h1 r hr).1), hn]
  refine new_blk hnm h1 hl (fun j u hj => ?_) ?_ (fun off _ => .inl rfl)
  · have hlt := (List.getElem?_eq_some_iff.1 hj).1
    rw [Array.getElem?_append_left (by simpa using hlt)]
    rw [← Array.toList_append] at *
    simpa using hj
  · simp only [Array.size_append, List.size_toArray, size_zeroCells, hzs, hn]
    rw [List.length_append] at hlen
    rw [hlen, Nat.add_mul]

theorem append_ok (hS : Sim μ m.get w) (hf : ∀ n, c ≤ n → μ n = none) (hnm : μ nm = none) (hc : nm < c) {ts tx ty : TypeId} {s x v : AV} {S X : Value} {m' : Mem} (hs : cn μ s = some S) (hx : cn μ x = some X) (h : appendA P m nm ts tx s x = some (v, m')) :
    ∃ val w' μ', (Builtin.append_ #[ts, tx] ty #[S, X]).run P w = .ok val w' ∧ cn μ' v = some val ∧ After (some nm) μ m c w μ' m' c w' := by
  unfold appendA at h
  split at h
  · cases h
  · rename_i e he
    have hu := und_of_elem he
    split at h
    · rename_i z b zv hz hb hzv
      split at h
      · cases h
      · rename_i hzl
        have hz0 : z ≠ 0 := fun h => hzl (.inl h)
        have hzvl : zv.cells.length = z := Classical.byContradiction fun h => hzl (.inr h)
        obtain ⟨i, zc, hi, hiz, hzc⟩ := zero_parts hzv
        have hisz : i.size = z := by simpa [sizeT, hi] using hz
        have hib : i.bytes = b := by simpa [bytesT, hi] using hb
        have hzcs : zc.cells.size = z := by have := cnL_length (cells_cn (hzc μ)); simp at this; omega
        split at h
        · cases h
        · rename_i src hsrc
          obtain ⟨news, hnl, hsr, hlen, hfc, hxk⟩ := src_ok (P := P) (w := w) hS hx hsrc
          have hfc0 : (Builtin.firstCells z src.length X).run P w = .ok news.toArray w := hfc w.drawn
          split at h
          · -- nil
            simp only [cn, Option.some.injEq] at hs
            subst hs
            split at h
            · rename_i h0
              cases h
              refine ⟨.slice none 0 0, w, μ, ?_, by simp [cn], After.refl _ hS hf⟩
              have hnews : news = [] := by
                have := cnL_length hnl
                rw [flat_len src (fun r hr => (hsr r hr).1), h0] at this
                exact List.eq_nil_of_length_eq_zero (by simpa using this)
              obtain ⟨d, hd, hdk⟩ := hxk
              have hzeros : ((d matches .int _) : Bool) = false := by cases d <;> first | rfl | exact (hdk _ rfl).elim
              rw [h0] at hlen hfc0
              subst hisz
              simp only [Builtin.append_, List.getElem?_toArray, List.getElem?_cons_zero, List.getElem?_cons_succ, Sem.run_bind, run_underlying hu, Result.andThen_ok, sizeOf, typeInfo, run_program, hi, Sem.run_pure, run_underlying hd, hzeros, Bool.false_eq_true, if_false, hlen, Nat.add_zero, Nat.le_refl, if_true,
                Bool.not_false, hfc0]
            · rename_i h0
              split at h
              · rename_i hbd
                cases h
                have hrun := append_grow (P := P) (w := w) (ty := ty) (base := none) (sLen := 0) (sCap := 0) (olds := []) hu hi hisz hib hiz hxk hlen hfc (fun d => rfl) (by omega) (by rw [Nat.zero_add]; exact hbd.1) (by omega)
                rw [Nat.zero_add] at hrun
                refine ⟨_, _, _, hrun, ?_, after_new (c := c) hS hf hnm hc rfl (grown_blk (olds := []) hnm (l := news) hsr (by simpa using hnl) rfl hzcs)⟩
                have := grownCap_ge w src.length 0 e
                simp [cn, Mu.upd_same, plSlice]; omega
              · cases h
          · rename_i n z' i0 len cap opn alt
            simp only [cn, Option.map_eq_some_iff] at hs
            obtain ⟨p, hp, rfl⟩ := hs
            split at h
            · cases h
            · rename_i hcond
              have e1 : z' = z := Classical.byContradiction fun h => hcond (.inl h)
              have hlc : len ≤ cap := Classical.byContradiction fun h => hcond (.inr h)
              subst e1
              have hcap : cap ≤ (if opn then cap + p.extra else cap) := by split <;> omega
              split at h
              · rename_i h0
                cases h
                have hnews : news = [] := by
                  have := cnL_length hnl
                  rw [flat_len src (fun r hr => (hsr r hr).1), h0] at this
                  exact List.eq_nil_of_length_eq_zero (by simpa using this)
                subst hnews
                have hrun := append_fits (P := P) (w := w) (w' := w) (ty := ty) (n := src.length) (sLen := len) (sCap := if opn then cap + p.extra else cap) (a := ⟨p.blk, p.shift + (if p.extra = 0 then alt.getD i0 else i0) * z', none⟩) hu hi hisz hxk hlen hfc0 rfl (by rw [h0]; omega)
                rw [h0, Nat.add_zero] at hrun
                exact ⟨_, w, μ, hrun, by simp [cn, hp, plSlice], After.refl _ hS hf⟩
              · rename_i h0
                split at h
                · cases h
                · rename_i hbd'
                  have hbd : (len + src.length) * b ≤ 140737488355328 ∧ len + src.length ≤ 140737488355328 := Classical.byContradiction hbd'
                  split at h
                  · -- its room is known
                    split at h
                    · cases h
                    · rename_i hfit
                      split at h
                      · rename_i hl0
                        cases h
                        subst hl0
                        have hrun := append_grow (P := P) (w := w) (ty := ty) (base := some ⟨p.blk, p.shift + (if p.extra = 0 then alt.getD i0 else i0) * z', none⟩) (sLen := 0) (sCap := cap) (olds := []) hu hi hisz hib hiz hxk hlen hfc (fun d => by simp [Builtin.firstCells, loadCells, loadCellsFrom]) (by omega) hbd.1 hbd.2
                        rw [Nat.zero_add] at hrun
                        refine ⟨_, _, _, by simpa [plSlice] using hrun, ?_, after_new (c := c) hS hf hnm hc rfl (grown_blk (olds := []) hnm (l := news) hsr (by simpa using hnl) rfl hzcs)⟩
                        have := grownCap_ge w src.length cap e
                        simp [cn, Mu.upd_same, plSlice]; omega
                      · split at h
                        · rename_i rw_ z'' rows hg
                          split at h
                          · rename_i hcc
                            obtain ⟨rfl, hle, halt⟩ := hcc
                            cases h
                            have : alt = none := by cases alt <;> simp_all
                            subst this
                            obtain ⟨p', o, hp', ho, hbr⟩ := hS.blk n _ hg
                            rw [hp] at hp'; cases hp'
                            cases o <;> first | exact hbr.elim | skip
                            rename_i cs el fz
                            obtain ⟨olds, ho1, ho2, ho3, ho4⟩ := rows_read (k := len) hbr hle
                            have hlen' : ((rows.drop i0).take len).length = len := by simp; omega
                            have hrun := append_grow (P := P) (w := w) (ty := ty) (base := some ⟨p.blk, p.shift + i0 * z'', none⟩) (sLen := len) (sCap := cap) (olds := olds) hu hi hisz hib hiz hxk hlen hfc
                              (fun d => run_firstCells_some (P := P) { w with drawn := d } z'' len _ _ _ olds ho2 fun j u hj => by rw [add_mk]; exact (cell_mk (w := { w with drawn := d }) ho).trans (ho3 j u hj)) (by omega) hbd.1 hbd.2
                            refine ⟨_, _, _, by simpa [plSlice] using hrun, ?_, after_new (c := c) hS hf hnm hc rfl (grown_blk (olds := olds) hnm (l := news) (fun row hr => ?_) (by rw [List.flatten_append]; exact cnL_append ho1 hnl) (by rw [List.length_append, hlen']) hzcs)⟩
                            · have := grownCap_ge w (len + src.length) cap e
                              simp [cn, Mu.upd_same, plSlice]; omega
                            · rcases List.mem_append.1 hr with hr | hr
                              · exact ho4 row hr
                              · exact hsr row hr
                          · cases h
                        · cases h
                  · -- there may be room behind
                    split at h
                    · rename_i z'' rows hg
                      split at h
                      · rename_i hcc
                        obtain ⟨rfl, hrl, halt⟩ := hcc
                        obtain ⟨p', o, hp', ho, hbr⟩ := hS.blk n _ hg
                        rw [hp] at hp'; cases hp'
                        cases o <;> first | exact hbr.elim | skip
                        rename_i cs el fz
                        have hbr' := hbr
                        obtain ⟨hb1, hb2, hb3⟩ := hbr'
                        obtain ⟨hsz, hfz⟩ := hb3 rfl
                        have hone : ∀ u ∈ news, u.oneCell' = true := by
                          intro u hu'
                          obtain ⟨j, hj⟩ := List.getElem?_of_mem hu'
                          obtain ⟨a, ha, hau⟩ := cnL_get' hnl j u hj
                          obtain ⟨row, hrow, har⟩ := List.mem_flatten.1 (List.mem_of_getElem? ha)
                          exact isCell_cn hau ((hsr row hrow).2 a har)
                        split at h
                        · rename_i hfit
                          split at h
                          · rename_i halt2
                            cases h
                            have : alt = none := by cases alt <;> simp_all
                            subst this
                            obtain ⟨hle, hc1, hc2⟩ := cells_put (r0 := i0 + len) hbr hnl (fun r hr => (hsr r hr).1) (by omega)
                            have hst := storeCells_run (P := P) (b := p.blk) (off := p.shift + (i0 + len) * z'') news 0 cs w ho (by simpa using hle) hone (fun k hk hh => by have := hfz k hk; omega)
                            have hrun := append_fits (P := P) (w := w) (ty := ty) (n := src.length) (sLen := len) (sCap := cap + p.extra) (a := ⟨p.blk, p.shift + i0 * z'', none⟩) hu hi hisz hxk hlen hfc0
                              (by rw [add_mk, Nat.add_assoc, ← Nat.add_mul]; exact hst) (by omega)
                            refine ⟨_, _, μ, by simpa [plSlice] using hrun, by simp [cn, hp, plSlice], after_write (o' := .cells (setV cs.toList (p.shift + (i0 + len) * z'' + 0) news).toArray el fz) hS hf _ hg rfl rfl hp ⟨fun row hr => ?_, fun r row f v hr hfv => ?_, fun _ => ?_⟩⟩
                            · simp only [List.append_assoc, List.mem_append] at hr
                              rcases hr with hr | hr | hr
                              · exact hb1 row (List.mem_of_mem_take hr)
                              · exact hsr row hr
                              · exact hb1 row (List.mem_of_mem_drop hr)
                            · have htl : (rows.take (i0 + len)).length = i0 + len := by simp; omega
                              rw [List.getElem?_toArray]
                              simp only [Nat.add_zero]
                              by_cases h1 : r < i0 + len
                              · rw [List.append_assoc, List.getElem?_append_left (by omega), List.getElem?_take, if_pos h1] at hr
                                exact hc2 r row f v (.inl h1) hr hfv
                              · by_cases h2 : r < i0 + len + src.length
                                · rw [List.append_assoc, List.getElem?_append_right (by omega), htl, List.getElem?_append_left (by omega)] at hr
                                  have := hc1 _ row f v hr hfv
                                  rwa [show i0 + len + (r - (i0 + len)) = r by omega] at this
                                · rw [List.append_assoc, List.getElem?_append_right (by omega), htl, List.getElem?_append_right (by omega), List.getElem?_drop] at hr
                                  rw [show i0 + len + src.length + (r - (i0 + len) - src.length) = r by omega] at hr
                                  exact hc2 r row f v (.inr (by omega)) hr hfv
                            · simp only [List.size_toArray, setV_length, Array.length_toList, List.length_append, List.length_take, List.length_drop]
                              refine ⟨?_, hfz⟩
                              rw [hsz]
                              congr 2
                              omega
                          · cases h
                        · rename_i hnofit
                          cases h
                          have hcapc : (if true = true then cap + p.extra else cap) = cap + p.extra := if_pos rfl
                          by_cases hin : len + src.length ≤ cap + p.extra
                          · -- in its own block
                            have hx0 : p.extra ≠ 0 := by omega
                            obtain ⟨hle, hc1, hc2⟩ := cells_put (r0 := i0 + len) hbr hnl (fun r hr => (hsr r hr).1) (by omega)
                            have hst := storeCells_run (P := P) (b := p.blk) (off := p.shift + (i0 + len) * z'') news 0 cs w ho (by simpa using hle) hone (fun k hk hh => by have := hfz k hk; omega)
                            have hrun := append_fits (P := P) (w := w) (ty := ty) (n := src.length) (sLen := len) (sCap := cap + p.extra) (a := ⟨p.blk, p.shift + i0 * z'', none⟩) hu hi hisz hxk hlen hfc0
                              (by rw [add_mk, Nat.add_assoc, ← Nat.add_mul]; exact hst) hin
                            have hmul : ∀ r, p.shift + i0 * z'' + r * z'' = p.shift + (i0 + r) * z'' := fun r => by rw [Nat.add_mul]; omega
                            have hlen' : ((rows.drop i0).take len).length = len := by simp; omega
                            have hleμ : Le μ (μ.upd nm ⟨p.blk, p.shift + i0 * z'', p.extra - (len + src.length - cap)⟩) := Mu.le_upd hnm
                            refine ⟨_, _, _, by simpa [plSlice, hx0] using hrun, ?_, after_alias (c := c) (o' := .cells (setV cs.toList (p.shift + (i0 + len) * z'' + 0) news).toArray el fz) (p' := ⟨p.blk, p.shift + i0 * z'', p.extra - (len + src.length - cap)⟩) hS hf hnm hc hg rfl rfl hp rfl ⟨fun row hr => ?_, fun r row f v hr hfv => ?_, fun _ => ?_⟩⟩
                            · simp [cn, Mu.upd_same, plSlice]; omega
                            · rcases List.mem_append.1 hr with hr | hr
                              · exact hb1 row (List.mem_of_mem_drop (List.mem_of_mem_take hr))
                              · exact hsr row hr
                            · rw [List.getElem?_toArray]
                              simp only [Nat.add_zero, hmul]
                              by_cases h1 : r < len
                              · rw [List.getElem?_append_left (by omega), List.getElem?_take, if_pos h1, List.getElem?_drop] at hr
                                obtain ⟨u, hu1, hu2⟩ := hc2 (i0 + r) row f v (.inl (by omega)) hr hfv
                                exact ⟨u, cn_le hleμ _ _ hu1, hu2⟩
                              · rw [List.getElem?_append_right (by omega), hlen'] at hr
                                obtain ⟨u, hu1, hu2⟩ := hc1 _ row f v hr hfv
                                rw [show i0 + len + (r - len) = i0 + r by omega] at hu2
                                exact ⟨u, cn_le hleμ _ _ hu1, hu2⟩
                            · simp only [List.size_toArray, setV_length, Array.length_toList, List.length_append, hlen']
                              refine ⟨?_, hfz⟩
                              rw [hsz, show len + src.length + (p.extra - (len + src.length - cap)) = cap + p.extra by omega, show rows.length + p.extra = i0 + (cap + p.extra) by omega, Nat.add_mul]
                              omega
                          · -- in a new block
                            obtain ⟨olds, ho1, ho2, ho3, ho4⟩ := rows_read (i := i0) (k := len) hbr (by omega)
                            have hlen' : ((rows.drop i0).take len).length = len := by simp; omega
                            have hnn : n ≠ nm := fun e => by rw [e, hnm] at hp; cases hp
                            have hrun := append_grow (P := P) (w := w) (ty := ty) (base := some ⟨p.blk, p.shift + (if p.extra = 0 then alt.getD i0 else i0) * z'', none⟩) (sLen := len) (sCap := cap + p.extra) (olds := olds) hu hi hisz hib hiz hxk hlen hfc
                              (fun d => by
                                rcases halt with ha | ha
                                · have : alt = none := by cases alt <;> simp_all
                                  subst this
                                  simp only [Option.getD_none, ite_self]
                                  exact run_firstCells_some (P := P) { w with drawn := d } z'' len _ _ _ olds ho2 fun j u hj => by rw [add_mk]; exact (cell_mk (w := { w with drawn := d }) ho).trans (ho3 j u hj)
                                · subst ha
                                  have : olds = [] := List.eq_nil_of_length_eq_zero (by simpa using ho2)
                                  subst this
                                  simp [Builtin.firstCells, loadCells, loadCellsFrom]) (by omega) hbd.1 hbd.2
                            refine ⟨_, _, _, by simpa [plSlice] using hrun, ?_, after_move (c := c) hS hf hnm hc hnn rfl (grown_blk (olds := olds) hnm (l := news) (fun row hr => ?_) (by rw [List.flatten_append]; exact cnL_append ho1 hnl) (by rw [List.length_append, hlen']) hzcs)⟩
                            · have := grownCap_ge w (len + src.length) (cap + p.extra) e
                              simp [cn, Mu.upd_same, plSlice]; omega
                            · rcases List.mem_append.1 hr with hr | hr
                              · exact ho4 row hr
                              · exact hsr row hr
                      · cases h
                    · cases h
          · cases h
    · cases h
end

end Go.Ab
