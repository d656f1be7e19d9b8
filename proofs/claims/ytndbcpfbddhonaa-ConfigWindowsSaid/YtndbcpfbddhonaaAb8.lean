/- Conversions, slicing, maps, lengths; and all of them as one: an abstract operation that leaves alone what was there is the model's. -/
import Derived.Test.YtndbcpfbddhonaaAb7
namespace Go.Ab
set_option linter.unusedSimpArgs false
set_option linter.unusedVariables false

theorem bytesA_ints : ∀ {rows : List (List AV)} {s : List UInt8}, bytesA rows = some s → ∃ ns : List Int, rows.length = ns.length ∧ (s = ns.map fun n => UInt8.ofNat n.toNat) ∧ ∀ (j : Nat) (n : Int), ns[j]? = some n → ∃ v, rows[j]? = some [v] ∧ ∀ μ, cn μ v = some (.int .u8 n)
  | [], s, h => by simp [bytesA] at h; subst h; exact ⟨[], rfl, rfl, fun j n h => by simp at h⟩
  | row :: r, s, h => by
    unfold bytesA at h
    split at h
    · contradiction
    · rename_i n r' e
      simp only [Option.map_eq_some_iff] at h
      obtain ⟨s', hs, rfl⟩ := h
      obtain ⟨ns, hl, hs', hr⟩ := bytesA_ints hs
      simp only [List.cons.injEq] at e
      obtain ⟨rfl, rfl⟩ := e
      refine ⟨n :: ns, by simp [hl], by simp [hs'], fun j x hx => ?_⟩
      cases j with
      | zero => simp only [List.getElem?_cons_zero, Option.some.injEq] at hx ⊢; subst hx; exact ⟨_, rfl, fun μ => by simp [cn]⟩
      | succ j => simp only [List.getElem?_cons_succ] at hx ⊢; exact hr j x hx
    · rename_i n r' e
      simp only [Option.map_eq_some_iff] at h
      obtain ⟨s', hs, rfl⟩ := h
      obtain ⟨ns, hl, hs', hr⟩ := bytesA_ints hs
      simp only [List.cons.injEq] at e
      obtain ⟨rfl, rfl⟩ := e
      refine ⟨n :: ns, by simp [hl], by simp [hs'], fun j x hx => ?_⟩
      cases j with
      | zero => simp only [List.getElem?_cons_zero, Option.some.injEq] at hx ⊢; subst hx; exact ⟨_, rfl, fun μ => by simp [cn]⟩
      | succ j => simp only [List.getElem?_cons_succ] at hx ⊢; exact hr j x hx
    · cases h
theorem push_fold : ∀ (ns : List Int) (l : List UInt8), ns.foldl (fun (r : ByteArray) n => r.push (UInt8.ofNat n.toNat)) ⟨l.toArray⟩ = ⟨(l ++ ns.map fun n => UInt8.ofNat n.toNat).toArray⟩
  | [], l => by simp
  | n :: ns, l => by
    simp only [List.foldl_cons, List.map_cons]
    have : (⟨l.toArray⟩ : ByteArray).push (UInt8.ofNat n.toNat) = ⟨(l ++ [UInt8.ofNat n.toNat]).toArray⟩ := by
      apply ByteArray.ext; simp [ByteArray.push]
    rw [this, push_fold ns]
    simp

theorem flat_bytes : ∀ s : List UInt8, (s.map fun b => [AV.int .u8 b.toNat]).flatten = s.map fun b => AV.int .u8 b.toNat
  | [] => rfl
  | b :: s => by simp only [List.map_cons, List.flatten_cons, flat_bytes s]; rfl

section
variable {P : Program} {μ : Mu} {w : World} {nm : Nat}

theorem n_convert {ρ : Rho} {ρc : Operand → Value} (hρ : ∀ x v, ρ x = some v → cn μ v = some (ρc x)) (hnm : μ nm = none) {get : Nat → Option ABlk} (hS : Sim μ get w) {src dst : TypeId} {x : Operand} {r : NR}
    (h : aN P ρ get nm (.convert src dst x) = some r) : NOk P μ w nm (convert src dst (ρc x)) r := by
  simp only [aN] at h
  split at h
  · rename_i d k k' n hs hd hx
    obtain ⟨v, hv, rfl⟩ := pureR_some h
    cases hv
    have hc := hρ _ _ hx
    simp only [cn, Option.some.injEq] at hc
    rw [← hc]
    exact NOk.pure (val := .int k (k.wrap n)) (by simp [convert, run_underlying hs, run_underlying hd, Conv.intToInt]) (by simp [cn])
  · rename_i d s hs hd hx
    obtain ⟨v, hv, rfl⟩ := pureR_some h
    cases hv
    have hc := hρ _ _ hx
    simp only [cn, Option.some.injEq] at hc
    rw [← hc]
    exact NOk.pure (val := .string ⟨s.toArray⟩) (by simp [convert, run_underlying hs, run_underlying hd]) (by simp [cn])
  · rename_i e hs hd hx
    split at h
    · rename_i he
      obtain ⟨v, hv, rfl⟩ := pureR_some h
      cases hv
      have hc := hρ _ _ hx
      simp only [cn, Option.some.injEq] at hc
      rw [← hc]
      refine NOk.pure (val := .string .empty) ?_ (by simp [cn]; rfl)
      rw [run_convert_bytes_string w src dst e none 0 0 hs he hd]
      simp [Conv.bytesToString]
    · cases h
  · rename_i e n z i len _ _ _ hs hd hx
    split at h
    · rename_i he
      have hc := hρ _ _ hx
      simp only [cn, Option.map_eq_some_iff] at hc
      obtain ⟨p, hp, hc⟩ := hc
      split at h
      · rename_i h0
        subst h0
        obtain ⟨v, hv, rfl⟩ := pureR_some h
        cases hv
        refine NOk.pure (val := .string .empty) ?_ (by simp [cn]; rfl)
        rw [← hc]
        simp only [plSlice]
        rw [run_convert_bytes_string w src dst e _ _ _ hs he hd, run_bytesToString w _ _ _ [] (by simp [loadCells, loadCellsFrom])]
        rfl
      · rename_i h0
        split at h
        · rename_i rw_ rows hg
          split at h
          · rename_i hle
            simp only [Option.map_eq_some_iff] at h
            obtain ⟨s, hsb, rfl⟩ := h
            obtain ⟨ns, hns, rfl, hrows⟩ := bytesA_ints hsb
            obtain ⟨p', o, hp', ho, hb⟩ := hS.blk n _ hg
            rw [hp] at hp'; cases hp'
            cases o <;> first | exact hb.elim | skip
            rename_i cs el fz
            rw [← hc]
            have hlen : ns.length = len := by
              simp at hns; omega
            refine NOk.pure (val := .string ⟨(ns.map fun n => UInt8.ofNat n.toNat).toArray⟩) ?_ (by simp [cn])
            simp only [plSlice]
            rw [run_convert_bytes_string w src dst e _ _ _ hs he hd, run_bytesToString w _ _ _ ns ?_]
            · exact congrArg (fun b => Result.ok (Value.string b) w) (push_fold ns [])
            · have hll := run_loadCells_list (P := P) w ⟨p.blk, p.shift + i * 1, none⟩ (ns.map (Value.int .u8)) (fun j u hj => by
                rw [add_mk, cell_mk ho]
                simp only [List.getElem?_map, Option.map_eq_some_iff] at hj
                obtain ⟨q, hq, rfl⟩ := hj
                obtain ⟨v, h1, hcv⟩ := hrows j q hq
                have hrow : rows[i + j]? = some [v] := by
                  rw [List.getElem?_take] at h1
                  split at h1
                  · rwa [List.getElem?_drop] at h1
                  · cases h1
                obtain ⟨u, hu, hcu⟩ := hb.2.1 (i + j) _ 0 v hrow rfl
                rw [hcv] at hu
                simp only [Option.some.injEq] at hu
                subst hu
                rw [← hcu]
                congr 1
                omega)
              rw [List.length_map, hlen] at hll
              simpa using hll
          · cases h
        · cases h
    · cases h
  · rename_i e s hs hd hx
    split at h
    · rename_i he
      cases h
      have hc := hρ _ _ hx
      simp only [cn, Option.some.injEq] at hc
      rw [← hc]
      have hcap : s.length ≤ grownCap w s.length 0 e := grownCap_ge w _ _ _
      let cs : Array Value := s.toArray.map (fun b => Value.int .u8 b.toNat) ++ Array.replicate (grownCap w s.length 0 e - s.length) (.int .u8 0)
      have hsz : cs.size = s.length + (grownCap w s.length 0 e - s.length) := by simp [cs]
      have hrun : (convert src dst (.string ⟨s.toArray⟩)).run P w = .ok (.slice (some ⟨w.heap.size, 0, none⟩) s.length (grownCap w s.length 0 e)) { w with heap := w.heap.push (.cells cs e (cs.size, cs.size + 1)), drawn := w.drawn + 1 } := by
        have hm : ∀ (h : Array Obj) (o : Obj) (f : Obj → Obj), (h.push o).modify h.size f = h.push (f o) := by
          intro h o f
          apply Array.ext_getElem?
          intro i
          rw [Array.getElem?_modify, Array.getElem?_push, Array.getElem?_push]
          by_cases e : i = h.size
          · subst e; simp
          · rw [if_neg (by omega)]; simp [e]
        simp only [convert, Sem.run_bind, run_underlying hs, run_underlying hd, Result.andThen_ok, run_underlying he, Conv.stringToBytes, run_choose, Question.forced, Bool.false_eq_true, if_false]
        have hgc : (Question.appendCap (⟨s.toArray⟩ : ByteArray).size 0 e).cut (w.tape w.drawn (Question.appendCap (⟨s.toArray⟩ : ByteArray).size 0 e)) = grownCap w s.length 0 e := rfl
        rw [hgc]
        simp only [newRow, Sem.run_bind, run_newObj, Result.andThen_ok, Sem.run_pure, markStringish, run_shape, World.shape?, Array.getElem?_push_size, run_freeze, World.freeze, hm, Nat.one_ne_zero, if_false]
        rfl
      refine ⟨_, _, hrun, _, w.drawn + 1, grownCap w s.length 0 e - s.length, rfl, rfl, new_blk hnm (l := s.map fun b => Value.int .u8 b.toNat) ?_ ?_ (fun j u hj => ?_) ?_ (fun off h1 => .inr h1), ?_⟩
      · intro row hr
        simp only [List.mem_map] at hr
        obtain ⟨b, _, rfl⟩ := hr
        exact ⟨rfl, fun v hv => by simp at hv; subst hv; rfl⟩
      · have : (s.map fun b => [AV.int .u8 b.toNat]).flatten = s.map fun b => AV.int .u8 b.toNat := flat_bytes s
        rw [this]
        exact cnL_of (by simp) fun i a hi => by
          simp only [List.getElem?_map, Option.map_eq_some_iff] at hi ⊢
          obtain ⟨b, hb, rfl⟩ := hi
          exact ⟨.int .u8 b.toNat, by simp [cn], b, hb, rfl⟩
      · simp only [List.getElem?_map, Option.map_eq_some_iff] at hj
        obtain ⟨b, hb, rfl⟩ := hj
        have hlt := (List.getElem?_eq_some_iff.1 hb).1
        have hbe := (List.getElem?_eq_some_iff.1 hb).2
        rw [Array.getElem?_append_left (by simpa using hlt)]
        simp [hb]
      · rw [hsz]; simp
      · simp [cn, Mu.upd_same, plSlice]; omega
    · cases h
  · cases h
end

end Go.Ab
