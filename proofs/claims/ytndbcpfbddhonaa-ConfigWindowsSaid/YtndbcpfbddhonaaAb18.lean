/- A region that draws its order: the relation that holds at each of its stages. -/
import Derived.Test.YtndbcpfbddhonaaAb17
namespace Go.Ab
set_option linter.unusedSimpArgs false
set_option linter.unusedVariables false

/-- A new block, over any memory. -/
theorem sim_new_f {μ : Mu} {get : Nat → Option ABlk} {w : World} (hS : Sim μ get w) {nm : Nat} (hnm : μ nm = none) {b : ABlk} {obj : Obj} {d extra : Nat} (hrw : b.isRw = true) (hb : BlkR (μ.upd nm ⟨w.heap.size, 0, extra⟩) ⟨w.heap.size, 0, extra⟩ b obj) :
    Sim (μ.upd nm ⟨w.heap.size, 0, extra⟩) (fun k => if k = nm then some b else get k) { w with heap := w.heap.push obj, drawn := d } ∧
    Step μ get w (μ.upd nm ⟨w.heap.size, 0, extra⟩) (fun k => if k = nm then some b else get k) { w with heap := w.heap.push obj, drawn := d } := by
  have hle : Le μ (μ.upd nm ⟨w.heap.size, 0, extra⟩) := Mu.le_upd hnm
  have hold : ∀ k, k < w.heap.size → (w.heap.push obj)[k]? = w.heap[k]? := fun k hk => by rw [Array.getElem?_push, if_neg (by omega)]
  refine Sim0.up hS.glob ⟨⟨fun n b' hg => ?_, fun n n' b1 b2 p p' h1 h2 hr hne hp hp' => ?_⟩, ⟨rfl, rfl, rfl, by simp, fun k hk _ => hold k hk, fun n b' p hg hp => ?_⟩⟩
  · by_cases e : n = nm
    · subst e
      simp only [if_true, Option.some.injEq] at hg
      subst hg
      exact ⟨_, obj, Mu.upd_same _ _ _, by simp, hb⟩
    · rw [if_neg e] at hg
      obtain ⟨p, o, hp, ho, hbr⟩ := hS.blk n b' hg
      exact ⟨p, o, hle _ _ hp, by rw [hold _ (blk_lt ho)]; exact ho, hbr.le hle⟩
  · by_cases e1 : n = nm
    · subst e1
      rw [Mu.upd_same] at hp
      have e2 : n' ≠ n := fun e => hne e.symm
      rw [if_neg e2] at h2
      rw [Mu.upd_ne _ _ e2] at hp'
      obtain ⟨q, o, hq, ho, _⟩ := hS.blk n' b2 h2
      obtain rfl := Option.some.inj (hq.symm.trans hp'); cases hp
      have := blk_lt ho
      show w.heap.size ≠ q.blk
      omega
    · rw [if_neg e1] at h1
      rw [Mu.upd_ne _ _ e1] at hp
      by_cases e2 : n' = nm
      · subst e2
        rw [Mu.upd_same] at hp'
        obtain ⟨q, o, hq, ho, _⟩ := hS.blk n b1 h1
        obtain rfl := Option.some.inj (hq.symm.trans hp); cases hp'
        have := blk_lt ho
        show q.blk ≠ w.heap.size
        omega
      · rw [if_neg e2] at h2
        rw [Mu.upd_ne _ _ e2] at hp'
        exact hS.apart n n' b1 b2 p p' h1 h2 hr hne hp hp'
  · by_cases e : n = nm
    · subst e
      rw [Mu.upd_same] at hp
      cases hp
      exact .inl (Nat.le_refl _)
    · rw [if_neg e] at hg
      rw [Mu.upd_ne _ _ e] at hp
      exact .inr ⟨n, b', p, hg, id, hp, rfl⟩

/-- A part of memory is related, too. -/
theorem sim_part {μ : Mu} {get get' : Nat → Option ABlk} {w : World} (hS : Sim μ get w) (h : ∀ n b, get' n = some b → get n = some b) : Sim μ get' w :=
  ⟨⟨fun n b hg => hS.blk n b (h n b hg), fun n n' b b' p p' h1 h2 hr hne hp hp' => hS.apart n n' b b' p p' (h _ _ h1) (h _ _ h2) hr hne hp hp'⟩, hS.glob.map fun n b p hg hr hp => ⟨n, b, p, h n b hg, hr, hp, rfl⟩⟩

/-- A step over a part of memory, beside further blocks that are left alone. -/
theorem step_beside {μ μ' : Mu} {g g' G G' : Nat → Option ABlk} {w w' : World} (hS : Sim μ G w) (hle : Le μ μ') (hsub : ∀ n b, g n = some b → G n = some b) (hS' : Sim μ' g' w') (hst : Step μ g w μ' g' w')
    (hG' : ∀ n b, G' n = some b → g' n = some b ∨ (g n = none ∧ b.isRw = true ∧ G n = some b)) (hdis : ∀ n b, G' n = some b → g n = none → G n = some b → b.isRw = true → g' n = none ∨ g' n = some b) :
    Sim μ' G' w' ∧ Step μ G w μ' G' w' := by
  -- a further block's place
  have far : ∀ n b p, g n = none → b.isRw = true → G n = some b → μ n = some p → (∀ n0 b0 p0, g n0 = some b0 → μ n0 = some p0 → p0.blk ≠ p.blk) := by
    intro n b p hn hr hG hp n0 b0 p0 h0 hp0 e
    have hne : n ≠ n0 := fun e => by subst e; rw [hn] at h0; cases h0
    exact hS.apart n n0 b b0 p p0 hG (hsub _ _ h0) hr hne hp hp0 e.symm
  have stay : ∀ n b p o, g n = none → b.isRw = true → G n = some b → μ n = some p → w.heap[p.blk]? = some o → w'.heap[p.blk]? = some o := by
    intro n b p o hn hr hG hp ho
    rw [hst.keep p.blk (blk_lt ho) fun n0 b0 p0 h0 _ hp0 => far n b p hn hr hG hp n0 b0 p0 h0 hp0]
    exact ho
  refine Sim0.up hS.glob ⟨⟨fun n b hn => ?_, fun n n' b b' p p' h1 h2 hr hne hp hp' => ?_⟩, ⟨hst.os, hst.tape, hst.output, hst.size, fun k hk hno => hst.keep k hk fun n b p h1 h2 h3 => hno n b p (hsub _ _ h1) h2 h3, fun n b p hn hp => ?_⟩⟩
  · rcases hG' n b hn with h | ⟨h1, h2, h3⟩
    · exact hS'.blk n b h
    · obtain ⟨p, o, hp, ho, hb⟩ := hS.blk n b h3
      exact ⟨p, o, hle _ _ hp, stay n b p o h1 h2 h3 hp ho, hb.le hle⟩
  · rcases hG' n b h1 with k1 | ⟨k1, k2, k3⟩
    · rcases hG' n' b' h2 with j1 | ⟨j1, j2, j3⟩
      · exact hS'.apart n n' b b' p p' k1 j1 hr hne hp hp'
      · obtain ⟨q, o, hq, ho, _⟩ := hS.blk n' b' j3
        have := hle _ _ hq
        rw [hp'] at this; cases this
        rcases hst.img n b p k1 hp with h | ⟨n0, b0, p0, h3, h4, h5, h6⟩
        · have := blk_lt ho; omega
        · rw [← h6]; exact far n' b' p' j1 j2 j3 hq n0 b0 p0 h3 h5
    · obtain ⟨q, o, hq, ho, _⟩ := hS.blk n b k3
      have := hle _ _ hq
      rw [hp] at this; cases this
      rcases hG' n' b' h2 with j1 | ⟨j1, j2, j3⟩
      · rcases hst.img n' b' p' j1 hp' with h | ⟨n0, b0, p0, h3, h4, h5, h6⟩
        · have := blk_lt ho; omega
        · rw [← h6]; exact fun e => far n b p k1 k2 k3 hq n0 b0 p0 h3 h5 e.symm
      · obtain ⟨q', o', hq', _, _⟩ := hS.blk n' b' j3
        have := hle _ _ hq'
        rw [hp'] at this; cases this
        exact hS.apart n n' b b' p p' k3 j3 k2 hne hq hq'
  · rcases hG' n b hn with h | ⟨h1, h2, h3⟩
    · rcases hst.img n b p h hp with h4 | ⟨n0, b0, p0, h4, h5, h6, h7⟩
      · exact .inl h4
      · exact .inr ⟨n0, b0, p0, hsub _ _ h4, h5, h6, h7⟩
    · obtain ⟨q, o, hq, _, _⟩ := hS.blk n b h3
      have := hle _ _ hq
      rw [hp] at this; cases this
      exact .inr ⟨n, b, p, h3, id, hq, rfl⟩

section
variable {P : Program} {call : CallA} {ops : Array Oper} {base : Nat} {S : Nat → St} {ts : List Tc}

/-- The memory at a stage: those of L are done; p is the first writer that is not. -/
def memOf (ops : Array Oper) (base : Nat) (S : Nat → St) (L : Nat → Bool) (p : Nat) : Nat → Option ABlk := fun q =>
  if base ≤ q ∧ q < base + ops.size then (if L (q - base) then (if q - base < p then (S p).m.get q else (S (q - base + 1)).m.get q) else none)
  else (S p).m.get q

/-- The relation at a stage. -/
structure DInv (P : Program) (ops : Array Oper) (base lo : Nat) (S : Nat → St) (ts : List Tc) (μ0 : Mu) (w0 : World) (dfs : List Deferred) (L : Nat → Bool) (p : Nat) (μ : Mu) (cur : Nat → Option AV) (a : Act) (w : World) : Prop where
  down : ∀ j o e, L j = true → ops[j]? = some o → e ∈ o.after.toList → Region.binds .any e = true → L e.on = true
  lsz : ∀ j, L j = true → j < ops.size
  pmin : ∀ i, i < p → (ts.getD i T0).x = true → L i = true
  pX : p = ops.size ∨ (p < ops.size ∧ (ts.getD p T0).x = true ∧ L p = false)
  curO : ∀ τ, (cur τ = (S 0).sl.getD τ none ∧ ∀ j, L j = true → ((ops[j]?).bind (·.dst)) ≠ some τ) ∨
    ∃ j, L j = true ∧ ((ops[j]?).bind (·.dst)) = some τ ∧ (∀ k, L k = true → ((ops[k]?).bind (·.dst)) = some τ → k ≤ j) ∧ cur τ = (S (j + 1)).sl.getD τ none
  tm : ∀ τ v, cur τ = some v → cn μ v = some (a.tmps.getD τ undef)
  tsz : (S 0).sl.length ≤ a.tmps.size
  sim : Sim μ (memOf ops base S L p) w
  fresh : ∀ q, (S p).c ≤ q → μ q = none
  free : ∀ i, i < ops.size → L i = false → μ (base + i) = none
  le : Le μ0 μ
  same : ∀ q, q < lo → μ q = μ0 q
  step : Step μ0 (S 0).m.get w0 μ (memOf ops base S L p) w
  defers : a.defers = dfs

/-- What a ready operation looks at is as it is in the text's order. -/
theorem d_slots (hc : AbsOK call) (hT : TRun P call ops base S ts) (hD : DOk ops ts) {lo p : Nat} {μ0 μ : Mu} {w0 w : World} {dfs : List Deferred} {L : Nat → Bool} {cur : Nat → Option AV} {a : Act} (hI : DInv P ops base lo S ts μ0 w0 dfs L p μ cur a w)
    {i : Nat} {o : Oper} (ho : ops[i]? = some o) (hL : L i = false) (hr : ∀ e ∈ o.after.toList, Region.binds .any e = true → L e.on = true) {τ : Nat} (hτ : τ ∈ o.looksAt ops) : cur τ = (S i).sl.getD τ none := by
  have hi := (Array.getElem?_eq_some_iff.1 ho).1
  have hready : ∀ k, ((Region.before ops).getD i 0).testBit k = true → L k = true := before_ready (L := fun k => L k = true) hI.down (fun o' e ho' he hb => by rw [ho] at ho'; cases ho'; exact hr e he hb)
  -- a writer of τ other than i is ordered
  have hw : ∀ j, j ≠ i → ((ops[j]?).bind (·.dst)) = some τ → (j < i ∧ L j = true) ∨ (i < j ∧ L j = false) := by
    intro j hj hdj
    obtain ⟨oj, hoj, hdj'⟩ : ∃ oj, ops[j]? = some oj ∧ oj.dst = some τ := by
      cases hx : ops[j]? with
      | none => rw [hx] at hdj; cases hdj
      | some oj => rw [hx] at hdj; exact ⟨oj, rfl, hdj⟩
    rcases Nat.lt_or_gt_of_ne hj with h | h
    · rcases hD.apart j i oj o h hoj ho with hb | hap
      · exact .inl ⟨h, hready j hb⟩
      · exfalso
        simp only [Oper.apart, hdj', Bool.and_eq_true] at hap
        have := hap.1.1
        simp at this
        exact this hτ
    · rcases hD.apart i j o oj h ho hoj with hb | hap
      · refine .inr ⟨h, ?_⟩
        cases hLj : L j with
        | false => rfl
        | true =>
          have := before_down (L := fun k => L k = true) hI.down j i hLj hb
          rw [hL] at this; cases this
      · exfalso
        simp only [Oper.apart, hdj', Bool.and_eq_true] at hap
        have := hap.2
        simp at this
        exact this hτ
  rcases hI.curO τ with ⟨h1, h2⟩ | ⟨j, h1, h2, h3, h4⟩
  · rw [h1]
    symm
    refine t_sl hc hT i (Nat.zero_le i) (by omega) fun x _ hxi hdx => ?_
    rcases hw x (by omega) hdx with ⟨_, h⟩ | ⟨h, _⟩
    · exact h2 x h hdx
    · omega
  · have hji : j ≠ i := fun e => by subst e; rw [hL] at h1; cases h1
    have hjlt : j < i := by
      rcases hw j hji h2 with ⟨h, _⟩ | ⟨_, h⟩
      · exact h
      · rw [h1] at h; cases h
    rw [h4]
    symm
    refine t_sl hc hT i (by omega) (by omega) fun x hjx hxi hdx => ?_
    rcases hw x (by omega) hdx with ⟨_, h⟩ | ⟨h, _⟩
    · have := h3 x h hdx; omega
    · omega

/-- What a ready operation that is no writer reads is as it is in the text's order. -/
theorem d_reads (hc : AbsOK call) (hT : TRun P call ops base S ts) (hB : TBase ops base S) (hD : DOk ops ts) {lo p : Nat} {μ0 μ : Mu} {w0 w : World} {dfs : List Deferred} {L : Nat → Bool} {cur : Nat → Option AV} {a : Act} (hI : DInv P ops base lo S ts μ0 w0 dfs L p μ cur a w)
    {i : Nat} {o : Oper} (ho : ops[i]? = some o) (hL : L i = false) (hr : ∀ e ∈ o.after.toList, Region.binds .any e = true → L e.on = true) {q : Nat} (hq : q ∈ (ts.getD i T0).rd) (hμ : ∃ pl, μ q = some pl) (hg : ∃ b, (S i).m.get q = some b) :
    memOf ops base S L p q = (S i).m.get q := by
  have hi := (Array.getElem?_eq_some_iff.1 ho).1
  have hready : ∀ k, ((Region.before ops).getD i 0).testBit k = true → L k = true := before_ready (L := fun k => L k = true) hI.down (fun o' e ho' he hb => by rw [ho] at ho'; cases ho'; exact hr e he hb)
  obtain ⟨pl, hpl⟩ := hμ
  obtain ⟨b, hgb⟩ := hg
  have hp : p ≤ ops.size := by rcases hI.pX with h | h <;> omega
  -- an unlisted writer ahead of i, a listed one behind it, has not written q
  have hw1 : ∀ x, x < i → L x = false → (ts.getD x T0).x = true → q ∉ (ts.getD x T0).wr := by
    intro x hx hLx hxx hmem
    rcases hD.pair x i hx hi with hb | hok
    · rw [hready x hb] at hLx; cases hLx
    · simp only [pairOk, hxx, Bool.not_true, Bool.true_and, Bool.false_or, Bool.and_eq_true, List.all_eq_true] at hok
      have := hok.1.2 q hq
      simp at this
      exact this hmem
  have hw2 : ∀ x, i < x → x < ops.size → L x = true → (ts.getD x T0).x = true → q ∉ (ts.getD x T0).wr := by
    intro x hx hxs hLx hxx hmem
    rcases hD.pair i x hx hxs with hb | hok
    · have := before_down (L := fun k => L k = true) hI.down x i hLx hb
      rw [hL] at this; cases this
    · simp only [pairOk, hxx, Bool.not_true, Bool.false_or, Bool.and_eq_true, List.all_eq_true] at hok
      have := hok.2 q hq
      simp at this
      exact this hmem
  have hunl : ∀ x, p ≤ x → x < ops.size → (ts.getD x T0).x = true → L x = false := by
    intro x hpx hxs hxx
    rcases hI.pX with h | ⟨h1, h2, h3⟩
    · omega
    · by_cases e : x = p
      · subst e; exact h3
      · cases hLx : L x with
        | false => rfl
        | true =>
          rcases hD.pair p x (by omega) hxs with hb | hok
          · have := before_down (L := fun k => L k = true) hI.down x p hLx hb
            rw [h3] at this; cases this
          · simp only [pairOk, h2, hxx, Bool.and_self, Bool.not_true, Bool.false_and] at hok; cases hok
  have hqp : q < (S p).c := by
    apply Classical.byContradiction
    intro hn
    rw [hI.fresh q (by omega)] at hpl; cases hpl
  have hqi : q < (S i).c := by
    apply Classical.byContradiction
    intro hn
    rw [t_top hc hT hB i (by omega) q (by omega)] at hgb; cases hgb
  unfold memOf
  by_cases hres : base ≤ q ∧ q < base + ops.size
  · rw [if_pos hres]
    have hk : q - base < ops.size := by omega
    have hqk : base + (q - base) = q := by omega
    have hLk : L (q - base) = true := by
      cases h : L (q - base) with
      | true => rfl
      | false =>
        have := hI.free _ hk h
        rw [hqk, hpl] at this; cases this
    have hki : q - base < i := by
      apply Classical.byContradiction
      intro hn
      have := t_unborn hc hT hB hk i (by omega)
      rw [hqk, hgb] at this; cases this
    rw [hLk, if_pos rfl]
    by_cases hkp : q - base < p
    · rw [if_pos hkp]
      rcases Nat.le_total p i with h | h
      · exact (t_same hc hT hB hqp i h (by omega) fun x h1 h2 => ⟨by omega, fun hxx => hw1 x h2 (hunl x h1 (by omega) hxx) hxx⟩).symm
      · exact t_same hc hT hB hqi p h hp fun x h1 h2 => ⟨by omega, fun hxx => by
          by_cases e : x = i
          · subst e; have := hI.pmin x h2 hxx; rw [hL] at this; cases this
          · exact hw2 x (by omega) (by omega) (hI.pmin x h2 hxx) hxx⟩
    · rw [if_neg hkp]
      refine (t_same hc hT hB (a := q - base + 1) ?_ i (by omega) (by omega) fun x h1 h2 => ⟨by omega, fun hxx => hw1 x h2 (hunl x (by omega) (by omega) hxx) hxx⟩).symm
      have := t_lt hc hT hB (i := q - base + 1) (k := q - base) (by omega) hk
      omega
  · rw [if_neg hres]
    have hne : ∀ x, x < ops.size → q ≠ base + x := fun x hx e => hres (by omega)
    rcases Nat.le_total p i with h | h
    · exact (t_same hc hT hB hqp i h (by omega) fun x h1 h2 => ⟨hne x (by omega), fun hxx => hw1 x h2 (hunl x h1 (by omega) hxx) hxx⟩).symm
    · exact t_same hc hT hB hqi p h hp fun x h1 h2 => ⟨hne x (by omega), fun hxx => by
        by_cases e : x = i
        · subst e; have := hI.pmin x h2 hxx; rw [hL] at this; cases this
        · exact hw2 x (by omega) (by omega) (hI.pmin x h2 hxx) hxx⟩
end

end Go.Ab
