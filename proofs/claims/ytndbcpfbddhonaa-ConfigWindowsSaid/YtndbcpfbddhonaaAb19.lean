/- A region that draws its order comes to what the text's order comes to. -/
import Derived.Test.YtndbcpfbddhonaaAb18
namespace Go.Ab
set_option linter.unusedSimpArgs false
set_option linter.unusedVariables false

section
variable {P : Program} {call : CallA} {ops : Array Oper} {base : Nat} {S : Nat → St} {ts : List Tc}

/-- The first writer from p on that is not among L. -/
theorem next_x (ts : List Tc) (n : Nat) (L : Nat → Bool) (p : Nat) (hp : p ≤ n) : ∃ q, p ≤ q ∧ q ≤ n ∧ (∀ i, p ≤ i → i < q → (ts.getD i T0).x = true → L i = true) ∧ (q = n ∨ (q < n ∧ (ts.getD q T0).x = true ∧ L q = false)) := by
  obtain ⟨k, rfl⟩ : ∃ k, n = p + k := ⟨n - p, by omega⟩
  clear hp
  induction k generalizing p with
  | zero => exact ⟨p, by omega, by omega, fun i h1 h2 => by omega, .inl rfl⟩
  | succ k ih =>
    by_cases h : (ts.getD p T0).x = true ∧ L p = false
    · exact ⟨p, by omega, by omega, fun i h1 h2 => by omega, .inr ⟨by omega, h.1, h.2⟩⟩
    · obtain ⟨q, h1, h2, h3, h4⟩ := ih (p + 1)
      refine ⟨q, by omega, by omega, fun i h5 h6 h7 => ?_, ?_⟩
      · by_cases e : i = p
        · subst e
          cases hL : L i with
          | true => rfl
          | false => exact (h ⟨h7, hL⟩).elim
        · exact h3 i (by omega) h6 h7
      · rcases h4 with h4 | h4
        · exact .inl (by omega)
        · exact .inr ⟨by omega, h4.2⟩

/-- The slots behind one more operation. -/
theorem d_cur (hD : DOk ops ts) {lo p : Nat} {μ0 μ : Mu} {w0 w : World} {dfs : List Deferred} {L L' : Nat → Bool} {cur : Nat → Option AV} {a : Act} (hI : DInv P ops base lo S ts μ0 w0 dfs L p μ cur a w)
    {i : Nat} {o : Oper} (ho : ops[i]? = some o) (hL : L i = false) (hr : ∀ e ∈ o.after.toList, Region.binds .any e = true → L e.on = true) (hL' : ∀ j, L' j = if j = i then true else L j) :
    ∀ τ, ((if o.dst = some τ then (S (i + 1)).sl.getD τ none else cur τ) = (S 0).sl.getD τ none ∧ ∀ j, L' j = true → ((ops[j]?).bind (·.dst)) ≠ some τ) ∨
    ∃ j, L' j = true ∧ ((ops[j]?).bind (·.dst)) = some τ ∧ (∀ k, L' k = true → ((ops[k]?).bind (·.dst)) = some τ → k ≤ j) ∧ (if o.dst = some τ then (S (i + 1)).sl.getD τ none else cur τ) = (S (j + 1)).sl.getD τ none := by
  intro τ
  have hd : (ops[i]?).bind (·.dst) = o.dst := by rw [ho]; rfl
  have hready : ∀ k, ((Region.before ops).getD i 0).testBit k = true → L k = true := before_ready (L := fun k => L k = true) hI.down (fun o' e ho' he hb => by rw [ho] at ho'; cases ho'; exact hr e he hb)
  by_cases e : o.dst = some τ
  · refine .inr ⟨i, by rw [hL' i, if_pos rfl], by rw [hd]; exact e, fun k hk hdk => ?_, by rw [if_pos e]⟩
    rw [hL' k] at hk
    by_cases ek : k = i
    · omega
    · rw [if_neg ek] at hk
      obtain ⟨ok, hok, hdk'⟩ : ∃ ok, ops[k]? = some ok ∧ ok.dst = some τ := by
        cases hx : ops[k]? with
        | none => rw [hx] at hdk; cases hdk
        | some oj => rw [hx] at hdk; exact ⟨oj, rfl, hdk⟩
      rcases Nat.lt_or_gt_of_ne ek with h | h
      · omega
      · rcases hD.apart i k o ok h ho hok with hb | hap
        · have := before_down (L := fun k => L k = true) hI.down k i hk hb
          rw [hL] at this; cases this
        · simp [Oper.apart, e, hdk'] at hap
  · rw [if_neg e]
    rcases hI.curO τ with ⟨h1, h2⟩ | ⟨j, h1, h2, h3, h4⟩
    · refine .inl ⟨h1, fun j hj hdj => ?_⟩
      rw [hL' j] at hj
      by_cases ej : j = i
      · subst ej; rw [hd] at hdj; exact e hdj
      · rw [if_neg ej] at hj; exact h2 j hj hdj
    · refine .inr ⟨j, ?_, h2, fun k hk hdk => ?_, h4⟩
      · rw [hL' j]; split
        · rfl
        · exact h1
      · rw [hL' k] at hk
        by_cases ek : k = i
        · subst ek; rw [hd] at hdk; exact (e hdk).elim
        · rw [if_neg ek] at hk; exact h3 k hk hdk

/-- One more operation, ready: whatever it is, the relation holds behind it. -/
theorem d_step (hcall : CallOK P call) (hc : AbsOK call) (hT : TRun P call ops base S ts) (hB : TBase ops base S) (hD : DOk ops ts) {lo p : Nat} (hlo : lo ≤ base) {μ0 μ : Mu} {w0 w : World} {dfs : List Deferred} {L L' : Nat → Bool} {cur : Nat → Option AV} {a : Act}
    (hI : DInv P ops base lo S ts μ0 w0 dfs L p μ cur a w) {i : Nat} {o : Oper} (ho : ops[i]? = some o) (hL : L i = false) (hr : ∀ e ∈ o.after.toList, Region.binds .any e = true → L e.on = true) (hL' : ∀ j, L' j = if j = i then true else L j)
    {K : Act → World → Prop} {Q : Exit → Act → World → Prop} (hn : ∀ p' μ' cur' a' w', DInv P ops base lo S ts μ0 w0 dfs L' p' μ' cur' a' w' → K a' w') : wpOp P ops Q i K a w := by
  have hi := (Array.getElem?_eq_some_iff.1 ho).1
  have hp : p ≤ ops.size := by rcases hI.pX with h | h <;> omega
  have hready : ∀ k, ((Region.before ops).getD i 0).testBit k = true → L k = true := before_ready (L := fun k => L k = true) hI.down (fun o' e ho' he hb => by rw [ho] at ho'; cases ho'; exact hr e he hb)
  have hd : (ops[i]?).bind (·.dst) = o.dst := by rw [ho]; rfl
  have hst := hT.step i hi
  have hfr := oneOp_fr hc hst
  have hfree := hI.free i hi hL
  have hslots : ∀ τ ∈ o.looksAt ops, cur τ = (S i).sl.getD τ none := fun τ hτ => d_slots hc hT hD hI ho hL hr hτ
  have htm : ∀ τ ∈ o.looksAt ops, ∀ v, (S i).sl.getD τ none = some v → cn μ v = some (a.tmps.getD τ undef) := fun τ hτ v hv => hI.tm τ v (by rw [hslots τ hτ]; exact hv)
  have hlen := t_len hc hT i (by omega)
  have htsz : (S i).sl.length ≤ a.tmps.size := by rw [hlen]; exact hI.tsz
  have hcur' := d_cur hD hI ho hL hr hL'
  have hdown' : ∀ j o' e, L' j = true → ops[j]? = some o' → e ∈ o'.after.toList → Region.binds .any e = true → L' e.on = true := by
    intro j o' e hj hoj he hb
    rw [hL' j] at hj
    rw [hL' e.on]
    split
    · rfl
    · by_cases ej : j = i
      · subst ej; rw [ho] at hoj; cases hoj; exact hr e he hb
      · rw [if_neg ej] at hj; exact hI.down j o' e hj hoj he hb
  have hlsz' : ∀ j, L' j = true → j < ops.size := by
    intro j hj
    rw [hL' j] at hj
    by_cases ej : j = i
    · omega
    · rw [if_neg ej] at hj; exact hI.lsz j hj
  have hLmono : ∀ j, L j = true → L' j = true := fun j hj => by rw [hL' j]; split <;> first | rfl | exact hj
  -- operands
  have hops : ∀ x ∈ o.op.operands.toList, ∀ τ, x = .tmp τ → τ ∈ o.looksAt ops := by
    intro x hx τ e
    subst e
    simp only [Oper.looksAt, List.mem_append, List.mem_filterMap]
    exact .inl ⟨.tmp τ, hx, rfl⟩
  let ρ : Rho := fun x => match x with
    | .tmp τ => if τ ∈ o.looksAt ops then (S i).sl.getD τ none else none
    | x => evalA (S i).sl x
  have hρ : ∀ x v, ρ x = some v → cn μ v = some (a.eval x) := by
    intro x v hv
    cases x with
    | tmp τ =>
      simp only [ρ] at hv
      split at hv
      · exact htm τ ‹_› v hv
      · cases hv
    | const u => exact absV_cn hv
    | global g => cases hv
    | func f => cases hv; rfl
  have hρe : ∀ x ∈ o.op.operands.toList, ρ x = evalA (S i).sl x := by
    intro x hx
    cases x with
    | tmp τ => simp only [ρ]; rw [if_pos (hops _ hx τ rfl)]; rfl
    | _ => rfl
  have hwant : ∀ b, wantedA ops o (S i).sl = some b → Region.wanted o (yielded ops a.tmps) = b := by
    intro b h
    unfold wantedA at h
    unfold Region.wanted
    split at h
    · cases h; rename_i hg; simp [hg]
    · rename_i j want hg
      rw [hg]
      dsimp only
      split at h
      · rename_i d hdj
        split at h
        · rename_i b' hb
          cases h
          have hτ : d ∈ o.looksAt ops := by
            simp only [Oper.looksAt, List.mem_append, hg, hdj]
            exact .inr (by simp)
          have hlt : d < (S i).sl.length := by
            apply Classical.byContradiction
            intro hn
            simp [List.getD_eq_getElem?_getD, List.getElem?_eq_none (Nat.le_of_not_lt hn)] at hb
          have h1 := htm d hτ _ hb
          simp only [cn, Option.some.injEq] at h1
          have h2 : d < a.tmps.size := Nat.lt_of_lt_of_le hlt htsz
          have h3 : a.tmps[d]? = some (.bool b') := by
            rw [Array.getElem?_eq_getElem h2]
            simp [Array.getD, h2] at h1
            rw [← h1]
          simp only [yielded, hdj, Option.bind_some, h3]
          cases b' <;> cases want <;> rfl
        · rename_i hb
          cases h
          have hτ : d ∈ o.looksAt ops := by
            simp only [Oper.looksAt, List.mem_append, hg, hdj]
            exact .inr (by simp)
          have hlt : d < (S i).sl.length := by
            apply Classical.byContradiction
            intro hn
            simp [List.getD_eq_getElem?_getD, List.getElem?_eq_none (Nat.le_of_not_lt hn)] at hb
          have h1 := htm d hτ _ hb
          simp only [cn, cnL, Option.map_some, Option.some.injEq] at h1
          have h2 : d < a.tmps.size := Nat.lt_of_lt_of_le hlt htsz
          have h3 : a.tmps[d]? = some (.tuple #[]) := by
            rw [Array.getElem?_eq_getElem h2]
            simp [Array.getD, h2] at h1
            rw [← h1]
          simp only [yielded, hdj, Option.bind_some, h3]
          rfl
        · cases h
      · cases h
  -- the slots behind it
  have hput : ∀ (μ' : Mu) (v : Option AV) (val : Value), Le μ μ' → (S (i + 1)).sl = putA (S i).sl o.dst v → (∀ av, v = some av → cn μ' av = some val) →
      ∀ τ u, (if o.dst = some τ then (S (i + 1)).sl.getD τ none else cur τ) = some u → cn μ' u = some ((a.put o.dst val).tmps.getD τ undef) := by
    intro μ' v val hle hsl hv τ u hu
    by_cases e : o.dst = some τ
    · rw [if_pos e, hsl, e] at hu
      simp only [putA] at hu
      rw [getD_set] at hu
      by_cases e2 : τ < (S i).sl.length
      · rw [if_pos ⟨rfl, e2⟩] at hu
        rw [hv u hu, e]
        have : τ < a.tmps.size := Nat.lt_of_lt_of_le e2 htsz
        simp [Act.put, Array.getD, this]
      · rw [if_neg (fun h => e2 h.2)] at hu
        simp [List.getD_eq_getElem?_getD, List.getElem?_eq_none (Nat.le_of_not_lt e2)] at hu
    · rw [if_neg e] at hu
      have := cn_le hle _ _ (hI.tm τ u hu)
      rw [this]
      cases hdst : o.dst with
      | none => rfl
      | some d =>
        have : d ≠ τ := fun h => e (by rw [hdst, h])
        simp only [Act.put, Array.getD_eq_getD_getElem?, Array.getElem?_setIfInBounds]
        rw [if_neg this]
  unfold oneOp at hst
  rw [ho] at hst
  dsimp only at hst
  split at hst
  · cases hst
  · -- not done
    rename_i hw
    simp only [Option.some.injEq, Prod.mk.injEq] at hst
    obtain ⟨hs1, ht1⟩ := hst
    have htx : (ts.getD i T0).x = false := by rw [← ht1]
    have hta : (ts.getD i T0).a = false := by rw [← ht1]
    have hmem : memOf ops base S L' p = memOf ops base S L p := by
      funext q
      simp only [memOf]
      by_cases hres : base ≤ q ∧ q < base + ops.size
      · rw [if_pos hres, if_pos hres, hL' (q - base)]
        by_cases e : q - base = i
        · rw [if_pos e, e, hL]
          have hq : q = base + i := by omega
          subst hq
          simp only [if_true, Bool.false_eq_true, if_false]
          split
          · exact t_none hc hT hB hi htx hta p hp
          · exact t_none hc hT hB hi htx hta (i + 1) (by omega)
        · rw [if_neg e]
      · rw [if_neg hres, if_neg hres]
    simp only [wpOp, ho, hwant _ hw, Bool.false_eq_true, if_false]
    refine hn p μ _ _ w ⟨hdown', hlsz', fun j hj hx => hLmono j (hI.pmin j hj hx), ?_, hcur', hput μ (some (.tuple [])) undef (Le.refl μ) (by rw [← hs1]) (fun _ e => by cases e; rfl), by rw [put_size]; exact hI.tsz, by rw [hmem]; exact hI.sim, hI.fresh, fun j hj hLj => ?_, hI.le, hI.same, by rw [hmem]; exact hI.step, by rw [put_defers]; exact hI.defers⟩
    · rcases hI.pX with h | ⟨h1, h2, h3⟩
      · exact .inl h
      · refine .inr ⟨h1, h2, ?_⟩
        rw [hL' p, if_neg (fun e => by rw [e, htx] at h2; cases h2)]; exact h3
    · rw [hL' j] at hLj
      by_cases e : j = i
      · rw [if_pos e] at hLj; cases hLj
      · rw [if_neg e] at hLj; exact hI.free j hj hLj
  · rename_i hw
    split at hst
    · -- a writer: the next one
      rename_i hX
      split at hst
      · rename_i v m' c' hx
        simp only [Option.some.injEq, Prod.mk.injEq] at hst
        obtain ⟨hs1, ht1⟩ := hst
        have htx : (ts.getD i T0).x = true := by rw [← ht1]
        have hip : i = p := by
          rcases Nat.lt_trichotomy i p with h | h | h
          · have := hI.pmin i h htx; rw [hL] at this; cases this
          · exact h
          · rcases hI.pX with h' | ⟨h1, h2, h3⟩
            · omega
            · rcases hD.pair p i h hi with hb | hok
              · rw [hready p hb] at h3; cases h3
              · simp only [pairOk, h2, htx, Bool.and_self, Bool.not_true, Bool.false_and] at hok; cases hok
        subst hip
        -- the text's memory is a part of what is there
        have hborn : ∀ k, k < ops.size → (∃ b, (S i).m.get (base + k) = some b) → k < i ∧ L k = true := by
          intro k hk ⟨b, hb⟩
          have hki : k < i := by
            apply Classical.byContradiction
            intro hn
            rw [t_unborn hc hT hB hk i (by omega)] at hb; cases hb
          refine ⟨hki, ?_⟩
          cases hkx : (ts.getD k T0).x with
          | true => exact hI.pmin k hki hkx
          | false =>
            cases hka : (ts.getD k T0).a with
            | false => rw [t_none hc hT hB hk hkx hka i (by omega)] at hb; cases hb
            | true =>
              rcases hD.pair k i hki hi with hbit | hok
              · exact hready k hbit
              · simp only [pairOk, hka, htx, Bool.and_self, Bool.not_true, Bool.and_false, Bool.false_and] at hok; cases hok
        have hsub : ∀ q b, (S i).m.get q = some b → memOf ops base S L i q = some b := by
          intro q b hq
          simp only [memOf]
          by_cases hres : base ≤ q ∧ q < base + ops.size
          · rw [if_pos hres]
            have hqk : base + (q - base) = q := by omega
            obtain ⟨h1, h2⟩ := hborn (q - base) (by omega) ⟨b, by rw [hqk]; exact hq⟩
            rw [h2, if_pos rfl, if_pos h1]; exact hq
          · rw [if_neg hres]; exact hq
        have hS1 : Sim μ (S i).m.get w := sim_part hI.sim hsub
        have hx' : aXM P call ρ (S i).m (S i).c (base + i) o.op = some (v, m', c') := by rw [aXM_congr hρe]; exact hx
        have hclt : base + i < (S i).c := t_lt hc hT hB (by omega) hi
        simp only [wpOp, ho, hwant _ hw, if_true]
        refine .inl (aXM_ok hcall hS1 hI.fresh hfree hclt hρ hx' fun μ' w' val haf hv => ?_)
        obtain ⟨p', h1, h2, h3, h4⟩ := next_x ts ops.size L' (i + 1) (by omega)
        have em : (S (i + 1)).m = m' := by rw [← hs1]
        have ec : (S (i + 1)).c = c' := by rw [← hs1]
        -- between this writer and the next one nothing is written
        have hquiet : ∀ q, q < (S (i + 1)).c → (∀ k, i + 1 ≤ k → k < p' → q ≠ base + k) → (S p').m.get q = (S (i + 1)).m.get q := by
          intro q hq hk
          refine t_same hc hT hB hq p' h1 h2 fun x hx1 hx2 => ⟨hk x hx1 hx2, fun hxx => ?_⟩
          exfalso
          have hLx := h3 x hx1 hx2 hxx
          rw [hL' x, if_neg (by omega)] at hLx
          rcases hD.pair i x (by omega) (by omega) with hb | hok
          · have := before_down (L := fun k => L k = true) hI.down x i hLx hb
            rw [hL] at this; cases this
          · simp only [pairOk, htx, hxx, Bool.and_self, Bool.not_true, Bool.false_and] at hok; cases hok
        -- no writer behind it is done
        have hnox : ∀ x, i + 1 ≤ x → x < p' → (ts.getD x T0).x = false := by
          intro x hx1 hx2
          cases hxx : (ts.getD x T0).x with
          | false => rfl
          | true =>
            have hLx := h3 x hx1 hx2 hxx
            rw [hL' x, if_neg (by omega)] at hLx
            rcases hD.pair i x (by omega) (by omega) with hb | hok
            · have := before_down (L := fun k => L k = true) hI.down x i hLx hb
              rw [hL] at this; cases this
            · simp only [pairOk, htx, hxx, Bool.and_self, Bool.not_true, Bool.false_and] at hok; cases hok
        have hcp : ∀ x, i + 1 ≤ x → x ≤ p' → (S x).c = (S (i + 1)).c := by
          intro x
          induction x with
          | zero => intro h; omega
          | succ x ih =>
            intro hx1 hx2
            by_cases e : x = i
            · subst e; rfl
            · rw [((oneOp_fr hc (hT.step x (by omega))).n (hnox x (by omega) (by omega))).1]
              exact ih (by omega) (by omega)
        have hG' : ∀ q b, memOf ops base S L' p' q = some b → m'.get q = some b ∨ ((S i).m.get q = none ∧ b.isRw = true ∧ memOf ops base S L i q = some b) := by
          intro q b hq
          simp only [memOf] at hq ⊢
          by_cases hres : base ≤ q ∧ q < base + ops.size
          · rw [if_pos hres] at hq ⊢
            have hqk : base + (q - base) = q := by omega
            have hk : q - base < ops.size := by omega
            rw [hL' (q - base)] at hq
            by_cases e : q - base = i
            · left
              rw [if_pos e, if_pos rfl, if_pos (by omega)] at hq
              rw [hquiet q (by have := t_lt hc hT hB (i := i + 1) (k := i) (by omega) hi; omega) (fun k h5 h6 => by omega), em] at hq
              exact hq
            · rw [if_neg e] at hq
              cases hLk : L (q - base) with
              | false => rw [hLk] at hq; simp at hq
              | true =>
                rw [hLk] at hq
                simp only [if_true] at hq ⊢
                by_cases hki : q - base < i
                · left
                  rw [if_pos (by omega)] at hq
                  rw [hquiet q (by have := t_lt hc hT hB (i := i + 1) (k := q - base) (by omega) hk; omega) (fun k h5 h6 => by omega), em] at hq
                  exact hq
                · right
                  have hgk : i < q - base := by omega
                  have hq1 : (S (q - base + 1)).m.get q = some b := by
                    by_cases hkp : q - base < p'
                    · rw [if_pos hkp] at hq
                      rw [← hq]
                      symm
                      refine t_same hc hT hB ?_ p' (by omega) h2 fun x hx1 hx2 => ⟨by omega, fun hxx => by rw [hnox x (by omega) hx2] at hxx; cases hxx⟩
                      have := t_lt hc hT hB (i := q - base + 1) (k := q - base) (by omega) hk; omega
                    · rw [if_neg hkp] at hq; exact hq
                  refine ⟨by have := t_unborn hc hT hB hk i (by omega); rw [hqk] at this; exact this, ?_, by rw [if_neg (by omega)]; exact hq1⟩
                  -- it was made by an operation that makes a block
                  have hkx : (ts.getD (q - base) T0).x = false := by
                    cases hkx : (ts.getD (q - base) T0).x with
                    | false => rfl
                    | true =>
                      rcases hD.pair i (q - base) hgk hk with hb | hok
                      · have := before_down (L := fun k => L k = true) hI.down _ i hLk hb
                        rw [hL] at this; cases this
                      · simp only [pairOk, htx, hkx, Bool.and_self, Bool.not_true, Bool.false_and] at hok; cases hok
                  have hstk := hT.step (q - base) hk
                  have hub := t_unborn hc hT hB hk (q - base) (Nat.le_refl _)
                  rw [hqk] at hub
                  unfold oneOp at hstk
                  split at hstk
                  · cases hstk
                  · split at hstk
                    · cases hstk
                    · simp only [Option.some.injEq, Prod.mk.injEq] at hstk
                      rw [← hstk.1] at hq1
                      simp only at hq1
                      rw [hub] at hq1; cases hq1
                    · split at hstk
                      · split at hstk
                        · simp only [Option.some.injEq, Prod.mk.injEq] at hstk
                          rw [← hstk.2] at hkx; cases hkx
                        · cases hstk
                      · split at hstk
                        · simp only [Option.some.injEq, Prod.mk.injEq] at hstk
                          rw [← hstk.1] at hq1
                          simp only at hq1
                          rw [hub] at hq1; cases hq1
                        · rename_i v1 b1 rd1 hn1
                          simp only [Option.some.injEq, Prod.mk.injEq] at hstk
                          rw [← hstk.1] at hq1
                          simp only [Mem.get_new, hqk, if_true, Option.some.injEq] at hq1
                          subst hq1
                          exact aM_rw hn1
                        · cases hstk
          · left
            rw [if_neg hres] at hq
            by_cases hqc : q < (S (i + 1)).c
            · rw [hquiet q hqc (fun k h5 h6 e => hres (by omega)), em] at hq
              exact hq
            · rw [t_top hc hT hB p' h2 q (by rw [hcp p' h1 (Nat.le_refl _)]; omega)] at hq; cases hq
        have hboth := step_beside hI.sim haf.le hsub haf.sim haf.step hG' (fun q b h1 h2 h3 h4 => by
          rcases hG' q b h1 with h5 | ⟨h5, h6, h7⟩
          · exact .inr h5
          · cases hm : m'.get q with
            | none => exact .inl rfl
            | some b2 =>
              right
              -- its name is laid by: this writer has not given it
              exfalso
              have hres : base ≤ q ∧ q < base + ops.size := by
                apply Classical.byContradiction
                intro hn
                simp only [memOf, if_neg hn] at h3
                rw [h2] at h3; cases h3
              have hqk : base + (q - base) = q := by omega
              have hk : q - base < ops.size := by omega
              have hne : q - base ≠ i := by
                intro e
                simp only [memOf, if_pos hres, e, hL, Bool.false_eq_true, if_false] at h3
                cases h3
              have hui := t_unborn hc hT hB hk
              by_cases hki : q - base < i
              · -- made ahead of it
                have hLk : L (q - base) = true := by
                  cases hLk : L (q - base) with
                  | true => rfl
                  | false => simp only [memOf, if_pos hres, hLk, Bool.false_eq_true, if_false] at h3; cases h3
                simp only [memOf, if_pos hres, hLk, if_true, if_pos hki] at h3
                rw [h2] at h3; cases h3
              · have := hui (i + 1) (by omega)
                rw [hqk, em, hm] at this; cases this)
        refine hn p' μ' _ _ w' ⟨hdown', hlsz', fun j hj hxj => ?_, ?_, hcur', hput μ' v val haf.le (by rw [← hs1]) hv, by rw [put_size]; exact hI.tsz, hboth.1, fun q hq => haf.fresh q (by rw [hcp p' h1 (Nat.le_refl _), ec] at hq; exact hq), fun j hj hLj => ?_, hI.le.trans haf.le, fun q hq => ?_, hI.step.trans hboth.2, by rw [put_defers]; exact hI.defers⟩
        · by_cases e : j ≤ i
          · by_cases e2 : j = i
            · rw [hL' j, if_pos e2]
            · exact hLmono j (hI.pmin j (by omega) hxj)
          · exact h3 j (by omega) hj hxj
        · exact h4
        · rw [hL' j] at hLj
          by_cases e : j = i
          · rw [if_pos e] at hLj; cases hLj
          · rw [if_neg e] at hLj
            rw [haf.same _ (t_lt hc hT hB (by omega) hj) (by simp; omega)]
            exact hI.free j hj hLj
        · rw [haf.same q (by omega) (by simp; omega)]; exact hI.same q hq
      · cases hst
    · -- no writer
      rename_i hX
      have common : ∀ (r : NR), aM P (evalA (S i).sl) (S i).m.get (base + i) o.op = some r → r.rd = (ts.getD i T0).rd →
          aM P ρ (memOf ops base S L p) (base + i) o.op = some r := by
        intro r hrn hrd
        refine aM_congr hrn hρe fun q hq => ?_
        have hrd' := aM_rd hrn (μ := μ) (ρc := a.eval) (fun x hx v hv => hρ x v (by rw [hρe x hx]; exact hv)) q hq
        exact d_reads hc hT hB hD hI ho hL hr (by rw [← hrd]; exact hq) hrd'.1 hrd'.2
      have hpX' : (ts.getD i T0).x = false → (p = ops.size ∨ (p < ops.size ∧ (ts.getD p T0).x = true ∧ L' p = false)) := by
        intro htx
        rcases hI.pX with h | ⟨h1, h2, h3⟩
        · exact .inl h
        · refine .inr ⟨h1, h2, ?_⟩
          rw [hL' p, if_neg (fun e => by rw [e, htx] at h2; cases h2)]; exact h3
      split at hst
      · rename_i v rd hx
        simp only [Option.some.injEq, Prod.mk.injEq] at hst
        obtain ⟨hs1, ht1⟩ := hst
        have htx : (ts.getD i T0).x = false := by rw [← ht1]
        have hta : (ts.getD i T0).a = false := by rw [← ht1]
        have hx' := common _ hx (by rw [← ht1])
        obtain ⟨val, w', hrun, hnb⟩ := aM_ok (P := P) hρ hI.sim hfree hx'
        dsimp only at hnb
        obtain ⟨rfl, hcv⟩ := hnb
        have hmem : memOf ops base S L' p = memOf ops base S L p := by
          funext q
          simp only [memOf]
          by_cases hres : base ≤ q ∧ q < base + ops.size
          · rw [if_pos hres, if_pos hres, hL' (q - base)]
            by_cases e : q - base = i
            · rw [if_pos e, e, hL]
              have hq : q = base + i := by omega
              subst hq
              simp only [if_true, Bool.false_eq_true, if_false]
              split
              · exact t_none hc hT hB hi htx hta p hp
              · exact t_none hc hT hB hi htx hta (i + 1) (by omega)
            · rw [if_neg e]
          · rw [if_neg hres, if_neg hres]
        simp only [wpOp, ho, hwant _ hw, if_true]
        refine .inl ?_
        unfold Oper.wp
        rw [hrun]
        refine hn p μ _ _ w' ⟨hdown', hlsz', fun j hj hxj => hLmono j (hI.pmin j hj hxj), hpX' htx, hcur', hput μ (some v) val (Le.refl μ) (by rw [← hs1]) (fun _ e => by cases e; exact hcv), by rw [put_size]; exact hI.tsz, by rw [hmem]; exact hI.sim, hI.fresh, fun j hj hLj => ?_, hI.le, hI.same, by rw [hmem]; exact hI.step, by rw [put_defers]; exact hI.defers⟩
        rw [hL' j] at hLj
        by_cases e : j = i
        · rw [if_pos e] at hLj; cases hLj
        · rw [if_neg e] at hLj; exact hI.free j hj hLj
      · rename_i v b rd hx
        simp only [Option.some.injEq, Prod.mk.injEq] at hst
        obtain ⟨hs1, ht1⟩ := hst
        have htx : (ts.getD i T0).x = false := by rw [← ht1]
        have hta : (ts.getD i T0).a = true := by rw [← ht1]
        have hx' := common _ hx (by rw [← ht1])
        obtain ⟨val, w', hrun, hnb⟩ := aM_ok (P := P) hρ hI.sim hfree hx'
        dsimp only at hnb
        obtain ⟨obj, d, extra, rfl, hrw, hbr, hcv⟩ := hnb
        obtain ⟨hsim', hstep'⟩ := sim_new_f (d := d) hI.sim hfree hrw hbr
        have hleμ : Le μ (μ.upd (base + i) ⟨w.heap.size, 0, extra⟩) := Mu.le_upd hfree
        have hown : (S (i + 1)).m.get (base + i) = some b := by rw [← hs1]; simp [Mem.get_new]
        have hmem : memOf ops base S L' p = fun k => if k = base + i then some b else memOf ops base S L p k := by
          funext q
          by_cases hres : base ≤ q ∧ q < base + ops.size
          · simp only [memOf, if_pos hres, hL' (q - base)]
            by_cases e : q - base = i
            · have hq : q = base + i := by omega
              rw [if_pos e, if_pos rfl, if_pos hq, hq]
              have e2 : base + i - base = i := by omega
              rw [e2]
              split
              · rename_i hip
                rw [← hown]
                refine t_same hc hT hB (t_lt hc hT hB (by omega) hi) p (by omega) hp fun x hx1 hx2 => ⟨by omega, fun hxx => ?_⟩
                exfalso
                have hLx := hI.pmin x hx2 hxx
                rcases hD.pair i x (by omega) (by omega) with hb | hok
                · have := before_down (L := fun k => L k = true) hI.down x i hLx hb
                  rw [hL] at this; cases this
                · simp only [pairOk, hta, hxx, Bool.and_self, Bool.not_true, Bool.and_false, Bool.false_and] at hok; cases hok
              · exact hown
            · rw [if_neg e, if_neg (show ¬ q = base + i by omega)]
          · have hqi : ¬ q = base + i := fun e => hres (by omega)
            simp only [memOf, if_neg hres, if_neg hqi]
        simp only [wpOp, ho, hwant _ hw, if_true]
        refine .inl ?_
        unfold Oper.wp
        rw [hrun]
        refine hn p _ _ _ _ ⟨hdown', hlsz', fun j hj hxj => hLmono j (hI.pmin j hj hxj), hpX' htx, hcur', hput _ (some v) val hleμ (by rw [← hs1]) (fun _ e => by cases e; exact hcv), by rw [put_size]; exact hI.tsz, by rw [hmem]; exact hsim', fun q hq => ?_, fun j hj hLj => ?_, hI.le.trans hleμ, fun q hq => ?_, by rw [hmem]; exact hI.step.trans hstep', by rw [put_defers]; exact hI.defers⟩
        · rw [Mu.upd_ne _ _ (by have := t_lt hc hT hB hp hi; omega)]; exact hI.fresh q hq
        · rw [hL' j] at hLj
          by_cases e : j = i
          · rw [if_pos e] at hLj; cases hLj
          · rw [if_neg e] at hLj
            rw [Mu.upd_ne _ _ (by omega)]; exact hI.free j hj hLj
        · rw [Mu.upd_ne _ _ (by omega)]; exact hI.same q hq
      · cases hst
end

end Go.Ab
