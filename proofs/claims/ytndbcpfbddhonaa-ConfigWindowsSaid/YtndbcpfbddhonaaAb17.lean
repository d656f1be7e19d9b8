/- A region that draws its order: whatever the order, it comes to what the text's order comes to. -/
import Derived.Test.YtndbcpfbddhonaaAb16
namespace Go.Ab
set_option linter.unusedSimpArgs false
set_option linter.unusedVariables false

/-! ### what stands before what -/
theorem fold_bits (b : Edge → Bool) (f : Edge → Nat) (i : Nat) : ∀ (l : List Edge) (s0 : Nat), (l.foldl (fun s e => if b e then s ||| 2 ^ e.on ||| f e else s) s0).testBit i = true → s0.testBit i = true ∨ ∃ e ∈ l, b e = true ∧ (e.on = i ∨ (f e).testBit i = true)
  | [], s0, h => .inl h
  | e :: l, s0, h => by
    simp only [List.foldl_cons] at h
    rcases fold_bits b f i l _ h with h1 | ⟨e', he', h2⟩
    · by_cases hb : b e = true
      · rw [if_pos hb] at h1
        simp only [Nat.testBit_or, Bool.or_eq_true, Nat.testBit_two_pow, decide_eq_true_eq] at h1
        rcases h1 with (h1 | h1) | h1
        · exact .inl h1
        · exact .inr ⟨e, by simp, hb, .inl h1⟩
        · exact .inr ⟨e, by simp, hb, .inr h1⟩
      · rw [if_neg hb] at h1; exact .inl h1
    · exact .inr ⟨e', by simp [he'], h2⟩

theorem before_spec (ops : Array Oper) (j i : Nat) (h : ((Region.before ops).getD j 0).testBit i = true) :
    ∃ o e, ops[j]? = some o ∧ e ∈ o.after.toList ∧ Region.binds .any e = true ∧ (e.on = i ∨ (e.on < j ∧ ((Region.before ops).getD e.on 0).testBit i = true)) := by
  let g : Array Nat → Oper → Array Nat := fun acc o => acc.push (o.after.foldl (fun s e => if Region.binds .any e then s ||| 2 ^ e.on ||| acc.getD e.on 0 else s) 0)
  have key : ∀ (l pre : List Oper) (acc : Array Nat), acc.size = pre.length →
      (∀ k i, (acc.getD k 0).testBit i = true → ∃ o e, pre[k]? = some o ∧ e ∈ o.after.toList ∧ Region.binds .any e = true ∧ (e.on = i ∨ (e.on < k ∧ (acc.getD e.on 0).testBit i = true))) →
      ∀ k i, ((l.foldl g acc).getD k 0).testBit i = true → ∃ o e, (pre ++ l)[k]? = some o ∧ e ∈ o.after.toList ∧ Region.binds .any e = true ∧ (e.on = i ∨ (e.on < k ∧ ((l.foldl g acc).getD e.on 0).testBit i = true)) := by
    intro l
    induction l with
    | nil => intro pre acc _ h k i; simpa using h k i
    | cons o l ih =>
      intro pre acc hsz hacc k i
      simp only [List.foldl_cons]
      have := ih (pre ++ [o]) (g acc o) (by simp [g, hsz]) (fun k i hk => ?_) k i
      · simpa using this
      · have hlt : k < (g acc o).size := by
          apply Classical.byContradiction
          intro hn
          have e0 : (g acc o).getD k 0 = 0 := by simp [Array.getD, hn]
          rw [e0] at hk
          simp at hk
        simp only [g, Array.size_push] at hlt
        by_cases e : k = acc.size
        · subst e
          have hv : (g acc o).getD acc.size 0 = o.after.foldl (fun s e => if Region.binds .any e then s ||| 2 ^ e.on ||| acc.getD e.on 0 else s) 0 := by simp [g, Array.getD]
          rw [hv, ← Array.foldl_toList] at hk
          rcases fold_bits _ _ i _ _ hk with h1 | ⟨e, he, hb, h2⟩
          · simp at h1
          · refine ⟨o, e, by rw [hsz]; simp, he, hb, ?_⟩
            rcases h2 with h2 | h2
            · exact .inl h2
            · right
              have hlt2 : e.on < acc.size := by
                apply Classical.byContradiction
                intro hn
                have e0 : acc.getD e.on 0 = 0 := by simp [Array.getD, hn]
                rw [e0] at h2
                simp at h2
              refine ⟨hlt2, ?_⟩
              have : (g acc o).getD e.on 0 = acc.getD e.on 0 := by
                simp only [g, Array.getD_eq_getD_getElem?, Array.getElem?_push]
                rw [if_neg (by omega)]
              rw [this]; exact h2
        · have hk2 : k < acc.size := by omega
          have hsame : ∀ q, q < acc.size → (g acc o).getD q 0 = acc.getD q 0 := by
            intro q hq
            simp only [g, Array.getD_eq_getD_getElem?, Array.getElem?_push]
            rw [if_neg (by omega)]
          rw [hsame k hk2] at hk
          obtain ⟨o', e', h1, h2, h3, h4⟩ := hacc k i hk
          refine ⟨o', e', by rw [List.getElem?_append_left (by omega)]; exact h1, h2, h3, ?_⟩
          rcases h4 with h4 | ⟨h4, h5⟩
          · exact .inl h4
          · exact .inr ⟨h4, by rw [hsame _ (by omega)]; exact h5⟩
  have hb : Region.before ops = ops.toList.foldl g #[] := by
    simp only [Region.before, ← Array.foldl_toList, g]
  rw [hb] at h ⊢
  have := key ops.toList [] #[] rfl (fun k i hk => by simp at hk) j i h
  simpa using this

theorem before_down {ops : Array Oper} {L : Nat → Prop} (hdown : ∀ j o e, L j → ops[j]? = some o → e ∈ o.after.toList → Region.binds .any e = true → L e.on) : ∀ j i, L j → ((Region.before ops).getD j 0).testBit i = true → L i := by
  intro j
  induction j using Nat.strongRecOn with
  | _ j ih =>
    intro i hj h
    obtain ⟨o, e, ho, he, hb, h1⟩ := before_spec ops j i h
    have hL := hdown j o e hj ho he hb
    rcases h1 with h1 | ⟨h1, h2⟩
    · rw [← h1]; exact hL
    · exact ih e.on h1 i hL h2
/-- What must be listed before j is, where j is ready. -/
theorem before_ready {ops : Array Oper} {L : Nat → Prop} (hdown : ∀ j o e, L j → ops[j]? = some o → e ∈ o.after.toList → Region.binds .any e = true → L e.on) {j : Nat}
    (hr : ∀ o e, ops[j]? = some o → e ∈ o.after.toList → Region.binds .any e = true → L e.on) (i : Nat) (h : ((Region.before ops).getD j 0).testBit i = true) : L i := by
  obtain ⟨o, e, ho, he, hb, h1⟩ := before_spec ops j i h
  have hL := hr o e ho he hb
  rcases h1 with h1 | ⟨h1, h2⟩
  · rw [← h1]; exact hL
  · exact before_down hdown e.on i hL h2

/-! ### the text's own order -/
def T0 : Tc := ⟨true, true, [], []⟩

structure TRun (P : Program) (call : CallA) (ops : Array Oper) (base : Nat) (S : Nat → St) (ts : List Tc) : Prop where
  step : ∀ i, i < ops.size → oneOp P call ops base i (S i) = some (S (i + 1), ts.getD i T0)

theorem trun_of {P : Program} {call : CallA} {ops : Array Oper} {base : Nat} {s s' : St} {ts : List Tc} (h : runOpsT P call ops base (List.range ops.size) s = some (s', ts)) :
    ∃ S, S 0 = s ∧ S ops.size = s' ∧ TRun P call ops base S ts := by
  have key : ∀ (len k : Nat) (s : St) (ts : List Tc), runOpsT P call ops base (List.range' k len) s = some (s', ts) →
      ∃ S : Nat → St, S k = s ∧ S (k + len) = s' ∧ ∀ i, i < len → oneOp P call ops base (k + i) (S (k + i)) = some (S (k + i + 1), ts.getD i T0) := by
    intro len
    induction len with
    | zero => intro k s ts h; simp [runOpsT] at h; exact ⟨fun _ => s, rfl, h.1, fun i hi => by omega⟩
    | succ len ih =>
      intro k s ts h
      simp only [List.range'_succ, runOpsT] at h
      split at h
      · rename_i s1 t h1
        split at h
        · rename_i s2 ts2 h2
          cases h
          obtain ⟨S, e1, e2, e3⟩ := ih (k + 1) s1 ts2 h2
          refine ⟨fun j => if j = k then s else S j, by simp, by dsimp only; rw [if_neg (by omega), ← e2]; congr 1; omega, fun i hi => ?_⟩
          cases i with
          | zero =>
            simp only [Nat.add_zero, if_true]
            rw [if_neg (by omega), e1, h1]
            rfl
          | succ i =>
            have := e3 i (by omega)
            dsimp only
            rw [if_neg (by omega), if_neg (by omega), show k + (i + 1) = k + 1 + i by omega, this]
            rfl
        · cases h
      · cases h
  rw [List.range_eq_range'] at h
  obtain ⟨S, e1, e2, e3⟩ := key ops.size 0 s ts h
  exact ⟨S, e1, by simpa using e2, ⟨fun i hi => by simpa using e3 i hi⟩⟩

section
variable {P : Program} {call : CallA} {ops : Array Oper} {base : Nat} {S : Nat → St} {ts : List Tc}

structure TBase (ops : Array Oper) (base : Nat) (S : Nat → St) : Prop where
  lt : base + ops.size ≤ (S 0).c
  top : ∀ q, (S 0).c ≤ q → (S 0).m.get q = none
  res : ∀ i, i < ops.size → (S 0).m.get (base + i) = none

theorem t_mono (hc : AbsOK call) (hT : TRun P call ops base S ts) {i j : Nat} (hij : i ≤ j) (hj : j ≤ ops.size) : (S i).c ≤ (S j).c := by
  induction j with
  | zero => have : i = 0 := by omega
            subst this; exact Nat.le_refl _
  | succ j ih =>
    by_cases e : i = j + 1
    · subst e; exact Nat.le_refl _
    · exact Nat.le_trans (ih (by omega) (by omega)) (oneOp_fr hc (hT.step j (by omega))).cle
theorem t_lt (hc : AbsOK call) (hT : TRun P call ops base S ts) (hB : TBase ops base S) {i k : Nat} (hi : i ≤ ops.size) (hk : k < ops.size) : base + k < (S i).c := by
  have := t_mono hc hT (Nat.zero_le i) hi
  have := hB.lt
  omega
theorem t_top (hc : AbsOK call) (hT : TRun P call ops base S ts) (hB : TBase ops base S) : ∀ i, i ≤ ops.size → ∀ q, (S i).c ≤ q → (S i).m.get q = none
  | 0, _ => hB.top
  | i + 1, hi => (oneOp_fr hc (hT.step i (by omega))).top (t_lt hc hT hB (by omega) (by omega)) (t_top hc hT hB i (by omega))
theorem t_unborn (hc : AbsOK call) (hT : TRun P call ops base S ts) (hB : TBase ops base S) {k : Nat} (hk : k < ops.size) : ∀ i, i ≤ k → (S i).m.get (base + k) = none
  | 0, _ => hB.res k hk
  | i + 1, hi => by
    have ih := t_unborn hc hT hB hk i (by omega)
    have hfr := oneOp_fr hc (hT.step i (by omega))
    cases hx : (ts.getD i T0).x with
    | false => rw [(hfr.n hx).2.1 _ (by omega)]; exact ih
    | true => exact (hfr.x hx).1 _ (t_lt hc hT hB (by omega) hk) (by omega) ih
theorem t_none (hc : AbsOK call) (hT : TRun P call ops base S ts) (hB : TBase ops base S) {k : Nat} (hk : k < ops.size) (hx : (ts.getD k T0).x = false) (ha : (ts.getD k T0).a = false) : ∀ i, i ≤ ops.size → (S i).m.get (base + k) = none
  | 0, _ => hB.res k hk
  | i + 1, hi => by
    have ih := t_none hc hT hB hk hx ha i (by omega)
    have hfr := oneOp_fr hc (hT.step i (by omega))
    by_cases e : i = k
    · subst e
      rw [(hfr.n hx).2.2 ha]; exact ih
    · cases hx' : (ts.getD i T0).x with
      | false => rw [(hfr.n hx').2.1 _ (by omega)]; exact ih
      | true => exact (hfr.x hx').1 _ (t_lt hc hT hB (by omega) hk) (by omega) ih
/-- Between two stages nothing is written. -/
theorem t_same (hc : AbsOK call) (hT : TRun P call ops base S ts) (hB : TBase ops base S) {q a : Nat} (hqa : q < (S a).c) : ∀ b, a ≤ b → b ≤ ops.size →
    (∀ x, a ≤ x → x < b → q ≠ base + x ∧ ((ts.getD x T0).x = true → q ∉ (ts.getD x T0).wr)) → (S b).m.get q = (S a).m.get q := by
  intro b
  induction b with
  | zero => intro h _ _; have : a = 0 := by omega
            subst this; rfl
  | succ b ih =>
    intro hab hb hx
    by_cases e : a = b + 1
    · subst e; rfl
    · rw [← ih (by omega) (by omega) fun x h1 h2 => hx x h1 (by omega)]
      have hfr := oneOp_fr hc (hT.step b (by omega))
      obtain ⟨h1, h2⟩ := hx b (by omega) (by omega)
      cases hx' : (ts.getD b T0).x with
      | false => exact (hfr.n hx').2.1 _ h1
      | true => exact (hfr.x hx').2 _ (Nat.lt_of_lt_of_le hqa (t_mono hc hT (by omega) (by omega))) h1 (h2 hx')
theorem t_sl (hc : AbsOK call) (hT : TRun P call ops base S ts) {τ a : Nat} : ∀ b, a ≤ b → b ≤ ops.size → (∀ x, a ≤ x → x < b → ((ops[x]?).bind (·.dst)) ≠ some τ) → (S b).sl.getD τ none = (S a).sl.getD τ none := by
  intro b
  induction b with
  | zero => intro h _ _; have : a = 0 := by omega
            subst this; rfl
  | succ b ih =>
    intro hab hb hx
    by_cases e : a = b + 1
    · subst e; rfl
    · rw [← ih (by omega) (by omega) fun x h1 h2 => hx x h1 (by omega)]
      exact (oneOp_fr hc (hT.step b (by omega))).sl τ (hx b (by omega) (by omega))
theorem t_len (hc : AbsOK call) (hT : TRun P call ops base S ts) : ∀ b, b ≤ ops.size → (S b).sl.length = (S 0).sl.length
  | 0, _ => rfl
  | b + 1, hb => by rw [(oneOp_fr hc (hT.step b (by omega))).len, t_len hc hT b (by omega)]

/-! ### what the check says -/
structure DOk (ops : Array Oper) (ts : List Tc) : Prop where
  edge : ∀ j o e, ops[j]? = some o → e ∈ o.after.toList → Region.binds .any e = true → e.on < j
  apart : ∀ i j x y, i < j → ops[i]? = some x → ops[j]? = some y → ((Region.before ops).getD j 0).testBit i = true ∨ x.apart ops y = true
  pair : ∀ i j, i < j → j < ops.size → ((Region.before ops).getD j 0).testBit i = true ∨ pairOk (ts.getD i T0) (ts.getD j T0) = true

theorem dok_of (h : drawnOk ops ts = true) : DOk ops ts := by
  simp only [drawnOk, List.all_eq_true, List.mem_range, Bool.and_eq_true] at h
  refine ⟨fun j o e ho he hb => ?_, fun i j x y hij hi hj => ?_, fun i j hij hj => ?_⟩
  · have hj := (Array.getElem?_eq_some_iff.1 ho).1
    have h1 := (h j hj).1
    rw [ho] at h1
    simp only [Bool.and_eq_true] at h1
    have h2 := h1.1
    rw [← Array.all_toList] at h2
    have := List.all_eq_true.1 h2 e he
    simpa [hb] using this
  · have hj' := (Array.getElem?_eq_some_iff.1 hj).1
    have h1 := ((h j hj').2 i hij).1
    simp only [statOk, hi, hj, Bool.or_eq_true] at h1
    exact h1
  · have h1 := ((h j hj).2 i hij).2
    simp only [Bool.or_eq_true] at h1
    exact h1
end

end Go.Ab
