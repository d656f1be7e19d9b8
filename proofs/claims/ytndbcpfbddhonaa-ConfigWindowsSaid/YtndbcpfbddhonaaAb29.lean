/- A call shown at a small memory and used at any; states renamed at a loop's head by checks; loops with an invariant. -/
import Derived.Test.YtndbcpfbddhonaaAb28
namespace Go.Ab
set_option linter.unusedSimpArgs false
set_option linter.unusedVariables false

/-! ### values renamed -/
mutual
def renO (τ : Nat → Option Nat) : AV → Option AV
  | .ptr n z i f => (τ n).map fun k => .ptr k z i f
  | .slice n z i len cap opn alt => (τ n).map fun k => .slice k z i len cap opn alt
  | .map n => (τ n).map .map
  | .func f cs => (renOL τ cs).map (.func f)
  | .iface t v => (renO τ v).map (.iface t)
  | .agg cs => (renOL τ cs).map .agg
  | .tuple vs => (renOL τ vs).map .tuple
  | .sym v => (renO τ v).map .sym
  | .bool b => some (.bool b)
  | .int k n => some (.int k n)
  | .str s => some (.str s)
  | .nilptr => some .nilptr
  | .nilslice => some .nilslice
  | .nilmap => some .nilmap
  | .nilfunc => some .nilfunc
  | .niliface => some .niliface
def renOL (τ : Nat → Option Nat) : List AV → Option (List AV)
  | [] => some []
  | v :: vs => match renO τ v, renOL τ vs with
    | some a, some l => some (a :: l)
    | _, _ => none
end
mutual
theorem renO_cn {μ : Mu} {τ : Nat → Option Nat} : ∀ (v u : AV), renO τ v = some u → cn (Mu.back μ τ) v = cn μ u
  | .ptr n z i f, u, h | .slice n z i _ _ _ _, u, h | .map n, u, h => by
    simp only [renO, Option.map_eq_some_iff] at h
    obtain ⟨k, hk, rfl⟩ := h
    simp only [cn, Mu.back, hk, Option.bind_some]
  | .func f cs, u, h | .agg cs, u, h | .tuple cs, u, h => by
    simp only [renO, Option.map_eq_some_iff] at h
    obtain ⟨k, hk, rfl⟩ := h
    simp only [cn, renOL_cn cs k hk]
  | .iface t v, u, h => by
    simp only [renO, Option.map_eq_some_iff] at h
    obtain ⟨k, hk, rfl⟩ := h
    simp only [cn, renO_cn v k hk]
  | .sym v, u, h => by
    simp only [renO, Option.map_eq_some_iff] at h
    obtain ⟨k, hk, rfl⟩ := h
    simp only [cn, renO_cn v k hk]
  | .bool _, u, h | .int _ _, u, h | .str _, u, h | .nilptr, u, h | .nilslice, u, h | .nilmap, u, h | .nilfunc, u, h | .niliface, u, h => by
    simp only [renO, Option.some.injEq] at h
    subst h
    rfl
theorem renOL_cn {μ : Mu} {τ : Nat → Option Nat} : ∀ (vs us : List AV), renOL τ vs = some us → cnL (Mu.back μ τ) vs = cnL μ us
  | [], us, h => by simp only [renOL, Option.some.injEq] at h; subst h; rfl
  | v :: vs, us, h => by
    simp only [renOL] at h
    split at h
    · rename_i a l h1 h2
      simp only [Option.some.injEq] at h
      subst h
      simp only [cnL, renO_cn v a h1, renOL_cn vs l h2]
    · cases h
end
mutual
theorem cn_norm' (μ : Mu) : ∀ v : AV, cn μ (norm v) = cn μ v
  | .sym v => by simp only [norm, cn]; exact cn_norm' μ v
  | .func f cs => by simp only [norm, cn, cnL_norm' μ cs]
  | .iface t v => by simp only [norm, cn, cn_norm' μ v]
  | .agg cs => by simp only [norm, cn, cnL_norm' μ cs]
  | .tuple cs => by simp only [norm, cn, cnL_norm' μ cs]
  | .bool _ | .int _ _ | .str _ | .nilptr | .ptr .. | .nilslice | .slice .. | .nilmap | .map _ | .nilfunc | .niliface => rfl
theorem cnL_norm' (μ : Mu) : ∀ vs : List AV, cnL μ (normL vs) = cnL μ vs
  | [] => rfl
  | v :: vs => by simp only [normL, cnL, cn_norm' μ v, cnL_norm' μ vs]
end
mutual
theorem flat_renO {τ : Nat → Option Nat} : ∀ v : AV, v.flat = true → renO τ v = some v
  | .ptr .., h | .slice .., h | .map _, h => by cases h
  | .func f cs, h => by simp only [renO, flat_renOL cs h, Option.map_some]
  | .agg cs, h => by simp only [renO, flat_renOL cs h, Option.map_some]
  | .tuple cs, h => by simp only [renO, flat_renOL cs h, Option.map_some]
  | .iface t v, h => by simp only [renO, flat_renO v h, Option.map_some]
  | .sym v, h => by simp only [renO, flat_renO v h, Option.map_some]
  | .bool _, _ | .int _ _, _ | .str _, _ | .nilptr, _ | .nilslice, _ | .nilmap, _ | .nilfunc, _ | .niliface, _ => rfl
theorem flat_renOL {τ : Nat → Option Nat} : ∀ vs : List AV, AV.flatL vs = true → renOL τ vs = some vs
  | [], _ => rfl
  | v :: vs, h => by
    simp only [AV.flatL, Bool.and_eq_true] at h
    simp only [renOL, flat_renO v h.1, flat_renOL vs h.2]
end
mutual
theorem flat_norm : ∀ v : AV, (norm v).flat = v.flat
  | .func f cs => by simp only [norm, AV.flat, flatL_norm cs]
  | .agg cs => by simp only [norm, AV.flat, flatL_norm cs]
  | .tuple cs => by simp only [norm, AV.flat, flatL_norm cs]
  | .iface t v => by simp only [norm, AV.flat, flat_norm v]
  | .sym v => by simp only [norm, AV.flat]; exact flat_norm v
  | .bool _ | .int _ _ | .str _ | .nilptr | .ptr .. | .nilslice | .slice .. | .nilmap | .map _ | .nilfunc | .niliface => rfl
theorem flatL_norm : ∀ vs : List AV, AV.flatL (normL vs) = AV.flatL vs
  | [] => rfl
  | v :: vs => by simp only [normL, AV.flatL, flat_norm v, flatL_norm vs]
end

/-- A value v, named anew: v' says no more. -/
def leV (τ : Nat → Option Nat) (v v' : AV) : Prop := renO τ (norm v') = some (norm v)
theorem leV.cn {τ : Nat → Option Nat} {v v' : AV} (h : leV τ v v') {μ : Mu} {x : Value} (hx : Go.Ab.cn μ v = some x) : Go.Ab.cn (Mu.back μ τ) v' = some x := by
  rw [← cn_norm', renO_cn _ _ h, cn_norm']; exact hx
def leL (τ : Nat → Option Nat) (vs vs' : List AV) : Prop := renOL τ (normL vs') = some (normL vs)
theorem leL.cn {τ : Nat → Option Nat} {vs vs' : List AV} (h : leL τ vs vs') {μ : Mu} {x : List Value} (hx : cnL μ vs = some x) : cnL (Mu.back μ τ) vs' = some x := by
  rw [← cnL_norm', renOL_cn _ _ h, cnL_norm']; exact hx
theorem renOL_length {τ : Nat → Option Nat} : ∀ {vs us : List AV}, renOL τ vs = some us → us.length = vs.length
  | [], us, h => by simp only [renOL, Option.some.injEq] at h; subst h; rfl
  | v :: vs, us, h => by
    simp only [renOL] at h
    split at h
    · rename_i a l h1 h2
      simp only [Option.some.injEq] at h
      subst h
      simp [renOL_length h2]
    · cases h
theorem renOL_get {τ : Nat → Option Nat} : ∀ {vs us : List AV}, renOL τ vs = some us → ∀ (i : Nat) (v : AV), vs[i]? = some v → ∃ u, us[i]? = some u ∧ renO τ v = some u
  | [], us, h, i, v, hi => by simp at hi
  | v0 :: vs, us, h, i, v, hi => by
    simp only [renOL] at h
    split at h
    · rename_i a l h1 h2
      simp only [Option.some.injEq] at h
      subst h
      cases i with
      | zero => simp only [List.getElem?_cons_zero, Option.some.injEq] at hi ⊢; subst hi; exact ⟨a, rfl, h1⟩
      | succ i => simp only [List.getElem?_cons_succ] at hi ⊢; exact renOL_get h2 i v hi
    · cases h
theorem isCell_norm : ∀ v : AV, (norm v).isCell = v.isCell
  | .sym v => by simp only [norm, AV.isCell]; exact isCell_norm v
  | .func .. | .iface .. | .agg _ | .tuple _ | .bool _ | .int _ _ | .str _ | .nilptr | .ptr .. | .nilslice | .slice .. | .nilmap | .map _ | .nilfunc | .niliface => rfl
theorem isCell_renO {τ : Nat → Option Nat} : ∀ {v u : AV}, renO τ v = some u → u.isCell = v.isCell := by
  intro v
  induction v using AV.rec (motive_2 := fun _ => True) with
  | sym v ih =>
    intro u h
    simp only [renO, Option.map_eq_some_iff] at h
    obtain ⟨k, hk, rfl⟩ := h
    simp only [AV.isCell]; exact ih hk
  | nil => trivial
  | cons => trivial
  | _ =>
    intro u h
    simp only [renO, Option.map_eq_some_iff, Option.some.injEq] at h
    first | (subst h; rfl) | (obtain ⟨k, hk, rfl⟩ := h; rfl)

/-! ### blocks renamed -/
structure RowsLe (τ : Nat → Option Nat) (rows rows' : List (List AV)) : Prop where
  len : rows.length = rows'.length
  at_ : ∀ (i : Nat) (row row' : List AV), rows[i]? = some row → rows'[i]? = some row' → leL τ row row'
theorem RowsLe.flat {τ : Nat → Option Nat} {rows : List (List AV)} (h : ∀ row ∈ rows, AV.flatL row = true) : RowsLe τ rows rows :=
  ⟨rfl, fun i row row' h1 h2 => by
    rw [h1] at h2; cases h2
    exact flat_renOL _ (by rw [flatL_norm]; exact h row (List.mem_of_getElem? h1))⟩
theorem RowsLe.nil {τ : Nat → Option Nat} : RowsLe τ [] [] := ⟨rfl, fun i row row' h => by simp at h⟩
theorem RowsLe.cons {τ : Nat → Option Nat} {row row' : List AV} {rows rows' : List (List AV)} (h : leL τ row row') (k : RowsLe τ rows rows') : RowsLe τ (row :: rows) (row' :: rows') :=
  ⟨by simp [k.len], fun i r r' h1 h2 => by
    cases i with
    | zero => simp only [List.getElem?_cons_zero, Option.some.injEq] at h1 h2; subst h1; subst h2; exact h
    | succ i => simp only [List.getElem?_cons_succ] at h1 h2; exact k.at_ i r r' h1 h2⟩

structure BlkLe (τ : Nat → Option Nat) (b b' : ABlk) : Prop where
  rw : b'.isRw = true → b.isRw = true
  ok : ∀ μ p o, BlkR μ p b o → BlkR (Mu.back μ τ) p b' o
theorem BlkLe.cells {τ : Nat → Option Nat} {r r' : Bool} {z : Nat} {rows rows' : List (List AV)} (hr : r' = true → r = true) (h : RowsLe τ rows rows') : BlkLe τ (.cells r z rows) (.cells r' z rows') := by
  refine ⟨hr, fun μ p o hb => ?_⟩
  cases o <;> first | exact hb.elim | skip
  · rename_i cs h' fz
    obtain ⟨h1, h2, h3⟩ := hb
    refine ⟨fun row' hrow' => ?_, fun i row' f v' hi hf => ?_, fun e => by rw [← h.len]; exact h3 (hr e)⟩
    · obtain ⟨i, hi⟩ := List.getElem?_of_mem hrow'
      have hil : i < rows.length := by rw [h.len]; exact (List.getElem?_eq_some_iff.1 hi).1
      have hi0 : rows[i]? = some rows[i] := List.getElem?_eq_getElem hil
      have hle := h.at_ i _ _ hi0 hi
      obtain ⟨k1, k2⟩ := h1 _ (List.getElem_mem hil)
      have hl : row'.length = rows[i].length := by
        have := renOL_length hle
        simp only [normL_eq, List.length_map] at this
        omega
      refine ⟨by omega, fun v' hv' => ?_⟩
      obtain ⟨f, hf⟩ := List.getElem?_of_mem hv'
      obtain ⟨u, hu, hru⟩ := renOL_get hle f (norm v') (by rw [normL_eq, List.getElem?_map, hf]; rfl)
      rw [normL_eq, List.getElem?_map, Option.map_eq_some_iff] at hu
      obtain ⟨v, hv, rfl⟩ := hu
      have := isCell_renO hru
      rw [isCell_norm, isCell_norm] at this
      rw [← this]
      exact k2 v (List.mem_of_getElem? hv)
    · have hil : i < rows.length := by rw [h.len]; exact (List.getElem?_eq_some_iff.1 hi).1
      have hi0 : rows[i]? = some rows[i] := List.getElem?_eq_getElem hil
      have hle := h.at_ i _ _ hi0 hi
      obtain ⟨u, hu, hru⟩ := renOL_get hle f (norm v') (by rw [normL_eq, List.getElem?_map, hf]; rfl)
      rw [normL_eq, List.getElem?_map, Option.map_eq_some_iff] at hu
      obtain ⟨v, hv, rfl⟩ := hu
      obtain ⟨x, hx, hc⟩ := h2 i _ f v hi0 hv
      exact ⟨x, leV.cn (v := v) (v' := v') hru hx, hc⟩
theorem BlkLe.map {τ : Nat → Option Nat} {es es' : List (AV × AV)} (hl : es.length = es'.length) (h : ∀ (i : Nat) (e e' : AV × AV), es[i]? = some e → es'[i]? = some e' → leV τ e.1 e'.1 ∧ leV τ e.2 e'.2) : BlkLe τ (.map es) (.map es') := by
  refine ⟨fun _ => rfl, fun μ p o hb => ?_⟩
  cases o <;> first | exact hb.elim | skip
  · rename_i ents fz
    obtain ⟨h1, h2⟩ := hb
    refine ⟨by omega, fun i e' hi => ?_⟩
    have hil : i < es.length := by rw [hl]; exact (List.getElem?_eq_some_iff.1 hi).1
    have hi0 : es[i]? = some es[i] := List.getElem?_eq_getElem hil
    obtain ⟨x, hx, hk, hv⟩ := h2 i _ hi0
    obtain ⟨l1, l2⟩ := h i _ _ hi0 hi
    exact ⟨x, hx, l1.cn hk, l2.cn hv⟩
theorem BlkLe.mapFlat {τ : Nat → Option Nat} {es : List (AV × AV)} (h : ∀ e ∈ es, e.1.flat = true ∧ e.2.flat = true) : BlkLe τ (.map es) (.map es) :=
  BlkLe.map rfl fun i e e' h1 h2 => by
    rw [h1] at h2; cases h2
    obtain ⟨k1, k2⟩ := h e (List.mem_of_getElem? h1)
    exact ⟨flat_renO _ (by rw [flat_norm]; exact k1), flat_renO _ (by rw [flat_norm]; exact k2)⟩
theorem BlkLe.flat {τ : Nat → Option Nat} {r r' : Bool} {z : Nat} {rows : List (List AV)} (hr : r' = true → r = true) (h : ∀ row ∈ rows, AV.flatL row = true) : BlkLe τ (.cells r z rows) (.cells r' z rows) := BlkLe.cells hr (RowsLe.flat h)

/-! ### memories by lists -/
def mkL : Nat → List (Option ABlk) → List (Nat × Option ABlk)
  | _, [] => []
  | n, b :: r => (n, b) :: mkL (n + 1) r
def memB (bs : List (Option ABlk)) (log : List Nat) : Mem := ⟨.leaf (mkL 0 bs), log⟩
theorem getL_mkL : ∀ (bs : List (Option ABlk)) (k n : Nat), getL (mkL k bs) n = if k ≤ n then (bs[n - k]?).join else none
  | [], k, n => by simp [mkL, getL]
  | b :: r, k, n => by
    simp only [mkL, getL]
    cases h : n.beq k with
    | true => have : n = k := Nat.eq_of_beq_eq_true h
              subst this; simp
    | false =>
      have hne : n ≠ k := fun e => by simp [e] at h
      simp only [cond_false, getL_mkL r (k + 1) n]
      by_cases hk : k ≤ n
      · rw [if_pos hk, if_pos (by omega)]
        have : n - k = (n - (k + 1)) + 1 := by omega
        rw [this, List.getElem?_cons_succ]
      · rw [if_neg hk, if_neg (by omega)]
theorem memB_get (bs : List (Option ABlk)) (log : List Nat) (n : Nat) : (memB bs log).get n = (bs[n]?).join := by
  change getL (mkL 0 bs) n = _
  rw [getL_mkL]; simp

def blksLe (τ : Nat → Option Nat) (get : Nat → Option ABlk) : Nat → List (Option ABlk) → Prop
  | _, [] => True
  | n, none :: r => blksLe τ get (n + 1) r
  | n, some b' :: r => (match τ n with
    | some k => match get k with
      | some b => BlkLe τ b b'
      | none => False
    | none => False) ∧ blksLe τ get (n + 1) r
theorem blksLe_at {τ : Nat → Option Nat} {get : Nat → Option ABlk} : ∀ (bs : List (Option ABlk)) (k : Nat), blksLe τ get k bs → ∀ (i : Nat) (b' : ABlk), (bs[i]?).join = some b' → ∃ n b, τ (k + i) = some n ∧ get n = some b ∧ BlkLe τ b b'
  | [], _, _, i, b', h => by simp at h
  | ob :: r, k, hb, i, b', h => by
    cases i with
    | zero =>
      simp only [List.getElem?_cons_zero, Option.join_some] at h
      subst h
      simp only [blksLe] at hb
      obtain ⟨hb, _⟩ := hb
      split at hb
      · rename_i n hn
        split at hb
        · rename_i b hg; exact ⟨n, b, hn, hg, hb⟩
        · exact hb.elim
      · exact hb.elim
    | succ i =>
      simp only [List.getElem?_cons_succ] at h
      have hr : blksLe τ get (k + 1) r := by
        cases ob with
        | none => simpa only [blksLe] using hb
        | some b => simp only [blksLe] at hb; exact hb.2
      have := blksLe_at r (k + 1) hr i b' h
      rwa [show k + 1 + i = k + (i + 1) by omega] at this
def slLe (τ : Nat → Option Nat) : List (Option AV) → List (Option AV) → Prop
  | _, [] => True
  | _ :: sl, none :: sl' => slLe τ sl sl'
  | some v :: sl, some v' :: sl' => leV τ v v' ∧ slLe τ sl sl'
  | _, _ => False
theorem slLe_at {τ : Nat → Option Nat} : ∀ (sl sl' : List (Option AV)), slLe τ sl sl' → sl'.length ≤ sl.length ∧ ∀ (t : Nat) (v' : AV), sl'.getD t none = some v' → ∃ v, sl.getD t none = some v ∧ leV τ v v'
  | sl, [], _ => ⟨by simp, fun t v' h => by simp at h⟩
  | [], o :: _, h => by cases o <;> simp [slLe] at h
  | o :: sl, none :: sl', h => by
    have h' : slLe τ sl sl' := by cases o <;> simpa only [slLe] using h
    obtain ⟨h1, h2⟩ := slLe_at sl sl' h'
    refine ⟨by simp; omega, fun t v' ht => ?_⟩
    cases t with
    | zero => simp at ht
    | succ t => simp only [List.getD_cons_succ] at ht ⊢; exact h2 t v' ht
  | none :: sl, some v' :: sl', h => by simp [slLe] at h
  | some v :: sl, some v' :: sl', h => by
    simp only [slLe] at h
    obtain ⟨h1, h2⟩ := slLe_at sl sl' h.2
    refine ⟨by simp; omega, fun t u ht => ?_⟩
    cases t with
    | zero => simp only [List.getD_cons_zero, Option.some.injEq] at ht ⊢; subst ht; exact ⟨v, rfl, h.1⟩
    | succ t => simp only [List.getD_cons_succ] at ht ⊢; exact h2 t u ht

/-- The names of a head's memory: the low ones stay, the others stand in ts. -/
def tau (lo : Nat) (ts : List Nat) (n : Nat) : Option Nat := if n < lo then some n else ts[n - lo]?
theorem Ren.mk' {lo : Nat} (ts : List Nat) {bs : List (Option ABlk)} {sl sl' : List (Option AV)} {log' : List Nat} {m : Mem} {c : Nat} (hlen : bs.length ≤ lo + ts.length) (hsl : slLe (tau lo ts) sl sl') (hb : blksLe (tau lo ts) m.get 0 bs)
    (hts : ts.Nodup ∧ ∀ t ∈ ts, lo ≤ t) (hlog : ∀ n, n < lo → n ∈ m.log → n ∈ log') (hk : ∀ n, n < lo → n ∉ log' → (memB bs log').get n = m.get n) :
    Ren lo (tau lo ts) ⟨sl, m, c⟩ ⟨sl', memB bs log', lo + ts.length⟩ := by
  have hlow : ∀ n, n < lo → tau lo ts n = some n := fun n hn => by simp [tau, hn]
  obtain ⟨h1, h2⟩ := slLe_at _ _ hsl
  refine ⟨Nat.le_add_right _ _, hlow, fun n hn => ?_, h1, fun t v' ht => ?_, fun n b' hn => ?_, fun n n' b b' n0 hn hn' hne e1 e2 => ?_, hlog, hk⟩
  · dsimp only at hn
    simp only [tau]
    rw [if_neg (by omega), List.getElem?_eq_none]
    omega
  · obtain ⟨v, hv, hle⟩ := h2 t v' ht
    exact ⟨v, hv, fun μ u hu => hle.cn hu⟩
  · rw [memB_get] at hn
    obtain ⟨k, b, k1, k2, k3⟩ := blksLe_at bs 0 hb n b' hn
    rw [Nat.zero_add] at k1
    exact ⟨k, b, k1, k2, k3.rw, k3.ok⟩
  · simp only [tau] at e1 e2
    split at e1
    · cases e1
      split at e2
      · cases e2; exact hne rfl
      · have := hts.2 _ (List.mem_of_getElem? e2); omega
    · split at e2
      · cases e2
        have := hts.2 _ (List.mem_of_getElem? e1); omega
      · obtain ⟨l1, e1⟩ := List.getElem?_eq_some_iff.1 e1
        obtain ⟨l2, e2⟩ := List.getElem?_eq_some_iff.1 e2
        rcases Nat.lt_trichotomy (n - lo) (n' - lo) with h | h | h
        · exact (List.pairwise_iff_getElem.1 hts.1 _ _ l1 l2 h) (e1.trans e2.symm)
        · omega
        · exact (List.pairwise_iff_getElem.1 hts.1 _ _ l2 l1 h) (e2.trans e1.symm)

section
variable {P : Program}
/-- A loop with an invariant: heads by a parameter, a measure that falls. -/
theorem LoopS.inv {α : Type} {lo : Nat} {x : Code} {K : Out → St → Prop} (head : α → St) (I : α → Prop) (ms : α → Nat)
    (h : ∀ a, I a → SafeC P lo x (head a) fun o s' => match o with
      | .normal => ∃ a', I a' ∧ ms a' < ms a ∧ ∃ τ, Ren lo τ s' (head a')
      | o => K o s') : ∀ a, I a → LoopS P lo x (head a) K := by
  have key : ∀ n a, ms a < n → I a → LoopS P lo x (head a) K := by
    intro n
    induction n with
    | zero => intro a ha; omega
    | succ n ih =>
      intro a ha hI
      refine LoopS.step ((h a hI).mono fun o s' hk => ?_)
      cases o with
      | normal =>
        obtain ⟨a', hI', hlt, τ, hren⟩ := hk
        exact LoopS.ren hren (ih a' (by omega) hI')
      | exit id => exact hk
      | ret => exact hk
  exact fun a hI => key (ms a + 1) a (by omega) hI

/-! ### a call's end renamed -/
theorem CallS.post {f : FuncId} {vs : List AV} {m : Mem} {c : Nat} {R R' : AV → Mem → Nat → Prop} (hm : m.log = []) (h : CallS P f vs m c R)
    (hr : ∀ v m' c', R v m' c' → ∃ τ v2 m2 c2, Ren c τ ⟨[some v], m', c'⟩ ⟨[some v2], m2, c2⟩ ∧ R' v2 m2 c2) : CallS P f vs m c R' := by
  refine ⟨fun μ w args h1 h2 h3 => (h.ok μ w args h1 h2 h3).mono ?_⟩
  rintro val w' ⟨v, m', c', μ', k1, k2, ha⟩
  obtain ⟨τ, v2, m2, c2, hR, k3⟩ := hr v m' c' k1
  have hg := Ren.goes hR (μ := μ') (w := w') (GoesW.refl hR.c)
  obtain ⟨u, hu, hcu⟩ := hR.sl 0 v2 rfl
  have hu' : v = u := by simpa using hu
  subst hu'
  have hs2 : StR μ' ⟨[some v], m', c'⟩ (fun _ => False) ⟨#[val], []⟩ w' := ⟨⟨by simp, fun t x hx => by
    cases t with
    | zero =>
      have : v = x := by simpa using hx
      subst this
      simpa using k2
    | succ t => simp at hx⟩, ha.sim, ha.fresh, fun _ h => h.elim⟩
  have hs3 := Ren.str hR hs2
  obtain ⟨δ, hd, hk⟩ := ha.log
  refine ⟨v2, m2, c2, Mu.back μ' τ, k3, hcu μ' val k2, fun n p hp => ?_, fun n hn _ => ?_, hs3.fresh, hR.c, hs3.sim, ha.step.trans hg.step, m2.log, by rw [hm, List.append_nil], fun n hn _ hl => ?_⟩
  · have hn : n < c := by
      rcases Nat.lt_or_ge n c with h | h
      · exact h
      · rw [h3 n h] at hp; cases hp
    rw [Mu.back, hR.low n hn]
    exact ha.le n p hp
  · rw [Mu.back, hR.low n hn]
    exact ha.same n hn (by simp)
  · rw [hR.kept n hn hl]
    refine hk n hn (by simp) fun hin => hl (hR.logs n hn ?_)
    rw [hd]; simp [hin]

end

end Go.Ab
