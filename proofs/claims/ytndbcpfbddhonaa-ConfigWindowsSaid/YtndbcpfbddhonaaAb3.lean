/- What abstract values and memory stand for in a world; first lemmas. -/
import Derived.Test.YtndbcpfbddhonaaAb2
import Derived.Laws.Cells
import Derived.Laws.IdiomCopy
import Derived.Laws.AppendOwn
namespace Go.Ab

abbrev Mu := Nat → Option Pl
def Le (μ μ' : Mu) : Prop := ∀ n p, μ n = some p → μ' n = some p
theorem Le.refl (μ : Mu) : Le μ μ := fun _ _ h => h
theorem Le.trans {a b c : Mu} (h : Le a b) (k : Le b c) : Le a c := fun n p e => k n p (h n p e)
def Mu.upd (μ : Mu) (n : Nat) (p : Pl) : Mu := fun k => if k = n then some p else μ k
theorem Mu.le_upd {μ : Mu} {n : Nat} {p : Pl} (h : μ n = none) : Le μ (μ.upd n p) := by
  intro k q hk
  unfold Mu.upd
  split
  · rename_i e; subst e; rw [h] at hk; cases hk
  · exact hk
theorem Mu.upd_same (μ : Mu) (n : Nat) (p : Pl) : μ.upd n p n = some p := by simp [Mu.upd]
theorem Mu.upd_ne (μ : Mu) {n k : Nat} (p : Pl) (h : k ≠ n) : μ.upd n p k = μ k := by simp [Mu.upd, h]

mutual
theorem cn_le {μ μ' : Mu} (h : Le μ μ') : ∀ (a : AV) (v : Value), cn μ a = some v → cn μ' a = some v
  | .bool _, _, e | .int _ _, _, e | .str _, _, e | .nilptr, _, e | .nilslice, _, e | .nilmap, _, e | .nilfunc, _, e | .niliface, _, e => by simpa [cn] using e
  | .ptr n _ _ _, v, e | .slice n _ _ _ _ _ _, v, e | .map n, v, e => by
    simp only [cn, Option.map_eq_some_iff] at e ⊢
    obtain ⟨p, hp, e⟩ := e
    exact ⟨p, h _ _ hp, e⟩
  | .func f cs, v, e | .agg cs, v, e | .tuple cs, v, e => by
    simp only [cn, Option.map_eq_some_iff] at e ⊢
    obtain ⟨l, hl, e⟩ := e
    exact ⟨l, cnL_le h cs l hl, e⟩
  | .iface t a, v, e => by
    simp only [cn, Option.map_eq_some_iff] at e ⊢
    obtain ⟨l, hl, e⟩ := e
    exact ⟨l, cn_le h a l hl, e⟩
  | .sym a, v, e => by
    simp only [cn] at e ⊢
    exact cn_le h a v e
theorem cnL_le {μ μ' : Mu} (h : Le μ μ') : ∀ (as : List AV) (l : List Value), cnL μ as = some l → cnL μ' as = some l
  | [], _, e => by simpa [cnL] using e
  | a :: as, l, e => by
    simp only [cnL] at e ⊢
    split at e
    · rename_i u us hu hus
      rw [cn_le h a u hu, cnL_le h as us hus]
      exact e
    · cases e
end

theorem cnL_nil {μ : Mu} {l : List Value} (h : cnL μ [] = some l) : l = [] := by simpa [cnL] using h.symm
theorem cnL_cons {μ : Mu} {a : AV} {as : List AV} {l : List Value} (h : cnL μ (a :: as) = some l) : ∃ u us, l = u :: us ∧ cn μ a = some u ∧ cnL μ as = some us := by
  simp only [cnL] at h
  split at h
  · rename_i u us hu hus; exact ⟨u, us, by simpa using h.symm, hu, hus⟩
  · cases h
theorem cnL_mk {μ : Mu} {a : AV} {as : List AV} {u : Value} {us : List Value} (h : cn μ a = some u) (h' : cnL μ as = some us) : cnL μ (a :: as) = some (u :: us) := by simp [cnL, h, h']
theorem cnL_length {μ : Mu} : ∀ {as : List AV} {l : List Value}, cnL μ as = some l → l.length = as.length
  | [], _, h => by rw [cnL_nil h]; rfl
  | _ :: as, _, h => by obtain ⟨u, us, rfl, _, h'⟩ := cnL_cons h; simp [cnL_length h']
theorem cnL_get {μ : Mu} : ∀ {as : List AV} {l : List Value}, cnL μ as = some l → ∀ (i : Nat) (a : AV), as[i]? = some a → ∃ u, cn μ a = some u ∧ l[i]? = some u
  | [], _, _, i, a, e => by simp at e
  | _ :: as, _, h, i, a, e => by
    obtain ⟨u, us, rfl, hu, h'⟩ := cnL_cons h
    cases i with
    | zero => simp at e; subst e; exact ⟨u, hu, by simp⟩
    | succ i => simp at e; obtain ⟨x, hx, hx'⟩ := cnL_get h' i a e; exact ⟨x, hx, by simpa using hx'⟩
theorem cnL_get' {μ : Mu} {as : List AV} {l : List Value} (h : cnL μ as = some l) (i : Nat) (u : Value) (hu : l[i]? = some u) : ∃ a, as[i]? = some a ∧ cn μ a = some u := by
  have hi : i < as.length := by rw [← cnL_length h]; exact (List.getElem?_eq_some_iff.1 hu).1
  obtain ⟨x, hx, hx'⟩ := cnL_get h i as[i] (List.getElem?_eq_getElem hi)
  exact ⟨as[i], List.getElem?_eq_getElem hi, by rw [hx] ; rw [hx'] at hu; exact hu⟩
theorem cnL_of {μ : Mu} : ∀ {as : List AV} {l : List Value}, l.length = as.length → (∀ (i : Nat) (a : AV), as[i]? = some a → ∃ u, cn μ a = some u ∧ l[i]? = some u) → cnL μ as = some l
  | [], l, hl, _ => by simp at hl; subst hl; rfl
  | a :: as, l, hl, h => by
    cases l with
    | nil => simp at hl
    | cons u us =>
      obtain ⟨x, hx, hx'⟩ := h 0 a rfl
      simp at hx'; subst hx'
      exact cnL_mk hx (cnL_of (by simpa using hl) fun i b hb => by simpa using h (i + 1) b (by simpa using hb))
theorem cnL_take {μ : Mu} {as : List AV} {l : List Value} (h : cnL μ as = some l) (k : Nat) : cnL μ (as.take k) = some (l.take k) := by
  refine cnL_of (by simp [cnL_length h]) fun i a hi => ?_
  rw [List.getElem?_take] at hi
  split at hi
  · obtain ⟨u, hu, hu'⟩ := cnL_get h i a hi; exact ⟨u, hu, by rw [List.getElem?_take, if_pos ‹_›]; exact hu'⟩
  · cases hi
theorem cnL_drop {μ : Mu} {as : List AV} {l : List Value} (h : cnL μ as = some l) (k : Nat) : cnL μ (as.drop k) = some (l.drop k) := by
  refine cnL_of (by simp [cnL_length h]) fun i a hi => ?_
  rw [List.getElem?_drop] at hi
  obtain ⟨u, hu, hu'⟩ := cnL_get h _ a hi
  exact ⟨u, hu, by rw [List.getElem?_drop]; exact hu'⟩
theorem cnL_append {μ : Mu} {as bs : List AV} {l k : List Value} (h : cnL μ as = some l) (h' : cnL μ bs = some k) : cnL μ (as ++ bs) = some (l ++ k) := by
  induction as generalizing l with
  | nil => rw [cnL_nil h]; simpa using h'
  | cons a as ih => obtain ⟨u, us, rfl, hu, hus⟩ := cnL_cons h; exact cnL_mk hu (ih hus)
theorem cnL_set {μ : Mu} {as : List AV} {l : List Value} (h : cnL μ as = some l) (k : Nat) {a : AV} {u : Value} (hu : cn μ a = some u) : cnL μ (as.set k a) = some (l.set k u) := by
  refine cnL_of (by simp [cnL_length h]) fun i b hi => ?_
  have hl := cnL_length h
  rw [List.getElem?_set] at hi ⊢
  by_cases e : k = i
  · subst e
    simp only [if_true] at hi ⊢
    split at hi
    · simp at hi; subst hi; exact ⟨u, hu, by rw [if_pos (by omega)]⟩
    · cases hi
  · simp only [e, if_false] at hi ⊢; exact cnL_get h i b hi
theorem cnL_replicate {μ : Mu} {a : AV} {u : Value} (hu : cn μ a = some u) : ∀ n, cnL μ (List.replicate n a) = some (List.replicate n u)
  | 0 => rfl
  | n + 1 => by rw [List.replicate_succ, List.replicate_succ]; exact cnL_mk hu (cnL_replicate hu n)
theorem cnL_flat {μ : Mu} {as : List AV} {l : List Value} (h : cnL μ as = some l) : ∀ n, cnL μ (List.replicate n as).flatten = some (List.replicate n l).flatten
  | 0 => rfl
  | n + 1 => by rw [List.replicate_succ, List.replicate_succ, List.flatten_cons, List.flatten_cons]; exact cnL_append h (cnL_flat h n)

theorem absS_cn {μ : Mu} {v : Value} {a : AV} (h : absS v = some a) : cn μ a = some v := by
  unfold absS at h
  split at h <;> first | (cases h; simp [cn]) | cases h
theorem absSL_cn {μ : Mu} : ∀ {vs : List Value} {as : List AV}, absSL vs = some as → cnL μ as = some vs
  | [], _, h => by simp [absSL] at h; subst h; rfl
  | v :: vs, as, h => by
    simp only [absSL] at h
    split at h
    · rename_i a l ha hl; cases h; exact cnL_mk (absS_cn ha) (absSL_cn hl)
    · cases h
theorem absV_cn {μ : Mu} {v : Value} {a : AV} (h : absV v = some a) : cn μ a = some v := by
  unfold absV at h
  split at h
  · simp only [Option.map_eq_some_iff] at h; obtain ⟨l, hl, rfl⟩ := h; simp [cn, absSL_cn hl]
  · simp only [Option.map_eq_some_iff] at h; obtain ⟨l, hl, rfl⟩ := h; simp [cn, absSL_cn hl]
  · exact absS_cn h

theorem isCell_cn {μ : Mu} {a : AV} {v : Value} (h : cn μ a = some v) (hc : a.isCell = true) : v.oneCell' = true := by
  match a with
  | .sym b => exact isCell_cn (a := b) h hc
  | .agg cs => simp [AV.isCell] at hc
  | .tuple cs => simp [AV.isCell] at hc
  | .func f cs | .ptr .. | .slice .. | .map .. | .iface .. => simp only [cn, Option.map_eq_some_iff] at h; obtain ⟨p, hp, rfl⟩ := h; rfl
  | .bool _ | .int _ _ | .str _ | .nilptr | .nilslice | .nilmap | .nilfunc | .niliface => simp only [cn, Option.some.injEq] at h; subst h; rfl
theorem oneCell_cells {v : Value} (h : v.oneCell' = true) : v.cells.toList = [v] := by
  cases v <;> first | rfl | cases h
theorem cells_cn {μ : Mu} {a : AV} {v : Value} (h : cn μ a = some v) : cnL μ a.cells = some v.cells.toList := by
  have k : cnL μ [a] = some [v] := cnL_mk h rfl
  cases a with
  | sym b =>
    simp only [AV.cells]
    cases hb : b.isCell with
    | true => rw [oneCell_cells (isCell_cn (a := b) h hb)]; exact k
    | false => exact cells_cn (a := b) h
  | agg cs => simp only [cn, Option.map_eq_some_iff] at h; obtain ⟨p, hp, rfl⟩ := h; exact hp
  | tuple cs => simp only [cn, Option.map_eq_some_iff] at h; obtain ⟨p, hp, rfl⟩ := h; exact k
  | func f cs => simp only [cn, Option.map_eq_some_iff] at h; obtain ⟨p, hp, rfl⟩ := h; exact k
  | ptr => simp only [cn, Option.map_eq_some_iff] at h; obtain ⟨p, hp, rfl⟩ := h; exact k
  | slice => simp only [cn, Option.map_eq_some_iff] at h; obtain ⟨p, hp, rfl⟩ := h; exact k
  | map => simp only [cn, Option.map_eq_some_iff] at h; obtain ⟨p, hp, rfl⟩ := h; exact k
  | iface => simp only [cn, Option.map_eq_some_iff] at h; obtain ⟨p, hp, rfl⟩ := h; exact k
  | _ => simp only [cn, Option.some.injEq] at h; subst h; exact k

/-! ### blocks -/
def BlkR (μ : Mu) (p : Pl) : ABlk → Obj → Prop
  | .cells rw z rows, .cells cs _ fz =>
    (∀ row ∈ rows, row.length = z ∧ ∀ v ∈ row, v.isCell = true) ∧
    (∀ (i : Nat) (row : List AV) (f : Nat) (v : AV), rows[i]? = some row → row[f]? = some v → ∃ u : Value, cn μ v = some u ∧ cs[p.shift + i * z + f]? = some u) ∧
    (rw = true → cs.size = p.shift + (rows.length + p.extra) * z ∧ ∀ off, off < cs.size → fz.1 = fz.2 ∨ off < fz.1)
  | .map es, .map ents _ => es.length = ents.size ∧ ∀ (i : Nat) (e : AV × AV), es[i]? = some e → ∃ x : MapEntry, ents[i]? = some x ∧ cn μ e.1 = some x.key ∧ cn μ e.2 = some x.val
  | _, _ => False
theorem BlkR.le {μ μ' : Mu} (h : Le μ μ') {p : Pl} {b : ABlk} {o : Obj} (hb : BlkR μ p b o) : BlkR μ' p b o := by
  cases b <;> cases o <;> first | exact hb.elim | skip
  · obtain ⟨h1, h2, h3⟩ := hb
    exact ⟨h1, fun i row f v hi hf => let ⟨u, hu, hc⟩ := h2 i row f v hi hf; ⟨u, cn_le h _ _ hu, hc⟩, h3⟩
  · obtain ⟨h1, h2⟩ := hb
    exact ⟨h1, fun i e hi => let ⟨x, hx, hk, hv⟩ := h2 i e hi; ⟨x, hx, cn_le h _ _ hk, cn_le h _ _ hv⟩⟩

abbrev tabs : List (Nat × (Obj → Prop)) := []
/-- The tables of the program lie in the world; nothing that may be written lies over them. -/
structure GI (μ : Mu) (get : Nat → Option ABlk) (w : World) : Prop where
  ok : ∀ g q, (g, q) ∈ tabs → (∃ o, w.heap[g]? = some o ∧ q o) ∧ ∀ n b p, get n = some b → b.isRw = true → μ n = some p → p.blk ≠ g
structure Sim0 (μ : Mu) (get : Nat → Option ABlk) (w : World) : Prop where
  blk : ∀ n b, get n = some b → ∃ p o, μ n = some p ∧ w.heap[p.blk]? = some o ∧ BlkR μ p b o
  apart : ∀ n n' b b' p p', get n = some b → get n' = some b' → b.isRw = true → n ≠ n' → μ n = some p → μ n' = some p' → p.blk ≠ p'.blk
structure Sim (μ : Mu) (get : Nat → Option ABlk) (w : World) : Prop extends Sim0 μ get w where
  glob : GI μ get w

/-- What one step may do to a world: old blocks that no written block lies in stay; written blocks lie where written blocks lay, or are new. -/
structure Step (μ : Mu) (get : Nat → Option ABlk) (w : World) (μ' : Mu) (get' : Nat → Option ABlk) (w' : World) : Prop where
  os : w'.os = w.os
  tape : w'.tape = w.tape
  output : w'.output = w.output
  size : w.heap.size ≤ w'.heap.size
  keep : ∀ k, k < w.heap.size → (∀ n b p, get n = some b → b.isRw = true → μ n = some p → p.blk ≠ k) → w'.heap[k]? = w.heap[k]?
  img : ∀ n b p, get' n = some b → μ' n = some p → w.heap.size ≤ p.blk ∨ ∃ n0 b0 p0, get n0 = some b0 ∧ (b.isRw = true → b0.isRw = true) ∧ μ n0 = some p0 ∧ p0.blk = p.blk

theorem GI.step {μ μ' : Mu} {g g' : Nat → Option ABlk} {w w' : World} (h : GI μ g w) (s : Step μ g w μ' g' w') : GI μ' g' w' := ⟨fun k q hq => by
  obtain ⟨⟨o, ho, hqo⟩, hn⟩ := h.ok k q hq
  have hk : k < w.heap.size := (Array.getElem?_eq_some_iff.1 ho).1
  refine ⟨⟨o, by rw [s.keep k hk hn]; exact ho, hqo⟩, fun n b p hg hr hp e => ?_⟩
  rcases s.img n b p hg hp with h1 | ⟨n0, b0, p0, h1, h2, h3, h4⟩
  · omega
  · exact hn n0 b0 p0 h1 (h2 hr) h3 (h4.trans e)⟩
theorem GI.map {μ μ' : Mu} {g g' : Nat → Option ABlk} {w : World} (h : GI μ g w) (s : ∀ n b p, g' n = some b → b.isRw = true → μ' n = some p → ∃ n0 b0 p0, g n0 = some b0 ∧ b0.isRw = true ∧ μ n0 = some p0 ∧ p0.blk = p.blk) : GI μ' g' w := ⟨fun k q hq => by
  obtain ⟨h1, hn⟩ := h.ok k q hq
  refine ⟨h1, fun n b p hg hr hp e => ?_⟩
  obtain ⟨n0, b0, p0, h1, h2, h3, h4⟩ := s n b p hg hr hp
  exact hn n0 b0 p0 h1 h2 h3 (h4.trans e)⟩
theorem GI.ro {μ μ' : Mu} {g g' : Nat → Option ABlk} {w : World} (h : GI μ g w) (s : ∀ n b, g' n = some b → b.isRw = false) : GI μ' g' w :=
  h.map fun n b p hg hr _ => by rw [s n b hg] at hr; cases hr
theorem Sim0.up {μ μ' : Mu} {g g' : Nat → Option ABlk} {w w' : World} (hG : GI μ g w) (h : Sim0 μ' g' w' ∧ Step μ g w μ' g' w') : Sim μ' g' w' ∧ Step μ g w μ' g' w' := ⟨⟨h.1, hG.step h.2⟩, h.2⟩

theorem Step.refl (μ : Mu) (get : Nat → Option ABlk) (w : World) : Step μ get w μ get w :=
  ⟨rfl, rfl, rfl, Nat.le_refl _, fun _ _ _ => rfl, fun n b p h hp => .inr ⟨n, b, p, h, id, hp, rfl⟩⟩
theorem Step.trans {μ μ1 μ2 : Mu} {g g1 g2 : Nat → Option ABlk} {w w1 w2 : World} (h : Step μ g w μ1 g1 w1) (k : Step μ1 g1 w1 μ2 g2 w2) : Step μ g w μ2 g2 w2 := by
  refine ⟨k.os.trans h.os, k.tape.trans h.tape, k.output.trans h.output, Nat.le_trans h.size k.size, fun b hb hn => ?_, fun n b p hn hp => ?_⟩
  · rw [k.keep b (Nat.lt_of_lt_of_le hb h.size) ?_, h.keep b hb hn]
    intro n bb p hg hrw hp e
    rcases h.img n bb p hg hp with h1 | ⟨n0, b0, p0, h1, h2, h3, h4⟩
    · omega
    · exact hn n0 b0 p0 h1 (h2 hrw) h3 (h4.trans e)
  · rcases k.img n b p hn hp with h1 | ⟨n0, b0, p0, h1, h2, h3, h4⟩
    · exact .inl (Nat.le_trans h.size h1)
    · rw [← h4]
      rcases h.img n0 b0 p0 h1 h3 with h5 | ⟨n1, b1, p1, h5, h6, h7, h8⟩
      · exact .inl h5
      · exact .inr ⟨n1, b1, p1, h5, fun hr => h6 (h2 hr), h7, h8⟩
theorem Step.below {μ μ' : Mu} {g g' : Nat → Option ABlk} {w w' : World} (h : Step μ g w μ' g' w') (hn : ∀ n b, g n = some b → b.isRw = false) : RowKit.Below w.heap.size w w' :=
  ⟨h.os, h.tape, h.output, h.size, fun k hk => h.keep k hk fun n b p hg hrw => by rw [hn n b hg] at hrw; cases hrw⟩

/-! ### memory's laws -/
theorem getL_putL (l : List (Nat × Option ABlk)) (n : Nat) (v : Option ABlk) (k : Nat) : getL (putL l n v) k = if k = n then v else getL l k := by
  induction l with
  | nil =>
    simp only [putL, getL]
    cases h : k.beq n with
    | true => simp [Nat.eq_of_beq_eq_true h]
    | false =>
      have : k ≠ n := fun e => by simp [e] at h
      simp [this]
  | cons x r ih =>
    obtain ⟨k', u⟩ := x
    simp only [putL]
    cases h : n.beq k' with
    | true =>
      have e : n = k' := Nat.eq_of_beq_eq_true h
      subst e
      simp only [cond_true, getL]
      cases h' : k.beq n with
      | true => simp [Nat.eq_of_beq_eq_true h']
      | false => have : k ≠ n := fun e => by simp [e] at h'
                 simp [this]
    | false =>
      have e : n ≠ k' := fun e => by simp [e] at h
      simp only [cond_false, getL]
      cases h' : k.beq k' with
      | true => have : k = k' := Nat.eq_of_beq_eq_true h'
                subst this; simp; intro e'; exact absurd e'.symm e
      | false => simp [ih]
theorem Tr.get_put (t : Tr) : ∀ (n : Nat) (v : Option ABlk) (k : Nat), (t.put n v).get k = if k = n then v else t.get k := by
  induction t with
  | leaf l => intro n v k; exact getL_putL l n v k
  | node a b iha ihb =>
    intro n v k
    simp only [Tr.put]
    cases h : (n % 2).beq 0 with
    | true =>
      have hn : n % 2 = 0 := Nat.eq_of_beq_eq_true h
      simp only [cond_true, Tr.get]
      cases h' : (k % 2).beq 0 with
      | true =>
        have hk : k % 2 = 0 := Nat.eq_of_beq_eq_true h'
        simp only [cond_true, iha]
        by_cases e : k = n
        · simp [e]
        · rw [if_neg (by omega), if_neg e]
      | false =>
        have hk : k % 2 ≠ 0 := fun e => by simp [e] at h'
        have : k ≠ n := by intro e; omega
        simp [this]
    | false =>
      have hn : n % 2 ≠ 0 := fun e => by simp [e] at h
      simp only [cond_false, Tr.get]
      cases h' : (k % 2).beq 0 with
      | true =>
        have hk : k % 2 = 0 := Nat.eq_of_beq_eq_true h'
        have : k ≠ n := by intro e; omega
        simp [this]
      | false =>
        have hk : k % 2 ≠ 0 := fun e => by simp [e] at h'
        simp only [cond_false, ihb]
        by_cases e : k = n
        · simp [e]
        · rw [if_neg (by omega), if_neg e]
theorem Mem.get_new (m : Mem) (n : Nat) (b : ABlk) (k : Nat) : (m.new n b).get k = if k = n then some b else m.get k := Tr.get_put m.tr n _ k
theorem Mem.get_write (m : Mem) (n : Nat) (b : Option ABlk) (k : Nat) : (m.write n b).get k = if k = n then b else m.get k := Tr.get_put m.tr n _ k
theorem Tr.get_empty : ∀ (d n : Nat), (Tr.empty d).get n = none
  | 0, _ => rfl
  | d + 1, n => by simp only [Tr.empty, Tr.get]; cases (n % 2).beq 0 <;> simp [Tr.get_empty d]

end Go.Ab
