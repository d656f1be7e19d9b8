/- How memory's relation lives on: a new block, a block written, a row that moves; stores. -/
import Derived.Test.YtndbcpfbddhonaaAb10
namespace Go.Ab
set_option linter.unusedSimpArgs false
set_option linter.unusedVariables false

def setBlk (w : World) (b : Nat) (o : Obj) : World := { w with heap := w.heap.setIfInBounds b o }
theorem setBlk_get (w : World) (b : Nat) (o : Obj) (k : Nat) (h : b < w.heap.size) : (setBlk w b o).heap[k]? = if k = b then some o else w.heap[k]? := by
  simp only [setBlk, Array.getElem?_setIfInBounds]
  by_cases e : b = k
  · subst e; simp [h]
  · rw [if_neg e, if_neg (fun h => e h.symm)]
theorem setBlk_size (w : World) (b : Nat) (o : Obj) : (setBlk w b o).heap.size = w.heap.size := by simp [setBlk]
theorem blk_lt {w : World} {b : Nat} {o : Obj} (h : w.heap[b]? = some o) : b < w.heap.size := (Array.getElem?_eq_some_iff.1 h).1

/-- What stands behind an operation or a call (nm: the one name that it may give beside those from c on). -/
structure After (nm : Option Nat) (μ : Mu) (m : Mem) (c : Nat) (w : World) (μ' : Mu) (m' : Mem) (c' : Nat) (w' : World) : Prop where
  le : Le μ μ'
  same : ∀ n, n < c → some n ≠ nm → μ' n = μ n
  fresh : ∀ n, c' ≤ n → μ' n = none
  cle : c ≤ c'
  sim : Sim μ' m'.get w'
  step : Step μ m.get w μ' m'.get w'
  log : ∃ δ, m'.log = δ ++ m.log ∧ ∀ n, n < c → some n ≠ nm → n ∉ δ → m'.get n = m.get n

structure After0 (nm : Option Nat) (μ : Mu) (m : Mem) (c : Nat) (w : World) (μ' : Mu) (m' : Mem) (c' : Nat) (w' : World) : Prop where
  le : Le μ μ'
  same : ∀ n, n < c → some n ≠ nm → μ' n = μ n
  fresh : ∀ n, c' ≤ n → μ' n = none
  cle : c ≤ c'
  sim : Sim0 μ' m'.get w'
  step : Step μ m.get w μ' m'.get w'
  log : ∃ δ, m'.log = δ ++ m.log ∧ ∀ n, n < c → some n ≠ nm → n ∉ δ → m'.get n = m.get n
theorem After0.up {nm : Option Nat} {μ : Mu} {m : Mem} {c : Nat} {w : World} {μ' : Mu} {m' : Mem} {c' : Nat} {w' : World} (hG : GI μ m.get w) (h : After0 nm μ m c w μ' m' c' w') : After nm μ m c w μ' m' c' w' :=
  ⟨h.le, h.same, h.fresh, h.cle, ⟨h.sim, hG.step h.step⟩, h.step, h.log⟩
theorem After.refl {μ : Mu} {m : Mem} {c : Nat} {w : World} (nm : Option Nat) (hS : Sim μ m.get w) (hf : ∀ n, c ≤ n → μ n = none) : After nm μ m c w μ m c w :=
  ⟨Le.refl μ, fun _ _ _ => rfl, hf, Nat.le_refl c, hS, Step.refl _ _ _, [], rfl, fun _ _ _ _ => rfl⟩

section
variable {P : Program} {μ : Mu} {w : World} {nm c : Nat} {m : Mem}

theorem get_some_lt (hS : Sim μ m.get w) (hf : ∀ n, c ≤ n → μ n = none) {n : Nat} {b : ABlk} (h : m.get n = some b) : n < c := by
  obtain ⟨p, o, hp, _⟩ := hS.blk n b h
  apply Classical.byContradiction
  intro hn
  rw [hf n (by omega)] at hp
  cases hp
theorem get_nm (hS : Sim μ m.get w) (hnm : μ nm = none) : m.get nm = none := by
  cases h : m.get nm with
  | none => rfl
  | some b => obtain ⟨p, o, hp, _⟩ := hS.blk nm b h; rw [hnm] at hp; cases hp

/-- A new block. -/
theorem after_new (hS : Sim μ m.get w) (hf : ∀ n, c ≤ n → μ n = none) (hnm : μ nm = none) (hc : nm < c) {b : ABlk} {obj : Obj} {d extra : Nat} (hrw : b.isRw = true)
    (hb : BlkR (μ.upd nm ⟨w.heap.size, 0, extra⟩) ⟨w.heap.size, 0, extra⟩ b obj) :
    After (some nm) μ m c w (μ.upd nm ⟨w.heap.size, 0, extra⟩) (m.new nm b) c { w with heap := w.heap.push obj, drawn := d } := by
  have hle : Le μ (μ.upd nm ⟨w.heap.size, 0, extra⟩) := Mu.le_upd hnm
  have hold : ∀ k, k < w.heap.size → (w.heap.push obj)[k]? = w.heap[k]? := fun k hk => by rw [Array.getElem?_push, if_neg (by omega)]
  refine After0.up hS.glob ⟨hle, fun n hn hne => Mu.upd_ne μ _ (fun e => hne (by rw [e])), fun n hn => by rw [Mu.upd_ne μ _ (by omega)]; exact hf n hn, Nat.le_refl c, ⟨fun n b' hg => ?_, fun n n' b1 b2 p p' h1 h2 hr hne hp hp' => ?_⟩, ⟨rfl, rfl, rfl, by simp, fun k hk _ => hold k hk, fun n b' p hg hp => ?_⟩, [], rfl, fun n hn hne _ => ?_⟩
  · rw [Mem.get_new] at hg
    by_cases e : n = nm
    · subst e
      simp only [if_true, Option.some.injEq] at hg
      subst hg
      exact ⟨_, obj, Mu.upd_same _ _ _, by simp, hb⟩
    · rw [if_neg e] at hg
      obtain ⟨p, o, hp, ho, hbr⟩ := hS.blk n b' hg
      exact ⟨p, o, hle _ _ hp, by rw [hold _ (blk_lt ho)]; exact ho, hbr.le hle⟩
  · rw [Mem.get_new] at h1 h2
    by_cases e1 : n = nm
    · subst e1
      rw [Mu.upd_same] at hp
      have e2 : n' ≠ n := fun e => hne e.symm
      rw [if_neg e2] at h2
      rw [Mu.upd_ne _ _ e2] at hp'
      obtain ⟨q, o, hq, ho, _⟩ := hS.blk n' b2 h2
      obtain rfl := Option.some.inj (hq.symm.trans hp'); cases hp
      have := blk_lt ho
      show w.heap.size ≠ q.blk
      omega
    · rw [if_neg e1] at h1
      rw [Mu.upd_ne _ _ e1] at hp
      by_cases e2 : n' = nm
      · subst e2
        rw [Mu.upd_same] at hp'
        obtain ⟨q, o, hq, ho, _⟩ := hS.blk n b1 h1
        obtain rfl := Option.some.inj (hq.symm.trans hp); cases hp'
        have := blk_lt ho
        show q.blk ≠ w.heap.size
        omega
      · rw [if_neg e2] at h2
        rw [Mu.upd_ne _ _ e2] at hp'
        exact hS.apart n n' b1 b2 p p' h1 h2 hr hne hp hp'
  · rw [Mem.get_new] at hg
    by_cases e : n = nm
    · subst e
      rw [Mu.upd_same] at hp
      cases hp
      exact .inl (Nat.le_refl _)
    · rw [if_neg e] at hg
      rw [Mu.upd_ne _ _ e] at hp
      exact .inr ⟨n, b', p, hg, id, hp, rfl⟩
  · rw [Mem.get_new, if_neg (fun e => hne (by rw [e]))]

/-- A block written over. -/
theorem after_write (hS : Sim μ m.get w) (hf : ∀ n, c ≤ n → μ n = none) (nm' : Option Nat) {n : Nat} {b b' : ABlk} {p : Pl} {o' : Obj} (hg : m.get n = some b) (hr : b.isRw = true) (hr' : b'.isRw = true) (hp : μ n = some p) (hb : BlkR μ p b' o') :
    After nm' μ m c w μ (m.write n (some b')) c (setBlk w p.blk o') := by
  obtain ⟨p', o, hp', ho, _⟩ := hS.blk n b hg
  rw [hp] at hp'; cases hp'
  have hlt := blk_lt ho
  refine After0.up hS.glob ⟨Le.refl μ, fun _ _ _ => rfl, hf, Nat.le_refl c, ⟨fun k bk hk => ?_, fun k k' b1 b2 p1 p2 h1 h2 hr1 hne hp1 hp2 => ?_⟩, ⟨rfl, rfl, rfl, by rw [setBlk_size]; exact Nat.le_refl _, fun k hk hno => ?_, fun k bk pk hk hpk => ?_⟩, [n], rfl, fun k hk _ hd => ?_⟩
  · rw [Mem.get_write] at hk
    by_cases e : k = n
    · subst e
      simp only [if_true, Option.some.injEq] at hk
      subst hk
      exact ⟨p, o', hp, by rw [setBlk_get _ _ _ _ hlt]; simp, hb⟩
    · rw [if_neg e] at hk
      obtain ⟨q, oq, hq, hoq, hbq⟩ := hS.blk k bk hk
      have hne := hS.apart n k b bk p q hg hk hr (fun h => e h.symm) hp hq
      exact ⟨q, oq, hq, by rw [setBlk_get _ _ _ _ hlt, if_neg (fun h => hne h.symm)]; exact hoq, hbq⟩
  · have rd : ∀ k bk, (m.write n (some b')).get k = some bk → ∃ bk', m.get k = some bk' ∧ (bk.isRw = true → bk'.isRw = true) := by
      intro k bk hk
      rw [Mem.get_write] at hk
      by_cases e : k = n
      · subst e; exact ⟨b, hg, fun _ => hr⟩
      · rw [if_neg e] at hk; exact ⟨bk, hk, id⟩
    obtain ⟨b1', g1, r1⟩ := rd k b1 h1
    obtain ⟨b2', g2, _⟩ := rd k' b2 h2
    exact hS.apart k k' b1' b2' p1 p2 g1 g2 (r1 hr1) hne hp1 hp2
  · rw [setBlk_get _ _ _ _ hlt, if_neg (fun e => hno n b p hg hr hp e.symm)]
  · rw [Mem.get_write] at hk
    by_cases e : k = n
    · subst e
      rw [hp] at hpk; cases hpk
      exact .inr ⟨k, b, p, hg, fun _ => hr, hp, rfl⟩
    · rw [if_neg e] at hk
      exact .inr ⟨k, bk, pk, hk, id, hpk, rfl⟩
  · rw [Mem.get_write, if_neg (by simpa using hd)]

/-- A row that goes on under a new name, in its own block (written over). -/
theorem after_alias (hS : Sim μ m.get w) (hf : ∀ n, c ≤ n → μ n = none) (hnm : μ nm = none) (hc : nm < c) {n : Nat} {b b' : ABlk} {p p' : Pl} {o' : Obj} (hg : m.get n = some b) (hr : b.isRw = true) (hr' : b'.isRw = true) (hp : μ n = some p) (hpb : p'.blk = p.blk)
    (hb : BlkR (μ.upd nm p') p' b' o') : After (some nm) μ m c w (μ.upd nm p') ((m.write n none).new nm b') c (setBlk w p.blk o') := by
  obtain ⟨q0, o, hq0, ho, _⟩ := hS.blk n b hg
  rw [hp] at hq0; cases hq0
  have hlt := blk_lt ho
  have hle : Le μ (μ.upd nm p') := Mu.le_upd hnm
  have hnn : n ≠ nm := fun e => by rw [e, hnm] at hp; cases hp
  have rd : ∀ k bk, ((m.write n none).new nm b').get k = some bk → (k = nm ∧ bk = b') ∨ (k ≠ nm ∧ k ≠ n ∧ m.get k = some bk) := by
    intro k bk hk
    rw [Mem.get_new, Mem.get_write] at hk
    by_cases e : k = nm
    · rw [if_pos e] at hk; cases hk; exact .inl ⟨e, rfl⟩
    · rw [if_neg e] at hk
      by_cases e2 : k = n
      · rw [if_pos e2] at hk; cases hk
      · rw [if_neg e2] at hk; exact .inr ⟨e, e2, hk⟩
  refine After0.up hS.glob ⟨hle, fun k hk hne => Mu.upd_ne μ _ (fun e => hne (by rw [e])), fun k hk => by rw [Mu.upd_ne μ _ (by omega)]; exact hf k hk, Nat.le_refl c, ⟨fun k bk hk => ?_, fun k k' b1 b2 p1 p2 h1 h2 hr1 hne hp1 hp2 => ?_⟩, ⟨rfl, rfl, rfl, by rw [setBlk_size]; exact Nat.le_refl _, fun k hk hno => ?_, fun k bk pk hk hpk => ?_⟩, [n], rfl, fun k hk hne hd => ?_⟩
  · rcases rd k bk hk with ⟨rfl, rfl⟩ | ⟨e1, e2, hk'⟩
    · exact ⟨p', o', Mu.upd_same _ _ _, by rw [hpb, setBlk_get _ _ _ _ hlt]; simp, hb⟩
    · obtain ⟨q, oq, hq, hoq, hbq⟩ := hS.blk k bk hk'
      have hne := hS.apart n k b bk p q hg hk' hr (fun h => e2 h.symm) hp hq
      exact ⟨q, oq, hle _ _ hq, by rw [setBlk_get _ _ _ _ hlt, if_neg (fun h => hne h.symm)]; exact hoq, hbq.le hle⟩
  · rcases rd k b1 h1 with ⟨rfl, rfl⟩ | ⟨e1, e2, hk1⟩
    · rw [Mu.upd_same] at hp1; cases hp1
      rcases rd k' b2 h2 with ⟨rfl, rfl⟩ | ⟨e3, e4, hk2⟩
      · exact (hne rfl).elim
      · rw [Mu.upd_ne _ _ e3] at hp2
        rw [hpb]
        exact hS.apart n k' b b2 p p2 hg hk2 hr (fun h => e4 h.symm) hp hp2
    · rw [Mu.upd_ne _ _ e1] at hp1
      rcases rd k' b2 h2 with ⟨rfl, rfl⟩ | ⟨e3, e4, hk2⟩
      · rw [Mu.upd_same] at hp2; cases hp2
        rw [hpb]
        exact hS.apart k n b1 b p1 p hk1 hg hr1 e2 hp1 hp
      · rw [Mu.upd_ne _ _ e3] at hp2
        exact hS.apart k k' b1 b2 p1 p2 hk1 hk2 hr1 hne hp1 hp2
  · rw [setBlk_get _ _ _ _ hlt, if_neg (fun e => hno n b p hg hr hp e.symm)]
  · rcases rd k bk hk with ⟨rfl, rfl⟩ | ⟨e1, e2, hk'⟩
    · rw [Mu.upd_same] at hpk; cases hpk
      exact .inr ⟨n, b, p, hg, fun _ => hr, hp, hpb.symm⟩
    · rw [Mu.upd_ne _ _ e1] at hpk
      exact .inr ⟨k, bk, pk, hk', id, hpk, rfl⟩
  · rw [Mem.get_new, if_neg (fun e => hne (by rw [e])), Mem.get_write, if_neg (by simpa using hd)]

/-- A row that goes on in a new block under a new name; the old name is given up. -/
theorem after_move (hS : Sim μ m.get w) (hf : ∀ n, c ≤ n → μ n = none) (hnm : μ nm = none) (hc : nm < c) {n : Nat} {b' : ABlk} {obj : Obj} {d extra : Nat} (hn : n ≠ nm) (hr' : b'.isRw = true)
    (hb : BlkR (μ.upd nm ⟨w.heap.size, 0, extra⟩) ⟨w.heap.size, 0, extra⟩ b' obj) :
    After (some nm) μ m c w (μ.upd nm ⟨w.heap.size, 0, extra⟩) ((m.write n none).new nm b') c { w with heap := w.heap.push obj, drawn := d } := by
  have hold : ∀ k, k < w.heap.size → (w.heap.push obj)[k]? = w.heap[k]? := fun k hk => by rw [Array.getElem?_push, if_neg (by omega)]
  have hle : Le μ (μ.upd nm ⟨w.heap.size, 0, extra⟩) := Mu.le_upd hnm
  have rd : ∀ k bk, ((m.write n none).new nm b').get k = some bk → (k = nm ∧ bk = b') ∨ (k ≠ nm ∧ k ≠ n ∧ m.get k = some bk) := by
    intro k bk hk
    rw [Mem.get_new, Mem.get_write] at hk
    by_cases e : k = nm
    · rw [if_pos e] at hk; cases hk; exact .inl ⟨e, rfl⟩
    · rw [if_neg e] at hk
      by_cases e2 : k = n
      · rw [if_pos e2] at hk; cases hk
      · rw [if_neg e2] at hk; exact .inr ⟨e, e2, hk⟩
  refine After0.up hS.glob ⟨hle, fun k hk hne => Mu.upd_ne μ _ (fun e => hne (by rw [e])), fun k hk => by rw [Mu.upd_ne μ _ (by omega)]; exact hf k hk, Nat.le_refl c, ⟨fun k bk hk => ?_, fun k k' b1 b2 p1 p2 h1 h2 hr1 hne hp1 hp2 => ?_⟩, ⟨rfl, rfl, rfl, by simp, fun k hk _ => hold k hk, fun k bk pk hk hpk => ?_⟩, [n], rfl, fun k hk hne hd => ?_⟩
  · rcases rd k bk hk with ⟨rfl, rfl⟩ | ⟨e1, e2, hk'⟩
    · exact ⟨_, obj, Mu.upd_same _ _ _, by simp, hb⟩
    · obtain ⟨q, oq, hq, hoq, hbq⟩ := hS.blk k bk hk'
      exact ⟨q, oq, hle _ _ hq, by rw [hold _ (blk_lt hoq)]; exact hoq, hbq.le hle⟩
  · rcases rd k b1 h1 with ⟨rfl, rfl⟩ | ⟨e1, e2, hk1⟩
    · rw [Mu.upd_same] at hp1; cases hp1
      rcases rd k' b2 h2 with ⟨rfl, rfl⟩ | ⟨e3, e4, hk2⟩
      · exact (hne rfl).elim
      · rw [Mu.upd_ne _ _ e3] at hp2
        obtain ⟨q, o, hq, ho, _⟩ := hS.blk k' b2 hk2
        obtain rfl := Option.some.inj (hq.symm.trans hp2)
        have := blk_lt ho
        show w.heap.size ≠ q.blk
        omega
    · rw [Mu.upd_ne _ _ e1] at hp1
      rcases rd k' b2 h2 with ⟨rfl, rfl⟩ | ⟨e3, e4, hk2⟩
      · rw [Mu.upd_same] at hp2; cases hp2
        obtain ⟨q, o, hq, ho, _⟩ := hS.blk k b1 hk1
        obtain rfl := Option.some.inj (hq.symm.trans hp1)
        have := blk_lt ho
        show q.blk ≠ w.heap.size
        omega
      · rw [Mu.upd_ne _ _ e3] at hp2
        exact hS.apart k k' b1 b2 p1 p2 hk1 hk2 hr1 hne hp1 hp2
  · rcases rd k bk hk with ⟨rfl, rfl⟩ | ⟨e1, e2, hk'⟩
    · rw [Mu.upd_same] at hpk; cases hpk
      exact .inl (Nat.le_refl _)
    · rw [Mu.upd_ne _ _ e1] at hpk
      exact .inr ⟨k, bk, pk, hk', id, hpk, rfl⟩
  · rw [Mem.get_new, if_neg (fun e => hne (by rw [e])), Mem.get_write, if_neg (by simpa using hd)]

/-! ### stores -/
theorem storeCells_run {b off : Nat} {el : TypeId} {fz : Nat × Nat} : ∀ (vs : List Value) (i : Nat) (cs : Array Value) (w : World), w.heap[b]? = some (.cells cs el fz) → off + i + vs.length ≤ cs.size →
    (∀ v ∈ vs, v.oneCell' = true) → (∀ k, k < cs.size → ¬ (fz.1 ≤ k ∧ k < fz.2)) →
    (storeCells ⟨b, off, none⟩ vs i).run P w = .ok () (setBlk w b (.cells (setV cs.toList (off + i) vs).toArray el fz))
  | [], i, cs, w, hh, hl, h1, hz => by
    have hlt := blk_lt hh
    simp only [storeCells, setV, Array.toArray_toList, Sem.run_pure]
    congr 1
    simp only [setBlk]
    have : w.heap.setIfInBounds b (.cells cs el fz) = w.heap := by
      apply Array.ext_getElem?
      intro k
      rw [Array.getElem?_setIfInBounds]
      split
      · rename_i e; subst e; rw [hh]
      · rfl
    rw [this]
  | v :: vs, i, cs, w, hh, hl, h1, hz => by
    have hlt := blk_lt hh
    simp only [List.length_cons] at hl
    have hoff : off + i < cs.size := by omega
    have hcell : w.cell? ⟨b, off + i, none⟩ = some cs[off + i] := by rw [cell_mk hh]; exact Array.getElem?_eq_getElem hoff
    have hfrz : w.frozen? ⟨b, off + i, none⟩ = false := by
      have := hz (off + i) hoff
      simp only [World.frozen?, hh]
      simp only [Bool.and_eq_false_imp, decide_eq_true_eq, decide_eq_false_iff_not]
      intro h2 h3
      exact this ⟨h2, h3⟩
    have hset : w.setCell ⟨b, off + i, none⟩ v = setBlk w b (.cells (cs.setIfInBounds (off + i) v) el fz) := by
      simp only [World.setCell, setBlk]
      congr 1
      apply Array.ext_getElem?
      intro k
      rw [Array.getElem?_modify, Array.getElem?_setIfInBounds]
      by_cases e : b = k
      · subst e; simp only [if_true, hh, Option.map_some, hlt]; simp
      · simp [e]
    have hst := run_store P w ⟨b, off + i, none⟩ v .plain (h1 v (by simp))
    rw [hcell] at hst
    simp only [hfrz, Bool.false_eq_true, if_false] at hst
    have hh' : (setBlk w b (.cells (cs.setIfInBounds (off + i) v) el fz)).heap[b]? = some (.cells (cs.setIfInBounds (off + i) v) el fz) := by rw [setBlk_get _ _ _ _ hlt, if_pos rfl]
    have hl' : off + (i + 1) + vs.length ≤ (cs.setIfInBounds (off + i) v).size := by rw [Array.size_setIfInBounds]; omega
    have ih := storeCells_run vs (i + 1) (cs.setIfInBounds (off + i) v) _ hh' hl' (fun u hu => h1 u (by simp [hu])) (fun k hk => hz k (by rw [Array.size_setIfInBounds] at hk; exact hk))
    simp only [storeCells, Sem.run_bind, add_mk, hst, Result.andThen_ok, hset]
    rw [ih]
    congr 1
    simp only [setBlk, Array.setIfInBounds_setIfInBounds, Array.toList_setIfInBounds, setV, Nat.add_assoc]

theorem store_ok (hS : Sim μ m.get w) (hf : ∀ n, c ≤ n → μ n = none) (nm' : Option Nat) {t : TypeId} {n z i f s : Nat} {v : AV} {A X : Value} {rows : List (List AV)} {row : List AV} (ha : cn μ (.ptr n z i f) = some A) (hx : cn μ v = some X) (hs : sizeT P t = some s)
    (hg : m.get n = some (.cells true z rows)) (hi : rows[i]? = some row) (hl : v.cells.length = s) (hfs : f + s ≤ row.length) (hcell : v.cells.all AV.isCell = true) :
    ∃ w', (Instr.storeAt t A X).run P w = .ok () w' ∧ After nm' μ m c w μ (m.write n (some (.cells true z (rows.set i (setCells row f v.cells))))) c w' := by
  obtain ⟨p, o, hp, ho, hb⟩ := hS.blk n _ hg
  cases o <;> first | exact hb.elim | skip
  rename_i cs el fz
  simp only [cn, hp, Option.map_some, Option.some.injEq] at ha
  subst ha
  have hxl := cells_cn hx
  have hxn := cnL_length hxl
  obtain ⟨l, hlr, hlc⟩ := row_cells hb hi
  obtain ⟨hb1, hb2, hb3⟩ := hb
  obtain ⟨hsz, hfz⟩ := hb3 rfl
  have hrow := (hb1 row (List.mem_of_getElem? hi)).1
  have hilt := (List.getElem?_eq_some_iff.1 hi).1
  have hbound : p.shift + i * z + f + s ≤ cs.size := by
    rw [hsz]
    have : (i + 1) * z ≤ (rows.length + p.extra) * z := Nat.mul_le_mul_right z (by omega)
    rw [Nat.succ_mul] at this
    omega
  have hone : ∀ u ∈ X.cells.toList, u.oneCell' = true := by
    intro u hu
    obtain ⟨j, hj⟩ := List.getElem?_of_mem hu
    obtain ⟨a, ha, hau⟩ := cnL_get' hxl j u hj
    exact isCell_cn hau (List.all_eq_true.1 hcell a (List.mem_of_getElem? ha))
  have hrun := storeCells_run (P := P) (b := p.blk) (off := p.shift + i * z + f) X.cells.toList 0 cs w ho (by rw [hxn, hl]; omega) hone (fun k hk hh => by have := hfz k hk; omega)
  refine ⟨_, ?_, after_write hS hf nm' hg rfl rfl hp (o' := .cells (setV cs.toList (p.shift + i * z + f + 0) X.cells.toList).toArray el fz) ⟨fun r hr => ?_, fun j r g u hj hg' => ?_, fun _ => ?_⟩⟩
  · have hsize : X.cells.size = s := by simpa using hxn.trans hl
    simp only [Instr.storeAt, plPtr, Instr.sureAddr, storeVar, Sem.run_bind, Sem.run_pure, Result.andThen_ok, size_run hs, hsize, ne_eq, not_true_eq_false, if_false]
    exact hrun
  · rcases List.mem_or_eq_of_mem_set hr with h | rfl
    · exact hb1 r h
    · refine ⟨by rw [setCells_length]; exact hrow, fun u hu => ?_⟩
      rcases setCells_mem _ _ _ _ hu with h | h
      · exact (hb1 row (List.mem_of_getElem? hi)).2 u h
      · exact List.all_eq_true.1 hcell u h
  · have hget : (setV cs.toList (p.shift + i * z + f + 0) X.cells.toList)[p.shift + j * z + g]? = if p.shift + i * z + f ≤ p.shift + j * z + g ∧ p.shift + j * z + g < p.shift + i * z + f + X.cells.toList.length then X.cells.toList[p.shift + j * z + g - (p.shift + i * z + f)]? else cs.toList[p.shift + j * z + g]? :=
      setV_get _ _ _ _ (by rw [hxn, hl]; simp; omega)
    rw [List.getElem?_toArray, hget]
    rw [List.getElem?_set] at hj
    by_cases e : i = j
    · subst e
      simp only [if_true, hilt] at hj
      cases hj
      have hcn := setCells_cn f hlr hxl
      obtain ⟨q, hq, hq'⟩ := cnL_get hcn g u hg'
      refine ⟨q, hq, ?_⟩
      rw [setV_get _ _ _ _ (by rw [cnL_length hlr, hxn]; omega)] at hq'
      by_cases h2 : f ≤ g ∧ g < f + X.cells.toList.length
      · rw [if_pos h2] at hq'
        rw [if_pos (by omega), show p.shift + i * z + g - (p.shift + i * z + f) = g - f by omega]
        exact hq'
      · rw [if_neg h2] at hq'
        rw [if_neg (by omega)]
        simpa using hlc g q hq'
    · rw [if_neg e] at hj
      obtain ⟨q, hq, hqc⟩ := hb2 j r g u hj hg'
      refine ⟨q, hq, ?_⟩
      have hg2 : g < z := by
        have := (hb1 r (List.mem_of_getElem? hj)).1
        have := (List.getElem?_eq_some_iff.1 hg').1
        omega
      have hfl : f + s ≤ z := by omega
      have : ¬ (p.shift + i * z + f ≤ p.shift + j * z + g ∧ p.shift + j * z + g < p.shift + i * z + f + X.cells.toList.length) := by
        rw [hxn, hl]
        rcases Nat.lt_or_gt_of_ne e with h | h
        · have : (i + 1) * z ≤ j * z := Nat.mul_le_mul_right z h
          rw [Nat.succ_mul] at this
          omega
        · have : (j + 1) * z ≤ i * z := Nat.mul_le_mul_right z h
          rw [Nat.succ_mul] at this
          omega
      rw [if_neg this]
      simpa using hqc
  · simp only [List.size_toArray, setV_length, Array.length_toList, List.length_set]
    exact ⟨hsz, hfz⟩
end

end Go.Ab
