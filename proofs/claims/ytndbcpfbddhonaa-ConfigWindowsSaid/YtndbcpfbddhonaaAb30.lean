/- A call shown at a small memory, with what it writes and makes, used at any memory. -/
import Derived.Test.YtndbcpfbddhonaaAb29
namespace Go.Ab
set_option linter.unusedSimpArgs false
set_option linter.unusedVariables false

mutual
/-- Names sent on by a whole function. -/
def renV (g : Nat → Nat) : AV → AV
  | .ptr n z i f => .ptr (g n) z i f
  | .slice n z i len cap opn alt => .slice (g n) z i len cap opn alt
  | .map n => .map (g n)
  | .func f cs => .func f (renVL g cs)
  | .iface t v => .iface t (renV g v)
  | .agg cs => .agg (renVL g cs)
  | .tuple vs => .tuple (renVL g vs)
  | .sym v => .sym (renV g v)
  | .bool b => .bool b
  | .int k n => .int k n
  | .str s => .str s
  | .nilptr => .nilptr
  | .nilslice => .nilslice
  | .nilmap => .nilmap
  | .nilfunc => .nilfunc
  | .niliface => .niliface
def renVL (g : Nat → Nat) : List AV → List AV
  | [] => []
  | v :: vs => renV g v :: renVL g vs
end
mutual
theorem renV_cn {μ : Mu} {g : Nat → Nat} : ∀ v : AV, cn μ (renV g v) = cn (fun n => μ (g n)) v
  | .func f cs => by simp only [renV, cn, renVL_cn cs]
  | .agg cs => by simp only [renV, cn, renVL_cn cs]
  | .tuple cs => by simp only [renV, cn, renVL_cn cs]
  | .iface t v => by simp only [renV, cn, renV_cn v]
  | .sym v => by simp only [renV, cn]; exact renV_cn v
  | .ptr .. | .slice .. | .map _ | .bool _ | .int _ _ | .str _ | .nilptr | .nilslice | .nilmap | .nilfunc | .niliface => rfl
theorem renVL_cn {μ : Mu} {g : Nat → Nat} : ∀ vs : List AV, cnL μ (renVL g vs) = cnL (fun n => μ (g n)) vs
  | [] => rfl
  | v :: vs => by simp only [renVL, cnL, renV_cn v, renVL_cn vs]
end
theorem renVL_eq (g : Nat → Nat) : ∀ vs, renVL g vs = vs.map (renV g)
  | [] => rfl
  | v :: vs => by rw [renVL, renVL_eq g vs]; rfl
theorem renV_cell (g : Nat → Nat) : ∀ v : AV, (renV g v).isCell = v.isCell
  | .sym v => by simp only [renV, AV.isCell]; exact renV_cell g v
  | .func .. | .iface .. | .agg _ | .tuple _ | .bool _ | .int _ _ | .str _ | .nilptr | .ptr .. | .nilslice | .slice .. | .nilmap | .map _ | .nilfunc | .niliface => rfl
mutual
theorem renV_flat (g : Nat → Nat) : ∀ v : AV, v.flat = true → renV g v = v
  | .ptr .., h | .slice .., h | .map _, h => by cases h
  | .func f cs, h => by simp only [renV, renVL_flat g cs h]
  | .agg cs, h => by simp only [renV, renVL_flat g cs h]
  | .tuple cs, h => by simp only [renV, renVL_flat g cs h]
  | .iface t v, h => by simp only [renV, renV_flat g v h]
  | .sym v, h => by simp only [renV, renV_flat g v h]
  | .bool _, _ | .int _ _, _ | .str _, _ | .nilptr, _ | .nilslice, _ | .nilmap, _ | .nilfunc, _ | .niliface, _ => rfl
theorem renVL_flat (g : Nat → Nat) : ∀ vs : List AV, AV.flatL vs = true → renVL g vs = vs
  | [], _ => rfl
  | v :: vs, h => by
    simp only [AV.flatL, Bool.and_eq_true] at h
    simp only [renVL, renV_flat g v h.1, renVL_flat g vs h.2]
end
def renRows (g : Nat → Nat) (rows : List (List AV)) : List (List AV) := rows.map (renVL g)
theorem renRows_flat (g : Nat → Nat) {rows : List (List AV)} (h : ∀ row ∈ rows, AV.flatL row = true) : renRows g rows = rows := by
  unfold renRows
  rw [List.map_congr_left (g := id) (fun row hr => renVL_flat g row (h row hr)), List.map_id]
def renEs (g : Nat → Nat) (es : List (AV × AV)) : List (AV × AV) := es.map fun e => (renV g e.1, renV g e.2)
def renB (g : Nat → Nat) : ABlk → ABlk
  | .cells r z rows => .cells r z (renRows g rows)
  | .map es => .map (renEs g es)
theorem renB_rw (g : Nat → Nat) (b : ABlk) : (renB g b).isRw = b.isRw := by cases b <;> rfl
theorem renB_ok {μ : Mu} {g : Nat → Nat} {p : Pl} {b : ABlk} {o : Obj} (h : BlkR (fun n => μ (g n)) p b o) : BlkR μ p (renB g b) o := by
  cases b <;> cases o <;> first | exact h.elim | skip
  · rename_i r z rows cs hh fz
    obtain ⟨h1, h2, h3⟩ := h
    refine ⟨fun row hr => ?_, fun i row f v hi hf => ?_, fun e => by simpa [renRows] using h3 e⟩
    · obtain ⟨r0, hr0, rfl⟩ := List.mem_map.1 hr
      obtain ⟨k1, k2⟩ := h1 r0 hr0
      refine ⟨by rw [renVL_eq, List.length_map]; exact k1, fun v hv => ?_⟩
      rw [renVL_eq] at hv
      obtain ⟨v0, hv0, rfl⟩ := List.mem_map.1 hv
      rw [renV_cell]; exact k2 v0 hv0
    · unfold renRows at hi
      rw [List.getElem?_map, Option.map_eq_some_iff] at hi
      obtain ⟨r0, hi, rfl⟩ := hi
      rw [renVL_eq, List.getElem?_map, Option.map_eq_some_iff] at hf
      obtain ⟨v0, hf, rfl⟩ := hf
      obtain ⟨u, hu, hc⟩ := h2 i r0 f v0 hi hf
      exact ⟨u, by rw [renV_cn]; exact hu, hc⟩
  · rename_i es ents fz
    obtain ⟨h1, h2⟩ := h
    refine ⟨by rw [renEs, List.length_map]; exact h1, fun i e hi => ?_⟩
    rw [renEs, List.getElem?_map, Option.map_eq_some_iff] at hi
    obtain ⟨e0, hi, rfl⟩ := hi
    obtain ⟨x, hx, k1, k2⟩ := h2 i e0 hi
    exact ⟨x, hx, by rw [renV_cn]; exact k1, by rw [renV_cn]; exact k2⟩

/-- The small memory's names in the big one: those of σ, then new ones. -/
def sg (σ : List Nat) (c n : Nat) : Nat := match σ[n]? with
  | some k => k
  | none => c + (n - σ.length)
def rwAt (bs : List (Option ABlk)) (n : Nat) : Bool := match bs[n]? with
  | some (some b) => b.isRw
  | _ => false
/-- What the call left, laid over the big memory: names below k. -/
def overN (σ : List Nat) (c : Nat) (bs : List (Option ABlk)) (m' : Mem) : Nat → Mem → Mem
  | 0, m => m
  | k + 1, m => match σ[k]? with
    | some s => match rwAt bs k with
      | true => (overN σ c bs m' k m).write s ((m'.get k).map (renB (sg σ c)))
      | false => overN σ c bs m' k m
    | none => match m'.get k with
      | some b => (overN σ c bs m' k m).new (c + (k - σ.length)) (renB (sg σ c) b)
      | none => overN σ c bs m' k m
/-- All that is new may be written. -/
def newRw (lo : Nat) (m' : Mem) : Nat → Prop
  | 0 => True
  | k + 1 => (match Nat.ble lo k with
    | true => match m'.get k with
      | some b => b.isRw = true
      | none => True
    | false => True) ∧ newRw lo m' k
theorem newRw_at {lo : Nat} {m' : Mem} : ∀ {k : Nat}, newRw lo m' k → ∀ j b, lo ≤ j → j < k → m'.get j = some b → b.isRw = true
  | 0, _, j, b, _, hj, _ => by omega
  | k + 1, h, j, b, h1, h2, h3 => by
    obtain ⟨ha, hb⟩ := h
    by_cases e : j = k
    · subst e
      rw [Nat.ble_eq_true_of_le h1] at ha
      simp only [h3] at ha
      exact ha
    · exact newRw_at hb j b h1 (by omega) h3

section
variable {σ : List Nat} {c : Nat} {bs : List (Option ABlk)} {m m' : Mem}
/-- A name of σ that is laid over. -/
def wr (σ : List Nat) (bs : List (Option ABlk)) (k n : Nat) : Prop := ∃ j, j < k ∧ σ[j]? = some n ∧ rwAt bs j = true
theorem over_low (hlt : ∀ s ∈ σ, s < c) : ∀ (k : Nat) (n : Nat), n < c → ¬ wr σ bs k n → (overN σ c bs m' k m).get n = m.get n
  | 0, _, _, _ => rfl
  | k + 1, n, hn, hw => by
    have hw' : ¬ wr σ bs k n := fun ⟨j, h1, h2, h3⟩ => hw ⟨j, by omega, h2, h3⟩
    have ih := over_low hlt k n hn hw'
    simp only [overN]
    split
    · rename_i s hs
      split
      · rename_i hrw
        rw [Mem.get_write, if_neg (fun e => hw ⟨k, by omega, by rw [e]; exact hs, hrw⟩)]; exact ih
      · exact ih
    · split
      · rw [Mem.get_new, if_neg (by omega)]; exact ih
      · exact ih
theorem over_wr (hlt : ∀ s ∈ σ, s < c) (hnd : σ.Nodup) : ∀ (k j n : Nat), j < k → σ[j]? = some n → rwAt bs j = true → (overN σ c bs m' k m).get n = (m'.get j).map (renB (sg σ c))
  | 0, j, n, h, _, _ => by omega
  | k + 1, j, n, h1, h2, h3 => by
    have hn : n < c := hlt n (List.mem_of_getElem? h2)
    simp only [overN]
    by_cases e : j = k
    · subst e
      simp only [h2, h3]
      rw [Mem.get_write, if_pos rfl]
    · have ih := over_wr hlt hnd k j n (by omega) h2 h3
      split
      · rename_i s hs
        split
        · rw [Mem.get_write, if_neg]
          · exact ih
          · intro e'
            subst e'
            obtain ⟨l1, e1⟩ := List.getElem?_eq_some_iff.1 h2
            obtain ⟨l2, e2⟩ := List.getElem?_eq_some_iff.1 hs
            rcases Nat.lt_trichotomy j k with h | h | h
            · exact (List.pairwise_iff_getElem.1 hnd _ _ l1 l2 h) (e1.trans e2.symm)
            · exact e h
            · omega
        · exact ih
      · split
        · rw [Mem.get_new, if_neg (by omega)]; exact ih
        · exact ih
theorem over_new (hlt : ∀ s ∈ σ, s < c) (hfr : ∀ n, c ≤ n → m.get n = none) : ∀ (k n : Nat), c ≤ n → (overN σ c bs m' k m).get n = if σ.length + (n - c) < k then (m'.get (σ.length + (n - c))).map (renB (sg σ c)) else none
  | 0, n, h => by rw [if_neg (by omega)]; exact hfr n h
  | k + 1, n, h => by
    have ih := over_new hlt hfr k n h
    simp only [overN]
    split
    · rename_i s hs
      have hs' := hlt s (List.mem_of_getElem? hs)
      have hk : k < σ.length := (List.getElem?_eq_some_iff.1 hs).1
      rw [if_neg (by omega)] at ih ⊢
      split
      · rw [Mem.get_write, if_neg (by omega)]; exact ih
      · exact ih
    · rename_i hs
      have hk : σ.length ≤ k := by simpa using hs
      by_cases e : n = c + (k - σ.length)
      · have e' : σ.length + (n - c) = k := by omega
        rw [e'] at ih ⊢
        rw [if_pos (by omega)]
        rw [if_neg (by omega)] at ih
        split
        · rename_i b hb
          rw [Mem.get_new, if_pos e, hb]; rfl
        · rename_i hb
          rw [ih, hb]; rfl
      · have e' : (σ.length + (n - c) < k + 1) ↔ (σ.length + (n - c) < k) := by omega
        simp only [e']
        split
        · rw [Mem.get_new, if_neg e]; exact ih
        · exact ih
theorem over_log (σ : List Nat) (c : Nat) (bs : List (Option ABlk)) (m m' : Mem) : ∀ k : Nat, ∃ δ, (overN σ c bs m' k m).log = δ ++ m.log ∧ ∀ n, wr σ bs k n → n ∈ δ
  | 0 => ⟨[], rfl, fun n ⟨j, h, _⟩ => by omega⟩
  | k + 1 => by
    obtain ⟨δ, h1, h2⟩ := over_log σ c bs m m' k
    simp only [overN]
    split
    · rename_i s hs
      split
      · refine ⟨s :: δ, by simp only [Mem.write, h1, List.cons_append], fun n ⟨j, a1, a2, a3⟩ => ?_⟩
        by_cases e : j = k
        · subst e; rw [a2] at hs; cases hs; simp
        · exact List.mem_cons_of_mem _ (h2 n ⟨j, by omega, a2, a3⟩)
      · rename_i hrw
        refine ⟨δ, h1, fun n ⟨j, a1, a2, a3⟩ => ?_⟩
        by_cases e : j = k
        · subst e; rw [a3] at hrw; cases hrw
        · exact h2 n ⟨j, by omega, a2, a3⟩
    · rename_i hs
      have hh : ∀ n, wr σ bs (k + 1) n → n ∈ δ := fun n ⟨j, a1, a2, a3⟩ => by
        by_cases e : j = k
        · subst e; rw [a2] at hs; cases hs
        · exact h2 n ⟨j, by omega, a2, a3⟩
      split
      · exact ⟨δ, h1, hh⟩
      · exact ⟨δ, h1, hh⟩
end

section
variable {P : Program}
theorem CallS.frameW {f : FuncId} {vs0 vs : List AV} {bs : List (Option ABlk)} {m : Mem} {c : Nat} {R0 K : AV → Mem → Nat → Prop} (σ : List Nat)
    (h : CallS P f vs0 (memB bs []) σ.length R0) (hlen : bs.length ≤ σ.length) (hv : leL (fun n => σ[n]?) vs vs0) (hb : blksLe (fun n => σ[n]?) m.get 0 bs) (hσ : σ.Nodup ∧ ∀ s ∈ σ, s < c)
    (hk : ∀ v m' c', R0 v m' c' → newRw σ.length m' c' ∧ K (renV (sg σ c) v) (overN σ c bs m' c' m) (c + (c' - σ.length))) : CallS P f vs m c K := by
  obtain ⟨hnd, hlt⟩ := hσ
  refine ⟨fun μ w args hargs hS hf => ?_⟩
  have hmc : ∀ n, c ≤ n → m.get n = none := fun n hn => by
    cases hg : m.get n with
    | none => rfl
    | some b =>
      obtain ⟨p, o, k1, _⟩ := hS.blk n b hg
      rw [hf n hn] at k1; cases k1
  have hτc : ∀ n s, σ[n]? = some s → s < c := fun n s e => hlt s (List.mem_of_getElem? e)
  have hinj : ∀ i j s, σ[i]? = some s → σ[j]? = some s → i = j := fun i j s h1 h2 => by
    obtain ⟨l1, e1⟩ := List.getElem?_eq_some_iff.1 h1
    obtain ⟨l2, e2⟩ := List.getElem?_eq_some_iff.1 h2
    rcases Nat.lt_trichotomy i j with h | h | h
    · exact ((List.pairwise_iff_getElem.1 hnd _ _ l1 l2 h) (e1.trans e2.symm)).elim
    · exact h
    · exact ((List.pairwise_iff_getElem.1 hnd _ _ l2 l1 h) (e2.trans e1.symm)).elim
  have hblk : ∀ n b0, (memB bs []).get n = some b0 → ∃ s b, σ[n]? = some s ∧ m.get s = some b ∧ BlkLe (fun n => σ[n]?) b b0 := fun n b0 hn => by
    rw [memB_get] at hn
    obtain ⟨s, b, k1, k2, k3⟩ := blksLe_at bs 0 hb n b0 hn
    rw [Nat.zero_add] at k1
    exact ⟨s, b, k1, k2, k3⟩
  have hrwAt : ∀ n b0, (memB bs []).get n = some b0 → b0.isRw = rwAt bs n := fun n b0 hn => by
    rw [memB_get] at hn
    unfold rwAt
    cases hx : bs[n]? with
    | none => rw [hx] at hn; cases hn
    | some ob => rw [hx] at hn; simp only [Option.join_some] at hn; subst hn; rfl
  let μ0 : Mu := Mu.back μ (fun n => σ[n]?)
  have hμ0 : ∀ n s, σ[n]? = some s → μ0 n = μ s := fun n s e => by
    change ((fun n => σ[n]?) n).bind μ = μ s
    simp only [e, Option.bind_some]
  have hμ0n : ∀ n, σ.length ≤ n → μ0 n = none := fun n hn => by
    change ((fun n => σ[n]?) n).bind μ = none
    simp only [List.getElem?_eq_none hn, Option.bind_none]
  have hS0 : Sim μ0 (memB bs []).get w := by
    refine ⟨⟨fun n b0 hn => ?_, fun n n' b b' p p' hn hn' hrw hne hp hp' => ?_⟩, hS.glob.map fun n b p hn hrw hp => ?_⟩
    · obtain ⟨s, b, k1, k2, k3⟩ := hblk n b0 hn
      obtain ⟨p, o, j1, j2, j3⟩ := hS.blk s b k2
      exact ⟨p, o, by rw [hμ0 n s k1]; exact j1, j2, k3.ok μ p o j3⟩
    · obtain ⟨s, b1, k1, k2, k3⟩ := hblk n b hn
      obtain ⟨s', b1', k1', k2', k3'⟩ := hblk n' b' hn'
      rw [hμ0 n s k1] at hp
      rw [hμ0 n' s' k1'] at hp'
      exact hS.apart s s' b1 b1' p p' k2 k2' (k3.rw hrw) (fun e => hne (hinj n n' s k1 (by rw [e]; exact k1'))) hp hp'
    · obtain ⟨s, b1, k1, k2, k3⟩ := hblk n b hn
      rw [hμ0 n s k1] at hp
      exact ⟨s, b1, p, k2, k3.rw hrw, hp, rfl⟩
  refine (h.ok μ0 w args (hv.cn hargs) hS0 hμ0n).mono ?_
  rintro val w' ⟨v, m', c', μ0', hR, hcv, ha⟩
  obtain ⟨hnew, hK⟩ := hk v m' c' hR
  let μ' : Mu := fun n => if n < c then μ n else μ0' (σ.length + (n - c))
  have hμ'g : ∀ n, μ' (sg σ c n) = μ0' n := fun n => by
    change (if sg σ c n < c then μ (sg σ c n) else μ0' (σ.length + (sg σ c n - c))) = μ0' n
    unfold sg
    cases e : σ[n]? with
    | some s =>
      have hl : n < σ.length := (List.getElem?_eq_some_iff.1 e).1
      simp only [if_pos (hτc n s e)]
      rw [ha.same n hl (by simp), hμ0 n s e]
    | none =>
      have hl : σ.length ≤ n := by simpa using e
      simp only
      rw [if_neg (by omega)]
      congr 1; omega
  have hμ'f : (fun n => μ' (sg σ c n)) = μ0' := funext hμ'g
  obtain ⟨δ0, hd0, hkept⟩ := ha.log
  have hcle := ha.cle
  -- where each name of the new memory comes from
  have hsmall : ∀ j b0, m'.get j = some b0 → ∃ p o, μ' (sg σ c j) = some p ∧ w'.heap[p.blk]? = some o ∧ BlkR μ' p (renB (sg σ c) b0) o := fun j b0 hj => by
    obtain ⟨p, o, k1, k2, k3⟩ := ha.sim.blk j b0 hj
    exact ⟨p, o, by rw [hμ'g]; exact k1, k2, renB_ok (by rw [hμ'f]; exact k3)⟩
  have hjlt : ∀ j b0, m'.get j = some b0 → j < c' := fun j b0 hj => by
    rcases Nat.lt_or_ge j c' with h | h
    · exact h
    · obtain ⟨p, o, k1, _⟩ := ha.sim.blk j b0 hj
      rw [ha.fresh j h] at k1; cases k1
  have hfrom : ∀ n b, (overN σ c bs m' c' m).get n = some b → (∃ j b0, m'.get j = some b0 ∧ n = sg σ c j ∧ b = renB (sg σ c) b0 ∧ (σ.length ≤ j ∨ rwAt bs j = true)) ∨ (n < c ∧ ¬ wr σ bs c' n ∧ m.get n = some b) := fun n b hn => by
    rcases Nat.lt_or_ge n c with hnc | hnc
    · by_cases hw : wr σ bs c' n
      · obtain ⟨j, j1, j2, j3⟩ := hw
        rw [over_wr hlt hnd c' j n j1 j2 j3, Option.map_eq_some_iff] at hn
        obtain ⟨b0, hb0, rfl⟩ := hn
        exact .inl ⟨j, b0, hb0, by simp only [sg, j2], rfl, .inr j3⟩
      · rw [over_low hlt c' n hnc hw] at hn
        exact .inr ⟨hnc, hw, hn⟩
    · rw [over_new hlt hmc c' n hnc] at hn
      split at hn
      · rw [Option.map_eq_some_iff] at hn
        obtain ⟨b0, hb0, rfl⟩ := hn
        refine .inl ⟨_, b0, hb0, ?_, rfl, .inl (Nat.le_add_right _ _)⟩
        simp only [sg, List.getElem?_eq_none (Nat.le_add_right σ.length (n - c))]
        omega
      · cases hn
  -- what stands in old blocks of others stays
  have hstay : ∀ n b p, n < c → ¬ wr σ bs c' n → m.get n = some b → μ n = some p → w'.heap[p.blk]? = w.heap[p.blk]? := fun n b p hnc hw hn hp => by
    obtain ⟨p', o, k1, k2, _⟩ := hS.blk n b hn
    rw [hp] at k1; cases k1
    have hlt' : p.blk < w.heap.size := (Array.getElem?_eq_some_iff.1 k2).1
    refine ha.step.keep p.blk hlt' fun j b0 q hj hrw hq e => ?_
    obtain ⟨s, b1, j1, j2, j3⟩ := hblk j b0 hj
    have hjl : j < σ.length := (List.getElem?_eq_some_iff.1 j1).1
    have hne : s ≠ n := fun e' => hw ⟨j, by omega, by rw [← e']; exact j1, by rw [← hrwAt j b0 hj]; exact hrw⟩
    rw [hμ0 j s j1] at hq
    exact hS.apart s n b1 b q p j2 hn (j3.rw hrw) hne hq hp e
  have hμ'low : ∀ n, n < c → μ' n = μ n := fun n hn => by
    change (if n < c then μ n else _) = μ n
    rw [if_pos hn]
  -- a small name's block against an old one
  have hcross : ∀ j b0 p n b p', m'.get j = some b0 → (σ.length ≤ j ∨ rwAt bs j = true) → μ0' j = some p → n < c → ¬ wr σ bs c' n → m.get n = some b → μ n = some p' → (b0.isRw = true ∨ b.isRw = true) → p.blk ≠ p'.blk := by
    intro j b0 p n b p' hj hor hp hnc hw hn hp' hrw e
    obtain ⟨q, o, k1, k2, _⟩ := hS.blk n b hn
    rw [hp'] at k1; cases k1
    have hlt' : p'.blk < w.heap.size := (Array.getElem?_eq_some_iff.1 k2).1
    rcases ha.step.img j b0 p hj hp with h1 | ⟨n0, b1, p0, h1, h2, h3, h4⟩
    · omega
    · obtain ⟨s, b2, j1, j2, j3⟩ := hblk n0 b1 h1
      have hn0 : n0 < σ.length := (List.getElem?_eq_some_iff.1 j1).1
      have h3' := h3
      rw [hμ0 n0 s j1] at h3
      by_cases hs : s = n
      · subst hs
        -- n0 is read alone: it stands in the small memory still
        have hro : b1.isRw = false := by
          rw [hrwAt n0 b1 h1]
          cases hx : rwAt bs n0 with
          | false => rfl
          | true => exact (hw ⟨n0, by omega, j1, hx⟩).elim
        have hb0rw : b0.isRw = false := by
          cases hx : b0.isRw with
          | false => rfl
          | true => rw [h2 hx] at hro; cases hro
        rcases hor with hor | hor
        · rw [newRw_at hnew j b0 hor (hjlt j b0 hj) hj] at hb0rw; cases hb0rw
        · -- j is an argument that may be written
          have hjl : j < σ.length := by
            unfold rwAt at hor
            split at hor
            · rename_i bb hbb
              have := (List.getElem?_eq_some_iff.1 hbb).1
              omega
            · cases hor
          obtain ⟨sj, hsj⟩ : ∃ sj, σ[j]? = some sj := ⟨σ[j], List.getElem?_eq_getElem hjl⟩
          have hjn : j ≠ n0 := fun e' => by
            subst e'
            rw [← hrwAt _ b1 h1, hro] at hor; cases hor
          obtain ⟨bj, hbj⟩ : ∃ bj, (memB bs []).get j = some bj := by
            rw [memB_get]
            unfold rwAt at hor
            split at hor
            · rename_i bb hbb
              exact ⟨bb, by rw [hbb]; rfl⟩
            · cases hor
          have hp0 : μ0 j = some p := by rw [← ha.same j hjl (by simp)]; exact hp
          exact hS0.apart j n0 bj b1 p p0 hbj h1 (by rw [hrwAt j bj hbj]; exact hor) hjn hp0 h3' h4.symm
      · rcases hrw with hrw | hrw
        · exact hS.apart s n b2 b p0 p' j2 hn (j3.rw (h2 hrw)) hs h3 hp' (h4.trans e)
        · exact hS.apart n s b b2 p' p0 hn j2 hrw (fun e => hs e.symm) hp' h3 (e.symm.trans h4.symm)
  refine ⟨renV (sg σ c) v, overN σ c bs m' c' m, c + (c' - σ.length), μ', hK, by rw [renV_cn, hμ'f]; exact hcv, After0.up hS.glob ⟨fun n p hp => ?_, fun n hn _ => hμ'low n hn, fun n hn => ?_, Nat.le_add_right _ _, ⟨fun n b hn => ?_, fun n n' b b' p p' hn hn' hrw hne hp hp' => ?_⟩,
    ⟨ha.step.os, ha.step.tape, ha.step.output, ha.step.size, fun k hk hno => ha.step.keep k hk fun n b0 p hn hrw hp => ?_, fun n b p hn hp => ?_⟩, ?_⟩⟩
  · have hn : n < c := by
      rcases Nat.lt_or_ge n c with h | h
      · exact h
      · rw [hf n h] at hp; cases hp
    rw [hμ'low n hn]; exact hp
  · change (if n < c then μ n else μ0' (σ.length + (n - c))) = none
    rw [if_neg (by omega)]
    exact ha.fresh _ (by omega)
  · rcases hfrom n b hn with ⟨j, b0, h1, rfl, rfl, _⟩ | ⟨hnc, hw, hg⟩
    · exact hsmall j b0 h1
    · obtain ⟨p, o, k1, k2, k3⟩ := hS.blk n b hg
      refine ⟨p, o, by rw [hμ'low n hnc]; exact k1, by rw [hstay n b p hnc hw hg k1]; exact k2, k3.le fun k q hq => ?_⟩
      have hk : k < c := by
        rcases Nat.lt_or_ge k c with h | h
        · exact h
        · rw [hf k h] at hq; cases hq
      rw [hμ'low k hk]; exact hq
  · rcases hfrom n b hn with ⟨j, b0, h1, rfl, rfl, h2⟩ | ⟨hnc, hw, hg⟩
    · rw [hμ'g] at hp
      rw [renB_rw] at hrw
      rcases hfrom n' b' hn' with ⟨j', b0', h1', rfl, rfl, h2'⟩ | ⟨hnc', hw', hg'⟩
      · rw [hμ'g] at hp'
        exact ha.sim.apart j j' b0 b0' p p' h1 h1' hrw (fun e => hne (by rw [e])) hp hp'
      · rw [hμ'low n' hnc'] at hp'
        exact hcross j b0 p n' b' p' h1 h2 hp hnc' hw' hg' hp' (.inl hrw)
    · rw [hμ'low n hnc] at hp
      rcases hfrom n' b' hn' with ⟨j', b0', h1', rfl, rfl, h2'⟩ | ⟨hnc', hw', hg'⟩
      · rw [hμ'g] at hp'
        exact fun e => hcross j' b0' p' n b p h1' h2' hp' hnc hw hg hp (.inr hrw) e.symm
      · rw [hμ'low n' hnc'] at hp'
        exact hS.apart n n' b b' p p' hg hg' hrw hne hp hp'
  · obtain ⟨s, b1, j1, j2, j3⟩ := hblk n b0 hn
    rw [hμ0 n s j1] at hp
    exact hno s b1 p j2 (j3.rw hrw) hp
  · rcases hfrom n b hn with ⟨j, b0, h1, rfl, rfl, h2⟩ | ⟨hnc, hw, hg⟩
    · rw [hμ'g] at hp
      rcases ha.step.img j b0 p h1 hp with h3 | ⟨n0, b1, p0, h3, h4, h5, h6⟩
      · exact .inl h3
      · obtain ⟨s, b2, j1, j2, j3⟩ := hblk n0 b1 h3
        rw [hμ0 n0 s j1] at h5
        exact .inr ⟨s, b2, p0, j2, fun e => j3.rw (h4 (by rw [renB_rw] at e; exact e)), h5, h6⟩
    · rw [hμ'low n hnc] at hp
      exact .inr ⟨n, b, p, hg, id, hp, rfl⟩
  · obtain ⟨δ, h1, h2⟩ := over_log σ c bs m m' c'
    exact ⟨δ, h1, fun n hn _ hd => over_low hlt c' n hn fun hw => hd (h2 n hw)⟩
end

end Go.Ab
