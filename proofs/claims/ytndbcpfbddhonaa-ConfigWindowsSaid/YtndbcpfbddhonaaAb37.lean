/- Slices that are read, wherever they lie: calls by what is told of their rows. -/
import Derived.Test.YtndbcpfbddhonaaAb36
namespace Go.Ab
set_option linter.unusedSimpArgs false
set_option linter.unusedVariables false

/-- A slice as it is met: its block, its first row, its other place, its rows' width. -/
structure Vw where
  k : Nat
  o : Nat
  alt : Option Nat
  z : Nat
def Vw.pl (w : Vw) (p : Pl) : Pl := ⟨p.blk, p.shift + (if p.extra = 0 then w.alt.getD w.o else w.o) * w.z, p.extra⟩
def gMu (l : List Vw) (μ : Mu) : Mu := fun n => match l[n]? with
  | some w => (μ w.k).map w.pl
  | none => none
theorem gMu_at {l : List Vw} {μ : Mu} {n : Nat} {w : Vw} (h : l[n]? = some w) : gMu l μ n = (μ w.k).map w.pl := by simp only [gMu, h]

def ArgV (l : List Vw) (A B : AV) : Prop := ∀ μ x, cn μ A = some x → cn (gMu l μ) B = some x
def ArgsV (l : List Vw) : List AV → List AV → Prop
  | [], [] => True
  | a :: as, b :: bs => ArgV l a b ∧ ArgsV l as bs
  | _, _ => False
theorem ArgsV.cn {l : List Vw} {μ : Mu} : ∀ {vs vs0 : List AV} {args : List Value}, ArgsV l vs vs0 → cnL μ vs = some args → cnL (gMu l μ) vs0 = some args
  | [], [], _, _, h => h
  | a :: as, b :: bs, args, ⟨h1, h2⟩, h => by
    simp only [cnL] at h ⊢
    split at h
    · rename_i x ys ha hs
      rw [h1 μ x ha, ArgsV.cn h2 hs]
      exact h
    · cases h
  | [], _ :: _, _, h, _ => h.elim
  | _ :: _, [], _, h, _ => h.elim
theorem ArgV.flat {l : List Vw} {A B : AV} (h : B.flat = true) (e : norm A = norm B) : ArgV l A B := fun μ x hx => by
  rw [cn_flat (μ' := μ) B h, ← cn_norm' μ B, ← e, cn_norm']; exact hx
theorem ArgV.slice {l : List Vw} {A : AV} {k z o n cap i : Nat} {opn : Bool} {alt : Option Nat} (h : norm A = .slice k z o n cap opn alt) (hl : l[i]? = some ⟨k, o, alt, z⟩) : ArgV l A (.sym (.slice i z 0 n cap opn none)) := fun μ x hx => by
  rw [← cn_norm' μ A, h] at hx
  simp only [Go.Ab.cn, Option.map_eq_some_iff] at hx ⊢
  obtain ⟨p, hp, rfl⟩ := hx
  refine ⟨_, by rw [gMu_at hl, hp]; rfl, ?_⟩
  simp only [plSlice, Vw.pl, Option.getD_none, Nat.zero_mul, Nat.add_zero, ite_self]
theorem ArgV.nil {l : List Vw} {A : AV} (h : norm A = .nilslice) : ArgV l A .nilslice := fun μ x hx => by
  rw [← cn_norm' μ A, h] at hx
  exact hx

/-- A block that is seen through a slice. -/
structure BlkV (m : Mem) (w : Vw) (rows0 : List (List AV)) : Prop where
  ok : ∃ rw rows, m.get w.k = some (.cells rw w.z rows) ∧ (∀ row ∈ rows0, AV.flatL row = true) ∧ (w.alt = none ∨ rows0 = []) ∧
    ∀ (i : Nat) (row0 : List AV), rows0[i]? = some row0 → ∃ row, rows[w.o + i]? = some row ∧ normL row = normL row0
theorem BlkV.blk {m : Mem} {w : Vw} {rows0 : List (List AV)} (h : BlkV m w rows0) (l : List Vw) {μ : Mu} {p : Pl} {o : Obj} {b : ABlk} (hb : m.get w.k = some b) (hr : BlkR μ p b o) : BlkR (gMu l μ) (w.pl p) (.cells false w.z rows0) o := by
  obtain ⟨rw', rows, h1, h2, h3, h4⟩ := h.ok
  rw [hb] at h1
  cases h1
  cases o <;> first | exact hr.elim | skip
  obtain ⟨k1, k2, _⟩ := hr
  refine ⟨fun row0 hrow => ?_, fun i row0 f v hi hf => ?_, fun e => by cases e⟩
  · obtain ⟨i, hi⟩ := List.getElem?_of_mem hrow
    obtain ⟨row, hr1, hr2⟩ := h4 i row0 hi
    obtain ⟨j1, j2⟩ := k1 row (List.mem_of_getElem? hr1)
    have hlen : row0.length = row.length := by
      have := congrArg List.length hr2
      simp only [normL_eq, List.length_map] at this
      omega
    refine ⟨by omega, fun v hv => ?_⟩
    obtain ⟨f, hf⟩ := List.getElem?_of_mem hv
    have hf2 : (normL row)[f]? = some (norm v) := by rw [hr2, normL_eq, List.getElem?_map, hf]; rfl
    rw [normL_eq, List.getElem?_map, Option.map_eq_some_iff] at hf2
    obtain ⟨u, hu, he⟩ := hf2
    rw [← isCell_norm v, ← he, isCell_norm]
    exact j2 u (List.mem_of_getElem? hu)
  · obtain ⟨row, hr1, hr2⟩ := h4 i row0 hi
    have halt : w.alt = none := by
      rcases h3 with h3 | h3
      · exact h3
      · rw [h3] at hi; simp at hi
    have hf2 : (normL row)[f]? = some (norm v) := by rw [hr2, normL_eq, List.getElem?_map, hf]; rfl
    rw [normL_eq, List.getElem?_map, Option.map_eq_some_iff] at hf2
    obtain ⟨u, hu, he⟩ := hf2
    obtain ⟨x, hx, hc⟩ := k2 _ row f u hr1 hu
    have hvf : v.flat = true := by
      have hfl := h2 row0 (List.mem_of_getElem? hi)
      have : ∀ (l : List AV), AV.flatL l = true → ∀ v ∈ l, v.flat = true := fun l => by
        induction l with
        | nil => intro _ v hv; cases hv
        | cons a l ih =>
          intro hl v hv
          simp only [AV.flatL, Bool.and_eq_true] at hl
          rcases List.mem_cons.1 hv with rfl | hv
          · exact hl.1
          · exact ih hl.2 v hv
      exact this _ hfl v (List.mem_of_getElem? hf)
    refine ⟨x, ?_, ?_⟩
    · rw [cn_flat (μ' := μ) v hvf, ← cn_norm' μ v, ← he, cn_norm']; exact hx
    · simp only [Vw.pl, halt, Option.getD_none, ite_self]
      rw [show p.shift + w.o * w.z + i * w.z + f = p.shift + (w.o + i) * w.z + f by rw [Nat.add_mul]; omega]
      exact hc

section
variable {P : Program}
theorem CallS.view {f : FuncId} (l : List Vw) {vs vs0 : List AV} {m : Mem} {c : Nat} {bs : List (Option ABlk)} {R0 : AV → Prop} (hlen : bs.length ≤ l.length) (hv : ArgsV l vs vs0)
    (hb : ∀ (i : Nat) (b : ABlk), bs[i]? = some (some b) → ∃ w rows0, l[i]? = some w ∧ b = .cells false w.z rows0 ∧ BlkV m w rows0)
    (h : CallS P f vs0 (memB bs []) l.length fun v _ _ => v.flat = true ∧ R0 v) : CallS P f vs m c fun v m' c' => R0 v ∧ m' = m ∧ c' = c := by
  have hg : ∀ n b, (memB bs []).get n = some b → ∃ w rows0, l[n]? = some w ∧ b = .cells false w.z rows0 ∧ BlkV m w rows0 := fun n b hn => by
    rw [memB_get] at hn
    refine hb n b ?_
    cases hx : bs[n]? with
    | none => rw [hx] at hn; cases hn
    | some ob => rw [hx] at hn; simp only [Option.join_some] at hn; rw [hn]
  have hrw : ∀ n b, (memB bs []).get n = some b → b.isRw = false := fun n b hn => by
    obtain ⟨w, rows0, _, rfl, _⟩ := hg n b hn
    rfl
  refine ⟨fun μ w args hargs hS hf => ?_⟩
  refine (h.ok (gMu l μ) w args (hv.cn hargs) ⟨⟨fun n b hn => ?_, fun n n' b b' p p' hn hn' hr => ?_⟩, hS.glob.ro fun n b hn => hrw n b hn⟩ fun n hn => by simp [gMu, List.getElem?_eq_none hn]).mono ?_
  · obtain ⟨vw, rows0, h1, rfl, h3⟩ := hg n b hn
    obtain ⟨rw', rows, k1, _⟩ := h3.ok
    obtain ⟨p, o, j1, j2, j3⟩ := hS.blk vw.k _ k1
    exact ⟨vw.pl p, o, by rw [gMu_at h1, j1]; rfl, j2, h3.blk l k1 j3⟩
  · rw [hrw n b hn] at hr; cases hr
  · rintro val w' ⟨v, m', c', μ', ⟨hfl, hr⟩, hcv, ha⟩
    have hst := ha.step
    have hkeep : ∀ k, k < w.heap.size → w'.heap[k]? = w.heap[k]? := fun k hk => hst.keep k hk fun n b p hn hr' => by rw [hrw n b hn] at hr'; cases hr'
    have hold : ∀ (k : Nat) (o : Obj), w.heap[k]? = some o → w'.heap[k]? = some o := fun k o ho => by
      have hk : k < w.heap.size := by
        obtain ⟨h, _⟩ := Array.getElem?_eq_some_iff.1 ho
        exact h
      rw [hkeep k hk]; exact ho
    refine ⟨v, m, c, μ, ⟨hr, rfl, rfl⟩, by rw [cn_flat (μ' := μ') v hfl]; exact hcv, After0.up hS.glob ⟨Le.refl μ, fun _ _ _ => rfl, hf, Nat.le_refl c, ⟨fun n b hn => ?_, hS.apart⟩, ⟨hst.os, hst.tape, hst.output, hst.size, fun k hk _ => hkeep k hk, fun n b p hn hp => .inr ⟨n, b, p, hn, fun z => z, hp, rfl⟩⟩, [], rfl, fun _ _ _ _ => rfl⟩⟩
    obtain ⟨p, o, k1, k2, k3⟩ := hS.blk n b hn
    exact ⟨p, o, k1, hold _ _ k2, k3⟩
end

/-- A slice that is met holds these. -/
inductive Sl {α : Type} (f : α → List AV) (z : Nat) (m : Mem) (A : AV) (xs : List α) : Prop
  | nil (h : norm A = .nilslice) (hx : xs = [])
  | at (k o n cap : Nat) (opn rw : Bool) (alt : Option Nat) (rows : List (List AV)) (h : norm A = .slice k z o n cap opn alt) (hk : m.get k = some (.cells rw z rows)) (hn : n = xs.length) (ha : alt = none ∨ xs = [])
      (hr : ∀ (j : Nat) (x : α), xs[j]? = some x → ∃ row, rows[o + j]? = some row ∧ normL row = normL (f x)) (hsz : n ≤ 140737488355328)
/-- What a contract over one slice supposes. -/
def Hat {α : Type} (f : α → List AV) (xs : List α) (rows : List (List AV)) (n : Nat) : Prop := n = xs.length ∧ n ≤ 140737488355328 ∧ (∀ row ∈ rows, AV.flatL row = true) ∧ At f xs rows

theorem blkV_of {α : Type} {f : α → List AV} {z : Nat} {m : Mem} {xs : List α} {k o : Nat} {rw : Bool} {alt : Option Nat} {rows : List (List AV)} (hf : ∀ x, AV.flatL (f x) = true) (hk : m.get k = some (.cells rw z rows)) (ha : alt = none ∨ xs = [])
    (hr : ∀ (j : Nat) (x : α), xs[j]? = some x → ∃ row, rows[o + j]? = some row ∧ normL row = normL (f x)) : BlkV m ⟨k, o, alt, z⟩ (xs.map f) := by
  refine ⟨rw, rows, hk, map_flat xs hf, ?_, fun i row0 hi => ?_⟩
  · rcases ha with h | h
    · exact .inl h
    · exact .inr (by rw [h]; rfl)
  · rw [List.getElem?_map, Option.map_eq_some_iff] at hi
    obtain ⟨x, hx, rfl⟩ := hi
    exact hr i x hx

section
variable {P : Program}
theorem CallT.ofFlat {f : FuncId} {vs : List AV} {m : Mem} {c : Nat} {R0 : AV → Prop} {K : AV → Mem → Nat → Prop} (h : CallS P f vs m c fun v m' c' => R0 (Go.Ab.full v) ∧ m' = m ∧ c' = c) (h1 : ∀ v, R0 v → ∃ v', Go.Ab.full v' = v ∧ K v' m c) : CallT (fun _ => P) f vs m c K := by
  refine ⟨CallS.asFull (h.mono ?_)⟩
  rintro v m' c' ⟨hr, rfl, rfl⟩
  exact h1 _ hr
/-- A call that reads one slice. -/
theorem CallT.sl1 {α : Type} {f : α → List AV} {z : Nat} {fn : FuncId} {vs : List AV} {m : Mem} {c : Nat} {A : AV} {xs : List α} {R0 : AV → Prop} {K : AV → Mem → Nat → Prop} (vs0 : AV → List AV) (hS : Sl f z m A xs) (hf : ∀ x, AV.flatL (f x) = true)
    (hv : ∀ l B, ArgV l A B → ArgsV l vs (vs0 B))
    (hnil : xs = [] → CallS P fn (vs0 .nilslice) (memB [] []) 0 fun v _ _ => v.flat = true ∧ R0 (Go.Ab.full v))
    (hat : ∀ rows n cap opn, Hat f xs rows n → CallS P fn (vs0 (.sym (.slice 0 z 0 n cap opn none))) (memB [some (.cells false z rows)] []) 1 fun v _ _ => v.flat = true ∧ R0 (Go.Ab.full v))
    (h1 : ∀ v, R0 v → ∃ v', Go.Ab.full v' = v ∧ K v' m c) : CallT (fun _ => P) fn vs m c K := by
  refine CallT.ofFlat (R0 := R0) ?_ h1
  cases hS with
  | nil h hx => exact CallS.view [] (bs := []) (Nat.le_refl 0) (hv [] _ (ArgV.nil h)) (fun i b hb => by simp at hb) (hnil hx)
  | «at» k o n cap opn rw' alt rows h hk hn ha hr hsz =>
    refine CallS.view [⟨k, o, alt, z⟩] (bs := [some (.cells false z (xs.map f))]) (Nat.le_refl 1) (hv _ _ (ArgV.slice (i := 0) h rfl)) (fun i b hb => ?_) (hat (xs.map f) n cap opn ⟨hn, hsz, map_flat xs hf, At.map f xs⟩)
    cases i with
    | zero => simp only [List.getElem?_cons_zero, Option.some.injEq] at hb; subst hb; exact ⟨_, _, rfl, rfl, blkV_of hf hk ha hr⟩
    | succ i => simp at hb
/-- A call that reads two slices. -/
theorem CallT.sl2 {α β : Type} {f : α → List AV} {g : β → List AV} {z y : Nat} {fn : FuncId} {vs : List AV} {m : Mem} {c : Nat} {A B : AV} {xs : List α} {ys : List β} {R0 : AV → Prop} {K : AV → Mem → Nat → Prop} (vs0 : AV → AV → List AV) (hA : Sl f z m A xs) (hB : Sl g y m B ys) (hf : ∀ x, AV.flatL (f x) = true) (hg : ∀ x, AV.flatL (g x) = true)
    (hv : ∀ l A' B', ArgV l A A' → ArgV l B B' → ArgsV l vs (vs0 A' B'))
    (h00 : xs = [] → ys = [] → CallS P fn (vs0 .nilslice .nilslice) (memB [] []) 0 fun v _ _ => v.flat = true ∧ R0 (Go.Ab.full v))
    (h10 : ys = [] → ∀ rows n cap opn, Hat f xs rows n → CallS P fn (vs0 (.sym (.slice 0 z 0 n cap opn none)) .nilslice) (memB [some (.cells false z rows)] []) 1 fun v _ _ => v.flat = true ∧ R0 (Go.Ab.full v))
    (h01 : xs = [] → ∀ rows n cap opn, Hat g ys rows n → CallS P fn (vs0 .nilslice (.sym (.slice 0 y 0 n cap opn none))) (memB [some (.cells false y rows)] []) 1 fun v _ _ => v.flat = true ∧ R0 (Go.Ab.full v))
    (h11 : ∀ rowsA na capa opna rowsB nb capb opnb, Hat f xs rowsA na → Hat g ys rowsB nb → CallS P fn (vs0 (.sym (.slice 0 z 0 na capa opna none)) (.sym (.slice 1 y 0 nb capb opnb none))) (memB [some (.cells false z rowsA), some (.cells false y rowsB)] []) 2 fun v _ _ => v.flat = true ∧ R0 (Go.Ab.full v))
    (h1 : ∀ v, R0 v → ∃ v', Go.Ab.full v' = v ∧ K v' m c) : CallT (fun _ => P) fn vs m c K := by
  refine CallT.ofFlat (R0 := R0) ?_ h1
  cases hA with
  | nil ha hx =>
    cases hB with
    | nil hb hy => exact CallS.view [] (bs := []) (Nat.le_refl 0) (hv [] _ _ (ArgV.nil ha) (ArgV.nil hb)) (fun i b hb => by simp at hb) (h00 hx hy)
    | «at» k o n cap opn rw' alt rows h hk hn ha' hr hsz =>
      refine CallS.view [⟨k, o, alt, y⟩] (bs := [some (.cells false y (ys.map g))]) (Nat.le_refl 1) (hv _ _ _ (ArgV.nil ha) (ArgV.slice (i := 0) h rfl)) (fun i b hb => ?_) (h01 hx (ys.map g) n cap opn ⟨hn, hsz, map_flat ys hg, At.map g ys⟩)
      cases i with
      | zero => simp only [List.getElem?_cons_zero, Option.some.injEq] at hb; subst hb; exact ⟨_, _, rfl, rfl, blkV_of hg hk ha' hr⟩
      | succ i => simp at hb
  | «at» k o n cap opn rw' alt rows h hk hn ha' hr hsz =>
    cases hB with
    | nil hb hy =>
      refine CallS.view [⟨k, o, alt, z⟩] (bs := [some (.cells false z (xs.map f))]) (Nat.le_refl 1) (hv _ _ _ (ArgV.slice (i := 0) h rfl) (ArgV.nil hb)) (fun i b hb => ?_) (h10 hy (xs.map f) n cap opn ⟨hn, hsz, map_flat xs hf, At.map f xs⟩)
      cases i with
      | zero => simp only [List.getElem?_cons_zero, Option.some.injEq] at hb; subst hb; exact ⟨_, _, rfl, rfl, blkV_of hf hk ha' hr⟩
      | succ i => simp at hb
    | «at» k2 o2 n2 cap2 opn2 rw2 alt2 rows2 h2 hk2 hn2 ha2 hr2 hsz2 =>
      refine CallS.view [⟨k, o, alt, z⟩, ⟨k2, o2, alt2, y⟩] (bs := [some (.cells false z (xs.map f)), some (.cells false y (ys.map g))]) (Nat.le_refl 2) (hv _ _ _ (ArgV.slice (i := 0) h rfl) (ArgV.slice (i := 1) h2 rfl)) (fun i b hb => ?_)
        (h11 (xs.map f) n cap opn (ys.map g) n2 cap2 opn2 ⟨hn, hsz, map_flat xs hf, At.map f xs⟩ ⟨hn2, hsz2, map_flat ys hg, At.map g ys⟩)
      match i with
      | 0 => simp only [List.getElem?_cons_zero, Option.some.injEq] at hb; subst hb; exact ⟨_, _, rfl, rfl, blkV_of hf hk ha' hr⟩
      | 1 => simp only [List.getElem?_cons_succ, List.getElem?_cons_zero, Option.some.injEq] at hb; subst hb; exact ⟨_, _, rfl, rfl, blkV_of hg hk2 ha2 hr2⟩
      | i + 2 => simp at hb
end

/-- Rows of a block at their place. -/
theorem Sl.rows {α : Type} {f : α → List AV} {z : Nat} {m : Mem} {A : AV} {xs : List α} {k o n cap : Nat} {opn rw : Bool} {rows : List (List AV)} (h : norm A = .slice k z o n cap opn none) (hk : m.get k = some (.cells rw z rows)) (hn : n = xs.length) (hsz : n ≤ 140737488355328) (hr : At f xs (rows.drop o)) : Sl f z m A xs :=
  .at k o n cap opn rw none rows h hk hn (.inl rfl) (fun j x hx => ⟨f x, by have := hr j x hx; rwa [List.getElem?_drop] at this, rfl⟩) hsz
theorem Sl.rows0 {α : Type} {f : α → List AV} {z : Nat} {m : Mem} {A : AV} {xs : List α} {k n cap : Nat} {opn rw : Bool} {rows : List (List AV)} (h : norm A = .slice k z 0 n cap opn none) (hk : m.get k = some (.cells rw z rows)) (hn : n = xs.length) (hsz : n ≤ 140737488355328) (hr : At f xs rows) : Sl f z m A xs :=
  .at k 0 n cap opn rw none rows h hk hn (.inl rfl) (fun j x hx => ⟨f x, by have := hr j x hx; rwa [Nat.zero_add], rfl⟩) hsz
/-- Rows as they stand in the text. -/
def rowsN {α : Type} (f : α → List AV) : List (List AV) → List α → Prop
  | _, [] => True
  | row :: rows, x :: xs => normL row = normL (f x) ∧ rowsN f rows xs
  | [], _ :: _ => False
theorem rowsN_at {α : Type} {f : α → List AV} : ∀ {rows : List (List AV)} {xs : List α}, rowsN f rows xs → ∀ (j : Nat) (x : α), xs[j]? = some x → ∃ row, rows[j]? = some row ∧ normL row = normL (f x)
  | _, [], _, j, x, hx => by simp at hx
  | row :: rows, x :: xs, ⟨h1, h2⟩, j, y, hx => by
    cases j with
    | zero => simp only [List.getElem?_cons_zero, Option.some.injEq] at hx; subst hx; exact ⟨row, rfl, h1⟩
    | succ j => simp only [List.getElem?_cons_succ] at hx ⊢; exact rowsN_at h2 j y hx
  | [], _ :: _, h, _, _, _ => h.elim
theorem Sl.text {α : Type} {f : α → List AV} {z : Nat} {m : Mem} {A : AV} {xs : List α} {k o n cap : Nat} {opn rw : Bool} {rows : List (List AV)} (h : norm A = .slice k z o n cap opn none) (hk : m.get k = some (.cells rw z rows)) (hn : n = xs.length) (hsz : Nat.ble n 140737488355328 = true) (hr : rowsN f (rows.drop o) xs) : Sl f z m A xs :=
  .at k o n cap opn rw none rows h hk hn (.inl rfl) (fun j x hx => by
    obtain ⟨row, h1, h2⟩ := rowsN_at hr j x hx
    rw [List.getElem?_drop] at h1
    exact ⟨row, h1, h2⟩) (Nat.le_of_ble_eq_true hsz)

end Go.Ab
