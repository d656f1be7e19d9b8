/- pvm.Step at any place, of any program and numbers. Helpers of the laws over pvm.Step. Programs that are made and written: their rows. Steps that may not be. -/
import Derived.Test.YtdaccjfijfnlfaaStpH
import Derived.Test.YtdaccjfijfnlfaaStpK
namespace Go.Proofs.Ytdaccjfijfnlfaa.Stp
open Go.Ab Base Cod Kit
set_option linter.unusedVariables false
set_option linter.unusedSimpArgs false

theorem stepOk_iff {p : List Instr} {np : Nat} {pc acc x0 x1 x2 x3 x4 x5 x6 x7 x8 x9 x10 x11 x12 x13 x14 x15 inn outs : Int} {gs : List Int} (hn : np = p.length) : StepOk p pc acc [x0, x1, x2, x3, x4, x5, x6, x7, x8, x9, x10, x11, x12, x13, x14, x15] inn outs gs ↔ May p ∧ ((0 ≤ pc ∧ pc.toNat < max np 1) ∧ Wd acc ∧ MemOk x0 x1 x2 x3 x4 x5 x6 x7 x8 x9 x10 x11 x12 x13 x14 x15) ∧ AroundOk inn outs gs := by
  subst hn
  unfold StepOk
  rw [memOk_iff]
  exact ⟨fun ⟨a, b, c, d, e⟩ => ⟨a, ⟨b, c, d⟩, e⟩, fun ⟨a, ⟨b, c, d⟩, e⟩ => ⟨a, b, c, d, e⟩⟩
theorem stepR_bad {p : List Instr} {pc acc inn outs : Int} {xs gs : List Int} (h : ¬ StepOk p pc acc xs inn outs gs) : StepR p pc acc xs inn outs gs noneA := ⟨fun _ => rfl, fun e => absurd e h, fun e => absurd e h⟩
theorem stepR_nil {p : List Instr} {pc acc inn outs : Int} {xs gs : List Int} (h : StepOk p pc acc xs inn outs gs) (hp : p = []) : StepR p pc acc xs inn outs gs (outA ⟨pc, acc, xs, false, -1, -1, 0, false⟩) := ⟨fun e => absurd h e, fun _ _ => rfl, fun _ op arg e => by subst hp; simp at e⟩
theorem stepR_go {p : List Instr} {pc acc inn outs op arg : Int} {xs gs : List Int} (h : StepOk p pc acc xs inn outs gs) (hx : p[pc.toNat]? = some ⟨op, arg⟩) : StepR p pc acc xs inn outs gs (outA (dd op arg ((pc + 1) % p.length) acc xs inn outs gs)) := ⟨fun e => absurd h e, fun _ hp => by subst hp; simp at hx, fun _ op' arg' e => by rw [hx] at e; cases e; rfl⟩

/-- pvm.Step, wherever its program and its numbers lie. -/
theorem stepT {p : List Instr} {gs : List Int} {pc acc x0 x1 x2 x3 x4 x5 x6 x7 x8 x9 x10 x11 x12 x13 x14 x15 inn outs : Int} {A V I O G : AV} {m : Mem} {c : Nat} {K : AV → Mem → Nat → Prop} (hA : Sl tu 2 m A p) (hG : Sl iv 1 m G gs) (hV : norm V = norm (.agg (vmr pc acc x0 x1 x2 x3 x4 x5 x6 x7 x8 x9 x10 x11 x12 x13 x14 x15))) (hI : norm I = .int .i64 inn) (hO : norm O = .int .i64 outs)
    (h : ∀ v, StepR p pc acc [x0, x1, x2, x3, x4, x5, x6, x7, x8, x9, x10, x11, x12, x13, x14, x15] inn outs gs v → ∃ v', Go.Ab.full v' = v ∧ K v' m c) : CallT (fun _ => Try.prog) 12 [A, V, I, O, G] m c K := by
  refine CallT.sl2 (R0 := StepR p pc acc [x0, x1, x2, x3, x4, x5, x6, x7, x8, x9, x10, x11, x12, x13, x14, x15] inn outs gs) (fun a b => [a, .agg (vmr pc acc x0 x1 x2 x3 x4 x5 x6 x7 x8 x9 x10 x11 x12 x13 x14 x15), i6 inn, i6 outs, b]) hA hG (fun _ => rfl) (fun _ => rfl) (fun l A' B' a b => ⟨a, ArgV.flat rfl hV, ArgV.flat rfl hI, ArgV.flat rfl hO, b, trivial⟩) ?_ ?_ ?_ ?_ h
  · intro hp hg
    subst hp
    subst hg
    exact stepZ0 pc acc x0 x1 x2 x3 x4 x5 x6 x7 x8 x9 x10 x11 x12 x13 x14 x15 inn outs _ (fun hb => stepR_bad fun e => hb ((stepOk_iff rfl).1 e).2) (fun h1 h2 => stepR_nil ((stepOk_iff rfl).2 ⟨mayNil, h1, h2⟩) rfl)
  · intro hg rows n cap opn hP
    subst hg
    have hn := hP.1
    exact stepN p rows n cap opn hP pc acc x0 x1 x2 x3 x4 x5 x6 x7 x8 x9 x10 x11 x12 x13 x14 x15 inn outs _ (fun hb => stepR_bad fun e => hb ((stepOk_iff hn).1 e)) (fun h1 h2 h3 hp => stepR_nil ((stepOk_iff hn).2 ⟨h1, h2, h3⟩) hp) (fun h1 h2 h3 op arg hx nx hnx => by rw [hnx, hn]; exact stepR_go ((stepOk_iff hn).2 ⟨h1, h2, h3⟩) hx)
  · intro hp rows n cap opn hG
    subst hp
    exact stepZ1 gs rows n cap opn hG pc acc x0 x1 x2 x3 x4 x5 x6 x7 x8 x9 x10 x11 x12 x13 x14 x15 inn outs _ (fun hb => stepR_bad fun e => hb ((stepOk_iff rfl).1 e).2) (fun h1 h2 => stepR_nil ((stepOk_iff rfl).2 ⟨mayNil, h1, h2⟩) rfl)
  · intro rowsA na capa opna rowsB nb capb opnb hP hG
    have hn := hP.1
    exact stepC p rowsA na capa opna hP gs rowsB nb capb opnb hG pc acc x0 x1 x2 x3 x4 x5 x6 x7 x8 x9 x10 x11 x12 x13 x14 x15 inn outs _ (fun hb => stepR_bad fun e => hb ((stepOk_iff hn).1 e)) (fun h1 h2 h3 hp => stepR_nil ((stepOk_iff hn).2 ⟨h1, h2, h3⟩) hp) (fun h1 h2 h3 op arg hx nx hnx => by rw [hnx, hn]; exact stepR_go ((stepOk_iff hn).2 ⟨h1, h2, h3⟩) hx)
/-- What a step that may not be answers. -/
def noneB : AV := .tuple [.agg [.int .i64 0, .int .i64 0, .int .i64 0, .int .i64 0, .int .i64 0, .int .i64 0, .int .i64 0, .int .i64 0, .int .i64 0, .int .i64 0, .int .i64 0, .int .i64 0, .int .i64 0, .int .i64 0, .int .i64 0, .int .i64 0, .int .i64 0, .int .i64 0], .agg [.bool false, .int .i64 0, .int .i64 0, .int .i64 0, .bool false], .int .i64 1000]
theorem stepBad {p : List Instr} {gs : List Int} {pc acc x0 x1 x2 x3 x4 x5 x6 x7 x8 x9 x10 x11 x12 x13 x14 x15 inn outs : Int} {A V I O G : AV} {m : Mem} {c : Nat} {K : AV → Mem → Nat → Prop} (hA : Sl tu 2 m A p) (hG : Sl iv 1 m G gs) (hV : norm V = norm (.agg (vmr pc acc x0 x1 x2 x3 x4 x5 x6 x7 x8 x9 x10 x11 x12 x13 x14 x15))) (hI : norm I = .int .i64 inn) (hO : norm O = .int .i64 outs)
    (hb : ¬ StepOk p pc acc [x0, x1, x2, x3, x4, x5, x6, x7, x8, x9, x10, x11, x12, x13, x14, x15] inn outs gs) (h : K noneB m c) : CallT (fun _ => Try.prog) 12 [A, V, I, O, G] m c K :=
  stepT hA hG hV hI hO fun v hv => ⟨noneB, (hv.1 hb).symm ▸ rfl, h⟩
/-- A step of an instruction that is known. -/
theorem stepGo {p : List Instr} {gs : List Int} {pc acc x0 x1 x2 x3 x4 x5 x6 x7 x8 x9 x10 x11 x12 x13 x14 x15 inn outs : Int} {A V I O G v' : AV} {m : Mem} {c : Nat} {K : AV → Mem → Nat → Prop} (op arg : Int) (o : Out) (hA : Sl tu 2 m A p) (hG : Sl iv 1 m G gs) (hV : norm V = norm (.agg (vmr pc acc x0 x1 x2 x3 x4 x5 x6 x7 x8 x9 x10 x11 x12 x13 x14 x15))) (hI : norm I = .int .i64 inn) (hO : norm O = .int .i64 outs)
    (hok : StepOk p pc acc [x0, x1, x2, x3, x4, x5, x6, x7, x8, x9, x10, x11, x12, x13, x14, x15] inn outs gs) (hx : p[pc.toNat]? = some ⟨op, arg⟩) (ho : dd op arg ((pc + 1) % p.length) acc [x0, x1, x2, x3, x4, x5, x6, x7, x8, x9, x10, x11, x12, x13, x14, x15] inn outs gs = o) (hv' : Go.Ab.full v' = outA o) (h : K v' m c) : CallT (fun _ => Try.prog) 12 [A, V, I, O, G] m c K :=
  stepT hA hG hV hI hO fun v hv => ⟨v', by rw [hv.2.2 hok op arg hx, ho, hv'], h⟩
theorem ar0 : AroundOk 0 0 [] := ⟨by unfold Wd; omega, by omega, by decide, fun g hg => by cases hg⟩
end Go.Proofs.Ytdaccjfijfnlfaa.Stp

namespace Go.Proofs.Ytdaccjfijfnlfaa.Stp
open Go.Ab Base Kit
theorem rowAt {rows : List (List AV)} {j : Nat} {R : List AV} {K : List AV → Prop} (h : rows[j]? = some R) (k : K R) : ∃ row, rows[j]? = some row ∧ K row := ⟨R, h, k⟩
/-- Rows that read as these numbers. -/
def RN (gs : List Int) (rows : List (List AV)) : Prop := ∀ (j : Nat) (x : Int), gs[j]? = some x → ∃ row, rows[0 + j]? = some row ∧ normL row = normL (iv x)
theorem RN.sl {gs : List Int} {rows : List (List AV)} {k cap n : Nat} {opn rw : Bool} {A : AV} {m : Mem} (h : RN gs rows) (hA : norm A = .slice k 1 0 n cap opn none) (hk : m.get k = some (.cells rw 1 rows)) (hn : n = gs.length) (hsz : Nat.ble n 140737488355328 = true) : Sl iv 1 m A gs :=
  .at k 0 n cap opn rw none rows hA hk hn (.inl rfl) h (Nat.le_of_ble_eq_true hsz)
/-- A number is written into a row of eight, at a marked place. -/
theorem stG {k w : Int} {cs : List AV} {s j : Nat} {K : List (List AV) → Prop} (hj : j = 0 + k.toNat) (h0 : 0 ≤ k) (h1 : k < 8) (hs : s = 1) (hc : cs = [.sym (.int .i64 w)]) (h : ∀ gs rows', gs = [-1, -1, -1, -1, -1, -1, -1, -1].set k.toNat w → gs.length = 8 → RN gs rows' → K rows') :
    ∃ row, [[AV.int .i64 (-1)], [AV.int .i64 (-1)], [AV.int .i64 (-1)], [AV.int .i64 (-1)], [AV.int .i64 (-1)], [AV.int .i64 (-1)], [AV.int .i64 (-1)], [AV.int .i64 (-1)]][j]? = some row ∧ (Unit → 0 + s ≤ row.length) ∧ ∀ rows', rows' = List.set [[AV.int .i64 (-1)], [AV.int .i64 (-1)], [AV.int .i64 (-1)], [AV.int .i64 (-1)], [AV.int .i64 (-1)], [AV.int .i64 (-1)], [AV.int .i64 (-1)], [AV.int .i64 (-1)]] j (setCells row 0 cs) → K rows' := by
  subst hs hc
  obtain ⟨n, hn⟩ : ∃ n, n = k.toNat := ⟨_, rfl⟩
  rw [← hn] at hj
  rw [Nat.zero_add] at hj
  subst hj
  have e : j = 0 ∨ j = 1 ∨ j = 2 ∨ j = 3 ∨ j = 4 ∨ j = 5 ∨ j = 6 ∨ j = 7 := by omega
  rcases e with rfl | rfl | rfl | rfl | rfl | rfl | rfl | rfl <;>
   (refine ⟨_, rfl, fun _ => Nat.le_refl _, fun rows' e => h _ rows' (by rw [← hn]) (by simp) ?_⟩
    subst e
    intro j x hx
    rw [Nat.zero_add]
    exact rowsN_at (f := iv) (by simp [rowsN, iv, normL, norm, setCells]) j x hx)
theorem gs_other {k k1 w : Int} {gs : List Int} (hg : gs = [-1, -1, -1, -1, -1, -1, -1, -1].set k1.toNat w) (h0 : 0 ≤ k) (h1 : k < 8) (h2 : 0 ≤ k1) (hne : ¬ k = k1) : gs.getD k.toNat (-1) = -1 := by
  subst hg
  have : k.toNat ≠ k1.toNat := by omega
  rw [List.getD_eq_getElem?_getD, List.getElem?_set_ne (by omega)]
  have e : k.toNat = 0 ∨ k.toNat = 1 ∨ k.toNat = 2 ∨ k.toNat = 3 ∨ k.toNat = 4 ∨ k.toNat = 5 ∨ k.toNat = 6 ∨ k.toNat = 7 := by omega
  rcases e with e | e | e | e | e | e | e | e <;> rw [e] <;> rfl
theorem gs_same {k1 w : Int} {gs : List Int} (hg : gs = [-1, -1, -1, -1, -1, -1, -1, -1].set k1.toNat w) (h2 : 0 ≤ k1) (h3 : k1 < 8) : gs.getD k1.toNat (-1) = w := by
  subst hg
  rw [List.getD_eq_getElem?_getD, List.getElem?_set_self (by simp only [List.length_cons, List.length_nil]; omega)]
  rfl
theorem gs_ok {k1 w : Int} {gs : List Int} (hg : gs = [-1, -1, -1, -1, -1, -1, -1, -1].set k1.toNat w) (hw : Wd w) : GetsOk gs := by
  subst hg
  refine ⟨by simp, fun g hgm => ?_⟩
  rcases List.mem_or_eq_of_mem_set hgm with h | h
  · exact .inl (by simpa using h)
  · exact .inr (h ▸ hw)
end Go.Proofs.Ytdaccjfijfnlfaa.Stp

namespace Go.Proofs.Ytdaccjfijfnlfaa.Stp
open Go.Ab Base Cod Kit
theorem and1 {a v : Int} (h : v = IntKind.wrap .i64 ((BitVec.ofInt (IntKind.bits .i64) a &&& BitVec.ofInt (IntKind.bits .i64) 1).toNat : Int)) : v = a % 2 := Br.andM (k := 1) (by decide) h
/-- Rows that read as this program. -/
def RI (p : List Instr) (rows : List (List AV)) : Prop := rows.length = p.length ∧ ∀ (j : Nat) (x : Instr), p[j]? = some x → ∃ a b, rows[j]? = some [a, b] ∧ norm a = .int .i64 x.op ∧ norm b = .int .i64 x.arg
theorem RI.sl {p : List Instr} {rows : List (List AV)} {k cap n : Nat} {opn rw : Bool} {A : AV} {m : Mem} (h : RI p rows) (hA : norm A = .slice k 2 0 n cap opn none) (hk : m.get k = some (.cells rw 2 rows)) (hn : n = p.length) (hsz : n ≤ 140737488355328) : Sl tu 2 m A p :=
  .at k 0 n cap opn rw none rows hA hk hn (.inl rfl) (fun j x hx => by
    obtain ⟨a, b, h1, h2, h3⟩ := h.2 j x hx
    exact ⟨[a, b], by rw [Nat.zero_add]; exact h1, by simp only [normL, h2, h3, tu, norm]⟩) hsz
theorem RI.make {n : Nat} {rows : List (List AV)} (h : rows = List.replicate n [.int .i64 0, .int .i64 0]) : RI (List.replicate n ⟨0, 0⟩) rows := by
  subst h
  refine ⟨by simp, fun j x hx => ?_⟩
  rw [List.getElem?_replicate] at hx ⊢
  split at hx
  · cases hx; rename_i hj; rw [if_pos hj]; exact ⟨_, _, rfl, rfl, rfl⟩
  · cases hx
theorem RI.set {p : List Instr} {rows : List (List AV)} (h : RI p rows) {j : Nat} {a b : AV} {op arg : Int} (ha : norm a = .int .i64 op) (hb : norm b = .int .i64 arg) : RI (p.set j ⟨op, arg⟩) (rows.set j [a, b]) := by
  refine ⟨by simp [h.1], fun i x hx => ?_⟩
  by_cases e : j = i
  · subst e
    have hj : j < p.length := by have := (List.getElem?_eq_some_iff.1 hx).1; simpa using this
    rw [List.getElem?_set_self hj] at hx
    cases hx
    exact ⟨a, b, List.getElem?_set_self (by rw [h.1]; exact hj), ha, hb⟩
  · rw [List.getElem?_set_ne e] at hx
    obtain ⟨a', b', h1, h2, h3⟩ := h.2 i x hx
    exact ⟨a', b', by rw [List.getElem?_set_ne e]; exact h1, h2, h3⟩
theorem stI0 {p : List Instr} {rows : List (List AV)} (h : RI p rows) {cs : List AV} {j f s : Nat} {op arg : Int} {K : List (List AV) → Prop} (A B : AV) (hj : j < p.length) (hf : f = 0) (hs : s = 2) (hc : cs = [A, B]) (ha : norm A = .int .i64 op) (hb : norm B = .int .i64 arg) (k : ∀ rows', RI (p.set j ⟨op, arg⟩) rows' → K rows') :
    ∃ row, rows[j]? = some row ∧ (Unit → f + s ≤ row.length) ∧ ∀ rows', rows' = List.set rows j (setCells row f cs) → K rows' := by
  subst hf hs hc
  obtain ⟨a, b, h1, h2, h3⟩ := h.2 j p[j] (List.getElem?_eq_getElem hj)
  refine ⟨_, h1, fun _ => Nat.le_refl _, fun rows' e => k rows' ?_⟩
  rw [e]
  exact h.set ha hb
theorem stI1 {p : List Instr} {rows : List (List AV)} (h : RI p rows) {cs : List AV} {j f s : Nat} {op op0 arg : Int} {K : List (List AV) → Prop} (A : AV) (hj : p[j]? = some ⟨op0, arg⟩) (hf : f = 0) (hs : s = 1) (hc : cs = [A]) (ha : norm A = .int .i64 op) (k : ∀ rows', RI (p.set j ⟨op, arg⟩) rows' → K rows') :
    ∃ row, rows[j]? = some row ∧ (Unit → f + s ≤ row.length) ∧ ∀ rows', rows' = List.set rows j (setCells row f cs) → K rows' := by
  subst hf hs hc
  obtain ⟨a, b, h1, h2, h3⟩ := h.2 j _ hj
  refine ⟨_, h1, fun _ => Nat.le_add_left 1 1, fun rows' e => k rows' ?_⟩
  rw [e]
  exact h.set ha h3
theorem allOk_set {many : Int} {p : List Instr} {j : Nat} {op arg : Int} (h : AllOk many p) (ho : OkI many op arg) : AllOk many (p.set j ⟨op, arg⟩) := fun x hx => by
  rcases List.mem_or_eq_of_mem_set hx with hx | hx
  · exact h x hx
  · subst hx; exact ho
theorem allOk_zeros {many : Int} {n : Nat} : AllOk many (List.replicate n ⟨0, 0⟩) := fun x hx => by
  rw [List.eq_of_mem_replicate hx]; unfold OkI; dsimp only; omega
end Go.Proofs.Ytdaccjfijfnlfaa.Stp

namespace Go.Proofs.Ytdaccjfijfnlfaa.Stp
open Go.Ab Base Cod Kit
section
variable {p : List Instr} {pc acc inn outs : Int} {xs gs : List Int}
theorem bad_pc (h : ¬ (0 ≤ pc ∧ pc.toNat < max p.length 1)) : ¬ StepOk p pc acc xs inn outs gs := fun e => h e.2.1
theorem bad_acc (h : acc < 0 ∨ 4294967296 ≤ acc) : ¬ StepOk p pc acc xs inn outs gs := fun e => by have h3 := e.2.2.1; unfold Wd at h3; omega
theorem bad_mem (x : Int) (hx : x ∈ xs) (h : x < 0 ∨ 4294967296 ≤ x) : ¬ StepOk p pc acc xs inn outs gs := fun e => by have h3 := e.2.2.2.1 x hx; unfold Wd at h3; omega
theorem bad_in (h : inn < 0 ∨ 4294967296 ≤ inn) : ¬ StepOk p pc acc xs inn outs gs := fun e => by have h3 := e.2.2.2.2.1; unfold Wd at h3; omega
theorem bad_out (h : outs < 0 ∨ 255 < outs) : ¬ StepOk p pc acc xs inn outs gs := fun e => by have h3 := e.2.2.2.2.2.1; omega
theorem bad_len (h : 8 < gs.length) : ¬ StepOk p pc acc xs inn outs gs := fun e => by have h3 := e.2.2.2.2.2.2.1; omega
theorem bad_get (x : Int) (hx : x ∈ gs) (h : x < -1 ∨ 4294967296 ≤ x) : ¬ StepOk p pc acc xs inn outs gs := fun e => by
  have h3 := e.2.2.2.2.2.2.2 x hx
  unfold Wd at h3
  omega
theorem bad_code (op arg : Int) (hx : (⟨op, arg⟩ : Instr) ∈ p) (ho : op = 11) (h : 1 ≤ arg) : ¬ StepOk p pc acc xs inn outs gs := fun e => by
  have h3 := e.1.2 _ hx
  unfold OkI at h3
  dsimp only at h3
  omega
end
theorem RN.make {n : Nat} {rows : List (List AV)} (h : rows = List.replicate n [.int .i64 0]) : RN (List.replicate n 0) rows := fun j x hx => by
  subst h
  rw [Nat.zero_add, List.getElem?_replicate] at *
  split at hx
  · rename_i hj
    cases hx; rw [if_pos hj]; exact ⟨_, rfl, rfl⟩
  · cases hx
theorem split16 {v : Int} {K : Int → Prop} (h : 0 ≤ v ∧ v < 16) (k0 : K 0) (k1 : K 1) (k2 : K 2) (k3 : K 3) (k4 : K 4) (k5 : K 5) (k6 : K 6) (k7 : K 7) (k8 : K 8) (k9 : K 9) (k10 : K 10) (k11 : K 11) (k12 : K 12) (k13 : K 13) (k14 : K 14) (k15 : K 15) : K v := by
  have e : v = 0 ∨ v = 1 ∨ v = 2 ∨ v = 3 ∨ v = 4 ∨ v = 5 ∨ v = 6 ∨ v = 7 ∨ v = 8 ∨ v = 9 ∨ v = 10 ∨ v = 11 ∨ v = 12 ∨ v = 13 ∨ v = 14 ∨ v = 15 := by omega
  rcases e with rfl | rfl | rfl | rfl | rfl | rfl | rfl | rfl | rfl | rfl | rfl | rfl | rfl | rfl | rfl | rfl <;> assumption
theorem and6 {a v : Int} (h : v = IntKind.wrap .i64 ((BitVec.ofInt (IntKind.bits .i64) a &&& BitVec.ofInt (IntKind.bits .i64) 63).toNat : Int)) : v = a % 64 := Br.andM (k := 6) (by decide) h
/-- A word is written into a machine of zeros, at a marked place. -/
theorem stZ {b v : Int} {cs : List AV} {s j : Nat} {K : List (List AV) → Prop} (hj : j = 2 + v.toNat * 1) (h : 0 ≤ v ∧ v < 16) (hs : s = 1) (hc : cs = [.sym (.int .i64 b)]) (k : ∀ (z0 z1 z2 z3 z4 z5 z6 z7 z8 z9 z10 z11 z12 z13 z14 z15 : AV) (y0 y1 y2 y3 y4 y5 y6 y7 y8 y9 y10 y11 y12 y13 y14 y15 : Int), norm (.agg [.int .i64 0, .int .i64 0, z0, z1, z2, z3, z4, z5, z6, z7, z8, z9, z10, z11, z12, z13, z14, z15]) = norm (.agg (vmr 0 0 y0 y1 y2 y3 y4 y5 y6 y7 y8 y9 y10 y11 y12 y13 y14 y15)) → b ∈ [y0, y1, y2, y3, y4, y5, y6, y7, y8, y9, y10, y11, y12, y13, y14, y15] → K [[.int .i64 0, .int .i64 0, z0, z1, z2, z3, z4, z5, z6, z7, z8, z9, z10, z11, z12, z13, z14, z15]]) :
    ∃ row, [[AV.int .i64 0, AV.int .i64 0, AV.int .i64 0, AV.int .i64 0, AV.int .i64 0, AV.int .i64 0, AV.int .i64 0, AV.int .i64 0, AV.int .i64 0, AV.int .i64 0, AV.int .i64 0, AV.int .i64 0, AV.int .i64 0, AV.int .i64 0, AV.int .i64 0, AV.int .i64 0, AV.int .i64 0, AV.int .i64 0]][0]? = some row ∧ (Unit → j + s ≤ row.length) ∧ ∀ rows', rows' = List.set [[AV.int .i64 0, AV.int .i64 0, AV.int .i64 0, AV.int .i64 0, AV.int .i64 0, AV.int .i64 0, AV.int .i64 0, AV.int .i64 0, AV.int .i64 0, AV.int .i64 0, AV.int .i64 0, AV.int .i64 0, AV.int .i64 0, AV.int .i64 0, AV.int .i64 0, AV.int .i64 0, AV.int .i64 0, AV.int .i64 0]] 0 (setCells row j cs) → K rows' := by
  subst hj hs hc
  have e : v.toNat = 0 ∨ v.toNat = 1 ∨ v.toNat = 2 ∨ v.toNat = 3 ∨ v.toNat = 4 ∨ v.toNat = 5 ∨ v.toNat = 6 ∨ v.toNat = 7 ∨ v.toNat = 8 ∨ v.toNat = 9 ∨ v.toNat = 10 ∨ v.toNat = 11 ∨ v.toNat = 12 ∨ v.toNat = 13 ∨ v.toNat = 14 ∨ v.toNat = 15 := by omega
  rcases e with e | e | e | e | e | e | e | e | e | e | e | e | e | e | e | e
  · rw [e]; exact ⟨_, rfl, fun _ => by simp only [List.length_cons, List.length_nil]; omega, fun rows' e' => e' ▸ k (.sym (.int .i64 b)) (.int .i64 0) (.int .i64 0) (.int .i64 0) (.int .i64 0) (.int .i64 0) (.int .i64 0) (.int .i64 0) (.int .i64 0) (.int .i64 0) (.int .i64 0) (.int .i64 0) (.int .i64 0) (.int .i64 0) (.int .i64 0) (.int .i64 0) b 0 0 0 0 0 0 0 0 0 0 0 0 0 0 0 rfl (by simp)⟩
  · rw [e]; exact ⟨_, rfl, fun _ => by simp only [List.length_cons, List.length_nil]; omega, fun rows' e' => e' ▸ k (.int .i64 0) (.sym (.int .i64 b)) (.int .i64 0) (.int .i64 0) (.int .i64 0) (.int .i64 0) (.int .i64 0) (.int .i64 0) (.int .i64 0) (.int .i64 0) (.int .i64 0) (.int .i64 0) (.int .i64 0) (.int .i64 0) (.int .i64 0) (.int .i64 0) 0 b 0 0 0 0 0 0 0 0 0 0 0 0 0 0 rfl (by simp)⟩
  · rw [e]; exact ⟨_, rfl, fun _ => by simp only [List.length_cons, List.length_nil]; omega, fun rows' e' => e' ▸ k (.int .i64 0) (.int .i64 0) (.sym (.int .i64 b)) (.int .i64 0) (.int .i64 0) (.int .i64 0) (.int .i64 0) (.int .i64 0) (.int .i64 0) (.int .i64 0) (.int .i64 0) (.int .i64 0) (.int .i64 0) (.int .i64 0) (.int .i64 0) (.int .i64 0) 0 0 b 0 0 0 0 0 0 0 0 0 0 0 0 0 rfl (by simp)⟩
  · rw [e]; exact ⟨_, rfl, fun _ => by simp only [List.length_cons, List.length_nil]; omega, fun rows' e' => e' ▸ k (.int .i64 0) (.int .i64 0) (.int .i64 0) (.sym (.int .i64 b)) (.int .i64 0) (.int .i64 0) (.int .i64 0) (.int .i64 0) (.int .i64 0) (.int .i64 0) (.int .i64 0) (.int .i64 0) (.int .i64 0) (.int .i64 0) (.int .i64 0) (.int .i64 0) 0 0 0 b 0 0 0 0 0 0 0 0 0 0 0 0 rfl (by simp)⟩
  · rw [e]; exact ⟨_, rfl, fun _ => by simp only [List.length_cons, List.length_nil]; omega, fun rows' e' => e' ▸ k (.int .i64 0) (.int .i64 0) (.int .i64 0) (.int .i64 0) (.sym (.int .i64 b)) (.int .i64 0) (.int .i64 0) (.int .i64 0) (.int .i64 0) (.int .i64 0) (.int .i64 0) (.int .i64 0) (.int .i64 0) (.int .i64 0) (.int .i64 0) (.int .i64 0) 0 0 0 0 b 0 0 0 0 0 0 0 0 0 0 0 rfl (by simp)⟩
  · rw [e]; exact ⟨_, rfl, fun _ => by simp only [List.length_cons, List.length_nil]; omega, fun rows' e' => e' ▸ k (.int .i64 0) (.int .i64 0) (.int .i64 0) (.int .i64 0) (.int .i64 0) (.sym (.int .i64 b)) (.int .i64 0) (.int .i64 0) (.int .i64 0) (.int .i64 0) (.int .i64 0) (.int .i64 0) (.int .i64 0) (.int .i64 0) (.int .i64 0) (.int .i64 0) 0 0 0 0 0 b 0 0 0 0 0 0 0 0 0 0 rfl (by simp)⟩
  · rw [e]; exact ⟨_, rfl, fun _ => by simp only [List.length_cons, List.length_nil]; omega, fun rows' e' => e' ▸ k (.int .i64 0) (.int .i64 0) (.int .i64 0) (.int .i64 0) (.int .i64 0) (.int .i64 0) (.sym (.int .i64 b)) (.int .i64 0) (.int .i64 0) (.int .i64 0) (.int .i64 0) (.int .i64 0) (.int .i64 0) (.int .i64 0) (.int .i64 0) (.int .i64 0) 0 0 0 0 0 0 b 0 0 0 0 0 0 0 0 0 rfl (by simp)⟩
  · rw [e]; exact ⟨_, rfl, fun _ => by simp only [List.length_cons, List.length_nil]; omega, fun rows' e' => e' ▸ k (.int .i64 0) (.int .i64 0) (.int .i64 0) (.int .i64 0) (.int .i64 0) (.int .i64 0) (.int .i64 0) (.sym (.int .i64 b)) (.int .i64 0) (.int .i64 0) (.int .i64 0) (.int .i64 0) (.int .i64 0) (.int .i64 0) (.int .i64 0) (.int .i64 0) 0 0 0 0 0 0 0 b 0 0 0 0 0 0 0 0 rfl (by simp)⟩
  · rw [e]; exact ⟨_, rfl, fun _ => by simp only [List.length_cons, List.length_nil]; omega, fun rows' e' => e' ▸ k (.int .i64 0) (.int .i64 0) (.int .i64 0) (.int .i64 0) (.int .i64 0) (.int .i64 0) (.int .i64 0) (.int .i64 0) (.sym (.int .i64 b)) (.int .i64 0) (.int .i64 0) (.int .i64 0) (.int .i64 0) (.int .i64 0) (.int .i64 0) (.int .i64 0) 0 0 0 0 0 0 0 0 b 0 0 0 0 0 0 0 rfl (by simp)⟩
  · rw [e]; exact ⟨_, rfl, fun _ => by simp only [List.length_cons, List.length_nil]; omega, fun rows' e' => e' ▸ k (.int .i64 0) (.int .i64 0) (.int .i64 0) (.int .i64 0) (.int .i64 0) (.int .i64 0) (.int .i64 0) (.int .i64 0) (.int .i64 0) (.sym (.int .i64 b)) (.int .i64 0) (.int .i64 0) (.int .i64 0) (.int .i64 0) (.int .i64 0) (.int .i64 0) 0 0 0 0 0 0 0 0 0 b 0 0 0 0 0 0 rfl (by simp)⟩
  · rw [e]; exact ⟨_, rfl, fun _ => by simp only [List.length_cons, List.length_nil]; omega, fun rows' e' => e' ▸ k (.int .i64 0) (.int .i64 0) (.int .i64 0) (.int .i64 0) (.int .i64 0) (.int .i64 0) (.int .i64 0) (.int .i64 0) (.int .i64 0) (.int .i64 0) (.sym (.int .i64 b)) (.int .i64 0) (.int .i64 0) (.int .i64 0) (.int .i64 0) (.int .i64 0) 0 0 0 0 0 0 0 0 0 0 b 0 0 0 0 0 rfl (by simp)⟩
  · rw [e]; exact ⟨_, rfl, fun _ => by simp only [List.length_cons, List.length_nil]; omega, fun rows' e' => e' ▸ k (.int .i64 0) (.int .i64 0) (.int .i64 0) (.int .i64 0) (.int .i64 0) (.int .i64 0) (.int .i64 0) (.int .i64 0) (.int .i64 0) (.int .i64 0) (.int .i64 0) (.sym (.int .i64 b)) (.int .i64 0) (.int .i64 0) (.int .i64 0) (.int .i64 0) 0 0 0 0 0 0 0 0 0 0 0 b 0 0 0 0 rfl (by simp)⟩
  · rw [e]; exact ⟨_, rfl, fun _ => by simp only [List.length_cons, List.length_nil]; omega, fun rows' e' => e' ▸ k (.int .i64 0) (.int .i64 0) (.int .i64 0) (.int .i64 0) (.int .i64 0) (.int .i64 0) (.int .i64 0) (.int .i64 0) (.int .i64 0) (.int .i64 0) (.int .i64 0) (.int .i64 0) (.sym (.int .i64 b)) (.int .i64 0) (.int .i64 0) (.int .i64 0) 0 0 0 0 0 0 0 0 0 0 0 0 b 0 0 0 rfl (by simp)⟩
  · rw [e]; exact ⟨_, rfl, fun _ => by simp only [List.length_cons, List.length_nil]; omega, fun rows' e' => e' ▸ k (.int .i64 0) (.int .i64 0) (.int .i64 0) (.int .i64 0) (.int .i64 0) (.int .i64 0) (.int .i64 0) (.int .i64 0) (.int .i64 0) (.int .i64 0) (.int .i64 0) (.int .i64 0) (.int .i64 0) (.sym (.int .i64 b)) (.int .i64 0) (.int .i64 0) 0 0 0 0 0 0 0 0 0 0 0 0 0 b 0 0 rfl (by simp)⟩
  · rw [e]; exact ⟨_, rfl, fun _ => by simp only [List.length_cons, List.length_nil]; omega, fun rows' e' => e' ▸ k (.int .i64 0) (.int .i64 0) (.int .i64 0) (.int .i64 0) (.int .i64 0) (.int .i64 0) (.int .i64 0) (.int .i64 0) (.int .i64 0) (.int .i64 0) (.int .i64 0) (.int .i64 0) (.int .i64 0) (.int .i64 0) (.sym (.int .i64 b)) (.int .i64 0) 0 0 0 0 0 0 0 0 0 0 0 0 0 0 b 0 rfl (by simp)⟩
  · rw [e]; exact ⟨_, rfl, fun _ => by simp only [List.length_cons, List.length_nil]; omega, fun rows' e' => e' ▸ k (.int .i64 0) (.int .i64 0) (.int .i64 0) (.int .i64 0) (.int .i64 0) (.int .i64 0) (.int .i64 0) (.int .i64 0) (.int .i64 0) (.int .i64 0) (.int .i64 0) (.int .i64 0) (.int .i64 0) (.int .i64 0) (.int .i64 0) (.sym (.int .i64 b)) 0 0 0 0 0 0 0 0 0 0 0 0 0 0 0 b rfl (by simp)⟩
end Go.Proofs.Ytdaccjfijfnlfaa.Stp
