/- Calls that write and make blocks in which no names stand: at any memory. -/
import Derived.Test.YtndbcpfbddhonaaAb37
namespace Go.Ab
set_option linter.unusedSimpArgs false
set_option linter.unusedVariables false

def ABlk.flat : ABlk → Prop
  | .cells _ _ rows => ∀ row ∈ rows, AV.flatL row = true
  | .map es => ∀ e ∈ es, e.1.flat = true ∧ e.2.flat = true
theorem renB_flat (g : Nat → Nat) {b : ABlk} (h : b.flat) : renB g b = b := by
  cases b with
  | cells rw z rows => simp only [renB, renRows_flat g h]
  | map es =>
    simp only [renB, renEs]
    congr 1
    conv => rhs; rw [← List.map_id es]
    refine List.map_congr_left fun e he => ?_
    rw [renV_flat g _ (h e he).1, renV_flat g _ (h e he).2]
    rfl
/-- What the call left, laid over the big memory: names below k. -/
def overF (σ : List Nat) (c : Nat) (bs : List (Option ABlk)) (m' : Mem) : Nat → Mem → Mem
  | 0, m => m
  | k + 1, m => match σ[k]? with
    | some s => match rwAt bs k with
      | true => (overF σ c bs m' k m).write s (m'.get k)
      | false => overF σ c bs m' k m
    | none => match m'.get k with
      | some b => (overF σ c bs m' k m).new (c + (k - σ.length)) b
      | none => overF σ c bs m' k m
/-- Nothing but flat blocks that may be written, of those that are new or may be written. -/
def newF (lo : Nat) (bs : List (Option ABlk)) (m' : Mem) : Nat → Prop
  | 0 => True
  | k + 1 => newF lo bs m' k ∧ match m'.get k with
    | some b => (match Nat.blt k lo with
      | true => match rwAt bs k with
        | true => b.flat
        | false => True
      | false => b.isRw = true ∧ b.flat)
    | none => True
theorem overF_eq {σ : List Nat} {c : Nat} {bs : List (Option ABlk)} {m' : Mem} {m : Mem} : ∀ {k : Nat}, newF σ.length bs m' k → overF σ c bs m' k m = overN σ c bs m' k m
  | 0, _ => rfl
  | k + 1, ⟨h1, h2⟩ => by
    have ih := overF_eq (c := c) (m := m) h1
    simp only [overF, overN]
    cases hs : σ[k]? with
    | some s =>
      have hk : k < σ.length := (List.getElem?_eq_some_iff.1 hs).1
      simp only
      cases hr : rwAt bs k with
      | false => exact ih
      | true =>
        simp only [ih]
        cases hg : m'.get k with
        | none => rfl
        | some b =>
          rw [hg] at h2
          have hb : Nat.blt k σ.length = true := by simpa [Nat.blt_eq] using hk
          simp only [hb, hr] at h2
          simp only [Option.map_some, renB_flat _ h2]
    | none =>
      have hk : σ.length ≤ k := by simpa using hs
      simp only
      cases hg : m'.get k with
      | none => exact ih
      | some b =>
        rw [hg] at h2
        have hb : Nat.blt k σ.length = false := by
          cases e : Nat.blt k σ.length with
          | false => rfl
          | true => rw [Nat.blt_eq] at e; omega
        simp only [hb] at h2
        simp only [ih, renB_flat _ h2.2]
theorem newF_rw {lo : Nat} {bs : List (Option ABlk)} {m' : Mem} : ∀ {k : Nat}, newF lo bs m' k → newRw lo m' k
  | 0, _ => trivial
  | k + 1, ⟨h1, h2⟩ => by
    refine ⟨?_, newF_rw h1⟩
    cases e : Nat.ble lo k with
    | false => trivial
    | true =>
      cases hg : m'.get k with
      | none => trivial
      | some b =>
        rw [hg] at h2
        have hb : Nat.blt k lo = false := by
          cases e2 : Nat.blt k lo with
          | false => rfl
          | true => rw [Nat.blt_eq] at e2; have := Nat.le_of_ble_eq_true e; omega
        simp only [hb] at h2
        exact h2.1

section
variable {P : Program}
/-- A contract at a small memory, used at a big one: what it writes and makes holds no names. -/
theorem CallT.frameF {f : FuncId} {vs0 vs : List AV} {bs : List (Option ABlk)} {m : Mem} {c : Nat} {R0 K : AV → Mem → Nat → Prop} (σ : List Nat)
    (h : CallS P f vs0 (memB bs []) σ.length R0) (hlen : Nat.ble bs.length σ.length = true) (hv : leL (fun n => σ[n]?) vs vs0) (hb : blksLe (fun n => σ[n]?) m.get 0 bs) (hσ : σ.Nodup ∧ ∀ s ∈ σ, s < c)
    (hk : ∀ v m' c', R0 v m' c' → newF σ.length bs m' c' ∧ K (renV (sg σ c) v) (overF σ c bs m' c' m) (c + (c' - σ.length))) : CallT (fun _ => P) f vs m c K := by
  refine ⟨CallS.frameW σ h (Nat.le_of_ble_eq_true hlen) hv hb hσ fun v m' c' hr => ?_⟩
  obtain ⟨h1, h2⟩ := hk v m' c' hr
  refine ⟨newF_rw h1, ?_⟩
  rw [← overF_eq h1]; exact h2
/-- The call's end: its answer, what is left of the memory. -/
def EndR (c : Nat) (R : AV → Mem → Nat → Prop) (v : AV) (m' : Mem) (c' : Nat) : Prop := ∃ ts log v2 bs, Head 0 c ts log [some v2] bs ⟨[some v], m', c'⟩ ∧ R v2 (memB bs log) (c + ts.length)
theorem CallS.ends {f : FuncId} {vs : List AV} {m : Mem} {c : Nat} {R : AV → Mem → Nat → Prop} (hm : m.log = []) (h : CallS P f vs m c (EndR c R)) : CallS P f vs m c R :=
  CallS.endAt hm h fun v m' c' hr => hr
end

end Go.Ab
