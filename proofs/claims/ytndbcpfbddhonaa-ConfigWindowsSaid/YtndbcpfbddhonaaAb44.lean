/- Functions by an answer that write, inside drawn regions. -/
import Derived.Test.YtndbcpfbddhonaaAb43
namespace Go.Ab
set_option linter.unusedSimpArgs false
set_option linter.unusedVariables false

abbrev Eff := List AV → Mem → Nat → Option (AV × Mem × Nat)
def effHints (l : List (FuncId × Eff)) : Hints := ⟨fun f => (l.find? fun x => x.1.beq f).map fun x => x.2, fun _ _ => none⟩
section
variable {P : Program}
def EffOK (P : Program) (x : FuncId × Eff) : Prop := ∀ vs m c v m1 c1, x.2 vs m c = some (v, m1, c1) → (CallS P x.1 vs m c fun v' m' c' => full v' = full v ∧ m' = m1 ∧ c' = c1) ∧ FrA none m c m1 c1
def EffsOK (P : Program) : List (FuncId × Eff) → Prop
  | [] => True
  | x :: l => EffOK P x ∧ EffsOK P l
theorem EffsOK.at_ : ∀ {l : List (FuncId × Eff)}, EffsOK P l → ∀ x ∈ l, EffOK P x
  | [], _, x, hx => by cases hx
  | y :: l, ⟨h1, h2⟩, x, hx => by
    rcases List.mem_cons.1 hx with rfl | hx
    · exact h1
    · exact EffsOK.at_ h2 x hx
/-- An answer that reads alone, as one that may write. -/
def readE (g : List AV → Mem → Option AV) : Eff := fun vs m c => match g vs m with
  | some v => some (v, m, c)
  | none => none
theorem readE_ok {f : FuncId} {g : List AV → Mem → Option AV} (h : HintOK P (f, g)) : EffOK P (f, readE g) := fun vs m c v m1 c1 e => by
  simp only [readE] at e
  split at e
  · rename_i v0 hv
    cases e
    exact ⟨h vs m v hv c, FrA.refl _ _ _⟩
  · cases e
theorem effHints_ok {l : List (FuncId × Eff)} (h : EffsOK P l) : ExtOK P (effHints l) := by
  have key : ∀ f vs m c v m1 c1, extA (effHints l) f vs m c = some (v, m1, c1) → ∃ x ∈ l, x.1 = f ∧ x.2 vs m c = some (v, m1, c1) := by
    intro f vs m c v m1 c1 e
    simp only [extA, effHints] at e
    cases hf : l.find? (fun x => x.1.beq f) with
    | none => simp [hf] at e
    | some x =>
      simp only [hf, Option.map_some] at e
      have hb := List.find?_some hf
      exact ⟨x, List.mem_of_find?_eq_some hf, Nat.eq_of_beq_eq_true hb, e⟩
  refine ⟨fun f vs m c v m1 c1 e μ w args hargs hS hfresh => ?_, fun f vs m c v m1 c1 e => ?_⟩
  · obtain ⟨x, hx, rfl, h1⟩ := key f vs m c v m1 c1 e
    refine (((h.at_ x hx) vs m c v m1 c1 h1).1.ok μ w args hargs hS hfresh).mono ?_
    rintro val w' ⟨v', m', c', μ', ⟨h2, rfl, rfl⟩, k1, k2⟩
    exact ⟨μ', by rw [← cn_full, ← h2, cn_full]; exact k1, k2⟩
  · obtain ⟨x, hx, rfl, h1⟩ := key f vs m c v m1 c1 e
    exact ((h.at_ x hx) vs m c v m1 c1 h1).2
theorem ctx_eff {l : List (FuncId × Eff)} (hm : P.follows .mixedOrders = true) (h : EffsOK P l) (k : Nat) : Ctx P (aRun P (effHints l) k) :=
  ⟨hm, aRun_call hm (effHints_ok h) k, aRun_frr (effHints_ok h) k⟩
/-- A call that writes one row through a pointer, at any memory. -/
theorem CallS.put1 {fn : FuncId} {vs : List AV} {m : Mem} {c k z g : Nat} {A : AV} {row row0 row1 : List AV} {v0 : AV} (vs0 : AV → List AV) (hA : norm A = .ptr k z 0 g) (hk : m.get k = some (.cells true z [row])) (hkc : k < c) (he : normL row = normL row0) (hf : AV.flatL row0 = true) (hf1 : AV.flatL row1 = true) (hv0 : v0.flat = true)
    (hv : leL (fun n => [k][n]?) vs (vs0 (.ptr 0 z 0 g)))
    (h : CallS P fn (vs0 (.ptr 0 z 0 g)) (memB [some (.cells true z [row0])] []) 1 fun v m' c' => v = v0 ∧ m' = memB [some (.cells true z [row1])] [0] ∧ c' = 1) :
    CallS P fn vs m c fun v m' c' => full v = full v0 ∧ m' = m.write k (some (.cells true z [row1])) ∧ c' = c := by
  refine CallS.frameW [k] h (Nat.le_refl 1) hv ?_ ⟨by simp, by simp; omega⟩ ?_
  · refine ⟨?_, trivial⟩
    simp only [List.getElem?_cons_zero, hk]
    refine BlkLe.cells (fun e => e) (RowsLe.cons ?_ RowsLe.nil)
    simp only [leL, he]
    exact flat_renOL _ (by rw [flatL_norm]; exact hf)
  · rintro v m' c' ⟨rfl, rfl, rfl⟩
    have hnew : newF 1 [some (.cells true z [row0])] (memB [some (.cells true z [row1])] [0]) 1 := by
      refine ⟨trivial, ?_⟩
      change ABlk.flat (.cells true z [row1])
      intro r hr
      rw [List.mem_singleton.1 hr]; exact hf1
    refine ⟨newF_rw hnew, ?_, ?_, rfl⟩
    · rw [renV_flat _ _ hv0]
    · refine (overF_eq (σ := [k]) (c := c) (m := m) hnew).symm.trans ?_
      rfl
end
/-- A call that the abstract machine runs by itself. -/
def runK (K : AV → Mem → Nat → Prop) : Option (AV × Mem × Nat) → Prop
  | some (v, m, c) => K v m c
  | none => False
theorem callRun {P : Program} {call : CallA} (X : Ctx P call) {f : FuncId} {vs : List AV} {m : Mem} {c : Nat} {K : AV → Mem → Nat → Prop} (k : ∀ r, r = call f vs m c → runK K r) : CallT (fun _ => P) f vs m c K := by
  have h := k _ rfl
  cases e : call f vs m c with
  | none => rw [e] at h; exact h.elim
  | some r =>
    obtain ⟨v, m', c'⟩ := r
    rw [e] at h
    exact ⟨CallS.of_call X.hcall e h⟩
end Go.Ab
