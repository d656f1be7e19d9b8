/- Functions that read alone, by an answer, inside drawn regions; pointers that are read. -/
import Derived.Test.YtndbcpfbddhonaaAb38
namespace Go.Ab
set_option linter.unusedSimpArgs false
set_option linter.unusedVariables false

def readHints (l : List (FuncId × (List AV → Mem → Option AV))) : Hints := ⟨fun f => (l.find? fun x => x.1.beq f).map fun x => fun vs m c => (x.2 vs m).map fun v => (v, m, c), fun _ _ => none⟩
section
variable {P : Program}
/-- An answer is right. -/
def HintOK (P : Program) (x : FuncId × (List AV → Mem → Option AV)) : Prop := ∀ vs m v, x.2 vs m = some v → ∀ c, CallS P x.1 vs m c fun v' m' c' => full v' = full v ∧ m' = m ∧ c' = c
def HintsOK (P : Program) : List (FuncId × (List AV → Mem → Option AV)) → Prop
  | [] => True
  | x :: l => HintOK P x ∧ HintsOK P l
theorem HintsOK.at_ : ∀ {l : List (FuncId × (List AV → Mem → Option AV))}, HintsOK P l → ∀ x ∈ l, HintOK P x
  | [], _, x, hx => by cases hx
  | y :: l, ⟨h1, h2⟩, x, hx => by
    rcases List.mem_cons.1 hx with rfl | hx
    · exact h1
    · exact HintsOK.at_ h2 x hx
theorem readHints_ok {l : List (FuncId × (List AV → Mem → Option AV))} (h : HintsOK P l) : ExtOK P (readHints l) := by
  have key : ∀ f vs m c v m1 c1, extA (readHints l) f vs m c = some (v, m1, c1) → ∃ x ∈ l, x.1 = f ∧ x.2 vs m = some v ∧ m1 = m ∧ c1 = c := by
    intro f vs m c v m1 c1 e
    simp only [extA, readHints] at e
    cases hf : l.find? (fun x => x.1.beq f) with
    | none => simp [hf] at e
    | some x =>
      simp only [hf, Option.map_some, Option.map_eq_some_iff, Prod.mk.injEq] at e
      obtain ⟨v', h1, rfl, rfl, rfl⟩ := e
      have hb := List.find?_some hf
      exact ⟨x, List.mem_of_find?_eq_some hf, Nat.eq_of_beq_eq_true hb, h1, rfl, rfl⟩
  refine ⟨fun f vs m c v m1 c1 e μ w args hargs hS hfresh => ?_, fun f vs m c v m1 c1 e => ?_⟩
  · obtain ⟨x, hx, rfl, h1, rfl, rfl⟩ := key f vs m c v m1 c1 e
    refine ((h.at_ x hx vs m1 v h1 c1).ok μ w args hargs hS hfresh).mono ?_
    rintro val w' ⟨v', m', c', μ', ⟨h2, rfl, rfl⟩, k1, k2⟩
    exact ⟨μ', by rw [← cn_full, ← h2, cn_full]; exact k1, k2⟩
  · obtain ⟨x, hx, rfl, h1, rfl, rfl⟩ := key f vs m c v m1 c1 e
    exact FrA.refl _ _ _
theorem ctx_read {l : List (FuncId × (List AV → Mem → Option AV))} (hm : P.follows .mixedOrders = true) (h : HintsOK P l) (k : Nat) : Ctx P (aRun P (readHints l) k) :=
  ⟨hm, aRun_call hm (readHints_ok h) k, aRun_frr (readHints_ok h) k⟩
theorem CallS.normA {f : FuncId} {vs vs' : List AV} {m : Mem} {c : Nat} {R : AV → Mem → Nat → Prop} (e : normL vs = normL vs') (h : CallS P f vs' m c R) : CallS P f vs m c R :=
  ⟨fun μ w args h1 h2 h3 => h.ok μ w args (by rw [← cnL_norm', ← e, cnL_norm']; exact h1) h2 h3⟩
end

/-- A loop's body once. -/
def onceT (p : Unit → Program) (lo : Nat) (x : Code) (K : Out → St → Prop) : Out → St → Prop
  | .normal, s' => LoopT p lo x s' K
  | .exit id, s' => K (.exit id) s'
  | .ret, s' => K .ret s'
theorem LoopT.one {P : Program} {call : CallA} (X : Ctx P call) {lo : Nat} {x : Code} {s : St} {K : Out → St → Prop} (h : vCode (fun _ => P) call lo x s (onceT (fun _ => P) lo x K)) : LoopT (fun _ => P) lo x s K :=
  LoopT.once X ((show onceK P lo x K = onceT (fun _ => P) lo x K from funext fun o => by cases o <;> rfl) ▸ h)
theorem ArgV.ptr {l : List Vw} {A : AV} {k z i g j : Nat} (h : norm A = .ptr k z i g) (hl : l[j]? = some ⟨k, i, none, z⟩) : ArgV l A (.sym (.ptr j z 0 g)) := fun μ x hx => by
  rw [← cn_norm' μ A, h] at hx
  simp only [Go.Ab.cn, Option.map_eq_some_iff] at hx ⊢
  obtain ⟨p, hp, rfl⟩ := hx
  refine ⟨_, by rw [gMu_at hl, hp]; rfl, ?_⟩
  simp only [plPtr, Vw.pl, Option.getD_none, ite_self, Nat.zero_mul, Nat.add_zero]
section
variable {P : Program}
/-- A call that reads one row through a pointer. -/
theorem CallS.ptr1 {fn : FuncId} {vs : List AV} {m : Mem} {c k z i g : Nat} {A : AV} {rw : Bool} {rows : List (List AV)} {row row0 : List AV} {R0 : AV → Prop} (vs0 : AV → List AV) (hA : norm A = .ptr k z i g) (hk : m.get k = some (.cells rw z rows)) (hr : rows[i]? = some row) (he : normL row = normL row0) (hf : AV.flatL row0 = true)
    (hv : ∀ l B, ArgV l A B → ArgsV l vs (vs0 B))
    (h : CallS P fn (vs0 (.sym (.ptr 0 z 0 g))) (memB [some (.cells false z [row0])] []) 1 fun v _ _ => v.flat = true ∧ R0 v) : CallS P fn vs m c fun v m' c' => R0 v ∧ m' = m ∧ c' = c := by
  refine CallS.view [⟨k, i, none, z⟩] (bs := [some (.cells false z [row0])]) (Nat.le_refl 1) (hv _ _ (ArgV.ptr (j := 0) hA rfl)) (fun i' b hb => ?_) h
  cases i' with
  | zero =>
    simp only [List.getElem?_cons_zero, Option.some.injEq] at hb
    subst hb
    refine ⟨_, _, rfl, rfl, ⟨rw, rows, hk, fun r hr' => by rw [List.mem_singleton.1 hr']; exact hf, .inl rfl, fun n r0 hn => ?_⟩⟩
    cases n with
    | zero => simp only [List.getElem?_cons_zero, Option.some.injEq] at hn; subst hn; exact ⟨row, hr, he⟩
    | succ n => simp at hn
  | succ i' => simp at hb
end

end Go.Ab
