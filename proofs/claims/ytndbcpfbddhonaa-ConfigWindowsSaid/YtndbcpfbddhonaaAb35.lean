/- Calls that read one slice; small facts on heads. -/
import Derived.Test.YtndbcpfbddhonaaAb34
namespace Go.Ab
set_option linter.unusedSimpArgs false
set_option linter.unusedVariables false

def oneAt (k n : Nat) : Option Nat := match n with
  | 0 => some k
  | _ + 1 => none
section
variable {P : Program}
theorem CallS.read1 {f : FuncId} {vs0 vs : List AV} {m : Mem} {c k z : Nat} {rw : Bool} {rows : List (List AV)} {R0 : AV → Prop} (hk : m.get k = some (.cells rw z rows)) (hfl : ∀ row ∈ rows, AV.flatL row = true) (hv : leL (oneAt k) vs vs0)
    (h : CallS P f vs0 (memB [some (.cells false z rows)] []) 1 fun v _ _ => v.flat = true ∧ R0 v) : CallS P f vs m c fun v m' c' => R0 v ∧ m' = m ∧ c' = c := by
  refine CallS.frame (oneAt k) (fun μ args ha => hv.cn ha) (fun n hn => ?_) (fun n b hn => ?_) h
  · cases n with
    | zero => omega
    | succ n => rfl
  · rw [memB_get] at hn
    cases n with
    | zero =>
      simp only [List.getElem?_cons_zero, Option.join_some, Option.some.injEq] at hn
      subst hn
      exact ⟨rfl, k, _, rfl, hk, (BlkLe.flat (fun h => by cases h) hfl).ok⟩
    | succ n => simp at hn
/-- A call that reads a slice and gives what names nothing. -/
theorem CallT.readF {f : FuncId} {vs0 vs : List AV} {m : Mem} {c k z : Nat} {rw : Bool} {rows : List (List AV)} {R0 : AV → Prop} {K : AV → Mem → Nat → Prop} (h : CallS P f vs0 (memB [some (.cells false z rows)] []) 1 fun v _ _ => v.flat = true ∧ R0 (Go.Ab.full v))
    (hv : leL (oneAt k) vs vs0) (hk : m.get k = some (.cells rw z rows)) (hfl : ∀ row ∈ rows, AV.flatL row = true) (h1 : ∀ v, R0 v → K v m c) : CallT (fun _ => P) f vs m c K := by
  have h2 : CallS P f vs m c fun v m' c' => R0 (Go.Ab.full v) ∧ m' = m ∧ c' = c := CallS.read1 hk hfl hv h
  have h3 : CallS P f vs m c fun v m' c' => R0 v ∧ m' = m ∧ c' = c := CallS.fulls (R := fun v m' c' => R0 v ∧ m' = m ∧ c' = c) h2
  refine ⟨h3.mono ?_⟩
  rintro v m' c' ⟨hr, rfl, rfl⟩
  exact h1 v hr
theorem CallS.asFull {f : FuncId} {vs : List AV} {m : Mem} {c : Nat} {R : AV → Mem → Nat → Prop} (h : CallS P f vs m c fun v m' c' => ∃ v', Go.Ab.full v' = Go.Ab.full v ∧ R v' m' c') : CallS P f vs m c R :=
  ⟨fun μ w args h1 h2 h3 => (h.ok μ w args h1 h2 h3).mono fun val w' ⟨v, m', c', μ', ⟨v', e, hr⟩, k2, k3⟩ => ⟨v', m', c', μ', hr, by rw [← cn_full, e, cn_full]; exact k2, k3⟩⟩
/-- The same, what it gives marked otherwise. -/
theorem CallT.readV {f : FuncId} {vs0 vs : List AV} {m : Mem} {c k z : Nat} {rw : Bool} {rows : List (List AV)} {R0 : AV → Prop} {K : AV → Mem → Nat → Prop} (h : CallS P f vs0 (memB [some (.cells false z rows)] []) 1 fun v _ _ => v.flat = true ∧ R0 (Go.Ab.full v))
    (hv : leL (oneAt k) vs vs0) (hk : m.get k = some (.cells rw z rows)) (hfl : ∀ row ∈ rows, AV.flatL row = true) (h1 : ∀ v, R0 v → ∃ v', Go.Ab.full v' = v ∧ K v' m c) : CallT (fun _ => P) f vs m c K := by
  have h2 : CallS P f vs m c fun v m' c' => R0 (Go.Ab.full v) ∧ m' = m ∧ c' = c := CallS.read1 hk hfl hv h
  refine ⟨CallS.asFull (h2.mono ?_)⟩
  rintro v m' c' ⟨hr, rfl, rfl⟩
  exact h1 _ hr
/-- A call that reads a slice and gives a truth value. -/
theorem CallT.readB {f : FuncId} {vs0 vs : List AV} {m : Mem} {c k z : Nat} {rw : Bool} {rows : List (List AV)} {A : Prop} {K : AV → Mem → Nat → Prop} (h : CallS P f vs0 (memB [some (.cells false z rows)] []) 1 fun v _ _ => v.flat = true ∧ ∃ r, (r = true ↔ A) ∧ v = .bool r)
    (hv : leL (oneAt k) vs vs0) (hk : m.get k = some (.cells rw z rows)) (hfl : ∀ row ∈ rows, AV.flatL row = true) (h1 : A → K (.bool true) m c) (h2 : ¬ A → K (.bool false) m c) : CallT (fun _ => P) f vs m c K := by
  refine ⟨(CallS.read1 hk hfl hv h).mono ?_⟩
  rintro v m' c' ⟨⟨r, hr, rfl⟩, rfl, rfl⟩
  cases r with
  | true => exact h1 (hr.1 rfl)
  | false => exact h2 fun a => by have := hr.2 a; cases this
theorem CallT.pureB {f : FuncId} {vs : List AV} {m : Mem} {c : Nat} {A : Prop} {K : AV → Mem → Nat → Prop} (h : CallS P f vs m c fun v m' c' => (∃ r, (r = true ↔ A) ∧ v = .bool r) ∧ m' = m ∧ c' = c)
    (h1 : A → K (.bool true) m c) (h2 : ¬ A → K (.bool false) m c) : CallT (fun _ => P) f vs m c K := by
  refine ⟨h.mono ?_⟩
  rintro v m' c' ⟨⟨r, hr, rfl⟩, rfl, rfl⟩
  cases r with
  | true => exact h1 (hr.1 rfl)
  | false => exact h2 fun a => by have := hr.2 a; cases this
end
theorem lkKvM {p : Int} {ps : List Int} {es : List (AV × AV)} {K1 : AV → Prop} {K2 : Prop} (he : es = kv ps) (h1 : p ∈ ps → K1 (.bool true)) (h2 : p ∉ ps → K2) :
    ∃ r, findA (.int .i64 p) (es.map fun e => (norm e.1, e.2)) = some r ∧ (∀ v, r = some v → K1 v) ∧ (r = none → K2) := by
  subst he; exact lkKv h1 h2
theorem upKvM {p : Int} {ps : List Int} {es es2 : List (AV × AV)} {K : List (AV × AV) → Prop} (he : es = kv ps) (h : p ∉ ps) (h2 : es2 = kv (ps ++ [p])) (k : K es2) : ∃ es', setA (.int .i64 p) (.bool true) es = some es' ∧ K es' := by
  subst he; subst h2; exact upKv h k
theorem BlkLe.kvM {τ : Nat → Option Nat} {ps : List Int} {es es2 : List (AV × AV)} (h : es = kv ps) (h2 : es2 = es) : BlkLe τ (.map es) (.map es2) := by
  subst h2; subst h; exact BlkLe.mapFlat (kv_flat ps)
theorem ldAt {rows : List (List AV)} {j v : Nat} {row : List AV} {K : List AV → Prop} (h : rows[j]? = some row) (e : v = j) (k : K row) : ∃ row, rows[v]? = some row ∧ K row := ⟨row, by rw [e]; exact h, k⟩
theorem take_succ_at {α : Type} {xs : List α} {j : Nat} {x : α} (h : xs[j]? = some x) : xs.take (j + 1) = xs.take j ++ [x] := by
  obtain ⟨hl, rfl⟩ := List.getElem?_eq_some_iff.1 h
  rw [List.take_succ_eq_append_getElem hl]

end Go.Ab
