/- What meter.Charge and the document's Charge give: any job, task, level. -/
import Derived.Test.YtdngnkfgfacajaaBase
import Derived.Test.YtdngnkfgfacajaaAb39
namespace Go.Proofs.Ytdngnkfgfacajaa.Met
open Go.Ab Base
set_option linter.unusedVariables false
set_option linter.unusedSimpArgs false

def i6 (x : Int) : AV := .sym (.int .i64 x)
/-- May a job and a task be charged? -/
def Can (tk sq pr re de dm us kd p d cl ch pt lv : Int) : Prop :=
  (0 ≤ tk ∧ tk < 6 ∧ 0 ≤ sq ∧ 0 ≤ pr ∧ pr ≤ 255 ∧ 0 ≤ re ∧ re ≤ 1099511627776 ∧ re < de ∧ 1 ≤ dm ∧ dm ≤ 65535 ∧ 0 ≤ us ∧ us < dm) ∧
  ((kd = 0 ∨ kd = 1) ∧ 1 ≤ p ∧ p ≤ 1024 ∧ 1 ≤ d ∧ d ≤ p ∧ 1 ≤ cl ∧ cl ≤ ch ∧ ch ≤ d ∧ 0 ≤ pt ∧ pt ≤ 255) ∧ (lv = 0 ∨ lv = 1)
def Verd (dm us cl ch lv : Int) (o dn k : Bool) : Prop :=
  (o = true ↔ lv = 1 ∧ us + 1 = cl ∧ us + 1 ≠ dm) ∧ (dn = true ↔ us + 1 = dm) ∧ (k = true ↔ us + 1 ≠ dm ∧ us + 1 = if lv = 1 then ch else cl)
def SpecC (tk sq pr re de dm us kd p d cl ch pt lv : Int) (v : AV) : Prop :=
  (Can tk sq pr re de dm us kd p d cl ch pt lv ∧ ∃ o dn k, Verd dm us cl ch lv o dn k ∧ v = .tuple [.agg [i6 tk, i6 sq, i6 pr, i6 re, i6 de, i6 dm, i6 (us + 1)], .agg [.bool o, .bool dn, .bool k], i6 0]) ∨
  (¬ Can tk sq pr re de dm us kd p d cl ch pt lv ∧ v = .tuple [.agg [i6 0, i6 0, i6 0, i6 0, i6 0, i6 0, i6 0], .agg [.bool false, .bool false, .bool false], i6 1300])

def JobOk (tk sq pr re de dm us : Int) : Prop := 0 ≤ tk ∧ tk < 6 ∧ 0 ≤ sq ∧ 0 ≤ pr ∧ pr ≤ 255 ∧ 0 ≤ re ∧ re ≤ 1099511627776 ∧ re < de ∧ 1 ≤ dm ∧ dm ≤ 65535 ∧ 0 ≤ us ∧ us < dm
instance (tk sq pr re de dm us : Int) : Decidable (JobOk tk sq pr re de dm us) := by unfold JobOk; infer_instance

section
variable (ck dmb : Int → Bool)
def ClockOk (x : Int) : Prop := 0 ≤ x ∧ x ≤ 1099511627776
def DemOk (x : Int) : Prop := 1 ≤ x ∧ x ≤ 65535
instance (x : Int) : Decidable (ClockOk x) := by unfold ClockOk; infer_instance
instance (x : Int) : Decidable (DemOk x) := by unfold DemOk; infer_instance
def gI (b : Int → Bool) : List AV → Mem → Option AV
  | [A], _ => match norm A with
    | .int .i64 x => some (.bool (b x))
    | _ => none
  | _, _ => none
theorem clockC (x : Int) (m : Mem) (n : Nat) : CallS Try.prog 19 [.sym (.int .i64 x)] m n fun v m' n' => (∃ r, (r = true ↔ ClockOk x) ∧ v = .bool r) ∧ m' = m ∧ n' = n := by
  refine CallS.at0 X Try.func19 (by decide) rfl (d := 2) (R0 := fun v => ∃ r, (r = true ↔ ClockOk x) ∧ v = .bool r) ?_ m n
  cbv
  repeat' first
    | ((with_reducible apply And.intro) <;> (with_reducible intro h) <;> cbv)
  all_goals
    refine ⟨_, ?_, rfl⟩
    simp only [ClockOk, reduceCtorEq, true_iff, false_iff]
    omega
theorem demMayC (x : Int) (m : Mem) (n : Nat) : CallS Try.prog 20 [.sym (.int .i64 x)] m n fun v m' n' => (∃ r, (r = true ↔ DemOk x) ∧ v = .bool r) ∧ m' = m ∧ n' = n := by
  refine CallS.at0 X Try.func20 (by decide) rfl (d := 2) (R0 := fun v => ∃ r, (r = true ↔ DemOk x) ∧ v = .bool r) ?_ m n
  cbv
  repeat' first
    | ((with_reducible apply And.intro) <;> (with_reducible intro h) <;> cbv)
  all_goals
    refine ⟨_, ?_, rfl⟩
    simp only [DemOk, reduceCtorEq, true_iff, false_iff]
    omega
theorem gI_ok {f : FuncId} {b : Int → Bool} {Q : Int → Prop} (hb : ∀ x, b x = true ↔ Q x) (h : ∀ (x : Int) (m : Mem) (n : Nat), CallS Try.prog f [.sym (.int .i64 x)] m n fun v m' n' => (∃ r, (r = true ↔ Q x) ∧ v = .bool r) ∧ m' = m ∧ n' = n) : HintOK Try.prog (f, gI b) := fun vs m v hv c => by
  dsimp only at hv ⊢
  unfold gI at hv
  repeat' split at hv
  all_goals first | cases hv | skip
  rename_i A _ x hA
  refine CallS.normA (vs' := [.sym (.int .i64 x)]) (by simp only [normL, norm, hA]) ((h x m c).mono ?_)
  rintro v m' c' ⟨⟨r, hr, rfl⟩, rfl, rfl⟩
  have : r = b x := Bool.eq_iff_iff.2 (hr.trans (hb _).symm)
  subst this
  exact ⟨rfl, rfl, rfl⟩
noncomputable def callC : CallA := aRun Try.prog (readHints [(19, gI ck), (20, gI dmb)]) 5
theorem XC (h1 : ∀ x, ck x = true ↔ ClockOk x) (h2 : ∀ x, dmb x = true ↔ DemOk x) : Ctx Try.prog (callC ck dmb) := ctx_read (l := [(19, gI ck), (20, gI dmb)]) hm ⟨gI_ok h1 clockC, gI_ok h2 demMayC, trivial⟩ 5
end

set_option maxRecDepth 200000 in
set_option maxHeartbeats 4000000 in
theorem jobC (tk sq pr re de dm us : Int) :
    CallS Try.prog 17 [.sym (.ptr 0 7 0 0)] (memB [some (.cells false 7 [[i6 tk, i6 sq, i6 pr, i6 re, i6 de, i6 dm, i6 us]])] []) 1 fun v _ _ => v.flat = true ∧ ∃ r, (r = true ↔ JobOk tk sq pr re de dm us) ∧ v = .bool r := by
  obtain ⟨ck, hc⟩ : ∃ ck : Int → Bool, ∀ x, ck x = true ↔ ClockOk x := ⟨fun x => decide (ClockOk x), fun x => decide_eq_true_iff⟩
  obtain ⟨dmb, hd⟩ : ∃ ck : Int → Bool, ∀ x, ck x = true ↔ DemOk x := ⟨fun x => decide (DemOk x), fun x => decide_eq_true_iff⟩
  have hcf : ∀ x, ck x = false ↔ ¬ ClockOk x := fun x => by rw [← hc]; simp
  have hdf : ∀ x, dmb x = false ↔ ¬ DemOk x := fun x => by rw [← hd]; simp
  have X := XC ck dmb hc hd
  refine CallS.normA (vs' := [.ptr 0 7 0 0]) rfl ?_
  refine CallS.enter X Try.func17 (by decide) ?_
  cbv
  repeat' first
    | with_reducible exact trivial
    | ((with_reducible intro v hv); (try rw [wrap_i64] at hv); cbv)
    | ((with_reducible apply uAnd); (focus first | kernel_rfl | omega); try cbv)
    | ((with_reducible apply And.intro) <;> (with_reducible intro h) <;> (try simp only [hc, hcf, hd, hdf, ClockOk, DemOk] at h) <;> first | ((with_reducible exfalso); omega) | cbv)
    | ((with_reducible apply CallT.enter X Try.func19 (by decide)); cbv)
    | ((with_reducible apply CallT.enter X Try.func20 (by decide)); cbv)
  all_goals
    refine ⟨_, ?_, rfl⟩
    simp only [JobOk, reduceCtorEq, true_iff, false_iff]
    omega

set_option maxHeartbeats 4000000 in
theorem limitC (kd p d cl ch pt lv : Int) :
    CallS Try.prog 13 [.sym (.ptr 0 6 0 0), .sym (.int .i64 lv)] (memB [some (.cells false 6 [[i6 kd, i6 p, i6 d, i6 cl, i6 ch, i6 pt]])] []) 1 fun v _ _ => v.flat = true ∧ ∃ r, r = (if lv = 1 then ch else cl) ∧ Go.Ab.full v = .sym (.int .i64 r) := by
  refine CallS.normA (vs' := [.ptr 0 6 0 0, .sym (.int .i64 lv)]) rfl ?_
  refine CallS.enter X Try.func13 (by decide) ?_
  cbv
  repeat' first
    | ((with_reducible apply And.intro) <;> (with_reducible intro h) <;> cbv)
  · exact ⟨ch, by rw [if_pos h], rfl⟩
  · exact ⟨cl, by rw [if_neg h], rfl⟩
section
variable (lim : Int → Int → Int → Int)
def g13 : List AV → Mem → Option AV
  | [A, B], m => match norm A, norm B with
    | .ptr n 6 i 0, .int .i64 lv => match m.get n with
      | some (.cells _ 6 rows) => match rows[i]? with
        | some row => match normL row with
          | [.int .i64 kd, .int .i64 p, .int .i64 d, .int .i64 cl, .int .i64 ch, .int .i64 pt] => some (.int .i64 (lim cl ch lv))
          | _ => none
        | none => none
      | _ => none
    | _, _ => none
  | _, _ => none
theorem g13_ok (hl : ∀ cl ch lv, lim cl ch lv = if lv = 1 then ch else cl) : HintOK Try.prog (13, g13 lim) := fun vs m v hv c => by
  dsimp only at hv ⊢
  unfold g13 at hv
  repeat' split at hv
  all_goals first | cases hv | skip
  rename_i A B _ _ n i lv hA hB _ rw rows hk _ row hr _ kd p d cl ch pt he
  refine (CallS.ptr1 (vs := [A, B]) (R0 := fun v => ∃ r, r = (if lv = 1 then ch else cl) ∧ Go.Ab.full v = .sym (.int .i64 r)) (fun P => [P, .sym (.int .i64 lv)]) hA hk hr (row0 := [i6 kd, i6 p, i6 d, i6 cl, i6 ch, i6 pt]) he rfl (fun l B' h => ⟨h, ArgV.flat rfl (by rw [hB]; rfl), trivial⟩) (limitC kd p d cl ch pt lv)).mono ?_
  rintro v m' c' ⟨⟨r, hr, hv⟩, rfl, rfl⟩
  refine ⟨?_, rfl, rfl⟩
  rw [hv, hr, ← hl]; rfl
end
section
variable (lim : Int → Int → Int → Int)
variable (jb : Int → Int → Int → Int → Int → Int → Int → Bool)
def g10 : List AV → Mem → Option AV
  | [], _ => some (.bool true)
  | _, _ => none
def g17 : List AV → Mem → Option AV
  | [A], m => match norm A with
    | .ptr n 7 i 0 => match m.get n with
      | some (.cells _ 7 rows) => match rows[i]? with
        | some row => match normL row with
          | [.int .i64 tk, .int .i64 sq, .int .i64 pr, .int .i64 re, .int .i64 de, .int .i64 dm, .int .i64 us] => some (.bool (jb tk sq pr re de dm us))
          | _ => none
        | none => none
      | _ => none
    | _ => none
  | _, _ => none
theorem hintsOk (hl : ∀ cl ch lv, lim cl ch lv = if lv = 1 then ch else cl) (hj : ∀ tk sq pr re de dm us, jb tk sq pr re de dm us = true ↔ JobOk tk sq pr re de dm us) : HintsOK Try.prog [(10, g10), (17, g17 jb), (13, g13 lim)] := by
  refine ⟨fun vs m v hv c => ?_, fun vs m v hv c => ?_, g13_ok lim hl, trivial⟩
  · dsimp only at hv ⊢
    unfold g10 at hv
    split at hv
    · cases hv
      exact awakeT (K := fun v' m' c' => Go.Ab.full v' = Go.Ab.full (.bool true) ∧ m' = _ ∧ c' = _) ⟨rfl, rfl, rfl⟩ |>.ok
    · cases hv
  · dsimp only at hv ⊢
    unfold g17 at hv
    repeat' split at hv
    all_goals first | cases hv | skip
    rename_i A _ n i hA _ rw rows hk _ row hr _ tk sq pr re de dm us he
    refine (CallS.ptr1 (vs := [A]) (fun B => [B]) hA hk hr (row0 := [i6 tk, i6 sq, i6 pr, i6 re, i6 de, i6 dm, i6 us]) he rfl (fun l B h => ⟨h, trivial⟩) (jobC tk sq pr re de dm us)).mono ?_
    rintro v m' c' ⟨⟨r, hr, rfl⟩, rfl, rfl⟩
    have : r = jb tk sq pr re de dm us := Bool.eq_iff_iff.2 (hr.trans (hj _ _ _ _ _ _ _).symm)
    subst this
    exact ⟨rfl, rfl, rfl⟩
noncomputable def callJ : CallA := aRun Try.prog (readHints [(10, g10), (17, g17 jb), (13, g13 lim)]) 5
theorem XJ (hl : ∀ cl ch lv, lim cl ch lv = if lv = 1 then ch else cl) (hj : ∀ tk sq pr re de dm us, jb tk sq pr re de dm us = true ↔ JobOk tk sq pr re de dm us) : Ctx Try.prog (callJ lim jb) := ctx_read hm (hintsOk lim jb hl hj) 5
end

set_option maxRecDepth 200000 in
set_option maxHeartbeats 4000000 in
theorem chargeC (tk sq pr re de dm us kd p d cl ch pt lv : Int) (m : Mem) (c : Nat) :
    CallS Try.prog 7 [.agg [i6 tk, i6 sq, i6 pr, i6 re, i6 de, i6 dm, i6 us], .agg [i6 kd, i6 p, i6 d, i6 cl, i6 ch, i6 pt], i6 lv] m c fun v m' c' => (∃ w, SpecC tk sq pr re de dm us kd p d cl ch pt lv w ∧ Go.Ab.full v = w) ∧ m' = m ∧ c' = c := by
  obtain ⟨jb, hj⟩ : ∃ jb : Int → Int → Int → Int → Int → Int → Int → Bool, ∀ tk sq pr re de dm us, jb tk sq pr re de dm us = true ↔ JobOk tk sq pr re de dm us := ⟨fun tk sq pr re de dm us => decide (JobOk tk sq pr re de dm us), fun _ _ _ _ _ _ _ => decide_eq_true_iff⟩
  have hjf : ∀ tk sq pr re de dm us, jb tk sq pr re de dm us = false ↔ ¬ JobOk tk sq pr re de dm us := fun tk sq pr re de dm us => by rw [← hj]; simp
  obtain ⟨lim, hl⟩ : ∃ lim : Int → Int → Int → Int, ∀ cl ch lv, lim cl ch lv = if lv = 1 then ch else cl := ⟨fun cl ch lv => if lv = 1 then ch else cl, fun _ _ _ => rfl⟩
  have X := XJ lim jb hl hj
  refine CallS.at0 X Try.func7 (by decide) rfl (d := 2) (R0 := fun v => ∃ w, SpecC tk sq pr re de dm us kd p d cl ch pt lv w ∧ Go.Ab.full v = w) ?_ m c
  cbv
  repeat' first
    | with_reducible exact trivial
    | ((with_reducible intro v hv); (try rw [wrap_i64] at hv); cbv)
    | ((with_reducible apply uAnd); (focus first | kernel_rfl | omega); try cbv)
    | ((with_reducible apply And.intro) <;> (with_reducible intro h) <;> (try simp only [hj, hjf, JobOk] at h) <;> first | ((with_reducible exfalso); omega) | cbv)
    | ((with_reducible apply CallT.enter X Try.func11 (by decide)); cbv)
    | ((with_reducible apply CallT.enter X Try.func12 (by decide)); cbv)
    | ((with_reducible apply CallT.enter X Try.func13 (by decide)); cbv)
    | ((with_reducible apply CallT.enter X Try.func16 (by decide)); cbv)
    | ((with_reducible apply CallT.enter X Try.func17 (by decide)); cbv)
    | ((with_reducible apply CallT.enter X Try.func19 (by decide)); cbv)
    | ((with_reducible apply CallT.enter X Try.func20 (by decide)); cbv)
    | ((with_reducible apply LoopT.one X); cbv)
  all_goals
    refine ⟨_, ?_, rfl⟩
    have hlm := hl cl ch lv
    first
      | (refine .inr ⟨?_, rfl⟩
         simp only [Can]
         omega)
      | (obtain rfl : v = us + 1 := by omega
         refine .inl ⟨by simp only [Can]; omega, _, _, _, ?_, rfl⟩
         simp only [Verd, Bool.false_eq_true, true_iff, false_iff]
         by_cases hlv : lv = 1
         · simp only [if_pos hlv] at hlm ⊢
           omega
         · simp only [if_neg hlv] at hlm ⊢
           omega)

set_option maxRecDepth 200000 in
set_option maxHeartbeats 4000000 in
theorem refChargeC (tk sq pr re de dm us kd p d cl ch pt lv : Int) (m : Mem) (c : Nat) :
    CallS Try.prog 8 [.agg [i6 tk, i6 sq, i6 pr, i6 re, i6 de, i6 dm, i6 us], .agg [i6 kd, i6 p, i6 d, i6 cl, i6 ch, i6 pt], i6 lv] m c fun v m' c' => (∃ w, SpecC tk sq pr re de dm us kd p d cl ch pt lv w ∧ Go.Ab.full v = w) ∧ m' = m ∧ c' = c := by
  refine CallS.at0 X Try.func8 (by decide) rfl (d := 2) (R0 := fun v => ∃ w, SpecC tk sq pr re de dm us kd p d cl ch pt lv w ∧ Go.Ab.full v = w) ?_ m c
  cbv
  repeat' first
    | with_reducible exact trivial
    | ((with_reducible intro v hv); (try rw [wrap_i64] at hv); cbv)
    | ((with_reducible apply uAnd); (focus first | kernel_rfl | omega); try cbv)
    | ((with_reducible apply And.intro) <;> (with_reducible intro h) <;> first | ((with_reducible exfalso); omega) | cbv)
    | ((with_reducible apply CallT.enter X Try.func14 (by decide)); cbv)
    | ((with_reducible apply CallT.enter X Try.func15 (by decide)); cbv)
  all_goals
    refine ⟨_, ?_, rfl⟩
    first
      | (refine .inr ⟨?_, rfl⟩
         simp only [Can]
         omega)
      | (obtain rfl : v = us + 1 := by omega
         refine .inl ⟨by simp only [Can]; omega, _, _, _, ?_, rfl⟩
         simp only [Verd, Bool.false_eq_true, true_iff, false_iff]
         by_cases hlv : lv = 1
         · simp only [if_pos hlv]
           omega
         · simp only [if_neg hlv]
           omega)

theorem specC_fun {tk sq pr re de dm us kd p d cl ch pt lv : Int} {v w : AV} (h1 : SpecC tk sq pr re de dm us kd p d cl ch pt lv v) (h2 : SpecC tk sq pr re de dm us kd p d cl ch pt lv w) : v = w := by
  rcases h1 with ⟨a1, o, dn, k, ⟨b1, b2, b3⟩, rfl⟩ | ⟨a1, rfl⟩ <;> rcases h2 with ⟨a2, o', dn', k', ⟨c1, c2, c3⟩, rfl⟩ | ⟨a2, rfl⟩
  · rw [Bool.eq_iff_iff.2 (b1.trans c1.symm), Bool.eq_iff_iff.2 (b2.trans c2.symm), Bool.eq_iff_iff.2 (b3.trans c3.symm)]
  · exact absurd a1 a2
  · exact absurd a2 a1
  · rfl
end Go.Proofs.Ytdngnkfgfacajaa.Met
