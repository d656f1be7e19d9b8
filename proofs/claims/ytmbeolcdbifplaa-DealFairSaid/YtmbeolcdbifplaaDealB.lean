/- What slack.Deal and the document's Deal give: any ledger, whoever waits. -/
import Derived.Test.YtmbeolcdbifplaaDealA
namespace Go.Proofs.Ytmbeolcdbifplaa.Deal
open Go.Ab
set_option linter.unusedVariables false
set_option linter.unusedSimpArgs false

theorem awakeAt {m : Mem} {c : Nat} {R : AV → Mem → Nat → Prop} (h : R (.bool true) m c) : CallS Try.prog 13 [] m c R :=
  CallS.of_call X.hcall (v := .bool true) (m' := m) (c' := c) (by kernel_rfl) h

set_option maxHeartbeats 1000000 in
theorem countC (x : Int) (m : Mem) (n : Nat) : CallS Try.prog 22 [.sym (.int .i64 x)] m n fun v m' n' => (∃ r, (r = true ↔ Count x) ∧ v = .bool r) ∧ m' = m ∧ n' = n := by
  refine CallS.at0 X Try.func22 (by decide) rfl (d := 2) (R0 := fun v => ∃ r, (r = true ↔ Count x) ∧ v = .bool r) ?_ m n
  cbv
  repeat' first
    | ((with_reducible apply And.intro) <;> (with_reducible intro h) <;> cbv)
  all_goals
    refine ⟨_, ?_, rfl⟩
    simp only [Count, reduceCtorEq, true_iff, false_iff]
    omega

section
variable (cnt : Int → Bool)
def g13 : List AV → Option AV
  | [] => some (.bool true)
  | _ => none
def g22 : List AV → Option AV
  | [A] => match norm A with
    | .int .i64 x => some (.bool (cnt x))
    | _ => none
  | _ => none
theorem hintsOk (hc : ∀ x, cnt x = true ↔ Count x) : ExtOK Try.prog (pureHints [(13, g13), (22, g22 cnt)]) := by
  refine pureHints_ok fun x hx vs v hv m c => ?_
  rcases List.mem_cons.1 hx with rfl | hx
  · dsimp only at hv ⊢
    unfold g13 at hv
    split at hv
    · cases hv
      exact awakeAt ⟨rfl, rfl, rfl⟩
    · cases hv
  rcases List.mem_cons.1 hx with rfl | hx
  · dsimp only at hv ⊢
    unfold g22 at hv
    split at hv
    · rename_i A
      split at hv
      · rename_i x hA
        cases hv
        refine ⟨fun μ w args h1 h2 h3 => ?_⟩
        have e : cnL μ [A] = cnL μ [.sym (.int .i64 x)] := by
          rw [← cnL_norm', ← cnL_norm' μ [.sym (.int .i64 x)]]
          simp only [normL, norm, hA]
        rw [e] at h1
        refine ((countC x m c).ok μ w args h1 h2 h3).mono ?_
        rintro val w' ⟨v, m', c', μ', ⟨⟨r, hr, rfl⟩, rfl, rfl⟩, k1, k2⟩
        have : r = cnt x := Bool.eq_iff_iff.2 (hr.trans (hc x).symm)
        subst this
        exact ⟨_, _, _, μ', ⟨rfl, rfl, rfl⟩, k1, k2⟩
      · cases hv
    · cases hv
  · cases hx
noncomputable def callD : CallA := aRun Try.prog (pureHints [(13, g13), (22, g22 cnt)]) 5
theorem XD (hc : ∀ x, cnt x = true ↔ Count x) : Ctx Try.prog (callD cnt) := ctx_pure hm (hintsOk cnt hc) 5
end

/-- May a ledger be dealt from? -/
def Can (i d l la : Int) (xs : List Int) : Prop := Count i ∧ Count d ∧ Count l ∧ d + l = i ∧ -1 ≤ la ∧ la < 8 ∧ i ≠ 1099511627776 ∧ Rises xs
def one (b : Bool) : Int := if b then 1 else 0
/-- What is given. -/
def SpecL (i d l la : Int) (high : Bool) (xs : List Int) (i' d' l' la' who e : Int) : Prop :=
  (Can i d l la xs ∧ e = 0 ∧ who = turnOf la xs ∧ (0 ≤ who ∧ la' = who ∨ who < 0 ∧ la' = la) ∧
    (high = false ∧ i' = i ∧ d' = d ∧ l' = l ∨ high = true ∧ i' = i + 1 ∧ (0 ≤ who ∧ d' = d + 1 ∧ l' = l ∨ who < 0 ∧ d' = d ∧ l' = l + 1))) ∨
  (¬ Can i d l la xs ∧ i' = 0 ∧ d' = 0 ∧ l' = 0 ∧ la' = 0 ∧ who = 0 ∧ e = 1800)
def ResL (i d l la : Int) (high : Bool) (xs : List Int) (v : AV) : Prop :=
  ∃ i' d' l' la' who e : Int, SpecL i d l la high xs i' d' l' la' who e ∧ v = .tuple [.agg [.sym (.int .i64 i'), .sym (.int .i64 d'), .sym (.int .i64 l'), .sym (.int .i64 la')], .sym (.int .i64 who), .sym (.int .i64 e)]

set_option maxRecDepth 100000 in
set_option maxHeartbeats 4000000 in
theorem dealC (xs : List Int) (rows : List (List AV)) (n cap : Nat) (opn : Bool) (hn : n = xs.length) (hsz : n ≤ 140737488355328) (hflat : ∀ row ∈ rows, AV.flatL row = true) (hrows : At iv xs rows) (i d l la : Int) (high : Bool) :
    CallS Try.prog 9 [.agg [.sym (.int .i64 i), .sym (.int .i64 d), .sym (.int .i64 l), .sym (.int .i64 la)], .bool high, .sym (.slice 0 1 0 n cap opn none)] (memB [some (.cells false 1 rows)] []) 1 fun v _ _ => v.flat = true ∧ ResL i d l la high xs (Go.Ab.full v) := by
  obtain ⟨cnt, hc⟩ : ∃ cnt : Int → Bool, ∀ x, cnt x = true ↔ Count x := ⟨fun x => decide (Count x), fun x => decide_eq_true_iff⟩
  have hcf : ∀ x, cnt x = false ↔ ¬ Count x := fun x => by rw [← hc]; simp
  have X := XD cnt hc
  refine CallS.enter X Try.func9 (by decide) ?_
  cbv
  with_reducible apply CallT.enter X Try.func16 (by decide)
  cbv
  repeat' first
    | with_reducible exact trivial
    | ((with_reducible intro v hv); (try rw [wrap_i64] at hv); cbv)
    | ((with_reducible apply uAnd); (focus first | kernel_rfl | omega); try cbv)
    | ((with_reducible apply And.intro) <;> (with_reducible intro h) <;> (try simp only [hc, hcf, Count] at h) <;> first | ((with_reducible exfalso); omega) | cbv)
    | ((with_reducible apply CallT.readB (risingC xs rows n cap opn hn hsz hflat hrows)); (focus rfl); (focus rfl); (focus exact hflat); (all_goals (with_reducible intro hrs; cbv)))
    | ((with_reducible apply CallT.readF (R0 := fun v => ∃ r, r = turnOf la xs ∧ v = .sym (.int .i64 r)) (turnC xs rows n cap opn hn hsz hflat hrows la)); (focus rfl); (focus rfl); (focus exact hflat); rintro v2 ⟨who, hwho, rfl⟩; cases high <;> cbv)
  all_goals
    refine ⟨_, _, _, _, _, _, ?_, rfl⟩
    first
      | exact .inr ⟨fun ⟨⟨_, _⟩, ⟨_, _⟩, ⟨_, _⟩, _, _, _, _, hr⟩ => by first | exact hrs hr | omega, rfl, rfl, rfl, rfl, rfl, rfl⟩
      | exact .inl ⟨⟨⟨by omega, by omega⟩, ⟨by omega, by omega⟩, ⟨by omega, by omega⟩, by omega, by omega, by omega, by omega, hrs⟩, rfl, hwho, by omega, by first | exact .inl ⟨rfl, by omega, by omega, by omega⟩ | exact .inr ⟨rfl, by omega, by omega⟩⟩

/-- The first that lies above, from a place on. -/
def above (la : Int) (xs : List Int) : Int := (xs.find? fun x => decide (la < x)).getD (-1)
theorem above_step {la x : Int} {xs : List Int} {j : Nat} (h : xs[j]? = some x) : (la < x ∧ above la (xs.drop j) = x) ∨ (x ≤ la ∧ above la (xs.drop j) = above la (xs.drop (j + 1))) := by
  obtain ⟨hj, rfl⟩ := List.getElem?_eq_some_iff.1 h
  unfold above
  rw [List.drop_eq_getElem_cons hj, List.find?_cons]
  by_cases e : la < xs[j]
  · exact .inl ⟨e, by rw [decide_eq_true e]; rfl⟩
  · exact .inr ⟨by omega, by rw [decide_eq_false e]⟩
theorem above_turn {la : Int} {xs : List Int} (h : ∀ x ∈ xs, 0 ≤ x) : (0 ≤ above la xs ∧ turnOf la xs = above la xs) ∨ (above la xs = -1 ∧ turnOf la xs = xs.headD (-1)) := by
  unfold above turnOf
  cases e : xs.find? (fun x => decide (la < x)) with
  | none => exact .inr ⟨rfl, rfl⟩
  | some x => exact .inl ⟨h x (List.mem_of_find?_eq_some e), rfl⟩

set_option maxRecDepth 100000 in
set_option maxHeartbeats 4000000 in
theorem refDealC (xs : List Int) (rows : List (List AV)) (n cap : Nat) (opn : Bool) (hn : n = xs.length) (hsz : n ≤ 140737488355328) (hflat : ∀ row ∈ rows, AV.flatL row = true) (hrows : At iv xs rows) (i d l la : Int) (high : Bool) :
    CallS Try.prog 10 [.agg [.sym (.int .i64 i), .sym (.int .i64 d), .sym (.int .i64 l), .sym (.int .i64 la)], .bool high, .sym (.slice 0 1 0 n cap opn none)] (memB [some (.cells false 1 rows)] []) 1 fun v _ _ => v.flat = true ∧ ResL i d l la high xs (Go.Ab.full v) := by
  refine CallS.enter X Try.func10 (by decide) ?_
  cbv
  with_reducible apply CallT.enter X Try.func19 (by decide)
  cbv
  repeat' first
    | with_reducible exact trivial
    | ((with_reducible intro v hv); (try rw [wrap_i64] at hv); cbv)
    | ((with_reducible apply uAnd); (focus first | kernel_rfl | omega); try cbv)
    | ((with_reducible apply And.intro) <;> (with_reducible intro h) <;> first | ((with_reducible exfalso); omega) | cbv)
    | ((with_reducible apply CallT.readB (refRisesC xs rows n cap opn hn hsz hflat hrows)); (focus rfl); (focus rfl); (focus exact hflat); (all_goals (with_reducible intro hrs; cbv)))
  all_goals try
    (refine ⟨_, _, _, _, _, _, ?_, rfl⟩
     exact .inr ⟨fun ⟨⟨_, _⟩, ⟨_, _⟩, ⟨_, _⟩, _, _, _, _, hr⟩ => by first | exact hrs hr | omega, rfl, rfl, rfl, rfl, rfl, rfl⟩)
  rename_i h1 h2 h3 h4 h5 v1 hv1 h6 h7 h8 v2 hv2
  have hcan : Can i d l la xs := by
    refine ⟨⟨by omega, by omega⟩, ⟨by omega, by omega⟩, ⟨by omega, by omega⟩, by omega, by omega, by omega, h, hrs⟩
  have hpos : ∀ x ∈ xs, 0 ≤ x := fun x hx => (hrs.1 x hx).1
  with_reducible
   refine LoopT.invR X (α := Int × Int) 74 [] (fun s => (oI (s.at 9), oI (s.at 10))) (fun s => [1, 2])
    (fun a => [none, some (.bool high), some (.sym (.slice 0 1 0 n cap opn none)), some (.ptr 1 4 0 0), none, none, some (.ptr 2 4 0 0), none, none, some (.sym (.int .i64 a.1)), some (.sym (.int .i64 a.2))])
    (fun a => [some (.cells false 1 rows), some (.cells true 4 [[.sym (.int .i64 i), .sym (.int .i64 d), .sym (.int .i64 l), .sym (.int .i64 la)]]), some (.cells true 4 [[.int .i64 0, .int .i64 0, .int .i64 0, .int .i64 0]])])
    (fun a => -1 ≤ a.2 ∧ (a.2 + 1).toNat ≤ n ∧ a.1 = above la (xs.drop (a.2 + 1).toNat)) (fun a => (a.2 + 1).toNat) ?_ ?_
  · cbv
    refine And.intro (HoldAt.mk ?_) (Head.mk ?_ ?_ ?_ ?_ ?_ ?_)
    · refine ⟨by omega, by omega, ?_⟩
      rw [List.drop_eq_nil_of_le (by omega)]; rfl
    all_goals cbv
    refine ⟨BlkLe.flat (fun h => h) hflat, BlkLe.flat (fun h => h) (by simp [AV.flatL, AV.flat]), BlkLe.flat (fun h => h) (by simp [AV.flatL, AV.flat]), trivial⟩
  · rintro ⟨w, j⟩ ⟨j1, j2, j3⟩
    dsimp only at j1 j2 j3
    cbv
    repeat' first
      | with_reducible exact trivial
      | ((with_reducible intro v hv); (try rw [wrap_i64] at hv); cbv)
      | ((with_reducible apply uAnd); (focus first | omega | (cbv; done) | kernel_rfl); try cbv)
      | ((with_reducible apply And.intro) <;> (with_reducible intro h) <;> first | ((with_reducible exfalso); omega) | cbv)
      | ((with_reducible apply ldAt hrj); (focus omega); cbv)
      | ((with_reducible apply ld hrows); (focus omega); intro x hx; (first | (rw [show v = j.toNat by omega] at hx; have hxj := hx; have hrj : rows[j.toNat]? = some [.sym (.int .i64 x)] := hrows _ _ hx) | have hx0 := hx); cbv)
      | (cases high <;> cbv)
    all_goals first
      | (have hst := above_step (la := la) hxj
         refine And.intro (And.intro (HoldAt.mk ?_) True.intro) (Head.mk ?_ ?_ ?_ ?_ ?_ ?_)
         · dsimp only at j2 ⊢
           rw [show (j + 1).toNat = j.toNat + 1 by omega] at j3
           refine ⟨⟨by omega, by omega, ?_⟩, by omega⟩
           rw [show (v + 1).toNat = j.toNat by omega]
           rcases hst with ⟨_, hst⟩ | ⟨_, hst⟩
           · first | exact hst.symm | (exfalso; omega)
           · first | (rw [hst]; exact j3) | (exfalso; omega)
         all_goals cbv
         refine ⟨BlkLe.flat (fun h => h) hflat, BlkLe.flat (fun h => h) (by simp [AV.flatL, AV.flat]), BlkLe.flat (fun h => h) (by simp [AV.flatL, AV.flat]), trivial⟩)
      | (rw [show (j + 1).toNat = 0 by omega, List.drop_zero] at j3
         have ht := above_turn (la := la) hpos
         refine ⟨_, _, _, _, _, _, .inl ⟨hcan, rfl, ?_, ?_, ?_⟩, rfl⟩
         · rcases ht with ⟨_, ht⟩ | ⟨_, ht⟩
           · first | (exfalso; omega) | exact j3.trans ht.symm
           · rw [ht]
             cases xs with
             | nil => first | (rw [j3]; rfl) | (simp at hn; omega) | omega
             | cons a l => first | (exfalso; simp at hn; omega) | (simp [show j.toNat = 0 by omega] at hx; simp [hx])
         · omega
         · first
             | exact .inl ⟨rfl, rfl, rfl, rfl⟩
             | (refine .inr ⟨rfl, by omega, ?_⟩; omega))
end Go.Proofs.Ytmbeolcdbifplaa.Deal
