/- Counters. -/
import Derived.Test.YtbgapiiopocncaaTicA
import Derived.Test.YtbgapiiopocncaaAb44
namespace Go.Proofs.Ytbgapiiopocncaa.Tic
open Go.Ab
set_option linter.unusedVariables false
set_option linter.unusedSimpArgs false

def i6 (x : Int) : AV := .sym (.int .i64 x)
/-- What counting gives: an error's number, the value then. -/
def CountR (v l k e w : Int) : Prop := (k < 0 ∧ e = 101 ∧ w = v) ∨ (0 ≤ k ∧ e = 0 ∧ w = IntKind.wrap .i64 (v + min k (IntKind.wrap .i64 (l - v))))
def RefR (v l k e w : Int) : Prop := (k < 0 ∧ e = 101 ∧ w = v) ∨ (0 ≤ k ∧ e = 0 ∧ ((IntKind.wrap .i64 (l - v) < k ∧ w = l) ∨ (k ≤ IntKind.wrap .i64 (l - v) ∧ w = IntKind.wrap .i64 (v + k))))
theorem countR_one (v l k : Int) : ∃ e w, CountR v l k e w := by
  by_cases h : k < 0
  · exact ⟨101, v, .inl ⟨h, rfl, rfl⟩⟩
  · exact ⟨0, _, .inr ⟨by omega, rfl, rfl⟩⟩
theorem refR_one (v l k : Int) : ∃ e w, RefR v l k e w := by
  by_cases h : k < 0
  · exact ⟨101, v, .inl ⟨h, rfl, rfl⟩⟩
  by_cases h2 : IntKind.wrap .i64 (l - v) < k
  · exact ⟨0, l, .inr ⟨by omega, rfl, .inl ⟨h2, rfl⟩⟩⟩
  · exact ⟨0, _, .inr ⟨by omega, rfl, .inr ⟨by omega, rfl⟩⟩⟩

set_option maxHeartbeats 4000000 in
theorem countC (v l k e w : Int) (hR : CountR v l k e w) :
    CallS Try.prog 22 [.ptr 0 2 0 0, i6 k] (memB [some (.cells true 2 [[i6 v, i6 l]])] []) 1 fun v' m' c' => v' = i6 e ∧ m' = memB [some (.cells true 2 [[i6 w, i6 l]])] [0] ∧ c' = 1 := by
  refine CallS.ends rfl ?_
  refine CallS.enter X Try.func22 (by decide) ?_
  cbv
  repeat' first
    | with_reducible exact trivial
    | ((with_reducible intro v hv); (try rw [wrap_i64] at hv); cbv)
    | ((with_reducible apply uAnd); (focus first | kernel_rfl | omega); try cbv)
    | ((with_reducible apply And.intro) <;> (with_reducible intro h) <;> first | ((with_reducible exfalso); omega) | cbv)
  all_goals
    first
      | (have hE : e = 101 ∧ w = v := (by unfold CountR at hR; rw [wrap_i64, wrap_i64] at hR; omega)
         obtain ⟨rfl, rfl⟩ := hE)
      | (have hE : e = 0 ∧ w = v := (by unfold CountR at hR; rw [wrap_i64, wrap_i64] at hR; omega)
         obtain ⟨rfl, rfl⟩ := hE)
      | (have hE : e = 0 ∧ w = l := (by unfold CountR at hR; rw [wrap_i64, wrap_i64] at hR; omega)
         obtain ⟨rfl, rfl⟩ := hE)
    refine ⟨[], [0], i6 _, [some (.cells true 2 [[i6 _, i6 _]])], Head.mk rfl rfl ?_ ?_ ?_ ?_, rfl, rfl, rfl⟩
    all_goals cbv
    exact ⟨BlkLe.flat (fun h => h) (by simp [AV.flatL, AV.flat]), trivial⟩
set_option maxHeartbeats 4000000 in
theorem refCountC (v l k e w : Int) (hR : RefR v l k e w) :
    CallS Try.prog 23 [.ptr 0 2 0 0, i6 k] (memB [some (.cells true 2 [[i6 v, i6 l]])] []) 1 fun v' m' c' => v' = i6 e ∧ m' = memB [some (.cells true 2 [[i6 w, i6 l]])] [0] ∧ c' = 1 := by
  refine CallS.ends rfl ?_
  refine CallS.enter X Try.func23 (by decide) ?_
  cbv
  repeat' first
    | with_reducible exact trivial
    | ((with_reducible intro v hv); (try rw [wrap_i64] at hv); cbv)
    | ((with_reducible apply uAnd); (focus first | kernel_rfl | omega); try cbv)
    | ((with_reducible apply And.intro) <;> (with_reducible intro h) <;> first | ((with_reducible exfalso); omega) | cbv)
  all_goals
    first
      | (have hE : e = 101 ∧ w = v := (by unfold RefR at hR; rw [wrap_i64, wrap_i64] at hR; omega)
         obtain ⟨rfl, rfl⟩ := hE)
      | (have hE : e = 0 ∧ w = v := (by unfold RefR at hR; rw [wrap_i64, wrap_i64] at hR; omega)
         obtain ⟨rfl, rfl⟩ := hE)
      | (have hE : e = 0 ∧ w = l := (by unfold RefR at hR; rw [wrap_i64, wrap_i64] at hR; omega)
         obtain ⟨rfl, rfl⟩ := hE)
    refine ⟨[], [0], i6 _, [some (.cells true 2 [[i6 _, i6 _]])], Head.mk rfl rfl ?_ ?_ ?_ ?_, rfl, rfl, rfl⟩
    all_goals cbv
    exact ⟨BlkLe.flat (fun h => h) (by simp [AV.flatL, AV.flat]), trivial⟩

theorem countS {f : FuncId} {v l k e w : Int} (hC : CallS Try.prog f [.ptr 0 2 0 0, i6 k] (memB [some (.cells true 2 [[i6 v, i6 l]])] []) 1 fun v' m' c' => v' = i6 e ∧ m' = memB [some (.cells true 2 [[i6 w, i6 l]])] [0] ∧ c' = 1)
    {A B : AV} {m : Mem} {c n : Nat} {row : List AV} (hA : norm A = .ptr n 2 0 0) (hB : norm B = .int .i64 k) (hn : m.get n = some (.cells true 2 [row])) (hr : normL row = [.int .i64 v, .int .i64 l]) (hnc : n < c) :
    CallS Try.prog f [A, B] m c fun v' m' c' => full v' = i6 e ∧ m' = m.write n (some (.cells true 2 [[i6 w, i6 l]])) ∧ c' = c :=
  CallS.put1 (row0 := [i6 v, i6 l]) (row1 := [i6 w, i6 l]) (v0 := i6 e) (fun P => [P, i6 k]) hA hn hnc (by rw [hr]; rfl) rfl rfl rfl (by simp only [leL, normL, norm, hA, hB, renOL, renO, i6, List.getElem?_cons_zero, Option.map_some]) hC
theorem countT {A B : AV} {m : Mem} {c n : Nat} {row : List AV} {v l k : Int} {K : AV → Mem → Nat → Prop} (hA : norm A = .ptr n 2 0 0) (hB : norm B = .int .i64 k) (hn : m.get n = some (.cells true 2 [row])) (hr : normL row = [.int .i64 v, .int .i64 l]) (hnc : n < c)
    (h : ∀ e w, CountR v l k e w → K (i6 e) (m.write n (some (.cells true 2 [[i6 w, i6 l]]))) c) : CallT (fun _ => Try.prog) 22 [A, B] m c K := by
  obtain ⟨e, w, hew⟩ := countR_one v l k
  refine ⟨CallS.asFull ((countS (countC v l k e w hew) hA hB hn hr hnc).mono ?_)⟩
  rintro v' m' c' ⟨hv, rfl, rfl⟩
  exact ⟨i6 e, hv.symm, h e w hew⟩
section
variable (ce cw : Int → Int → Int → Int) (eqb : Int → Int → Bool)
/-- The document's Count, by its answer. -/
def g23 : Eff
  | [A, B], m, c => match norm A, norm B with
    | .ptr n 2 0 0, .int .i64 k => match Nat.blt n c with
      | true => match m.get n with
        | some (.cells true 2 [row]) => match normL row with
          | [.int .i64 v, .int .i64 l] => some (.sym (.int .i64 (ce v l k)), m.write n (some (.cells true 2 [[.sym (.int .i64 (cw v l k)), .sym (.int .i64 l)]])), c)
          | _ => none
        | _ => none
      | false => none
    | _, _ => none
  | _, _, _ => none
theorem g23_ok (h : ∀ v l k, RefR v l k (ce v l k) (cw v l k)) : EffOK Try.prog (23, g23 ce cw) := fun vs m c v0 m1 c1 e => by
  dsimp only at e ⊢
  unfold g23 at e
  repeat' split at e
  all_goals first | cases e | skip
  rename_i A B _ _ n k hA hB _ hlt _ row hn _ v l hr
  refine ⟨(countS (refCountC v l k _ _ (h v l k)) hA hB hn hr (by simpa [Nat.blt_eq] using hlt)).mono ?_, FrA.write none m c n _ hn⟩
  rintro v' m' c' ⟨hv, rfl, rfl⟩
  exact ⟨hv, rfl, rfl⟩
def gFull : List AV → Mem → Option AV
  | [A], m => match norm A with
    | .ptr n 2 0 0 => match m.get n with
      | some (.cells _ 2 rows) => match rows[0]? with
        | some row => match normL row with
          | [.int .i64 v, .int .i64 l] => some (.bool (eqb v l))
          | _ => none
        | none => none
      | _ => none
    | _ => none
  | _, _ => none
theorem fullC (v l : Int) : CallS Try.prog 25 [.sym (.ptr 0 2 0 0)] (memB [some (.cells false 2 [[i6 v, i6 l]])] []) 1 fun v' _ _ => v'.flat = true ∧ ∃ r, (r = true ↔ v = l) ∧ v' = .bool r := by
  refine CallS.normA (vs' := [.ptr 0 2 0 0]) rfl ?_
  refine CallS.enter X Try.func25 (by decide) ?_
  cbv
  repeat' first
    | ((with_reducible apply uAnd); (focus kernel_rfl); try cbv)
    | ((with_reducible apply And.intro) <;> (with_reducible intro h) <;> cbv)
  all_goals
    refine ⟨_, ?_, rfl⟩
    simp only [reduceCtorEq, true_iff, false_iff]
    assumption
theorem refFullC (v l : Int) : CallS Try.prog 26 [.sym (.ptr 0 2 0 0)] (memB [some (.cells false 2 [[i6 v, i6 l]])] []) 1 fun v' _ _ => v'.flat = true ∧ ∃ r, (r = true ↔ v = l) ∧ v' = .bool r := by
  refine CallS.normA (vs' := [.ptr 0 2 0 0]) rfl ?_
  refine CallS.enter X Try.func26 (by decide) ?_
  cbv
  repeat' first
    | ((with_reducible apply uAnd); (focus kernel_rfl); try cbv)
    | ((with_reducible apply And.intro) <;> (with_reducible intro h) <;> cbv)
  all_goals
    refine ⟨_, ?_, rfl⟩
    simp only [reduceCtorEq, true_iff, false_iff]
    assumption
theorem gFull_ok {f : FuncId} (hq : ∀ v l, eqb v l = true ↔ v = l) (h : ∀ v l : Int, CallS Try.prog f [.sym (.ptr 0 2 0 0)] (memB [some (.cells false 2 [[i6 v, i6 l]])] []) 1 fun v' _ _ => v'.flat = true ∧ ∃ r, (r = true ↔ v = l) ∧ v' = .bool r) : HintOK Try.prog (f, gFull eqb) := fun vs m v0 hv c => by
  dsimp only at hv ⊢
  unfold gFull at hv
  repeat' split at hv
  all_goals first | cases hv | skip
  rename_i A _ n hA _ rw rows hk _ row hr _ v l he
  refine (CallS.ptr1 (vs := [A]) (fun B => [B]) hA hk hr (row0 := [i6 v, i6 l]) he rfl (fun l B h => ⟨h, trivial⟩) (h v l)).mono ?_
  rintro v' m' c' ⟨⟨r, hr, rfl⟩, rfl, rfl⟩
  have : r = eqb v l := Bool.eq_iff_iff.2 (hr.trans (hq _ _).symm)
  subst this
  exact ⟨rfl, rfl, rfl⟩
noncomputable def callK : CallA := aRun Try.prog (effHints [(23, g23 ce cw), (25, readE (gFull eqb)), (26, readE (gFull eqb))]) 5
theorem XK (h : ∀ v l k, RefR v l k (ce v l k) (cw v l k)) (hq : ∀ v l, eqb v l = true ↔ v = l) : Ctx Try.prog (callK ce cw eqb) :=
  ctx_eff (l := [(23, g23 ce cw), (25, readE (gFull eqb)), (26, readE (gFull eqb))]) hm ⟨g23_ok ce cw h, readE_ok (gFull_ok eqb hq fullC), readE_ok (gFull_ok eqb hq refFullC), trivial⟩ 5
end

set_option maxRecDepth 200000 in
set_option maxHeartbeats 8000000 in
theorem tickCounts (xs : List Int) (rows : List (List AV)) (n cap : Nat) (hn : n = xs.length) (hflat : ∀ row ∈ rows, AV.flatL row = true) (hrows : At iv xs rows) (hsz : n * 8 ≤ 140737488351232) (lim : Int) (hl : lim ≤ 9223372036854775807) :
    CallS Try.prog 5 [.sym (.int .i64 lim), .sym (.slice 0 1 0 n cap false none)] (memB [some (.cells false 1 rows)] []) 1 fun v _ _ => v = .bool true := by
  obtain ⟨ce, cw, hcc⟩ : ∃ ce cw : Int → Int → Int → Int, ∀ v l k, RefR v l k (ce v l k) (cw v l k) := ⟨fun v l k => Classical.choose (refR_one v l k), fun v l k => Classical.choose (Classical.choose_spec (refR_one v l k)), fun v l k => Classical.choose_spec (Classical.choose_spec (refR_one v l k))⟩
  obtain ⟨eqb, hq⟩ : ∃ eqb : Int → Int → Bool, ∀ v l, eqb v l = true ↔ v = l := ⟨fun v l => decide (v = l), fun _ _ => decide_eq_true_iff⟩
  have hqf : ∀ v l, eqb v l = false ↔ ¬ v = l := fun v l => by rw [← hq]; simp
  have X := XK ce cw eqb hcc hq
  refine CallS.enter X Try.func5 (by decide) ?_
  cbv
  repeat' first
    | with_reducible exact trivial
    | ((with_reducible intro v hv); (try rw [wrap_i64] at hv); cbv)
    | ((with_reducible apply uAnd); (focus first | kernel_rfl | omega); try cbv)
    | ((with_reducible apply And.intro) <;> (with_reducible intro h) <;> first | ((with_reducible exfalso); omega) | cbv)
    | ((with_reducible apply awakeT); cbv)
    | ((with_reducible apply CallT.enter X Try.func16 (by decide)); cbv)
    | ((with_reducible apply CallT.enter X Try.func20 (by decide)); cbv)
    | ((with_reducible apply CallT.enter X Try.func21 (by decide)); cbv)
  with_reducible
   refine LoopT.invR X (α := Int × Int) 83 [] (fun s => (oI (s.at 9), oI (s.cell (oP (s.at 5)) 0 0))) (fun s => [oP (s.at 5), oP (s.at 7)])
    (fun a => [none, some (.sym (.slice 0 1 0 n cap false none)), none, none, none, some (.ptr 1 2 0 0), none, some (.ptr 2 2 0 0), none, some (.sym (.int .i64 a.1))])
    (fun a => [some (.cells false 1 rows), some (.cells true 2 [[.sym (.int .i64 a.2), .sym (.int .i64 lim)]]), some (.cells true 2 [[.sym (.int .i64 a.2), .sym (.int .i64 lim)]])])
    (fun a => 0 ≤ a.1 ∧ a.1.toNat ≤ n ∧ 0 ≤ a.2 ∧ a.2 ≤ lim) (fun a => n - a.1.toNat) ?_ ?_
  · cbv
    refine And.intro (HoldAt.mk ?_) (Head.mk ?_ ?_ ?_ ?_ ?_ ?_)
    · exact ⟨by decide, by simp, by decide, by dsimp only; omega⟩
    all_goals cbv
    exact ⟨BlkLe.flat (fun h => h) hflat, BlkLe.cells (fun h => h) (RowsLe.cons rfl RowsLe.nil), BlkLe.cells (fun h => h) (RowsLe.cons rfl RowsLe.nil), trivial⟩
  · rintro ⟨j, u⟩ ⟨j1, j2, j3, j4⟩
    dsimp only at j1 j2 j3 j4
    cbv
    repeat' first
      | with_reducible exact trivial
      | ((with_reducible apply countT (v := u) (l := lim) (k := x)); (focus rfl); (focus rfl); (focus rfl); (focus rfl); (focus decide); (with_reducible intro e w hew); (have hrr := hcc u lim x); (unfold CountR at hew); (unfold RefR at hrr); (rw [wrap_i64, wrap_i64] at hew hrr); (have hce : ce u lim x = e := by omega); (have hcw : cw u lim x = w ∧ 0 ≤ w ∧ w ≤ lim := by omega); cbv)
      | ((with_reducible apply ldAt hrx); (focus omega); cbv)
      | ((with_reducible apply ld hrows); (focus omega); (with_reducible intro x hx); (rw [show v = j.toNat by omega] at hx); (have hrx : rows[j.toNat]? = some [.sym (.int .i64 x)] := hrows _ _ hx); cbv)
      | ((with_reducible intro v hv); (try rw [wrap_i64] at hv); cbv)
      | ((with_reducible apply uAnd); (focus first | omega | kernel_rfl); try cbv)
      | ((with_reducible apply And.intro) <;> (with_reducible intro h) <;> (try simp only [hq, hqf] at h) <;> first | ((with_reducible exfalso); omega) | cbv)
      | ((with_reducible apply awakeT); cbv)
      | ((with_reducible apply CallT.enter X Try.func16 (by decide)); cbv)
    all_goals
      refine And.intro (And.intro (HoldAt.mk ?_) True.intro) (Head.mk ?_ ?_ ?_ ?_ ?_ ?_)
      · exact ⟨⟨by dsimp only; omega, by dsimp only; omega, hcw.2.1, hcw.2.2⟩, by dsimp only; omega⟩
      all_goals cbv
      exact ⟨BlkLe.flat (fun h => h) hflat, BlkLe.cells (fun h => h) (RowsLe.cons rfl RowsLe.nil), (by rw [hcw.1]; exact BlkLe.cells (fun h => h) (RowsLe.cons rfl RowsLe.nil)), trivial⟩

set_option maxRecDepth 200000 in
set_option maxHeartbeats 8000000 in
theorem tickCountsNil (lim : Int) (hl : lim ≤ 9223372036854775807) : CallS Try.prog 5 [.sym (.int .i64 lim), .nilslice] (memB [] []) 0 fun v _ _ => v = .bool true := by
  refine CallS.enter X Try.func5 (by decide) ?_
  cbv
  repeat' first
    | with_reducible exact trivial
    | ((with_reducible intro v hv); (try rw [wrap_i64] at hv); cbv)
    | ((with_reducible apply uAnd); (focus first | kernel_rfl | omega); try cbv)
    | ((with_reducible apply And.intro) <;> (with_reducible intro h) <;> first | ((with_reducible exfalso); omega) | cbv)
    | ((with_reducible apply awakeT); cbv)
    | ((with_reducible apply LoopT.one X); cbv)
    | ((with_reducible apply CallT.enter X Try.func16 (by decide)); cbv)
    | ((with_reducible apply CallT.enter X Try.func20 (by decide)); cbv)
    | ((with_reducible apply CallT.enter X Try.func21 (by decide)); cbv)
/-- The law, as the row wants it. -/
theorem tickCountsL (xs : List Int) (rows : List (List AV)) (n cap : Nat) (hn : n = xs.length) (hflat : ∀ row ∈ rows, AV.flatL row = true) (hrows : At iv xs rows) (hw : ∀ x ∈ xs, inI x) (hsz : n * 8 ≤ 140737488351232) (lim : Int) (hl : -9223372036854775808 ≤ lim ∧ lim ≤ 9223372036854775807) :
    CallS Try.prog 5 [.sym (.int .i64 lim), .sym (.slice 0 1 0 n cap false none)] (memB [some (.cells false 1 rows)] []) 1 fun v _ _ => v = .bool true := tickCounts xs rows n cap hn hflat hrows hsz lim hl.2
theorem tickCountsLNil (lim : Int) (hl : -9223372036854775808 ≤ lim ∧ lim ≤ 9223372036854775807) : CallS Try.prog 5 [.sym (.int .i64 lim), .nilslice] (memB [] []) 0 fun v _ _ => v = .bool true := tickCountsNil lim hl.2
end Go.Proofs.Ytbgapiiopocncaa.Tic
