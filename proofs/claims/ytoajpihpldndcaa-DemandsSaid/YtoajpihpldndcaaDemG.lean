/- demand.Bound and the document's Bound, wherever their tasks lie; the law Demands. -/
import Derived.Test.YtoajpihpldndcaaDemD
import Derived.Test.YtoajpihpldndcaaRecTasks
namespace Go.Proofs.Ytoajpihpldndcaa.Dem
open Go.Ab Kit
set_option linter.unusedVariables false
set_option linter.unusedSimpArgs false

def Fine (ts : List Task) (i k : Int) : Prop := OkAll ts ∧ 0 ≤ i ∧ i.toNat < ts.length ∧ 0 ≤ k ∧ k ≤ 4096
def valD (ts : List Task) (i k : Int) : Int := match ts[i.toNat]? with
  | some t => IntKind.wrap .i64 (t.chigh + bsum t.prio k ts)
  | none => 0
def ResD (ts : List Task) (i k : Int) (v : AV) : Prop := ∃ r e, SpecD ts i k r e ∧ v = .tuple [.sym (.int .i64 r), .sym (.int .i64 e)]
theorem resD_ends {ts : List Task} {i k : Int} {v : AV} {Q : AV → Prop} (h : ResD ts i k v) (h1 : Fine ts i k → ∀ r, r = valD ts i k → Q (.tuple [.sym (.int .i64 r), .int .i64 0])) (h2 : ¬ Fine ts i k → Q (.tuple [.int .i64 0, .int .i64 800])) : ∃ v', Go.Ab.full v' = v ∧ Q v' := by
  obtain ⟨r, e, ⟨a1, a2, a3, a4, rfl, t, ht, hr⟩ | ⟨a1, rfl, rfl⟩, rfl⟩ := h
  · exact ⟨_, rfl, h1 ⟨a1, a2, (List.getElem?_eq_some_iff.1 ht).1, a3, a4⟩ r (by rw [valD, ht]; exact hr)⟩
  · exact ⟨.tuple [.int .i64 0, .int .i64 800], rfl, h2 a1⟩
theorem boundS {ts : List Task} {S A B : AV} {m : Mem} {c : Nat} {K : AV → Mem → Nat → Prop} (i k : Int) (hS : Sl tv 6 m S ts) (hsz : ts.length * 48 ≤ 140737488351232) (hA : norm A = .int .i64 i) (hB : norm B = .int .i64 k)
    (h1 : Fine ts i k → ∀ r, r = valD ts i k → K (.tuple [.sym (.int .i64 r), .int .i64 0]) m c) (h2 : ¬ Fine ts i k → K (.tuple [.int .i64 0, .int .i64 800]) m c) : CallT (fun _ => Try.prog) 9 [S, A, B] m c K := by
  refine CallT.sl1 (R0 := ResD ts i k) (fun S => [S, .sym (.int .i64 i), .sym (.int .i64 k)]) hS (fun _ => rfl) (fun l S' h => ⟨h, ArgV.flat rfl (by rw [hA]; rfl), ArgV.flat rfl (by rw [hB]; rfl), trivial⟩) ?_ ?_ ?_
  · rintro rfl
    refine (boundNil i k _ _).mono ?_
    rintro v m' c' ⟨rfl, rfl, rfl⟩
    exact ⟨rfl, 0, 800, .inr ⟨fun h => by simp at h, rfl, rfl⟩, rfl⟩
  · rintro rows n cap opn ⟨h3, h4, h5, h6⟩
    exact boundC ts rows n cap opn h3 (by omega) h5 h6 i k
  · intro v hv
    exact resD_ends (Q := fun v => K v m c) hv h1 h2
theorem refBoundS {ts : List Task} {S A B : AV} {m : Mem} {c : Nat} {K : AV → Mem → Nat → Prop} (i k : Int) (hS : Sl tv 6 m S ts) (hsz : ts.length * 48 ≤ 140737488351232) (hA : norm A = .int .i64 i) (hB : norm B = .int .i64 k)
    (h1 : Fine ts i k → ∀ r, r = valD ts i k → K (.tuple [.sym (.int .i64 r), .int .i64 0]) m c) (h2 : ¬ Fine ts i k → K (.tuple [.int .i64 0, .int .i64 800]) m c) : CallT (fun _ => Try.prog) 10 [S, A, B] m c K := by
  refine CallT.sl1 (R0 := ResD ts i k) (fun S => [S, .sym (.int .i64 i), .sym (.int .i64 k)]) hS (fun _ => rfl) (fun l S' h => ⟨h, ArgV.flat rfl (by rw [hA]; rfl), ArgV.flat rfl (by rw [hB]; rfl), trivial⟩) ?_ ?_ ?_
  · rintro rfl
    refine (refBoundNil i k _ _).mono ?_
    rintro v m' c' ⟨rfl, rfl, rfl⟩
    exact ⟨rfl, 0, 800, .inr ⟨fun h => by simp at h, rfl, rfl⟩, rfl⟩
  · rintro rows n cap opn ⟨h3, h4, h5, h6⟩
    exact refBoundC ts rows n cap opn h3 (by omega) h5 h6 i k
  · intro v hv
    exact resD_ends (Q := fun v => K v m c) hv h1 h2

set_option maxRecDepth 200000 in
set_option maxHeartbeats 4000000 in
theorem demands (ts : List Task) (rows : List (List AV)) (n cap : Nat) (hn : n = ts.length) (hflat : ∀ row ∈ rows, AV.flatL row = true) (hrows : At tv ts rows) (hw : ∀ t ∈ ts, TaskIn t) (hsz : n * 48 ≤ 140737488351232) (hre : rows = ts.map tv) (i k : Int) :
    CallS Try.prog 3 [.sym (.slice 0 6 0 n cap false none), .sym (.int .i64 i), .sym (.int .i64 k)] (memB [some (.cells false 6 rows)] []) 1 fun v _ _ => v = .bool true := by
  have hrl : rows.length = n := by rw [hre, List.length_map, hn]
  have hat : Hat tv ts rows n := ⟨hn, by omega, hflat, hrows⟩
  obtain ⟨n2, hn2⟩ : ∃ k, k = n + 2 := ⟨_, rfl⟩
  refine CallS.enter X Try.func3 (by decide) ?_
  cbv
  repeat' first
    | with_reducible exact trivial
    | ((with_reducible apply lendTasksT (xs := ts)); (focus rfl); (focus rfl); (focus exact hat); (focus omega); (focus omega); (focus decide); (intro rows' hle; cbv))
    | ((with_reducible apply boundS (ts := ts) i k); (focus exact Sl.rows0 rfl rfl hn (by omega) hle.2.1); (focus omega); (focus rfl); (focus rfl);
        all_goals first
          | ((with_reducible intro hc r hr); cbv)
          | ((with_reducible intro hno); cbv))
    | ((with_reducible apply refBoundS (ts := ts) i k); (focus exact Sl.rows0 rfl rfl hn (by omega) hrows); (focus omega); (focus rfl); (focus rfl);
        all_goals first
          | ((with_reducible intro hc2 r2 hr2); first | (exfalso; exact hno hc2) | cbv)
          | ((with_reducible intro hno2); first | (exfalso; exact hno2 hc) | cbv))
    | ((with_reducible apply keptTasksT (xs := ts)); (focus rfl); (focus rfl); (focus exact hle); (focus rfl); (focus rfl); (focus exact hat); (focus omega); cbv)
    | ((with_reducible intro v hv); (try rw [wrap_i64] at hv); cbv)
    | ((with_reducible apply uAnd); (focus first | kernel_rfl | omega); try cbv)
    | ((with_reducible apply And.intro) <;> (with_reducible intro h) <;> first | ((with_reducible exfalso); omega) | cbv)
    | ((with_reducible apply awakeT); cbv)
    | ((with_reducible apply CallT.enter X Try.func11 (by decide)); cbv)
set_option maxRecDepth 200000 in
set_option maxHeartbeats 4000000 in
theorem demandsNil (i k : Int) :
    CallS Try.prog 3 [.nilslice, .sym (.int .i64 i), .sym (.int .i64 k)] (memB [] []) 0 fun v _ _ => v = .bool true := by
  obtain ⟨ts, hts⟩ : ∃ ts : List Task, ts = [] := ⟨_, rfl⟩
  have hl0 : ts.length = 0 := by rw [hts]; rfl
  refine CallS.enter X Try.func3 (by decide) ?_
  cbv
  repeat' first
    | with_reducible exact trivial
    | ((with_reducible apply lendTasksNilT); (focus rfl); (intro rows' hle; cbv))
    | ((with_reducible apply boundS (ts := ts) i k); (focus exact Sl.rows0 rfl rfl hl0.symm (by omega) (by rw [hts]; exact hle.2.1)); (focus omega); (focus rfl); (focus rfl);
        all_goals first
          | ((with_reducible intro hc r hr); cbv)
          | ((with_reducible intro hno); cbv))
    | ((with_reducible apply refBoundS (ts := ts) i k); (focus exact Sl.nil rfl hts); (focus omega); (focus rfl); (focus rfl);
        all_goals first
          | ((with_reducible intro hc2 r2 hr2); first | (exfalso; exact hno hc2) | cbv)
          | ((with_reducible intro hno2); first | (exfalso; exact hno2 hc) | cbv))
    | ((with_reducible apply keptTasksNilT); (focus rfl); (focus rfl); (focus exact hle); (focus rfl); cbv)
    | ((with_reducible intro v hv); (try rw [wrap_i64] at hv); cbv)
    | ((with_reducible apply uAnd); (focus first | kernel_rfl | omega); try cbv)
    | ((with_reducible apply And.intro) <;> (with_reducible intro h) <;> first | ((with_reducible exfalso); omega) | cbv)
    | ((with_reducible apply awakeT); cbv)
    | ((with_reducible apply CallT.enter X Try.func11 (by decide)); cbv)
end Go.Proofs.Ytoajpihpldndcaa.Dem
