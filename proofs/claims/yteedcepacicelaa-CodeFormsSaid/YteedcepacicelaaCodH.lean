/- The law CodeForms. -/
import Derived.Test.YteedcepacicelaaCodO
namespace Go.Proofs.Yteedcepacicelaa.Cod
open Go.Ab Base Kit
set_option linter.unusedVariables false
set_option linter.unusedSimpArgs false

def Ok5 (a0 b0 a1 b1 a2 b2 a3 b3 a4 b4 : Int) : Prop := OkI 5 a0 b0 ∧ OkI 5 a1 b1 ∧ OkI 5 a2 b2 ∧ OkI 5 a3 b3 ∧ OkI 5 a4 b4
theorem may5 {a0 b0 a1 b1 a2 b2 a3 b3 a4 b4 : Int} : May [⟨a0, b0⟩, ⟨a1, b1⟩, ⟨a2, b2⟩, ⟨a3, b3⟩, ⟨a4, b4⟩] ↔ Ok5 a0 b0 a1 b1 a2 b2 a3 b3 a4 b4 := by
  have e : (([⟨a0, b0⟩, ⟨a1, b1⟩, ⟨a2, b2⟩, ⟨a3, b3⟩, ⟨a4, b4⟩] : List Instr).length : Int) = 5 := rfl
  unfold May AllOk Ok5
  rw [e]
  constructor
  · rintro ⟨_, h⟩
    exact ⟨h ⟨a0, b0⟩ (by simp), h ⟨a1, b1⟩ (by simp), h ⟨a2, b2⟩ (by simp), h ⟨a3, b3⟩ (by simp), h ⟨a4, b4⟩ (by simp)⟩
  · rintro ⟨h0, h1, h2, h3, h4⟩
    refine ⟨by simp, fun x hx => ?_⟩
    simp only [List.mem_cons, List.not_mem_nil, or_false] at hx
    rcases hx with rfl | rfl | rfl | rfl | rfl <;> assumption
theorem sl5 {A : AV} {m : Mem} {k cap : Nat} {opn rw : Bool} {rows : List (List AV)} {xs : List Instr} (hl : xs.length = 5) (hA : norm A = .slice k 2 0 5 cap opn none) (hk : m.get k = some (.cells rw 2 rows)) (hr : rowsN tv rows xs) : Sl tv 2 m A xs :=
  Sl.text hA hk hl.symm rfl hr
theorem may5T {A : AV} {m : Mem} {c : Nat} {K : AV → Mem → Nat → Prop} {k cap : Nat} {opn rw : Bool} {rows : List (List AV)} {a0 b0 a1 b1 a2 b2 a3 b3 a4 b4 : Int} (hA : norm A = .slice k 2 0 5 cap opn none) (hk : m.get k = some (.cells rw 2 rows)) (hr : rowsN tv rows [⟨a0, b0⟩, ⟨a1, b1⟩, ⟨a2, b2⟩, ⟨a3, b3⟩, ⟨a4, b4⟩])
    (h1 : Ok5 a0 b0 a1 b1 a2 b2 a3 b3 a4 b4 → K (.bool true) m c) (h2 : ¬ Ok5 a0 b0 a1 b1 a2 b2 a3 b3 a4 b4 → K (.bool false) m c) : CallT (fun _ => Try.prog) 14 [A] m c K :=
  mayT (sl5 rfl hA hk hr) (fun h => h1 (may5.1 h)) fun h => h2 fun g => h (may5.2 g)
theorem put5T {A : AV} {m : Mem} {c : Nat} {K : AV → Mem → Nat → Prop} {k cap : Nat} {opn rw : Bool} {rows : List (List AV)} {a0 b0 a1 b1 a2 b2 a3 b3 a4 b4 : Int} (hA : norm A = .slice k 2 0 5 cap opn none) (hk : m.get k = some (.cells rw 2 rows)) (hr : rowsN tv rows [⟨a0, b0⟩, ⟨a1, b1⟩, ⟨a2, b2⟩, ⟨a3, b3⟩, ⟨a4, b4⟩])
    (hno : ¬ Ok5 a0 b0 a1 b1 a2 b2 a3 b3 a4 b4) (h2 : K (.tuple [.str [], .int .i64 400]) m c) : CallT (fun _ => Try.prog) 8 [A] m c K :=
  putT (sl5 rfl hA hk hr) (fun h => (hno (may5.1 h)).elim) fun _ => h2
theorem long_not {n : Nat} {x : Instr} (h : 64 < n) : ¬ May (List.replicate n x) := fun hm => by
  have := hm.1
  rw [List.length_replicate] at this
  omega
theorem slMake {A : AV} {m : Mem} {k n cap c : Nat} {opn rw : Bool} {rows : List (List AV)} (hA : norm A = .slice k 2 0 n cap opn none) (hk : m.get k = some (.cells rw 2 rows)) (hr : rows = List.replicate c [.int .i64 0, .int .i64 0]) (hc : n ≤ c) (hs : n ≤ 140737488355328) : Sl tv 2 m A (List.replicate n ⟨0, 0⟩) := by
  subst hr
  refine .at k 0 n cap opn rw none _ hA hk (by simp) (.inl rfl) (fun j x hx => ?_) hs
  rw [List.getElem?_replicate] at hx
  split at hx
  · cases hx
    exact ⟨[.int .i64 0, .int .i64 0], by rw [List.getElem?_replicate, if_pos (by omega)], rfl⟩
  · cases hx

set_option maxRecDepth 200000 in
set_option maxHeartbeats 8000000 in
theorem codeForms (which x : Int) : CallS Try.prog 5 [.sym (.int .i64 which), .sym (.int .i64 x)] (memB [] []) 0 fun v _ _ => v = .bool true := by
  refine CallS.enter X Try.func5 (by decide) ?_
  cbv
  repeat' first
    | with_reducible exact trivial
    | ((with_reducible apply may5T); (focus rfl); (focus rfl); (focus exact ⟨rfl, rfl, rfl, rfl, rfl, trivial⟩); all_goals first
        | ((with_reducible intro hok); first | ((with_reducible exfalso); unfold Ok5 OkI at hok; omega) | cbv)
        | ((with_reducible intro hok); first | ((with_reducible exfalso); unfold Ok5 OkI at hok; omega) | cbv))
    | ((with_reducible apply put5T); (focus rfl); (focus rfl); (focus exact ⟨rfl, rfl, rfl, rfl, rfl, trivial⟩); (focus unfold Ok5 OkI; omega); cbv)
    | ((with_reducible apply mayT); (focus exact slMake rfl rfl hrows (by omega) (by omega)); all_goals first
        | ((with_reducible intro hok); first | exact absurd hok (long_not (by omega)) | cbv))
    | ((with_reducible apply putT); (focus exact slMake rfl rfl hrows (by omega) (by omega)); all_goals first
        | ((with_reducible intro hok s hs); exact absurd hok (long_not (by omega)))
        | ((with_reducible intro hok); cbv))
    | ((with_reducible apply uAnd); (focus refine ⟨by omega, by omega, by omega, ?_⟩; show (16 : Int) * v ≤ 140737488355328; omega); (with_reducible intro nl nc rows hnl hnc hrows); cbv)
    | ((with_reducible intro v hv); (first | (have hvb := and_bound (by omega) (by omega) hv) | (rw [wrap_i64] at hv) | (rw [wrap_u64] at hv) | (rw [Int.tmod_eq_emod_of_nonneg (by omega)] at hv) | skip); cbv)
    | ((with_reducible apply uAnd); (focus first | kernel_rfl | omega); try cbv)
    | ((with_reducible apply And.intro) <;> (with_reducible intro h) <;> first | ((with_reducible exfalso); omega) | cbv)
    | ((with_reducible apply awakeT); cbv)
    | ((with_reducible apply CallT.enter X Try.func12 (by decide)); cbv)
end Go.Proofs.Yteedcepacicelaa.Cod
