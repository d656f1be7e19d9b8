/- Instructions: which may be; what code.below and the document's instrMay say. -/
import Derived.Test.YteedcepacicelaaBase
import Derived.Test.YteedcepacicelaaAb42
namespace Go.Proofs.Yteedcepacicelaa.Cod
open Go.Ab Base
set_option linter.unusedVariables false
set_option linter.unusedSimpArgs false

structure Instr where
  op : Int
  arg : Int
def tv (x : Instr) : List AV := [.sym (.int .i64 x.op), .sym (.int .i64 x.arg)]
/-- Below what an operation's argument must be. -/
def Lim (op many r : Int) : Prop :=
  ((op = 0 ∨ op = 8 ∨ op = 11) ∧ r = 1) ∨ (op = 1 ∧ r = 256) ∨ ((op = 2 ∨ op = 3 ∨ op = 4 ∨ op = 5) ∧ r = 16) ∨ ((op = 6 ∨ op = 7) ∧ r = many) ∨ ((op = 9 ∨ op = 10) ∧ r = 8) ∨ ((op < 0 ∨ 11 < op) ∧ r = 0)
theorem lim_one (op many : Int) : ∃ r, Lim op many r := by
  unfold Lim
  by_cases h1 : op = 0 ∨ op = 8 ∨ op = 11
  · exact ⟨1, by omega⟩
  by_cases h2 : op = 1
  · exact ⟨256, by omega⟩
  by_cases h3 : op = 2 ∨ op = 3 ∨ op = 4 ∨ op = 5
  · exact ⟨16, by omega⟩
  by_cases h4 : op = 6 ∨ op = 7
  · exact ⟨many, by omega⟩
  by_cases h5 : op = 9 ∨ op = 10
  · exact ⟨8, by omega⟩
  exact ⟨0, by omega⟩
/-- An instruction that may be, in a program of so many. -/
def OkI (many op arg : Int) : Prop :=
  0 ≤ arg ∧ (((op = 0 ∨ op = 8 ∨ op = 11) ∧ arg < 1) ∨ (op = 1 ∧ arg < 256) ∨ ((op = 2 ∨ op = 3 ∨ op = 4 ∨ op = 5) ∧ arg < 16) ∨ ((op = 6 ∨ op = 7) ∧ arg < many) ∨ ((op = 9 ∨ op = 10) ∧ arg < 8))
def AllOk (many : Int) (p : List Instr) : Prop := ∀ x ∈ p, OkI many x.op x.arg
/-- A program that may be. -/
def May (p : List Instr) : Prop := p.length ≤ 64 ∧ AllOk p.length p

set_option maxHeartbeats 1000000 in
theorem belowC (a b : Int) (m : Mem) (n : Nat) : CallS Try.prog 19 [.sym (.int .i64 a), .sym (.int .i64 b)] m n fun v m' n' => (∃ r, Lim a b r ∧ Go.Ab.full v = .sym (.int .i64 r)) ∧ m' = m ∧ n' = n := by
  refine CallS.at0 X Try.func19 (by decide) rfl (d := 2) (R0 := fun v => ∃ r, Lim a b r ∧ Go.Ab.full v = .sym (.int .i64 r)) ?_ m n
  cbv
  repeat' first
    | ((with_reducible apply And.intro) <;> (with_reducible intro h) <;> cbv)
  all_goals
    refine ⟨_, ?_, rfl⟩
    unfold Lim
    omega
def gB (lim : Int → Int → Int) : List AV → Mem → Option AV
  | [A, B], _ => match norm A, norm B with
    | .int .i64 x, .int .i64 y => some (.int .i64 (lim x y))
    | _, _ => none
  | _, _ => none
theorem gB_ok {lim : Int → Int → Int} (hl : ∀ x y, Lim x y (lim x y)) : HintOK Try.prog (19, gB lim) := fun vs m v hv c => by
  dsimp only at hv ⊢
  unfold gB at hv
  repeat' split at hv
  all_goals first | cases hv | skip
  rename_i A B _ _ x y hA hB
  refine CallS.normA (vs' := [.sym (.int .i64 x), .sym (.int .i64 y)]) (by simp only [normL, norm, hA, hB]) ((belowC x y m c).mono ?_)
  rintro v m' c' ⟨⟨r, hr, hv⟩, rfl, rfl⟩
  have : r = lim x y := by have := hl x y; unfold Lim at this hr; omega
  subst this
  exact ⟨hv, rfl, rfl⟩
noncomputable def callB (lim : Int → Int → Int) : CallA := aRun Try.prog (readHints [(19, gB lim)]) 5
theorem XB {lim : Int → Int → Int} (hl : ∀ x y, Lim x y (lim x y)) : Ctx Try.prog (callB lim) := ctx_read (l := [(19, gB lim)]) hm ⟨gB_ok hl, trivial⟩ 5

theorem allOk_nil (many : Int) : AllOk many [] := fun x h => by cases h
theorem okI_at {many : Int} {p : List Instr} {x : Instr} {i : Nat} (h : AllOk many p) (hx : p[i]? = some x) : OkI many x.op x.arg := h x (List.mem_of_getElem? hx)
theorem allOk_take {many : Int} {p : List Instr} {x : Instr} {i : Nat} (h : AllOk many (p.take i)) (hx : p[i]? = some x) (ho : OkI many x.op x.arg) : AllOk many (p.take (i + 1)) := fun y hy => by
  rw [take_succ_at hx] at hy
  rcases List.mem_append.1 hy with hy | hy
  · exact h y hy
  · rw [List.mem_singleton.1 hy]; exact ho
end Go.Proofs.Yteedcepacicelaa.Cod
