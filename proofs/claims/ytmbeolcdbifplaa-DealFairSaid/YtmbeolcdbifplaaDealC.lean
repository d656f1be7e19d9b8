/- Deal and the document's Deal of nobody who waits; at any memory. -/
import Derived.Test.YtmbeolcdbifplaaDealB
import Derived.Test.YtmbeolcdbifplaaSameInts
namespace Go.Proofs.Ytmbeolcdbifplaa.Deal
open Go.Ab
set_option linter.unusedVariables false
set_option linter.unusedSimpArgs false

theorem rises_nil : Rises [] := ⟨fun x h => by simp at h, fun i x y h => by simp at h⟩
theorem rises_two {a b : Int} : Rises [a, b] ↔ 0 ≤ a ∧ a < 8 ∧ 0 ≤ b ∧ b < 8 ∧ a < b := by
  constructor
  · rintro ⟨h1, h2⟩
    have k1 := h1 a (by simp)
    have k2 := h1 b (by simp)
    have k3 := h2 0 a b rfl rfl
    omega
  · rintro ⟨h1, h2, h3, h4, h5⟩
    refine ⟨fun x hx => ?_, fun i x y hx hy => ?_⟩
    · simp at hx; rcases hx with rfl | rfl <;> omega
    · match i with
      | 0 => simp at hx hy; omega
      | i + 1 => simp at hy

set_option maxRecDepth 100000 in
set_option maxHeartbeats 4000000 in
theorem dealNil (i d l la : Int) (high : Bool) :
    CallS Try.prog 9 [.agg [.sym (.int .i64 i), .sym (.int .i64 d), .sym (.int .i64 l), .sym (.int .i64 la)], .bool high, .nilslice] (memB [] []) 0 fun v _ _ => v.flat = true ∧ ResL i d l la high [] (Go.Ab.full v) := by
  obtain ⟨cnt, hc⟩ : ∃ cnt : Int → Bool, ∀ x, cnt x = true ↔ Count x := ⟨fun x => decide (Count x), fun x => decide_eq_true_iff⟩
  have hcf : ∀ x, cnt x = false ↔ ¬ Count x := fun x => by rw [← hc]; simp
  have X := XD cnt hc
  refine CallS.enter X Try.func9 (by decide) ?_
  cbv
  with_reducible apply CallT.enter X Try.func16 (by decide)
  cbv
  repeat' first
    | with_reducible exact trivial
    | ((with_reducible intro v hv); (try rw [wrap_i64] at hv); cbv)
    | ((with_reducible apply uAnd); (focus first | kernel_rfl | omega); try cbv)
    | ((with_reducible apply And.intro) <;> (with_reducible intro h) <;> (try simp only [hc, hcf, Count] at h) <;> first | ((with_reducible exfalso); omega) | cbv)
    | ((with_reducible apply CallT.enter X Try.func17 (by decide)); cbv)
    | ((with_reducible apply CallT.enter X Try.func18 (by decide)); cbv)
    | ((with_reducible apply LoopT.once X); cbv)
    | (cases high <;> cbv)
  all_goals
    refine ⟨_, _, _, _, _, _, ?_, rfl⟩
    first
      | exact .inr ⟨fun ⟨⟨_, _⟩, ⟨_, _⟩, ⟨_, _⟩, _, _, _, _, hr⟩ => by omega, rfl, rfl, rfl, rfl, rfl, rfl⟩
      | exact .inl ⟨⟨⟨by omega, by omega⟩, ⟨by omega, by omega⟩, ⟨by omega, by omega⟩, by omega, by omega, by omega, by omega, rises_nil⟩, rfl, rfl, by omega, by first | exact .inl ⟨rfl, by omega, by omega, by omega⟩ | exact .inr ⟨rfl, by omega, by omega⟩⟩

set_option maxRecDepth 100000 in
set_option maxHeartbeats 4000000 in
theorem refDealNil (i d l la : Int) (high : Bool) :
    CallS Try.prog 10 [.agg [.sym (.int .i64 i), .sym (.int .i64 d), .sym (.int .i64 l), .sym (.int .i64 la)], .bool high, .nilslice] (memB [] []) 0 fun v _ _ => v.flat = true ∧ ResL i d l la high [] (Go.Ab.full v) := by
  refine CallS.enter X Try.func10 (by decide) ?_
  cbv
  with_reducible apply CallT.enter X Try.func19 (by decide)
  cbv
  repeat' first
    | with_reducible exact trivial
    | ((with_reducible intro v hv); (try rw [wrap_i64] at hv); cbv)
    | ((with_reducible apply uAnd); (focus first | kernel_rfl | omega); try cbv)
    | ((with_reducible apply And.intro) <;> (with_reducible intro h) <;> first | ((with_reducible exfalso); omega) | cbv)
    | ((with_reducible apply CallT.enter X Try.func20 (by decide)); cbv)
    | ((with_reducible apply LoopT.once X); cbv)
    | (cases high <;> cbv)
  all_goals
    refine ⟨_, _, _, _, _, _, ?_, rfl⟩
    first
      | exact .inr ⟨fun ⟨⟨_, _⟩, ⟨_, _⟩, ⟨_, _⟩, _, _, _, _, hr⟩ => by omega, rfl, rfl, rfl, rfl, rfl, rfl⟩
      | exact .inl ⟨⟨⟨by omega, by omega⟩, ⟨by omega, by omega⟩, ⟨by omega, by omega⟩, by omega, by omega, by omega, by omega, rises_nil⟩, rfl, rfl, by omega, by first | exact .inl ⟨rfl, by omega, by omega, by omega⟩ | exact .inr ⟨rfl, by omega, by omega⟩⟩

def intsOf (rows : List (List AV)) : List Int := rows.map fun r => match r with
  | [a] => iOf a
  | _ => 0
theorem at_take {α : Type} {f : α → List AV} (xs : List α) (n : Nat) : At f (xs.take n) (xs.map f) := fun j x h => by
  rw [List.getElem?_take] at h
  split at h
  · simp [h]
  · cases h

theorem spec_split {i d l la : Int} {high : Bool} {xs : List Int} {i' d' l' la' w e : Int} (h : SpecL i d l la high xs i' d' l' la' w e) :
    (Can i d l la xs ∧ e = 0 ∧ w = turnOf la xs ∧ i' = i + one high ∧ (0 ≤ w ∧ la' = w ∧ d' = d + one high ∧ l' = l ∨ w < 0 ∧ la' = la ∧ d' = d ∧ l' = l + one high)) ∨
    (¬ Can i d l la xs ∧ i' = 0 ∧ d' = 0 ∧ l' = 0 ∧ la' = 0 ∧ w = 0 ∧ e = 1800) := by
  rcases h with ⟨h1, h2, h3, h4, h5⟩ | h
  · refine .inl ⟨h1, h2, h3, ?_⟩
    rcases h5 with ⟨rfl, h5⟩ | ⟨rfl, h5⟩
    · simp only [one, Bool.false_eq_true, if_false]; omega
    · simp only [one, if_true]; omega
  · exact .inr h
def Fits (i d l la : Int) (high : Bool) (i' d' l' la' w : Int) : Prop := i' = i + one high ∧ (0 ≤ w ∧ la' = w ∧ d' = d + one high ∧ l' = l ∨ w < 0 ∧ la' = la ∧ d' = d ∧ l' = l + one high)
def okV (i' d' l' la' w : Int) : AV := .tuple [.agg [.sym (.int .i64 i'), .sym (.int .i64 d'), .sym (.int .i64 l'), .sym (.int .i64 la')], .sym (.int .i64 w), .int .i64 0]
def noV : AV := .tuple [.agg [.int .i64 0, .int .i64 0, .int .i64 0, .int .i64 0], .int .i64 0, .int .i64 1800]
theorem resL_ends {i d l la : Int} {high : Bool} {xs : List Int} {v : AV} {Q : AV → Prop} (h : ResL i d l la high xs v)
    (h1 : Can i d l la xs → ∀ i' d' l' la' w : Int, w = turnOf la xs → Fits i d l la high i' d' l' la' w → Q (okV i' d' l' la' w)) (h2 : ¬ Can i d l la xs → Q noV) : ∃ v', Go.Ab.full v' = v ∧ Q v' := by
  obtain ⟨i', d', l', la', w, e, hs, rfl⟩ := h
  rcases spec_split hs with ⟨hc, rfl, hw, hi, hf⟩ | ⟨hc, rfl, rfl, rfl, rfl, rfl, rfl⟩
  · exact ⟨_, rfl, h1 hc i' d' l' la' w hw ⟨hi, hf⟩⟩
  · exact ⟨noV, rfl, h2 hc⟩

theorem dealT {A B C D S : AV} {high : Bool} {m : Mem} {c : Nat} {K : AV → Mem → Nat → Prop} (xs : List Int) (hS : Sl iv 1 m S xs)
    (hA : norm A = .int .i64 (iOf A)) (hB : norm B = .int .i64 (iOf B)) (hC : norm C = .int .i64 (iOf C)) (hD : norm D = .int .i64 (iOf D))
    (h1 : Can (iOf A) (iOf B) (iOf C) (iOf D) xs → ∀ i' d' l' la' w : Int, w = turnOf (iOf D) xs → Fits (iOf A) (iOf B) (iOf C) (iOf D) high i' d' l' la' w → K (okV i' d' l' la' w) m c) (h2 : ¬ Can (iOf A) (iOf B) (iOf C) (iOf D) xs → K noV m c) :
    CallT (fun _ => Try.prog) 9 [.agg [A, B, C, D], .bool high, S] m c K := by
  refine CallT.sl1 (R0 := fun v => ResL (iOf A) (iOf B) (iOf C) (iOf D) high xs v) (fun S => [.agg [.sym (.int .i64 (iOf A)), .sym (.int .i64 (iOf B)), .sym (.int .i64 (iOf C)), .sym (.int .i64 (iOf D))], .bool high, S]) hS (fun _ => rfl) (fun l S' h => ⟨ArgV.flat rfl (by simp only [norm, normL, hA, hB, hC, hD]), ArgV.flat rfl rfl, h, trivial⟩) ?_ ?_ ?_
  · rintro rfl
    exact dealNil (iOf A) (iOf B) (iOf C) (iOf D) high
  · rintro rows n cap opn ⟨h3, h4, h5, h6⟩
    exact dealC xs rows n cap opn h3 (by omega) h5 h6 (iOf A) (iOf B) (iOf C) (iOf D) high
  · intro v hv
    exact resL_ends (Q := fun v => K v m c) hv h1 h2
theorem refDealT {A B C D S : AV} {high : Bool} {m : Mem} {c : Nat} {K : AV → Mem → Nat → Prop} (xs : List Int) (hS : Sl iv 1 m S xs)
    (hA : norm A = .int .i64 (iOf A)) (hB : norm B = .int .i64 (iOf B)) (hC : norm C = .int .i64 (iOf C)) (hD : norm D = .int .i64 (iOf D))
    (h1 : Can (iOf A) (iOf B) (iOf C) (iOf D) xs → ∀ i' d' l' la' w : Int, w = turnOf (iOf D) xs → Fits (iOf A) (iOf B) (iOf C) (iOf D) high i' d' l' la' w → K (okV i' d' l' la' w) m c) (h2 : ¬ Can (iOf A) (iOf B) (iOf C) (iOf D) xs → K noV m c) :
    CallT (fun _ => Try.prog) 10 [.agg [A, B, C, D], .bool high, S] m c K := by
  refine CallT.sl1 (R0 := fun v => ResL (iOf A) (iOf B) (iOf C) (iOf D) high xs v) (fun S => [.agg [.sym (.int .i64 (iOf A)), .sym (.int .i64 (iOf B)), .sym (.int .i64 (iOf C)), .sym (.int .i64 (iOf D))], .bool high, S]) hS (fun _ => rfl) (fun l S' h => ⟨ArgV.flat rfl (by simp only [norm, normL, hA, hB, hC, hD]), ArgV.flat rfl rfl, h, trivial⟩) ?_ ?_ ?_
  · rintro rfl
    exact refDealNil (iOf A) (iOf B) (iOf C) (iOf D) high
  · rintro rows n cap opn ⟨h3, h4, h5, h6⟩
    exact refDealC xs rows n cap opn h3 (by omega) h5 h6 (iOf A) (iOf B) (iOf C) (iOf D) high
  · intro v hv
    exact resL_ends (Q := fun v => K v m c) hv h1 h2
theorem Sl.ints {m : Mem} {A : AV} {k o n cap : Nat} {opn rw : Bool} {rows : List (List AV)} (h : norm A = .slice k 1 o n cap opn none) (hk : m.get k = some (.cells rw 1 rows)) (hn : n = ((intsOf (rows.drop o)).take n).length) (hsz : Nat.ble n 140737488355328 = true) (hr : rowsN iv (rows.drop o) ((intsOf (rows.drop o)).take n)) : Sl iv 1 m A ((intsOf (rows.drop o)).take n) :=
  Sl.text h hk hn hsz hr
theorem awakeT {m : Mem} {c : Nat} {K : AV → Mem → Nat → Prop} (h : K (.bool true) m c) : CallT (fun _ => Try.prog) 13 [] m c K := ⟨awakeAt h⟩
end Go.Proofs.Ytmbeolcdbifplaa.Deal
