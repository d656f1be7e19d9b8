/- Arguments opened: types whose cells are numbers, truth values and strings alone. -/
import Derived.Test.YtndbcpfbddhonaaAb27
import Derived.OpenShut
import Derived.ChangeArms
import Derived.WideShapes
namespace Go.Ab
set_option linter.unusedSimpArgs false
set_option linter.unusedVariables false

inductive AK where
  | int (k : IntKind)
  | bool
  | str
def AK.ok : AK → Value → Prop
  | .int k, v => ∃ n, v = .int k n ∧ (Lit.int k n).wf = true
  | .bool, v => ∃ b, v = .bool b
  | .str, v => ∃ s : ByteArray, v = .string s ∧ s.size ≤ maxLen
def allOk : List AK → List Value → Prop
  | [], [] => True
  | a :: as, v :: vs => a.ok v ∧ allOk as vs
  | _, _ => False
theorem allOk_append : ∀ {L1 L2 : List AK} {c1 c2 : List Value}, allOk L1 c1 → allOk L2 c2 → allOk (L1 ++ L2) (c1 ++ c2)
  | [], _, [], _, _, h => h
  | _ :: _, _, _ :: _, _, h, h' => ⟨h.1, allOk_append h.2 h'⟩
  | [], _, _ :: _, _, h, _ => h.elim
  | _ :: _, _, [], _, h, _ => h.elim
theorem allOk_length : ∀ {L : List AK} {c : List Value}, allOk L c → c.length = L.length
  | [], [], _ => rfl
  | _ :: _, _ :: _, h => by simp [allOk_length h.2]
  | [], _ :: _, h => h.elim
  | _ :: _, [], h => h.elim

def flatParts (rec_ : TypeId → Option (List AK)) : List (Nat × TypeId) → Nat → Option (List AK)
  | [], _ => some []
  | (off, t) :: r, o => if off = o then
      match rec_ t with
      | some L => (flatParts rec_ r (o + L.length)).map (L ++ ·)
      | none => none
    else none
/-- A type's cells, if they are numbers, truth values and strings alone. -/
def flatT (P : Program) : Nat → TypeId → Option (List AK)
  | 0, _ => none
  | d + 1, t =>
    match P.underlying t with
    | some .bool => some [.bool]
    | some (.int k) => some [.int k]
    | some .string => some [.str]
    | some (.struct fs) => match flatParts (flatT P d) (fs.toList.map fun f => (f.offset, f.type)) 0 with
      | some L => if P.cellsOf t = L.length then some L else none
      | none => none
    | some (.array n e) => match flatParts (flatT P d) ((List.range n).map fun i => (i * P.cellsOf e, e)) 0 with
      | some L => if P.cellsOf t = L.length then some L else none
      | none => none
    | _ => none

section
variable {H : Type} {enc : TypeId × Value → H} {P : Program} {w : World} {base : Nat} {spare : Nat → Bool} {held : Bool}

theorem trod_arr {t e : TypeId} {n fuel : Nat} {cs : List Value} {x : DataW H × List MemPlace} (ht : P.underlying t = some (.array n e)) (h : DataW.trod enc P w base spare held fuel t cs = some x) :
    ∃ m, cs.length = P.cellsOf t ∧ ∀ i, i < n → ∃ y, DataW.trod enc P w base spare held m e ((cs.drop (i * P.cellsOf e)).take (P.cellsOf e)) = some y := by
  obtain ⟨xs, m, _, _, hl, hx, hf⟩ := DataW.trod_array ht h
  exact ⟨m, hl, fun i hi => ⟨xs[i]'(by omega), by rw [hf i hi]; exact List.getElem?_eq_getElem _⟩⟩

theorem parts_open {rec_ : TypeId → Option (List AK)} {n : Nat} (ih : ∀ t L cs x, rec_ t = some L → DataW.trod enc P w base spare held n t cs = some x → allOk L cs) {cs : List Value} :
    ∀ (parts : List (Nat × TypeId)) (o : Nat) (L : List AK), (∀ p ∈ parts, ∃ y, DataW.trod enc P w base spare held n p.2 ((cs.drop p.1).take (P.cellsOf p.2)) = some y) → flatParts rec_ parts o = some L → allOk L ((cs.drop o).take L.length)
  | [], o, L, _, h => by simp only [flatParts, Option.some.injEq] at h; subst h; simp [allOk]
  | (off, t) :: r, o, L, hp, h => by
    simp only [flatParts] at h
    split at h
    · rename_i e
      subst e
      split at h
      · rename_i L1 h1
        simp only [Option.map_eq_some_iff] at h
        obtain ⟨L2, h2, rfl⟩ := h
        obtain ⟨y, hy⟩ := hp (off, t) (by simp)
        have a1 := ih t L1 _ y h1 hy
        have a2 := parts_open ih r (off + L1.length) L2 (fun p hp' => hp p (by simp [hp'])) h2
        have hl := allOk_length a1
        rw [List.length_append, List.take_add, List.drop_drop]
        refine allOk_append ?_ a2
        have : (cs.drop off).take L1.length = (cs.drop off).take (P.cellsOf t) := by
          rw [← hl, List.length_take]
          rcases Nat.le_total (P.cellsOf t) (cs.drop off).length with h' | h'
          · rw [Nat.min_eq_left h']
          · rw [Nat.min_eq_right h', List.take_length, List.take_of_length_le h']
        rw [this]
        exact a1
      · cases h
    · cases h

theorem flat_open : ∀ (d : Nat) (t : TypeId) (L : List AK) (fuel : Nat) (cs : List Value) (x : DataW H × List MemPlace), flatT P d t = some L → DataW.trod enc P w base spare held fuel t cs = some x → allOk L cs
  | 0, _, _, _, _, _, h, _ => by cases h
  | d + 1, t, L, fuel, cs, x, h, hx => by
    simp only [flatT] at h
    split at h
    · rename_i hu; cases h
      obtain ⟨b, rfl, _⟩ := DataW.trod_bool hu hx
      exact ⟨⟨b, rfl⟩, trivial⟩
    · rename_i k hu; cases h
      obtain ⟨n, rfl, _, hw⟩ := DataW.trod_int hu hx
      exact ⟨⟨n, rfl, hw⟩, trivial⟩
    · rename_i hu; cases h
      obtain ⟨s, rfl, _, hs⟩ := DataW.trod_string hu hx
      exact ⟨⟨s, rfl, hs⟩, trivial⟩
    · rename_i fs hu
      split at h
      · rename_i L' hL
        split at h
        · rename_i hc
          cases h
          obtain ⟨xs, n, rfl, _, hl, hxs, hf⟩ := DataW.trod_struct hu hx
          have := parts_open (cs := cs) (fun t L cs x => flat_open d t L n cs x) _ 0 L (fun p hp => by
            obtain ⟨f, hf', rfl⟩ := List.mem_map.1 hp
            obtain ⟨i, hi⟩ := List.getElem?_of_mem hf'
            have hi' : fs[i]? = some f := by rw [← Array.getElem?_toList]; exact hi
            have hlt : i < xs.length := by
              rw [hxs]
              obtain ⟨h, _⟩ := Array.getElem?_eq_some_iff.1 hi'
              exact h
            exact ⟨xs[i], by rw [hf i f hi']; exact List.getElem?_eq_getElem hlt⟩) hL
          rw [List.drop_zero, ← hc, ← hl, List.take_length] at this
          exact this
        · cases h
      · cases h
    · rename_i n e hu
      split at h
      · rename_i L' hL
        split at h
        · rename_i hc
          cases h
          obtain ⟨m, hl, hf⟩ := trod_arr hu hx
          have := parts_open (cs := cs) (fun t L cs x => flat_open d t L m cs x) _ 0 L (fun p hp => by
            obtain ⟨i, hi, rfl⟩ := List.mem_map.1 hp
            exact hf i (List.mem_range.1 hi)) hL
          rw [List.drop_zero, ← hc, ← hl, List.take_length] at this
          exact this
        · cases h
      · cases h
    · cases h
end

end Go.Ab
