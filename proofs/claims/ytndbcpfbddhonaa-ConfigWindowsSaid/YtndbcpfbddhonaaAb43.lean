/- Slices that grow by several rows at once; rows of bytes. -/
import Derived.Test.YtndbcpfbddhonaaAb42
namespace Go.Ab
set_option linter.unusedSimpArgs false
set_option linter.unusedVariables false
section
variable {α : Type} {f : α → List AV} {xs ys : List α} {x y : α} {L cap L' k : Nat} {rows rows' : List (List AV)}
theorem Holds.many (hf : ∀ x, AV.flatL (f x) = true) (e : rows = ys.map f) (hk : k = ys.length) : Holds f ys k k rows := by
  subst e hk
  exact ⟨rfl, by simp, Nat.le_refl _, map_flat ys hf, At.map f ys⟩
theorem Holds.inPlaceL (h : Holds f xs L cap rows) (hf : ∀ x, AV.flatL (f x) = true) (hk : k = ys.length) (hc : L + k ≤ cap) (hL : L' = L + k) (e : rows' = rows.take (0 + L) ++ ys.map f ++ rows.drop (0 + L + k)) : Holds f (xs ++ ys) L' cap rows' := by
  obtain ⟨h1, h2, h3, h4, h5⟩ := h
  subst e hk
  rw [Nat.zero_add]
  refine ⟨by simp; omega, by simp; omega, by omega, fun row hr => ?_, fun j z hz => ?_⟩
  · rcases List.mem_append.1 hr with hr | hr
    · rcases List.mem_append.1 hr with hr | hr
      · exact h4 row (List.mem_of_mem_take hr)
      · exact map_flat ys hf row hr
    · exact h4 row (List.mem_of_mem_drop hr)
  · rw [List.append_assoc]
    by_cases hj : j < L
    · rw [List.getElem?_append_left (by omega)] at hz
      rw [List.getElem?_append_left (by simp; omega), List.getElem?_take_of_lt hj]
      exact h5 j z hz
    · have hjl : j < (xs ++ ys).length := (List.getElem?_eq_some_iff.1 hz).1
      rw [List.length_append] at hjl
      rw [List.getElem?_append_right (by omega)] at hz
      rw [List.getElem?_append_right (by simp; omega), List.length_take, Nat.min_eq_left (by omega), List.getElem?_append_left (by simp; omega), List.getElem?_map, h1, hz]
      rfl
theorem Holds.anewL (h : Holds f xs L cap rows) (hf : ∀ x, AV.flatL (f x) = true) (hk : k = ys.length) (hL : L' = L + k) (e : rows' = (rows.drop 0).take L ++ ys.map f) : Holds f (xs ++ ys) L' L' rows' := by
  obtain ⟨h1, h2, h3, h4, h5⟩ := h
  subst e hk
  rw [List.drop_zero]
  refine ⟨by simp; omega, by simp; omega, Nat.le_refl _, fun row hr => ?_, fun j z hz => ?_⟩
  · rcases List.mem_append.1 hr with hr | hr
    · exact h4 row (List.mem_of_mem_take hr)
    · exact map_flat ys hf row hr
  · by_cases hj : j < L
    · rw [List.getElem?_append_left (by omega)] at hz
      rw [List.getElem?_append_left (by simp; omega), List.getElem?_take_of_lt hj]
      exact h5 j z hz
    · have hjl : j < (xs ++ ys).length := (List.getElem?_eq_some_iff.1 hz).1
      rw [List.length_append] at hjl
      rw [List.getElem?_append_right (by omega)] at hz
      rw [List.getElem?_append_right (by simp; omega), List.length_take, Nat.min_eq_left (by omega), List.getElem?_map, h1, hz]
      rfl
theorem Holds.inPlace2 (h : Holds f xs L cap rows) (hf : ∀ x, AV.flatL (f x) = true) (hc : L + 2 ≤ cap) (hL : L' = L + 2) (e : rows' = rows.take (0 + L) ++ [f x, f y] ++ rows.drop (0 + L + 2)) : Holds f (xs ++ [x, y]) L' cap rows' := h.inPlaceL (ys := [x, y]) hf rfl hc hL e
theorem Holds.anew2 (h : Holds f xs L cap rows) (hf : ∀ x, AV.flatL (f x) = true) (hL : L' = L + 2) (e : rows' = (rows.drop 0).take L ++ [f x, f y]) : Holds f (xs ++ [x, y]) L' L' rows' := h.anewL (ys := [x, y]) hf rfl hL e
end

/-- A byte's row. -/
def uv (x : Int) : List AV := [.sym (.int .u8 x)]
def u8s (xs : List Int) : List UInt8 := xs.map fun n => UInt8.ofNat n.toNat
theorem bytesA_uv : ∀ xs : List Int, bytesA (xs.map uv) = some (u8s xs)
  | [] => rfl
  | x :: xs => by
    have ih := bytesA_uv xs
    simp only [List.map_cons, uv, bytesA, ih, u8s, Option.map_some]
theorem Holds.bytes {xs : List Int} {L cap : Nat} {rows : List (List AV)} (h : Holds uv xs L cap rows) : bytesA ((rows.drop 0).take L) = some (u8s xs) := by
  have e : (rows.drop 0).take L = xs.map uv := by
    rw [List.drop_zero]
    apply List.ext_getElem?
    intro j
    rw [List.getElem?_map]
    by_cases hj : j < L
    · rw [List.getElem?_take_of_lt hj]
      have hlen := h.len
      have hj2 : j < xs.length := by omega
      have hx : xs[j]? = some xs[j] := List.getElem?_eq_getElem hj2
      rw [hx, h.at_ j _ hx]; rfl
    · rw [List.getElem?_eq_none (by simp; omega), List.getElem?_eq_none (by rw [← h.len]; omega)]; rfl
  rw [e, bytesA_uv]
theorem strAt {R : List (List AV)} {s : List UInt8} {K : List UInt8 → Prop} (hb : bytesA R = some s) (k : ∀ s', s' = s → K s') : ∃ s, bytesA R = some s ∧ K s := ⟨s, hb, k s rfl⟩
theorem strIx {s : List UInt8} {i : Nat} {K : UInt8 → Prop} (h : i < s.length) (k : ∀ b, s[i]? = some b → K b) : ∃ b, s[i]? = some b ∧ K b := ⟨s[i], List.getElem?_eq_getElem h, k _ (List.getElem?_eq_getElem h)⟩
theorem tmod2 {a v : Int} (h : v = a.tmod 2) (ha : 0 ≤ a) : v = a % 2 := by rw [h, Int.tmod_eq_emod_of_nonneg ha]
theorem Holds.one' {α : Type} {f : α → List AV} {x : α} {rows : List (List AV)} (hf : ∀ x, AV.flatL (f x) = true) (e : rows = [f x]) : Holds f [x] 1 1 rows := Holds.many hf e rfl
theorem wf_u64 {x : Int} (h : (Lit.int .u64 x).wf = true) : 0 ≤ x ∧ x < 18446744073709551616 := by
  have h1 : (Lit.int .u64 x).wf = (decide (IntKind.min .u64 ≤ x) && decide (x ≤ IntKind.max .u64)) := by first | rfl | kernel_rfl
  rw [h1, Bool.and_eq_true, decide_eq_true_eq, decide_eq_true_eq] at h
  have e1 : IntKind.min .u64 = 0 := by kernel_rfl
  have e2 : IntKind.max .u64 = 18446744073709551615 := by kernel_rfl
  rw [e1, e2] at h
  omega
end Go.Ab
