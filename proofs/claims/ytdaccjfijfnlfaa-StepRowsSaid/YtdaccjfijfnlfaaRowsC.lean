/- The steps by an answer: for regions whose order Go leaves open. -/
import Derived.Test.YtdaccjfijfnlfaaRefW
import Derived.Test.YtdaccjfijfnlfaaAb46
namespace Go.Proofs.Ytdaccjfijfnlfaa.Stp
open Go.Ab Base Cod Kit
set_option linter.unusedVariables false
set_option linter.unusedSimpArgs false

/-- What a slice holds is told by the memory. -/
theorem sl_one {α : Type} {f : α → List AV} (hinj : ∀ x y, normL (f x) = normL (f y) → x = y) {z : Nat} {m : Mem} {A : AV} {xs ys : List α} (h1 : Sl f z m A xs) (h2 : Sl f z m A ys) : xs = ys := by
  cases h1 with
  | nil a b =>
    cases h2 with
    | nil c d => rw [b, d]
    | «at» k o n cap opn rw' alt rows h => rw [a] at h; cases h
  | «at» k o n cap opn rw' alt rows h hk hn ha hr hsz =>
    cases h2 with
    | nil c d => rw [c] at h; cases h
    | «at» k2 o2 n2 cap2 opn2 rw2 alt2 rows2 h2 hk2 hn2 ha2 hr2 hsz2 =>
      rw [h] at h2
      cases h2
      rw [hk] at hk2
      cases hk2
      have hl : xs.length = ys.length := by rw [← hn, hn2]
      refine List.ext_getElem? fun j => ?_
      cases hx : xs[j]? with
      | none =>
        have := List.getElem?_eq_none_iff.1 hx
        rw [List.getElem?_eq_none (by omega)]
      | some x =>
        have hj := (List.getElem?_eq_some_iff.1 hx).1
        have hy : ys[j]? = some ys[j] := List.getElem?_eq_getElem (by omega)
        obtain ⟨r1, a1, b1⟩ := hr j x hx
        obtain ⟨r2, a2, b2⟩ := hr2 j _ hy
        rw [a1] at a2
        cases a2
        rw [hy, hinj x ys[j] (b1.symm.trans b2)]
theorem tu_inj (x y : Instr) (h : normL (tu x) = normL (tu y)) : x = y := by
  simp only [tu, normL, norm, List.cons.injEq, AV.int.injEq, true_and, and_true] at h
  obtain ⟨a, b⟩ := x
  obtain ⟨c, d⟩ := y
  simp only at h
  rw [h.1, h.2]
theorem iv_inj (x y : Int) (h : normL (iv x) = normL (iv y)) : x = y := by
  simpa only [iv, normL, norm, List.cons.injEq, AV.int.injEq, true_and, and_true] using h
theorem i6_inj : ∀ {xs ys : List Int}, normL (xs.map i6) = normL (ys.map i6) → xs = ys
  | [], [], _ => rfl
  | [], _ :: _, h => by cases h
  | _ :: _, [], h => by cases h
  | x :: xs, y :: ys, h => by
    simp only [List.map_cons, i6, normL, norm, List.cons.injEq, AV.int.injEq, true_and] at h
    rw [h.1, i6_inj h.2]
/-- An answer of a step that is right. -/
def Good (vs : List AV) (m : Mem) (v : AV) : Prop :=
  ∃ (p : List Instr) (gs : List Int) (pc acc inn outs : Int) (xs : List Int) (A V I O G : AV), vs = [A, V, I, O, G] ∧ xs.length = 16 ∧ Sl tu 2 m A p ∧ Sl iv 1 m G gs ∧ norm V = norm (.agg (i6 pc :: i6 acc :: xs.map i6)) ∧ norm I = .int .i64 inn ∧ norm O = .int .i64 outs ∧ StepR p pc acc xs inn outs gs v ∧ Go.Ab.full v = v
theorem good_one {p : List Instr} {gs : List Int} {pc acc inn outs : Int} {xs : List Int} {A V I O G : AV} {m : Mem} {v w : AV} (hA : Sl tu 2 m A p) (hG : Sl iv 1 m G gs) (hV : norm V = norm (.agg (i6 pc :: i6 acc :: xs.map i6))) (hI : norm I = .int .i64 inn) (hO : norm O = .int .i64 outs) (hv : StepR p pc acc xs inn outs gs v)
    (h : Good [A, V, I, O, G] m w) : w = v := by
  obtain ⟨p2, gs2, pc2, acc2, inn2, outs2, xs2, A2, V2, I2, O2, G2, e, _, hA2, hG2, hV2, hI2, hO2, hw, _⟩ := h
  simp only [List.cons.injEq, and_true] at e
  obtain ⟨rfl, rfl, rfl, rfl, rfl⟩ := e
  obtain rfl := sl_one tu_inj hA hA2
  obtain rfl := sl_one iv_inj hG hG2
  rw [hV] at hV2
  rw [hI] at hI2
  rw [hO] at hO2
  cases hI2
  cases hO2
  simp only [norm, normL, i6, AV.agg.injEq, List.cons.injEq, AV.int.injEq, true_and] at hV2
  obtain ⟨rfl, rfl, h3⟩ := hV2
  obtain rfl := i6_inj (xs := xs) (ys := xs2) h3
  exact stepR_one hw hv
open Classical in
noncomputable def gStep (vs : List AV) (m : Mem) : Option AV := if h : ∃ v, Good vs m v then some h.choose else none
theorem gStep_good {vs : List AV} {m : Mem} {v : AV} (h : gStep vs m = some v) : Good vs m v := by
  unfold gStep at h
  split at h
  · rename_i hx
    cases h
    exact hx.choose_spec
  · cases h
theorem gStep_at {p : List Instr} {gs : List Int} {pc acc inn outs : Int} {xs : List Int} {A V I O G : AV} {m : Mem} {v : AV} (hl : xs.length = 16) (hA : Sl tu 2 m A p) (hG : Sl iv 1 m G gs) (hV : norm V = norm (.agg (i6 pc :: i6 acc :: xs.map i6))) (hI : norm I = .int .i64 inn) (hO : norm O = .int .i64 outs) (hv : StepR p pc acc xs inn outs gs v) (hf : Go.Ab.full v = v) :
    gStep [A, V, I, O, G] m = some v := by
  have hx : ∃ v, Good [A, V, I, O, G] m v := ⟨v, p, gs, pc, acc, inn, outs, xs, A, V, I, O, G, rfl, hl, hA, hG, hV, hI, hO, hv, hf⟩
  unfold gStep
  rw [dif_pos hx, good_one hA hG hV hI hO hv hx.choose_spec]
theorem gStep_ok : HintOK Try.prog (12, gStep) := fun vs m v h c => by
  obtain ⟨p, gs, pc, acc, inn, outs, xs, A, V, I, O, G, rfl, hl, hA, hG, hV, hI, hO, hv, hf⟩ := gStep_good h
  obtain ⟨x0, x1, x2, x3, x4, x5, x6, x7, x8, x9, x10, x11, x12, x13, x14, x15, rfl⟩ := list16 hl
  exact (stepT hA hG hV hI hO (K := fun v' m' c' => Go.Ab.full v' = Go.Ab.full v ∧ m' = m ∧ c' = c) fun v1 h1 => ⟨v, by rw [hf, stepR_one hv h1], rfl, rfl, rfl⟩).1
theorem gRef_ok : HintOK Try.prog (13, gStep) := fun vs m v h c => by
  obtain ⟨p, gs, pc, acc, inn, outs, xs, A, V, I, O, G, rfl, hl, hA, hG, hV, hI, hO, hv, hf⟩ := gStep_good h
  obtain ⟨x0, x1, x2, x3, x4, x5, x6, x7, x8, x9, x10, x11, x12, x13, x14, x15, rfl⟩ := list16 hl
  exact (refT hA hG hV hI hO (K := fun v' m' c' => Go.Ab.full v' = Go.Ab.full v ∧ m' = m ∧ c' = c) fun v1 h1 => ⟨v, by rw [hf, stepR_one hv h1], rfl, rfl, rfl⟩).1
/-- A context that knows both steps' answers. -/
theorem stepCtx : ∃ (call : CallA), Ctx Try.prog call ∧
    (∀ {p : List Instr} {gs : List Int} {pc acc inn outs : Int} {xs : List Int} {A V I O G : AV} {m : Mem} {c : Nat} {v : AV}, StepR p pc acc xs inn outs gs v → Go.Ab.full v = v → xs.length = 16 → Sl tu 2 m A p → Sl iv 1 m G gs → norm V = norm (.agg (i6 pc :: i6 acc :: xs.map i6)) → norm I = .int .i64 inn → norm O = .int .i64 outs → call 12 [A, V, I, O, G] m c = some (v, m, c)) ∧
    (∀ {p : List Instr} {gs : List Int} {pc acc inn outs : Int} {xs : List Int} {A V I O G : AV} {m : Mem} {c : Nat} {v : AV}, StepR p pc acc xs inn outs gs v → Go.Ab.full v = v → xs.length = 16 → Sl tu 2 m A p → Sl iv 1 m G gs → norm V = norm (.agg (i6 pc :: i6 acc :: xs.map i6)) → norm I = .int .i64 inn → norm O = .int .i64 outs → call 13 [A, V, I, O, G] m c = some (v, m, c)) := by
  refine ⟨aRun Try.prog (readHints [(12, gStep), (13, gStep)]) 5, ctx_read (l := [(12, gStep), (13, gStep)]) hm ⟨gStep_ok, gRef_ok, trivial⟩ 5, ?_, ?_⟩
  · intro p gs pc acc inn outs xs A V I O G m c v hv hf hl hA hG hV hI hO
    have hx : (readHints [(12, gStep), (13, gStep)]).ext 12 = some fun vs m c => (gStep vs m).map fun v => (v, m, c) := rfl
    simp only [aRun, hx, gStep_at hl hA hG hV hI hO hv hf, Option.map_some]
  · intro p gs pc acc inn outs xs A V I O G m c v hv hf hl hA hG hV hI hO
    have hx : (readHints [(12, gStep), (13, gStep)]).ext 13 = some fun vs m c => (gStep vs m).map fun v => (v, m, c) := rfl
    simp only [aRun, hx, gStep_at hl hA hG hV hI hO hv hf, Option.map_some]
/-- Every step answers: one of four forms. -/
theorem stepElim {p : List Instr} {gs : List Int} {pc acc x0 x1 x2 x3 x4 x5 x6 x7 x8 x9 x10 x11 x12 x13 x14 x15 inn outs : Int} {C : Prop}
    (htt : ∀ (q0 q1 q2 q3 q4 q5 q6 q7 q8 q9 q10 q11 q12 q13 q14 q15 q16 q17 w g vv e : Int), StepR p pc acc [x0, x1, x2, x3, x4, x5, x6, x7, x8, x9, x10, x11, x12, x13, x14, x15] inn outs gs (.tuple [.agg [i6 q0, i6 q1, i6 q2, i6 q3, i6 q4, i6 q5, i6 q6, i6 q7, i6 q8, i6 q9, i6 q10, i6 q11, i6 q12, i6 q13, i6 q14, i6 q15, i6 q16, i6 q17], .agg [.bool true, i6 w, i6 g, i6 vv, .bool true], i6 e]) → (e = 0 ∨ e = 1000) → C)
    (htf : ∀ (q0 q1 q2 q3 q4 q5 q6 q7 q8 q9 q10 q11 q12 q13 q14 q15 q16 q17 w g vv e : Int), StepR p pc acc [x0, x1, x2, x3, x4, x5, x6, x7, x8, x9, x10, x11, x12, x13, x14, x15] inn outs gs (.tuple [.agg [i6 q0, i6 q1, i6 q2, i6 q3, i6 q4, i6 q5, i6 q6, i6 q7, i6 q8, i6 q9, i6 q10, i6 q11, i6 q12, i6 q13, i6 q14, i6 q15, i6 q16, i6 q17], .agg [.bool true, i6 w, i6 g, i6 vv, .bool false], i6 e]) → (e = 0 ∨ e = 1000) → C)
    (hft : ∀ (q0 q1 q2 q3 q4 q5 q6 q7 q8 q9 q10 q11 q12 q13 q14 q15 q16 q17 w g vv e : Int), StepR p pc acc [x0, x1, x2, x3, x4, x5, x6, x7, x8, x9, x10, x11, x12, x13, x14, x15] inn outs gs (.tuple [.agg [i6 q0, i6 q1, i6 q2, i6 q3, i6 q4, i6 q5, i6 q6, i6 q7, i6 q8, i6 q9, i6 q10, i6 q11, i6 q12, i6 q13, i6 q14, i6 q15, i6 q16, i6 q17], .agg [.bool false, i6 w, i6 g, i6 vv, .bool true], i6 e]) → (e = 0 ∨ e = 1000) → C)
    (hff : ∀ (q0 q1 q2 q3 q4 q5 q6 q7 q8 q9 q10 q11 q12 q13 q14 q15 q16 q17 w g vv e : Int), StepR p pc acc [x0, x1, x2, x3, x4, x5, x6, x7, x8, x9, x10, x11, x12, x13, x14, x15] inn outs gs (.tuple [.agg [i6 q0, i6 q1, i6 q2, i6 q3, i6 q4, i6 q5, i6 q6, i6 q7, i6 q8, i6 q9, i6 q10, i6 q11, i6 q12, i6 q13, i6 q14, i6 q15, i6 q16, i6 q17], .agg [.bool false, i6 w, i6 g, i6 vv, .bool false], i6 e]) → (e = 0 ∨ e = 1000) → C) : C := by
  have hex : ∃ v, StepR p pc acc [x0, x1, x2, x3, x4, x5, x6, x7, x8, x9, x10, x11, x12, x13, x14, x15] inn outs gs v := by
    by_cases hok : StepOk p pc acc [x0, x1, x2, x3, x4, x5, x6, x7, x8, x9, x10, x11, x12, x13, x14, x15] inn outs gs
    · by_cases hp : p = []
      · exact ⟨_, stepR_nil hok hp⟩
      · have hl : pc.toNat < p.length := by
          have h1 := hok.2.1
          have h3 : p.length ≠ 0 := fun e => hp (List.eq_nil_of_length_eq_zero e)
          omega
        exact ⟨_, stepR_go hok (List.getElem?_eq_getElem hl)⟩
    · exact ⟨_, stepR_bad hok⟩
  obtain ⟨v, hv⟩ := hex
  obtain ⟨q0, q1, q2, q3, q4, q5, q6, q7, q8, q9, q10, q11, q12, q13, q14, q15, q16, q17, w, g, vv, e, t, f, rfl, he⟩ := stepR_form hv
  cases t <;> cases f
  · exact hff _ _ _ _ _ _ _ _ _ _ _ _ _ _ _ _ _ _ w g vv e hv he
  · exact hft _ _ _ _ _ _ _ _ _ _ _ _ _ _ _ _ _ _ w g vv e hv he
  · exact htf _ _ _ _ _ _ _ _ _ _ _ _ _ _ _ _ _ _ w g vv e hv he
  · exact htt _ _ _ _ _ _ _ _ _ _ _ _ _ _ _ _ _ _ w g vv e hv he
end Go.Proofs.Ytdaccjfijfnlfaa.Stp
