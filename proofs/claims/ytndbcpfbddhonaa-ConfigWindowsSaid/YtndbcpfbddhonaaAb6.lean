/- Strings, '==', conversions, slicing, maps, makes, literals: the abstract ones are the model's. -/
import Derived.Test.YtndbcpfbddhonaaAb5
import Derived.Laws.StructEq
import Derived.Laws.Strings
import Derived.Laws.BytesString
namespace Go.Ab
set_option linter.unusedSimpArgs false
set_option linter.unusedVariables false

section
variable {P : Program} {μ : Mu} {w : World} {nm : Nat}

theorem str_ok {op : BinOp} {x y : List UInt8} {v : AV} (t : TypeId) (h : aStr op x y = some v) : ∃ u, (binOp op t (.string ⟨x.toArray⟩) (.string ⟨y.toArray⟩)).run P w = .ok u w ∧ cn μ v = some u := by
  cases op with
  | add =>
    simp only [aStr] at h
    split at h
    · rename_i hle
      cases h
      refine ⟨_, ?_, rfl⟩
      have h2 : ¬ ((((⟨x.toArray⟩ : ByteArray).size + (⟨y.toArray⟩ : ByteArray).size : Nat) : Int) > IntKind.i64.max) := by
        simp only [ByteArray.size, List.size_toArray]
        have : IntKind.i64.max = 9223372036854775807 := by decide
        rw [this]
        omega
      have h3 : (⟨x.toArray⟩ : ByteArray) ++ ⟨y.toArray⟩ = ⟨(x ++ y).toArray⟩ := by
        apply ByteArray.ext
        simp [ByteArray.data_append]
      simp only [binOp, Op.stringOp, h2, if_false, Sem.run_pure, h3]
    · cases h
  | eql => cases h; exact ⟨_, by simp only [binOp, Op.stringOp, ByteArray.toList_mk, Sem.run_pure], rfl⟩
  | neq => cases h; exact ⟨_, by simp only [binOp, Op.stringOp, ByteArray.toList_mk, Sem.run_pure], rfl⟩
  | lss => cases h; exact ⟨_, by simp only [binOp, Op.stringOp, ByteArray.toList_mk, Sem.run_pure], rfl⟩
  | leq => cases h; exact ⟨_, by simp only [binOp, Op.stringOp, ByteArray.toList_mk, Sem.run_pure], rfl⟩
  | gtr => cases h; exact ⟨_, by simp only [binOp, Op.stringOp, ByteArray.toList_mk, Sem.run_pure], rfl⟩
  | geq => cases h; exact ⟨_, by simp only [binOp, Op.stringOp, ByteArray.toList_mk, Sem.run_pure], rfl⟩
  | _ => cases h

theorem eqS_ok {d : TypeDesc} {x y : AV} {b : Bool} {X Y : Value} {t : TypeId} (k : Nat) (hu : P.underlying t = some d) (hx : cn μ x = some X) (hy : cn μ y = some Y) (h : eqS d x y = some b) :
    (Op.equalIn (k + 1) t X Y).run P w = .ok b w := by
  unfold eqS at h
  split at h <;> (try simp only [cn, Option.map_eq_some_iff, Option.some.injEq] at hx hy)
  · subst hx; subst hy; cases h; simp [Op.equalIn, run_underlying hu]
  · subst hx; subst hy
    split at h
    · rename_i e; subst e; cases h; simp [Op.equalIn, run_underlying hu]
    · cases h
  · subst hx; subst hy; cases h; simp only [Op.equalIn, Sem.run_bind, run_underlying hu, Result.andThen_ok, Sem.run_pure, beq_toListBytes, ByteArray.toList_mk]
  · subst hx; subst hy; cases h; simp [Op.equalIn, run_underlying hu]
  · obtain ⟨p, hp, rfl⟩ := hy; subst hx; cases h; simp [Op.equalIn, run_underlying hu, plPtr]
  · obtain ⟨p, hp, rfl⟩ := hx; subst hy; cases h; simp [Op.equalIn, run_underlying hu, plPtr]
  · subst hx; subst hy; cases h; simp [Op.equalIn, run_underlying hu]
  · obtain ⟨p, hp, rfl⟩ := hy; subst hx; cases h; simp [Op.equalIn, run_underlying hu, plSlice]
  · obtain ⟨p, hp, rfl⟩ := hx; subst hy; cases h; simp [Op.equalIn, run_underlying hu, plSlice]
  · subst hx; subst hy; cases h; simp [Op.equalIn, run_underlying hu]
  · obtain ⟨p, hp, rfl⟩ := hy; subst hx; cases h; simp [Op.equalIn, run_underlying hu]
  · obtain ⟨p, hp, rfl⟩ := hx; subst hy; cases h; simp [Op.equalIn, run_underlying hu]
  · subst hx; subst hy; cases h; simp [Op.equalIn, run_underlying hu]
  · obtain ⟨p, hp, rfl⟩ := hy; subst hx; cases h; simp [Op.equalIn, run_underlying hu]
  · obtain ⟨p, hp, rfl⟩ := hx; subst hy; cases h; simp [Op.equalIn, run_underlying hu]
  · subst hx; subst hy; cases h; simp [Op.equalIn, run_underlying hu]
  · obtain ⟨p, hp, rfl⟩ := hy; subst hx; cases h; simp [Op.equalIn, run_underlying hu]
  · obtain ⟨p, hp, rfl⟩ := hx; subst hy; cases h; simp [Op.equalIn, run_underlying hu]
  · cases h

theorem eqFields_ok {rec_ : TypeId → AV → AV → Option Bool} {k : Nat} (ih : ∀ (t : TypeId) (x y : AV) (X Y : Value) (b : Bool), cn μ x = some X → cn μ y = some Y → rec_ t x y = some b → (Op.equalIn k t X Y).run P w = .ok b w)
    {xs ys : List AV} {lx ly : List Value} (hx : cnL μ xs = some lx) (hy : cnL μ ys = some ly) : ∀ (fs : List Field) (b : Bool),
    eqParts rec_ P xs ys ((fs.filter (·.name ≠ "_")).map fun f => (f.type, f.offset)) = some b → (Op.eqFields k lx.toArray ly.toArray fs).run P w = .ok b w := by
  intro fs
  induction fs with
  | nil => intro b h; simp [eqParts] at h; subst h; simp [Op.eqFields]
  | cons f fs ihf =>
    intro b h
    by_cases hn : f.name ≠ "_"
    · rw [List.filter_cons_of_pos (by simpa using hn)] at h
      simp only [List.map_cons, eqParts] at h
      split at h
      · rename_i a c ha hc
        obtain ⟨A, hA, hcA⟩ := part_run (P := P) (w := w) hx ha
        obtain ⟨C, hC, hcC⟩ := part_run (P := P) (w := w) hy hc
        split at h
        · rename_i hr
          have := ih _ _ _ _ _ _ hcA hcC hr
          simp only [Op.eqFields, ne_eq, hn, not_false_eq_true, if_true, Sem.run_bind, hA, hC, Result.andThen_ok, this, Bool.not_true, Bool.false_eq_true, if_false]
          exact ihf b h
        · rename_i hr
          have := ih _ _ _ _ _ _ hcA hcC hr
          cases h
          simp [Op.eqFields, hn, hA, hC, this]
        · cases h
      · cases h
    · rw [List.filter_cons_of_neg (by simpa using hn)] at h
      simp only [Op.eqFields, hn, if_false]
      exact ihf b h

theorem eqArr_ok {rec_ : TypeId → AV → AV → Option Bool} {k : Nat} (ih : ∀ (t : TypeId) (x y : AV) (X Y : Value) (b : Bool), cn μ x = some X → cn μ y = some Y → rec_ t x y = some b → (Op.equalIn k t X Y).run P w = .ok b w)
    {xs ys : List AV} {lx ly : List Value} (hx : cnL μ xs = some lx) (hy : cnL μ ys = some ly) {t e : TypeId} {n z : Nat} (hu : P.underlying t = some (.array n e)) (hz : sizeT P e = some z) {b : Bool}
    (h : eqParts rec_ P xs ys ((List.range n).map fun i => (e, i * z)) = some b) : (Op.equalIn (k + 1) t (.agg lx.toArray) (.agg ly.toArray)).run P w = .ok b w := by
  simp only [Op.equalIn, Sem.run_bind, run_underlying hu, Result.andThen_ok, size_run hz, Std.Legacy.Range.forIn_eq_forIn_range', Std.Legacy.Range.size, Nat.sub_zero, Nat.add_sub_cancel, Nat.div_one, ← List.range_eq_range']
  revert h
  generalize List.range n = is
  induction is with
  | nil => intro h; simp [eqParts] at h; subst h; simp
  | cons i is ihi =>
    intro h
    simp only [List.map_cons, eqParts] at h
    split at h
    · rename_i a c ha hc
      obtain ⟨A, hA, hcA⟩ := part_run (P := P) (w := w) hx ha
      obtain ⟨C, hC, hcC⟩ := part_run (P := P) (w := w) hy hc
      split at h
      · rename_i hr
        have := ih _ _ _ _ _ _ hcA hcC hr
        simp only [List.forIn_cons, Sem.run_bind, hA, hC, Result.andThen_ok, this, Bool.not_true, Bool.false_eq_true, if_false, Sem.run_pure]
        exact ihi h
      · rename_i hr
        have := ih _ _ _ _ _ _ hcA hcC hr
        cases h
        simp [List.forIn_cons, hA, hC, this]
      · cases h
    · cases h

theorem fieldsOf_eq {t : TypeId} {fs : Array Field} (h : P.underlying t = some (.struct fs)) : P.fieldsOf t = fs := by simp [Program.fieldsOf, h]

theorem eqIn_ok : ∀ (d : Nat) (k : Nat), d ≤ k → ∀ (t : TypeId) (x y : AV) (X Y : Value) (b : Bool), cn μ x = some X → cn μ y = some Y → eqIn P d t x y = some b → (Op.equalIn k t X Y).run P w = .ok b w := by
  intro d
  induction d with
  | zero => intro k _ t x y X Y b _ _ h; simp [eqIn] at h
  | succ d ih =>
    intro k hk t x y X Y b hx hy h
    obtain ⟨k, rfl⟩ : ∃ j, k = j + 1 := ⟨k - 1, by omega⟩
    have ihk := ih k (by omega)
    simp only [eqIn] at h
    split at h
    · rename_i fs hu
      split at h
      · split at h
        · cases h
        · rename_i hst
          simp only [cn, Option.map_eq_some_iff] at hx hy
          obtain ⟨lx, hlx, rfl⟩ := hx
          obtain ⟨ly, hly, rfl⟩ := hy
          rw [run_equalIn_struct w k t _ _ (by rw [hu, fieldsOf_eq hu]) (by simpa using hst), fieldsOf_eq hu]
          exact eqFields_ok ihk hlx hly _ b h
      · cases h
    · rename_i n e hu
      split at h
      · split at h
        · rename_i z hz
          simp only [cn, Option.map_eq_some_iff] at hx hy
          obtain ⟨lx, hlx, rfl⟩ := hx
          obtain ⟨ly, hly, rfl⟩ := hy
          exact eqArr_ok ihk hlx hly hu hz h
        · cases h
      · cases h
    · rename_i u _ _ hu
      exact eqS_ok k hu hx hy h
    · cases h

theorem guard_ok {op : BinOp} {t : TypeId} {xo yo : Operand} {x y : AV} {X Y : Value} (hX : cn μ x = some X) (hY : cn μ y = some Y) (h : guardOk P t xo yo x y = true) :
    (eqGuard op t xo yo X Y).run P w = .ok () w := by
  have key : ∀ op', (op' = BinOp.eql ∨ op' = BinOp.neq) → (eqGuard op' t xo yo X Y).run P w = .ok () w := by
    intro op' hop
    cases x with
    | niliface =>
      simp only [cn, Option.some.injEq] at hX; subst hX
      cases y with
      | niliface =>
        simp only [cn, Option.some.injEq] at hY; subst hY
        simp only [guardOk] at h
        rcases hop with rfl | rfl <;> cases xo <;> cases yo <;> simp_all [eqGuard, isConstO]
      | sym v => simp [guardOk] at h
      | _ =>
        simp only [cn, Option.map_eq_some_iff, Option.some.injEq] at hY
        first
          | (subst hY; rcases hop with rfl | rfl <;> simp [eqGuard]; done)
          | (obtain ⟨p, hp, rfl⟩ := hY; rcases hop with rfl | rfl <;> simp [eqGuard, plPtr, plSlice])
    | agg cs =>
      simp only [cn, Option.map_eq_some_iff] at hX; obtain ⟨lx, hlx, rfl⟩ := hX
      cases y with
      | agg ds =>
        simp only [cn, Option.map_eq_some_iff] at hY; obtain ⟨ly, hly, rfl⟩ := hY
        exact run_eqGuard_agg w op' t xo yo _ _ (by simpa [guardOk] using h)
      | sym v => simp [guardOk] at h
      | _ =>
        simp only [cn, Option.map_eq_some_iff, Option.some.injEq] at hY
        first
          | (subst hY; rcases hop with rfl | rfl <;> simp [eqGuard]; done)
          | (obtain ⟨p, hp, rfl⟩ := hY; rcases hop with rfl | rfl <;> simp [eqGuard, plPtr, plSlice])
    | sym v => cases y <;> simp [guardOk] at h
    | _ =>
      simp only [cn, Option.map_eq_some_iff, Option.some.injEq] at hX
      first
        | (subst hX; rcases hop with rfl | rfl <;> simp [eqGuard]; done)
        | (obtain ⟨p, hp, rfl⟩ := hX; rcases hop with rfl | rfl <;> simp [eqGuard, plPtr, plSlice])
  cases op with
  | eql => exact key _ (.inl rfl)
  | neq => exact key _ (.inr rfl)
  | _ => simp [eqGuard]

theorem eqS_sym_l (d : TypeDesc) (a y : AV) : eqS d (.sym a) y = none := by cases d <;> rfl
theorem eqS_sym_r (d : TypeDesc) (x b : AV) : eqS d x (.sym b) = none := by cases d <;> cases x <;> rfl
theorem eqIn_sym_l (d : Nat) (t : TypeId) (a y : AV) : eqIn P d t (.sym a) y = none := by
  cases d with
  | zero => rfl
  | succ d =>
    simp only [eqIn]
    split
    · rfl
    · rfl
    · exact eqS_sym_l _ _ _
    · rfl
theorem eqIn_sym_r (d : Nat) (t : TypeId) (x b : AV) : eqIn P d t x (.sym b) = none := by
  cases d with
  | zero => rfl
  | succ d =>
    simp only [eqIn]
    split
    · cases x <;> rfl
    · cases x <;> rfl
    · exact eqS_sym_r _ _ _
    · rfl
theorem binEq_ok {t : TypeId} {x y : AV} {X Y : Value} {b : Bool} (hni : ∀ k a k' b, x = .int k a → y = .int k' b → False) (hns : ∀ a b, x = .str a → y = .str b → False)
    (hX : cn μ x = some X) (hY : cn μ y = some Y) (hb : eqIn P 12 t x y = some b) : (binOp .eql t X Y).run P w = .ok (.bool b) w ∧ (binOp .neq t X Y).run P w = .ok (.bool (!b)) w := by
  have he := eqIn_ok (P := P) (μ := μ) (w := w) 12 10000 (by omega) t x y X Y b hX hY hb
  have he' : (Op.equal t X Y).run P w = .ok b w := he
  have hxs : ∀ a, x ≠ .sym a := fun a e => by subst e; rw [eqIn_sym_l] at hb; cases hb
  have hys : ∀ a, y ≠ .sym a := fun a e => by subst e; rw [eqIn_sym_r] at hb; cases hb
  have hne : (∀ k n, X = .int k n → ∀ k' m, Y ≠ .int k' m) ∧ (∀ s, X = .string s → ∀ u, Y ≠ .string u) ∧ (∀ k n, X ≠ .float k n) ∧ (∀ k n m, X ≠ .complex k n m) := by
    refine ⟨fun k n e k' m e' => ?_, fun s e u e' => ?_, fun k n e => ?_, fun k n m e => ?_⟩
    · subst e; subst e'
      cases x <;> simp only [cn, Option.map_eq_some_iff, Option.some.injEq, reduceCtorEq, plPtr, plSlice, and_false, exists_false, Value.int.injEq] at hX
      rotate_left
      · exact hxs _ rfl
      cases y <;> simp only [cn, Option.map_eq_some_iff, Option.some.injEq, reduceCtorEq, plPtr, plSlice, and_false, exists_false, Value.int.injEq] at hY
      rotate_left
      · exact hys _ rfl
      exact hni _ _ _ _ rfl rfl
    · subst e; subst e'
      cases x <;> simp only [cn, Option.map_eq_some_iff, Option.some.injEq, reduceCtorEq, plPtr, plSlice, and_false, exists_false] at hX
      rotate_left
      · exact hxs _ rfl
      cases y <;> simp only [cn, Option.map_eq_some_iff, Option.some.injEq, reduceCtorEq, plPtr, plSlice, and_false, exists_false] at hY
      rotate_left
      · exact hys _ rfl
      exact hns _ _ rfl rfl
    · subst e
      cases x <;> simp only [cn, Option.map_eq_some_iff, Option.some.injEq, reduceCtorEq, plPtr, plSlice, and_false, exists_false] at hX
      exact hxs _ rfl
    · subst e
      cases x <;> simp only [cn, Option.map_eq_some_iff, Option.some.injEq, reduceCtorEq, plPtr, plSlice, and_false, exists_false] at hX
      exact hxs _ rfl
  obtain ⟨h1, h2, h3, h4⟩ := hne
  have e1 : binOp .eql t X Y = (do pure (.bool (← Op.equal t X Y))) := by
    unfold binOp
    split <;> first | rfl | (exfalso; simp_all; done)
  have e2 : binOp .neq t X Y = (do pure (.bool (!(← Op.equal t X Y)))) := by
    unfold binOp
    split <;> first | rfl | (exfalso; simp_all; done)
  rw [e1, e2]
  simp [he']

theorem bin_ok {op : BinOp} {t : TypeId} {xo yo : Operand} {x y v : AV} {X Y : Value} (hX : cn μ x = some X) (hY : cn μ y = some Y) (h : aBin P op t xo yo x y = some v) :
    ∃ u, (do eqGuard op t xo yo X Y; binOp op t X Y : Sem Value).run P w = .ok u w ∧ cn μ v = some u := by
  unfold aBin at h
  split at h
  · rename_i k a k' b
    simp only [cn, Option.some.injEq] at hX hY
    subst hX; subst hY
    have hg : (eqGuard op t xo yo (.int k a) (.int k' b)).run P w = .ok () w := by cases op <;> simp [eqGuard]
    simp only [Sem.run_bind, hg, Result.andThen_ok]
    split at h
    · exact shift_ok t h
    · exact shift_ok t h
    · rename_i h1 h2
      split at h
      · rename_i e; subst e; exact int_ok t ⟨fun e => h1 e, fun e => h2 e⟩ h
      · cases h
  · rename_i a b
    simp only [cn, Option.some.injEq] at hX hY
    subst hX; subst hY
    have hg : (eqGuard op t xo yo (.string ⟨a.toArray⟩) (.string ⟨b.toArray⟩)).run P w = .ok () w := by cases op <;> simp [eqGuard]
    simp only [Sem.run_bind, hg, Result.andThen_ok]
    exact str_ok t h
  · rename_i hni hns
    split at h
    · rename_i hok
      simp only [Sem.run_bind, guard_ok hX hY hok, Result.andThen_ok]
      have hni' : ∀ k a k' b, x = .int k a → y = .int k' b → False := fun k a k' b e e' => hni k a k' b e e'
      have hns' : ∀ a b, x = .str a → y = .str b → False := fun a b e e' => hns a b e e'
      split at h
      · simp only [Option.map_eq_some_iff] at h; obtain ⟨b, hb, rfl⟩ := h; exact ⟨_, (binEq_ok hni' hns' hX hY hb).1, rfl⟩
      · simp only [Option.map_eq_some_iff] at h; obtain ⟨b, hb, rfl⟩ := h; exact ⟨_, (binEq_ok hni' hns' hX hY hb).2, rfl⟩
      · cases h
    · cases h
end

end Go.Ab
