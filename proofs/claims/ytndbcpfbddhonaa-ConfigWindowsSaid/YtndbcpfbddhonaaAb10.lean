/- Maps, lengths; and all of them as one: an abstract operation that leaves alone what was there is the model's. -/
import Derived.Test.YtndbcpfbddhonaaAb9
namespace Go.Ab
set_option linter.unusedSimpArgs false
set_option linter.unusedVariables false

section
variable {P : Program} {μ : Mu} {w : World} {nm : Nat}

theorem checkKey_ok {kt : TypeId} {kd : TypeDesc} {key : AV} {K : Value} {b : Bool} (n : Nat) (hu : P.underlying kt = some kd) (hk : keyFits kd key = true) (hc : cn μ key = some K) : (Instr.checkKey b (n + 1) kt K).run P w = .ok () w := by
  unfold keyFits at hk
  split at hk <;> first | (cases hk; done) | skip
  all_goals
    simp only [cn, Option.some.injEq] at hc
    subst hc
    simp [Instr.checkKey, run_underlying hu]
theorem sameNow_ok {kd : TypeDesc} {key k' : AV} {K K' : Value} {b : Bool} (hk : keyFits kd key = true) (hc : cn μ key = some K) (hc' : cn μ k' = some K') (h : keyEq key k' = some b) : Instr.sameNow kd K K' = some b := by
  unfold keyEq at h
  split at h
  · split at h
    · rename_i e; subst e; cases h
      simp only [cn, Option.some.injEq] at hc hc'
      subst hc; subst hc'
      cases kd <;> simp [keyFits] at hk
      simp [Instr.sameNow]
    · cases h
  · cases h
    simp only [cn, Option.some.injEq] at hc hc'
    subst hc; subst hc'
    cases kd <;> simp [keyFits] at hk
    simp only [Instr.sameNow, beq_toListBytes, ByteArray.toList_mk]
  · cases h
    simp only [cn, Option.some.injEq] at hc hc'
    subst hc; subst hc'
    cases kd <;> simp [keyFits] at hk
    simp [Instr.sameNow]
  · cases h
theorem findNow_ok {kd : TypeDesc} {key : AV} {K : Value} (hk : keyFits kd key = true) (hc : cn μ key = some K) : ∀ (es : List (AV × AV)) (ents : List MapEntry) (r : Option AV) (i0 : Nat), es.length = ents.length →
    (∀ (i : Nat) (e : AV × AV), es[i]? = some e → ∃ x : MapEntry, ents[i]? = some x ∧ cn μ e.1 = some x.key ∧ cn μ e.2 = some x.val) → findA key es = some r →
    (r = none ∧ Instr.findNow kd K ents i0 = some none) ∨ ∃ v u i, r = some v ∧ cn μ v = some u ∧ Instr.findNow kd K ents i0 = some (some (i, u))
  | [], ents, r, i0, hl, _, h => by
    have : ents = [] := List.eq_nil_of_length_eq_zero (by simpa using hl.symm)
    subst this
    simp [findA] at h
    exact .inl ⟨h.symm, rfl⟩
  | e :: es, ents, r, i0, hl, he, h => by
    cases ents with
    | nil => simp at hl
    | cons x ents =>
      obtain ⟨x', hx, hk1, hv1⟩ := he 0 e rfl
      simp at hx; subst hx
      obtain ⟨k', v⟩ := e
      simp only [findA] at h
      split at h
      · rename_i hq
        cases h
        exact .inr ⟨v, _, i0, rfl, hv1, by simp [Instr.findNow, sameNow_ok hk hc hk1 hq]⟩
      · rename_i hq
        have := findNow_ok hk hc es ents r (i0 + 1) (by simpa using hl) (fun i e hi => by simpa using he (i + 1) e (by simpa using hi)) h
        simpa [Instr.findNow, sameNow_ok hk hc hk1 hq] using this
      · cases h

theorem n_lookup {ρ : Rho} {ρc : Operand → Value} (hρ : ∀ x v, ρ x = some v → cn μ v = some (ρc x)) {get : Nat → Option ABlk} (hS : Sim μ get w) {t : TypeId} {x k : Operand} {ok : Bool} {r : NR}
    (h : aN P ρ get nm (.lookup t x k ok) = some r) : NOk P μ w nm (Instr.lookup t (ρc x) (ρc k) ok) r := by
  simp only [aN] at h
  split at h
  · rename_i kt e m key hu hm hk
    split at h
    · rename_i kd hkd
      split at h
      · cases h
      · rename_i hfit
        have hfit' : keyFits kd key = true := by simpa using hfit
        have hcm := hρ _ _ hm
        have hck := hρ _ _ hk
        have hchk : ∀ b, (Instr.checkKey b 10000 kt (ρc k)).run P w = .ok () w := fun b => checkKey_ok (P := P) (w := w) (b := b) 9999 hkd hfit' hck
        -- what stands behind the look
        have fin : ∀ (es : List MapEntry) (q : Option AV) (rd : List Nat) (r : NR),
            ((q = none ∧ Instr.findNow kd (ρc k) es 0 = some none) ∨ ∃ v u i, q = some v ∧ cn μ v = some u ∧ Instr.findNow kd (ρc k) es 0 = some (some (i, u))) →
            (match q with
              | some v => some (⟨if ok then .tuple [v, .bool true] else v, none, rd⟩ : NR)
              | none => match zeroT P e with
                | some v => some ⟨if ok then .tuple [v, .bool false] else v, none, rd⟩
                | none => none) = some r →
            (∃ z, (zeroValue e).run P w = .ok z w ∧ Instr.findNow kd (ρc k) es 0 = some none ∧ r.nb = none ∧ cn μ r.v = some (if ok then .tuple #[z, .bool false] else z)) ∨
            ∃ u i, Instr.findNow kd (ρc k) es 0 = some (some (i, u)) ∧ r.nb = none ∧ cn μ r.v = some (if ok then .tuple #[u, .bool true] else u) := by
          intro es q rd r hq hr
          rcases hq with ⟨rfl, hn⟩ | ⟨v, u, i, rfl, hvu, hn⟩
          · dsimp only at hr
            split at hr
            · rename_i zv hz
              cases hr
              obtain ⟨z, hzc, hzr⟩ := zero_run hz w
              exact .inl ⟨z, hzr, hn, rfl, by cases ok <;> simp [cn, cnL, hzc]⟩
            · cases hr
          · cases hr
            exact .inr ⟨u, i, hn, rfl, by cases ok <;> simp [cn, cnL, hvu]⟩
        split at h
        · simp only [cn, Option.some.injEq] at hcm
          rcases fin [] none [] r (.inl ⟨rfl, rfl⟩) h with ⟨z, h1, h2, h3, h4⟩ | ⟨u, i, h2, h3, h4⟩
          · refine ⟨_, w, ?_, by rw [h3]; exact ⟨rfl, h4⟩⟩
            rw [← hcm]
            simp only [Instr.lookup, Sem.run_bind, run_underlying hu, Result.andThen_ok, Sem.run_pure, hchk, Instr.findKey, run_underlying hkd, h2, h1]
          · refine ⟨_, w, ?_, by rw [h3]; exact ⟨rfl, h4⟩⟩
            rw [← hcm]
            simp only [Instr.lookup, Sem.run_bind, run_underlying hu, Result.andThen_ok, Sem.run_pure, hchk, Instr.findKey, run_underlying hkd, h2]
        · rename_i n
          split at h
          · rename_i es hg
            split at h
            · rename_i q hq
              obtain ⟨p, o, hp, ho, hb⟩ := hS.blk n _ hg
              cases o <;> first | exact hb.elim | skip
              rename_i ents clock
              simp only [cn, hp, Option.map_some, Option.some.injEq] at hcm
              rcases fin ents.toList q [n] r (findNow_ok hfit' hck es ents.toList q 0 (by simpa using hb.1) (fun i e hi => by simpa using hb.2 i e hi) hq) h with ⟨z, h1, h2, h3, h4⟩ | ⟨u, i, h2, h3, h4⟩
              · refine ⟨_, w, ?_, by rw [h3]; exact ⟨rfl, h4⟩⟩
                rw [← hcm]
                simp only [Instr.lookup, Sem.run_bind, run_underlying hu, Result.andThen_ok, getObj, Sem.run, ho, Sem.run_pure, hchk, Instr.findKey, run_underlying hkd, h2, h1]
              · refine ⟨_, w, ?_, by rw [h3]; exact ⟨rfl, h4⟩⟩
                rw [← hcm]
                simp only [Instr.lookup, Sem.run_bind, run_underlying hu, Result.andThen_ok, getObj, Sem.run, ho, Sem.run_pure, hchk, Instr.findKey, run_underlying hkd, h2]
            · cases h
          · cases h
        · cases h
    · cases h
  · cases h

theorem n_len {ρ : Rho} {ρc : Operand → Value} (hρ : ∀ x v, ρ x = some v → cn μ v = some (ρc x)) {get : Nat → Option ABlk} (hS : Sim μ get w) {args : Array Operand} {ats : Array TypeId} {ty : TypeId} {r : NR}
    (h : aN P ρ get nm (.call { callee := .builtin .len, args, argTypes := ats }) = some r) : NOk P μ w nm (Builtin.len_ ats ty (args.map ρc)) r := by
  simp only [aN] at h
  split at h
  · rename_i x t hx ht
    have e1 : args = #[x] := by apply Array.ext'; simpa using hx
    have e2 : ats = #[t] := by apply Array.ext'; simpa using ht
    subst e1; subst e2
    split at h
    · rename_i s hu hv
      obtain ⟨v, hv', rfl⟩ := pureR_some h; cases hv'
      have hc := hρ _ _ hv; simp only [cn, Option.some.injEq] at hc
      have hsz : (⟨s.toArray⟩ : ByteArray).size = s.length := rfl
      exact NOk.pure (val := .int .i64 s.length) (by simp only [Builtin.len_, List.map_toArray, List.map_cons, List.map_nil, ← hc]; simp only [List.getElem?_toArray, List.getElem?_cons_zero, Sem.run_bind, run_underlying hu, Result.andThen_ok, hsz]; rfl) (by simp [cn])
    · rename_i n e v0 hu hv
      obtain ⟨v, hv', rfl⟩ := pureR_some h; cases hv'
      exact NOk.pure (val := .int .i64 n) (by simp [Builtin.len_, run_underlying hu, goInt]) (by simp [cn])
    · rename_i e hu hv
      obtain ⟨v, hv', rfl⟩ := pureR_some h; cases hv'
      have hc := hρ _ _ hv; simp only [cn, Option.some.injEq] at hc
      exact NOk.pure (val := .int .i64 0) (by simp only [Builtin.len_, List.map_toArray, List.map_cons, List.map_nil, ← hc]; simp [run_underlying hu, goInt]) (by simp [cn])
    · rename_i e n1 z1 i1 n c1 o1 a1 hu hv
      obtain ⟨v, hv', rfl⟩ := pureR_some h; cases hv'
      have hc := hρ _ _ hv; simp only [cn, Option.map_eq_some_iff] at hc
      obtain ⟨p, hp, hc⟩ := hc
      exact NOk.pure (val := .int .i64 n) (by simp only [Builtin.len_, List.map_toArray, List.map_cons, List.map_nil, ← hc, plSlice]; simp [run_underlying hu, goInt]) (by simp [cn])
    · rename_i k e hu hv
      obtain ⟨v, hv', rfl⟩ := pureR_some h; cases hv'
      have hc := hρ _ _ hv; simp only [cn, Option.some.injEq] at hc
      exact NOk.pure (val := .int .i64 0) (by simp only [Builtin.len_, List.map_toArray, List.map_cons, List.map_nil, ← hc]; simp [run_underlying hu, goInt]) (by simp [cn])
    · rename_i k e n hu hv
      split at h
      · rename_i es hg
        cases h
        obtain ⟨p, o, hp, ho, hb⟩ := hS.blk n _ hg
        cases o <;> first | exact hb.elim | skip
        rename_i ents clock
        have hc := hρ _ _ hv
        simp only [cn, hp, Option.map_some, Option.some.injEq] at hc
        exact NOk.pure (val := .int .i64 es.length) (by simp only [Builtin.len_, List.map_toArray, List.map_cons, List.map_nil, ← hc]; simp [run_underlying hu, goInt, getObj, Sem.run, ho, hb.1]) (by simp [cn])
      · cases h
    · cases h
  · cases h

theorem n_min {ρ : Rho} {ρc : Operand → Value} (hρ : ∀ x v, ρ x = some v → cn μ v = some (ρc x)) {get : Nat → Option ABlk} {args : Array Operand} {ats : Array TypeId} {ty : TypeId} {r : NR}
    (h : aN P ρ get nm (.call { callee := .builtin .min, args, argTypes := ats }) = some r) : NOk P μ w nm (Builtin.min_ ats ty (args.map ρc)) r := by
  simp only [aN] at h
  split at h
  · rename_i x y hx
    have e1 : args = #[x, y] := by apply Array.ext'; simpa using hx
    subst e1
    split at h
    · rename_i k a k' b ha hb
      obtain ⟨v, hv', rfl⟩ := pureR_some h; cases hv'
      have hc := hρ _ _ ha; simp only [cn, Option.some.injEq] at hc
      have hc' := hρ _ _ hb; simp only [cn, Option.some.injEq] at hc'
      exact NOk.pure (val := .int k (if b < a then b else a)) (by simp [Builtin.min_, ← hc, ← hc', Builtin.min2]) (by simp [cn])
    · cases h
  · cases h
theorem n_max {ρ : Rho} {ρc : Operand → Value} (hρ : ∀ x v, ρ x = some v → cn μ v = some (ρc x)) {get : Nat → Option ABlk} {args : Array Operand} {ats : Array TypeId} {ty : TypeId} {r : NR}
    (h : aN P ρ get nm (.call { callee := .builtin .max, args, argTypes := ats }) = some r) : NOk P μ w nm (Builtin.max_ ats ty (args.map ρc)) r := by
  simp only [aN] at h
  split at h
  · rename_i x y hx
    have e1 : args = #[x, y] := by apply Array.ext'; simpa using hx
    subst e1
    split at h
    · rename_i k a k' b ha hb
      obtain ⟨v, hv', rfl⟩ := pureR_some h; cases hv'
      have hc := hρ _ _ ha; simp only [cn, Option.some.injEq] at hc
      have hc' := hρ _ _ hb; simp only [cn, Option.some.injEq] at hc'
      exact NOk.pure (val := .int k (if b > a then b else a)) (by simp [Builtin.max_, ← hc, ← hc', Builtin.max2]) (by simp [cn])
    · cases h
  · cases h

/-- What is owed of an operation of the model. -/
def NOkN (P : Program) (μ : Mu) (w : World) (nm : Nat) (s : Sem Next) (r : NR) : Prop :=
  ∃ val w', s.run P w = .ok (.value val) w' ∧
    match r.nb with
    | none => w' = w ∧ cn μ r.v = some val
    | some b => ∃ obj d extra, w' = { w with heap := w.heap.push obj, drawn := d } ∧ b.isRw = true ∧
        BlkR (μ.upd nm ⟨w.heap.size, 0, extra⟩) ⟨w.heap.size, 0, extra⟩ b obj ∧ cn (μ.upd nm ⟨w.heap.size, 0, extra⟩) r.v = some val
theorem nok_lift {s : Sem Value} {r : NR} (h : NOk P μ w nm s r) : NOkN P μ w nm (do pure (.value (← s))) r := by
  obtain ⟨val, w', h1, h2⟩ := h
  exact ⟨val, w', by simp [h1], h2⟩
theorem optR_map {ρ : Rho} {ρc : Operand → Value} (hρ : ∀ x v, ρ x = some v → cn μ v = some (ρc x)) {o : Option Operand} {a : Option AV} (h : optA none (fun o => (ρ o).map some) o = some a) : optR μ a (o.map ρc) := by
  cases o with
  | none => simp [optA] at h; subst h; trivial
  | some x =>
    simp only [optA, Option.map_eq_some_iff] at h
    obtain ⟨v, hv, rfl⟩ := h
    exact hρ _ _ hv

theorem aN_ok {ρ : Rho} {ρc : Operand → Value} (hρ : ∀ x v, ρ x = some v → cn μ v = some (ρc x)) {get : Nat → Option ABlk} (hS : Sim μ get w) (hnm : μ nm = none) {o : Oper} {r : NR}
    (h : aN P ρ get nm o.op = some r) : NOkN P μ w nm (execOp ρc o) r := by
  obtain ⟨dst, op, ty, pos, after, guard⟩ := o
  dsimp only at h
  cases op with
  | move x => obtain ⟨v, hv, rfl⟩ := pureR_some h; exact ⟨ρc x, w, rfl, rfl, hρ _ _ hv⟩
  | assign x => obtain ⟨v, hv, rfl⟩ := pureR_some h; exact ⟨ρc x, w, rfl, rfl, hρ _ _ hv⟩
  | pick c a b =>
    simp only [aN] at h
    split at h
    · rename_i hc
      obtain ⟨v, hv, rfl⟩ := pureR_some h
      have := hρ _ _ hc; simp only [cn, Option.some.injEq] at this
      exact ⟨ρc a, w, by simp [execOp, ← this, asBool], rfl, hρ _ _ hv⟩
    · rename_i hc
      obtain ⟨v, hv, rfl⟩ := pureR_some h
      have := hρ _ _ hc; simp only [cn, Option.some.injEq] at this
      exact ⟨ρc b, w, by simp [execOp, ← this, asBool], rfl, hρ _ _ hv⟩
    · cases h
  | alloc e =>
    simp only [aN] at h
    split at h
    · rename_i v hz
      split at h
      · cases h; exact nok_lift (n_alloc hnm hz ‹_›)
      · cases h
    · cases h
  | box e x =>
    simp only [aN] at h
    split at h
    · rename_i v hv
      split at h
      · cases h; exact nok_lift (n_box hnm (hρ _ _ hv) ‹_›)
      · cases h
    · cases h
  | build t parts => exact nok_lift (n_build hρ h)
  | buildSlice t len parts => exact nok_lift (n_buildSlice hρ hnm h)
  | load t a =>
    simp only [aN] at h
    split at h
    · rename_i n z i f ha
      split at h
      · rename_i rw_ z' rows hg
        split at h
        · rename_i hz
          subst hz
          split at h
          · rename_i row hi
            simp only [Option.map_eq_some_iff] at h
            obtain ⟨v, hv, rfl⟩ := h
            exact nok_lift (n_load hS (hρ _ _ ha) hg hi hv)
          · cases h
        · cases h
      · cases h
    · cases h
  | nilCheck x =>
    simp only [aN] at h
    split at h
    · rename_i n z i f hx
      obtain ⟨v, hv, rfl⟩ := pureR_some h; cases hv
      have hc := hρ _ _ hx
      have hc' := hc
      simp only [cn, Option.map_eq_some_iff] at hc
      obtain ⟨p, hp, hc⟩ := hc
      exact ⟨ρc x, w, by simp [execOp, ← hc, plPtr], rfl, hc'⟩
    · rename_i t v0 hx
      obtain ⟨v, hv, rfl⟩ := pureR_some h; cases hv
      have hc := hρ _ _ hx
      have hc' := hc
      simp only [cn, Option.map_eq_some_iff] at hc
      obtain ⟨p, hp, hc⟩ := hc
      exact ⟨ρc x, w, by simp [execOp, ← hc], rfl, hc'⟩
    · rename_i f cs hx
      obtain ⟨v, hv, rfl⟩ := pureR_some h; cases hv
      have hc := hρ _ _ hx
      have hc' := hc
      simp only [cn, Option.map_eq_some_iff] at hc
      obtain ⟨p, hp, hc⟩ := hc
      exact ⟨ρc x, w, by simp [execOp, ← hc], rfl, hc'⟩
    · cases h
  | binOp op t x y yt =>
    simp only [aN] at h
    split at h
    · rename_i a b ha hb
      obtain ⟨v, hv, rfl⟩ := pureR_some h
      obtain ⟨u, hu, hcu⟩ := bin_ok (P := P) (w := w) (hρ _ _ ha) (hρ _ _ hb) hv
      exact nok_lift (s := do eqGuard op t x y (ρc x) (ρc y); binOp op t (ρc x) (ρc y)) (NOk.pure hu hcu)
    · cases h
  | unOp op t x =>
    simp only [aN] at h
    split at h
    · rename_i a ha
      obtain ⟨v, hv, rfl⟩ := pureR_some h
      obtain ⟨u, hu, hcu⟩ := un_ok (P := P) (w := w) (hρ _ _ ha) hv
      exact nok_lift (NOk.pure hu hcu)
    · cases h
  | convert src dst x => exact nok_lift (n_convert hρ hnm hS h)
  | makeInterface t x =>
    simp only [aN] at h
    split at h
    · cases h
    · rename_i d v h1 hu hx
      obtain ⟨v', hv, rfl⟩ := pureR_some h; cases hv
      exact nok_lift (n_makeInterface (hρ _ _ hx) hu (fun ms e => h1 ms e))
    · cases h
  | makeFunc fn first captured =>
    cases fn with
    | func f =>
      simp only [aN] at h
      split at h
      · rename_i h0
        split at h
        · rename_i cs hcs
          obtain ⟨v', hv, rfl⟩ := pureR_some h; cases hv
          have hl := valsA_ok hρ hcs
          have e0 : first = #[] := Array.eq_empty_of_size_eq_zero h0
          subst e0
          exact nok_lift (s := Instr.makeFunc (.func f) ((#[] : Array Operand).map ρc) (captured.map ρc)) (NOk.pure (val := .func (.func f) #[] (captured.map ρc)) (by simp [Instr.makeFunc]) (by simp only [cn, hl, Option.map_some]; rw [← Array.toList_map, Array.toArray_toList]))
        · cases h
      · cases h
    | _ => simp [aN] at h
  | makeMap t r =>
    simp only [aN] at h
    split at h
    · cases h
      exact nok_lift (n_makeMap hnm)
    · cases h
  | makeSlice t l c =>
    simp only [aN] at h
    split at h
    · rename_i e k l' k' c' he hl hc
      split at h
      · rename_i s zv b hs hz hb
        split at h
        · rename_i hcond
          cases h
          exact nok_lift (n_makeSlice hnm (hρ _ _ hl) (hρ _ _ hc) he hs hz hb hcond)
        · cases h
      · cases h
    · cases h
  | slice t x lo hi mx =>
    simp only [aN] at h
    split at h
    · rename_i v lo' hi' mx' hv h1 h2 h3
      obtain ⟨u, hu, rfl⟩ := pureR_some h
      obtain ⟨U, hU, hcU⟩ := slice_ok (P := P) (w := w) (hρ _ _ hv) (optR_map hρ h1) (optR_map hρ h2) (optR_map hρ h3) hu
      exact nok_lift (NOk.pure hU hcU)
    · cases h
  | fieldAddr t x f =>
    simp only [aN] at h
    split at h
    · rename_i n z i g fl hx hf
      split at h
      · rename_i s hs
        split at h
        · cases h
        · obtain ⟨v', hv, rfl⟩ := pureR_some h; cases hv
          exact nok_lift (n_fieldAddr (hρ _ _ hx) hf hs ‹_›)
      · cases h
    · cases h
  | field t x f =>
    simp only [aN] at h
    split at h
    · rename_i cs fl hx hf
      obtain ⟨v', hv, rfl⟩ := pureR_some h
      exact nok_lift (n_field (hρ _ _ hx) hf hv)
    · cases h
  | indexAddr t x ix =>
    simp only [aN] at h
    split at h
    · rename_i len e n z r' f k i hu hx hi
      split at h
      · rename_i s hs
        split at h
        · obtain ⟨v', hv, rfl⟩ := pureR_some h; cases hv
          exact nok_lift (n_indexAddr_arr (hρ _ _ hx) (hρ _ _ hi) hu hs ‹_›)
        · cases h
      · cases h
    · rename_i e n z o len cap opn k i hu hx hi
      split at h
      · rename_i hc
        obtain ⟨v', hv, rfl⟩ := pureR_some h; cases hv
        exact nok_lift (n_indexAddr_sl (hρ _ _ hx) (hρ _ _ hi) hu hc.1 hc.2)
      · cases h
    · cases h
  | index t x ix =>
    simp only [aN] at h
    split at h
    · rename_i len e cs k i hu hx hi
      split at h
      · rename_i s hs
        split at h
        · obtain ⟨v', hv, rfl⟩ := pureR_some h
          exact nok_lift (n_index_arr (hρ _ _ hx) (hρ _ _ hi) hu hs ‹_› hv)
        · cases h
      · cases h
    · rename_i s k i hu hx hi
      split at h
      · rename_i h0
        split at h
        · rename_i b hb
          obtain ⟨v', hv, rfl⟩ := pureR_some h; cases hv
          exact nok_lift (n_index_str (hρ _ _ hx) (hρ _ _ hi) hu h0 hb)
        · cases h
      · cases h
    · cases h
  | lookup t x k ok => exact nok_lift (n_lookup hρ hS h)
  | extract x i =>
    simp only [aN] at h
    split at h
    · rename_i vs hx
      obtain ⟨v', hv, rfl⟩ := pureR_some h
      exact nok_lift (n_extract (hρ _ _ hx) hv)
    · cases h
  | call c =>
    obtain ⟨callee, args, ats⟩ := c
    cases callee with
    | builtin b =>
      cases b with
      | len =>
        have := nok_lift (n_len (ty := ty) hρ hS h)
        simpa [execOp, resolve, invoke, builtin, NOkN] using this
      | min =>
        have := nok_lift (n_min (w := w) (ty := ty) hρ h)
        simpa [execOp, resolve, invoke, builtin, NOkN] using this
      | max =>
        have := nok_lift (n_max (w := w) (ty := ty) hρ h)
        simpa [execOp, resolve, invoke, builtin, NOkN] using this
      | _ => simp [aN] at h
    | _ => simp [aN] at h
  | _ => simp [aN] at h
end

end Go.Ab
