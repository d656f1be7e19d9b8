/- Operations that write or call: the abstract ones are the model's. -/
import Derived.Test.YtndbcpfbddhonaaAb13
namespace Go.Ab
set_option linter.unusedSimpArgs false
set_option linter.unusedVariables false

section
variable {P : Program} {μ : Mu} {w : World} {nm c : Nat} {m : Mem}

theorem sameBits_ok {k k' : AV} {K K' : Value} (hk : cn μ k = some K) (hk' : cn μ k' = some K') (h : keyEq k k' = some true) : Instr.sameBits 10000 K' K = true := by
  unfold keyEq at h
  split at h
  · split at h
    · rename_i e
      simp only [cn, Option.some.injEq] at hk hk'
      subst hk; subst hk'; subst e
      simp at h
      subst h
      simp [Instr.sameBits]
    · cases h
  · simp only [cn, Option.some.injEq] at hk hk'
    subst hk; subst hk'
    simp at h
    subst h
    simp [Instr.sameBits, beq_toListBytes]
  · simp only [cn, Option.some.injEq] at hk hk'
    subst hk; subst hk'
    simp at h
    subst h
    simp [Instr.sameBits]
  · cases h

theorem setA_ok {kd : TypeDesc} {key v : AV} {K : Value} (hk : keyFits kd key = true) (hc : cn μ key = some K) : ∀ (es es' : List (AV × AV)) (ents : List MapEntry) (i0 : Nat), es.length = ents.length →
    (∀ (i : Nat) (e : AV × AV), es[i]? = some e → ∃ x : MapEntry, ents[i]? = some x ∧ cn μ e.1 = some x.key ∧ cn μ e.2 = some x.val) → setA key v es = some es' →
    (Instr.findNow kd K ents i0 = some none ∧ es' = es ++ [(key, v)]) ∨
    ∃ i x u, ents[i]? = some x ∧ Instr.findNow kd K ents i0 = some (some (i0 + i, u)) ∧ es' = es.set i (key, v) ∧ Instr.sameBits 10000 x.key K = true
  | [], es', ents, i0, hl, _, h => by
    have : ents = [] := List.eq_nil_of_length_eq_zero (by simpa using hl.symm)
    subst this
    simp [setA] at h
    exact .inl ⟨rfl, by simp [h]⟩
  | e :: es, es', ents, i0, hl, he, h => by
    cases ents with
    | nil => simp at hl
    | cons x ents =>
      obtain ⟨x', hx, hk1, hv1⟩ := he 0 e rfl
      simp at hx; subst hx
      obtain ⟨k', u⟩ := e
      simp only [setA] at h
      split at h
      · rename_i hq
        cases h
        exact .inr ⟨0, x, x.val, rfl, by simp [Instr.findNow, sameNow_ok hk hc hk1 hq], rfl, sameBits_ok hc hk1 hq⟩
      · rename_i hq
        simp only [Option.map_eq_some_iff] at h
        obtain ⟨es1, h1, rfl⟩ := h
        rcases setA_ok hk hc es es1 ents (i0 + 1) (by simpa using hl) (fun i e hi => by simpa using he (i + 1) e (by simpa using hi)) h1 with ⟨h2, h3⟩ | ⟨i, y, q, h2, h3, h4, h5⟩
        · exact .inl ⟨by simpa [Instr.findNow, sameNow_ok hk hc hk1 hq] using h2, by simp [h3]⟩
        · exact .inr ⟨i + 1, y, q, by simpa using h2, by simp only [Instr.findNow, sameNow_ok hk hc hk1 hq, h3]; congr 3; omega, by simp [h4], h5⟩
      · cases h

theorem mapUpdate_ok (hS : Sim μ m.get w) (hf : ∀ n, c ≤ n → μ n = none) (nm' : Option Nat) {t kt e : TypeId} {n : Nat} {key v : AV} {M K V : Value} {kd : TypeDesc} {es es' : List (AV × AV)} (hu : P.underlying t = some (.map kt e)) (hkd : P.underlying kt = some kd) (hfit : keyFits kd key = true)
    (hm : cn μ (.map n) = some M) (hk : cn μ key = some K) (hv : cn μ v = some V) (hg : m.get n = some (.map es)) (h : setA key v es = some es') :
    ∃ w', (Instr.mapUpdate t M K V).run P w = .ok () w' ∧ After nm' μ m c w μ (m.write n (some (.map es'))) c w' := by
  obtain ⟨p, o, hp, ho, hb⟩ := hS.blk n _ hg
  cases o <;> first | exact hb.elim | skip
  rename_i ents clock
  simp only [cn, hp, Option.map_some, Option.some.injEq] at hm
  subst hm
  have hchk := checkKey_ok (P := P) (w := w) (b := false) 9999 hkd hfit hk
  have hset : ∀ o', (setObj p.blk o').run P w = .ok () (setBlk w p.blk o') := by
    intro o'
    simp only [setObj, Sem.run, ho]
    rfl
  rcases setA_ok (μ := μ) hfit hk es es' ents.toList 0 (by simpa using hb.1) (fun i e hi => by simpa using hb.2 i e hi) h with ⟨h1, h2⟩ | ⟨i, x, u, h1, h2, h3, h4⟩
  · subst h2
    refine ⟨_, ?_, after_write hS hf nm' hg rfl rfl hp (o' := .map (ents.push { key := K, val := V, born := clock }) (clock + 1)) ⟨by simp [hb.1], fun i e hi => ?_⟩⟩
    · simp only [Instr.mapUpdate, Sem.run_bind, run_underlying hu, Result.andThen_ok, getObj, Sem.run, ho, hchk, Instr.findKey, run_underlying hkd, h1, Sem.run_pure, hset]
    · by_cases hi2 : i < es.length
      · rw [List.getElem?_append_left hi2] at hi
        obtain ⟨x, hx, hh⟩ := hb.2 i e hi
        refine ⟨x, ?_, hh⟩
        rw [Array.getElem?_push, if_neg (by have := hb.1; omega)]
        exact hx
      · rw [List.getElem?_append_right (by omega)] at hi
        have : i - es.length = 0 := by
          have := (List.getElem?_eq_some_iff.1 hi).1
          simp at this; omega
        rw [this] at hi
        simp at hi
        subst hi
        refine ⟨{ key := K, val := V, born := clock }, ?_, hk, hv⟩
        rw [Array.getElem?_push, if_pos (by have := hb.1; omega)]
  · subst h3
    have hi : i < ents.size := by have := (List.getElem?_eq_some_iff.1 h1).1; simpa using this
    refine ⟨_, ?_, after_write hS hf nm' hg rfl rfl hp (o' := .map (ents.modify i fun e => { e with key := K, val := V }) clock) ⟨by simp [hb.1], fun j e hj => ?_⟩⟩
    · have hx : (((ents[i]?).map (·.key)).getD K) = x.key := by
        have : ents[i]? = some x := by simpa using h1
        rw [this]; rfl
      rw [Nat.zero_add] at h2
      simp only [Instr.mapUpdate, Sem.run_bind, run_underlying hu, Result.andThen_ok, getObj, Sem.run, ho, hchk, Instr.findKey, run_underlying hkd, h2, Sem.run_pure, hx, Instr.keyThatStays, h4, if_true, hset]
    · rw [List.getElem?_set] at hj
      rw [Array.getElem?_modify]
      by_cases e1 : i = j
      · subst e1
        rw [if_pos rfl, if_pos (by have := hb.1; omega)] at hj
        cases hj
        have : ents[i]? = some x := by simpa using h1
        exact ⟨{ x with key := K, val := V }, by simp [this], hk, hv⟩
      · rw [if_neg e1] at hj
        obtain ⟨y, hy, hh⟩ := hb.2 j e hj
        exact ⟨y, by simp [e1, hy], hh⟩

theorem modify_set (h : Array Obj) (i : Nat) (o : Obj) (f : Obj → Obj) (ho : h[i]? = some o) : h.modify i f = h.setIfInBounds i (f o) := by
  apply Array.ext_getElem?
  intro j
  rw [Array.getElem?_modify, Array.getElem?_setIfInBounds]
  by_cases e : i = j
  · subst e
    obtain ⟨hlt, hv⟩ := Array.getElem?_eq_some_iff.1 ho
    simp [hlt, hv]
  · simp [e]
/-- A row of bytes out of a word that stands in the program: it is marked as such. -/
theorem bytes_ok {μ : Mu} {m : Mem} {c : Nat} {w : World} (hS : Sim μ m.get w) (hf : ∀ n, c ≤ n → μ n = none) (nm' : Option Nat) {src e' e : TypeId} {n z i len cap z' : Nat} {opn : Bool} {alt : Option Nat} {A : Value} {rows : List (List AV)}
    (hs : P.underlying src = some (.slice e)) (he : P.underlying e = some (.int .u8)) (ha : cn μ (.slice n z i len cap opn alt) = some A) (hg : m.get n = some (.cells true z' rows)) :
    ∃ w', (convert src src A).run P w = .ok A w' ∧ After nm' μ m c w μ (m.write n (some (.cells true z' rows))) c w' := by
  obtain ⟨p, o, hp, ho, hb⟩ := hS.blk n _ hg
  cases o <;> first | exact hb.elim | skip
  rename_i cs el fz
  obtain ⟨lo, hi⟩ := fz
  simp only [cn, hp, Option.map_some, Option.some.injEq] at ha
  subst ha
  refine ⟨_, ?_, after_write hS hf nm' hg rfl rfl hp (o' := .cells cs el (if lo == hi then (cs.size, cs.size + 1) else (min lo cs.size, max hi (cs.size + 1)))) ⟨hb.1, hb.2.1, fun _ => ⟨(hb.2.2 rfl).1, fun off ho' => ?_⟩⟩⟩
  simp only [plSlice, convert, Sem.run_bind, run_underlying hs, run_underlying he, Result.andThen_ok, beq_self_eq_true, markStringish, run_shape, World.shape?, ho, run_freeze, World.freeze, Nat.one_ne_zero, if_false, Sem.run_pure, modify_set _ _ _ _ ho, setBlk]
  have hq := (hb.2.2 rfl).2 off ho'
  dsimp only at hq
  split
  · exact .inr ho'
  · rename_i hne
    refine .inr ?_
    have : lo ≠ hi := fun e => hne (by simp [e])
    dsimp only
    omega
/-- A function of the model is there, and comes to what is told of it. -/
def Ready (P : Program) (f : FuncId) (args : Array Value) (w : World) (R : Value → World → Prop) : Prop :=
  (∃ fn, P.funcs[f]? = some fn ∧ fn.body.isSome = true ∧ fn.name ≠ "runtime.NumGoroutine" ∧ Calls P f args w fun e w' => ∃ v, e = .returned v ∧ R v w') ∨
  ∃ v, (callFunc f args).run P w = .ok (.value v) w ∧ R v w
theorem Ready.mono {f : FuncId} {args : Array Value} {R R' : Value → World → Prop} (h : Ready P f args w R) (hr : ∀ v w', R v w' → R' v w') : Ready P f args w R' := by
  rcases h with ⟨fn, h1, h2, h3, h4⟩ | ⟨v, h1, h2⟩
  · exact .inl ⟨fn, h1, h2, h3, h4.mono fun e w' ⟨v, he, hv⟩ => ⟨v, he, hr _ _ hv⟩⟩
  · exact .inr ⟨v, h1, hr _ _ h2⟩
/-- The calls of an abstract machine are the model's. -/
def CallOK (P : Program) (call : CallA) : Prop :=
  ∀ (f : FuncId) (vs : List AV) (m : Mem) (c : Nat) (v : AV) (m' : Mem) (c' : Nat), call f vs m c = some (v, m', c') →
    ∀ (μ : Mu) (w : World) (args : List Value), cnL μ vs = some args → Sim μ m.get w → (∀ n, c ≤ n → μ n = none) →
      Ready P f args.toArray w fun val w' => ∃ μ', cn μ' v = some val ∧ After none μ m c w μ' m' c' w'
theorem After.weaken {μ' : Mu} {m' : Mem} {c' : Nat} {w' : World} (h : After none μ m c w μ' m' c' w') (nm' : Option Nat) : After nm' μ m c w μ' m' c' w' :=
  ⟨h.le, fun n hn _ => h.same n hn (by simp), h.fresh, h.cle, h.sim, h.step, let ⟨δ, h1, h2⟩ := h.log; ⟨δ, h1, fun n hn _ hd => h2 n hn (by simp) hd⟩⟩

theorem callFunc_enter {f : FuncId} {fn : Func} {args : Array Value} (h1 : P.funcs[f]? = some fn) (h2 : fn.body.isSome = true) (h3 : fn.name ≠ "runtime.NumGoroutine") : (callFunc f args).run P w = .ok (.enter f args) w := by
  have h4 : (fn.name == "runtime.NumGoroutine") = false := by simpa using h3
  have h5 : fn.body.isNone = false := by cases hb : fn.body <;> simp_all
  simp only [callFunc, Sem.run_bind, run_program, Result.andThen_ok, h1, h4, Bool.false_eq_true, if_false, h5, Sem.run_pure]

theorem aX_ok {call : CallA} (hcall : CallOK P call) (hS : Sim μ m.get w) (hf : ∀ n, c ≤ n → μ n = none) (hnm : μ nm = none) (hc : nm < c) {a : Act} {ρ : Rho} (hρ : ∀ x v, ρ x = some v → cn μ v = some (a.eval x)) {o : Oper} {v : Option AV} {m' : Mem} {c' : Nat}
    (h : aX P call ρ m c nm o.op = some (v, m', c')) {next : Act → World → Prop} {Q : Exit → Act → World → Prop}
    (hn : ∀ μ' w' val, After (some nm) μ m c w μ' m' c' w' → (∀ av, v = some av → cn μ' av = some val) → next (a.put o.dst val) w') : o.wp P a w next Q := by
  obtain ⟨dst0, op, ty, pos, after, guard⟩ := o
  dsimp only at h
  cases op with
  | store t ad x =>
    simp only [aX] at h
    split at h
    · rename_i n z i f v1 s ha hx hs
      split at h
      · rename_i z' rows hg
        split at h
        · rename_i row hi
          split at h
          · rename_i hcond
            obtain ⟨rfl, h2, h3, h4⟩ := hcond
            cases h
            obtain ⟨w', hr, haf⟩ := store_ok (P := P) hS hf (some nm) (hρ _ _ ha) (hρ _ _ hx) hs hg hi h2 h3 h4
            have hex : (execOp a.eval ⟨dst0, .store t ad x, ty, pos, after, guard⟩).run P w = .ok .skip w' := by simp [execOp, hr]
            unfold Oper.wp
            rw [hex]
            exact hn μ w' undef haf (fun av e => by cases e)
          · cases h
        · cases h
      · cases h
    · cases h
  | mapUpdate t x k y =>
    simp only [aX] at h
    split at h
    · rename_i kt e n key v1 hu hx hk hy
      split at h
      · rename_i kd es hkd hg
        split at h
        · rename_i hfit
          simp only [Option.map_eq_some_iff] at h
          obtain ⟨es', hes, h⟩ := h
          cases h
          obtain ⟨w', hr, haf⟩ := mapUpdate_ok (P := P) hS hf (some nm) hu hkd hfit (hρ _ _ hx) (hρ _ _ hk) (hρ _ _ hy) hg hes
          have hex : (execOp a.eval ⟨dst0, .mapUpdate t x k y, ty, pos, after, guard⟩).run P w = .ok .skip w' := by simp [execOp, hr]
          unfold Oper.wp
          rw [hex]
          exact hn μ w' undef haf (fun av e => by cases e)
        · cases h
      · cases h
    · cases h
  | call cl =>
    obtain ⟨callee, args, ats⟩ := cl
    cases callee with
    | builtin b =>
      cases b with
      | append =>
        simp only [aX] at h
        split at h
        · rename_i s x ts tx hargs hats
          have e1 : args = #[s, x] := by apply Array.ext'; simpa using hargs
          have e2 : ats = #[ts, tx] := by apply Array.ext'; simpa using hats
          subst e1; subst e2
          split at h
          · rename_i sv xv hs hx
            simp only [Option.map_eq_some_iff] at h
            obtain ⟨⟨rv, rm⟩, hr, h⟩ := h
            cases h
            obtain ⟨val, w', μ', hrun, hcv, haf⟩ := append_ok (P := P) (ty := ty) hS hf hnm hc (hρ _ _ hs) (hρ _ _ hx) hr
            have hex : (execOp a.eval ⟨dst0, .call { callee := .builtin .append, args := #[s, x], argTypes := #[ts, tx] }, ty, pos, after, guard⟩).run P w = .ok (.value val) w' := by
              simp [execOp, resolve, invoke, builtin, hrun]
            unfold Oper.wp
            rw [hex]
            exact hn μ' w' val haf (fun av e => by cases e; exact hcv)
          · cases h
        · cases h
      | _ => simp [aX] at h
    | invoke r s => simp [aX] at h
    | value f =>
      simp only [aX] at h
      split at h
      · rename_i f' cs vs hfv hvs
        simp only [Option.map_eq_some_iff] at h
        obtain ⟨⟨rv, rm, rc⟩, hr, h⟩ := h
        cases h
        have hcf := hρ _ _ hfv
        simp only [cn, Option.map_eq_some_iff] at hcf
        obtain ⟨l, hl, hcf⟩ := hcf
        have hargs := cnL_append (valsA_ok hρ hvs) hl
        have hrd := hcall _ _ _ _ _ _ _ hr μ w _ hargs hS hf
        have hex : (execOp a.eval ⟨dst0, .call { callee := .value f, args, argTypes := ats }, ty, pos, after, guard⟩).run P w = (callFunc f' (args.toList.map a.eval ++ l).toArray).run P w := by
          simp only [execOp, resolve, ← hcf, Deferred.ofValue, Sem.run_bind, Sem.run_pure, Result.andThen_ok, invoke]
          congr 2
          apply Array.ext'
          simp
        unfold Oper.wp
        rw [hex]
        rcases hrd with ⟨fn, h1, h2, h3, h4⟩ | ⟨val, h1, μ', h2, h3⟩
        · rw [callFunc_enter h1 h2 h3, Oper.upon_enter]
          refine h4.mono fun e w' ⟨val, he, μ', hcv, haf⟩ => ?_
          subst he
          exact hn μ' w' val (haf.weaken _) (fun av e => by cases e; exact hcv)
        · rw [h1]
          exact hn μ' w val (h3.weaken _) (fun av e => by cases e; exact h2)
      · cases h
  | convert src dst x =>
    simp only [aX] at h
    split at h
    · rename_i e' e n z i len cap opn alt hs hd hx
      split at h
      · rename_i z' rows he hg
        split at h
        · rename_i heq
          subst heq
          cases h
          obtain ⟨w', hrun, haf⟩ := bytes_ok (P := P) (src := src) hS hf (some nm) (e' := e') hd he (hρ _ _ hx) hg
          have hex : (execOp a.eval ⟨dst0, .convert src src x, ty, pos, after, guard⟩).run P w = .ok (.value (a.eval x)) w' := by
            simp [execOp, hrun]
          unfold Oper.wp
          rw [hex]
          exact hn μ w' _ haf (fun av e => by cases e; exact hρ _ _ hx)
        · cases h
      · cases h
    · cases h
  | _ => simp [aX] at h
end

/-! ### values that are not reckoned with -/
theorem cn_strip (μ : Mu) (v : AV) : cn μ (strip v) = cn μ v := by cases v <;> rfl
theorem cn_mark (μ : Mu) (v : AV) : cn μ (mark v) = cn μ v := by cases v <;> rfl
mutual
theorem cn_norm (μ : Mu) : ∀ v : AV, cn μ (norm v) = cn μ v
  | .sym v => by simp only [norm, cn]; exact cn_norm μ v
  | .func f cs => by simp only [norm, cn, cnL_norm μ cs]
  | .iface t v => by simp only [norm, cn, cn_norm μ v]
  | .agg cs => by simp only [norm, cn, cnL_norm μ cs]
  | .tuple vs => by simp only [norm, cn, cnL_norm μ vs]
  | .bool _ | .int _ _ | .str _ | .nilptr | .ptr .. | .nilslice | .slice .. | .nilmap | .map _ | .nilfunc | .niliface => rfl
theorem cnL_norm (μ : Mu) : ∀ vs : List AV, cnL μ (normL vs) = cnL μ vs
  | [] => rfl
  | v :: vs => by simp only [normL, cnL, cn_norm μ v, cnL_norm μ vs]
end
theorem isRw_sym (b : ABlk) : (symBlk b).isRw = b.isRw := by cases b <;> rfl
theorem blk_sym {μ : Mu} {p : Pl} {b : ABlk} {o : Obj} (h : BlkR μ p b o) : BlkR μ p (symBlk b) o := by
  cases b with
  | cells rw z rows => exact h
  | map es =>
    cases o <;> first | exact h.elim | skip
    obtain ⟨h1, h2⟩ := h
    refine ⟨by simpa using h1, fun i e he => ?_⟩
    simp only [List.getElem?_map, Option.map_eq_some_iff] at he
    obtain ⟨e0, he0, rfl⟩ := he
    obtain ⟨x, hx, hk, hv⟩ := h2 i e0 he0
    exact ⟨x, hx, by rw [cn_norm]; exact hk, hv⟩
theorem sim_sym {μ : Mu} {get : Nat → Option ABlk} {w : World} (h : Sim μ get w) : Sim μ (fun n => (get n).map symBlk) w := by
  refine ⟨⟨fun n b hb => ?_, fun n n' b b' p p' hb hb' hrw hne hp hp' => ?_⟩, h.glob.map fun n b p hb hrw hp => ?_⟩
  · simp only [Option.map_eq_some_iff] at hb
    obtain ⟨b0, h0, rfl⟩ := hb
    obtain ⟨p, o, hp, ho, hr⟩ := h.blk n b0 h0
    exact ⟨p, o, hp, ho, blk_sym hr⟩
  · simp only [Option.map_eq_some_iff] at hb hb'
    obtain ⟨b0, h0, rfl⟩ := hb
    obtain ⟨b1, h1, rfl⟩ := hb'
    exact h.apart n n' b0 b1 p p' h0 h1 (by rw [← isRw_sym]; exact hrw) hne hp hp'
  · simp only [Option.map_eq_some_iff] at hb
    obtain ⟨b0, h0, rfl⟩ := hb
    exact ⟨n, b0, p, h0, by rw [← isRw_sym]; exact hrw, hp, rfl⟩
theorem symRho_ok {μ : Mu} {ρ : Rho} {ρc : Operand → Value} (hρ : ∀ x v, ρ x = some v → cn μ v = some (ρc x)) (o : Op) : ∀ x v, symRho ρ o x = some v → cn μ v = some (ρc x) := by
  intro x v h
  have : (∃ u, ρ x = some u ∧ norm u = v) ∨ (∃ u, ρ x = some u ∧ strip u = v) := by
    unfold symRho at h
    split at h
    · simp only [Option.map_eq_some_iff] at h; exact .inl h
    · simp only [Option.map_eq_some_iff] at h; exact .inr h
  rcases this with ⟨u, hu, rfl⟩ | ⟨u, hu, rfl⟩
  · rw [cn_norm]; exact hρ x u hu
  · rw [cn_strip]; exact hρ x u hu
theorem cn_symV (μ : Mu) (o : Op) (v : AV) : cn μ (symV o v) = cn μ v := by
  unfold symV
  split <;> first | rfl | exact cn_mark μ v
theorem stripAt_ok {μ : Mu} {ρ : Rho} {ρc : Operand → Value} (hρ : ∀ x v, ρ x = some v → cn μ v = some (ρc x)) (a : Operand) : ∀ x v, stripAt ρ a x = some v → cn μ v = some (ρc x) := by
  intro x v h
  unfold stripAt at h
  split at h
  · split at h
    · split at h
      · simp only [Option.map_eq_some_iff] at h
        obtain ⟨u, hu, rfl⟩ := h
        rw [cn_strip]; exact hρ _ u hu
      · exact hρ _ v h
    · exact hρ _ v h
  · exact hρ _ v h
theorem symX_ok {μ : Mu} {ρ : Rho} {ρc : Operand → Value} (hρ : ∀ x v, ρ x = some v → cn μ v = some (ρc x)) (o : Op) : ∀ x v, symX ρ o x = some v → cn μ v = some (ρc x) := by
  intro x v h
  unfold symX at h
  split at h
  · exact stripAt_ok hρ _ x v h
  · exact stripAt_ok hρ _ x v h
  · simp only [Option.map_eq_some_iff] at h
    obtain ⟨u, hu, rfl⟩ := h
    rw [cn_strip]; exact hρ x u hu
  · exact hρ x v h
theorem cn_symXV (μ : Mu) (ρ : Rho) (o : Op) (v : AV) : cn μ (symXV ρ o v) = cn μ v := by
  unfold symXV
  split
  · split
    · exact cn_mark μ v
    · rfl
  · rfl

section
variable {P : Program} {μ : Mu} {w : World} {nm c : Nat} {m : Mem}
theorem aM_ok {ρ : Rho} {ρc : Operand → Value} (hρ : ∀ x v, ρ x = some v → cn μ v = some (ρc x)) {get : Nat → Option ABlk} (hS : Sim μ get w) (hnm : μ nm = none) {o : Oper} {r : NR}
    (h : aM P ρ get nm o.op = some r) : NOkN P μ w nm (execOp ρc o) r := by
  unfold aM at h
  split at h
  · simp only [Option.map_eq_some_iff] at h
    obtain ⟨r0, h0, rfl⟩ := h
    obtain ⟨val, w', h1, h2⟩ := aN_ok (P := P) (symRho_ok hρ o.op) (sim_sym hS) hnm h0
    refine ⟨val, w', h1, ?_⟩
    obtain ⟨v, nb, rd⟩ := r0
    cases nb with
    | none => exact ⟨h2.1, by dsimp only; rw [cn_symV]; exact h2.2⟩
    | some b =>
      obtain ⟨obj, d, extra, e1, e2, e3, e4⟩ := h2
      exact ⟨obj, d, extra, e1, e2, e3, by dsimp only; rw [cn_symV]; exact e4⟩
  · exact aN_ok hρ hS hnm h
theorem aXM_ok {call : CallA} (hcall : CallOK P call) (hS : Sim μ m.get w) (hf : ∀ n, c ≤ n → μ n = none) (hnm : μ nm = none) (hc : nm < c) {a : Act} {ρ : Rho} (hρ : ∀ x v, ρ x = some v → cn μ v = some (a.eval x)) {o : Oper} {v : Option AV} {m' : Mem} {c' : Nat}
    (h : aXM P call ρ m c nm o.op = some (v, m', c')) {next : Act → World → Prop} {Q : Exit → Act → World → Prop}
    (hn : ∀ μ' w' val, After (some nm) μ m c w μ' m' c' w' → (∀ av, v = some av → cn μ' av = some val) → next (a.put o.dst val) w') : o.wp P a w next Q := by
  unfold aXM at h
  simp only [Option.map_eq_some_iff, Prod.mk.injEq] at h
  obtain ⟨⟨v0, m0, c0⟩, h0, h1, h2⟩ := h
  dsimp only at h1 h2
  cases h2
  refine aX_ok hcall hS hf hnm hc (symX_ok hρ o.op) h0 fun μ' w' val ha hv => hn μ' w' val ha fun av e => ?_
  subst e
  simp only [Option.map_eq_some_iff] at h1
  obtain ⟨u, hu, rfl⟩ := h1
  rw [cn_symXV]; exact hv u hu
end

end Go.Ab
