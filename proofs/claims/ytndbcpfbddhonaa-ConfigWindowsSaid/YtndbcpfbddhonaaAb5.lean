/- The operations on values, one by one: the abstract ones are the model's. -/
import Derived.Test.YtndbcpfbddhonaaAb4
namespace Go.Ab
set_option linter.unusedSimpArgs false
set_option linter.unusedVariables false

section
variable {P : Program} {μ : Mu} {w : World} {nm : Nat}

theorem n_load {get : Nat → Option ABlk} (hS : Sim μ get w) {t : TypeId} {n z i f : Nat} {b : Bool} {rows : List (List AV)} {row : List AV} {v : AV} {a : Value}
    (ha : cn μ (.ptr n z i f) = some a) (hg : get n = some (.cells b z rows)) (hi : rows[i]? = some row) (hv : readAt P t row f = some v) :
    NOk P μ w nm (Instr.loadAt t a) ⟨v, none, [n]⟩ := by
  obtain ⟨p, o, hp, ho, hb⟩ := hS.blk n _ hg
  cases o <;> first | exact hb.elim | skip
  rename_i cs el fz
  simp only [cn, hp, Option.map_some, Option.some.injEq] at ha
  subst ha
  obtain ⟨l, hl, hc⟩ := row_cells hb hi
  obtain ⟨u, hu, hcu⟩ := read_run (P := P) (t := t) (off := p.shift + i * z) ho hl hc hv
  exact NOk.pure (by simp only [Instr.loadAt, plPtr, Instr.sureAddr, Sem.run_bind, Sem.run_pure, Result.andThen_ok]; exact hu) hcu

theorem n_field {t : TypeId} {f : Nat} {fl : Field} {cs : List AV} {v : AV} {x : Value} (hx : cn μ (.agg cs) = some x) (hf : fieldT P t f = some fl) (hv : partAt P fl.type cs fl.offset = some v) :
    NOk P μ w nm (Instr.field t x f) ⟨v, none, []⟩ := by
  simp only [cn, Option.map_eq_some_iff] at hx
  obtain ⟨l, hl, rfl⟩ := hx
  obtain ⟨u, hu, hc⟩ := part_run (P := P) (w := w) hl hv
  unfold fieldT at hf
  split at hf
  · rename_i fs hs
    exact NOk.pure (val := u) (by simp [Instr.field, run_underlying hs, hf, asAgg, hu]) hc
  · cases hf

theorem n_fieldAddr {t : TypeId} {f s : Nat} {fl : Field} {n z i g : Nat} {x : Value} (hx : cn μ (.ptr n z i g) = some x) (hf : fieldT P t f = some fl) (hs : sizeT P fl.type = some s) (h0 : s ≠ 0) :
    NOk P μ w nm (Instr.fieldAt t x f) ⟨.ptr n z i (g + fl.offset), none, []⟩ := by
  simp only [cn, Option.map_eq_some_iff] at hx
  obtain ⟨p, hp, rfl⟩ := hx
  unfold fieldT at hf
  split at hf
  · rename_i fs hu
    refine NOk.pure (val := plPtr p z i (g + fl.offset)) ?_ (by simp [cn, hp])
    simp [Instr.fieldAt, run_underlying hu, hf, plPtr, Instr.sureAddr, fieldPlace, size_run hs, h0, add_mk, Nat.add_assoc]
  · cases hf

theorem n_indexAddr_arr {t e : TypeId} {len n z r f s : Nat} {k : IntKind} {i : Int} {x ix : Value} (hx : cn μ (.ptr n z r f) = some x) (hix : cn μ (.int k i) = some ix) (hu : P.underlying t = some (.array len e))
    (hs : sizeT P e = some s) (h : 0 ≤ i ∧ i < (len : Int)) : NOk P μ w nm (Instr.indexAt t x ix) ⟨.ptr n z r (f + i.toNat * s), none, []⟩ := by
  simp only [cn, Option.map_eq_some_iff] at hx
  obtain ⟨p, hp, rfl⟩ := hx
  simp only [cn, Option.some.injEq] at hix
  subst hix
  refine NOk.pure (val := plPtr p z r (f + i.toNat * s)) ?_ (by simp [cn, hp])
  simp [Instr.indexAt, asIntOf, run_underlying hu, plPtr, Instr.sureAddr, h, size_run hs, add_mk, Nat.add_assoc]

theorem n_indexAddr_sl {t e : TypeId} {len n z o cap : Nat} {opn : Bool} {k : IntKind} {i : Int} {x ix : Value} (hx : cn μ (.slice n z o len cap opn none) = some x) (hix : cn μ (.int k i) = some ix) (hu : P.underlying t = some (.slice e))
    (hs : sizeT P e = some z) (h : 0 ≤ i ∧ i < (len : Int)) : NOk P μ w nm (Instr.indexAt t x ix) ⟨.ptr n z (o + i.toNat) 0, none, []⟩ := by
  simp only [cn, Option.map_eq_some_iff] at hx
  obtain ⟨p, hp, rfl⟩ := hx
  simp only [cn, Option.some.injEq] at hix
  subst hix
  refine NOk.pure (val := plPtr p z (o + i.toNat) 0) ?_ (by simp [cn, hp])
  simp [Instr.indexAt, asIntOf, run_underlying hu, plPtr, plSlice, h, size_run hs, add_mk, Nat.add_assoc, Nat.add_mul]

theorem n_index_arr {t e : TypeId} {len s : Nat} {cs : List AV} {k : IntKind} {i : Int} {v : AV} {x ix : Value} (hx : cn μ (.agg cs) = some x) (hix : cn μ (.int k i) = some ix) (hu : P.underlying t = some (.array len e))
    (hs : sizeT P e = some s) (h : 0 ≤ i ∧ i < (len : Int)) (hv : partAt P e cs (i.toNat * s) = some v) : NOk P μ w nm (Instr.index t x ix) ⟨v, none, []⟩ := by
  simp only [cn, Option.map_eq_some_iff] at hx
  obtain ⟨l, hl, rfl⟩ := hx
  simp only [cn, Option.some.injEq] at hix
  subst hix
  obtain ⟨u, hu', hc⟩ := part_run (P := P) (w := w) hl hv
  exact NOk.pure (val := u) (by simp [Instr.index, asIntOf, run_underlying hu, h, size_run hs, hu']) hc

theorem n_index_str {t : TypeId} {s : List UInt8} {k : IntKind} {i : Int} {b : UInt8} {x ix : Value} (hx : cn μ (.str s) = some x) (hix : cn μ (.int k i) = some ix) (hu : P.underlying t = some .string)
    (h : 0 ≤ i) (hv : s[i.toNat]? = some b) : NOk P μ w nm (Instr.index t x ix) ⟨.int .u8 b.toNat, none, []⟩ := by
  simp only [cn, Option.some.injEq] at hx hix
  subst hx; subst hix
  refine NOk.pure (val := .int .u8 b.toNat) ?_ (by simp [cn])
  have hb : (⟨s.toArray⟩ : ByteArray)[i.toNat]? = some b := by
    obtain ⟨hlt, he⟩ := List.getElem?_eq_some_iff.1 hv
    have hs : i.toNat < (⟨s.toArray⟩ : ByteArray).size := by simpa [ByteArray.size] using hlt
    rw [getElem?_pos (c := (⟨s.toArray⟩ : ByteArray)) (i := i.toNat) hs]
    exact congrArg some he
  simp [Instr.index, asIntOf, run_underlying hu, h, hb]

theorem n_extract {i : Nat} {vs : List AV} {v : AV} {x : Value} (hx : cn μ (.tuple vs) = some x) (hv : vs[i]? = some v) : NOk P μ w nm (Instr.extract x i) ⟨v, none, []⟩ := by
  simp only [cn, Option.map_eq_some_iff] at hx
  obtain ⟨l, hl, rfl⟩ := hx
  obtain ⟨u, hu, hlu⟩ := cnL_get hl i v hv
  exact NOk.pure (val := u) (by simp [Instr.extract, hlu]) hu

theorem n_makeInterface {t : TypeId} {v : AV} {x : Value} {d : TypeDesc} (hx : cn μ v = some x) (hu : P.underlying t = some d) (hd : ∀ ms, d ≠ .interface ms) :
    NOk P μ w nm (Instr.makeInterface t x) ⟨.iface t v, none, []⟩ := by
  refine NOk.pure (val := .iface t x) ?_ (by simp [cn, hx])
  simp only [Instr.makeInterface, Sem.run_bind, run_underlying hu, Result.andThen_ok]
  cases d <;> first | rfl | exact (hd _ rfl).elim

theorem n_alloc (hnm : μ nm = none) {e : TypeId} {v : AV} (hz : zeroT P e = some v) (hc : v.cells.all AV.isCell = true) :
    NOk P μ w nm (Instr.alloc e true (.tuple #[])) ⟨.ptr nm v.cells.length 0 0, some (.cells true v.cells.length [v.cells]), []⟩ := by
  obtain ⟨z, hv, hr⟩ := zero_run hz w
  exact box_ok hnm (e := e) (hv μ) hc (by simp [Instr.alloc, hr, newVar, newRow])

theorem n_box (hnm : μ nm = none) {e : TypeId} {v : AV} {x : Value} (hx : cn μ v = some x) (hc : v.cells.all AV.isCell = true) :
    NOk P μ w nm (Instr.box e x) ⟨.ptr nm v.cells.length 0 0, some (.cells true v.cells.length [v.cells]), []⟩ :=
  box_ok hnm (e := e) hx hc (by simp [Instr.box, newVar, newRow])

theorem n_makeMap (hnm : μ nm = none) {t : TypeId} : NOk P μ w nm (Instr.makeMap t none) ⟨.map nm, some (.map []), []⟩ :=
  ⟨_, _, by simp only [Instr.makeMap, Sem.run_bind, run_newObj, Result.andThen_ok, Sem.run_pure]; rfl, .map #[] 0, w.drawn, 0, rfl, rfl, ⟨rfl, fun i e h => by simp at h⟩, by simp [cn, Mu.upd_same]⟩

theorem un_ok {op : UnOp} {a v : AV} {x : Value} (hx : cn μ a = some x) (h : aUn op a = some v) : ∃ u, (Op.unary op x).run P w = .ok u w ∧ cn μ v = some u := by
  unfold aUn at h
  split at h
  · cases h; simp only [cn, Option.some.injEq] at hx; subst hx; exact ⟨_, rfl, rfl⟩
  · simp only [aInt, Option.some.injEq] at h; subst h; simp only [cn, Option.some.injEq] at hx; subst hx; exact ⟨_, rfl, rfl⟩
  · cases h; simp only [cn, Option.some.injEq] at hx; subst hx; exact ⟨_, rfl, rfl⟩
  · cases h

theorem int_ok {op : BinOp} {k : IntKind} {a b : Int} {v : AV} (t : TypeId) (hsh : op ≠ .shl ∧ op ≠ .shr) (h : aInt op k a b = some v) : ∃ u, (binOp op t (.int k a) (.int k b)).run P w = .ok u w ∧ cn μ v = some u := by
  cases op with
  | shl => exact (hsh.1 rfl).elim
  | shr => exact (hsh.2 rfl).elim
  | quo =>
    simp only [aInt] at h
    split at h
    · cases h
    · rename_i h0; cases h; exact ⟨_, by simp only [binOp, ne_eq, not_true_eq_false, if_false, Op.intDiv, h0, Sem.run_pure], rfl⟩
  | rem =>
    simp only [aInt] at h
    split at h
    · cases h
    · rename_i h0; cases h; exact ⟨_, by simp only [binOp, ne_eq, not_true_eq_false, if_false, Op.intDiv, h0, Sem.run_pure], rfl⟩
  | add => cases h; exact ⟨_, by simp only [binOp, ne_eq, not_true_eq_false, if_false, Op.intArith, Sem.run_pure], rfl⟩
  | sub => cases h; exact ⟨_, by simp only [binOp, ne_eq, not_true_eq_false, if_false, Op.intArith, Sem.run_pure], rfl⟩
  | mul => cases h; exact ⟨_, by simp only [binOp, ne_eq, not_true_eq_false, if_false, Op.intArith, Sem.run_pure], rfl⟩
  | and => cases h; exact ⟨_, by simp only [binOp, ne_eq, not_true_eq_false, if_false, Op.intBits, Sem.run_pure], rfl⟩
  | or => cases h; exact ⟨_, by simp only [binOp, ne_eq, not_true_eq_false, if_false, Op.intBits, Sem.run_pure], rfl⟩
  | xor => cases h; exact ⟨_, by simp only [binOp, ne_eq, not_true_eq_false, if_false, Op.intBits, Sem.run_pure], rfl⟩
  | andNot => cases h; exact ⟨_, by simp only [binOp, ne_eq, not_true_eq_false, if_false, Op.intBits, Sem.run_pure], rfl⟩
  | _ => cases h; exact ⟨_, by simp only [binOp, ne_eq, not_true_eq_false, if_false, Op.intCmp, Sem.run_pure, GT.gt, GE.ge], rfl⟩

theorem shift_ok {op : BinOp} {k k' : IntKind} {a b : Int} {v : AV} (t : TypeId) (h : aShift op k a b = some v) : ∃ u, (binOp op t (.int k a) (.int k' b)).run P w = .ok u w ∧ cn μ v = some u := by
  unfold aShift at h
  split at h
  · cases h
  · rename_i h0
    split at h
    · cases h; exact ⟨_, by simp only [binOp, Op.shift, h0, if_false, Sem.run_pure], rfl⟩
    · cases h; exact ⟨_, by simp only [binOp, Op.shift, h0, if_false, Sem.run_pure], rfl⟩
    · cases h
end

end Go.Ab
