/- Arguments that are slices: their rows, as blocks that are read. -/
import Derived.Test.YtndbcpfbddhonaaAb31
import Derived.SizedLaws
namespace Go.Ab
set_option linter.unusedSimpArgs false
set_option linter.unusedVariables false

/-- A value of one cell as it is marked. -/
def avOf : Value → AV
  | .int k n => .sym (.int k n)
  | .bool b => .bool b
  | .string s => .sym (.str s.data.toList)
  | _ => .nilptr
theorem avOf_ok {a : AK} {v : Value} (h : a.ok v) (μ : Mu) : cn μ (avOf v) = some v ∧ (avOf v).isCell = true := by
  cases a with
  | int k => obtain ⟨n, rfl, _⟩ := h; exact ⟨rfl, rfl⟩
  | bool => obtain ⟨b, rfl⟩ := h; exact ⟨rfl, rfl⟩
  | str => obtain ⟨s, rfl, _⟩ := h; exact ⟨rfl, rfl⟩
theorem allOk_at : ∀ {L : List AK} {c : List Value}, allOk L c → ∀ (i : Nat) (v : Value), c[i]? = some v → ∃ a : AK, a.ok v
  | [], [], _, i, v, h => by simp at h
  | a :: L, v0 :: c, h, 0, v, hv => by simp only [List.getElem?_cons_zero, Option.some.injEq] at hv; subst hv; exact ⟨a, h.1⟩
  | a :: L, v0 :: c, h, i + 1, v, hv => by simp only [List.getElem?_cons_succ] at hv; exact allOk_at h.2 i v hv
  | [], _ :: _, h, _, _, _ => h.elim
  | _ :: _, [], h, _, _, _ => h.elim

theorem rows_of {α : Type} {g : α → List Value} {R : α → Prop} {Q : List Value → Prop} (h : ∀ row, Q row → ∃ x, row = g x ∧ R x) : ∀ vals : List (List Value), (∀ row ∈ vals, Q row) → ∃ xs : List α, vals = xs.map g ∧ ∀ x ∈ xs, R x
  | [], _ => ⟨[], rfl, fun x h => by cases h⟩
  | row :: vals, hq => by
    obtain ⟨x, rfl, hx⟩ := h row (hq row (by simp))
    obtain ⟨xs, rfl, hxs⟩ := rows_of h vals fun r hr => hq r (by simp [hr])
    exact ⟨x :: xs, rfl, fun y hy => by
      rcases List.mem_cons.1 hy with rfl | hy
      · exact hx
      · exact hxs y hy⟩

/-- Rows lie in a world's heap from a place on. -/
def Lies (W : World) (p : Pl) (z : Nat) (vals : List (List Value)) : Prop :=
  ∃ o, W.heap[p.blk]? = some o ∧ ∀ μ : Mu, BlkR μ p (.cells false z (vals.map (·.map avOf))) o

section
variable {H : Type} {enc : TypeId × Value → H} {P : Program} {w : World} {base b2 : Nat} {spare : Nat → Bool} {held : Bool}
theorem open_rows {t e : TypeId} {d z : Nat} {L : List AK} {v : Value} {dd : DataW H} {pl : List MemPlace} (ht : P.underlying t = some (.slice e)) (hL : flatT P d e = some L) (hz : P.cellsOf e = z) (hz2 : L.length = z)
    (hok : Value.okWide P w .any b2 t v) (h : DataW.Trod enc P w base spare held t v dd pl) :
    v = .slice none 0 0 ∨ ∃ (a : Addr) (len cap : Nat) (vals : List (List Value)) (es sp : List (DataW H)), v = .slice (some a) len cap ∧ a.spot = none ∧ len ≤ cap ∧ vals.length = len ∧ (∀ row ∈ vals, allOk L row) ∧ dd = .slice es sp ∧ es.length = len ∧
      Lies w ⟨a.block, a.off, 0⟩ z vals := by
  obtain ⟨m, h⟩ := h
  have hcell : v.cells.toList = [v] := by
    obtain ⟨a, len, cap, rfl⟩ := Go.WideShapes.okWide_slice ht hok
    rfl
  rw [hcell] at h
  rcases DataW.trod_slice ht h with ⟨h0, _⟩ | ⟨a, len, cap, elems, rest, n, _, hv, hx, hb, hl, hm, hlen, hel, _, _⟩
  · left; simpa using h0
  right
  have hv' : v = .slice (some a) len cap := by simpa using hv
  subst hv'
  have hhas : a.spot = none ∧ ∃ cs et fz, w.heap[a.block]? = some (.cells cs et fz) := by
    simp only [Value.okWide, ht, Cell.okWide, Cell.ok] at hok
    obtain ⟨_, _, _, h2, row, cells, h3, _⟩ := hok
    refine ⟨h2, ?_⟩
    unfold World.shape? at h3
    split at h3
    · rename_i c et fz hh; exact ⟨_, _, _, hh⟩
    · cases h3
  obtain ⟨hsp, cs, et, fz, hheap⟩ := hhas
  have each : ∀ i, i < len → ∃ row : List Value, w.cells? base (a.add (i * P.cellsOf e)) (P.cellsOf e) = some row ∧ allOk L row := fun i hi => by
    have hi' : i < elems.length := by omega
    have := hel i hi
    rw [List.getElem?_eq_getElem hi', Option.bind_eq_some_iff] at this
    obtain ⟨row, hr, hy⟩ := this
    exact ⟨row, hr, flat_open d e L n row _ hL hy⟩
  let f : Nat → List Value := fun i => (w.cells? base (a.add (i * P.cellsOf e)) (P.cellsOf e)).getD []
  have hf : ∀ i, i < len → w.cells? base (a.add (i * P.cellsOf e)) (P.cellsOf e) = some (f i) ∧ allOk L (f i) := fun i hi => by
    obtain ⟨row, h1, h2⟩ := each i hi
    have : f i = row := by change (w.cells? base (a.add (i * P.cellsOf e)) (P.cellsOf e)).getD [] = row; rw [h1]; rfl
    rw [this]; exact ⟨h1, h2⟩
  have hd : dd = .slice (elems.map (·.1)) (rest.map (·.1)) := (Prod.mk.inj hx).1
  refine ⟨a, len, cap, (List.range len).map f, _, _, rfl, hsp, hl, by simp, fun row hr => ?_, hd, by simp [hlen], _, hheap, fun μ => ⟨fun row hr => ?_, fun i row g u hi hg => ?_, fun e => by cases e⟩⟩
  · obtain ⟨i, hi, rfl⟩ := List.mem_map.1 hr
    exact (hf i (List.mem_range.1 hi)).2
  · rw [List.map_map] at hr
    obtain ⟨i, hi, rfl⟩ := List.mem_map.1 hr
    have h2 := (hf i (List.mem_range.1 hi)).2
    refine ⟨by simp [allOk_length h2, hz2], fun v hv => ?_⟩
    obtain ⟨v0, hv0, rfl⟩ := List.mem_map.1 hv
    obtain ⟨j, hj⟩ := List.getElem?_of_mem hv0
    obtain ⟨ak, hak⟩ := allOk_at h2 j v0 hj
    exact (avOf_ok hak μ).2
  · rw [List.map_map, List.getElem?_map, Option.map_eq_some_iff] at hi
    obtain ⟨i', hi', rfl⟩ := hi
    have hlt : i < len := by have := (List.getElem?_eq_some_iff.1 hi').1; simpa using this
    have hii : i' = i := by
      rw [List.getElem?_range hlt] at hi'; cases hi'; rfl
    subst hii
    obtain ⟨h1, h2⟩ := hf i' hlt
    simp only [Function.comp] at hg
    rw [List.getElem?_map, Option.map_eq_some_iff] at hg
    obtain ⟨v0, hv0, rfl⟩ := hg
    obtain ⟨ak, hak⟩ := allOk_at h2 g v0 hv0
    refine ⟨v0, (avOf_ok hak μ).1, ?_⟩
    have hgl : g < P.cellsOf e := by
      have := (List.getElem?_eq_some_iff.1 hv0).1
      rw [allOk_length h2, hz2, ← hz] at this; exact this
    have hc := (World.cells?_some h1).2.2 g hgl
    rw [hv0] at hc
    have hc' : w.cell? ((a.add (i' * P.cellsOf e)).add g) = some v0 := by first | exact hc | exact hc.symm
    unfold World.cell? at hc'
    have hblk : ((a.add (i' * P.cellsOf e)).add g).block = a.block := by
      unfold Addr.add; split <;> split <;> rfl
    have hoff : ((a.add (i' * P.cellsOf e)).add g).off = a.off + i' * z + g := by
      rw [← hz]
      unfold Addr.add
      split <;> split <;> simp_all
    rw [hblk, hheap] at hc'
    simp only at hc'
    split at hc'
    · cases hc'
    · rw [hoff] at hc'; exact hc'
end

/-- Places by a list. -/
def muL (ps : List Pl) : Mu := fun n => ps[n]?
/-- A world in which blocks lie that are read. -/
theorem sim_list {W : World} {ps : List Pl} {bs : List (Option ABlk)} (h : ∀ (n : Nat) (b : ABlk), (bs[n]?).join = some b → b.isRw = false ∧ ∃ p o, ps[n]? = some p ∧ W.heap[p.blk]? = some o ∧ BlkR (muL ps) p b o) (hG : GI (fun _ => none) (fun _ => none) W := by exact ⟨fun _ _ h => by cases h⟩) : Sim (muL ps) (memB bs []).get W :=
  ⟨⟨fun n b hn => by
    rw [memB_get] at hn
    obtain ⟨_, p, o, h1, h2, h3⟩ := h n b hn
    exact ⟨p, o, h1, h2, h3⟩, fun n n' b b' p p' hn _ hrw => by
    rw [memB_get] at hn
    rw [(h n b hn).1] at hrw; cases hrw⟩, hG.ro fun n b hn => by
    rw [memB_get] at hn
    exact (h n b hn).1⟩
theorem slice_cn {ps : List Pl} {n z len cap : Nat} {a : Addr} (h : ps[n]? = some ⟨a.block, a.off, 0⟩) (hs : a.spot = none) : cn (muL ps) (.sym (.slice n z 0 len cap false none)) = some (.slice (some a) len cap) := by
  obtain ⟨b, o, s⟩ := a
  subst hs
  simp [cn, muL, h, plSlice]

section
variable {P : Program}
/-- A law over one slice that is read. -/
theorem CallS.calls1 {f : FuncId} {fn : Func} (hf : P.funcs[f]? = some fn) (hb : fn.body.isSome = true) (hn : fn.name ≠ "runtime.NumGoroutine") {vs : List AV} {z : Nat} {vals : List (List Value)}
    (h : CallS P f vs (memB [some (.cells false z (vals.map (·.map avOf)))] []) 1 fun v _ _ => v = .bool true)
    {w : World} {args : List Value} {p : Pl} (hl : Lies w p z vals) (hargs : cnL (muL [p]) vs = some args) (hG : GI (fun _ => none) (fun _ => none) w := by exact ⟨fun _ _ h => by cases h⟩) : Calls P f args.toArray w fun e w' => e = .returned (.bool true) ∧ RowKit.Below w.heap.size w w' := by
  obtain ⟨o, h1, h2⟩ := hl
  have hat : ∀ (n : Nat) (b : ABlk), (([some (.cells false z (vals.map (·.map avOf)))] : List (Option ABlk))[n]?).join = some b → n = 0 ∧ b = .cells false z (vals.map (·.map avOf)) := fun n b hb => by
    cases n with
    | zero => simp at hb; exact ⟨rfl, hb.symm⟩
    | succ n => simp at hb
  refine CallS.calls hf hb hn h hargs (sim_list (fun n b hb => ?_) hG) (fun n hn => by
    change ([p] : List Pl)[n]? = none
    simp; omega) fun n b hb => ?_
  · obtain ⟨rfl, rfl⟩ := hat n b hb
    exact ⟨rfl, p, o, rfl, h1, h2 _⟩
  · rw [memB_get] at hb
    obtain ⟨rfl, rfl⟩ := hat n b hb
    rfl
/-- The same without any. -/
theorem CallS.callsM {f : FuncId} {fn : Func} (hf : P.funcs[f]? = some fn) (hb : fn.body.isSome = true) (hn : fn.name ≠ "runtime.NumGoroutine") {vs : List AV} (h : CallS P f vs (memB [] []) 0 fun v _ _ => v = .bool true)
    {w : World} {args : List Value} (hargs : cnL (muL []) vs = some args) (hG : GI (fun _ => none) (fun _ => none) w := by exact ⟨fun _ _ h => by cases h⟩) : Calls P f args.toArray w fun e w' => e = .returned (.bool true) ∧ RowKit.Below w.heap.size w w' :=
  CallS.calls hf hb hn h hargs (sim_list (fun n b hb => by simp at hb) hG) (fun n hn => rfl) fun n b hb => by rw [memB_get] at hb; simp at hb
end

end Go.Ab
