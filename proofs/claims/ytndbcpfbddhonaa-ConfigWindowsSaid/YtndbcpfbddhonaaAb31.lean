/- Loops by an invariant over heads, with the checks as one word. -/
import Derived.Test.YtndbcpfbddhonaaAb30
namespace Go.Ab
set_option linter.unusedSimpArgs false
set_option linter.unusedVariables false

/-- The low names: what stands in the log stays in it; what stands in no log is as it was. -/
def lowOk (get : Nat → Option ABlk) (lg : List Nat) (bs : List (Option ABlk)) (log' : List Nat) : Nat → Prop
  | 0 => True
  | n + 1 => lowOk get lg bs log' n ∧ (match log'.contains n with
    | true => True
    | false => lg.contains n = false ∧ (bs[n]?).join = get n)
theorem lowOk_at {get : Nat → Option ABlk} {lg : List Nat} {bs : List (Option ABlk)} {log' : List Nat} : ∀ {k : Nat}, lowOk get lg bs log' k → ∀ n, n < k → n ∉ log' → n ∉ lg ∧ (bs[n]?).join = get n
  | 0, _, n, h, _ => by omega
  | k + 1, ⟨h1, h2⟩, n, hn, hl => by
    by_cases e : n = k
    · subst e
      have : log'.contains n = false := by
        cases hc : log'.contains n with
        | false => rfl
        | true => exact (hl (List.contains_iff_mem.1 hc)).elim
      rw [this] at h2
      refine ⟨fun hm => ?_, h2.2⟩
      rw [List.contains_iff_mem.2 hm] at h2
      cases h2.1
    · exact lowOk_at h1 n (by omega) hl
def pad (n : Nat) (sl : List (Option AV)) : List (Option AV) := sl ++ List.replicate (n - sl.length) none
theorem pad_len {n : Nat} {sl : List (Option AV)} {k : Nat} (h : n ≤ k) (h' : sl.length ≤ k) : (pad n sl).length ≤ k := by
  simp only [pad, List.length_append, List.length_replicate]; omega
theorem pad_get {n : Nat} {sl : List (Option AV)} {t : Nat} {v : AV} (h : (pad n sl).getD t none = some v) : sl.getD t none = some v := by
  simp only [pad, List.getD_eq_getElem?_getD] at h ⊢
  by_cases ht : t < sl.length
  · rwa [List.getElem?_append_left ht] at h
  · rw [List.getElem?_append_right (by omega), List.getElem?_replicate] at h
    split at h <;> cases h
def tsOk (lo : Nat) : List Nat → Bool
  | [] => true
  | t :: r => Nat.ble lo t && (!(r.contains t) && tsOk lo r)
theorem tsOk_ok {lo : Nat} : ∀ {ts : List Nat}, tsOk lo ts = true → ts.Nodup ∧ ∀ t ∈ ts, lo ≤ t
  | [], _ => ⟨List.Pairwise.nil, fun t h => by cases h⟩
  | t :: r, h => by
    simp only [tsOk, Bool.and_eq_true, Bool.not_eq_true'] at h
    obtain ⟨h1, h2, h3⟩ := h
    obtain ⟨k1, k2⟩ := tsOk_ok h3
    refine ⟨List.nodup_cons.2 ⟨fun hm => ?_, k1⟩, fun u hu => ?_⟩
    · rw [List.contains_iff_mem.2 hm] at h2; cases h2
    · rcases List.mem_cons.1 hu with rfl | hu
      · exact Nat.le_of_ble_eq_true h1
      · exact k2 u hu
/-- A state stands for a head: by the names ts. -/
structure Head (n lo : Nat) (ts : List Nat) (log' : List Nat) (sl' : List (Option AV)) (bs : List (Option ABlk)) (s : St) : Prop where
  slen : Nat.ble n s.sl.length = true
  len : Nat.ble bs.length (lo + ts.length) = true
  sl : slLe (tau lo ts) s.sl sl'
  blk : blksLe (tau lo ts) s.m.get 0 bs
  nodup : tsOk lo ts = true
  low : lowOk s.m.get s.m.log bs log' lo
theorem Head.ren {n lo : Nat} {ts log' : List Nat} {sl' : List (Option AV)} {bs : List (Option ABlk)} {s : St} (h : Head n lo ts log' sl' bs s) : Ren lo (tau lo ts) s ⟨pad n sl', memB bs log', lo + ts.length⟩ := by
  obtain ⟨sl, m, c⟩ := s
  suffices hr : Ren lo (tau lo ts) ⟨sl, m, c⟩ ⟨sl', memB bs log', lo + ts.length⟩ by
    exact ⟨hr.c, hr.low, hr.top, pad_len (Nat.le_of_ble_eq_true h.slen) hr.len, fun t v' ht => hr.sl t v' (pad_get ht), hr.blk, hr.inj, hr.logs, hr.kept⟩
  refine Ren.mk' ts (Nat.le_of_ble_eq_true h.len) h.sl h.blk (tsOk_ok h.nodup) (fun n hn hl => ?_) fun n hn hl => ?_
  · by_cases e : n ∈ log'
    · exact e
    · exact ((lowOk_at h.low n hn e).1 hl).elim
  · rw [memB_get]
    exact (lowOk_at h.low n hn hl).2

/-! ### what stands in a slot, in a cell -/
def oI : Option AV → Int
  | some (.int _ n) => n
  | some (.sym (.int _ n)) => n
  | _ => 0
def oB : Option AV → Bool
  | some (.bool b) => b
  | _ => false
def oS : Option AV → List UInt8
  | some (.str s) => s
  | some (.sym (.str s)) => s
  | _ => []
/-- The name of a pointer, a slice, a map. -/
def oP : Option AV → Nat
  | some (.ptr n _ _ _) => n
  | some (.slice n _ _ _ _ _ _) => n
  | some (.map n) => n
  | some (.sym (.ptr n _ _ _)) => n
  | some (.sym (.slice n _ _ _ _ _ _)) => n
  | _ => 0
def oL : Option AV → Nat
  | some (.slice _ _ _ n _ _ _) => n
  | some (.sym (.slice _ _ _ n _ _ _)) => n
  | _ => 0
def St.at (s : St) (t : Nat) : Option AV := s.sl.getD t none
def St.rows (s : St) (n : Nat) : List (List AV) := match s.m.get n with
  | some (.cells _ _ rows) => rows
  | _ => []
def St.es (s : St) (n : Nat) : List (AV × AV) := match s.m.get n with
  | some (.map es) => es
  | _ => []
def St.cell (s : St) (n i f : Nat) : Option AV := match (s.rows n)[i]? with
  | some row => row[f]?
  | none => none

section
variable {P : Program}
theorem LoopT.inv {call : CallA} (X : Ctx P call) {α : Type} {lo : Nat} {x : Code} {s : St} {K : Out → St → Prop} (n : Nat) (ts log : List Nat) (sl : α → List (Option AV)) (bs : α → List (Option ABlk)) (I : α → Prop) (ms : α → Nat) (a0 : α)
    (h0 : I a0) (e0 : Head n lo ts log (sl a0) (bs a0) s)
    (h : ∀ a, I a → vCode (fun _ => P) call lo x ⟨pad n (sl a), memB (bs a) log, lo + ts.length⟩ fun o s' => match o with
      | .normal => ∃ a' ts', I a' ∧ ms a' < ms a ∧ Nat.beq (List.length ts') ts.length = true ∧ Head n lo ts' log (sl a') (bs a') s'
      | o => K o s') : LoopT (fun _ => P) lo x s K := by
  refine ⟨LoopS.ren e0.ren (LoopS.inv (P := P) (lo := lo) (x := x) (K := K) (fun a => ⟨pad n (sl a), memB (bs a) log, lo + ts.length⟩) I ms (fun a hI => (vCode_ok X x _ (h a hI)).mono fun o s' hk => ?_) a0 h0)⟩
  cases o with
  | normal =>
    obtain ⟨a', ts', h1, h2, h3, h4⟩ := hk
    have h3 : ts'.length = ts.length := Nat.eq_of_beq_eq_true h3
    exact ⟨a', h1, h2, _, by rw [← h3]; exact h4.ren⟩
  | exit id => exact hk
  | ret => exact hk
/-- Of a reckoned value. -/
structure HoldAt {α : Type} (v : α) (p : α → Prop) : Prop where
  ok : p v
def loopK {α : Type} (n lo : Nat) (log : List Nat) (rd : St → α) (ts : St → List Nat) (sl : α → List (Option AV)) (bs : α → List (Option ABlk)) (I : α → Prop) (ms : α → Nat) (k : Nat) (a : α) (K : Out → St → Prop) : Out → St → Prop
  | .normal, s' => (HoldAt (rd s') (fun a' => I a' ∧ ms a' < ms a) ∧ Nat.beq (List.length (ts s')) k = true) ∧ Head n lo (ts s') log (sl (rd s')) (bs (rd s')) s'
  | .exit id, s' => K (.exit id) s'
  | .ret, s' => K .ret s'
/-- The same, the next head read off the state. -/
theorem LoopT.invR {call : CallA} (X : Ctx P call) {α : Type} {lo : Nat} {x : Code} {s : St} {K : Out → St → Prop} (n : Nat) (log : List Nat) (rd : St → α) (ts : St → List Nat) (sl : α → List (Option AV)) (bs : α → List (Option ABlk)) (I : α → Prop) (ms : α → Nat)
    (h0 : HoldAt (rd s) I ∧ Head n lo (ts s) log (sl (rd s)) (bs (rd s)) s)
    (h : ∀ a, I a → vCode (fun _ => P) call lo x ⟨pad n (sl a), memB (bs a) log, lo + (ts s).length⟩ (loopK n lo log rd ts sl bs I ms (ts s).length a K)) : LoopT (fun _ => P) lo x s K :=
  ⟨LoopS.ren h0.2.ren (LoopS.inv (P := P) (lo := lo) (x := x) (K := K) (fun a => ⟨pad n (sl a), memB (bs a) log, lo + (ts s).length⟩) I ms (fun a hI => (vCode_ok X x _ (h a hI)).mono fun o s' hk => by
    cases o with
    | normal =>
      have h3 : (ts s').length = (ts s).length := Nat.eq_of_beq_eq_true hk.1.2
      exact ⟨rd s', hk.1.1.ok.1, hk.1.1.ok.2, _, by rw [← h3]; exact hk.2.ren⟩
    | exit id => exact hk
    | ret => exact hk) (rd s) h0.1.ok)⟩
theorem CallT.enter {call : CallA} (X : Ctx P call) {f : FuncId} {fn : Func} (hf : P.funcs[f]? = some fn) (hn : fn.name ≠ "runtime.NumGoroutine") {vs : List AV} {m : Mem} {c : Nat} {R : AV → Mem → Nat → Prop} (h : vFun (fun _ => P) call fn vs m c R) : CallT (fun _ => P) f vs m c R :=
  ⟨CallS.enter X hf hn h⟩
/-- A call's end, renamed. -/
theorem CallS.endAt {f : FuncId} {vs : List AV} {m : Mem} {c : Nat} {R R' : AV → Mem → Nat → Prop} (hm : m.log = []) (h : CallS P f vs m c R)
    (hr : ∀ v m' c', R v m' c' → ∃ ts log v2 bs, Head 0 c ts log [some v2] bs ⟨[some v], m', c'⟩ ∧ R' v2 (memB bs log) (c + ts.length)) : CallS P f vs m c R' :=
  CallS.post hm h fun v m' c' hR => by
    obtain ⟨ts, log, v2, bs, h1, h2⟩ := hr v m' c' hR
    exact ⟨_, v2, _, _, h1.ren, h2⟩
end

/-- Rows of numbers. -/
def ints (xs : List Int) : List (List AV) := xs.map fun x => [.sym (.int .i64 x)]
theorem ints_flat (xs : List Int) : ∀ row ∈ ints xs, AV.flatL row = true := fun row h => by
  obtain ⟨x, _, rfl⟩ := List.mem_map.1 h
  rfl
theorem ints_at {xs : List Int} {i : Nat} {x : Int} (h : xs[i]? = some x) : (ints xs)[i]? = some [.sym (.int .i64 x)] := by simp [ints, h]
theorem ints_len (xs : List Int) : (ints xs).length = xs.length := by simp [ints]
/-- Rows that begin with those of a list. -/
def At {α : Type} (f : α → List AV) (xs : List α) (rows : List (List AV)) : Prop := ∀ (j : Nat) (x : α), xs[j]? = some x → rows[j]? = some (f x)
theorem At.map {α : Type} (f : α → List AV) (xs : List α) : At f xs (xs.map f) := fun j x h => by simp [h]
theorem At.app {α : Type} {f : α → List AV} {xs : List α} {rows : List (List AV)} (h : At f xs rows) (l : List (List AV)) : At f xs (rows ++ l) := fun j x hx => by
  have := h j x hx
  rw [List.getElem?_append_left (List.getElem?_eq_some_iff.1 this).1]; exact this
theorem ld {α : Type} {f : α → List AV} {xs : List α} {rows : List (List AV)} (hr : At f xs rows) {j : Nat} {K : List AV → Prop} (hj : j < xs.length) (h : ∀ x, xs[j]? = some x → K (f x)) : ∃ row, rows[j]? = some row ∧ K row :=
  ⟨f xs[j], hr j _ (List.getElem?_eq_getElem hj), h _ (List.getElem?_eq_getElem hj)⟩
theorem uAnd {A B : Prop} (h : A) (k : B) : (Unit → A) ∧ B := ⟨fun _ => h, k⟩
/-- The number that a value is, marked or not. -/
def iOf : AV → Int
  | .int _ n => n
  | .sym v => iOf v
  | _ => 0
/-- A number's row. -/
def iv (x : Int) : List AV := [.sym (.int .i64 x)]

end Go.Ab
