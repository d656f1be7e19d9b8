/- What a callee made and nobody holds any more is forgotten. -/
import Derived.Test.YtndbcpfbddhonaaAb48
namespace Go.Ab
set_option linter.unusedSimpArgs false
set_option linter.unusedVariables false

mutual
def namesA : AV → List Nat
  | .sym v => namesA v
  | .agg cs => namesL cs
  | .ptr n _ _ _ => [n]
  | .slice n _ _ _ _ _ _ => [n]
  | .map n => [n]
  | .func _ cs => namesL cs
  | .iface _ v => namesA v
  | .tuple vs => namesL vs
  | _ => []
def namesL : List AV → List Nat
  | [] => []
  | v :: vs => namesA v ++ namesL vs
end
def namesR : List (List AV) → List Nat
  | [] => []
  | r :: rs => namesL r ++ namesR rs
def namesE : List (AV × AV) → List Nat
  | [] => []
  | e :: es => namesA e.1 ++ (namesA e.2 ++ namesE es)
def namesB : Option ABlk → List Nat
  | some (.cells _ _ rows) => namesR rows
  | some (.map es) => namesE es
  | none => []
def memN (n : Nat) : List Nat → Bool
  | [] => false
  | k :: r => Nat.beq n k || memN n r
/-- The new names (c and on) that are held. -/
def reachN (l : List (Nat × Option ABlk)) (c : Nat) : Nat → List Nat → List Nat → List Nat
  | 0, _, seen => seen
  | _, [], seen => seen
  | k + 1, n :: todo, seen => match Nat.blt n c || memN n seen with
    | true => reachN l c k todo seen
    | false => reachN l c k (namesB (getL l n) ++ todo) (n :: seen)
def oldN (c : Nat) : List (Nat × Option ABlk) → List Nat
  | [] => []
  | e :: r => match Nat.blt e.1 c with
    | true => namesB e.2 ++ oldN c r
    | false => oldN c r
def dropL (c : Nat) (keep : List Nat) : List (Nat × Option ABlk) → List (Nat × Option ABlk)
  | [] => []
  | e :: r => match Nat.blt e.1 c || memN e.1 keep with
    | true => e :: dropL c keep r
    | false => dropL c keep r
theorem dropL_get (c : Nat) (keep : List Nat) (n : Nat) : ∀ l, getL (dropL c keep l) n = match Nat.blt n c || memN n keep with | true => getL l n | false => none
  | [] => by simp only [dropL, getL]; split <;> rfl
  | (k, v) :: r => by
    simp only [dropL]
    have ih := dropL_get c keep n r
    cases h : Nat.blt k c || memN k keep with
    | true =>
      simp only [getL]
      cases e : n.beq k with
      | true =>
        have : n = k := Nat.eq_of_beq_eq_true e
        subst this
        simp only [h, cond_true]
      | false => simp only [cond_false, ih]
    | false =>
      simp only [getL, ih]
      cases e : n.beq k with
      | true =>
        have : n = k := Nat.eq_of_beq_eq_true e
        subst this
        simp only [h]
      | false => simp only [cond_false]
def tidyM (c : Nat) (v : AV) (m : Mem) : Mem :=
  match m.tr with
  | .leaf l => ⟨.leaf (dropL c (reachN l c 200 (namesA v ++ oldN c l) []) l), m.log⟩
  | t => ⟨t, m.log⟩
theorem tidyM_get (c : Nat) (v : AV) (m : Mem) (n : Nat) : (tidyM c v m).get n = m.get n ∨ c ≤ n ∧ (tidyM c v m).get n = none := by
  unfold tidyM
  split
  · rename_i l hl
    simp only [Mem.get, hl, Tr.get, dropL_get]
    cases h : Nat.blt n c || memN n (reachN l c 200 (namesA v ++ oldN c l) []) with
    | true => exact .inl rfl
    | false =>
      refine .inr ⟨?_, rfl⟩
      simp only [Bool.or_eq_false_iff] at h
      have := h.1
      simp only [Nat.blt, Nat.ble_eq, ← Bool.not_eq_true] at this
      omega
  · exact .inl rfl
theorem tidyM_log (c : Nat) (v : AV) (m : Mem) : (tidyM c v m).log = m.log := by
  unfold tidyM
  split <;> rfl
theorem ldRep {rows : List (List AV)} {n k : Nat} {r : List AV} {K : List AV → Prop} (h : rows = List.replicate n r) (hk : k < n) (hK : K r) : ∃ row, rows[k]? = some row ∧ K row :=
  ⟨r, by rw [h, List.getElem?_replicate, if_pos hk], hK⟩
section
variable {P : Program}
theorem CallS.tidy {f : FuncId} {vs : List AV} {m : Mem} {c : Nat} {K : AV → Mem → Nat → Prop} (h : CallS P f vs m c fun v m' c' => K v (tidyM c v m') c') : CallS P f vs m c K := by
  refine ⟨fun μ w args hargs hS hf => (h.ok μ w args hargs hS hf).mono ?_⟩
  rintro val w' ⟨v, m', c', μ', hK, hv, ha⟩
  refine ⟨v, tidyM c v m', c', μ', hK, hv, ?_⟩
  have sub : ∀ n b, (tidyM c v m').get n = some b → m'.get n = some b := fun n b hb => by
    rcases tidyM_get c v m' n with e | ⟨_, e⟩
    · rw [← e]; exact hb
    · rw [e] at hb; cases hb
  refine After0.up hS.glob ⟨ha.le, ha.same, ha.fresh, ha.cle, ⟨fun n b hb => ha.sim.blk n b (sub n b hb), fun n n' b b' p p' h1 h2 => ha.sim.apart n n' b b' p p' (sub _ _ h1) (sub _ _ h2)⟩, ⟨ha.step.os, ha.step.tape, ha.step.output, ha.step.size, ha.step.keep, fun n b p hb => ha.step.img n b p (sub _ _ hb)⟩, ?_⟩
  obtain ⟨δ, e, g⟩ := ha.log
  refine ⟨δ, by rw [tidyM_log, e], fun n hn h1 h2 => ?_⟩
  rcases tidyM_get c v m' n with e2 | ⟨e2, _⟩
  · rw [e2]; exact g n hn h1 h2
  · omega
/-- The same, what follows hidden. -/
theorem CallT.tidyH {f : FuncId} {vs : List AV} {m : Mem} {c : Nat} {K : AV → Mem → Nat → Prop} (h : ∀ K0 : AV → Mem → Nat → Prop, (∀ v m' c', K v (tidyM c v m') c' → K0 v m' c') → CallT (fun _ => P) f vs m c K0) : CallT (fun _ => P) f vs m c K :=
  ⟨CallS.tidy (h (fun v m' c' => K v (tidyM c v m') c') fun _ _ _ hk => hk).ok⟩
/-- A callee whose answer is known and that writes nothing old. -/
theorem CallT.calmV {W : AV} {f : FuncId} {vs : List AV} {m : Mem} {c : Nat} {K : AV → Mem → Nat → Prop} (h : CallT (fun _ => P) f vs m c fun v m' _ => v.flat = true ∧ calmB m c m' = true ∧ v = W) (hk : K W m c) : CallT (fun _ => P) f vs m c K := by
  refine CallT.calm ⟨h.ok.mono ?_⟩
  rintro v m' c' ⟨h1, h2, rfl⟩
  exact ⟨h1, h2, hk⟩
/-- The memory as a tree, for runs. -/
def treeL : List (Nat × Option ABlk) → Tr
  | [] => Tr.empty 6
  | e :: r => (treeL r).put e.1 e.2
def treeM (m : Mem) : Mem :=
  match m.tr with
  | .leaf l => ⟨treeL l, m.log⟩
  | t => ⟨t, m.log⟩
theorem treeL_get : ∀ (l : List (Nat × Option ABlk)) (n : Nat), (treeL l).get n = getL l n
  | [], n => by simp only [treeL, getL]; exact Tr.get_empty 6 n
  | (k, v) :: r, n => by
    simp only [treeL, Tr.get_put, getL, treeL_get r n]
    cases h : n.beq k with
    | true => rw [if_pos (Nat.eq_of_beq_eq_true h)]; rfl
    | false => rw [if_neg (fun e => by rw [e, Nat.beq_refl] at h; cases h)]; rfl
theorem treeM_get (m : Mem) (n : Nat) : (treeM m).get n = m.get n := by
  unfold treeM
  split
  · rename_i l hl; simp only [Mem.get, treeL_get, hl, Tr.get]
  · rfl
theorem treeM_log (m : Mem) : (treeM m).log = m.log := by
  unfold treeM; split <;> rfl
theorem SafeC.tree {lo : Nat} (code : Code) (s : St) (K : Out → St → Prop) (h : SafeC P lo code ⟨s.sl, treeM s.m, s.c⟩ K) : SafeC P lo code s K := by
  have hg : (treeM s.m).get = s.m.get := funext (treeM_get s.m)
  have hl := treeM_log s.m
  refine ⟨fun μ a w hlo hR Q hq => h.ok μ a w hlo ⟨hR.sl, by dsimp only; rw [hg]; exact hR.sim, hR.fresh, hR.free⟩ Q fun o s' μ' a' w' k1 k2 k3 k4 => hq o s' μ' a' w' k1 k2 ?_ k4⟩
  refine ⟨k3.same, k3.cle, ?_, fun n hn hh => k3.logs n hn (by dsimp only; rw [hl]; exact hh), fun n hn hh => ?_⟩
  · have := k3.step; dsimp only at this; rw [hg] at this; exact this
  · have := k3.kept n hn hh; dsimp only at this; rw [hg] at this; exact this
/-- From here the code runs to its end and answers true (the memory as a tree). -/
structure RunT (p : Unit → Program) (call : Unit → CallA) (code : Unit → Code) (fn : Unit → Func) (k : Nat) (live : List Nat) (s : St) : Prop where
  ok : endsYes (p ()) (fn ()) (aCode (p ()) (call ()) k (fun _ => none) 0 (code ()) ⟨clearA live s.sl, treeM s.m, s.c⟩) = true
theorem SafeC.cutRunT {call call2 : CallA} (X : Ctx P call) (X2 : Ctx P call2) {lo : Nat} {fn : Func} {s : St} {m : Mem} (id k : Nat) (live : List Nat)
    (h : vCut (fun _ => P) call lo id (RunT (fun _ => P) (fun _ => call2) (fun _ => cutRC id (bodyOf fn)) (fun _ => fn) k live) (bodyOf fn) s (vEnd (fun _ => P) fn m fun v _ _ => v = .bool true)) : SafeC P lo (bodyOf fn) s (vEnd (fun _ => P) fn m fun v _ _ => v = .bool true) := by
  refine vCutR_ok X X2 (k := k) (fun s => ⟨clearA live s.sl, treeM s.m, s.c⟩) (fun code s K hs => SafeC.clear live code s K (SafeC.tree code _ K hs)) (bodyOf fn) s (fun o s' k1 => k1) h fun s hq c hc => ?_
  obtain ⟨o, s', e, hv⟩ := endsYes_ok (m := m) hq.ok
  have e2 : cutRC id (bodyOf fn) = c := by rw [cutRC, hc, Option.getD_some]
  rw [e2] at e
  exact ⟨0, o, s', e, hv⟩
end
end Go.Ab
