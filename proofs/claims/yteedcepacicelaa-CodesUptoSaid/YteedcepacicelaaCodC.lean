/- code.Put and the document's PutCode: any program, wherever it lies. -/
import Derived.Test.YteedcepacicelaaCodB
import Derived.Test.YteedcepacicelaaAb43
namespace Go.Proofs.Yteedcepacicelaa.Cod
open Go.Ab Base Kit
set_option linter.unusedVariables false
set_option linter.unusedSimpArgs false

/-- A program's bytes, as numbers. -/
def laid : List Instr → List Int
  | [] => []
  | x :: p => x.op :: x.arg :: laid p
theorem laid_append : ∀ p q : List Instr, laid (p ++ q) = laid p ++ laid q
  | [], q => rfl
  | x :: p, q => by simp only [List.cons_append, laid, laid_append p q]
theorem laid_succ {p : List Instr} {j : Nat} {a b : Int} (h : p[j]? = some ⟨a, b⟩) : laid (p.take (j + 1)) = laid (p.take j) ++ [a, b] := by
  rw [take_succ_at h, laid_append]; rfl
theorem laid_len : ∀ p : List Instr, (laid p).length = 2 * p.length
  | [] => rfl
  | x :: p => by simp only [laid, List.length_cons, laid_len p]; omega
theorem laid_nil {p : List Instr} (h : p.length = 0) : laid p = [] := by rw [List.eq_nil_of_length_eq_zero h]; rfl
theorem laid_all {p : List Instr} {j : Nat} (h : p.length ≤ j) : laid (p.take j) = laid p := by rw [List.take_of_length_le h]
theorem may_at {p : List Instr} {j : Nat} {a b : Int} (h : May p) (hx : p[j]? = some ⟨a, b⟩) : 0 ≤ a ∧ a ≤ 11 ∧ 0 ≤ b ∧ b ≤ 255 := by
  have h1 := h.1
  have h2 : OkI p.length a b := okI_at h.2 hx
  unfold OkI at h2
  omega

set_option maxHeartbeats 4000000 in
theorem putC (p : List Instr) (rows : List (List AV)) (n cap : Nat) (opn : Bool) (hA : Hat tv p rows n) :
    CallS Try.prog 8 [.sym (.slice 0 2 0 n cap opn none)] (memB [some (.cells false 2 rows)] []) 1 fun v _ _ => v.flat = true ∧ ∃ w, ((May p ∧ w = .tuple [.sym (.str (u8s (laid p))), .sym (.int .i64 0)]) ∨ (¬ May p ∧ w = .tuple [.sym (.str []), .sym (.int .i64 400)])) ∧ Go.Ab.full v = w := by
  obtain ⟨hn, hsz, hflat, hrows⟩ := hA
  refine CallS.enter X Try.func8 (by decide) ?_
  cbv
  with_reducible apply mayT (p := p)
  focus exact Sl.rows0 rfl rfl hn hsz hrows
  rotate_left
  · with_reducible intro hno
    cbv
    exact ⟨_, .inr ⟨hno, rfl⟩, rfl⟩
  with_reducible intro hyes
  cbv
  repeat' first
    | with_reducible exact trivial
    | ((with_reducible intro v hv); (try rw [wrap_i64] at hv); cbv)
  with_reducible
   refine LoopT.invR X (α := Int × Sh) 28 [] (fun s => (oI (s.at 12), s.sh 4)) (fun s => [s.nm 4 0])
    (fun a => [none, none, none, none, some (a.2.av 1 1), none, none, none, none, none, some (.sym (.slice 0 2 0 n cap opn none)), some (.sym (.int .i64 v)), some (.sym (.int .i64 a.1))])
    (fun a => [some (.cells false 2 rows), a.2.blk 1])
    (fun a => 0 ≤ a.1 ∧ a.1.toNat ≤ n ∧ a.2.holds uv (laid (p.take a.1.toNat))) (fun a => n - a.1.toNat) ?_ ?_
  · cbv
    refine And.intro (HoldAt.mk ?_) (Head.mk ?_ ?_ ?_ ?_ ?_ ?_)
    · exact ⟨by decide, by simp, rfl⟩
    all_goals cbv
    exact ⟨BlkLe.flat (fun h => h) hflat, trivial⟩
  · rintro ⟨j, sh⟩ ⟨j1, j2, hsh⟩
    dsimp only at j1 j2 hsh
    have hlen := hyes.1
    cases sh with
    | nil =>
      have hq0 : laid (p.take j.toNat) = [] := hsh
      have hj0 := congrArg List.length hq0
      rw [laid_len, List.length_take, List.length_nil] at hj0
      cbv
      repeat' first
        | with_reducible exact trivial
        | ((with_reducible apply ld hrows); (focus omega); rintro ⟨a2, b2⟩ hx; (rw [show v = j.toNat by omega] at hx); (first | (have e := hx.symm.trans hxj; simp only [Option.some.injEq, Instr.mk.injEq] at e; obtain ⟨ea, eb⟩ := e) | (have hxj := hx; have hbd := may_at hyes hx; (obtain ⟨a, ha⟩ : ∃ a, a = a2 := ⟨_, rfl⟩); (obtain ⟨b, hb⟩ : ∃ b, b = b2 := ⟨_, rfl⟩))); cbv)
        | ((with_reducible intro L' rows' hL hr'); (simp only [List.length_cons, List.length_nil, Nat.zero_add] at hL); (first
            | ((have hc : L + 2 ≤ cap2 := by omega); (have hN := Holds.inPlace2 hold (fun _ => rfl) hc hL hr'))
            | (have hN := Holds.anew2 hold (fun _ => rfl) hL hr')); cbv)
        | ((with_reducible apply strAt hold.bytes); (with_reducible intro s hs); cbv)
        | ((with_reducible intro v hv); (first | (rw [wrap_i64] at hv) | (rw [wrap_u8] at hv; first | have hva : v = a := by omega | have hvb : v = b := by omega) | skip); cbv)
        | ((with_reducible apply uAnd); (focus first | omega | (refine And.intro ?_ (And.intro ?_ (Or.inl rfl)) <;> omega) | (simp only [List.length_cons, List.length_nil]; omega) | kernel_rfl | (simp; done)); try cbv)
        | ((with_reducible apply and3) <;> (with_reducible intro h) <;> first | ((with_reducible exfalso); omega) | cbv)
        | ((with_reducible apply And.intro) <;> (with_reducible intro h) <;> (try simp only [List.length_cons, List.length_nil, Nat.zero_add] at h) <;> first | ((with_reducible exfalso); omega) | ((with_reducible exfalso); simp at h; done) | cbv)
        | ((with_reducible intro h); first | ((with_reducible exfalso); omega) | cbv)
      all_goals first
        | exact ⟨_, .inl ⟨hyes, rfl⟩, by rw [laid_nil (p := p) (by omega)]; rfl⟩
        | exact ⟨_, .inl ⟨hyes, rfl⟩, by rw [hs, laid_all (by omega)]; rfl⟩
        | (refine And.intro (And.intro (HoldAt.mk ?_) True.intro) (Head.mk ?_ ?_ ?_ ?_ ?_ ?_)
           · dsimp only
             have e4 : v.toNat = j.toNat + 1 := by omega
             refine ⟨⟨by omega, by omega, ?_⟩, by omega⟩
             rw [e4, laid_succ hxj]
             rw [hq0, hva, hvb, ha, hb]
             exact Holds.many (fun _ => rfl) rfl rfl
           all_goals cbv
           exact ⟨BlkLe.flat (fun h => h) hflat, BlkLe.flat (fun h => h) (by simp [AV.flatL, AV.flat]), trivial⟩)
    | sl L cap2 rows2 =>
      have hold : Holds uv (laid (p.take j.toNat)) L cap2 rows2 := hsh
      have hL0 := hold.len; have hL1 := hold.full; have hL2 := hold.le
      rw [laid_len, List.length_take] at hL0
      cbv
      repeat' first
        | with_reducible exact trivial
        | ((with_reducible apply ld hrows); (focus omega); rintro ⟨a2, b2⟩ hx; (rw [show v = j.toNat by omega] at hx); (first | (have e := hx.symm.trans hxj; simp only [Option.some.injEq, Instr.mk.injEq] at e; obtain ⟨ea, eb⟩ := e) | (have hxj := hx; have hbd := may_at hyes hx; (obtain ⟨a, ha⟩ : ∃ a, a = a2 := ⟨_, rfl⟩); (obtain ⟨b, hb⟩ : ∃ b, b = b2 := ⟨_, rfl⟩))); cbv)
        | ((with_reducible intro L' rows' hL hr'); (simp only [List.length_cons, List.length_nil, Nat.zero_add] at hL); (first
            | ((have hc : L + 2 ≤ cap2 := by omega); (have hN := Holds.inPlace2 hold (fun _ => rfl) hc hL hr'))
            | (have hN := Holds.anew2 hold (fun _ => rfl) hL hr')); cbv)
        | ((with_reducible apply strAt hold.bytes); (with_reducible intro s hs); cbv)
        | ((with_reducible intro v hv); (first | (rw [wrap_i64] at hv) | (rw [wrap_u8] at hv; first | have hva : v = a := by omega | have hvb : v = b := by omega) | skip); cbv)
        | ((with_reducible apply uAnd); (focus first | omega | (refine And.intro ?_ (And.intro ?_ (Or.inl rfl)) <;> omega) | (simp only [List.length_cons, List.length_nil]; omega) | kernel_rfl | (simp; done)); try cbv)
        | ((with_reducible apply and3) <;> (with_reducible intro h) <;> first | ((with_reducible exfalso); omega) | cbv)
        | ((with_reducible apply And.intro) <;> (with_reducible intro h) <;> (try simp only [List.length_cons, List.length_nil, Nat.zero_add] at h) <;> first | ((with_reducible exfalso); omega) | ((with_reducible exfalso); simp at h; done) | cbv)
        | ((with_reducible intro h); first | ((with_reducible exfalso); omega) | cbv)
      all_goals first
        | exact ⟨_, .inl ⟨hyes, rfl⟩, by rw [laid_nil (p := p) (by omega)]; rfl⟩
        | exact ⟨_, .inl ⟨hyes, rfl⟩, by rw [hs, laid_all (by omega)]; rfl⟩
        | (refine And.intro (And.intro (HoldAt.mk ?_) True.intro) (Head.mk ?_ ?_ ?_ ?_ ?_ ?_)
           · dsimp only
             have e4 : v.toNat = j.toNat + 1 := by omega
             refine ⟨⟨by omega, by omega, ?_⟩, by omega⟩
             rw [e4, laid_succ hxj]
             rw [hva, hvb, ha, hb] at hN
             exact hN
           all_goals cbv
           exact ⟨BlkLe.flat (fun h => h) hflat, BlkLe.flat (fun h => h) hN.flat, trivial⟩)

def PutR (p : List Instr) (v : AV) : Prop := (May p ∧ v = .tuple [.sym (.str (u8s (laid p))), .sym (.int .i64 0)]) ∨ (¬ May p ∧ v = .tuple [.sym (.str []), .sym (.int .i64 400)])

set_option maxHeartbeats 4000000 in
theorem refPutC (p : List Instr) (rows : List (List AV)) (n cap : Nat) (opn : Bool) (hA : Hat tv p rows n) :
    CallS Try.prog 9 [.sym (.slice 0 2 0 n cap opn none)] (memB [some (.cells false 2 rows)] []) 1 fun v _ _ => v.flat = true ∧ ∃ w, ((May p ∧ w = .tuple [.sym (.str (u8s (laid p))), .sym (.int .i64 0)]) ∨ (¬ May p ∧ w = .tuple [.sym (.str []), .sym (.int .i64 400)])) ∧ Go.Ab.full v = w := by
  obtain ⟨hn, hsz, hflat, hrows⟩ := hA
  refine CallS.enter X Try.func9 (by decide) ?_
  cbv
  with_reducible apply refMayT (p := p)
  focus exact Sl.rows0 rfl rfl hn hsz hrows
  rotate_left
  · with_reducible intro hno
    cbv
    exact ⟨_, .inr ⟨hno, rfl⟩, rfl⟩
  with_reducible intro hyes
  cbv
  with_reducible
   refine LoopT.invR X (α := Int × Sh) 32 [] (fun s => (oI (s.at 5), s.sh 4)) (fun s => [s.nm 4 0])
    (fun a => [some (.sym (.slice 0 2 0 n cap opn none)), none, none, none, some (a.2.av 1 1), some (.sym (.int .i64 a.1))])
    (fun a => [some (.cells false 2 rows), a.2.blk 1])
    (fun a => 0 ≤ a.1 ∧ a.1.toNat ≤ n ∧ a.2.holds uv (laid (p.take a.1.toNat))) (fun a => n - a.1.toNat) ?_ ?_
  · cbv
    refine And.intro (HoldAt.mk ?_) (Head.mk ?_ ?_ ?_ ?_ ?_ ?_)
    · exact ⟨by decide, by simp, rfl⟩
    all_goals cbv
    exact ⟨BlkLe.flat (fun h => h) hflat, trivial⟩
  · rintro ⟨j, sh⟩ ⟨j1, j2, hsh⟩
    dsimp only at j1 j2 hsh
    have hlen := hyes.1
    cases sh with
    | nil =>
      have hq0 : laid (p.take j.toNat) = [] := hsh
      have hj0 := congrArg List.length hq0
      rw [laid_len, List.length_take, List.length_nil] at hj0
      cbv
      repeat' first
        | with_reducible exact trivial
        | ((with_reducible apply ld hrows); (focus omega); rintro ⟨a2, b2⟩ hx; (rw [show v = j.toNat by omega] at hx); (first | (have e := hx.symm.trans hxj; simp only [Option.some.injEq, Instr.mk.injEq] at e; obtain ⟨ea, eb⟩ := e) | (have hxj := hx; have hbd := may_at hyes hx; (obtain ⟨a, ha⟩ : ∃ a, a = a2 := ⟨_, rfl⟩); (obtain ⟨b, hb⟩ : ∃ b, b = b2 := ⟨_, rfl⟩))); cbv)
        | ((with_reducible intro L' rows' hL hr'); (simp only [List.length_cons, List.length_nil, Nat.zero_add] at hL); (first
            | ((have hc : L + 2 ≤ cap2 := by omega); (have hN := Holds.inPlace2 hold (fun _ => rfl) hc hL hr'))
            | (have hN := Holds.anew2 hold (fun _ => rfl) hL hr')); cbv)
        | ((with_reducible apply strAt hold.bytes); (with_reducible intro s hs); cbv)
        | ((with_reducible intro v hv); (first | (rw [wrap_i64] at hv) | (rw [wrap_u8] at hv; first | have hva : v = a := by omega | have hvb : v = b := by omega) | skip); cbv)
        | ((with_reducible apply uAnd); (focus first | omega | (refine And.intro ?_ (And.intro ?_ (Or.inl rfl)) <;> omega) | (simp only [List.length_cons, List.length_nil]; omega) | kernel_rfl | (simp; done)); try cbv)
        | ((with_reducible apply and3) <;> (with_reducible intro h) <;> first | ((with_reducible exfalso); omega) | cbv)
        | ((with_reducible apply And.intro) <;> (with_reducible intro h) <;> (try simp only [List.length_cons, List.length_nil, Nat.zero_add] at h) <;> first | ((with_reducible exfalso); omega) | ((with_reducible exfalso); simp at h; done) | cbv)
        | ((with_reducible intro h); first | ((with_reducible exfalso); omega) | cbv)
      all_goals first
        | exact ⟨_, .inl ⟨hyes, rfl⟩, by rw [laid_nil (p := p) (by omega)]; rfl⟩
        | exact ⟨_, .inl ⟨hyes, rfl⟩, by rw [hs, laid_all (by omega)]; rfl⟩
        | (refine And.intro (And.intro (HoldAt.mk ?_) True.intro) (Head.mk ?_ ?_ ?_ ?_ ?_ ?_)
           · dsimp only
             have e4 : v.toNat = j.toNat + 1 := by omega
             refine ⟨⟨by omega, by omega, ?_⟩, by omega⟩
             rw [e4, laid_succ hxj]
             rw [hq0, hva, hvb, ha, hb]
             exact Holds.many (fun _ => rfl) rfl rfl
           all_goals cbv
           exact ⟨BlkLe.flat (fun h => h) hflat, BlkLe.flat (fun h => h) (by simp [AV.flatL, AV.flat]), trivial⟩)
    | sl L cap2 rows2 =>
      have hold : Holds uv (laid (p.take j.toNat)) L cap2 rows2 := hsh
      have hL0 := hold.len; have hL1 := hold.full; have hL2 := hold.le
      rw [laid_len, List.length_take] at hL0
      cbv
      repeat' first
        | with_reducible exact trivial
        | ((with_reducible apply ld hrows); (focus omega); rintro ⟨a2, b2⟩ hx; (rw [show v = j.toNat by omega] at hx); (first | (have e := hx.symm.trans hxj; simp only [Option.some.injEq, Instr.mk.injEq] at e; obtain ⟨ea, eb⟩ := e) | (have hxj := hx; have hbd := may_at hyes hx; (obtain ⟨a, ha⟩ : ∃ a, a = a2 := ⟨_, rfl⟩); (obtain ⟨b, hb⟩ : ∃ b, b = b2 := ⟨_, rfl⟩))); cbv)
        | ((with_reducible intro L' rows' hL hr'); (simp only [List.length_cons, List.length_nil, Nat.zero_add] at hL); (first
            | ((have hc : L + 2 ≤ cap2 := by omega); (have hN := Holds.inPlace2 hold (fun _ => rfl) hc hL hr'))
            | (have hN := Holds.anew2 hold (fun _ => rfl) hL hr')); cbv)
        | ((with_reducible apply strAt hold.bytes); (with_reducible intro s hs); cbv)
        | ((with_reducible intro v hv); (first | (rw [wrap_i64] at hv) | (rw [wrap_u8] at hv; first | have hva : v = a := by omega | have hvb : v = b := by omega) | skip); cbv)
        | ((with_reducible apply uAnd); (focus first | omega | (refine And.intro ?_ (And.intro ?_ (Or.inl rfl)) <;> omega) | (simp only [List.length_cons, List.length_nil]; omega) | kernel_rfl | (simp; done)); try cbv)
        | ((with_reducible apply and3) <;> (with_reducible intro h) <;> first | ((with_reducible exfalso); omega) | cbv)
        | ((with_reducible apply And.intro) <;> (with_reducible intro h) <;> (try simp only [List.length_cons, List.length_nil, Nat.zero_add] at h) <;> first | ((with_reducible exfalso); omega) | ((with_reducible exfalso); simp at h; done) | cbv)
        | ((with_reducible intro h); first | ((with_reducible exfalso); omega) | cbv)
      all_goals first
        | exact ⟨_, .inl ⟨hyes, rfl⟩, by rw [laid_nil (p := p) (by omega)]; rfl⟩
        | exact ⟨_, .inl ⟨hyes, rfl⟩, by rw [hs, laid_all (by omega)]; rfl⟩
        | (refine And.intro (And.intro (HoldAt.mk ?_) True.intro) (Head.mk ?_ ?_ ?_ ?_ ?_ ?_)
           · dsimp only
             have e4 : v.toNat = j.toNat + 1 := by omega
             refine ⟨⟨by omega, by omega, ?_⟩, by omega⟩
             rw [e4, laid_succ hxj]
             rw [hva, hvb, ha, hb] at hN
             exact hN
           all_goals cbv
           exact ⟨BlkLe.flat (fun h => h) hflat, BlkLe.flat (fun h => h) hN.flat, trivial⟩)

theorem putT {p : List Instr} {S : AV} {m : Mem} {c : Nat} {K : AV → Mem → Nat → Prop} (hS : Sl tv 2 m S p)
    (h1 : May p → ∀ s, s = u8s (laid p) → K (.tuple [.sym (.str s), .int .i64 0]) m c) (h2 : ¬ May p → K (.tuple [.str [], .int .i64 400]) m c) : CallT (fun _ => Try.prog) 8 [S] m c K := by
  refine CallT.sl1 (R0 := PutR p) (fun S => [S]) hS (fun _ => rfl) (fun l S' h => ⟨h, trivial⟩) ?_ ?_ ?_
  · rintro rfl
    refine CallS.enter X Try.func8 (by decide) ?_
    cbv
    with_reducible apply mayT (p := [])
    focus exact Sl.nil rfl rfl
    rotate_left
    · intro hno
      exact (hno ⟨Nat.zero_le _, allOk_nil _⟩).elim
    with_reducible intro hyes
    cbv
    with_reducible apply LoopT.one X
    cbv
    exact .inl ⟨(fun x h => by cases h), trivial⟩
  · intro rows n cap opn hA
    refine (putC p rows n cap opn hA).mono ?_
    rintro v m' c' ⟨h, w, hw, hv⟩
    exact ⟨h, hv ▸ hw⟩
  · rintro v (⟨hy, rfl⟩ | ⟨hy, rfl⟩)
    · exact ⟨_, rfl, h1 hy _ rfl⟩
    · exact ⟨.tuple [.str [], .int .i64 400], rfl, h2 hy⟩

theorem refPutT {p : List Instr} {S : AV} {m : Mem} {c : Nat} {K : AV → Mem → Nat → Prop} (hS : Sl tv 2 m S p)
    (h1 : May p → ∀ s, s = u8s (laid p) → K (.tuple [.sym (.str s), .int .i64 0]) m c) (h2 : ¬ May p → K (.tuple [.str [], .int .i64 400]) m c) : CallT (fun _ => Try.prog) 9 [S] m c K := by
  refine CallT.sl1 (R0 := PutR p) (fun S => [S]) hS (fun _ => rfl) (fun l S' h => ⟨h, trivial⟩) ?_ ?_ ?_
  · rintro rfl
    refine CallS.enter X Try.func9 (by decide) ?_
    cbv
    with_reducible apply refMayT (p := [])
    focus exact Sl.nil rfl rfl
    rotate_left
    · intro hno
      exact (hno ⟨Nat.zero_le _, allOk_nil _⟩).elim
    with_reducible intro hyes
    cbv
    with_reducible apply LoopT.one X
    cbv
    exact .inl ⟨(fun x h => by cases h), trivial⟩
  · intro rows n cap opn hA
    refine (refPutC p rows n cap opn hA).mono ?_
    rintro v m' c' ⟨h, w, hw, hv⟩
    exact ⟨h, hv ▸ hw⟩
  · rintro v (⟨hy, rfl⟩ | ⟨hy, rfl⟩)
    · exact ⟨_, rfl, h1 hy _ rfl⟩
    · exact ⟨.tuple [.str [], .int .i64 400], rfl, h2 hy⟩
end Go.Proofs.Yteedcepacicelaa.Cod
