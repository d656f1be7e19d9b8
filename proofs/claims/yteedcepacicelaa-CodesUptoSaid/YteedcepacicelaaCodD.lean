/- code.Get and the document's GetCode: any bytes. -/
import Derived.Test.YteedcepacicelaaCodC
namespace Go.Proofs.Yteedcepacicelaa.Cod
open Go.Ab Base Kit
set_option linter.unusedVariables false
set_option linter.unusedSimpArgs false

/-- The first instructions that bytes hold. -/
def got (s : List UInt8) (j : Nat) : List Instr := (List.range j).map fun i => ⟨(s.getD (2 * i) 0).toNat, (s.getD (2 * i + 1) 0).toNat⟩
theorem got_len (s : List UInt8) (j : Nat) : (got s j).length = j := by simp [got]
theorem got_succ {s : List UInt8} {j : Nat} {x y : UInt8} {a b : Int} (hx : s[2 * j]? = some x) (hy : s[2 * j + 1]? = some y) (ha : a = Int.ofNat x.toNat) (hb : b = Int.ofNat y.toNat) : got s (j + 1) = got s j ++ [⟨a, b⟩] := by
  subst ha hb
  show _ = got s j ++ [⟨(x.toNat : Int), (y.toNat : Int)⟩]
  simp only [got, List.range_succ, List.map_append, List.map_cons, List.map_nil, List.getD_eq_getElem?_getD, hx, hy, Option.getD_some]
theorem ix_eq {s : List UInt8} {i j : Nat} {b : UInt8} (h : s[i]? = some b) (e : i = j) : s[j]? = some b := e ▸ h
def GetOk (s : List UInt8) : Prop := s.length % 2 = 0 ∧ May (got s (s.length / 2))
theorem getOk_not {s : List UInt8} {j : Nat} (h : 65 ≤ j) (h2 : 2 * j ≤ s.length) : ¬ GetOk s := fun hg => by
  have := hg.2.1
  rw [got_len] at this
  omega

set_option maxHeartbeats 4000000 in
theorem getC (s : List UInt8) (hs : s.length ≤ 140737488355328) :
    CallS Try.prog 10 [.sym (.str s)] (memB [] []) 0 fun v m' c' =>
      (¬ GetOk s ∧ v = .tuple [.nilslice, .int .i64 400] ∧ m' = memB [] [] ∧ c' = 0) ∨ (GetOk s ∧ s.length / 2 = 0 ∧ v = .tuple [.nilslice, .int .i64 0] ∧ m' = memB [] [] ∧ c' = 0) ∨
      (GetOk s ∧ ∃ L cap rows, Holds tv (got s (s.length / 2)) L cap rows ∧ v = .tuple [.sym (.slice 0 2 0 L cap true none), .int .i64 0] ∧ m' = memB [some (.cells true 2 rows)] [] ∧ c' = 1) := by
  refine CallS.ends rfl ?_
  refine CallS.enter X Try.func10 (by decide) ?_
  cbv
  with_reducible
   refine LoopT.invR X (α := Int × Sh) 40 [] (fun s => (oI (s.at 5), s.sh 4)) (fun s => [s.nm 4 0])
    (fun a => [some (.sym (.str s)), none, none, none, some (a.2.av 0 2), some (.sym (.int .i64 a.1))])
    (fun a => [a.2.blk 2])
    (fun a => ∃ j : Nat, (0 ≤ a.1 ∧ a.1.toNat = 1 + 2 * j) ∧ 2 * j ≤ s.length ∧ j ≤ 65 ∧ a.2.holds tv (got s j)) (fun a => s.length + 2 - a.1.toNat) ?_ ?_
  · cbv
    refine And.intro (HoldAt.mk ?_) (Head.mk ?_ ?_ ?_ ?_ ?_ ?_)
    · exact ⟨0, by decide, by simp, by decide, rfl⟩
    all_goals cbv
  · rintro ⟨i, sh⟩ ⟨j, j1, j2, j3, hsh⟩
    dsimp only at j1 hsh
    cases sh with
    | nil =>
      have hq0 : got s j = [] := hsh
      have hj0 := congrArg List.length hq0
      rw [got_len, List.length_nil] at hj0
      cbv
      repeat' first
        | with_reducible exact trivial
        | ((with_reducible apply mayT (p := got s j)); (focus exact Sl.nil rfl hq0); all_goals first | ((with_reducible intro hyes); cbv) | ((with_reducible intro hno); cbv))
        | ((with_reducible intro L' rows' hL hr'); (simp only [List.length_cons, List.length_nil, Nat.zero_add] at hL); (first
            | ((have hc : L + 1 ≤ cap2 := by omega); (have hN := Holds.inPlace (f := tv) (x := ⟨_, _⟩) hold rfl hc hL hr'))
            | (have hN := Holds.anew (f := tv) (x := ⟨_, _⟩) hold rfl hL hr')); cbv)
        | ((with_reducible apply uAnd); (focus omega); (with_reducible apply strIx); (focus omega); (first
            | ((with_reducible intro bx hb); (have hx : s[2 * j]? = some bx := ix_eq hb (by omega)); (have hbx := bx.toNat_lt); cbv)
            | ((with_reducible intro b_ hb); (have hy : s[2 * j + 1]? = some b_ := ix_eq hb (by omega)); (have hby := b_.toNat_lt); cbv)))
        | ((with_reducible intro v hv); (first | (rw [wrap_i64] at hv; first | have hw1 : v = Int.ofNat bx.toNat := (by omega : v = (bx.toNat : Int)) | have hw2 : v = Int.ofNat b_.toNat := (by omega : v = (b_.toNat : Int)) | skip) | (have hv2 := tmod2 hv (by omega)) | skip); cbv)
        | ((with_reducible apply uAnd); (focus first | omega | (refine And.intro ?_ (And.intro ?_ (Or.inl rfl)) <;> omega) | (simp only [List.length_cons, List.length_nil]; omega) | kernel_rfl | (simp; done)); try cbv)
        | ((with_reducible apply and3) <;> (with_reducible intro h) <;> first | ((with_reducible exfalso); omega) | cbv)
        | ((with_reducible apply And.intro) <;> (with_reducible intro h) <;> (try simp only [List.length_cons, List.length_nil, Nat.zero_add] at h) <;> first | ((with_reducible exfalso); omega) | ((with_reducible exfalso); simp at h; done) | cbv)
        | ((with_reducible intro h); first | ((with_reducible exfalso); omega) | cbv)
      all_goals first
        | (exfalso
           have h64 := hyes.1
           rw [got_len] at h64
           omega)
        | (refine ⟨[], [], .tuple [.nilslice, .int .i64 400], [], Head.mk rfl rfl ?_ ?_ ?_ ?_, .inl ⟨fun hg => ?_, rfl, rfl, rfl⟩⟩
           rotate_right
           · first
               | (have := hg.1; omega)
               | exact getOk_not (j := j) (by omega) (by omega) hg
               | exact hyes (by have := hg.2; rwa [show s.length / 2 = j by omega] at this)
           all_goals cbv)
        | (have h64 := hyes.1
           rw [got_len] at h64
           refine ⟨[], [], .tuple [.nilslice, .int .i64 0], [], Head.mk rfl rfl ?_ ?_ ?_ ?_, .inr (.inl ⟨⟨by omega, by rw [show s.length / 2 = j by omega]; exact hyes⟩, by omega, rfl, rfl, rfl⟩)⟩
           all_goals cbv)
        | (refine And.intro (And.intro (HoldAt.mk ?_) True.intro) (Head.mk ?_ ?_ ?_ ?_ ?_ ?_)
           · dsimp only
             refine ⟨⟨j + 1, by omega, by omega, by omega, ?_⟩, by omega⟩
             rw [got_succ hx hy hw1 hw2]
             rw [hq0]
             exact Holds.many (fun _ => rfl) rfl rfl
           all_goals cbv
           exact ⟨BlkLe.flat (fun h => h) (by simp [AV.flatL, AV.flat]), trivial⟩)
    | sl L cap2 rows2 =>
      have hold : Holds tv (got s j) L cap2 rows2 := hsh
      have hL0 := hold.len; have hL1 := hold.full; have hL2 := hold.le
      rw [got_len] at hL0
      cbv
      repeat' first
        | with_reducible exact trivial
        | ((with_reducible apply mayT (p := got s j)); (focus exact hold.sl rfl rfl (by omega)); all_goals first | ((with_reducible intro hyes); cbv) | ((with_reducible intro hno); cbv))
        | ((with_reducible intro L' rows' hL hr'); (simp only [List.length_cons, List.length_nil, Nat.zero_add] at hL); (first
            | ((have hc : L + 1 ≤ cap2 := by omega); (have hN := Holds.inPlace (f := tv) (x := ⟨_, _⟩) hold rfl hc hL hr'))
            | (have hN := Holds.anew (f := tv) (x := ⟨_, _⟩) hold rfl hL hr')); cbv)
        | ((with_reducible apply uAnd); (focus omega); (with_reducible apply strIx); (focus omega); (first
            | ((with_reducible intro bx hb); (have hx : s[2 * j]? = some bx := ix_eq hb (by omega)); (have hbx := bx.toNat_lt); cbv)
            | ((with_reducible intro b_ hb); (have hy : s[2 * j + 1]? = some b_ := ix_eq hb (by omega)); (have hby := b_.toNat_lt); cbv)))
        | ((with_reducible intro v hv); (first | (rw [wrap_i64] at hv; first | have hw1 : v = Int.ofNat bx.toNat := (by omega : v = (bx.toNat : Int)) | have hw2 : v = Int.ofNat b_.toNat := (by omega : v = (b_.toNat : Int)) | skip) | (have hv2 := tmod2 hv (by omega)) | skip); cbv)
        | ((with_reducible apply uAnd); (focus first | omega | (refine And.intro ?_ (And.intro ?_ (Or.inl rfl)) <;> omega) | (simp only [List.length_cons, List.length_nil]; omega) | kernel_rfl | (simp; done)); try cbv)
        | ((with_reducible apply and3) <;> (with_reducible intro h) <;> first | ((with_reducible exfalso); omega) | cbv)
        | ((with_reducible apply And.intro) <;> (with_reducible intro h) <;> (try simp only [List.length_cons, List.length_nil, Nat.zero_add] at h) <;> first | ((with_reducible exfalso); omega) | ((with_reducible exfalso); simp at h; done) | cbv)
        | ((with_reducible intro h); first | ((with_reducible exfalso); omega) | cbv)
      all_goals first
        | (exfalso
           have h64 := hyes.1
           rw [got_len] at h64
           omega)
        | (refine ⟨[], [], .tuple [.nilslice, .int .i64 400], [], Head.mk rfl rfl ?_ ?_ ?_ ?_, .inl ⟨fun hg => ?_, rfl, rfl, rfl⟩⟩
           rotate_right
           · first
               | (have := hg.1; omega)
               | exact getOk_not (j := j) (by omega) (by omega) hg
               | exact hyes (by have := hg.2; rwa [show s.length / 2 = j by omega] at this)
           all_goals cbv)
        | (have h64 := hyes.1
           rw [got_len] at h64
           refine ⟨[0], [], .tuple [.sym (.slice 0 2 0 L cap2 true none), .int .i64 0], [some (.cells true 2 rows2)], Head.mk rfl rfl ?_ ?_ ?_ ?_, .inr (.inr ⟨⟨by omega, by rw [show s.length / 2 = j by omega]; exact hyes⟩, L, cap2, rows2, (by rw [show s.length / 2 = j by omega]; exact hold), rfl, rfl, rfl⟩)⟩
           all_goals cbv
           exact ⟨BlkLe.flat (fun h => h) hold.flat, trivial⟩)
        | (refine And.intro (And.intro (HoldAt.mk ?_) True.intro) (Head.mk ?_ ?_ ?_ ?_ ?_ ?_)
           · dsimp only
             refine ⟨⟨j + 1, by omega, by omega, by omega, ?_⟩, by omega⟩
             rw [got_succ hx hy hw1 hw2]
             exact hN
           all_goals cbv
           exact ⟨BlkLe.flat (fun h => h) hN.flat, trivial⟩)

set_option maxHeartbeats 4000000 in
theorem refGetC (s : List UInt8) (hs : s.length ≤ 1048576) :
    CallS Try.prog 11 [.sym (.str s)] (memB [] []) 0 fun v m' c' =>
      (¬ GetOk s ∧ v = .tuple [.nilslice, .int .i64 400] ∧ m' = memB [] [] ∧ c' = 0) ∨ (GetOk s ∧ s.length / 2 = 0 ∧ v = .tuple [.nilslice, .int .i64 0] ∧ m' = memB [] [] ∧ c' = 0) ∨
      (GetOk s ∧ ∃ L cap rows, Holds tv (got s (s.length / 2)) L cap rows ∧ v = .tuple [.sym (.slice 0 2 0 L cap true none), .int .i64 0] ∧ m' = memB [some (.cells true 2 rows)] [] ∧ c' = 1) := by
  refine CallS.ends rfl ?_
  refine CallS.enter X Try.func11 (by decide) ?_
  cbv
  with_reducible
   refine LoopT.invR X (α := Int × Sh) 36 [] (fun s => (oI (s.at 5), s.sh 4)) (fun s => [s.nm 4 0])
    (fun a => [some (.sym (.str s)), none, none, none, some (a.2.av 0 2), some (.sym (.int .i64 a.1))])
    (fun a => [a.2.blk 2])
    (fun a => ∃ j : Nat, (0 ≤ a.1 ∧ a.1.toNat = 2 * j) ∧ 2 * j ≤ s.length ∧ a.2.holds tv (got s j)) (fun a => s.length + 2 - a.1.toNat) ?_ ?_
  · cbv
    refine And.intro (HoldAt.mk ?_) (Head.mk ?_ ?_ ?_ ?_ ?_ ?_)
    · exact ⟨0, by decide, by simp, rfl⟩
    all_goals cbv
  · rintro ⟨i, sh⟩ ⟨j, j1, j2, hsh⟩
    dsimp only at j1 hsh
    cases sh with
    | nil =>
      have hq0 : got s j = [] := hsh
      have hj0 := congrArg List.length hq0
      rw [got_len, List.length_nil] at hj0
      cbv
      repeat' first
        | with_reducible exact trivial
        | ((with_reducible apply refMayT (p := got s j)); (focus exact Sl.nil rfl hq0); all_goals first | ((with_reducible intro hyes); cbv) | ((with_reducible intro hno); cbv))
        | ((with_reducible intro L' rows' hL hr'); (simp only [List.length_cons, List.length_nil, Nat.zero_add] at hL); (first
            | ((have hc : L + 1 ≤ cap2 := by omega); (have hN := Holds.inPlace (f := tv) (x := ⟨_, _⟩) hold rfl hc hL hr'))
            | (have hN := Holds.anew (f := tv) (x := ⟨_, _⟩) hold rfl hL hr')); cbv)
        | ((with_reducible apply uAnd); (focus omega); (with_reducible apply strIx); (focus omega); (first
            | ((with_reducible intro bx hb); (have hx : s[2 * j]? = some bx := ix_eq hb (by omega)); (have hbx := bx.toNat_lt); cbv)
            | ((with_reducible intro b_ hb); (have hy : s[2 * j + 1]? = some b_ := ix_eq hb (by omega)); (have hby := b_.toNat_lt); cbv)))
        | ((with_reducible intro v hv); (first | (rw [wrap_i64] at hv; first | have hw1 : v = Int.ofNat bx.toNat := (by omega : v = (bx.toNat : Int)) | have hw2 : v = Int.ofNat b_.toNat := (by omega : v = (b_.toNat : Int)) | skip) | (have hv2 := tmod2 hv (by omega)) | skip); cbv)
        | ((with_reducible apply uAnd); (focus first | omega | (refine And.intro ?_ (And.intro ?_ (Or.inl rfl)) <;> omega) | (simp only [List.length_cons, List.length_nil]; omega) | kernel_rfl | (simp; done)); try cbv)
        | ((with_reducible apply and3) <;> (with_reducible intro h) <;> first | ((with_reducible exfalso); omega) | cbv)
        | ((with_reducible apply And.intro) <;> (with_reducible intro h) <;> (try simp only [List.length_cons, List.length_nil, Nat.zero_add] at h) <;> first | ((with_reducible exfalso); omega) | ((with_reducible exfalso); simp at h; done) | cbv)
        | ((with_reducible intro h); first | ((with_reducible exfalso); omega) | cbv)
      all_goals first
        | (exfalso
           have h64 := hyes.1
           rw [got_len] at h64
           omega)
        | (refine ⟨[], [], .tuple [.nilslice, .int .i64 400], [], Head.mk rfl rfl ?_ ?_ ?_ ?_, .inl ⟨fun hg => ?_, rfl, rfl, rfl⟩⟩
           rotate_right
           · first
               | (have := hg.1; omega)
               | exact getOk_not (j := j) (by omega) (by omega) hg
               | exact hyes (by have := hg.2; rwa [show s.length / 2 = j by omega] at this)
           all_goals cbv)
        | (have h64 := hyes.1
           rw [got_len] at h64
           refine ⟨[], [], .tuple [.nilslice, .int .i64 0], [], Head.mk rfl rfl ?_ ?_ ?_ ?_, .inr (.inl ⟨⟨by omega, by rw [show s.length / 2 = j by omega]; exact hyes⟩, by omega, rfl, rfl, rfl⟩)⟩
           all_goals cbv)
        | (refine And.intro (And.intro (HoldAt.mk ?_) True.intro) (Head.mk ?_ ?_ ?_ ?_ ?_ ?_)
           · dsimp only
             refine ⟨⟨j + 1, by omega, by omega, ?_⟩, by omega⟩
             rw [got_succ hx hy hw1 hw2]
             rw [hq0]
             exact Holds.many (fun _ => rfl) rfl rfl
           all_goals cbv
           exact ⟨BlkLe.flat (fun h => h) (by simp [AV.flatL, AV.flat]), trivial⟩)
    | sl L cap2 rows2 =>
      have hold : Holds tv (got s j) L cap2 rows2 := hsh
      have hL0 := hold.len; have hL1 := hold.full; have hL2 := hold.le
      rw [got_len] at hL0
      cbv
      repeat' first
        | with_reducible exact trivial
        | ((with_reducible apply refMayT (p := got s j)); (focus exact hold.sl rfl rfl (by omega)); all_goals first | ((with_reducible intro hyes); cbv) | ((with_reducible intro hno); cbv))
        | ((with_reducible intro L' rows' hL hr'); (simp only [List.length_cons, List.length_nil, Nat.zero_add] at hL); (first
            | ((have hc : L + 1 ≤ cap2 := by omega); (have hN := Holds.inPlace (f := tv) (x := ⟨_, _⟩) hold rfl hc hL hr'))
            | (have hN := Holds.anew (f := tv) (x := ⟨_, _⟩) hold rfl hL hr')); cbv)
        | ((with_reducible apply uAnd); (focus omega); (with_reducible apply strIx); (focus omega); (first
            | ((with_reducible intro bx hb); (have hx : s[2 * j]? = some bx := ix_eq hb (by omega)); (have hbx := bx.toNat_lt); cbv)
            | ((with_reducible intro b_ hb); (have hy : s[2 * j + 1]? = some b_ := ix_eq hb (by omega)); (have hby := b_.toNat_lt); cbv)))
        | ((with_reducible intro v hv); (first | (rw [wrap_i64] at hv; first | have hw1 : v = Int.ofNat bx.toNat := (by omega : v = (bx.toNat : Int)) | have hw2 : v = Int.ofNat b_.toNat := (by omega : v = (b_.toNat : Int)) | skip) | (have hv2 := tmod2 hv (by omega)) | skip); cbv)
        | ((with_reducible apply uAnd); (focus first | omega | (refine And.intro ?_ (And.intro ?_ (Or.inl rfl)) <;> omega) | (simp only [List.length_cons, List.length_nil]; omega) | kernel_rfl | (simp; done)); try cbv)
        | ((with_reducible apply and3) <;> (with_reducible intro h) <;> first | ((with_reducible exfalso); omega) | cbv)
        | ((with_reducible apply And.intro) <;> (with_reducible intro h) <;> (try simp only [List.length_cons, List.length_nil, Nat.zero_add] at h) <;> first | ((with_reducible exfalso); omega) | ((with_reducible exfalso); simp at h; done) | cbv)
        | ((with_reducible intro h); first | ((with_reducible exfalso); omega) | cbv)
      all_goals first
        | (exfalso
           have h64 := hyes.1
           rw [got_len] at h64
           omega)
        | (refine ⟨[], [], .tuple [.nilslice, .int .i64 400], [], Head.mk rfl rfl ?_ ?_ ?_ ?_, .inl ⟨fun hg => ?_, rfl, rfl, rfl⟩⟩
           rotate_right
           · first
               | (have := hg.1; omega)
               | exact getOk_not (j := j) (by omega) (by omega) hg
               | exact hyes (by have := hg.2; rwa [show s.length / 2 = j by omega] at this)
           all_goals cbv)
        | (have h64 := hyes.1
           rw [got_len] at h64
           refine ⟨[0], [], .tuple [.sym (.slice 0 2 0 L cap2 true none), .int .i64 0], [some (.cells true 2 rows2)], Head.mk rfl rfl ?_ ?_ ?_ ?_, .inr (.inr ⟨⟨by omega, by rw [show s.length / 2 = j by omega]; exact hyes⟩, L, cap2, rows2, (by rw [show s.length / 2 = j by omega]; exact hold), rfl, rfl, rfl⟩)⟩
           all_goals cbv
           exact ⟨BlkLe.flat (fun h => h) hold.flat, trivial⟩)
        | (refine And.intro (And.intro (HoldAt.mk ?_) True.intro) (Head.mk ?_ ?_ ?_ ?_ ?_ ?_)
           · dsimp only
             refine ⟨⟨j + 1, by omega, by omega, ?_⟩, by omega⟩
             rw [got_succ hx hy hw1 hw2]
             exact hN
           all_goals cbv
           exact ⟨BlkLe.flat (fun h => h) hN.flat, trivial⟩)

theorem getT {s : List UInt8} {A : AV} {m : Mem} {c : Nat} {K : AV → Mem → Nat → Prop} (hA : norm A = .str s) (hs : s.length ≤ 140737488355328) (h0 : ¬ GetOk s → K (.tuple [.nilslice, .int .i64 400]) m c) (h1 : GetOk s → s.length / 2 = 0 → K (.tuple [.nilslice, .int .i64 0]) m c)
    (h2 : GetOk s → ∀ L cap rows, Holds tv (got s (s.length / 2)) L cap rows → K (.tuple [.sym (.slice c 2 0 L cap true none), .int .i64 0]) (m.new c (.cells true 2 rows)) (c + 1)) : CallT (fun _ => Try.prog) 10 [A] m c K := by
  refine CallT.frameF [] (getC s hs) rfl ?_ trivial ⟨by simp, by simp⟩ ?_
  · simp only [leL, normL, norm, hA, renOL, renO]
  · rintro v m' c' (⟨h, rfl, rfl, rfl⟩ | ⟨h, e, rfl, rfl, rfl⟩ | ⟨h, L, cap, rows, hh, rfl, rfl, rfl⟩)
    · exact ⟨trivial, h0 h⟩
    · exact ⟨trivial, h1 h e⟩
    · exact ⟨⟨trivial, rfl, hh.flat⟩, h2 h L cap rows hh⟩

theorem refGetT {s : List UInt8} {A : AV} {m : Mem} {c : Nat} {K : AV → Mem → Nat → Prop} (hA : norm A = .str s) (hs : s.length ≤ 1048576) (h0 : ¬ GetOk s → K (.tuple [.nilslice, .int .i64 400]) m c) (h1 : GetOk s → s.length / 2 = 0 → K (.tuple [.nilslice, .int .i64 0]) m c)
    (h2 : GetOk s → ∀ L cap rows, Holds tv (got s (s.length / 2)) L cap rows → K (.tuple [.sym (.slice c 2 0 L cap true none), .int .i64 0]) (m.new c (.cells true 2 rows)) (c + 1)) : CallT (fun _ => Try.prog) 11 [A] m c K := by
  refine CallT.frameF [] (refGetC s hs) rfl ?_ trivial ⟨by simp, by simp⟩ ?_
  · simp only [leL, normL, norm, hA, renOL, renO]
  · rintro v m' c' (⟨h, rfl, rfl, rfl⟩ | ⟨h, e, rfl, rfl, rfl⟩ | ⟨h, L, cap, rows, hh, rfl, rfl, rfl⟩)
    · exact ⟨trivial, h0 h⟩
    · exact ⟨trivial, h1 h e⟩
    · exact ⟨⟨trivial, rfl, hh.flat⟩, h2 h L cap rows hh⟩
end Go.Proofs.Yteedcepacicelaa.Cod
