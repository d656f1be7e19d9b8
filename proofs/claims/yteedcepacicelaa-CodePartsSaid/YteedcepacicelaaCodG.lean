/- The law CodeParts. -/
import Derived.Test.YteedcepacicelaaCodO
namespace Go.Proofs.Yteedcepacicelaa.Cod
open Go.Ab Base Kit
set_option linter.unusedVariables false
set_option linter.unusedSimpArgs false

theorem may_more {p : List Instr} {b : Int} (h : May p) (hl : p.length ≠ 64) (hb : 0 ≤ b ∧ b ≤ 255) : May (p ++ [⟨1, b⟩]) := by
  have h1 := h.1
  refine ⟨by simp; omega, fun x hx => ?_⟩
  rcases List.mem_append.1 hx with hx | hx
  · have h2 := h.2 x hx
    unfold OkI at h2 ⊢
    simp only [List.length_append, List.length_cons, List.length_nil]
    omega
  · rw [List.mem_singleton.1 hx]
    unfold OkI
    dsimp only
    omega
theorem not_more {p : List Instr} {x : Instr} (hl : p.length = 64) : ¬ May (p ++ [x]) := fun h => by
  have := h.1
  simp at this
  omega
theorem parts_bytes {p : List Instr} {b : Int} (s t : List UInt8) (hs : s = u8s (laid p)) (ht : t = u8s (laid (p ++ [⟨1, b⟩]))) : t = s ++ [UInt8.ofNat (1 : Int).toNat, UInt8.ofNat b.toNat] := by
  rw [ht, hs, laid_append]
  simp only [u8s, List.map_append, laid, List.map_cons, List.map_nil]
theorem byte_at {p : List Instr} {j : Nat} {a b : Int} {s : List UInt8} (h : May p) (hs : s = u8s (laid p)) (hx : p[j]? = some ⟨a, b⟩) : ∃ x y : UInt8, s[2 * j]? = some x ∧ s[2 * j + 1]? = some y ∧ x.toNat = a.toNat ∧ y.toNat = b.toNat := by
  obtain ⟨e1, e2, e3⟩ := may_back h
  have hl := (List.getElem?_eq_some_iff.1 hx).1
  have h1 : 2 * j < s.length := by rw [hs, e1]; omega
  have h2 : 2 * j + 1 < s.length := by rw [hs, e1]; omega
  refine ⟨s[2 * j], s[2 * j + 1], List.getElem?_eq_getElem h1, List.getElem?_eq_getElem h2, ?_⟩
  have e4 : (got s (s.length / 2))[j]? = some ⟨a, b⟩ := by rw [hs, e3]; exact hx
  have hj : j < s.length / 2 := by omega
  simp only [got, List.getElem?_map, List.getElem?_range hj, Option.map_some, Option.some.injEq, Instr.mk.injEq, List.getD_eq_getElem?_getD, List.getElem?_eq_getElem h1, List.getElem?_eq_getElem h2, Option.getD_some] at e4
  omega

theorem slMore {p : List Instr} {v : Int} {A : AV} {m : Mem} {k L1 cap : Nat} {opn rw : Bool} {r1 : List (List AV)} (hA : norm A = .slice k 2 0 L1 cap opn none) (hk : m.get k = some (.cells rw 2 r1)) (hq : r1 = p.map tv ++ [[.int .i64 1, .sym (.int .i64 v)]]) (hL : L1 = p.length + 1) (hs : L1 ≤ 140737488355328) : Sl tv 2 m A (p ++ [⟨1, v⟩]) := by
  subst hq
  refine .at k 0 L1 cap opn rw none _ hA hk (by simp; omega) (.inl rfl) (fun j x hx => ?_) hs
  rw [Nat.zero_add]
  have hj : j < (p ++ [(⟨1, v⟩ : Instr)]).length := (List.getElem?_eq_some_iff.1 hx).1
  rw [List.length_append, List.length_singleton] at hj
  by_cases h : j < p.length
  · rw [List.getElem?_append_left h] at hx
    refine ⟨tv x, ?_, rfl⟩
    rw [List.getElem?_append_left (by simpa using h), List.getElem?_map, hx]; rfl
  · obtain rfl : j = p.length := by omega
    rw [List.getElem?_append_right (Nat.le_refl _), Nat.sub_self, List.getElem?_cons_zero, Option.some.injEq] at hx
    subst hx
    refine ⟨[.int .i64 1, .sym (.int .i64 v)], ?_, rfl⟩
    rw [List.getElem?_append_right (by simp), List.length_map, Nat.sub_self, List.getElem?_cons_zero]
theorem and255 {a v w : Int} (h : v = IntKind.wrap .i64 ((BitVec.ofInt (IntKind.bits .i64) a &&& BitVec.ofInt (IntKind.bits .i64) 255).toNat : Int)) (hw : w = IntKind.wrap .u8 a) : w = v := by
  have e : (BitVec.ofInt (IntKind.bits .i64) a &&& BitVec.ofInt (IntKind.bits .i64) 255).toNat = (a % 18446744073709551616).toNat % 256 := by
    have h1 : (BitVec.ofInt (IntKind.bits .i64) a).toNat = (a % 18446744073709551616).toNat := by
      rw [BitVec.toNat_ofInt]; rfl
    have h2 : (BitVec.ofInt (IntKind.bits .i64) 255).toNat = 2 ^ 8 - 1 := by kernel_rfl
    rw [BitVec.toNat_and, h1, h2, Nat.and_two_pow_sub_one_eq_mod]
  rw [e, wrap_i64] at h
  rw [wrap_u8] at hw
  omega

set_option maxRecDepth 200000 in
set_option maxHeartbeats 8000000 in
theorem codeParts (p : List Instr) (rows : List (List AV)) (n cap : Nat) (hn : n = p.length) (hflat : ∀ row ∈ rows, AV.flatL row = true) (hrows : At tv p rows) (hw : ∀ x ∈ p, InstrIn x) (hsz : n * 16 ≤ 140737488351232) (hre : rows = p.map tv) (arg : Int) :
    CallS Try.prog 6 [.sym (.slice 0 2 0 n cap false none), .sym (.int .i64 arg)] (memB [some (.cells false 2 rows)] []) 1 fun v _ _ => v = .bool true := by
  have hrl : rows.length = n := by rw [hre, List.length_map, hn]
  have hat : Hat tv p rows n := ⟨hn, by omega, hflat, hrows⟩
  refine CallS.enter X Try.func6 (by decide) ?_
  cbv
  repeat' first
    | with_reducible exact trivial
    | ((with_reducible apply putT (p := p)); (focus exact Sl.rows0 rfl rfl hn (by omega) hrows); all_goals first
        | ((with_reducible intro hy sp hsp); (have hpl : sp.length = 2 * p.length := (by rw [hsp]; exact (may_back hy).1)); cbv)
        | ((with_reducible intro hno); cbv))
    | ((with_reducible intro src hsrc); (have hsv : src = p.map tv := by (rw [hsrc, List.drop_zero, hre, List.take_of_length_le (by simp; omega)])); (have hsl : src.length = n := by rw [hsv, List.length_map, hn]); cbv)
    | ((with_reducible intro L1 r1 hL1 hr1); (have hr1l := congrArg List.length hr1); (simp only [List.length_append, List.length_take, List.length_drop, List.length_cons, List.length_nil] at hr1l hL1); (first
        | have hq : r1 = List.map tv p ++ [[.int .i64 1, .sym (.int .i64 v)]] := (by rw [hr1, List.eq_nil_of_length_eq_zero (show p.length = 0 by omega)]; rfl)
        | have hq : r1 = List.map tv p ++ [[.int .i64 1, .sym (.int .i64 v)]] := (by rw [hr1, hr0, List.drop_zero, List.take_of_length_le (by omega), hsv])
        | have hr0 : r1 = src := (by rw [hr1]; simp)); cbv)
    | ((with_reducible apply putT (p := p ++ [⟨1, v⟩])); (focus exact slMore rfl rfl hq (by omega) (by omega)); all_goals first
        | ((with_reducible intro hy2 sq hsq); cbv)
        | ((with_reducible intro hno2); cbv))
    | ((with_reducible intro v hv); (first | ((have hvb := and_bound (by omega) (by omega) hv); (have hva := hv)) | (rw [wrap_i64] at hv) | skip); cbv)
    | ((with_reducible apply uAnd); (focus first | omega | kernel_rfl | exact ⟨rfl, Nat.le_refl _, Or.inl rfl⟩ | (refine And.intro ?_ (And.intro ?_ (Or.inl rfl)) <;> omega) | (refine And.intro ?_ ?_ <;> omega) | (simp only [List.length_cons, List.length_nil]; omega)); try cbv)
    | ((with_reducible apply and3) <;> (with_reducible intro h) <;> first | ((with_reducible exfalso); omega) | cbv)
    | ((with_reducible apply And.intro) <;> (with_reducible intro h) <;> (try simp only [List.length_cons, List.length_nil, Nat.zero_add] at h) <;> (try (have hz := congrArg List.length h; rw [List.length_nil] at hz)) <;> (try (have hz2 := List.length_pos_iff.2 h)) <;> first | ((with_reducible exfalso); omega) | ((with_reducible exfalso); exact not_more (by omega) hy2) | ((with_reducible exfalso); exact hno2 (may_more hy (by omega) hvb)) | ((with_reducible exfalso); simp at h; done) | cbv)
    | ((with_reducible apply awakeT); cbv)
    | ((with_reducible apply CallT.enter X Try.func12 (by decide)); cbv)
    | ((with_reducible intro h); first | ((with_reducible exfalso); omega) | cbv)
  all_goals
    with_reducible
     refine LoopT.invR X (α := Int) 96 [] (fun s => oI (s.at 10)) (fun s => [])
      (fun a => [some (.sym (.slice 0 2 0 n cap false none)), some (.sym (.int .i64 arg)), none, none, none, some (.sym (.str sp)), none, none, some (.sym (.str sq)), none, some (.sym (.int .i64 a))])
      (fun a => [some (.cells false 2 rows)])
      (fun a => 0 ≤ a ∧ a.toNat ≤ n) (fun a => n - a.toNat) ?_ ?_
    · cbv
      refine And.intro (HoldAt.mk ?_) (Head.mk ?_ ?_ ?_ ?_ ?_ ?_)
      · exact ⟨by decide, by simp⟩
      all_goals cbv
      exact ⟨BlkLe.flat (fun h => h) hflat, trivial⟩
    · rintro j ⟨j1, j2⟩
      by_cases hjn : j.toNat < n
      · obtain ⟨⟨a, b⟩, hx⟩ : ∃ x, p[j.toNat]? = some x := ⟨_, List.getElem?_eq_getElem (by omega)⟩
        obtain ⟨x8, y8, hx8, hy8, ex, ey⟩ := byte_at hy hsp hx
        have hbd := may_at hy hx
        have hx9 := x8.toNat_lt
        have hy9 := y8.toNat_lt
        have h64 := hy.1
        cbv
        repeat' first
          | with_reducible exact trivial
          | ((with_reducible apply uAnd); (focus omega); (with_reducible apply strIx); (focus omega); (with_reducible intro bx hb); (first
              | have e1 : bx.toNat = x8.toNat := congrArg UInt8.toNat (Option.some.inj ((ix_eq hb (by omega)).symm.trans hx8))
              | have e2 : bx.toNat = y8.toNat := congrArg UInt8.toNat (Option.some.inj ((ix_eq hb (by omega)).symm.trans hy8))); cbv)
          | ((with_reducible apply ld hrows); (focus omega); rintro ⟨a2, b2⟩ hz; (rw [show v = j.toNat by omega] at hz); (have hzz := Option.some.inj (hz.symm.trans hx)); (rw [Instr.mk.injEq] at hzz); cbv)
          | ((with_reducible intro v hv); (first | (rw [wrap_i64] at hv) | skip); cbv)
          | ((with_reducible apply uAnd); (focus first | omega | kernel_rfl); try cbv)
          | ((with_reducible apply And.intro) <;> (with_reducible intro h) <;> first | ((with_reducible exfalso); omega) | cbv)
        all_goals
          refine And.intro (And.intro (HoldAt.mk ?_) True.intro) (Head.mk ?_ ?_ ?_ ?_ ?_ ?_)
          · exact ⟨⟨by omega, by omega⟩, by omega⟩
          all_goals cbv
          exact ⟨BlkLe.flat (fun h => h) hflat, trivial⟩
      · cbv
        repeat' first
          | with_reducible exact trivial
          | ((with_reducible intro v hv); (first | (have hw8 := and255 hva hv) | (rw [wrap_i64] at hv) | skip); cbv)
          | ((with_reducible apply uAnd); (focus first | omega | kernel_rfl | (simp only [List.length_cons, List.length_nil]; omega)); try cbv)
          | ((with_reducible apply And.intro) <;> (with_reducible intro h) <;> first | ((with_reducible exfalso); omega) | cbv)
        all_goals exact (h (by rw [parts_bytes sp sq hsp hsq, hv, ← hw8]; rfl)).elim
set_option maxRecDepth 200000 in
set_option maxHeartbeats 8000000 in
theorem codePartsNil (arg : Int) :
    CallS Try.prog 6 [.nilslice, .sym (.int .i64 arg)] (memB [] []) 0 fun v _ _ => v = .bool true := by
  obtain ⟨p, hp⟩ : ∃ p : List Instr, p = [] := ⟨_, rfl⟩
  have hpn : p.length = 0 := by rw [hp]; rfl
  have hmap : List.map tv p = [] := by rw [hp]; rfl
  refine CallS.enter X Try.func6 (by decide) ?_
  cbv
  repeat' first
    | with_reducible exact trivial
    | ((with_reducible apply putT (p := p)); (focus exact Sl.nil rfl hp); all_goals first
        | ((with_reducible intro hy sp hsp); (have hpl : sp.length = 2 * p.length := (by rw [hsp]; exact (may_back hy).1)); cbv)
        | ((with_reducible intro hno); cbv))
    | ((with_reducible intro L1 r1 hL1 hr1); (have hr1l := congrArg List.length hr1); (simp only [List.length_append, List.length_take, List.length_drop, List.length_cons, List.length_nil] at hr1l hL1); (have hq : r1 = List.map tv p ++ [[.int .i64 1, .sym (.int .i64 v)]] := (by rw [hr1, hmap]; rfl)); cbv)
    | ((with_reducible apply putT (p := p ++ [⟨1, v⟩])); (focus first | exact slMore rfl rfl hq (by omega) (by omega) | exact slMore (p := p) rfl rfl (by rw [hmap]; rfl) (by rw [hpn]) (by decide)); all_goals first
        | ((with_reducible intro hy2 sq hsq); cbv)
        | ((with_reducible intro hno2); cbv))
    | ((with_reducible intro v hv); (first | (have hw8 := and255 hva hv) | ((have hvb := and_bound (by omega) (by omega) hv); (have hva := hv)) | (rw [wrap_i64] at hv) | skip); cbv)
    | ((with_reducible apply uAnd); (focus first | omega | kernel_rfl | exact ⟨rfl, Nat.le_refl _, Or.inl rfl⟩ | (simp only [List.length_cons, List.length_nil]; omega)); try cbv)
    | ((with_reducible apply and3) <;> (with_reducible intro h) <;> first | ((with_reducible exfalso); omega) | cbv)
    | ((with_reducible apply And.intro) <;> (with_reducible intro h) <;> first | ((with_reducible exfalso); omega) | ((with_reducible exfalso); exact not_more (by omega) hy2) | ((with_reducible exfalso); exact hno2 (may_more hy (by omega) hvb)) | cbv)
    | ((with_reducible apply awakeT); cbv)
    | ((with_reducible apply CallT.enter X Try.func12 (by decide)); cbv)
    | ((with_reducible apply LoopT.one X); cbv)
  all_goals exact (h (by rw [parts_bytes sp sq hsp hsq, hv, ← hw8]; rfl)).elim
/-- The law, as the row wants it. -/
theorem codePartsL (xs : List Instr) (rows : List (List AV)) (n cap : Nat) (hl : n = xs.length) (hf : ∀ row ∈ rows, AV.flatL row = true) (ha : At tv xs rows) (hw : ∀ x ∈ xs, InstrIn x) (hb : n * 16 ≤ 140737488351232) (hre : rows = xs.map tv) (arg : Int) :
    CallS Try.prog 6 [.sym (.slice 0 2 0 n cap false none), .sym (.int .i64 arg)] (memB [some (.cells false 2 rows)] []) 1 fun v _ _ => v = .bool true := codeParts xs rows n cap hl hf ha hw hb hre arg
theorem codePartsLNil (arg : Int) : CallS Try.prog 6 [.nilslice, .sym (.int .i64 arg)] (memB [] []) 0 fun v _ _ => v = .bool true := codePartsNil arg
end Go.Proofs.Yteedcepacicelaa.Cod
