/- There and back; the law CodeBack. -/
import Derived.Test.YteedcepacicelaaCodD
namespace Go.Proofs.Yteedcepacicelaa.Cod
open Go.Ab Base Kit
set_option linter.unusedVariables false
set_option linter.unusedSimpArgs false

theorem got_cons (a b : UInt8) (s : List UInt8) (j : Nat) : got (a :: b :: s) (j + 1) = ⟨(a.toNat : Int), (b.toNat : Int)⟩ :: got s j := by
  simp only [got, List.range_succ_eq_map, List.map_cons, List.map_map]
  congr 1
theorem byte_back {x : Int} (h : 0 ≤ x) (h2 : x ≤ 255) : ((UInt8.ofNat x.toNat).toNat : Int) = x := by
  simp only [UInt8.toNat_ofNat']
  omega
theorem back1 : ∀ p : List Instr, (∀ x ∈ p, 0 ≤ x.op ∧ x.op ≤ 255 ∧ 0 ≤ x.arg ∧ x.arg ≤ 255) → got (u8s (laid p)) p.length = p
  | [], _ => rfl
  | ⟨a, b⟩ :: p, h => by
    have h1 := h ⟨a, b⟩ (by simp)
    have ih := back1 p fun x hx => h x (by simp [hx])
    simp only [laid, u8s, List.map_cons, List.length_cons] at ih ⊢
    rw [got_cons, ih, byte_back h1.1 h1.2.1, byte_back h1.2.2.1 h1.2.2.2]
theorem u8s_len (xs : List Int) : (u8s xs).length = xs.length := by simp [u8s]
theorem may_back {p : List Instr} (h : May p) : (u8s (laid p)).length = 2 * p.length ∧ GetOk (u8s (laid p)) ∧ got (u8s (laid p)) ((u8s (laid p)).length / 2) = p := by
  have hl : (u8s (laid p)).length = 2 * p.length := by rw [u8s_len, laid_len]
  have hb : got (u8s (laid p)) p.length = p := back1 p fun x hx => by
    have h1 := h.1
    have h2 := h.2 x hx
    unfold OkI at h2
    omega
  have hd : (u8s (laid p)).length / 2 = p.length := by omega
  refine ⟨hl, ⟨by omega, ?_⟩, ?_⟩
  · rw [hd, hb]; exact h
  · rw [hd, hb]
theorem back2 : ∀ s : List UInt8, s.length % 2 = 0 → u8s (laid (got s (s.length / 2))) = s
  | [], _ => rfl
  | [a], h => by simp at h
  | a :: b :: s, h => by
    simp only [List.length_cons] at h
    have ih := back2 s (by omega)
    have e : (a :: b :: s).length / 2 = s.length / 2 + 1 := by simp only [List.length_cons]; omega
    rw [e, got_cons]
    simp only [laid, u8s, List.map_cons] at ih ⊢
    rw [ih]
    simp

theorem getPutT {p : List Instr} {s : List UInt8} {A : AV} {m : Mem} {c : Nat} {K : AV → Mem → Nat → Prop} (hy : May p) (hs : s = u8s (laid p)) (hA : norm A = .str s) (h1 : p = [] → K (.tuple [.nilslice, .int .i64 0]) m c)
    (h2 : ∀ L cap rows, Holds tv p L cap rows → K (.tuple [.sym (.slice c 2 0 L cap true none), .int .i64 0]) (m.new c (.cells true 2 rows)) (c + 1)) : CallT (fun _ => Try.prog) 10 [A] m c K := by
  subst hs
  obtain ⟨e1, e2, e3⟩ := may_back hy
  have h64 := hy.1
  refine getT hA (by omega) (fun h => (h e2).elim) (fun _ h0 => h1 (List.eq_nil_of_length_eq_zero (by omega))) fun _ L cap rows hh => h2 L cap rows (by rw [e3] at hh; exact hh)

set_option maxRecDepth 200000 in
set_option maxHeartbeats 4000000 in
theorem codeBack (p : List Instr) (rows : List (List AV)) (n cap : Nat) (hn : n = p.length) (hflat : ∀ row ∈ rows, AV.flatL row = true) (hrows : At tv p rows) (hsz : n * 16 ≤ 140737488351232) (s : List UInt8) (hs : s.length ≤ 140737488351232) :
    CallS Try.prog 4 [.sym (.slice 0 2 0 n cap false none), .sym (.str s)] (memB [some (.cells false 2 rows)] []) 1 fun v _ _ => v = .bool true := by
  refine CallS.enter X Try.func4 (by decide) ?_
  cbv
  repeat' first
    | with_reducible exact trivial
    | ((with_reducible apply putT (p := p)); (focus exact Sl.rows0 rfl rfl hn (by omega) hrows); all_goals first
        | ((with_reducible intro hy sp hsp); (have hpl : sp.length = 2 * p.length := (by rw [hsp]; exact (may_back hy).1)); cbv)
        | ((with_reducible intro hno); cbv))
    | ((with_reducible apply mayT (p := p)); (focus exact Sl.rows0 rfl rfl hn (by omega) hrows); all_goals first
        | ((with_reducible intro hy2); first | exact absurd hy2 hno | exact absurd hy hy2 | cbv)
        | ((with_reducible intro hno2); first | exact absurd hy hno2 | cbv))
    | ((with_reducible apply getPutT hy hsp); (focus rfl); all_goals first
        | ((with_reducible intro L1 cap1 rows1 hh1); (have hl1 := hh1.len); cbv)
        | ((with_reducible intro hp0); cbv))
    | ((with_reducible apply getT (s := s)); (focus rfl); (focus omega); all_goals first
        | ((with_reducible intro hg L2 cap2 rows2 hh2); (have hl2 := hh2.len); (rw [got_len] at hl2); cbv)
        | ((with_reducible intro hg hg0); (have hh2 : got s (s.length / 2) = [] := (by rw [hg0]; rfl)); cbv)
        | ((with_reducible intro hgno); cbv))
    | ((with_reducible apply sameInstrsT (xs := p) (ys := p)); (focus first | exact hh1.sl rfl rfl (by omega) | exact Sl.nil rfl hp0); (focus exact Sl.rows0 rfl rfl hn (by omega) hrows); all_goals first
        | ((with_reducible intro hne); (with_reducible exfalso); exact hne rfl)
        | ((with_reducible intro _); cbv))
    | ((with_reducible apply putT (p := got s (s.length / 2))); (focus first | exact hh2.sl rfl rfl (by omega) | exact Sl.nil rfl hh2); all_goals first
        | ((with_reducible intro hy3 sq hsq); (have hss : sq = s := (by rw [hsq, back2 s hg.1])); cbv)
        | ((with_reducible intro hno3); exact absurd hg.2 hno3))
    | ((with_reducible intro v hv); (try rw [wrap_i64] at hv); cbv)
    | ((with_reducible apply uAnd); (focus first | kernel_rfl | omega); try cbv)
    | ((with_reducible apply And.intro) <;> (with_reducible intro h) <;> first | ((with_reducible exfalso); omega) | ((with_reducible exfalso); exact h hss) | cbv)
    | ((with_reducible apply awakeT); cbv)
    | ((with_reducible apply CallT.enter X Try.func12 (by decide)); cbv)
set_option maxRecDepth 200000 in
set_option maxHeartbeats 4000000 in
theorem codeBackNil (s : List UInt8) (hs : s.length ≤ 140737488351232) :
    CallS Try.prog 4 [.nilslice, .sym (.str s)] (memB [] []) 0 fun v _ _ => v = .bool true := by
  obtain ⟨p, hp⟩ : ∃ p : List Instr, p = [] := ⟨_, rfl⟩
  have hpn : p.length = 0 := by rw [hp]; rfl
  refine CallS.enter X Try.func4 (by decide) ?_
  cbv
  repeat' first
    | with_reducible exact trivial
    | ((with_reducible apply putT (p := got s (s.length / 2))); (focus first | exact hh2.sl rfl rfl (by omega) | exact Sl.nil rfl hh2); all_goals first
        | ((with_reducible intro hy3 sq hsq); (have hss : sq = s := (by rw [hsq, back2 s hg.1])); cbv)
        | ((with_reducible intro hno3); exact absurd hg.2 hno3))
    | ((with_reducible apply putT (p := p)); (focus exact Sl.nil rfl hp); all_goals first
        | ((with_reducible intro hy sp hsp); (have hpl : sp.length = 2 * p.length := (by rw [hsp]; exact (may_back hy).1)); cbv)
        | ((with_reducible intro hno); cbv))
    | ((with_reducible apply mayT (p := p)); (focus exact Sl.nil rfl hp); all_goals first
        | ((with_reducible intro hy2); first | exact absurd hy2 hno | exact absurd hy hy2 | cbv)
        | ((with_reducible intro hno2); first | exact absurd hy hno2 | cbv))
    | ((with_reducible apply getPutT hy hsp); (focus rfl); all_goals first
        | ((with_reducible intro L1 cap1 rows1 hh1); (have hl1 := hh1.len); cbv)
        | ((with_reducible intro hp0); cbv))
    | ((with_reducible apply getT (s := s)); (focus rfl); (focus omega); all_goals first
        | ((with_reducible intro hg L2 cap2 rows2 hh2); (have hl2 := hh2.len); (rw [got_len] at hl2); cbv)
        | ((with_reducible intro hg hg0); (have hh2 : got s (s.length / 2) = [] := (by rw [hg0]; rfl)); cbv)
        | ((with_reducible intro hgno); cbv))
    | ((with_reducible apply sameInstrsT (xs := p) (ys := p)); (focus first | exact hh1.sl rfl rfl (by omega) | exact Sl.nil rfl hp0); (focus exact Sl.nil rfl hp); all_goals first
        | ((with_reducible intro hne); (with_reducible exfalso); exact hne rfl)
        | ((with_reducible intro _); cbv))
    | ((with_reducible intro v hv); (try rw [wrap_i64] at hv); cbv)
    | ((with_reducible apply uAnd); (focus first | kernel_rfl | omega); try cbv)
    | ((with_reducible apply And.intro) <;> (with_reducible intro h) <;> first | ((with_reducible exfalso); omega) | ((with_reducible exfalso); exact h hss) | cbv)
    | ((with_reducible apply awakeT); cbv)
    | ((with_reducible apply CallT.enter X Try.func12 (by decide)); cbv)
end Go.Proofs.Yteedcepacicelaa.Cod
