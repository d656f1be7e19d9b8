/- The law Codes, without any program. -/
import Derived.Test.YteedcepacicelaaCodF
namespace Go.Proofs.Yteedcepacicelaa.Cod
open Go.Ab Base Kit
set_option linter.unusedVariables false
set_option linter.unusedSimpArgs false

set_option maxRecDepth 200000 in
set_option maxHeartbeats 40000000 in
theorem codesNil (s : List UInt8) (hs : s.length ≤ 1048576) :
    CallS Try.prog 3 [.nilslice, .sym (.str s)] (memB [] []) 0 fun v _ _ => v = .bool true := by
  obtain ⟨p, hp⟩ : ∃ p : List Instr, p = [] := ⟨_, rfl⟩
  have hpn : p.length = 0 := by rw [hp]; rfl
  refine CallS.enter X Try.func3 (by decide) ?_
  cbv
  repeat' first
    | with_reducible exact trivial
    | ((with_reducible apply lendInstrsNilT); (focus rfl); (with_reducible intro rows' hle); cbv)
    | ((with_reducible apply putT (p := p)); (focus exact Sl.rows0 rfl rfl hpn.symm (by omega) (by rw [hp]; exact hle.2.1)); all_goals first
        | ((with_reducible intro hy sp hsp); cbv)
        | ((with_reducible intro hno); cbv))
    | ((with_reducible apply refPutT (p := p)); (focus exact Sl.nil rfl hp); all_goals first
        | ((with_reducible intro hy2 sq hsq); first | exact absurd hy2 hno | ((have hss : sp = sq := by rw [hsp, hsq]); cbv))
        | ((with_reducible intro hno2); first | exact absurd hy hno2 | cbv))
    | ((with_reducible apply mayT (p := p)); (focus exact Sl.rows0 rfl rfl hpn.symm (by omega) (by rw [hp]; exact hle.2.1)); all_goals first
        | ((with_reducible intro hy2); first | exact absurd hy2 hno | exact absurd hy hy2 | cbv))
    | ((with_reducible apply refMayT (p := p)); (focus exact Sl.nil rfl hp); all_goals first
        | ((with_reducible intro hy2); first | exact absurd hy2 hno | exact absurd hy hy2 | cbv))
    | ((with_reducible apply getT (s := s)); (focus rfl); (focus omega); all_goals first
        | ((with_reducible intro hg L2 cap2 rows2 hh2); (have hl2 := hh2.len); (rw [got_len] at hl2); cbv)
        | ((with_reducible intro hg hg0); (have hh2 : got s (s.length / 2) = [] := (by rw [hg0]; rfl)); cbv)
        | ((with_reducible intro hgno); cbv))
    | ((with_reducible apply refGetT (s := s)); (focus rfl); (focus omega); all_goals first
        | ((with_reducible intro hg3 L3 cap3 rows3 hh3); first | exact absurd hg3 hgno | ((have hl3 := hh3.len); (rw [got_len] at hl3); cbv))
        | ((with_reducible intro hg3 hg30); first | exact absurd hg3 hgno | ((have hh3 : got s (s.length / 2) = [] := (by rw [hg30]; rfl)); cbv))
        | ((with_reducible intro hgno3); first | exact absurd hg hgno3 | cbv))
    | ((with_reducible apply keptInstrsNilT); (focus rfl); (focus rfl); (focus exact hle); (focus rfl); cbv)
    | ((with_reducible apply sameInstrsT (xs := got s (s.length / 2)) (ys := got s (s.length / 2))); (focus first | exact hh2.sl rfl rfl (by omega) | exact Sl.nil rfl hh2); (focus first | exact hh3.sl rfl rfl (by omega) | exact Sl.nil rfl hh3); all_goals first
        | ((with_reducible intro hne); (with_reducible exfalso); exact hne rfl)
        | ((with_reducible intro _); cbv))
    | ((with_reducible apply sameInstrsT (xs := []) (ys := [])); (focus exact Sl.nil rfl rfl); (focus exact Sl.nil rfl rfl); all_goals first
        | ((with_reducible intro hne); (with_reducible exfalso); exact hne rfl)
        | ((with_reducible intro _); cbv))
    | ((with_reducible intro v hv); (try rw [wrap_i64] at hv); cbv)
    | ((with_reducible apply uAnd); (focus first | kernel_rfl | omega); try cbv)
    | ((with_reducible apply And.intro) <;> (with_reducible intro h) <;> first | ((with_reducible exfalso); exact h hss) | ((with_reducible exfalso); omega) | cbv)
    | ((with_reducible apply awakeT); cbv)
    | ((with_reducible apply CallT.enter X Try.func12 (by decide)); cbv)
/-- The law, as the row wants it. -/
theorem codesL (xs : List Instr) (rows : List (List AV)) (n cap : Nat) (hl : n = xs.length) (hf : ∀ row ∈ rows, AV.flatL row = true) (ha : At tv xs rows) (hw : ∀ x ∈ xs, InstrIn x) (hb : n * 16 ≤ 140737488351232) (hre : rows = xs.map tv) (s : ByteArray) (hs : s.data.toList.length ≤ 1048576) :
    CallS Try.prog 3 [.sym (.slice 0 2 0 n cap false none), .sym (.str s.data.toList)] (memB [some (.cells false 2 rows)] []) 1 fun v _ _ => v = .bool true := codes xs rows n cap hl hf ha hb hre s.data.toList hs
theorem codesLNil (s : ByteArray) (hs : s.data.toList.length ≤ 1048576) :
    CallS Try.prog 3 [.nilslice, .sym (.str s.data.toList)] (memB [] []) 0 fun v _ _ => v = .bool true := codesNil s.data.toList hs
end Go.Proofs.Yteedcepacicelaa.Cod
