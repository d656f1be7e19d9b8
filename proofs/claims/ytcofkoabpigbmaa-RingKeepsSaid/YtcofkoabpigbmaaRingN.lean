/- The law RingKeeps returns true at any input. -/
import Derived.Test.YtcofkoabpigbmaaRingE
import Derived.Test.YtcofkoabpigbmaaAb47
namespace Go.Proofs.Ytcofkoabpigbmaa.RingN
open Go.Ab Base Kit
set_option linter.unusedVariables false
set_option linter.unusedSimpArgs false
theorem tm_bound {q d v : Int} (h : v = q.tmod d) (hq : 0 ≤ q) (hd : 0 < d) : 0 ≤ v ∧ v < d := by
  subst h
  exact ⟨Int.tmod_nonneg d hq, Int.tmod_lt_of_pos q hd⟩
/-- The last ones of the first j. -/
def lastk (xs : List Int) (k : Int) (j : Nat) : List Int := (xs.take j).drop (j - k.toNat)
theorem lastk_len {xs : List Int} {k : Int} {j : Nat} (hj : j ≤ xs.length) : (lastk xs k j).length = min j k.toNat := by
  unfold lastk; simp; omega
theorem lastk_add {xs : List Int} {k x : Int} {j : Nat} (hx : xs[j]? = some x) (h : (lastk xs k j).length < k.toNat) : lastk xs k (j + 1) = lastk xs k j ++ [x] := by
  have hj : j < xs.length := (List.getElem?_eq_some_iff.1 hx).1
  rw [lastk_len (by omega)] at h
  unfold lastk
  rw [take_succ_at hx, show j + 1 - k.toNat = 0 by omega, show j - k.toNat = 0 by omega, List.drop_zero, List.drop_zero]
theorem lastk_turn {xs : List Int} {k x y : Int} {q2 : List Int} {j : Nat} (hk : 1 ≤ k) (hx : xs[j]? = some x) (hq : lastk xs k j = y :: q2) (h : (lastk xs k j).length = k.toNat) : lastk xs k (j + 1) = q2 ++ [x] ∧ xs[j - k.toNat]? = some y ∧ k.toNat ≤ j := by
  have hj : j < xs.length := (List.getElem?_eq_some_iff.1 hx).1
  rw [lastk_len (by omega)] at h
  have hkj : k.toNat ≤ j := by omega
  refine ⟨?_, ?_, hkj⟩
  · have h2 : lastk xs k (j + 1) = (xs.take j).drop (j - k.toNat + 1) ++ [x] := by
      unfold lastk
      rw [take_succ_at hx, show j + 1 - k.toNat = j - k.toNat + 1 by omega, List.drop_append_of_le_length (by simp; omega)]
    rw [h2]
    congr 1
    have h3 : (xs.take j).drop (j - k.toNat + 1) = ((xs.take j).drop (j - k.toNat)).drop 1 := by rw [List.drop_drop]
    rw [h3]
    change (lastk xs k j).drop 1 = q2
    rw [hq]; rfl
  · have h3 : (lastk xs k j)[0]? = some y := by rw [hq]; rfl
    unfold lastk at h3
    rw [List.getElem?_drop, Nat.add_zero, List.getElem?_take_of_lt (by omega)] at h3
    exact h3
theorem lastk_at {xs : List Int} {k : Int} (j : Nat) (x : Int) (h : (lastk xs k xs.length)[j]? = some x) : xs[xs.length - k.toNat + j]? = some x := by
  unfold lastk at h
  rw [List.take_of_length_le (Nat.le_refl _), List.getElem?_drop] at h
  exact h

set_option maxRecDepth 200000 in
set_option maxHeartbeats 4000000 in
theorem ringKeeps_s (xs : List Int) (rows : List (List AV)) (n cap : Nat) (hn : n = xs.length) (hflat : ∀ row ∈ rows, AV.flatL row = true) (hrows : At iv xs rows) (hw : ∀ x ∈ xs, inI x) (hsz : n * 8 ≤ 140737488351232) (hre : rows = xs.map iv) (hcap : n ≤ cap) (size : Int) :
    CallS Try.prog 4 [.sym (.int .i64 size), .sym (.slice 0 1 0 n cap false none)] (memB [some (.cells false 1 rows)] []) 1 fun v _ _ => v = .bool true := by
  obtain ⟨call, X, h17n, h17s, h18⟩ := ringCtxE2
  refine CallS.enter X Try.func4 (by decide) ?_
  cbv
  with_reducible apply awakeT
  cbv
  with_reducible intro u hu
  rw [wrap_u64] at hu
  cbv
  with_reducible apply uAnd
  focus omega
  cbv
  with_reducible intro r hr
  have hrb := tm_bound hr (by omega) (by omega)
  clear hr
  cbv
  with_reducible intro r2 hr2
  rw [wrap_i64] at hr2
  cbv
  with_reducible intro k hk
  rw [wrap_i64] at hk
  have hkb : 1 ≤ k ∧ k ≤ 64 := by omega
  clear hk hr2 hrb hu
  cbv
  with_reducible apply newT k
  focus rfl
  rotate_left
  · intro hb; omega
  with_reducible intro hb rowsA RA aA fA mA hRA hQA
  cbv
  repeat' first
    | ((with_reducible apply CallT.enter X Try.func9 (by decide)); cbv)
    | ((with_reducible apply uAnd); (focus first | kernel_rfl | omega); try cbv)
  with_reducible
   refine LoopT.invR X (α := Int × List (List AV)) 73 [] (fun s => (oI (s.at 8), s.rows (oP (s.at 6)))) (fun s => [oP (s.at 6)])
    (fun a => [none, some (.sym (.slice 0 1 0 n cap false none)), none, none, none, some (.sym (.int .i64 k)), some (.ptr 1 67 0 0), none, some (.sym (.int .i64 a.1))])
    (fun a => [some (.cells false 1 rows), some (.cells true 67 a.2)])
    (fun a => (0 ≤ a.1 ∧ a.1.toNat ≤ n) ∧ ∃ R ar f mm, RR a.2 R ar k f mm ∧ QQ ar k f mm (lastk xs k a.1.toNat)) (fun a => n - a.1.toNat) ?_ ?_
  · cbv
    refine And.intro (HoldAt.mk ?_) (Head.mk ?_ ?_ ?_ ?_ ?_ ?_)
    · refine ⟨⟨Int.le_refl 0, Nat.zero_le _⟩, _, _, _, _, hRA, ?_⟩
      dsimp only
      rw [show (0 : Int).toNat = 0 from rfl, show lastk xs k 0 = [] by simp [lastk]]
      exact hQA
    all_goals cbv
    exact ⟨BlkLe.flat (fun h => h) hflat, BlkLe.flat (fun h => h) hRA.flats, trivial⟩
  · clear hRA hQA
    rintro ⟨j, rA⟩ ⟨⟨j1, j2⟩, RA, aA, fA, mA, hRA, hQA⟩
    dsimp only at j1 j2 hRA hQA
    obtain ⟨q, hq⟩ : ∃ q, q = lastk xs k j.toNat := ⟨_, rfl⟩
    have hql := lastk_len (xs := xs) (k := k) (j := j.toNat) (by omega)
    rw [← hq] at hQA hql
    have hm1 := hQA.m1; have hm2 := hQA.m2; have hle := hQA.le
    cbv
    repeat' first
      | with_reducible exact trivial
      | ((with_reducible apply pushT x hRA hQA); (focus rfl); (focus rfl); (focus rfl); (focus decide); all_goals first
          | ((with_reducible intro he y q2 hq2 rowsA' RA' aA' fA' mA' hRA hQA); (have ht := lastk_turn hkb.1 hx (hq.symm.trans hq2) (by rw [← hq]; omega)); (have hkj := ht.2.2); cbv)
          | ((with_reducible intro hlt rowsA' RA' aA' fA' mA' hRA hQA); (have ha := lastk_add (k := k) hx (by rw [← hq]; omega)); cbv))
      | ((with_reducible apply ld hrows); (focus omega); intro z hz; (first
          | ((rw [show v = j.toNat by omega] at hz); (first | (have e := hz.symm.trans hx; cases e) | (have hx := hz; obtain ⟨x, hxz⟩ : ∃ x, x = z := ⟨_, rfl⟩; subst hxz)))
          | ((rw [show v = j.toNat - k.toNat by omega] at hz); (have hyz : y = z := Option.some.inj (ht.2.1.symm.trans hz)))); cbv)
      | ((with_reducible intro v hv); (try rw [wrap_i64] at hv); cbv)
      | ((with_reducible apply uAnd); (focus first | kernel_rfl | omega); try cbv)
      | ((with_reducible apply And.intro) <;> (with_reducible intro h) <;> first | ((with_reducible exfalso); omega) | ((with_reducible exfalso); exact h hyz) | cbv)
    all_goals first
      | (refine And.intro (And.intro (HoldAt.mk ?_) True.intro) (Head.mk ?_ ?_ ?_ ?_ ?_ ?_)
         · dsimp only
           refine ⟨⟨⟨by omega, by omega⟩, _, _, _, _, hRA, ?_⟩, by omega⟩
           rw [show v.toNat = j.toNat + 1 by omega]
           first
             | (rw [ht.1]; exact hQA)
             | (rw [ha, ← hq]; exact hQA)
         all_goals cbv
         exact ⟨BlkLe.flat (fun h => h) hflat, BlkLe.flat (fun h => h) hRA.flats, trivial⟩)
      | skip
    have hjn : j.toNat = xs.length := by omega
    rw [hjn] at hq
    have hat : ∀ (i : Nat) (x : Int), q[i]? = some x → xs[n - k.toNat + i]? = some x := fun i x hx => by rw [hq] at hx; rw [hn]; exact lastk_at i x hx
    have hslc : ∀ (m : Mem) (A : AV) (o L cp : Nat) (rw_ : Bool), norm A = .slice 0 1 o L cp false none → m.get 0 = some (.cells rw_ 1 rows) → o = n - k.toNat → L = q.length → Sl iv 1 m A q := fun m A o L cp rw_ hA hm ho hL =>
      Sl.at 0 o L cp false rw_ none rows hA hm hL (.inl rfl) (fun i x hx => ⟨iv x, by rw [ho]; exact hrows _ _ (hat i x hx), rfl⟩) (by omega)
    rcases Classical.em (q = []) with hq0 | hq0
    · have hq1 : q.length = 0 := by rw [hq0]; rfl
      rw [h17n hq0 hRA hQA]; rotate_left; (focus rfl); (focus rfl); (focus decide)
      cbv
      repeat' first
        | with_reducible exact trivial
        | ((rw [h18 (xs := q) (Sl.nil rfl hq0) (by first | exact hslc _ _ _ _ _ _ rfl rfl (by omega) (by omega))]); cbv)
        | ((with_reducible intro v hv); (try rw [wrap_i64] at hv); cbv)
        | ((with_reducible apply uAnd); (focus first | kernel_rfl | omega); try cbv)
        | ((with_reducible apply and3) <;> (with_reducible intro h) <;> first | ((with_reducible exfalso); omega) | cbv)
        | ((with_reducible apply And.intro) <;> (with_reducible intro h) <;> first | ((with_reducible exfalso); omega) | ((with_reducible exfalso); cases h; done) | cbv)
        | ((with_reducible intro hlc i1 len1 cap1 hi1 hl1 hc1); cbv)
        | ((with_reducible intro h); first | ((with_reducible exfalso); omega) | cbv)
    · obtain ⟨Lq, hLq⟩ : ∃ L, L = q.length := ⟨_, rfl⟩
      obtain ⟨rq, hrq⟩ : ∃ r, r = q.map iv := ⟨_, rfl⟩
      have haq : At iv q rq := by rw [hrq]; exact At.map iv q
      rw [h17s hq0 hLq hrq hRA hQA]; rotate_left; (focus rfl); (focus rfl); (focus decide)
      cbv
      repeat' first
        | with_reducible exact trivial
        | ((rw [h18 (xs := q) (Sl.rows0 rfl rfl hLq (by omega) haq) (by first | exact hslc _ _ _ _ _ _ rfl rfl (by omega) (by omega))]); cbv)
        | ((with_reducible intro v hv); (try rw [wrap_i64] at hv); cbv)
        | ((with_reducible apply uAnd); (focus first | kernel_rfl | omega); try cbv)
        | ((with_reducible apply and3) <;> (with_reducible intro h) <;> first | ((with_reducible exfalso); omega) | cbv)
        | ((with_reducible apply And.intro) <;> (with_reducible intro h) <;> first | ((with_reducible exfalso); omega) | ((with_reducible exfalso); cases h; done) | cbv)
        | ((with_reducible intro hlc i1 len1 cap1 hi1 hl1 hc1); cbv)
        | ((with_reducible intro h); first | ((with_reducible exfalso); omega) | cbv)

set_option maxRecDepth 200000 in
set_option maxHeartbeats 4000000 in
theorem ringKeeps_n (size : Int) : CallS Try.prog 4 [.sym (.int .i64 size), .nilslice] (memB [] []) 0 fun v _ _ => v = .bool true := by
  obtain ⟨call, X, h17n, h17s, h18⟩ := ringCtxE2
  refine CallS.enter X Try.func4 (by decide) ?_
  cbv
  with_reducible apply awakeT
  cbv
  with_reducible intro u hu
  rw [wrap_u64] at hu
  cbv
  with_reducible apply uAnd
  focus omega
  cbv
  with_reducible intro r hr
  have hrb := tm_bound hr (by omega) (by omega)
  clear hr
  cbv
  with_reducible intro r2 hr2
  rw [wrap_i64] at hr2
  cbv
  with_reducible intro k hk
  rw [wrap_i64] at hk
  have hkb : 1 ≤ k ∧ k ≤ 64 := by omega
  clear hk hr2 hrb hu
  cbv
  with_reducible apply newT k
  focus rfl
  rotate_left
  · intro hb; omega
  with_reducible intro hb rowsA RA aA fA mA hRA hQA
  cbv
  repeat' first
    | with_reducible exact trivial
    | ((with_reducible apply CallT.enter X Try.func9 (by decide)); cbv)
    | ((with_reducible apply LoopT.one X); cbv)
    | ((with_reducible apply uAnd); (focus first | kernel_rfl | omega); try cbv)
  rw [h17n rfl hRA hQA]; rotate_left; (focus rfl); (focus rfl); (focus decide)
  cbv
  repeat' first
    | with_reducible exact trivial
    | ((rw [h18 (xs := []) (Sl.nil rfl rfl) (Sl.nil rfl rfl)]); cbv)
    | ((with_reducible intro v hv); (try rw [wrap_i64] at hv); cbv)
    | ((with_reducible apply uAnd); (focus first | kernel_rfl | omega); try cbv)
    | ((with_reducible apply and3) <;> (with_reducible intro h) <;> first | ((with_reducible exfalso); omega) | cbv)
    | ((with_reducible apply And.intro) <;> (with_reducible intro h) <;> first | ((with_reducible exfalso); omega) | ((with_reducible exfalso); cases h; done) | cbv)
    | ((with_reducible apply symF); (focus rfl); cbv)
    | ((with_reducible intro h); first | ((with_reducible exfalso); omega) | cbv)
end Go.Proofs.Ytcofkoabpigbmaa.RingN
