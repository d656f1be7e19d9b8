/- Regions, code, calls: what the abstract machine comes to, the model comes to. -/
import Derived.Test.YtndbcpfbddhonaaAb19
namespace Go.Ab
set_option linter.unusedSimpArgs false
set_option linter.unusedVariables false

theorem countP_lt {p p' : Nat → Bool} {i : Nat} (hp : p i = true) (hp' : p' i = false) (hle : ∀ j, p' j = true → p j = true) : ∀ l : List Nat, i ∈ l → l.countP p' < l.countP p
  | [], h => by simp at h
  | j :: l, h => by
    have hle' : l.countP p' ≤ l.countP p := List.countP_mono_left fun x _ hx => hle x hx
    rw [List.countP_cons, List.countP_cons]
    by_cases e : i = j
    · subst e; rw [hp, hp']; simp; omega
    · have ih := countP_lt hp hp' hle l (by simp at h; exact h.resolve_left e)
      have : (if p' j = true then 1 else 0) ≤ (if p j = true then 1 else 0) := by
        cases h1 : p' j with
        | false => simp
        | true => rw [hle j h1]; simp
      omega

section
variable {P : Program} {call : CallA} {ops : Array Oper} {base : Nat} {S : Nat → St} {ts : List Tc}

theorem t_log (hc : AbsOK call) (hT : TRun P call ops base S ts) {lo : Nat} (hlo : lo ≤ base) (hlt : ∀ i, i ≤ ops.size → lo ≤ (S i).c) : ∀ b, b ≤ ops.size → ∃ δ, (S b).m.log = δ ++ (S 0).m.log ∧ ∀ q, q < lo → q ∉ δ → (S b).m.get q = (S 0).m.get q
  | 0, _ => ⟨[], rfl, fun _ _ _ => rfl⟩
  | b + 1, hb => by
    obtain ⟨δ, e, f⟩ := t_log hc hT hlo hlt b (by omega)
    obtain ⟨δ', e', f'⟩ := (oneOp_fr hc (hT.step b (by omega))).logx
    refine ⟨δ' ++ δ, by rw [e', e, List.append_assoc], fun q hq hd => ?_⟩
    rw [List.mem_append, not_or] at hd
    rw [f' q (by have := hlt b (by omega); omega) (by omega) hd.1, f q hq hd.2]

/-- All of them done: the text's end. -/
theorem d_done (hc : AbsOK call) (hT : TRun P call ops base S ts) {lo p : Nat} (hlo : lo ≤ base) (hB : TBase ops base S) {μ0 μ : Mu} {w0 w : World} {dfs : List Deferred} {L : Nat → Bool} {cur : Nat → Option AV} {a : Act} (hI : DInv P ops base lo S ts μ0 w0 dfs L p μ cur a w)
    (hall : ∀ i, i < ops.size → L i = true) : StR μ (S ops.size) (fun _ => False) a w ∧ Goes lo μ0 (S 0) w0 μ (S ops.size) w := by
  have hp : p = ops.size := by
    rcases hI.pX with h | ⟨h1, h2, h3⟩
    · exact h
    · rw [hall p h1] at h3; cases h3
  subst hp
  have hmem : memOf ops base S L ops.size = (S ops.size).m.get := by
    funext q
    simp only [memOf]
    by_cases hres : base ≤ q ∧ q < base + ops.size
    · rw [if_pos hres, hall _ (by omega), if_pos rfl, if_pos (by omega)]
    · rw [if_neg hres]
  have hcur : ∀ τ, cur τ = (S ops.size).sl.getD τ none := by
    intro τ
    rcases hI.curO τ with ⟨h1, h2⟩ | ⟨j, h1, h2, h3, h4⟩
    · rw [h1]; symm
      exact t_sl hc hT ops.size (Nat.zero_le _) (Nat.le_refl _) fun x _ hx hd => h2 x (hall x hx) hd
    · rw [h4]; symm
      exact t_sl hc hT ops.size (hI.lsz j h1) (Nat.le_refl _) fun x hx1 hx hd => by have := h3 x (hall x hx) hd; omega
  refine ⟨⟨⟨by rw [t_len hc hT _ (Nat.le_refl _)]; exact hI.tsz, fun t v hv => hI.tm t v (by rw [hcur t]; exact hv)⟩, by rw [← hmem]; exact hI.sim, hI.fresh, fun _ h => h.elim⟩,
    ⟨hI.le, hI.same, t_mono hc hT (Nat.zero_le _) (Nat.le_refl _), by rw [← hmem]; exact hI.step, t_log hc hT hlo (fun i hi => by have := t_mono hc hT (Nat.zero_le i) hi; have := hB.lt; omega) ops.size (Nat.le_refl _)⟩⟩

theorem any_ok (hcall : CallOK P call) (hc : AbsOK call) (hT : TRun P call ops base S ts) (hB : TBase ops base S) (hD : DOk ops ts) {lo : Nat} (hlo : lo ≤ base) {μ0 : Mu} {w0 : World} {dfs : List Deferred} {Q : Exit → Act → World → Prop}
    (hq : ∀ μ a w, StR μ (S ops.size) (fun _ => False) a w → Goes lo μ0 (S 0) w0 μ (S ops.size) w → a.defers = dfs → Q .normal a w) :
    ∀ (fuel : Nat) (listed : Array Bool) (p : Nat) (μ : Mu) (cur : Nat → Option AV) (a : Act) (w : World), listed.size = ops.size → (List.range ops.size).countP (fun i => !listed.getD i false) ≤ fuel →
      DInv P ops base lo S ts μ0 w0 dfs (fun i => listed.getD i false) p μ cur a w → wpAny P .any ops Q fuel listed a w := by
  intro fuel
  induction fuel with
  | zero =>
    intro listed p μ cur a w hsz hcnt hI
    have hall : ∀ i, i < ops.size → listed.getD i false = true := by
      intro i hi
      have h0 : (List.range ops.size).countP (fun i => !listed.getD i false) = 0 := by omega
      have := List.countP_eq_zero.1 h0 i (List.mem_range.2 hi)
      simpa using this
    obtain ⟨h1, h2⟩ := d_done hc hT hlo hB hI hall
    refine ⟨?_, hq μ a w h1 h2 hI.defers⟩
    cases hr : Region.ready .any ops listed with
    | nil => rfl
    | cons x xs =>
      have hx : x ∈ Region.ready .any ops listed := by rw [hr]; simp
      rw [mem_ready] at hx
      obtain ⟨hx1, o, ho, _⟩ := hx
      have hxs : x < ops.size := by
        obtain ⟨h, _⟩ := Array.getElem?_eq_some_iff.1 ho
        exact h
      have h1 := hall x hxs
      rw [Array.getD_eq_getD_getElem?, Array.getElem?_eq_getElem (by omega)] at h1 hx1
      simp only [Option.getD_some] at h1 hx1
      rw [h1] at hx1; cases hx1
  | succ fuel ih =>
    intro listed p μ cur a w hsz hcnt hI
    refine ⟨fun hr => ?_, fun i hi => ?_⟩
    · -- nothing is ready: all are done
      have hall : ∀ i, i < ops.size → listed.getD i false = true := by
        intro i
        induction i using Nat.strongRecOn with
        | _ i ihi =>
          intro hi
          cases hL : listed.getD i false with
          | true => rfl
          | false =>
            exfalso
            have : i ∈ Region.ready .any ops listed := by
              rw [mem_ready]
              have ho : ops[i]? = some ops[i] := Array.getElem?_eq_getElem hi
              refine ⟨?_, ops[i], ho, fun e he hb => ?_⟩
              · rw [Array.getD_eq_getD_getElem?, Array.getElem?_eq_getElem (by omega)] at hL ⊢
                simpa using hL
              · exact ihi e.on (hD.edge i _ e ho (Array.mem_toList_iff.2 he) hb) (by have := hD.edge i _ e ho (Array.mem_toList_iff.2 he) hb; omega)
            rw [hr] at this; cases this
      obtain ⟨h1, h2⟩ := d_done hc hT hlo hB hI hall
      exact hq μ a w h1 h2 hI.defers
    · rw [mem_ready] at hi
      obtain ⟨hi1, o, ho, hr⟩ := hi
      have hi : i < ops.size := by
        obtain ⟨h, _⟩ := Array.getElem?_eq_some_iff.1 ho
        exact h
      have hL : listed.getD i false = false := by
        rw [Array.getD_eq_getD_getElem?, Array.getElem?_eq_getElem (by omega)] at hi1 ⊢
        simpa using hi1
      have hL' : ∀ j, (listed.setIfInBounds i true).getD j false = if j = i then true else listed.getD j false := by
        intro j
        by_cases e : j = i
        · subst e
          have : j < listed.size := by omega
          simp [Array.getD, this]
        · rw [if_neg e]; exact getD_set_ne false (fun h => e h.symm)
      refine d_step hcall hc hT hB hD hlo hI ho hL (fun e he hb => hr e (Array.mem_toList_iff.1 he) hb) (L' := fun j => (listed.setIfInBounds i true).getD j false) hL' fun p' μ' cur' a' w' hI' => ?_
      refine ih _ p' μ' cur' a' w' (by simpa using hsz) ?_ hI'
      have := countP_lt (p := fun i => !listed.getD i false) (p' := fun j => !(listed.setIfInBounds i true).getD j false) (i := i) (by simp [hL]) (by rw [hL']; simp) (fun j hj => by
        rw [hL'] at hj
        by_cases e : j = i
        · rw [if_pos e] at hj; cases hj
        · rw [if_neg e] at hj; exact hj) (List.range ops.size) (List.mem_range.2 hi)
      omega

theorem region_ok (hm : P.follows .mixedOrders = true) (hcall : CallOK P call) (hc : AbsOK call) {id lo : Nat} {draw : Bool} {s s' : St} {μ : Mu} {a : Act} {w : World} (hR : StR μ s (fun _ => False) a w) (hlo : lo ≤ s.c) (h : aRegion P call ops draw s = some s') {Q : Exit → Act → World → Prop}
    (hq : ∀ μ' a' w', StR μ' s' (fun _ => False) a' w' → Goes lo μ s w μ' s' w' → a'.defers = a.defers → Q .normal a' w') : (Code.region id ops draw).wp P Q a w := by
  have hfree : ∀ i, i < ops.size → μ (s.c + i) = none ∧ s.c + i < s.c + ops.size := fun i hi => ⟨hR.fresh _ (by omega), by omega⟩
  have hgo : ∀ μ' s1 w', Goes lo μ ⟨s.sl, s.m, s.c + ops.size⟩ w μ' s1 w' → Goes lo μ s w μ' s1 w' := fun μ' s1 w' g => ⟨g.le, g.same, (Nat.le_trans (Nat.le_add_right _ _) g.cle), g.step, g.log⟩
  unfold aRegion at h
  split at h
  · rename_i hd
    have hd' : draw = true := by simpa using hd
    subst hd'
    split at h
    · rename_i s1 ts1 h1
      split at h
      · rename_i hok
        cases h
        obtain ⟨S, hS0, hSn, hT⟩ := trun_of h1
        have hget : ∀ q, s.c ≤ q → s.m.get q = none := by
          intro q hq
          cases hg : s.m.get q with
          | none => rfl
          | some b => obtain ⟨pl, o, hp, _⟩ := hR.sim.blk q b hg; rw [hR.fresh q hq] at hp; cases hp
        have hB : TBase ops s.c S := ⟨by rw [hS0]; exact Nat.le_refl _, fun q hq => by rw [hS0] at hq ⊢; exact hget q (by dsimp only at hq; omega), fun i hi => by rw [hS0]; exact hget _ (by omega)⟩
        have hD := dok_of hok
        refine wp_region_any hm ?_
        obtain ⟨p, h2, h3, h4, h5⟩ := next_x ts1 ops.size (fun _ => false) 0 (Nat.zero_le _)
        have hcp : ∀ x, x ≤ p → (S x).c = (S 0).c := by
          intro x
          induction x with
          | zero => intro _; rfl
          | succ x ih =>
            intro hx
            have hnx : (ts1.getD x T0).x = false := by
              cases hxx : (ts1.getD x T0).x with
              | false => rfl
              | true => have := h4 x (Nat.zero_le _) (by omega) hxx; cases this
            rw [((oneOp_fr hc (hT.step x (by omega))).n hnx).1]
            exact ih (by omega)
        have hLf : (fun i => (Array.replicate ops.size false).getD i false) = fun _ => false := by
          funext i
          simp only [Array.getD_eq_getD_getElem?, Array.getElem?_replicate]
          split <;> rfl
        have hmem : memOf ops s.c S (fun _ => false) p = s.m.get := by
          funext q
          simp only [memOf]
          by_cases hres : s.c ≤ q ∧ q < s.c + ops.size
          · rw [if_pos hres]
            simp only [Bool.false_eq_true, if_false]
            exact (hget q hres.1).symm
          · rw [if_neg hres]
            by_cases hqc : q < (S 0).c
            · rw [t_same hc hT hB (a := 0) hqc p (Nat.zero_le _) h3 fun x _ hx => ⟨fun e => hres (by omega), fun hxx => by have := h4 x (Nat.zero_le _) hx hxx; cases this⟩, hS0]
            · rw [t_top hc hT hB p h3 q (by rw [hcp p (Nat.le_refl _)]; omega)]
              rw [hS0] at hqc
              exact (hget q (by dsimp only at hqc; omega)).symm
        have hw1 : Sim μ s.m.get { w with drawn := w.drawn + 1 } := ⟨⟨hR.sim.blk, hR.sim.apart⟩, ⟨hR.sim.glob.ok⟩⟩
        refine any_ok (P := P) hcall hc hT hB hD hlo (μ0 := μ) (w0 := w) (dfs := a.defers) (fun μ' a' w' g1 g2 g3 => hq μ' a' w' (by rw [← hSn]; exact g1) (hgo _ _ _ (by rw [← hSn, ← hS0]; exact g2)) g3) ops.size _ p μ (fun τ => s.sl.getD τ none) a _ (by simp) (Nat.le_trans List.countP_le_length (by simp)) ?_
        rw [hLf]
        exact ⟨(fun j o e hj => by cases hj), (fun j hj => by cases hj), (fun i hi hx => by have := h4 i (Nat.zero_le _) hi hx; cases this), h5, (fun τ => .inl ⟨by rw [hS0], fun j hj => by cases hj⟩), hR.sl.2, by rw [hS0]; exact hR.sl.1,
          by rw [hmem]; exact hw1, fun q hq => by rw [hcp p (Nat.le_refl _), hS0] at hq; exact hR.fresh q (by dsimp only at hq; omega), fun i hi _ => (hfree i hi).1, Le.refl μ, fun _ _ => rfl, by rw [hmem, hS0]; exact ⟨rfl, rfl, rfl, Nat.le_refl _, fun _ _ _ => rfl, fun n b p h hp => .inr ⟨n, b, p, h, fun z => z, hp, rfl⟩⟩, rfl⟩
      · cases h
    · cases h
  · rename_i hd
    have hd' : draw = false := by simpa using hd
    subst hd'
    refine wp_region ?_
    refine runOps_ok hcall (base := s.c) (lo := lo) hlo (List.range ops.size) ⟨s.sl, s.m, s.c + ops.size⟩ s' μ a w (fun n => ∃ i, i < ops.size ∧ n = s.c + i) List.nodup_range (fun i hi => ⟨i, List.mem_range.1 hi, rfl⟩) ⟨hR.sl, hR.sim, fun n hn => hR.fresh n (by dsimp only at hn; omega), fun n ⟨i, hi, e⟩ => by subst e; exact hfree i hi⟩ h
      fun μ' a' w' g1 g2 g3 => hq μ' a' w' g1 (hgo _ _ _ g2) g3
end

end Go.Ab
