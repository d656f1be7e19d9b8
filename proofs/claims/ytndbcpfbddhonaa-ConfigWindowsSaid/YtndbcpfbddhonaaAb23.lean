/- A view of the abstract machine by what is owed: marked values are met as variables. Definitions. -/
import Derived.Test.YtndbcpfbddhonaaAb22
namespace Go.Ab
set_option linter.unusedVariables false

/-- What a call comes to, told of the model. -/
structure CallS (P : Program) (f : FuncId) (vs : List AV) (m : Mem) (c : Nat) (R : AV → Mem → Nat → Prop) : Prop where
  ok : ∀ (μ : Mu) (w : World) (args : List Value), cnL μ vs = some args → Sim μ m.get w → (∀ n, c ≤ n → μ n = none) →
    Ready P f args.toArray w fun val w' => ∃ v m' c' μ', R v m' c' ∧ cn μ' v = some val ∧ After none μ m c w μ' m' c' w'

structure CallT (p : Unit → Program) (f : FuncId) (vs : List AV) (m : Mem) (c : Nat) (R : AV → Mem → Nat → Prop) : Prop where
  ok : CallS (p ()) f vs m c R

/-- An operation that is met by hand. -/
structure SymOp (p : Unit → Program) (ρ : Rho) (m : Mem) (nm : Nat) (o : Op) (K : NR → Prop) : Prop where
  ok : ∃ r, aM (p ()) ρ m.get nm o = some r ∧ K r
structure SymX (p : Unit → Program) (ρ : Rho) (m : Mem) (c nm : Nat) (o : Op) (K : Option AV → Mem → Nat → Prop) : Prop where
  ok : ∃ v m' c', aXM (p ()) (fun _ _ _ _ => none) ρ m c nm o = some (v, m', c') ∧ K v m' c'

/-! ### marked values -/
def vInt (op : BinOp) (k : IntKind) (a b : Int) (K : AV → Prop) : Prop :=
  match op with
  | .add => ∀ v : Int, v = k.wrap (a + b) → K (.sym (.int k v))
  | .sub => ∀ v : Int, v = k.wrap (a - b) → K (.sym (.int k v))
  | .mul => ∀ v : Int, v = k.wrap (a * b) → K (.sym (.int k v))
  | .quo => (Unit → b ≠ 0) ∧ ∀ v : Int, v = k.wrap (a.tdiv b) → K (.sym (.int k v))
  | .rem => (Unit → b ≠ 0) ∧ ∀ v : Int, v = a.tmod b → K (.sym (.int k v))
  | .and => ∀ v : Int, v = k.wrap (BitVec.ofInt k.bits a &&& BitVec.ofInt k.bits b).toNat → K (.sym (.int k v))
  | .or => ∀ v : Int, v = k.wrap (BitVec.ofInt k.bits a ||| BitVec.ofInt k.bits b).toNat → K (.sym (.int k v))
  | .xor => ∀ v : Int, v = k.wrap (BitVec.ofInt k.bits a ^^^ BitVec.ofInt k.bits b).toNat → K (.sym (.int k v))
  | .andNot => ∀ v : Int, v = k.wrap (BitVec.ofInt k.bits a &&& ~~~BitVec.ofInt k.bits b).toNat → K (.sym (.int k v))
  | .eql => (a = b → K (.bool true)) ∧ (a ≠ b → K (.bool false))
  | .neq => (a = b → K (.bool false)) ∧ (a ≠ b → K (.bool true))
  | .lss => (a < b → K (.bool true)) ∧ (b ≤ a → K (.bool false))
  | .leq => (a ≤ b → K (.bool true)) ∧ (b < a → K (.bool false))
  | .gtr => (b < a → K (.bool true)) ∧ (a ≤ b → K (.bool false))
  | .geq => (b ≤ a → K (.bool true)) ∧ (a < b → K (.bool false))
  | _ => False
def vShift (op : BinOp) (k : IntKind) (a b : Int) (K : AV → Prop) : Prop :=
  match op with
  | .shl => (Unit → 0 ≤ b) ∧ ∀ v : Int, v = k.wrap (a * 2 ^ (min b.toNat k.bits)) → K (.sym (.int k v))
  | .shr => (Unit → 0 ≤ b) ∧ ∀ v : Int, v = a.fdiv (2 ^ (min b.toNat k.bits)) → K (.sym (.int k v))
  | _ => False

/-- '==' part by part. -/
def eqParK (rec_ : TypeId → AV → AV → (Bool → Prop) → Prop) (p : Unit → Program) (xs ys : List AV) : List (TypeId × Nat) → (Bool → Prop) → Prop
  | [], K => K true
  | (t, off) :: r, K =>
    match partAt (p ()) t xs off, partAt (p ()) t ys off with
    | some x, some y => rec_ t x y fun b => match b with
      | true => eqParK rec_ p xs ys r K
      | false => K false
    | _, _ => False
def eqLeafK (d : TypeDesc) (x y : AV) (K : Bool → Prop) : Prop :=
  match d, x, y with
  | .int _, .sym (.int k a), .sym (.int k' b) | .int _, .sym (.int k a), .int k' b | .int _, .int k a, .sym (.int k' b) =>
    if k = k' then (a = b → K true) ∧ (a ≠ b → K false) else False
  | .string, .sym (.str a), .sym (.str b) | .string, .sym (.str a), .str b | .string, .str a, .sym (.str b) =>
    (a = b → K true) ∧ (a ≠ b → K false)
  | d, x, y => match eqS d (strip x) (strip y) with
    | some b => K b
    | none => False
def eqK (p : Unit → Program) : Nat → TypeId → AV → AV → (Bool → Prop) → Prop
  | 0, _, _, _, _ => False
  | d + 1, t, x, y, K =>
    match (p ()).underlying t with
    | some (.struct fs) => match x, y with
      | .agg xs, .agg ys => if (p ()).stoodInHeld t then False else eqParK (eqK p d) p xs ys ((fs.toList.filter (·.name ≠ "_")).map fun f => (f.type, f.offset)) K
      | _, _ => False
    | some (.array n e) => match x, y with
      | .agg xs, .agg ys => match sizeT (p ()) e with
        | some z => eqParK (eqK p d) p xs ys ((List.range n).map fun i => (e, i * z)) K
        | none => False
      | _, _ => False
    | some u => eqLeafK u x y K
    | none => False

def vRead (p : Unit → Program) (t : TypeId) (row : List AV) (f : Nat) (K : AV → Prop) : Prop :=
  match readAt (p ()) t row f with
  | some v => K v
  | none => False

/-- A bound that is marked, or a given one. -/
def vBound (x : Option AV) (d y : Nat) (K : Nat → Prop) : Prop :=
  match x with
  | none => K d
  | some (.int _ i) => (Unit → 0 ≤ i ∧ i.toNat ≤ y) ∧ ∀ h : Nat, h = i.toNat → K h
  | _ => False
/-- An operand that may be missing: its value, its mark taken off. -/
def optS (ρ : Rho) (x : Option Operand) (K : Option AV → Prop) : Prop :=
  match x with
  | none => K none
  | some o => match (ρ o).map strip with
    | some v => K (some v)
    | none => False
def vSlice (n z i cap : Nat) (opn : Bool) (lo : Option AV) (h l : Nat) (K : AV → Prop) : Prop :=
  match lo with
  | none => K (.sym (.slice n z i h cap opn none))
  | some _ => (l = 0 → K (.sym (.slice n z i h cap opn none))) ∧
    (0 < l → l < cap → ∀ i' len' cap' : Nat, i' = i + l → len' = h - l → cap' = cap - l → K (.sym (.slice n z i' len' cap' opn none))) ∧
    (0 < l → l = cap → match opn with
      | true => ∀ i' : Nat, i' = i + l → K (.sym (.slice n z i' 0 0 true (some i)))
      | false => K (.sym (.slice n z i 0 0 false none)))

/-- An operation on marked values. -/
def vSym (p : Unit → Program) (ρ : Rho) (m : Mem) (nm : Nat) (o : Op) (K : AV → List Nat → Prop) : Prop :=
  match o with
  | .binOp op t x y yt =>
    match ρ x, ρ y with
    | some (.agg xs), some (.agg ys) =>
      if (p ()).eqGuardType (p ()).depth t then False else
      match op with
      | .eql => eqK p 12 t (.agg xs) (.agg ys) fun b => K (.bool b) []
      | .neq => eqK p 12 t (.agg xs) (.agg ys) fun b => K (.bool (!b)) []
      | _ => False
    | some a, some b =>
      match strip a, strip b with
      | .int k a, .int k' b =>
        match op with
        | .shl | .shr => vShift op k a b fun v => K v []
        | _ => if k = k' then vInt op k a b fun v => K v [] else False
      | .str a, .str b =>
        match op with
        | .add => (Unit → a.length + b.length ≤ 4611686018427387904) ∧ ∀ s : List UInt8, s = a ++ b → K (.sym (.str s)) []
        | .eql => (a = b → K (.bool true) []) ∧ (a ≠ b → K (.bool false) [])
        | .neq => (a = b → K (.bool false) []) ∧ (a ≠ b → K (.bool true) [])
        | _ => SymOp p ρ m nm (.binOp op t x y yt) fun r => r.nb = none ∧ K r.v r.rd
      | _, _ => SymOp p ρ m nm (.binOp op t x y yt) fun r => r.nb = none ∧ K r.v r.rd
    | _, _ => False
  | .unOp op t x =>
    match op, (ρ x).map strip with
    | .neg, some (.int k n) => ∀ v : Int, v = k.wrap (0 - n) → K (.sym (.int k v)) []
    | _, _ => SymOp p ρ m nm (.unOp op t x) fun r => r.nb = none ∧ K r.v r.rd
  | .slice t x lo hi mx =>
    match mx with
    | some _ => SymOp p ρ m nm (.slice t x lo hi mx) fun r => r.nb = none ∧ K r.v r.rd
    | none =>
      match (p ()).underlying t, (ρ x).map strip with
      | some (.slice e), some (.slice n z i len cap opn none) =>
        if sizeT (p ()) e = some z then
          optS ρ hi fun hi => optS ρ lo fun lo => vBound hi len cap fun h => vBound lo 0 h fun l => (Unit → h ≤ cap ∧ l ≤ h) ∧ vSlice n z i cap opn lo h l fun v => K v []
        else False
      | some .string, some (.str s) =>
        optS ρ hi fun hi => optS ρ lo fun lo => vBound hi s.length s.length fun h => vBound lo 0 h fun l => ∀ s' : List UInt8, s' = (s.take h).drop l → K (.sym (.str s')) []
      | _, _ => SymOp p ρ m nm (.slice t x lo hi none) fun r => r.nb = none ∧ K r.v r.rd
  | .convert src dst x =>
    match (p ()).underlying src, (p ()).underlying dst, (ρ x).map strip with
    | some _, some (.int k), some (.int _ n) => ∀ v : Int, v = k.wrap n → K (.sym (.int k v)) []
    | some _, some .string, some (.str s) => K (.sym (.str s)) []
    | some (.slice e), some .string, some (.slice n 1 i len _ _ none) =>
      match (p ()).underlying e, m.get n with
      | some (.int .u8), some (.cells _ 1 rows) => (len = 0 → K (.sym (.str [])) []) ∧ (len ≠ 0 → (Unit → i + len ≤ rows.length) ∧ ∃ s, bytesA ((rows.drop i).take len) = some s ∧ K (.sym (.str s)) [n])
      | _, _ => SymOp p ρ m nm (.convert src dst x) fun r => r.nb = none ∧ K r.v r.rd
    | _, _, _ => SymOp p ρ m nm (.convert src dst x) fun r => r.nb = none ∧ K r.v r.rd
  | .load t a =>
    match (ρ a).map strip with
    | some (.ptr n z i f) =>
      match m.get n with
      | some (.cells _ z' rows) => if z = z' then ∃ row, rows[i]? = some row ∧ vRead p t row f fun v => K v [n] else False
      | _ => False
    | _ => False
  | .nilCheck x =>
    match (ρ x).map strip with
    | some (.ptr n z i f) => K (.sym (.ptr n z i f)) []
    | _ => False
  | .fieldAddr t x f =>
    match (ρ x).map strip, fieldT (p ()) t f with
    | some (.ptr n z i g), some fl => match sizeT (p ()) fl.type with
      | some s => if s = 0 then False else K (.sym (.ptr n z i (g + fl.offset))) []
      | none => False
    | _, _ => False
  | .indexAddr t x ix =>
    match (p ()).underlying t, (ρ x).map strip, (ρ ix).map strip with
    | some (.array len e), some (.ptr n z r f), some (.int _ i) =>
      match sizeT (p ()) e with
      | some s => (Unit → 0 ≤ i ∧ i.toNat < len) ∧ ∀ j : Nat, j = f + i.toNat * s → K (.sym (.ptr n z r j)) []
      | none => False
    | some (.slice e), some (.slice n z o len _ _ none), some (.int _ i) =>
      if sizeT (p ()) e = some z then (Unit → 0 ≤ i ∧ i.toNat < len) ∧ ∀ j : Nat, j = o + i.toNat → K (.sym (.ptr n z j 0)) [] else False
    | _, _, _ => False
  | .index t x ix =>
    match (p ()).underlying t, (ρ x).map strip, (ρ ix).map strip with
    | some .string, some (.str s), some (.int _ i) => (Unit → 0 ≤ i) ∧ ∃ b, s[i.toNat]? = some b ∧ ∀ v : Int, 0 ≤ v ∧ v.toNat = b.toNat → K (.sym (.int .u8 v)) []
    | some (.array len e), some (.agg cs), some (.int _ i) =>
      match sizeT (p ()) e with
      | some z => (Unit → 0 ≤ i ∧ i.toNat < len) ∧ ∃ v, partAt (p ()) e cs (i.toNat * z) = some v ∧ K (mark v) []
      | none => False
    | _, _, _ => SymOp p ρ m nm (.index t x ix) fun r => r.nb = none ∧ K r.v r.rd
  | .call { callee := .builtin .len, args, argTypes } =>
    match args.toList, argTypes.toList with
    | [x], [t] =>
      match (p ()).underlying t, (ρ x).map strip with
      | some .string, some (.str s) => ∀ v : Int, 0 ≤ v ∧ v.toNat = s.length → K (.sym (.int .i64 v)) []
      | some (.slice _), some (.slice _ _ _ n _ _ _) => ∀ v : Int, 0 ≤ v ∧ v.toNat = n → K (.sym (.int .i64 v)) []
      | _, _ => SymOp p ρ m nm (.call { callee := .builtin .len, args, argTypes }) fun r => r.nb = none ∧ K r.v r.rd
    | _, _ => False
  | .lookup t x k ok =>
    match (p ()).underlying t, (ρ x).map strip, (ρ k).map strip with
    | some (.map kt e), some (.map n), some key =>
      match (p ()).underlying kt, m.get n with
      | some kd, some (.map es) =>
        if keyFits kd key = true then ∃ r, findA key (es.map fun e => (norm e.1, e.2)) = some r ∧ (∀ v, r = some v → K (bif ok then .tuple [v, .bool true] else v) [n]) ∧
          (r = none → match zeroT (p ()) e with
            | some v => K (bif ok then .tuple [v, .bool false] else v) [n]
            | none => False)
        else False
      | _, _ => SymOp p ρ m nm (.lookup t x k ok) fun r => r.nb = none ∧ K r.v r.rd
    | _, _, _ => SymOp p ρ m nm (.lookup t x k ok) fun r => r.nb = none ∧ K r.v r.rd
  | .call { callee := .builtin .min, args, argTypes } =>
    match args.toList with
    | [x, y] => match (ρ x).map strip, (ρ y).map strip with
      | some (.int k a), some (.int _ b) => (b < a → K (.sym (.int k b)) []) ∧ (a ≤ b → K (.sym (.int k a)) [])
      | _, _ => False
    | _ => SymOp p ρ m nm (.call { callee := .builtin .min, args, argTypes }) fun r => r.nb = none ∧ K r.v r.rd
  | .call { callee := .builtin .max, args, argTypes } =>
    match args.toList with
    | [x, y] => match (ρ x).map strip, (ρ y).map strip with
      | some (.int k a), some (.int _ b) => (a < b → K (.sym (.int k b)) []) ∧ (b ≤ a → K (.sym (.int k a)) [])
      | _, _ => False
    | _ => SymOp p ρ m nm (.call { callee := .builtin .max, args, argTypes }) fun r => r.nb = none ∧ K r.v r.rd
  | o => SymOp p ρ m nm o fun r => r.nb = none ∧ K r.v r.rd

/-! ### operations -/
abbrev CH := FuncId → List AV → Mem → Nat → (AV → Mem → Nat → List Nat → Prop) → Prop
/-- Calls by a function of the abstract machine's. -/
def chD (call : CallA) : CH := fun f vs m c K => match call f vs m c with
  | some (.bool b, m', c') => (b = true → K (.bool true) m' c' (m'.log.take (m'.log.length - m.log.length))) ∧ (b = false → K (.bool false) m' c' (m'.log.take (m'.log.length - m.log.length)))
  | some (v, m', c') => K v m' c' (m'.log.take (m'.log.length - m.log.length))
  | none => False
/-- Calls by what is told of them. -/
def chT (p : Unit → Program) : CH := fun f vs m c K => CallT p f vs m c fun v m' c' => K v m' c' []

def wrOf (m m' : Mem) : List Nat := m'.log.take (m'.log.length - m.log.length)

/-- The rows that are appended. -/
def vSrc (p : Unit → Program) (get : Nat → Option ABlk) (z : Nat) (tx : TypeId) (mk : Bool) (x : AV) (K : List (List AV) → Prop) : Prop :=
  match x with
  | .nilslice => match (p ()).underlying tx with
    | some (.slice _) => K []
    | _ => False
  | .slice n z' i len _ _ alt =>
    match (p ()).underlying tx with
    | some (.slice _) =>
      match alt with
      | some _ => (Unit → len = 0) ∧ K []
      | none => match get n with
        | some (.cells _ z'' rows) => if z' = z ∧ z'' = z then (Unit → i + len ≤ rows.length) ∧ (match mk with
            | true => ∀ src, src = (rows.drop i).take len → K src
            | false => K ((rows.drop i).take len)) else False
        | _ => False
    | _ => False
  | .str s => match (p ()).underlying tx with
    | some .string => if z = 1 then ∀ src : List (List AV), src = (s.map fun b => [AV.int .u8 b.toNat]) → K src else False
    | _ => False
  | _ => False
def vApp (m : Mem) (nm z b : Nat) (s : AV) (src : List (List AV)) (K : AV → Mem → Prop) : Prop :=
  match s with
  | .nilslice => (src = [] → K .nilslice m) ∧ (src ≠ [] → (Unit → src.length * b ≤ 140737488355328 ∧ src.length ≤ 140737488355328) ∧ ∀ L : Nat, L = src.length → K (.sym (.slice nm z 0 L L true none)) (m.new nm (.cells true z src)))
  | .slice n z' i len cap true alt =>
    if z' = z then
      (src = [] → (Unit → len ≤ cap) ∧ K (.sym s) m) ∧
      (src ≠ [] → match m.get n with
        | some (.cells true z'' rows) =>
          if z'' = z then
            (Unit → i + cap = rows.length ∧ len ≤ cap ∧ (alt = none ∨ len = 0)) ∧ (Unit → (len + src.length) * b ≤ 140737488355328 ∧ len + src.length ≤ 140737488355328) ∧
            (len + src.length ≤ cap → (Unit → alt = none) ∧ ∀ (L : Nat) (rows' : List (List AV)), L = len + src.length → rows' = rows.take (i + len) ++ src ++ rows.drop (i + len + src.length) → K (.sym (.slice n z i L cap true none)) (m.write n (some (.cells true z rows')))) ∧
            (cap < len + src.length → ∀ (L : Nat) (rows' : List (List AV)), L = len + src.length → rows' = (rows.drop i).take len ++ src → K (.sym (.slice nm z 0 L L true none)) ((m.write n none).new nm (.cells true z rows')))
          else False
        | _ => False)
    else False
  | _ => False
def vAppend (p : Unit → Program) (ρ : Rho) (m : Mem) (nm : Nat) (args : List Operand) (ats : List TypeId) (K : AV → Mem → Prop) : Prop :=
  match args, ats with
  | [s, x], [ts, tx] =>
    match (ρ s).map strip, (ρ x).map strip, elemT (p ()) ts with
    | some s, some xv, some e =>
      match sizeT (p ()) e, bytesT (p ()) e, zeroT (p ()) e with
      | some z, some b, some zv => if z = 0 ∨ zv.cells.length ≠ z then False else vSrc p m.get z tx (symO (ρ x)) xv fun src => vApp m nm z b s src K
      | _, _, _ => False
    | _, _, _ => False
  | _, _ => False

def sameT : Operand → Operand → Bool
  | .tmp s, .tmp t => s.beq t
  | _, _ => false
def vX (p : Unit → Program) (ch : CH) (ρ : Rho) (m : Mem) (c nm : Nat) (o : Op) (K : Option AV → Mem → Nat → Tc → Prop) : Prop :=
  match o with
  | .store t a x =>
    match ρ a with
    | some (.sym (.ptr n z i f)) =>
      match ρ x, sizeT (p ()) t with
      | some v, some s =>
        match m.get n with
        | some (.cells true z' rows) =>
          if z = z' ∧ v.cells.length = s ∧ v.cells.all AV.isCell = true ∧ sameT a x = false then
            ∃ row, rows[i]? = some row ∧ (Unit → f + s ≤ row.length) ∧ ∀ rows', rows' = rows.set i (setCells row f v.cells) → K none (m.write n (some (.cells true z rows'))) c ⟨true, false, [], [n]⟩
          else False
        | _ => False
      | _, _ => False
    | _ => match aX (p ()) (fun _ _ _ _ => none) ρ m c nm (.store t a x) with
      | some (v, m', c') => K v m' c' ⟨true, false, [], wrOf m m'⟩
      | none => False
  | .mapUpdate t x k v =>
    match symO (ρ k) with
    | true =>
      match (p ()).underlying t, ρ x, (ρ k).map strip, ρ v with
      | some (.map kt _), some (.map n), some key, some v' =>
        match (p ()).underlying kt, m.get n with
        | some kd, some (.map es) =>
          if keyFits kd key = true ∧ sameT k v = false ∧ sameT k x = false then ∃ es', setA key v' es = some es' ∧ K none (m.write n (some (.map es'))) c ⟨true, false, [], [n]⟩ else False
        | _, _ => False
      | _, _, _, _ => False
    | false => match aX (p ()) (fun _ _ _ _ => none) ρ m c nm (.mapUpdate t x k v) with
      | some (v, m', c') => K v m' c' ⟨true, false, [], wrOf m m'⟩
      | none => False
  | .call { callee := .builtin .append, args, argTypes } =>
    match args.toList.any fun x => symO (ρ x) with
    | true => vAppend p ρ m nm args.toList argTypes.toList fun v m' => K (some v) m' c ⟨true, false, [], wrOf m m'⟩
    | false => match aX (p ()) (fun _ _ _ _ => none) ρ m c nm (.call { callee := .builtin .append, args, argTypes }) with
      | some (v, m', c') => K v m' c' ⟨true, false, [], wrOf m m'⟩
      | none => False
  | .call { callee := .value f, args, argTypes := _ } =>
    match ρ f, valsA ρ args.toList with
    | some (.func f cs), some vs => ch f (vs ++ cs) m c fun v m' c' wr => K (some v) m' c' ⟨true, false, [], wr⟩
    | _, _ => False
  | .convert src dst x => match aX (p ()) (fun _ _ _ _ => none) ρ m c nm (.convert src dst x) with
    | some (v, m', c') => K v m' c' ⟨true, false, [], wrOf m m'⟩
    | none => False
  | _ => False

/-- A slice made of a marked length. -/
def vMake (p : Unit → Program) (ρ : Rho) (nm : Nat) (t : TypeId) (l c : Operand) (K : AV → ABlk → Prop) : Prop :=
  match elemT (p ()) t, (ρ l).map strip, (ρ c).map strip with
  | some e, some (.int _ l), some (.int _ c) =>
    match sizeT (p ()) e, zeroT (p ()) e, bytesT (p ()) e with
    | some s, some zv, some b =>
      if s ≠ 0 ∧ zv.cells.length = s ∧ zv.cells.all AV.isCell = true then
        (Unit → 0 ≤ l ∧ l ≤ c ∧ c ≤ 140737488355328 ∧ b * c ≤ 140737488355328) ∧ ∀ (x y : Nat) (rows : List (List AV)), x = l.toNat → y = c.toNat → rows = List.replicate y zv.cells → K (.sym (.slice nm s 0 x y true none)) (.cells true s rows)
      else False
    | _, _, _ => False
  | _, _, _ => False
def vN (p : Unit → Program) (ρ : Rho) (m : Mem) (c nm : Nat) (o : Op) (K : Option AV → Mem → Nat → Tc → Prop) : Prop :=
  match usesSym ρ o with
  | true => match o with
    | .makeSlice t l k => vMake p ρ nm t l k fun v b => K (some v) (m.new nm b) c ⟨false, true, [], []⟩
    | o => vSym p ρ m nm o fun v rd => K (some v) m c ⟨false, false, rd, []⟩
  | false => match aN (p ()) ρ m.get nm o with
    | some ⟨v, none, rd⟩ => K (some v) m c ⟨false, false, rd, []⟩
    | some ⟨v, some b, rd⟩ => K (some v) (m.new nm b) c ⟨false, true, rd, []⟩
    | none => False

def vOp (p : Unit → Program) (ch : CH) (ops : Array Oper) (base i : Nat) (s : St) (K : St → Tc → Prop) : Prop :=
  match ops[i]? with
  | none => False
  | some o =>
    match wantedA ops o s.sl with
    | none => False
    | some false => K ⟨putA s.sl o.dst (some (.tuple [])), s.m, s.c⟩ ⟨false, false, [], []⟩
    | some true =>
      match isX o.op with
      | true => vX p ch (evalA s.sl) s.m s.c (base + i) o.op fun v m' c' t => K ⟨putA s.sl o.dst v, m', c'⟩ t
      | false => vN p (evalA s.sl) s.m s.c (base + i) o.op fun v m' c' t => K ⟨putA s.sl o.dst v, m', c'⟩ t
def vOps (p : Unit → Program) (ch : CH) (ops : Array Oper) (base : Nat) : List Nat → St → (St → List Tc → Prop) → Prop
  | [], s, K => K s []
  | i :: r, s, K => vOp p ch ops base i s fun s' t => vOps p ch ops base r s' fun s'' ts => K s'' (t :: ts)

end Go.Ab
