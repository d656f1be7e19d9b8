/- An abstract machine for the model's code: values whose addresses are names, memory as a map from names to blocks. Definitions only. -/
import Derived.Orders
import Derived.Below
import Derived.KernelRfl
namespace Go.Ab

inductive AV where
  | bool (b : Bool)
  | int (k : IntKind) (n : Int)
  | str (s : List UInt8)
  | nilptr
  | ptr (n z i f : Nat)
  | nilslice
  | slice (n z i len cap : Nat) (opn : Bool) (alt : Option Nat)
  | nilmap
  | map (n : Nat)
  | func (f : FuncId) (cs : List AV)
  | nilfunc
  | iface (t : TypeId) (v : AV)
  | niliface
  | agg (cs : List AV)
  | tuple (vs : List AV)
  | sym (v : AV)

/-- A name's place in the heap: its block, where its rows begin, how many elements lie behind them. -/
structure Pl where
  blk : Nat
  shift : Nat
  extra : Nat

def plSlice (p : Pl) (z i len cap : Nat) (opn : Bool) (alt : Option Nat) : Value :=
  .slice (some ⟨p.blk, p.shift + (if p.extra = 0 then alt.getD i else i) * z, none⟩) len (if opn then cap + p.extra else cap)
def plPtr (p : Pl) (z i f : Nat) : Value := .pointer (some ⟨p.blk, p.shift + i * z + f, none⟩)

mutual
def cn (μ : Nat → Option Pl) : AV → Option Value
  | .bool b => some (.bool b)
  | .int k n => some (.int k n)
  | .str s => some (.string ⟨s.toArray⟩)
  | .nilptr => some (.pointer none)
  | .ptr n z i f => (μ n).map fun p => plPtr p z i f
  | .nilslice => some (.slice none 0 0)
  | .slice n z i len cap opn alt => (μ n).map fun p => plSlice p z i len cap opn alt
  | .nilmap => some (.map none)
  | .map n => (μ n).map fun p => .map (some p.blk)
  | .func f cs => (cnL μ cs).map fun l => .func (.func f) #[] l.toArray
  | .nilfunc => some .nilFunc
  | .iface t v => (cn μ v).map (.iface t)
  | .niliface => some .nilIface
  | .agg cs => (cnL μ cs).map fun l => .agg l.toArray
  | .tuple vs => (cnL μ vs).map fun l => .tuple l.toArray
  | .sym v => cn μ v
def cnL (μ : Nat → Option Pl) : List AV → Option (List Value)
  | [] => some []
  | v :: vs => match cn μ v, cnL μ vs with
    | some a, some l => some (a :: l)
    | _, _ => none
end

inductive ABlk where
  | cells (rw : Bool) (z : Nat) (rows : List (List AV))
  | map (es : List (AV × AV))

def ABlk.isRw : ABlk → Bool
  | .cells rw _ _ => rw
  | .map _ => true

/-! ### memory: a tree of rows of pairs -/
inductive Tr where
  | leaf (l : List (Nat × Option ABlk))
  | node (l r : Tr)

def getL : List (Nat × Option ABlk) → Nat → Option ABlk
  | [], _ => none
  | (k, v) :: r, n => bif n.beq k then v else getL r n
def putL : List (Nat × Option ABlk) → Nat → Option ABlk → List (Nat × Option ABlk)
  | [], n, v => [(n, v)]
  | (k, u) :: r, n, v => bif n.beq k then (k, v) :: r else (k, u) :: putL r n v
def Tr.get : Tr → Nat → Option ABlk
  | .leaf l, n => getL l n
  | .node a b, n => bif (n % 2).beq 0 then a.get (n / 2) else b.get (n / 2)
def Tr.put : Tr → Nat → Option ABlk → Tr
  | .leaf l, n, v => .leaf (putL l n v)
  | .node a b, n, v => bif (n % 2).beq 0 then .node (a.put (n / 2) v) b else .node a (b.put (n / 2) v)
def Tr.empty : Nat → Tr
  | 0 => .leaf []
  | d + 1 => .node (Tr.empty d) (Tr.empty d)

structure Mem where
  tr : Tr
  log : List Nat
def Mem.get (m : Mem) (n : Nat) : Option ABlk := m.tr.get n
def Mem.new (m : Mem) (n : Nat) (b : ABlk) : Mem := ⟨m.tr.put n (some b), m.log⟩
def Mem.write (m : Mem) (n : Nat) (b : Option ABlk) : Mem := ⟨m.tr.put n b, n :: m.log⟩

/-! ### constants -/
def absS : Value → Option AV
  | .bool b => some (.bool b)
  | .int k n => some (.int k n)
  | .string s => some (.str s.data.toList)
  | .pointer none => some .nilptr
  | .slice none 0 0 => some .nilslice
  | .map none => some .nilmap
  | .nilFunc => some .nilfunc
  | .nilIface => some .niliface
  | _ => none
def absSL : List Value → Option (List AV)
  | [] => some []
  | v :: vs => match absS v, absSL vs with
    | some a, some l => some (a :: l)
    | _, _ => none
def absV : Value → Option AV
  | .agg cs => (absSL cs.toList).map .agg
  | .tuple vs => (absSL vs.toList).map .tuple
  | v => absS v

/-- Is it a value of one cell? -/
def AV.isCell : AV → Bool
  | .agg _ | .tuple _ => false
  | .sym v => v.isCell
  | _ => true
def AV.cells : AV → List AV
  | .agg cs => cs
  | .sym v => bif v.isCell then [.sym v] else v.cells
  | v => [v]

/-! ### types -/
def isAggT (P : Program) (t : TypeId) : Option Bool :=
  match P.underlying t with
  | some (.struct _) | some (.array _ _) => some true
  | some _ => some false
  | none => none
def sizeT (P : Program) (t : TypeId) : Option Nat := (P.info? t).map (·.size)
def bytesT (P : Program) (t : TypeId) : Option Nat := (P.info? t).map (·.bytes)
def zeroT (P : Program) (t : TypeId) : Option AV := ((P.info? t).bind (·.zero)).bind absV
def elemT (P : Program) (t : TypeId) : Option TypeId :=
  match P.underlying t with
  | some (.slice e) => some e
  | _ => none
def fieldT (P : Program) (t : TypeId) (f : Nat) : Option Field :=
  match P.underlying t with
  | some (.struct fs) => fs[f]?
  | _ => none

/-! ### reading and writing cells -/
/-- Cells set into a row from a place on. -/
def setCells : List AV → Nat → List AV → List AV
  | row, _, [] => row
  | row, f, v :: vs => setCells (row.set f v) (f + 1) vs
def readAt (P : Program) (t : TypeId) (row : List AV) (f : Nat) : Option AV :=
  match isAggT P t, sizeT P t with
  | some true, some s => if f + s ≤ row.length then some (.agg ((row.drop f).take s)) else none
  | some false, _ => row[f]?
  | _, _ => none
def partAt (P : Program) (t : TypeId) (cs : List AV) (off : Nat) : Option AV :=
  match isAggT P t, sizeT P t with
  | some true, some s => some (.agg ((cs.drop off).take s))
  | some false, _ => cs[off]?
  | _, _ => none

/-! ### operations on values -/
def aInt (op : BinOp) (k : IntKind) (a b : Int) : Option AV :=
  match op with
  | .add => some (.int k (k.wrap (a + b)))
  | .sub => some (.int k (k.wrap (a - b)))
  | .mul => some (.int k (k.wrap (a * b)))
  | .quo => if b = 0 then none else some (.int k (k.wrap (a.tdiv b)))
  | .rem => if b = 0 then none else some (.int k (a.tmod b))
  | .and => some (.int k (k.wrap (BitVec.ofInt k.bits a &&& BitVec.ofInt k.bits b).toNat))
  | .or => some (.int k (k.wrap (BitVec.ofInt k.bits a ||| BitVec.ofInt k.bits b).toNat))
  | .xor => some (.int k (k.wrap (BitVec.ofInt k.bits a ^^^ BitVec.ofInt k.bits b).toNat))
  | .andNot => some (.int k (k.wrap (BitVec.ofInt k.bits a &&& ~~~BitVec.ofInt k.bits b).toNat))
  | .eql => some (.bool (a == b))
  | .neq => some (.bool (a != b))
  | .lss => some (.bool (decide (a < b)))
  | .leq => some (.bool (decide (a ≤ b)))
  | .gtr => some (.bool (decide (b < a)))
  | .geq => some (.bool (decide (b ≤ a)))
  | _ => none
def aShift (op : BinOp) (k : IntKind) (a b : Int) : Option AV :=
  if b < 0 then none else
  match op with
  | .shl => some (.int k (k.wrap (a * 2 ^ (min b.toNat k.bits))))
  | .shr => some (.int k (a.fdiv (2 ^ (min b.toNat k.bits))))
  | _ => none
def aStr (op : BinOp) (x y : List UInt8) : Option AV :=
  match op with
  | .add => if x.length + y.length ≤ 4611686018427387904 then some (.str (x ++ y)) else none
  | .eql => some (.bool (x == y))
  | .neq => some (.bool (!(x == y)))
  | .lss => some (.bool (Op.bytesLess x y))
  | .leq => some (.bool (Op.bytesLess x y || x == y))
  | .gtr => some (.bool (!(Op.bytesLess x y || x == y)))
  | .geq => some (.bool (!Op.bytesLess x y))
  | _ => none

/-- '==' of scalars; of pointers, slices, maps, functions and interfaces with nil alone. -/
def eqS (d : TypeDesc) (x y : AV) : Option Bool :=
  match d, x, y with
  | .bool, .bool a, .bool b => some (a == b)
  | .int _, .int k a, .int k' b => if k = k' then some (a == b) else none
  | .string, .str a, .str b => some (a == b)
  | .pointer _, .nilptr, .nilptr => some true
  | .pointer _, .nilptr, .ptr .. => some false
  | .pointer _, .ptr .., .nilptr => some false
  | .slice _, .nilslice, .nilslice => some true
  | .slice _, .nilslice, .slice .. => some false
  | .slice _, .slice .., .nilslice => some false
  | .map _ _, .nilmap, .nilmap => some true
  | .map _ _, .nilmap, .map _ => some false
  | .map _ _, .map _, .nilmap => some false
  | .func _ _ _, .nilfunc, .nilfunc => some true
  | .func _ _ _, .nilfunc, .func .. => some false
  | .func _ _ _, .func .., .nilfunc => some false
  | .interface _, .niliface, .niliface => some true
  | .interface _, .niliface, .iface .. => some false
  | .interface _, .iface .., .niliface => some false
  | _, _, _ => none
/-- '==' of parts, one behind the other: each field's type and place. -/
def eqParts (rec_ : TypeId → AV → AV → Option Bool) (P : Program) (xs ys : List AV) : List (TypeId × Nat) → Option Bool
  | [] => some true
  | (t, off) :: r =>
    match partAt P t xs off, partAt P t ys off with
    | some x, some y =>
      match rec_ t x y with
      | some true => eqParts rec_ P xs ys r
      | some false => some false
      | none => none
    | _, _ => none
def eqIn (P : Program) : Nat → TypeId → AV → AV → Option Bool
  | 0, _, _, _ => none
  | d + 1, t, x, y =>
    match P.underlying t with
    | some (.struct fs) => match x, y with
      | .agg xs, .agg ys => if P.stoodInHeld t then none else eqParts (eqIn P d) P xs ys ((fs.toList.filter (·.name ≠ "_")).map fun f => (f.type, f.offset))
      | _, _ => none
    | some (.array n e) => match x, y with
      | .agg xs, .agg ys => match sizeT P e with
        | some z => eqParts (eqIn P d) P xs ys ((List.range n).map fun i => (e, i * z))
        | none => none
      | _, _ => none
    | some u => eqS u x y
    | none => none

def isConstO : Operand → Bool
  | .const _ => true
  | _ => false
/-- No two nil values of an interface type with methods. -/
def guardOk (P : Program) (t : TypeId) (xo yo : Operand) (x y : AV) : Bool :=
  match x, y with
  | .niliface, .niliface => isConstO xo || isConstO yo
  | .sym _, _ | _, .sym _ => false
  | .agg _, .agg _ => !P.eqGuardType P.depth t
  | _, _ => true
def aBin (P : Program) (op : BinOp) (t : TypeId) (xo yo : Operand) (x y : AV) : Option AV :=
  match x, y with
  | .int k a, .int k' b =>
    match op with
    | .shl | .shr => aShift op k a b
    | _ => if k = k' then aInt op k a b else none
  | .str a, .str b => aStr op a b
  | x, y =>
    if guardOk P t xo yo x y then
    match op with
    | .eql => (eqIn P 12 t x y).map .bool
    | .neq => (eqIn P 12 t x y).map fun b => .bool (!b)
    | _ => none
    else none
def aUn (op : UnOp) (x : AV) : Option AV :=
  match op, x with
  | .neg, .int k n => some (.int k (k.wrap (0 - n)))
  | .xor, .int k n => aInt .xor k (if k.signed then -1 else k.max) n
  | .not, .bool b => some (.bool !b)
  | _, _ => none

/-! ### operations that write no memory that was there -/
structure NR where
  v : AV
  nb : Option ABlk
  rd : List Nat
abbrev Rho := Operand → Option AV
def pureR (v : Option AV) : Option NR := v.map fun v => ⟨v, none, []⟩

def fillA (place : Nat → Option (Nat × Nat)) (cells : List AV) : List (Nat × AV) → Option (List AV)
  | [] => some cells
  | (i, v) :: rest =>
    match place i with
    | none => none
    | some (off, size) => if v.cells.length = size ∧ off + size ≤ cells.length then fillA place (setCells cells off v.cells) rest else none
def placeS (P : Program) (fs : Array Field) (i : Nat) : Option (Nat × Nat) :=
  match fs[i]? with
  | some f => (sizeT P f.type).map fun s => (f.offset, s)
  | none => none
def partsA (ρ : Rho) : List (Nat × Operand) → Option (List (Nat × AV))
  | [] => some []
  | (i, x) :: r => match ρ x, partsA ρ r with
    | some v, some l => some ((i, v) :: l)
    | _, _ => none
def valsA (ρ : Rho) : List Operand → Option (List AV)
  | [] => some []
  | x :: r => match ρ x, valsA ρ r with
    | some v, some l => some (v :: l)
    | _, _ => none
/-- The flat cells as rows of z. -/
def rowsOf (z : Nat) : Nat → List AV → List (List AV)
  | 0, _ => []
  | n + 1, cs => cs.take z :: rowsOf z n (cs.drop z)

def boundA (x : AV) (y : Nat) : Option Nat :=
  match x with
  | .int _ i => if 0 ≤ i ∧ i ≤ (y : Int) then some i.toNat else none
  | _ => none
def optA {α β : Type} (d : β) (f : α → Option β) : Option α → Option β
  | none => some d
  | some x => f x
def sliceA (P : Program) (t : TypeId) (x : AV) (lo hi mx : Option AV) : Option AV :=
  match P.underlying t, x with
  | some .string, .str s =>
    if mx.isSome then none else
    match optA s.length (boundA · s.length) hi with
    | none => none
    | some h => match optA 0 (boundA · h) lo with
      | none => none
      | some l => some (.str ((s.take h).drop l))
  | some (.slice e), .nilslice =>
    if sizeT P e = none ∨ (mx.isSome ∧ hi.isNone) then none else
    match optA 0 (boundA · 0) mx with
    | none => none
    | some _ => match optA 0 (boundA · 0) hi with
      | none => none
      | some _ => (optA 0 (boundA · 0) lo).map fun _ => .nilslice
  | some (.slice e), .slice n z i len cap opn alt =>
    if sizeT P e ≠ some z then none else
    match mx with
    | none =>
      match optA len (boundA · cap) hi with
      | none => none
      | some h => match optA 0 (boundA · h) lo with
        | none => none
        | some l =>
          if ¬ h ≤ cap then none else
          if l = 0 then some (.slice n z i h cap opn alt)
          else if l < cap then (if alt.isNone then some (.slice n z (i + l) (h - l) (cap - l) opn none) else none)
          else if opn then some (.slice n z (i + l) 0 0 true (some (alt.getD i)))
          else some (.slice n z i 0 0 false alt)
    | some mx =>
      if hi.isNone then none else
      match boundA mx cap with
      | none => none
      | some m => match optA 0 (boundA · m) hi with
        | none => none
        | some h => match optA 0 (boundA · h) lo with
          | none => none
          | some l =>
            if m = l then some (.slice n z i (h - l) (m - l) false alt)
            else if l = 0 then some (.slice n z i (h - l) (m - l) false alt)
            else if alt.isNone then some (.slice n z (i + l) (h - l) (m - l) false none) else none
  | _, _ => none

def keyEq : AV → AV → Option Bool
  | .int k a, .int k' b => if k = k' then some (a == b) else none
  | .str a, .str b => some (a == b)
  | .bool a, .bool b => some (a == b)
  | _, _ => none
def keyFits (d : TypeDesc) (k : AV) : Bool :=
  match d, k with
  | .int _, .int _ _ | .string, .str _ | .bool, .bool _ => true
  | _, _ => false
def findA (k : AV) : List (AV × AV) → Option (Option AV)
  | [] => some none
  | (k', v) :: r => match keyEq k k' with
    | some true => some (some v)
    | some false => findA k r
    | none => none
def setA (k v : AV) : List (AV × AV) → Option (List (AV × AV))
  | [] => some [(k, v)]
  | (k', u) :: r => match keyEq k k' with
    | some true => some ((k, v) :: r)
    | some false => (setA k v r).map ((k', u) :: ·)
    | none => none
def bytesA : List (List AV) → Option (List UInt8)
  | [] => some []
  | [.int .u8 n] :: r => (bytesA r).map (UInt8.ofNat n.toNat :: ·)
  | [.sym (.int .u8 n)] :: r => (bytesA r).map (UInt8.ofNat n.toNat :: ·)
  | _ :: _ => none

/-- The operations that leave alone what was there: an answer, at most one new block (of name nm), the names that are read. -/
def aN (P : Program) (ρ : Rho) (get : Nat → Option ABlk) (nm : Nat) (o : Op) : Option NR :=
  match o with
  | .move x | .assign x => pureR (ρ x)
  | .pick c a b =>
    match ρ c with
    | some (.bool true) => pureR (ρ a)
    | some (.bool false) => pureR (ρ b)
    | _ => none
  | .alloc e => match zeroT P e with
    | some v => if v.cells.all AV.isCell then some ⟨.ptr nm v.cells.length 0 0, some (.cells true v.cells.length [v.cells]), []⟩ else none
    | none => none
  | .box _ x => match ρ x with
    | some v => if v.cells.all AV.isCell then some ⟨.ptr nm v.cells.length 0 0, some (.cells true v.cells.length [v.cells]), []⟩ else none
    | none => none
  | .build t parts =>
    match zeroT P t, partsA ρ parts.toList with
    | some zv, some ps =>
      match P.underlying t with
      | some (.struct fs) => if !fs.all (fun f => (sizeT P f.type).isSome) then none else pureR ((fillA (placeS P fs) zv.cells ps).map .agg)
      | some (.array _ e) => match sizeT P e with
        | some s => pureR ((fillA (fun i => some (i * s, s)) zv.cells ps).map .agg)
        | none => none
      | _ => none
    | _, _ => none
  | .buildSlice t len parts =>
    match elemT P t, partsA ρ parts.toList with
    | some e, some ps =>
      match sizeT P e, zeroT P e with
      | some s, some zv =>
        if len * s > 16777216 ∨ s = 0 ∨ zv.cells.length ≠ s then none else
        match fillA (fun i => some (i * s, s)) (List.replicate len zv.cells).flatten ps with
        | some cs => if cs.all AV.isCell then some ⟨.slice nm s 0 len len true none, some (.cells true s (rowsOf s len cs)), []⟩ else none
        | none => none
      | _, _ => none
    | _, _ => none
  | .load t a =>
    match ρ a with
    | some (.ptr n z i f) =>
      match get n with
      | some (.cells _ z' rows) => if z = z' then match rows[i]? with
          | some row => (readAt P t row f).map fun v => ⟨v, none, [n]⟩
          | none => none
        else none
      | _ => none
    | _ => none
  | .nilCheck x =>
    match ρ x with
    | some (.ptr n z i f) => pureR (some (.ptr n z i f))
    | some (.iface t v) => pureR (some (.iface t v))
    | some (.func f cs) => pureR (some (.func f cs))
    | _ => none
  | .binOp op t x y _ =>
    match ρ x, ρ y with
    | some a, some b => pureR (aBin P op t x y a b)
    | _, _ => none
  | .unOp op _ x => match ρ x with
    | some a => pureR (aUn op a)
    | none => none
  | .convert src dst x =>
    match P.underlying src, P.underlying dst, ρ x with
    | some _, some (.int k), some (.int _ n) => pureR (some (.int k (k.wrap n)))
    | some _, some .string, some (.str s) => pureR (some (.str s))
    | some (.slice e), some .string, some .nilslice =>
      match P.underlying e with
      | some (.int .u8) => pureR (some (.str []))
      | _ => none
    | some (.slice e), some .string, some (.slice n z i len _ _ alt) =>
      match P.underlying e, z with
      | some (.int .u8), 1 =>
        if len = 0 then pureR (some (.str [])) else
        match alt, get n with
        | none, some (.cells _ 1 rows) => if i + len ≤ rows.length then (bytesA ((rows.drop i).take len)).map fun s => ⟨.str s, none, [n]⟩ else none
        | _, _ => none
      | _, _ => none
    | some .string, some (.slice e), some (.str s) =>
      match P.underlying e with
      | some (.int .u8) => some ⟨.slice nm 1 0 s.length s.length true none, some (.cells true 1 (s.map fun b => [.int .u8 b.toNat])), []⟩
      | _ => none
    | _, _, _ => none
  | .makeInterface t x =>
    match P.underlying t, ρ x with
    | some (.interface _), _ => none
    | some _, some v => pureR (some (.iface t v))
    | _, _ => none
  | .makeFunc (.func f) first captured =>
    if first.size = 0 then match valsA ρ captured.toList with
      | some cs => pureR (some (.func f cs))
      | none => none
    else none
  | .makeMap t r =>
    match P.underlying t, r with
    | some (.map _ _), none => some ⟨.map nm, some (.map []), []⟩
    | _, _ => none
  | .makeSlice t l c =>
    match elemT P t, ρ l, ρ c with
    | some e, some (.int _ l), some (.int _ c) =>
      match sizeT P e, zeroT P e, bytesT P e with
      | some s, some zv, some b =>
        if 0 ≤ l ∧ l ≤ c ∧ c ≤ 140737488355328 ∧ b * c ≤ 140737488355328 ∧ s ≠ 0 ∧ zv.cells.length = s ∧ zv.cells.all AV.isCell then
          some ⟨.slice nm s 0 l.toNat c.toNat true none, some (.cells true s (List.replicate c.toNat zv.cells)), []⟩
        else none
      | _, _, _ => none
    | _, _, _ => none
  | .slice t x lo hi mx =>
    match ρ x, optA none (fun o => (ρ o).map some) lo, optA none (fun o => (ρ o).map some) hi, optA none (fun o => (ρ o).map some) mx with
    | some v, some lo, some hi, some mx => pureR (sliceA P t v lo hi mx)
    | _, _, _, _ => none
  | .fieldAddr t x f =>
    match ρ x, fieldT P t f with
    | some (.ptr n z i g), some fl => match sizeT P fl.type with
      | some s => if s = 0 then none else pureR (some (.ptr n z i (g + fl.offset)))
      | none => none
    | _, _ => none
  | .field t x f =>
    match ρ x, fieldT P t f with
    | some (.agg cs), some fl => pureR (partAt P fl.type cs fl.offset)
    | _, _ => none
  | .indexAddr t x ix =>
    match P.underlying t, ρ x, ρ ix with
    | some (.array len e), some (.ptr n z r f), some (.int _ i) =>
      match sizeT P e with
      | some s => if 0 ≤ i ∧ i < (len : Int) then pureR (some (.ptr n z r (f + i.toNat * s))) else none
      | none => none
    | some (.slice e), some (.slice n z o len _ _ none), some (.int _ i) =>
      if sizeT P e = some z ∧ 0 ≤ i ∧ i < (len : Int) then pureR (some (.ptr n z (o + i.toNat) 0)) else none
    | _, _, _ => none
  | .index t x ix =>
    match P.underlying t, ρ x, ρ ix with
    | some (.array len e), some (.agg cs), some (.int _ i) =>
      match sizeT P e with
      | some s => if 0 ≤ i ∧ i < (len : Int) then pureR (partAt P e cs (i.toNat * s)) else none
      | none => none
    | some .string, some (.str s), some (.int _ i) =>
      if 0 ≤ i then match s[i.toNat]? with
        | some b => pureR (some (.int .u8 b.toNat))
        | none => none
      else none
    | _, _, _ => none
  | .lookup t x k ok =>
    match P.underlying t, ρ x, ρ k with
    | some (.map kt e), some m, some key =>
      match P.underlying kt with
      | some kd =>
        if !keyFits kd key then none else
        let fin (r : Option AV) (rd : List Nat) : Option NR := match r with
          | some v => some ⟨if ok then .tuple [v, .bool true] else v, none, rd⟩
          | none => match zeroT P e with
            | some v => some ⟨if ok then .tuple [v, .bool false] else v, none, rd⟩
            | none => none
        match m with
        | .nilmap => fin none []
        | .map n => match get n with
          | some (.map es) => match findA key es with
            | some r => fin r [n]
            | none => none
          | _ => none
        | _ => none
      | none => none
    | _, _, _ => none
  | .extract x i =>
    match ρ x with
    | some (.tuple vs) => pureR (vs[i]?)
    | _ => none
  | .call { callee := .builtin .len, args, argTypes } =>
    match args.toList, argTypes.toList with
    | [x], [t] =>
      match P.underlying t, ρ x with
      | some .string, some (.str s) => pureR (some (.int .i64 s.length))
      | some (.array n _), some _ => pureR (some (.int .i64 n))
      | some (.slice _), some .nilslice => pureR (some (.int .i64 0))
      | some (.slice _), some (.slice _ _ _ n _ _ _) => pureR (some (.int .i64 n))
      | some (.map _ _), some .nilmap => pureR (some (.int .i64 0))
      | some (.map _ _), some (.map n) => match get n with
        | some (.map es) => some ⟨.int .i64 es.length, none, [n]⟩
        | _ => none
      | _, _ => none
    | _, _ => none
  | .call { callee := .builtin .min, args, argTypes := _ } =>
    match args.toList with
    | [x, y] => match ρ x, ρ y with
      | some (.int k a), some (.int _ b) => pureR (some (.int k (if b < a then b else a)))
      | _, _ => none
    | _ => none
  | .call { callee := .builtin .max, args, argTypes := _ } =>
    match args.toList with
    | [x, y] => match ρ x, ρ y with
      | some (.int k a), some (.int _ b) => pureR (some (.int k (if b > a then b else a)))
      | _, _ => none
    | _ => none
  | _ => none

end Go.Ab
