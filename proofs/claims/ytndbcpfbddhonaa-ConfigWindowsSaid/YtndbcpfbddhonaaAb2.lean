/- The abstract machine's steps: operations that write, regions, code, calls. Definitions only. -/
import Derived.Test.YtndbcpfbddhonaaAb1
namespace Go.Ab

structure St where
  sl : List (Option AV)
  m : Mem
  c : Nat
/-- What a call comes to: the answer, the memory, the next free name. -/
abbrev CallA := FuncId → List AV → Mem → Nat → Option (AV × Mem × Nat)

def evalA (sl : List (Option AV)) : Rho
  | .tmp t => sl.getD t none
  | .const v => absV v
  | .func f => some (.func f [])
  | .global _ => none

def putA (sl : List (Option AV)) (d : Option Tmp) (v : Option AV) : List (Option AV) :=
  match d with
  | some d => sl.set d v
  | none => sl

/-- The guard's word: is the operation done? -/
def wantedA (ops : Array Oper) (o : Oper) (sl : List (Option AV)) : Option Bool :=
  match o.guard with
  | none => some true
  | some (j, want) =>
    match (ops[j]?).bind (·.dst) with
    | some d => match sl.getD d none with
      | some (.bool b) => some (b == want)
      | some (.tuple []) => some false
      | _ => none
    | none => none

/-- The rows that are appended; the names that are read. -/
def srcA (P : Program) (get : Nat → Option ABlk) (z : Nat) (tx : TypeId) : AV → Option (List (List AV))
  | .nilslice => match P.underlying tx with
    | some (.slice _) => some []
    | _ => none
  | .slice n z' i len _ _ alt =>
    match P.underlying tx with
    | some (.slice _) =>
      if len = 0 then some [] else
      match alt, get n with
      | none, some (.cells _ z'' rows) => if z' = z ∧ z'' = z ∧ i + len ≤ rows.length then some ((rows.drop i).take len) else none
      | _, _ => none
    | _ => none
  | .str s => match P.underlying tx with
    | some .string => if z = 1 then some (s.map fun b => [.int .u8 b.toNat]) else none
    | _ => none
  | _ => none

def appendA (P : Program) (m : Mem) (nm : Nat) (ts tx : TypeId) (s x : AV) : Option (AV × Mem) :=
  match elemT P ts with
  | none => none
  | some e =>
  match sizeT P e, bytesT P e, zeroT P e with
  | some z, some b, some zv =>
    if z = 0 ∨ zv.cells.length ≠ z then none else
    match srcA P m.get z tx x with
    | none => none
    | some src =>
      match s with
      | .nilslice =>
        if src.length = 0 then some (.nilslice, m)
        else if src.length * b ≤ 140737488355328 ∧ src.length ≤ 140737488355328 then some (.slice nm z 0 src.length src.length true none, m.new nm (.cells true z src))
        else none
      | .slice n z' i len cap opn alt =>
        if z' ≠ z ∨ ¬ len ≤ cap then none
        else if src.length = 0 then some (s, m)
        else if ¬ ((len + src.length) * b ≤ 140737488355328 ∧ len + src.length ≤ 140737488355328) then none
        else match opn with
        | false =>
          if len + src.length ≤ cap then none
          else if len = 0 then some (.slice nm z 0 src.length src.length true none, m.new nm (.cells true z src))
          else match m.get n with
            | some (.cells _ z'' rows) =>
              if z'' = z ∧ i + len ≤ rows.length ∧ alt.isNone then
                some (.slice nm z 0 (len + src.length) (len + src.length) true none, m.new nm (.cells true z ((rows.drop i).take len ++ src)))
              else none
            | _ => none
        | true =>
          match m.get n with
          | some (.cells true z'' rows) =>
            if z'' = z ∧ i + cap = rows.length ∧ (alt.isNone ∨ len = 0) then
              if len + src.length ≤ cap then
                (if alt.isNone then some (.slice n z i (len + src.length) cap true none, m.write n (some (.cells true z (rows.take (i + len) ++ src ++ rows.drop (i + len + src.length))))) else none)
              else some (.slice nm z 0 (len + src.length) (len + src.length) true none, (m.write n none).new nm (.cells true z ((rows.drop i).take len ++ src)))
            else none
          | _ => none
      | _ => none
  | _, _, _ => none

/-- Operations that write, or call. -/
def aX (P : Program) (call : CallA) (ρ : Rho) (m : Mem) (c nm : Nat) (o : Op) : Option (Option AV × Mem × Nat) :=
  match o with
  | .store t a x =>
    match ρ a, ρ x, sizeT P t with
    | some (.ptr n z i f), some v, some s =>
      match m.get n with
      | some (.cells true z' rows) =>
        match rows[i]? with
        | some row => if z = z' ∧ v.cells.length = s ∧ f + s ≤ row.length ∧ v.cells.all AV.isCell then some (none, m.write n (some (.cells true z (rows.set i (setCells row f v.cells)))), c) else none
        | none => none
      | _ => none
    | _, _, _ => none
  | .mapUpdate t x k v =>
    match P.underlying t, ρ x, ρ k, ρ v with
    | some (.map kt _), some (.map n), some key, some v =>
      match P.underlying kt, m.get n with
      | some kd, some (.map es) => if keyFits kd key then (setA key v es).map fun es => (none, m.write n (some (.map es)), c) else none
      | _, _ => none
    | _, _, _, _ => none
  | .call { callee := .builtin .append, args, argTypes } =>
    match args.toList, argTypes.toList with
    | [s, x], [ts, tx] =>
      match ρ s, ρ x with
      | some s, some x => (appendA P m nm ts tx s x).map fun r => (some r.1, r.2, c)
      | _, _ => none
    | _, _ => none
  | .call { callee := .value f, args, argTypes := _ } =>
    match ρ f, valsA ρ args.toList with
    | some (.func f cs), some vs => (call f (vs ++ cs) m c).map fun r => (some r.1, r.2.1, r.2.2)
    | _, _ => none
  | .convert src dst x =>
    match P.underlying src, P.underlying dst, ρ x with
    | some (.slice _), some (.slice e), some (.slice n z i len cap opn alt) =>
      match P.underlying e, m.get n with
      | some (.int .u8), some (.cells true z' rows) => if src = dst then some (some (.slice n z i len cap opn alt), m.write n (some (.cells true z' rows)), c) else none
      | _, _ => none
    | _, _, _ => none
  | _ => none

def isX : Op → Bool
  | .store .. | .mapUpdate .. => true
  | .call { callee := .builtin .append, .. } | .call { callee := .value _, .. } | .call { callee := .invoke _ _, .. } => true
  | .convert src dst _ => Nat.beq src dst
  | _ => false

/-! ### values that are not reckoned with -/
def strip : AV → AV
  | .sym v => v
  | v => v
mutual
def norm : AV → AV
  | .sym v => norm v
  | .func f cs => .func f (normL cs)
  | .iface t v => .iface t (norm v)
  | .agg cs => .agg (normL cs)
  | .tuple vs => .tuple (normL vs)
  | .bool b => .bool b
  | .int k n => .int k n
  | .str s => .str s
  | .nilptr => .nilptr
  | .ptr n z i f => .ptr n z i f
  | .nilslice => .nilslice
  | .slice n z i len cap opn alt => .slice n z i len cap opn alt
  | .nilmap => .nilmap
  | .map n => .map n
  | .nilfunc => .nilfunc
  | .niliface => .niliface
def normL : List AV → List AV
  | [] => []
  | v :: vs => norm v :: normL vs
end
mutual
def hasSym : AV → Bool
  | .sym _ => true
  | .agg cs => hasSymL cs
  | _ => false
def hasSymL : List AV → Bool
  | [] => false
  | v :: vs => hasSym v || hasSymL vs
end
def mark : AV → AV
  | .int k n => .sym (.int k n)
  | .str s => .sym (.str s)
  | .ptr n z i f => .sym (.ptr n z i f)
  | .slice n z i len cap opn alt => .sym (.slice n z i len cap opn alt)
  | v => v
def symO : Option AV → Bool
  | some (.sym _) => true
  | _ => false
def deepO : Option AV → Bool
  | some v => hasSym v
  | none => false
def symB (ρ : Rho) : Option Operand → Bool
  | some x => symO (ρ x)
  | none => false
def usesSym (ρ : Rho) (o : Op) : Bool :=
  match o with
  | .binOp _ _ x y _ => deepO (ρ x) || deepO (ρ y)
  | .unOp _ _ x | .convert _ _ x | .load _ x | .nilCheck x | .fieldAddr _ x _ => symO (ρ x)
  | .indexAddr _ x y | .index _ x y | .lookup _ x y _ => symO (ρ x) || symO (ρ y)
  | .slice _ x lo hi mx => symO (ρ x) || (symB ρ lo || (symB ρ hi || symB ρ mx))
  | .makeSlice _ l c => symO (ρ l) || symO (ρ c)
  | .call { callee := .builtin _, args, argTypes := _ } => args.toList.any fun x => symO (ρ x)
  | _ => false
def symRho (ρ : Rho) (o : Op) : Rho :=
  match o with
  | .binOp .. => fun x => (ρ x).map norm
  | _ => fun x => (ρ x).map strip
def symBlk : ABlk → ABlk
  | .map es => .map (es.map fun e => (norm e.1, e.2))
  | b => b
def symV (o : Op) (v : AV) : AV :=
  match o with
  | .load .. | .lookup .. => v
  | _ => mark v
/-- aN, and what it says of values that are not reckoned with: their marks taken off, the answer marked. -/
def aM (P : Program) (ρ : Rho) (get : Nat → Option ABlk) (nm : Nat) (o : Op) : Option NR :=
  if usesSym ρ o then (aN P (symRho ρ o) (fun n => (get n).map symBlk) nm o).map fun r => ⟨symV o r.v, r.nb, r.rd⟩ else aN P ρ get nm o

def stripAt (ρ : Rho) : Operand → Rho
  | .tmp t => fun y => match y with
    | .tmp t' => if t' = t then (ρ y).map strip else ρ y
    | y => ρ y
  | _ => ρ
def symX (ρ : Rho) (o : Op) : Rho :=
  match o with
  | .store _ a _ => stripAt ρ a
  | .mapUpdate _ _ k _ => stripAt ρ k
  | .call { callee := .builtin .append, .. } => fun y => (ρ y).map strip
  | _ => ρ
def symXV (ρ : Rho) (o : Op) (v : AV) : AV :=
  match o with
  | .call { callee := .builtin .append, args, argTypes := _ } => if args.toList.any fun x => symO (ρ x) then mark v else v
  | _ => v
def aXM (P : Program) (call : CallA) (ρ : Rho) (m : Mem) (c nm : Nat) (o : Op) : Option (Option AV × Mem × Nat) :=
  (aX P call (symX ρ o) m c nm o).map fun r => (r.1.map (symXV ρ o), r.2)

/-- What an operation did: does it write or call; did it make a block; the names that it read, that it wrote. -/
structure Tc where
  x : Bool
  a : Bool
  rd : List Nat
  wr : List Nat

def oneOp (P : Program) (call : CallA) (ops : Array Oper) (base i : Nat) (s : St) : Option (St × Tc) :=
  match ops[i]? with
  | none => none
  | some o =>
    match wantedA ops o s.sl with
    | none => none
    | some false => some (⟨putA s.sl o.dst (some (.tuple [])), s.m, s.c⟩, ⟨false, false, [], []⟩)
    | some true =>
      if isX o.op then
        match aXM P call (evalA s.sl) s.m s.c (base + i) o.op with
        | some (v, m', c') => some (⟨putA s.sl o.dst v, m', c'⟩, ⟨true, false, [], m'.log.take (m'.log.length - s.m.log.length)⟩)
        | none => none
      else
        match aM P (evalA s.sl) s.m.get (base + i) o.op with
        | some ⟨v, none, rd⟩ => some (⟨putA s.sl o.dst (some v), s.m, s.c⟩, ⟨false, false, rd, []⟩)
        | some ⟨v, some b, rd⟩ => some (⟨putA s.sl o.dst (some v), s.m.new (base + i) b, s.c⟩, ⟨false, true, rd, []⟩)
        | none => none

def runOps (P : Program) (call : CallA) (ops : Array Oper) (base : Nat) : List Nat → St → Option St
  | [], s => some s
  | i :: r, s => match oneOp P call ops base i s with
    | some (s', _) => runOps P call ops base r s'
    | none => none
def runOpsT (P : Program) (call : CallA) (ops : Array Oper) (base : Nat) : List Nat → St → Option (St × List Tc)
  | [], s => some (s, [])
  | i :: r, s => match oneOp P call ops base i s with
    | some (s', t) => match runOpsT P call ops base r s' with
      | some (s'', ts) => some (s'', t :: ts)
      | none => none
    | none => none

/-- May two operations change places? -/
def pairOk (t u : Tc) : Bool :=
  !(t.x && u.x) && !(t.a && u.x) && (!t.x || u.rd.all fun n => !t.wr.contains n) && (!u.x || t.rd.all fun n => !u.wr.contains n)
def statOk (ops : Array Oper) (b : Array Nat) (i j : Nat) : Bool :=
  match ops[i]?, ops[j]? with
  | some x, some y => (b.getD j 0).testBit i || x.apart ops y
  | _, _ => false
def drawnOk (ops : Array Oper) (ts : List Tc) : Bool :=
  let b := Region.before ops
  (List.range ops.size).all fun j =>
    (match ops[j]? with
     | some o => (o.after.all fun e => !Region.binds .any e || decide (e.on < j)) && (match o.op with | .select .. => false | _ => true)
     | none => false) &&
    (List.range j).all fun i => statOk ops b i j && ((b.getD j 0).testBit i || pairOk (ts.getD i ⟨true, true, [], []⟩) (ts.getD j ⟨true, true, [], []⟩))

def aRegion (P : Program) (call : CallA) (ops : Array Oper) (draw : Bool) (s : St) : Option St :=
  if draw then
    match runOpsT P call ops s.c (List.range ops.size) ⟨s.sl, s.m, s.c + ops.size⟩ with
    | some (s', ts) => if drawnOk ops ts then some s' else none
    | none => none
  else runOps P call ops s.c (List.range ops.size) ⟨s.sl, s.m, s.c + ops.size⟩

inductive Out where
  | normal
  | exit (id : Nat)
  | ret

def aLoop (body : St → Option (Out × St)) (forget : List (Option AV) → List (Option AV)) : Nat → St → Option (Out × St)
  | 0, _ => none
  | k + 1, s => match body ⟨forget s.sl, s.m, s.c⟩ with
    | some (.normal, s') => aLoop body forget k s'
    | r => r

def keepA (live : List Nat) (sl : List (Option AV)) : List (Option AV) :=
  (sl.zipIdx).map fun (v, i) => if live.contains i then v else none

def aCode (P : Program) (call : CallA) (k : Nat) (live : Nat → Option (List Nat)) : Nat → Code → St → Option (Out × St)
  | _, .skip, s => some (.normal, s)
  | _, .region _ ops draw, s => match aRegion P call ops draw s with
    | some s' => some (.normal, s')
    | none => none
  | b, .seq x y, s => match aCode P call k live b x s with
    | some (.normal, s') => aCode P call k live b y s'
    | r => r
  | b, .cond c x y, s => match evalA s.sl c with
    | some (.bool true) => aCode P call k live b x s
    | some (.bool false) => aCode P call k live b y s
    | _ => none
  | _, .block id x, s => match aCode P call k live id x s with
    | some (.exit id', s') => if id' = id then some (.normal, s') else some (.exit id', s')
    | r => r
  | b, .loop x, s => aLoop (aCode P call k live b x) (match live b with | some l => keepA l | none => id) k s
  | _, .exit id, s => some (.exit id, s)
  | _, .ret, s => some (.ret, s)
  | _, _, _ => none

def resA (P : Program) (m : Mem) (sl : List (Option AV)) : ResultVar → Option AV
  | .tmp t => sl.getD t none
  | .cell a t => match sl.getD a none with
    | some (.ptr n z i f) => match m.get n with
      | some (.cells _ z' rows) => if z = z' then match rows[i]? with
          | some row => readAt P t row f
          | none => none
        else none
      | _ => none
    | _ => none
def resL (P : Program) (m : Mem) (sl : List (Option AV)) : List ResultVar → Option (List AV)
  | [] => some []
  | r :: rs => match resA P m sl r, resL P m sl rs with
    | some v, some vs => some (v :: vs)
    | _, _ => none
def resT : List AV → AV
  | [v] => v
  | vs => .tuple vs

/-- The functions that are taken by a contract instead of their text, and each function's loops' slots. -/
structure Hints where
  ext : FuncId → Option (List AV → Mem → Nat → Option (AV × Mem × Nat))
  live : FuncId → Nat → Option (List Nat)

def aRun (P : Program) (H : Hints) : Nat → CallA
  | 0, _, _, _, _ => none
  | k + 1, f, args, m, c =>
    match H.ext f with
    | some g => g args m c
    | none =>
    match P.funcs[f]? with
    | none => none
    | some fn =>
      match fn.body with
      | none => none
      | some body =>
        if fn.name = "runtime.NumGoroutine" then none else
        match aCode P (aRun P H k) k (H.live f) 0 body ⟨args.map some ++ List.replicate (fn.ntmps - args.length) none, m, c⟩ with
        | some (.exit _, _) => none
        | some (_, s) => (resL P s.m s.sl fn.results.toList).map fun vs => (resT vs, s.m, s.c)
        | none => none

end Go.Ab
