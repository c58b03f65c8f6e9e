/-
Part 0 of a proof: the machine PM, its law, the walks through the program, and what they say: PMAppend, PMArith, PMDef, PMLoad, PMMake, PMMaps, PMMem, PMMore, PMParts, PMRel, PMSlice, PMVal.
-/
import Derived.Calls
import Derived.IntWalk
import Derived.Laws.AppendOwn
import Derived.LoopN
import Derived.Maps.AppendAt
import Derived.Still
set_option linter.unusedVariables false
set_option linter.unusedSimpArgs false
set_option linter.unusedSectionVars false
set_option linter.unnecessarySimpa false
namespace Go.PM

/-- Values that nobody writes any more. -/
inductive RV where
  | int (k : IntKind) (n : Int)
  | bool (b : Bool)
  | str (s : ByteArray)
  | nilp | nils | nilm | nilf
  | vptr (row : List RV) (off : Nat)
  | vsl (sz : Nat) (rows : List (List RV))
  | esl
  | fn (f : FuncId) (cap : List RV)
  | agg (cells : List RV)
  | tup (vs : List RV)
  deriving Inhabited

/-- What a closure has captured: a value, or a variable of a frame (d: how many frames up). -/
inductive CV where
  | ro (v : RV)
  | ptr (d k ri off : Nat)
  deriving Inhabited

/-- The value of one cell. -/
inductive SV where
  | ro (v : RV)
  | ptr (d k ri off : Nat)
  | sl (d k off len : Nat)
  | tsl (sz : Nat) (rows : List (List RV)) (d k : Nat)
  | mp (d k : Nat)
  | it (k : Nat)
  | fn (f : FuncId) (cap : List CV)
  | yld (d k : Nat)
  | undef
  deriving Inhabited

inductive PV where
  | s (v : SV)
  | agg (cells : List SV)
  deriving Inhabited

inductive PExit where
  | normal
  | exit (id : Nat)
  | ret
  deriving Inhabited

/-- How a range over a function stands: between two rounds, in one, left by a jump. -/
inductive LState where
  | ready
  | busy
  | done (e : PExit)
  deriving Inhabited

/-- The code of a range over a function. -/
structure LoopCode where
  ps : List Tmp
  assign : Code
  body : Code

/-- A block of a frame. -/
inductive LB where
  | none
  | box (cells : List SV)
  | arr (sz : Nat) (rows : List (List RV))
  | froz (sz : Nat) (rows : List (List RV))
  | tok (sz n : Nat)
  | map (es : List (RV × RV))
  | iter (s : ByteArray) (pos : Nat)
  | loop (f key n : Nat) (env : List (Nat × PV)) (st : LState)
  deriving Inhabited

abbrev Frames := List (List LB)

structure St where
  tmps : List PV
  fr : Frames

inductive Shape where
  | drop
  | int (k : IntKind)
  | bool
  | str
  | ro
  | keep
  | tsl (sz k : Nat)
  | ren (i : Nat)

inductive LShape where
  | keep
  | box (cells : List Shape)
  | arr (sz : Nat)
  | tok (sz : Nat)
  | map

/-- What a run is told beside the program; nothing hangs on it for soundness. -/
structure Hint where
  alloc : FuncId → Nat → Nat
  move : FuncId → Bool
  norm : FuncId → Nat → Option (List Shape × List LShape)
  eqFlat : TypeId → Bool
  lfuel : Nat
  toks : FuncId → Nat → List (Nat × Nat)
  snap : FuncId → Nat → List Nat
  /-- Calls that only look at slices of ours that may still be written: by function and target. -/
  view : FuncId → Nat → Bool
  /-- Calls whose answer, a slice of ours, nobody writes any more. -/
  shut : FuncId → Nat → Bool

def undefP : PV := .s .undef
def skipP : PV := .s (.ro (.tup []))
abbrev PV.ro (v : RV) : PV := .s (.ro v)

def ofConst : Value → RV
  | .int k n => .int k n
  | .bool b => .bool b
  | .string s => .str s
  | .pointer none => .nilp
  | .slice none 0 0 => .nils
  | .map none => .nilm
  | .nilFunc => .nilf
  | _ => .tup []

def constOK : Value → Bool
  | .int _ _ | .bool _ | .string _ | .pointer none | .slice none 0 0 | .map none | .nilFunc => true
  | _ => false

def constAll : List Value → List RV
  | [] => []
  | v :: vs => ofConst v :: constAll vs

def constAllOK : List Value → Bool
  | [] => true
  | v :: vs => constOK v && constAllOK vs

def St.ev (st : St) : Operand → PV
  | .tmp t => st.tmps.getD t undefP
  | .const v => match constOK v with
    | true => .ro (ofConst v)
    | false => undefP
  | .func f => .ro (.fn f [])
  | .global _ => undefP

/-- A slice that was appended to, as a value. -/
def sealT (sz : Nat) (rows : List (List RV)) : RV :=
  match rows with
  | [] => .nils
  | _ => .vsl sz rows

section
variable {R : Type}

def wInt (v : PV) (K : IntKind → Int → Option R) : Option R :=
  match v with
  | .s (.ro (.int k n)) => K k n
  | _ => none
def wBool (v : PV) (K : Bool → Option R) : Option R :=
  match v with
  | .s (.ro (.bool b)) => K b
  | _ => none

/-- The cells of a value. -/
def cellsOf : PV → List SV
  | .s (.ro (.agg vs)) => vs.map .ro
  | .s v => [v]
  | .agg cs => cs

/-- All cells values that nobody writes. -/
def sealAll : List SV → (List RV → Option R) → Option R
  | [], K => K []
  | .ro v :: r, K => sealAll r fun vs => K (v :: vs)
  | .tsl sz rows _ _ :: r, K => sealAll r fun vs => K ((sealT sz rows) :: vs)
  | _ :: _, _ => none

def wRo (v : PV) (K : RV → Option R) : Option R :=
  match v with
  | .s (.ro v) => K v
  | .s (.tsl sz rows _ _) => K (sealT sz rows)
  | .agg cs => sealAll cs fun vs => K (.agg vs)
  | _ => none

def mkAgg (cs : List SV) (K : PV → Option R) : Option R :=
  match go cs with
  | some vs => K (.ro (.agg vs))
  | none => K (.agg cs)
where
  go : List SV → Option (List RV)
  | [] => some []
  | .ro v :: r => match go r with
    | some vs => some (v :: vs)
    | none => none
  | _ :: _ => none

def lbAt (fr : Frames) (d k : Nat) : LB := (fr.getD d []).getD k .none
def setAt (fr : Frames) (d k : Nat) (b : LB) : Frames := fr.set d ((fr.getD d []).set k b)
def setLoc (loc : List LB) (ix : Nat) (b : LB) : List LB :=
  match Nat.blt ix loc.length with
  | true => loc.set ix b
  | false => loc ++ List.replicate (ix - loc.length) .none ++ [b]

def allocK (fr : Frames) (ix : Nat) (b : LB) (K : Frames → Option R) : Option R :=
  match fr with
  | [] => none
  | l :: r => match l.getD ix .none with
    | .none => K (setLoc l ix b :: r)
    | _ => none

def CV.shift (d : Nat) : CV → CV
  | .ro v => .ro v
  | .ptr e k ri off => .ptr (e + d) k ri off
def SV.shift (d : Nat) : SV → SV
  | .ro v => .ro v
  | .ptr e k ri off => .ptr (e + d) k ri off
  | .sl e k off len => .sl (e + d) k off len
  | .tsl sz rows e k => .tsl sz rows (e + d) k
  | .mp e k => .mp (e + d) k
  | .fn f cap => .fn f (cap.map (CV.shift d))
  | .yld e k => .yld (e + d) k
  | .it _ => .undef
  | .undef => .undef
/-- As an argument: one frame further down. -/
def toArg : PV → PV
  | .s (.tsl sz rows _ _) => .ro (sealT sz rows)
  | .s v => .s (v.shift 1)
  | .agg cs => .agg (cs.map (SV.shift 1))
def CV.toPV : CV → PV
  | .ro v => .ro v
  | .ptr d k ri off => .s (.ptr d k ri off)
def unshift (d : Nat) : SV → (SV → Option R) → Option R
  | .ro v, K => K (.ro v)
  | .ptr e k ri off, K => match Nat.ble d e with
    | true => K (.ptr (e - d) k ri off)
    | false => none
  | .sl e k off len, K => match Nat.ble d e with
    | true => K (.sl (e - d) k off len)
    | false => none
  | .tsl sz rows e k, K => match Nat.ble d e with
    | true => K (.tsl sz rows (e - d) k)
    | false => none
  | .mp e k, K => match d with
    | 0 => K (.mp e k)
    | _ => none
  | .fn f cap, K => match d with
    | 0 => K (.fn f cap)
    | _ => none
  | _, _ => none
def unshiftAll (d : Nat) : List SV → (List SV → Option R) → Option R
  | [], K => K []
  | v :: r, K => unshift d v fun v' => unshiftAll d r fun r' => K (v' :: r')

def splice {α : Type} (l : List α) (off : Nat) (cs : List α) : List α := l.take off ++ cs ++ l.drop (off + cs.length)

/-! ### What types say -/
def isAggT (P : Program) (t : TypeId) : Option Bool :=
  match P.underlying t with
  | some (.struct _) | some (.array _ _) => some true
  | some _ => some false
  | none => none
def sizeT (P : Program) (t : TypeId) : Nat := ((P.info? t).map (·.size)).getD 0
def bytesT (P : Program) (t : TypeId) : Nat := ((P.info? t).map (·.bytes)).getD 0
def zeroT (P : Program) (t : TypeId) (K : List RV → Option R) : Option R :=
  match P.info? t with
  | some i => match i.zero with
    | some (.agg cs) => match constAllOK cs.toList && (cs.size == i.size) with
      | true => K (constAll cs.toList)
      | false => none
    | some v => match constOK v && (1 == i.size) with
      | true => K [ofConst v]
      | false => none
    | none => none
  | none => none

def zero1 (P : Program) (t : TypeId) (K : RV → Option R) : Option R :=
  match P.info? t with
  | some i => match i.zero with
    | some v => match constOK v with
      | true => K (ofConst v)
      | false => none
    | none => none
  | none => none

/-- A type with a zero value of its size. -/
def elemOKb (P : Program) (e : TypeId) : Bool :=
  match P.info? e with
  | some i => match i.zero with
    | some z => z.cells.size == i.size
    | none => false
  | none => false
/-- A struct type all of whose fields' types are there. -/
def fieldsOKb (P : Program) (t : TypeId) : Bool :=
  match P.underlying t with
  | some (.struct fs) => fs.toList.all fun f => (P.info? f.type).isSome
  | some (.array _ e) => (P.info? e).isSome
  | _ => false

/-! ### Slices -/
/-- The rows of a slice that is read. -/
def wRows (fr : Frames) (v : PV) (K : Nat → List (List RV) → Option R) : Option R :=
  match v with
  | .s (.ro .nils) => K 0 []
  | .s (.ro .esl) => K 0 []
  | .s (.ro (.vsl sz rows)) => K sz rows
  | .s (.tsl sz rows _ _) => K sz rows
  | .s (.sl d k off len) => match lbAt fr d k with
    | .arr sz rows => K sz ((rows.drop off).take len)
    | _ => none
  | _ => none

def wLen (v : PV) (K : Nat → Option R) : Option R :=
  match v with
  | .s (.ro .nils) => K 0
  | .s (.ro .esl) => K 0
  | .s (.ro (.vsl _ rows)) => K rows.length
  | .s (.ro (.str s)) => K s.size
  | .s (.tsl _ rows _ _) => K rows.length
  | .s (.sl _ _ _ len) => K len
  | _ => none

def indexRows (size : Nat) (sz : Nat) (rows : List (List RV)) (i : Int) (K : PV → Option R) : Option R :=
  match decide (0 ≤ i), rows[i.toNat]?, sz == size && Nat.blt 0 size with
  | true, some row, true => K (.ro (.vptr row 0))
  | _, _, _ => none

def indexAddrK (P : Program) (fr : Frames) (t : TypeId) (x : PV) (i : Int) (K : PV → Option R) : Option R :=
  match P.underlying t with
  | some (.slice e) => match x with
    | .s (.ro (.vsl sz rows)) => indexRows (sizeT P e) sz rows i K
    | .s (.tsl sz rows _ _) => indexRows (sizeT P e) sz rows i K
    | .s (.sl d k off len) => match lbAt fr d k with
      | .arr sz rows => match decide (0 ≤ i) && decide (i < len) && (sz == sizeT P e && Nat.blt 0 (sizeT P e)) && Nat.blt (off + i.toNat) rows.length with
        | true => K (.s (.ptr d k (off + i.toNat) 0))
        | false => none
      | _ => none
    | _ => none
  | some (.array n e) => match decide (0 ≤ i) && decide (i < n) && Nat.blt 1 n && Nat.blt 0 (sizeT P e) with
    | true => match x with
      | .s (.ro (.vptr row o)) => K (.ro (.vptr row (o + i.toNat * sizeT P e)))
      | .s (.ptr d k ri o) => K (.s (.ptr d k ri (o + i.toNat * sizeT P e)))
      | _ => none
    | false => none
  | _ => none

def fieldOff (P : Program) (t : TypeId) (f : Nat) : Option (Nat × TypeId) :=
  match P.underlying t with
  | some (.struct fs) => match fs[f]? with
    | some fd => match sizeT P fd.type with
      | 0 => none
      | _ => some (fd.offset, fd.type)
    | none => none
  | _ => none

def loadRow (agg : Bool) (n : Nat) (row : List RV) (o : Nat) (K : PV → Option R) : Option R :=
  match agg with
  | false => match row[o]? with
    | some v => K (.ro v)
    | none => none
  | true => match Nat.ble (o + n) row.length with
    | true => K (.ro (.agg ((row.drop o).take n)))
    | false => none

def loadBox (agg : Bool) (n : Nat) (d : Nat) (row : List SV) (o : Nat) (K : PV → Option R) : Option R :=
  match agg with
  | false => match row[o]? with
    | some v => K (.s (v.shift d))
    | none => none
  | true => match Nat.ble (o + n) row.length with
    | true => mkAgg (((row.drop o).take n).map (SV.shift d)) K
    | false => none

def loadK (P : Program) (fr : Frames) (t : TypeId) (x : PV) (K : PV → Option R) : Option R :=
  match isAggT P t with
  | some agg => match x with
    | .s (.ro (.vptr row o)) => loadRow agg (sizeT P t) row o K
    | .s (.ptr d k ri o) => match lbAt fr d k with
      | .box cells => match ri with
        | 0 => loadBox agg (sizeT P t) d cells o K
        | _ => none
      | .arr _ rows => match rows[ri]? with
        | some row => loadRow agg (sizeT P t) row o K
        | none => none
      | .froz _ rows => match rows[ri]? with
        | some row => loadRow agg (sizeT P t) row o K
        | none => none
      | _ => none
    | _ => none
  | none => none

def storable : PV → Bool
  | .s (.ro (.tup _)) => false
  | .s .undef => false
  | _ => true

def storeK (P : Program) (fr : Frames) (t : TypeId) (x v : PV) (K : Frames → Option R) : Option R :=
  match x with
  | .s (.ptr d k ri o) => match isAggT P t, storable v, (cellsOf v).length == sizeT P t with
    | some _, true, true => match lbAt fr d k with
      | .box cells => match Nat.ble (o + (cellsOf v).length) cells.length with
        | true => match ri with
          | 0 => unshiftAll d (cellsOf v) fun cs => K (setAt fr d k (.box (splice cells o cs)))
          | _ => none
        | false => none
      | .arr sz rows => match rows[ri]? with
        | some row => match Nat.ble (o + (cellsOf v).length) row.length with
          | true => sealAll (cellsOf v) fun cs => K (setAt fr d k (.arr sz (rows.set ri (splice row o cs))))
          | false => none
        | none => none
      | _ => none
    | _, _, _ => none
  | _ => none

/-! ### Arithmetic -/
def back (k : IntKind) (r : BitVec k.bits) : Int := k.wrap r.toNat
def rvEq : RV → RV → Option Bool
  | .int k a, .int k' b => match decide (k = k') with
    | true => some (a == b)
    | false => none
  | .bool a, .bool b => some (a == b)
  | .str a, .str b => some (a == b)
  | _, _ => none
def rvEqAll : List RV → List RV → Option Bool
  | [], [] => some true
  | a :: x, b :: y => match rvEq a b, rvEqAll x y with
    | some c, some d => some (c && d)
    | _, _ => none
  | _, _ => none
/-- The kinds of the cells of an array or a struct of integers. -/
def intFields (P : Program) : List Field → Nat → Option (List IntKind)
  | [], _ => some []
  | f :: fs, off => match P.underlying f.type, f.offset == off, intFields P fs (off + 1) with
    | some (.int k), true, some r => some (k :: r)
    | _, _, _ => none
def flatKinds (P : Program) (t : TypeId) : Option (List IntKind) :=
  match P.underlying t with
  | some (.array n e) => match P.underlying e with
    | some (.int k) => match sizeT P e == 1 with
      | true => some (List.replicate n k)
      | false => none
    | _ => none
  | some (.struct fs) => intFields P fs.toList 0
  | _ => none
def flatCells : List IntKind → List RV → Bool
  | [], [] => true
  | k :: ks, .int k' _ :: r => decide (k = k') && flatCells ks r
  | _, _ => false
def flatOK (P : Program) (t : TypeId) (a : List RV) : Bool :=
  match flatKinds P t with
  | some ks => flatCells ks a
  | none => false
def flatEq (P : Program) (t : TypeId) (a b : List RV) : Option Bool :=
  match flatOK P t a && flatOK P t b with
  | true => rvEqAll a b
  | false => none
/-- Is this slice nil? -/
def nilSl : PV → Option Bool
  | .s (.ro .nils) => some true
  | .s (.ro (.vsl _ _)) => some false
  | .s (.ro .esl) => some false
  | .s (.sl _ _ _ _) => some false
  | .s (.tsl _ rows _ _) => match rows with
    | [] => some true
    | _ => some false
  | _ => none
/-- Is this pointer nil? -/
def nilPt : PV → Option Bool
  | .s (.ro .nilp) => some true
  | .s (.ro (.vptr _ _)) => some false
  | .s (.ptr _ _ _ _) => some false
  | _ => none

def eqK (P : Program) (h : Hint) (t : TypeId) (x y : PV) (K : Bool → Option R) : Option R :=
  match P.underlying t, x, y with
  | some .bool, .s (.ro (.bool a)), .s (.ro (.bool b)) => K (a == b)
  | some (.struct _), _, _ | some (.array _ _), _, _ => match h.eqFlat t, x, y with
    | true, .s (.ro (.agg a)), .s (.ro (.agg b)) => match flatEq P t a b with
      | some c => K c
      | none => none
    | _, _, _ => none
  | some (.slice _), _, .s (.ro .nils) => match nilSl x with
    | some b => K b
    | none => none
  | some (.pointer _), _, .s (.ro .nilp) => match nilPt x with
    | some b => K b
    | none => none
  | _, _, _ => none

def binOpK (P : Program) (h : Hint) (op : BinOp) (t : TypeId) (x y : PV) (K : PV → Option R) : Option R :=
  match x with
  | .s (.ro (.int k a)) => match y with
    | .s (.ro (.int k' b)) => match op with
      | .shl => match decide (b < 0) with
        | true => none
        | false => K (.ro (.int k (k.wrap (a * 2 ^ (min b.toNat k.bits)))))
      | .shr => match decide (b < 0) with
        | true => none
        | false => K (.ro (.int k (a.fdiv (2 ^ (min b.toNat k.bits)))))
      | _ => match decide (k = k') with
        | false => none
        | true => match op with
          | .add => K (.ro (.int k (k.wrap (a + b))))
          | .sub => K (.ro (.int k (k.wrap (a - b))))
          | .mul => K (.ro (.int k (k.wrap (a * b))))
          | .quo => match b == 0 with
            | true => none
            | false => K (.ro (.int k (k.wrap (a.tdiv b))))
          | .rem => match b == 0 with
            | true => none
            | false => K (.ro (.int k (a.tmod b)))
          | .and => K (.ro (.int k (back k (BitVec.ofInt k.bits a &&& BitVec.ofInt k.bits b))))
          | .or => K (.ro (.int k (back k (BitVec.ofInt k.bits a ||| BitVec.ofInt k.bits b))))
          | .xor => K (.ro (.int k (back k (BitVec.ofInt k.bits a ^^^ BitVec.ofInt k.bits b))))
          | .andNot => K (.ro (.int k (back k (BitVec.ofInt k.bits a &&& ~~~BitVec.ofInt k.bits b))))
          | .eql => K (.ro (.bool (a == b)))
          | .neq => K (.ro (.bool (a != b)))
          | .lss => K (.ro (.bool (decide (a < b))))
          | .leq => K (.ro (.bool (decide (a ≤ b))))
          | .gtr => K (.ro (.bool (decide (a > b))))
          | .geq => K (.ro (.bool (decide (a ≥ b))))
          | _ => none
    | _ => none
  | .s (.ro (.str a)) => match y with
    | .s (.ro (.str b)) => match op with
      | .eql => K (.ro (.bool (a.toList == b.toList)))
      | .neq => K (.ro (.bool (!(a.toList == b.toList))))
      | .add => match decide (((a.size + b.size : Nat) : Int) > IntKind.i64.max) with
        | true => none
        | false => K (.ro (.str (a ++ b)))
      | _ => none
    | _ => none
  | _ => match op with
    | .eql => eqK P h t x y fun b => K (.ro (.bool b))
    | .neq => eqK P h t x y fun b => K (.ro (.bool (!b)))
    | _ => none

def unOpK (op : UnOp) (x : PV) (K : PV → Option R) : Option R :=
  match op, x with
  | .not, .s (.ro (.bool b)) => K (.ro (.bool (!b)))
  | .neg, .s (.ro (.int k n)) => K (.ro (.int k (k.wrap (0 - n))))
  | _, _ => none

def convertK (P : Program) (src dst : TypeId) (x : PV) (K : PV → Option R) : Option R :=
  match P.underlying src, P.underlying dst, x with
  | some _, some (.int k), .s (.ro (.int _ n)) => K (.ro (.int k (k.wrap n)))
  | _, _, _ => none

/-! ### What makes memory -/
def fillOffs (P : Program) (t : TypeId) (i : Nat) : Option (Nat × Nat) :=
  match P.underlying t with
  | some (.struct fs) => match fs[i]? with
    | some fd => some (fd.offset, sizeT P fd.type)
    | none => none
  | some (.array _ e) => some (i * sizeT P e, sizeT P e)
  | some (.slice e) => some (i * sizeT P e, sizeT P e)
  | _ => none
def fillK (P : Program) (t : TypeId) (cells : List SV) : List (Nat × PV) → (List SV → Option R) → Option R
  | [], K => K cells
  | (i, v) :: rest, K => match fillOffs P t i with
    | some (off, size) => match (cellsOf v).length == size && Nat.ble (off + (cellsOf v).length) cells.length && storable v with
      | true => fillK P t (splice cells off (cellsOf v)) rest K
      | false => none
    | none => none

/-- Cut into rows. -/
def chop (sz : Nat) : Nat → List RV → List (List RV)
  | 0, _ => []
  | n + 1, l => l.take sz :: chop sz n (l.drop sz)

def rowsOK (sz : Nat) : List (List RV) → Bool
  | [] => true
  | r :: rs => (r.length == sz) && rowsOK sz rs

def appendNew (P : Program) (fr : Frames) (loc : Bool) (ix : Nat) (e : TypeId) (sz : Nat) (ys : List (List RV)) (K : PV → Frames → Option R) : Option R :=
  match Nat.ble (ys.length * bytesT P e) 140737488355328 && Nat.ble ys.length 140737488355328 with
  | true => match loc with
    | true => allocK fr ix (.arr sz ys) fun fr' => K (.s (.sl 0 ix 0 ys.length)) fr'
    | false => allocK fr ix (.tok sz ys.length) fun fr' => K (.s (.tsl sz ys 0 ix)) fr'
  | false => none

def appendK (P : Program) (fr : Frames) (loc : Bool) (ix : Nat) (e : TypeId) (s x : PV) (K : PV → Frames → Option R) : Option R :=
  wRows fr x fun szx ys =>
    match ys with
    | [] => match s with
      | .s (.ro .nils) => K (.s (.ro .nils)) fr
      | .s (.ro .esl) => K (.s (.ro .esl)) fr
      | .s (.tsl sz rows d k) => K (.s (.tsl sz rows d k)) fr
      | .s (.sl d k off len) => K (.s (.sl d k off len)) fr
      | _ => none
    | _ => match szx == sizeT P e && Nat.blt 0 (sizeT P e) with
      | true => match s with
        | .s (.ro .nils) => appendNew P fr loc ix e szx ys K
        | .s (.ro .esl) => appendNew P fr loc ix e szx ys K
        | .s (.tsl sz rows d k) => match lbAt fr d k with
            | .tok sz' n => match sz == sz' && szx == sz && n == rows.length && Nat.ble ((rows.length + ys.length) * bytesT P e) 140737488355328 && Nat.ble (rows.length + ys.length) 140737488355328 with
              | true => K (.s (.tsl sz (rows ++ ys) d k)) (setAt fr d k (.tok sz (rows.length + ys.length)))
              | false => none
            | _ => none
        | .s (.sl d k off len) => match loc with
          | true => match lbAt fr d k with
            | .arr sz rows => match szx == sz && Nat.ble (off + len + ys.length) rows.length with
              | true => K (.s (.sl d k off (len + ys.length))) (setAt fr d k (.arr sz (splice rows (off + len) ys)))
              | false => none
            | _ => none
          | false => none
        | _ => none
      | false => none

def clearK (P : Program) (fr : Frames) (t : TypeId) (x : PV) (K : PV → Frames → Option R) : Option R :=
  match P.underlying t with
  | some (.slice e) => match x with
    | .s (.sl d k off len) => match lbAt fr d k with
      | .arr sz rows => zeroT P e fun z => match z.length == sz && Nat.ble (off + len) rows.length with
        | true => K skipP (setAt fr d k (.arr sz (splice rows off (List.replicate len z))))
        | false => none
      | _ => none
    | _ => none
  | _ => none

def minL (lt : Int → Int → Bool) : Int → List PV → (IntKind → Int → Option R) → IntKind → Option R
  | a, [], K, k => K k a
  | a, v :: r, K, k => match v with
    | .s (.ro (.int _ b)) => match lt b a with
      | true => minL lt b r K k
      | false => minL lt a r K k
    | _ => none
def minK (lt : Int → Int → Bool) (args : List PV) (K : PV → Option R) : Option R :=
  match args with
  | .s (.ro (.int k a)) :: r => minL lt a r (fun k n => K (.ro (.int k n))) k
  | _ => none

def sameKey : RV → RV → Option Bool
  | .int k a, .int k' b => match decide (k = k') with
    | true => some (a == b)
    | false => none
  | .str a, .str b => some (a == b)
  | .bool a, .bool b => some (a == b)
  | _, _ => none
def findE (key : RV) : List (RV × RV) → Nat → Option (Option (Nat × RV))
  | [], _ => some none
  | e :: es, i => match sameKey key e.1 with
    | some true => some (some (i, e.2))
    | some false => findE key es (i + 1)
    | none => none

/-- A type whose values are map keys: its values' kind. -/
def keyOK (P : Program) (t : TypeId) (v : RV) : Bool :=
  match P.underlying t, v with
  | some (.int k), .int k' _ => decide (k = k')
  | some .string, .str _ => true
  | some .bool, .bool _ => true
  | _, _ => false

def boundK (o : Option PV) (d : Nat) (K : Int → Option R) : Option R :=
  match o with
  | none => K d
  | some v => wInt v fun _ n => K n

def sliceRo (size : Nat) (x : PV) (n : Nat) (sz : Nat) (rows : List (List RV)) (l h : Int) (K : PV → Option R) : Option R :=
  match decide (0 ≤ l) && decide (l ≤ h) && decide (h ≤ (n : Int)) with
  | true => match rows with
    | [] => match x with
      | .s (.ro v) => K (.ro v)
      | .s (.tsl _ _ _ _) => K (.ro .nils)
      | _ => none
    | _ => match sz == size with
      | true => K (.ro (.vsl sz ((rows.take h.toNat).drop l.toNat)))
      | false => none
  | false => none

def slice3 (x : PV) (l h m : Int) (K : PV → Option R) : Option R :=
  match l == 0 && h == 0 && m == 0 with
  | true => match x with
    | .s (.ro .nils) => K (.ro .nils)
    | .s (.ro .esl) => K (.ro .esl)
    | .s (.ro (.vsl _ _)) => K (.ro .esl)
    | .s (.sl _ _ _ _) => K (.ro .esl)
    | _ => none
  | false => match x with
    | .s (.sl _ _ _ len) => match decide (0 ≤ l) && decide (l ≤ h) && decide (h ≤ m) && decide (m ≤ (len : Int)) with
      | true => K undefP
      | false => none
    | _ => none

def sliceK (P : Program) (fr : Frames) (t : TypeId) (x : PV) (lo hi mx : Option PV) (K : PV → Option R) : Option R :=
  match P.underlying t with
  | some .string => match x with
    | .s (.ro (.str s)) => match mx with
      | none => boundK lo 0 fun l => boundK hi s.size fun h =>
        match decide (0 ≤ l) && decide (l ≤ h) && decide (h ≤ (s.size : Int)) with
        | true => K (.ro (.str (s.extract l.toNat h.toNat)))
        | false => none
      | some _ => none
    | _ => none
  | some (.slice e) => match Nat.blt 0 (sizeT P e) with
    | true => match mx with
      | none => wLen x fun n => boundK lo 0 fun l => boundK hi n fun h =>
        match x with
        | .s (.sl d k off _) => match lbAt fr d k with
          | .arr sz rows => match decide (0 ≤ l) && decide (l ≤ h) && decide ((off : Int) + h ≤ (rows.length : Int)) && (sz == sizeT P e) with
            | true => K (.s (.sl d k (off + l.toNat) (h.toNat - l.toNat)))
            | false => none
          | _ => none
        | _ => wRows fr x fun sz rows => sliceRo (sizeT P e) x n sz rows l h K
      | some m => match hi with
        | none => none
        | some hi => boundK lo 0 fun l => wInt hi fun _ h => wInt m fun _ m => slice3 x l h m K
    | false => none
  | _ => none

/-- A captured variable. -/
def capK (fr : Frames) : List PV → (List CV → Option R) → Option R
  | [], K => K []
  | v :: r, K => match v with
    | .s (.ro v) => capK fr r fun cs => K (.ro v :: cs)
    | .s (.ptr d k ri off) => capK fr r fun cs => K (.ptr d k ri off :: cs)
    | _ => none
def allRo : List CV → Option (List RV)
  | [] => some []
  | .ro v :: r => match allRo r with
    | some vs => some (v :: vs)
    | none => none
  | _ :: _ => none

/-- The box that is captured is frozen: from now on it's read only. -/
def freezeK : Frames → List PV → (Frames → List PV → Option R) → Option R
  | fr, [], K => K fr []
  | fr, v :: r, K => match v with
    | .s (.ptr 0 k 0 off) => match lbAt fr 0 k with
      | .box cells => sealAll cells fun vs => freezeK (setAt fr 0 k (.froz vs.length [vs])) r fun fr' r' => K fr' (.ro (.vptr vs off) :: r')
      | .froz sz [vs] => freezeK fr r fun fr' r' => K fr' (.ro (.vptr vs off) :: r')
      | _ => none
    | _ => freezeK fr r fun fr' r' => K fr' (v :: r')

/-- Slices that are to grow, laid beside their variable: their places behind its own. -/
def allocToks (fr : Frames) (ix : Nat) (cs : List SV) (at_ : Nat) : List (Nat × Nat) → (List SV → Frames → Option R) → Option R
  | [], K => K cs fr
  | (i, sz) :: ts, K => match cs[i]? with
    | some (.ro .nils) => match Nat.blt 0 sz with
      | true => allocK fr (at_ + 1) (.tok sz 0) fun fr' => allocToks fr' ix (cs.set i (.tsl sz [] 0 (at_ + 1))) (at_ + 1) ts K
      | false => none
    | _ => none

/-! ### One operation that calls no Go function -/
def parts (st : St) (l : List (Nat × Operand)) : List (Nat × PV) := l.map fun (i, x) => (i, st.ev x)

def builtinK (P : Program) (h : Hint) (f : FuncId) (o : Oper) (b : Builtin) (ts : List TypeId) (args : List PV) (ix : Nat) (fr : Frames) (K : PV → Frames → Option R) : Option R :=
  match b with
  | .len => match ts, args with
    | [t], [x] => match P.underlying t with
      | some (.array n _) => K (.ro (.int .i64 n)) fr
      | some (.map _ _) => match x with
        | .s (.mp d k) => match lbAt fr d k with
          | .map es => K (.ro (.int .i64 es.length)) fr
          | _ => none
        | _ => none
      | some (.slice _) => match x with
        | .s (.ro (.str _)) => none
        | x => wLen x fun n => K (.ro (.int .i64 n)) fr
      | some .string => match x with
        | .s (.ro (.str s)) => K (.ro (.int .i64 s.size)) fr
        | _ => none
      | _ => none
    | _, _ => none
  | .append => match ts, args with
    | [t, t'], [s, x] => match t == t', P.underlying t with
      | true, some (.slice e) => match elemOKb P e with
        | true => appendK P fr (match h.alloc f (o.dst.getD 0) with | 0 => false | _ => true) ix e s x K
        | false => none
      | _, _ => none
    | _, _ => none
  | .min => minK (fun y x => decide (y < x)) args fun v => K v fr
  | .max => minK (fun y x => decide (x < y)) args fun v => K v fr
  | .clear => match ts, args with
    | [t], [x] => clearK P fr t x K
    | _, _ => none
  | _ => none

def execK (P : Program) (h : Hint) (f : FuncId) (o : Oper) (ix : Nat) (st : St) (K : PV → Frames → Option R) : Option R :=
  match o.op with
  | .move x | .assign x => K (st.ev x) st.fr
  | .pick c a b => wBool (st.ev c) fun t => match t with
    | true => K (st.ev a) st.fr
    | false => K (st.ev b) st.fr
  | .alloc e => match h.toks f (o.dst.getD 0) with
    | [] => zeroT P e fun z => allocK st.fr ix (.box (z.map .ro)) fun fr' => K (.s (.ptr 0 ix 0 0)) fr'
    | ts => zeroT P e fun z => allocToks st.fr ix (z.map .ro) ix ts fun cs fr' => allocK fr' ix (.box cs) fun fr' => K (.s (.ptr 0 ix 0 0)) fr'
  | .box _ x => match h.alloc f (o.dst.getD 0) with
    | 0 => wRo (st.ev x) fun v => match v with
      | .agg vs => K (.ro (.vptr vs 0)) st.fr
      | .tup _ => none
      | v => K (.ro (.vptr [v] 0)) st.fr
    | _ => match storable (st.ev x) with
      | true => allocK st.fr ix (.box (cellsOf (st.ev x))) fun fr' => K (.s (.ptr 0 ix 0 0)) fr'
      | false => none
  | .build t ps => match fieldsOKb P t with
    | true => zeroT P t fun z => fillK P t (z.map .ro) (parts st ps.toList) fun cs => mkAgg cs fun v => K v st.fr
    | false => none
  | .buildSlice t len ps => match P.underlying t with
    | some (.slice e) => match len with
      | 0 => match ps.toList with
        | [] => match elemOKb P e with
          | true => K (.ro .esl) st.fr
          | false => none
        | _ => none
      | _ => zeroT P e fun z => match Nat.ble (len * sizeT P e) 16777216 && Nat.blt 0 (sizeT P e) with
        | true => fillK P t ((List.replicate len (z.map SV.ro)).flatten) (parts st ps.toList) fun cs => sealAll cs fun vs =>
          match rowsOK (sizeT P e) (chop (sizeT P e) len vs) with
          | true => match h.alloc f (o.dst.getD 0) with
            | 0 => K (.ro (.vsl (sizeT P e) (chop (sizeT P e) len vs))) st.fr
            | _ => allocK st.fr ix (.arr (sizeT P e) (chop (sizeT P e) len vs)) fun fr' => K (.s (.sl 0 ix 0 len)) fr'
          | false => none
        | false => none
    | _ => none
  | .load t x => loadK P st.fr t (st.ev x) fun v => K v st.fr
  | .store t a x => storeK P st.fr t (st.ev a) (st.ev x) fun fr => K skipP fr
  | .nilCheck x => match st.ev x with
    | .s (.ro (.vptr row o)) => K (.ro (.vptr row o)) st.fr
    | .s (.ptr d k ri o) => K (.s (.ptr d k ri o)) st.fr
    | .s (.ro (.fn g c)) => K (.ro (.fn g c)) st.fr
    | .s (.fn g c) => K (.s (.fn g c)) st.fr
    | _ => none
  | .binOp op t x y _ => binOpK P h op t (st.ev x) (st.ev y) fun v => K v st.fr
  | .unOp op _ x => unOpK op (st.ev x) fun v => K v st.fr
  | .convert src dst x => convertK P src dst (st.ev x) fun v => K v st.fr
  | .makeFunc (.func g) first cap => match first.toList with
    | [] => match h.alloc f (o.dst.getD 0) with
      | 0 => freezeK st.fr (cap.toList.map st.ev) fun fr vs => capK fr vs fun cs => match allRo cs with
        | some vs => K (.ro (.fn g vs)) fr
        | none => K (.s (.fn g cs)) fr
      | _ => capK st.fr (cap.toList.map st.ev) fun cs => match allRo cs with
        | some vs => K (.ro (.fn g vs)) st.fr
        | none => K (.s (.fn g cs)) st.fr
    | _ => none
  | .makeMap _ r => match r with
    | none => allocK st.fr ix (.map []) fun fr' => K (.s (.mp 0 ix)) fr'
    | some _ => none
  | .makeSlice t l c => match P.underlying t with
    | some (.slice e) => wInt (st.ev l) fun _ n => wInt (st.ev c) fun _ m =>
      match decide (0 ≤ n) && (n == m) && decide (n ≤ 1099511627776) && Nat.ble (n.toNat * bytesT P e) 140737488355328 && Nat.blt 0 (sizeT P e) with
      | true => zeroT P e fun z => allocK st.fr ix (.arr (sizeT P e) (List.replicate n.toNat z)) fun fr' => K (.s (.sl 0 ix 0 n.toNat)) fr'
      | false => none
    | _ => none
  | .slice t x lo hi mx => sliceK P st.fr t (st.ev x) (lo.map st.ev) (hi.map st.ev) (mx.map st.ev) fun v => K v st.fr
  | .fieldAddr t x i => match fieldOff P t i with
    | some (off, _) => match st.ev x with
      | .s (.ro (.vptr row o)) => K (.ro (.vptr row (o + off))) st.fr
      | .s (.ptr d k ri o) => K (.s (.ptr d k ri (o + off))) st.fr
      | _ => none
    | none => none
  | .field t x i => match fieldOff P t i with
    | some (off, ft) => match st.ev x with
      | .s (.ro (.agg vs)) => match isAggT P ft with
        | some agg => loadRow agg (sizeT P ft) vs off fun v => K v st.fr
        | none => none
      | .agg cs => match isAggT P ft with
        | some agg => loadBox agg (sizeT P ft) 0 cs off fun v => K v st.fr
        | none => none
      | _ => none
    | none => none
  | .indexAddr t x i => wInt (st.ev i) fun _ n => indexAddrK P st.fr t (st.ev x) n fun v => K v st.fr
  | .index t x i => wInt (st.ev i) fun _ n => match st.ev x with
    | .s (.ro (.str s)) => match P.underlying t with
      | some .string => match decide (0 ≤ n), s[n.toNat]? with
        | true, some b => K (.ro (.int .u8 b.toNat)) st.fr
        | _, _ => none
      | _ => none
    | .s (.ro (.agg vs)) => match P.underlying t with
      | some (.array len e) => match decide (0 ≤ n) && decide (n < len), isAggT P e with
        | true, some agg => loadRow agg (sizeT P e) vs (n.toNat * sizeT P e) fun v => K v st.fr
        | _, _ => none
      | _ => none
    | _ => none
  | .lookup t x i ok => match P.underlying t with
    | some (.map kt et) => match st.ev x with
      | .s (.mp d k) => match lbAt st.fr d k with
        | .map es => wRo (st.ev i) fun key => match keyOK P kt key with
          | true => match findE key es 0 with
            | some (some (_, v)) => K (.ro (match ok with | true => .tup [v, .bool true] | false => v)) st.fr
            | some none => zero1 P et fun v => K (.ro (match ok with | true => .tup [v, .bool false] | false => v)) st.fr
            | none => none
          | false => none
        | _ => none
      | _ => none
    | _ => none
  | .mapUpdate t m key v => match P.underlying t with
    | some (.map kt _) => match st.ev m with
      | .s (.mp d k) => match lbAt st.fr d k with
        | .map es => wRo (st.ev key) fun key => wRo (st.ev v) fun v => match keyOK P kt key with
          | true => match findE key es 0 with
            | some (some (i, _)) => K skipP (setAt st.fr d k (.map (es.modify i fun _ => (key, v))))
            | some none => K skipP (setAt st.fr d k (.map (es ++ [(key, v)])))
            | none => none
          | false => none
        | _ => none
      | _ => none
    | _ => none
  | .range t x => match P.underlying t with
    | some .string => match st.ev x with
      | .s (.ro (.str s)) => allocK st.fr ix (.iter s 0) fun fr' => K (.s (.it ix)) fr'
      | _ => none
    | _ => none
  | .next it isString => match isString with
    | true => match st.ev it with
      | .s (.it k) => match lbAt st.fr 0 k with
        | .iter s pos => match Nat.blt pos s.size with
          | true => match Utf8.decode s pos with
            | (c, w) => K (.ro (.tup [.bool true, .int .i64 pos, .int .i32 c])) (setAt st.fr 0 k (.iter s (pos + w)))
          | false => K (.ro (.tup [.bool false])) st.fr
        | _ => none
      | _ => none
    | false => none
  | .extract x i => match st.ev x with
    | .s (.ro (.tup vs)) => match vs[i]? with
      | some v => K (.ro v) st.fr
      | none => none
    | _ => none
  | .call c => match c.callee with
    | .builtin b => builtinK P h f o b c.argTypes.toList (c.args.toList.map st.ev) ix st.fr K
    | _ => none
  | _ => none

/-! ### Calls, regions, control -/
structure CallF (R : Type) where
  fn : FuncId → List PV → Frames → (PV → Option LB → Frames → Option R) → Option R
  yld : Nat → Nat → List PV → Frames → (PV → Frames → Option R) → Option R

/-- All arguments values that nobody writes. -/
def allRoP : List PV → Bool
  | [] => true
  | .s (.ro _) :: r => allRoP r
  | _ :: _ => false

/-- Values that point nowhere. -/
def RV.flat1 : RV → Bool
  | .int _ _ | .bool _ | .str _ | .nilp | .nils => true
  | _ => false
def RV.flat : RV → Bool
  | .tup vs => vs.all RV.flat1
  | .agg vs => vs.all RV.flat1
  | v => v.flat1
def pvFlat : PV → Bool
  | .s (.ro v) => v.flat
  | _ => false
/-- Arguments as they are seen by one who only looks. -/
def viewK (fr : Frames) : List PV → (List PV → Option R) → Option R
  | [], K => K []
  | v :: r, K => match v with
    | .s (.ro x) => viewK fr r fun vs => K (.s (.ro x) :: vs)
    | .s (.sl (d + 1) k off len) => match lbAt fr d k with
      | .arr sz rows => viewK fr r fun vs => K (.s (.ro (.vsl sz ((rows.drop off).take len))) :: vs)
      | _ => none
    | _ => none

/-- A slice of this frame's own that is read only from now on. -/
def sealOwn (v : PV) (fr : Frames) (K : PV → Frames → Option R) : Option R :=
  match v with
  | .s (.sl 0 k off len) => match lbAt fr 0 k with
    | .arr sz rows => K (.s (.ro (.vsl sz ((rows.drop off).take len)))) (setAt fr 0 k (.froz sz rows))
    | _ => none
  | v => K v fr
/-- What a call has handed over is taken up. -/
def takeK (sl : Bool) (ix : Nat) (v : PV) (b : LB) (fr : Frames) (K : PV → Frames → Option R) : Option R :=
  match sl with
  | false => allocK fr ix b fun fr => K (match v with | .s (.sl _ _ _ len) => .s (.sl 0 ix 0 len) | v => v) fr
  | true => match b with
    | .arr sz rows => allocK fr ix (.froz sz rows) fun fr => K (.s (.ro (.vsl sz rows))) fr
    | _ => none

def callK (vw sl : Bool) (call : CallF R) (base : Option Nat) (g : FuncId) (args : List PV) (ix : Nat) (fr : Frames) (K : PV → Frames → Option R) : Option R :=
  match allRoP args with
  | true => call.fn g args [] fun v mv fr' => match fr' with
    | [] => match mv with
      | none => K v fr
      | some b => takeK sl ix v b fr K
    | _ => none
  | false => match base with
    | some _ => none
    | none => match vw with
      | true => viewK fr args fun vs => call.fn g vs [] fun v mv fr' => match fr', mv, pvFlat v with
        | [], none, true => K v fr
        | _, _, _ => none
      | false => call.fn g args fr fun v mv fr' => match mv with
        | none => (match sl with
          | true => sealOwn v fr' K
          | false => K v fr')
        | some b => takeK sl ix v b fr' K

def opK (P : Program) (h : Hint) (f : FuncId) (call : CallF R) (base : Option Nat) (o : Oper) (ix : Nat) (st : St) (K : PV → Frames → Option R) : Option R :=
  match o.op with
  | .call c => match c.callee with
    | .value x => match st.ev x with
      | .s (.ro (.fn g cap)) => callK (h.view f (o.dst.getD 0)) (h.shut f (o.dst.getD 0)) call base g ((c.args.toList.map fun a => toArg (st.ev a)) ++ cap.map PV.ro) ix st.fr K
      | .s (.fn g cap) => callK (h.view f (o.dst.getD 0)) (h.shut f (o.dst.getD 0)) call base g ((c.args.toList.map fun a => toArg (st.ev a)) ++ cap.map fun c => (CV.shift 1 c).toPV) ix st.fr K
      | .s (.yld d k) => match base with
        | some _ => none
        | none => call.yld d k (c.args.toList.map fun a => toArg (st.ev a)) st.fr K
      | _ => none
    | _ => execK P h f o ix st K
  | _ => execK P h f o ix st K

/-- Nothing that this region laid. -/
def pvOld (b : Nat) : PV → Bool
  | .s (.ptr 0 k _ _) | .s (.sl 0 k _ _) | .s (.mp 0 k) | .s (.it k) => Nat.blt k b
  | .s (.tsl _ _ (_ + 1) _) => false
  | _ => true
/-- In a region that draws: what is read lay there when the region began. -/
def readsOld (base : Option Nat) (o : Oper) (st : St) : Bool :=
  match base with
  | none => true
  | some b => match o.op with
    | .load _ x | .slice _ x _ _ _ | .indexAddr _ x _ | .lookup _ x _ _ => pvOld b (st.ev x)
    | .call c => c.args.toList.all fun x => pvOld b (st.ev x)
    | _ => true

def putT (l : List PV) (d : Option Tmp) (v : PV) : List PV :=
  match d with
  | some t => l.set t v
  | none => l

def guardK (ops : Array Oper) (o : Oper) (st : St) (KA KB : St → Option R) : Option R :=
  match o.guard with
  | none => KA st
  | some (j, want) => match (ops[j]?).bind (·.dst) with
    | some t => match st.tmps[t]? with
      | some (.s (.ro (.bool b))) => match b with
        | true => match want with
          | true => KA { st with tmps := st.tmps.set t (.ro (.bool true)) }
          | false => KB { st with tmps := st.tmps.set t (.ro (.bool true)) }
        | false => match want with
          | true => KB { st with tmps := st.tmps.set t (.ro (.bool false)) }
          | false => KA { st with tmps := st.tmps.set t (.ro (.bool false)) }
      | some (.s (.ro (.tup _))) => KB st
      | _ => none
    | none => none

def pmOps (P : Program) (h : Hint) (f : FuncId) (call : CallF R) (ops : Array Oper) (base : Option Nat) : List Oper → Nat → St → (St → Option R) → Option R
  | [], _, st, K => K st
  | o :: rest, i, st, K =>
    guardK ops o st
      (fun st => match readsOld base o st with
        | true => opK P h f call base o (match base with | none => (st.fr.headD []).length | some b => b + i) st fun v fr =>
          pmOps P h f call ops base rest (i + 1) ⟨putT st.tmps o.dst v, fr⟩ K
        | false => none)
      (fun st => pmOps P h f call ops base rest (i + 1) ⟨putT st.tmps o.dst skipP, st.fr⟩ K)

def firstReg : Code → Nat
  | .region id _ _ => id
  | .seq a _ => firstReg a
  | .block _ c => firstReg c
  | .loop c => firstReg c
  | _ => 0

/-- No pointer to a block of this frame from n on. -/
def svKept (n : Nat) : SV → Bool
  | .ptr 0 k _ _ | .sl 0 k _ _ | .tsl _ _ 0 k | .mp 0 k | .it k | .yld 0 k => Nat.blt k n
  | .fn _ cap => cap.all fun | .ptr 0 k _ _ => Nat.blt k n | _ => true
  | _ => true

def tokAt (ts : List LShape) (k sz : Nat) : Bool :=
  match ts[k]? with
  | some (.tok sz') => sz == sz'
  | _ => false

def normS (ts : List LShape) (sh : Shape) (v : SV) (K : SV → Option R) : Option R :=
  match sh with
  | .drop => K .undef
  | .int k => match v with
    | .ro (.int k' i) => match decide (k = k') with
      | true => K (.ro (.int k i))
      | false => none
    | _ => none
  | .bool => match v with
    | .ro (.bool b) => K (.ro (.bool b))
    | _ => none
  | .str => match v with
    | .ro (.str b) => K (.ro (.str b))
    | _ => none
  | .ro => match v with
    | .ro v => K (.ro v)
    | _ => none
  | .keep => match svKept ts.length v with
    | true => K v
    | false => none
  | .ren _ => match svKept ts.length v with
    | true => K v
    | false => none
  | .tsl sz k => match tokAt ts k sz with
    | true => match v with
      | .tsl sz' rows 0 k' => match sz == sz' && k == k' with
        | true => K (.tsl sz rows 0 k)
        | false => none
      | .ro .nils => K (.tsl sz [] 0 k)
      | _ => none
    | false => none

def normCells (ts : List LShape) : List Shape → List SV → (List SV → Option R) → Option R
  | [], [], K => K []
  | sh :: shs, v :: vs, K => normS ts sh v fun v' => normCells ts shs vs fun vs' => K (v' :: vs')
  | _, _, _ => none

def normLoc (ts : List LShape) : List LShape → List LB → (List LB → Option R) → Option R
  | [], _, K => K []
  | sh :: shs, l, K =>
    let b := l.headD .none
    let rest (b' : LB) : Option R := normLoc ts shs (l.drop 1) fun r => K (b' :: r)
    match sh with
    | .keep => match b with
      | .box cs => match cs.all (svKept ts.length) with
        | true => rest (.box cs)
        | false => none
      | .loop .. => none
      | b => rest b
    | .box shapes => match b with
      | .box cs => normCells ts shapes cs fun cs' => rest (.box cs')
      | _ => none
    | .arr sz => match b with
      | .arr sz' rows => match sz == sz' with
        | true => rest (.arr sz rows)
        | false => none
      | _ => none
    | .tok sz => match b with
      | .tok sz' m => match sz == sz' with
        | true => rest (.tok sz m)
        | false => none
      | .none => match Nat.blt 0 sz with
        | true => rest (.tok sz 0)
        | false => none
      | _ => none
    | .map => match b with
      | .map es => rest (.map es)
      | _ => none

def normTmps (ts : List LShape) : List Shape → List PV → (List PV → Option R) → Option R
  | [], [], K => K []
  | sh :: shs, v :: vs, K =>
    match sh with
    | .drop => normTmps ts shs vs fun vs' => K (undefP :: vs')
    | sh => match v with
      | .s v => normS ts sh v fun v' => normTmps ts shs vs fun vs' => K (.s v' :: vs')
      | .agg cs => match sh with
        | .keep => match cs.all (svKept ts.length) with
          | true => normTmps ts shs vs fun vs' => K (.agg cs :: vs')
          | false => none
        | _ => none
  | _, _, _ => none

/-- v points neither to block i nor to block j of this frame. -/
def neK (i j k : Nat) : Bool := !(Nat.beq k i) && !(Nat.beq k j)
def svFree (i j : Nat) : SV → Bool
  | .ptr 0 k _ _ | .sl 0 k _ _ | .tsl _ _ 0 k | .mp 0 k | .it k | .yld 0 k => neK i j k
  | .fn _ cap => cap.all fun | .ptr 0 k _ _ => neK i j k | _ => true
  | _ => true
def pvFree (i j : Nat) : PV → Bool
  | .s v => svFree i j v
  | .agg cs => cs.all (svFree i j)
def lbFree (i j : Nat) : LB → Bool
  | .box cs => cs.all (svFree i j)
  | .loop .. => false
  | _ => true
def LB.isNone : LB → Bool
  | .none => true
  | _ => false
/-- The variable, and the block that it is to point to. -/
def renOf : Nat → List Shape → Option (Nat × Nat)
  | _, [] => none
  | n, s :: r => match s with
    | .ren i => some (n, i)
    | _ => renOf (n + 1) r
def freed (i j : Nat) (v : PV) : PV := match pvFree i j v with
  | true => v
  | false => undefP
/-- The block to which a variable points takes another one's place. -/
def renK (o : Option (Nat × Nat)) (st : St) (K : St → Option R) : Option R := match o with
  | none => K st
  | some (t, i) => match st.tmps[t]? with
    | some (.s (.ptr 0 j ri off)) => match Nat.beq i j with
      | true => K st
      | false => match st.fr with
        | [] => none
        | loc :: up => match !(loc.getD i .none).isNone && !(loc.getD j .none).isNone && loc.all (lbFree i j) with
          | true => K ⟨(st.tmps.map (freed i j)).set t (.s (.ptr 0 i ri off)), (loc.set i (loc.getD j .none)).set j .none :: up⟩
          | false => none
    | _ => none

def normK (nm : Option (List Shape × List LShape)) (st : St) (K : St → Option R) : Option R :=
  match nm with
  | none => K st
  | some (shs, ls) => renK (renOf 0 shs) st fun st => match st.fr with
    | [] => none
    | loc :: up => normLoc ls ls loc fun loc' => normTmps ls shs st.tmps fun tmps' => K ⟨tmps', loc' :: up⟩

def pmLoopN (nm : Option (List Shape × List LShape)) (body : St → (PExit → St → Option R) → Option R) : Nat → St → (PExit → St → Option R) → Option R
  | 0, _, _ => none
  | n + 1, st, K => body st fun e st' => match e with
    | .normal => normK nm st' fun st'' => pmLoopN nm body n st'' K
    | e => K e st'

/-- What an operation touches: 0 nothing, 1 reads blocks, 2 lays one, 3 a token, 4 writes; 5: not to be met where the order is drawn. -/
def cls (h : Hint) (f : FuncId) (o : Oper) : Nat :=
  match o.op with
  | .move _ | .assign _ | .pick _ _ _ | .nilCheck _ | .binOp _ _ _ _ _ | .unOp _ _ _ | .convert _ _ _ | .fieldAddr _ _ _ | .extract _ _ => 0
  | .load _ _ | .slice _ _ _ _ _ | .indexAddr _ _ _ => 1
  | .alloc _ => match h.toks f (o.dst.getD 0) with | [] => 2 | _ => 5
  | .buildSlice _ _ _ => match h.alloc f (o.dst.getD 0) with | 0 => 0 | _ => 2
  | .store _ _ _ => 4
  | .call c => match c.callee with
    | .builtin .append => match h.alloc f (o.dst.getD 0) with | 0 => 3 | _ => 4
    | .builtin .len => 1
    | .builtin .min | .builtin .max => 0
    | .value _ => 2
    | _ => 5
  | _ => 5
def clash : Nat → Nat → Bool
  | 4, 1 | 4, 2 | 4, 3 | 4, 4 | 1, 4 | 2, 4 | 3, 4 | 3, 3 => true
  | _, _ => false
def drawOK (h : Hint) (f : FuncId) (ops : Array Oper) : Bool :=
  let b := Region.before ops
  Region.lexB .any ops && (ops.toList.all fun o => Nat.ble (cls h f o) 4) && ops.toList.zipIdx.all fun (o, j) => (ops.toList.take j).zipIdx.all fun (p, i) => !(clash (cls h f p) (cls h f o)) || (b.getD j 0).testBit i

def keyOf (a b : Code) : Nat := match firstReg a with
  | 0 => firstReg b
  | k => k
/-- All ranges over functions of a piece of code. -/
def ranges : Code → List (Nat × LoopCode)
  | .seq a b => ranges a ++ ranges b
  | .cond _ a b => ranges a ++ ranges b
  | .block _ c => ranges c
  | .loop c => ranges c
  | .scope c => ranges c
  | .rangeFunc _ ps a b => (keyOf a b, ⟨ps.toList, a, b⟩) :: (ranges a ++ ranges b)
  | _ => []
def lookL (k : Nat) : List (Nat × LoopCode) → Option LoopCode
  | [] => none
  | (j, c) :: r => match Nat.beq j k with
    | true => some c
    | false => lookL k r
def loopAt (P : Program) (f key : Nat) : Option LoopCode := match P.funcs[f]? with
  | some fn => match fn.body with
    | some c => lookL key (ranges c)
    | none => none
  | none => none
def keysOK : List (Nat × LoopCode) → Bool
  | [] => true
  | (k, _) :: r => (r.all fun x => !(Nat.beq k x.1)) && keysOK r

/-- What of the variables a range over a function keeps for its rounds. -/
def snapK (tmps : List PV) : List Nat → (List (Nat × PV) → Option R) → Option R
  | [], K => K []
  | t :: ts, K => match tmps[t]? with
    | some v => snapK tmps ts fun r => K ((t, v) :: r)
    | none => none
def PV.shift (d : Nat) : PV → PV
  | .s v => .s (v.shift d)
  | .agg cs => .agg (cs.map (SV.shift d))
def setTs : List PV → List (Nat × PV) → List PV
  | l, [] => l
  | l, (t, v) :: r => setTs (l.set t v) r

def pmCode (P : Program) (h : Hint) (f : FuncId) (call : CallF R) : Code → St → (PExit → St → Option R) → Option R
  | .skip, st, K => K .normal st
  | .region _ ops draw, st, K => match draw with
    | false => pmOps P h f call ops none ops.toList 0 st fun st => K .normal st
    | true => match drawOK h f ops with
      | true => pmOps P h f call ops (some (st.fr.headD []).length) ops.toList 0 st fun st => K .normal st
      | false => none
  | .seq a b, st, K => pmCode P h f call a st fun e st' => match e with
    | .normal => pmCode P h f call b st' K
    | e => K e st'
  | .cond c a b, st, K => wBool (st.ev c) fun t => match t with
    | true => pmCode P h f call a st K
    | false => pmCode P h f call b st K
  | .block id c, st, K => pmCode P h f call c st fun e st' => match e with
    | .exit id' => match id' == id with
      | true => K .normal st'
      | false => K (.exit id') st'
    | e => K e st'
  | .loop c, st, K => normK (h.norm f (firstReg c)) st fun st => pmLoopN (h.norm f (firstReg c)) (pmCode P h f call c) h.lfuel st K
  | .exit id, st, K => K (.exit id) st
  | .ret, st, K => K .ret st
  | .rangeFunc g ps a b, st, K => snapK st.tmps (h.snap f (keyOf a b)) fun env =>
    allocK st.fr (st.fr.headD []).length (.loop f (keyOf a b) st.tmps.length env .ready) fun fr =>
      let fin (fr' : Frames) : Option R := match lbAt fr' 0 (st.fr.headD []).length with
        | .loop _ _ _ _ .ready => K .normal ⟨st.tmps, setAt fr' 0 (st.fr.headD []).length (.froz 0 [])⟩
        | .loop _ _ _ _ (.done e) => K e ⟨st.tmps, setAt fr' 0 (st.fr.headD []).length (.froz 0 [])⟩
        | _ => none
      match st.ev g with
        | .s (.ro (.fn gf cap)) => call.fn gf (.s (.yld 1 (st.fr.headD []).length) :: cap.map PV.ro) fr fun _ mv fr' => match mv with
          | none => fin fr'
          | some _ => none
        | .s (.fn gf cap) => call.fn gf (.s (.yld 1 (st.fr.headD []).length) :: cap.map fun c => (CV.shift 1 c).toPV) fr fun _ mv fr' => match mv with
          | none => fin fr'
          | some _ => none
        | _ => none
  | _, _, _ => none

def resVals (P : Program) (st : St) : List ResultVar → (List PV → Option R) → Option R
  | [], K => K []
  | .tmp t :: r, K => resVals P st r fun vs => K (st.tmps.getD t undefP :: vs)
  | .cell a t :: r, K => loadK P st.fr t (st.tmps.getD a undefP) fun v => resVals P st r fun vs => K (v :: vs)

/-- A result, sealed. -/
def sealV (fr : Frames) (v : PV) (K : RV → Option R) : Option R :=
  match v with
  | .s (.sl 0 k off len) => match lbAt fr 0 k with
    | .arr sz rows => K (.vsl sz ((rows.drop off).take len))
    | _ => none
  | .s (.ptr 0 k ri off) => match lbAt fr 0 k with
    | .box cells => match ri with
      | 0 => sealAll cells fun vs => K (.vptr vs off)
      | _ => none
    | .froz _ rows => match rows[ri]? with
      | some row => K (.vptr row off)
      | none => none
    | .arr _ rows => match rows[ri]? with
      | some row => K (.vptr row off)
      | none => none
    | _ => none
  | v => wRo v K
def sealVs (fr : Frames) : List PV → (List RV → Option R) → Option R
  | [], K => K []
  | v :: r, K => sealV fr v fun v' => sealVs fr r fun r' => K (v' :: r')

def retK (P : Program) (mv : Bool) (fn : Func) (st : St) (K : PV → Option LB → Frames → Option R) : Option R :=
  resVals P st fn.results.toList fun vs => match vs with
    | [v] => match v with
      | .s (.sl (d + 1) k off len) => K (.s (.sl d k off len)) none st.fr.tail
      | .s (.ptr (d + 1) k ri off) => K (.s (.ptr d k ri off)) none st.fr.tail
      | .s (.sl 0 k off len) => match mv with
        | true => match lbAt st.fr 0 k, off with
          | .arr sz rows, 0 => match len == rows.length with
            | true => K (.s (.sl 0 0 0 len)) (some (.arr sz rows)) st.fr.tail
            | false => none
          | _, _ => none
        | false => sealV st.fr (.s (.sl 0 k off len)) fun r => K (.ro r) none st.fr.tail
      | v => sealV st.fr v fun r => K (.ro r) none st.fr.tail
    | vs => sealVs st.fr vs fun rs => K (.ro (.tup rs)) none st.fr.tail

/-- A round: the loop's own code, in a frame of its own, on what the loop has kept. -/
def pmYield (P : Program) (h : Hint) (call : CallF R) (d k : Nat) (args : List PV) (fr : Frames) (K : PV → Frames → Option R) : Option R :=
  match lbAt fr d k with
  | .loop f key n env .ready => match loopAt P f key with
    | some lc => match args.length == lc.ps.length && (ranges lc.assign).isEmpty && (ranges lc.body).isEmpty with
      | true => pmCode P h f call lc.assign ⟨setTs (setTs (List.replicate n undefP) (env.map fun x => (x.1, x.2.shift (d + 1)))) (lc.ps.zip args), [] :: fr⟩ fun e st => match e with
        | .normal => match lbAt st.fr (d + 1) k with
          | .loop f1 k1 n1 e1 .ready => pmCode P h f call lc.body ⟨st.tmps, setAt st.fr (d + 1) k (.loop f1 k1 n1 e1 .busy)⟩ fun e st => match lbAt st.fr (d + 1) k with
            | .loop f2 k2 n2 e2 .busy => match e with
              | .normal => K (.ro (.bool true)) (setAt st.fr (d + 1) k (.loop f2 k2 n2 e2 .ready)).tail
              | e => K (.ro (.bool false)) (setAt st.fr (d + 1) k (.loop f2 k2 n2 e2 (.done e))).tail
            | _ => none
          | _ => none
        | _ => none
      | false => none
    | none => none
  | _ => none

def pmCalls (P : Program) (h : Hint) (ext : FuncId → Option (List PV → Option RV)) : Nat → CallF R
  | 0 => ⟨fun _ _ _ _ => none, fun _ _ _ _ _ => none⟩
  | n + 1 => ⟨fun g args fr K => match ext g with
    | some F => match F args with
      | some r => K (.ro r) none fr
      | none => none
    | none => match P.funcs[g]? with
      | some fn => match fn.body with
        | some c => match keysOK (ranges c) with
          | true => pmCode P h g (pmCalls P h ext n) c ⟨args ++ List.replicate (fn.ntmps - args.length) skipP, [] :: fr⟩ fun e st => match e with
            | .normal => retK P (h.move g) fn st K
            | .ret => retK P (h.move g) fn st K
            | .exit _ => none
          | false => none
        | none => none
      | none => none,
    pmYield P h (pmCalls P h ext n)⟩
abbrev pmCall (P : Program) (h : Hint) (ext : FuncId → Option (List PV → Option RV)) (n : Nat) (g : FuncId) (args : List PV) (fr : Frames) (K : PV → Option LB → Frames → Option R) : Option R := (pmCalls P h ext n).fn g args fr K
end
end Go.PM

set_option linter.unusedSectionVars false
namespace Go.PM

/-- The code of the ranges over functions, by function and place. -/
class LoopCodes where
  at_ : Nat → Nat → Option LoopCode
/-- The cells that nobody writes any more: block, place. -/
abbrev Mem := Nat → Nat → Option Value

mutual
def VRr (m : Mem) : RV → Value → Prop
  | .int k n, c => c = .int k n
  | .bool b, c => c = .bool b
  | .str s, c => c = .string s
  | .nilp, c => c = .pointer none
  | .nils, c => c = .slice none 0 0
  | .nilm, c => c = .map none
  | .nilf, c => c = .nilFunc
  | .vptr row off, c => ∃ b o, c = .pointer (some ⟨b, o + off, none⟩) ∧ RowR m b o row
  | .vsl sz rows, c => ∃ a cap, c = .slice (some a) rows.length cap ∧ rows.length ≤ cap ∧ (rows ≠ [] → a.spot = none) ∧ RowsR m a.block sz a.off rows
  | .esl, c => ∃ a, c = .slice (some a) 0 0
  | .fn f cap, c => ∃ cs : List Value, c = .func (.func f) #[] cs.toArray ∧ ListR m cap cs
  | .agg cells, c => ∃ cs : List Value, c = .agg cs.toArray ∧ ListR m cells cs ∧ ∀ u ∈ cs, u.oneCell' = true
  | .tup vs, c => ∃ cs : List Value, c = .tuple cs.toArray ∧ ListR m vs cs
def ListR (m : Mem) : List RV → List Value → Prop
  | [], cs => cs = []
  | v :: vs, cs => ∃ c cs', cs = c :: cs' ∧ VRr m v c ∧ ListR m vs cs'
def RowR (m : Mem) (b : Nat) : Nat → List RV → Prop
  | _, [] => True
  | o, v :: vs => (∃ c, m b o = some c ∧ c.oneCell' = true ∧ VRr m v c) ∧ RowR m b (o + 1) vs
def RowsR (m : Mem) (b sz : Nat) : Nat → List (List RV) → Prop
  | _, [] => True
  | o, r :: rs => r.length = sz ∧ RowR m b o r ∧ RowsR m b sz (o + sz) rs
end

def Mem.le (m m' : Mem) : Prop := ∀ b o c, m b o = some c → m' b o = some c
theorem Mem.le_refl (m : Mem) : m.le m := fun _ _ _ h => h
theorem Mem.le_trans {m m' m'' : Mem} (h : m.le m') (h' : m'.le m'') : m.le m'' := fun b o c x => h' b o c (h b o c x)

mutual
theorem VRr.mono {m m' : Mem} (hm : m.le m') : ∀ (v : RV) (c : Value), VRr m v c → VRr m' v c
  | .int _ _, _, h | .bool _, _, h | .str _, _, h | .nilp, _, h | .nils, _, h | .nilm, _, h | .nilf, _, h => by simpa [VRr] using h
  | .vptr row off, c, h => by
    simp only [VRr] at h ⊢
    obtain ⟨b, o, e, hr⟩ := h
    exact ⟨b, o, e, RowR.mono hm b row o hr⟩
  | .vsl sz rows, c, h => by
    simp only [VRr] at h ⊢
    obtain ⟨a, cap, e, h1, h2, hr⟩ := h
    exact ⟨a, cap, e, h1, h2, RowsR.mono hm a.block sz rows a.off hr⟩
  | .esl, c, h => by simpa [VRr] using h
  | .fn f cap, c, h => by
    simp only [VRr] at h ⊢
    obtain ⟨cs, e, hr⟩ := h
    exact ⟨cs, e, ListR.mono hm cap cs hr⟩
  | .agg cells, c, h => by
    simp only [VRr] at h ⊢
    obtain ⟨cs, e, hr, h1⟩ := h
    exact ⟨cs, e, ListR.mono hm cells cs hr, h1⟩
  | .tup vs, c, h => by
    simp only [VRr] at h ⊢
    obtain ⟨cs, e, hr⟩ := h
    exact ⟨cs, e, ListR.mono hm vs cs hr⟩
theorem ListR.mono {m m' : Mem} (hm : m.le m') : ∀ (vs : List RV) (cs : List Value), ListR m vs cs → ListR m' vs cs
  | [], _, h => by simpa [ListR] using h
  | v :: vs, cs, h => by
    simp only [ListR] at h ⊢
    obtain ⟨c, cs', e, h1, h2⟩ := h
    exact ⟨c, cs', e, VRr.mono hm v c h1, ListR.mono hm vs cs' h2⟩
theorem RowR.mono {m m' : Mem} (hm : m.le m') (b : Nat) : ∀ (vs : List RV) (o : Nat), RowR m b o vs → RowR m' b o vs
  | [], _, _ => by simp [RowR]
  | v :: vs, o, h => by
    simp only [RowR] at h ⊢
    obtain ⟨⟨c, h1, h2, h3⟩, h4⟩ := h
    exact ⟨⟨c, hm _ _ _ h1, h2, VRr.mono hm v c h3⟩, RowR.mono hm b vs (o + 1) h4⟩
theorem RowsR.mono {m m' : Mem} (hm : m.le m') (b sz : Nat) : ∀ (rs : List (List RV)) (o : Nat), RowsR m b sz o rs → RowsR m' b sz o rs
  | [], _, _ => by simp [RowsR]
  | r :: rs, o, h => by
    simp only [RowsR] at h ⊢
    exact ⟨h.1, RowR.mono hm b r o h.2.1, RowsR.mono hm b sz rs (o + sz) h.2.2⟩
end

theorem ListR.length {m : Mem} : ∀ {vs : List RV} {cs : List Value}, ListR m vs cs → cs.length = vs.length
  | [], _, h => by simp only [ListR] at h; simp [h]
  | v :: vs, cs, h => by
    simp only [ListR] at h
    obtain ⟨c, cs', rfl, _, h2⟩ := h
    simp [ListR.length h2]

theorem ListR.get {m : Mem} : ∀ {vs : List RV} {cs : List Value}, ListR m vs cs → ∀ {i : Nat} {v : RV}, vs[i]? = some v → ∃ c, cs[i]? = some c ∧ VRr m v c
  | [], _, _, i, v, hv => by simp at hv
  | u :: vs, cs, h, i, v, hv => by
    simp only [ListR] at h
    obtain ⟨c, cs', rfl, h1, h2⟩ := h
    cases i with
    | zero => simp at hv; subst hv; exact ⟨c, by simp, h1⟩
    | succ i => simp at hv; obtain ⟨c', e, h3⟩ := ListR.get h2 hv; exact ⟨c', by simpa using e, h3⟩

/-- By places. -/
theorem ListR.of_get {m : Mem} : ∀ {vs : List RV} {cs : List Value}, cs.length = vs.length → (∀ (i : Nat) (v : RV) (c : Value), vs[i]? = some v → cs[i]? = some c → VRr m v c) → ListR m vs cs
  | [], cs, h, _ => by simp only [ListR]; exact List.eq_nil_of_length_eq_zero (by simpa using h)
  | v :: vs, [], h, _ => by simp at h
  | v :: vs, c :: cs, h, hh => by
    simp only [ListR]
    exact ⟨c, cs, rfl, hh 0 v c (by simp) (by simp), ListR.of_get (by simpa using h) fun i v' c' h1 h2 => hh (i + 1) v' c' (by simpa using h1) (by simpa using h2)⟩

theorem RowR.get {m : Mem} {b : Nat} : ∀ {vs : List RV} {o : Nat}, RowR m b o vs → ∀ {i : Nat} {v : RV}, vs[i]? = some v → ∃ c, m b (o + i) = some c ∧ c.oneCell' = true ∧ VRr m v c
  | [], _, _, i, v, hv => by simp at hv
  | u :: vs, o, h, i, v, hv => by
    simp only [RowR] at h
    cases i with
    | zero => simp at hv; subst hv; exact h.1
    | succ i =>
      simp at hv
      have := RowR.get h.2 hv
      rwa [Nat.add_right_comm, Nat.add_assoc] at this

theorem RowR.of_get {m : Mem} {b : Nat} : ∀ {vs : List RV} {o : Nat}, (∀ (i : Nat) (v : RV), vs[i]? = some v → ∃ c, m b (o + i) = some c ∧ c.oneCell' = true ∧ VRr m v c) → RowR m b o vs
  | [], _, _ => by simp [RowR]
  | v :: vs, o, h => by
    simp only [RowR]
    refine ⟨h 0 v (by simp), RowR.of_get fun i v' hv => ?_⟩
    have := h (i + 1) v' (by simpa using hv)
    rwa [Nat.add_assoc, Nat.add_comm 1 i]

theorem RowsR.get {m : Mem} {b sz : Nat} : ∀ {rs : List (List RV)} {o : Nat}, RowsR m b sz o rs → ∀ {i : Nat} {r : List RV}, rs[i]? = some r → r.length = sz ∧ RowR m b (o + i * sz) r
  | [], _, _, i, r, hr => by simp at hr
  | u :: rs, o, h, i, r, hr => by
    simp only [RowsR] at h
    cases i with
    | zero => simp at hr; subst hr; exact ⟨h.1, by simpa using h.2.1⟩
    | succ i =>
      simp at hr
      have := RowsR.get h.2.2 hr
      rwa [Nat.add_assoc, show sz + i * sz = (i + 1) * sz by rw [Nat.add_mul]; omega] at this

theorem RowsR.of_get {m : Mem} {b sz : Nat} : ∀ {rs : List (List RV)} {o : Nat}, (∀ (i : Nat) (r : List RV), rs[i]? = some r → r.length = sz ∧ RowR m b (o + i * sz) r) → RowsR m b sz o rs
  | [], _, _ => by simp [RowsR]
  | r :: rs, o, h => by
    simp only [RowsR]
    have h0 := h 0 r (by simp)
    refine ⟨h0.1, by simpa using h0.2, RowsR.of_get fun i r' hr => ?_⟩
    have := h (i + 1) r' (by simpa using hr)
    rwa [Nat.add_assoc, show sz + i * sz = (i + 1) * sz by rw [Nat.add_mul]; omega]

variable [LoopCodes]

/-! ### What a frame's blocks are in memory -/
/-- A block's number, its rows' size, how many rows; of a token the slice value at each length that it has had. -/
structure LG where
  b : Nat
  sz : Nat
  n : Nat
  lv : Nat → Option Value

abbrev Gh := List (List (Option LG))

def gAt (g : Gh) (d k : Nat) : Option LG := ((g[d]?).bind (·[k]?)).join

structure LG.le (l l' : LG) : Prop where
  b : l'.b = l.b
  sz : l'.sz = l.sz
  n : l'.n = l.n
  lv : ∀ r c, l.lv r = some c → l'.lv r = some c
theorem LG.le_refl (l : LG) : l.le l := ⟨rfl, rfl, rfl, fun _ _ h => h⟩

def Gh.le (g g' : Gh) : Prop := ∀ d k l, gAt g d k = some l → ∃ l', gAt g' d k = some l' ∧ l.le l'
theorem Gh.le_refl (g : Gh) : g.le g := fun _ _ l h => ⟨l, h, l.le_refl⟩
theorem Gh.le_trans {g g' g'' : Gh} (h : g.le g') (h' : g'.le g'') : g.le g'' := fun d k l hl => by
  obtain ⟨l1, h1, a⟩ := h d k l hl
  obtain ⟨l2, h2, c⟩ := h' d k l1 h1
  exact ⟨l2, h2, c.b.trans a.b, c.sz.trans a.sz, c.n.trans a.n, fun r v x => c.lv r v (a.lv r v x)⟩

def CVR (m : Mem) (g : Gh) : CV → Value → Prop
  | .ro v, c => VRr m v c
  | .ptr d k ri off, c => ∃ l, gAt g d k = some l ∧ c = .pointer (some ⟨l.b, ri * l.sz + off, none⟩)

def SVR (m : Mem) (g : Gh) : SV → Value → Prop
  | .ro v, c => VRr m v c
  | .ptr d k ri off, c => ∃ l, gAt g d k = some l ∧ c = .pointer (some ⟨l.b, ri * l.sz + off, none⟩)
  | .sl d k off len, c => ∃ l a cap, gAt g d k = some l ∧ c = .slice (some a) len cap ∧ len ≤ cap ∧ (off < l.n → a = ⟨l.b, off * l.sz, none⟩ ∧ l.n ≤ off + cap) ∧ (len ≠ 0 → off + len ≤ l.n)
  | .tsl sz rows d k, c => ∃ l, gAt g d k = some l ∧ l.lv rows.length = some c ∧ (rows = [] → c = .slice none 0 0) ∧ (rows ≠ [] → VRr m (.vsl sz rows) c)
  | .mp d k, c => ∃ l, gAt g d k = some l ∧ c = .map (some l.b)
  | .it k, c => ∃ l, gAt g 0 k = some l ∧ c = .pointer (some ⟨l.b, 0, none⟩)
  | .fn f cap, c => ∃ cs : List Value, c = .func (.func f) #[] cs.toArray ∧ cs.length = cap.length ∧ ∀ (i : Nat) (v : CV) (u : Value), cap[i]? = some v → cs[i]? = some u → CVR m g v u
  | .yld d k, c => ∃ l, gAt g d k = some l ∧ c = .func (.yield l.b) #[] #[]
  | .undef, _ => True

def PVR (m : Mem) (g : Gh) : PV → Value → Prop
  | .s v, c => SVR m g v c
  | .agg cells, c => ∃ cs : List Value, c = .agg cs.toArray ∧ cs.length = cells.length ∧ (∀ u ∈ cs, u.oneCell' = true) ∧ ∀ (i : Nat) (v : SV) (u : Value), cells[i]? = some v → cs[i]? = some u → SVR m g v u

theorem CVR.mono {m m' : Mem} {g g' : Gh} (hm : m.le m') (hg : g.le g') {v : CV} {c : Value} (h : CVR m g v c) : CVR m' g' v c := by
  cases v with
  | ro v => exact VRr.mono hm v c h
  | ptr d k ri off =>
    obtain ⟨l, h1, rfl⟩ := h
    obtain ⟨l', h2, hl⟩ := hg d k l h1
    exact ⟨l', h2, by rw [hl.b, hl.sz]⟩

theorem SVR.mono {m m' : Mem} {g g' : Gh} (hm : m.le m') (hg : g.le g') {v : SV} {c : Value} (h : SVR m g v c) : SVR m' g' v c := by
  cases v with
  | ro v => exact VRr.mono hm v c h
  | ptr d k ri off =>
    obtain ⟨l, h1, rfl⟩ := h
    obtain ⟨l', h2, hl⟩ := hg d k l h1
    exact ⟨l', h2, by rw [hl.b, hl.sz]⟩
  | sl d k off len =>
    obtain ⟨l, a, cap, h1, rfl, h3, h4, h5⟩ := h
    obtain ⟨l', h2, hl⟩ := hg d k l h1
    exact ⟨l', a, cap, h2, rfl, h3, by rw [hl.b, hl.sz, hl.n]; exact h4, by rw [hl.n]; exact h5⟩
  | tsl sz rows d k =>
    obtain ⟨l, h1, h3, h4, h5⟩ := h
    obtain ⟨l', h2, hl⟩ := hg d k l h1
    exact ⟨l', h2, hl.lv _ _ h3, h4, fun hr => VRr.mono hm _ _ (h5 hr)⟩
  | mp d k =>
    obtain ⟨l, h1, rfl⟩ := h
    obtain ⟨l', h2, hl⟩ := hg d k l h1
    exact ⟨l', h2, by rw [hl.b]⟩
  | it k =>
    obtain ⟨l, h1, rfl⟩ := h
    obtain ⟨l', h2, hl⟩ := hg 0 k l h1
    exact ⟨l', h2, by rw [hl.b]⟩
  | fn f cap =>
    obtain ⟨cs, e, h1, h2⟩ := h
    exact ⟨cs, e, h1, fun i v u a b => (h2 i v u a b).mono hm hg⟩
  | yld d k =>
    obtain ⟨l, h1, rfl⟩ := h
    obtain ⟨l', h2, hl⟩ := hg d k l h1
    exact ⟨l', h2, by rw [hl.b]⟩
  | undef => trivial

theorem PVR.mono {m m' : Mem} {g g' : Gh} (hm : m.le m') (hg : g.le g') {v : PV} {c : Value} (h : PVR m g v c) : PVR m' g' v c := by
  cases v with
  | s v => exact SVR.mono hm hg h
  | agg cells =>
    obtain ⟨cs, e, h1, h2, h3⟩ := h
    exact ⟨cs, e, h1, h2, fun i v u a b => (h3 i v u a b).mono hm hg⟩

def PExit.code : PExit → Option Code
  | .normal => none
  | .exit id => some (.exit id)
  | .ret => some .ret
/-- How a loop's record stands. -/
def LSR : LState → Loop → Prop
  | .ready, r => r.state = .ready ∧ r.pending = none
  | .busy, r => r.state = .busy ∧ r.pending = none
  | .done e, r => r.state = .done ∧ r.pending = e.code

/-- A block of PM's and a block of the model's. -/
def LBR (m : Mem) (g : Gh) (w : World) : LB → LG → Prop
  | .none, _ => False
  | .box cells, l => l.n = 1 ∧ l.sz = cells.length ∧ ∃ (c : Array Value) (E : TypeId), w.heap[l.b]? = some (.cells c E (0, 0)) ∧
      ∀ (i : Nat) (v : SV), cells[i]? = some v → ∃ u, c[i]? = some u ∧ u.oneCell' = true ∧ SVR m g v u
  | .arr sz rows, l => l.n = rows.length ∧ l.sz = sz ∧ (∀ r ∈ rows, r.length = sz) ∧ ∃ (c : Array Value) (E : TypeId), w.heap[l.b]? = some (.cells c E (0, 0)) ∧
      ∀ (i : Nat) (r : List RV) (j : Nat) (v : RV), rows[i]? = some r → r[j]? = some v → ∃ u, c[i * sz + j]? = some u ∧ u.oneCell' = true ∧ VRr m v u
  | .froz sz rows, l => l.n = rows.length ∧ l.sz = sz ∧ RowsR m l.b sz 0 rows
  | .tok sz n, l => 0 < sz ∧ l.lv 0 = some (.slice none 0 0) ∧ (∀ r, n < r → l.lv r = none) ∧ ∃ v E xs, l.lv n = some v ∧ w.ownsRow 0 E sz v n xs ∧ (∀ u ∈ xs, u.oneCell' = true)
  | .map es, l => ∃ (ents : Array MapEntry) (clock : Nat), w.heap[l.b]? = some (.map ents clock) ∧ ents.size = es.length ∧
      ∀ (i : Nat) (e : RV × RV) (x : MapEntry), es[i]? = some e → ents[i]? = some x → VRr m e.1 x.key ∧ VRr m e.2 x.val
  | .iter s pos, l => w.heap[l.b]? = some (.stringIter s pos)
  | .loop f key n env st, l => l.n = 0 ∧ l.sz = 0 ∧ ∃ (r : Loop) (lc : LoopCode), w.heap[l.b]? = some (.loop r) ∧ LoopCodes.at_ f key = some lc ∧ r.params.toList = lc.ps ∧ r.assign = lc.assign ∧ r.body = lc.body ∧ LSR st r ∧ r.tmps.size = n ∧
      ∀ (t : Nat) (v : PV), (t, v) ∈ env → ∃ u, r.tmps[t]? = some u ∧ PVR m g v u

/-- Which block of the model's this is, if it is still written. -/
def LB.at_ (lb : LB) (l : LG) : Option Nat :=
  match lb with
  | .none | .froz _ _ => Option.none
  | .tok _ n => (l.lv n).bind Value.ownBlock
  | _ => some l.b

def lbAt? (fr : Frames) (d k : Nat) : Option LB :=
  match (fr[d]?).bind (·[k]?) with
  | some .none => none
  | o => o

/-- All that holds of memory. -/
structure PRel (m : Mem) (g : Gh) (fr : Frames) (w : World) : Prop where
  mem : ∀ b o c, m b o = some c → w.cell? ⟨b, o, none⟩ = some c
  len : g.length = fr.length
  blk : ∀ d k lb, lbAt? fr d k = some lb → ∃ l, gAt g d k = some l ∧ LBR m (g.drop d) w lb l
  excl : ∀ d k d' k' lb lb' l l' b, lbAt? fr d k = some lb → gAt g d k = some l → lbAt? fr d' k' = some lb' → gAt g d' k' = some l' →
    lb.at_ l = some b → lb'.at_ l' = some b → d = d' ∧ k = k'
  dis : ∀ d k lb l b o c, lbAt? fr d k = some lb → gAt g d k = some l → lb.at_ l = some b → m b o = some c →
    ∃ sz n, lb = .tok sz n ∧ o < n * sz
  ghost : ∀ d k l, gAt g d k = some l → ∃ lb, lbAt? fr d k = some lb

/-- What one piece of a run does to memory: of the blocks that lay there only those change that fr says are written. -/
structure Step (m : Mem) (g : Gh) (fr : Frames) (w : World) (m' : Mem) (w' : World) : Prop where
  le : m.le m'
  new : ∀ b o c, m' b o = some c → m b o = none → w.heap.size ≤ b ∨ ∃ d k lb l, lbAt? fr d k = some lb ∧ gAt g d k = some l ∧ lb.at_ l = some b
  os : w'.os = w.os
  tape : w'.tape = w.tape
  output : w'.output = w.output
  size : w.heap.size ≤ w'.heap.size
  block : ∀ b, b < w.heap.size → (∀ d k lb l, lbAt? fr d k = some lb → gAt g d k = some l → lb.at_ l ≠ some b) → w'.heap[b]? = w.heap[b]?

theorem LBR.lt {m : Mem} {g : Gh} {w : World} {lb : LB} {l : LG} (h : LBR m g w lb l) {b : Nat} (hb : lb.at_ l = some b) : b < w.heap.size := by
  cases lb with
  | none => cases hb
  | box cells =>
    cases hb
    obtain ⟨_, _, c, E, hh, _⟩ := h
    exact (Array.getElem?_eq_some_iff.1 hh).1
  | arr sz rows =>
    cases hb
    obtain ⟨_, _, _, c, E, hh, _⟩ := h
    exact (Array.getElem?_eq_some_iff.1 hh).1
  | froz sz rows => cases hb
  | tok sz n =>
    obtain ⟨_, _, _, v, E, xs, hv, ho, _⟩ := h
    simp only [LB.at_, hv, Option.bind_some] at hb
    exact (ho.lt b hb).2
  | map es =>
    cases hb
    obtain ⟨ents, clock, hh, _⟩ := h
    exact (Array.getElem?_eq_some_iff.1 hh).1
  | iter s pos =>
    cases hb
    exact (Array.getElem?_eq_some_iff.1 h).1
  | loop f key n env st =>
    cases hb
    obtain ⟨_, _, r, lc, hh, _⟩ := h
    exact (Array.getElem?_eq_some_iff.1 hh).1

/-- A block lives on where its own block is as it was. -/
theorem LBR.kept {m m' : Mem} {g g' : Gh} {w w' : World} {lb : LB} {l l' : LG} (h : LBR m g w lb l) (hm : m.le m') (hg : g.le g') (hl : l' = l)
    (hb : ∀ b, lb.at_ l = some b → w'.heap[b]? = w.heap[b]?) : LBR m' g' w' lb l' := by
  subst hl
  cases lb with
  | none => exact h
  | box cells =>
    obtain ⟨h1, h2, c, E, hh, h3⟩ := h
    refine ⟨h1, h2, c, E, (hb _ rfl).trans hh, fun i v hv => ?_⟩
    obtain ⟨u, a, b, c⟩ := h3 i v hv
    exact ⟨u, a, b, c.mono hm hg⟩
  | arr sz rows =>
    obtain ⟨h1, h2, h4, c, E, hh, h3⟩ := h
    refine ⟨h1, h2, h4, c, E, (hb _ rfl).trans hh, fun i r j v hr hv => ?_⟩
    obtain ⟨u, a, b, c⟩ := h3 i r j v hr hv
    exact ⟨u, a, b, VRr.mono hm _ _ c⟩
  | froz sz rows => exact ⟨h.1, h.2.1, RowsR.mono hm _ _ _ _ h.2.2⟩
  | tok sz n =>
    obtain ⟨h1, h2, h3, v, E, xs, hv, ho, h4⟩ := h
    refine ⟨h1, h2, h3, v, E, xs, hv, ⟨ho.1, ?_⟩, h4⟩
    rcases ho.2 with hn | ⟨q, cap, cur, rfl, hbg, hgg, rest⟩
    · exact .inl hn
    · exact .inr ⟨q, cap, cur, rfl, hbg, (hb q (by simp [LB.at_, hv, Value.ownBlock])).trans hgg, rest⟩
  | map es =>
    obtain ⟨ents, clock, hh, h1, h2⟩ := h
    exact ⟨ents, clock, (hb _ rfl).trans hh, h1, fun i e x a b => ⟨VRr.mono hm _ _ (h2 i e x a b).1, VRr.mono hm _ _ (h2 i e x a b).2⟩⟩
  | iter s pos => exact (hb _ rfl).trans h
  | loop f key n env st =>
    obtain ⟨h1, h2, r, lc, hh, h3, h4, h5, h6, h7, h8, h9⟩ := h
    refine ⟨h1, h2, r, lc, (hb _ rfl).trans hh, h3, h4, h5, h6, h7, h8, fun t v ht => ?_⟩
    obtain ⟨u, a, b⟩ := h9 t v ht
    exact ⟨u, a, b.mono hm hg⟩

theorem lbAt?_cons_succ (l : List LB) (fr : Frames) (d k : Nat) : lbAt? (l :: fr) (d + 1) k = lbAt? fr d k := by simp [lbAt?]
theorem gAt_cons_succ (l : List (Option LG)) (g : Gh) (d k : Nat) : gAt (l :: g) (d + 1) k = gAt g d k := by simp [gAt]

theorem gAt_drop (g : Gh) (d e k : Nat) : gAt (g.drop d) e k = gAt g (d + e) k := by simp [gAt]

/-! ### The state inside a function: E is how memory lay when it was entered -/
structure Entry where
  m : Mem
  g : Gh
  fr : Frames
  w : World
  keep : List (Nat × Obj)

structure FRel (E : Entry) (m : Mem) (g : Gh) (fr : Frames) (w : World) : Prop where
  p : PRel m g fr w
  step : Step E.m E.g E.fr E.w m w
  gt : ∃ gl g0, g = gl :: g0 ∧ Gh.le E.g g0
  shape : ∃ loc up, fr = loc :: up ∧ up.length = E.fr.length
  old : ∀ d k lb l b, lbAt? fr d k = some lb → gAt g d k = some l → lb.at_ l = some b → b < E.w.heap.size → ∃ d' lb0 l0, d = d' + 1 ∧ lbAt? E.fr d' k = some lb0 ∧ gAt E.g d' k = some l0 ∧ lb0.at_ l0 = some b
  kp : ∀ b o, (b, o) ∈ E.keep → w.heap[b]? = some o ∧ ∀ d k lb l, lbAt? fr d k = some lb → gAt g d k = some l → lb.at_ l ≠ some b

theorem FRel.own {E : Entry} {m : Mem} {g : Gh} {fr : Frames} {w : World} (h : FRel E m g fr w) : ∀ k lb l b, lbAt? fr 0 k = some lb → gAt g 0 k = some l → lb.at_ l = some b → E.w.heap.size ≤ b := fun k lb l b h0 g0 a0 => by
  rcases Nat.lt_or_ge b E.w.heap.size with hb | hb
  · obtain ⟨d', _, _, e, _⟩ := h.old 0 k lb l b h0 g0 a0 hb
    omega
  · exact hb

/-! #### Lists -/
def setG (gl : List (Option LG)) (ix : Nat) (l : LG) : List (Option LG) :=
  match Nat.blt ix gl.length with
  | true => gl.set ix (some l)
  | false => gl ++ List.replicate (ix - gl.length) none ++ [some l]

theorem setG_get (gl : List (Option LG)) (ix : Nat) (l : LG) (k : Nat) : (setG gl ix l)[k]?.join = if k = ix then some l else gl[k]?.join := by
  unfold setG
  split
  · rename_i h
    have h' : ix < gl.length := by simpa using h
    rw [List.getElem?_set]
    by_cases e : ix = k
    · subst e; simp [h']
    · simp [e, Ne.symm e]
  · rename_i h
    have h' : ¬ ix < gl.length := fun hc => by rw [← Nat.blt_eq] at hc; rw [hc] at h; cases h
    by_cases e : k = ix
    · subst e
      rw [if_pos rfl, List.getElem?_append_right (by simp; omega)]
      simp; rw [show k - (gl.length + (k - gl.length)) = 0 by omega]; simp
    · rw [if_neg e]
      by_cases e2 : k < gl.length
      · rw [List.append_assoc, List.getElem?_append_left e2]
      · rw [List.getElem?_eq_none (show gl.length ≤ k by omega)]
        by_cases e3 : k < ix
        · rw [List.getElem?_append_left (by simp; omega), List.getElem?_append_right (by omega), List.getElem?_replicate]
          split <;> rfl
        · rw [List.getElem?_eq_none (by simp; omega)]

theorem setLoc_get (loc : List LB) (ix : Nat) (b : LB) (k : Nat) : (setLoc loc ix b)[k]?.getD .none = if k = ix then b else loc[k]?.getD .none := by
  unfold setLoc
  split
  · rename_i h
    have h' : ix < loc.length := by simpa using h
    rw [List.getElem?_set]
    by_cases e : ix = k
    · subst e; simp [h']
    · simp [e, Ne.symm e]
  · rename_i h
    have h' : ¬ ix < loc.length := fun hc => by rw [← Nat.blt_eq] at hc; rw [hc] at h; cases h
    by_cases e : k = ix
    · subst e
      rw [if_pos rfl, List.getElem?_append_right (by simp; omega)]
      simp; rw [show k - (loc.length + (k - loc.length)) = 0 by omega]; simp
    · rw [if_neg e]
      by_cases e2 : k < loc.length
      · rw [List.append_assoc, List.getElem?_append_left e2]
      · rw [List.getElem?_eq_none (show loc.length ≤ k by omega)]
        by_cases e3 : k < ix
        · rw [List.getElem?_append_left (by simp; omega), List.getElem?_append_right (by omega), List.getElem?_replicate]
          split <;> rfl
        · rw [List.getElem?_eq_none (by simp; omega)]

theorem lbAt?_eq (fr : Frames) (d k : Nat) : lbAt? fr d k = (match lbAt fr d k with | .none => none | b => some b) := by
  unfold lbAt? lbAt
  simp only [List.getD_eq_getElem?_getD]
  cases h : fr[d]? with
  | none => simp
  | some l =>
    simp only [Option.bind_some, Option.getD_some]
    cases h2 : l[k]? with
    | none => simp
    | some b => cases b <;> simp

theorem lbAt?_some {fr : Frames} {d k : Nat} {lb : LB} : lbAt? fr d k = some lb ↔ lbAt fr d k = lb ∧ lb ≠ .none := by
  rw [lbAt?_eq]
  cases h : lbAt fr d k <;> simp <;> intro hh <;> subst hh <;> simp

theorem lbAt_setLoc (loc : List LB) (up : Frames) (ix : Nat) (b : LB) (d k : Nat) : lbAt (setLoc loc ix b :: up) d k = if d = 0 ∧ k = ix then b else lbAt (loc :: up) d k := by
  unfold lbAt
  cases d with
  | zero => simp [List.getD_eq_getElem?_getD, setLoc_get]
  | succ d => simp

theorem gAt_setG (gl : List (Option LG)) (g : Gh) (ix : Nat) (l : LG) (d k : Nat) : gAt (setG gl ix l :: g) d k = if d = 0 ∧ k = ix then some l else gAt (gl :: g) d k := by
  unfold gAt
  cases d with
  | zero => simp [setG_get]
  | succ d => simp

theorem lbAt_setAt (fr : Frames) (d k : Nat) (b : LB) (h : lbAt fr d k ≠ .none) (e j : Nat) : lbAt (setAt fr d k b) e j = if e = d ∧ j = k then b else lbAt fr e j := by
  have hd : d < fr.length := by
    rcases Nat.lt_or_ge d fr.length with h' | h'
    · exact h'
    · exact absurd (by simp [lbAt, List.getD_eq_getElem?_getD, List.getElem?_eq_none h']) h
  have hk : k < (fr.getD d []).length := by
    rcases Nat.lt_or_ge k (fr.getD d []).length with h' | h'
    · exact h'
    · exact absurd (by unfold lbAt; rw [List.getD_eq_getElem?_getD (l := fr.getD d []), List.getElem?_eq_none h']; rfl) h
  unfold setAt lbAt
  simp only [List.getD_eq_getElem?_getD] at hk ⊢
  rw [List.getElem?_set]
  by_cases h1 : d = e
  · subst h1
    simp only [if_true, hd, Option.getD_some, true_and]
    rw [List.getElem?_set]
    by_cases h2 : k = j
    · subst h2; simp [hk]
    · simp [h2, Ne.symm h2]
  · simp [h1, Ne.symm h1]

theorem setAt_length (fr : Frames) (d k : Nat) (b : LB) : (setAt fr d k b).length = fr.length := by simp [setAt]

theorem mem_lt {m : Mem} {g : Gh} {fr : Frames} {w : World} (h : PRel m g fr w) {b o : Nat} {c : Value} (hc : m b o = some c) : b < w.heap.size :=
  World.block_lt_of_cell? w _ (h.mem b o c hc)

/-! #### The pieces that every operation is made of -/
/-- A new block (or a token without one). -/
theorem FRel.alloc {E : Entry} {m : Mem} {gl : List (Option LG)} {loc : List LB} {up : Frames} {w w' : World} {g0 : Gh} (h : FRel E m (gl :: g0) (loc :: up) w) {ix : Nat} (hix : loc.getD ix .none = .none)
    (hos : w'.os = w.os) (ht : w'.tape = w.tape) (ho : w'.output = w.output) (hs : w.heap.size ≤ w'.heap.size) (hb : ∀ b, b < w.heap.size → w'.heap[b]? = w.heap[b]?)
    {lb : LB} {l : LG} (hl : LBR m (setG gl ix l :: g0) w' lb l) (hat : ∀ b, lb.at_ l = some b → w.heap.size ≤ b) (hn : lb ≠ .none) :
    FRel E m (setG gl ix l :: g0) (setLoc loc ix lb :: up) w' ∧ Gh.le (gl :: g0) (setG gl ix l :: g0) := by
  have hnone : lbAt? (loc :: up) 0 ix = none := by
    rw [lbAt?_eq]; unfold lbAt; simp only [List.getD_cons_zero, hix]
  have hgn : gAt (gl :: g0) 0 ix = none := by
    cases hg : gAt (gl :: g0) 0 ix with
    | none => rfl
    | some l0 => obtain ⟨lb0, h0⟩ := h.p.ghost 0 ix l0 hg; rw [hnone] at h0; cases h0
  have hle : Gh.le (gl :: g0) (setG gl ix l :: g0) := fun d k l0 h0 => by
    refine ⟨l0, ?_, l0.le_refl⟩
    rw [gAt_setG, if_neg]
    · exact h0
    · rintro ⟨rfl, rfl⟩; rw [hgn] at h0; cases h0
  have hled : ∀ d, Gh.le (List.drop d (gl :: g0)) (List.drop d (setG gl ix l :: g0)) := fun d e k l0 h0 => by
    rw [gAt_drop] at h0 ⊢; exact hle _ _ _ h0
  -- what lies at a place now
  have look : ∀ d k lb0, lbAt? (setLoc loc ix lb :: up) d k = some lb0 → (d = 0 ∧ k = ix ∧ lb0 = lb) ∨ (¬ (d = 0 ∧ k = ix) ∧ lbAt? (loc :: up) d k = some lb0) := fun d k lb0 h0 => by
    rw [lbAt?_some, lbAt_setLoc] at h0
    by_cases e : d = 0 ∧ k = ix
    · rw [if_pos e] at h0; exact .inl ⟨e.1, e.2, h0.1.symm⟩
    · rw [if_neg e] at h0; exact .inr ⟨e, lbAt?_some.2 h0⟩
  have glook : ∀ d k, ¬ (d = 0 ∧ k = ix) → gAt (setG gl ix l :: g0) d k = gAt (gl :: g0) d k := fun d k e => by rw [gAt_setG, if_neg e]
  have gix : gAt (setG gl ix l :: g0) 0 ix = some l := by rw [gAt_setG, if_pos ⟨rfl, rfl⟩]
  -- an old block's own block is old
  have old : ∀ d k lb0 l0 b, lbAt? (loc :: up) d k = some lb0 → gAt (gl :: g0) d k = some l0 → lb0.at_ l0 = some b → b < w.heap.size := fun d k lb0 l0 b h0 hg hb0 => by
    obtain ⟨l1, hg1, hr⟩ := h.p.blk d k lb0 h0
    rw [hg] at hg1; cases hg1
    exact hr.lt hb0
  refine ⟨⟨⟨?_, ?_, ?_, ?_, ?_, ?_⟩, ?_, ?_, ?_, ?_, ?_⟩, hle⟩
  · intro b o c hc
    have hlt := mem_lt h.p hc
    exact (World.cell?_of_block (w := w) (hb b hlt)).trans (h.p.mem b o c hc)
  · have := h.p.len; simpa using this
  · intro d k lb0 h0
    rcases look d k lb0 h0 with ⟨rfl, rfl, rfl⟩ | ⟨e, h0⟩
    · exact ⟨l, gix, hl⟩
    · obtain ⟨l0, hg, hr⟩ := h.p.blk d k lb0 h0
      exact ⟨l0, by rw [glook d k e]; exact hg, hr.kept (Mem.le_refl m) (hled d) rfl fun b hb0 => hb b (hr.lt hb0)⟩
  · intro d k d' k' lb0 lb1 l0 l1 b h0 g0 h1 g1 a0 a1
    rcases look d k lb0 h0 with ⟨e1, e2, e3⟩ | ⟨e, x0⟩
    · subst e1; subst e2; subst e3
      rw [gix] at g0; cases g0
      rcases look d' k' lb1 h1 with ⟨e1, e2, e3⟩ | ⟨e', x1⟩
      · exact ⟨e1.symm, e2.symm⟩
      · rw [glook d' k' e'] at g1
        have := old _ _ _ _ _ x1 g1 a1
        have := hat b a0
        omega
    · rw [glook d k e] at g0
      rcases look d' k' lb1 h1 with ⟨e1, e2, e3⟩ | ⟨e', x1⟩
      · subst e1; subst e2; subst e3
        rw [gix] at g1; cases g1
        have := old _ _ _ _ _ x0 g0 a0
        have := hat b a1
        omega
      · rw [glook d' k' e'] at g1
        exact h.p.excl _ _ _ _ _ _ _ _ b x0 g0 x1 g1 a0 a1
  · intro d k lb0 l0 b o c h0 g0 a0 hc
    rcases look d k lb0 h0 with ⟨rfl, rfl, rfl⟩ | ⟨e, h0⟩
    · rw [gix] at g0; cases g0
      have := hat b a0
      have := mem_lt h.p hc
      omega
    · rw [glook d k e] at g0
      exact h.p.dis _ _ _ _ _ _ _ h0 g0 a0 hc
  · intro d k l0 g0
    by_cases e : d = 0 ∧ k = ix
    · obtain ⟨rfl, rfl⟩ := e
      exact ⟨lb, lbAt?_some.2 ⟨by rw [lbAt_setLoc, if_pos ⟨rfl, rfl⟩], hn⟩⟩
    · rw [glook d k e] at g0
      obtain ⟨lb0, h0⟩ := h.p.ghost d k l0 g0
      exact ⟨lb0, by rw [lbAt?_some] at h0 ⊢; rw [lbAt_setLoc, if_neg e]; exact h0⟩
  · exact ⟨h.step.le, h.step.new, hos.trans h.step.os, ht.trans h.step.tape, ho.trans h.step.output, Nat.le_trans h.step.size hs,
      fun b hb0 hne => (hb b (Nat.lt_of_lt_of_le hb0 h.step.size)).trans (h.step.block b hb0 hne)⟩
  · obtain ⟨gl', g0', e, h1⟩ := h.gt
    cases e
    exact ⟨_, _, rfl, h1⟩
  · obtain ⟨loc', up', e, h1⟩ := h.shape
    cases e
    exact ⟨_, _, rfl, h1⟩
  · intro d k lb0 l0 b h0 g1 a0 hb0
    rcases look d k lb0 h0 with ⟨rfl, rfl, rfl⟩ | ⟨e, h0⟩
    · rw [gix] at g1; cases g1
      have := hat b a0
      have := h.step.size
      omega
    · rw [glook d k e] at g1
      exact h.old d k lb0 l0 b h0 g1 a0 hb0
  · intro b o hk
    obtain ⟨h1, h2⟩ := h.kp b o hk
    have hlt := (Array.getElem?_eq_some_iff.1 h1).1
    refine ⟨(hb b hlt).trans h1, fun d k lb0 l0 h0 g1 a0 => ?_⟩
    rcases look d k lb0 h0 with ⟨rfl, rfl, rfl⟩ | ⟨e, h0⟩
    · rw [gix] at g1; cases g1
      have := hat b a0
      omega
    · rw [glook d k e] at g1
      exact h2 d k lb0 l0 h0 g1 a0

end Go.PM

set_option linter.unusedSectionVars false
namespace Go.PM
variable [LoopCodes]

theorem lbAt?_setAt {fr : Frames} {d k : Nat} {b : LB} (h : lbAt fr d k ≠ .none) (hb : b ≠ .none) {e j : Nat} {lb : LB} (h0 : lbAt? (setAt fr d k b) e j = some lb) :
    (e = d ∧ j = k ∧ lb = b) ∨ (¬ (e = d ∧ j = k) ∧ lbAt? fr e j = some lb) := by
  rw [lbAt?_some, lbAt_setAt fr d k b h] at h0
  by_cases x : e = d ∧ j = k
  · rw [if_pos x] at h0; exact .inl ⟨x.1, x.2, h0.1.symm⟩
  · rw [if_neg x] at h0; exact .inr ⟨x, lbAt?_some.2 h0⟩

theorem lbAt?_setAt_ne {fr : Frames} {d k : Nat} {b : LB} (h : lbAt fr d k ≠ .none) {e j : Nat} (x : ¬ (e = d ∧ j = k)) : lbAt? (setAt fr d k b) e j = lbAt? fr e j := by
  rw [lbAt?_eq, lbAt?_eq, lbAt_setAt fr d k b h, if_neg x]

theorem lbAt?_setAt_eq {fr : Frames} {d k : Nat} {b : LB} (h : lbAt fr d k ≠ .none) (hb : b ≠ .none) : lbAt? (setAt fr d k b) d k = some b :=
  lbAt?_some.2 ⟨by rw [lbAt_setAt fr d k b h, if_pos ⟨rfl, rfl⟩], hb⟩

theorem setAt_cons_zero (loc : List LB) (up : Frames) (k : Nat) (b : LB) : setAt (loc :: up) 0 k b = loc.set k b :: up := by simp [setAt]
theorem setAt_cons_succ (loc : List LB) (up : Frames) (d k : Nat) (b : LB) : setAt (loc :: up) (d + 1) k b = loc :: setAt up d k b := by simp [setAt]

theorem shape_set {n : Nat} {fr : Frames} {d k : Nat} {lb' : LB} (h : ∃ loc up, fr = loc :: up ∧ up.length = n) : ∃ loc up, setAt fr d k lb' = loc :: up ∧ up.length = n := by
  obtain ⟨loc, up, rfl, h1⟩ := h
  cases d with
  | zero => exact ⟨_, up, setAt_cons_zero loc up k lb', h1⟩
  | succ d => exact ⟨loc, _, setAt_cons_succ loc up d k lb', by rw [setAt_length]; exact h1⟩

/-- A block whose content changes. -/
theorem FRel.write {E : Entry} {m : Mem} {g : Gh} {fr : Frames} {w w' : World} (h : FRel E m g fr w) {d k : Nat} {lb lb' : LB} {l : LG} (hlb : lbAt? fr d k = some lb) (hg : gAt g d k = some l)
    (hat : lb.at_ l = some l.b) (hat' : lb'.at_ l = some l.b ∨ lb'.at_ l = none) (ht : ∀ sz n, lb ≠ .tok sz n) (ht' : ∀ sz n, lb' ≠ .tok sz n) (hn : lb' ≠ .none)
    (hos : w'.os = w.os) (htp : w'.tape = w.tape) (ho : w'.output = w.output) (hs : w'.heap.size = w.heap.size) (hb : ∀ b, b ≠ l.b → w'.heap[b]? = w.heap[b]?)
    (hl : LBR m (g.drop d) w' lb' l) : FRel E m g (setAt fr d k lb') w' := by
  have hne : lbAt fr d k ≠ .none := by have := lbAt?_some.1 hlb; rw [this.1]; exact this.2
  have hdis : ∀ b o c, m b o = some c → b ≠ l.b := fun b o c hc e => by
    subst e
    obtain ⟨sz, n, e, _⟩ := h.p.dis d k lb l l.b o c hlb hg hat hc
    exact ht sz n e
  have hat2 : ∀ b, lb'.at_ l = some b → b = l.b := fun b hb => by
    rcases hat' with e | e <;> rw [e] at hb <;> cases hb
    rfl
  refine ⟨⟨fun b o c hc => ?_, by rw [setAt_length]; exact h.p.len, fun e j lb0 h0 => ?_, fun e j e' j' lb0 lb1 l0 l1 b h0 g0 h1 g1 a0 a1 => ?_, fun e j lb0 l0 b o c h0 g0 a0 hc => ?_, fun e j l0 g0 => ?_⟩,
    ⟨h.step.le, h.step.new, hos.trans h.step.os, htp.trans h.step.tape, ho.trans h.step.output, by rw [hs]; exact h.step.size, fun b hb0 hne0 => ?_⟩, h.gt, shape_set h.shape, fun e j lb0 l0 b h0 g0 a0 hb0 => ?_, fun b o hk => ?_⟩
  · exact (World.cell?_of_block (w := w) (hb b (hdis b o c hc))).trans (h.p.mem b o c hc)
  · rcases lbAt?_setAt hne hn h0 with ⟨rfl, rfl, rfl⟩ | ⟨x, h0⟩
    · exact ⟨l, hg, hl⟩
    · obtain ⟨l0, g0, hr⟩ := h.p.blk e j lb0 h0
      refine ⟨l0, g0, hr.kept (Mem.le_refl m) (Gh.le_refl _) rfl fun b hb0 => hb b fun e2 => ?_⟩
      subst e2
      exact x (h.p.excl e j d k lb0 lb l0 l l.b h0 g0 hlb hg hb0 hat)
  · rcases lbAt?_setAt hne hn h0 with ⟨e1, e2, e3⟩ | ⟨x, x0⟩
    · rcases lbAt?_setAt hne hn h1 with ⟨e1', e2', e3'⟩ | ⟨x', x1⟩
      · exact ⟨e1.trans e1'.symm, e2.trans e2'.symm⟩
      · subst e1; subst e2; subst e3
        rw [hg] at g0; cases g0
        have := hat2 b a0; subst this
        exact h.p.excl _ _ _ _ _ _ _ _ _ hlb hg x1 g1 hat a1
    · rcases lbAt?_setAt hne hn h1 with ⟨e1', e2', e3'⟩ | ⟨x', x1⟩
      · subst e1'; subst e2'; subst e3'
        rw [hg] at g1; cases g1
        have := hat2 b a1; subst this
        exact h.p.excl _ _ _ _ _ _ _ _ _ x0 g0 hlb hg a0 hat
      · exact h.p.excl _ _ _ _ _ _ _ _ _ x0 g0 x1 g1 a0 a1
  · rcases lbAt?_setAt hne hn h0 with ⟨e1, e2, e3⟩ | ⟨x, x0⟩
    · subst e1; subst e2; subst e3
      rw [hg] at g0; cases g0
      have := hat2 b a0; subst this
      exact absurd rfl (hdis _ _ _ hc)
    · exact h.p.dis _ _ _ _ _ _ _ x0 g0 a0 hc
  · obtain ⟨lb0, h0⟩ := h.p.ghost e j l0 g0
    by_cases x : e = d ∧ j = k
    · obtain ⟨rfl, rfl⟩ := x; exact ⟨lb', lbAt?_setAt_eq hne hn⟩
    · exact ⟨lb0, by rw [lbAt?_setAt_ne hne x]; exact h0⟩
  · refine (hb b fun e => ?_).trans (h.step.block b hb0 hne0)
    subst e
    obtain ⟨d', lb0, l0, _, e1, e2, e3⟩ := h.old d k lb l l.b hlb hg hat hb0
    exact hne0 d' k lb0 l0 e1 e2 e3
  · rcases lbAt?_setAt hne hn h0 with ⟨e1, e2, e3⟩ | ⟨x, x0⟩
    · subst e1; subst e2; subst e3
      rw [hg] at g0; cases g0
      have := hat2 b a0; subst this
      exact h.old _ _ _ _ _ hlb hg hat hb0
    · exact h.old _ _ _ _ _ x0 g0 a0 hb0
  · obtain ⟨h1, h2⟩ := h.kp b o hk
    have hbl : b ≠ l.b := fun e => by subst e; exact h2 d k lb l hlb hg hat
    refine ⟨(hb b hbl).trans h1, fun e j lb0 l0 h0 g0 a0 => ?_⟩
    rcases lbAt?_setAt hne hn h0 with ⟨e1, e2, e3⟩ | ⟨x, x0⟩
    · subst e1; subst e2; subst e3
      rw [hg] at g0; cases g0
      exact hbl (hat2 b a0)
    · exact h2 _ _ _ _ x0 g0 a0

/-- A block of this frame that is read only from now on: its cells join the memory that nobody writes. -/
theorem FRel.freeze {E : Entry} {m m' : Mem} {g : Gh} {fr : Frames} {w : World} (h : FRel E m g fr w) {k : Nat} {lb lb' : LB} {l : LG} (hlb : lbAt? fr 0 k = some lb) (hg : gAt g 0 k = some l)
    (hat : lb.at_ l = some l.b) (hat' : lb'.at_ l = none) (hn : lb' ≠ .none)
    (hm : m.le m') (hm' : ∀ b o c, m' b o = some c → m b o = some c ∨ (b = l.b ∧ w.cell? ⟨b, o, none⟩ = some c))
    (hl : LBR m' g w lb' l) : FRel E m' g (setAt fr 0 k lb') w := by
  have hne : lbAt fr 0 k ≠ .none := by have := lbAt?_some.1 hlb; rw [this.1]; exact this.2
  have hown := h.own k lb l l.b hlb hg hat
  refine ⟨⟨fun b o c hc => ?_, by rw [setAt_length]; exact h.p.len, fun e j lb0 h0 => ?_, fun e j e' j' lb0 lb1 l0 l1 b h0 g0 h1 g1 a0 a1 => ?_, fun e j lb0 l0 b o c h0 g0 a0 hc => ?_, fun e j l0 g0 => ?_⟩,
    ⟨Mem.le_trans h.step.le hm, fun b o c hc hc0 => ?_, h.step.os, h.step.tape, h.step.output, h.step.size, h.step.block⟩, h.gt, shape_set h.shape, fun e j lb0 l0 b h0 g0 a0 hb0 => ?_, fun b o hk => ?_⟩
  · rcases hm' b o c hc with h1 | ⟨rfl, h1⟩
    · exact h.p.mem b o c h1
    · exact h1
  · rcases lbAt?_setAt hne hn h0 with ⟨rfl, rfl, rfl⟩ | ⟨x, h0⟩
    · exact ⟨l, hg, hl⟩
    · obtain ⟨l0, g0, hr⟩ := h.p.blk e j lb0 h0
      exact ⟨l0, g0, hr.kept hm (Gh.le_refl _) rfl fun b _ => rfl⟩
  · rcases lbAt?_setAt hne hn h0 with ⟨e1, e2, e3⟩ | ⟨x, x0⟩
    · subst e1; subst e2; subst e3
      rw [hg] at g0; cases g0
      rw [hat'] at a0; cases a0
    · rcases lbAt?_setAt hne hn h1 with ⟨e1', e2', e3'⟩ | ⟨x', x1⟩
      · subst e1'; subst e2'; subst e3'
        rw [hg] at g1; cases g1
        rw [hat'] at a1; cases a1
      · exact h.p.excl _ _ _ _ _ _ _ _ _ x0 g0 x1 g1 a0 a1
  · rcases lbAt?_setAt hne hn h0 with ⟨e1, e2, e3⟩ | ⟨x, x0⟩
    · subst e1; subst e2; subst e3
      rw [hg] at g0; cases g0
      rw [hat'] at a0; cases a0
    · rcases hm' b o c hc with h1 | ⟨rfl, h1⟩
      · exact h.p.dis _ _ _ _ _ _ _ x0 g0 a0 h1
      · exact absurd (h.p.excl _ _ _ _ _ _ _ _ _ x0 g0 hlb hg a0 hat) x
  · obtain ⟨lb0, h0⟩ := h.p.ghost e j l0 g0
    by_cases x : e = 0 ∧ j = k
    · obtain ⟨rfl, rfl⟩ := x; exact ⟨lb', lbAt?_setAt_eq hne hn⟩
    · exact ⟨lb0, by rw [lbAt?_setAt_ne hne x]; exact h0⟩
  · rcases hm' b o c hc with h1 | ⟨rfl, h1⟩
    · exact h.step.new b o c h1 hc0
    · exact .inl hown
  · rcases lbAt?_setAt hne hn h0 with ⟨e1, e2, e3⟩ | ⟨x, x0⟩
    · subst e1; subst e2; subst e3
      rw [hg] at g0; cases g0
      rw [hat'] at a0; cases a0
    · exact h.old _ _ _ _ _ x0 g0 a0 hb0
  · obtain ⟨h1, h2⟩ := h.kp b o hk
    refine ⟨h1, fun e j lb0 l0 h0 g0 a0 => ?_⟩
    rcases lbAt?_setAt hne hn h0 with ⟨e1, e2, e3⟩ | ⟨x, x0⟩
    · subst e1; subst e2; subst e3
      rw [hg] at g0; cases g0
      rw [hat'] at a0; cases a0
    · exact h2 _ _ _ _ x0 g0 a0

/-! ### append to a slice of the call's own: the model's side -/
section
variable {P : Program} (w : World)

/-- Within the capacity, whatever type the row was made at. -/
theorem run_append_room' (t ty e E : TypeId) (i : TypeInfo) (ht : P.underlying t = some (.slice e)) (hi : P.info? e = some i)
    (g off sLen sCap : Nat) (cur : Array Value) (hg : w.heap[g]? = some (.cells cur E (0, 0)))
    (a : Addr) (m c : Nat) (news : List Value) (hl : news.length = m * i.size) (hnews : ∀ (j : Nat) (u : Value), news[j]? = some u → w.cell? (a.add j) = some u) (h1 : ∀ u ∈ news, u.oneCell' = true)
    (hroom : sLen + m ≤ sCap) (hfit : off + sLen * i.size + news.length ≤ cur.size) :
    (Builtin.append_ #[t, t] ty #[.slice (some ⟨g, off, none⟩) sLen sCap, .slice (some a) m c]).run P w =
      .ok (.slice (some ⟨g, off, none⟩) (sLen + m) sCap) (w.setRow g (cur.toList.take (off + sLen * i.size) ++ news ++ cur.toList.drop (off + sLen * i.size + news.length)).toArray) := by
  have hf := run_firstCells_some (P := P) w i.size m a m c news hl hnews
  have hst := run_storeCells_at P g (off + sLen * i.size) E news 0 cur w hg (by simpa using hfit) h1
  simp only [Nat.add_zero] at hst
  simp [Builtin.append_, run_underlying ht, sizeOf, typeInfo, hi, Builtin.lenOf, hroom, hf, Addr.add_lit, hst]

theorem run_append_tok (t ty e : TypeId) (i : TypeInfo) (z : Value) (ht : P.underlying t = some (.slice e)) (hi : P.info? e = some i) (hz : i.zero = some z)
    (hzs : z.cells.size = i.size) (v : Value) (n : Nat) (xs : List Value) (E : TypeId) (hown : w.ownsRow 0 E i.size v n xs)
    (a : Addr) (m c : Nat) (news : List Value) (hl : news.length = m * i.size) (hm0 : 0 < m) (hnews : ∀ (j : Nat) (u : Value), news[j]? = some u → w.cell? (a.add j) = some u) (h1 : ∀ u ∈ news, u.oneCell' = true)
    (h63 : n + m ≤ maxLen) (hbytes : (n + m) * i.bytes ≤ 140737488355328) :
    ∃ v' w' E', (Builtin.append_ #[t, t] ty #[v, .slice (some a) m c]).run P w = .ok v' w' ∧ w'.ownsRow 0 E' i.size v' (n + m) (xs ++ news) ∧
      w'.os = w.os ∧ w'.tape = w.tape ∧ w'.output = w.output ∧ w.heap.size ≤ w'.heap.size ∧
      ((∃ b, v'.ownBlock = some b ∧ v.ownBlock = some b ∧ ∀ k, k ≠ b → w'.heap[k]? = w.heap[k]?) ∨ (v'.ownBlock = some w.heap.size ∧ ∀ k, k < w.heap.size → w'.heap[k]? = w.heap[k]?)) := by
  have hsmall : n + m ≤ 9223372036854775807 := by simp only [maxLen] at h63; omega
  have hlen : (xs ++ news).length = (n + m) * i.size := by rw [List.length_append, hown.1, hl, Nat.add_mul]
  have grown : ∀ (old : Nat), old < n + m →
      (w.drew.alloc (.cells (xs.toArray ++ news.toArray ++ Builtin.zeroCells z.cells (grownCap w (n + m) old e - (n + m))) e)).ownsRow 0 e i.size
        (.slice (some ⟨w.heap.size, 0, none⟩) (n + m) (grownCap w (n + m) old e)) (n + m) (xs ++ news) := fun old ho => by
    have hge := grownCap_ge w (n + m) old e
    have hcm : grownCap w (n + m) old e ≤ maxLen := grownCap_le_maxLen w (n + m) old e h63
    refine ⟨hlen, .inr ⟨w.heap.size, _, _, rfl, Nat.zero_le _, heap_alloc_new w.drew _, hge, hcm, ?_, ?_⟩⟩
    · simp only [Array.size_append, List.size_toArray, size_zeroCells, hzs, hown.1, hl, ← Nat.add_mul]
      congr 1
      omega
    · simp only [Array.toList_append, List.append_assoc]
      rw [← List.append_assoc, ← hlen]
      exact List.take_left
  rcases hown.2 with ⟨rfl, rfl⟩ | ⟨g, cap, cur, rfl, hbg, hg, hnc, hcm, hcs, htake⟩
  · have hx : xs = [] := List.eq_nil_of_length_eq_zero (by simpa using hown.1)
    subst hx
    have hr := run_append_nil (P := P) w t ty e i z ht hi hz a m c news hl hnews hm0 (by omega) (by have hb := hbytes; simp only [Nat.zero_add] at hb; omega)
    have hgr := grown 0 (by omega)
    simp only [Nat.zero_add, List.nil_append, Array.empty_append] at hgr ⊢
    exact ⟨_, _, e, hr, hgr, rfl, rfl, rfl, by simp, .inr ⟨rfl, fun k hk => heap_alloc_old w.drew _ k hk⟩⟩
  · by_cases hroom : n + m ≤ cap
    · have hfit : n * i.size + news.length ≤ cur.size := by rw [hl, hcs, ← Nat.add_mul]; exact Nat.mul_le_mul_right _ hroom
      have hr := run_append_room' (P := P) w t ty e E i ht hi g 0 n cap cur hg a m c news hl hnews h1 hroom (by simpa using hfit)
      simp only [Nat.zero_add] at hr
      refine ⟨_, _, E, hr, ⟨hlen, .inr ⟨g, cap, _, rfl, hbg, setRow_heap w g cur _ E _ hg, hroom, hcm, ?_, ?_⟩⟩, rfl, rfl, rfl, by simp, .inl ⟨g, rfl, rfl, fun k hk => setRow_other w g k _ hk⟩⟩
      · simp only [List.size_toArray, List.length_append, List.length_take, List.length_drop, Array.length_toList]
        omega
      · rw [htake, ← hlen]
        exact List.take_left
    · have holds : ∀ j u, xs[j]? = some u → w.cell? ((⟨g, 0, none⟩ : Addr).add j) = some u := hown.cells (g := g) rfl
      have hr := run_append_grow (P := P) w t ty e i z ht hi hz ⟨g, 0, none⟩ n cap xs hown.1 holds a m c news hl hnews (by omega) (by omega) (growslice_fits (by omega) hbytes)
      have hgr := grown cap (by omega)
      exact ⟨_, _, e, hr, hgr, rfl, rfl, rfl, by simp, .inr ⟨rfl, fun k hk => heap_alloc_old w.drew _ k hk⟩⟩
end

theorem ownsRow_form {w : World} {E : TypeId} {size n : Nat} {v : Value} {xs : List Value} {b : Nat} (h : w.ownsRow 0 E size v n xs) (hb : v.ownBlock = some b) :
    ∃ cap, v = .slice (some ⟨b, 0, none⟩) n cap ∧ n ≤ cap := by
  rcases h.2 with ⟨rfl, _⟩ | ⟨g, cap, cur, rfl, _, _, h1, _⟩
  · cases hb
  · cases hb; exact ⟨cap, rfl, h1⟩

theorem add_zero_place (b j : Nat) : (⟨b, 0, none⟩ : Addr).add j = ⟨b, j, none⟩ := by unfold Addr.add; split <;> simp_all

def setGA (g : Gh) (d k : Nat) (l : LG) : Gh := g.set d ((g.getD d []).set k (some l))
theorem gAt_setGA {g : Gh} {d k : Nat} {l0 l : LG} (h : gAt g d k = some l0) (e j : Nat) : gAt (setGA g d k l) e j = if e = d ∧ j = k then some l else gAt g e j := by
  have hd : d < g.length := by
    rcases Nat.lt_or_ge d g.length with h' | h'
    · exact h'
    · simp [gAt, List.getElem?_eq_none h'] at h
  have hk : k < (g.getD d []).length := by
    rcases Nat.lt_or_ge k (g.getD d []).length with h' | h'
    · exact h'
    · have hx : gAt g d k = ((g.getD d [])[k]?).join := by simp [gAt, List.getD_eq_getElem?_getD, List.getElem?_eq_getElem hd]
      rw [hx, List.getElem?_eq_none h'] at h
      cases h
  unfold setGA gAt
  rw [List.getElem?_set]
  by_cases h1 : d = e
  · subst h1
    simp only [if_true, hd, Option.bind_some, true_and]
    rw [List.getElem?_set]
    by_cases h2 : k = j
    · subst h2
      rw [if_pos rfl, if_pos hk]
      simp
    · simp [h2, Ne.symm h2, List.getD_eq_getElem?_getD, List.getElem?_eq_getElem hd]
  · simp [h1, Ne.symm h1]
theorem setGA_length (g : Gh) (d k : Nat) (l : LG) : (setGA g d k l).length = g.length := by simp [setGA]

set_option maxHeartbeats 1000000 in
/-- A token grows. -/
theorem FRel.grow {E : Entry} {m : Mem} {g : Gh} {fr : Frames} {w w' : World} (h : FRel E m g fr w) {d k sz : Nat} {l : LG}
    {rows ys : List (List RV)} {v0 v' : Value} {E0 E' : TypeId} {xs news : List Value}
    (hlb : lbAt? fr d k = some (.tok sz rows.length)) (hg : gAt g d k = some l) (hl0 : l.lv 0 = some (.slice none 0 0)) (hlr : ∀ r, rows.length < r → l.lv r = none) (hsz : 0 < sz)
    (hlv : l.lv rows.length = some v0) (hown : w.ownsRow 0 E0 sz v0 rows.length xs) (hx1 : ∀ u ∈ xs, u.oneCell' = true) (hrows : rows ≠ [] → VRr m (.vsl sz rows) v0)
    (hy : ys ≠ []) (hys : ∀ (i : Nat) (r : List RV), ys[i]? = some r → r.length = sz ∧ ∀ (j : Nat) (rv : RV), r[j]? = some rv → ∃ u, news[i * sz + j]? = some u ∧ VRr m rv u)
    (hn1 : ∀ u ∈ news, u.oneCell' = true)
    (hown' : w'.ownsRow 0 E' sz v' (rows.length + ys.length) (xs ++ news)) (hos : w'.os = w.os) (ht : w'.tape = w.tape) (ho : w'.output = w.output) (hs : w.heap.size ≤ w'.heap.size)
    (hb : (∃ b, v'.ownBlock = some b ∧ v0.ownBlock = some b ∧ ∀ k, k ≠ b → w'.heap[k]? = w.heap[k]?) ∨ (v'.ownBlock = some w.heap.size ∧ ∀ k, k < w.heap.size → w'.heap[k]? = w.heap[k]?)) :
    ∃ m' g', FRel E m' g' (setAt fr d k (.tok sz (rows.length + ys.length))) w' ∧ m.le m' ∧ Gh.le g g' ∧ SVR m' g' (.tsl sz (rows ++ ys) d k) v' := by
  have hne : lbAt fr d k ≠ .none := by have := lbAt?_some.1 hlb; rw [this.1]; exact this.2
  have hyl : 0 < ys.length := List.length_pos_iff.2 hy
  obtain ⟨B, hB⟩ : ∃ B, v'.ownBlock = some B := by rcases hb with ⟨b, h1, _⟩ | ⟨h1, _⟩ <;> exact ⟨_, h1⟩
  have hat0 : (LB.tok sz rows.length).at_ l = v0.ownBlock := by simp [LB.at_, hlv]
  -- the other blocks are as they were
  have keep : ∀ b, b < w.heap.size → b ≠ B → w'.heap[b]? = w.heap[b]? := fun b hb0 hne0 => by
    rcases hb with ⟨b1, h1, h2, h3⟩ | ⟨h1, h2⟩
    · rw [hB] at h1; cases h1; exact h3 b hne0
    · exact h2 b hb0
  have hBlt : B < w.heap.size → v0.ownBlock = some B := fun hlt => by
    rcases hb with ⟨b1, h1, h2, _⟩ | ⟨h1, _⟩
    · rw [hB] at h1; cases h1; exact h2
    · rw [hB] at h1; cases h1; omega
  have hxl : xs.length = rows.length * sz := hown.1
  -- what nobody wrote in block B is what the row holds
  have hBm : ∀ o c, m B o = some c → (xs ++ news)[o]? = some c := fun o c hc => by
    have hlt := mem_lt h.p hc
    have h0 := hBlt hlt
    obtain ⟨sz', n', e, ho0⟩ := h.p.dis d k _ l B o c hlb hg (hat0.trans h0) hc
    cases e
    have hcell := h.p.mem B o c hc
    have hxo : xs[o]? = some xs[o] := List.getElem?_eq_getElem (by omega)
    have := hown.cells h0 o _ hxo
    rw [add_zero_place, hcell] at this
    cases this
    rw [List.getElem?_append_left (by omega)]; exact hxo
  let m' : Mem := fun b o => if b = B then (xs ++ news)[o]? else m b o
  have hmle : m.le m' := fun b o c hc => by
    show (if b = B then _ else _) = _
    by_cases e : b = B
    · subst e; rw [if_pos rfl]; exact hBm o c hc
    · rw [if_neg e]; exact hc
  have hm'B : ∀ o, m' B o = (xs ++ news)[o]? := fun o => if_pos rfl
  have hm'ne : ∀ b o, b ≠ B → m' b o = m b o := fun b o e => if_neg e
  let l' : LG := { l with lv := fun r => if r = rows.length + ys.length then some v' else l.lv r }
  have hll : l.le l' := ⟨rfl, rfl, rfl, fun r c hc => by
    show (if _ then _ else _) = _
    rw [if_neg]; · exact hc
    · rintro rfl; rw [hlr _ (by omega)] at hc; cases hc⟩
  have gne : ∀ e j, ¬ (e = d ∧ j = k) → gAt (setGA g d k l') e j = gAt g e j := fun e j x => by rw [gAt_setGA hg, if_neg x]
  have gk : gAt (setGA g d k l') d k = some l' := by rw [gAt_setGA hg, if_pos ⟨rfl, rfl⟩]
  have hgle : Gh.le g (setGA g d k l') := fun e j l0 h0 => by
    by_cases x : e = d ∧ j = k
    · obtain ⟨rfl, rfl⟩ := x
      rw [hg] at h0; cases h0
      exact ⟨l', gk, hll⟩
    · exact ⟨l0, by rw [gne e j x]; exact h0, l0.le_refl⟩
  refine ⟨m', setGA g d k l', ?_, hmle, hgle, ?_⟩
  case refine_2 =>
    refine ⟨l', gk, by simp [l'], fun e => absurd e (by simp [hy]), fun _ => ?_⟩
    obtain ⟨cap, rfl, hcap⟩ := ownsRow_form hown' hB
    simp only [VRr]
    refine ⟨⟨B, 0, none⟩, cap, by simp, by simpa using hcap, fun _ => rfl, RowsR.of_get fun i r hr => ?_⟩
    by_cases hi : i < rows.length
    · rw [List.getElem?_append_left hi] at hr
      have hrne : rows ≠ [] := fun e => by subst e; simp at hi
      have hv := hrows hrne
      simp only [VRr] at hv
      obtain ⟨a, cap0, e0, _, hsp, hR⟩ := hv
      subst e0
      have hab : (Value.slice (some a) rows.length cap0).ownBlock = some a.block := rfl
      obtain ⟨cap1, e1, _⟩ := ownsRow_form hown hab
      injection e1 with e1 _ _
      injection e1 with e1
      have hoff : a.off = 0 := by rw [e1]
      obtain ⟨h1, h2⟩ := RowsR.get hR hr
      rw [hoff] at h2
      refine ⟨h1, RowR.of_get fun j rv hj => ?_⟩
      obtain ⟨c, hc, hc1, hc2⟩ := RowR.get h2 hj
      have hlen : i * sz + j < rows.length * sz := by
        have hjl : j < sz := by rw [← h1]; exact (List.getElem?_eq_some_iff.1 hj).1
        have := Nat.mul_le_mul_right sz (show i + 1 ≤ rows.length by omega)
        rw [Nat.add_mul] at this
        omega
      refine ⟨c, ?_, hc1, VRr.mono hmle _ _ hc2⟩
      show m' B (0 + i * sz + j) = _
      rw [hm'B, List.getElem?_append_left (by omega)]
      have hcell := h.p.mem _ _ _ hc
      have hxo : xs[i * sz + j]? = some xs[i * sz + j] := List.getElem?_eq_getElem (by omega)
      have h3 := hown.cells hab _ _ hxo
      rw [add_zero_place] at h3
      simp only [Nat.zero_add] at hcell ⊢
      rw [hcell] at h3
      cases h3
      exact hxo
    · rw [List.getElem?_append_right (by omega)] at hr
      obtain ⟨h1, h2⟩ := hys _ r hr
      refine ⟨h1, RowR.of_get fun j rv hj => ?_⟩
      obtain ⟨u, hu, hv⟩ := h2 j rv hj
      refine ⟨u, ?_, hn1 u (List.mem_of_getElem? hu), VRr.mono hmle _ _ hv⟩
      show m' B (0 + i * sz + j) = _
      have hk2 : 0 + i * sz + j = xs.length + ((i - rows.length) * sz + j) := by
        rw [hxl, Nat.zero_add, ← Nat.add_assoc, ← Nat.add_mul]
        congr 2
        omega
      rw [hm'B, hk2, List.getElem?_append_right (by omega), Nat.add_sub_cancel_left]
      exact hu
  case refine_1 =>
    have hgled : ∀ e, Gh.le (List.drop e g) (List.drop e (setGA g d k l')) := fun e i j l0 h0 => by
      rw [gAt_drop] at h0 ⊢
      exact hgle _ _ _ h0
    have hat' : (LB.tok sz (rows.length + ys.length)).at_ l' = some B := by simp [LB.at_, l', hB]
    -- the block of another one isn't B
    have other : ∀ e j lb0 l0 b, ¬ (e = d ∧ j = k) → lbAt? fr e j = some lb0 → gAt g e j = some l0 → lb0.at_ l0 = some b → b < w.heap.size ∧ b ≠ B := fun e j lb0 l0 b x h0 g0 a0 => by
      obtain ⟨l1, g1, hr⟩ := h.p.blk e j lb0 h0
      rw [g0] at g1; cases g1
      have hlt := hr.lt a0
      refine ⟨hlt, fun e2 => ?_⟩
      subst e2
      exact x (h.p.excl e j d k lb0 _ l0 l b h0 g0 hlb hg a0 (hat0.trans (hBlt hlt)))
    have hBold : B < E.w.heap.size → ∃ d' lb0 l0, d = d' + 1 ∧ lbAt? E.fr d' k = some lb0 ∧ gAt E.g d' k = some l0 ∧ lb0.at_ l0 = some B := fun hlt =>
      h.old d k _ l B hlb hg (hat0.trans (hBlt (Nat.lt_of_lt_of_le hlt h.step.size))) hlt
    refine ⟨⟨fun b o c hc => ?_, by rw [setAt_length, setGA_length]; exact h.p.len, fun e j lb0 h0 => ?_, fun e j e' j' lb0 lb1 l0 l1 b h0 g0 h1 g1 a0 a1 => ?_, fun e j lb0 l0 b o c h0 g0 a0 hc => ?_, fun e j l0 g0 => ?_⟩,
      ⟨Mem.le_trans h.step.le hmle, fun b o c hc hc0 => ?_, hos.trans h.step.os, ht.trans h.step.tape, ho.trans h.step.output, Nat.le_trans h.step.size hs, fun b hb0 hne0 => ?_⟩, ?_, shape_set h.shape, fun e j lb0 l0 b h0 g0 a0 hb0 => ?_, fun b o hk => ?_⟩
    · by_cases e : b = B
      · subst e
        rw [hm'B] at hc
        have := hown'.cells hB o c hc
        rwa [add_zero_place] at this
      · rw [hm'ne b o e] at hc
        exact (World.cell?_of_block (w := w) (keep b (mem_lt h.p hc) e)).trans (h.p.mem b o c hc)
    · rcases lbAt?_setAt hne (by simp) h0 with ⟨rfl, rfl, rfl⟩ | ⟨x, x0⟩
      · refine ⟨l', gk, hsz, ?_, fun r hr => ?_, v', E', xs ++ news, by simp [l'], hown', fun u hu => ?_⟩
        · show (if _ then _ else _) = _
          rw [if_neg (by omega)]; exact hl0
        · show (if _ then _ else _) = _
          rw [if_neg (by omega)]; exact hlr r (by omega)
        · rcases List.mem_append.1 hu with h1 | h1
          · exact hx1 u h1
          · exact hn1 u h1
      · obtain ⟨l0, g0, hr⟩ := h.p.blk e j lb0 x0
        exact ⟨l0, by rw [gne e j x]; exact g0, hr.kept hmle (hgled e) rfl fun b hb0 => keep b (other e j lb0 l0 b x x0 g0 hb0).1 (other e j lb0 l0 b x x0 g0 hb0).2⟩
    · rcases lbAt?_setAt hne (by simp) h0 with ⟨e1, e2, e3⟩ | ⟨x, x0⟩
      · rcases lbAt?_setAt hne (by simp) h1 with ⟨e1', e2', e3'⟩ | ⟨x', x1⟩
        · exact ⟨e1.trans e1'.symm, e2.trans e2'.symm⟩
        · subst e1; subst e2; subst e3
          rw [gk] at g0; cases g0
          rw [hat'] at a0; cases a0
          rw [gne _ _ x'] at g1
          exact absurd rfl (other _ _ _ _ _ x' x1 g1 a1).2
      · rw [gne _ _ x] at g0
        rcases lbAt?_setAt hne (by simp) h1 with ⟨e1', e2', e3'⟩ | ⟨x', x1⟩
        · subst e1'; subst e2'; subst e3'
          rw [gk] at g1; cases g1
          rw [hat'] at a1; cases a1
          exact absurd rfl (other _ _ _ _ _ x x0 g0 a0).2
        · rw [gne _ _ x'] at g1
          exact h.p.excl _ _ _ _ _ _ _ _ _ x0 g0 x1 g1 a0 a1
    · rcases lbAt?_setAt hne (by simp) h0 with ⟨e1, e2, e3⟩ | ⟨x, x0⟩
      · subst e1; subst e2; subst e3
        rw [gk] at g0; cases g0
        rw [hat'] at a0; cases a0
        rw [hm'B] at hc
        refine ⟨sz, _, rfl, ?_⟩
        have h1 := (List.getElem?_eq_some_iff.1 hc).1
        rw [hown'.1] at h1
        exact h1
      · rw [gne _ _ x] at g0
        have hbB := (other _ _ _ _ _ x x0 g0 a0).2
        rw [hm'ne b o hbB] at hc
        exact h.p.dis _ _ _ _ _ _ _ x0 g0 a0 hc
    · by_cases x : e = d ∧ j = k
      · obtain ⟨rfl, rfl⟩ := x; exact ⟨_, lbAt?_setAt_eq hne (by simp)⟩
      · rw [gne e j x] at g0
        obtain ⟨lb0, h0⟩ := h.p.ghost e j l0 g0
        exact ⟨lb0, by rw [lbAt?_setAt_ne hne x]; exact h0⟩
    · by_cases e : b = B
      · subst e
        rcases Nat.lt_or_ge b E.w.heap.size with hlt | hge
        · obtain ⟨d', lb0, l0, _, e1, e2, e3⟩ := hBold hlt
          exact .inr ⟨d', k, lb0, l0, e1, e2, e3⟩
        · exact .inl hge
      · rw [hm'ne b o e] at hc
        exact h.step.new b o c hc hc0
    · refine (keep b (Nat.lt_of_lt_of_le hb0 h.step.size) fun e => ?_).trans (h.step.block b hb0 hne0)
      subst e
      obtain ⟨d', lb0, l0, _, e1, e2, e3⟩ := hBold hb0
      exact hne0 d' k lb0 l0 e1 e2 e3
    · obtain ⟨gl, g0, rfl, h1⟩ := h.gt
      cases d with
      | zero => exact ⟨gl.set k (some l'), g0, by simp [setGA], h1⟩
      | succ d =>
        refine ⟨gl, setGA g0 d k l', by simp [setGA], fun e j l0 h0 => ?_⟩
        obtain ⟨l1, h2, h3⟩ := h1 e j l0 h0
        obtain ⟨l2, h4, h5⟩ := hgle (e + 1) j l1 (by rw [gAt_cons_succ]; exact h2)
        have e4 : setGA (gl :: g0) (d + 1) k l' = gl :: setGA g0 d k l' := by simp [setGA]
        rw [e4, gAt_cons_succ] at h4
        exact ⟨l2, h4, ⟨h5.b.trans h3.b, h5.sz.trans h3.sz, h5.n.trans h3.n, fun r c x => h5.lv r c (h3.lv r c x)⟩⟩
    · rcases lbAt?_setAt hne (by simp) h0 with ⟨e1, e2, e3⟩ | ⟨x, x0⟩
      · subst e1; subst e2; subst e3
        rw [gk] at g0; cases g0
        rw [hat'] at a0; cases a0
        exact hBold hb0
      · rw [gne e j x] at g0
        exact h.old _ _ _ _ _ x0 g0 a0 hb0
    · obtain ⟨h1, h2⟩ := h.kp b o hk
      have hlt := (Array.getElem?_eq_some_iff.1 h1).1
      have hbB : b ≠ B := fun e => by subst e; exact h2 d k _ l hlb hg (hat0.trans (hBlt hlt))
      refine ⟨(keep b hlt hbB).trans h1, fun e j lb0 l0 h0 g0 a0 => ?_⟩
      rcases lbAt?_setAt hne (by simp) h0 with ⟨e1, e2, e3⟩ | ⟨x, x0⟩
      · subst e1; subst e2; subst e3
        rw [gk] at g0; cases g0
        rw [hat'] at a0; cases a0
        exact hbB rfl
      · rw [gne e j x] at g0
        exact h2 _ _ _ _ x0 g0 a0

end Go.PM

set_option linter.unusedSectionVars false
namespace Go.PM
variable [LoopCodes]

/-- What a range over a function leaves among the deferred calls. -/
def mark (b : Nat) : Deferred := { target := .collected b, args := #[] }

/-- The state of a frame. -/
structure SRel (E : Entry) (m : Mem) (g : Gh) (st : St) (a : Act) (w : World) : Prop where
  f : FRel E m g st.fr w
  len : st.tmps.length = a.tmps.size
  tmps : ∀ (i : Nat) (v : PV) (c : Value), st.tmps[i]? = some v → a.tmps[i]? = some c → PVR m g v c
  dfr : ∃ bs : List Nat, a.defers = bs.map mark ∧ bs.Nodup ∧ ∀ b ∈ bs, (b, Obj.deferred (some [])) ∈ E.keep ∧ E.w.heap.size ≤ b

theorem constOK_rel {m : Mem} {c : Value} (h : constOK c = true) : VRr m (ofConst c) c := by
  unfold constOK at h
  split at h <;> simp_all [ofConst, VRr]

theorem SRel.ev {E : Entry} {m : Mem} {g : Gh} {st : St} {a : Act} {w : World} (h : SRel E m g st a w) (x : Operand) : PVR m g (st.ev x) (a.eval x) := by
  cases x with
  | tmp t =>
    simp only [St.ev, Act.eval, List.getD_eq_getElem?_getD]
    cases h1 : st.tmps[t]? with
    | none => trivial
    | some v =>
      have h2 : t < a.tmps.size := by rw [← h.len]; exact (List.getElem?_eq_some_iff.1 h1).1
      simp only [Option.getD_some, Array.getD_eq_getD_getElem?, Array.getElem?_eq_getElem h2]
      exact h.tmps t v _ h1 (Array.getElem?_eq_getElem h2)
  | const c =>
    simp only [St.ev, Act.eval]
    split
    · rename_i hc; exact constOK_rel hc
    · trivial
  | global g => trivial
  | func f => simp [St.ev, Act.eval, PVR, SVR, VRr, ListR]

/-! ### What values look like -/
section
variable {m : Mem} {g : Gh} {c : Value}
theorem pv_int {k : IntKind} {n : Int} (h : PVR m g (.s (.ro (.int k n))) c) : c = .int k n := by simpa [PVR, SVR, VRr] using h
theorem pv_bool {b : Bool} (h : PVR m g (.s (.ro (.bool b))) c) : c = .bool b := by simpa [PVR, SVR, VRr] using h
theorem pv_str {s : ByteArray} (h : PVR m g (.s (.ro (.str s))) c) : c = .string s := by simpa [PVR, SVR, VRr] using h
theorem pv_nils (h : PVR m g (.s (.ro .nils)) c) : c = .slice none 0 0 := by simpa [PVR, SVR, VRr] using h
theorem pv_esl (h : PVR m g (.s (.ro .esl)) c) : ∃ a, c = .slice (some a) 0 0 := by simpa [PVR, SVR, VRr] using h
theorem pv_of_int (m : Mem) (g : Gh) (k : IntKind) (n : Int) : PVR m g (.s (.ro (.int k n))) (.int k n) := by simp [PVR, SVR, VRr]
theorem pv_of_bool (m : Mem) (g : Gh) (b : Bool) : PVR m g (.s (.ro (.bool b))) (.bool b) := by simp [PVR, SVR, VRr]
theorem pv_skip (m : Mem) (g : Gh) : PVR m g skipP undef := by simp [skipP, PVR, SVR, VRr, ListR, undef]
end

/-- The cells of a value. -/
theorem cellsOf_rel {m : Mem} {g : Gh} {v : PV} {c : Value} (h : PVR m g v c) (ht : ∀ vs, v ≠ .s (.ro (.tup vs))) (hu : v ≠ .s .undef) :
    c.cells.size = (cellsOf v).length ∧ (∀ u ∈ c.cells, u.oneCell' = true) ∧ ∀ (i : Nat) (s : SV) (u : Value), (cellsOf v)[i]? = some s → c.cells[i]? = some u → SVR m g s u := by
  cases v with
  | agg cs =>
    obtain ⟨l, rfl, h1, h2, h3⟩ := h
    refine ⟨by simpa [Value.cells, cellsOf] using h1, by simpa [Value.cells] using h2, fun i s u a b => h3 i s u (by simpa [cellsOf] using a) (by simpa [Value.cells] using b)⟩
  | s v =>
    have one : ∀ {c : Value} {v : SV}, c.oneCell' = true → (∀ vs, v ≠ .ro (.agg vs)) → SVR m g v c →
        c.cells.size = (cellsOf (.s v)).length ∧ (∀ u ∈ c.cells, u.oneCell' = true) ∧ ∀ (i : Nat) (s : SV) (u : Value), (cellsOf (.s v))[i]? = some s → c.cells[i]? = some u → SVR m g s u := by
      intro c v hc hv hh
      have hcc : c.cells = #[c] := by cases c <;> simp_all [Value.cells, Value.oneCell']
      have hvv : cellsOf (.s v) = [v] := by
        unfold cellsOf
        split
        · rename_i e; cases e; exact absurd rfl (hv _)
        · rename_i e; cases e; rfl
        · rename_i e; cases e
      rw [hcc, hvv]
      refine ⟨rfl, by simpa using hc, fun i s u a b => ?_⟩
      cases i with
      | zero => simp at a b; subst a; subst b; exact hh
      | succ i => simp at a
    cases v with
    | ro v =>
      cases v with
      | agg vs =>
        simp only [PVR, SVR, VRr] at h
        obtain ⟨l, rfl, h1, h2⟩ := h
        refine ⟨by simp [Value.cells, cellsOf, h1.length], by simpa [Value.cells] using h2, fun i s u a b => ?_⟩
        simp only [cellsOf, List.getElem?_map] at a
        cases hv : vs[i]? with
        | none => simp [hv] at a
        | some rv =>
          simp [hv] at a
          subst a
          obtain ⟨c, hc, hr⟩ := h1.get hv
          simp [Value.cells] at b
          rw [hc] at b; cases b
          exact hr
      | tup vs => exact absurd rfl (ht vs)
      | int k n => exact one (by rw [pv_int h]; rfl) (by simp) h
      | bool b => exact one (by rw [pv_bool h]; rfl) (by simp) h
      | str b => exact one (by rw [pv_str h]; rfl) (by simp) h
      | nils => exact one (by rw [pv_nils h]; rfl) (by simp) h
      | nilp => exact one (by have : c = .pointer none := by simpa [PVR, SVR, VRr] using h
                              rw [this]; rfl) (by simp) h
      | nilm => exact one (by have : c = .map none := by simpa [PVR, SVR, VRr] using h
                              rw [this]; rfl) (by simp) h
      | nilf => exact one (by have : c = .nilFunc := by simpa [PVR, SVR, VRr] using h
                              rw [this]; rfl) (by simp) h
      | vptr row off => exact one (by
          have h' := h
          simp only [PVR, SVR, VRr] at h'
          obtain ⟨b, o, rfl, _⟩ := h'; rfl) (by simp) h
      | vsl sz rows => exact one (by
          have h' := h
          simp only [PVR, SVR, VRr] at h'
          obtain ⟨b, o, rfl, _⟩ := h'; rfl) (by simp) h
      | esl => exact one (by obtain ⟨a, rfl⟩ := pv_esl h; rfl) (by simp) h
      | fn f cap => exact one (by
          have h' := h
          simp only [PVR, SVR, VRr] at h'
          obtain ⟨b, rfl, _⟩ := h'; rfl) (by simp) h
    | ptr d k ri off => exact one (by obtain ⟨l, _, rfl⟩ := h; rfl) (by simp) h
    | sl d k off len => exact one (by obtain ⟨l, a, cap, _, rfl, _⟩ := h; rfl) (by simp) h
    | tsl sz rows d k => exact one (by
        obtain ⟨l, _, _, h1, h2⟩ := h
        by_cases e : rows = []
        · rw [h1 e]; rfl
        · have h3 := h2 e
          simp only [VRr] at h3
          obtain ⟨a, cap, rfl, _⟩ := h3; rfl) (by simp) h
    | mp d k => exact one (by obtain ⟨l, _, rfl⟩ := h; rfl) (by simp) h
    | yld d k => exact one (by obtain ⟨l, _, rfl⟩ := h; rfl) (by simp) h
    | it k => exact one (by obtain ⟨l, _, rfl⟩ := h; rfl) (by simp) h
    | fn f cap => exact one (by obtain ⟨cs, rfl, _⟩ := h; rfl) (by simp) h
    | undef => exact absurd rfl hu

/-- A token's slice as a value that is read. -/
theorem tsl_ro {m : Mem} {g : Gh} {sz : Nat} {rows : List (List RV)} {d k : Nat} {c : Value} (h : SVR m g (.tsl sz rows d k) c) : VRr m (sealT sz rows) c := by
  obtain ⟨l, _, _, h1, h2⟩ := h
  cases rows with
  | nil => simpa [VRr, sealT] using h1 rfl
  | cons r rs => exact h2 (by simp)

section
variable {R : Type}
theorem wInt_some {v : PV} {K : IntKind → Int → Option R} {r : R} (h : wInt v K = some r) : ∃ k n, v = .s (.ro (.int k n)) ∧ K k n = some r := by
  unfold wInt at h
  split at h
  · exact ⟨_, _, rfl, h⟩
  · cases h
theorem wBool_some {v : PV} {K : Bool → Option R} {r : R} (h : wBool v K = some r) : ∃ b, v = .s (.ro (.bool b)) ∧ K b = some r := by
  unfold wBool at h
  split at h
  · exact ⟨_, rfl, h⟩
  · cases h

theorem sealAll_some : ∀ {cs : List SV} {K : List RV → Option R} {r : R}, sealAll cs K = some r → ∃ vs, K vs = some r ∧ vs.length = cs.length ∧
    ∀ (m : Mem) (g : Gh) (i : Nat) (s : SV) (v : RV) (u : Value), cs[i]? = some s → vs[i]? = some v → SVR m g s u → VRr m v u
  | [], K, r, h => ⟨[], by simpa [sealAll] using h, rfl, fun _ _ i s v u a => by simp at a⟩
  | .ro v :: cs, K, r, h => by
    simp only [sealAll] at h
    obtain ⟨vs, h1, h2, h3⟩ := sealAll_some h
    refine ⟨v :: vs, h1, by simp [h2], fun m g i s v' u a b hs => ?_⟩
    cases i with
    | zero => simp at a b; subst a; subst b; exact hs
    | succ i => exact h3 m g i s v' u (by simpa using a) (by simpa using b) hs
  | .tsl sz rows d k :: cs, K, r, h => by
    simp only [sealAll] at h
    obtain ⟨vs, h1, h2, h3⟩ := sealAll_some h
    refine ⟨_ :: vs, h1, by simp [h2], fun m g i s v' u a b hs => ?_⟩
    cases i with
    | zero => simp at a b; subst a; subst b; exact tsl_ro hs
    | succ i => exact h3 m g i s v' u (by simpa using a) (by simpa using b) hs
  | .ptr .. :: _, _, _, h | .sl .. :: _, _, _, h | .mp .. :: _, _, _, h | .it .. :: _, _, _, h | .fn .. :: _, _, _, h | .yld .. :: _, _, _, h | .undef :: _, _, _, h => by simp [sealAll] at h

theorem wRo_some {v : PV} {K : RV → Option R} {r : R} (h : wRo v K = some r) : ∃ rv, K rv = some r ∧ ∀ (m : Mem) (g : Gh) (c : Value), PVR m g v c → VRr m rv c := by
  unfold wRo at h
  split at h
  · exact ⟨_, h, fun m g c hc => hc⟩
  · exact ⟨_, h, fun m g c hc => tsl_ro hc⟩
  · obtain ⟨vs, h1, h2, h3⟩ := sealAll_some h
    refine ⟨.agg vs, h1, fun m g c hc => ?_⟩
    obtain ⟨cs, rfl, e1, e2, e3⟩ := hc
    simp only [VRr]
    refine ⟨cs, rfl, ListR.of_get (by omega) fun i v c a b => ?_, e2⟩
    have hi : i < cs.length := (List.getElem?_eq_some_iff.1 b).1
    rename_i cells
    obtain ⟨s, hs⟩ : ∃ s, cells[i]? = some s := ⟨_, List.getElem?_eq_getElem (by omega)⟩
    exact h3 m g i s v c hs a (e3 i s c hs b)
  · cases h

theorem mkAgg_go : ∀ {cs : List SV} {vs : List RV}, mkAgg.go cs = some vs → cs = vs.map .ro
  | [], vs, h => by simp [mkAgg.go] at h; subst h; rfl
  | .ro v :: cs, vs, h => by
    simp only [mkAgg.go] at h
    split at h
    · rename_i ws hw; cases h; simp [mkAgg_go hw]
    · cases h
  | .ptr .. :: _, _, h | .sl .. :: _, _, h | .mp .. :: _, _, h | .it .. :: _, _, h | .fn .. :: _, _, h | .yld .. :: _, _, h | .undef :: _, _, h | .tsl .. :: _, _, h => by simp [mkAgg.go] at h

theorem mkAgg_some {cs : List SV} {K : PV → Option R} {r : R} (h : mkAgg cs K = some r) : ∃ v, K v = some r ∧
    ∀ (m : Mem) (g : Gh) (us : List Value), us.length = cs.length → (∀ u ∈ us, u.oneCell' = true) → (∀ (i : Nat) (s : SV) (u : Value), cs[i]? = some s → us[i]? = some u → SVR m g s u) → PVR m g v (.agg us.toArray) := by
  unfold mkAgg at h
  split at h
  · rename_i vs hv
    have e := mkAgg_go hv
    refine ⟨_, h, fun m g us h1 h2 h3 => ?_⟩
    simp only [PVR, SVR, VRr]
    refine ⟨us, rfl, ListR.of_get (by rw [h1, e]; simp) fun i v c a b => ?_, h2⟩
    exact h3 i (.ro v) c (by rw [e]; simp [a]) b
  · exact ⟨_, h, fun m g us h1 h2 h3 => ⟨us, rfl, h1, h2, h3⟩⟩
end

/-! ### Types -/
section
variable {P : Program}
theorem info_of_underlying {t : TypeId} {d : TypeDesc} (h : P.underlying t = some d) : ∃ i, P.info? t = some i := by
  unfold Program.underlying at h
  split at h
  · exact ⟨_, ‹_›⟩
  · exact ⟨_, ‹_›⟩
  · cases h
theorem run_sizeOf {t : TypeId} {d : TypeDesc} (h : P.underlying t = some d) (w : World) : (sizeOf t).run P w = .ok (sizeT P t) w := by
  obtain ⟨i, hi⟩ := info_of_underlying h
  simp [sizeOf, typeInfo, hi, sizeT]
theorem sizeT_pos {t : TypeId} (h : sizeT P t ≠ 0) : ∃ i, P.info? t = some i := by
  cases hi : P.info? t with
  | none => simp [sizeT, hi] at h
  | some i => exact ⟨i, rfl⟩
theorem run_sizeOf' {t : TypeId} (h : sizeT P t ≠ 0) (w : World) : (sizeOf t).run P w = .ok (sizeT P t) w := by
  obtain ⟨i, hi⟩ := sizeT_pos h
  simp [sizeOf, typeInfo, hi, sizeT]
theorem run_isAgg {t : TypeId} {b : Bool} (h : isAggT P t = some b) (w : World) : (isAgg t).run P w = .ok b w ∧ ∃ d, P.underlying t = some d := by
  unfold isAggT at h
  cases hu : P.underlying t with
  | none => simp [hu] at h
  | some d =>
    refine ⟨?_, d, rfl⟩
    unfold isAgg
    rw [Sem.run_bind, run_underlying hu w]
    rw [hu] at h
    cases d <;> simp_all

/-! ### load -/
theorem run_loadAt_one (w : World) (t : TypeId) (b p : Nat) (c : Value) (ht : isAggT P t = some false) (hc : w.cell? ⟨b, p, none⟩ = some c) :
    (Instr.loadAt t (.pointer (some ⟨b, p, none⟩))).run P w = .ok c w := by
  obtain ⟨h1, d, hd⟩ := run_isAgg ht w
  simp [Instr.loadAt, Instr.sureAddr, loadVar, h1, hc]
theorem run_loadAt_agg (w : World) (t : TypeId) (b p : Nat) (cs : List Value) (ht : isAggT P t = some true) (hn : cs.length = sizeT P t) (hc : ∀ (j : Nat) (v : Value), cs[j]? = some v → w.cell? ⟨b, p + j, none⟩ = some v) :
    (Instr.loadAt t (.pointer (some ⟨b, p, none⟩))).run P w = .ok (.agg cs.toArray) w := by
  obtain ⟨h1, d, hd⟩ := run_isAgg ht w
  have h2 := run_sizeOf hd w
  have h3 := run_loadCells_list (P := P) w ⟨b, p, none⟩ cs (fun j v hv => by rw [Addr.add_lit]; exact hc j v hv)
  rw [hn] at h3
  simp [Instr.loadAt, Instr.sureAddr, loadVar, h1, h2, h3]
end

end Go.PM

set_option linter.unusedSectionVars false
namespace Go.PM
variable [LoopCodes]
variable {R : Type} {P : Program}

theorem Gh.drop_at (g : Gh) (d e k : Nat) : gAt (g.drop d) e k = gAt g (e + d) k := by rw [gAt_drop, Nat.add_comm]

theorem CV.shift_rel {m : Mem} {g : Gh} {d : Nat} {v : CV} {u : Value} (h : CVR m (g.drop d) v u) : CVR m g (v.shift d) u := by
  cases v with
  | ro v => exact h
  | ptr e k ri off =>
    obtain ⟨l, h1, rfl⟩ := h
    exact ⟨l, by rw [← Gh.drop_at]; exact h1, rfl⟩

theorem SV.shift_rel {m : Mem} {g : Gh} {d : Nat} {v : SV} {u : Value} (h : SVR m (g.drop d) v u) : SVR m g (v.shift d) u := by
  cases v with
  | ro v => exact h
  | ptr e k ri off =>
    obtain ⟨l, h1, rfl⟩ := h
    exact ⟨l, by rw [← Gh.drop_at]; exact h1, rfl⟩
  | sl e k off len =>
    obtain ⟨l, a, cap, h1, h2⟩ := h
    exact ⟨l, a, cap, by rw [← Gh.drop_at]; exact h1, h2⟩
  | tsl sz rows e k =>
    obtain ⟨l, h1, h2⟩ := h
    exact ⟨l, by rw [← Gh.drop_at]; exact h1, h2⟩
  | mp e k =>
    obtain ⟨l, h1, h2⟩ := h
    exact ⟨l, by rw [← Gh.drop_at]; exact h1, h2⟩
  | it k => trivial
  | fn f cap =>
    obtain ⟨cs, e, h1, h2⟩ := h
    refine ⟨cs, e, by simpa using h1, fun i v u a b => ?_⟩
    simp only [List.getElem?_map] at a
    cases hv : cap[i]? with
    | none => simp [hv] at a
    | some v0 =>
      simp [hv] at a
      subst a
      exact CV.shift_rel (h2 i v0 u hv b)
  | yld e k =>
    obtain ⟨l, h1, h2⟩ := h
    exact ⟨l, by rw [← Gh.drop_at]; exact h1, h2⟩
  | undef => trivial

theorem unshift_some {d : Nat} {v : SV} {K : SV → Option R} {r : R} (h : unshift d v K = some r) : ∃ v', K v' = some r ∧ ∀ (m : Mem) (g : Gh) (u : Value), SVR m g v u → SVR m (g.drop d) v' u := by
  cases v with
  | ro v => exact ⟨_, h, fun m g u hu => hu⟩
  | ptr e k ri off =>
    simp only [unshift] at h
    split at h
    · rename_i hd
      have hd' : d ≤ e := by simpa using hd
      refine ⟨_, h, fun m g u ⟨l, h1, h2⟩ => ⟨l, ?_, h2⟩⟩
      rw [Gh.drop_at, Nat.sub_add_cancel hd']; exact h1
    · cases h
  | sl e k off len =>
    simp only [unshift] at h
    split at h
    · rename_i hd
      have hd' : d ≤ e := by simpa using hd
      refine ⟨_, h, fun m g u ⟨l, a, cap, h1, h2⟩ => ⟨l, a, cap, ?_, h2⟩⟩
      rw [Gh.drop_at, Nat.sub_add_cancel hd']; exact h1
    · cases h
  | tsl sz rows e k =>
    simp only [unshift] at h
    split at h
    · rename_i hd
      have hd' : d ≤ e := by simpa using hd
      refine ⟨_, h, fun m g u ⟨l, h1, h2⟩ => ⟨l, ?_, h2⟩⟩
      rw [Gh.drop_at, Nat.sub_add_cancel hd']; exact h1
    · cases h
  | mp e k =>
    simp only [unshift] at h
    split at h
    · exact ⟨_, h, fun m g u hu => hu⟩
    · cases h
  | fn f cap =>
    simp only [unshift] at h
    split at h
    · exact ⟨_, h, fun m g u hu => hu⟩
    · cases h
  | it k => simp [unshift] at h
  | yld e k => simp [unshift] at h
  | undef => simp [unshift] at h

theorem unshiftAll_some {d : Nat} : ∀ {vs : List SV} {K : List SV → Option R} {r : R}, unshiftAll d vs K = some r → ∃ ws, K ws = some r ∧ ws.length = vs.length ∧
    ∀ (m : Mem) (g : Gh) (i : Nat) (s s' : SV) (u : Value), vs[i]? = some s → ws[i]? = some s' → SVR m g s u → SVR m (g.drop d) s' u
  | [], K, r, h => ⟨[], by simpa [unshiftAll] using h, rfl, fun _ _ i s s' u a => by simp at a⟩
  | v :: vs, K, r, h => by
    simp only [unshiftAll] at h
    obtain ⟨v', h1, h2⟩ := unshift_some h
    obtain ⟨ws, h3, h4, h5⟩ := unshiftAll_some h1
    refine ⟨v' :: ws, h3, by simp [h4], fun m g i s s' u a b hs => ?_⟩
    cases i with
    | zero => simp at a b; subst a; subst b; exact h2 m g u hs
    | succ i => exact h5 m g i s s' u (by simpa using a) (by simpa using b) hs

/-! ### load -/
theorem loadRow_some {agg : Bool} {row : List RV} {o : Nat} {K : PV → Option R} {r : R} {t : TypeId} (ht : isAggT P t = some agg) (h : loadRow agg (sizeT P t) row o K = some r) :
    ∃ v, K v = some r ∧ ∀ (m : Mem) (g : Gh) (w : World) (b p : Nat),
      (∀ (i : Nat) (rv : RV), row[i]? = some rv → ∃ c, w.cell? ⟨b, p + i, none⟩ = some c ∧ c.oneCell' = true ∧ VRr m rv c) →
      ∃ c, (Instr.loadAt t (.pointer (some ⟨b, p + o, none⟩))).run P w = .ok c w ∧ PVR m g v c := by
  unfold loadRow at h
  split at h
  · split at h
    · rename_i rv hrv
      refine ⟨_, h, fun m g w b p hR => ?_⟩
      obtain ⟨c, h1, _, h2⟩ := hR _ _ hrv
      exact ⟨c, run_loadAt_one w t b _ c ht h1, h2⟩
    · cases h
  · split at h
    · rename_i hle
      have hle' : o + sizeT P t ≤ row.length := by simpa using hle
      refine ⟨_, h, fun m g w b p hR => ?_⟩
      have hsel : ∀ j, j < sizeT P t → ∃ c, w.cell? ⟨b, p + o + j, none⟩ = some c ∧ c.oneCell' = true ∧ ∀ rv, row[o + j]? = some rv → VRr m rv c := fun j hj => by
        obtain ⟨c, h1, h2, h3⟩ := hR (o + j) _ (List.getElem?_eq_getElem (by omega))
        refine ⟨c, by rw [Nat.add_assoc]; exact h1, h2, fun rv hrv => ?_⟩
        rw [List.getElem?_eq_getElem (by omega)] at hrv
        cases hrv; exact h3
      let cs : List Value := (List.range (sizeT P t)).map fun j => (w.cell? ⟨b, p + o + j, none⟩).getD undef
      have hcs : ∀ (j : Nat) (v : Value), cs[j]? = some v → j < sizeT P t ∧ w.cell? ⟨b, p + o + j, none⟩ = some v := fun j v hv => by
        have hj : j < sizeT P t := by simpa [cs] using (List.getElem?_eq_some_iff.1 hv).1
        obtain ⟨c, h1, _⟩ := hsel j hj
        simp [cs, hj, h1] at hv
        exact ⟨hj, by rw [h1, hv]⟩
      refine ⟨_, run_loadAt_agg w t b (p + o) cs ht (by simp [cs]) (fun j v hv => (hcs j v hv).2), ?_⟩
      simp only [PVR, SVR, VRr]
      refine ⟨cs, rfl, ListR.of_get (by simp [cs]; omega) fun i v c a b => ?_, fun u hu => ?_⟩
      · obtain ⟨hj, hmc⟩ := hcs i c b
        obtain ⟨c', h1, _, h3⟩ := hsel i hj
        rw [hmc] at h1; cases h1
        refine h3 v ?_
        rw [List.getElem?_take_of_lt hj, List.getElem?_drop] at a
        exact a
      · obtain ⟨j, hj⟩ := List.getElem?_of_mem hu
        obtain ⟨hj', hmc⟩ := hcs j u hj
        obtain ⟨c', h1, h2, _⟩ := hsel j hj'
        rw [hmc] at h1; cases h1; exact h2
    · cases h

theorem loadBox_some {agg : Bool} {d : Nat} {row : List SV} {o : Nat} {K : PV → Option R} {r : R} {t : TypeId} (ht : isAggT P t = some agg) (h : loadBox agg (sizeT P t) d row o K = some r) :
    ∃ v, K v = some r ∧ ∀ (m : Mem) (g : Gh) (w : World) (b : Nat),
      (∀ (i : Nat) (sv : SV), row[i]? = some sv → ∃ c, w.cell? ⟨b, i, none⟩ = some c ∧ c.oneCell' = true ∧ SVR m (g.drop d) sv c) →
      ∃ c, (Instr.loadAt t (.pointer (some ⟨b, o, none⟩))).run P w = .ok c w ∧ PVR m g v c := by
  unfold loadBox at h
  split at h
  · split at h
    · rename_i sv hsv
      refine ⟨_, h, fun m g w b hR => ?_⟩
      obtain ⟨c, h1, _, h2⟩ := hR _ _ hsv
      exact ⟨c, run_loadAt_one w t b _ c ht h1, SV.shift_rel h2⟩
    · cases h
  · split at h
    · rename_i hle
      have hle' : o + sizeT P t ≤ row.length := by simpa using hle
      obtain ⟨v, h1, h2⟩ := mkAgg_some h
      refine ⟨v, h1, fun m g w b hR => ?_⟩
      have hsel : ∀ j, j < sizeT P t → ∃ c, w.cell? ⟨b, o + j, none⟩ = some c ∧ c.oneCell' = true ∧ ∀ sv, row[o + j]? = some sv → SVR m (g.drop d) sv c := fun j hj => by
        obtain ⟨c, h1, h2, h3⟩ := hR (o + j) _ (List.getElem?_eq_getElem (by omega))
        refine ⟨c, h1, h2, fun rv hrv => ?_⟩
        rw [List.getElem?_eq_getElem (by omega)] at hrv
        cases hrv; exact h3
      let cs : List Value := (List.range (sizeT P t)).map fun j => (w.cell? ⟨b, o + j, none⟩).getD undef
      have hcs : ∀ (j : Nat) (v : Value), cs[j]? = some v → j < sizeT P t ∧ w.cell? ⟨b, o + j, none⟩ = some v := fun j v hv => by
        have hj : j < sizeT P t := by simpa [cs] using (List.getElem?_eq_some_iff.1 hv).1
        obtain ⟨c, h1, _⟩ := hsel j hj
        simp [cs, hj, h1] at hv
        exact ⟨hj, by rw [h1, hv]⟩
      refine ⟨_, run_loadAt_agg w t b o cs ht (by simp [cs]) (fun j v hv => (hcs j v hv).2), h2 m g cs (by simp [cs]; omega) (fun u hu => ?_) fun i s u a b' => ?_⟩
      · obtain ⟨j, hj⟩ := List.getElem?_of_mem hu
        obtain ⟨hj', hmc⟩ := hcs j u hj
        obtain ⟨c', h1, h2, _⟩ := hsel j hj'
        rw [hmc] at h1; cases h1; exact h2
      · obtain ⟨hj, hmc⟩ := hcs i u b'
        obtain ⟨c', h1, _, h3⟩ := hsel i hj
        rw [hmc] at h1; cases h1
        rw [List.getElem?_map, List.getElem?_take_of_lt hj, List.getElem?_drop] at a
        cases hv : row[o + i]? with
        | none => simp [hv] at a
        | some sv =>
          simp [hv] at a
          subst a
          exact SV.shift_rel (h3 sv hv)
    · cases h

theorem lbAt_blk {m : Mem} {g : Gh} {fr : Frames} {w : World} (h : PRel m g fr w) {d k : Nat} {lb : LB} (hlb : lbAt fr d k = lb) (hn : lb ≠ .none) : lbAt? fr d k = some lb ∧ ∃ l, gAt g d k = some l ∧ LBR m (g.drop d) w lb l := by
  have h0 : lbAt? fr d k = some lb := lbAt?_some.2 ⟨hlb, hn⟩
  exact ⟨h0, h.blk d k lb h0⟩

theorem loadK_some {fr : Frames} {t : TypeId} {x : PV} {K : PV → Option R} {r : R} (h : loadK P fr t x K = some r) :
    ∃ v, K v = some r ∧ ∀ (m : Mem) (g : Gh) (w : World) (c : Value), PRel m g fr w → PVR m g x c → ∃ u, (Instr.loadAt t c).run P w = .ok u w ∧ PVR m g v u := by
  unfold loadK at h
  split at h
  · rename_i agg hagg
    split at h
    · rename_i row o
      obtain ⟨v, h1, h2⟩ := loadRow_some hagg h
      refine ⟨v, h1, fun m g w c hp hx => ?_⟩
      simp only [PVR, SVR, VRr] at hx
      obtain ⟨b, p, rfl, hR⟩ := hx
      refine h2 m g w b p fun i rv hi => ?_
      obtain ⟨c, h3, h4, h5⟩ := RowR.get hR hi
      exact ⟨c, hp.mem _ _ _ h3, h4, h5⟩
    · rename_i d k ri o
      split at h
      · rename_i cells hlb
        split at h
        · obtain ⟨v, h1, h2⟩ := loadBox_some hagg h
          refine ⟨v, h1, fun m g w c hp hx => ?_⟩
          obtain ⟨l, hl, rfl⟩ := hx
          obtain ⟨_, l', hl', hr⟩ := lbAt_blk hp hlb (by simp)
          rw [hl] at hl'; cases hl'
          obtain ⟨_, _, ca, E, hh, hc⟩ := hr
          simp only [Nat.zero_mul, Nat.zero_add]
          refine h2 m g w l.b fun i sv hi => ?_
          obtain ⟨u, a, b, c⟩ := hc i sv hi
          exact ⟨u, by rw [cell_of_row w l.b i ca E (0, 0) hh]; exact a, b, c⟩
        · cases h
      · rename_i sz rows hlb
        split at h
        · rename_i row hrow
          obtain ⟨v, h1, h2⟩ := loadRow_some hagg h
          refine ⟨v, h1, fun m g w c hp hx => ?_⟩
          obtain ⟨l, hl, rfl⟩ := hx
          obtain ⟨_, l', hl', hr⟩ := lbAt_blk hp hlb (by simp)
          rw [hl] at hl'; cases hl'
          obtain ⟨_, hsz, hlen, ca, E, hh, hc⟩ := hr
          refine h2 m g w l.b (ri * l.sz) fun i rv hi => ?_
          obtain ⟨u, a, b, c⟩ := hc ri row i rv hrow hi
          exact ⟨u, by rw [cell_of_row w l.b _ ca E (0, 0) hh, hsz]; exact a, b, c⟩
        · cases h
      · rename_i sz rows hlb
        split at h
        · rename_i row hrow
          obtain ⟨v, h1, h2⟩ := loadRow_some hagg h
          refine ⟨v, h1, fun m g w c hp hx => ?_⟩
          obtain ⟨l, hl, rfl⟩ := hx
          obtain ⟨_, l', hl', hr⟩ := lbAt_blk hp hlb (by simp)
          rw [hl] at hl'; cases hl'
          obtain ⟨_, hsz, hR⟩ := hr
          obtain ⟨hlen, hrow'⟩ := RowsR.get hR hrow
          rw [Nat.zero_add] at hrow'
          rw [hsz]
          refine h2 m g w l.b (ri * sz) fun i rv hi => ?_
          obtain ⟨c, h3, h4, h5⟩ := RowR.get hrow' hi
          exact ⟨c, hp.mem _ _ _ h3, h4, h5⟩
        · cases h
      · cases h
    · cases h
  · cases h

/-! ### store -/
theorem storable_spec {v : PV} (h : storable v = true) : (∀ vs, v ≠ .s (.ro (.tup vs))) ∧ v ≠ .s .undef := by
  constructor
  · rintro vs rfl; simp [storable] at h
  · rintro rfl; simp [storable] at h

theorem run_storeAt (w : World) (t : TypeId) (b p : Nat) (c : Value) (ca : Array Value) (E : TypeId) {ag : Bool} (ht : isAggT P t = some ag) (hn : c.cells.size = sizeT P t)
    (hh : w.heap[b]? = some (.cells ca E (0, 0))) (hfit : p + c.cells.size ≤ ca.size) (h1 : ∀ u ∈ c.cells, u.oneCell' = true) :
    (Instr.storeAt t (.pointer (some ⟨b, p, none⟩)) c).run P w = .ok () (w.setRow b (splice ca.toList p c.cells.toList).toArray) := by
  obtain ⟨_, d, hd⟩ := run_isAgg ht w
  have hs := run_sizeOf hd w
  have hst := run_storeCells_at P b p E c.cells.toList 0 ca w hh (by simpa using hfit) (by simpa using h1)
  simp only [Nat.add_zero] at hst
  simp [Instr.storeAt, Instr.sureAddr, storeVar, hs, hn, hst, splice]

theorem splice_length {α : Type} (l : List α) (o : Nat) (cs : List α) (h : o + cs.length ≤ l.length) : (splice l o cs).length = l.length := by
  simp [splice]; omega

theorem splice_get {α : Type} (l : List α) (o : Nat) (cs : List α) (h : o + cs.length ≤ l.length) (i : Nat) : (splice l o cs)[i]? = if o ≤ i ∧ i < o + cs.length then cs[i - o]? else l[i]? := by
  unfold splice
  by_cases h1 : i < o
  · rw [if_neg (by omega), List.append_assoc, List.getElem?_append_left (by simp; omega), List.getElem?_take_of_lt h1]
  · by_cases h2 : i < o + cs.length
    · rw [if_pos ⟨by omega, h2⟩, List.getElem?_append_left (by simp; omega), List.getElem?_append_right (by simp; omega)]
      simp; rw [Nat.min_eq_left (by omega)]
    · rw [if_neg (by omega), List.getElem?_append_right (by simp; omega), List.getElem?_drop]
      simp
      rw [Nat.min_eq_left (by omega)]
      congr 1
      omega

theorem setRow_facts (w : World) (b : Nat) (cs : Array Value) : (w.setRow b cs).os = w.os ∧ (w.setRow b cs).tape = w.tape ∧ (w.setRow b cs).output = w.output ∧ (w.setRow b cs).heap.size = w.heap.size :=
  ⟨rfl, rfl, rfl, by simp⟩

theorem storeK_some {fr : Frames} {t : TypeId} {x v : PV} {K : Frames → Option R} {r : R} (h : storeK P fr t x v K = some r) :
    ∃ fr', K fr' = some r ∧ ∀ (E : Entry) (m : Mem) (g : Gh) (w : World) (cx cv : Value), FRel E m g fr w → PVR m g x cx → PVR m g v cv →
      ∃ w', (Instr.storeAt t cx cv).run P w = .ok () w' ∧ FRel E m g fr' w' := by
  unfold storeK at h
  split at h
  · rename_i d k ri o
    split at h
    · rename_i ag hag hst hlen
      have hlen' : (cellsOf v).length = sizeT P t := by simpa using hlen
      obtain ⟨hs1, hs2⟩ := storable_spec hst
      split at h
      · rename_i cells hlb
        split at h
        · rename_i hle
          have hle' : o + (cellsOf v).length ≤ cells.length := by simpa using hle
          split at h
          · obtain ⟨cs, h1, h2, h3⟩ := unshiftAll_some h
            refine ⟨_, h1, fun E m g w cx cv hf hx hv => ?_⟩
            obtain ⟨l, hl, rfl⟩ := hx
            obtain ⟨hlb0, l', hl', hr⟩ := lbAt_blk hf.p hlb (by simp)
            rw [hl] at hl'; cases hl'
            obtain ⟨hn1, hn2, ca, Et, hh, hc⟩ := hr
            obtain ⟨e1, e2, e3⟩ := cellsOf_rel hv hs1 hs2
            have hca : cells.length ≤ ca.size := by
              rcases Nat.lt_or_ge ca.size cells.length with hlt | hge
              · obtain ⟨u, hu, _⟩ := hc ca.size _ (List.getElem?_eq_getElem hlt)
                simp at hu
              · exact hge
            have hrun := run_storeAt (P := P) w t l.b o cv ca Et hag (by omega) hh (by omega) e2
            simp only [Nat.zero_mul, Nat.zero_add]
            refine ⟨_, hrun, hf.write hlb0 hl rfl (.inl rfl) (by simp) (by simp) (by simp) rfl rfl rfl (by simp) (fun b hb => setRow_other w l.b b _ hb) ?_⟩
            refine ⟨hn1, by rw [splice_length _ _ _ (by omega)]; exact hn2, _, Et, setRow_heap w l.b ca _ Et (0, 0) hh, fun i s hi => ?_⟩
            rw [splice_get _ _ _ (by omega)] at hi
            simp only [List.getElem?_toArray]
            rw [splice_get _ _ _ (by simp; omega)]
            simp only [Array.length_toList]
            by_cases hin : o ≤ i ∧ i < o + cs.length
            · rw [if_pos hin] at hi
              rw [if_pos (by omega)]
              have hs0 : (cellsOf v)[i - o]? = some _ := List.getElem?_eq_getElem (by omega)
              have hu0 : cv.cells[i - o]? = some _ := Array.getElem?_eq_getElem (show i - o < cv.cells.size by omega)
              refine ⟨_, by simp, e2 _ (Array.mem_of_getElem? hu0), h3 m g (i - o) _ s _ hs0 hi (e3 _ _ _ hs0 hu0)⟩
            · rw [if_neg hin] at hi
              rw [if_neg (by omega)]
              obtain ⟨u, a, b, c⟩ := hc i s hi
              exact ⟨u, by simpa using a, b, c⟩
          · cases h
        · cases h
      · rename_i sz rows hlb
        split at h
        · rename_i row hrow
          split at h
          · rename_i hle
            have hle' : o + (cellsOf v).length ≤ row.length := by simpa using hle
            obtain ⟨cs, h1, h2, h3⟩ := sealAll_some h
            refine ⟨_, h1, fun E m g w cx cv hf hx hv => ?_⟩
            obtain ⟨l, hl, rfl⟩ := hx
            obtain ⟨hlb0, l', hl', hr⟩ := lbAt_blk hf.p hlb (by simp)
            rw [hl] at hl'; cases hl'
            obtain ⟨hn1, hn2, hn3, ca, Et, hh, hc⟩ := hr
            obtain ⟨e1, e2, e3⟩ := cellsOf_rel hv hs1 hs2
            have hrl : row.length = sz := hn3 row (List.mem_of_getElem? hrow)
            have hca : ri * sz + row.length ≤ ca.size := by
              rcases Nat.eq_zero_or_pos row.length with h0 | h0
              · rcases Nat.eq_zero_or_pos (cellsOf v).length with hz | hz
                · -- nothing stored: the size is 0
                  rw [h0]
                  have : sz = 0 := by omega
                  simp [this]
                · omega
              · obtain ⟨u, hu, _⟩ := hc ri row (row.length - 1) _ hrow (List.getElem?_eq_getElem (by omega))
                have := (Array.getElem?_eq_some_iff.1 hu).1
                omega
            have hrun := run_storeAt (P := P) w t l.b (ri * l.sz + o) cv ca Et hag (by omega) hh (by rw [hn2]; omega) e2
            refine ⟨_, hrun, hf.write hlb0 hl rfl (.inl rfl) (by simp) (by simp) (by simp) rfl rfl rfl (by simp) (fun b hb => setRow_other w l.b b _ hb) ?_⟩
            have hri : ri < rows.length := (List.getElem?_eq_some_iff.1 hrow).1
            refine ⟨by simpa using hn1, hn2, fun r hr => ?_, _, Et, setRow_heap w l.b ca _ Et (0, 0) hh, fun i r j s hi hj => ?_⟩
            · rcases List.mem_or_eq_of_mem_set hr with hm | rfl
              · exact hn3 r hm
              · rw [splice_length _ _ _ (by omega)]; exact hrl
            · have hrlen : r.length = sz := by
                rcases List.mem_or_eq_of_mem_set (List.mem_of_getElem? hi) with hm | rfl
                · exact hn3 r hm
                · rw [splice_length _ _ _ (by omega)]; exact hrl
              have hjs : j < sz := by rw [← hrlen]; exact (List.getElem?_eq_some_iff.1 hj).1
              simp only [List.getElem?_toArray]
              rw [splice_get _ _ _ (by rw [hn2]; simp; omega)]
              simp only [Array.length_toList]
              rw [List.getElem?_set] at hi
              by_cases hir : ri = i
              · subst hir
                rw [if_pos rfl, if_pos hri] at hi
                cases hi
                rw [splice_get _ _ _ (by omega)] at hj
                by_cases hin : o ≤ j ∧ j < o + cs.length
                · rw [if_pos hin] at hj
                  rw [if_pos (by rw [hn2]; omega)]
                  have hs0 : (cellsOf v)[j - o]? = some _ := List.getElem?_eq_getElem (by omega)
                  have hu0 : cv.cells[j - o]? = some _ := Array.getElem?_eq_getElem (show j - o < cv.cells.size by omega)
                  refine ⟨_, ?_, e2 _ (Array.mem_of_getElem? hu0), h3 m g (j - o) _ s _ hs0 hj (e3 _ _ _ hs0 hu0)⟩
                  rw [hn2, show ri * sz + j - (ri * sz + o) = j - o by omega]
                  simp
                · rw [if_neg hin] at hj
                  rw [if_neg (by rw [hn2]; omega)]
                  obtain ⟨u, a, b, c⟩ := hc ri row j s hrow hj
                  exact ⟨u, by simpa using a, b, c⟩
              · rw [if_neg hir] at hi
                have hout : ¬ (ri * l.sz + o ≤ i * sz + j ∧ i * sz + j < ri * l.sz + o + cv.cells.size) := by
                  rw [hn2]
                  rcases Nat.lt_or_gt_of_ne hir with hlt | hgt
                  · have := Nat.mul_le_mul_right sz (show ri + 1 ≤ i by omega)
                    rw [Nat.add_mul] at this; omega
                  · have := Nat.mul_le_mul_right sz (show i + 1 ≤ ri by omega)
                    rw [Nat.add_mul] at this; omega
                rw [if_neg hout]
                obtain ⟨u, a, b, c⟩ := hc i r j s hi hj
                exact ⟨u, by simpa using a, b, c⟩
          · cases h
        · cases h
      · cases h
    · cases h
  · cases h

end Go.PM

set_option linter.unusedSectionVars false
namespace Go.PM
variable [LoopCodes]
variable {R : Type} {P : Program}

/-- What is asked of the types that the hint calls flat: '==' goes by the cells. -/
def EqOK (P : Program) (h : Hint) : Prop :=
  ∀ t, h.eqFlat t = true → ∀ (m : Mem) (a b : List RV) (c : Bool) (xs ys : List Value) (w : World) (X Y : Operand), flatEq P t a b = some c → ListR m a xs → ListR m b ys →
    (do eqGuard .eql t X Y (.agg xs.toArray) (.agg ys.toArray); binOp .eql t (.agg xs.toArray) (.agg ys.toArray) : Sem Value).run P w = .ok (.bool c) w ∧
    (do eqGuard .neq t X Y (.agg xs.toArray) (.agg ys.toArray); binOp .neq t (.agg xs.toArray) (.agg ys.toArray) : Sem Value).run P w = .ok (.bool (!c)) w

theorem eqGuard_run {op : BinOp} {t : TypeId} {X Y : Operand} {a b : Value} (w : World) (h : ∀ cs, a ≠ .agg cs) (h' : a ≠ .nilIface) : (eqGuard op t X Y a b).run P w = .ok () w := by
  unfold eqGuard
  cases op <;> simp <;> cases a <;> simp_all

theorem binOp_int {op : BinOp} {t : TypeId} {x y : PV} {hh : Hint} {K : PV → Option R} {r : R} {k : IntKind} {a : Int} (hx : x = .s (.ro (.int k a))) (h : binOpK P hh op t x y K = some r) :
    ∃ v, K v = some r ∧ ∀ (m : Mem) (g : Gh) (w : World) (cx cy : Value), PVR m g x cx → PVR m g y cy → ∀ X Y : Operand,
      ∃ c, (do eqGuard op t X Y cx cy; binOp op t cx cy : Sem Value).run P w = .ok c w ∧ PVR m g v c := by
  subst hx
  unfold binOpK at h
  simp only at h
  split at h
  case h_2 => cases h
  rename_i k' b
  have go : ∀ {c : Value} {v : PV}, (∀ w : World, (binOp op t (.int k a) (.int k' b)).run P w = .ok c w) → (∀ m g, PVR m g v c) → K v = some r →
      ∃ v, K v = some r ∧ ∀ (m : Mem) (g : Gh) (w : World) (cx cy : Value), PVR m g (.s (.ro (.int k a))) cx → PVR m g (.s (.ro (.int k' b))) cy → ∀ X Y : Operand,
      ∃ c, (do eqGuard op t X Y cx cy; binOp op t cx cy : Sem Value).run P w = .ok c w ∧ PVR m g v c := fun {c v} h1 h2 h3 =>
    ⟨v, h3, fun m g w cx cy hx hy X Y => ⟨c, by rw [pv_int hx, pv_int hy, Sem.run_bind, eqGuard_run w (by simp) (by simp), Result.andThen_ok]; exact h1 w, h2 m g⟩⟩
  split at h
  · split at h
    · cases h
    · rename_i hb
      have hb' : ¬ b < 0 := by simpa using hb
      exact go (fun w => by simp [binOp, Op.shift, hb']) (fun m g => pv_of_int m g _ _) h
  · split at h
    · cases h
    · rename_i hb
      have hb' : ¬ b < 0 := by simpa using hb
      exact go (fun w => by simp [binOp, Op.shift, hb']) (fun m g => pv_of_int m g _ _) h
  · rename_i hs1 hs2
    split at h
    · cases h
    · rename_i hk
      have hk' : k = k' := by simpa using hk
      subst hk'
      split at h
      · exact go (fun w => by simp [binOp, Op.intArith]) (fun m g => pv_of_int m g _ _) h
      · exact go (fun w => by simp [binOp, Op.intArith]) (fun m g => pv_of_int m g _ _) h
      · exact go (fun w => by simp [binOp, Op.intArith]) (fun m g => pv_of_int m g _ _) h
      · split at h
        · cases h
        · rename_i hb
          have hb' : b ≠ 0 := by simpa using hb
          exact go (fun w => by simp [binOp, Op.intDiv, hb']) (fun m g => pv_of_int m g _ _) h
      · split at h
        · cases h
        · rename_i hb
          have hb' : b ≠ 0 := by simpa using hb
          exact go (fun w => by simp [binOp, Op.intDiv, hb']) (fun m g => pv_of_int m g _ _) h
      · exact go (fun w => by simp [binOp, Op.intBits, back]) (fun m g => pv_of_int m g _ _) h
      · exact go (fun w => by simp [binOp, Op.intBits, back]) (fun m g => pv_of_int m g _ _) h
      · exact go (fun w => by simp [binOp, Op.intBits, back]) (fun m g => pv_of_int m g _ _) h
      · exact go (fun w => by simp [binOp, Op.intBits, back]) (fun m g => pv_of_int m g _ _) h
      · exact go (fun w => by simp [binOp, Op.intCmp]) (fun m g => pv_of_bool m g _) h
      · exact go (fun w => by simp [binOp, Op.intCmp]) (fun m g => pv_of_bool m g _) h
      · exact go (fun w => by simp [binOp, Op.intCmp]) (fun m g => pv_of_bool m g _) h
      · exact go (fun w => by simp [binOp, Op.intCmp]) (fun m g => pv_of_bool m g _) h
      · exact go (fun w => by simp [binOp, Op.intCmp]) (fun m g => pv_of_bool m g _) h
      · exact go (fun w => by simp [binOp, Op.intCmp]) (fun m g => pv_of_bool m g _) h
      · cases h

theorem binOp_str {op : BinOp} {t : TypeId} {x y : PV} {hh : Hint} {K : PV → Option R} {r : R} {a : ByteArray} (hx : x = .s (.ro (.str a))) (h : binOpK P hh op t x y K = some r) :
    ∃ v, K v = some r ∧ ∀ (m : Mem) (g : Gh) (w : World) (cx cy : Value), PVR m g x cx → PVR m g y cy → ∀ X Y : Operand,
      ∃ c, (do eqGuard op t X Y cx cy; binOp op t cx cy : Sem Value).run P w = .ok c w ∧ PVR m g v c := by
  subst hx
  unfold binOpK at h
  simp only at h
  split at h
  case h_2 => cases h
  rename_i b
  have go : ∀ {c : Value} {v : PV}, (∀ w : World, (binOp op t (.string a) (.string b)).run P w = .ok c w) → (∀ m g, PVR m g v c) → K v = some r →
      ∃ v, K v = some r ∧ ∀ (m : Mem) (g : Gh) (w : World) (cx cy : Value), PVR m g (.s (.ro (.str a))) cx → PVR m g (.s (.ro (.str b))) cy → ∀ X Y : Operand,
      ∃ c, (do eqGuard op t X Y cx cy; binOp op t cx cy : Sem Value).run P w = .ok c w ∧ PVR m g v c := fun {c v} h1 h2 h3 =>
    ⟨v, h3, fun m g w cx cy hx hy X Y => ⟨c, by rw [pv_str hx, pv_str hy, Sem.run_bind, eqGuard_run w (by simp) (by simp), Result.andThen_ok]; exact h1 w, h2 m g⟩⟩
  split at h
  · exact go (fun w => by simp [binOp, Op.stringOp]) (fun m g => pv_of_bool m g _) h
  · exact go (fun w => by simp [binOp, Op.stringOp]) (fun m g => pv_of_bool m g _) h
  · split at h
    · cases h
    · rename_i hb
      have hb' : ¬ (((a.size + b.size : Nat) : Int) > IntKind.i64.max) := by simpa using hb
      exact go (c := .string (a ++ b)) (fun w => by simp only [binOp, Op.stringOp, if_neg hb']; rfl) (fun m g => by simp [PVR, SVR, VRr]) h
  · cases h

theorem equal_run {t : TypeId} {d : TypeDesc} (hd : P.underlying t = some d) (w : World) (x y : Value) (b : Bool)
    (h : ∀ n, (Op.equalIn (n + 1) t x y).run P w = .ok b w) : (Op.equal t x y).run P w = .ok b w := by
  unfold Op.equal Op.maxDepth
  exact h 9999

theorem nilSl_some {x : PV} {b : Bool} (h : nilSl x = some b) {m : Mem} {g : Gh} {c : Value} (hc : PVR m g x c) : ∃ a n cap, c = .slice a n cap ∧ a.isNone = b := by
  unfold nilSl at h
  split at h <;> first | (cases h; done) | skip
  · cases h; exact ⟨_, _, _, pv_nils hc, rfl⟩
  · cases h; simp only [PVR, SVR, VRr] at hc; obtain ⟨a, cap, rfl, _⟩ := hc; exact ⟨_, _, _, rfl, rfl⟩
  · cases h; obtain ⟨a, rfl⟩ := pv_esl hc; exact ⟨_, _, _, rfl, rfl⟩
  · cases h; obtain ⟨l, a, cap, _, rfl, _⟩ := hc; exact ⟨_, _, _, rfl, rfl⟩
  · split at h
    · cases h; obtain ⟨l, _, _, h1, _⟩ := hc; exact ⟨_, _, _, h1 rfl, rfl⟩
    · cases h
      rename_i hne
      obtain ⟨l, _, _, _, h2⟩ := hc
      have h3 := h2 (by intro e; subst e; exact hne rfl)
      simp only [VRr] at h3
      obtain ⟨a, cap, rfl, _⟩ := h3
      exact ⟨_, _, _, rfl, rfl⟩

theorem nilPt_some {x : PV} {b : Bool} (h : nilPt x = some b) {m : Mem} {g : Gh} {c : Value} (hc : PVR m g x c) : ∃ a, c = .pointer a ∧ a.isNone = b := by
  unfold nilPt at h
  split at h <;> first | (cases h; done) | skip
  · cases h; have : c = .pointer none := by simpa [PVR, SVR, VRr] using hc
    exact ⟨_, this, rfl⟩
  · cases h; simp only [PVR, SVR, VRr] at hc; obtain ⟨b, o, rfl, _⟩ := hc; exact ⟨_, rfl, rfl⟩
  · cases h; obtain ⟨l, _, rfl⟩ := hc; exact ⟨_, rfl, rfl⟩

theorem eqK_some {t : TypeId} {x y : PV} {hh : Hint} (hE : EqOK P hh) {K : Bool → Option R} {r : R} (h : eqK P hh t x y K = some r) :
    ∃ b, K b = some r ∧ ∀ (m : Mem) (g : Gh) (w : World) (cx cy : Value), PVR m g x cx → PVR m g y cy → ∀ X Y : Operand,
      (do eqGuard .eql t X Y cx cy; binOp .eql t cx cy : Sem Value).run P w = .ok (.bool b) w ∧ (do eqGuard .neq t X Y cx cy; binOp .neq t cx cy : Sem Value).run P w = .ok (.bool (!b)) w := by
  unfold eqK at h
  split at h
  · rename_i a b hd
    refine ⟨_, h, fun m g w cx cy hx hy X Y => ?_⟩
    have e := equal_run hd w (.bool a) (.bool b) (a == b) (fun n => by simp [Op.equalIn, run_underlying hd])
    rw [pv_bool hx, pv_bool hy]
    constructor <;> (rw [Sem.run_bind, eqGuard_run w (by simp) (by simp)]; simp [binOp, e])
  · split at h
    · rename_i a b heq
      split at h
      · rename_i c hc
        refine ⟨c, h, fun m g w cx cy hx hy X Y => ?_⟩
        simp only [PVR, SVR, VRr] at hx hy
        obtain ⟨xs, rfl, hx, _⟩ := hx
        obtain ⟨ys, rfl, hy, _⟩ := hy
        exact hE t heq m a b c xs ys w X Y hc hx hy
      · cases h
    · cases h
  · split at h
    · rename_i a b heq
      split at h
      · rename_i c hc
        refine ⟨c, h, fun m g w cx cy hx hy X Y => ?_⟩
        simp only [PVR, SVR, VRr] at hx hy
        obtain ⟨xs, rfl, hx, _⟩ := hx
        obtain ⟨ys, rfl, hy, _⟩ := hy
        exact hE t heq m a b c xs ys w X Y hc hx hy
      · cases h
    · cases h
  · rename_i e hd
    split at h
    · rename_i b hb
      refine ⟨b, h, fun m g w cx cy hx hy X Y => ?_⟩
      obtain ⟨a, n, cap, rfl, ha⟩ := nilSl_some hb hx
      have q := equal_run hd w (.slice a n cap) (.slice none 0 0) b (fun n => by cases a <;> simp_all [Op.equalIn, run_underlying hd])
      rw [pv_nils hy]
      constructor <;> (rw [Sem.run_bind, eqGuard_run w (by simp) (by simp)]; simp [binOp, q])
    · cases h
  · rename_i e hd
    split at h
    · rename_i b hb
      refine ⟨b, h, fun m g w cx cy hx hy X Y => ?_⟩
      obtain ⟨a, rfl, ha⟩ := nilPt_some hb hx
      have hcy : cy = .pointer none := by simpa [PVR, SVR, VRr] using hy
      have q := equal_run hd w (.pointer a) (.pointer none) b (fun n => by cases a <;> simp_all [Op.equalIn, run_underlying hd])
      rw [hcy]
      constructor <;> (rw [Sem.run_bind, eqGuard_run w (by simp) (by simp)]; simp [binOp, q])
    · cases h
  · cases h

theorem binOpK_some {op : BinOp} {t : TypeId} {x y : PV} {hh : Hint} (hE : EqOK P hh) {K : PV → Option R} {r : R} (h : binOpK P hh op t x y K = some r) :
    ∃ v, K v = some r ∧ ∀ (m : Mem) (g : Gh) (w : World) (cx cy : Value), PVR m g x cx → PVR m g y cy → ∀ X Y : Operand,
      ∃ c, (do eqGuard op t X Y cx cy; binOp op t cx cy : Sem Value).run P w = .ok c w ∧ PVR m g v c := by
  have h0 := h
  unfold binOpK at h
  split at h
  · exact binOp_int rfl h0
  · exact binOp_str rfl h0
  · split at h
    · obtain ⟨b, h1, h2⟩ := eqK_some hE h
      exact ⟨_, h1, fun m g w cx cy hx hy X Y => ⟨_, (h2 m g w cx cy hx hy X Y).1, pv_of_bool m g b⟩⟩
    · obtain ⟨b, h1, h2⟩ := eqK_some hE h
      exact ⟨_, h1, fun m g w cx cy hx hy X Y => ⟨_, (h2 m g w cx cy hx hy X Y).2, pv_of_bool m g _⟩⟩
    · cases h

theorem unOpK_some {op : UnOp} {x : PV} {K : PV → Option R} {r : R} (h : unOpK op x K = some r) :
    ∃ v, K v = some r ∧ ∀ (m : Mem) (g : Gh) (w : World) (cx : Value), PVR m g x cx → ∃ c, (Op.unary op cx).run P w = .ok c w ∧ PVR m g v c := by
  unfold unOpK at h
  split at h
  · exact ⟨_, h, fun m g w cx hx => ⟨.bool _, by rw [pv_bool hx]; simp [Op.unary], pv_of_bool m g _⟩⟩
  · rename_i k n
    exact ⟨_, h, fun m g w cx hx => ⟨.int k (k.wrap (0 - n)), by rw [pv_int hx]; simp [Op.unary, Op.intArith], pv_of_int m g _ _⟩⟩
  · cases h

theorem convertK_some {src dst : TypeId} {x : PV} {K : PV → Option R} {r : R} (h : convertK P src dst x K = some r) :
    ∃ v, K v = some r ∧ ∀ (m : Mem) (g : Gh) (w : World) (cx : Value), PVR m g x cx → ∃ c, (convert src dst cx).run P w = .ok c w ∧ PVR m g v c := by
  unfold convertK at h
  split at h
  · rename_i d k k' n hs hd
    refine ⟨_, h, fun m g w cx hx => ⟨.int k (k.wrap n), ?_, pv_of_int m g _ _⟩⟩
    rw [pv_int hx]
    simp [convert, run_underlying hs, run_underlying hd, Conv.intToInt]
  · cases h

/-! ### Addresses -/
theorem run_sizeOf_pos {e : TypeId} (h : Nat.blt 0 (sizeT P e) = true) (w : World) : (sizeOf e).run P w = .ok (sizeT P e) w :=
  run_sizeOf' (by rw [Nat.blt_eq] at h; omega) w

theorem indexRows_rel {t e : TypeId} {sz : Nat} (hd : P.underlying t = some (.slice e)) {rows : List (List RV)} {i : Int} {K : PV → Option R} {r : R} (h : indexRows (sizeT P e) sz rows i K = some r) :
    ∃ row, K (.ro (.vptr row 0)) = some r ∧ ∀ (m : Mem) (g : Gh) (w : World) (c : Value), (rows ≠ [] → VRr m (.vsl sz rows) c) → ∀ k : IntKind, ∃ u, (Instr.indexAt t c (.int k i)).run P w = .ok u w ∧ PVR m g (.ro (.vptr row 0)) u := by
  unfold indexRows at h
  split at h
  · rename_i row h1 hr h3
    simp only [Bool.and_eq_true, beq_iff_eq] at h3
    obtain ⟨rfl, hpos⟩ := h3
    have hi : 0 ≤ i := by simpa using h1
    refine ⟨_, h, fun m g w c hc k => ?_⟩
    have hlt := (List.getElem?_eq_some_iff.1 hr).1
    have hne : rows ≠ [] := by intro e; subst e; simp at hlt
    have hc := hc hne
    simp only [VRr] at hc
    obtain ⟨a, cap, rfl, _, hsp, hR⟩ := hc
    have hil : i < rows.length := by omega
    obtain ⟨h1, h2⟩ := RowsR.get hR hr
    refine ⟨.pointer (some (a.add (i.toNat * sizeT P e))), ?_, ?_⟩
    · simp [Instr.indexAt, asIntOf, run_underlying hd, hi, hil, run_sizeOf_pos hpos]
    · simp only [PVR, SVR, VRr]
      refine ⟨a.block, a.off + i.toNat * sizeT P e, ?_, h2⟩
      have hsp' := hsp hne
      cases a
      simp only at hsp'
      subst hsp'
      rw [Addr.add_lit]; rfl
  · cases h

theorem tsl_vsl {m : Mem} {g : Gh} {sz : Nat} {rows : List (List RV)} {d k : Nat} {c : Value} (h : SVR m g (.tsl sz rows d k) c) (hne : rows ≠ []) : VRr m (.vsl sz rows) c := by
  obtain ⟨l, _, _, _, h2⟩ := h
  exact h2 hne

theorem indexAddrK_some {fr : Frames} {t : TypeId} {x : PV} {i : Int} {K : PV → Option R} {r : R} (h : indexAddrK P fr t x i K = some r) :
    ∃ v, K v = some r ∧ ∀ (m : Mem) (g : Gh) (w : World) (cx : Value), PRel m g fr w → PVR m g x cx → ∀ k : IntKind, ∃ c, (Instr.indexAt t cx (.int k i)).run P w = .ok c w ∧ PVR m g v c := by
  unfold indexAddrK at h
  split at h
  · rename_i e hd
    split at h
    · obtain ⟨row, h1, h2⟩ := indexRows_rel hd h
      exact ⟨_, h1, fun m g w cx _ hx k => h2 m g w cx (fun _ => hx) k⟩
    · obtain ⟨row, h1, h2⟩ := indexRows_rel hd h
      exact ⟨_, h1, fun m g w cx _ hx k => h2 m g w cx (fun hne => tsl_vsl hx hne) k⟩
    · rename_i d k off len
      split at h
      · rename_i sz rows hlb
        split at h
        · rename_i hc
          simp only [Bool.and_eq_true, decide_eq_true_eq, beq_iff_eq] at hc
          obtain ⟨⟨⟨h0, hl⟩, rfl, hpos⟩, hrow⟩ := hc
          rw [Nat.blt_eq] at hrow
          refine ⟨_, h, fun m g w cx hp hx kk => ?_⟩
          obtain ⟨l, a, cap, hg, rfl, h3, h4, h5⟩ := hx
          obtain ⟨_, l', hl', hr⟩ := lbAt_blk hp hlb (by simp)
          rw [hg] at hl'; cases hl'
          obtain ⟨hn1, hn2, _⟩ := hr
          obtain ⟨rfl, _⟩ := h4 (by omega)
          refine ⟨.pointer (some ⟨l.b, (off + i.toNat) * l.sz + 0, none⟩), ?_, ⟨l, hg, rfl⟩⟩
          simp [Instr.indexAt, asIntOf, run_underlying hd, h0, hl, run_sizeOf_pos hpos, Addr.add_lit, hn2, Nat.add_mul]
        · cases h
      · cases h
    · cases h
  · rename_i n e hd
    split at h
    · rename_i hc
      simp only [Bool.and_eq_true, decide_eq_true_eq] at hc
      obtain ⟨⟨⟨h0, hl⟩, hn⟩, hpos⟩ := hc
      split at h
      · rename_i row o
        refine ⟨_, h, fun m g w cx hp hx kk => ?_⟩
        simp only [PVR, SVR, VRr] at hx
        obtain ⟨b, p, rfl, hR⟩ := hx
        refine ⟨.pointer (some ⟨b, p + (o + i.toNat * sizeT P e), none⟩), ?_, ?_⟩
        · simp [Instr.indexAt, Instr.sureAddr, asIntOf, run_underlying hd, h0, hl, run_sizeOf_pos hpos, Addr.add_lit, Nat.add_assoc]
        · simp only [PVR, SVR, VRr]; exact ⟨b, p, rfl, hR⟩
      · rename_i d k ri o
        refine ⟨_, h, fun m g w cx hp hx kk => ?_⟩
        obtain ⟨l, hg, rfl⟩ := hx
        refine ⟨.pointer (some ⟨l.b, ri * l.sz + (o + i.toNat * sizeT P e), none⟩), ?_, ⟨l, hg, rfl⟩⟩
        simp [Instr.indexAt, Instr.sureAddr, asIntOf, run_underlying hd, h0, hl, run_sizeOf_pos hpos, Addr.add_lit, Nat.add_assoc]
      · cases h
    · cases h
  · cases h

theorem fieldOff_some {t : TypeId} {i off : Nat} {ft : TypeId} (h : fieldOff P t i = some (off, ft)) : ∃ fs fd, P.underlying t = some (.struct fs) ∧ fs[i]? = some fd ∧ fd.offset = off ∧ fd.type = ft ∧ sizeT P ft ≠ 0 := by
  unfold fieldOff at h
  split at h
  · rename_i fs hd
    split at h
    · rename_i fd hfd
      split at h
      · cases h
      · rename_i hne
        cases h
        exact ⟨fs, fd, hd, hfd, rfl, rfl, hne⟩
    · cases h
  · cases h

theorem fieldAt_run {t : TypeId} {i off : Nat} {ft : TypeId} (h : fieldOff P t i = some (off, ft)) (w : World) (b p : Nat) :
    (Instr.fieldAt t (.pointer (some ⟨b, p, none⟩)) i).run P w = .ok (.pointer (some ⟨b, p + off, none⟩)) w := by
  obtain ⟨fs, fd, hd, hfd, rfl, rfl, hs⟩ := fieldOff_some h
  simp [Instr.fieldAt, Instr.sureAddr, run_underlying hd, hfd, fieldPlace, run_sizeOf' hs, hs, Addr.add_lit]

end Go.PM

set_option linter.unusedSectionVars false
namespace Go.PM
variable [LoopCodes]
variable {R : Type} {P : Program}

theorem run_part (t : TypeId) {agg : Bool} (ht : isAggT P t = some agg) (w : World) (cs : Array Value) (off : Nat) :
    (part t cs off).run P w = (match agg with
      | true => .ok (.agg (cs.extract off (off + sizeT P t))) w
      | false => match cs[off]? with
        | some v => .ok v w
        | none => .halt (.stuck "part: no such cell") w) := by
  obtain ⟨h1, d, hd⟩ := run_isAgg ht w
  have h2 := run_sizeOf hd w
  unfold part
  cases agg
  · simp [h1]
    cases cs[off]? <;> rfl
  · simp [h1, h2]

theorem partRow_some {agg : Bool} {vs : List RV} {o : Nat} {K : PV → Option R} {r : R} {t : TypeId} (ht : isAggT P t = some agg) (h : loadRow agg (sizeT P t) vs o K = some r) :
    ∃ v, K v = some r ∧ ∀ (m : Mem) (g : Gh) (w : World) (cs : List Value), ListR m vs cs → (∀ u ∈ cs, u.oneCell' = true) → ∃ c, (part t cs.toArray o).run P w = .ok c w ∧ PVR m g v c := by
  unfold loadRow at h
  split at h
  · split at h
    · rename_i rv hrv
      refine ⟨_, h, fun m g w cs hl h1 => ?_⟩
      obtain ⟨c, hc, hr⟩ := hl.get hrv
      refine ⟨c, ?_, hr⟩
      rw [run_part t ht]; simp [hc]
    · cases h
  · split at h
    · rename_i hle
      have hle' : o + sizeT P t ≤ vs.length := by simpa using hle
      refine ⟨_, h, fun m g w cs hl h1 => ?_⟩
      refine ⟨_, by rw [run_part t ht], ?_⟩
      simp only [PVR, SVR, VRr]
      refine ⟨(cs.drop o).take (sizeT P t), ?_, ListR.of_get ?_ fun i v c a b => ?_, fun u hu => h1 u (List.mem_of_mem_drop (List.mem_of_mem_take hu))⟩
      · congr 1
        apply Array.ext'
        simp
      · have := hl.length; simp; omega
      · rw [List.getElem?_take] at a b
        split at a
        · rename_i hi
          rw [if_pos hi] at b
          rw [List.getElem?_drop] at a b
          obtain ⟨c', h2, h3⟩ := hl.get a
          rw [b] at h2; cases h2; exact h3
        · cases a
    · cases h

theorem partBox_some {agg : Bool} {vs : List SV} {o : Nat} {K : PV → Option R} {r : R} {t : TypeId} (ht : isAggT P t = some agg) (h : loadBox agg (sizeT P t) 0 vs o K = some r) :
    ∃ v, K v = some r ∧ ∀ (m : Mem) (g : Gh) (w : World) (cs : List Value), cs.length = vs.length → (∀ u ∈ cs, u.oneCell' = true) → (∀ (i : Nat) (s : SV) (u : Value), vs[i]? = some s → cs[i]? = some u → SVR m g s u) →
      ∃ c, (part t cs.toArray o).run P w = .ok c w ∧ PVR m g v c := by
  unfold loadBox at h
  split at h
  · split at h
    · rename_i sv hsv
      refine ⟨_, h, fun m g w cs hl h1 hr => ?_⟩
      have hi := (List.getElem?_eq_some_iff.1 hsv).1
      have hc : cs[o]? = some cs[o] := List.getElem?_eq_getElem (by omega)
      refine ⟨cs[o], by rw [run_part t ht]; simp [hc], ?_⟩
      exact SV.shift_rel (d := 0) (hr o sv _ hsv hc)
    · cases h
  · split at h
    · rename_i hle
      have hle' : o + sizeT P t ≤ vs.length := by simpa using hle
      obtain ⟨v, h1, h2⟩ := mkAgg_some h
      refine ⟨v, h1, fun m g w cs hl h3 hr => ?_⟩
      refine ⟨_, by rw [run_part t ht], ?_⟩
      have e : cs.toArray.extract o (o + sizeT P t) = ((cs.drop o).take (sizeT P t)).toArray := by
        apply Array.ext'
        simp
      rw [e]
      refine h2 m g _ (by simp; omega) (fun u hu => h3 u (List.mem_of_mem_drop (List.mem_of_mem_take hu))) fun i s u a b => ?_
      rw [List.getElem?_map, List.getElem?_take] at a
      rw [List.getElem?_take] at b
      split at a
      · rename_i hi
        rw [if_pos hi, List.getElem?_drop] at b
        rw [List.getElem?_drop] at a
        cases hv : vs[o + i]? with
        | none => simp [hv] at a
        | some sv =>
          simp [hv] at a
          subst a
          exact SV.shift_rel (d := 0) (hr _ sv u hv b)
      · simp at a
    · cases h

/-! ### zero values -/
theorem constAll_rel {m : Mem} : ∀ {l : List Value}, constAllOK l = true → ListR m (constAll l) l
  | [], _ => by simp [constAll, ListR]
  | v :: l, h => by
    simp only [constAllOK, Bool.and_eq_true] at h
    simp only [constAll, ListR]
    exact ⟨v, l, rfl, constOK_rel h.1, constAll_rel h.2⟩

theorem constOK_one {v : Value} (h : constOK v = true) : v.oneCell' = true := by
  unfold constOK at h
  split at h <;> first | rfl | cases h

theorem constAll_one : ∀ {l : List Value}, constAllOK l = true → ∀ u ∈ l, u.oneCell' = true
  | [], _, u, hu => by cases hu
  | v :: l, h, u, hu => by
    simp only [constAllOK, Bool.and_eq_true] at h
    rcases List.mem_cons.1 hu with rfl | hu
    · exact constOK_one h.1
    · exact constAll_one h.2 u hu

theorem zeroT_some {t : TypeId} {K : List RV → Option R} {r : R} (h : zeroT P t K = some r) :
    ∃ z v i, K z = some r ∧ P.info? t = some i ∧ i.zero = some v ∧ v.cells.size = i.size ∧ z.length = i.size ∧ (∀ u ∈ v.cells, u.oneCell' = true) ∧ ∀ m : Mem, ListR m z v.cells.toList := by
  unfold zeroT at h
  split at h
  · rename_i i hi
    split at h
    · rename_i cs hz
      split at h
      · rename_i hc
        simp only [Bool.and_eq_true, beq_iff_eq] at hc
        refine ⟨_, _, i, h, hi, hz, by simpa [Value.cells] using hc.2, ?_, ?_, fun m => by simpa [Value.cells] using constAll_rel hc.1⟩
        · have := (constAll_rel (m := fun _ _ => none) hc.1).length
          simp at this; omega
        · simpa [Value.cells] using constAll_one hc.1
      · cases h
    · rename_i v hne hz
      split at h
      · rename_i hc
        simp only [Bool.and_eq_true, beq_iff_eq] at hc
        have hcc : v.cells = #[v] := by
          have := constOK_one hc.1
          cases v <;> simp_all [Value.cells, Value.oneCell']
        refine ⟨_, _, i, h, hi, hz, by rw [hcc]; simpa using hc.2, by simpa using hc.2, by rw [hcc]; simpa using constOK_one hc.1, fun m => ?_⟩
        rw [hcc]; simp only [ListR]; exact ⟨v, [], rfl, constOK_rel hc.1, rfl⟩
      · cases h
    · cases h
  · cases h

/-! ### literals -/
theorem fill_get {α : Type} (l : List α) (o : Nat) (cs : List α) : ∀ (h : o + cs.length ≤ l.length), (cs.zipIdx.foldl (fun (acc : Array α) (x : α × Nat) => acc.setIfInBounds (o + x.2) x.1) l.toArray).toList = splice l o cs := by
  intro h
  have key : ∀ (cs : List α) (k : Nat) (acc : Array α), (cs.zipIdx k).foldl (fun (acc : Array α) (x : α × Nat) => acc.setIfInBounds (o + x.2) x.1) acc = (cs.zipIdx k).foldl (fun acc x => acc.setIfInBounds (o + x.2) x.1) acc := fun _ _ _ => rfl
  have gen : ∀ (cs : List α) (k : Nat) (acc : List α), o + k + cs.length ≤ acc.length → ((cs.zipIdx k).foldl (fun (acc : Array α) (x : α × Nat) => acc.setIfInBounds (o + x.2) x.1) acc.toArray).toList = splice acc (o + k) cs := by
    intro cs
    induction cs with
    | nil => intro k acc _; simp [splice]
    | cons c cs ih =>
      intro k acc hl
      simp only [List.zipIdx_cons, List.foldl_cons]
      have e : acc.toArray.setIfInBounds (o + k) c = (acc.set (o + k) c).toArray := by simp
      rw [e, ih (k + 1) _ (by simp at hl ⊢; omega)]
      simp only [splice, List.length_cons]
      apply List.ext_getElem?
      intro i
      have h1 : (o + (k + 1)) + cs.length ≤ (acc.set (o + k) c).length := by simp at hl ⊢; omega
      have h2 : (o + k) + (c :: cs).length ≤ acc.length := by simpa [Nat.add_assoc] using hl
      have s1 := splice_get (acc.set (o + k) c) (o + (k + 1)) cs h1 i
      have s2 := splice_get acc (o + k) (c :: cs) h2 i
      simp only [splice, List.length_cons] at s1 s2
      rw [s1, s2, List.getElem?_set]
      by_cases hi : o + k = i
      · subst hi
        rw [if_neg (by omega), if_pos rfl, if_pos (by simp at hl; omega), if_pos ⟨Nat.le_refl _, by omega⟩, Nat.sub_self]; rfl
      · by_cases hi2 : o + (k + 1) ≤ i ∧ i < o + (k + 1) + cs.length
        · rw [if_pos hi2, if_pos (by omega), show i - (o + k) = (i - (o + (k + 1))) + 1 by omega]; simp
        · rw [if_neg hi2, if_neg hi, if_neg (by omega)]
  have := gen cs 0 l (by simpa using h)
  simpa using this

theorem fillK_some {t : TypeId} {place : Nat → Option (Nat × Nat)} (hplace : ∀ i x, fillOffs P t i = some x → place i = some x) :
    ∀ {ps : List (Nat × PV)} {cells : List SV} {K : List SV → Option R} {r : R}, fillK P t cells ps K = some r →
    ∃ out, K out = some r ∧ out.length = cells.length ∧ ∀ (m : Mem) (g : Gh) (cs : Array Value) (qs : List (Nat × Value)), cs.size = cells.length → (∀ u ∈ cs, u.oneCell' = true) →
      (∀ (i : Nat) (s : SV) (u : Value), cells[i]? = some s → cs[i]? = some u → SVR m g s u) →
      qs.length = ps.length → (∀ (i : Nat) (p : Nat × PV) (q : Nat × Value), ps[i]? = some p → qs[i]? = some q → q.1 = p.1 ∧ PVR m g p.2 q.2) →
      ∃ cs', Instr.fill place cs qs = some cs' ∧ cs'.size = cs.size ∧ (∀ u ∈ cs', u.oneCell' = true) ∧ ∀ (i : Nat) (s : SV) (u : Value), out[i]? = some s → cs'[i]? = some u → SVR m g s u
  | [], cells, K, r, h => ⟨cells, by simpa [fillK] using h, rfl, fun m g cs qs h1 h2 h3 h4 _ => by
      have : qs = [] := List.eq_nil_of_length_eq_zero (by simpa using h4)
      subst this
      exact ⟨cs, rfl, rfl, h2, h3⟩⟩
  | (i, v) :: ps, cells, K, r, h => by
    simp only [fillK] at h
    split at h
    · rename_i off size hoff
      split at h
      · rename_i hc
        simp only [Bool.and_eq_true, beq_iff_eq] at hc
        obtain ⟨⟨hc1, hc2⟩, hok⟩ := hc
        have hc2' : off + (cellsOf v).length ≤ cells.length := by simpa using hc2
        obtain ⟨out, h1, h2, h3⟩ := fillK_some hplace h
        rw [splice_length _ _ _ hc2'] at h2
        refine ⟨out, h1, h2, fun m g cs qs e1 e2 e3 e4 e5 => ?_⟩
        cases qs with
        | nil => simp at e4
        | cons q qs =>
          obtain ⟨q1, q2⟩ := e5 0 (i, v) q (by simp) (by simp)
          simp only at q1 q2
          obtain ⟨c1, c2, c3⟩ := cellsOf_rel q2 (storable_spec hok).1 (storable_spec hok).2
          have hl : off + q.2.cells.toList.length ≤ cs.toList.length := by simp; omega
          have hset : q.2.cells.zipIdx.foldl (fun cs (c, j) => cs.setIfInBounds (off + j) c) cs = (splice cs.toList off q.2.cells.toList).toArray := by
            have := fill_get cs.toList off q.2.cells.toList hl
            apply Array.ext'
            rw [← Array.foldl_toList]
            simp only [Array.toList_zipIdx]
            simpa using this
          have hget : ∀ i, (splice cs.toList off q.2.cells.toList).toArray[i]? = if off ≤ i ∧ i < off + q.2.cells.size then q.2.cells[i - off]? else cs[i]? := fun i => by
            rw [List.getElem?_toArray, splice_get _ _ _ hl]; simp
          obtain ⟨cs', f1, f2, f3, f4⟩ := h3 m g (splice cs.toList off q.2.cells.toList).toArray qs (by simp [splice_length _ _ _ hl, splice_length _ _ _ hc2']; omega)
            (fun u hu => by
              obtain ⟨i, hi⟩ := Array.getElem?_of_mem hu
              rw [hget] at hi
              split at hi
              · exact c2 u (Array.mem_of_getElem? hi)
              · exact e2 u (Array.mem_of_getElem? hi))
            (fun i s u a b => by
              rw [splice_get _ _ _ hc2'] at a
              rw [hget] at b
              by_cases hin : off ≤ i ∧ i < off + (cellsOf v).length
              · rw [if_pos hin] at a
                rw [if_pos (by omega)] at b
                exact c3 _ _ _ a b
              · rw [if_neg hin] at a
                rw [if_neg (by omega)] at b
                exact e3 _ _ _ a b)
            (by simpa using e4) (fun j p q' a b => e5 (j + 1) p q' (by simpa using a) (by simpa using b))
          refine ⟨cs', ?_, by rw [f2]; simp [splice_length _ _ _ hl], f3, f4⟩
          obtain ⟨qi, qv⟩ := q
          simp only at q1
          subst q1
          simp only [Instr.fill, hplace _ _ hoff]
          simp only at c1 hset
          rw [if_neg, hset]
          · exact f1
          · simp; omega
      · cases h
    · cases h

end Go.PM

set_option linter.unusedSectionVars false
namespace Go.PM
variable [LoopCodes]
variable {R : Type} {P : Program}

theorem wLen_some {v : PV} {K : Nat → Option R} {r : R} (h : wLen v K = some r) :
    ∃ n, K n = some r ∧ (∀ sz rows, v = .s (.ro (.vsl sz rows)) → rows.length = n) ∧ (∀ sz rows d k, v = .s (.tsl sz rows d k) → rows.length = n) ∧ (v = .s (.ro .nils) → n = 0) ∧ (v = .s (.ro .esl) → n = 0) ∧ ∀ (m : Mem) (g : Gh) (c : Value), PVR m g v c → (∃ a cap, c = .slice a n cap ∧ n ≤ cap) ∨ (∃ s, c = .string s ∧ s.size = n ∧ v = .s (.ro (.str s))) := by
  unfold wLen at h
  split at h <;> first | (cases h; done) | skip
  · exact ⟨_, h, by simp, by simp, by simp, by simp, fun m g c hc => .inl ⟨_, _, pv_nils hc, Nat.le_refl _⟩⟩
  · exact ⟨_, h, by simp, by simp, by simp, by simp, fun m g c hc => by obtain ⟨a, rfl⟩ := pv_esl hc; exact .inl ⟨_, _, rfl, Nat.le_refl _⟩⟩
  · refine ⟨_, h, by simp, by simp, by simp, by simp, fun m g c hc => ?_⟩
    simp only [PVR, SVR, VRr] at hc
    obtain ⟨a, cap, rfl, h1, _⟩ := hc; exact .inl ⟨_, _, rfl, h1⟩
  · exact ⟨_, h, by simp, by simp, by simp, by simp, fun m g c hc => .inr ⟨_, pv_str hc, rfl, rfl⟩⟩
  · rename_i sz rows d k
    refine ⟨_, h, by simp, by intro _ _ _ _ e; cases e; rfl, by simp, by simp, fun m g c hc => ?_⟩
    by_cases e : rows = []
    · obtain ⟨l, _, _, h1, _⟩ := hc; subst e; exact .inl ⟨_, _, h1 rfl, Nat.le_refl _⟩
    · have h3 := tsl_vsl hc e
      simp only [VRr] at h3
      obtain ⟨a, cap, rfl, h1, _⟩ := h3; exact .inl ⟨_, _, rfl, h1⟩
  · exact ⟨_, h, by simp, by simp, by simp, by simp, fun m g c hc => by obtain ⟨l, a, cap, _, rfl, h1, _⟩ := hc; exact .inl ⟨_, _, rfl, h1⟩⟩

/-- How the rows of a slice lie. -/
def Lies (m : Mem) (w : World) (sz : Nat) (rows : List (List RV)) (c : Value) : Prop :=
  ∃ a cap, c = .slice a rows.length cap ∧ rows.length ≤ cap ∧ (rows ≠ [] → ∃ b o, a = some ⟨b, o, none⟩ ∧
    ∀ (i : Nat) (r : List RV), rows[i]? = some r → r.length = sz ∧ ∀ (j : Nat) (rv : RV), r[j]? = some rv → ∃ u, w.cell? ⟨b, o + i * sz + j, none⟩ = some u ∧ u.oneCell' = true ∧ VRr m rv u)

theorem vsl_lies {m : Mem} {g : Gh} {fr : Frames} {w : World} {sz : Nat} {rows : List (List RV)} {c : Value} (hp : PRel m g fr w) (h : VRr m (.vsl sz rows) c) : Lies m w sz rows c := by
  simp only [VRr] at h
  obtain ⟨a, cap, rfl, h1, h2, h3⟩ := h
  refine ⟨some a, cap, rfl, h1, fun hne => ⟨a.block, a.off, ?_, fun i r hr => ?_⟩⟩
  · have := h2 hne
    cases a; simp only at this; subst this; rfl
  · obtain ⟨e1, e2⟩ := RowsR.get h3 hr
    refine ⟨e1, fun j rv hj => ?_⟩
    obtain ⟨u, a1, a2, a3⟩ := RowR.get e2 hj
    exact ⟨u, hp.mem _ _ _ a1, a2, a3⟩

theorem wRows_some {fr : Frames} {v : PV} {K : Nat → List (List RV) → Option R} {r : R} (h : wRows fr v K = some r) :
    ∃ sz rows, K sz rows = some r ∧ ∀ (m : Mem) (g : Gh) (w : World) (c : Value), PRel m g fr w → PVR m g v c → Lies m w sz rows c := by
  unfold wRows at h
  split at h <;> first | (cases h; done) | skip
  · exact ⟨_, _, h, fun m g w c _ hc => ⟨_, _, pv_nils hc, Nat.le_refl _, fun hne => absurd rfl hne⟩⟩
  · exact ⟨_, _, h, fun m g w c _ hc => by obtain ⟨a, rfl⟩ := pv_esl hc; exact ⟨_, _, rfl, Nat.le_refl _, fun hne => absurd rfl hne⟩⟩
  · exact ⟨_, _, h, fun m g w c hp hc => vsl_lies hp hc⟩
  · rename_i sz rows d k
    refine ⟨_, _, h, fun m g w c hp hc => ?_⟩
    by_cases e : rows = []
    · obtain ⟨l, _, _, h1, _⟩ := hc; subst e; exact ⟨_, _, h1 rfl, Nat.le_refl _, fun hne => absurd rfl hne⟩
    · exact vsl_lies hp (tsl_vsl hc e)
  · rename_i d k off len
    split at h
    · rename_i sz rows hlb
      refine ⟨_, _, h, fun m g w c hp hc => ?_⟩
      obtain ⟨l, a, cap, hg, rfl, h1, h2, h3⟩ := hc
      obtain ⟨_, l', hl', hr⟩ := lbAt_blk hp hlb (by simp)
      rw [hg] at hl'; cases hl'
      obtain ⟨n1, n2, n3, ca, E, hh, hcells⟩ := hr
      have hlen : ((rows.drop off).take len).length = len := by
        by_cases e : len = 0
        · subst e; simp
        · have := h3 e; simp; omega
      rw [← n2]
      refine ⟨some a, cap, by rw [hlen], by rw [hlen]; exact h1, fun hne => ?_⟩
      have hl0 : len ≠ 0 := fun e => hne (by rw [e]; simp)
      have hon := h3 hl0
      obtain ⟨rfl, _⟩ := h2 (by omega)
      refine ⟨l.b, off * l.sz, rfl, fun i r hr => ?_⟩
      rw [List.getElem?_take] at hr
      split at hr
      · rw [List.getElem?_drop] at hr
        refine ⟨by rw [n2]; exact n3 r (List.mem_of_getElem? hr), fun j rv hj => ?_⟩
        obtain ⟨u, a1, a2, a3⟩ := hcells _ r j rv hr hj
        refine ⟨u, ?_, a2, a3⟩
        rw [cell_of_row w l.b _ ca E (0, 0) hh, n2, ← Nat.add_mul]; exact a1
      · cases hr
    · cases h

/-! ### slicing -/
/-- The bounds, value by value. -/
def OptR (m : Mem) (g : Gh) : Option PV → Option Value → Prop
  | none, none => True
  | some v, some c => PVR m g v c
  | _, _ => False

theorem bound_some {o : Option PV} {d : Nat} {K : Int → Option R} {r : R} (h : boundK o d K = some r) :
    ∃ i, K i = some r ∧ (o = none ∧ i = d ∨ ∃ k, o = some (.s (.ro (.int k i)))) := by
  unfold boundK at h
  split at h
  · exact ⟨_, h, .inl ⟨rfl, rfl⟩⟩
  · obtain ⟨k, n, rfl, h1⟩ := wInt_some h
    exact ⟨n, h1, .inr ⟨k, rfl⟩⟩

/-- The model's bounds. -/
theorem run_bounds {m : Mem} {g : Gh} {lo hi : Option PV} {clo chi : Option Value} {l h : Int} {len cap : Nat} {sl : Bool} (w : World) (hlo : OptR m g lo clo) (hhi : OptR m g hi chi)
    (el : lo = none ∧ l = (0 : Nat) ∨ ∃ k, lo = some (.s (.ro (.int k l)))) (eh : hi = none ∧ h = len ∨ ∃ k, hi = some (.s (.ro (.int k h)))) (h0 : 0 ≤ l) (h1 : l ≤ h) (h2 : h ≤ cap) :
    (Instr.sliceBounds sl len cap clo chi none).run P w = .ok (l.toNat, h.toNat, cap) w := by
  have hh : ∀ code, (match chi with | some v => Instr.sliceBound v cap code | none => pure len : Sem Nat).run P w = .ok h.toNat w := fun code => by
    rcases eh with ⟨rfl, rfl⟩ | ⟨k, rfl⟩
    · cases chi with
      | none => simp
      | some c => exact hhi.elim
    · cases chi with
      | none => exact hhi.elim
      | some c =>
        have := pv_int (show PVR m g (.s (.ro (.int k h))) c from hhi)
        subst this
        simp [Instr.sliceBound, asIntOf, show 0 ≤ h by omega, h2]
  have hl : ∀ code, (match clo with | some v => Instr.sliceBound v h.toNat code | none => pure 0 : Sem Nat).run P w = .ok l.toNat w := fun code => by
    rcases el with ⟨rfl, rfl⟩ | ⟨k, rfl⟩
    · cases clo with
      | none => simp
      | some c => exact hlo.elim
    · cases clo with
      | none => exact hlo.elim
      | some c =>
        have := pv_int (show PVR m g (.s (.ro (.int k l))) c from hlo)
        subst this
        have h4 : l ≤ max h 0 := by omega
        simp [Instr.sliceBound, asIntOf, h0, h4]
  unfold Instr.sliceBounds
  cases chi <;> cases clo <;> cases sl <;> simp_all

theorem run_bounds3 {m : Mem} {g : Gh} {lo hi : Option PV} {mx : PV} {clo chi : Option Value} {cmx : Value} {l h j : Int} {k3 : IntKind} {len cap : Nat} (w : World) (hlo : OptR m g lo clo) (hhi : OptR m g hi chi) (hmx : PVR m g mx cmx)
    (el : lo = none ∧ l = (0 : Nat) ∨ ∃ k, lo = some (.s (.ro (.int k l)))) (eh : ∃ k, hi = some (.s (.ro (.int k h)))) (em : mx = .s (.ro (.int k3 j))) (h0 : 0 ≤ l) (h1 : l ≤ h) (h2 : h ≤ j) (h3 : j ≤ cap) :
    (Instr.sliceBounds true len cap clo chi (some cmx)).run P w = .ok (l.toNat, h.toNat, j.toNat) w := by
  subst em
  have := pv_int hmx
  subst this
  obtain ⟨k, rfl⟩ := eh
  cases chi with
  | none => exact hhi.elim
  | some c =>
    have := pv_int (show PVR m g (.s (.ro (.int k h))) c from hhi)
    subst this
    have e1 : h ≤ max j 0 := by omega
    have e2 : l ≤ max h 0 := by omega
    rcases el with ⟨rfl, rfl⟩ | ⟨k, rfl⟩
    · cases clo with
      | none => simp [Instr.sliceBounds, Instr.sliceBound, asIntOf, show 0 ≤ j by omega, h3, show 0 ≤ h by omega, e1]
      | some c => exact hlo.elim
    · cases clo with
      | none => exact hlo.elim
      | some c =>
        have := pv_int (show PVR m g (.s (.ro (.int k l))) c from hlo)
        subst this
        simp [Instr.sliceBounds, Instr.sliceBound, asIntOf, show 0 ≤ j by omega, h3, show 0 ≤ h by omega, e1, h0, e2]

theorem sliceAt_slice {t e : TypeId} (hd : P.underlying t = some (.slice e)) (c : Value) (lo hi mx : Option Value) (w : World) : (Instr.sliceAt t c lo hi mx).run P w = (Instr.slice t c lo hi mx).run P w := by
  simp [Instr.sliceAt, run_underlying hd]

/-- What the model's slicing of a slice gives. -/
theorem run_slice {t e : TypeId} (hd : P.underlying t = some (.slice e)) (hpos : Nat.blt 0 (sizeT P e) = true) {a : Option Addr} {len cap l h j : Nat} {lo hi mx : Option Value} (w : World)
    (hb : (Instr.sliceBounds true len cap lo hi mx).run P w = .ok (l, h, j) w) :
    (Instr.sliceAt t (.slice a len cap) lo hi mx).run P w = .ok (.slice (if j = l then a else a.map (·.add (l * sizeT P e))) (h - l) (j - l)) w := by
  rw [sliceAt_slice hd]
  simp [Instr.slice, run_underlying hd, hb, run_sizeOf_pos hpos]

theorem sliceRo_some {t e : TypeId} (hd : P.underlying t = some (.slice e)) (hpos : Nat.blt 0 (sizeT P e) = true) {x : PV} {n sz : Nat} {rows : List (List RV)} {l h : Int} {K : PV → Option R} {r : R}
    (hh : sliceRo (sizeT P e) x n sz rows l h K = some r) (hx : ∀ d k off len, x ≠ .s (.sl d k off len)) (hn : rows.length = n)
    (hrows : (rows = [] ∧ (x = .s (.ro .nils) ∨ x = .s (.ro .esl) ∨ (∃ z, x = .s (.ro (.vsl z []))) ∨ ∃ z d k, x = .s (.tsl z [] d k))) ∨ x = .s (.ro (.vsl sz rows)) ∨ ∃ d k, x = .s (.tsl sz rows d k)) :
    ∃ v, K v = some r ∧ ∀ (m : Mem) (g : Gh) (w : World) (c : Value) (lo hi : Option Value), PVR m g x c → (∀ (len cap : Nat), len = n → h ≤ cap → (Instr.sliceBounds true len cap lo hi none).run P w = .ok (l.toNat, h.toNat, cap) w) →
      ∃ u, (Instr.sliceAt t c lo hi none).run P w = .ok u w ∧ PVR m g v u := by
  unfold sliceRo at hh
  split at hh
  · rename_i hc
    simp only [Bool.and_eq_true, decide_eq_true_eq] at hc
    obtain ⟨⟨h0, h1⟩, h2⟩ := hc
    split at hh
    · -- no rows
      have hl0 : l.toNat = 0 := by simp at hn; omega
      have hh0 : h.toNat = 0 := by simp at hn; omega
      have hhz : h ≤ 0 := by simp at hn; omega
      simp only [List.length_nil] at hn
      subst hn
      have base : ∀ (m : Mem) (g : Gh) (w : World) (a : Option Addr) (cap : Nat) (lo hi : Option Value), (∀ (len cap : Nat), len = 0 → h ≤ cap → (Instr.sliceBounds true len cap lo hi none).run P w = .ok (l.toNat, h.toNat, cap) w) →
          (Instr.sliceAt t (.slice a 0 cap) lo hi none).run P w = .ok (.slice a 0 cap) w := fun m g w a cap lo hi hb => by
        rw [run_slice hd hpos w (hb 0 cap rfl (by omega)), hl0, hh0]
        cases a <;> simp [Addr.add_zero']
      split at hh
      · rename_i v
        refine ⟨_, hh, fun m g w c lo hi hc hb => ?_⟩
        obtain ⟨a, cap, rfl⟩ : ∃ a cap, c = .slice a 0 cap := by
          rcases hrows with ⟨_, e | e | ⟨z, e⟩ | ⟨z, d, k, e⟩⟩ | e | ⟨d, k, e⟩
          · cases e; exact ⟨_, _, pv_nils hc⟩
          · cases e; obtain ⟨a, rfl⟩ := pv_esl hc; exact ⟨_, _, rfl⟩
          · cases e; simp only [PVR, SVR, VRr] at hc; obtain ⟨a, cap, rfl, _⟩ := hc; exact ⟨_, _, rfl⟩
          · cases e
          · cases e; simp only [PVR, SVR, VRr] at hc; obtain ⟨a, cap, rfl, _⟩ := hc; exact ⟨_, _, rfl⟩
          · cases e
        exact ⟨_, base m g w a cap lo hi hb, hc⟩
      · rename_i z rs d k
        refine ⟨_, hh, fun m g w c lo hi hc hb => ?_⟩
        have hrs : rs = [] := by
          rcases hrows with ⟨_, e | e | ⟨z, e⟩ | ⟨z, d, k, e⟩⟩ | e | ⟨d, k, e⟩ <;> first | (cases e; done) | (cases e; rfl)
        subst hrs
        obtain ⟨l', _, _, hnil, _⟩ := hc
        have := hnil rfl
        subst this
        exact ⟨_, base m g w none 0 lo hi hb, by simp [PVR, SVR, VRr]⟩
      · cases hh
    · rename_i hne
      have hne' : rows ≠ [] := hne
      split at hh
      · rename_i hsz
        have hsz' : sz = sizeT P e := by simpa using hsz
        refine ⟨_, hh, fun m g w c lo hi hc hb => ?_⟩
        have hv : VRr m (.vsl sz rows) c := by
          rcases hrows with ⟨e, _⟩ | e | ⟨d, k, e⟩
          · exact absurd e hne'
          · subst e; exact hc
          · subst e; exact tsl_vsl hc hne'
        simp only [VRr] at hv
        obtain ⟨a, cap, rfl, e1, e2, e3⟩ := hv
        have hrun := run_slice hd hpos (a := some a) w (hb rows.length cap hn (by omega))
        refine ⟨_, hrun, ?_⟩
        simp only [PVR, SVR, VRr]
        have hlen : ((rows.take h.toNat).drop l.toNat).length = h.toNat - l.toNat := by simp; omega
        by_cases hj : cap = l.toNat
        · refine ⟨a, cap - l.toNat, by rw [if_pos hj, hlen], by rw [hlen]; omega, fun hne2 => e2 hne', ?_⟩
          have : (rows.take h.toNat).drop l.toNat = [] := List.eq_nil_of_length_eq_zero (by omega)
          rw [this]; simp [RowsR]
        · refine ⟨a.add (l.toNat * sizeT P e), cap - l.toNat, by rw [if_neg hj, hlen]; rfl, by rw [hlen]; omega, fun _ => ?_, ?_⟩
          · have := e2 hne'
            cases a; simp only at this; subst this; rw [Addr.add_lit]
          · have := e2 hne'
            cases a with
            | mk ab ao asp =>
              simp only at this e3
              subst this
              rw [Addr.add_lit]
              refine RowsR.of_get fun i r hr => ?_
              rw [List.getElem?_drop, List.getElem?_take] at hr
              split at hr
              · obtain ⟨f1, f2⟩ := RowsR.get e3 hr
                refine ⟨f1, ?_⟩
                simp only
                rw [← hsz', Nat.add_assoc, ← Nat.add_mul]
                exact f2
              · cases hr
      · cases hh
  · cases hh

theorem slice3_some {t e : TypeId} (hd : P.underlying t = some (.slice e)) (hpos : Nat.blt 0 (sizeT P e) = true) {x : PV} {l h j : Int} {K : PV → Option R} {r : R} (hh : slice3 x l h j K = some r) :
    ∃ v, K v = some r ∧ ∀ (m : Mem) (g : Gh) (w : World) (c : Value) (lo hi mx : Option Value), PVR m g x c → (0 ≤ l → l ≤ h → h ≤ j → ∀ (len cap : Nat), j ≤ cap → (Instr.sliceBounds true len cap lo hi mx).run P w = .ok (l.toNat, h.toNat, j.toNat) w) →
      ∃ u, (Instr.sliceAt t c lo hi mx).run P w = .ok u w ∧ PVR m g v u := by
  unfold slice3 at hh
  split at hh
  · rename_i hc
    simp only [Bool.and_eq_true, beq_iff_eq] at hc
    obtain ⟨⟨rfl, rfl⟩, rfl⟩ := hc
    have base : ∀ (w : World) (a : Option Addr) (len cap : Nat) (lo hi mx : Option Value), (0 ≤ (0 : Int) → (0 : Int) ≤ 0 → (0 : Int) ≤ 0 → ∀ (len cap : Nat), (0 : Int) ≤ cap → (Instr.sliceBounds true len cap lo hi mx).run P w = .ok ((0 : Int).toNat, (0 : Int).toNat, (0 : Int).toNat) w) →
        (Instr.sliceAt t (.slice a len cap) lo hi mx).run P w = .ok (.slice a 0 0) w := fun w a len cap lo hi mx hb => by
      rw [run_slice hd hpos w (hb (Int.le_refl _) (Int.le_refl _) (Int.le_refl _) len cap (by omega))]
      simp
    split at hh <;> first | (cases hh; done) | skip
    · exact ⟨_, hh, fun m g w c lo hi mx hc hb => by rw [pv_nils hc]; exact ⟨_, base w _ _ _ lo hi mx hb, by simp [PVR, SVR, VRr]⟩⟩
    · exact ⟨_, hh, fun m g w c lo hi mx hc hb => by obtain ⟨a, rfl⟩ := pv_esl hc; exact ⟨_, base w _ _ _ lo hi mx hb, by simp [PVR, SVR, VRr]⟩⟩
    · exact ⟨_, hh, fun m g w c lo hi mx hc hb => by
        simp only [PVR, SVR, VRr] at hc; obtain ⟨a, cap, rfl, _⟩ := hc; exact ⟨_, base w _ _ _ lo hi mx hb, by simp [PVR, SVR, VRr]⟩⟩
    · exact ⟨_, hh, fun m g w c lo hi mx hc hb => by
        obtain ⟨l, a, cap, _, rfl, _⟩ := hc; exact ⟨_, base w _ _ _ lo hi mx hb, by simp [PVR, SVR, VRr]⟩⟩
  · split at hh <;> first | (cases hh; done) | skip
    rename_i d k off len
    split at hh
    · rename_i hc
      simp only [Bool.and_eq_true, decide_eq_true_eq] at hc
      obtain ⟨⟨⟨h0, h1⟩, h2⟩, h3⟩ := hc
      refine ⟨_, hh, fun m g w c lo hi mx hc hb => ?_⟩
      obtain ⟨l', a, cap, _, rfl, hlc, _⟩ := hc
      exact ⟨_, run_slice hd hpos w (hb h0 h1 h2 len cap (by omega)), trivial⟩
    · cases hh

theorem sliceK_some {fr : Frames} {t : TypeId} {x : PV} {lo hi mx : Option PV} {K : PV → Option R} {r : R} (h : sliceK P fr t x lo hi mx K = some r) :
    ∃ v, K v = some r ∧ ∀ (m : Mem) (g : Gh) (w : World) (c : Value) (clo chi cmx : Option Value), PRel m g fr w → PVR m g x c → OptR m g lo clo → OptR m g hi chi → OptR m g mx cmx →
      ∃ u, (Instr.sliceAt t c clo chi cmx).run P w = .ok u w ∧ PVR m g v u := by
  unfold sliceK at h
  split at h
  · rename_i hd
    split at h <;> first | (cases h; done) | skip
    rename_i s
    split at h
    · obtain ⟨l, hA, el⟩ := bound_some h
      clear h
      obtain ⟨hh, h, eh⟩ := bound_some hA
      clear hA
      split at h
      · rename_i hc
        simp only [Bool.and_eq_true, decide_eq_true_eq] at hc
        obtain ⟨⟨h0, h1⟩, h2⟩ := hc
        refine ⟨_, h, fun m g w c clo chi cmx hp hx hlo hhi hmx => ?_⟩
        cases cmx with
        | some _ => exact hmx.elim
        | none =>
          have hb := run_bounds (P := P) (sl := false) (cap := s.size) (len := s.size) w hlo hhi el eh h0 h1 h2
          rw [pv_str hx]
          exact ⟨.string (s.extract l.toNat hh.toNat), by simp [Instr.sliceAt, run_underlying hd, Instr.slice, hb], by simp [PVR, SVR, VRr]⟩
      · cases h
    · cases h
  · rename_i e hd
    split at h
    · rename_i hpos
      split at h
      · obtain ⟨n, hA, hn1, hn2, hn3, hn4, hn⟩ := wLen_some h
        clear h
        obtain ⟨l, hB, el⟩ := bound_some hA
        clear hA
        obtain ⟨hh, h, eh⟩ := bound_some hB
        clear hB
        split at h
        · rename_i d k off len
          split at h
          · rename_i sz rows hlb
            split at h
            · rename_i hc
              simp only [Bool.and_eq_true, decide_eq_true_eq, beq_iff_eq] at hc
              obtain ⟨⟨⟨h0, h1⟩, h2⟩, hsz⟩ := hc
              refine ⟨_, h, fun m g w c clo chi cmx hp hx hlo hhi hmx => ?_⟩
              cases cmx with
              | some _ => exact hmx.elim
              | none =>
                have hnn := hn m g c hx
                obtain ⟨lg, a, cap, hg, rfl, e1, e2, e3⟩ := hx
                have hlen : n = len := by
                  rcases hnn with ⟨a', cap', e, _⟩ | ⟨s, e, _⟩
                  · cases e; rfl
                  · cases e
                subst hlen
                obtain ⟨_, l', hl', hr⟩ := lbAt_blk hp hlb (by simp)
                rw [hg] at hl'; cases hl'
                obtain ⟨n1, n2, _⟩ := hr
                have hcap : hh ≤ cap := by
                  by_cases ho : off < lg.n
                  · have := (e2 ho).2; omega
                  · by_cases h0' : n = 0
                    · have : (0:Int) ≤ cap := by omega
                      omega
                    · have := e3 h0'; omega
                have hb := run_bounds (P := P) (sl := true) (cap := cap) (len := n) w hlo hhi el eh h0 h1 hcap
                refine ⟨_, run_slice hd hpos w hb, lg, if cap = l.toNat then a else a.add (l.toNat * sizeT P e), cap - l.toNat, hg, ?_, by omega, fun ho => ?_, fun hne => by omega⟩
                · split <;> rfl
                · have ho' : off < lg.n := by omega
                  obtain ⟨rfl, hc2⟩ := e2 ho'
                  have : cap ≠ l.toNat := by omega
                  rw [if_neg this, Addr.add_lit, n2, hsz, ← Nat.add_mul]
                  exact ⟨rfl, by omega⟩
            · cases h
          · cases h
        · rename_i hx0
          have fin : ∀ {sz : Nat} {rows : List (List RV)}, sliceRo (sizeT P e) x n sz rows l hh K = some r → rows.length = n →
              ((rows = [] ∧ (x = .s (.ro .nils) ∨ x = .s (.ro .esl) ∨ (∃ z, x = .s (.ro (.vsl z []))) ∨ ∃ z d k, x = .s (.tsl z [] d k))) ∨ x = .s (.ro (.vsl sz rows)) ∨ ∃ d k, x = .s (.tsl sz rows d k)) →
              ∃ v, K v = some r ∧ ∀ (m : Mem) (g : Gh) (w : World) (c : Value) (clo chi cmx : Option Value), PRel m g fr w → PVR m g x c → OptR m g lo clo → OptR m g hi chi → OptR m g none cmx →
                ∃ u, (Instr.sliceAt t c clo chi cmx).run P w = .ok u w ∧ PVR m g v u := fun {sz rows} hs hl hr => by
            have hbd : 0 ≤ l ∧ l ≤ hh := by
              unfold sliceRo at hs
              split at hs
              · rename_i hc
                simp only [Bool.and_eq_true, decide_eq_true_eq] at hc
                exact hc.1
              · cases hs
            obtain ⟨v, h1, h2⟩ := sliceRo_some hd hpos hs (fun d k off len e => hx0 d k off len e) hl hr
            refine ⟨v, h1, fun m g w c clo chi cmx hp hx hlo hhi hmx => ?_⟩
            cases cmx with
            | some _ => exact hmx.elim
            | none => exact h2 m g w c clo chi hx fun len cap hlen hcap => by subst hlen; exact run_bounds (P := P) (sl := true) w hlo hhi el eh hbd.1 hbd.2 hcap
          unfold wRows at h
          split at h <;> first | (cases h; done) | skip
          · exact fin h (by simp [hn3 rfl]) (.inl ⟨rfl, .inl rfl⟩)
          · exact fin h (by simp [hn4 rfl]) (.inl ⟨rfl, .inr (.inl rfl)⟩)
          · exact fin h (hn1 _ _ rfl) (.inr (.inl rfl))
          · exact fin h (hn2 _ _ _ _ rfl) (.inr (.inr ⟨_, _, rfl⟩))
          · exact absurd rfl (hx0 _ _ _ _)
      · rename_i mxv
        split at h
        · cases h
        · rename_i hiv
          obtain ⟨l, hA, el⟩ := bound_some h
          clear h
          obtain ⟨kh, hh, rfl, hB⟩ := wInt_some hA
          clear hA
          obtain ⟨kj, j, rfl, h⟩ := wInt_some hB
          clear hB
          obtain ⟨v, h1, h2⟩ := slice3_some hd hpos h
          refine ⟨v, h1, fun m g w c clo chi cmx hp hx hlo hhi hmx => ?_⟩
          cases cmx with
          | none => exact hmx.elim
          | some cm => exact h2 m g w c clo chi (some cm) hx fun h0 h1 h2 len cap h3 => run_bounds3 (m := m) (g := g) w hlo hhi (show PVR m g (.s (.ro (.int kj j))) cm from hmx) el ⟨kh, rfl⟩ rfl h0 h1 h2 h3
    · cases h
  · cases h

end Go.PM

set_option linter.unusedSectionVars false
namespace Go.PM
variable [LoopCodes]
variable {R : Type} {P : Program}

/-- What comes of an operation that lays or writes memory. -/
def Out (P : Program) (E : Entry) (m : Mem) (g : Gh) (K : PV → Frames → Option R) (r : R) (s : Sem Value) (w : World) : Prop :=
  ∃ c w' m' g' v fr', s.run P w = .ok c w' ∧ K v fr' = some r ∧ PVR m' g' v c ∧ FRel E m' g' fr' w' ∧ m.le m' ∧ g.le g'

theorem Out.still {E : Entry} {m : Mem} {g : Gh} {K : PV → Frames → Option R} {r : R} {s : Sem Value} {w : World} {c : Value} {v : PV} {fr : Frames} (hs : s.run P w = .ok c w) (hK : K v fr = some r) (hv : PVR m g v c) (hf : FRel E m g fr w) :
    Out P E m g K r s w := ⟨c, w, m, g, v, fr, hs, hK, hv, hf, Mem.le_refl _, Gh.le_refl _⟩

theorem allocK_some {fr : Frames} {ix : Nat} {b : LB} {K : Frames → Option R} {r : R} (h : allocK fr ix b K = some r) : ∃ loc up, fr = loc :: up ∧ loc.getD ix .none = .none ∧ K (setLoc loc ix b :: up) = some r := by
  unfold allocK at h
  split at h
  · cases h
  · split at h
    · exact ⟨_, _, rfl, by assumption, h⟩
    · cases h

/-- A new box. -/
theorem FRel.newBox {E : Entry} {m : Mem} {g : Gh} {loc : List LB} {up : Frames} {w : World} (h : FRel E m g (loc :: up) w) {ix : Nat} (hix : loc.getD ix .none = .none) {cells : List SV} {cs : Array Value} (T : TypeId)
    (hl : cs.size = cells.length) (h1 : ∀ u ∈ cs, u.oneCell' = true) (hr : ∀ (i : Nat) (s : SV) (u : Value), cells[i]? = some s → cs[i]? = some u → SVR m g s u) :
    ∃ g', FRel E m g' (setLoc loc ix (.box cells) :: up) (w.alloc (.cells cs T)) ∧ g.le g' ∧ PVR m g' (.s (.ptr 0 ix 0 0)) (.pointer (some ⟨w.heap.size, 0, none⟩)) := by
  obtain ⟨gl, g0, rfl, hg0⟩ := h.gt
  let l : LG := ⟨w.heap.size, cells.length, 1, fun _ => none⟩
  have hgle : Gh.le (gl :: g0) (setG gl ix l :: g0) := (fun d k l0 h0 => by
    refine ⟨l0, ?_, l0.le_refl⟩
    rw [gAt_setG, if_neg]
    · exact h0
    · rintro ⟨rfl, rfl⟩
      obtain ⟨lb0, hb⟩ := h.p.ghost 0 k l0 h0
      have := lbAt?_some.1 hb
      unfold lbAt at this
      simp only [List.getD_cons_zero, hix] at this
      exact this.2 this.1.symm)
  obtain ⟨f, hle⟩ := h.alloc (w' := w.alloc (.cells cs T)) (lb := .box cells) (l := l) hix rfl rfl rfl (by simp) (fun b hb => heap_alloc_old w _ b hb)
    ⟨rfl, rfl, cs, T, heap_alloc_new w _, fun i v hv => by
      have hi : i < cs.size := by rw [hl]; exact (List.getElem?_eq_some_iff.1 hv).1
      exact ⟨cs[i], Array.getElem?_eq_getElem hi, h1 _ (Array.getElem_mem hi), (hr i v _ hv (Array.getElem?_eq_getElem hi)).mono (Mem.le_refl m) hgle⟩⟩
    (fun b hb => by cases hb; exact Nat.le_refl _) (by simp)
  exact ⟨_, f, hle, l, by rw [gAt_setG, if_pos ⟨rfl, rfl⟩], by simp [l]⟩

/-- A new array of rows. -/
theorem FRel.newArr {E : Entry} {m : Mem} {g : Gh} {loc : List LB} {up : Frames} {w w' : World} (h : FRel E m g (loc :: up) w) {ix : Nat} (hix : loc.getD ix .none = .none) {sz cap : Nat} {rows : List (List RV)} {cs : Array Value} {T : TypeId}
    (hw : w'.heap[w.heap.size]? = some (.cells cs T (0, 0))) (hos : w'.os = w.os) (ht : w'.tape = w.tape) (ho : w'.output = w.output) (hs : w.heap.size ≤ w'.heap.size) (hb : ∀ b, b < w.heap.size → w'.heap[b]? = w.heap[b]?)
    (hrl : ∀ r ∈ rows, r.length = sz) (hcap : rows.length ≤ cap)
    (hr : ∀ (i : Nat) (r : List RV) (j : Nat) (v : RV), rows[i]? = some r → r[j]? = some v → ∃ u, cs[i * sz + j]? = some u ∧ u.oneCell' = true ∧ VRr m v u) :
    ∃ g', FRel E m g' (setLoc loc ix (.arr sz rows) :: up) w' ∧ g.le g' ∧ PVR m g' (.s (.sl 0 ix 0 rows.length)) (.slice (some ⟨w.heap.size, 0, none⟩) rows.length cap) := by
  obtain ⟨gl, g0, rfl, hg0⟩ := h.gt
  let l : LG := ⟨w.heap.size, sz, rows.length, fun _ => none⟩
  obtain ⟨f, hle⟩ := h.alloc (w' := w') (lb := .arr sz rows) (l := l) hix hos ht ho hs hb ⟨rfl, rfl, hrl, cs, T, hw, hr⟩ (fun b hb => by cases hb; exact Nat.le_refl _) (by simp)
  exact ⟨_, f, hle, l, _, cap, by rw [gAt_setG, if_pos ⟨rfl, rfl⟩], rfl, hcap, fun _ => ⟨by simp [l], by simp [l]; exact hcap⟩, fun _ => by simp [l]⟩

/-- A token without a block yet. -/
theorem FRel.newTok {E : Entry} {m : Mem} {g : Gh} {loc : List LB} {up : Frames} {w : World} (h : FRel E m g (loc :: up) w) {ix : Nat} (hix : loc.getD ix .none = .none) {sz : Nat} (hsz : 0 < sz) :
    ∃ g' l, g.le g' ∧ FRel E m g' (setLoc loc ix (.tok sz 0) :: up) w ∧ gAt g' 0 ix = some l ∧ l.lv 0 = some (.slice none 0 0) ∧ (∀ r, 0 < r → l.lv r = none) := by
  obtain ⟨gl, g0, rfl, hg0⟩ := h.gt
  let l : LG := ⟨0, sz, 0, fun r => if r = 0 then some (.slice none 0 0) else none⟩
  obtain ⟨f, hle⟩ := h.alloc (w' := w) (lb := .tok sz 0) (l := l) hix rfl rfl rfl (Nat.le_refl _) (fun _ _ => rfl)
    ⟨hsz, rfl, fun r hr => if_neg (by omega), .slice none 0 0, 0, [], rfl, World.ownsRow_nil w 0 0 sz, fun u hu => by cases hu⟩ (fun b hb => by simp [LB.at_, l, Value.ownBlock] at hb) (by simp)
  exact ⟨_, l, hle, f, by rw [gAt_setG, if_pos ⟨rfl, rfl⟩], rfl, fun r hr => if_neg (by omega)⟩

theorem setLoc_twice (loc : List LB) (ix : Nat) (a b : LB) : (setLoc loc ix a).set ix b = setLoc loc ix b := by
  unfold setLoc
  split
  · rw [List.set_set]
  · rename_i h
    have h' : ¬ ix < loc.length := fun hc => by rw [← Nat.blt_eq] at hc; rw [hc] at h; cases h
    rw [List.set_append_right _ _ (by simp; omega)]
    congr 1
    simp
    rw [show ix - (loc.length + (ix - loc.length)) = 0 by omega]
    rfl

/-! ### alloc, box -/
theorem listR_cells {m : Mem} {g : Gh} {z : List RV} {cs : List Value} (h : ListR m z cs) : ∀ (i : Nat) (s : SV) (u : Value), (z.map SV.ro)[i]? = some s → cs[i]? = some u → SVR m g s u := fun i s u a b => by
  rw [List.getElem?_map] at a
  cases hv : z[i]? with
  | none => simp [hv] at a
  | some v =>
    simp [hv] at a
    subst a
    obtain ⟨c, h1, h2⟩ := h.get hv
    rw [b] at h1; cases h1; exact h2

theorem alloc_out {E : Entry} {m : Mem} {g : Gh} {fr : Frames} {w : World} (hf : FRel E m g fr w) {t : TypeId} {ix : Nat} {K : PV → Frames → Option R} {r : R}
    (h : zeroT P t (fun z => allocK fr ix (.box (z.map .ro)) fun fr' => K (.s (.ptr 0 ix 0 0)) fr') = some r) : Out P E m g K r (Instr.alloc t true (.tuple #[])) w := by
  obtain ⟨z, v, i, h1, hi, hz, e1, e2, e3, e4⟩ := zeroT_some h
  obtain ⟨loc, up, rfl, hix, hK⟩ := allocK_some h1
  obtain ⟨g', f, hle, hv⟩ := hf.newBox hix (cs := v.cells) t (by simp [e1, e2]) e3 (fun j s u a b => listR_cells (e4 m) j s u a (by simpa using b))
  refine ⟨_, _, m, g', _, _, ?_, hK, hv, f, Mem.le_refl _, hle⟩
  simp [Instr.alloc, zeroValue, typeInfo, hi, hz, newVar, newRow]

theorem allocToks_some {E : Entry} {m : Mem} {w : World} {ix : Nat} {r : R} {cs : List Value} : ∀ {ts : List (Nat × Nat)} {g : Gh} {fr : Frames} {cells : List SV} {a : Nat} {K : List SV → Frames → Option R}, FRel E m g fr w →
    (∀ (i : Nat) (s : SV) (u : Value), cells[i]? = some s → cs[i]? = some u → SVR m g s u) → allocToks fr ix cells a ts K = some r →
    ∃ cells' fr' g', K cells' fr' = some r ∧ FRel E m g' fr' w ∧ g.le g' ∧ cells'.length = cells.length ∧ ∀ (i : Nat) (s : SV) (u : Value), cells'[i]? = some s → cs[i]? = some u → SVR m g' s u
  | [], g, fr, cells, a, K, hf, hr, h => ⟨cells, fr, g, h, hf, Gh.le_refl _, rfl, hr⟩
  | (i, sz) :: ts, g, fr, cells, a, K, hf, hr, h => by
    simp only [allocToks] at h
    split at h <;> first | (cases h; done) | skip
    rename_i hc
    split at h <;> first | (cases h; done) | skip
    rename_i hsz
    obtain ⟨loc, up, rfl, hix, hK⟩ := allocK_some h
    obtain ⟨g1, l, hle, f, hg, hl0, hlr⟩ := hf.newTok hix (sz := sz) (by simpa using hsz)
    obtain ⟨cells', fr', g', q1, q2, q3, q4, q5⟩ := allocToks_some f (fun j s u a b => by
      rw [List.getElem?_set] at a
      by_cases e : i = j
      · subst e
        simp only [if_true] at a
        split at a <;> cases a
        have := hr i _ u hc b
        have hu : u = .slice none 0 0 := by simpa [SVR, VRr] using this
        subst hu
        exact ⟨l, hg, hl0, fun _ => rfl, fun hne => absurd rfl hne⟩
      · simp only [e, if_false] at a
        exact (hr j s u a b).mono (Mem.le_refl m) hle) hK
    exact ⟨cells', fr', g', q1, q2, Gh.le_trans hle q3, by simpa using q4, q5⟩

theorem alloc2_out {E : Entry} {m : Mem} {g : Gh} {fr : Frames} {w : World} (hf : FRel E m g fr w) {t : TypeId} {ix : Nat} {ts : List (Nat × Nat)} {K : PV → Frames → Option R} {r : R}
    (h : zeroT P t (fun z => allocToks fr ix (z.map .ro) ix ts fun cs fr' => allocK fr' ix (.box cs) fun fr' => K (.s (.ptr 0 ix 0 0)) fr') = some r) : Out P E m g K r (Instr.alloc t true (.tuple #[])) w := by
  obtain ⟨z, v, i, h1, hi, hz, e1, e2, e3, e4⟩ := zeroT_some h
  obtain ⟨cells, fr', g1, h2, f1, hle1, hlen, hrel⟩ := allocToks_some hf (cs := v.cells.toList) (fun j s u a b => listR_cells (e4 m) j s u a b) h1
  obtain ⟨loc, up, rfl, hix, hK⟩ := allocK_some h2
  obtain ⟨g', f, hle, hv⟩ := f1.newBox hix (cs := v.cells) t (by rw [hlen]; simp [e1, e2]) e3 (fun j s u a b => hrel j s u a (by simpa using b))
  refine ⟨_, _, m, g', _, _, ?_, hK, hv, f, Mem.le_refl _, Gh.le_trans hle1 hle⟩
  simp [Instr.alloc, zeroValue, typeInfo, hi, hz, newVar, newRow]

/-- A box whose content nobody writes: its cells join the memory that nobody writes. -/
theorem FRel.seal {E : Entry} {m : Mem} {g : Gh} {fr : Frames} {w : World} (h : FRel E m g fr w) (cs : Array Value) (T : TypeId) :
    ∃ m', FRel E m' g fr (w.alloc (.cells cs T)) ∧ m.le m' ∧ (∀ o, m' w.heap.size o = cs[o]?) := by
  let m' : Mem := fun b o => if b = w.heap.size then cs[o]? else m b o
  have hle : m.le m' := fun b o c hc => by
    show (if _ then _ else _) = _
    rw [if_neg]; · exact hc
    · have := mem_lt h.p hc; omega
  have hnew : ∀ b o c, m' b o = some c → m b o = some c ∨ b = w.heap.size := fun b o c hc => by
    by_cases e : b = w.heap.size
    · exact .inr e
    · exact .inl ((if_neg e).symm.trans hc)
  refine ⟨m', ⟨⟨fun b o c hc => ?_, h.p.len, fun d k lb h0 => ?_, h.p.excl, fun d k lb l b o c h0 g0 a0 hc => ?_, h.p.ghost⟩,
    ⟨Mem.le_trans h.step.le hle, fun b o c hc hc0 => ?_, h.step.os, h.step.tape, h.step.output, Nat.le_trans h.step.size (by simp), fun b hb hne => (heap_alloc_old w _ b (Nat.lt_of_lt_of_le hb h.step.size)).trans (h.step.block b hb hne)⟩, h.gt, h.shape, h.old, fun b o hk => ⟨(heap_alloc_old w _ b (Array.getElem?_eq_some_iff.1 (h.kp b o hk).1).1).trans (h.kp b o hk).1, (h.kp b o hk).2⟩⟩, hle, fun o => if_pos rfl⟩
  · rcases hnew b o c hc with h1 | rfl
    · exact (World.cell?_of_block (w := w) (heap_alloc_old w _ b (mem_lt h.p h1))).trans (h.p.mem b o c h1)
    · rw [cell_of_row _ _ o cs T (0, 0) (heap_alloc_new w _)]
      exact (if_pos rfl).symm.trans hc
  · obtain ⟨l, g0, hr⟩ := h.p.blk d k lb h0
    exact ⟨l, g0, hr.kept hle (Gh.le_refl _) rfl fun b hb => heap_alloc_old w _ b (hr.lt hb)⟩
  · rcases hnew b o c hc with h1 | rfl
    · exact h.p.dis _ _ _ _ _ _ _ h0 g0 a0 h1
    · obtain ⟨l1, g1, hr⟩ := h.p.blk d k lb h0
      rw [g0] at g1; cases g1
      have := hr.lt a0
      omega
  · rcases hnew b o c hc with h1 | rfl
    · exact h.step.new b o c h1 hc0
    · exact .inl h.step.size

theorem rowR_of_cells {m m' : Mem} (hm : m.le m') {b : Nat} {vs : List RV} {cs : List Value} (hl : ListR m vs cs) (h1 : ∀ u ∈ cs, u.oneCell' = true) {o : Nat} (hb : ∀ (i : Nat) (u : Value), cs[i]? = some u → m' b (o + i) = some u) : RowR m' b o vs :=
  RowR.of_get fun i v hv => by
    obtain ⟨c, hc, hr⟩ := hl.get hv
    exact ⟨c, hb i c hc, h1 c (List.mem_of_getElem? hc), VRr.mono hm _ _ hr⟩

theorem boxRo_out {E : Entry} {m : Mem} {g : Gh} {fr : Frames} {w : World} (hf : FRel E m g fr w) {t : TypeId} {x : PV} {c : Value} (hx : PVR m g x c) {K : PV → Frames → Option R} {r : R}
    (h : wRo x (fun v => match v with
      | .agg vs => K (.ro (.vptr vs 0)) fr
      | .tup _ => none
      | v => K (.ro (.vptr [v] 0)) fr) = some r) : Out P E m g K r (Instr.box t c) w := by
  obtain ⟨v, h1, hv0⟩ := wRo_some h
  have hv := hv0 m g c hx
  clear hv0
  obtain ⟨m', f, hle, hc⟩ := hf.seal c.cells t
  have hrun : (Instr.box t c).run P w = .ok (.pointer (some ⟨w.heap.size, 0, none⟩)) (w.alloc (.cells c.cells t)) := by
    simp [Instr.box, newVar, newRow]
  have fin : ∀ vs, ListR m vs c.cells.toList → (∀ u ∈ c.cells.toList, u.oneCell' = true) → K (.ro (.vptr vs 0)) fr = some r → Out P E m g K r (Instr.box t c) w := fun vs hl h1 hK =>
    ⟨_, _, m', g, _, _, hrun, hK, by
      simp only [PVR, SVR, VRr]
      exact ⟨w.heap.size, 0, rfl, rowR_of_cells hle hl h1 fun i u hu => by rw [Nat.zero_add, hc]; simpa using hu⟩, f, hle, Gh.le_refl _⟩
  split at h1
  · rename_i vs
    simp only [VRr] at hv
    obtain ⟨cs, rfl, hl, ho⟩ := hv
    exact fin vs (by simpa [Value.cells] using hl) (by simpa [Value.cells] using ho) h1
  · cases h1
  · rename_i hna hnt
    have hone : c.oneCell' = true := by
      cases v <;> simp only [VRr] at hv <;> first
        | (subst hv; rfl)
        | (obtain ⟨_, _, rfl, _⟩ := hv; rfl)
        | (obtain ⟨_, rfl⟩ := hv; rfl)
        | (obtain ⟨_, rfl, _⟩ := hv; rfl)
        | (exact absurd rfl (hna _))
        | (exact absurd rfl (hnt _))
    have hcc : c.cells = #[c] := by cases c <;> simp_all [Value.cells, Value.oneCell']
    exact fin [v] (by rw [hcc]; simp only [ListR]; exact ⟨c, [], rfl, hv, rfl⟩) (by rw [hcc]; simpa using hone) h1

theorem boxLoc_out {E : Entry} {m : Mem} {g : Gh} {fr : Frames} {w : World} (hf : FRel E m g fr w) {t : TypeId} {x : PV} {c : Value} (hx : PVR m g x c) {ix : Nat} {K : PV → Frames → Option R} {r : R} (hst : storable x = true)
    (h : allocK fr ix (.box (cellsOf x)) (fun fr' => K (.s (.ptr 0 ix 0 0)) fr') = some r) : Out P E m g K r (Instr.box t c) w := by
  obtain ⟨loc, up, rfl, hix, hK⟩ := allocK_some h
  obtain ⟨e1, e2, e3⟩ := cellsOf_rel hx (storable_spec hst).1 (storable_spec hst).2
  obtain ⟨g', f, hle, hv⟩ := hf.newBox hix (cs := c.cells) t e1 e2 e3
  refine ⟨_, _, m, g', _, _, ?_, hK, hv, f, Mem.le_refl _, hle⟩
  simp [Instr.box, newVar, newRow]

end Go.PM

set_option linter.unusedSectionVars false
namespace Go.PM
variable [LoopCodes]
variable {R : Type} {P : Program}

theorem Lies.news {m : Mem} {w : World} {sz : Nat} {rows : List (List RV)} {c : Value} (h : Lies m w sz rows c) (hne : rows ≠ []) (hsz : 0 < sz) :
    ∃ (a : Addr) (cap : Nat) (news : List Value), c = .slice (some a) rows.length cap ∧ news.length = rows.length * sz ∧ (∀ (j : Nat) (u : Value), news[j]? = some u → w.cell? (a.add j) = some u) ∧ (∀ u ∈ news, u.oneCell' = true) ∧
      ∀ (i : Nat) (r : List RV), rows[i]? = some r → r.length = sz ∧ ∀ (j : Nat) (rv : RV), r[j]? = some rv → ∃ u, news[i * sz + j]? = some u ∧ VRr m rv u := by
  obtain ⟨a, cap, rfl, _, hl⟩ := h
  obtain ⟨b, o, rfl, hr⟩ := hl hne
  let news : List Value := (List.range (rows.length * sz)).map fun p => (w.cell? ⟨b, o + p, none⟩).getD undef
  have hcell : ∀ p, p < rows.length * sz → ∃ u, w.cell? ⟨b, o + p, none⟩ = some u ∧ u.oneCell' = true := fun p hp => by
    have hi : p / sz < rows.length := Nat.div_lt_of_lt_mul (by rw [Nat.mul_comm]; exact hp)
    obtain ⟨e1, e2⟩ := hr (p / sz) _ (List.getElem?_eq_getElem hi)
    have hj : p % sz < (rows[p / sz]).length := by rw [e1]; exact Nat.mod_lt _ hsz
    obtain ⟨u, h1, h2, _⟩ := e2 (p % sz) _ (List.getElem?_eq_getElem hj)
    refine ⟨u, ?_, h2⟩
    have : o + p = o + p / sz * sz + p % sz := by rw [Nat.add_assoc, Nat.mul_comm, Nat.div_add_mod]
    rw [this]; exact h1
  have hn : ∀ (p : Nat) (u : Value), news[p]? = some u → p < rows.length * sz ∧ w.cell? ⟨b, o + p, none⟩ = some u := fun p u hu => by
    have hp : p < rows.length * sz := by simpa [news] using (List.getElem?_eq_some_iff.1 hu).1
    obtain ⟨u', h1, _⟩ := hcell p hp
    simp [news, hp, h1] at hu
    exact ⟨hp, by rw [h1, hu]⟩
  refine ⟨⟨b, o, none⟩, cap, news, rfl, by simp [news], fun j u hu => by rw [Addr.add_lit]; exact (hn j u hu).2, fun u hu => ?_, fun i r hir => ?_⟩
  · obtain ⟨p, hp⟩ := List.getElem?_of_mem hu
    obtain ⟨h1, h2⟩ := hn p u hp
    obtain ⟨u', h3, h4⟩ := hcell p h1
    rw [h2] at h3; cases h3; exact h4
  · obtain ⟨e1, e2⟩ := hr i r hir
    refine ⟨e1, fun j rv hj => ?_⟩
    obtain ⟨u, h1, h2, h3⟩ := e2 j rv hj
    refine ⟨u, ?_, h3⟩
    have hi : i < rows.length := (List.getElem?_eq_some_iff.1 hir).1
    have hj' : j < sz := by rw [← e1]; exact (List.getElem?_eq_some_iff.1 hj).1
    have hp : i * sz + j < rows.length * sz := by
      have := Nat.mul_le_mul_right sz (show i + 1 ≤ rows.length by omega)
      rw [Nat.add_mul] at this; omega
    simp [news, hp, ← Nat.add_assoc, h1]

theorem run_append_empty {t e ty : TypeId} (hd : P.underlying t = some (.slice e)) (hpos : ∃ i, P.info? e = some i) (w : World) (a a' : Option Addr) (n cap cap' : Nat) (hn : n ≤ cap) :
    (Builtin.append_ #[t, t] ty #[.slice a n cap, .slice a' 0 cap']).run P w = .ok (.slice a n cap) w := by
  obtain ⟨i, hi⟩ := hpos
  cases a <;> cases a' <;> simp [Builtin.append_, run_underlying hd, sizeOf, typeInfo, hi, Builtin.lenOf, hn, Builtin.firstCells, loadCells, loadCellsFrom, storeCells]

/-- What the element's type says. -/
structure ElemOK (P : Program) (e : TypeId) (i : TypeInfo) (z : Value) : Prop where
  info : P.info? e = some i
  zero : i.zero = some z
  size : z.cells.size = i.size

theorem elemOKb_info {e : TypeId} (h : elemOKb P e = true) : ∃ i, P.info? e = some i := by
  unfold elemOKb at h
  split at h
  · exact ⟨_, by assumption⟩
  · cases h

theorem elemOKb_elem {e : TypeId} (hZ : elemOKb P e = true) (h : Nat.blt 0 (sizeT P e) = true) : ∃ i z, ElemOK P e i z ∧ i.size = sizeT P e ∧ i.bytes = bytesT P e ∧ 0 < i.size := by
  have h' : 0 < sizeT P e := by rw [Nat.blt_eq] at h; exact h
  unfold elemOKb at hZ
  split at hZ
  · rename_i i hi
    split at hZ
    · rename_i z hz
      have : sizeT P e = i.size := by simp [sizeT, hi]
      exact ⟨i, z, ⟨hi, hz, by simpa using hZ⟩, this.symm, by simp [bytesT, hi], by omega⟩
    · cases hZ
  · cases hZ

/-- The row that a growing append makes. -/
theorem grown_facts (w : World) {e : TypeId} {i : TypeInfo} {z : Value} (he : ElemOK P e i z) {n : Nat} {news : List Value} (hl : news.length = n * i.size) (old : Nat) (h63 : n ≤ maxLen) :
    (w.drew.alloc (.cells (news.toArray ++ Builtin.zeroCells z.cells (grownCap w n old e - n)) e)).ownsRow 0 e i.size (.slice (some ⟨w.heap.size, 0, none⟩) n (grownCap w n old e)) n news ∧ n ≤ grownCap w n old e := by
  have hge := grownCap_ge w n old e
  refine ⟨⟨hl, .inr ⟨w.heap.size, _, _, rfl, Nat.zero_le _, heap_alloc_new w.drew _, hge, grownCap_le_maxLen w n old e h63, ?_, ?_⟩⟩, hge⟩
  · simp only [Array.size_append, List.size_toArray, size_zeroCells, he.size, hl, ← Nat.add_mul]
    congr 1; omega
  · simp only [Array.toList_append]
    rw [← hl]; exact List.take_left

theorem appendNew_out {E : Entry} {m : Mem} {g : Gh} {fr : Frames} {w : World} (hf : FRel E m g fr w) {t e ty : TypeId} (hd : P.underlying t = some (.slice e)) (hZ : elemOKb P e = true) (hpos : Nat.blt 0 (sizeT P e) = true)
    {loc : Bool} {ix : Nat} {ys : List (List RV)} {cs cx : Value} (hcs : cs = .slice none 0 0 ∨ ∃ a, cs = .slice (some a) 0 0) (hx : Lies m w (sizeT P e) ys cx) (hy : ys ≠ []) {K : PV → Frames → Option R} {r : R}
    (h : appendNew P fr loc ix e (sizeT P e) ys K = some r) : Out P E m g K r (Builtin.append_ #[t, t] ty #[cs, cx]) w := by
  obtain ⟨i, z, he, hs, hby, h0⟩ := elemOKb_elem hZ hpos
  rw [← hs] at hx
  obtain ⟨a, cap, news, rfl, hnl, hnews, hn1, hrel⟩ := hx.news hy h0
  have hyl : 0 < ys.length := List.length_pos_iff.2 hy
  unfold appendNew at h
  split at h
  · rename_i hb
    simp only [Bool.and_eq_true, Nat.ble_eq] at hb
    obtain ⟨hb1, hb2⟩ := hb
    rw [← hby] at hb1
    have hmx : ys.length ≤ maxLen := by simp only [maxLen]; omega
    obtain ⟨hrow, hcap⟩ := grown_facts (P := P) w he hnl 0 hmx
    have hrun : (Builtin.append_ #[t, t] ty #[cs, .slice (some a) ys.length cap]).run P w =
        .ok (.slice (some ⟨w.heap.size, 0, none⟩) ys.length (grownCap w ys.length 0 e)) (w.drew.alloc (.cells (news.toArray ++ Builtin.zeroCells z.cells (grownCap w ys.length 0 e - ys.length)) e)) := by
      rcases hcs with rfl | ⟨a0, rfl⟩
      · exact run_append_nil (P := P) w t ty e i z hd he.info he.zero a ys.length cap news hnl hnews hyl (by simp only [maxLen] at hmx; omega) (by omega)
      · have := run_append_grow (P := P) w t ty e i z hd he.info he.zero a0 0 0 [] (by simp) (by simp) a ys.length cap news hnl hnews (by omega) (by simp only [maxLen] at hmx; omega) (growslice_fits (by omega) (by simpa using hb1))
        simpa using this
    split at h
    · obtain ⟨l, up, rfl, hix, hK⟩ := allocK_some h
      have hw0 := heap_alloc_new w.drew (.cells (news.toArray ++ Builtin.zeroCells z.cells (grownCap w ys.length 0 e - ys.length)) e)
      obtain ⟨g', f, hle, hv⟩ := hf.newArr (w' := w.drew.alloc (.cells (news.toArray ++ Builtin.zeroCells z.cells (grownCap w ys.length 0 e - ys.length)) e)) hix (sz := i.size) (rows := ys) hw0 rfl rfl rfl (by simp)
        (fun b hb => heap_alloc_old w.drew _ b hb) (fun r hr => by obtain ⟨j, hj⟩ := List.getElem?_of_mem hr; exact (hrel j r hj).1) hcap
        (fun p r j v hp hj => by
          obtain ⟨u, h1, h2⟩ := (hrel p r hp).2 j v hj
          have hlt := (List.getElem?_eq_some_iff.1 h1).1
          refine ⟨u, ?_, hn1 u (List.mem_of_getElem? h1), h2⟩
          rw [Array.getElem?_append_left (by simpa using hlt)]
          simpa using h1)
      exact ⟨_, _, m, g', _, _, hrun, hs ▸ hK, hv, hs ▸ f, Mem.le_refl _, hle⟩
    · obtain ⟨l, up, rfl, hix, hK⟩ := allocK_some h
      obtain ⟨g1, lg, hle, f, hg, hl0, hlr⟩ := hf.newTok hix h0
      have hne : lbAt (setLoc l ix (.tok i.size 0) :: up) 0 ix = .tok i.size 0 := by rw [lbAt_setLoc, if_pos ⟨rfl, rfl⟩]
      obtain ⟨m', g2, f', hm, hg', hv⟩ := f.grow (rows := []) (ys := ys) (v0 := .slice none 0 0) (E0 := 0) (xs := []) (news := news)
        (v' := .slice (some ⟨w.heap.size, 0, none⟩) ys.length (grownCap w ys.length 0 e)) (E' := e) (w' := w.drew.alloc (.cells (news.toArray ++ Builtin.zeroCells z.cells (grownCap w ys.length 0 e - ys.length)) e))
        (lbAt?_some.2 ⟨hne, by simp⟩) hg hl0 hlr h0 hl0 (World.ownsRow_nil w 0 0 i.size) (by simp) (by simp) hy hrel hn1 (by simpa using hrow) rfl rfl rfl (by simp) (.inr ⟨rfl, fun k hk => heap_alloc_old w.drew _ k hk⟩)
      rw [setAt_cons_zero, setLoc_twice] at f'
      simp only [List.length_nil, Nat.zero_add, List.nil_append] at f' hv
      rw [hs] at f' hv
      exact ⟨_, _, m', _, _, _, hrun, hK, hv, f', hm, Gh.le_trans hle hg'⟩
  · cases h

set_option maxHeartbeats 1000000 in
theorem appendK_out {E : Entry} {m : Mem} {g : Gh} {fr : Frames} {w : World} (hf : FRel E m g fr w) {t e ty : TypeId} (hd : P.underlying t = some (.slice e)) (hZ : elemOKb P e = true)
    {loc : Bool} {ix : Nat} {s x : PV} {cs cx : Value} (hs : PVR m g s cs) (hx : PVR m g x cx) {K : PV → Frames → Option R} {r : R}
    (h : appendK P fr loc ix e s x K = some r) : Out P E m g K r (Builtin.append_ #[t, t] ty #[cs, cx]) w := by
  have hinfo := elemOKb_info hZ
  unfold appendK at h
  obtain ⟨szx, ys, hA, hlies⟩ := wRows_some h
  clear h
  have hl := hlies m g w cx hf.p hx
  clear hlies
  split at hA
  · obtain ⟨a', cap', rfl, _, _⟩ := hl
    simp only [List.length_nil]
    split at hA <;> first | (cases hA; done) | skip
    · rw [pv_nils hs] at *; exact Out.still (run_append_empty hd hinfo w _ _ _ _ _ (Nat.le_refl _)) hA hs hf
    · obtain ⟨a, rfl⟩ := pv_esl hs; exact Out.still (run_append_empty hd hinfo w _ _ _ _ _ (Nat.le_refl _)) hA hs hf
    · rename_i sz rows d k
      obtain ⟨a, n, cap, rfl, hn⟩ : ∃ a n cap, cs = .slice a n cap ∧ n ≤ cap := by
        by_cases er : rows = []
        · obtain ⟨l, _, _, h1, _⟩ := hs; exact ⟨_, _, _, h1 er, Nat.le_refl _⟩
        · have := tsl_vsl hs er
          simp only [VRr] at this
          obtain ⟨a, cap, rfl, h1, _⟩ := this; exact ⟨_, _, _, rfl, h1⟩
      exact Out.still (run_append_empty hd hinfo w _ _ _ _ _ hn) hA hs hf
    · have hs' := hs
      obtain ⟨l, a, cap, _, rfl, h1, _⟩ := hs'
      exact Out.still (run_append_empty hd hinfo w _ _ _ _ _ h1) hA hs hf
  · rename_i hyne
    have hy : ys ≠ [] := hyne
    have hyl : 0 < ys.length := List.length_pos_iff.2 hy
    split at hA
    · rename_i hsz
      simp only [Bool.and_eq_true, beq_iff_eq] at hsz
      obtain ⟨rfl, hpos⟩ := hsz
      obtain ⟨i, z, he, hsi, hby, h0⟩ := elemOKb_elem hZ hpos
      split at hA <;> first | (cases hA; done) | skip
      · exact appendNew_out hf hd hZ hpos (.inl (pv_nils hs)) hl hy hA
      · exact appendNew_out hf hd hZ hpos (.inr (pv_esl hs)) hl hy hA
      · rename_i sz rows d k
        split at hA <;> first | (cases hA; done) | skip
        rename_i sz' n hlb
        split at hA <;> first | (cases hA; done) | skip
        rename_i hc
        simp only [Bool.and_eq_true, beq_iff_eq, Nat.ble_eq] at hc
        obtain ⟨⟨⟨⟨rfl, rfl⟩, rfl⟩, hb1⟩, hb2⟩ := hc
        obtain ⟨lg, hg, hlv, hnil, hne⟩ := hs
        obtain ⟨hlb0, l', hl', hr⟩ := lbAt_blk hf.p hlb (by simp)
        rw [hg] at hl'; cases hl'
        obtain ⟨hp, hl0, hlr, v0, E0, xs, hv0, hown, hx1⟩ := hr
        rw [hlv] at hv0; cases hv0
        rw [← hsi] at hl hown hp
        obtain ⟨a, cap, news, rfl, hnl, hnews, hn1, hrel⟩ := hl.news hy h0
        obtain ⟨v', w', E', hrun, hown', hos, ht, ho, hs', hb⟩ := run_append_tok (P := P) w t ty e i z hd he.info he.zero he.size cs rows.length xs E0 hown a ys.length cap news hnl hyl hnews hn1 (by simp only [maxLen]; omega) (by rw [hby]; exact hb1)
        rw [hsi] at hown hown' hp
        obtain ⟨m', g2, f', hm, hg', hv⟩ := hf.grow hlb0 hg hl0 hlr hp hlv hown hx1 hne hy (by rw [← hsi]; exact hrel) hn1 hown' hos ht ho hs' hb
        exact ⟨_, _, m', _, _, _, hrun, hA, hv, f', hm, hg'⟩
      · rename_i d k off len
        split at hA <;> first | (cases hA; done) | skip
        split at hA <;> first | (cases hA; done) | skip
        rename_i sz rows hlb
        split at hA <;> first | (cases hA; done) | skip
        rename_i hc
        simp only [Bool.and_eq_true, beq_iff_eq, Nat.ble_eq] at hc
        obtain ⟨rfl, hfit⟩ := hc
        obtain ⟨lg, a0, cap0, hg, rfl, e1, e2, e3⟩ := hs
        obtain ⟨hlb0, l', hl', hr⟩ := lbAt_blk hf.p hlb (by simp)
        rw [hg] at hl'; cases hl'
        obtain ⟨n1, n2, n3, ca, Et, hh, hcells⟩ := hr
        obtain ⟨ha0, hcap0⟩ := e2 (by omega)
        subst ha0
        rw [← hsi] at hl
        obtain ⟨a, cap, news, rfl, hnl, hnews, hn1, hrel⟩ := hl.news hy h0
        rw [hsi] at hnl hrel
        have hlt : ∀ p j, p < rows.length → j < sizeT P e → p * sizeT P e + j < rows.length * sizeT P e := fun p j hp hj => by
          have := Nat.mul_le_mul_right (sizeT P e) (show p + 1 ≤ rows.length by omega)
          rw [Nat.add_mul] at this; omega
        have hca : rows.length * sizeT P e ≤ ca.size := by
          have hrp : 0 < rows.length := by omega
          have hlast : rows[rows.length - 1]? = some _ := List.getElem?_eq_getElem (by omega)
          have hll := n3 _ (List.mem_of_getElem? hlast)
          obtain ⟨u, hu, _⟩ := hcells (rows.length - 1) _ (sizeT P e - 1) _ hlast (List.getElem?_eq_getElem (by omega))
          have := (Array.getElem?_eq_some_iff.1 hu).1
          have h2 : rows.length * sizeT P e = (rows.length - 1) * sizeT P e + sizeT P e := by
            rw [← Nat.succ_mul]; congr 1; omega
          omega
        have hmul : (off + len + ys.length) * sizeT P e ≤ rows.length * sizeT P e := Nat.mul_le_mul_right _ hfit
        rw [Nat.add_mul, Nat.add_mul] at hmul
        have hrun := run_append_room' (P := P) (ty := ty) w t e Et i hd he.info lg.b (off * lg.sz) len cap0 ca hh a ys.length cap news (by rw [hsi]; exact hnl) hnews hn1 (by omega) (by rw [n2, hsi, hnl]; omega)
        refine ⟨_, _, m, g, _, _, hrun, hA, ⟨lg, _, cap0, hg, rfl, by omega, e2, fun _ => by omega⟩, hf.write hlb0 hg rfl (.inl rfl) (by simp) (by simp) (by simp) rfl rfl rfl (by simp) (fun b hb => setRow_other w lg.b b _ hb) ?_, Mem.le_refl _, Gh.le_refl _⟩
        refine ⟨by rw [splice_length _ _ _ (by omega)]; exact n1, n2, fun r hr => ?_, _, Et, setRow_heap w lg.b ca _ Et (0, 0) hh, fun p r j v hp hj => ?_⟩
        · obtain ⟨p, hp⟩ := List.getElem?_of_mem hr
          rw [splice_get _ _ _ (by omega)] at hp
          split at hp
          · exact (hrel _ r hp).1
          · exact n3 r (List.mem_of_getElem? hp)
        · have hrl : r.length = sizeT P e := by
            rw [splice_get _ _ _ (by omega)] at hp
            split at hp
            · exact (hrel _ r hp).1
            · exact n3 r (List.mem_of_getElem? hp)
          have hjl : j < sizeT P e := by rw [← hrl]; exact (List.getElem?_eq_some_iff.1 hj).1
          have hpl : p < rows.length := by
            have := (List.getElem?_eq_some_iff.1 hp).1
            rw [splice_length _ _ _ (by omega)] at this; exact this
          have hpos' := hlt p j hpl hjl
          simp only [List.getElem?_toArray]
          have hsp : ca.toList.take (off * lg.sz + len * i.size) ++ news ++ ca.toList.drop (off * lg.sz + len * i.size + news.length) = splice ca.toList (off * lg.sz + len * i.size) news := rfl
          rw [hsp, splice_get _ _ _ (by simp; rw [n2, hsi, hnl]; omega)]
          rw [splice_get _ _ _ (by omega)] at hp
          rw [n2, hsi, hnl, ← Nat.add_mul]
          by_cases hin : off + len ≤ p ∧ p < off + len + ys.length
          · rw [if_pos hin] at hp
            obtain ⟨u, h1, h2⟩ := (hrel _ r hp).2 j v hj
            have hge : (off + len) * sizeT P e ≤ p * sizeT P e := Nat.mul_le_mul_right _ hin.1
            have hle2 : (p + 1) * sizeT P e ≤ (off + len + ys.length) * sizeT P e := Nat.mul_le_mul_right _ (by omega)
            rw [Nat.add_mul, Nat.add_mul (off + len)] at hle2
            rw [if_pos ⟨by omega, by omega⟩]
            refine ⟨u, ?_, hn1 u (List.mem_of_getElem? h1), h2⟩
            rw [Nat.sub_mul] at h1
            rw [show p * sizeT P e + j - (off + len) * sizeT P e = p * sizeT P e - (off + len) * sizeT P e + j by omega]
            exact h1
          · rw [if_neg hin] at hp
            obtain ⟨u, h1, h2, h3⟩ := hcells p r j v hp hj
            refine ⟨u, ?_, h2, h3⟩
            rw [if_neg]
            · simpa using h1
            · intro hx
              rcases Nat.lt_or_ge p (off + len) with hlt' | hge'
              · have := Nat.mul_le_mul_right (sizeT P e) (show p + 1 ≤ off + len by omega)
                rw [Nat.add_mul] at this; omega
              · have := Nat.mul_le_mul_right (sizeT P e) (show off + len + ys.length ≤ p by omega)
                rw [Nat.add_mul (off + len)] at this; omega
    · cases hA

end Go.PM

set_option linter.unusedSectionVars false
namespace Go.PM
variable [LoopCodes]
variable {R : Type} {P : Program}

/-! ### struct and array literals -/
theorem mapM_places (w : World) : ∀ (l : List Field), (∀ f ∈ l, (P.info? f.type).isSome = true) →
    (l.mapM (m := Sem) fun f => do pure (f.offset, ← sizeOf f.type)).run P w = .ok (l.map fun f => (f.offset, sizeT P f.type)) w
  | [], _ => by simp
  | f :: l, h => by
    have ih := mapM_places w l (fun g hg => h g (List.mem_cons_of_mem _ hg))
    have hf := h f (by simp)
    cases hi : P.info? f.type with
    | none => simp [hi] at hf
    | some i =>
      have hs : (sizeOf f.type).run P w = .ok (sizeT P f.type) w := by simp [sizeOf, typeInfo, hi, sizeT]
      simp only [List.mapM_cons, Sem.run_bind, hs, Result.andThen_ok, Sem.run_pure, ih, List.map_cons]

theorem parts_rel {E : Entry} {m : Mem} {g : Gh} {st : St} {a : Act} {w : World} (h : SRel E m g st a w) (l : List (Nat × Operand)) :
    ∀ (i : Nat) (p : Nat × PV) (q : Nat × Value), (parts st l)[i]? = some p → (l.map fun x => (x.1, a.eval x.2))[i]? = some q → q.1 = p.1 ∧ PVR m g p.2 q.2 := fun i p q hp hq => by
  simp only [parts, List.getElem?_map] at hp hq
  cases hx : l[i]? with
  | none => simp [hx] at hp
  | some x =>
    simp [hx] at hp hq
    subst hp; subst hq
    exact ⟨rfl, h.ev x.2⟩

theorem buildK_some {E : Entry} {m : Mem} {g : Gh} {st : St} {a : Act} {w : World} (hs : SRel E m g st a w) {t : TypeId} {ps : Array (Nat × Operand)} {K : PV → Option R} {r : R} (hok : fieldsOKb P t = true)
    (h : zeroT P t (fun z => fillK P t (z.map .ro) (parts st ps.toList) fun cs => mkAgg cs K) = some r) :
    ∃ v c, K v = some r ∧ (Instr.build t (ps.map fun (i, x) => (i, a.eval x))).run P w = .ok c w ∧ PVR m g v c := by
  obtain ⟨z, zv, i, h1, hi, hz, e1, e2, e3, e4⟩ := zeroT_some h
  have hqs : (ps.map fun (x : Nat × Operand) => (x.1, a.eval x.2)).toList = ps.toList.map fun x => (x.1, a.eval x.2) := by simp
  have fin : ∀ {place : Nat → Option (Nat × Nat)}, (∀ i x, fillOffs P t i = some x → place i = some x) → ∃ v c, K v = some r ∧ PVR m g v (.agg c) ∧ Instr.fill place zv.cells (ps.toList.map fun x => (x.1, a.eval x.2)) = some c := fun {place} hp => by
    obtain ⟨out, k1, k2, k3⟩ := fillK_some hp h1
    obtain ⟨v, k4, k5⟩ := mkAgg_some k1
    obtain ⟨cs', f1, f2, f3, f4⟩ := k3 m g zv.cells (ps.toList.map fun x => (x.1, a.eval x.2)) (by simp [e1, e2]) e3 (fun j s u x y => listR_cells (e4 m) j s u x (by simpa using y)) (by simp [parts]) (parts_rel hs ps.toList)
    refine ⟨v, cs', k4, ?_, f1⟩
    have := k5 m g cs'.toList (by simp [f2, k2, e1, e2]) (by simpa using f3) (fun j s u x y => f4 j s u x (by simpa using y))
    simpa using this
  unfold fieldsOKb at hok
  split at hok
  · rename_i fs hd
    obtain ⟨v, c, k1, k2, k3⟩ := fin (place := fun i => (fs.map fun f => (f.offset, sizeT P f.type))[i]?) (fun i x hx => by
      simp only [fillOffs, hd] at hx
      split at hx
      · rename_i fd hfd
        cases hx
        simp [hfd]
      · cases hx)
    refine ⟨v, _, k1, ?_, k2⟩
    have hm := mapM_places (P := P) w fs.toList (fun f hf => by
      have := List.all_eq_true.1 hok f hf
      exact this)
    have hm' : (fs.mapM (m := Sem) fun f => do pure (f.offset, ← sizeOf f.type)).run P w = .ok (fs.map fun f => (f.offset, sizeT P f.type)) w := by
      rw [Array.mapM_eq_mapM_toList]
      simp only [Sem.run_map, hm, Result.andThen_ok]
      congr 1
      apply Array.ext'; simp
    simp only [Instr.build, zeroValue, typeInfo, Sem.run_bind, run_program, Result.andThen_ok, hi, Sem.run_pure, hz, run_underlying hd, hm']
    rw [show (ps.map fun (x : Nat × Operand) => (x.1, a.eval x.2)).toList = ps.toList.map fun x => (x.1, a.eval x.2) from hqs, k3]
    rfl
  · rename_i n e hd
    have hie : ∃ j, P.info? e = some j := by
      cases hj : P.info? e with
      | none => rw [hj] at hok; cases hok
      | some j => exact ⟨j, rfl⟩
    obtain ⟨j, hj⟩ := hie
    have hs' : (sizeOf e).run P w = .ok (sizeT P e) w := by simp [sizeOf, typeInfo, hj, sizeT]
    obtain ⟨v, c, k1, k2, k3⟩ := fin (place := fun i => some (i * sizeT P e, sizeT P e)) (fun i x hx => by
      simp only [fillOffs, hd] at hx
      exact hx)
    refine ⟨v, _, k1, ?_, k2⟩
    simp only [Instr.build, zeroValue, typeInfo, Sem.run_bind, run_program, Result.andThen_ok, hi, Sem.run_pure, hz, run_underlying hd, hs']
    rw [show (ps.map fun (x : Nat × Operand) => (x.1, a.eval x.2)).toList = ps.toList.map fun x => (x.1, a.eval x.2) from hqs, k3]
    rfl
  · cases hok

/-! ### slice literals -/
theorem flatten_replicate_get {α : Type} (l : List α) (hl : 0 < l.length) : ∀ (n p : Nat), p < n * l.length → ((List.replicate n l).flatten)[p]? = l[p % l.length]?
  | 0, p, h => by omega
  | n + 1, p, h => by
    rw [List.replicate_succ, List.flatten_cons]
    by_cases hp : p < l.length
    · rw [List.getElem?_append_left hp, Nat.mod_eq_of_lt hp]
    · rw [List.getElem?_append_right (by omega), flatten_replicate_get l hl n (p - l.length) (by rw [Nat.add_mul] at h; omega)]
      rw [← Nat.mod_eq_sub_mod (by omega)]

theorem chop_length (sz : Nat) : ∀ (n : Nat) (l : List RV), (chop sz n l).length = n
  | 0, _ => rfl
  | n + 1, l => by simp [chop, chop_length sz n]

theorem chop_get (sz : Nat) : ∀ (n : Nat) (l : List RV) (i : Nat), i < n → (chop sz n l)[i]? = some ((l.drop (i * sz)).take sz)
  | n + 1, l, 0, _ => by simp [chop]
  | n + 1, l, i + 1, h => by
    simp only [chop, List.getElem?_cons_succ]
    rw [chop_get sz n _ i (by omega), List.drop_drop, Nat.add_mul, Nat.one_mul, Nat.add_comm]

theorem rowsOK_spec {sz : Nat} : ∀ {rows : List (List RV)}, rowsOK sz rows = true → ∀ r ∈ rows, r.length = sz
  | [], _, r, hr => by cases hr
  | x :: rows, h, r, hr => by
    simp only [rowsOK, Bool.and_eq_true, beq_iff_eq] at h
    rcases List.mem_cons.1 hr with rfl | hr
    · exact h.1
    · exact rowsOK_spec h.2 r hr

/-- The cells behind the rows. -/
theorem chop_cell {sz n : Nat} {vs : List RV} {i j : Nat} {row : List RV} {v : RV} (hr : (chop sz n vs)[i]? = some row) (hv : row[j]? = some v) : vs[i * sz + j]? = some v ∧ j < sz := by
  have hi : i < n := by have := (List.getElem?_eq_some_iff.1 hr).1; rwa [chop_length] at this
  rw [chop_get sz n vs i hi] at hr
  cases hr
  rw [List.getElem?_take] at hv
  split at hv
  · rename_i hj
    rw [List.getElem?_drop] at hv
    exact ⟨hv, hj⟩
  · cases hv

theorem zeroFill_size (z : Array Value) (n : Nat) : ((Array.range n).map (z[· % z.size]!)).size = n := by simp
theorem zeroFill_get (z : Array Value) (n p : Nat) (hp : p < n) (hz : 0 < z.size) : ((Array.range n).map (z[· % z.size]!))[p]? = z[p % z.size]? := by
  have h : p % z.size < z.size := Nat.mod_lt _ hz
  simp [hp, h]

theorem buildSlice_core {E : Entry} {m : Mem} {g : Gh} {st : St} {a : Act} {w : World} (hs : SRel E m g st a w) {t e : TypeId} (hd : P.underlying t = some (.slice e)) {len : Nat} (hlen : len ≠ 0) {ps : Array (Nat × Operand)}
    {K : List RV → Option R} {r : R} (hb : len * sizeT P e ≤ 16777216) (hp : 0 < sizeT P e)
    (h : zeroT P e (fun z => fillK P t ((List.replicate len (z.map SV.ro)).flatten) (parts st ps.toList) fun cs => sealAll cs K) = some r) :
    ∃ vs cs, K vs = some r ∧ vs.length = len * sizeT P e ∧ cs.size = vs.length ∧ (∀ u ∈ cs, u.oneCell' = true) ∧ (∀ (i : Nat) (v : RV) (u : Value), vs[i]? = some v → cs[i]? = some u → VRr m v u) ∧
      (Instr.buildSlice t len (ps.map fun (i, x) => (i, a.eval x))).run P w = .ok (.slice (some ⟨w.heap.size, 0, none⟩) len len) (w.alloc (.cells cs e)) := by
  obtain ⟨z, zv, i, h1, hi, hz, e1, e2, e3, e4⟩ := zeroT_some h
  have hsz : sizeT P e = i.size := by simp [sizeT, hi]
  have hqs : (ps.map fun (x : Nat × Operand) => (x.1, a.eval x.2)).toList = ps.toList.map fun x => (x.1, a.eval x.2) := by simp
  obtain ⟨out, k1, k2, k3⟩ := fillK_some (P := P) (t := t) (place := fun i => some (i * sizeT P e, sizeT P e)) (fun i x hx => by
      simp only [fillOffs, hd] at hx
      exact hx) h1
  obtain ⟨vs, k4, k5, k6⟩ := sealAll_some k1
  have hinit : ((List.replicate len (z.map SV.ro)).flatten).length = len * sizeT P e := by simp [e2, hsz]
  obtain ⟨cs', f1, f2, f3, f4⟩ := k3 m g ((Array.range (len * sizeT P e)).map (zv.cells[· % zv.cells.size]!)) (ps.toList.map fun x => (x.1, a.eval x.2)) (by rw [zeroFill_size, hinit])
    (fun u hu => by
      obtain ⟨p, hp'⟩ := Array.getElem?_of_mem hu
      have hlt : p < len * sizeT P e := by have := (Array.getElem?_eq_some_iff.1 hp').1; rwa [zeroFill_size] at this
      rw [zeroFill_get _ _ _ hlt (by omega)] at hp'
      exact e3 u (Array.mem_of_getElem? hp'))
    (fun p s u x y => by
      have hlt : p < len * sizeT P e := by have := (List.getElem?_eq_some_iff.1 x).1; rwa [hinit] at this
      rw [flatten_replicate_get _ (by simp; omega) _ _ (by simp only [List.length_map, e2]; rw [← hsz]; exact hlt)] at x
      rw [zeroFill_get _ _ _ hlt (by omega)] at y
      simp only [List.length_map, e2] at x
      rw [e1] at y
      exact listR_cells (e4 m) _ s u x (by simpa using y))
    (by simp [parts]) (parts_rel hs ps.toList)
  refine ⟨vs, cs', k4, by rw [k5, k2, hinit], by rw [f2, zeroFill_size, k5, k2, hinit], f3, fun j v u x y => ?_, ?_⟩
  · have hj : j < out.length := by rw [← k5]; exact (List.getElem?_eq_some_iff.1 x).1
    have hs0 := List.getElem?_eq_getElem hj
    exact k6 m g j _ v u hs0 x (f4 j _ u hs0 y)
  · have hne : len * i.size ≠ 0 := by rw [← hsz]; exact Nat.mul_ne_zero hlen (by omega)
    have hle : ¬ (16777216 < len * i.size) := by rw [← hsz]; omega
    have hs' : (sizeOf e).run P w = .ok i.size w := by simp [sizeOf, typeInfo, hi]
    rw [hsz] at f1
    simp [Instr.buildSlice, zeroValue, typeInfo, run_underlying hd, hs', hi, hz, hne, hle]
    rw [f1]
    simp [newRow]

/-- A row literal that nobody writes. -/
theorem buildSliceRo_out {E : Entry} {m : Mem} {g : Gh} {fr : Frames} {w : World} (hf : FRel E m g fr w) {e : TypeId} {s : Sem Value} {len sz : Nat} {vs : List RV} {cs : Array Value} {K : PV → Frames → Option R} {r : R}
    (hl : vs.length = len * sz) (hc : cs.size = vs.length) (h1 : ∀ u ∈ cs, u.oneCell' = true) (hr : ∀ (i : Nat) (v : RV) (u : Value), vs[i]? = some v → cs[i]? = some u → VRr m v u)
    (hrun : s.run P w = .ok (.slice (some ⟨w.heap.size, 0, none⟩) len len) (w.alloc (.cells cs e))) (hok : rowsOK sz (chop sz len vs) = true) (hK : K (.ro (.vsl sz (chop sz len vs))) fr = some r) : Out P E m g K r s w := by
  obtain ⟨m', f, hle, hm⟩ := hf.seal cs e
  refine ⟨_, _, m', g, _, _, hrun, hK, ?_, f, hle, Gh.le_refl _⟩
  simp only [PVR, SVR, VRr]
  refine ⟨⟨w.heap.size, 0, none⟩, len, by rw [chop_length], Nat.le_of_eq (chop_length _ _ _), fun _ => rfl, RowsR.of_get fun i row hi => ⟨rowsOK_spec hok row (List.mem_of_getElem? hi), RowR.of_get fun j v hj => ?_⟩⟩
  obtain ⟨hv, _⟩ := chop_cell hi hj
  have hlt := (List.getElem?_eq_some_iff.1 hv).1
  have hu : cs[i * sz + j]? = some _ := Array.getElem?_eq_getElem (by omega)
  refine ⟨_, ?_, h1 _ (Array.mem_of_getElem? hu), VRr.mono hle _ _ (hr _ v _ hv hu)⟩
  simp only [Nat.zero_add]
  rw [hm]; exact hu

theorem buildSliceLoc_out {E : Entry} {m : Mem} {g : Gh} {fr : Frames} {w : World} (hf : FRel E m g fr w) {e : TypeId} {s : Sem Value} {len sz ix : Nat} {vs : List RV} {cs : Array Value} {K : PV → Frames → Option R} {r : R}
    (hl : vs.length = len * sz) (hc : cs.size = vs.length) (h1 : ∀ u ∈ cs, u.oneCell' = true) (hr : ∀ (i : Nat) (v : RV) (u : Value), vs[i]? = some v → cs[i]? = some u → VRr m v u)
    (hrun : s.run P w = .ok (.slice (some ⟨w.heap.size, 0, none⟩) len len) (w.alloc (.cells cs e))) (hok : rowsOK sz (chop sz len vs) = true)
    (hK : allocK fr ix (.arr sz (chop sz len vs)) (fun fr' => K (.s (.sl 0 ix 0 len)) fr') = some r) : Out P E m g K r s w := by
  obtain ⟨loc, up, rfl, hix, hK⟩ := allocK_some hK
  obtain ⟨g', f, hle, hv⟩ := hf.newArr (w' := w.alloc (.cells cs e)) hix (sz := sz) (cap := len) (rows := chop sz len vs) (heap_alloc_new w _) rfl rfl rfl (by simp) (fun b hb => heap_alloc_old w _ b hb)
    (fun row hrow => rowsOK_spec hok row hrow) (by rw [chop_length]; exact Nat.le_refl _) (fun i row j v hi hj => by
      obtain ⟨hv, _⟩ := chop_cell hi hj
      have hlt := (List.getElem?_eq_some_iff.1 hv).1
      have hu : cs[i * sz + j]? = some _ := Array.getElem?_eq_getElem (by omega)
      exact ⟨_, hu, h1 _ (Array.mem_of_getElem? hu), hr _ v _ hv hu⟩)
  rw [chop_length] at hv
  exact ⟨_, _, m, g', _, _, hrun, hK, hv, f, Mem.le_refl _, hle⟩

/-! ### make of a slice -/
theorem makeSlice_out {E : Entry} {m : Mem} {g : Gh} {fr : Frames} {w : World} (hf : FRel E m g fr w) {t e : TypeId} (hd : P.underlying t = some (.slice e)) {n : Int} {k k' : IntKind} {ix : Nat} {K : PV → Frames → Option R} {r : R}
    (h0 : 0 ≤ n) (h1 : n ≤ 1099511627776) (hb : n.toNat * bytesT P e ≤ 140737488355328) (hp : 0 < sizeT P e)
    (h : zeroT P e (fun z => allocK fr ix (.arr (sizeT P e) (List.replicate n.toNat z)) fun fr' => K (.s (.sl 0 ix 0 n.toNat)) fr') = some r) :
    Out P E m g K r (Instr.makeSlice t (.int k n) (.int k' n)) w := by
  obtain ⟨z, zv, i, h2, hi, hz, e1, e2, e3, e4⟩ := zeroT_some h
  obtain ⟨loc, up, rfl, hix, hK⟩ := allocK_some h2
  have hsz : sizeT P e = i.size := by simp [sizeT, hi]
  have hby : bytesT P e = i.bytes := by simp [bytesT, hi]
  obtain ⟨p, rfl⟩ := Int.eq_ofNat_of_zero_le h0
  simp only [Int.toNat_natCast] at hb hK
  rw [hby] at hb
  have hw : IntKind.i64.wrap (p : Int) = p := IntWalk.i64_in _ ⟨by omega, by omega⟩
  let cs : Array Value := (Array.range (p * i.size)).map (zv.cells[· % zv.cells.size]!)
  have hcs : ∀ q u, cs[q]? = some u → q < p * i.size ∧ zv.cells[q % i.size]? = some u := fun q u hu => by
    have hlt : q < p * i.size := by have := (Array.getElem?_eq_some_iff.1 hu).1; rwa [zeroFill_size] at this
    rw [show cs = (Array.range (p * i.size)).map (zv.cells[· % zv.cells.size]!) from rfl, zeroFill_get _ _ _ hlt (by omega), e1] at hu
    exact ⟨hlt, hu⟩
  obtain ⟨g', f, hle, hv⟩ := hf.newArr (w' := w.alloc (.cells cs e)) hix (sz := sizeT P e) (cap := p) (rows := List.replicate p z) (heap_alloc_new w _) rfl rfl rfl (by simp) (fun b hb => heap_alloc_old w _ b hb)
    (fun row hrow => by rw [List.eq_of_mem_replicate hrow, e2, hsz]) (by simp) (fun q row j v hq hj => by
      have hrow := List.eq_of_mem_replicate (List.mem_of_getElem? hq)
      subst hrow
      have hqp : q < p := by have := (List.getElem?_eq_some_iff.1 hq).1; simpa using this
      have hjl : j < i.size := by rw [← e2]; exact (List.getElem?_eq_some_iff.1 hj).1
      obtain ⟨u, hu, hr⟩ := (e4 m).get hj
      have hlt : q * i.size + j < p * i.size := by
        have := Nat.mul_le_mul_right i.size (show q + 1 ≤ p by omega)
        rw [Nat.add_mul] at this; omega
      have hmod : (q * i.size + j) % i.size = j := by rw [Nat.add_comm, Nat.add_mul_mod_self_right, Nat.mod_eq_of_lt hjl]
      have hu' : zv.cells[j]? = some u := by simpa using hu
      refine ⟨u, ?_, e3 u (Array.mem_of_getElem? hu'), hr⟩
      rw [hsz, show cs = (Array.range (p * i.size)).map (zv.cells[· % zv.cells.size]!) from rfl, zeroFill_get _ _ _ hlt (by omega), e1, hmod]
      exact hu')
  simp only [List.length_replicate] at hv
  refine ⟨_, _, m, g', _, _, ?_, hK, hv, f, Mem.le_refl _, hle⟩
  have hbig : ¬ (281474976710656 < (i.bytes : Int) * (p : Int)) := by
    have : i.bytes * p ≤ 140737488355328 := by rw [Nat.mul_comm]; exact hb
    have h2 : ((i.bytes * p : Nat) : Int) ≤ 140737488355328 := by omega
    rw [Int.natCast_mul] at h2
    omega
  have hs' : (sizeOf e).run P w = .ok i.size w := by simp [sizeOf, typeInfo, hi]
  have hneg : ¬ ((p : Int) < 0) := by omega
  have hbig' : ((i.bytes : Int) * (p : Int)) ≤ 281474976710656 := by omega
  rcases Nat.eq_zero_or_pos (p * i.size) with hz0 | hz0
  · have hcs0 : cs = #[] := Array.eq_empty_of_size_eq_zero (by show ((Array.range (p * i.size)).map _).size = 0; rw [zeroFill_size]; exact hz0)
    simp [Instr.makeSlice, asInt, asIntOf, run_underlying hd, typeInfo, hi, hw, hbig, hbig', hneg, hs', hz0, newRow, hcs0, show Array.range 0 = #[] from rfl]
  · have hne : ¬ (p * i.size = 0) := by omega
    simp [Instr.makeSlice, asInt, asIntOf, run_underlying hd, typeInfo, hi, hw, hbig, hbig', hneg, hs', hne, newRow, zeroValue, hz]
    rfl

end Go.PM

set_option linter.unusedSectionVars false
namespace Go.PM
variable [LoopCodes]
variable {R : Type} {P : Program}

theorem bytes_beq {a b : ByteArray} : (a == b) = true ↔ a = b := by
  show ByteArray.beq a b = true ↔ a = b
  unfold ByteArray.beq
  rw [beq_iff_eq]
  cases a; cases b
  simp

theorem run_getObj_at {w : World} {r : Nat} {o : Obj} (h : w.heap[r]? = some o) (hn : ∀ c e f, o ≠ .cells c e f := by (intros; intro h; cases h)) : (getObj r).run P w = .ok o w := by
  cases o <;> simp_all [getObj, Sem.run]
theorem run_setObj_in {w : World} {r : Nat} {o : Obj} (h : w.heap[r]? = some o) (o' : Obj) (hn : ∀ c e f, o ≠ .cells c e f := by (intros; intro h; cases h)) : (setObj r o').run P w = .ok () { w with heap := w.heap.setIfInBounds r o' } := by
  cases o <;> simp_all [setObj, Sem.run]

theorem keyOK_spec {t : TypeId} {key : RV} (h : keyOK P t key = true) : ∃ d, P.underlying t = some d ∧ ((∃ k n, d = .int k ∧ key = .int k n) ∨ (∃ s, d = .string ∧ key = .str s) ∨ (∃ b, d = .bool ∧ key = .bool b)) := by
  unfold keyOK at h
  split at h
  · rename_i k k' n hd
    have hk : k = k' := by simpa using h
    subst hk
    exact ⟨_, hd, .inl ⟨k, n, rfl, rfl⟩⟩
  · rename_i s hd; exact ⟨_, hd, .inr (.inl ⟨s, rfl, rfl⟩)⟩
  · rename_i b hd; exact ⟨_, hd, .inr (.inr ⟨b, rfl, rfl⟩)⟩
  · cases h

theorem sameKey_rel {m : Mem} {t : TypeId} {d : TypeDesc} {key : RV} (hk : keyOK P t key = true) (hd : P.underlying t = some d) {e : RV} {ck ce : Value} (h1 : VRr m key ck) (h2 : VRr m e ce) {b : Bool}
    (h : sameKey key e = some b) : Instr.sameNow d ck ce = some b := by
  obtain ⟨d', hd', hc⟩ := keyOK_spec hk
  rw [hd] at hd'; cases hd'
  rcases hc with ⟨k, n, rfl, rfl⟩ | ⟨s, rfl, rfl⟩ | ⟨x, rfl, rfl⟩
  · cases e <;> simp only [sameKey] at h <;> try cases h
    rename_i k' n'
    simp only [VRr] at h1 h2
    subst h1; subst h2
    split at h
    · rename_i hkk
      have hkk' : k = k' := by simpa using hkk
      subst hkk'
      cases h
      simp [Instr.sameNow]
    · cases h
  · cases e <;> simp only [sameKey] at h <;> try cases h
    simp only [VRr] at h1 h2
    subst h1; subst h2
    rfl
  · cases e <;> simp only [sameKey] at h <;> try cases h
    simp only [VRr] at h1 h2
    subst h1; subst h2
    rfl

theorem sameKey_bits {m : Mem} {t : TypeId} {key : RV} (hk : keyOK P t key = true) {e : RV} {ck ce : Value} (h1 : VRr m key ck) (h2 : VRr m e ce)
    (h : sameKey key e = some true) : ∀ n, Instr.sameBits n ce ck = true := by
  obtain ⟨d', hd', hc⟩ := keyOK_spec hk
  intro N
  rcases hc with ⟨k, n, rfl, rfl⟩ | ⟨s, rfl, rfl⟩ | ⟨x, rfl, rfl⟩
  · cases e <;> simp only [sameKey] at h <;> try cases h
    rename_i k' n'
    simp only [VRr] at h1 h2
    subst h1; subst h2
    split at h
    · rename_i hkk
      have hkk' : k = k' := by simpa using hkk
      subst hkk'
      have : n = n' := by simpa using h
      subst this
      simp [Instr.sameBits]
    · cases h
  · cases e <;> simp only [sameKey] at h <;> try cases h
    rename_i s'
    simp only [VRr] at h1 h2
    subst h1; subst h2
    have : s = s' := bytes_beq.1 (by simpa using h)
    subst this
    simp only [Instr.sameBits]
    exact bytes_beq.2 rfl
  · cases e <;> simp only [sameKey] at h <;> try cases h
    rename_i s'
    simp only [VRr] at h1 h2
    subst h1; subst h2
    have : x = s' := by simpa using h
    subst this
    simp [Instr.sameBits]

theorem findE_rel {m : Mem} {d : TypeDesc} {key : RV} {ck : Value} (hs : ∀ e ce b, VRr m e ce → sameKey key e = some b → Instr.sameNow d ck ce = some b) :
    ∀ (es : List (RV × RV)) (ents : List MapEntry) (i : Nat), ents.length = es.length → (∀ (j : Nat) (e : RV × RV) (x : MapEntry), es[j]? = some e → ents[j]? = some x → VRr m e.1 x.key ∧ VRr m e.2 x.val) →
    ∀ o, findE key es i = some o →
      (o = none ∧ Instr.findNow d ck ents i = some none) ∨
      (∃ j e x, o = some (i + j, e.2) ∧ Instr.findNow d ck ents i = some (some (i + j, x.val)) ∧ es[j]? = some e ∧ ents[j]? = some x ∧ sameKey key e.1 = some true)
  | [], [], i, _, _, o, h => by
    simp only [findE] at h; cases h
    exact .inl ⟨rfl, rfl⟩
  | [], x :: _, i, hl, _, o, h => by simp at hl
  | e :: es, [], i, hl, _, o, h => by simp at hl
  | e :: es, x :: ents, i, hl, hr, o, h => by
    have h0 := hr 0 e x (by simp) (by simp)
    simp only [findE] at h
    split at h
    · rename_i hb
      cases h
      refine .inr ⟨0, e, x, rfl, ?_, by simp, by simp, hb⟩
      simp [Instr.findNow, hs _ _ _ h0.1 hb]
    · rename_i hb
      have := findE_rel hs es ents (i + 1) (by simpa using hl) (fun j e' x' a b => hr (j + 1) e' x' (by simpa using a) (by simpa using b)) o h
      rcases this with ⟨rfl, h2⟩ | ⟨j, e', x', rfl, h2, h3, h4, h5⟩
      · refine .inl ⟨rfl, ?_⟩
        simp [Instr.findNow, hs _ _ _ h0.1 hb, h2]
      · refine .inr ⟨j + 1, e', x', by rw [Nat.add_assoc, Nat.add_comm 1], ?_, by simpa using h3, by simpa using h4, h5⟩
        simp [Instr.findNow, hs _ _ _ h0.1 hb, h2]
        omega
    · cases h

theorem checkKey_run {m : Mem} {t : TypeId} {key : RV} (hk : keyOK P t key = true) {ck : Value} (h1 : VRr m key ck) (em : Bool) (n : Nat) (w : World) : (Instr.checkKey em (n + 1) t ck).run P w = .ok () w := by
  obtain ⟨d', hd', hc⟩ := keyOK_spec hk
  rcases hc with ⟨k, n, rfl, rfl⟩ | ⟨s, rfl, rfl⟩ | ⟨x, rfl, rfl⟩ <;> simp only [VRr] at h1 <;> subst h1 <;> simp [Instr.checkKey, run_underlying hd']

theorem lookup_run {m : Mem} {g : Gh} {fr : Frames} {w : World} (hp : PRel m g fr w) {t kt et : TypeId} (hd : P.underlying t = some (.map kt et)) {d k : Nat} {es : List (RV × RV)} (hlb : lbAt fr d k = .map es) {c ck : Value} {key : RV}
    (hc : PVR m g (.s (.mp d k)) c) (hk : keyOK P kt key = true) (h1 : VRr m key ck) (ok : Bool) {o : Option (Nat × RV)} (ho : findE key es 0 = some o) :
    (∃ i v u, o = some (i, v) ∧ VRr m v u ∧ (Instr.lookup t c ck ok).run P w = .ok (if ok then .tuple #[u, .bool true] else u) w) ∨
    (o = none ∧ ∀ z w', (zeroValue et).run P w = .ok z w' → (Instr.lookup t c ck ok).run P w = .ok (if ok then .tuple #[z, .bool false] else z) w') := by
  obtain ⟨_, l, hg, hr⟩ := lbAt_blk hp hlb (by simp)
  obtain ⟨ents, clock, hh, hsz, hrel⟩ := hr
  obtain ⟨l', hg', rfl⟩ := hc
  rw [hg] at hg'; cases hg'
  obtain ⟨dk, hdk, _⟩ := keyOK_spec hk
  have hf := findE_rel (m := m) (d := dk) (key := key) (ck := ck) (fun e ce b a b' => sameKey_rel hk hdk h1 a b') es ents.toList 0 (by simpa using hsz) (fun j e x a b => hrel j e x a (by simpa using b)) o ho
  have hck := fun em => checkKey_run hk h1 em 9999 w
  rcases hf with ⟨rfl, h2⟩ | ⟨j, e, x, rfl, h2, h3, h4, h5⟩
  · refine .inr ⟨rfl, fun z w' hz => ?_⟩
    simp [Instr.lookup, run_underlying hd, run_getObj_at hh, hck, Instr.findKey, run_underlying hdk, h2, hz]
  · refine .inl ⟨0 + j, e.2, x.val, rfl, (hrel j e x h3 (by simpa using h4)).2, ?_⟩
    simp only [Nat.zero_add] at h2
    simp [Instr.lookup, run_underlying hd, run_getObj_at hh, hck, Instr.findKey, run_underlying hdk, h2]

theorem zeroT_one {t : TypeId} {v : RV} {K : List RV → Option R} {r : R} (h : zeroT P t K = some r) : True := trivial

theorem mapUpdate_run {E : Entry} {m : Mem} {g : Gh} {fr : Frames} {w : World} (hf : FRel E m g fr w) {t kt et : TypeId} (hd : P.underlying t = some (.map kt et)) {d k : Nat} {es : List (RV × RV)} (hlb : lbAt fr d k = .map es) {c ck cv : Value} {key v : RV}
    (hc : PVR m g (.s (.mp d k)) c) (hk : keyOK P kt key = true) (h1 : VRr m key ck) (hv : VRr m v cv) {o : Option (Nat × RV)} (ho : findE key es 0 = some o) :
    ∃ w', (Instr.mapUpdate t c ck cv).run P w = .ok () w' ∧ FRel E m g (setAt fr d k (.map (match o with | some (i, _) => es.modify i fun _ => (key, v) | none => es ++ [(key, v)]))) w' := by
  obtain ⟨hlb', l, hg, hr⟩ := lbAt_blk hf.p hlb (by simp)
  obtain ⟨ents, clock, hh, hsz, hrel⟩ := hr
  obtain ⟨l', hg', rfl⟩ := hc
  rw [hg] at hg'; cases hg'
  obtain ⟨dk, hdk, _⟩ := keyOK_spec hk
  have hfr := findE_rel (m := m) (d := dk) (key := key) (ck := ck) (fun e ce b a b' => sameKey_rel hk hdk h1 a b') es ents.toList 0 (by simpa using hsz) (fun j e x a b => hrel j e x a (by simpa using b)) o ho
  have hck := fun em => checkKey_run hk h1 em 9999 w
  have hlt := (Array.getElem?_eq_some_iff.1 hh).1
  have fin : ∀ (es' : List (RV × RV)) (ents' : Array MapEntry) (clock' : Nat), ents'.size = es'.length → (∀ (i : Nat) (e : RV × RV) (x : MapEntry), es'[i]? = some e → ents'[i]? = some x → VRr m e.1 x.key ∧ VRr m e.2 x.val) →
      FRel E m g (setAt fr d k (.map es')) { w with heap := w.heap.setIfInBounds l.b (.map ents' clock') } := fun es' ents' clock' e1 e2 =>
    hf.write hlb' hg rfl (.inl rfl) (fun _ _ h => by cases h) (fun _ _ h => by cases h) (by simp) rfl rfl rfl (by simp) (fun b hb => by simp [Array.getElem?_setIfInBounds, Ne.symm hb])
      ⟨ents', clock', by simp [Array.getElem?_setIfInBounds, hlt], e1, e2⟩
  rcases hfr with ⟨rfl, h2⟩ | ⟨j, e, x, rfl, h2, h3, h4, h5⟩
  · refine ⟨_, ?_, fin _ (ents.push { key := ck, val := cv, born := clock }) (clock + 1) (by simp [hsz]) fun i e x a b => ?_⟩
    · simp [Instr.mapUpdate, run_underlying hd, run_getObj_at hh, hck, Instr.findKey, run_underlying hdk, h2, run_setObj_in hh]
    · by_cases hi : i < es.length
      · rw [List.getElem?_append_left hi] at a
        rw [Array.getElem?_push_lt (by omega)] at b
        exact hrel i e x a (by rw [Array.getElem?_eq_getElem (by omega)]; exact b)
      · have hil := (List.getElem?_eq_some_iff.1 a).1
        simp at hil
        have : i = es.length := by omega
        subst this
        simp at a
        rw [← hsz] at b
        simp at b
        subst a; subst b
        exact ⟨h1, hv⟩
  · have hkeep : ∀ n, Instr.sameBits n x.key ck = true := sameKey_bits hk h1 (hrel j e x h3 (by simpa using h4)).1 h5
    have h4' : ents[j]? = some x := by simpa using h4
    refine ⟨_, ?_, fin _ (ents.modify j fun e => { e with key := ck, val := cv }) clock (by simp [hsz]) fun i e' x' a b => ?_⟩
    · simp only [Nat.zero_add] at h2
      simp [Instr.mapUpdate, run_underlying hd, run_getObj_at hh, hck, Instr.findKey, run_underlying hdk, h2, run_setObj_in hh, h4', Instr.keyThatStays, hkeep]
    · simp only [Nat.zero_add, List.getElem?_modify] at a
      simp only [Array.getElem?_modify] at b
      by_cases hij : j = i
      · subst hij
        simp [h3] at a
        simp [h4'] at b
        subst a; subst b
        exact ⟨h1, hv⟩
      · simp [hij] at a b
        exact hrel i e' x' a b

theorem makeMap_out {E : Entry} {m : Mem} {g : Gh} {fr : Frames} {w : World} (hf : FRel E m g fr w) {t : TypeId} {ix : Nat} {K : PV → Frames → Option R} {r : R}
    (h : allocK fr ix (.map []) (fun fr' => K (.s (.mp 0 ix)) fr') = some r) : Out P E m g K r (Instr.makeMap t none) w := by
  obtain ⟨loc, up, rfl, hix, hK⟩ := allocK_some h
  obtain ⟨gl, g0, rfl, hg0⟩ := hf.gt
  let l : LG := ⟨w.heap.size, 0, 0, fun _ => none⟩
  obtain ⟨f, hle⟩ := hf.alloc (w' := w.alloc (.map #[] 0)) (lb := .map []) (l := l) hix rfl rfl rfl (by simp) (fun b hb => heap_alloc_old w _ b hb)
    ⟨#[], 0, heap_alloc_new w _, rfl, fun i e x a b => by simp at a⟩ (fun b hb => by cases hb; exact Nat.le_refl _) (by simp)
  refine ⟨_, _, m, _, _, _, ?_, hK, ⟨l, by rw [gAt_setG, if_pos ⟨rfl, rfl⟩], rfl⟩, f, Mem.le_refl _, hle⟩
  simp [Instr.makeMap, l]

theorem range_out {E : Entry} {m : Mem} {g : Gh} {fr : Frames} {w : World} (hf : FRel E m g fr w) {t : TypeId} (hd : P.underlying t = some .string) {s : ByteArray} {ix : Nat} {K : PV → Frames → Option R} {r : R}
    (h : allocK fr ix (.iter s 0) (fun fr' => K (.s (.it ix)) fr') = some r) : Out P E m g K r (Instr.range t (.string s)) w := by
  obtain ⟨loc, up, rfl, hix, hK⟩ := allocK_some h
  obtain ⟨gl, g0, rfl, hg0⟩ := hf.gt
  let l : LG := ⟨w.heap.size, 0, 0, fun _ => none⟩
  obtain ⟨f, hle⟩ := hf.alloc (w' := w.alloc (.stringIter s 0)) (lb := .iter s 0) (l := l) hix rfl rfl rfl (by simp) (fun b hb => heap_alloc_old w _ b hb)
    (heap_alloc_new w _) (fun b hb => by cases hb; exact Nat.le_refl _) (by simp)
  refine ⟨_, _, m, _, _, _, ?_, hK, ⟨l, by rw [gAt_setG, if_pos ⟨rfl, rfl⟩], rfl⟩, f, Mem.le_refl _, hle⟩
  simp [Instr.range, run_underlying hd, l]

theorem next_out {E : Entry} {m : Mem} {g : Gh} {fr : Frames} {w : World} (hf : FRel E m g fr w) {t : TypeId} {k : Nat} {c : Value} (hc : PVR m g (.s (.it k)) c) {s : ByteArray} {pos : Nat} (hlb : lbAt fr 0 k = .iter s pos) {K : PV → Frames → Option R} {r : R}
    (h : (match Nat.blt pos s.size with
          | true => match Utf8.decode s pos with
            | (c, w) => K (.ro (.tup [.bool true, .int .i64 pos, .int .i32 c])) (setAt fr 0 k (.iter s (pos + w)))
          | false => K (.ro (.tup [.bool false])) fr) = some r) : Out P E m g K r (Instr.next c true t) w := by
  obtain ⟨hlb', l, hg, hr⟩ := lbAt_blk hf.p hlb (by simp)
  obtain ⟨l', hg', rfl⟩ := hc
  rw [hg] at hg'; cases hg'
  have hh : w.heap[l.b]? = some (.stringIter s pos) := hr
  have hlt := (Array.getElem?_eq_some_iff.1 hh).1
  split at h
  · rename_i hb
    have hb' : pos < s.size := by simpa using hb
    cases hd : Utf8.decode s pos with
    | mk cc wd =>
      rw [hd] at h
      refine ⟨.tuple #[.bool true, goInt pos, .int .i32 cc], _, m, g, _, _, ?_, h, ?_, hf.write (w' := { w with heap := w.heap.setIfInBounds l.b (.stringIter s (pos + wd)) }) hlb' hg rfl (.inl rfl) (fun _ _ h => by cases h) (fun _ _ h => by cases h) (by simp) rfl rfl rfl (by simp) (fun b hb => by simp [Array.getElem?_setIfInBounds, Ne.symm hb]) ?_, Mem.le_refl _, Gh.le_refl _⟩
      · simp [Instr.next, run_getObj_at hh, hb', hd, run_setObj_in hh]
      · simp [PVR, SVR, VRr, ListR, goInt]
      · show _ = _
        simp [Array.getElem?_setIfInBounds, hlt]
  · rename_i hb
    have hb' : ¬ pos < s.size := fun hc => by rw [← Nat.blt_eq] at hc; rw [hc] at hb; cases hb
    refine Out.still (c := .tuple #[.bool false]) ?_ h (by simp [PVR, SVR, VRr, ListR]) hf
    simp [Instr.next, run_getObj_at hh, hb']

end Go.PM
