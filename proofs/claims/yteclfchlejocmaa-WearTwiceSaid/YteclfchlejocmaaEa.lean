/-
  Two seasons take what one takes that takes both their spans, as far as nothing is gone below 0, and a season that takes nothing changes nothing, for every skin and any two seasons (statement WearTwice); this text is a part of that proof.
-/
import GoSem.Step
import Derived.Below
import Derived.RangeFuncIn
import Derived.RangeFuncRecord
import Derived.Laws.Cells
import Derived.Laws.CopyRow
import Derived.Laws.NewBlocks
import Derived.Laws.World
import Derived.Laws.StructEq
import Derived.Laws.ByValue
import Derived.Laws.Append
set_option linter.unusedVariables false
set_option linter.unusedVariables false
namespace Go.Ev
open Go

/-- The kind of a cell. -/
inductive CT where
  | int (k : IntKind)
  | bool
  | str
  | sl (e : TypeId)
  | oth
  deriving DecidableEq, Inhabited

/-- Values as the evaluator has them: 'rs': a slice that nobody writes any more, by its elements' cells; 'sl': a window of a row that may be written; 'p', 'rp': a place in such a row, in memory that nobody writes. -/
inductive AV where
  | b (x : Bool)
  | i (k : IntKind) (n : Int)
  | s (x : ByteArray)
  | nl
  | rs (e : TypeId) (es : List (List AV))
  | sl (id off len : Nat)
  | p (id i j : Nat)
  | rp (cts : List CT) (cs : List AV) (j : Nat)
  | np
  | fn (f : FuncId) (caps : List AV)
  | nf
  | yl (l : Nat)
  | ni
  | ifc (t : TypeId) (v : AV)
  | agg (cs : List AV)
  | tup (vs : List AV)
  /-- An empty slice that is not nil (full: nothing has room behind it). -/
  | e0 (full : Bool)
  /-- A value with a row that goes with it: its number there is 0. -/
  | ow (e : TypeId) (es : List (List AV)) (v : AV)
  | u
  deriving Inhabited

def toI : AV → Int | .i _ n => n | _ => 0
def toB : AV → Bool | .b x => x | _ => false
def toS : AV → ByteArray | .s x => x | _ => ⟨#[]⟩
def toE : AV → List (List AV) | .rs _ es => es | _ => []
def proj : CT → AV → AV
  | .int k, a => .i k (toI a)
  | .bool, a => .b (toB a)
  | .str, a => .s (toS a)
  | .sl e, a => .rs e (toE a)
  | .oth, a => a
def projs : List CT → List AV → Nat → List AV
  | [], _, _ => []
  | c :: r, cs, j => proj c (cs.getD j .u) :: projs r cs (j + 1)

inductive Blk where
  | row (e : TypeId) (es : List (List AV))
  /-- A row that may hold slices of rows. -/
  | lrow (e : TypeId) (es : List (List AV))
  | dead
  deriving Inhabited

structure St where
  t : List (Nat × AV)
  m : List (Nat × Blk)
  nx : Nat
  nt : Nat
  deriving Inhabited

def gt : List (Nat × AV) → Nat → AV
  | [], _ => .u
  | (j, v) :: r, i => cond (Nat.beq i j) v (gt r i)
def gm : List (Nat × Blk) → Nat → Blk
  | [], _ => .dead
  | (j, v) :: r, i => cond (Nat.beq i j) v (gm r i)
def St.put (st : St) (d : Option Nat) (v : AV) : St :=
  match d with
  | some d => { st with t := (d, v) :: st.t }
  | none => st
/-- What an operation does: the value that it yields, and a row that it makes or writes. -/
structure Eff where
  v : AV
  m : Option (Nat × Blk)
  deriving Inhabited
def St.mem (st : St) (id : Nat) (b : Blk) : St := { st with m := (id, b) :: st.m }

def St.app (st : St) (d : Option Nat) (e : Eff) : St :=
  (match e.m with
    | some (id, b) => st.mem id b
    | none => st).put d e.v

/-! ### Types -/
variable (P : Program)
def ctsOf : Nat → TypeId → List CT
  | 0, _ => []
  | d + 1, t => match P.underlying t with
    | some (.int k) => [.int k]
    | some .bool => [.bool]
    | some .string => [.str]
    | some (.slice e) => [.sl e]
    | some (.struct fs) => fs.toList.flatMap fun f => ctsOf d f.type
    | some (.array n e) => (List.replicate n (ctsOf d e)).flatten
    | some _ => [.oth]
    | none => []
def cts (t : TypeId) : List CT := ctsOf P 8 t
def isAgg (t : TypeId) : Bool := match P.underlying t with
  | some (.struct _) | some (.array _ _) => true
  | _ => false
def ctEq : CT → CT → Bool
  | .int k, .int k' => decide (k = k')
  | .bool, .bool => true
  | .str, .str => true
  | .sl e, .sl e' => Nat.beq e e'
  | .oth, .oth => true
  | _, _ => false
def ctsEq : List CT → List CT → Bool
  | [], [] => true
  | a :: x, b :: y => ctEq a b && ctsEq x y
  | _, _ => false
/-- Do the cells from j on have these kinds? (A row of one kind: wherever j is.) -/
def ctsAt (all : List CT) (j : Nat) (want : List CT) : Bool :=
  match want with
  | [c] => cond (all.all (ctEq c ·)) (Nat.blt j all.length) (ctsEq ((all.drop j).take 1) want)
  | _ => ctsEq ((all.drop j).take want.length) want
/-- A value of type t out of the cells from j on. -/
def mkV (t : TypeId) (cs : List AV) (j : Nat) : AV :=
  cond (isAgg P t) (.agg (projs (cts P t) cs j)) (proj ((cts P t).headD .oth) (cs.getD j .u))
/-- A type whose cells can be told. -/
def okT (t : TypeId) : Bool := Nat.beq (cts P t).length (P.cellsOf t) && Nat.blt 0 (P.cellsOf t) && (isAgg P t || Nat.beq (cts P t).length 1)
def fitC : CT → AV → Option AV
  | .int k, .i k' n => cond (decide (k = k')) (some (.i k n)) none
  | .bool, .b x => some (.b x)
  | .str, .s x => some (.s x)
  | .sl e, .rs e' es => cond (Nat.beq e e') (some (.rs e es)) none
  | .sl e, .nl => some (.rs e [])
  | .sl e, .e0 _ => some (.rs e [])
  | .oth, .fn f c => some (.fn f c)
  | .oth, .nf => some .nf
  | .oth, .yl l => some (.yl l)
  | .oth, .np => some .np
  | .oth, .p id i j => some (.p id i j)
  | .oth, .rp a c j => some (.rp a c j)
  | .oth, .ni => some .ni
  | _, _ => none
def fitCs : List CT → List AV → Option (List AV)
  | [], [] => some []
  | c :: x, a :: y => match fitC c a, fitCs x y with
    | some a', some y' => some (a' :: y')
    | _, _ => none
  | _, _ => none
/-- The same, where slices of rows may lie. -/
def fitO : CT → AV → Option AV
  | .sl _, .sl id off len => some (.sl id off len)
  | c, a => fitC c a
def fitOs : List CT → List AV → Option (List AV)
  | [], [] => some []
  | c :: x, a :: y => match fitO c a, fitOs x y with
    | some a', some y' => some (a' :: y')
    | _, _ => none
  | _, _ => none
def cellsOf : AV → List AV
  | .agg cs => cs
  | v => [v]
/-- A value as one of type t: a literal nil gets its element type. -/
def fitT (t : TypeId) (v : AV) : AV :=
  match v with
  | .nl => match P.underlying t with
    | some (.slice e) => .rs e []
    | _ => .nl
  | v => v
/-- The same, for what is handed on. -/
def fitA (t : TypeId) (v : AV) : AV :=
  match v with
  | .e0 f => match P.underlying t with
    | some (.slice e) => .rs e []
    | _ => .e0 f
  | v => fitT P t v
/-- Kinds of cells that lead to no memory that may be written. -/
def noOth : Nat → TypeId → Bool
  | 0, _ => false
  | d + 1, t => (cts P t).all fun c => match c with
    | .oth => false
    | .sl e => noOth d e
    | _ => true
def okc (d : Nat) (c : CT) : Bool := match c with
  | .oth => false
  | .sl e => noOth P d e
  | _ => true
mutual
/-- Values that lead to no row that may be written, but for those with numbers below nb. -/
def free (nb : Nat) : AV → Bool
  | .rs e _ => noOth P 8 e
  | .rp all cs _ => all.all (okc P 8) || freeL nb cs
  | .fn _ caps => freeL nb caps
  | .agg cs => freeL nb cs
  | .tup vs => freeL nb vs
  | .ifc _ v => free nb v
  | .sl id _ _ => Nat.blt id nb
  | .p id _ _ => Nat.blt id nb
  | .ow _ _ _ => false
  | .u => true
  | _ => true
def freeL (nb : Nat) : List AV → Bool
  | [] => true
  | a :: r => free nb a && freeL nb r
end
def freeB (nb : Nat) : Blk → Bool
  | .row e es => noOth P 8 e || es.all (freeL P nb)
  | .lrow _ es => es.all (freeL P nb)
  | .dead => true
def ofC : Value → AV
  | .bool b => .b b
  | .int k n => cond (decide (k.min ≤ n) && decide (n ≤ k.max)) (.i k n) .u
  | .string s => cond (Nat.ble s.size 9223372036854775807) (.s s) .u
  | .pointer none => .np
  | .slice none 0 0 => .nl
  | .nilFunc => .nf
  | .nilIface => .ni
  | _ => .u
def zeroOf (t : TypeId) : Option (List AV) :=
  match (P.info? t).bind (·.zero) with
  | some v => fitCs (cts P t) (v.cells.toList.map ofC)
  | none => none

/-! ### Operands and operations -/
def val (st : St) : Operand → AV
  | .tmp t => gt st.t t
  | .const v => ofC v
  | .func f => .fn f []
  | .global _ => .u

def splice (cs : List AV) (j : Nat) (new : List AV) : List AV := cs.take j ++ new ++ cs.drop (j + new.length)
def setCs (cs : List AV) (j : Nat) (new : List AV) : List AV :=
  match new with
  | [v] => cs.set j v
  | vs => splice cs j vs

def place (fs : Array Field) (i : Nat) : Option (Nat × TypeId) := (fs[i]?).map fun f => (f.offset, f.type)
def known : AV → Bool
  | .u => false
  | _ => true
def fill (pl : Nat → Option (Nat × TypeId)) : List AV → List (Nat × AV) → Option (List AV)
  | cs, [] => some cs
  | cs, (i, v) :: r => match pl i with
    | none => none
    | some (off, t) => cond (known v && Nat.beq (cellsOf v).length (P.cellsOf t) && Nat.ble (off + (cellsOf v).length) cs.length) (fill pl (splice cs off (cellsOf v)) r) none

/-- A part of a struct's cells. -/
def partV (t : TypeId) (cs : List AV) (off : Nat) : Option AV :=
  match P.underlying t with
  | some _ => cond (isAgg P t) (some (.agg ((cs.drop off).take (P.cellsOf t)))) (cs[off]?)
  | none => none
def eqFs (ev : TypeId → AV → AV → Option Bool) (a b : List AV) : List Field → Option Bool
  | [] => some true
  | f :: fs => cond (f.name != "_") (match partV P f.type a f.offset, partV P f.type b f.offset with
    | some x, some y => match ev f.type x y, fs, eqFs ev a b fs with
      | some r, [], _ => some r
      | some r, _, some s => some (r && s)
      | _, _, _ => none
    | _, _ => none) none
def eqV : Nat → TypeId → AV → AV → Option Bool
  | 0, _, _, _ => none
  | d + 1, t, x, y => match P.underlying t, x, y with
    | some .bool, .b a, .b b => some (a == b)
    | some (.int _), .i k a, .i k' b => cond (decide (k = k')) (some (a == b)) none
    | some .string, .s a, .s b => some (a.toList == b.toList)
    | some (.struct fs), .agg a, .agg b => cond (!P.stoodInHeld t) (eqFs P (eqV d) a b fs.toList) none
    | _, _, _ => none

section
variable {ρ : Type}

def binI (op : BinOp) (k : IntKind) (a b : Int) (K : AV → Option ρ) : Option ρ :=
  match op with
  | .add => K (.i k (k.wrap (a + b)))
  | .sub => K (.i k (k.wrap (a - b)))
  | .mul => K (.i k (k.wrap (a * b)))
  | .quo => cond (decide (b = 0)) none (K (.i k (k.wrap (a.tdiv b))))
  | .rem => cond (decide (b = 0)) none (K (.i k (a.tmod b)))
  | .eql => K (.b (a == b))
  | .neq => K (.b (a != b))
  | .lss => K (.b (decide (a < b)))
  | .leq => K (.b (decide (a ≤ b)))
  | .gtr => K (.b (decide (a > b)))
  | .geq => K (.b (decide (a ≥ b)))
  | _ => none
def binS (op : BinOp) (a b : ByteArray) (K : AV → Option ρ) : Option ρ :=
  match op with
  | .add => cond (decide (a.size + b.size ≤ 140737488355328)) (K (.s (a ++ b))) none
  | .eql => K (.b (a.toList == b.toList))
  | .neq => K (.b (!(a.toList == b.toList)))
  | .lss => K (.b (Op.bytesLess a.toList b.toList))
  | .leq => K (.b (Op.bytesLess a.toList b.toList || a.toList == b.toList))
  | .gtr => K (.b (!(Op.bytesLess a.toList b.toList || a.toList == b.toList)))
  | .geq => K (.b (!Op.bytesLess a.toList b.toList))
  | _ => none
/-- Is a slice nil? -/
def binN (op : BinOp) (t : TypeId) (isNil : Bool) (K : AV → Option ρ) : Option ρ :=
  match op, P.underlying t with
  | .eql, some (.slice _) => K (.b isNil)
  | .neq, some (.slice _) => K (.b (!isNil))
  | _, _ => none
def bin (op : BinOp) (t : TypeId) (x y : AV) (K : AV → Option ρ) : Option ρ :=
  match x, y with
  | .i k a, .i k' b => cond (decide (k = k')) (binI op k a b K) none
  | .s a, .s b => binS op a b K
  | .b a, .b b => match op, P.underlying t with
    | .eql, some .bool => K (.b (a == b))
    | .neq, some .bool => K (.b (!(a == b)))
    | _, _ => none
  | .agg a, .agg b => match op, eqV P 16 t (.agg a) (.agg b) with
    | .eql, some e => cond (!P.eqGuardType P.depth t) (K (.b e)) none
    | .neq, some e => cond (!P.eqGuardType P.depth t) (K (.b (!e))) none
    | _, _ => none
  | .rs _ (_ :: _), .nl => binN P op t false K
  | .e0 _, .nl => binN P op t false K
  | .nl, .nl => binN P op t true K
  | _, _ => none

def inb (n : Int) (len : Nat) : Bool := decide (0 ≤ n) && decide (n < (len : Int))

def best (f : Int → Int → Int) : AV → List AV → Option AV
  | .i k a, [] => some (.i k a)
  | .i k a, .i k' b :: r => cond (decide (k = k')) (best f (.i k (f a b)) r) none
  | _, _ => none
def bmax (a b : Int) : Int := if b > a then b else a
def bmin (a b : Int) : Int := if b < a then b else a

/-- What functions give, by values: a condition, and the result. -/
abbrev Spec := FuncId → List AV → Option (Bool × AV)

variable (S : Spec) (RO : Nat → Bool)

def fitArgs : List TypeId → List AV → List AV
  | t :: ts, v :: vs => fitA P t v :: fitArgs ts vs
  | _, vs => vs

/-- New cells: by value, where nobody will write them. -/
def fresh (site : Nat) (dst : Option Nat) (t : TypeId) (cs : List AV) (K : Eff → Option ρ) : Option ρ :=
  cond (okT P t) (cond ((dst.map RO).getD false) (K ⟨.rp (cts P t) cs 0, none⟩) (K ⟨.p site 0 0, some (site, .row t [cs])⟩)) none

def chunk (sz : Nat) : Nat → List AV → List (List AV)
  | 0, _ => []
  | n + 1, cs => cs.take sz :: chunk sz n (cs.drop sz)
def fitRows (all : List CT) : List (List AV) → Option (List (List AV))
  | [] => some []
  | r :: rs => match fitCs all r, fitRows all rs with
    | some a, some b => some (a :: b)
    | _, _ => none
/-- A new slice: by value, where nobody will write it. -/
def freshRow (site : Nat) (dst : Option Nat) (e : TypeId) (es : List (List AV)) (K : Eff → Option ρ) : Option ρ :=
  cond (okT P e && Nat.ble es.length 9223372036854775807) (cond es.isEmpty (K ⟨.e0 true, none⟩) (cond ((dst.map RO).getD false) (K ⟨.rs e es, none⟩) (K ⟨.sl site 0 es.length, some (site, .row e es)⟩))) none

/-- The cells from j on, as they are. -/
def lV (t : TypeId) (cs : List AV) (j : Nat) : AV := cond (isAgg P t) (.agg ((cs.drop j).take (cts P t).length)) (cs.getD j .u)
def look (st : St) (t : TypeId) (a : AV) (K : AV → Option ρ) : Option ρ :=
  match a with
  | .rp all cs j => cond (okT P t && ctsAt all j (cts P t)) (K (mkV P t cs j)) none
  | .p id i j => match gm st.m id with
    | .row e es => cond (okT P t && (ctsAt (cts P e) j (cts P t) && Nat.blt i es.length)) (K (mkV P t (es.getD i []) j)) none
    | .lrow e es => cond (okT P t && (ctsAt (cts P e) j (cts P t) && Nat.blt i es.length)) (K (lV P t (es.getD i []) j)) none
    | .dead => none
  | _ => none

mutual
/-- The row that goes with a value gets its number. -/
def shift (site : Nat) : AV → AV
  | .sl id off len => cond (Nat.beq id 0) (.sl site off len) .u
  | .agg cs => .agg (shiftL site cs)
  | .tup cs => .tup (shiftL site cs)
  | a => a
def shiftL (site : Nat) : List AV → List AV
  | [] => []
  | a :: r => shift site a :: shiftL site r
end
/-- Behind an empty slice that nothing has room behind. -/
def grown (site : Nat) (e t t' : TypeId) (x y : AV) (K : Eff → Option ρ) : Option ρ :=
  match y with
  | .rs e' es => cond (Nat.beq t t' && (Nat.beq e e' && okT P e)) (match P.info? e with
      | some i => cond i.zero.isSome (cond (Nat.ble (es.length * i.bytes) 140737488355328) (K ⟨.sl site 0 es.length, some (site, .row e es)⟩) none) none
      | none => none) none
  | _ => none

def numOf (st : St) (d : Int) (y : Option Operand) : AV :=
  match y with
  | some y => val st y
  | none => .i .i64 d

def evOp (site : Nat) (o : Oper) (st : St) (K : Eff → Option ρ) : Option ρ :=
  let ret (v : AV) : Option ρ := K ⟨v, none⟩
  match o.op with
  | .move x | .assign x => ret (val st x)
  | .pick c a b => match val st c with
    | .b x => match val st a, val st b with
      | .b p, .b q => ret (.b (cond x p q))
      | va, vb => cond x (ret va) (ret vb)
    | _ => none
  | .unOp .not _ x => match val st x with
    | .b a => ret (.b (!a))
    | _ => none
  | .unOp .neg _ x => match val st x with
    | .i k n => ret (.i k (k.wrap (0 - n)))
    | _ => none
  | .binOp op t x y _ => bin P op t (val st x) (val st y) ret
  | .convert src dst x => match P.underlying src, P.underlying dst, val st x with
    | some (.int _), some (.int k), .i _ n => ret (.i k (k.wrap n))
    | some .string, some .string, .s a => ret (.s a)
    | _, _, _ => none
  | .extract x j => match val st x with
    | .tup vs => match vs[j]? with
      | some v => ret v
      | none => none
    | _ => none
  | .field t x f => match P.underlying t, val st x with
    | some (.struct fs), .agg cs => match fs[f]? with
      | some fd => match partV P fd.type cs fd.offset with
        | some v => ret v
        | none => none
      | none => none
    | _, _ => none
  | .build t parts => match P.underlying t, zeroOf P t with
    | some (.struct fs), some z => match fill P (place fs) z (parts.toList.map fun p => (p.1, val st p.2)) with
      | some cs => match fitCs (cts P t) cs with
        | some cs => cond (fs.toList.all fun f => (P.info? f.type).isSome) (ret (.agg cs)) none
        | none => none
      | none => none
    | _, _ => none
  | .buildSlice t n parts => match P.underlying t with
    | some (.slice e) => match zeroOf P e with
      | some z => cond (Nat.ble (n * P.cellsOf e) 16777216 && Nat.beq z.length (P.cellsOf e)) (match fill P (fun i => some (i * P.cellsOf e, e)) ((List.replicate n z).flatten) (parts.toList.map fun p => (p.1, val st p.2)) with
        | some cs => match fitRows (cts P e) (chunk (P.cellsOf e) n cs) with
          | some es => freshRow P RO site o.dst e es K
          | none => none
        | none => none) none
      | none => none
    | _ => none
  | .fieldAddr t x f => match P.underlying t, val st x with
    | some (.struct fs), a => match fs[f]?, a with
      | some fd, .p id i j => cond (Nat.beq (P.cellsOf fd.type) 0) none (ret (.p id i (j + fd.offset)))
      | some fd, .rp all cs j => cond (Nat.beq (P.cellsOf fd.type) 0) none (ret (.rp all cs (j + fd.offset)))
      | _, _ => none
    | _, _ => none
  | .indexAddr t x ix => match P.underlying t, val st x, val st ix with
    | some (.slice e), .rs e' es, .i _ n => cond (Nat.beq e e' && inb n es.length) (ret (.rp (cts P e) (es.getD n.toNat []) 0)) none
    | some (.slice e), .sl id off len, .i _ n => match gm st.m id with
      | .row e' es => cond (Nat.beq e e' && (inb n len && Nat.blt (off + n.toNat) es.length)) (ret (.p id (off + n.toNat) 0)) none
      | _ => none
    | some (.array len e), .p id i j, .i _ n => cond (Nat.blt 0 (P.cellsOf e) && inb n len) (ret (.p id i (j + n.toNat * P.cellsOf e))) none
    | _, _, _ => none
  | .load t a => look P st t (val st a) ret
  | .store t a v => match val st a with
    | .p id i j => match gm st.m id with
      | .row e es => cond (okT P t && (ctsAt (cts P e) j (cts P t) && Nat.blt i es.length)) (match fitCs (cts P t) (cellsOf (val st v)) with
        | some cs => K ⟨.tup [], some (id, .row e (es.set i (setCs (es.getD i []) j cs)))⟩
        | none => match fitOs (cts P t) (cellsOf (val st v)) with
          | some cs => K ⟨.tup [], some (id, .lrow e (es.set i (setCs (es.getD i []) j cs)))⟩
          | none => none) none
      | .lrow e es => cond (okT P t && (ctsAt (cts P e) j (cts P t) && Nat.blt i es.length)) (match fitOs (cts P t) (cellsOf (val st v)) with
        | some cs => K ⟨.tup [], some (id, .lrow e (es.set i (setCs (es.getD i []) j cs)))⟩
        | none => none) none
      | .dead => none
    | _ => none
  | .nilCheck x => match val st x with
    | .p id i j => ret (.p id i j)
    | .rp all cs j => ret (.rp all cs j)
    | _ => none
  | .index t x ix => match P.underlying t, val st x, val st ix with
    | some .string, .s a, .i _ n => cond (inb n a.size) (ret (.i .u8 ((a.data.toList.getD n.toNat 0).toNat : Int))) none
    | _, _, _ => none
  | .slice t x lo hi none => match P.underlying t, val st x with
    | some (.slice e), .rs e' es => match numOf st 0 lo, numOf st es.length hi with
      | .i _ l, .i _ h => cond ((Nat.beq e e' && Nat.blt 0 (P.cellsOf e)) && (decide (0 ≤ l) && (decide (l ≤ h) && decide (h ≤ (es.length : Int))))) (ret (.rs e ((es.take h.toNat).drop l.toNat))) none
      | _, _ => none
    | some .string, .s a => match numOf st 0 lo, numOf st a.size hi with
      | .i _ l, .i _ h => cond (decide (0 ≤ l) && (decide (l ≤ h) && decide (h ≤ (a.size : Int)))) (ret (.s (a.extract l.toNat h.toNat))) none
      | _, _ => none
    | _, _ => none
  | .makeFunc (.func f) first caps => cond (Nat.beq first.size 0) (ret (.fn f (caps.toList.map (val st)))) none
  | .box t x => match fitCs (cts P t) (cellsOf (val st x)) with
    | some cs => fresh P RO site o.dst t cs K
    | none => none
  | .alloc t => match zeroOf P t with
    | some cs => fresh P RO site o.dst t cs K
    | none => none
  | .call c => match c.callee with
    | .builtin .len => match c.args.toList.map (val st), (c.argTypes[0]?).bind P.underlying with
      | [.rs _ es], some (.slice _) => ret (.i .i64 es.length)
      | [.nl], some (.slice _) => ret (.i .i64 0)
      | [.sl _ _ n], some (.slice _) => ret (.i .i64 n)
      | [.e0 _], some (.slice _) => ret (.i .i64 0)
      | [.s a], some .string => ret (.i .i64 a.size)
      | _, _ => none
    | .builtin .max => match c.args.toList.map (val st) with
      | x :: r => match best bmax x r with
        | some v => ret v
        | none => none
      | [] => none
    | .builtin .min => match c.args.toList.map (val st) with
      | x :: r => match best bmin x r with
        | some v => ret v
        | none => none
      | [] => none
    | .builtin .append => match c.args.toList.map (val st), c.argTypes.toList with
      | [x, y], [t, t'] => match P.underlying t, x with
        | some (.slice e), .nl => grown P site e t t' .nl (fitA P t' y) K
        | some (.slice e), .e0 true => grown P site e t t' (.e0 true) (fitA P t' y) K
        | _, _ => none
      | _, _ => none
    | .value f => match val st f with
      | .fn g caps => cond (freeL P 0 (fitArgs P c.argTypes.toList (c.args.toList.map (val st)) ++ caps)) (match S g (fitArgs P c.argTypes.toList (c.args.toList.map (val st)) ++ caps) with
        | some (pre, v) => cond pre (match v with
          | .ow e es x => K ⟨shift site x, some (site, .row e es)⟩
          | v => ret v) none
        | none => none) none
      | _ => none
    | _ => none
  | _ => none

/-- The row that an operation reads or writes. -/
def acc (o : Oper) (st : St) : Option Nat :=
  match o.op with
  | .load _ a | .store _ a _ | .indexAddr _ a _ => match val st a with
    | .p id _ _ => some id
    | .sl id _ _ => some id
    | _ => none
  | _ => none
def memS (o : Oper) : Bool := match o.op with
  | .load .. | .store .. | .indexAddr .. => true
  | _ => false
def isStore (o : Oper) : Bool := match o.op with
  | .store .. => true
  | _ => false
/-- What must be done before an operation: bits. -/
def befRow (Ms : List Nat) (o : Oper) : Nat := o.after.toList.foldl (fun m e => cond (Region.binds .any e) ((m ||| (2 ^ e.on)) ||| Ms.getD e.on 0) m) 0
def befs (ops : Array Oper) : List Nat := ops.toList.foldl (fun Ms o => Ms ++ [befRow Ms o]) []
/-- The temporaries that an operation names. -/
def looks (ops : Array Oper) (o : Oper) : List Nat :=
  (o.op.operands.toList.filterMap fun | .tmp t => some t | _ => none) ++
  (match o.guard with
   | some (g, _) => ((ops[g]?).bind (·.dst)).toList
   | none => [])
def has (l : List Nat) (x : Nat) : Bool := l.any (Nat.beq x)
/-- Must two operations stay in the text's order? -/
def clash (ops : Array Oper) (x y : Oper) : Bool :=
  (match x.dst with
   | some d => has (looks ops y) d || (match y.dst with | some d' => Nat.beq d d' | none => false)
   | none => false) ||
  (match y.dst with
   | some d => has (looks ops x) d
   | none => false)
/-- Where an operation on memory looks is not written later. -/
def steady (ops : Array Oper) (x o : Oper) : Bool := !(memS x && (match o.dst with | some d => has (looks ops x) d | none => false))
def drawRows (ops : Array Oper) (Ms : List Nat) : List Oper → Nat → Bool
  | [], _ => true
  | o :: r, j => Nat.beq (Ms.getD j 0) (befRow Ms o) && (Nat.blt (Ms.getD j 0) (2 ^ j) && ((List.range j).all (fun i => (match ops[i]? with
      | some x => (!clash ops x o || Nat.testBit (Ms.getD j 0) i) && steady ops x o
      | none => true)) && (steady ops o o && drawRows ops Ms r (j + 1))))
/-- A region whose order is drawn, and may be taken in the text's order. -/
def drawOK (ops : Array Oper) : Bool := drawRows ops (befs ops) ops.toList 0
/-- Two operations on one row, of which one writes it, stay in the text's order. -/
def memOK (ops : Array Oper) (Ms : List Nat) (j : Nat) (o : Oper) (st : St) : Bool :=
  match acc o st with
  | none => true
  | some id => (List.range j).all fun i => match ops[i]? with
    | some x => !(isStore x || isStore o) || (match acc x st with
      | some a => !Nat.beq a id || Nat.testBit (Ms.getD j 0) i
      | none => true)
    | none => true
def accOK (ops : Array Oper) (Ms : List Nat) (base : Nat) (j : Nat) (o : Oper) (st : St) : Bool :=
  (match acc o st with
  | none => true
  | some id => Nat.blt id base || Nat.testBit (Ms.getD j 0) (id - base)) && memOK ops Ms j o st
def chkOf (ops : Array Oper) (draw : Bool) (base : Nat) : Nat → Oper → St → Bool := cond draw (accOK ops (befs ops) base) (fun _ _ _ => true)

def evOps (all : Array Oper) (base : Nat) (chk : Nat → Oper → St → Bool) : List Oper → Nat → St → (St → Option ρ) → Option ρ
  | [], _, st, K => K st
  | o :: r, j, st, K => cond (((o.dst.map (Nat.blt · st.nt)).getD true) && chk j o st) (
    match o.guard with
    | none => evOp P S RO (base + j) o st fun e => evOps all base chk r (j + 1) (st.app o.dst e) K
    | some (g, want) => match (all[g]?).bind (·.dst) with
      | none => none
      | some tg => match gt st.t tg with
        | .b x => cond x
            (cond want (evOp P S RO (base + j) o (st.put (some tg) (.b true)) fun e => evOps all base chk r (j + 1) ((st.put (some tg) (.b true)).app o.dst e) K) (evOps all base chk r (j + 1) ((st.put (some tg) (.b true)).put o.dst (.tup [])) K))
            (cond want (evOps all base chk r (j + 1) ((st.put (some tg) (.b false)).put o.dst (.tup [])) K) (evOp P S RO (base + j) o (st.put (some tg) (.b false)) fun e => evOps all base chk r (j + 1) ((st.put (some tg) (.b false)).app o.dst e) K))
        | .tup [] => evOps all base chk r (j + 1) (st.put o.dst (.tup [])) K
        | _ => none) none

inductive Ex where
  | nrm
  | ext (id : Nat)
  | ret
  deriving DecidableEq, Inhabited

/-- What is kept at a loop's head: these temporaries, and the rows with numbers below nb, as far as they lead to no others. -/
def keepV (nb : Nat) (v : AV) : AV := cond (free P nb v) v .u
def keepB (nb : Nat) (b : Blk) : Blk := cond (freeB P nb b) b .dead
def norm (keep : List Nat) (nb : Nat) (st : St) : Option St :=
  cond (Nat.ble nb st.nx)
    (some { t := keep.map fun k => (k, keepV P nb (gt st.t k)), m := (List.range nb).map fun id => (id, keepB P nb (gm st.m id)), nx := nb, nt := st.nt }) none

/-- Places in code: the way from the root, its end first. -/
abbrev Pl := List Bool
/-- What loops give, by their place in the code. -/
abbrev LSpec := Pl → St → Option (List (Bool × Ex × St))
/-- The first one whose condition holds. -/
def pickK (K : Ex → St → Option ρ) : List (Bool × Ex × St) → Option ρ
  | [] => none
  | (g, e, s) :: r => cond g (K e s) (pickK K r)
variable (L : LSpec)

def evC : Code → Pl → St → (Ex → St → Option ρ) → Option ρ
  | .skip, _, st, K => K .nrm st
  | .region _ ops draw, _, st, K => cond (!draw || drawOK ops) (evOps P S RO ops st.nx (chkOf ops draw st.nx) ops.toList 0 st fun st => K .nrm { st with nx := st.nx + ops.size }) none
  | .seq a b, p, st, K => evC a (false :: p) st fun e st => match e with
    | .nrm => evC b (true :: p) st K
    | e => K e st
  | .cond c a b, p, st, K => match c, val st c with
    | .tmp t, .b x => cond x (evC a (false :: p) (st.put (some t) (.b true)) K) (evC b (true :: p) (st.put (some t) (.b false)) K)
    | _, .b x => cond x (evC a (false :: p) st K) (evC b (true :: p) st K)
    | _, _ => none
  | .block id c, p, st, K => evC c (false :: p) st fun e st => match e with
    | .ext j => cond (Nat.beq j id) (K .nrm st) (K (.ext j) st)
    | e => K e st
  | .loop _, p, st, K => match L p st with
    | some outs => pickK K outs
    | none => none
  | .rangeFunc _ _ _ _, p, st, K => match L p st with
    | some outs => pickK K outs
    | none => none
  | .exit id, _, st, K => K (.ext id) st
  | .ret, _, st, K => K .ret st
  | _, _, _, _ => none

/-- What a function hands back. -/
def resV (st : St) : ResultVar → Option AV
  | .tmp t => some (gt st.t t)
  | .cell a t => look P st t (gt st.t a) some
def resVs (st : St) : List ResultVar → Option (List AV)
  | [] => some []
  | r :: rs => match resV P st r, resVs st rs with
    | some v, some vs => some (v :: vs)
    | _, _ => none
def retV (fn : Func) (st : St) : Option AV :=
  match resVs P st fn.results.toList with
  | some [v] => some v
  | some vs => some (.tup vs)
  | none => none
def nums {α : Type} : Nat → List α → List (Nat × α)
  | _, [] => []
  | j, a :: l => (j, a) :: nums (j + 1) l
def initSt (nt : Nat) (args : List AV) : St := { t := nums 0 args, m := [], nx := 0, nt := nt }
def keptId : Option Nat → Nat → Bool
  | none, _ => false
  | some k, id => Nat.beq id k
mutual
/-- Slices of rows, as they will stay. -/
def frz (keep : Option Nat) (st : St) : AV → AV
  | .sl id off len => cond (keptId keep id) (.sl 0 off len) (match gm st.m id with
    | .row e es => .rs e (cond (Nat.beq off 0 && Nat.beq len es.length) es ((es.drop off).take len))
    | _ => .sl id off len)
  | .agg cs => .agg (frzL keep st cs)
  | .tup cs => .tup (frzL keep st cs)
  | a => a
def frzL (keep : Option Nat) (st : St) : List AV → List AV
  | [] => []
  | a :: r => frz keep st a :: frzL keep st r
end
mutual
/-- May they? -/
def frzG (keep : Option Nat) (st : St) : AV → Bool
  | .sl id off len => keptId keep id || (match gm st.m id with
    | .row e es => noOth P 8 e && Nat.ble (off + len) es.length
    | _ => false)
  | .agg cs => frzGL keep st cs
  | .tup cs => frzGL keep st cs
  | a => free P 0 a
def frzGL (keep : Option Nat) (st : St) : List AV → Bool
  | [] => true
  | a :: r => frzG keep st a && frzGL keep st r
end
mutual
/-- The same, one after the other. -/
def frzK {ρ : Type} (keep : Option Nat) (st : St) : AV → Option ρ → Option ρ
  | .sl id off len, K => cond (keptId keep id) K (match gm st.m id with
    | .row e es => cond (noOth P 8 e) (cond (Nat.ble (off + len) es.length) K none) none
    | _ => none)
  | .agg cs, K => frzKL keep st cs K
  | .tup cs, K => frzKL keep st cs K
  | a, K => cond (free P 0 a) K none
def frzKL {ρ : Type} (keep : Option Nat) (st : St) : List AV → Option ρ → Option ρ
  | [], K => K
  | a :: r, K => frzK keep st a (frzKL keep st r K)
end
mutual
def ownId : AV → Option Nat
  | .sl id _ _ => some id
  | .agg cs => ownIdL cs
  | .tup cs => ownIdL cs
  | _ => none
def ownIdL : List AV → Option Nat
  | [] => none
  | a :: r => match ownIdL r with
    | some i => some i
    | none => ownId a
end
/-- What is handed back leads to no row of the function's own. -/
def retK (fn : Func) (st : St) : Option AV :=
  match retV P fn st with
  | some v => frzK P none st v (some (frz none st v))
  | none => none
/-- What is handed back takes a row with it. -/
def retO (fn : Func) (st : St) : Option AV :=
  match retV P fn st with
  | some v => match ownId v with
    | some id => match gm st.m id with
      | .row e es => frzK P (some id) st v (cond (freeB P 0 (.row e es)) (some (.ow e es (frz (some id) st v))) none)
      | _ => none
    | none => none
  | none => none
def evG (fin : Func → St → Option AV) (fn : Func) (args : List AV) : Option AV :=
  match fn.body with
  | some c => cond (Nat.ble args.length fn.ntmps) (evC P S RO L c [] (initSt fn.ntmps args) fun e st => match e with
    | .ret => fin fn st
    | .nrm => fin fn st
    | .ext _ => none) none
  | none => none
def evF (fn : Func) (args : List AV) : Option AV := evG P S RO L (retK P) fn args
def evFO (fn : Func) (args : List AV) : Option AV := evG P S RO L (retO P) fn args
end
end Go.Ev

set_option linter.unusedVariables false
set_option linter.unusedSimpArgs false
namespace Go.Ev
open Go Go.RowKit

variable (P : Program)

/-- A cell's value is of its kind. -/
inductive WT : CT → AV → Prop
  | int {k : IntKind} {n : Int} : k.min ≤ n → n ≤ k.max → WT (.int k) (.i k n)
  | bool {x : Bool} : WT .bool (.b x)
  | str {x : ByteArray} : x.size ≤ 9223372036854775807 → WT .str (.s x)
  | sl {e : TypeId} {es : List (List AV)} : es.length ≤ 9223372036854775807 → (∀ x, x ∈ es → x.length = (cts P e).length) →
      (∀ x, x ∈ es → ∀ j, j < x.length → WT ((cts P e).getD j .oth) (x.getD j .u)) → WT (.sl e) (.rs e es)
  | oth {a : AV} : WT .oth a
def WTs (all : List CT) (cs : List AV) : Prop := cs.length = all.length ∧ ∀ j, j < cs.length → WT P (all.getD j .oth) (cs.getD j .u)

/-- A value of the evaluator's and one of the machine's. -/
inductive VR (D : Nat → Prop) (R : Nat → Option (Nat × Nat)) (w : World) : AV → Value → Prop
  | b {x : Bool} : VR D R w (.b x) (.bool x)
  | i {k : IntKind} {n : Int} : k.min ≤ n → n ≤ k.max → VR D R w (.i k n) (.int k n)
  | s {x : ByteArray} : x.size ≤ 9223372036854775807 → VR D R w (.s x) (.string x)
  | nl : VR D R w .nl (.slice none 0 0)
  | rs0 {e : TypeId} {a : Option Addr} {c : Nat} : (a = none → c = 0) → VR D R w (.rs e []) (.slice a 0 c)
  | e0 {full : Bool} {a : Addr} {c : Nat} : (full = true → c = 0) → VR D R w (.e0 full) (.slice (some a) 0 c)
  | rs {e : TypeId} {es : List (List AV)} {b o c : Nat} {f : Nat → Nat → Value} : es ≠ [] → 0 < P.cellsOf e → es.length ≤ c → (cts P e).length = P.cellsOf e → ¬ D b → WT P (.sl e) (.rs e es) →
      (∀ i j, i < es.length → j < P.cellsOf e → w.cell? ⟨b, o + (i * P.cellsOf e + j), none⟩ = some (f i j)) →
      (∀ i j, i < es.length → j < P.cellsOf e → VR D R w ((es.getD i []).getD j .u) (f i j)) → VR D R w (.rs e es) (.slice (some ⟨b, o, none⟩) es.length c)
  | sl {id off len b sz c : Nat} : R id = some (b, sz) → len ≤ c → len ≤ 9223372036854775807 → VR D R w (.sl id off len) (.slice (some ⟨b, off * sz, none⟩) len c)
  | sl0 {id off c : Nat} {a : Option Addr} : (a = none → c = 0) → VR D R w (.sl id off 0) (.slice a 0 c)
  | p {id i j b sz : Nat} : R id = some (b, sz) → VR D R w (.p id i j) (.pointer (some ⟨b, i * sz + j, none⟩))
  | rp {all : List CT} {cs : List AV} {j b o : Nat} {f : Nat → Value} : ¬ D b → 0 < cs.length → WTs P all cs →
      (∀ k, k < cs.length → w.cell? ⟨b, o + k, none⟩ = some (f k)) → (∀ k, k < cs.length → VR D R w (cs.getD k .u) (f k)) →
      VR D R w (.rp all cs j) (.pointer (some ⟨b, o + j, none⟩))
  | np : VR D R w .np (.pointer none)
  | fn {f : FuncId} {caps : List AV} {cv : Array Value} : cv.size = caps.length → (∀ k, k < caps.length → VR D R w (caps.getD k .u) (cv.getD k undef)) → VR D R w (.fn f caps) (.func (.func f) #[] cv)
  | nf : VR D R w .nf .nilFunc
  | yl {l : Nat} : VR D R w (.yl l) (.func (.yield l) #[] #[])
  | ni : VR D R w .ni .nilIface
  | ifc {t : TypeId} {x : AV} {v : Value} : VR D R w x v → VR D R w (.ifc t x) (.iface t v)
  | agg {cs : List AV} {cv : Array Value} : cv.size = cs.length → (∀ k, k < cs.length → VR D R w (cs.getD k .u) (cv.getD k undef)) → VR D R w (.agg cs) (.agg cv)
  | tup {cs : List AV} {cv : Array Value} : cv.size = cs.length → (∀ k, k < cs.length → VR D R w (cs.getD k .u) (cv.getD k undef)) → VR D R w (.tup cs) (.tuple cv)
  | u {v : Value} : VR D R w .u v

variable {P}
variable {D D' : Nat → Prop} {R R' : Nat → Option (Nat × Nat)} {w w' : World}

theorem VR.mono' {a : AV} {v : Value} (h : VR P D R w a v) (hR : ∀ id x, R id = some x → R' id = some x)
    (hc : ∀ (b o : Nat) (u : Value), ¬ D b → w.cell? ⟨b, o, none⟩ = some u → ¬ D' b ∧ w'.cell? ⟨b, o, none⟩ = some u) : VR P D' R' w' a v := by
  induction h with
  | b => exact .b
  | i h1 h2 => exact .i h1 h2
  | s h => exact .s h
  | nl => exact .nl
  | rs0 h => exact .rs0 h
  | e0 h => exact .e0 h
  | sl0 h => exact .sl0 h
  | @rs e es b o c f h1 hz h2 h3 h4 h5 h6 h7 ih =>
    have h0 : 0 < es.length := by cases es <;> simp_all
    exact .rs h1 hz h2 h3 (hc _ _ _ h4 (h6 0 0 h0 hz)).1 h5 (fun i j hi hj => (hc _ _ _ h4 (h6 i j hi hj)).2) ih
  | sl h1 h2 h3 => exact .sl (hR _ _ h1) h2 h3
  | p h => exact .p (hR _ _ h)
  | @rp all cs j b o f h1 h0 h2 h3 h4 ih => exact .rp (hc _ _ _ h1 (h3 0 h0)).1 h0 h2 (fun k hk => (hc _ _ _ h1 (h3 k hk)).2) ih
  | np => exact .np
  | fn h1 _ ih => exact .fn h1 ih
  | nf => exact .nf
  | yl => exact .yl
  | ni => exact .ni
  | ifc _ ih => exact .ifc ih
  | agg h1 _ ih => exact .agg h1 ih
  | tup h1 _ ih => exact .tup h1 ih
  | u => exact .u

theorem VR.mono {a : AV} {v : Value} (h : VR P D R w a v) (hR : ∀ id x, R id = some x → R' id = some x)
    (hw : ∀ b, b < w.heap.size → ¬ D b → ¬ D' b ∧ w'.heap[b]? = w.heap[b]?) : VR P D' R' w' a v :=
  h.mono' hR fun b o u hd hc => by
    have hlt := World.block_lt_of_cell? w _ hc
    obtain ⟨h1, h2⟩ := hw b hlt hd
    exact ⟨h1, (World.cell?_of_block (w := w) h2).trans hc⟩

/-! ### Kinds of cells -/
theorem proj_of_WT {c : CT} {a : AV} (h : WT P c a) : c = .oth ∨ proj c a = a := by
  cases h <;> simp [proj, toI, toB, toS, toE]
theorem proj_WT {c : CT} {a : AV} (h : WT P c a) : proj c a = a := by
  cases h <;> simp [proj, toI, toB, toS, toE]
theorem ctEq_eq {a b : CT} (h : ctEq a b = true) : a = b := by
  cases a <;> cases b <;> simp_all [ctEq]
theorem ctsEq_eq : ∀ {a b : List CT}, ctsEq a b = true → a = b
  | [], [], _ => rfl
  | [], _ :: _, h => by simp [ctsEq] at h
  | _ :: _, [], h => by simp [ctsEq] at h
  | a :: x, b :: y, h => by
    simp only [ctsEq, Bool.and_eq_true] at h
    rw [ctEq_eq h.1, ctsEq_eq h.2]
theorem ctsAt_spec {all want : List CT} {j : Nat} (h : ctsAt all j want = true) :
    ∀ k, k < want.length → j + k < all.length ∧ all.getD (j + k) .oth = want.getD k .oth := by
  have exact_ : ctsEq ((all.drop j).take want.length) want = true → ∀ k, k < want.length → j + k < all.length ∧ all.getD (j + k) .oth = want.getD k .oth := by
    intro h k hk
    have e := ctsEq_eq h
    have hlen : ((all.drop j).take want.length).length = want.length := by rw [e]
    simp at hlen
    refine ⟨by omega, ?_⟩
    conv => rhs; rw [← e]
    simp [List.getD_eq_getElem?_getD, List.getElem?_take, hk]
  match want, h with
  | [], h => intro k hk; simp at hk
  | [c], h =>
    simp only [ctsAt] at h
    cases ha : all.all (ctEq c ·) with
    | true =>
      rw [ha] at h
      simp only [cond_true] at h
      have hlt : j < all.length := by simpa [Nat.blt_eq] using h
      intro k hk
      have : k = 0 := by simpa using hk
      subst this
      refine ⟨by omega, ?_⟩
      have hm := List.all_eq_true.1 ha (all[j]) (List.getElem_mem hlt)
      simp [List.getD_eq_getElem?_getD, List.getElem?_eq_getElem hlt, (ctEq_eq hm).symm]
    | false =>
      rw [ha] at h
      exact exact_ (by simpa using h)
  | a :: b :: r, h => exact exact_ h
theorem WTs.at_ {all want : List CT} {cs : List AV} {j : Nat} (h : WTs P all cs) (hc : ctsAt all j want = true) :
    ∀ k, k < want.length → j + k < cs.length ∧ WT P (want.getD k .oth) (cs.getD (j + k) .u) := by
  intro k hk
  obtain ⟨h1, h2⟩ := ctsAt_spec hc k hk
  have h3 : j + k < cs.length := by rw [h.1]; exact h1
  exact ⟨h3, h2 ▸ h.2 _ h3⟩
theorem projs_length : ∀ (want : List CT) (cs : List AV) (j : Nat), (projs want cs j).length = want.length
  | [], _, _ => rfl
  | _ :: r, cs, j => by simp [projs, projs_length r cs (j + 1)]
theorem projs_getD : ∀ (want : List CT) (cs : List AV) (j k : Nat), k < want.length → (projs want cs j).getD k .u = proj (want.getD k .oth) (cs.getD (j + k) .u)
  | [], _, _, k, h => by simp at h
  | c :: r, cs, j, 0, _ => by simp [projs]
  | c :: r, cs, j, k + 1, h => by
    have := projs_getD r cs (j + 1) k (by simpa using h)
    simp only [projs, List.getD_cons_succ]
    rw [this]
    congr 2
    omega
theorem okT_spec {t : TypeId} (h : okT P t = true) : (cts P t).length = P.cellsOf t ∧ 0 < P.cellsOf t ∧ (isAgg P t = false → (cts P t).length = 1) := by
  unfold okT at h
  simp only [Bool.and_eq_true, Bool.or_eq_true] at h
  obtain ⟨⟨h1, h2⟩, h3⟩ := h
  refine ⟨Nat.eq_of_beq_eq_true h1, by simpa [Nat.blt_eq] using h2, fun hf => ?_⟩
  rcases h3 with h3 | h3
  · rw [hf] at h3; cases h3
  · exact Nat.eq_of_beq_eq_true h3
theorem okT_under {t : TypeId} (h : okT P t = true) : ∃ d, P.underlying t = some d := by
  obtain ⟨h1, h2, _⟩ := okT_spec h
  cases hu : P.underlying t with
  | some d => exact ⟨d, rfl⟩
  | none => simp [cts, ctsOf, hu] at h1; omega
theorem cellsOf_info {t : TypeId} (h : 0 < P.cellsOf t) : ∃ i, P.info? t = some i ∧ i.size = P.cellsOf t := by
  unfold Program.cellsOf at h ⊢
  cases hi : P.info? t with
  | some i => exact ⟨i, rfl, by simp⟩
  | none => simp [hi] at h
theorem run_sizeOf' {t : TypeId} (h : 0 < P.cellsOf t) (w : World) : (sizeOf t).run P w = .ok (P.cellsOf t) w := by
  obtain ⟨i, hi, hs⟩ := cellsOf_info h
  simp [sizeOf, typeInfo, hi, hs]
theorem run_underlying' {t : TypeId} {d : TypeDesc} (h : P.underlying t = some d) (w : World) : (underlying t).run P w = .ok d w := by
  simp [underlying, h]
theorem run_isAgg' {t : TypeId} {d : TypeDesc} (h : P.underlying t = some d) (w : World) : (Go.isAgg t).run P w = .ok (isAgg P t) w := by
  simp only [Go.isAgg, Sem.run_bind, run_underlying' h, Result.andThen_ok, isAgg, h]
  cases d <;> rfl
theorem add_plain' (b o j : Nat) : (⟨b, o, none⟩ : Addr).add j = ⟨b, o + j, none⟩ := by unfold Addr.add; split <;> simp_all

/-- A load out of cells that are known. -/
theorem run_loadVar' {t : TypeId} (ht : okT P t = true) {b o : Nat} {f : Nat → Value} (hc : ∀ k, k < P.cellsOf t → w.cell? ⟨b, o + k, none⟩ = some (f k)) :
    (loadVar t ⟨b, o, none⟩).run P w = .ok (if isAgg P t then .agg ((List.range (P.cellsOf t)).map f).toArray else f 0) w := by
  obtain ⟨d, hd⟩ := okT_under ht
  obtain ⟨h1, h2, h3⟩ := okT_spec ht
  simp only [loadVar, Sem.run_bind, run_isAgg' hd, Result.andThen_ok]
  cases hA : isAgg P t with
  | true =>
    simp only [if_true, Sem.run_bind, run_sizeOf' h2, Result.andThen_ok]
    rw [run_loadCells w ⟨b, o, none⟩ _ f (fun j hj => by rw [add_plain']; exact hc j hj)]
    simp
  | false =>
    have := hc 0 h2
    simp at this
    simp [run_load, this]

theorem VR_mkV {t : TypeId} (ht : okT P t = true) {all : List CT} {cs : List AV} {j : Nat} (hw : WTs P all cs) (hc : ctsAt all j (cts P t) = true) {f : Nat → Value}
    (hv : ∀ k, k < P.cellsOf t → VR P D R w (cs.getD (j + k) .u) (f k)) :
    VR P D R w (mkV P t cs j) (if isAgg P t then .agg ((List.range (P.cellsOf t)).map f).toArray else f 0) := by
  obtain ⟨h1, h2, h3⟩ := okT_spec ht
  have key : ∀ k, k < P.cellsOf t → VR P D R w (proj ((cts P t).getD k .oth) (cs.getD (j + k) .u)) (f k) := by
    intro k hk
    obtain ⟨_, hW⟩ := hw.at_ hc k (by omega)
    rw [proj_WT hW]
    exact hv k hk
  unfold mkV
  cases hA : isAgg P t with
  | true =>
    simp only [cond_true, if_true]
    refine .agg (by simp [projs_length, h1]) fun k hk => ?_
    rw [projs_length, h1] at hk
    rw [projs_getD _ _ _ _ (by omega)]
    simpa [Array.getD_eq_getD_getElem?, hk] using key k hk
  | false =>
    have h4 := h3 hA
    have := key 0 h2
    simp only [cond_false, Bool.false_eq_true, if_false]
    have e : (cts P t).headD .oth = (cts P t).getD 0 .oth := by cases (cts P t) <;> simp
    rw [e]
    simpa using this
end Go.Ev

set_option linter.unusedVariables false
set_option linter.unusedSimpArgs false
namespace Go.Ev
open Go Go.RowKit

variable {P : Program}

/-- The marks that ranges over functions have left. -/
def mark1 (b : Nat) : Deferred := { target := .collected b, args := #[] }
/-- The world in which a call or a round began, and the rows of its own that lay there. -/
structure Base where
  w : World
  Y : Nat → Prop
  B : Nat
  le : B ≤ w.heap.size
/-- What lay there lies as it lay, but for these rows. -/
structure BelowY (b : Base) (w : World) : Prop where
  os : w.os = b.w.os
  tape : w.tape = b.w.tape
  output : w.output = b.w.output
  size : b.w.heap.size ≤ w.heap.size
  block : ∀ k, k < b.w.heap.size → ¬ b.Y k → w.heap[k]? = b.w.heap[k]?
theorem BelowY.trans {b : Base} {w w' : World} (h : BelowY b w) (k : Below w.heap.size w w') : BelowY b w' :=
  ⟨k.os.trans h.os, k.tape.trans h.tape, k.output.trans h.output, Nat.le_trans h.size k.size, fun i hi hY => (k.block i (Nat.lt_of_lt_of_le hi h.size)).trans (h.block i hi hY)⟩
/-- A row lies where it is said to, and holds what is said. -/
def RowOK (P : Program) (D : Nat → Prop) (R : Nat → Option (Nat × Nat)) (w : World) (id : Nat) : Blk → Prop
  | .row e es => es ≠ [] → ∃ b cells ty, R id = some (b, P.cellsOf e) ∧ w.heap[b]? = some (.cells cells ty (0, 0)) ∧
    (cts P e).length = P.cellsOf e ∧ 0 < P.cellsOf e ∧ es.length * P.cellsOf e ≤ cells.size ∧ WT P (.sl e) (.rs e es) ∧
    ∀ i j, i < es.length → j < P.cellsOf e → ∃ v, cells[i * P.cellsOf e + j]? = some v ∧ VR P D R w ((es.getD i []).getD j .u) v
  | .lrow e es => es ≠ [] → ∃ b cells ty, R id = some (b, P.cellsOf e) ∧ w.heap[b]? = some (.cells cells ty (0, 0)) ∧
    (cts P e).length = P.cellsOf e ∧ 0 < P.cellsOf e ∧ es.length * P.cellsOf e ≤ cells.size ∧ (∀ x, x ∈ es → x.length = (cts P e).length) ∧
    ∀ i j, i < es.length → j < P.cellsOf e → ∃ v, cells[i * P.cellsOf e + j]? = some v ∧ VR P D R w ((es.getD i []).getD j .u) v
  | .dead => True
theorem RowOK.mono2 {P : Program} {D D' : Nat → Prop} {R R' : Nat → Option (Nat × Nat)} {w w' : World} {id : Nat} {blk : Blk} (h : RowOK P D R w id blk) (hR : ∀ x, R id = some x → R' id = some x)
    (hb : ∀ b s cells ty, R id = some (b, s) → w.heap[b]? = some (.cells cells ty (0, 0)) → w'.heap[b]? = w.heap[b]?) (hv : ∀ x v, VR P D R w x v → VR P D' R' w' x v) : RowOK P D' R' w' id blk := by
  cases blk with
  | dead => trivial
  | row e es =>
    intro hne
    obtain ⟨b, cells, ty, g1, g2, g3, g4, g5, g6, g7⟩ := h hne
    exact ⟨b, cells, ty, hR _ g1, (hb b _ _ _ g1 g2).trans g2, g3, g4, g5, g6, fun i j hi hj => by
      obtain ⟨v, q1, q2⟩ := g7 i j hi hj
      exact ⟨v, q1, hv _ _ q2⟩⟩
  | lrow e es =>
    intro hne
    obtain ⟨b, cells, ty, g1, g2, g3, g4, g5, g6, g7⟩ := h hne
    exact ⟨b, cells, ty, hR _ g1, (hb b _ _ _ g1 g2).trans g2, g3, g4, g5, g6, fun i j hi hj => by
      obtain ⟨v, q1, q2⟩ := g7 i j hi hj
      exact ⟨v, q1, hv _ _ q2⟩⟩

theorem RowOK.mono {P : Program} {D D' : Nat → Prop} {R R' : Nat → Option (Nat × Nat)} {w w' : World} {id : Nat} {blk : Blk} (h : RowOK P D R w id blk) (hR : ∀ x, R id = some x → R' id = some x)
    (hb : ∀ b s, R id = some (b, s) → w'.heap[b]? = w.heap[b]?) (hv : ∀ x v, VR P D R w x v → VR P D' R' w' x v) : RowOK P D' R' w' id blk :=
  h.mono2 hR (fun b s _ _ e _ => hb b s e) hv
/-- The evaluator's state and the machine's: 'D': the blocks that may be written, of whoever; 'R': where the evaluator's rows lie; 'w0': the world in which the call began; 'X': what its callers own. -/
structure SR (P : Program) (w0 : Base) (X : Nat → Prop) (D : Nat → Prop) (R : Nat → Option (Nat × Nat)) (st : St) (a : Act) (w : World) : Prop where
  tmp : ∀ t, VR P D R w (gt st.t t) (a.tmps.getD t undef)
  nt : a.tmps.size = st.nt
  mem : ∀ id, RowOK P D R w id (gm st.m id)
  own : ∀ id b s, R id = some (b, s) → D b ∧ (w0.w.heap.size ≤ b ∨ w0.Y b)
  inj : ∀ id id' b s s', R id = some (b, s) → R id' = some (b, s') → id = id'
  X : ∀ b, X b → D b
  lt : ∀ b, D b → b < w.heap.size
  old : BelowY w0 w
  df : ∃ ds : List Nat, a.defers = ds.map mark1 ∧ ds.Nodup ∧ ∀ b, b ∈ ds → w.heap[b]? = some (.deferred (some [])) ∧ ¬ D b ∧ w0.B ≤ b

variable {w0 : Base} {X D : Nat → Prop} {R : Nat → Option (Nat × Nat)} {st : St} {a : Act} {w : World}

theorem VR_undef : VR P D R w (.tup []) undef := .tup (cv := #[]) rfl (fun k hk => by simp at hk)

theorem gt_cons (j : Nat) (v : AV) (r : List (Nat × AV)) (i : Nat) : gt ((j, v) :: r) i = if i = j then v else gt r i := by
  simp only [gt]
  by_cases h : i = j
  · simp [h, Nat.beq_refl]
  · have : Nat.beq i j = false := by
      cases hb : Nat.beq i j with
      | true => exact absurd (Nat.eq_of_beq_eq_true hb) h
      | false => rfl
    simp [h, this]
theorem gm_cons (j : Nat) (v : Blk) (r : List (Nat × Blk)) (i : Nat) : gm ((j, v) :: r) i = if i = j then v else gm r i := by
  simp only [gm]
  by_cases h : i = j
  · simp [h, Nat.beq_refl]
  · have : Nat.beq i j = false := by
      cases hb : Nat.beq i j with
      | true => exact absurd (Nat.eq_of_beq_eq_true hb) h
      | false => rfl
    simp [h, this]

/-- A temporary is written. -/
theorem SR.put (h : SR P w0 X D R st a w) {d : Option Nat} {v : AV} {v' : Value} (hd : ∀ x, d = some x → x < st.nt) (hv : VR P D R w v v') :
    SR P w0 X D R (st.put d v) (a.put d v') w := by
  cases d with
  | none => exact h
  | some d =>
    have hlt := hd d rfl
    refine { h with tmp := ?_, nt := ?_, mem := ?_, df := h.df }
    · intro t
      simp only [St.put, Act.put, gt_cons]
      have hs : d < a.tmps.size := by rw [h.nt]; exact hlt
      by_cases e : t = d
      · subst e
        simp [Array.getD_eq_getD_getElem?, hs, hv]
      · have := h.tmp t
        simp only [e, if_false]
        simpa [Array.getD_eq_getD_getElem?, Array.getElem?_setIfInBounds, Ne.symm e] using this
    · simpa [St.put, Act.put] using h.nt
    · exact fun id => h.mem id

/-- What a temporary is known to be besides. -/
theorem SR.know (h : SR P w0 X D R st a w) {d : Nat} {v : AV} (hv : VR P D R w v (a.tmps.getD d Go.undef)) : SR P w0 X D R (st.put (some d) v) a w := by
  refine { h with tmp := ?_ }
  intro t
  simp only [St.put, gt_cons]
  by_cases e : t = d
  · subst e; simpa using hv
  · simpa [e] using h.tmp t

theorem VR_ofC (v : Value) : VR P D R w (ofC v) v := by
  unfold ofC
  split <;> first | exact .b | exact .np | exact .nl | exact .nf | exact .ni | exact .u | skip
  · rename_i k n
    cases h : decide (k.min ≤ n) && decide (n ≤ k.max) with
    | true =>
      simp only [Bool.and_eq_true, decide_eq_true_eq] at h
      exact .i h.1 h.2
    | false => exact .u
  · rename_i s
    cases h : Nat.ble s.size 9223372036854775807 with
    | true => exact .s (by simpa [Nat.ble_eq] using h)
    | false => exact .u

theorem SR.val (h : SR P w0 X D R st a w) (x : Operand) : VR P D R w (val st x) (a.eval x) := by
  cases x with
  | tmp t => exact h.tmp t
  | const v => exact VR_ofC v
  | global g => exact .u
  | func f => exact .fn rfl (fun k hk => by simp at hk)

theorem VR_fitT (t : TypeId) {v : AV} {v' : Value} (h : VR P D R w v v') : VR P D R w (fitT P t v) v' := by
  unfold fitT
  split
  · split
    · cases h; exact .rs0 fun _ => rfl
    · exact h
  · exact h
theorem VR_fitA (t : TypeId) {v : AV} {v' : Value} (h : VR P D R w v v') : VR P D R w (fitA P t v) v' := by
  unfold fitA
  split
  · split
    · cases h; exact .rs0 fun h => by cases h
    · exact h
  · exact VR_fitT t h

/-- A load. -/
theorem look_sound {ρ : Type} (h : SR P w0 X D R st a w) {t : TypeId} {p : AV} {v : Value} (hp : VR P D R w p v) {K : AV → Option ρ} {r : ρ} (he : look P st t p K = some r) :
    ∃ x u, (Instr.loadAt t v).run P w = .ok u w ∧ VR P D R w x u ∧ K x = some r := by
  unfold look at he
  cases hp with
  | @rp all cs j b o f h1 h0 h2 h3 h4 =>
    simp only at he
    cases hc : okT P t && ctsAt all j (cts P t) with
    | false => rw [hc] at he; cases he
    | true =>
      rw [hc] at he
      simp only [Bool.and_eq_true] at hc
      obtain ⟨ho, hc⟩ := hc
      obtain ⟨hl, _, _⟩ := okT_spec ho
      have hin : ∀ k, k < P.cellsOf t → j + k < cs.length := fun k hk => (h2.at_ hc k (by omega)).1
      refine ⟨_, _, ?_, VR_mkV ho h2 hc (f := fun k => f (j + k)) (fun k hk => h4 _ (hin k hk)), he⟩
      simp only [Instr.loadAt, Instr.sureAddr, Sem.run_bind, Sem.run_pure, Result.andThen_ok]
      exact run_loadVar' ho (f := fun k => f (j + k)) (fun k hk => by rw [Nat.add_assoc]; exact h3 _ (hin k hk))
  | @p id i j b sz hR =>
    simp only at he
    cases hm : gm st.m id with
    | dead => rw [hm] at he; cases he
    | lrow e es =>
      rw [hm] at he
      simp only at he
      cases hc : okT P t && (ctsAt (cts P e) j (cts P t) && Nat.blt i es.length) with
      | false => rw [hc] at he; cases he
      | true =>
        rw [hc] at he
        simp only [Bool.and_eq_true] at hc
        obtain ⟨ho, hc, hi⟩ := hc
        have hi : i < es.length := by simpa [Nat.blt_eq] using hi
        obtain ⟨hl, h0, h1⟩ := okT_spec ho
        have hrow := h.mem id
        rw [hm] at hrow
        obtain ⟨b', cells, ty, hR', hh, hle, hpos, hsz, hW, hv⟩ := hrow (by intro e0; rw [e0] at hi; simp at hi)
        rw [hR] at hR'
        injection hR' with hR'
        injection hR' with hb hs
        subst hb; subst hs
        have hx : es.getD i [] ∈ es := by simp [List.getD_eq_getElem?_getD, List.getElem?_eq_getElem hi]
        have hxl := hW _ hx
        have hin : ∀ k, k < P.cellsOf t → j + k < P.cellsOf e := fun k hk => by
          have := (ctsAt_spec hc k (by omega)).1
          omega
        refine ⟨_, (if isAgg P t then .agg ((List.range (P.cellsOf t)).map fun k => (cells[i * P.cellsOf e + (j + k)]?).getD Go.undef).toArray else (cells[i * P.cellsOf e + (j + 0)]?).getD Go.undef), ?_, ?_, he⟩
        · simp only [Instr.loadAt, Instr.sureAddr, Sem.run_bind, Sem.run_pure, Result.andThen_ok]
          refine run_loadVar' ho (f := fun k => (cells[i * P.cellsOf e + (j + k)]?).getD Go.undef) (fun k hk => ?_)
          obtain ⟨v, hv1, _⟩ := hv i (j + k) hi (hin k hk)
          simp [World.cell?, hh, Nat.add_assoc, hv1]
        · have key : ∀ k, k < P.cellsOf t → VR P D R w ((es.getD i []).getD (j + k) .u) ((cells[i * P.cellsOf e + (j + k)]?).getD Go.undef) := fun k hk => by
            obtain ⟨v, hv1, hv2⟩ := hv i (j + k) hi (hin k hk)
            simp only [hv1, Option.getD_some]
            exact hv2
          unfold lV
          cases hA : isAgg P t with
          | true =>
            simp only [cond_true, if_true]
            have hlen : (((es.getD i []).drop j).take (cts P t).length).length = P.cellsOf t := by
              have := hin (P.cellsOf t - 1) (by omega)
              rw [List.length_take, List.length_drop]; omega
            refine .agg (by rw [hlen]; simp) fun k hk => ?_
            rw [hlen] at hk
            have e1 : (((es.getD i []).drop j).take (cts P t).length).getD k .u = (es.getD i []).getD (j + k) .u := by
              simp [List.getD_eq_getElem?_getD, List.getElem?_take, show k < (cts P t).length by omega]
            rw [e1]
            simpa [Array.getD_eq_getD_getElem?, hk] using key k hk
          | false =>
            simp only [cond_false, Bool.false_eq_true, if_false]
            simpa using key 0 h0
    | row e es =>
      rw [hm] at he
      simp only at he
      cases hc : okT P t && (ctsAt (cts P e) j (cts P t) && Nat.blt i es.length) with
      | false => rw [hc] at he; cases he
      | true =>
        rw [hc] at he
        simp only [Bool.and_eq_true] at hc
        obtain ⟨ho, hc, hi⟩ := hc
        have hi : i < es.length := by simpa [Nat.blt_eq] using hi
        obtain ⟨hl, _, _⟩ := okT_spec ho
        have hrow := h.mem id
        rw [hm] at hrow
        obtain ⟨b', cells, ty, hR', hh, hle, hpos, hsz, hW, hv⟩ := hrow (by intro e0; rw [e0] at hi; simp at hi)
        rw [hR] at hR'
        injection hR' with hR'
        injection hR' with hb hs
        subst hb; subst hs
        have hx : es.getD i [] ∈ es := by simp [List.getD_eq_getElem?_getD, List.getElem?_eq_getElem hi]
        have hWs : WTs P (cts P e) (es.getD i []) := by
          cases hW with
          | sl h1 h2 h3 => exact ⟨h2 _ hx, h3 _ hx⟩
        have hin : ∀ k, k < P.cellsOf t → j + k < P.cellsOf e := fun k hk => by
          have := (hWs.at_ hc k (by omega)).1
          rw [hWs.1, hle] at this
          exact this
        refine ⟨_, _, ?_, VR_mkV ho hWs hc (f := fun k => (cells[i * P.cellsOf e + (j + k)]?).getD Go.undef) (fun k hk => ?_), he⟩
        · simp only [Instr.loadAt, Instr.sureAddr, Sem.run_bind, Sem.run_pure, Result.andThen_ok]
          refine run_loadVar' ho (f := fun k => (cells[i * P.cellsOf e + (j + k)]?).getD Go.undef) (fun k hk => ?_)
          obtain ⟨v, hv1, _⟩ := hv i (j + k) hi (hin k hk)
          simp [World.cell?, hh, Nat.add_assoc, hv1]
        · obtain ⟨v, hv1, hv2⟩ := hv i (j + k) hi (hin k hk)
          simp only [hv1, Option.getD_some]
          exact hv2
  | _ => simp at he
end Go.Ev

set_option linter.unusedVariables false
set_option linter.unusedSimpArgs false
namespace Go.Ev
open Go Go.RowKit

variable {P : Program} {w0 : Base} {X D : Nat → Prop} {R : Nat → Option (Nat × Nat)} {st : St} {a : Act} {w : World}

theorem getD_push {cs : List AV} {v : AV} : True := trivial

theorem fitC_sound {c : CT} {v x : AV} {v' : Value} (h : fitC c v = some x) (hv : VR P D R w v v') : VR P D R w x v' ∧ WT P c x ∧ v'.oneCell' = true ∧ cellsOf v = [v] ∧ v'.cells = #[v'] := by
  unfold fitC at h
  split at h <;> first | (cases h; done) | skip
  · rename_i k k' n
    cases hk : decide (k = k') with
    | false => rw [hk] at h; cases h
    | true =>
      rw [hk] at h
      simp only [cond_true, Option.some.injEq] at h
      subst h
      cases hv with
      | i h1 h2 =>
        have : k = k' := of_decide_eq_true hk
        subst this
        exact ⟨.i h1 h2, .int h1 h2, rfl, rfl, rfl⟩
  · cases h; cases hv; exact ⟨.b, .bool, rfl, rfl, rfl⟩
  · cases h
    cases hv with
    | s h1 => exact ⟨.s h1, .str h1, rfl, rfl, rfl⟩
  · rename_i e e' es
    cases hk : Nat.beq e e' with
    | false => rw [hk] at h; cases h
    | true =>
      rw [hk] at h
      simp only [cond_true, Option.some.injEq] at h
      have := Nat.eq_of_beq_eq_true hk
      subst this; subst h
      cases hv with
      | rs0 h0 => exact ⟨.rs0 h0, .sl (by simp) (by simp) (by simp), rfl, rfl, rfl⟩
      | rs h1 hz h2 h3 h4 h5 h6 h7 => exact ⟨.rs h1 hz h2 h3 h4 h5 h6 h7, h5, rfl, rfl, rfl⟩
  · cases h; cases hv; exact ⟨.rs0 (fun _ => rfl), .sl (by simp) (by simp) (by simp), rfl, rfl, rfl⟩
  · cases h; cases hv; exact ⟨.rs0 (fun h => by cases h), .sl (by simp) (by simp) (by simp), rfl, rfl, rfl⟩
  all_goals (cases h; cases hv; refine ⟨?_, .oth, rfl, rfl, rfl⟩)
  · exact .fn ‹_› ‹_›
  · exact .nf
  · exact .yl
  · exact .np
  · exact .p ‹_›
  · exact .rp ‹_› ‹_› ‹_› ‹_› ‹_›
  · exact .ni

theorem fitCs_sound : ∀ {all : List CT} {cs x : List AV} {cv : List Value}, fitCs all cs = some x → cv.length = cs.length → (∀ k, k < cs.length → VR P D R w (cs.getD k .u) (cv.getD k undef)) →
    WTs P all x ∧ x.length = cs.length ∧ (∀ k, k < x.length → VR P D R w (x.getD k .u) (cv.getD k undef)) ∧ ∀ u ∈ cv, u.oneCell' = true
  | [], [], x, cv, h, hl, hv => by
    simp only [fitCs, Option.some.injEq] at h
    subst h
    have : cv = [] := by simpa using hl
    subst this
    exact ⟨⟨rfl, fun j hj => by simp at hj⟩, rfl, fun k hk => by simp at hk, fun u hu => by simp at hu⟩
  | [], _ :: _, _, _, h, _, _ => by simp [fitCs] at h
  | _ :: _, [], _, _, h, _, _ => by simp [fitCs] at h
  | c :: all, v :: cs, x, cv, h, hl, hv => by
    match cv, hl with
    | u :: cv, hl =>
      simp only [fitCs] at h
      cases h1 : fitC c v with
      | none => rw [h1] at h; cases h
      | some a' =>
        cases h2 : fitCs all cs with
        | none => rw [h1, h2] at h; cases h
        | some y =>
          rw [h1, h2] at h
          simp only [Option.some.injEq] at h
          subst h
          obtain ⟨g1, g2, g3, _, _⟩ := fitC_sound h1 (by simpa using hv 0 (by simp))
          obtain ⟨i1, i2, i3, i4⟩ := fitCs_sound h2 (by simpa using hl) (fun k hk => by simpa using hv (k + 1) (by simpa using hk))
          refine ⟨⟨by simp [i1.1], ?_⟩, by simp [i2], ?_, ?_⟩
          · intro j hj
            cases j with
            | zero => simpa using g2
            | succ j => simpa using i1.2 j (by simpa using hj)
          · intro k hk
            cases k with
            | zero => simpa using g1
            | succ k => simpa using i3 k (by simpa using hk)
          · intro z hz
            rcases List.mem_cons.1 hz with rfl | hz
            · exact g3
            · exact i4 z hz

/-- A whole value, fitted into cells. -/
theorem fit_sound {all : List CT} {v : AV} {x : List AV} {v' : Value} (h : fitCs all (cellsOf v) = some x) (hv : VR P D R w v v') :
    WTs P all x ∧ v'.cells.size = x.length ∧ (∀ k, k < x.length → VR P D R w (x.getD k .u) (v'.cells.getD k undef)) ∧ ∀ u ∈ v'.cells.toList, u.oneCell' = true := by
  have single : cellsOf v = [v] → v'.cells = #[v'] → WTs P all x ∧ v'.cells.size = x.length ∧ (∀ k, k < x.length → VR P D R w (x.getD k .u) (v'.cells.getD k undef)) ∧ ∀ u ∈ v'.cells.toList, u.oneCell' = true := by
    intro h1 h2
    rw [h1] at h
    obtain ⟨i1, i2, i3, i4⟩ := fitCs_sound (cv := [v']) h rfl (fun k hk => by
      have : k = 0 := by simpa using hk
      subst this
      simpa using hv)
    rw [h2]
    refine ⟨i1, by simp [i2], fun k hk => ?_, by simpa using i4⟩
    have := i3 k hk
    simpa [Array.getD_eq_getD_getElem?, List.getD_eq_getElem?_getD] using this
  have failed : cellsOf v = [v] → (∀ c, fitC c v = none) → False := by
    intro h1 h2
    rw [h1] at h
    cases all with
    | nil => simp [fitCs] at h
    | cons c r => simp [fitCs, h2] at h
  cases hv with
  | @agg cs cv h1 h2 =>
    obtain ⟨i1, i2, i3, i4⟩ := fitCs_sound (cv := cv.toList) h (by simpa [cellsOf] using h1) (fun k hk => by
      have := h2 k hk
      simpa [cellsOf, Array.getD_eq_getD_getElem?, List.getD_eq_getElem?_getD] using this)
    refine ⟨i1, by simpa [Value.cells, i2, cellsOf] using h1, fun k hk => ?_, by simpa [Value.cells] using i4⟩
    have := i3 k hk
    simpa [Value.cells, Array.getD_eq_getD_getElem?, List.getD_eq_getElem?_getD] using this
  | u => exact (failed rfl (fun c => by cases c <;> rfl)).elim
  | tup => exact (failed rfl (fun c => by cases c <;> rfl)).elim
  | sl => exact (failed rfl (fun c => by cases c <;> rfl)).elim
  | sl0 => exact (failed rfl (fun c => by cases c <;> rfl)).elim
  | ifc => exact (failed rfl (fun c => by cases c <;> rfl)).elim
  | _ => exact single rfl rfl

theorem fitO_one {c : CT} {v x : AV} {v' : Value} (h : fitO c v = some x) (hv : VR P D R w v v') : VR P D R w x v' ∧ v'.oneCell' = true ∧ cellsOf v = [v] ∧ v'.cells = #[v'] := by
  unfold fitO at h
  split at h
  · cases h
    refine ⟨hv, ?_, rfl, ?_⟩ <;> cases hv <;> rfl
  · obtain ⟨g1, _, g3, g4, g5⟩ := fitC_sound h hv
    exact ⟨g1, g3, g4, g5⟩
theorem fitOs_sound : ∀ {all : List CT} {cs x : List AV} {cv : List Value}, fitOs all cs = some x → cv.length = cs.length → (∀ k, k < cs.length → VR P D R w (cs.getD k .u) (cv.getD k undef)) →
    x.length = all.length ∧ x.length = cs.length ∧ (∀ k, k < x.length → VR P D R w (x.getD k .u) (cv.getD k undef)) ∧ ∀ u ∈ cv, u.oneCell' = true
  | [], [], x, cv, h, hl, hv => by
    simp only [fitOs, Option.some.injEq] at h
    subst h
    have : cv = [] := by simpa using hl
    subst this
    exact ⟨rfl, rfl, fun k hk => by simp at hk, fun u hu => by simp at hu⟩
  | [], _ :: _, _, _, h, _, _ => by simp [fitOs] at h
  | _ :: _, [], _, _, h, _, _ => by simp [fitOs] at h
  | c :: all, v :: cs, x, cv, h, hl, hv => by
    match cv, hl with
    | u :: cv, hl =>
      simp only [fitOs] at h
      cases h1 : fitO c v with
      | none => rw [h1] at h; cases h
      | some a' =>
        cases h2 : fitOs all cs with
        | none => rw [h1, h2] at h; cases h
        | some y =>
          rw [h1, h2] at h
          simp only [Option.some.injEq] at h
          subst h
          obtain ⟨g1, g3, _, _⟩ := fitO_one h1 (by simpa using hv 0 (by simp))
          obtain ⟨i1, i2, i3, i4⟩ := fitOs_sound h2 (by simpa using hl) (fun k hk => by simpa using hv (k + 1) (by simpa using hk))
          refine ⟨by simp [i1], by simp [i2], ?_, ?_⟩
          · intro k hk
            cases k with
            | zero => simpa using g1
            | succ k => simpa using i3 k (by simpa using hk)
          · intro z hz
            rcases List.mem_cons.1 hz with rfl | hz
            · exact g3
            · exact i4 z hz
theorem fitO_sound {all : List CT} {v : AV} {x : List AV} {v' : Value} (h : fitOs all (cellsOf v) = some x) (hv : VR P D R w v v') :
    x.length = all.length ∧ v'.cells.size = x.length ∧ (∀ k, k < x.length → VR P D R w (x.getD k .u) (v'.cells.getD k undef)) ∧ ∀ u ∈ v'.cells.toList, u.oneCell' = true := by
  by_cases hagg : ∃ cs, v = .agg cs
  · obtain ⟨cs, rfl⟩ := hagg
    cases hv with
    | @agg _ cv h1 h2 =>
      obtain ⟨i1, i2, i3, i4⟩ := fitOs_sound (cv := cv.toList) h (by simpa [cellsOf] using h1) (fun k hk => by
        have := h2 k hk
        simpa [cellsOf, Array.getD_eq_getD_getElem?, List.getD_eq_getElem?_getD] using this)
      refine ⟨i1, by simpa [Value.cells, i2, cellsOf] using h1, fun k hk => ?_, by simpa [Value.cells] using i4⟩
      have := i3 k hk
      simpa [Value.cells, Array.getD_eq_getD_getElem?, List.getD_eq_getElem?_getD] using this
  · have hc : cellsOf v = [v] := by
      cases v <;> first | rfl | exact absurd ⟨_, rfl⟩ hagg
    rw [hc] at h
    match all, h with
    | [], h => simp [fitOs] at h
    | c :: c' :: r, h =>
      simp only [fitOs] at h
      split at h <;> cases h
      rename_i h2 _
      simp [fitOs] at *
    | [c], h =>
      cases h1 : fitO c v with
      | none => simp [fitOs, h1] at h
      | some a' =>
        simp only [fitOs, h1, Option.some.injEq] at h
        subst h
        obtain ⟨g1, g3, _, g5⟩ := fitO_one h1 hv
        rw [g5]
        refine ⟨rfl, rfl, fun k hk => ?_, by simpa using g3⟩
        have : k = 0 := by simpa using hk
        subst this
        simpa using g1

/-- Another world, whose old blocks are as they were. -/
theorem SR.world (h : SR P w0 X D R st a w) {w' : World} (hb : Below w.heap.size w w') : SR P w0 X D R st a w' := by
  have mono : ∀ {x : AV} {v : Value}, VR P D R w x v → VR P D R w' x v := fun hv => hv.mono (fun _ _ e => e) (fun b hlt hd => ⟨hd, hb.block b hlt⟩)
  refine ⟨fun t => mono (h.tmp t), h.nt, fun id => (h.mem id).mono (fun _ e => e) (fun b s e => hb.block b (h.lt b (h.own id b _ e).1)) fun _ _ => mono, h.own, h.inj, h.X, fun b hd => Nat.lt_of_lt_of_le (h.lt b hd) hb.size, h.old.trans hb, ?_⟩
  · obtain ⟨ds, d1, d2, d3⟩ := h.df
    exact ⟨ds, d1, d2, fun b hb' => ⟨(hb.block b (Array.getElem?_eq_some_iff.1 (d3 b hb').1).1).trans (d3 b hb').1, (d3 b hb').2⟩⟩

theorem below_alloc' (w : World) (o : Obj) : Below w.heap.size w (w.alloc o) := (Below.refl _ _).alloc (Nat.le_refl _) o

/-- New cells that nobody will write. -/
theorem VR_new_rp {all : List CT} {cs : List AV} {cv : Array Value} {t : TypeId} (hD : ∀ b, D b → b < w.heap.size) (hs : cv.size = cs.length) (h0 : 0 < cs.length) (hW : WTs P all cs)
    (hv : ∀ k, k < cs.length → VR P D R w (cs.getD k .u) (cv.getD k undef)) :
    VR P D R (w.alloc (.cells cv t)) (.rp all cs 0) (.pointer (some ⟨w.heap.size, 0, none⟩)) := by
  have hb := below_alloc' w (.cells cv t)
  have : VR P D R (w.alloc (.cells cv t)) (.rp all cs 0) (.pointer (some ⟨w.heap.size, 0 + 0, none⟩)) := by
    refine .rp (f := fun k => cv.getD k undef) (fun hd => absurd (hD _ hd) (by omega)) h0 hW (fun k hk => ?_) (fun k hk => (hv k hk).mono (fun _ _ e => e) (fun b hlt hd => ⟨hd, hb.block b hlt⟩))
    have hk' : k < cv.size := by omega
    simp [World.cell?_alloc_new, Array.getD_eq_getD_getElem?, hk']
  simpa using this

/-- A new row of the evaluator's. -/
theorem SR.fresh (h : SR P w0 X D R st a w) {site : Nat} (hf : R site = none) {t : TypeId} {es : List (List AV)} {cv : Array Value}
    (hle : (cts P t).length = P.cellsOf t) (hz : 0 < P.cellsOf t) (hs : es.length * P.cellsOf t ≤ cv.size) (hW : WT P (.sl t) (.rs t es))
    (hv : ∀ i j, i < es.length → j < P.cellsOf t → ∃ v, cv[i * P.cellsOf t + j]? = some v ∧ VR P D R w ((es.getD i []).getD j .u) v) :
    SR P w0 X (fun b => D b ∨ b = w.heap.size) (fun id => if id = site then some (w.heap.size, P.cellsOf t) else R id) (st.mem site (.row t es)) a (w.alloc (.cells cv t)) := by
  have hb := below_alloc' w (.cells cv t)
  have mono : ∀ {x : AV} {v : Value}, VR P D R w x v → VR P (fun b => D b ∨ b = w.heap.size) (fun id => if id = site then some (w.heap.size, P.cellsOf t) else R id) (w.alloc (.cells cv t)) x v :=
    fun hv => hv.mono (fun id x e => by
      by_cases hid : id = site
      · subst hid; rw [hf] at e; cases e
      · simpa [hid] using e) (fun b hlt hd => ⟨fun e => by
        rcases e with e | e
        · exact hd e
        · omega, hb.block b hlt⟩)
  refine ⟨fun x => mono (h.tmp x), h.nt, fun id => ?_, fun id b s e => ?_, fun id id' b s s' e e' => ?_, fun b hx => .inl (h.X b hx), fun b hd => ?_, h.old.trans hb, ?_⟩
  · simp only [St.mem, gm_cons]
    by_cases hid : id = site
    · subst hid
      simp only [if_true]
      intro _
      refine ⟨w.heap.size, cv, t, by simp, World.alloc_heap_new w _, hle, hz, hs, hW, fun i j hi hj => ?_⟩
      obtain ⟨v, g1, g2⟩ := hv i j hi hj
      exact ⟨v, g1, mono g2⟩
    · simp only [hid, if_false]
      exact (h.mem id).mono (fun x e => by simpa [hid] using e) (fun b s e => hb.block b (h.lt b (h.own id b _ e).1)) fun _ _ => mono
  · by_cases hid : id = site
    · simp only [hid, if_true, Option.some.injEq, Prod.mk.injEq] at e
      obtain ⟨rfl, rfl⟩ := e
      exact ⟨.inr rfl, .inl h.old.size⟩
    · simp only [hid, if_false] at e
      exact ⟨.inl (h.own id b s e).1, (h.own id b s e).2⟩
  · by_cases hid : id = site <;> by_cases hid' : id' = site
    · rw [hid, hid']
    · simp only [hid, if_true, Option.some.injEq, Prod.mk.injEq] at e
      simp only [hid', if_false] at e'
      obtain ⟨rfl, rfl⟩ := e
      exact absurd (h.lt _ (h.own id' _ s' e').1) (by omega)
    · simp only [hid', if_true, Option.some.injEq, Prod.mk.injEq] at e'
      simp only [hid, if_false] at e
      obtain ⟨rfl, rfl⟩ := e'
      exact absurd (h.lt _ (h.own id _ s e).1) (by omega)
    · simp only [hid, if_false] at e
      simp only [hid', if_false] at e'
      exact h.inj _ _ _ _ _ e e'
  · rcases hd with hd | hd
    · have := h.lt b hd; simp; omega
    · simp [hd]
  · obtain ⟨ds, d1, d2, d3⟩ := h.df
    refine ⟨ds, d1, d2, fun b hb' => ?_⟩
    have hlt := (Array.getElem?_eq_some_iff.1 (d3 b hb').1).1
    refine ⟨(hb.block b hlt).trans (d3 b hb').1, fun hd => ?_, (d3 b hb').2.2⟩
    rcases hd with hd | hd
    · exact (d3 b hb').2.1 hd
    · omega
end Go.Ev

set_option linter.unusedVariables false
set_option linter.unusedSimpArgs false
namespace Go.Ev
open Go Go.RowKit

variable {P : Program} {w0 : Base} {X D : Nat → Prop} {R : Nat → Option (Nat × Nat)} {st : St} {a : Act} {w : World}

theorem splice_get {α : Type} (l nv : List α) (o p : Nat) (h : o + nv.length ≤ l.length) :
    (l.take o ++ nv ++ l.drop (o + nv.length))[p]? = if p < o then l[p]? else if p < o + nv.length then nv[p - o]? else l[p]? := by
  by_cases h1 : p < o
  · simp only [h1, if_true]
    rw [List.append_assoc, List.getElem?_append_left (by simp; omega), List.getElem?_take]
    simp [h1]
  · simp only [h1, if_false]
    by_cases h2 : p < o + nv.length
    · simp only [h2, if_true]
      rw [List.append_assoc, List.getElem?_append_right (by simp; omega), List.getElem?_append_left (by simp; omega)]
      congr 1
      simp; omega
    · simp only [h2, if_false]
      rw [List.append_assoc, List.getElem?_append_right (by simp; omega), List.getElem?_append_right (by simp; omega), List.getElem?_drop]
      congr 1
      simp; omega

theorem setCs_length {cs new : List AV} {j : Nat} (h : j + new.length ≤ cs.length) : (setCs cs j new).length = cs.length := by
  unfold setCs
  split
  · simp
  · simp [splice]; omega
theorem setCs_getD {cs new : List AV} {j k : Nat} (h : j + new.length ≤ cs.length) :
    (setCs cs j new).getD k .u = if k < j then cs.getD k .u else if k < j + new.length then new.getD (k - j) .u else cs.getD k .u := by
  unfold setCs
  split
  · rename_i v
    simp only [List.length_cons, List.length_nil, Nat.zero_add] at h ⊢
    simp only [List.getD_eq_getElem?_getD, List.getElem?_set]
    by_cases h1 : j = k
    · subst h1
      have : j < cs.length := by omega
      simp [this]
    · simp only [h1, if_false]
      by_cases h2 : k < j
      · simp [h2]
      · simp [h2, show ¬ k < j + 1 by omega]
  · simp only [splice, List.getD_eq_getElem?_getD, splice_get _ _ _ _ h]
    by_cases h1 : k < j
    · simp [h1]
    · by_cases h2 : k < j + new.length <;> simp [h1, h2]

theorem idx_in {sz i j i' k len : Nat} (hj : j + len ≤ sz) (hk : k < sz) : (i * sz + j ≤ i' * sz + k ∧ i' * sz + k < i * sz + j + len) ↔ (i' = i ∧ j ≤ k ∧ k < j + len) := by
  constructor
  · rintro ⟨h1, h2⟩
    have e : i' = i := by
      rcases Nat.lt_trichotomy i' i with h | h | h
      · have := Nat.mul_le_mul_right sz (show i' + 1 ≤ i by omega)
        rw [Nat.add_mul, Nat.one_mul] at this
        omega
      · exact h
      · have := Nat.mul_le_mul_right sz (show i + 1 ≤ i' by omega)
        rw [Nat.add_mul, Nat.one_mul] at this
        omega
    subst e
    omega
  · rintro ⟨rfl, h1, h2⟩
    omega

/-- A store into a row of the evaluator's. -/
theorem SR.store (h : SR P w0 X D R st a w) {id i j : Nat} {e : TypeId} {es : List (List AV)} {new : List AV} {nv : List Value} {b : Nat} {cells : Array Value} {ty : TypeId}
    (hm : gm st.m id = .row e es) (hR : R id = some (b, P.cellsOf e)) (hh : w.heap[b]? = some (.cells cells ty (0, 0))) (hi : i < es.length) (hj : j + new.length ≤ P.cellsOf e)
    (hl : nv.length = new.length) (hW : ∀ k, k < new.length → WT P ((cts P e).getD (j + k) .oth) (new.getD k .u)) (hv : ∀ k, k < new.length → VR P D R w (new.getD k .u) (nv.getD k undef)) :
    SR P w0 X D R (st.mem id (.row e (es.set i (setCs (es.getD i []) j new)))) a (w.setRow b (cells.toList.take (i * P.cellsOf e + j) ++ nv ++ cells.toList.drop (i * P.cellsOf e + j + nv.length)).toArray) := by
  have hDb : D b := (h.own id b _ hR).1
  generalize hw' : w.setRow b (cells.toList.take (i * P.cellsOf e + j) ++ nv ++ cells.toList.drop (i * P.cellsOf e + j + nv.length)).toArray = w'
  have hother : ∀ k, k ≠ b → w'.heap[k]? = w.heap[k]? := fun k hk => by rw [← hw']; exact setRow_other w b k _ hk
  have mono : ∀ {x : AV} {v : Value}, VR P D R w x v → VR P D R w' x v :=
    fun hv => hv.mono (fun _ _ e => e) (fun k hlt hd => ⟨hd, hother k (fun e => hd (e ▸ hDb))⟩)
  have hrow0 := h.mem id
  rw [hm] at hrow0
  obtain ⟨b', cells', ty', g1, g2, g3, g4, g5, g6, g7⟩ := hrow0 (by intro e0; rw [e0] at hi; simp at hi)
  rw [hR] at g1
  obtain rfl : b = b' := by simpa using g1
  rw [hh] at g2
  obtain ⟨rfl, rfl⟩ : cells = cells' ∧ ty = ty' := by simpa using g2
  have hx : es.getD i [] ∈ es := by simp [List.getD_eq_getElem?_getD, List.getElem?_eq_getElem hi]
  obtain ⟨hlen, hrow, hcell⟩ : es.length ≤ 9223372036854775807 ∧ (∀ x, x ∈ es → x.length = (cts P e).length) ∧ (∀ x, x ∈ es → ∀ j, j < x.length → WT P ((cts P e).getD j .oth) (x.getD j .u)) := by
    cases g6 with
    | sl a b c => exact ⟨a, b, c⟩
  have hxl : (es.getD i []).length = P.cellsOf e := by rw [hrow _ hx, g3]
  have hcs : i * P.cellsOf e + P.cellsOf e ≤ cells.size := by
    have := Nat.mul_le_mul_right (P.cellsOf e) (show i + 1 ≤ es.length by omega)
    rw [Nat.add_mul, Nat.one_mul] at this
    omega
  have hs' : (cells.toList.take (i * P.cellsOf e + j) ++ nv ++ cells.toList.drop (i * P.cellsOf e + j + nv.length)).length = cells.size := by
    simp; omega
  have hw'b : w'.heap[b]? = some (.cells (cells.toList.take (i * P.cellsOf e + j) ++ nv ++ cells.toList.drop (i * P.cellsOf e + j + nv.length)).toArray ty (0, 0)) := by
    rw [← hw']; exact setRow_heap w b cells _ ty _ hh
  have hget : ∀ i' k, k < P.cellsOf e → i' < es.length → ((cells.toList.take (i * P.cellsOf e + j) ++ nv ++ cells.toList.drop (i * P.cellsOf e + j + nv.length)).toArray)[i' * P.cellsOf e + k]? =
      if i' = i ∧ j ≤ k ∧ k < j + new.length then nv[k - j]? else cells[i' * P.cellsOf e + k]? := by
    intro i' k hk hi'
    rw [List.getElem?_toArray, splice_get _ _ _ _ (by simp; omega), hl]
    have hidx := @idx_in (P.cellsOf e) i j i' k new.length hj hk
    by_cases hc : i' = i ∧ j ≤ k ∧ k < j + new.length
    · have h1 := hidx.2 hc
      simp only [hc, and_self, if_true]
      obtain ⟨rfl, hc1, hc2⟩ := hc
      simp only [show ¬ (i' * P.cellsOf e + k < i' * P.cellsOf e + j) by omega, show i' * P.cellsOf e + k < i' * P.cellsOf e + j + new.length by omega, if_true, if_false]
      congr 1
      omega
    · simp only [hc, if_false]
      have h1 : ¬ (i * P.cellsOf e + j ≤ i' * P.cellsOf e + k ∧ i' * P.cellsOf e + k < i * P.cellsOf e + j + new.length) := fun h => hc (hidx.1 h)
      by_cases h2 : i' * P.cellsOf e + k < i * P.cellsOf e + j
      · simp [h2]
      · have h3 : ¬ (i' * P.cellsOf e + k < i * P.cellsOf e + j + new.length) := fun h => h1 ⟨by omega, h⟩
        simp [h2, h3]
  have hsetl : (setCs (es.getD i []) j new).length = P.cellsOf e := by rw [setCs_length (by omega), hxl]
  have hWx : ∀ k, k < P.cellsOf e → WT P ((cts P e).getD k .oth) ((setCs (es.getD i []) j new).getD k .u) := by
    intro k hk
    rw [setCs_getD (by omega)]
    split
    · exact hcell _ hx k (by omega)
    · split
      · have := hW (k - j) (by omega)
        rwa [show j + (k - j) = k by omega] at this
      · exact hcell _ hx k (by omega)
  have hes' : ∀ x, x ∈ es.set i (setCs (es.getD i []) j new) → x = setCs (es.getD i []) j new ∨ x ∈ es := fun x hx => by
    rcases List.mem_or_eq_of_mem_set hx with h | h
    · exact .inr h
    · exact .inl h
  refine ⟨fun t => mono (h.tmp t), h.nt, fun id' => ?_, h.own, h.inj, h.X, fun k hd => by rw [← hw']; simpa using h.lt k hd, ?_, ?_⟩
  · simp only [St.mem, gm_cons]
    by_cases hid : id' = id
    · subst hid
      simp only [if_true]
      intro _
      refine ⟨b, _, ty, hR, hw'b, g3, g4, by rw [List.size_toArray, hs', List.length_set]; exact g5, .sl (by simpa using hlen) (fun x hx => ?_) (fun x hx k hk => ?_), fun i' k hi' hk => ?_⟩
      · rcases hes' x hx with rfl | hx
        · rw [hsetl, g3]
        · exact hrow x hx
      · rcases hes' x hx with rfl | hx
        · exact hWx k (by omega)
        · exact hcell x hx k hk
      · rw [hget i' k hk (by simpa using hi')]
        have hi'' : i' < es.length := by simpa using hi'
        obtain ⟨v, q1, q2⟩ := g7 i' k hi'' hk
        by_cases hc : i' = i
        · subst hc
          have e1 : (es.set i' (setCs (es.getD i' []) j new)).getD i' [] = setCs (es.getD i' []) j new := by simp [List.getD_eq_getElem?_getD, hi'']
          rw [e1, setCs_getD (by omega)]
          by_cases h1 : j ≤ k ∧ k < j + new.length
          · simp only [h1, and_self, true_and, if_true, show ¬ k < j by omega, if_false]
            have := hv (k - j) (by omega)
            refine ⟨nv.getD (k - j) undef, ?_, mono this⟩
            have : k - j < nv.length := by omega
            simp [List.getD_eq_getElem?_getD, this]
          · simp only [h1, and_false, if_false]
            refine ⟨v, q1, ?_⟩
            by_cases h2 : k < j
            · simpa [h2] using mono q2
            · have h3 : ¬ k < j + new.length := fun h => h1 ⟨by omega, h⟩
              simpa [h2, h3] using mono q2
        · simp only [hc, false_and, if_false]
          refine ⟨v, q1, ?_⟩
          have e1 : (es.set i (setCs (es.getD i []) j new)).getD i' [] = es.getD i' [] := by simp [List.getD_eq_getElem?_getD, List.getElem?_set, Ne.symm hc]
          rw [e1]
          exact mono q2
    · simp only [hid, if_false]
      exact (h.mem id').mono (fun _ e => e) (fun b1 s1 h1 => hother b1 fun hb => hid (h.inj _ _ _ _ _ h1 (hb ▸ hR))) fun _ _ => mono
  · have hge := (h.own id b _ hR).2
    refine ⟨by rw [← hw']; exact h.old.os, by rw [← hw']; exact h.old.tape, by rw [← hw']; exact h.old.output, by rw [← hw']; simpa using h.old.size, fun k hk hY => (hother k (fun e => ?_)).trans (h.old.block k hk hY)⟩
    rcases hge with hge | hge
    · omega
    · exact hY (e ▸ hge)
  · obtain ⟨ds, d1, d2, d3⟩ := h.df
    exact ⟨ds, d1, d2, fun k hk => ⟨(hother k (fun e => (d3 k hk).2.1 (e ▸ hDb))).trans (d3 k hk).1, (d3 k hk).2⟩⟩
/-- A store of what may be a slice of a row. -/
theorem SR.storeL (h : SR P w0 X D R st a w) {id i j : Nat} {e : TypeId} {es : List (List AV)} {new : List AV} {nv : List Value} {b : Nat} {cells : Array Value} {ty : TypeId}
    (hm : gm st.m id = .row e es ∨ gm st.m id = .lrow e es) (hR : R id = some (b, P.cellsOf e)) (hh : w.heap[b]? = some (.cells cells ty (0, 0))) (hi : i < es.length) (hj : j + new.length ≤ P.cellsOf e)
    (hl : nv.length = new.length) (hv : ∀ k, k < new.length → VR P D R w (new.getD k .u) (nv.getD k undef)) :
    SR P w0 X D R (st.mem id (.lrow e (es.set i (setCs (es.getD i []) j new)))) a (w.setRow b (cells.toList.take (i * P.cellsOf e + j) ++ nv ++ cells.toList.drop (i * P.cellsOf e + j + nv.length)).toArray) := by
  have hDb : D b := (h.own id b _ hR).1
  generalize hw' : w.setRow b (cells.toList.take (i * P.cellsOf e + j) ++ nv ++ cells.toList.drop (i * P.cellsOf e + j + nv.length)).toArray = w'
  have hother : ∀ k, k ≠ b → w'.heap[k]? = w.heap[k]? := fun k hk => by rw [← hw']; exact setRow_other w b k _ hk
  have mono : ∀ {x : AV} {v : Value}, VR P D R w x v → VR P D R w' x v :=
    fun hv => hv.mono (fun _ _ e => e) (fun k hlt hd => ⟨hd, hother k (fun e => hd (e ▸ hDb))⟩)
  have hrow0 := h.mem id
  have hne : es ≠ [] := by intro e0; rw [e0] at hi; simp at hi
  obtain ⟨b', cells', ty', g1, g2, g3, g4, g5, hrow, g7⟩ : ∃ b cells ty, R id = some (b, P.cellsOf e) ∧ w.heap[b]? = some (.cells cells ty (0, 0)) ∧
    (cts P e).length = P.cellsOf e ∧ 0 < P.cellsOf e ∧ es.length * P.cellsOf e ≤ cells.size ∧ (∀ x, x ∈ es → x.length = (cts P e).length) ∧
    ∀ i j, i < es.length → j < P.cellsOf e → ∃ v, cells[i * P.cellsOf e + j]? = some v ∧ VR P D R w ((es.getD i []).getD j .u) v := by
    rcases hm with hm | hm
    · rw [hm] at hrow0
      obtain ⟨b', cells', ty', g1, g2, g3, g4, g5, g6, g7⟩ := hrow0 hne
      refine ⟨b', cells', ty', g1, g2, g3, g4, g5, ?_, g7⟩
      cases g6 with
      | sl a b c => exact b
    · rw [hm] at hrow0
      exact hrow0 hne
  rw [hR] at g1
  obtain rfl : b = b' := by simpa using g1
  rw [hh] at g2
  obtain ⟨rfl, rfl⟩ : cells = cells' ∧ ty = ty' := by simpa using g2
  have hx : es.getD i [] ∈ es := by simp [List.getD_eq_getElem?_getD, List.getElem?_eq_getElem hi]
  have hxl : (es.getD i []).length = P.cellsOf e := by rw [hrow _ hx, g3]
  have hcs : i * P.cellsOf e + P.cellsOf e ≤ cells.size := by
    have := Nat.mul_le_mul_right (P.cellsOf e) (show i + 1 ≤ es.length by omega)
    rw [Nat.add_mul, Nat.one_mul] at this
    omega
  have hs' : (cells.toList.take (i * P.cellsOf e + j) ++ nv ++ cells.toList.drop (i * P.cellsOf e + j + nv.length)).length = cells.size := by
    simp; omega
  have hw'b : w'.heap[b]? = some (.cells (cells.toList.take (i * P.cellsOf e + j) ++ nv ++ cells.toList.drop (i * P.cellsOf e + j + nv.length)).toArray ty (0, 0)) := by
    rw [← hw']; exact setRow_heap w b cells _ ty _ hh
  have hget : ∀ i' k, k < P.cellsOf e → i' < es.length → ((cells.toList.take (i * P.cellsOf e + j) ++ nv ++ cells.toList.drop (i * P.cellsOf e + j + nv.length)).toArray)[i' * P.cellsOf e + k]? =
      if i' = i ∧ j ≤ k ∧ k < j + new.length then nv[k - j]? else cells[i' * P.cellsOf e + k]? := by
    intro i' k hk hi'
    rw [List.getElem?_toArray, splice_get _ _ _ _ (by simp; omega), hl]
    have hidx := @idx_in (P.cellsOf e) i j i' k new.length hj hk
    by_cases hc : i' = i ∧ j ≤ k ∧ k < j + new.length
    · have h1 := hidx.2 hc
      simp only [hc, and_self, if_true]
      obtain ⟨rfl, hc1, hc2⟩ := hc
      simp only [show ¬ (i' * P.cellsOf e + k < i' * P.cellsOf e + j) by omega, show i' * P.cellsOf e + k < i' * P.cellsOf e + j + new.length by omega, if_true, if_false]
      congr 1
      omega
    · simp only [hc, if_false]
      have h1 : ¬ (i * P.cellsOf e + j ≤ i' * P.cellsOf e + k ∧ i' * P.cellsOf e + k < i * P.cellsOf e + j + new.length) := fun h => hc (hidx.1 h)
      by_cases h2 : i' * P.cellsOf e + k < i * P.cellsOf e + j
      · simp [h2]
      · have h3 : ¬ (i' * P.cellsOf e + k < i * P.cellsOf e + j + new.length) := fun h => h1 ⟨by omega, h⟩
        simp [h2, h3]
  have hsetl : (setCs (es.getD i []) j new).length = P.cellsOf e := by rw [setCs_length (by omega), hxl]
  have hes' : ∀ x, x ∈ es.set i (setCs (es.getD i []) j new) → x = setCs (es.getD i []) j new ∨ x ∈ es := fun x hx => by
    rcases List.mem_or_eq_of_mem_set hx with h | h
    · exact .inr h
    · exact .inl h
  refine ⟨fun t => mono (h.tmp t), h.nt, fun id' => ?_, h.own, h.inj, h.X, fun k hd => by rw [← hw']; simpa using h.lt k hd, ?_, ?_⟩
  · simp only [St.mem, gm_cons]
    by_cases hid : id' = id
    · subst hid
      simp only [if_true]
      intro _
      refine ⟨b, _, ty, hR, hw'b, g3, g4, by rw [List.size_toArray, hs', List.length_set]; exact g5, (fun x hx => ?_), fun i' k hi' hk => ?_⟩
      · rcases hes' x hx with rfl | hx
        · rw [hsetl, g3]
        · exact hrow x hx
      · rw [hget i' k hk (by simpa using hi')]
        have hi'' : i' < es.length := by simpa using hi'
        obtain ⟨v, q1, q2⟩ := g7 i' k hi'' hk
        by_cases hc : i' = i
        · subst hc
          have e1 : (es.set i' (setCs (es.getD i' []) j new)).getD i' [] = setCs (es.getD i' []) j new := by simp [List.getD_eq_getElem?_getD, hi'']
          rw [e1, setCs_getD (by omega)]
          by_cases h1 : j ≤ k ∧ k < j + new.length
          · simp only [h1, and_self, true_and, if_true, show ¬ k < j by omega, if_false]
            have := hv (k - j) (by omega)
            refine ⟨nv.getD (k - j) undef, ?_, mono this⟩
            have : k - j < nv.length := by omega
            simp [List.getD_eq_getElem?_getD, this]
          · simp only [h1, and_false, if_false]
            refine ⟨v, q1, ?_⟩
            by_cases h2 : k < j
            · simpa [h2] using mono q2
            · have h3 : ¬ k < j + new.length := fun h => h1 ⟨by omega, h⟩
              simpa [h2, h3] using mono q2
        · simp only [hc, false_and, if_false]
          refine ⟨v, q1, ?_⟩
          have e1 : (es.set i (setCs (es.getD i []) j new)).getD i' [] = es.getD i' [] := by simp [List.getD_eq_getElem?_getD, List.getElem?_set, Ne.symm hc]
          rw [e1]
          exact mono q2
    · simp only [hid, if_false]
      exact (h.mem id').mono (fun _ e => e) (fun b1 s1 h1 => hother b1 fun hb => hid (h.inj _ _ _ _ _ h1 (hb ▸ hR))) fun _ _ => mono
  · have hge := (h.own id b _ hR).2
    refine ⟨by rw [← hw']; exact h.old.os, by rw [← hw']; exact h.old.tape, by rw [← hw']; exact h.old.output, by rw [← hw']; simpa using h.old.size, fun k hk hY => (hother k (fun e => ?_)).trans (h.old.block k hk hY)⟩
    rcases hge with hge | hge
    · omega
    · exact hY (e ▸ hge)
  · obtain ⟨ds, d1, d2, d3⟩ := h.df
    exact ⟨ds, d1, d2, fun k hk => ⟨(hother k (fun e => (d3 k hk).2.1 (e ▸ hDb))).trans (d3 k hk).1, (d3 k hk).2⟩⟩
end Go.Ev

set_option linter.unusedVariables false
set_option linter.unusedSimpArgs false
namespace Go.Ev
open Go Go.RowKit

variable {P : Program} {w0 : Base} {X D : Nat → Prop} {R : Nat → Option (Nat × Nat)} {st : St} {a : Act} {w : World}

theorem noOth_cell {d : Nat} {e : TypeId} (h : noOth P (d + 1) e = true) {k : Nat} (hk : k < (cts P e).length) : okc P d ((cts P e).getD k .oth) = true := by
  simp only [noOth] at h
  have := List.all_eq_true.1 h ((cts P e)[k]) (List.getElem_mem hk)
  simpa [List.getD_eq_getElem?_getD, List.getElem?_eq_getElem hk, okc] using this
theorem freeL_at {nb : Nat} : ∀ {l : List AV} {k : Nat}, freeL P nb l = true → k < l.length → free P nb (l.getD k .u) = true
  | [], k, _, hk => by simp at hk
  | a :: r, 0, h, _ => by simp only [freeL, Bool.and_eq_true] at h; simpa using h.1
  | a :: r, k + 1, h, hk => by
    simp only [freeL, Bool.and_eq_true] at h
    simpa using freeL_at h.2 (by simpa using hk)

/-- A value that leads to no row but for some is the same wherever the others lie. -/
theorem VR.free_any {nb : Nat} {R' : Nat → Option (Nat × Nat)} (hR : ∀ id, id < nb → R' id = R id) {x : AV} {v : Value} (h : VR P D R w x v) :
    (free P nb x = true → VR P D R' w x v) ∧ (∀ c d, WT P c x → okc P d c = true → VR P D R' w x v) := by
  induction h with
  | b => exact ⟨fun _ => .b, fun _ _ _ _ => .b⟩
  | i h1 h2 => exact ⟨fun _ => .i h1 h2, fun _ _ _ _ => .i h1 h2⟩
  | s h1 => exact ⟨fun _ => .s h1, fun _ _ _ _ => .s h1⟩
  | nl => exact ⟨fun _ => .nl, fun _ _ _ _ => .nl⟩
  | rs0 h => exact ⟨fun _ => .rs0 h, fun _ _ _ _ => .rs0 h⟩
  | e0 h => exact ⟨fun _ => .e0 h, fun _ _ _ _ => .e0 h⟩
  | sl0 h => exact ⟨fun _ => .sl0 h, fun _ _ _ _ => .sl0 h⟩
  | @rs e es b o c f h1 hz h2 h3 h4 h5 h6 h7 ih =>
    have key : ∀ d, noOth P d e = true → VR P D R' w (.rs e es) (.slice (some ⟨b, o, none⟩) es.length c) := by
      intro d hd
      cases d with
      | zero => simp [noOth] at hd
      | succ d =>
        refine .rs h1 hz h2 h3 h4 h5 h6 fun i j hi hj => ?_
        obtain ⟨g1, g2, g3⟩ : es.length ≤ 9223372036854775807 ∧ (∀ x, x ∈ es → x.length = (cts P e).length) ∧ (∀ x, x ∈ es → ∀ j, j < x.length → WT P ((cts P e).getD j .oth) (x.getD j .u)) := by
          cases h5 with
          | sl a b c => exact ⟨a, b, c⟩
        have hx : es.getD i [] ∈ es := by simp [List.getD_eq_getElem?_getD, List.getElem?_eq_getElem hi]
        exact (ih i j hi hj).2 _ d (g3 _ hx j (by rw [g2 _ hx, h3]; exact hj)) (noOth_cell hd (by rw [h3]; exact hj))
    refine ⟨fun hf => key 8 (by simpa [free] using hf), fun c d hW ho => ?_⟩
    cases hW with
    | sl => exact key d (by simpa [okc] using ho)
    | oth => simp [okc] at ho
  | sl h1 h2 h3 => exact ⟨fun hf => .sl ((hR _ (by simpa [free, Nat.blt_eq] using hf)).trans h1) h2 h3, fun c d hW ho => by cases hW; simp [okc] at ho⟩
  | p h1 => exact ⟨fun hf => .p ((hR _ (by simpa [free, Nat.blt_eq] using hf)).trans h1), fun c d hW ho => by cases hW; simp [okc] at ho⟩
  | @rp all cs j b o f h1 h0 h2 h3 h4 ih =>
    refine ⟨fun hf => .rp h1 h0 h2 h3 fun k hk => ?_, fun c d hW ho => by cases hW; simp [okc] at ho⟩
    have hk' : k < all.length := by rw [← h2.1]; exact hk
    simp only [free, Bool.or_eq_true] at hf
    rcases hf with hf | hf
    · have := List.all_eq_true.1 hf (all[k]) (List.getElem_mem hk')
      exact (ih k hk).2 _ 8 (h2.2 k hk) (by simpa [List.getD_eq_getElem?_getD, List.getElem?_eq_getElem hk'] using this)
    · exact (ih k hk).1 (freeL_at hf hk)
  | np => exact ⟨fun _ => .np, fun _ _ _ _ => .np⟩
  | fn h1 _ ih => exact ⟨fun hf => .fn h1 fun k hk => (ih k hk).1 (freeL_at (by simpa [free] using hf) hk), fun c d hW ho => by cases hW; simp [okc] at ho⟩
  | nf => exact ⟨fun _ => .nf, fun _ _ _ _ => .nf⟩
  | yl => exact ⟨fun _ => .yl, fun _ _ _ _ => .yl⟩
  | ni => exact ⟨fun _ => .ni, fun _ _ _ _ => .ni⟩
  | ifc _ ih => exact ⟨fun hf => .ifc (ih.1 (by simpa [free] using hf)), fun c d hW ho => by cases hW; simp [okc] at ho⟩
  | agg h1 _ ih => exact ⟨fun hf => .agg h1 fun k hk => (ih k hk).1 (freeL_at (by simpa [free] using hf) hk), fun c d hW ho => by cases hW; simp [okc] at ho⟩
  | tup h1 _ ih => exact ⟨fun hf => .tup h1 fun k hk => (ih k hk).1 (freeL_at (by simpa [free] using hf) hk), fun c d hW ho => by cases hW; simp [okc] at ho⟩
  | u => exact ⟨fun hf => .u, fun c d hW ho => .u⟩

/-- A row that leads to no row but for some is the same wherever the others lie. -/
theorem RowOK.free {nb : Nat} {R' : Nat → Option (Nat × Nat)} {id id' : Nat} {blk : Blk} (hR : ∀ id, id < nb → R' id = R id) (hid : R' id' = R id) (h : RowOK P D R w id blk) (hf : freeB P nb blk = true) : RowOK P D R' w id' blk := by
  cases blk with
  | dead => trivial
  | row e es =>
    intro hne
    obtain ⟨b, cells, ty, g1, g2, g3, g4, g5, g6, g7⟩ := h hne
    refine ⟨b, cells, ty, hid.trans g1, g2, g3, g4, g5, g6, fun i j hi hj => ?_⟩
    obtain ⟨v, q1, q2⟩ := g7 i j hi hj
    refine ⟨v, q1, ?_⟩
    obtain ⟨w1, w2, w3⟩ : es.length ≤ 9223372036854775807 ∧ (∀ x, x ∈ es → x.length = (cts P e).length) ∧ (∀ x, x ∈ es → ∀ j, j < x.length → WT P ((cts P e).getD j .oth) (x.getD j .u)) := by
      cases g6 with
      | sl a b c => exact ⟨a, b, c⟩
    have hx : es.getD i [] ∈ es := by simp [List.getD_eq_getElem?_getD, List.getElem?_eq_getElem hi]
    have hxl : j < (es.getD i []).length := by rw [w2 _ hx, g3]; exact hj
    simp only [freeB, Bool.or_eq_true] at hf
    rcases hf with hf | hf
    · exact (VR.free_any hR q2).2 _ 7 (w3 _ hx j hxl) (noOth_cell hf (by rw [g3]; exact hj))
    · exact (VR.free_any hR q2).1 (freeL_at (List.all_eq_true.1 hf _ hx) hxl)
  | lrow e es =>
    intro hne
    obtain ⟨b, cells, ty, g1, g2, g3, g4, g5, g6, g7⟩ := h hne
    refine ⟨b, cells, ty, hid.trans g1, g2, g3, g4, g5, g6, fun i j hi hj => ?_⟩
    obtain ⟨v, q1, q2⟩ := g7 i j hi hj
    have hx : es.getD i [] ∈ es := by simp [List.getD_eq_getElem?_getD, List.getElem?_eq_getElem hi]
    exact ⟨v, q1, (VR.free_any hR q2).1 (freeL_at (List.all_eq_true.1 (by simpa [freeB] using hf) _ hx) (by rw [g6 _ hx, g3]; exact hj))⟩

/-! ### What is said of a function -/
def none2 : Nat → Option (Nat × Nat) := fun _ => none
def rows2 (R : Nat → Option (Nat × Nat)) (b : Nat) : Prop := ∃ s, R 0 = some (b, s)
mutual
/-- A value whose slices are of row 0, or of no row. -/
def one : AV → Bool
  | .sl id _ _ => Nat.beq id 0
  | .agg cs => oneL cs
  | .tup cs => oneL cs
  | a => free P 0 a
def oneL : List AV → Bool
  | [] => true
  | a :: r => one a && oneL r
end
theorem oneL_at : ∀ {l : List AV} {k : Nat}, oneL (P := P) l = true → k < l.length → one (P := P) (l.getD k .u) = true
  | [], k, _, hk => by simp at hk
  | a :: r, 0, h, _ => by simp only [oneL, Bool.and_eq_true] at h; simpa using h.1
  | a :: r, k + 1, h, hk => by
    simp only [oneL, Bool.and_eq_true] at h
    simpa using oneL_at h.2 (by simpa using hk)
theorem shiftL_length (site : Nat) : ∀ (l : List AV), (shiftL site l).length = l.length
  | [] => rfl
  | a :: r => by simp [shiftL, shiftL_length site r]
theorem shiftL_at (site : Nat) : ∀ (l : List AV) (k : Nat), k < l.length → (shiftL site l).getD k .u = shift site (l.getD k .u)
  | [], k, hk => by simp at hk
  | a :: r, 0, _ => by simp [shiftL]
  | a :: r, k + 1, hk => by simpa [shiftL] using shiftL_at site r k (by simpa using hk)
theorem VR.shifted {R1 R' : Nat → Option (Nat × Nat)} {site : Nat} (hs : R' site = R1 0) {x : AV} {v : Value} (h : VR P D R1 w x v) (h1 : one (P := P) x = true) : VR P D R' w (shift site x) v := by
  have any : ∀ {x : AV} {v : Value}, VR P D R1 w x v → Ev.free P 0 x = true → VR P D R' w x v := fun h hf => (VR.free_any (nb := 0) (fun _ h => absurd h (by omega)) h).1 hf
  induction h with
  | b => exact .b
  | i q1 q2 => exact .i q1 q2
  | s q1 => exact .s q1
  | nl => exact .nl
  | rs0 h => exact .rs0 h
  | e0 h => exact .e0 h
  | rs q1 q2 q3 q4 q5 q6 q7 q8 _ => exact any (.rs q1 q2 q3 q4 q5 q6 q7 q8) h1
  | @sl id _ _ _ _ _ q1 q2 q3 =>
    have hid : id = 0 := Nat.eq_of_beq_eq_true (by simpa [one] using h1)
    subst hid
    exact .sl (hs.trans q1) q2 q3
  | @sl0 id _ _ _ q =>
    have hid : id = 0 := Nat.eq_of_beq_eq_true (by simpa [one] using h1)
    subst hid
    exact .sl0 q
  | p q => exact any (.p q) h1
  | rp q1 q2 q3 q4 q5 _ => exact any (.rp q1 q2 q3 q4 q5) h1
  | np => exact .np
  | fn q1 q2 _ => exact any (.fn q1 q2) h1
  | nf => exact .nf
  | yl => exact .yl
  | ni => exact .ni
  | ifc q _ => exact any (.ifc q) h1
  | @agg cs _ q1 _ ih =>
    refine .agg (by rw [shiftL_length]; exact q1) fun k hk => ?_
    rw [shiftL_length] at hk
    rw [shiftL_at _ _ _ hk]
    exact ih k hk (oneL_at (by simpa [one] using h1) hk)
  | @tup cs _ q1 _ ih =>
    refine .tup (by rw [shiftL_length]; exact q1) fun k hk => ?_
    rw [shiftL_length] at hk
    rw [shiftL_at _ _ _ hk]
    exact ih k hk (oneL_at (by simpa [one] using h1) hk)
  | u => exact .u
/-- What comes back: a value; it may take a row with it. -/
def Res (P : Program) (X : Nat → Prop) (w w' : World) : AV → Value → Prop
  | .ow e es x, v => ∃ R1 : Nat → Option (Nat × Nat), (∀ id, id ≠ 0 → R1 id = none) ∧ (∀ b s, R1 0 = some (b, s) → w.heap.size ≤ b ∧ b < w'.heap.size) ∧
    RowOK P (fun b => X b ∨ rows2 R1 b) R1 w' 0 (.row e es) ∧ freeB P 0 (.row e es) = true ∧ VR P (fun b => X b ∨ rows2 R1 b) R1 w' x v ∧ one (P := P) x = true
  | x, v => VR P X none2 w' x v
theorem Res_of {X : Nat → Prop} {w w' : World} {x : AV} {v : Value} (h : VR P X none2 w' x v) : Res P X w w' x v := by
  cases x <;> first | exact h | cases h
/-- Called with values that are 'args', the function returns one that is 'v', and nothing that was there has turned. -/
structure Con (P : Program) (f : FuncId) (args : List AV) (v : AV) : Prop where
  fn : ∃ fn, P.funcs[f]? = some fn ∧ (fn.name == "runtime.NumGoroutine") = false ∧ fn.body.isSome = true
  calls : ∀ (X : Nat → Prop) (w : World) (av : Array Value), (∀ b, X b → b < w.heap.size) → av.size = args.length →
    (∀ k, k < args.length → VR P X none2 w (args.getD k .u) (av.getD k undef)) →
    Calls P f av w fun e w' => ∃ v', e = .returned v' ∧ Res P X w w' v v' ∧ Below w.heap.size w w'
def SpecOK (P : Program) (S : Spec) : Prop := ∀ f args pre v, S f args = some (pre, v) → pre = true → Con P f args v

/-- A row that came back. -/
theorem SR.adopt {st : St} {a : Act} {w0 : Base} {X : Nat → Prop} (h : SR P w0 X D R st a w) {site : Nat} (hf : R site = none) {w1 : World} (hb : Below w.heap.size w w1) {R1 : Nat → Option (Nat × Nat)} {e : TypeId} {es : List (List AV)}
    (hfresh : ∀ b s, R1 0 = some (b, s) → w.heap.size ≤ b ∧ b < w1.heap.size) (hrow : RowOK P (fun b => D b ∨ rows2 R1 b) R1 w1 0 (.row e es)) (hfb : freeB P 0 (.row e es) = true) :
    SR P w0 X (fun b => D b ∨ rows2 R1 b) (fun id => if id = site then R1 0 else R id) (st.mem site (.row e es)) a w1 := by
  have hR : ∀ id x, R id = some x → (if id = site then R1 0 else R id) = some x := fun id x e => by
    by_cases hid : id = site
    · rw [hid, hf] at e; cases e
    · simpa [hid] using e
  have hD : ∀ b, b < w.heap.size → ¬ D b → ¬ (D b ∨ rows2 R1 b) := fun b hlt hd e => by
    rcases e with e | ⟨s, e⟩
    · exact hd e
    · have := (hfresh b s e).1; omega
  have mono : ∀ {x : AV} {v : Value}, VR P D R w x v → VR P (fun b => D b ∨ rows2 R1 b) (fun id => if id = site then R1 0 else R id) w1 x v :=
    fun hv => hv.mono hR (fun b hlt hd => ⟨hD b hlt hd, hb.block b hlt⟩)
  refine ⟨fun x => mono (h.tmp x), h.nt, fun id => ?_, fun id b s e => ?_, fun id id' b s s' e e' => ?_, fun b hx => .inl (h.X b hx), fun b hd => ?_, h.old.trans hb, ?_⟩
  · simp only [St.mem, gm_cons]
    by_cases hid : id = site
    · subst hid
      simp only [if_true]
      exact hrow.free (nb := 0) (fun _ h => absurd h (by omega)) (by simp) hfb
    · simp only [hid, if_false]
      exact (h.mem id).mono (fun x e => by simpa [hid] using e) (fun b s e => hb.block b (h.lt b (h.own id b _ e).1)) fun _ _ => mono
  · by_cases hid : id = site
    · simp only [hid, if_true] at e
      have := (hfresh b s e).1
      have := h.old.size
      exact ⟨.inr ⟨s, e⟩, .inl (by omega)⟩
    · simp only [hid, if_false] at e
      exact ⟨.inl (h.own id b s e).1, (h.own id b s e).2⟩
  · by_cases hid : id = site <;> by_cases hid' : id' = site
    · rw [hid, hid']
    · simp only [hid, if_true] at e
      simp only [hid', if_false] at e'
      have := (hfresh b s e).1
      exact absurd (h.lt _ (h.own id' _ s' e').1) (by omega)
    · simp only [hid', if_true] at e'
      simp only [hid, if_false] at e
      have := (hfresh b s' e').1
      exact absurd (h.lt _ (h.own id _ s e).1) (by omega)
    · simp only [hid, if_false] at e
      simp only [hid', if_false] at e'
      exact h.inj _ _ _ _ _ e e'
  · rcases hd with hd | ⟨s, hd⟩
    · exact Nat.lt_of_lt_of_le (h.lt b hd) hb.size
    · exact (hfresh b s hd).2
  · obtain ⟨ds, d1, d2, d3⟩ := h.df
    refine ⟨ds, d1, d2, fun b hb' => ?_⟩
    have hlt := (Array.getElem?_eq_some_iff.1 (d3 b hb').1).1
    exact ⟨(hb.block b hlt).trans (d3 b hb').1, hD b hlt (d3 b hb').2.1, (d3 b hb').2.2⟩
/-- The fence of everything, in a round or not. -/
def FW (ro : Option Nat) : Fence := { Fence.wide with round := ro }
theorem callsIn_FW {ro : Option Nat} {n : Nat} {f : FuncId} {args : Array Value} {Q : Ending → World → Prop} (h : Calls P f args w Q) : CallsIn (FW ro) n P f args w Q :=
  (callsIn_wide (n := n)).2 h
theorem calls_of_FW {ro : Option Nat} {n : Nat} {f : FuncId} {args : Array Value} {Q : Ending → World → Prop} (h : CallsIn (FW ro) n P f args w Q) : Calls P f args w Q :=
  (callsIn_wide (n := n)).1 h

variable {ro : Option Nat} {n : Nat} {o : Oper} {next : Act → World → Prop} {Q : Exit → Act → World → Prop}
theorem wpIn_value {v : Value} {w' : World} (hd : ∀ c, o.op ≠ .defer c) (h : (execOp a.eval o).run P w = .ok (.value v) w') (hn : next (a.put o.dst v) w') : o.wpIn (FW ro) n P a w next Q := by
  refine ⟨fun _ _ => trivial, ?_⟩
  rw [Oper.semAt_eq _ _ _ hd, h]
  exact hn
theorem wpIn_skip' {w' : World} (hd : ∀ c, o.op ≠ .defer c) (h : (execOp a.eval o).run P w = .ok .skip w') (hn : next (a.put o.dst undef) w') : o.wpIn (FW ro) n P a w next Q := by
  refine ⟨fun _ _ => trivial, ?_⟩
  rw [Oper.semAt_eq _ _ _ hd, h]
  exact hn
theorem wpIn_enter {f : FuncId} {args : Array Value} {w' : World} (hd : ∀ c, o.op ≠ .defer c) (h : (execOp a.eval o).run P w = .ok (.enter f args) w')
    {A : Ending → World → Prop} (hc : Calls P f args w' A) (hn : ∀ e w'', A e w'' → ∃ v, e = .returned v ∧ next (a.put o.dst v) w'') : o.wpIn (FW ro) n P a w next Q := by
  refine ⟨fun _ _ => trivial, ?_⟩
  rw [Oper.semAt_eq _ _ _ hd, h]
  refine ⟨fun h => by simp [FW, Fence.wide] at h, callsIn_FW (hc.mono ?_)⟩
  intro e w'' hA
  obtain ⟨v, rfl, hn⟩ := hn e w'' hA
  exact hn
end Go.Ev

set_option linter.unusedVariables false
set_option linter.unusedSimpArgs false
namespace Go.Ev
open Go Go.RowKit

variable {P : Program} {w0 : Base} {X D : Nat → Prop} {R : Nat → Option (Nat × Nat)} {st : St} {a : Act} {w : World}
variable {ro : Option Nat} {n : Nat} {o : Oper} {next : Act → World → Prop} {Q : Exit → Act → World → Prop} {ρ : Type} {K : Eff → Option ρ} {r : ρ} {site : Nat} {S : Spec} {RO : Nat → Bool}

/-- What an operation leaves as it was. -/
structure Fr (P : Program) (D : Nat → Prop) (R : Nat → Option (Nat × Nat)) (w : World) (site : Nat) (e : Eff) (D' : Nat → Prop) (R' : Nat → Option (Nat × Nat)) (w' : World) : Prop where
  R : ∀ id, id ≠ site → R' id = R id
  keep : ∀ b, b < w.heap.size → ¬ D b → ¬ D' b ∧ w'.heap[b]? = w.heap[b]?
  rows : ∀ b, D b → (∀ id blk s, e.m = some (id, blk) → R' id ≠ some (b, s)) → w'.heap[b]? = w.heap[b]?
/-- What follows an operation. -/
def After (P : Program) (w0 : Base) (X : Nat → Prop) (D : Nat → Prop) (R : Nat → Option (Nat × Nat)) (st : St) (a : Act) (w : World) (o : Oper) (site : Nat) {ρ : Type} (K : Eff → Option ρ) (r : ρ) (next : Act → World → Prop) : Prop :=
  ∀ D' R' e v' w', SR P w0 X D' R' (st.app o.dst e) (a.put o.dst v') w' → Fr P D R w site e D' R' w' → K e = some r → next (a.put o.dst v') w'

theorem put_nx (d : Option Nat) (v : AV) : (st.put d v).nx = st.nx := by cases d <;> rfl
theorem put_nt (d : Option Nat) (v : AV) : (st.put d v).nt = st.nt := by cases d <;> rfl
theorem app_nx (d : Option Nat) (e : Eff) : (st.app d e).nx = st.nx := by
  unfold St.app; rw [put_nx]; split <;> rfl
theorem app_nt (d : Option Nat) (e : Eff) : (st.app d e).nt = st.nt := by
  unfold St.app; rw [put_nt]; split <;> rfl

/-- An operation that yields a value and leaves the world alone. -/
theorem op_value (h : SR P w0 X D R st a w) (hb : ∀ x, o.dst = some x → x < st.nt) (hn : After P w0 X D R st a w o site K r next) {v : AV} {v' : Value} (hd : ∀ c, o.op ≠ .defer c)
    (hr : (execOp a.eval o).run P w = .ok (.value v') w) (hv : VR P D R w v v') (he : K ⟨v, none⟩ = some r) : o.wpIn (FW ro) n P a w next Q :=
  wpIn_value hd hr (hn D R ⟨v, none⟩ v' w (h.put hb hv) ⟨fun _ _ => rfl, fun _ _ h => ⟨h, rfl⟩, fun _ _ _ => rfl⟩ he)

theorem inR_wrap (k : IntKind) (x : Int) : k.min ≤ k.wrap x ∧ k.wrap x ≤ k.max := by
  cases k <;> simp only [IntKind.min, IntKind.max, IntKind.wrap, IntKind.signed, IntKind.bits] <;> simp <;> (try split) <;> omega
theorem cond_some {α : Type} {c : Bool} {x : Option α} {r : α} (h : cond c x none = some r) : c = true ∧ x = some r := by
  cases c <;> simp_all
theorem VR.int_inv {k : IntKind} {x : Int} {v : Value} (h : VR P D R w (.i k x) v) : v = .int k x ∧ k.min ≤ x ∧ x ≤ k.max := by
  cases h with
  | i h1 h2 => exact ⟨rfl, h1, h2⟩
theorem VR.bool_inv {x : Bool} {v : Value} (h : VR P D R w (.b x) v) : v = .bool x := by cases h; rfl
theorem VR.str_inv {x : ByteArray} {v : Value} (h : VR P D R w (.s x) v) : v = .string x ∧ x.size ≤ 9223372036854775807 := by
  cases h with
  | s h => exact ⟨rfl, h⟩

theorem tmod_in {k : IntKind} {x y : Int} (hx : k.min ≤ x ∧ x ≤ k.max) (hy : y ≠ 0) : k.min ≤ x.tmod y ∧ x.tmod y ≤ k.max := by
  have h1 : k.min ≤ 0 ∧ 0 ≤ k.max := by cases k <;> simp [IntKind.min, IntKind.max, IntKind.signed, IntKind.bits]
  have h2 := Int.natAbs_tmod x y
  have h3 : x.natAbs % y.natAbs ≤ x.natAbs := Nat.mod_le _ _
  rcases Int.le_total 0 x with h | h
  · have := Int.tmod_nonneg y h
    omega
  · have : x.tmod y ≤ 0 := by
      have e : x.tmod y = -((-x).tmod y) := by rw [Int.neg_tmod]; omega
      have := Int.tmod_nonneg y (show 0 ≤ -x by omega)
      omega
    omega

theorem binI_sound {op : BinOp} {k : IntKind} {x y : Int} {K : AV → Option ρ} (hx : k.min ≤ x ∧ x ≤ k.max) (h : binI op k x y K = some r) :
    ∃ v v', (∀ t, (Go.binOp op t (.int k x) (.int k y)).run P w = .ok v' w) ∧ VR P D R w v v' ∧ K v = some r := by
  cases op <;> simp only [binI] at h <;> first | (cases h; done) | skip
  case add => exact ⟨_, _, fun t => by simp [Go.binOp, Op.intArith], .i (inR_wrap k _).1 (inR_wrap k _).2, h⟩
  case sub => exact ⟨_, _, fun t => by simp [Go.binOp, Op.intArith], .i (inR_wrap k _).1 (inR_wrap k _).2, h⟩
  case mul => exact ⟨_, _, fun t => by simp [Go.binOp, Op.intArith], .i (inR_wrap k _).1 (inR_wrap k _).2, h⟩
  case quo =>
    cases hy : decide (y = 0) with
    | true => rw [hy] at h; cases h
    | false =>
      rw [hy] at h
      have hy' : ¬ y = 0 := by simpa using hy
      exact ⟨_, _, fun t => by simp [Go.binOp, Op.intDiv, hy'], .i (inR_wrap k _).1 (inR_wrap k _).2, h⟩
  case rem =>
    cases hy : decide (y = 0) with
    | true => rw [hy] at h; cases h
    | false =>
      rw [hy] at h
      have hy' : ¬ y = 0 := by simpa using hy
      exact ⟨_, _, fun t => by simp [Go.binOp, Op.intDiv, hy'], .i (tmod_in hx hy').1 (tmod_in hx hy').2, h⟩
  all_goals exact ⟨_, _, fun t => by simp [Go.binOp, Op.intCmp], .b, h⟩

theorem binS_sound {op : BinOp} {x y : ByteArray} {K : AV → Option ρ} (h : binS op x y K = some r) :
    ∃ v v', (∀ t, (Go.binOp op t (.string x) (.string y)).run P w = .ok v' w) ∧ VR P D R w v v' ∧ K v = some r := by
  cases op <;> simp only [binS] at h <;> first | (cases h; done) | skip
  case add =>
    obtain ⟨h1, h2⟩ := cond_some h
    have h1 : x.size + y.size ≤ 140737488355328 := of_decide_eq_true h1
    refine ⟨_, _, fun t => ?_, .s (x := x ++ y) (by simp; omega), h2⟩
    simp [Go.binOp, Op.stringOp, IntKind.max, IntKind.signed, IntKind.bits]
    omega
  all_goals exact ⟨_, _, fun t => by simp [Go.binOp, Op.stringOp], .b, h⟩

/-! ### Parts of structs; '==' -/
theorem VR.agg_inv {cs : List AV} {v : Value} (h : VR P D R w (.agg cs) v) : ∃ cv, v = .agg cv ∧ cv.size = cs.length ∧ ∀ k, k < cs.length → VR P D R w (cs.getD k .u) (cv.getD k undef) := by
  cases h with
  | agg h1 h2 => exact ⟨_, rfl, h1, h2⟩
theorem run_sizeOf_of {t : TypeId} {d : TypeDesc} (h : P.underlying t = some d) (w : World) : (sizeOf t).run P w = .ok (P.cellsOf t) w := by
  unfold Program.underlying at h
  cases hi : P.info? t with
  | none => simp [hi] at h
  | some i => simp [sizeOf, typeInfo, hi, Program.cellsOf]
theorem partV_sound {t : TypeId} {cs : List AV} {cv : Array Value} {off : Nat} {x : AV} (hs : cv.size = cs.length) (hv : ∀ k, k < cs.length → VR P D R w (cs.getD k .u) (cv.getD k undef)) (h : partV P t cs off = some x) :
    ∃ v, (part t cv off).run P w = .ok v w ∧ VR P D R w x v := by
  unfold partV at h
  cases hu : P.underlying t with
  | none => rw [hu] at h; cases h
  | some d =>
    rw [hu] at h
    simp only at h
    simp only [part, Sem.run_bind, run_isAgg' hu, Result.andThen_ok]
    cases hA : isAgg P t with
    | true =>
      rw [hA] at h
      simp only [cond_true, Option.some.injEq] at h
      subst h
      refine ⟨.agg (cv.extract off (off + P.cellsOf t)), by simp [run_sizeOf_of hu], .agg ?_ fun k hk => ?_⟩
      · simp [hs]; omega
      · simp only [List.length_take, List.length_drop] at hk
        have h1 : off + k < cs.length := by omega
        have := hv (off + k) h1
        have h2 : off + k < cv.size := by omega
        simpa [List.getD_eq_getElem?_getD, Array.getD_eq_getD_getElem?, List.getElem?_take, show k < P.cellsOf t by omega, Array.getElem?_extract, show k < min (off + P.cellsOf t) cv.size - off by omega, h1, h2] using this
    | false =>
      rw [hA] at h
      simp only [cond_false] at h
      have hlt : off < cs.length := (List.getElem?_eq_some_iff.1 h).1
      have h2 : off < cv.size := by omega
      refine ⟨cv[off], by simp [h2], ?_⟩
      have := hv off hlt
      simpa [List.getD_eq_getElem?_getD, Array.getD_eq_getD_getElem?, h, h2] using this

theorem eqFs_sound {d : Nat} {ev : TypeId → AV → AV → Option Bool} {xs ys : List AV} {xv yv : Array Value}
    (hev : ∀ t x y b v u, ev t x y = some b → VR P D R w x v → VR P D R w y u → (Op.equalIn d t v u).run P w = .ok b w)
    (hx : xv.size = xs.length) (hxv : ∀ k, k < xs.length → VR P D R w (xs.getD k .u) (xv.getD k undef))
    (hy : yv.size = ys.length) (hyv : ∀ k, k < ys.length → VR P D R w (ys.getD k .u) (yv.getD k undef)) :
    ∀ {fs : List Field} {b : Bool}, eqFs P ev xs ys fs = some b → (Op.eqFields d xv yv fs).run P w = .ok b w
  | [], b, h => by
    simp only [eqFs, Option.some.injEq] at h
    subst h
    simp [Op.eqFields]
  | f :: fs, b, h => by
    simp only [eqFs] at h
    obtain ⟨hn, h⟩ := cond_some h
    have hn' : f.name ≠ "_" := by simpa using hn
    cases h1 : partV P f.type xs f.offset with
    | none => simp [h1] at h
    | some x =>
      cases h2 : partV P f.type ys f.offset with
      | none => simp [h1, h2] at h
      | some y =>
        simp only [h1, h2] at h
        obtain ⟨v, r1, v1⟩ := partV_sound hx hxv h1
        obtain ⟨u, r2, v2⟩ := partV_sound hy hyv h2
        cases he : ev f.type x y with
        | none => simp [he] at h
        | some r =>
          have r3 := hev _ _ _ _ _ _ he v1 v2
          rw [Op.eqFields, if_pos hn']
          simp only [Sem.run_bind, r1, r2, r3, Result.andThen_ok]
          cases fs with
          | nil =>
            simp only [he, Option.some.injEq] at h
            subst h
            cases r <;> simp [Op.eqFields]
          | cons g gs =>
            cases hs : eqFs P ev xs ys (g :: gs) with
            | none => simp [he, hs] at h
            | some s =>
              simp only [he, hs, Option.some.injEq] at h
              subst h
              have ih := eqFs_sound hev hx hxv hy hyv hs
              cases r
              · simp
              · simpa using ih

theorem eqV_sound : ∀ {d : Nat} {t : TypeId} {x y : AV} {b : Bool} {v u : Value} {d' : Nat}, d ≤ d' → eqV P d t x y = some b → VR P D R w x v → VR P D R w y u → (Op.equalIn d' t v u).run P w = .ok b w
  | 0, _, _, _, _, _, _, _, _, h, _, _ => by simp [eqV] at h
  | d + 1, t, x, y, b, v, u, 0, hd, _, _, _ => by omega
  | d + 1, t, x, y, b, v, u, d' + 1, hd, h, hx, hy => by
    simp only [eqV] at h
    split at h
    · rename_i hu
      cases h; cases hx; cases hy
      exact run_equalIn_bool' w d' t _ _ hu
    · rename_i hu
      obtain ⟨hk, h⟩ := cond_some h
      cases h
      obtain ⟨rfl, _⟩ := hx.int_inv
      obtain ⟨rfl, _⟩ := hy.int_inv
      have := of_decide_eq_true hk
      subst this
      exact run_equalIn_int w d' t _ _ _ _ hu
    · rename_i hu
      cases h
      obtain ⟨rfl, _⟩ := hx.str_inv
      obtain ⟨rfl, _⟩ := hy.str_inv
      exact run_equalIn_string w d' t _ _ hu
    · rename_i fs xs ys hu
      obtain ⟨hp, h⟩ := cond_some h
      obtain ⟨xv, rfl, h1, h2⟩ := hx.agg_inv
      obtain ⟨yv, rfl, h3, h4⟩ := hy.agg_inv
      have hf : P.fieldsOf t = fs := by simp [Program.fieldsOf, hu]
      rw [run_equalIn_struct (P := P) w d' t xv yv (by rw [hf]; exact hu) (by simpa using hp), hf]
      exact eqFs_sound (fun t x y b v u h hx hy => eqV_sound (by omega) h hx hy) h1 h2 h3 h4 h
    · cases h
end Go.Ev

set_option linter.unusedVariables false
set_option linter.unusedSimpArgs false
namespace Go.Ev
open Go Go.RowKit

variable {P : Program} {w0 : Base} {X D : Nat → Prop} {R : Nat → Option (Nat × Nat)} {st : St} {a : Act} {w : World}
variable {ro : Option Nat} {n : Nat} {o : Oper} {next : Act → World → Prop} {Q : Exit → Act → World → Prop} {ρ : Type} {K : Eff → Option ρ} {r : ρ} {site : Nat} {S : Spec} {RO : Nat → Bool}

theorem run_asBool {x : Bool} : (asBool (.bool x)).run P w = .ok x w := rfl

theorem best_sound {mx : Bool} : ∀ {l : List AV} {x v : AV} {lv : List Value} {xv : Value}, best (if mx then bmax else bmin) x l = some v → VR P D R w x xv → lv.length = l.length →
    (∀ k, k < l.length → VR P D R w (l.getD k .u) (lv.getD k undef)) → ∃ u, (lv.foldlM (if mx then Builtin.max2 else Builtin.min2) xv).run P w = .ok u w ∧ VR P D R w v u
  | [], x, v, lv, xv, h, hx, hl, _ => by
    obtain rfl : lv = [] := by simpa using hl
    cases x <;> simp only [best] at h <;> first | (cases h; done) | skip
    cases h
    exact ⟨xv, by simp [List.foldlM], hx⟩
  | y :: l, x, v, lv, xv, h, hx, hl, hv => by
    match lv, hl with
    | yv :: lv, hl =>
      have hy := hv 0 (by simp)
      simp only [List.getD_cons_zero] at hy
      cases x with
      | i k p =>
        cases y with
        | i k' q =>
          simp only [best] at h
          obtain ⟨hk, h2⟩ := cond_some h
          have := of_decide_eq_true hk
          subst this
          obtain ⟨rfl, p1, p2⟩ := hx.int_inv
          obtain ⟨rfl, q1, q2⟩ := hy.int_inv
          have hbnd : VR P D R w (.i k ((if mx then bmax else bmin) p q)) (.int k ((if mx then bmax else bmin) p q)) := by
            cases mx <;> simp only [bmax, bmin, if_true, if_false, Bool.false_eq_true] <;> split <;> exact .i (by assumption) (by assumption)
          obtain ⟨u, g1, g2⟩ := best_sound (mx := mx) (lv := lv) h2 hbnd (by simpa using hl) (fun j hj => by simpa using hv (j + 1) (by simpa using hj))
          refine ⟨u, ?_, g2⟩
          simp only [List.foldlM, Sem.run_bind]
          cases mx
          · simpa [Builtin.min2, bmin] using g1
          · simpa [Builtin.max2, bmax] using g1
        | _ => simp [best] at h
      | _ => cases y <;> simp [best] at h

theorem getD_map {α β : Type} (f : α → β) (l : List α) (k : Nat) (d : α) (d' : β) (h : k < l.length) : (l.map f).getD k d' = f (l.getD k d) := by
  simp [List.getD_eq_getElem?_getD, h]

/-- The arguments of a call. -/
theorem args_at (h : SR P w0 X D R st a w) (l : List Operand) : ∀ k, k < (l.map (val st)).length → VR P D R w ((l.map (val st)).getD k .u) ((l.map a.eval).getD k undef) := by
  intro k hk
  simp only [List.length_map] at hk
  rw [getD_map _ _ _ (.const Go.undef) _ hk, getD_map _ _ _ (.const Go.undef) _ hk]
  exact h.val _
theorem fitArgs_length : ∀ (ts : List TypeId) (l : List AV), (fitArgs P ts l).length = l.length
  | [], _ => rfl
  | _ :: _, [] => rfl
  | t :: ts, v :: vs => by simp [fitArgs, fitArgs_length ts vs]
theorem fitArgs_at : ∀ (ts : List TypeId) (l : List AV) (lv : List Value), (∀ k, k < l.length → VR P D R w (l.getD k .u) (lv.getD k undef)) → ∀ k, k < l.length → VR P D R w ((fitArgs P ts l).getD k .u) (lv.getD k undef)
  | [], _, _, h => h
  | _ :: _, [], _, h => h
  | t :: ts, v :: vs, lv, h => by
    intro k hk
    cases k with
    | zero => simpa [fitArgs] using VR_fitA t (by simpa using h 0 (by simp))
    | succ k =>
      have := fitArgs_at ts vs lv.tail (fun j hj => by
        have := h (j + 1) (by simpa using hj)
        cases lv <;> simpa using this) k (by simpa using hk)
      cases lv <;> simpa [fitArgs] using this

/-- New cells. -/
theorem fresh_sound (h : SR P w0 X D R st a w) (hf : R site = none) (hb : ∀ x, o.dst = some x → x < st.nt) (hn : After P w0 X D R st a w o site K r next) (hd : ∀ c, o.op ≠ .defer c)
    {t : TypeId} {cs : List AV} {cv : Array Value} (hW : WTs P (cts P t) cs) (hs : cv.size = cs.length) (hv : ∀ k, k < cs.length → VR P D R w (cs.getD k .u) (cv.getD k undef))
    (hr : (execOp a.eval o).run P w = .ok (.value (.pointer (some ⟨w.heap.size, 0, none⟩))) (w.alloc (.cells cv t)))
    (he : fresh P RO site o.dst t cs K = some r) : o.wpIn (FW ro) n P a w next Q := by
  unfold fresh at he
  obtain ⟨ho, he⟩ := cond_some he
  obtain ⟨h1, h2, _⟩ := okT_spec ho
  have hl : cs.length = P.cellsOf t := by rw [hW.1, h1]
  cases hro : (o.dst.map RO).getD false with
  | true =>
    rw [hro] at he
    have h' := h.world (below_alloc' w (.cells cv t))
    have hp := VR_new_rp (P := P) (R := R) (t := t) h.lt hs (by omega) hW hv
    exact wpIn_value hd hr (hn D R ⟨_, none⟩ _ _ (h'.put hb hp) ⟨fun _ _ => rfl, fun b hlt hd => ⟨hd, (below_alloc' w _).block b hlt⟩, fun b hd _ => (below_alloc' w _).block b (h.lt b hd)⟩ he)
  | false =>
    rw [hro] at he
    have h' := h.fresh (t := t) (es := [cs]) (cv := cv) hf h1 h2 (by simp [hs, hl]) (.sl (by simp) (fun x hx => by
      obtain rfl := List.mem_singleton.1 hx
      exact hW.1) (fun x hx j hj => by
      obtain rfl := List.mem_singleton.1 hx
      exact hW.2 j hj)) (fun i j hi hj => by
      have : i = 0 := by simpa using hi
      subst this
      have hj' : j < cs.length := by omega
      refine ⟨cv.getD j Go.undef, ?_, by simpa using hv j hj'⟩
      have : j < cv.size := by omega
      simp [Array.getD_eq_getD_getElem?, this])
    have hp : VR P (fun b => D b ∨ b = w.heap.size) (fun id => if id = site then some (w.heap.size, P.cellsOf t) else R id) (w.alloc (.cells cv t)) (.p site 0 0) (.pointer (some ⟨w.heap.size, 0, none⟩)) := by
      have : VR P (fun b => D b ∨ b = w.heap.size) (fun id => if id = site then some (w.heap.size, P.cellsOf t) else R id) (w.alloc (.cells cv t)) (.p site 0 0) (.pointer (some ⟨w.heap.size, 0 * P.cellsOf t + 0, none⟩)) := .p (by simp)
      simpa using this
    exact wpIn_value hd hr (hn _ _ ⟨_, some (site, .row t [cs])⟩ _ _ (h'.put hb hp) ⟨fun id hid => by simp [hid], fun b hlt hd => ⟨fun e => by
      rcases e with e | e
      · exact hd e
      · omega, (below_alloc' w _).block b hlt⟩, fun b hd _ => (below_alloc' w _).block b (h.lt b hd)⟩ he)

theorem zeroOf_sound {t : TypeId} {cs : List AV} (h : zeroOf P t = some cs) : ∃ i z, P.info? t = some i ∧ i.zero = some z ∧ WTs P (cts P t) cs ∧ z.cells.size = cs.length ∧ ∀ k, k < cs.length → VR P D R w (cs.getD k .u) (z.cells.getD k undef) := by
  unfold zeroOf at h
  cases hi : P.info? t with
  | none => simp [hi] at h
  | some i =>
    cases hz : i.zero with
    | none => simp [hi, hz] at h
    | some z =>
      simp only [hi, Option.bind_some, hz] at h
      obtain ⟨g1, g2, g3, _⟩ := fitCs_sound (P := P) (D := D) (R := R) (w := w) (cv := z.cells.toList) h (by simp) (fun k hk => by
        simp only [List.length_map] at hk
        rw [getD_map _ _ _ Go.undef _ hk]
        exact VR_ofC _)
      refine ⟨i, z, rfl, hz, g1, by simpa using g2.symm, fun k hk => ?_⟩
      have := g3 k hk
      simpa [Array.getD_eq_getD_getElem?, List.getD_eq_getElem?_getD] using this
end Go.Ev

set_option linter.unusedVariables false
set_option linter.unusedSimpArgs false
namespace Go.Ev
open Go Go.RowKit

variable {P : Program} {w0 : Base} {X D : Nat → Prop} {R : Nat → Option (Nat × Nat)} {st : St} {a : Act} {w : World}
variable {ro : Option Nat} {n : Nat} {o : Oper} {next : Act → World → Prop} {Q : Exit → Act → World → Prop} {ρ : Type} {K : Eff → Option ρ} {r : ρ} {site : Nat} {S : Spec} {RO : Nat → Bool}

theorem inb_spec {x : Int} {len : Nat} (h : inb x len = true) : 0 ≤ x ∧ x < (len : Int) ∧ x.toNat < len := by
  unfold inb at h
  simp only [Bool.and_eq_true, decide_eq_true_eq] at h
  omega

theorem eqGuard_int (op : BinOp) (t : TypeId) (ox oy : Operand) (k k' : IntKind) (x y : Int) : (eqGuard op t ox oy (.int k x) (.int k' y) : Sem Unit).run P w = .ok () w := by cases op <;> simp [eqGuard]
theorem eqGuard_str (op : BinOp) (t : TypeId) (ox oy : Operand) (x y : ByteArray) : (eqGuard op t ox oy (.string x) (.string y) : Sem Unit).run P w = .ok () w := by cases op <;> simp [eqGuard]
theorem run_equalIn_slice {t e : TypeId} {a : Option Addr} {l c : Nat} (d : Nat) (w : World) (hu : P.underlying t = some (.slice e)) : (Op.equalIn (d + 1) t (.slice a l c) (.slice none 0 0)).run P w = .ok a.isNone w := by
  cases a <;> simp [Op.equalIn, run_underlying' hu]
theorem binN_sound {op : BinOp} {t : TypeId} {b : Bool} {a : Option Addr} {l c : Nat} {ox oy : Operand} {K : AV → Option ρ} (ha : a.isNone = b) (h : binN P op t b K = some r) :
    ∃ v v', (do eqGuard op t ox oy (.slice a l c) (.slice none 0 0); Go.binOp op t (.slice a l c) (.slice none 0 0) : Sem Value).run P w = .ok v' w ∧ VR P D R w v v' ∧ K v = some r := by
  unfold binN at h
  split at h
  · rename_i e hu
    refine ⟨_, _, ?_, .b, h⟩
    subst ha; simp [eqGuard, Go.binOp, Op.equal, Op.maxDepth, run_equalIn_slice 9999 w hu]
  · rename_i e hu
    refine ⟨_, _, ?_, .b, h⟩
    subst ha; simp [eqGuard, Go.binOp, Op.equal, Op.maxDepth, run_equalIn_slice 9999 w hu]
  · cases h
theorem bin_sound {op : BinOp} {t : TypeId} {x y : AV} {xv yv : Value} {ox oy : Operand} {K : AV → Option ρ} (hx : VR P D R w x xv) (hy : VR P D R w y yv) (h : bin P op t x y K = some r) :
    ∃ v v', (do eqGuard op t ox oy xv yv; Go.binOp op t xv yv : Sem Value).run P w = .ok v' w ∧ VR P D R w v v' ∧ K v = some r := by
  unfold bin at h
  split at h
  · obtain ⟨hk, h9⟩ := cond_some h
    have := of_decide_eq_true hk
    subst this
    obtain ⟨rfl, hb⟩ := hx.int_inv
    obtain ⟨rfl, _⟩ := hy.int_inv
    obtain ⟨v, v', h1, h2, h3⟩ := binI_sound (P := P) (D := D) (R := R) (w := w) hb h9
    refine ⟨v, v', ?_, h2, h3⟩
    simp only [Sem.run_bind, eqGuard_int, Result.andThen_ok, h1]
  · obtain ⟨rfl, _⟩ := hx.str_inv
    obtain ⟨rfl, _⟩ := hy.str_inv
    obtain ⟨v, v', h1, h2, h3⟩ := binS_sound (P := P) (D := D) (R := R) (w := w) h
    refine ⟨v, v', ?_, h2, h3⟩
    simp only [Sem.run_bind, eqGuard_str, Result.andThen_ok, h1]
  · obtain rfl := hx.bool_inv
    obtain rfl := hy.bool_inv
    split at h
    · rename_i hu
      refine ⟨_, _, ?_, .b, h⟩
      simp [eqGuard, Go.binOp, Op.equal, Op.maxDepth, run_equalIn_bool' w 9999 t _ _ hu]
    · rename_i hu
      refine ⟨_, _, ?_, .b, h⟩
      simp [eqGuard, Go.binOp, Op.equal, Op.maxDepth, run_equalIn_bool' w 9999 t _ _ hu]
    · cases h
  · rename_i xs ys
    obtain ⟨xv', rfl, h1, h2⟩ := hx.agg_inv
    obtain ⟨yv', rfl, h3, h4⟩ := hy.agg_inv
    cases he : eqV P 16 t (.agg xs) (.agg ys) with
    | none => rw [he] at h; cases op <;> simp at h
    | some b =>
      rw [he] at h
      have hr := eqV_sound (P := P) (D := D) (R := R) (w := w) (d' := 10000) (by omega) he hx hy
      cases op <;> simp only at h <;> first | (cases h; done) | skip
      · obtain ⟨hg, h⟩ := cond_some h
        have hg := run_eqGuard_agg w .eql t ox oy xv' yv' (by simpa using hg)
        exact ⟨_, _, by simp only [Sem.run_bind, hg, Result.andThen_ok, run_eql_struct, hr], .b, h⟩
      · obtain ⟨hg, h⟩ := cond_some h
        have hg := run_eqGuard_agg w .neq t ox oy xv' yv' (by simpa using hg)
        exact ⟨_, _, by simp only [Sem.run_bind, hg, Result.andThen_ok, run_neq_struct, hr], .b, h⟩
  · cases hy
    cases hx with
    | rs => exact binN_sound rfl h
  · cases hy
    cases hx
    exact binN_sound rfl h
  · cases hy
    cases hx
    exact binN_sound rfl h
  · cases h

theorem VR.rs_row {e : TypeId} {es : List (List AV)} {v : Value} (h : VR P D R w (.rs e es) v) {i : Nat} (hi : i < es.length) :
    ∃ b o c, v = .slice (some ⟨b, o, none⟩) es.length c ∧ 0 < P.cellsOf e ∧ VR P D R w (.rp (cts P e) (es.getD i []) 0) (.pointer (some ⟨b, o + i * P.cellsOf e, none⟩)) := by
  cases h with
  | rs0 => simp at hi
  | @rs e es b o c f h1 hz h2 h3 h4 h5 h6 h7 =>
    obtain ⟨g1, g2, g3⟩ : es.length ≤ 9223372036854775807 ∧ (∀ x, x ∈ es → x.length = (cts P e).length) ∧ (∀ x, x ∈ es → ∀ j, j < x.length → WT P ((cts P e).getD j .oth) (x.getD j .u)) := by
      cases h5 with
      | sl a b c => exact ⟨a, b, c⟩
    have hx : es.getD i [] ∈ es := by simp [List.getD_eq_getElem?_getD, List.getElem?_eq_getElem hi]
    have hl : (es.getD i []).length = P.cellsOf e := by rw [g2 _ hx, h3]
    refine ⟨b, o, c, rfl, hz, ?_⟩
    have : VR P D R w (.rp (cts P e) (es.getD i []) 0) (.pointer (some ⟨b, (o + i * P.cellsOf e) + 0, none⟩)) :=
      .rp (f := f i) h4 (by omega) ⟨g2 _ hx, g3 _ hx⟩ (fun k hk => by rw [Nat.add_assoc]; exact h6 i k hi (by omega)) (fun k hk => h7 i k hi (by omega))
    simpa using this

theorem run_indexAt_slice {t e : TypeId} {k : IntKind} {x : Int} {ad : Addr} {len c : Nat} (hu : P.underlying t = some (.slice e)) (h0 : 0 ≤ x) (h1 : x < (len : Int)) (hz : 0 < P.cellsOf e) :
    (Instr.indexAt t (.slice (some ad) len c) (.int k x)).run P w = .ok (.pointer (some (ad.add (x.toNat * P.cellsOf e)))) w := by
  simp [Instr.indexAt, asIntOf, run_underlying' hu, run_sizeOf' hz, h0, h1]

theorem run_fieldPlace {f : Field} {b o : Nat} (hz : 0 < P.cellsOf f.type) : (fieldPlace ⟨b, o, none⟩ f).run P w = .ok ⟨b, o + f.offset, none⟩ w := by
  have : ¬ P.cellsOf f.type = 0 := by omega
  simp [fieldPlace, run_sizeOf' hz, this, add_plain']

theorem run_alloc' {t : TypeId} {i : TypeInfo} {z : Value} (h1 : P.info? t = some i) (h2 : i.zero = some z) :
    (Instr.alloc t true (.tuple #[])).run P w = .ok (.pointer (some ⟨w.heap.size, 0, none⟩)) (w.alloc (.cells z.cells t)) := by
  simp [Instr.alloc, zeroValue, typeInfo, h1, h2, newVar, newRow, newObj, Sem.run]
theorem run_box' {t : TypeId} {v : Value} : (Instr.box t v).run P w = .ok (.pointer (some ⟨w.heap.size, 0, none⟩)) (w.alloc (.cells v.cells t)) := by
  simp [Instr.box, newVar, newRow, newObj, Sem.run]

theorem foldl_set (off : Nat) : ∀ (l : List Value) (j0 : Nat) (arr : Array Value), off + j0 + l.length ≤ arr.size →
    ((l.zipIdx j0).foldl (fun cs (x : Value × Nat) => cs.setIfInBounds (off + x.2) x.1) arr).size = arr.size ∧
    ∀ k, ((l.zipIdx j0).foldl (fun cs (x : Value × Nat) => cs.setIfInBounds (off + x.2) x.1) arr).getD k undef = if off + j0 ≤ k ∧ k < off + j0 + l.length then l.getD (k - (off + j0)) undef else arr.getD k undef
  | [], j0, arr, _ => ⟨by simp, fun k => by
    have : ¬ (off + j0 ≤ k ∧ k < off + j0) := by omega
    simp [this]⟩
  | v :: l, j0, arr, h => by
    simp only [List.length_cons] at h
    obtain ⟨h1, h2⟩ := foldl_set off l (j0 + 1) (arr.setIfInBounds (off + j0) v) (by simp; omega)
    simp only [List.zipIdx_cons, List.foldl_cons]
    refine ⟨by rw [h1]; simp, fun k => ?_⟩
    rw [h2 k]
    by_cases c1 : off + (j0 + 1) ≤ k ∧ k < off + (j0 + 1) + l.length
    · have c2 : off + j0 ≤ k ∧ k < off + j0 + (l.length + 1) := by omega
      simp only [c1, and_self, if_true, List.length_cons, c2]
      rw [show k - (off + j0) = (k - (off + (j0 + 1))) + 1 by omega, List.getD_cons_succ]
    · by_cases c3 : k = off + j0
      · subst c3
        have c2 : off + j0 ≤ off + j0 ∧ off + j0 < off + j0 + (l.length + 1) := by omega
        have c4 : ¬ (off + (j0 + 1) ≤ off + j0 ∧ off + j0 < off + (j0 + 1) + l.length) := by omega
        have c5 : off + j0 < arr.size := by omega
        simp only [c4, if_false, List.length_cons, c2, and_self, if_true]
        simp [Array.getD_eq_getD_getElem?, c5]
      · have c2 : ¬ (off + j0 ≤ k ∧ k < off + j0 + (l.length + 1)) := by omega
        simp only [c1, if_false, List.length_cons, c2]
        simp [Array.getD_eq_getD_getElem?, Array.getElem?_setIfInBounds, Ne.symm c3]

theorem cells_at {v : AV} {u : Value} (h : VR P D R w v u) (hu : v ≠ .u) : u.cells.size = (cellsOf v).length ∧ ∀ k, k < (cellsOf v).length → VR P D R w ((cellsOf v).getD k .u) (u.cells.getD k undef) := by
  have single : cellsOf v = [v] → u.cells = #[u] → u.cells.size = (cellsOf v).length ∧ ∀ k, k < (cellsOf v).length → VR P D R w ((cellsOf v).getD k .u) (u.cells.getD k undef) := by
    intro h1 h2
    rw [h1, h2]
    refine ⟨rfl, fun k hk => ?_⟩
    have : k = 0 := by simpa using hk
    subst this
    simpa using h
  cases h with
  | agg h1 h2 => exact ⟨h1, h2⟩
  | u => exact (hu rfl).elim
  | _ => exact single rfl rfl

theorem fill_sound {pl : Nat → Option (Nat × TypeId)} {pc : Nat → Option (Nat × Nat)} (hpl : ∀ i x, pl i = some x → pc i = some (x.1, P.cellsOf x.2)) :
    ∀ {parts : List (Nat × AV)} {pv : List (Nat × Value)} {cs cs' : List AV} {cv : Array Value}, fill P pl cs parts = some cs' → cv.size = cs.length → (∀ k, k < cs.length → VR P D R w (cs.getD k .u) (cv.getD k undef)) →
      pv.length = parts.length → (∀ k, k < parts.length → (pv.getD k (0, undef)).1 = (parts.getD k (0, .u)).1 ∧ VR P D R w (parts.getD k (0, .u)).2 (pv.getD k (0, undef)).2) →
      ∃ cv', Instr.fill pc cv pv = some cv' ∧ cv'.size = cs'.length ∧ ∀ k, k < cs'.length → VR P D R w (cs'.getD k .u) (cv'.getD k undef)
  | [], pv, cs, cs', cv, h, hs, hv, hl, _ => by
    obtain rfl : pv = [] := by simpa using hl
    simp only [fill, Option.some.injEq] at h
    subst h
    exact ⟨cv, rfl, hs, hv⟩
  | (i, v) :: parts, pv, cs, cs', cv, h, hs, hv, hl, hp => by
    match pv, hl with
    | (i', u) :: pv, hl =>
      obtain ⟨e1, e3⟩ := hp 0 (by simp)
      simp only [List.getD_cons_zero] at e1 e3
      subst e1
      simp only [fill] at h
      cases hpi : pl i' with
      | none => simp [hpi] at h
      | some x =>
        obtain ⟨off, t⟩ := x
        simp only [hpi] at h
        obtain ⟨hc, h⟩ := cond_some h
        simp only [Bool.and_eq_true] at hc
        have e2 : v ≠ .u := fun e => by have := hc.1.1; rw [e] at this; cases this
        have hc1 := Nat.eq_of_beq_eq_true hc.1.2
        have hc2 : off + (cellsOf v).length ≤ cs.length := Nat.le_of_ble_eq_true hc.2
        obtain ⟨q1, q2⟩ := cells_at e3 e2
        have hpc := hpl _ _ hpi
        simp only at hpc
        obtain ⟨f1, f2⟩ := foldl_set off u.cells.toList 0 cv (by simp; omega)
        simp only [Nat.add_zero] at f2
        have hfold : u.cells.zipIdx.foldl (fun cs (x : Value × Nat) => cs.setIfInBounds (off + x.2) x.1) cv = (u.cells.toList.zipIdx 0).foldl (fun cs (x : Value × Nat) => cs.setIfInBounds (off + x.2) x.1) cv := by
          rw [← Array.foldl_toList]
          simp
        obtain ⟨cv', g1, g2, g3⟩ := fill_sound hpl (pv := pv) (cv := u.cells.zipIdx.foldl (fun cs (x : Value × Nat) => cs.setIfInBounds (off + x.2) x.1) cv) h
          (by rw [hfold, f1]; simp only [splice, List.length_append, List.length_take, List.length_drop]; omega)
          (fun k hk => by
            rw [hfold, f2 k]
            simp only [splice, List.getD_eq_getElem?_getD, splice_get _ _ _ _ hc2]
            by_cases c1 : k < off
            · have c2 : ¬ (off ≤ k ∧ k < off + u.cells.toList.length) := by omega
              simp only [c1, if_true, c2, if_false]
              simpa [List.getD_eq_getElem?_getD] using hv k (by omega)
            · by_cases c3 : k < off + (cellsOf v).length
              · have c2 : off ≤ k ∧ k < off + u.cells.toList.length := by simp; omega
                simp only [c1, if_false, c3, if_true, c2, and_self]
                have := q2 (k - off) (by omega)
                simpa [List.getD_eq_getElem?_getD, Array.getD_eq_getD_getElem?] using this
              · have c2 : ¬ (off ≤ k ∧ k < off + u.cells.toList.length) := by simp; omega
                simp only [c1, if_false, c3, c2]
                have hk' : k < cs.length := by
                  simp only [splice, List.length_append, List.length_take, List.length_drop] at hk
                  omega
                simpa [List.getD_eq_getElem?_getD] using hv k hk')
          (by simpa using hl) (fun k hk => by simpa using hp (k + 1) (by simpa using hk))
        refine ⟨cv', ?_, g2, g3⟩
        have hno : ¬ (u.cells.size ≠ P.cellsOf t || decide (off + u.cells.size > cv.size)) = true := by
          simp only [Bool.or_eq_true, decide_eq_true_eq, not_or]
          omega
        simp only [Instr.fill, hpc]
        rw [if_neg (by simpa using hno)]
        exact g1

theorem fill_length {pl : Nat → Option (Nat × TypeId)} : ∀ {parts : List (Nat × AV)} {cs cs' : List AV}, fill P pl cs parts = some cs' → cs'.length = cs.length
  | [], cs, cs', h => by simp only [fill, Option.some.injEq] at h; rw [h]
  | (i, v) :: parts, cs, cs', h => by
    simp only [fill] at h
    cases hpi : pl i with
    | none => simp [hpi] at h
    | some x =>
      obtain ⟨off, t⟩ := x
      simp only [hpi] at h
      obtain ⟨hc, h⟩ := cond_some h
      simp only [Bool.and_eq_true] at hc
      have hc2 : off + (cellsOf v).length ≤ cs.length := Nat.le_of_ble_eq_true hc.2
      rw [fill_length h]
      simp [splice]; omega
theorem chunk_rows {all : List CT} {sz : Nat} (hall : all.length = sz) : ∀ {n : Nat} {cs : List AV} {es : List (List AV)} {cv : List Value}, fitRows all (chunk sz n cs) = some es → cs.length = n * sz → cv.length = cs.length → (∀ k, k < cs.length → VR P D R w (cs.getD k .u) (cv.getD k undef)) →
    es.length = n ∧ (∀ x, x ∈ es → WTs P all x) ∧ ∀ i j, i < n → j < sz → VR P D R w ((es.getD i []).getD j .u) (cv.getD (i * sz + j) undef)
  | 0, cs, es, cv, h, hc, hl, hv => by
    simp only [chunk, fitRows, Option.some.injEq] at h
    subst h
    exact ⟨rfl, fun x hx => by simp at hx, fun i j hi => by omega⟩
  | n + 1, cs, es, cv, h, hc, hl, hv => by
    simp only [chunk, fitRows] at h
    rw [Nat.add_mul, Nat.one_mul] at hc
    cases h1 : fitCs all (cs.take sz) with
    | none => simp [h1] at h
    | some x =>
      cases h2 : fitRows all (chunk sz n (cs.drop sz)) with
      | none => simp [h1, h2] at h
      | some es' =>
        simp only [h1, h2, Option.some.injEq] at h
        subst h
        obtain ⟨f1, f2, f3, _⟩ := fitCs_sound (P := P) (D := D) (R := R) (w := w) (cv := cv.take sz) h1 (by simp; omega) (fun k hk => by
          simp only [List.length_take] at hk
          have := hv k (by omega)
          have hk2 : k < sz := by omega
          simpa [List.getD_eq_getElem?_getD, List.getElem?_take, hk2] using this)
        obtain ⟨g1, g2, g3⟩ := chunk_rows hall (cv := cv.drop sz) h2 (by simp; omega) (by simp; omega) (fun k hk => by
          simp only [List.length_drop] at hk
          have := hv (sz + k) (by omega)
          simpa [List.getD_eq_getElem?_getD, List.getElem?_drop] using this)
        have hxl : x.length = sz := by rw [f2]; simp; omega
        refine ⟨by simp [g1], fun y hy => ?_, fun i j hi hj => ?_⟩
        · rcases List.mem_cons.1 hy with rfl | hy
          · exact f1
          · exact g2 y hy
        · cases i with
          | zero =>
            have := f3 j (by omega)
            simpa [List.getD_eq_getElem?_getD, List.getElem?_take, hj] using this
          | succ i =>
            have := g3 i j (by omega) hj
            rw [Nat.add_mul, Nat.one_mul]
            simpa [List.getD_eq_getElem?_getD, List.getElem?_drop, Nat.add_assoc, Nat.add_comm, Nat.add_left_comm] using this

theorem getD_flat {α : Type} (z : List α) (d : α) : ∀ (n k : Nat), k < n * z.length → ((List.replicate n z).flatten).getD k d = z.getD (k % z.length) d
  | 0, k, h => by omega
  | n + 1, k, h => by
    rw [Nat.add_mul, Nat.one_mul] at h
    rw [List.replicate_succ, List.flatten_cons]
    by_cases hk : k < z.length
    · rw [Nat.mod_eq_of_lt hk]
      simp [List.getD_eq_getElem?_getD, List.getElem?_append, hk]
    · have := getD_flat z d n (k - z.length) (by omega)
      rw [Nat.mod_eq_sub_mod (by omega), ← this]
      simp [List.getD_eq_getElem?_getD, List.getElem?_append, hk]

/-- A new slice. -/
theorem freshRow_sound (h : SR P w0 X D R st a w) (hf : R site = none) (hb : ∀ x, o.dst = some x → x < st.nt) (hn : After P w0 X D R st a w o site K r next) (hd : ∀ c, o.op ≠ .defer c)
    {e : TypeId} {es : List (List AV)} {cv : Array Value} {c : Nat} (hc : es.length ≤ c) (hcz : es = [] → c = 0) (hW : ∀ x, x ∈ es → WTs P (cts P e) x) (hs : es.length * P.cellsOf e ≤ cv.size)
    (hv : ∀ i j, i < es.length → j < P.cellsOf e → VR P D R w ((es.getD i []).getD j .u) (cv.getD (i * P.cellsOf e + j) undef))
    (hr : (execOp a.eval o).run P w = .ok (.value (.slice (some ⟨w.heap.size, 0, none⟩) es.length c)) (w.alloc (.cells cv e)))
    (he : freshRow P RO site o.dst e es K = some r) : o.wpIn (FW ro) n P a w next Q := by
  unfold freshRow at he
  obtain ⟨ho, he⟩ := cond_some he
  simp only [Bool.and_eq_true] at ho
  obtain ⟨ho, hlen⟩ := ho
  have hlen : es.length ≤ 9223372036854775807 := Nat.le_of_ble_eq_true hlen
  obtain ⟨h1, h2, _⟩ := okT_spec ho
  have hWT : WT P (.sl e) (.rs e es) := .sl hlen (fun x hx => (hW x hx).1) (fun x hx j hj => (hW x hx).2 j hj)
  have hidx : ∀ i j, i < es.length → j < P.cellsOf e → i * P.cellsOf e + j < cv.size := fun i j hi hj => by
    have := Nat.mul_le_mul_right (P.cellsOf e) (show i + 1 ≤ es.length by omega)
    rw [Nat.add_mul, Nat.one_mul] at this
    omega
  cases hem : es.isEmpty with
  | true =>
    rw [hem] at he
    obtain rfl : es = [] := by simpa using hem
    have h' := h.world (below_alloc' w (.cells cv e))
    have hp : VR P D R (w.alloc (.cells cv e)) (.e0 true) (.slice (some ⟨w.heap.size, 0, none⟩) 0 c) := .e0 fun _ => hcz rfl
    exact wpIn_value hd hr (hn D R ⟨_, none⟩ _ _ (h'.put hb hp) ⟨fun _ _ => rfl, fun b hlt hd => ⟨hd, (below_alloc' w _).block b hlt⟩, fun b hd _ => (below_alloc' w _).block b (h.lt b hd)⟩ he)
  | false =>
  rw [hem] at he
  simp only [cond_false] at he
  cases hro : (o.dst.map RO).getD false with
  | true =>
    rw [hro] at he
    have h' := h.world (below_alloc' w (.cells cv e))
    have hp : VR P D R (w.alloc (.cells cv e)) (.rs e es) (.slice (some ⟨w.heap.size, 0, none⟩) es.length c) := by
      cases es with
      | nil => cases hem
      | cons x l =>
        refine .rs (f := fun i j => cv.getD (i * P.cellsOf e + j) undef) (by simp) h2 hc h1 (fun hd => absurd (h.lt _ hd) (by omega)) hWT (fun i j hi hj => ?_) (fun i j hi hj => (hv i j hi hj).mono (fun _ _ e => e) (fun b hlt hd => ⟨hd, (below_alloc' w _).block b hlt⟩))
        have := hidx i j hi hj
        simp [World.cell?_alloc_new, Array.getD_eq_getD_getElem?, this]
    exact wpIn_value hd hr (hn D R ⟨_, none⟩ _ _ (h'.put hb hp) ⟨fun _ _ => rfl, fun b hlt hd => ⟨hd, (below_alloc' w _).block b hlt⟩, fun b hd _ => (below_alloc' w _).block b (h.lt b hd)⟩ he)
  | false =>
    rw [hro] at he
    have h' := h.fresh (t := e) (es := es) (cv := cv) hf h1 h2 hs hWT (fun i j hi hj => by
      have := hidx i j hi hj
      exact ⟨cv.getD (i * P.cellsOf e + j) undef, by simp [Array.getD_eq_getD_getElem?, this], hv i j hi hj⟩)
    have hp : VR P (fun b => D b ∨ b = w.heap.size) (fun id => if id = site then some (w.heap.size, P.cellsOf e) else R id) (w.alloc (.cells cv e)) (.sl site 0 es.length) (.slice (some ⟨w.heap.size, 0, none⟩) es.length c) := by
      have : VR P (fun b => D b ∨ b = w.heap.size) (fun id => if id = site then some (w.heap.size, P.cellsOf e) else R id) (w.alloc (.cells cv e)) (.sl site 0 es.length) (.slice (some ⟨w.heap.size, 0 * P.cellsOf e, none⟩) es.length c) := .sl (by simp) hc hlen
      simpa using this
    exact wpIn_value hd hr (hn _ _ ⟨_, some (site, .row e es)⟩ _ _ (h'.put hb hp) ⟨fun id hid => by simp [hid], fun b hlt hd => ⟨fun e => by
      rcases e with e | e
      · exact hd e
      · omega, (below_alloc' w _).block b hlt⟩, fun b hd _ => (below_alloc' w _).block b (h.lt b hd)⟩ he)
end Go.Ev

set_option linter.unusedVariables false
set_option linter.unusedSimpArgs false
namespace Go.Ev
open Go Go.RowKit

variable {P : Program} {w0 : Base} {X D : Nat → Prop} {R : Nat → Option (Nat × Nat)} {st : St} {a : Act} {w : World}
variable {ro : Option Nat} {n : Nat} {o : Oper} {next : Act → World → Prop} {Q : Exit → Act → World → Prop} {ρ : Type} {K : Eff → Option ρ} {r : ρ} {site : Nat} {S : Spec} {RO : Nat → Bool}

theorem app_at {l1 l2 : List AV} {v1 v2 : List Value} (hl : v1.length = l1.length) (h1 : ∀ k, k < l1.length → VR P D R w (l1.getD k .u) (v1.getD k undef)) (h2 : ∀ k, k < l2.length → VR P D R w (l2.getD k .u) (v2.getD k undef)) :
    ∀ k, k < (l1 ++ l2).length → VR P D R w ((l1 ++ l2).getD k .u) ((v1 ++ v2).getD k undef) := by
  intro k hk
  simp only [List.length_append] at hk
  by_cases h : k < l1.length
  · have := h1 k h
    simpa [List.getD_eq_getElem?_getD, List.getElem?_append_left h, List.getElem?_append_left (show k < v1.length by omega)] using this
  · have := h2 (k - l1.length) (by omega)
    simpa [List.getD_eq_getElem?_getD, List.getElem?_append_right (show l1.length ≤ k by omega), List.getElem?_append_right (show v1.length ≤ k by omega), hl] using this
theorem numOf_spec (h : SR P w0 X D R st a w) {d : Int} {y : Option Operand} {k : IntKind} {l : Int} (hl : numOf st d y = .i k l) : (y.map a.eval = none ∧ l = d) ∨ ∃ k, y.map a.eval = some (.int k l) := by
  cases y with
  | none => simp only [numOf, AV.i.injEq] at hl; exact .inl ⟨rfl, hl.2.symm⟩
  | some y =>
    have := h.val y
    simp only [numOf] at hl
    rw [hl] at this
    exact .inr ⟨k, by rw [Option.map_some, this.int_inv.1]⟩
theorem run_bounds {isSlice : Bool} {len cap : Nat} {lo hi : Option Value} {l q : Int} (hlo : (lo = none ∧ l = 0) ∨ ∃ k, lo = some (.int k l)) (hhi : (hi = none ∧ q = (len : Int)) ∨ ∃ k, hi = some (.int k q))
    (h0 : 0 ≤ l) (h1 : l ≤ q) (h2 : q ≤ (len : Int)) (hc : len ≤ cap) : (Instr.sliceBounds isSlice len cap lo hi none).run P w = .ok (l.toNat, q.toNat, cap) w := by
  have eq : (q.toNat : Int) = q := Int.toNat_of_nonneg (by omega)
  have hq0 : 0 ≤ q := by omega
  have hqc : q ≤ (cap : Int) := by omega
  rcases hlo with ⟨rfl, rfl⟩ | ⟨k, rfl⟩ <;> rcases hhi with ⟨rfl, rfl⟩ | ⟨k', rfl⟩ <;>
    simp [Instr.sliceBounds, Instr.sliceBound, asIntOf, h0, h1, hq0, hqc, eq]

theorem minmax_sound {mx : Bool} {c : Call} (h : SR P w0 X D R st a w) (hb : ∀ x, o.dst = some x → x < st.nt) (hn : After P w0 X D R st a w o site K r next) (hd : ∀ c, o.op ≠ .defer c)
    (hop : o.op = .call c) (hc : c.callee = .builtin (if mx then .max else .min))
    (hresb : ∀ b, c.callee = .builtin b → ∃ cs, (resolve a.eval c o.type).run P w = .ok { target := .builtin b c.argTypes o.type cs, args := c.args.map a.eval } w)
    (he : (match c.args.toList.map (val st) with
      | x :: r => match best (if mx then bmax else bmin) x r with
        | some v => K ⟨v, none⟩
        | none => none
      | [] => none) = some r) : o.wpIn (FW ro) n P a w next Q := by
  have hargs := args_at h c.args.toList
  split at he <;> first | (cases he; done) | skip
  rename_i x l hl
  split at he <;> first | (cases he; done) | skip
  rename_i v hbest
  have hlen : c.args.toList.length = l.length + 1 := by have := congrArg List.length hl; simpa using this
  match hcl : c.args.toList, hlen with
  | y :: ys, hlen =>
    rw [hcl] at hl hargs
    simp only [List.map_cons, List.cons.injEq] at hl
    obtain ⟨e1, e2⟩ := hl
    obtain ⟨u, g1, g2⟩ := best_sound (P := P) (D := D) (R := R) (w := w) (mx := mx) (lv := ys.map a.eval) hbest (e1 ▸ h.val y) (by simpa using hlen) (fun k hk => by
      have := hargs (k + 1) (by simp at hlen ⊢; omega)
      rw [← e2]
      simpa using this)
    refine op_value h hb hn hd (v' := u) ?_ g2 he
    obtain ⟨csb, hrb⟩ := hresb _ hc
    simp only [execOp, hop, Sem.run_bind, hrb, Result.andThen_ok, invoke]
    have ht : (c.args.map a.eval).toList = a.eval y :: ys.map a.eval := by simp [hcl]
    cases mx
    · simp only [Bool.false_eq_true, if_false] at g1 ⊢
      simp only [builtin, Builtin.min_, ht, Sem.run_bind, g1, Result.andThen_ok, Sem.run_pure]
    · simp only [if_true] at g1 ⊢
      simp only [builtin, Builtin.max_, ht, Sem.run_bind, g1, Result.andThen_ok, Sem.run_pure]

theorem div_idx {sz i k : Nat} (hk : k < sz) : (i * sz + k) / sz = i ∧ (i * sz + k) % sz = k := by
  constructor
  · rw [Nat.add_comm, Nat.add_mul_div_right _ _ (by omega), Nat.div_eq_of_lt hk]; omega
  · rw [Nat.add_comm, Nat.add_mul_mod_self_right, Nat.mod_eq_of_lt hk]
/-- append behind nothing. -/
theorem grown_sound (h : SR P w0 X D R st a w) (hf : R site = none) (hb : ∀ x, o.dst = some x → x < st.nt) (hn : After P w0 X D R st a w o site K r next) (hd : ∀ c, o.op ≠ .defer c)
    {e t t' : TypeId} {x y : AV} {xv yv : Value} (hu : P.underlying t = some (.slice e)) (hx : x = .nl ∨ x = .e0 true) (hxv : VR P D R w x xv) (hyv : VR P D R w y yv)
    (hr : ∀ v w', (Builtin.append_ #[t, t'] o.type #[xv, yv]).run P w = .ok v w' → (execOp a.eval o).run P w = .ok (.value v) w')
    (he : grown P site e t t' x y K = some r) : o.wpIn (FW ro) n P a w next Q := by
  unfold grown at he
  split at he <;> first | (cases he; done) | skip
  rename_i e' es
  obtain ⟨hc, he2⟩ := cond_some he
  clear he
  simp only [Bool.and_eq_true] at hc
  obtain ⟨ht, hee, ho⟩ := hc
  obtain rfl := Nat.eq_of_beq_eq_true ht
  obtain rfl := Nat.eq_of_beq_eq_true hee
  obtain ⟨h1, h2, _⟩ := okT_spec ho
  cases hin : P.info? e with
  | none => rw [hin] at he2; cases he2
  | some i =>
    rw [hin] at he2
    obtain ⟨hz0, he3⟩ := cond_some he2
    clear he2
    obtain ⟨hby, he2⟩ := cond_some he3
    clear he3
    have hby : es.length * i.bytes ≤ 140737488355328 := Nat.le_of_ble_eq_true hby
    obtain ⟨z, hz⟩ := Option.isSome_iff_exists.1 hz0
    have hsz : i.size = P.cellsOf e := by simp [Program.cellsOf, hin]
    have hbw : Below w.heap.size w w.drew := ⟨rfl, rfl, rfl, Nat.le_refl _, fun _ _ => rfl⟩
    cases hyv with
    | @rs0 _ ya yc hya =>
      -- nothing to append
      have key : ∃ xa, xv = .slice xa 0 0 := by
        rcases hx with rfl | rfl
        · cases hxv; exact ⟨_, rfl⟩
        · cases hxv with
          | @e0 _ xa c hc =>
            obtain rfl := hc rfl
            exact ⟨_, rfl⟩
      obtain ⟨xa, rfl⟩ := key
      have hrun : (Builtin.append_ #[t, t] o.type #[.slice xa 0 0, .slice ya 0 yc]).run P w = .ok (.slice xa 0 0) w := by
        cases xa <;> cases ya <;> simp [Builtin.append_, run_underlying' hu, sizeOf, typeInfo, hin, Builtin.lenOf, Builtin.firstCells, loadCells, loadCellsFrom, storeCells]
      have hS : SR P w0 X D R (st.mem site (.row e [])) a w := by
        refine { h with tmp := h.tmp, nt := h.nt, mem := fun id => ?_, df := h.df }
        simp only [St.mem, gm_cons]
        by_cases hid : id = site
        · simp only [hid, if_true]; intro hne; exact absurd rfl hne
        · simp only [hid, if_false]; exact h.mem id
      exact wpIn_value hd (hr _ _ hrun) (hn D R ⟨.sl site 0 0, some (site, .row e [])⟩ _ _ (hS.put hb (.sl0 fun _ => rfl)) ⟨fun _ _ => rfl, fun b hlt hd => ⟨hd, rfl⟩, fun b hd _ => rfl⟩ he2)
    | @rs _ _ yb yo yc f g1 gz g2 g3 g4 g5 g6 g7 =>
      have hpos : 0 < es.length := List.length_pos_iff.2 g1
      obtain ⟨w1, w2, w3⟩ : es.length ≤ 9223372036854775807 ∧ (∀ x, x ∈ es → x.length = (cts P e).length) ∧ (∀ x, x ∈ es → ∀ j, j < x.length → WT P ((cts P e).getD j .oth) (x.getD j .u)) := by
        cases g5 with
        | sl a b c => exact ⟨a, b, c⟩
      obtain ⟨news, hnews⟩ : ∃ news : List Value, news = (List.range (es.length * P.cellsOf e)).map fun k => f (k / P.cellsOf e) (k % P.cellsOf e) := ⟨_, rfl⟩
      have hnl : news.length = es.length * i.size := by rw [hnews, hsz]; simp
      have hng : ∀ k u, news[k]? = some u → w.cell? ((⟨yb, yo, none⟩ : Addr).add k) = some u := by
        intro k u hk
        rw [hnews] at hk
        simp only [List.getElem?_map] at hk
        by_cases hlt : k < es.length * P.cellsOf e
        · rw [List.getElem?_range hlt] at hk
          simp only [Option.map_some, Option.some.injEq] at hk
          have hm := Nat.mod_lt k gz
          have hdv : k / P.cellsOf e < es.length := (Nat.div_lt_iff_lt_mul gz).2 hlt
          have := g6 _ _ hdv hm
          rw [show k / P.cellsOf e * P.cellsOf e + k % P.cellsOf e = k by rw [Nat.mul_comm]; exact Nat.div_add_mod k _] at this
          rw [add_plain', this, hk]
        · rw [List.getElem?_eq_none (by simp; omega)] at hk
          cases hk
      -- the new cells
      have fin : ∀ (cv : Array Value) (c : Nat), es.length ≤ c → es.length * P.cellsOf e ≤ cv.size → (∀ k, k < es.length * P.cellsOf e → cv[k]? = news[k]?) →
          (Builtin.append_ #[t, t] o.type #[xv, .slice (some ⟨yb, yo, none⟩) es.length yc]).run P w = .ok (.slice (some ⟨w.heap.size, 0, none⟩) es.length c) (w.drew.alloc (.cells cv e)) → o.wpIn (FW ro) n P a w next Q := by
        intro cv c hcc hcs hcv hrun
        have hidx : ∀ i j, i < es.length → j < P.cellsOf e → i * P.cellsOf e + j < es.length * P.cellsOf e := fun i j hi hj => by
          have := Nat.mul_le_mul_right (P.cellsOf e) (show i + 1 ≤ es.length by omega)
          rw [Nat.add_mul, Nat.one_mul] at this
          omega
        have hS := (h.world hbw).fresh (site := site) (t := e) (es := es) (cv := cv) hf h1 h2 hcs g5 (fun i j hi hj => by
          have hlt := hidx i j hi hj
          obtain ⟨d1, d2⟩ := div_idx (i := i) hj
          refine ⟨f i j, ?_, (g7 i j hi hj).mono (fun _ _ e => e) fun b hlt hd => ⟨hd, rfl⟩⟩
          rw [hcv _ hlt, hnews]
          simp [hlt, d1, d2])
        have hp : VR P (fun b => D b ∨ b = w.drew.heap.size) (fun id => if id = site then some (w.drew.heap.size, P.cellsOf e) else R id) (w.drew.alloc (.cells cv e)) (.sl site 0 es.length) (.slice (some ⟨w.heap.size, 0, none⟩) es.length c) := by
          have : VR P (fun b => D b ∨ b = w.drew.heap.size) (fun id => if id = site then some (w.drew.heap.size, P.cellsOf e) else R id) (w.drew.alloc (.cells cv e)) (.sl site 0 es.length) (.slice (some ⟨w.drew.heap.size, 0 * P.cellsOf e, none⟩) es.length c) := .sl (by simp) hcc w1
          simpa using this
        have hba : Below w.heap.size w.drew (w.drew.alloc (.cells cv e)) := below_alloc' w.drew _
        exact wpIn_value hd (hr _ _ hrun) (hn _ _ ⟨_, some (site, .row e es)⟩ _ _ (hS.put hb hp) ⟨fun id hid => by simp [hid], fun b hlt hd => ⟨fun e => by
          rcases e with e | e
          · exact hd e
          · have : w.drew.heap.size = w.heap.size := rfl
            omega, hba.block b hlt⟩, fun b hd _ => hba.block b (h.lt b hd)⟩ he2)
      have pre : ∀ (l : List Value) k, k < es.length * P.cellsOf e → (news.toArray ++ l.toArray)[k]? = news[k]? := fun l k hk => by
        have : k < news.length := by rw [hnl, hsz]; exact hk
        rw [Array.getElem?_append_left (by simpa using this)]
        simp
      rcases hx with rfl | rfl
      · cases hxv
        have hrun := run_append_nil (P := P) w t o.type e i z hu hin hz ⟨yb, yo, none⟩ es.length yc news hnl hng hpos (by omega) (by omega)
        refine fin _ _ (grownCap_ge w _ _ _) ?_ (fun k hk => ?_) hrun
        · simp only [Array.size_append, List.size_toArray, hnl, hsz]; omega
        · have := pre (Builtin.zeroCells z.cells (grownCap w es.length 0 e - es.length)).toList k hk
          simpa using this
      · cases hxv with
        | @e0 _ xa c hc =>
          obtain rfl := hc rfl
          have hrun := run_append_grow (P := P) w t o.type e i z hu hin hz xa 0 0 [] (by simp) (by simp) ⟨yb, yo, none⟩ es.length yc news hnl hng (by omega) (by omega) (by
            rw [Nat.zero_add, nextslicecap_zero hpos]; omega)
          simp only [Nat.zero_add] at hrun
          refine fin _ _ (grownCap_ge w _ _ _) ?_ (fun k hk => ?_) hrun
          · simp [hnl, hsz]
          · have := pre (Builtin.zeroCells z.cells (grownCap w es.length 0 e - es.length)).toList k hk
            simpa using this

/-- **One operation.** -/
theorem evOp_sound (hs : SpecOK P S) (h : SR P w0 X D R st a w) (hf : R site = none) (hb : ∀ x, o.dst = some x → x < st.nt) (he : evOp P S RO site o st K = some r)
    (hn : After P w0 X D R st a w o site K r next) : o.wpIn (FW ro) n P a w next Q := by
  unfold evOp at he
  have hd : ∀ c, o.op ≠ .defer c := by intro c hc; simp [hc] at he
  cases hop : o.op <;> simp only [hop] at he <;> try (cases he; done)
  case move x => exact op_value h hb hn hd (by simp [execOp, hop]) (h.val x) he
  case assign x => exact op_value h hb hn hd (by simp [execOp, hop]) (h.val x) he
  case pick c x y =>
    have hc := h.val c
    have hx := h.val x
    have hy := h.val y
    generalize val st c = vc at he hc
    generalize val st x = vx at he hx
    generalize val st y = vy at he hy
    split at he
    · rename_i t
      have ec := hc.bool_inv
      have hrun : (execOp a.eval o).run P w = .ok (.value (if t then a.eval x else a.eval y)) w := by simp [execOp, hop, ec, run_asBool]
      split at he
      · rename_i p q
        have e1 := hx.bool_inv
        have e2 := hy.bool_inv
        refine op_value h hb hn hd hrun ?_ he
        cases t
        · simpa [e2] using VR.b
        · simpa [e1] using VR.b
      · cases t
        · exact op_value h hb hn hd (by simpa using hrun) hy he
        · exact op_value h hb hn hd (by simpa using hrun) hx he
    · cases he
  case unOp op t x =>
    have hx := h.val x
    cases op <;> simp only at he <;> first | (cases he; done) | skip
    all_goals (split at he <;> first | (cases he; done) | skip)
    · rename_i hv
      rw [hv] at hx
      obtain ⟨e, _⟩ := hx.int_inv
      refine op_value h hb hn hd (v' := .int _ (IntKind.wrap _ (0 - _))) ?_ (.i (inR_wrap _ _).1 (inR_wrap _ _).2) he
      simp only [execOp, hop, e]
      simp [Op.unary, Op.intArith]
    · rename_i hv
      rw [hv] at hx
      have e := hx.bool_inv
      exact op_value h hb hn hd (by simp only [execOp, hop, e]; simp [Op.unary]) .b he
  case binOp op t x y yt =>
    obtain ⟨v, v', h1, h2, h3⟩ := bin_sound (ox := x) (oy := y) (h.val x) (h.val y) he
    refine op_value h hb hn hd (v' := v') ?_ h2 h3
    simp only [execOp, hop, Sem.run_bind, Sem.run_pure] at h1 ⊢
    rw [h1]
    rfl
  case convert src dst x =>
    have hx := h.val x
    split at he <;> first | (cases he; done) | skip
    · rename_i hu1 hu2 hv
      rw [hv] at hx
      obtain ⟨e, _⟩ := hx.int_inv
      refine op_value h hb hn hd (v' := .int _ (IntKind.wrap _ _)) ?_ (.i (inR_wrap _ _).1 (inR_wrap _ _).2) he
      simp only [execOp, hop, e]
      simp [Go.convert, run_underlying' hu1, run_underlying' hu2, Conv.intToInt]
    · rename_i hu1 hu2 hv
      rw [hv] at hx
      obtain ⟨e, hsz⟩ := hx.str_inv
      refine op_value h hb hn hd ?_ (.s hsz) he
      simp only [execOp, hop, e]
      simp [Go.convert, run_underlying' hu1, run_underlying' hu2]
  case extract x j =>
    have hx := h.val x
    split at he <;> first | (cases he; done) | skip
    rename_i vs hv
    rw [hv] at hx
    split at he <;> first | (cases he; done) | skip
    rename_i v hj
    generalize hax : a.eval x = ax at hx
    cases hx with
    | @tup cs cv h1 h2 =>
      have hlt : j < vs.length := (List.getElem?_eq_some_iff.1 hj).1
      have hlt' : j < cv.size := by omega
      refine op_value h hb hn hd (v' := cv[j]) ?_ ?_ he
      · simp only [execOp, hop, hax]
        simp [Instr.extract, hlt']
      · have := h2 j hlt
        simpa [List.getD_eq_getElem?_getD, Array.getD_eq_getD_getElem?, hj, hlt'] using this
  case field t x f =>
    have hx := h.val x
    split at he <;> first | (cases he; done) | skip
    rename_i fs cs hu hv
    rw [hv] at hx
    split at he <;> first | (cases he; done) | skip
    rename_i fd hfd
    split at he <;> first | (cases he; done) | skip
    rename_i v hp
    obtain ⟨cv, e, h1, h2⟩ := hx.agg_inv
    obtain ⟨u, g1, g2⟩ := partV_sound h1 h2 hp
    refine op_value h hb hn hd (v' := u) ?_ g2 he
    simp only [execOp, hop, e]
    simp [Instr.field, run_underlying' hu, hfd, asAgg, g1]
  case build t parts =>
    split at he <;> first | (cases he; done) | skip
    rename_i fs z hu hz
    split at he <;> first | (cases he; done) | skip
    rename_i cs hfill
    split at he <;> first | (cases he; done) | skip
    rename_i cs' hfit
    obtain ⟨hinfo, he⟩ := cond_some he
    obtain ⟨i, zv, z1, z2, z3, z4, z5⟩ := zeroOf_sound (P := P) (D := D) (R := R) (w := w) hz
    obtain ⟨cv, g1, g2, g3⟩ := fill_sound (P := P) (D := D) (R := R) (w := w) (pc := fun i => (fs[i]?).map fun f => (f.offset, P.cellsOf f.type)) (pv := parts.toList.map fun p => (p.1, a.eval p.2))
      (fun i x hx => by
        simp only [place] at hx
        cases hfi : fs[i]? with
        | none => simp [hfi] at hx
        | some f => simp [hfi] at hx; subst hx; simp)
      hfill z4 z5 (by simp) (fun k hk => by
        simp only [List.length_map] at hk
        rw [getD_map _ _ _ (0, .const Go.undef) _ hk, getD_map _ _ _ (0, .const Go.undef) _ hk]
        exact ⟨rfl, h.val _⟩)
    obtain ⟨f1, f2, f3, f4⟩ := fitCs_sound (P := P) (D := D) (R := R) (w := w) (cv := cv.toList) hfit (by simpa using g2) (fun k hk => by
      have := g3 k hk
      simpa [Array.getD_eq_getD_getElem?, List.getD_eq_getElem?_getD] using this)
    refine op_value h hb hn hd (v' := .agg cv) ?_ (.agg (by rw [f2]; exact g2) (fun k hk => by
      have := f3 k hk
      simpa [Array.getD_eq_getD_getElem?, List.getD_eq_getElem?_getD] using this)) he
    have hm : (fs.mapM fun f => (do pure (f.offset, ← sizeOf f.type) : Sem (Nat × Nat))).run P w = .ok (fs.map fun f => (f.offset, P.cellsOf f.type)) w := by
      rw [Array.mapM_eq_mapM_toList]
      have : ∀ l : List Field, l.all (fun f => (P.info? f.type).isSome) = true → (l.mapM fun f => (do pure (f.offset, ← sizeOf f.type) : Sem (Nat × Nat))).run P w = .ok (l.map fun f => (f.offset, P.cellsOf f.type)) w := by
        intro l
        induction l with
        | nil => intro _; simp
        | cons f l ih =>
          intro hl
          simp only [List.all_cons, Bool.and_eq_true] at hl
          obtain ⟨i, hi⟩ := Option.isSome_iff_exists.1 hl.1
          have e1 : (sizeOf f.type).run P w = .ok (P.cellsOf f.type) w := by simp [sizeOf, typeInfo, hi, Program.cellsOf]
          simp only [List.mapM_cons, Sem.run_bind, e1, Result.andThen_ok, Sem.run_pure, ih hl.2, List.map_cons]
      simp only [Sem.run_map, this _ hinfo, Result.andThen_ok]
      congr 1
      apply Array.ext'
      simp
    have hpl : (fun (i : Nat) => (fs.map fun f => (f.offset, P.cellsOf f.type))[i]?) = fun (i : Nat) => (fs[i]?).map fun (f : Field) => (f.offset, P.cellsOf f.type) := by
      funext i; simp
    simp only [execOp, hop, Sem.run_bind, Sem.run_pure]
    simp only [Instr.build, Sem.run_bind, zeroValue, typeInfo, run_program, Result.andThen_ok, z1, z2, Sem.run_pure, run_underlying' hu, hm]
    have : (parts.map fun x => match x with | (i, x) => (i, a.eval x)).toList = parts.toList.map fun p => (p.1, a.eval p.2) := by simp
    rw [this, hpl, g1]
    simp
  case fieldAddr t x f =>
    have hx := h.val x
    split at he <;> first | (cases he; done) | skip
    rename_i fs hu
    generalize val st x = ax at he hx
    split at he <;> first | (cases he; done) | skip
    · rename_i fd id i j hfd
      cases hz : Nat.beq (P.cellsOf fd.type) 0 with
      | true => rw [hz] at he; cases he
      | false =>
        rw [hz] at he
        have hz' : 0 < P.cellsOf fd.type := by
          rcases Nat.eq_zero_or_pos (P.cellsOf fd.type) with h | h
          · rw [h] at hz; cases hz
          · exact h
        generalize hax : a.eval x = xv at hx
        cases hx with
        | @p _ _ _ b sz hR =>
          refine op_value h hb hn hd ?_ (.p (i := i) (j := j + fd.offset) hR) he
          simp only [execOp, hop, hax]
          simp [Instr.fieldAt, run_underlying' hu, hfd, Instr.sureAddr, run_fieldPlace hz', Nat.add_assoc]
    · rename_i fd all cs j hfd
      cases hz : Nat.beq (P.cellsOf fd.type) 0 with
      | true => rw [hz] at he; cases he
      | false =>
        rw [hz] at he
        have hz' : 0 < P.cellsOf fd.type := by
          rcases Nat.eq_zero_or_pos (P.cellsOf fd.type) with h | h
          · rw [h] at hz; cases hz
          · exact h
        generalize hax : a.eval x = xv at hx
        cases hx with
        | @rp _ _ _ b o' f' g1 g2 g3 g4 g5 =>
          refine op_value h hb hn hd ?_ (.rp (j := j + fd.offset) g1 g2 g3 g4 g5) he
          simp only [execOp, hop, hax]
          simp [Instr.fieldAt, run_underlying' hu, hfd, Instr.sureAddr, run_fieldPlace hz', Nat.add_assoc]
  case indexAddr t x ix =>
    have hx := h.val x
    have hi := h.val ix
    split at he <;> first | (cases he; done) | skip
    · rename_i e e' es k q hu hv1 hv2
      rw [hv1] at hx; rw [hv2] at hi
      obtain ⟨hc, he2⟩ := cond_some he
      simp only [Bool.and_eq_true] at hc
      have := Nat.eq_of_beq_eq_true hc.1
      subst this
      obtain ⟨b1, b2, b3⟩ := inb_spec hc.2
      obtain ⟨ei, _⟩ := hi.int_inv
      obtain ⟨b, o', c, e1, hz, hv⟩ := hx.rs_row b3
      refine op_value h hb hn hd ?_ hv he2
      simp only [execOp, hop, e1, ei, Sem.run_bind, run_indexAt_slice hu b1 b2 hz, Result.andThen_ok, add_plain', Sem.run_pure]
    · rename_i e id off len k q hu hv1 hv2
      rw [hv1] at hx; rw [hv2] at hi
      obtain ⟨ei, _⟩ := hi.int_inv
      split at he <;> first | (cases he; done) | skip
      rename_i e' es hm
      obtain ⟨hc, he2⟩ := cond_some he
      simp only [Bool.and_eq_true] at hc
      have := Nat.eq_of_beq_eq_true hc.1
      subst this
      obtain ⟨b1, b2, b3⟩ := inb_spec hc.2.1
      generalize hax : a.eval x = xv at hx
      cases hx with
      | sl0 => simp at b2; omega
      | @sl _ _ _ b sz c hR hle _ =>
        have hrow := h.mem id
        rw [hm] at hrow
        have hne : es ≠ [] := by
          intro e0
          have := hc.2.2
          rw [e0] at this
          simp [Nat.blt_eq] at this
        obtain ⟨b', cells, ty, m1, m2, m3, m4, _⟩ := hrow hne
        rw [hR] at m1
        injection m1 with m1
        injection m1 with m1 m1'
        subst m1'
        refine op_value h hb hn hd (v' := .pointer (some ⟨b, (off + q.toNat) * P.cellsOf e + 0, none⟩)) ?_ (.p hR) he2
        simp only [execOp, hop, hax, ei, Sem.run_bind, run_indexAt_slice hu b1 b2 m4, Result.andThen_ok, add_plain', Sem.run_pure, Nat.add_mul, Nat.add_zero]
    · rename_i len e id i j k q hu hv1 hv2
      rw [hv1] at hx; rw [hv2] at hi
      obtain ⟨ei, _⟩ := hi.int_inv
      obtain ⟨hc, he⟩ := cond_some he
      simp only [Bool.and_eq_true] at hc
      have hz : 0 < P.cellsOf e := by simpa [Nat.blt_eq] using hc.1
      obtain ⟨b1, b2, b3⟩ := inb_spec hc.2
      generalize hax : a.eval x = xv at hx
      cases hx with
      | @p _ _ _ b sz hR =>
        refine op_value h hb hn hd (v' := .pointer (some ⟨b, i * sz + (j + q.toNat * P.cellsOf e), none⟩)) ?_ (.p hR) he
        simp only [execOp, hop, hax, ei]
        simp [Instr.indexAt, asIntOf, run_underlying' hu, Instr.sureAddr, b1, b2, run_sizeOf' hz, add_plain', Nat.add_assoc]
  case load t x =>
    obtain ⟨v, u, h1, h2, h3⟩ := look_sound h (h.val x) he
    refine op_value h hb hn hd (v' := u) ?_ h2 h3
    simp only [execOp, hop, Sem.run_bind, h1, Result.andThen_ok, Sem.run_pure]
  case nilCheck x =>
    have hx := h.val x
    generalize hax : a.eval x = xv at hx
    split at he <;> first | (cases he; done) | skip
    · rename_i hv
      rw [hv] at hx
      cases hx with
      | p hR => exact op_value h hb hn hd (by simp only [execOp, hop, hax]; simp) (.p hR) he
    · rename_i hv
      rw [hv] at hx
      cases hx with
      | rp g1 g2 g3 g4 g5 => exact op_value h hb hn hd (by simp only [execOp, hop, hax]; simp) (.rp g1 g2 g3 g4 g5) he
  case index t x ix =>
    have hx := h.val x
    have hi := h.val ix
    split at he <;> first | (cases he; done) | skip
    rename_i s k q hu hv1 hv2
    rw [hv1] at hx; rw [hv2] at hi
    obtain ⟨ei, _⟩ := hi.int_inv
    obtain ⟨ex, _⟩ := hx.str_inv
    obtain ⟨hc, he⟩ := cond_some he
    obtain ⟨b1, b2, b3⟩ := inb_spec hc
    refine op_value h hb hn hd (v' := .int .u8 ((s.data.toList.getD q.toNat 0).toNat : Int)) ?_ (.i ?_ ?_) he
    · simp only [execOp, hop, ex, ei]
      have : s[q.toNat]? = some (s.data.toList.getD q.toNat 0) := by
        have hlt : q.toNat < s.data.size := b3
        simp [getElem?_pos, b3, List.getD_eq_getElem?_getD, hlt]
        rfl
      simp [Instr.index, asIntOf, run_underlying' hu, b1, this]
    · simp [IntKind.min, IntKind.signed]
    · have := (s.data.toList.getD q.toNat 0).toNat_lt
      simp [IntKind.max, IntKind.signed, IntKind.bits] at this ⊢
      omega
  case makeFunc fn first caps =>
    cases fn <;> simp only at he <;> first | (cases he; done) | skip
    rename_i f
    obtain ⟨hc, he⟩ := cond_some he
    have h0 : first = #[] := by
      have := Nat.eq_of_beq_eq_true hc
      exact Array.eq_empty_of_size_eq_zero this
    subst h0
    refine op_value h hb hn hd (v' := .func (.func f) #[] (caps.map a.eval)) ?_ (.fn (by simp) (fun k hk => ?_)) he
    · simp only [execOp, hop]; simp [Instr.makeFunc]
    · have := args_at h caps.toList k hk
      simpa [Array.getD_eq_getD_getElem?, List.getD_eq_getElem?_getD] using this
  case box t x =>
    split at he <;> first | (cases he; done) | skip
    rename_i cs hfit
    obtain ⟨g1, g2, g3, _⟩ := fit_sound hfit (h.val x)
    refine fresh_sound h hf hb hn hd g1 g2 g3 ?_ he
    simp only [execOp, hop, Sem.run_bind, run_box', Result.andThen_ok, Sem.run_pure]
  case buildSlice t n parts =>
    split at he <;> first | (cases he; done) | skip
    rename_i e hu
    split at he <;> first | (cases he; done) | skip
    rename_i z hz
    obtain ⟨hg, he⟩ := cond_some he
    simp only [Bool.and_eq_true] at hg
    have hbig : n * P.cellsOf e ≤ 16777216 := Nat.le_of_ble_eq_true hg.1
    have hzl : z.length = P.cellsOf e := Nat.eq_of_beq_eq_true hg.2
    split at he <;> first | (cases he; done) | skip
    rename_i cs hfill
    split at he <;> first | (cases he; done) | skip
    rename_i es hrows
    obtain ⟨i, zv, z1, z2, z3, z4, z5⟩ := zeroOf_sound (P := P) (D := D) (R := R) (w := w) hz
    have hcl : (cts P e).length = P.cellsOf e := by rw [← z3.1, hzl]
    have hzs : zv.cells.size = P.cellsOf e := by rw [z4, hzl]
    have hflat : ((List.replicate n z).flatten).length = n * P.cellsOf e := by simp [hzl]
    obtain ⟨cv, g1, g2, g3⟩ := fill_sound (P := P) (D := D) (R := R) (w := w) (pc := fun i => some (i * P.cellsOf e, P.cellsOf e)) (pv := parts.toList.map fun p => (p.1, a.eval p.2))
      (cv := (Array.range (n * P.cellsOf e)).map fun k => zv.cells[k % zv.cells.size]!)
      (fun i x hx => by simp only [Option.some.injEq] at hx; subst hx; rfl)
      hfill (by simp [hzl]) (fun k hk => by
        rw [hflat] at hk
        have hpos : 0 < P.cellsOf e := by
          rcases Nat.eq_zero_or_pos (P.cellsOf e) with h0 | h0
          · rw [h0] at hk; omega
          · exact h0
        have hlt := Nat.mod_lt k hpos
        have := z5 (k % P.cellsOf e) (by omega)
        rw [getD_flat z .u n k (by rw [hzl]; exact hk), hzl]
        simpa [Array.getD_eq_getD_getElem?, hk, hzs, hlt, getElem!_def] using this) (by simp) (fun k hk => by
        simp only [List.length_map] at hk
        rw [getD_map _ _ _ (0, .const Go.undef) _ hk, getD_map _ _ _ (0, .const Go.undef) _ hk]
        exact ⟨rfl, h.val _⟩)
    have hcsl : cs.length = n * P.cellsOf e := by rw [fill_length hfill, hflat]
    obtain ⟨q1, q2, q3⟩ := chunk_rows (P := P) (D := D) (R := R) (w := w) hcl (cv := cv.toList) hrows hcsl (by simpa using g2) (fun k hk => by
      have := g3 k hk
      simpa [Array.getD_eq_getD_getElem?, List.getD_eq_getElem?_getD] using this)
    refine freshRow_sound h hf hb hn hd (c := n) (cv := cv) (by omega) (fun h0 => by rw [h0] at q1; simpa using q1.symm) q2 (by rw [q1]; omega) (fun i j hi hj => ?_) ?_ he
    · have := q3 i j (by omega) hj
      simpa [Array.getD_eq_getD_getElem?, List.getD_eq_getElem?_getD] using this
    · have hparts : (parts.map fun x => match x with | (i, x) => (i, a.eval x)).toList = parts.toList.map fun p => (p.1, a.eval p.2) := by simp
      have hsz : (sizeOf e).run P w = .ok (P.cellsOf e) w := by simp [sizeOf, typeInfo, z1, Program.cellsOf]
      have hzv : (zeroValue e).run P w = .ok zv w := by simp [zeroValue, typeInfo, z1, z2]
      simp only [execOp, hop, Sem.run_bind, Sem.run_pure]
      have hno : ¬ n * P.cellsOf e > 2 ^ 24 := by omega
      rw [q1]
      simp only [Instr.buildSlice, Sem.run_bind, run_underlying' hu, Result.andThen_ok, hsz, hno, if_false, Sem.run_pure, hparts]
      by_cases h0 : n * P.cellsOf e = 0
      · simp only [h0, if_true, Sem.run_bind, Sem.run_pure, Result.andThen_ok] at g1 ⊢
        have e0 : ((Array.range 0).map fun k => (#[] : Array Value)[k % (#[] : Array Value).size]!) = (Array.range 0).map fun k => zv.cells[k % zv.cells.size]! := by simp
        rw [e0, g1]
        simp [newRow, newObj, Sem.run]
      · simp only [h0, if_false, Sem.run_bind, hzv, Sem.run_pure, Result.andThen_ok]
        rw [g1]
        simp [newRow, newObj, Sem.run]
  case alloc t =>
    split at he <;> first | (cases he; done) | skip
    rename_i cs hz
    obtain ⟨i, zv, z1, z2, z3, z4, z5⟩ := zeroOf_sound (P := P) (D := D) (R := R) (w := w) hz
    refine fresh_sound h hf hb hn hd z3 z4 z5 ?_ he
    simp only [execOp, hop, Sem.run_bind, run_alloc' z1 z2, Result.andThen_ok, Sem.run_pure]
  case store t x v =>
    have hx := h.val x
    have hv := h.val v
    generalize hax : a.eval x = xv at hx
    generalize hav : a.eval v = vv at hv
    split at he <;> first | (cases he; done) | skip
    rename_i id i j hv1
    rw [hv1] at hx
    cases hx with
    | @p _ _ _ b' sz hR =>
    -- a store, once it is known what is stored and that the row is there
    have fin : ∀ (e : TypeId) (es : List (List AV)) (cs : List AV) (blk : Blk), (gm st.m id = .row e es ∨ gm st.m id = .lrow e es) → (okT P t && (ctsAt (cts P e) j (cts P t) && Nat.blt i es.length)) = true → cs.length = (cts P t).length →
        vv.cells.size = cs.length → (∀ u ∈ vv.cells.toList, u.oneCell' = true) → K ⟨.tup [], some (id, blk)⟩ = some r →
        (∀ cells ty, R id = some (b', P.cellsOf e) → w.heap[b']? = some (.cells cells ty (0, 0)) → j + cs.length ≤ P.cellsOf e → i < es.length → (∀ k, k < cs.length → (cts P e).getD (j + k) .oth = (cts P t).getD k .oth) →
          SR P w0 X D R (st.mem id blk) a (w.setRow b' (cells.toList.take (i * P.cellsOf e + j) ++ vv.cells.toList ++ cells.toList.drop (i * P.cellsOf e + j + vv.cells.toList.length)).toArray)) →
        o.wpIn (FW ro) n P a w next Q := by
      intro e es cs blk hm hc q1 q2 q4 he hst
      simp only [Bool.and_eq_true] at hc
      obtain ⟨ho, hc, hi⟩ := hc
      have hi : i < es.length := by simpa [Nat.blt_eq] using hi
      have hne : es ≠ [] := by intro e0; rw [e0] at hi; simp at hi
      obtain ⟨hl, hpos, _⟩ := okT_spec ho
      obtain ⟨b, cells, ty, m1, m2, m3, m4, m5⟩ : ∃ b cells ty, R id = some (b, P.cellsOf e) ∧ w.heap[b]? = some (.cells cells ty (0, 0)) ∧ (cts P e).length = P.cellsOf e ∧ 0 < P.cellsOf e ∧ es.length * P.cellsOf e ≤ cells.size := by
        have hrow := h.mem id
        rcases hm with hm | hm
        · rw [hm] at hrow
          obtain ⟨b, cells, ty, m1, m2, m3, m4, m5, _⟩ := hrow hne
          exact ⟨b, cells, ty, m1, m2, m3, m4, m5⟩
        · rw [hm] at hrow
          obtain ⟨b, cells, ty, m1, m2, m3, m4, m5, _⟩ := hrow hne
          exact ⟨b, cells, ty, m1, m2, m3, m4, m5⟩
      rw [hR] at m1
      injection m1 with m1
      injection m1 with e1 e2
      subst e1; subst e2
      have hspec := ctsAt_spec hc
      have hcl : cs.length = P.cellsOf t := by rw [q1, hl]
      have hin : j + cs.length ≤ P.cellsOf e := by
        have := (hspec (P.cellsOf t - 1) (by omega)).1
        omega
      have hst := hst cells ty hR m2 hin hi (fun k hk => (hspec k (by omega)).2)
      have hrow : i * P.cellsOf e + P.cellsOf e ≤ cells.size := by
        have := Nat.mul_le_mul_right (P.cellsOf e) (show i + 1 ≤ es.length by omega)
        rw [Nat.add_mul, Nat.one_mul] at this
        omega
      refine wpIn_skip' hd ?_ (hn D R ⟨_, some (id, _)⟩ _ _ (hst.put hb VR_undef) ⟨fun _ _ => rfl, fun k hlt hd => ⟨hd, setRow_other w b' k _ (fun e => hd (e ▸ (h.own id b' _ hR).1))⟩,
        fun k hd hne => setRow_other w b' k _ (fun e => hne id _ _ rfl (e ▸ hR))⟩ he)
      simp only [execOp, hop, hax, hav, Sem.run_bind, Instr.storeAt, Instr.sureAddr, Sem.run_pure, Result.andThen_ok, storeVar, run_sizeOf' hpos]
      rw [if_neg (by rw [q2, hcl]; simp), run_storeCells_at P b' (i * P.cellsOf e + j) ty vv.cells.toList 0 cells w m2 (by simp; omega) q4]
      simp
    have at3 : ∀ {cs : List AV}, (∀ k, k < cs.length → VR P D R w (cs.getD k .u) (vv.cells.getD k undef)) → ∀ k, k < cs.length → VR P D R w (cs.getD k .u) (vv.cells.toList.getD k undef) := fun q3 k hk => by
      have := q3 k hk
      simpa [Array.getD_eq_getD_getElem?, List.getD_eq_getElem?_getD] using this
    split at he <;> first | (cases he; done) | skip
    · rename_i e es hm
      obtain ⟨hc, he⟩ := cond_some he
      split at he
      · rename_i cs hfit
        obtain ⟨q1, q2, q3, q4⟩ := fit_sound hfit hv
        exact fin e es cs _ (.inl hm) hc q1.1 q2 q4 he fun cells ty g1 g2 hin hi hty => h.store (new := cs) (nv := vv.cells.toList) hm g1 g2 hi hin (by simpa using q2) (fun k hk => by
          rw [hty k hk]
          exact q1.2 k hk) (at3 q3)
      · split at he <;> first | (cases he; done) | skip
        rename_i cs hfit
        obtain ⟨q1, q2, q3, q4⟩ := fitO_sound hfit hv
        exact fin e es cs _ (.inl hm) hc q1 q2 q4 he fun cells ty g1 g2 hin hi hty => h.storeL (new := cs) (nv := vv.cells.toList) (.inl hm) g1 g2 hi hin (by simpa using q2) (at3 q3)
    · rename_i e es hm
      obtain ⟨hc, he⟩ := cond_some he
      split at he <;> first | (cases he; done) | skip
      rename_i cs hfit
      obtain ⟨q1, q2, q3, q4⟩ := fitO_sound hfit hv
      exact fin e es cs _ (.inr hm) hc q1 q2 q4 he fun cells ty g1 g2 hin hi hty => h.storeL (new := cs) (nv := vv.cells.toList) (.inr hm) g1 g2 hi hin (by simpa using q2) (at3 q3)
  case slice t x lo hi mx =>
    cases mx with
    | some m => cases he
    | none =>
      have hx := h.val x
      generalize hax : a.eval x = xv at hx
      simp only at he
      split at he <;> first | (cases he; done) | skip
      · rename_i e e' es hu hv
        rw [hv] at hx
        split at he <;> first | (cases he; done) | skip
        rename_i k l k' q hl hq
        obtain ⟨hc, he2⟩ := cond_some he
        simp only [Bool.and_eq_true, decide_eq_true_eq] at hc
        obtain ⟨⟨hc1, hz⟩, h0, h1, h2⟩ := hc
        have := Nat.eq_of_beq_eq_true hc1
        subst this
        have hz : 0 < P.cellsOf e := by simpa [Nat.blt_eq] using hz
        have hlo := numOf_spec h hl
        have hhi := numOf_spec h hq
        have main : ∀ (ad : Option Addr) (c : Nat), es.length ≤ c → (Instr.sliceAt t (.slice ad es.length c) (lo.map a.eval) (hi.map a.eval) none).run P w =
            .ok (.slice (if c = l.toNat then ad else ad.map (·.add (l.toNat * P.cellsOf e))) (q.toNat - l.toNat) (c - l.toNat)) w := by
          intro ad c hc
          simp only [Instr.sliceAt, Sem.run_bind, run_underlying' hu, Result.andThen_ok, Instr.slice]
          rw [run_bounds hlo hhi h0 h1 h2 hc]
          simp only [Result.andThen_ok, run_sizeOf' hz, Sem.run_pure]
        have hlen : ((es.take q.toNat).drop l.toNat).length = q.toNat - l.toNat := by simp; omega
        cases hx with
        | @rs0 _ ad c hadc =>
          have hq0 : q.toNat - l.toNat = 0 := by simp at h2; omega
          refine op_value h hb hn hd (v' := .slice (if c = l.toNat then ad else ad.map (·.add (l.toNat * P.cellsOf e))) 0 (c - l.toNat)) ?_ (by
            have : ((([] : List (List AV)).take q.toNat).drop l.toNat) = [] := by simp
            rw [this]; exact .rs0 fun h0 => by
              cases ad with
              | none => have := hadc rfl; omega
              | some ad => split at h0 <;> cases h0) he2
          have := main ad c (by simp)
          simp only [execOp, hop, Sem.run_bind, hax, Option.map_none]
          simp only [List.length_nil] at this
          rw [this, hq0]
          rfl
        | @rs _ _ b o' c f g1 gz g2 g3 g4 g5 g6 g7 =>
          refine op_value h hb hn hd (v' := .slice (if c = l.toNat then some ⟨b, o', none⟩ else (some ⟨b, o', none⟩ : Option Addr).map (·.add (l.toNat * P.cellsOf e))) (q.toNat - l.toNat) (c - l.toNat)) ?_ ?_ he2
          · simp only [execOp, hop, Sem.run_bind, hax, Option.map_none, main _ c g2]
            rfl
          · by_cases hemp : (es.take q.toNat).drop l.toNat = []
            · rw [hemp]
              have : q.toNat - l.toNat = 0 := by rw [← hlen, hemp]; rfl
              rw [this]
              exact .rs0 fun h0 => by split at h0 <;> cases h0
            · have hpos : 0 < q.toNat - l.toNat := by
                rw [← hlen]
                exact List.length_pos_iff.2 hemp
              have hne : ¬ c = l.toNat := by omega
              simp only [hne, if_false, Option.map_some, add_plain']
              rw [← hlen]
              obtain ⟨w1, w2, w3⟩ : es.length ≤ 9223372036854775807 ∧ (∀ x, x ∈ es → x.length = (cts P e).length) ∧ (∀ x, x ∈ es → ∀ j, j < x.length → WT P ((cts P e).getD j .oth) (x.getD j .u)) := by
                cases g5 with
                | sl a b c => exact ⟨a, b, c⟩
              have hsub : ∀ x, x ∈ (es.take q.toNat).drop l.toNat → x ∈ es := fun x hx => List.mem_of_mem_take (List.mem_of_mem_drop hx)
              have hget : ∀ i, i < q.toNat - l.toNat → ((es.take q.toNat).drop l.toNat).getD i [] = es.getD (l.toNat + i) [] := fun i hi => by
                simp [List.getD_eq_getElem?_getD, List.getElem?_take, show l.toNat + i < q.toNat by omega]
              refine .rs (f := fun i j => f (l.toNat + i) j) hemp gz (by rw [hlen]; omega) g3 g4 (.sl (by rw [hlen]; omega) (fun x hx => w2 x (hsub x hx)) (fun x hx => w3 x (hsub x hx))) (fun i j hi hj => ?_) (fun i j hi hj => ?_)
              · rw [hlen] at hi
                have := g6 (l.toNat + i) j (by omega) hj
                rw [Nat.add_mul] at this
                rw [← this]
                congr 2
                omega
              · rw [hlen] at hi
                rw [hget i hi]
                exact g7 (l.toNat + i) j (by omega) hj
      · rename_i s hu hv
        rw [hv] at hx
        split at he <;> first | (cases he; done) | skip
        rename_i k l k' q hl hq
        obtain ⟨hc, he2⟩ := cond_some he
        simp only [Bool.and_eq_true, decide_eq_true_eq] at hc
        obtain ⟨h0, h1, h2⟩ := hc
        obtain ⟨rfl, hsz⟩ := hx.str_inv
        have hlo := numOf_spec h hl
        have hhi := numOf_spec h hq
        refine op_value h hb hn hd (v' := .string (s.extract l.toNat q.toNat)) ?_ (.s (by simp; omega)) he2
        simp only [execOp, hop, Sem.run_bind, hax, Option.map_none, Instr.sliceAt, run_underlying' hu, Result.andThen_ok, Instr.slice, Option.isSome_none, Bool.false_eq_true, if_false, Sem.run_pure]
        rw [run_bounds hlo hhi h0 h1 h2 (Nat.le_refl _)]
        rfl
  case call c =>
    have hres : ∀ (f : Operand), c.callee = .value f → ∀ g cv, a.eval f = .func (.func g) #[] cv → (resolve a.eval c o.type).run P w = .ok { target := .fn (.func g) cv, args := #[] ++ c.args.map a.eval } w := by
      intro f hc g cv hf'
      simp [resolve, hc, Deferred.ofValue, hf']
    have hresb : ∀ b, c.callee = .builtin b → ∃ cs, (resolve a.eval c o.type).run P w = .ok { target := .builtin b c.argTypes o.type cs, args := c.args.map a.eval } w := by
      intro b hc
      simp only [resolve, hc, Sem.run_pure]
      exact ⟨_, rfl⟩
    have hargs := args_at h c.args.toList
    split at he
    · rename_i hc
      obtain ⟨csb, hrb⟩ := hresb _ hc
      have one : ∀ {v : AV}, c.args.toList.map (val st) = [v] → ∃ u, c.args.map a.eval = #[u] ∧ VR P D R w v u := by
        intro v hv
        have hl : c.args.toList.length = 1 := by have := congrArg List.length hv; simpa using this
        match hcl : c.args.toList, hl with
        | [x], _ =>
          refine ⟨a.eval x, ?_, ?_⟩
          · apply Array.ext'
            simp [hcl]
          · rw [hcl] at hv
            simp only [List.map_cons, List.map_nil, List.cons.injEq, and_true] at hv
            rw [← hv]
            exact h.val x
      have hty : ∀ {d : TypeDesc}, (c.argTypes[0]?).bind P.underlying = some d → ∃ t, c.argTypes[0]? = some t ∧ P.underlying t = some d := by
        intro d hd
        cases ht : c.argTypes[0]? with
        | none => rw [ht] at hd; cases hd
        | some t => rw [ht] at hd; exact ⟨t, rfl, hd⟩
      split at he <;> first | (cases he; done) | skip
      · rename_i e es e2 hv hd'
        obtain ⟨u, hu1, hu2⟩ := one hv
        obtain ⟨t, ht, hut⟩ := hty hd'
        have : ∃ ad cc, u = .slice ad es.length cc ∧ es.length ≤ 9223372036854775807 := by
          cases hu2 with
          | rs0 => exact ⟨_, _, rfl, by simp⟩
          | rs _ _ _ _ _ h5 _ _ =>
            cases h5 with
            | sl h1 _ _ => exact ⟨_, _, rfl, h1⟩
        obtain ⟨ad, cc, rfl, hle⟩ := this
        refine op_value h hb hn hd (v' := .int .i64 es.length) ?_ (.i (by simp [IntKind.min, IntKind.signed, IntKind.bits] <;> omega) (by simp [IntKind.max, IntKind.signed, IntKind.bits] <;> omega)) he
        simp only [execOp, hop, Sem.run_bind, hrb, Result.andThen_ok, invoke, builtin, hu1]
        simp [Builtin.len_, ht, run_underlying' hut, goInt]
      · rename_i e2 hv hd'
        obtain ⟨u, hu1, hu2⟩ := one hv
        obtain ⟨t, ht, hut⟩ := hty hd'
        cases hu2
        refine op_value h hb hn hd (v' := .int .i64 0) ?_ (.i (by simp [IntKind.min, IntKind.signed, IntKind.bits]) (by simp [IntKind.max, IntKind.signed, IntKind.bits])) he
        simp only [execOp, hop, Sem.run_bind, hrb, Result.andThen_ok, invoke, builtin, hu1]
        simp [Builtin.len_, ht, run_underlying' hut, goInt]
      · rename_i id off m e2 hv hd'
        obtain ⟨u, hu1, hu2⟩ := one hv
        obtain ⟨t, ht, hut⟩ := hty hd'
        cases hu2 with
        | sl0 =>
          refine op_value h hb hn hd (v' := .int .i64 0) ?_ (.i (by simp [IntKind.min, IntKind.signed, IntKind.bits]) (by simp [IntKind.max, IntKind.signed, IntKind.bits])) he
          simp only [execOp, hop, Sem.run_bind, hrb, Result.andThen_ok, invoke, builtin, hu1]
          simp [Builtin.len_, ht, run_underlying' hut, goInt]
        | @sl _ _ _ b sz cc hR hle hle2 =>
          refine op_value h hb hn hd (v' := .int .i64 m) ?_ (.i (by simp [IntKind.min, IntKind.signed, IntKind.bits] <;> omega) (by simp [IntKind.max, IntKind.signed, IntKind.bits] <;> omega)) he
          simp only [execOp, hop, Sem.run_bind, hrb, Result.andThen_ok, invoke, builtin, hu1]
          simp [Builtin.len_, ht, run_underlying' hut, goInt]
      · rename_i full e2 hv hd'
        obtain ⟨u, hu1, hu2⟩ := one hv
        obtain ⟨t, ht, hut⟩ := hty hd'
        cases hu2
        refine op_value h hb hn hd (v' := .int .i64 0) ?_ (.i (by simp [IntKind.min, IntKind.signed, IntKind.bits]) (by simp [IntKind.max, IntKind.signed, IntKind.bits])) he
        simp only [execOp, hop, Sem.run_bind, hrb, Result.andThen_ok, invoke, builtin, hu1]
        simp [Builtin.len_, ht, run_underlying' hut, goInt]
      · rename_i s hv hd'
        obtain ⟨u, hu1, hu2⟩ := one hv
        obtain ⟨t, ht, hut⟩ := hty hd'
        obtain ⟨rfl, hsz⟩ := hu2.str_inv
        refine op_value h hb hn hd (v' := .int .i64 s.size) ?_ (.i (by simp [IntKind.min, IntKind.signed, IntKind.bits] <;> omega) (by simp [IntKind.max, IntKind.signed, IntKind.bits] <;> omega)) he
        simp only [execOp, hop, Sem.run_bind, hrb, Result.andThen_ok, invoke, builtin, hu1]
        simp [Builtin.len_, ht, run_underlying' hut, goInt]
    · rename_i hc
      exact minmax_sound (mx := true) h hb hn hd hop hc hresb he
    · rename_i hc
      exact minmax_sound (mx := false) h hb hn hd hop hc hresb he
    · rename_i hc
      obtain ⟨csb, hrb⟩ := hresb _ hc
      split at he <;> first | (cases he; done) | skip
      rename_i x y t t' hv hty
      have key : ∃ xv yv, c.args.map a.eval = #[xv, yv] ∧ c.argTypes = #[t, t'] ∧ VR P D R w x xv ∧ VR P D R w y yv := by
        have hl : c.args.toList.length = 2 := by have := congrArg List.length hv; simpa using this
        match hcl : c.args.toList, hl with
        | [p, q], _ =>
          rw [hcl] at hv
          simp only [List.map_cons, List.map_nil, List.cons.injEq, and_true] at hv
          refine ⟨a.eval p, a.eval q, ?_, ?_, hv.1 ▸ h.val p, hv.2 ▸ h.val q⟩
          · apply Array.ext'
            simp [hcl]
          · apply Array.ext'
            simpa using hty
      obtain ⟨xv, yv, ha1, ha2, hx, hy⟩ := key
      have hrun : ∀ v w', (Builtin.append_ #[t, t'] o.type #[xv, yv]).run P w = .ok v w' → (execOp a.eval o).run P w = .ok (.value v) w' := fun v w' hr => by
        simp only [execOp, hop, Sem.run_bind, hrb, Result.andThen_ok, invoke, builtin, ha1, ha2, hr, Sem.run_pure]
      split at he <;> first | (cases he; done) | skip
      · rename_i e hu
        exact grown_sound h hf hb hn hd hu (.inl rfl) hx (VR_fitA _ hy) hrun he
      · rename_i e hu
        exact grown_sound h hf hb hn hd hu (.inr rfl) hx (VR_fitA _ hy) hrun he
    · rename_i f hc
      have hf' := h.val f
      generalize haf : a.eval f = fv at hf'
      split at he <;> first | (cases he; done) | skip
      rename_i g caps hv
      rw [hv] at hf'
      obtain ⟨hfree, he⟩ := cond_some he
      split at he <;> first | (cases he; done) | skip
      rename_i pre v hS
      obtain ⟨hpre, he⟩ := cond_some he
      obtain ⟨⟨fn, hfn, hname, hbody⟩, hcalls⟩ := hs _ _ _ _ hS hpre
      cases hf' with
      | @fn _ _ cv c1 c2 =>
        have hbody' : fn.body.isNone = false := by cases hb' : fn.body <;> simp_all
        have hrun : (execOp a.eval o).run P w = .ok (.enter g (#[] ++ c.args.map a.eval ++ cv)) w := by
          simp only [execOp, hop, Sem.run_bind, hres f hc g cv haf, Result.andThen_ok, invoke, callFunc, run_program, hfn, hname, hbody', Bool.false_eq_true, if_false, Sem.run_pure]
        have hlen : (fitArgs P c.argTypes.toList (c.args.toList.map (val st)) ++ caps).length = c.args.size + caps.length := by simp [fitArgs_length]
        have hC := hcalls D w (#[] ++ c.args.map a.eval ++ cv) h.lt (by simp [fitArgs_length, c1]) (fun k hk => by
          have hv1 : ∀ k, k < (fitArgs P c.argTypes.toList (c.args.toList.map (val st))).length → VR P D R w ((fitArgs P c.argTypes.toList (c.args.toList.map (val st))).getD k .u) ((c.args.toList.map a.eval).getD k undef) := by
            intro k hk
            rw [fitArgs_length] at hk
            exact fitArgs_at _ _ _ hargs k hk
          have := app_at (v1 := c.args.toList.map a.eval) (v2 := cv.toList) (by simp [fitArgs_length]) hv1 (fun k hk => by
            have := c2 k hk
            simpa [Array.getD_eq_getD_getElem?, List.getD_eq_getElem?_getD] using this) k hk
          have e : (#[] ++ c.args.map a.eval ++ cv).getD k undef = (c.args.toList.map a.eval ++ cv.toList).getD k undef := by
            rw [Array.getD_eq_getD_getElem?, List.getD_eq_getElem?_getD, ← Array.getElem?_toList]
            simp
          rw [e]
          exact (VR.free_any (nb := 0) (R' := none2) (fun _ h => absurd h (by omega)) this).1 (freeL_at hfree hk))
        refine wpIn_enter hd hrun hC ?_
        rintro e w' ⟨v', rfl, hv', hbw⟩
        refine ⟨v', rfl, ?_⟩
        have plain : VR P D none2 w' v v' → K ⟨v, none⟩ = some r → next (a.put o.dst v') w' := fun hv' he => by
          have hv'' : VR P D R w' v v' := hv'.mono (fun id x e => by cases e) (fun b hlt hd => ⟨hd, rfl⟩)
          exact hn D R ⟨v, none⟩ v' w' ((h.world hbw).put hb hv'') ⟨fun _ _ => rfl, fun b hlt hd => ⟨hd, hbw.block b hlt⟩, fun b hd _ => hbw.block b (h.lt b hd)⟩ he
        cases v with
        | ow e es x =>
          obtain ⟨R1, _, r2, r3, r4, r5, r6⟩ := hv'
          have hS := h.adopt hf hbw r2 r3 r4
          have hp : VR P (fun b => D b ∨ rows2 R1 b) (fun id => if id = site then R1 0 else R id) w' (shift site x) v' := VR.shifted (by simp) r5 r6
          exact hn _ _ ⟨_, some (site, .row e es)⟩ v' w' (hS.put hb hp) ⟨fun id hid => by simp [hid], fun b hlt hd => ⟨fun e => by
            rcases e with e | ⟨s, e⟩
            · exact hd e
            · have := (r2 b s e).1; omega, hbw.block b hlt⟩, fun b hd _ => hbw.block b (h.lt b hd)⟩ he
        | _ => exact plain hv' he
    · cases he
end Go.Ev

set_option linter.unusedVariables false
set_option linter.unusedSimpArgs false
namespace Go.Ev
open Go Go.RowKit

variable {P : Program} {w0 : Base} {X D : Nat → Prop} {R : Nat → Option (Nat × Nat)} {st : St} {a : Act} {w : World}
variable {ro : Option Nat} {n : Nat} {Q : Exit → Act → World → Prop} {ρ : Type} {S : Spec} {RO : Nat → Bool}

/-- What follows a piece of code. -/
def Fresh (R : Nat → Option (Nat × Nat)) (nx : Nat) : Prop := ∀ id, nx ≤ id → R id = none

theorem getD_bool {a : Act} {t : Nat} {x : Bool} (h : a.tmps.getD t undef = .bool x) : a.tmps[t]? = some (.bool x) := by
  rw [Array.getD_eq_getD_getElem?] at h
  cases ht : a.tmps[t]? with
  | none => rw [ht] at h; simp [undef] at h
  | some v => rw [ht] at h; simp at h; rw [h]

theorem dst_ok {o : Oper} {nt : Nat} (h : (o.dst.map (Nat.blt · nt)).getD true = true) : ∀ x, o.dst = some x → x < nt := by
  intro x hx
  rw [hx] at h
  simpa [Nat.blt_eq] using h

theorem put_defers (a : Act) (d : Option Nat) (v : Value) : (a.put d v).defers = a.defers := by cases d <;> rfl
/-- A region in the text's order. -/
theorem evOps_sound (hs : SpecOK P S) {ops : Array Oper} {base : Nat} : ∀ (l : List Oper) (j : Nat) {st : St} {a : Act} {w : World} {D : Nat → Prop} {R : Nat → Option (Nat × Nat)} {K : St → Option ρ} {r : ρ} {chk : Nat → Oper → St → Bool}
    (hl : ∀ i, l[i]? = ops[j + i]?) (h : SR P w0 X D R st a w) (hf : Fresh R (base + j)) (he : evOps P S RO ops base chk l j st K = some r)
    (hn : ∀ D' R' st' a' w', SR P w0 X D' R' st' a' w' → Fresh R' (base + j + l.length) → (∀ id, id < base + j → R' id = R id) → a'.defers = a.defers → st'.nx = st.nx → st'.nt = st.nt → K st' = some r → Q .normal a' w'),
    wpOpsIn (FW ro) n P ops Q (List.range' j l.length) a w
  | [], j, st, a, w, D, R, K, r, chk, hl, h, hf, he, hn => hn D R st a w h hf (fun _ _ => rfl) rfl rfl rfl he
  | o :: l, j, st, a, w, D, R, K, r, chk, hl, h, hf, he, hn => by
    have ho : ops[j]? = some o := by have := hl 0; simpa using this.symm
    have hl' : ∀ i, l[i]? = ops[j + 1 + i]? := fun i => by
      have := hl (i + 1)
      simp only [List.getElem?_cons_succ] at this
      rw [this]; congr 1; omega
    simp only [evOps] at he
    obtain ⟨hdst, he⟩ := cond_some he
    have hdst := (Bool.and_eq_true_iff.1 hdst).1
    have hb := dst_ok hdst
    simp only [List.length_cons, List.range'_succ, wpOpsIn, ho]
    -- performing, passing over
    have perform : ∀ {st0 : St}, SR P w0 X D R st0 a w → st0.nx = st.nx → st0.nt = st.nt → evOp P S RO (base + j) o st0 (fun e => evOps P S RO ops base chk l (j + 1) (st0.app o.dst e) K) = some r →
        o.wpIn (FW ro) n P a w (wpOpsIn (FW ro) n P ops Q (List.range' (j + 1) l.length)) Q := by
      intro st0 h0 hx ht he
      refine evOp_sound hs h0 (hf _ (Nat.le_refl _)) (by rw [ht]; exact hb) he fun D' R' e v' w' hS hR hK => ?_
      refine evOps_sound hs l (j + 1) hl' hS (fun id hid => by rw [hR.R id (by omega)]; exact hf id (by omega)) hK fun D'' R'' st'' a'' w'' hS' hf' hRR hdd hx' ht' hK' => ?_
      exact hn D'' R'' st'' a'' w'' hS' (by simpa [Nat.add_assoc, Nat.add_comm 1] using hf') (fun id hid => (hRR id (by omega)).trans (hR.R id (by omega))) (hdd.trans (put_defers _ _ _)) (hx'.trans ((app_nx _ _).trans hx)) (ht'.trans ((app_nt _ _).trans ht)) hK'
    have pass : ∀ {st0 : St}, SR P w0 X D R st0 a w → st0.nx = st.nx → st0.nt = st.nt → evOps P S RO ops base chk l (j + 1) (st0.put o.dst (.tup [])) K = some r →
        (∀ f, o.about P w a.eval = some f → (FW ro).fn f) ∧ wpOpsIn (FW ro) n P ops Q (List.range' (j + 1) l.length) (a.put o.dst undef) w := by
      intro st0 h0 hx ht he
      refine ⟨fun _ _ => trivial, evOps_sound hs l (j + 1) hl' (h0.put (by rw [ht]; exact hb) VR_undef) (fun id hid => hf id (by omega)) he fun D'' R'' st'' a'' w'' hS' hf' hRR hdd hx' ht' hK' => ?_⟩
      exact hn D'' R'' st'' a'' w'' hS' (by simpa [Nat.add_assoc, Nat.add_comm 1] using hf') (fun id hid => hRR id (by omega)) (hdd.trans (put_defers _ _ _)) (hx'.trans ((put_nx _ _).trans hx)) (ht'.trans ((put_nt _ _).trans ht)) hK'
    cases hg : o.guard with
    | none =>
      rw [hg] at he
      have hw : Region.wanted o (yielded ops a.tmps) = true := by simp [Region.wanted, hg]
      rw [if_pos hw]
      exact perform h rfl rfl he
    | some gw =>
      obtain ⟨g, want⟩ := gw
      rw [hg] at he
      simp only at he
      cases htg : (ops[g]?).bind (·.dst) with
      | none => rw [htg] at he; cases he
      | some tg =>
        rw [htg] at he
        simp only at he
        have hv := h.tmp tg
        split at he
        · rename_i x hx
          rw [hx] at hv
          have hb1 := hv.bool_inv
          have hb2 := getD_bool hb1
          have hy : yielded ops a.tmps g = some x := by simp [yielded, htg, hb2]
          have hwant : Region.wanted o (yielded ops a.tmps) = (x == want) := by simp [Region.wanted, hg, hy]
          cases x
          · simp only [cond_false] at he
            have hk := h.know (d := tg) (v := .b false) (by rw [hb1]; exact .b)
            cases want
            · rw [if_pos (by rw [hwant]; rfl)]
              exact perform hk rfl rfl he
            · rw [if_neg (by rw [hwant]; decide)]
              exact pass hk rfl rfl he
          · simp only [cond_true] at he
            have hk := h.know (d := tg) (v := .b true) (by rw [hb1]; exact .b)
            cases want
            · rw [if_neg (by rw [hwant]; decide)]
              exact pass hk rfl rfl he
            · rw [if_pos (by rw [hwant]; rfl)]
              exact perform hk rfl rfl he
        · rename_i hx
          rw [hx] at hv
          have hy : yielded ops a.tmps g = none := by
            generalize hq : a.tmps.getD tg Go.undef = q at hv
            cases hv with
            | tup h1 _ =>
              simp only [yielded, htg, Option.bind_some]
              rw [Array.getD_eq_getD_getElem?] at hq
              cases ht : a.tmps[tg]? with
              | none => rfl
              | some z => rw [ht] at hq; simp at hq; subst hq; rfl
          have hwant : Region.wanted o (yielded ops a.tmps) = false := by simp [Region.wanted, hg, hy]
          rw [if_neg (by rw [hwant]; decide)]
          exact pass h rfl rfl he
        · cases he
end Go.Ev
