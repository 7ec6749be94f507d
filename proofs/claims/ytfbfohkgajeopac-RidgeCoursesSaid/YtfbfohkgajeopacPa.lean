/-
  The evaluator, its soundness, and the functions that several laws reach: what they compute, for all arguments; no conditions.
-/
import GoSem.Step
import Derived.Below
import Derived.RangeFuncIn
import Derived.RangeFuncRecord
import Derived.Laws.Cells
import Derived.Laws.CopyRow
import Derived.Laws.NewBlocks
import Derived.Laws.World
import Derived.Laws.StructEq
import Derived.ChangeKeysEq
import Derived.Laws.ByValue
import Derived.Laws.AppendOwn
import Derived.WideKeyRuns
set_option linter.unusedVariables false
set_option linter.unusedVariables false
namespace Go.Ev
open Go

inductive CT where
  | int (k : IntKind)
  | bool
  | str
  | sl (e : TypeId)
  | oth
  deriving DecidableEq, Inhabited

inductive AV where
  | b (x : Bool)
  | i (k : IntKind) (n : Int)
  | s (x : ByteArray)
  | nl
  | rs (e : TypeId) (es : List (List AV))
  | sl (id off len : Nat)
  | p (id i j : Nat)
  | rp (cts : List CT) (cs : List AV) (j : Nat)
  | np
  | ln (n : Nat)
  | fn (f : FuncId) (caps : List AV)
  | nf
  | yl (l : Nat)
  | ni
    | nm
  | ifc (t : TypeId) (v : AV)
  | agg (cs : List AV)
  | tup (vs : List AV)
    | e0 (full : Bool)
    | gv (id : Nat) (e : TypeId) (es : List (List AV))
    | sa (id i j n : Nat)
    | mp (id : Nat)
    | it (id : Nat)
  | u
  deriving Inhabited

def toI : AV → Int | .i _ n => n | _ => 0
def toB : AV → Bool | .b x => x | _ => false
def toS : AV → ByteArray | .s x => x | _ => ⟨#[]⟩
def toE : AV → List (List AV) | .rs _ es => es | _ => []
def proj : CT → AV → AV
  | .int k, a => .i k (toI a)
  | .bool, a => .b (toB a)
  | .str, a => .s (toS a)
  | .sl e, a => .rs e (toE a)
  | .oth, a => a
def projs : List CT → List AV → Nat → List AV
  | [], _, _ => []
  | c :: r, cs, j => proj c (cs.getD j .u) :: projs r cs (j + 1)

inductive Blk where
  | row (e : TypeId) (es : List (List AV))
    | lrow (e : TypeId) (es : List (List AV))
    | fr (e : TypeId)
    | mp (kt vt : TypeId) (es : List (AV × AV))
    | si (s : ByteArray) (pos : Nat)
    | ob (o : Obj)
  | dead
  deriving Inhabited

structure St where
  t : List (Nat × AV)
  m : List (Nat × Blk)
  nx : Nat
  nt : Nat
  deriving Inhabited

def gt : List (Nat × AV) → Nat → AV
  | [], _ => .u
  | (j, v) :: r, i => cond (Nat.beq i j) v (gt r i)
def gm : List (Nat × Blk) → Nat → Blk
  | [], _ => .dead
  | (j, v) :: r, i => cond (Nat.beq i j) v (gm r i)
def St.put (st : St) (d : Option Nat) (v : AV) : St :=
  match d with
  | some d => { st with t := (d, v) :: st.t }
  | none => st
structure Eff where
  v : AV
  m : Option (Nat × Blk)
  deriving Inhabited
def St.mem (st : St) (id : Nat) (b : Blk) : St := { st with m := (id, b) :: st.m }

def St.app (st : St) (d : Option Nat) (e : Eff) : St :=
  (match e.m with
    | some (id, b) => st.mem id b
    | none => st).put d e.v

variable (P : Program)
def ctsOf : Nat → TypeId → List CT
  | 0, _ => []
  | d + 1, t => match P.underlying t with
    | some (.int k) => [.int k]
    | some .bool => [.bool]
    | some .string => [.str]
    | some (.slice e) => [.sl e]
    | some (.struct fs) => fs.toList.flatMap fun f => ctsOf d f.type
    | some (.array n e) => (List.replicate n (ctsOf d e)).flatten
    | some _ => [.oth]
    | none => []
def cts (t : TypeId) : List CT := ctsOf P 8 t
def isAgg (t : TypeId) : Bool := match P.underlying t with
  | some (.struct _) | some (.array _ _) => true
  | _ => false
def ctEq : CT → CT → Bool
  | .int k, .int k' => decide (k = k')
  | .bool, .bool => true
  | .str, .str => true
  | .sl e, .sl e' => Nat.beq e e'
  | .oth, .oth => true
  | _, _ => false
def ctsEq : List CT → List CT → Bool
  | [], [] => true
  | a :: x, b :: y => ctEq a b && ctsEq x y
  | _, _ => false
def ctsAt (all : List CT) (j : Nat) (want : List CT) : Bool :=
  match want with
  | [c] => cond (all.all (ctEq c ·)) (Nat.blt j all.length) (ctsEq ((all.drop j).take 1) want)
  | _ => ctsEq ((all.drop j).take want.length) want
def mkV (t : TypeId) (cs : List AV) (j : Nat) : AV :=
  cond (isAgg P t) (.agg (projs (cts P t) cs j)) (proj ((cts P t).headD .oth) (cs.getD j .u))
def okT (t : TypeId) : Bool := Nat.beq (cts P t).length (P.cellsOf t) && Nat.blt 0 (P.cellsOf t) && (isAgg P t || Nat.beq (cts P t).length 1)
def fitC : CT → AV → Option AV
  | .int k, .i k' n => cond (decide (k = k')) (some (.i k n)) none
  | .bool, .b x => some (.b x)
  | .str, .s x => some (.s x)
  | .sl e, .rs e' es => cond (Nat.beq e e') (some (.rs e es)) none
  | .sl e, .nl => some (.rs e [])
  | .sl e, .e0 _ => some (.rs e [])
  | .sl e, .gv _ e' es => cond (Nat.beq e e') (some (.rs e es)) none
  | .oth, .mp id => some (.mp id)
  | .oth, .fn f c => some (.fn f c)
  | .oth, .nf => some .nf
  | .oth, .yl l => some (.yl l)
  | .oth, .np => some .np
  | .oth, .p id i j => some (.p id i j)
  | .oth, .rp a c j => some (.rp a c j)
  | .oth, .ni => some .ni
  | .oth, .nm => some .nm
  | _, _ => none
def fitCs : List CT → List AV → Option (List AV)
  | [], [] => some []
  | c :: x, a :: y => match fitC c a, fitCs x y with
    | some a', some y' => some (a' :: y')
    | _, _ => none
  | _, _ => none
def fitO : CT → AV → Option AV
  | .sl _, .sl id off len => some (.sl id off len)
  | .sl _, .gv id e es => some (.gv id e es)
  | .sl _, .nl => some .nl
  | c, a => fitC c a
def fitOs : List CT → List AV → Option (List AV)
  | [], [] => some []
  | c :: x, a :: y => match fitO c a, fitOs x y with
    | some a', some y' => some (a' :: y')
    | _, _ => none
  | _, _ => none
def fitB (all : List CT) (cs : List AV) : Option (List AV) := match fitCs all cs with
  | some x => some x
  | none => fitOs all cs
def fitK (k : Bool) (all : List CT) (cs : List AV) : Option (List AV) := cond k (fitB all cs) (fitOs all cs)
def cellsOf : AV → List AV
  | .agg cs => cs
  | v => [v]
def fitT (t : TypeId) (v : AV) : AV :=
  match v with
  | .nl => match P.underlying t with
    | some (.slice e) => .rs e []
    | _ => .nl
  | v => v
def fitD : List CT → List AV → List AV
  | c :: cs, v :: vs => (match c, v with
    | .sl e, .gv _ e' es => cond (Nat.beq e e') (.rs e' es) v
    | .sl e, .nl => .rs e []
    | _, _ => v) :: fitD cs vs
  | _, vs => vs
def fitA (t : TypeId) (v : AV) : AV :=
  match v with
  | .e0 f => match P.underlying t with
    | some (.slice e) => .rs e []
    | _ => .e0 f
  | .gv _ e es => .rs e es
  | .agg cs => .agg (fitD (cts P t) cs)
  | v => fitT P t v
def noOth : Nat → TypeId → Bool
  | 0, _ => false
  | d + 1, t => (cts P t).all fun c => match c with
    | .oth => false
    | .sl e => noOth d e
    | _ => true
def okc (d : Nat) (c : CT) : Bool := match c with
  | .oth => false
  | .sl e => noOth P d e
  | _ => true
mutual
def free (nb : Nat) : AV → Bool
  | .rs e _ => noOth P 8 e
  | .rp all cs _ => all.all (okc P 8) || freeL nb cs
  | .fn _ caps => freeL nb caps
  | .agg cs => freeL nb cs
  | .tup vs => freeL nb vs
  | .ifc _ v => free nb v
  | .sl id _ _ => Nat.blt id nb
  | .p id _ _ => Nat.blt id nb
  | .gv id e _ => Nat.blt id nb && noOth P 8 e
  | .sa id _ _ _ => Nat.blt id nb
  | .mp id => Nat.blt id nb
  | .it id => Nat.blt id nb
  | .u => true
  | _ => true
def freeL (nb : Nat) : List AV → Bool
  | [] => true
  | a :: r => free nb a && freeL nb r
end
def alive : Blk → Bool
  | .dead => false
  | _ => true
def freeB (nb : Nat) : Blk → Bool
  | .row e es => noOth P 8 e || es.all (freeL P nb)
  | .lrow _ es => es.all (freeL P nb)
  | .fr _ => false
  | .mp _ vt _ => noOth P 8 vt
  | .si _ _ => true
  | .ob _ => true
  | .dead => true
mutual
def okV (p : Nat → Bool) : AV → Bool
  | .rs e _ => noOth P 8 e
  | .gv _ e _ => noOth P 8 e
  | .rp all cs _ => all.all (okc P 8) || okL p cs
  | .fn _ caps => okL p caps
  | .agg cs => okL p cs
  | .tup vs => okL p vs
  | .ifc _ v => okV p v
  | .sl id _ _ => p id
  | .sa id _ _ _ => p id
  | .p id _ _ => p id
  | .mp id => p id
  | .it id => p id
  | _ => true
def okL (p : Nat → Bool) : List AV → Bool
  | [] => true
  | a :: r => okV p a && okL p r
end
def okB (p : Nat → Bool) : Blk → Bool
  | .row e es => noOth P 8 e || es.all (okL P p)
  | .lrow _ es => es.all (okL P p)
  | .fr _ => false
  | .mp _ vt _ => noOth P 8 vt
  | .si _ _ => true
  | .ob _ => true
  | .dead => false
mutual
def renV (f : Nat → Nat) : AV → AV
  | .gv _ e es => .rs e es
  | .rp all cs j => .rp all (cond (all.all (okc P 8)) cs (renL f cs)) j
  | .fn g caps => .fn g (renL f caps)
  | .agg cs => .agg (renL f cs)
  | .tup vs => .tup (renL f vs)
  | .ifc t v => .ifc t (renV f v)
  | .sl id off len => .sl (f id) off len
  | .sa id i j n => .sa (f id) i j n
  | .p id i j => .p (f id) i j
  | .mp id => .mp (f id)
  | .it id => .it (f id)
  | v => v
def renL (f : Nat → Nat) : List AV → List AV
  | [] => []
  | a :: r => renV f a :: renL f r
end
def renB (f : Nat → Nat) : Blk → Blk
  | .row e es => .row e (cond (noOth P 8 e) es (es.map (renL P f)))
  | .lrow e es => .lrow e (es.map (renL P f))
  | b => b
mutual
def idsV : AV → List Nat
  | .rp all cs _ => cond (all.all (okc P 8)) [] (idsL cs)
  | .fn _ caps => idsL caps
  | .agg cs => idsL cs
  | .tup vs => idsL vs
  | .ifc _ v => idsV v
  | .sl id _ _ => [id]
  | .sa id _ _ _ => [id]
  | .p id _ _ => [id]
  | .mp id => [id]
  | .it id => [id]
  | _ => []
def idsL : List AV → List Nat
  | [] => []
  | a :: r => idsV a ++ idsL r
end
def idsB : Blk → List Nat
  | .row e es => cond (noOth P 8 e) [] (es.flatMap (idsL P))
  | .lrow _ es => es.flatMap (idsL P)
  | _ => []
def ofC : Value → AV
  | .bool b => .b b
  | .int k n => cond (decide (k.min ≤ n) && decide (n ≤ k.max)) (.i k n) .u
  | .string s => cond (Nat.ble s.size 9223372036854775807) (.s s) .u
  | .pointer none => .np
  | .slice none 0 0 => .nl
  | .nilFunc => .nf
  | .nilIface => .ni
  | .map none => .nm
  | _ => .u
def zeroOf (t : TypeId) : Option (List AV) :=
  match (P.info? t).bind (·.zero) with
  | some v => fitCs (cts P t) (v.cells.toList.map ofC)
  | none => none

def zeroK (k : Bool) (t : TypeId) : Option (List AV) :=
  cond k (zeroOf P t) (match (P.info? t).bind (·.zero) with
    | some v => fitOs (cts P t) (v.cells.toList.map ofC)
    | none => none)

def val (st : St) : Operand → AV
  | .tmp t => gt st.t t
  | .const v => ofC v
  | .func f => .fn f []
  | .global _ => .u

def splice (cs : List AV) (j : Nat) (new : List AV) : List AV := cs.take j ++ new ++ cs.drop (j + new.length)
def setCs (cs : List AV) (j : Nat) (new : List AV) : List AV :=
  match new with
  | [v] => cs.set j v
  | vs => splice cs j vs

def place (fs : Array Field) (i : Nat) : Option (Nat × TypeId) := (fs[i]?).map fun f => (f.offset, f.type)
def known : AV → Bool
  | .u => false
  | _ => true
def fill (pl : Nat → Option (Nat × TypeId)) : List AV → List (Nat × AV) → Option (List AV)
  | cs, [] => some cs
  | cs, (i, v) :: r => match pl i with
    | none => none
    | some (off, t) => cond (known v && Nat.beq (cellsOf v).length (P.cellsOf t) && Nat.ble (off + (cellsOf v).length) cs.length) (fill pl (splice cs off (cellsOf v)) r) none

def partV (t : TypeId) (cs : List AV) (off : Nat) : Option AV :=
  match P.underlying t with
  | some _ => cond (isAgg P t) (some (.agg ((cs.drop off).take (P.cellsOf t)))) (cs[off]?)
  | none => none
def eqFs (ev : TypeId → AV → AV → Option Bool) (a b : List AV) : List Field → Option Bool
  | [] => some true
  | f :: fs => cond (f.name != "_") (match partV P f.type a f.offset, partV P f.type b f.offset with
    | some x, some y => match ev f.type x y, fs, eqFs ev a b fs with
      | some r, [], _ => some r
      | some r, _, some s => some (r && s)
      | _, _, _ => none
    | _, _ => none) none
def eqEs (ev : TypeId → AV → AV → Option Bool) (e : TypeId) (a b : List AV) (sz : Nat) : List Nat → Option Bool
  | [] => some true
  | i :: is => match partV P e a (i * sz), partV P e b (i * sz) with
    | some x, some y => match ev e x y, is, eqEs ev e a b sz is with
      | some r, [], _ => some r
      | some r, _, some s => some (r && s)
      | _, _, _ => none
    | _, _ => none
def eqV : Nat → TypeId → AV → AV → Option Bool
  | 0, _, _, _ => none
  | d + 1, t, x, y => match P.underlying t, x, y with
    | some .bool, .b a, .b b => some (a == b)
    | some (.int _), .i k a, .i k' b => cond (decide (k = k')) (some (a == b)) none
    | some .string, .s a, .s b => some (a.toList == b.toList)
    | some (.struct fs), .agg a, .agg b => cond (!P.stoodInHeld t) (eqFs P (eqV d) a b fs.toList) none
    | some (.array n e), .agg a, .agg b => cond (P.info? e).isSome (eqEs P (eqV d) e a b (P.cellsOf e) (List.range n)) none
    | _, _, _ => none

section
variable {ρ : Type}

def binI (op : BinOp) (k : IntKind) (a b : Int) (K : AV → Option ρ) : Option ρ :=
  match op with
  | .add => K (.i k (k.wrap (a + b)))
  | .sub => K (.i k (k.wrap (a - b)))
  | .mul => K (.i k (k.wrap (a * b)))
  | .quo => cond (decide (b = 0)) none (K (.i k (k.wrap (a.tdiv b))))
  | .rem => cond (decide (b = 0)) none (K (.i k (a.tmod b)))
  | .eql => K (.b (a == b))
  | .neq => K (.b (a != b))
  | .lss => K (.b (decide (a < b)))
  | .leq => K (.b (decide (a ≤ b)))
  | .gtr => K (.b (decide (a > b)))
  | .geq => K (.b (decide (a ≥ b)))
  | .and => K (.i k (k.wrap ((BitVec.ofInt k.bits a &&& BitVec.ofInt k.bits b).toNat : Int)))
  | .or => K (.i k (k.wrap ((BitVec.ofInt k.bits a ||| BitVec.ofInt k.bits b).toNat : Int)))
  | .xor => K (.i k (k.wrap ((BitVec.ofInt k.bits a ^^^ BitVec.ofInt k.bits b).toNat : Int)))
  | .andNot => K (.i k (k.wrap ((BitVec.ofInt k.bits a &&& ~~~(BitVec.ofInt k.bits b)).toNat : Int)))
  | _ => none
def binH (op : BinOp) (k : IntKind) (a b : Int) (K : AV → Option ρ) : Option ρ :=
  match op with
  | .shl => cond (decide (0 ≤ b)) (K (.i k (k.wrap (a * 2 ^ (min b.toNat k.bits))))) none
  | .shr => cond (decide (0 ≤ b)) (K (.i k (a.fdiv (2 ^ (min b.toNat k.bits))))) none
  | _ => none
def isShift : BinOp → Bool
  | .shl | .shr => true
  | _ => false
def binS (op : BinOp) (a b : ByteArray) (K : AV → Option ρ) : Option ρ :=
  match op with
  | .add => cond (decide (a.size + b.size ≤ 140737488355328)) (K (.s (a ++ b))) none
  | .eql => K (.b (a.toList == b.toList))
  | .neq => K (.b (!(a.toList == b.toList)))
  | .lss => K (.b (Op.bytesLess a.toList b.toList))
  | .leq => K (.b (Op.bytesLess a.toList b.toList || a.toList == b.toList))
  | .gtr => K (.b (!(Op.bytesLess a.toList b.toList || a.toList == b.toList)))
  | .geq => K (.b (!Op.bytesLess a.toList b.toList))
  | _ => none
def binN (op : BinOp) (t : TypeId) (isNil : Bool) (K : AV → Option ρ) : Option ρ :=
  match op, P.underlying t with
  | .eql, some (.slice _) => K (.b isNil)
  | .neq, some (.slice _) => K (.b (!isNil))
  | _, _ => none
def bin (op : BinOp) (t : TypeId) (x y : AV) (K : AV → Option ρ) : Option ρ :=
  match x, y with
  | .i k a, .i k' b => cond (isShift op) (binH op k a b K) (cond (decide (k = k')) (binI op k a b K) none)
  | .s a, .s b => binS op a b K
  | .b a, .b b => match op, P.underlying t with
    | .eql, some .bool => K (.b (a == b))
    | .neq, some .bool => K (.b (!(a == b)))
    | _, _ => none
  | .agg a, .agg b => match op, eqV P 16 t (.agg a) (.agg b) with
    | .eql, some e => cond (!P.eqGuardType P.depth t) (K (.b e)) none
    | .neq, some e => cond (!P.eqGuardType P.depth t) (K (.b (!e))) none
    | _, _ => none
  | .rs _ (_ :: _), .nl => binN P op t false K
  | .e0 _, .nl => binN P op t false K
  | .nl, .nl => binN P op t true K
  | _, _ => none

def inb (n : Int) (len : Nat) : Bool := decide (0 ≤ n) && decide (n < (len : Int))

def best (f : Int → Int → Int) : AV → List AV → Option AV
  | .i k a, [] => some (.i k a)
  | .i k a, .i k' b :: r => cond (decide (k = k')) (best f (.i k (f a b)) r) none
  | _, _ => none
def bmax (a b : Int) : Int := if b > a then b else a
def bmin (a b : Int) : Int := if b < a then b else a

abbrev Spec := FuncId → List AV → List Blk → Option (Bool × AV × List Blk)

variable (S : Spec) (RO : Nat → Bool)

def fitArgs : List TypeId → List AV → List AV
  | t :: ts, v :: vs => fitA P t v :: fitArgs ts vs
  | _, vs => vs

def fresh (site : Nat) (dst : Option Nat) (t : TypeId) (cs : List AV) (K : Eff → Option ρ) : Option ρ :=
  cond (okT P t) (cond ((dst.map RO).getD false) (K ⟨.rp (cts P t) cs 0, none⟩) (K ⟨.p site 0 0, some (site, .row t [cs])⟩)) none

def freshL (site : Nat) (dst : Option Nat) (t : TypeId) (cs : List AV) (K : Eff → Option ρ) : Option ρ :=
  cond (okT P t && Nat.beq cs.length (cts P t).length) (cond ((dst.map RO).getD false) none (K ⟨.p site 0 0, some (site, .lrow t [cs])⟩)) none

def chunk (sz : Nat) : Nat → List AV → List (List AV)
  | 0, _ => []
  | n + 1, cs => cs.take sz :: chunk sz n (cs.drop sz)
def fitRows (all : List CT) : List (List AV) → Option (List (List AV))
  | [] => some []
  | r :: rs => match fitCs all r, fitRows all rs with
    | some a, some b => some (a :: b)
    | _, _ => none
def freshRow (site : Nat) (dst : Option Nat) (e : TypeId) (es : List (List AV)) (K : Eff → Option ρ) : Option ρ :=
  cond (okT P e && Nat.ble es.length 9223372036854775807) (cond es.isEmpty (K ⟨.e0 true, none⟩) (cond ((dst.map RO).getD false) (K ⟨.rs e es, none⟩) (K ⟨.sl site 0 es.length, some (site, .row e es)⟩))) none

def lV (t : TypeId) (cs : List AV) (j : Nat) : AV := cond (isAgg P t) (.agg ((cs.drop j).take (cts P t).length)) (cs.getD j .u)
def look (st : St) (t : TypeId) (a : AV) (K : AV → Option ρ) : Option ρ :=
  match a with
  | .rp all cs j => cond (okT P t && ctsAt all j (cts P t)) (K (mkV P t cs j)) none
  | .p id i j => match gm st.m id with
    | .row e es => cond (okT P t && (ctsAt (cts P e) j (cts P t) && Nat.blt i es.length)) (K (mkV P t (es.getD i []) j)) none
    | .lrow e es => cond (okT P t && (ctsAt (cts P e) j (cts P t) && Nat.blt i es.length)) (K (lV P t (es.getD i []) j)) none
    | _ => none
  | _ => none

def fixedNil (c : Call) : Bool := match c.args.toList with
  | .const _ :: _ => true
  | _ => false
def grown (site : Nat) (own : Bool) (e t t' : TypeId) (x y : AV) (K : Eff → Option ρ) : Option ρ :=
  match y with
  | .rs e' es => cond (Nat.beq t t' && (Nat.beq e e' && okT P e)) (match P.info? e with
      | some i => cond (i.zero.isSome && Nat.beq ((i.zero.map fun z => z.cells.size).getD 0) i.size) (cond (Nat.ble (es.length * i.bytes) 140737488355328) (K (cond own ⟨.sl site 0 es.length, some (site, .row e es)⟩ ⟨.gv site e es, some (site, .fr e)⟩)) none) none
      | none => none) none
  | _ => none

def numOf (st : St) (d : Int) (y : Option Operand) : AV :=
  match y with
  | some y => val st y
  | none => .i .i64 d

def intsOf (k : IntKind) (cs : List AV) : Bool := cs.all fun c => match c with
  | .i k' _ => decide (k' = k)
  | _ => false
def boolsOf (cs : List AV) : Bool := cs.all fun c => match c with
  | .b _ => true
  | _ => false
def flatT (t : TypeId) : Bool := match P.underlying t with
  | some (.int _) => true
  | some .bool => true
  | some .string => true
  | _ => false
def keyT (t : TypeId) : Bool := match P.underlying t with
  | some (.int _) => true
  | some .bool => true
  | some .string => true
  | some (.struct fs) => !P.stoodInHeld t && (Nat.beq (cts P t).length fs.size && fs.toList.zipIdx.all fun x => flatT P x.1.type && (x.1.name != "_" && (Nat.beq x.1.offset x.2 && ctsEq (((cts P t).drop x.2).take 1) (cts P x.1.type))))
  | some (.array n e) => (P.info? e).isSome && (Nat.beq (cts P t).length n && (flatT P e && (Nat.beq (P.cellsOf e) 1 && (List.range n).all fun i => ctsEq (((cts P t).drop i).take 1) (cts P e))))
  | _ => false
mutual
def sameV : AV → AV → Bool
  | .b x, .b y => x == y
  | .i k x, .i k' y => cond (decide (k = k')) (decide (x = y)) false
  | .s x, .s y => x.toList == y.toList
  | .agg a, .agg b => sameL a b
  | _, _ => false
def sameL : List AV → List AV → Bool
  | [], [] => true
  | a :: x, b :: y => sameV a b && sameL x y
  | _, _ => false
end
def mget (k : AV) : List (AV × AV) → Option AV
  | [] => none
  | (k', v) :: r => cond (sameV k k') (some v) (mget k r)
def mhas (k : AV) (es : List (AV × AV)) : Bool := (mget k es).isSome
def mset (k v : AV) : List (AV × AV) → List (AV × AV)
  | [] => [(k, v)]
  | (k', v') :: r => cond (sameV k k') ((k, v) :: r) ((k', v') :: mset k v r)
def mpos (k : AV) : List (AV × AV) → Nat
  | [] => 0
  | (k', _) :: r => cond (sameV k k') 0 (mpos k r + 1)
def madd (k z : AV) : List (AV × AV) → List (AV × AV)
  | [] => [(k, z)]
  | (k', v') :: r => cond (sameV k k') ((k', v') :: r) ((k', v') :: madd k z r)
def mput (n : Nat) (v : AV) (es : List (AV × AV)) : List (AV × AV) := es.modify n fun p => (p.1, v)
def asT (t : TypeId) (v : AV) : Option AV := match isAgg P t, v with
  | true, .agg cs => match fitCs (cts P t) cs with
    | some cs => some (.agg cs)
    | none => none
  | true, _ => none
  | false, .agg _ => none
  | false, v => match fitCs (cts P t) [v] with
    | some [x] => some x
    | _ => none
def zeroT (t : TypeId) : Option AV := match isAgg P t, (P.info? t).bind (·.zero) with
  | true, some (.agg cv) => match fitCs (cts P t) (cv.toList.map ofC) with
    | some cs => some (.agg cs)
    | none => none
  | true, _ => none
  | false, some (.agg _) => none
  | false, some z => match fitCs (cts P t) [ofC z] with
    | some [x] => some x
    | _ => none
  | false, none => none
def projT (t : TypeId) (v : AV) : AV := cond (isAgg P t) (.agg (projs (cts P t) (cellsOf v) 0)) (proj ((cts P t).headD .oth) v)
def mval (t : TypeId) (z k : AV) (es : List (AV × AV)) : AV := projT P t ((mget k es).getD z)

def srcOf (id : Nat) (e : TypeId) (es : List (List AV)) : AV → Option (List (List AV))
  | .nl => some []
  | .rs e' ys => cond (Nat.beq e e') (some ys) none
  | .gv _ e' ys => cond (Nat.beq e e') (some ys) none
  | .sl id' off len => cond (Nat.beq id id' && Nat.ble (off + len) es.length) (some ((es.drop off).take len)) none
  | _ => none
def srcK (id : Nat) (e : TypeId) (es : List (List AV)) (y : AV) (K : List (List AV) → Option ρ) : Option ρ := match y with
  | .nl => K []
  | .rs e' ys => cond (Nat.beq e e') (K ys) none
  | .gv _ e' ys => cond (Nat.beq e e') (K ys) none
  | .sl id' off len => cond (Nat.beq id id' && Nat.ble (off + len) es.length) (K ((es.drop off).take len)) none
  | _ => none
theorem srcK_eq (id : Nat) (e : TypeId) (es : List (List AV)) (y : AV) (K : List (List AV) → Option ρ) : srcK id e es y K = match srcOf id e es y with | some ys => K ys | none => none := by
  cases y with
  | rs e' ys => cases hb : Nat.beq e e' <;> simp [srcK, srcOf, hb]
  | gv i e' ys => cases hb : Nat.beq e e' <;> simp [srcK, srcOf, hb]
  | sl id' off len => cases hb : (Nat.beq id id' && Nat.ble (off + len) es.length) <;> simp only [srcK, srcOf, hb, cond_true, cond_false]
  | _ => rfl
def over (off len : Nat) (ys es : List (List AV)) : List (List AV) := es.take off ++ (ys.take len ++ es.drop (off + min len ys.length))
def copyV (st : St) (t : TypeId) (id off len : Nat) (y : AV) (K : Eff → Option ρ) : Option ρ :=
  match P.underlying t, gm st.m id with
  | some (.slice e), .row e' es => srcK id e es y fun ys =>
      cond (Nat.beq e e' && (Nat.beq (P.cellsOf e) 1 && (okT P e && (noOth P 8 e && Nat.ble (off + len) es.length)))) (K ⟨.i .i64 ((min len ys.length : Nat) : Int), some (id, .row e (over off len ys es))⟩) none
  | _, _ => none

def evOp (site : Nat) (o : Oper) (st : St) (K : Eff → Option ρ) : Option ρ :=
  let ret (v : AV) : Option ρ := K ⟨v, none⟩
  match o.op with
  | .move x | .assign x => ret (val st x)
  | .pick c a b => match val st c with
    | .b x => match val st a, val st b with
      | .b p, .b q => ret (.b (cond x p q))
      | va, vb => cond x (ret va) (ret vb)
    | _ => none
  | .unOp .not _ x => match val st x with
    | .b a => ret (.b (!a))
    | _ => none
  | .unOp .neg _ x => match val st x with
    | .i k n => ret (.i k (k.wrap (0 - n)))
    | _ => none
  | .binOp op t x y _ => bin P op t (val st x) (val st y) ret
  | .convert src dst x => match P.underlying src, P.underlying dst, val st x with
    | some (.int _), some (.int k), .i _ n => ret (.i k (k.wrap n))
    | some (.int _), some .string, .i _ n => ret (.s (Utf8.encode n))
    | some .string, some .string, .s a => ret (.s a)
    | _, _, _ => none
  | .extract x j => match val st x with
    | .tup vs => match vs[j]? with
      | some v => ret v
      | none => none
    | _ => none
  | .field t x f => match P.underlying t, val st x with
    | some (.struct fs), .agg cs => match fs[f]? with
      | some fd => match partV P fd.type cs fd.offset with
        | some v => ret v
        | none => none
      | none => none
    | _, _ => none
  | .build t parts => match P.underlying t, zeroK P (RO (1000000 + t)) t with
    | some (.struct fs), some z => match fill P (place fs) z (parts.toList.map fun p => (p.1, val st p.2)) with
      | some cs => match fitK (RO (1000000 + t)) (cts P t) cs with
        | some cs => cond (fs.toList.all fun f => (P.info? f.type).isSome) (ret (.agg cs)) none
        | none => none
      | none => none
    | some (.array _ e), some z => match fill P (fun i => some (i * P.cellsOf e, e)) z (parts.toList.map fun p => (p.1, val st p.2)) with
      | some cs => match fitCs (cts P t) cs with
        | some cs => cond (P.info? e).isSome (ret (.agg cs)) none
        | none => none
      | none => none
    | _, _ => none
  | .buildSlice t n parts => match P.underlying t with
    | some (.slice e) => match zeroOf P e with
      | some z => cond (Nat.ble (n * P.cellsOf e) 16777216 && Nat.beq z.length (P.cellsOf e)) (match fill P (fun i => some (i * P.cellsOf e, e)) ((List.replicate n z).flatten) (parts.toList.map fun p => (p.1, val st p.2)) with
        | some cs => match fitRows (cts P e) (chunk (P.cellsOf e) n cs) with
          | some es => freshRow P RO site o.dst e es K
          | none => none
        | none => none) none
      | none => none
    | _ => none
  | .fieldAddr t x f => match P.underlying t, val st x with
    | some (.struct fs), a => match fs[f]?, a with
      | some fd, .p id i j => cond (Nat.beq (P.cellsOf fd.type) 0) none (ret (.p id i (j + fd.offset)))
      | some fd, .rp all cs j => cond (Nat.beq (P.cellsOf fd.type) 0) none (ret (.rp all cs (j + fd.offset)))
      | _, _ => none
    | _, _ => none
  | .indexAddr t x ix => match P.underlying t, val st x, val st ix with
    | some (.slice e), .rs e' es, .i _ n => cond (Nat.beq e e' && inb n es.length) (ret (.rp (cts P e) (es.getD n.toNat []) 0)) none
    | some (.slice e), .sl id off len, .i _ n => match gm st.m id with
      | .row e' es => cond (Nat.beq e e' && (inb n len && Nat.blt (off + n.toNat) es.length)) (ret (.p id (off + n.toNat) 0)) none
      | _ => none
    | some (.slice e), .gv _ e' es, .i _ n => cond (Nat.beq e e' && inb n es.length) (ret (.rp (cts P e) (es.getD n.toNat []) 0)) none
    | some (.slice e), .sa id i j len, .i _ n => cond (Nat.blt 0 (P.cellsOf e) && inb n len) (ret (.p id i (j + n.toNat * P.cellsOf e))) none
    | some (.array len e), .p id i j, .i _ n => cond (Nat.blt 0 (P.cellsOf e) && inb n len) (ret (.p id i (j + n.toNat * P.cellsOf e))) none
    | some (.array len e), .rp all cs j, .i _ n => cond (Nat.blt 0 (P.cellsOf e) && inb n len) (ret (.rp all cs (j + n.toNat * P.cellsOf e))) none
    | _, _, _ => none
  | .load t a => look P st t (val st a) ret
  | .store t a v => match val st a with
    | .p id i j => match gm st.m id with
      | .row e es => cond (okT P t && (ctsAt (cts P e) j (cts P t) && Nat.blt i es.length)) (match cond (RO (1000000 + t)) (fitCs (cts P t) (cellsOf (val st v))) none with
        | some cs => K ⟨.tup [], some (id, .row e (es.set i (setCs (es.getD i []) j cs)))⟩
        | none => match fitOs (cts P t) (cellsOf (val st v)) with
          | some cs => K ⟨.tup [], some (id, .lrow e (es.set i (setCs (es.getD i []) j cs)))⟩
          | none => none) none
      | .lrow e es => cond (okT P t && (ctsAt (cts P e) j (cts P t) && Nat.blt i es.length)) (match fitOs (cts P t) (cellsOf (val st v)) with
        | some cs => K ⟨.tup [], some (id, .lrow e (es.set i (setCs (es.getD i []) j cs)))⟩
        | none => none) none
      | _ => none
    | _ => none
  | .nilCheck x => match val st x with
    | .p id i j => ret (.p id i j)
    | .rp all cs j => ret (.rp all cs j)
    | _ => none
  | .index t x ix => match P.underlying t, val st x, val st ix with
    | some .string, .s a, .i _ n => cond (inb n a.size) (ret (.i .u8 ((a.data.toList.getD n.toNat 0).toNat : Int))) none
    | some (.array len e), .agg cs, .i _ n => match P.underlying e with
      | some (.int k) => cond (Nat.beq (P.cellsOf e) 1 && (intsOf k cs && (inb n len && inb n cs.length))) (ret (.i k (toI (cs.getD n.toNat .u)))) none
      | some .bool => cond (Nat.beq (P.cellsOf e) 1 && (boolsOf cs && (inb n len && inb n cs.length))) (ret (.b (toB (cs.getD n.toNat .u)))) none
      | _ => none
    | _, _, _ => none
  | .slice t x lo hi none => match P.underlying t, val st x with
    | some (.slice e), .rs e' es => match numOf st 0 lo, numOf st es.length hi with
      | .i _ l, .i _ h => cond ((Nat.beq e e' && Nat.blt 0 (P.cellsOf e)) && (decide (0 ≤ l) && (decide (l ≤ h) && decide (h ≤ (es.length : Int))))) (ret (.rs e ((es.take h.toNat).drop l.toNat))) none
      | _, _ => none
    | some (.slice e), .gv _ e' es => match numOf st 0 lo, numOf st es.length hi with
      | .i _ l, .i _ h => cond ((Nat.beq e e' && Nat.blt 0 (P.cellsOf e)) && (decide (0 ≤ l) && (decide (l ≤ h) && decide (h ≤ (es.length : Int))))) (ret (.rs e ((es.take h.toNat).drop l.toNat))) none
      | _, _ => none
    | some (.slice e), .sl id off len => match gm st.m id with
      | .row e' es => match numOf st 0 lo, numOf st len hi with
        | .i _ l, .i _ h => cond ((Nat.beq e e' && (Nat.blt 0 (P.cellsOf e) && Nat.ble (off + len) es.length)) && (decide (0 ≤ l) && (decide (l ≤ h) && decide (h ≤ (len : Int))))) (ret (.sl id (off + l.toNat) (h.toNat - l.toNat))) none
        | _, _ => none
      | _ => none
    | some (.pointer t'), .p id i j => match P.underlying t' with
      | some (.array n e) => match numOf st 0 lo, numOf st n hi with
        | .i _ l, .i _ h => cond ((Nat.ble n 9223372036854775807 && Nat.blt 0 (P.cellsOf e)) && (decide (0 ≤ l) && (decide (l < n) && (decide (l ≤ h) && decide (h ≤ (n : Int)))))) (ret (.sa id i (j + l.toNat * P.cellsOf e) (h.toNat - l.toNat))) none
        | _, _ => none
      | _ => none
    | some (.array n e), .p id i j => match numOf st 0 lo, numOf st n hi with
      | .i _ l, .i _ h => cond ((Nat.ble n 9223372036854775807 && Nat.blt 0 (P.cellsOf e)) && (decide (0 ≤ l) && (decide (l < n) && (decide (l ≤ h) && decide (h ≤ (n : Int)))))) (ret (.sa id i (j + l.toNat * P.cellsOf e) (h.toNat - l.toNat))) none
      | _, _ => none
    | some .string, .s a => match numOf st 0 lo, numOf st a.size hi with
      | .i _ l, .i _ h => cond (decide (0 ≤ l) && (decide (l ≤ h) && decide (h ≤ (a.size : Int)))) (ret (.s (a.extract l.toNat h.toNat))) none
      | _, _ => none
    | _, _ => none
  | .makeSlice t ln cp => match P.underlying t, val st ln, val st cp with
    | some (.slice e), .i .i64 n, .i .i64 m => match zeroOf P e, P.info? e with
      | some z, some i => cond (okT P e && (decide (n = m) && (decide (0 ≤ n) && decide (n * i.bytes ≤ 140737488355328) && decide (n ≤ 9223372036854775807)))) (K ⟨.sl site 0 n.toNat, some (site, .row e (List.replicate n.toNat z))⟩) none
      | _, _ => none
    | _, _, _ => none
  | .makeMap t none => match P.underlying t with
    | some (.map kt vt) => cond (keyT P kt && (okT P kt && okT P vt)) (K ⟨.mp site, some (site, .mp kt vt [])⟩) none
    | _ => none
  | .lookup t x ix ok => match P.underlying t, val st x with
    | some (.map kt vt), .mp id => match gm st.m id with
      | .mp kt' vt' es => match asT P kt (val st ix), zeroT P vt with
        | some k, some z => cond (Nat.beq kt kt' && Nat.beq vt vt') (cond ok (ret (.tup [mval P vt z k es, .b (mhas k es)])) (ret (mval P vt z k es))) none
        | _, _ => none
      | _ => none
    | _, _ => none
  | .mapUpdate t x k v => match P.underlying t, val st x with
    | some (.map kt vt), .mp id => match gm st.m id with
      | .mp kt' vt' es => match asT P kt (val st k), asT P vt (val st v) with
        | some k, some v => cond (Nat.beq kt kt' && Nat.beq vt vt') (K ⟨.tup [], some (id, .mp kt vt (mset k v es))⟩) none
        | _, _ => none
      | _ => none
    | _, _ => none
  | .mapEntry t x k => match P.underlying t, val st x with
    | some (.map kt vt), .mp id => match gm st.m id with
      | .mp kt' vt' es => match asT P kt (val st k), zeroT P vt with
        | some k, some z => cond ((Nat.beq kt kt' && Nat.beq vt vt') && Nat.blt es.length 9223372036854775807) (K ⟨.tup [mval P vt z k es, .i .i64 (mpos k es)], some (id, .mp kt vt (madd k z es))⟩) none
        | _, _ => none
      | _ => none
    | _, _ => none
  | .entryStore t x s v => match P.underlying t, val st x, val st s with
    | some (.map kt vt), .mp id, .i .i64 n => match gm st.m id with
      | .mp kt' vt' es => match asT P vt (val st v) with
        | some v => cond ((Nat.beq kt kt' && Nat.beq vt vt') && (decide (0 ≤ n) && decide (n < es.length))) (K ⟨.tup [], some (id, .mp kt vt (mput n.toNat v es))⟩) none
        | _ => none
      | _ => none
    | _, _, _ => none
  | .range t x => match P.underlying t, val st x with
    | some .string, .s s => K ⟨.it site, some (site, .si s 0)⟩
    | _, _ => none
  | .next x true => match val st x with
    | .it id => match gm st.m id with
      | .si s pos => cond (Nat.blt pos s.size) (K ⟨.tup [.b true, .i .i64 pos, .i .i32 (Utf8.decode s pos).1], some (id, .si s (pos + (Utf8.decode s pos).2))⟩) (K ⟨.tup [.b false], some (id, .si s pos)⟩)
      | _ => none
    | _ => none
  | .makeFunc (.func f) first caps => cond (Nat.beq first.size 0) (ret (.fn f (caps.toList.map (val st)))) none
  | .box t x => match fitCs (cts P t) (cellsOf (val st x)) with
    | some cs => fresh P RO site o.dst t cs K
    | none => none
  | .alloc t => cond (RO (1000000 + t)) (match zeroOf P t with
    | some cs => fresh P RO site o.dst t cs K
    | none => none) (match zeroK P false t with
    | some cs => freshL P RO site o.dst t cs K
    | none => none)
  | .call c => match c.callee with
    | .builtin .len => match c.args.toList.map (val st), (c.argTypes[0]?).bind P.underlying with
      | [.rs _ es], some (.slice _) => ret (.i .i64 es.length)
      | [.nl], some (.slice _) => ret (.i .i64 0)
      | [.sl _ _ n], some (.slice _) => ret (.i .i64 n)
      | [.e0 _], some (.slice _) => ret (.i .i64 0)
      | [.gv _ _ es], some (.slice _) => ret (.i .i64 es.length)
      | [.sa _ _ _ n], some (.slice _) => ret (.i .i64 n)
      | [.ln n], some (.slice _) => ret (.i .i64 n)
      | [.s a], some .string => ret (.i .i64 a.size)
      | _, _ => none
    | .builtin .max => match c.args.toList.map (val st) with
      | x :: r => match best bmax x r with
        | some v => ret v
        | none => none
      | [] => none
    | .builtin .min => match c.args.toList.map (val st) with
      | x :: r => match best bmin x r with
        | some v => ret v
        | none => none
      | [] => none
    | .builtin .append => match c.args.toList.map (val st), c.argTypes.toList with
      | [x, y], [t, t'] => match P.underlying t, x with
        | some (.slice e), .nl => grown P site (fixedNil c) e t t' .nl (fitA P t' y) K
        | some (.slice e), .e0 true => grown P site false e t t' (.e0 true) (fitA P t' y) K
        | _, _ => none
      | _, _ => none
    | .builtin .copy => match c.args.toList.map (val st), c.argTypes.toList with
      | [.sl id off len, y], [t, _] => copyV P st t id off len y K
      | _, _ => none
    | .value f => match val st f with
      | .fn g caps => cond (freeL P 0 (fitArgs P c.argTypes.toList (c.args.toList.map (val st)) ++ caps)) (match S g (fitArgs P c.argTypes.toList (c.args.toList.map (val st)) ++ caps) [] with
        | some (pre, v, []) => cond pre (ret v) none
        | _ => none) none
      | _ => none
    | _ => none
  | _ => none

def isCopy (c : Call) : Bool := match c.callee with
  | .builtin .copy => true
  | _ => false
def acc (o : Oper) (st : St) : Option Nat :=
  match o.op with
  | .load _ a | .store _ a _ | .indexAddr _ a _ | .lookup _ a _ _ | .mapUpdate _ a _ _ | .mapEntry _ a _ | .entryStore _ a _ _ | .next a _ | .slice _ a _ _ _ => match val st a with
    | .p id _ _ => some id
    | .sl id _ _ => some id
    | .mp id => some id
    | .it id => some id
    | _ => none
  | .call c => cond (isCopy c) (match c.args.toList.map (val st) with
    | .sl id _ _ :: _ => some id
    | _ => none) none
  | _ => none
def memS (o : Oper) : Bool := match o.op with
  | .load .. | .store .. | .indexAddr .. | .lookup .. | .mapUpdate .. | .mapEntry .. | .entryStore .. | .next .. | .slice .. => true
  | .call c => isCopy c
  | _ => false
def isStore (o : Oper) : Bool := match o.op with
  | .store .. | .mapUpdate .. | .mapEntry .. | .entryStore .. | .next .. => true
  | .call c => isCopy c
  | _ => false
def befRow (Ms : List Nat) (o : Oper) : Nat := o.after.toList.foldl (fun m e => cond (Region.binds .any e) ((m ||| (2 ^ e.on)) ||| Ms.getD e.on 0) m) 0
def befs (ops : Array Oper) : List Nat := ops.toList.foldl (fun Ms o => Ms ++ [befRow Ms o]) []
def looks (ops : Array Oper) (o : Oper) : List Nat :=
  (o.op.operands.toList.filterMap fun | .tmp t => some t | _ => none) ++
  (match o.guard with
   | some (g, _) => ((ops[g]?).bind (·.dst)).toList
   | none => [])
def has (l : List Nat) (x : Nat) : Bool := l.any (Nat.beq x)
def clash (ops : Array Oper) (x y : Oper) : Bool :=
  (match x.dst with
   | some d => has (looks ops y) d || (match y.dst with | some d' => Nat.beq d d' | none => false)
   | none => false) ||
  (match y.dst with
   | some d => has (looks ops x) d
   | none => false)
def steady (ops : Array Oper) (x o : Oper) : Bool := !(memS x && (match o.dst with | some d => has (looks ops x) d | none => false))
def drawRows (ops : Array Oper) (Ms : List Nat) : List Oper → Nat → Bool
  | [], _ => true
  | o :: r, j => Nat.beq (Ms.getD j 0) (befRow Ms o) && (Nat.blt (Ms.getD j 0) (2 ^ j) && ((List.range j).all (fun i => (match ops[i]? with
      | some x => (!clash ops x o || Nat.testBit (Ms.getD j 0) i) && steady ops x o
      | none => true)) && (steady ops o o && drawRows ops Ms r (j + 1))))
def drawOK (ops : Array Oper) : Bool := drawRows ops (befs ops) ops.toList 0
def apart (x o : Oper) : Bool := match x.op, o.op with
  | .lookup _ _ _ false, .mapEntry _ _ _ => true
  | _, _ => false
def memOK (ops : Array Oper) (Ms : List Nat) (j : Nat) (o : Oper) (st : St) : Bool :=
  match acc o st with
  | none => true
  | some id => (List.range j).all fun i => match ops[i]? with
    | some x => !(isStore x || isStore o) || (match acc x st with
      | some a => !Nat.beq a id || (Nat.testBit (Ms.getD j 0) i || apart x o)
      | none => true)
    | none => true
def accOK (ops : Array Oper) (Ms : List Nat) (base j : Nat) (o : Oper) (st : St) : Bool :=
  (match acc o st with
  | none => true
  | some id => Nat.blt id base || Nat.testBit (Ms.getD j 0) (id - base)) && memOK ops Ms j o st
def multi (o : Oper) : Bool := match o.op with
  | .call c => (match c.callee with
    | .builtin .append => true
    | .value _ => true
    | _ => false)
  | _ => false
def chainFrom (ops : Array Oper) (c : Nat) : Bool := (List.range ops.size).all fun j => Nat.blt j c || Nat.beq ((befs ops).getD j 0) (2 ^ j - 1)
def cutAt (ops : Array Oper) : Nat := ((List.range ops.size).find? fun j => (match ops[j]? with
  | some o => multi o
  | none => false) && chainFrom ops j).getD ops.size
def chkOf (ops : Array Oper) (draw : Bool) (base : Nat) : Nat → Oper → St → Bool := cond draw (accOK ops (befs ops) base) (fun _ _ _ => true)

def evOps (all : Array Oper) (base : Nat) (chk : Nat → Oper → St → Bool) : List Oper → Nat → St → (St → Option ρ) → Option ρ
  | [], _, st, K => K st
  | o :: r, j, st, K => cond (((o.dst.map (Nat.blt · st.nt)).getD true) && chk j o st) (
    match o.guard with
    | none => evOp P S RO (base + j) o st fun e => evOps all base chk r (j + 1) (st.app o.dst e) K
    | some (g, want) => match (all[g]?).bind (·.dst) with
      | none => none
      | some tg => match gt st.t tg with
        | .b x => cond x
            (cond want (evOp P S RO (base + j) o (st.put (some tg) (.b true)) fun e => evOps all base chk r (j + 1) ((st.put (some tg) (.b true)).app o.dst e) K) (evOps all base chk r (j + 1) ((st.put (some tg) (.b true)).put o.dst (.tup [])) K))
            (cond want (evOps all base chk r (j + 1) ((st.put (some tg) (.b false)).put o.dst (.tup [])) K) (evOp P S RO (base + j) o (st.put (some tg) (.b false)) fun e => evOps all base chk r (j + 1) ((st.put (some tg) (.b false)).app o.dst e) K))
        | .tup [] => evOps all base chk r (j + 1) (st.put o.dst (.tup [])) K
        | _ => none) none

def pos : List Nat → Nat → Nat
  | [], _ => 0
  | a :: r, id => cond (Nat.beq id a) 0 (pos r id + 1)
def addAll : List Nat → List Nat → List Nat
  | [], I => I
  | x :: r, I => addAll r (cond (has I x) I (I ++ [x]))
def reach (st : St) : Nat → List Nat → List Nat
  | 0, I => I
  | n + 1, I => reach st n (addAll (I.flatMap fun id => idsB P (gm st.m id)) I)
def back (I : List Nat) (j : Nat) : Nat := I.getD j 0
def putRows : List Nat → List Blk → List (Nat × Blk) → List (Nat × Blk)
  | i :: I, b :: bs, m => (i, b) :: putRows I bs m
  | _, _, m => m
def nd : List Nat → Bool
  | [] => true
  | a :: r => !has r a && nd r
def callM (o : Oper) (st : St) (g : FuncId) (args : List AV) (K : St → Option ρ) : Option ρ :=
  let I := reach P st 4 (addAll (idsL P args) [])
  cond (nd I && (okL P (has I) args && I.all (fun id => okB P (has I) (gm st.m id)))) (match S g (renL P (pos I) args) (I.map fun id => renB P (pos I) (gm st.m id)) with
    | some (pre, v, rows) => cond (pre && (Nat.beq rows.length I.length && (okV P (Nat.blt · I.length) v && rows.all (okB P (Nat.blt · I.length))))) (K ({ st with m := putRows I (rows.map (renB P (back I))) st.m }.put o.dst (renV P (back I) v))) none
    | none => none) none
def growM (site : Nat) (o : Oper) (st : St) (t t' : TypeId) (id : Nat) (e : TypeId) (es : List (List AV)) (y : AV) (K : St → Option ρ) : Option ρ :=
  match P.underlying t, y, gm st.m id, P.info? e with
  | some (.slice e2), .rs e' ys, .fr e3, some i => cond (Nat.beq t t' && (Nat.beq e e2 && (Nat.beq e e' && (Nat.beq e e3 && (okT P e && (noOth P 8 e && Nat.ble (es.length + ys.length) 9223372036854775807) && (i.zero.isSome && Nat.beq ((i.zero.map fun z => z.cells.size).getD 0) i.size))))))
      (cond (Nat.ble ((es.length + ys.length) * i.bytes) 140737488355328) (K (((st.mem id .dead).mem site (.fr e)).put o.dst (.gv site e (es ++ ys)))) none) none
  | _, _, _, _ => none
inductive Kd where
  | plain
  | call (g : FuncId) (args : List AV)
  | grow (t t' : TypeId) (id : Nat) (e : TypeId) (es : List (List AV)) (y : AV)
  | bad
def kdC (st : St) (c : Call) : Kd :=
  match c.callee with
  | .value f => match val st f with
    | .fn g caps => cond (freeL P 0 (fitArgs P c.argTypes.toList (c.args.toList.map (val st)) ++ caps)) .plain (.call g (fitArgs P c.argTypes.toList (c.args.toList.map (val st)) ++ caps))
    | _ => .bad
  | .builtin .append => match c.args.toList.map (val st), c.argTypes.toList with
    | [.gv id e es, y], [t, t'] => .grow t t' id e es (fitA P t' y)
    | _, _ => .plain
  | _ => .plain
def kd (o : Oper) (st : St) : Kd :=
  match o.op with
  | .call c => kdC P st c
  | _ => .plain
def evDo (site : Nat) (o : Oper) (st : St) (K : St → Option ρ) : Option ρ :=
  match kd P o st with
  | .plain => evOp P S RO site o st fun e => K (st.app o.dst e)
  | .call g args => callM P S o st g args K
  | .grow t t' id e es y => growM P site o st t t' id e es y K
  | .bad => none
def evOpsB (all : Array Oper) (base : Nat) : List Oper → Nat → St → (St → Option ρ) → Option ρ
  | [], _, st, K => K st
  | o :: r, j, st, K => cond ((o.dst.map (Nat.blt · st.nt)).getD true) (
    match o.guard with
    | none => evDo P S RO (base + j) o st fun s => evOpsB all base r (j + 1) s K
    | some (g, want) => match (all[g]?).bind (·.dst) with
      | none => none
      | some tg => match gt st.t tg with
        | .b x => cond x
            (cond want (evDo P S RO (base + j) o (st.put (some tg) (.b true)) fun s => evOpsB all base r (j + 1) s K) (evOpsB all base r (j + 1) ((st.put (some tg) (.b true)).put o.dst (.tup [])) K))
            (cond want (evOpsB all base r (j + 1) ((st.put (some tg) (.b false)).put o.dst (.tup [])) K) (evDo P S RO (base + j) o (st.put (some tg) (.b false)) fun s => evOpsB all base r (j + 1) s K))
        | .tup [] => evOpsB all base r (j + 1) (st.put o.dst (.tup [])) K
        | _ => none) none

inductive Ex where
  | nrm
  | ext (id : Nat)
  | ret
  deriving DecidableEq, Inhabited

def keepV (nb : Nat) (v : AV) : AV :=
  match v with
  | .gv _ e es => cond (noOth P 8 e) (.rs e es) .u
  | v => cond (free P nb v) v .u
def keepB (nb : Nat) (b : Blk) : Blk := cond (freeB P nb b) b .dead
def grows (st : St) (e : TypeId) : AV → Option (Option Nat × List (List AV))
  | .nl => some (none, [])
  | .gv id e' es => cond (Nat.beq e e') (match gm st.m id with
    | .fr e'' => cond (Nat.beq e e'') (some (some id, es)) none
    | _ => none) none
  | _ => none
structure Kept where
  t : List (Nat × AV)
  m : List (Nat × Blk)
  src : List (Option Nat)
  nx : Nat
def movesTo (nb : Nat) (st : St) (e : TypeId) : AV → Option (Nat × List AV)
  | .p id 0 0 => cond (Nat.ble nb id) (match gm st.m id with
    | .row e' [cs] => cond (Nat.beq e e' && freeB P nb (.row e [cs])) (some (id, cs)) none
    | _ => none) none
  | _ => none
def notIn (src : List (Option Nat)) (id : Nat) : Bool := !(src.any fun x => match x with
  | some id' => Nat.beq id id'
  | none => false)
def vcell (t : Nat) : Option (Nat × Nat) := cond (Nat.ble 1000000 t) (some ((t - 1000000) / 100, (t - 1000000) % 100)) none
def gx (st : St) (t : Nat) : AV := match vcell t with
  | none => gt st.t t
  | some (id, j) => match gm st.m id with
    | .lrow _ [cs] => cs.getD j .u
    | _ => .u
def keeps (nb : Nat) (st : St) : List (Nat × Option TypeId) → Nat → Option Kept
  | [], h => some ⟨[], [], [], h⟩
  | (t, none) :: r, h => match keeps nb st r h with
    | some k => some ⟨(t, keepV P nb (gx st t)) :: k.t, k.m, k.src, k.nx⟩
    | none => none
  | (t, some e) :: r, h => match movesTo P nb st e (gx st t), keeps nb st r (h + 1) with
    | some (id, cs), some k => cond (notIn k.src id) (some ⟨(t, .p h 0 0) :: k.t, (h, .row e [cs]) :: k.m, some id :: k.src, k.nx⟩) none
    | _, _ => match grows st e (gx st t), keeps nb st r (h + 1) with
    | some (src, es), some k => cond ((okT P e && noOth P 8 e) && (match src with
        | some id => notIn k.src id
        | none => true)) (some ⟨(t, .gv h e es) :: k.t, (h, .fr e) :: k.m, src :: k.src, k.nx⟩) none
    | _, _ => none
def liveOnly (st : St) : St :=
  { st with t := st.t.map fun p => (p.1, cond (okV P (fun id => alive (gm st.m id)) p.2) (renV P (fun id => id) p.2) .u), m := st.m.map fun p => (p.1, cond (okB P (fun id => alive (gm st.m id)) p.2) (renB P (fun id => id) p.2) .dead) }
def hide (p : Nat × AV) : Nat × AV := (p.1, cond (Nat.ble 1000000 p.1) .u p.2)
def virt (id : Nat) : List (Nat × AV) → Option (Nat × AV)
  | [] => none
  | (t, v) :: r => match vcell t with
    | some (id', j) => cond (Nat.beq id id') (some (j, v)) (virt id r)
    | none => virt id r
def keepC (nb : Nat) (kt : List (Nat × AV)) (id : Nat) (b : Blk) : Blk :=
  match virt id kt, b with
  | some (j, v), .lrow e [cs] => cond (freeB P nb (.lrow e [cs.set j .nl]) && Nat.blt j cs.length) (.lrow e [cs.set j v]) .dead
  | _, b => keepB P nb b
def norm (keep : List (Nat × Option TypeId)) (nb : Nat) (st : St) : Option St :=
  cond (Nat.ble nb st.nx) (match keeps P nb st keep nb with
    | some k => some { t := k.t.map hide, m := k.m ++ (List.range nb).map fun id => (id, keepC P nb k.t id (gm st.m id)), nx := k.nx, nt := st.nt }
    | none => none) none

abbrev Pl := List Bool
abbrev LSpec := Pl → St → Option (List (Bool × Ex × St))
def pickK (K : Ex → St → Option ρ) : List (Bool × Ex × St) → Option ρ
  | [] => none
  | (g, e, s) :: r => cond g (K e s) (pickK K r)
variable (L : LSpec)

def evC : Code → Pl → St → (Ex → St → Option ρ) → Option ρ
  | .skip, _, st, K => K .nrm st
  | .region _ ops draw, _, st, K => cond (!draw || drawOK ops) (cond draw (evOps P S RO ops st.nx (chkOf ops true st.nx) (ops.toList.take (cutAt ops)) 0 st fun s => evOpsB P S RO ops st.nx (ops.toList.drop (cutAt ops)) (cutAt ops) s fun s => K .nrm { s with nx := s.nx + ops.size })
      (evOpsB P S RO ops st.nx ops.toList 0 st fun st => K .nrm { st with nx := st.nx + ops.size })) none
  | .seq a b, p, st, K => evC a (false :: p) st fun e st => match e with
    | .nrm => evC b (true :: p) st K
    | e => K e st
  | .cond c a b, p, st, K => match c, val st c with
    | .tmp t, .b x => cond x (evC a (false :: p) (st.put (some t) (.b true)) K) (evC b (true :: p) (st.put (some t) (.b false)) K)
    | _, .b x => cond x (evC a (false :: p) st K) (evC b (true :: p) st K)
    | _, _ => none
  | .block id c, p, st, K => evC c (false :: p) st fun e st => match e with
    | .ext j => cond (Nat.beq j id) (K .nrm st) (K (.ext j) st)
    | e => K e st
  | .loop _, p, st, K => match L p st with
    | some outs => pickK K outs
    | none => none
  | .rangeFunc _ _ _ _, p, st, K => match L p st with
    | some outs => pickK K outs
    | none => none
  | .exit id, _, st, K => K (.ext id) st
  | .ret, _, st, K => K .ret st
  | _, _, _, _ => none

def resV (st : St) : ResultVar → Option AV
  | .tmp t => some (gt st.t t)
  | .cell a t => look P st t (gt st.t a) some
def resVs (st : St) : List ResultVar → Option (List AV)
  | [] => some []
  | r :: rs => match resV P st r, resVs st rs with
    | some v, some vs => some (v :: vs)
    | _, _ => none
def retV (fn : Func) (st : St) : Option AV :=
  match resVs P st fn.results.toList with
  | some [v] => some v
  | some vs => some (.tup vs)
  | none => none
def nums {α : Type} : Nat → List α → List (Nat × α)
  | _, [] => []
  | j, a :: l => (j, a) :: nums (j + 1) l
def initSt (nt : Nat) (args : List AV) (rows : List Blk) : St := { t := nums 0 args, m := nums 0 rows, nx := rows.length, nt := nt }
mutual
def frz (k : Nat) (st : St) : AV → AV
  | .sl id off len => cond (Nat.blt id k) (.sl id off len) (match gm st.m id with
    | .row e es => .rs e (cond (Nat.beq off 0 && Nat.beq len es.length) es ((es.drop off).take len))
    | _ => .sl id off len)
  | .gv _ e es => .rs e es
  | .agg cs => .agg (frzL k st cs)
  | .tup cs => .tup (frzL k st cs)
  | a => a
def frzL (k : Nat) (st : St) : List AV → List AV
  | [] => []
  | a :: r => frz k st a :: frzL k st r
end
mutual
def frzG (k : Nat) (st : St) : AV → Bool
  | .sl id off len => Nat.blt id k || (match gm st.m id with
    | .row e es => noOth P 8 e && Nat.ble (off + len) es.length
    | _ => false)
  | .gv _ e _ => noOth P 8 e
  | .agg cs => frzGL k st cs
  | .tup cs => frzGL k st cs
  | a => free P k a
def frzGL (k : Nat) (st : St) : List AV → Bool
  | [] => true
  | a :: r => frzG k st a && frzGL k st r
end
mutual
def frzK {ρ : Type} (k : Nat) (st : St) : AV → Option ρ → Option ρ
  | .sl id off len, K => cond (Nat.blt id k) K (match gm st.m id with
    | .row e es => cond (noOth P 8 e) (cond (Nat.ble (off + len) es.length) K none) none
    | _ => none)
  | .gv _ e _, K => cond (noOth P 8 e) K none
  | .agg cs, K => frzKL k st cs K
  | .tup cs, K => frzKL k st cs K
  | a, K => cond (free P k a) K none
def frzKL {ρ : Type} (k : Nat) (st : St) : List AV → Option ρ → Option ρ
  | [], K => K
  | a :: r, K => frzK k st a (frzKL k st r K)
end
def fullB : Blk → Bool
  | .dead => false
  | .fr _ => false
  | _ => true
def retK (k : Nat) (fn : Func) (st : St) : Option (AV × List Blk) :=
  match retV P fn st with
  | some v => frzK P k st v (cond ((List.range k).all fun id => fullB (gm st.m id) && freeB P k (gm st.m id)) (some (frz k st v, (List.range k).map (gm st.m))) none)
  | none => none
def retF (fn : Func) (st : St) : Option AV :=
  match retV P fn st with
  | some v => frzK P 0 st v (some (frz 0 st v))
  | none => none
def evW {β : Type} (fin : Func → St → Option β) (fn : Func) (args : List AV) (rows : List Blk) : Option β :=
  match fn.body with
  | some c => cond (Nat.ble args.length fn.ntmps && rows.all fullB) (evC P S RO L c [] (initSt fn.ntmps args rows) fun e st => match e with
    | .ret => fin fn st
    | .nrm => fin fn st
    | .ext _ => none) none
  | none => none
def evM (fn : Func) (args : List AV) (rows : List Blk) : Option (AV × List Blk) := evW P S RO L (retK P rows.length) fn args rows
def evF (fn : Func) (args : List AV) : Option AV := evW P S RO L (retF P) fn args []
end
end Go.Ev

set_option linter.unusedVariables false
set_option linter.unusedSimpArgs false
namespace Go.Ev
open Go Go.RowKit

variable (P : Program)

inductive WT : CT → AV → Prop
  | int {k : IntKind} {n : Int} : k.min ≤ n → n ≤ k.max → WT (.int k) (.i k n)
  | bool {x : Bool} : WT .bool (.b x)
  | str {x : ByteArray} : x.size ≤ 9223372036854775807 → WT .str (.s x)
  | sl {e : TypeId} {es : List (List AV)} : es.length ≤ 9223372036854775807 → (∀ x, x ∈ es → x.length = (cts P e).length) →
      (∀ x, x ∈ es → ∀ j, j < x.length → WT ((cts P e).getD j .oth) (x.getD j .u)) → WT (.sl e) (.rs e es)
  | oth {a : AV} : WT .oth a
def WTs (all : List CT) (cs : List AV) : Prop := cs.length = all.length ∧ ∀ j, j < cs.length → WT P (all.getD j .oth) (cs.getD j .u)

inductive VR (D : Nat → Nat → Prop) (R : Nat → Option (Nat × Nat × Nat)) (w : World) : AV → Value → Prop
  | b {x : Bool} : VR D R w (.b x) (.bool x)
  | i {k : IntKind} {n : Int} : k.min ≤ n → n ≤ k.max → VR D R w (.i k n) (.int k n)
  | s {x : ByteArray} : x.size ≤ 9223372036854775807 → VR D R w (.s x) (.string x)
  | nl : VR D R w .nl (.slice none 0 0)
  | rs0 {e : TypeId} {a : Option Addr} {c : Nat} : (a = none → c = 0) → VR D R w (.rs e []) (.slice a 0 c)
  | e0 {full : Bool} {a : Addr} {c : Nat} : (full = true → c = 0) → VR D R w (.e0 full) (.slice (some a) 0 c)
  | rs {e : TypeId} {es : List (List AV)} {b o c : Nat} {f : Nat → Nat → Value} : es ≠ [] → 0 < P.cellsOf e → es.length ≤ c → (cts P e).length = P.cellsOf e → (∀ i j, i < es.length → j < P.cellsOf e → ¬ D b (o + (i * P.cellsOf e + j))) → WT P (.sl e) (.rs e es) →
      (∀ i j, i < es.length → j < P.cellsOf e → w.cell? ⟨b, o + (i * P.cellsOf e + j), none⟩ = some (f i j)) →
      (∀ i j, i < es.length → j < P.cellsOf e → VR D R w ((es.getD i []).getD j .u) (f i j)) → VR D R w (.rs e es) (.slice (some ⟨b, o, none⟩) es.length c)
  | gv {id : Nat} {e : TypeId} {es : List (List AV)} {b c : Nat} {f : Nat → Nat → Value} : es ≠ [] → 0 < P.cellsOf e → es.length ≤ c → (cts P e).length = P.cellsOf e → (∀ i j, i < es.length → j < P.cellsOf e → ¬ D b (0 + (i * P.cellsOf e + j))) → WT P (.sl e) (.rs e es) →
      (∀ i j, i < es.length → j < P.cellsOf e → w.cell? ⟨b, 0 + (i * P.cellsOf e + j), none⟩ = some (f i j)) →
      (∀ i j, i < es.length → j < P.cellsOf e → VR D R w ((es.getD i []).getD j .u) (f i j)) → R id = some (b, c, es.length) → VR D R w (.gv id e es) (.slice (some ⟨b, 0, none⟩) es.length c)
  | gv0 {id : Nat} {e : TypeId} {a : Option Addr} {b : Nat} : R id = some (b, 0, 0) → VR D R w (.gv id e []) (.slice a 0 0)
  | sl {id off len b sz c : Nat} : R id = some (b, sz, 0) → len ≤ c → len ≤ 9223372036854775807 → VR D R w (.sl id off len) (.slice (some ⟨b, off * sz, none⟩) len c)
  | sa {id i j len b sz c : Nat} : R id = some (b, sz, 0) → len ≤ c → len ≤ 9223372036854775807 → VR D R w (.sa id i j len) (.slice (some ⟨b, i * sz + j, none⟩) len c)
  | mp {id b : Nat} : R id = some (b, 1, 0) → VR D R w (.mp id) (.map (some b))
  | it {id b : Nat} : R id = some (b, 1, 0) → VR D R w (.it id) (.pointer (some ⟨b, 0, none⟩))
  | sl0 {id off c : Nat} {a : Option Addr} : (a = none → c = 0) → VR D R w (.sl id off 0) (.slice a 0 c)
  | p {id i j b sz : Nat} : R id = some (b, sz, 0) → VR D R w (.p id i j) (.pointer (some ⟨b, i * sz + j, none⟩))
  | rp {all : List CT} {cs : List AV} {j b o : Nat} {f : Nat → Value} : (∀ k, k < cs.length → ¬ D b (o + k)) → 0 < cs.length → WTs P all cs →
      (∀ k, k < cs.length → w.cell? ⟨b, o + k, none⟩ = some (f k)) → (∀ k, k < cs.length → VR D R w (cs.getD k .u) (f k)) →
      VR D R w (.rp all cs j) (.pointer (some ⟨b, o + j, none⟩))
  | np : VR D R w .np (.pointer none)
  | ln {n c : Nat} {ad : Option Addr} : n ≤ 9223372036854775807 → VR D R w (.ln n) (.slice ad n c)
  | fn {f : FuncId} {caps : List AV} {cv : Array Value} : cv.size = caps.length → (∀ k, k < caps.length → VR D R w (caps.getD k .u) (cv.getD k undef)) → VR D R w (.fn f caps) (.func (.func f) #[] cv)
  | nf : VR D R w .nf .nilFunc
  | yl {l : Nat} : VR D R w (.yl l) (.func (.yield l) #[] #[])
  | ni : VR D R w .ni .nilIface
  | nm : VR D R w .nm (.map none)
  | ifc {t : TypeId} {x : AV} {v : Value} : VR D R w x v → VR D R w (.ifc t x) (.iface t v)
  | agg {cs : List AV} {cv : Array Value} : cv.size = cs.length → (∀ k, k < cs.length → VR D R w (cs.getD k .u) (cv.getD k undef)) → VR D R w (.agg cs) (.agg cv)
  | tup {cs : List AV} {cv : Array Value} : cv.size = cs.length → (∀ k, k < cs.length → VR D R w (cs.getD k .u) (cv.getD k undef)) → VR D R w (.tup cs) (.tuple cv)
  | u {v : Value} : VR D R w .u v

variable {P}
variable {D D' : Nat → Nat → Prop} {R R' : Nat → Option (Nat × Nat × Nat)} {w w' : World}

theorem VR.mono' {a : AV} {v : Value} (h : VR P D R w a v) (hR : ∀ id x, R id = some x → R' id = some x)
    (hc : ∀ (b o : Nat) (u : Value), ¬ D b o → w.cell? ⟨b, o, none⟩ = some u → ¬ D' b o ∧ w'.cell? ⟨b, o, none⟩ = some u) : VR P D' R' w' a v := by
  induction h with
  | b => exact .b
  | i h1 h2 => exact .i h1 h2
  | s h => exact .s h
  | nl => exact .nl
  | rs0 h => exact .rs0 h
  | e0 h => exact .e0 h
  | sl0 h => exact .sl0 h
  | gv h1 hz h2 h3 h4 h5 h6 h7 h8 ih =>
    exact .gv h1 hz h2 h3 (fun i j hi hj => (hc _ _ _ (h4 i j hi hj) (h6 i j hi hj)).1) h5 (fun i j hi hj => (hc _ _ _ (h4 i j hi hj) (h6 i j hi hj)).2) ih (hR _ _ h8)
  | gv0 h => exact .gv0 (hR _ _ h)
  | sa h1 h2 h3 => exact .sa (hR _ _ h1) h2 h3
  | mp h => exact .mp (hR _ _ h)
  | it h => exact .it (hR _ _ h)
  | @rs e es b o c f h1 hz h2 h3 h4 h5 h6 h7 ih =>
    exact .rs h1 hz h2 h3 (fun i j hi hj => (hc _ _ _ (h4 i j hi hj) (h6 i j hi hj)).1) h5 (fun i j hi hj => (hc _ _ _ (h4 i j hi hj) (h6 i j hi hj)).2) ih
  | sl h1 h2 h3 => exact .sl (hR _ _ h1) h2 h3
  | p h => exact .p (hR _ _ h)
  | @rp all cs j b o f h1 h0 h2 h3 h4 ih => exact .rp (fun k hk => (hc _ _ _ (h1 k hk) (h3 k hk)).1) h0 h2 (fun k hk => (hc _ _ _ (h1 k hk) (h3 k hk)).2) ih
  | np => exact .np
  | ln h => exact .ln h
  | fn h1 _ ih => exact .fn h1 ih
  | nf => exact .nf
  | yl => exact .yl
  | ni => exact .ni
  | nm => exact .nm
  | ifc _ ih => exact .ifc ih
  | agg h1 _ ih => exact .agg h1 ih
  | tup h1 _ ih => exact .tup h1 ih
  | u => exact .u

theorem VR.mono {a : AV} {v : Value} (h : VR P D R w a v) (hR : ∀ id x, R id = some x → R' id = some x)
    (hw : ∀ b, b < w.heap.size → (∀ o, D b o) ∨ ((∀ o, ¬ D b o → ¬ D' b o) ∧ w'.heap[b]? = w.heap[b]?)) : VR P D' R' w' a v :=
  h.mono' hR fun b o u hd hc => by
    have hlt := World.block_lt_of_cell? w _ hc
    rcases hw b hlt with h | ⟨h1, h2⟩
    · exact absurd (h o) hd
    · exact ⟨h1 o hd, (World.cell?_of_block (w := w) h2).trans hc⟩

theorem proj_WT {c : CT} {a : AV} (h : WT P c a) : proj c a = a := by
  cases h <;> simp [proj, toI, toB, toS, toE]
theorem ctEq_eq {a b : CT} (h : ctEq a b = true) : a = b := by
  cases a <;> cases b <;> simp_all [ctEq]
theorem ctsEq_eq : ∀ {a b : List CT}, ctsEq a b = true → a = b
  | [], [], _ => rfl
  | [], _ :: _, h => by simp [ctsEq] at h
  | _ :: _, [], h => by simp [ctsEq] at h
  | a :: x, b :: y, h => by
    simp only [ctsEq, Bool.and_eq_true] at h
    rw [ctEq_eq h.1, ctsEq_eq h.2]
theorem ctsAt_spec {all want : List CT} {j : Nat} (h : ctsAt all j want = true) :
    ∀ k, k < want.length → j + k < all.length ∧ all.getD (j + k) .oth = want.getD k .oth := by
  have exact_ : ctsEq ((all.drop j).take want.length) want = true → ∀ k, k < want.length → j + k < all.length ∧ all.getD (j + k) .oth = want.getD k .oth := by
    intro h k hk
    have e := ctsEq_eq h
    have hlen : ((all.drop j).take want.length).length = want.length := by rw [e]
    simp at hlen
    refine ⟨by omega, ?_⟩
    conv => rhs; rw [← e]
    simp [List.getD_eq_getElem?_getD, List.getElem?_take, hk]
  match want, h with
  | [], h => intro k hk; simp at hk
  | [c], h =>
    simp only [ctsAt] at h
    cases ha : all.all (ctEq c ·) with
    | true =>
      rw [ha] at h
      simp only [cond_true] at h
      have hlt : j < all.length := by simpa [Nat.blt_eq] using h
      intro k hk
      have : k = 0 := by simpa using hk
      subst this
      refine ⟨by omega, ?_⟩
      have hm := List.all_eq_true.1 ha (all[j]) (List.getElem_mem hlt)
      simp [List.getD_eq_getElem?_getD, List.getElem?_eq_getElem hlt, (ctEq_eq hm).symm]
    | false =>
      rw [ha] at h
      exact exact_ (by simpa using h)
  | a :: b :: r, h => exact exact_ h
theorem WTs.at_ {all want : List CT} {cs : List AV} {j : Nat} (h : WTs P all cs) (hc : ctsAt all j want = true) :
    ∀ k, k < want.length → j + k < cs.length ∧ WT P (want.getD k .oth) (cs.getD (j + k) .u) := by
  intro k hk
  obtain ⟨h1, h2⟩ := ctsAt_spec hc k hk
  have h3 : j + k < cs.length := by rw [h.1]; exact h1
  exact ⟨h3, h2 ▸ h.2 _ h3⟩
theorem projs_length : ∀ (want : List CT) (cs : List AV) (j : Nat), (projs want cs j).length = want.length
  | [], _, _ => rfl
  | _ :: r, cs, j => by simp [projs, projs_length r cs (j + 1)]
theorem projs_getD : ∀ (want : List CT) (cs : List AV) (j k : Nat), k < want.length → (projs want cs j).getD k .u = proj (want.getD k .oth) (cs.getD (j + k) .u)
  | [], _, _, k, h => by simp at h
  | c :: r, cs, j, 0, _ => by simp [projs]
  | c :: r, cs, j, k + 1, h => by
    have := projs_getD r cs (j + 1) k (by simpa using h)
    simp only [projs, List.getD_cons_succ]
    rw [this]
    congr 2
    omega
theorem okT_spec {t : TypeId} (h : okT P t = true) : (cts P t).length = P.cellsOf t ∧ 0 < P.cellsOf t ∧ (isAgg P t = false → (cts P t).length = 1) := by
  unfold okT at h
  simp only [Bool.and_eq_true, Bool.or_eq_true] at h
  obtain ⟨⟨h1, h2⟩, h3⟩ := h
  refine ⟨Nat.eq_of_beq_eq_true h1, by simpa [Nat.blt_eq] using h2, fun hf => ?_⟩
  rcases h3 with h3 | h3
  · rw [hf] at h3; cases h3
  · exact Nat.eq_of_beq_eq_true h3
theorem okT_under {t : TypeId} (h : okT P t = true) : ∃ d, P.underlying t = some d := by
  obtain ⟨h1, h2, _⟩ := okT_spec h
  cases hu : P.underlying t with
  | some d => exact ⟨d, rfl⟩
  | none => simp [cts, ctsOf, hu] at h1; omega
theorem cellsOf_info {t : TypeId} (h : 0 < P.cellsOf t) : ∃ i, P.info? t = some i ∧ i.size = P.cellsOf t := by
  unfold Program.cellsOf at h ⊢
  cases hi : P.info? t with
  | some i => exact ⟨i, rfl, by simp⟩
  | none => simp [hi] at h
theorem run_sizeOf' {t : TypeId} (h : 0 < P.cellsOf t) (w : World) : (sizeOf t).run P w = .ok (P.cellsOf t) w := by
  obtain ⟨i, hi, hs⟩ := cellsOf_info h
  simp [sizeOf, typeInfo, hi, hs]
theorem run_underlying' {t : TypeId} {d : TypeDesc} (h : P.underlying t = some d) (w : World) : (underlying t).run P w = .ok d w := by
  simp [underlying, h]
theorem run_isAgg' {t : TypeId} {d : TypeDesc} (h : P.underlying t = some d) (w : World) : (Go.isAgg t).run P w = .ok (isAgg P t) w := by
  simp only [Go.isAgg, Sem.run_bind, run_underlying' h, Result.andThen_ok, isAgg, h]
  cases d <;> rfl
theorem add_plain' (b o j : Nat) : (⟨b, o, none⟩ : Addr).add j = ⟨b, o + j, none⟩ := by unfold Addr.add; split <;> simp_all

theorem run_loadVar' {t : TypeId} (ht : okT P t = true) {b o : Nat} {f : Nat → Value} (hc : ∀ k, k < P.cellsOf t → w.cell? ⟨b, o + k, none⟩ = some (f k)) :
    (loadVar t ⟨b, o, none⟩).run P w = .ok (if isAgg P t then .agg ((List.range (P.cellsOf t)).map f).toArray else f 0) w := by
  obtain ⟨d, hd⟩ := okT_under ht
  obtain ⟨h1, h2, h3⟩ := okT_spec ht
  simp only [loadVar, Sem.run_bind, run_isAgg' hd, Result.andThen_ok]
  cases hA : isAgg P t with
  | true =>
    simp only [if_true, Sem.run_bind, run_sizeOf' h2, Result.andThen_ok]
    rw [run_loadCells w ⟨b, o, none⟩ _ f (fun j hj => by rw [add_plain']; exact hc j hj)]
    simp
  | false =>
    have := hc 0 h2
    simp at this
    simp [run_load, this]

theorem VR_mkV {t : TypeId} (ht : okT P t = true) {all : List CT} {cs : List AV} {j : Nat} (hw : WTs P all cs) (hc : ctsAt all j (cts P t) = true) {f : Nat → Value}
    (hv : ∀ k, k < P.cellsOf t → VR P D R w (cs.getD (j + k) .u) (f k)) :
    VR P D R w (mkV P t cs j) (if isAgg P t then .agg ((List.range (P.cellsOf t)).map f).toArray else f 0) := by
  obtain ⟨h1, h2, h3⟩ := okT_spec ht
  have key : ∀ k, k < P.cellsOf t → VR P D R w (proj ((cts P t).getD k .oth) (cs.getD (j + k) .u)) (f k) := by
    intro k hk
    obtain ⟨_, hW⟩ := hw.at_ hc k (by omega)
    rw [proj_WT hW]
    exact hv k hk
  unfold mkV
  cases hA : isAgg P t with
  | true =>
    simp only [cond_true, if_true]
    refine .agg (by simp [projs_length, h1]) fun k hk => ?_
    rw [projs_length, h1] at hk
    rw [projs_getD _ _ _ _ (by omega)]
    simpa [Array.getD_eq_getD_getElem?, hk] using key k hk
  | false =>
    have h4 := h3 hA
    have := key 0 h2
    simp only [cond_false, Bool.false_eq_true, if_false]
    have e : (cts P t).headD .oth = (cts P t).getD 0 .oth := by cases (cts P t) <;> simp
    rw [e]
    simpa using this
end Go.Ev

set_option linter.unusedVariables false
set_option linter.unusedSimpArgs false
namespace Go.Ev
open Go Go.RowKit

variable {P : Program}

mutual
def toV : AV → Value
  | .b x => .bool x
  | .i k n => .int k n
  | .s x => .string x
  | .agg cs => .agg (toVL cs).toArray
  | _ => undef
def toVL : List AV → List Value
  | [] => []
  | a :: r => toV a :: toVL r
end
mutual
def plain : AV → Bool
  | .b _ => true
  | .i k n => decide (k.min ≤ n) && decide (n ≤ k.max)
  | .s x => Nat.ble x.size 9223372036854775807
  | .agg cs => plainL cs
  | _ => false
def plainL : List AV → Bool
  | [] => true
  | a :: r => plain a && plainL r
end
def mark1 (b : Nat) : Deferred := { target := .collected b, args := #[] }
structure Base where
  w : World
  Y : Nat → Prop
  K : Nat → Prop
  B : Nat
  le : B ≤ w.heap.size
structure BelowY (b : Base) (w : World) : Prop where
  os : w.os = b.w.os
  tape : w.tape = b.w.tape
  output : w.output = b.w.output
  size : b.w.heap.size ≤ w.heap.size
  block : ∀ k, k < b.w.heap.size → ¬ b.Y k → w.heap[k]? = b.w.heap[k]?
theorem BelowY.trans {b : Base} {w w' : World} (h : BelowY b w) (k : Below w.heap.size w w') : BelowY b w' :=
  ⟨k.os.trans h.os, k.tape.trans h.tape, k.output.trans h.output, Nat.le_trans h.size k.size, fun i hi hY => (k.block i (Nat.lt_of_lt_of_le hi h.size)).trans (h.block i hi hY)⟩
def owns (P : Program) : Blk → Nat × Nat → Nat → Prop
  | .dead, _, _ => False
  | .fr e, s, o => s.1 ≠ 0 ∧ s.2 * P.cellsOf e ≤ o
  | _, _, _ => True
structure TV (P : Program) (t : TypeId) (v : AV) : Prop where
  w : WTs P (cts P t) (cellsOf v)
  a : isAgg P t = true → ∃ cs, v = .agg cs
  n : isAgg P t = false → cellsOf v = [v]
def RowOK (P : Program) (D : Nat → Nat → Prop) (R : Nat → Option (Nat × Nat × Nat)) (w : World) (id : Nat) : Blk → Prop
  | .row e es => es ≠ [] → ∃ b cells ty, R id = some (b, P.cellsOf e, 0) ∧ w.heap[b]? = some (.cells cells ty (0, 0)) ∧
    (cts P e).length = P.cellsOf e ∧ 0 < P.cellsOf e ∧ es.length * P.cellsOf e ≤ cells.size ∧ WT P (.sl e) (.rs e es) ∧
    ∀ i j, i < es.length → j < P.cellsOf e → ∃ v, cells[i * P.cellsOf e + j]? = some v ∧ VR P D R w ((es.getD i []).getD j .u) v
  | .lrow e es => es ≠ [] → ∃ b cells ty, R id = some (b, P.cellsOf e, 0) ∧ w.heap[b]? = some (.cells cells ty (0, 0)) ∧
    (cts P e).length = P.cellsOf e ∧ 0 < P.cellsOf e ∧ es.length * P.cellsOf e ≤ cells.size ∧ (∀ x, x ∈ es → x.length = (cts P e).length) ∧
    ∀ i j, i < es.length → j < P.cellsOf e → ∃ v, cells[i * P.cellsOf e + j]? = some v ∧ VR P D R w ((es.getD i []).getD j .u) v
  | .fr e => 0 < P.cellsOf e ∧ (cts P e).length = P.cellsOf e ∧ ∃ b c n, R id = some (b, c, n) ∧
    ((c = 0 ∧ n = 0) ∨ (0 < c ∧ n ≤ c ∧ c ≤ 9223372036854775807 ∧ ∃ cells, w.heap[b]? = some (.cells cells e (0, 0)) ∧ cells.size = c * P.cellsOf e))
  | .mp kt vt es => okT P kt = true ∧ okT P vt = true ∧ keyT P kt = true ∧ ∃ b entries clock, R id = some (b, 1, 0) ∧ w.heap[b]? = some (.map entries clock) ∧ (entries.size = es.length ∧ clock = es.length) ∧
    ∀ i, i < es.length → TV P kt (es.getD i (.u, .u)).1 ∧ plain (es.getD i (.u, .u)).1 = true ∧ TV P vt (es.getD i (.u, .u)).2 ∧
      (entries.getD i default).key = toV (es.getD i (.u, .u)).1 ∧ VR P D R w (es.getD i (.u, .u)).2 (entries.getD i default).val ∧ (entries.getD i default).born = i
  | .ob o => (∀ r, o ≠ .loop r) ∧ (∀ d, o ≠ .deferred d) ∧ ∃ b, R id = some (b, 1, 0) ∧ w.heap[b]? = some o
  | .si s pos => s.size ≤ 9223372036854775807 ∧ ∃ b, R id = some (b, 1, 0) ∧ w.heap[b]? = some (.stringIter s pos)
  | .dead => True
theorem RowOK.mono2 {P : Program} {D D' : Nat → Nat → Prop} {R R' : Nat → Option (Nat × Nat × Nat)} {w w' : World} {id : Nat} {blk : Blk} (h : RowOK P D R w id blk) (hR : R' id = R id)
    (hb : ∀ b s, R id = some (b, s) → s ≠ (0, 0) → ((∀ r, w.heap[b]? ≠ some (.loop r)) ∧ ∀ d, w.heap[b]? ≠ some (.deferred d)) → w'.heap[b]? = w.heap[b]?) (hv : ∀ x v, VR P D R w x v → VR P D' R' w' x v) : RowOK P D' R' w' id blk := by
  cases blk with
  | dead => trivial
  | fr e =>
    obtain ⟨g1, g2, b, c, n, g3, g4⟩ := h
    refine ⟨g1, g2, b, c, n, hR.trans g3, ?_⟩
    rcases g4 with g4 | ⟨g4, g5, g6, cells, g7, g8⟩
    · exact .inl g4
    · exact .inr ⟨g4, g5, g6, cells, (hb b _ g3 (by simp; omega) ⟨fun r hr => (by rw [g7] at hr; cases hr), fun r hr => (by rw [g7] at hr; cases hr)⟩).trans g7, g8⟩
  | mp kt vt es =>
    obtain ⟨k1, k2, k3, b, en, cl, g1, g2, g3, g4⟩ := h
    exact ⟨k1, k2, k3, b, en, cl, hR.trans g1, (hb b _ g1 (by simp) ⟨fun r hr => (by rw [g2] at hr; cases hr), fun r hr => (by rw [g2] at hr; cases hr)⟩).trans g2, g3, fun i hi => by
      obtain ⟨q1, q2, q3, q4, q5, q6⟩ := g4 i hi
      exact ⟨q1, q2, q3, q4, hv _ _ q5, q6⟩⟩
  | ob o =>
    obtain ⟨k1, k2, b, g1, g2⟩ := h
    exact ⟨k1, k2, b, hR.trans g1, (hb b _ g1 (by simp) ⟨fun r hr => (by rw [g2] at hr; exact k1 r (Option.some.inj hr)), fun r hr => (by rw [g2] at hr; exact k2 r (Option.some.inj hr))⟩).trans g2⟩
  | si s pos =>
    obtain ⟨k1, b, g1, g2⟩ := h
    exact ⟨k1, b, hR.trans g1, (hb b _ g1 (by simp) ⟨fun r hr => (by rw [g2] at hr; cases hr), fun r hr => (by rw [g2] at hr; cases hr)⟩).trans g2⟩
  | row e es =>
    intro hne
    obtain ⟨b, cells, ty, g1, g2, g3, g4, g5, g6, g7⟩ := h hne
    exact ⟨b, cells, ty, hR.trans g1, (hb b _ g1 (by simp; omega) ⟨fun r hr => (by rw [g2] at hr; cases hr), fun r hr => (by rw [g2] at hr; cases hr)⟩).trans g2, g3, g4, g5, g6, fun i j hi hj => by
      obtain ⟨v, q1, q2⟩ := g7 i j hi hj
      exact ⟨v, q1, hv _ _ q2⟩⟩
  | lrow e es =>
    intro hne
    obtain ⟨b, cells, ty, g1, g2, g3, g4, g5, g6, g7⟩ := h hne
    exact ⟨b, cells, ty, hR.trans g1, (hb b _ g1 (by simp; omega) ⟨fun r hr => (by rw [g2] at hr; cases hr), fun r hr => (by rw [g2] at hr; cases hr)⟩).trans g2, g3, g4, g5, g6, fun i j hi hj => by
      obtain ⟨v, q1, q2⟩ := g7 i j hi hj
      exact ⟨v, q1, hv _ _ q2⟩⟩

theorem RowOK.mono {P : Program} {D D' : Nat → Nat → Prop} {R R' : Nat → Option (Nat × Nat × Nat)} {w w' : World} {id : Nat} {blk : Blk} (h : RowOK P D R w id blk) (hR : R' id = R id)
    (hb : ∀ b s, R id = some (b, s) → s ≠ (0, 0) → w'.heap[b]? = w.heap[b]?) (hv : ∀ x v, VR P D R w x v → VR P D' R' w' x v) : RowOK P D' R' w' id blk :=
  h.mono2 hR (fun b s e hs _ => hb b s e hs) hv
structure SR (P : Program) (w0 : Base) (X : Nat → Nat → Prop) (D : Nat → Nat → Prop) (R : Nat → Option (Nat × Nat × Nat)) (st : St) (a : Act) (w : World) : Prop where
  tmp : ∀ t, VR P D R w (gt st.t t) (a.tmps.getD t undef)
  nt : a.tmps.size = st.nt
  mem : ∀ id, RowOK P D R w id (gm st.m id)
  own : ∀ id b s, R id = some (b, s) → s ≠ (0, 0) → (w0.w.heap.size ≤ b ∨ (w0.Y b ∧ w0.K id)) ∧ b < w.heap.size
  fx : ∀ id b s e o, R id = some (b, s) → s ≠ (0, 0) → gm st.m id = .fr e → ¬ X b o ∧ (w0.w.heap.size ≤ b ∨ (w0.Y b ∧ ∀ id, w0.K id))
  dom : ∀ id b s o, R id = some (b, s) → owns P (gm st.m id) s o → D b o
  inj : ∀ id id' b s s', R id = some (b, s) → R id' = some (b, s') → s ≠ (0, 0) → s' ≠ (0, 0) → alive (gm st.m id) = true → alive (gm st.m id') = true → id = id'
  nz : ∀ id b s, R id = some (b, s) → (∀ o, owns P (gm st.m id) s o) → s ≠ (0, 0)
  X : ∀ b o, X b o → D b o
  lt : ∀ b o, D b o → b < w.heap.size
  old : BelowY w0 w
  df : ∃ ds : List Nat, a.defers = ds.map mark1 ∧ ds.Nodup ∧ ∀ b, b ∈ ds → w.heap[b]? = some (.deferred (some [])) ∧ (∀ o, ¬ D b o) ∧ w0.B ≤ b

variable {w0 : Base} {X D : Nat → Nat → Prop} {R : Nat → Option (Nat × Nat × Nat)} {st : St} {a : Act} {w : World}

theorem VR.int_inv {k : IntKind} {x : Int} {v : Value} (h : VR P D R w (.i k x) v) : v = .int k x ∧ k.min ≤ x ∧ x ≤ k.max := by
  cases h with
  | i h1 h2 => exact ⟨rfl, h1, h2⟩
theorem VR.bool_inv {x : Bool} {v : Value} (h : VR P D R w (.b x) v) : v = .bool x := by cases h; rfl
theorem VR.str_inv {x : ByteArray} {v : Value} (h : VR P D R w (.s x) v) : v = .string x ∧ x.size ≤ 9223372036854775807 := by
  cases h with
  | s h => exact ⟨rfl, h⟩
theorem VR.agg_inv {cs : List AV} {v : Value} (h : VR P D R w (.agg cs) v) : ∃ cv, v = .agg cv ∧ cv.size = cs.length ∧ ∀ k, k < cs.length → VR P D R w (cs.getD k .u) (cv.getD k undef) := by
  cases h with
  | agg h1 h2 => exact ⟨_, rfl, h1, h2⟩
theorem toVL_length : ∀ (l : List AV), (toVL l).length = l.length
  | [] => rfl
  | a :: r => by simp [toVL, toVL_length r]
theorem VR_toV_all : (∀ x : AV, plain x = true → VR P D R w x (toV x)) ∧ (∀ l : List AV, plainL l = true → ∀ k, k < l.length → VR P D R w (l.getD k .u) ((toVL l).getD k undef)) := by
  have key : ∀ (n : Nat), (∀ x : AV, SizeOf.sizeOf x < n → plain x = true → VR P D R w x (toV x)) ∧ (∀ l : List AV, SizeOf.sizeOf l < n → plainL l = true → ∀ k, k < l.length → VR P D R w (l.getD k .u) ((toVL l).getD k undef)) := by
    intro n
    induction n with
    | zero => exact ⟨fun x h => by omega, fun l h => by omega⟩
    | succ n ih =>
      refine ⟨fun x hs hp => ?_, fun l hs hp => ?_⟩
      · cases x <;> simp only [plain] at hp <;> try (cases hp; done)
        · exact .b
        · simp only [Bool.and_eq_true, decide_eq_true_eq] at hp
          exact .i hp.1 hp.2
        · exact .s (by simpa [Nat.ble_eq] using hp)
        · rename_i cs
          simp only [toV]
          refine .agg (by simp [toVL_length]) fun k hk => ?_
          have := ih.2 cs (by simp at hs; omega) hp k hk
          simpa [Array.getD_eq_getD_getElem?, List.getD_eq_getElem?_getD] using this
      · cases l with
        | nil => intro k hk; simp at hk
        | cons a r =>
          simp only [plainL, Bool.and_eq_true] at hp
          intro k hk
          cases k with
          | zero => simpa [toVL] using ih.1 a (by simp at hs; omega) hp.1
          | succ k => simpa [toVL] using ih.2 r (by simp at hs; omega) hp.2 k (by simpa using hk)
  exact ⟨fun x => (key (SizeOf.sizeOf x + 1)).1 x (by omega), fun l => (key (SizeOf.sizeOf l + 1)).2 l (by omega)⟩
theorem VR_plain_all : (∀ x : AV, plain x = true → ∀ v, VR P D R w x v → v = toV x) ∧ (∀ l : List AV, plainL l = true → ∀ vs : List Value, vs.length = l.length → (∀ k, k < l.length → VR P D R w (l.getD k .u) (vs.getD k undef)) → vs = toVL l) := by
  have key : ∀ (n : Nat), (∀ x : AV, SizeOf.sizeOf x < n → plain x = true → ∀ v, VR P D R w x v → v = toV x) ∧ (∀ l : List AV, SizeOf.sizeOf l < n → plainL l = true → ∀ vs : List Value, vs.length = l.length → (∀ k, k < l.length → VR P D R w (l.getD k .u) (vs.getD k undef)) → vs = toVL l) := by
    intro n
    induction n with
    | zero => exact ⟨fun x h => by omega, fun l h => by omega⟩
    | succ n ih =>
      refine ⟨fun x hs hp v hv => ?_, fun l hs hp vs hl hv => ?_⟩
      · cases x <;> simp only [plain] at hp <;> try (cases hp; done)
        · exact hv.bool_inv
        · exact hv.int_inv.1
        · exact hv.str_inv.1
        · rename_i cs
          obtain ⟨cv, rfl, h1, h2⟩ := hv.agg_inv
          simp only [toV]
          have := ih.2 cs (by simp at hs; omega) hp cv.toList (by simpa using h1) (fun k hk => by
            have := h2 k hk
            simpa [Array.getD_eq_getD_getElem?, List.getD_eq_getElem?_getD] using this)
          rw [← this]
      · cases l with
        | nil => simpa [toVL] using hl
        | cons a r =>
          cases vs with
          | nil => simp at hl
          | cons v vs =>
            simp only [plainL, Bool.and_eq_true] at hp
            simp only [toVL]
            rw [ih.1 a (by simp at hs; omega) hp.1 v (by simpa using hv 0 (by simp)), ih.2 r (by simp at hs; omega) hp.2 vs (by simpa using hl) (fun k hk => by simpa using hv (k + 1) (by simpa using hk))]
  exact ⟨fun x => (key (SizeOf.sizeOf x + 1)).1 x (by omega), fun l => (key (SizeOf.sizeOf l + 1)).2 l (by omega)⟩

theorem VR_undef : VR P D R w (.tup []) undef := .tup (cv := #[]) rfl (fun k hk => by simp at hk)

theorem gt_cons (j : Nat) (v : AV) (r : List (Nat × AV)) (i : Nat) : gt ((j, v) :: r) i = if i = j then v else gt r i := by
  simp only [gt]
  by_cases h : i = j
  · simp [h, Nat.beq_refl]
  · have : Nat.beq i j = false := by
      cases hb : Nat.beq i j with
      | true => exact absurd (Nat.eq_of_beq_eq_true hb) h
      | false => rfl
    simp [h, this]
theorem gm_cons (j : Nat) (v : Blk) (r : List (Nat × Blk)) (i : Nat) : gm ((j, v) :: r) i = if i = j then v else gm r i := by
  simp only [gm]
  by_cases h : i = j
  · simp [h, Nat.beq_refl]
  · have : Nat.beq i j = false := by
      cases hb : Nat.beq i j with
      | true => exact absurd (Nat.eq_of_beq_eq_true hb) h
      | false => rfl
    simp [h, this]

theorem SR.put (h : SR P w0 X D R st a w) {d : Option Nat} {v : AV} {v' : Value} (hd : ∀ x, d = some x → x < st.nt) (hv : VR P D R w v v') :
    SR P w0 X D R (st.put d v) (a.put d v') w := by
  cases d with
  | none => exact h
  | some d =>
    have hlt := hd d rfl
    refine { h with tmp := ?_, nt := ?_, mem := ?_, df := h.df }
    · intro t
      simp only [St.put, Act.put, gt_cons]
      have hs : d < a.tmps.size := by rw [h.nt]; exact hlt
      by_cases e : t = d
      · subst e
        simp [Array.getD_eq_getD_getElem?, hs, hv]
      · have := h.tmp t
        simp only [e, if_false]
        simpa [Array.getD_eq_getD_getElem?, Array.getElem?_setIfInBounds, Ne.symm e] using this
    · simpa [St.put, Act.put] using h.nt
    · exact fun id => h.mem id

theorem SR.know (h : SR P w0 X D R st a w) {d : Nat} {v : AV} (hv : VR P D R w v (a.tmps.getD d Go.undef)) : SR P w0 X D R (st.put (some d) v) a w := by
  refine { h with tmp := ?_ }
  intro t
  simp only [St.put, gt_cons]
  by_cases e : t = d
  · subst e; simpa using hv
  · simpa [e] using h.tmp t

theorem VR_ofC (v : Value) : VR P D R w (ofC v) v := by
  unfold ofC
  split <;> first | exact .b | exact .np | exact .nl | exact .nf | exact .ni | exact .nm | exact .u | skip
  · rename_i k n
    cases h : decide (k.min ≤ n) && decide (n ≤ k.max) with
    | true =>
      simp only [Bool.and_eq_true, decide_eq_true_eq] at h
      exact .i h.1 h.2
    | false => exact .u
  · rename_i s
    cases h : Nat.ble s.size 9223372036854775807 with
    | true => exact .s (by simpa [Nat.ble_eq] using h)
    | false => exact .u

theorem SR.val (h : SR P w0 X D R st a w) (x : Operand) : VR P D R w (val st x) (a.eval x) := by
  cases x with
  | tmp t => exact h.tmp t
  | const v => exact VR_ofC v
  | global g => exact .u
  | func f => exact .fn rfl (fun k hk => by simp at hk)

theorem VR_fitT (t : TypeId) {v : AV} {v' : Value} (h : VR P D R w v v') : VR P D R w (fitT P t v) v' := by
  unfold fitT
  split
  · split
    · cases h; exact .rs0 fun _ => rfl
    · exact h
  · exact h
theorem fitD_length : ∀ (cs : List CT) (vs : List AV), (fitD cs vs).length = vs.length
  | [], vs => by cases vs <;> rfl
  | c :: cs, [] => rfl
  | c :: cs, v :: vs => by simp [fitD, fitD_length cs vs]
theorem VR_fitD : ∀ (cs : List CT) (vs : List AV) (k : Nat) {v' : Value}, VR P D R w (vs.getD k .u) v' → VR P D R w ((fitD cs vs).getD k .u) v'
  | [], vs, k, v', h => by cases vs <;> exact h
  | c :: cs, [], k, v', h => h
  | c :: cs, v :: vs, 0, v', h => by
    have h : VR P D R w v v' := by simpa using h
    simp only [fitD, List.getD_cons_zero]
    split
    · rename_i e i e' es _
      cases hb : Nat.beq e e' with
      | true =>
        cases h with
        | gv h1 hz h2 h3 h4 h5 h6 h7 h8 => exact .rs h1 hz h2 h3 h4 h5 h6 h7
        | gv0 => exact .rs0 fun _ => rfl
      | false => exact h
    · cases h; exact .rs0 fun _ => rfl
    · exact h
  | c :: cs, v :: vs, k + 1, v', h => by
    simp only [fitD, List.getD_cons_succ] at h ⊢
    exact VR_fitD cs vs k h
theorem VR_fitA (t : TypeId) {v : AV} {v' : Value} (h : VR P D R w v v') : VR P D R w (fitA P t v) v' := by
  unfold fitA
  split
  · split
    · cases h; exact .rs0 fun h => by cases h
    · exact h
  · cases h with
    | gv h1 hz h2 h3 h4 h5 h6 h7 h8 => exact .rs h1 hz h2 h3 h4 h5 h6 h7
    | gv0 => exact .rs0 fun _ => rfl
  · cases h with
    | agg h1 h2 => exact .agg (by rw [fitD_length]; exact h1) fun k hk => VR_fitD _ _ k (h2 k (by rw [fitD_length] at hk; exact hk))
  · exact VR_fitT t h

theorem look_sound {ρ : Type} (h : SR P w0 X D R st a w) {t : TypeId} {p : AV} {v : Value} (hp : VR P D R w p v) {K : AV → Option ρ} {r : ρ} (he : look P st t p K = some r) :
    ∃ x u, (Instr.loadAt t v).run P w = .ok u w ∧ VR P D R w x u ∧ K x = some r := by
  unfold look at he
  cases hp with
  | @rp all cs j b o f h1 h0 h2 h3 h4 =>
    simp only at he
    cases hc : okT P t && ctsAt all j (cts P t) with
    | false => rw [hc] at he; cases he
    | true =>
      rw [hc] at he
      simp only [Bool.and_eq_true] at hc
      obtain ⟨ho, hc⟩ := hc
      obtain ⟨hl, _, _⟩ := okT_spec ho
      have hin : ∀ k, k < P.cellsOf t → j + k < cs.length := fun k hk => (h2.at_ hc k (by omega)).1
      refine ⟨_, _, ?_, VR_mkV ho h2 hc (f := fun k => f (j + k)) (fun k hk => h4 _ (hin k hk)), he⟩
      simp only [Instr.loadAt, Instr.sureAddr, Sem.run_bind, Sem.run_pure, Result.andThen_ok]
      exact run_loadVar' ho (f := fun k => f (j + k)) (fun k hk => by rw [Nat.add_assoc]; exact h3 _ (hin k hk))
  | @p id i j b sz hR =>
    simp only at he
    cases hm : gm st.m id with
    | dead => rw [hm] at he; cases he
    | fr e => rw [hm] at he; cases he
    | mp kt vt es => rw [hm] at he; cases he
    | si s pos => rw [hm] at he; cases he
    | ob o => rw [hm] at he; cases he
    | lrow e es =>
      rw [hm] at he
      simp only at he
      cases hc : okT P t && (ctsAt (cts P e) j (cts P t) && Nat.blt i es.length) with
      | false => rw [hc] at he; cases he
      | true =>
        rw [hc] at he
        simp only [Bool.and_eq_true] at hc
        obtain ⟨ho, hc, hi⟩ := hc
        have hi : i < es.length := by simpa [Nat.blt_eq] using hi
        obtain ⟨hl, h0, h1⟩ := okT_spec ho
        have hrow := h.mem id
        rw [hm] at hrow
        obtain ⟨b', cells, ty, hR', hh, hle, hpos, hsz, hW, hv⟩ := hrow (by intro e0; rw [e0] at hi; simp at hi)
        obtain ⟨rfl, rfl⟩ : b = b' ∧ sz = P.cellsOf e := by rw [hR] at hR'; simpa using hR'
        have hx : es.getD i [] ∈ es := by simp [List.getD_eq_getElem?_getD, List.getElem?_eq_getElem hi]
        have hxl := hW _ hx
        have hin : ∀ k, k < P.cellsOf t → j + k < P.cellsOf e := fun k hk => by
          have := (ctsAt_spec hc k (by omega)).1
          omega
        refine ⟨_, (if isAgg P t then .agg ((List.range (P.cellsOf t)).map fun k => (cells[i * P.cellsOf e + (j + k)]?).getD Go.undef).toArray else (cells[i * P.cellsOf e + (j + 0)]?).getD Go.undef), ?_, ?_, he⟩
        · simp only [Instr.loadAt, Instr.sureAddr, Sem.run_bind, Sem.run_pure, Result.andThen_ok]
          refine run_loadVar' ho (f := fun k => (cells[i * P.cellsOf e + (j + k)]?).getD Go.undef) (fun k hk => ?_)
          obtain ⟨v, hv1, _⟩ := hv i (j + k) hi (hin k hk)
          simp [World.cell?, hh, Nat.add_assoc, hv1]
        · have key : ∀ k, k < P.cellsOf t → VR P D R w ((es.getD i []).getD (j + k) .u) ((cells[i * P.cellsOf e + (j + k)]?).getD Go.undef) := fun k hk => by
            obtain ⟨v, hv1, hv2⟩ := hv i (j + k) hi (hin k hk)
            simp only [hv1, Option.getD_some]
            exact hv2
          unfold lV
          cases hA : isAgg P t with
          | true =>
            simp only [cond_true, if_true]
            have hlen : (((es.getD i []).drop j).take (cts P t).length).length = P.cellsOf t := by
              have := hin (P.cellsOf t - 1) (by omega)
              rw [List.length_take, List.length_drop]; omega
            refine .agg (by rw [hlen]; simp) fun k hk => ?_
            rw [hlen] at hk
            have e1 : (((es.getD i []).drop j).take (cts P t).length).getD k .u = (es.getD i []).getD (j + k) .u := by
              simp [List.getD_eq_getElem?_getD, List.getElem?_take, show k < (cts P t).length by omega]
            rw [e1]
            simpa [Array.getD_eq_getD_getElem?, hk] using key k hk
          | false =>
            simp only [cond_false, Bool.false_eq_true, if_false]
            simpa using key 0 h0
    | row e es =>
      rw [hm] at he
      simp only at he
      cases hc : okT P t && (ctsAt (cts P e) j (cts P t) && Nat.blt i es.length) with
      | false => rw [hc] at he; cases he
      | true =>
        rw [hc] at he
        simp only [Bool.and_eq_true] at hc
        obtain ⟨ho, hc, hi⟩ := hc
        have hi : i < es.length := by simpa [Nat.blt_eq] using hi
        obtain ⟨hl, _, _⟩ := okT_spec ho
        have hrow := h.mem id
        rw [hm] at hrow
        obtain ⟨b', cells, ty, hR', hh, hle, hpos, hsz, hW, hv⟩ := hrow (by intro e0; rw [e0] at hi; simp at hi)
        obtain ⟨rfl, rfl⟩ : b = b' ∧ sz = P.cellsOf e := by rw [hR] at hR'; simpa using hR'
        have hx : es.getD i [] ∈ es := by simp [List.getD_eq_getElem?_getD, List.getElem?_eq_getElem hi]
        have hWs : WTs P (cts P e) (es.getD i []) := by
          cases hW with
          | sl h1 h2 h3 => exact ⟨h2 _ hx, h3 _ hx⟩
        have hin : ∀ k, k < P.cellsOf t → j + k < P.cellsOf e := fun k hk => by
          have := (hWs.at_ hc k (by omega)).1
          rw [hWs.1, hle] at this
          exact this
        refine ⟨_, _, ?_, VR_mkV ho hWs hc (f := fun k => (cells[i * P.cellsOf e + (j + k)]?).getD Go.undef) (fun k hk => ?_), he⟩
        · simp only [Instr.loadAt, Instr.sureAddr, Sem.run_bind, Sem.run_pure, Result.andThen_ok]
          refine run_loadVar' ho (f := fun k => (cells[i * P.cellsOf e + (j + k)]?).getD Go.undef) (fun k hk => ?_)
          obtain ⟨v, hv1, _⟩ := hv i (j + k) hi (hin k hk)
          simp [World.cell?, hh, Nat.add_assoc, hv1]
        · obtain ⟨v, hv1, hv2⟩ := hv i (j + k) hi (hin k hk)
          simp only [hv1, Option.getD_some]
          exact hv2
  | _ => simp at he
end Go.Ev

set_option linter.unusedVariables false
set_option linter.unusedSimpArgs false
namespace Go.Ev
open Go Go.RowKit

variable {P : Program} {w0 : Base} {X D : Nat → Nat → Prop} {R : Nat → Option (Nat × Nat × Nat)} {st : St} {a : Act} {w : World}

theorem fitC_sound {c : CT} {v x : AV} {v' : Value} (h : fitC c v = some x) (hv : VR P D R w v v') : VR P D R w x v' ∧ WT P c x ∧ v'.oneCell' = true ∧ cellsOf v = [v] ∧ v'.cells = #[v'] := by
  unfold fitC at h
  split at h <;> first | (cases h; done) | skip
  · rename_i k k' n
    cases hk : decide (k = k') with
    | false => rw [hk] at h; cases h
    | true =>
      rw [hk] at h
      simp only [cond_true, Option.some.injEq] at h
      subst h
      cases hv with
      | i h1 h2 =>
        have : k = k' := of_decide_eq_true hk
        subst this
        exact ⟨.i h1 h2, .int h1 h2, rfl, rfl, rfl⟩
  · cases h; cases hv; exact ⟨.b, .bool, rfl, rfl, rfl⟩
  · cases h
    cases hv with
    | s h1 => exact ⟨.s h1, .str h1, rfl, rfl, rfl⟩
  · rename_i e e' es
    cases hk : Nat.beq e e' with
    | false => rw [hk] at h; cases h
    | true =>
      rw [hk] at h
      simp only [cond_true, Option.some.injEq] at h
      have := Nat.eq_of_beq_eq_true hk
      subst this; subst h
      cases hv with
      | rs0 h0 => exact ⟨.rs0 h0, .sl (by simp) (by simp) (by simp), rfl, rfl, rfl⟩
      | rs h1 hz h2 h3 h4 h5 h6 h7 => exact ⟨.rs h1 hz h2 h3 h4 h5 h6 h7, h5, rfl, rfl, rfl⟩
  · cases h; cases hv; exact ⟨.rs0 (fun _ => rfl), .sl (by simp) (by simp) (by simp), rfl, rfl, rfl⟩
  · cases h; cases hv; exact ⟨.rs0 (fun h => by cases h), .sl (by simp) (by simp) (by simp), rfl, rfl, rfl⟩
  · rename_i e id e' es
    cases hk : Nat.beq e e' with
    | false => rw [hk] at h; cases h
    | true =>
      rw [hk] at h
      simp only [cond_true, Option.some.injEq] at h
      have := Nat.eq_of_beq_eq_true hk
      subst this; subst h
      cases hv with
      | gv0 h0 => exact ⟨.rs0 fun _ => rfl, .sl (by simp) (by simp) (by simp), rfl, rfl, rfl⟩
      | gv h1 hz h2 h3 h4 h5 h6 h7 h8 => exact ⟨.rs h1 hz h2 h3 h4 h5 h6 h7, h5, rfl, rfl, rfl⟩
  · cases h; cases hv; exact ⟨.mp ‹_›, .oth, rfl, rfl, rfl⟩
  all_goals (cases h; cases hv; refine ⟨?_, .oth, rfl, rfl, rfl⟩)
  · exact .fn ‹_› ‹_›
  · exact .nf
  · exact .yl
  · exact .np
  · exact .p ‹_›
  · exact .rp ‹_› ‹_› ‹_› ‹_› ‹_›
  · exact .ni
  · exact .nm

theorem fitCs_sound : ∀ {all : List CT} {cs x : List AV} {cv : List Value}, fitCs all cs = some x → cv.length = cs.length → (∀ k, k < cs.length → VR P D R w (cs.getD k .u) (cv.getD k undef)) →
    WTs P all x ∧ x.length = cs.length ∧ (∀ k, k < x.length → VR P D R w (x.getD k .u) (cv.getD k undef)) ∧ ∀ u ∈ cv, u.oneCell' = true
  | [], [], x, cv, h, hl, hv => by
    simp only [fitCs, Option.some.injEq] at h
    subst h
    have : cv = [] := by simpa using hl
    subst this
    exact ⟨⟨rfl, fun j hj => by simp at hj⟩, rfl, fun k hk => by simp at hk, fun u hu => by simp at hu⟩
  | [], _ :: _, _, _, h, _, _ => by simp [fitCs] at h
  | _ :: _, [], _, _, h, _, _ => by simp [fitCs] at h
  | c :: all, v :: cs, x, cv, h, hl, hv => by
    match cv, hl with
    | u :: cv, hl =>
      simp only [fitCs] at h
      cases h1 : fitC c v with
      | none => rw [h1] at h; cases h
      | some a' =>
        cases h2 : fitCs all cs with
        | none => rw [h1, h2] at h; cases h
        | some y =>
          rw [h1, h2] at h
          simp only [Option.some.injEq] at h
          subst h
          obtain ⟨g1, g2, g3, _, _⟩ := fitC_sound h1 (by simpa using hv 0 (by simp))
          obtain ⟨i1, i2, i3, i4⟩ := fitCs_sound h2 (by simpa using hl) (fun k hk => by simpa using hv (k + 1) (by simpa using hk))
          refine ⟨⟨by simp [i1.1], ?_⟩, by simp [i2], ?_, ?_⟩
          · intro j hj
            cases j with
            | zero => simpa using g2
            | succ j => simpa using i1.2 j (by simpa using hj)
          · intro k hk
            cases k with
            | zero => simpa using g1
            | succ k => simpa using i3 k (by simpa using hk)
          · intro z hz
            rcases List.mem_cons.1 hz with rfl | hz
            · exact g3
            · exact i4 z hz

theorem fit_sound {all : List CT} {v : AV} {x : List AV} {v' : Value} (h : fitCs all (cellsOf v) = some x) (hv : VR P D R w v v') :
    WTs P all x ∧ v'.cells.size = x.length ∧ (∀ k, k < x.length → VR P D R w (x.getD k .u) (v'.cells.getD k undef)) ∧ ∀ u ∈ v'.cells.toList, u.oneCell' = true := by
  have single : cellsOf v = [v] → v'.cells = #[v'] → WTs P all x ∧ v'.cells.size = x.length ∧ (∀ k, k < x.length → VR P D R w (x.getD k .u) (v'.cells.getD k undef)) ∧ ∀ u ∈ v'.cells.toList, u.oneCell' = true := by
    intro h1 h2
    rw [h1] at h
    obtain ⟨i1, i2, i3, i4⟩ := fitCs_sound (cv := [v']) h rfl (fun k hk => by
      have : k = 0 := by simpa using hk
      subst this
      simpa using hv)
    rw [h2]
    refine ⟨i1, by simp [i2], fun k hk => ?_, by simpa using i4⟩
    have := i3 k hk
    simpa [Array.getD_eq_getD_getElem?, List.getD_eq_getElem?_getD] using this
  have failed : cellsOf v = [v] → (∀ c, fitC c v = none) → False := by
    intro h1 h2
    rw [h1] at h
    cases all with
    | nil => simp [fitCs] at h
    | cons c r => simp [fitCs, h2] at h
  cases hv with
  | @agg cs cv h1 h2 =>
    obtain ⟨i1, i2, i3, i4⟩ := fitCs_sound (cv := cv.toList) h (by simpa [cellsOf] using h1) (fun k hk => by
      have := h2 k hk
      simpa [cellsOf, Array.getD_eq_getD_getElem?, List.getD_eq_getElem?_getD] using this)
    refine ⟨i1, by simpa [Value.cells, i2, cellsOf] using h1, fun k hk => ?_, by simpa [Value.cells] using i4⟩
    have := i3 k hk
    simpa [Value.cells, Array.getD_eq_getD_getElem?, List.getD_eq_getElem?_getD] using this
  | u => exact (failed rfl (fun c => by cases c <;> rfl)).elim
  | tup => exact (failed rfl (fun c => by cases c <;> rfl)).elim
  | sl => exact (failed rfl (fun c => by cases c <;> rfl)).elim
  | sl0 => exact (failed rfl (fun c => by cases c <;> rfl)).elim
  | sa => exact (failed rfl (fun c => by cases c <;> rfl)).elim
  | it => exact (failed rfl (fun c => by cases c <;> rfl)).elim
  | ifc => exact (failed rfl (fun c => by cases c <;> rfl)).elim
  | _ => exact single rfl rfl

theorem fitO_one {c : CT} {v x : AV} {v' : Value} (h : fitO c v = some x) (hv : VR P D R w v v') : VR P D R w x v' ∧ v'.oneCell' = true ∧ cellsOf v = [v] ∧ v'.cells = #[v'] := by
  unfold fitO at h
  split at h
  · cases h
    refine ⟨hv, ?_, rfl, ?_⟩ <;> cases hv <;> rfl
  · cases h
    refine ⟨hv, ?_, rfl, ?_⟩ <;> cases hv <;> rfl
  · cases h
    refine ⟨hv, ?_, rfl, ?_⟩ <;> cases hv <;> rfl
  · obtain ⟨g1, _, g3, g4, g5⟩ := fitC_sound h hv
    exact ⟨g1, g3, g4, g5⟩
theorem fitOs_sound : ∀ {all : List CT} {cs x : List AV} {cv : List Value}, fitOs all cs = some x → cv.length = cs.length → (∀ k, k < cs.length → VR P D R w (cs.getD k .u) (cv.getD k undef)) →
    x.length = all.length ∧ x.length = cs.length ∧ (∀ k, k < x.length → VR P D R w (x.getD k .u) (cv.getD k undef)) ∧ ∀ u ∈ cv, u.oneCell' = true
  | [], [], x, cv, h, hl, hv => by
    simp only [fitOs, Option.some.injEq] at h
    subst h
    have : cv = [] := by simpa using hl
    subst this
    exact ⟨rfl, rfl, fun k hk => by simp at hk, fun u hu => by simp at hu⟩
  | [], _ :: _, _, _, h, _, _ => by simp [fitOs] at h
  | _ :: _, [], _, _, h, _, _ => by simp [fitOs] at h
  | c :: all, v :: cs, x, cv, h, hl, hv => by
    match cv, hl with
    | u :: cv, hl =>
      simp only [fitOs] at h
      cases h1 : fitO c v with
      | none => rw [h1] at h; cases h
      | some a' =>
        cases h2 : fitOs all cs with
        | none => rw [h1, h2] at h; cases h
        | some y =>
          rw [h1, h2] at h
          simp only [Option.some.injEq] at h
          subst h
          obtain ⟨g1, g3, _, _⟩ := fitO_one h1 (by simpa using hv 0 (by simp))
          obtain ⟨i1, i2, i3, i4⟩ := fitOs_sound h2 (by simpa using hl) (fun k hk => by simpa using hv (k + 1) (by simpa using hk))
          refine ⟨by simp [i1], by simp [i2], ?_, ?_⟩
          · intro k hk
            cases k with
            | zero => simpa using g1
            | succ k => simpa using i3 k (by simpa using hk)
          · intro z hz
            rcases List.mem_cons.1 hz with rfl | hz
            · exact g3
            · exact i4 z hz
theorem fitB_sound {all : List CT} {cs x : List AV} {cv : List Value} (h : fitB all cs = some x) (hl : cv.length = cs.length) (hv : ∀ k, k < cs.length → VR P D R w (cs.getD k .u) (cv.getD k undef)) :
    x.length = cs.length ∧ ∀ k, k < x.length → VR P D R w (x.getD k .u) (cv.getD k undef) := by
  unfold fitB at h
  split at h
  · rename_i y hy
    cases h
    obtain ⟨_, h2, h3, _⟩ := fitCs_sound (P := P) (D := D) (R := R) (w := w) hy hl hv
    exact ⟨h2, h3⟩
  · obtain ⟨_, h2, h3, _⟩ := fitOs_sound (P := P) (D := D) (R := R) (w := w) h hl hv
    exact ⟨h2, h3⟩
theorem fitK_sound {k : Bool} {all : List CT} {cs x : List AV} {cv : List Value} (h : fitK k all cs = some x) (hl : cv.length = cs.length) (hv : ∀ k, k < cs.length → VR P D R w (cs.getD k .u) (cv.getD k undef)) :
    x.length = cs.length ∧ ∀ k, k < x.length → VR P D R w (x.getD k .u) (cv.getD k undef) := by
  cases k with
  | true => exact fitB_sound h hl hv
  | false =>
    obtain ⟨_, h2, h3, _⟩ := fitOs_sound (P := P) (D := D) (R := R) (w := w) h hl hv
    exact ⟨h2, h3⟩
theorem fitO_sound {all : List CT} {v : AV} {x : List AV} {v' : Value} (h : fitOs all (cellsOf v) = some x) (hv : VR P D R w v v') :
    x.length = all.length ∧ v'.cells.size = x.length ∧ (∀ k, k < x.length → VR P D R w (x.getD k .u) (v'.cells.getD k undef)) ∧ ∀ u ∈ v'.cells.toList, u.oneCell' = true := by
  by_cases hagg : ∃ cs, v = .agg cs
  · obtain ⟨cs, rfl⟩ := hagg
    cases hv with
    | @agg _ cv h1 h2 =>
      obtain ⟨i1, i2, i3, i4⟩ := fitOs_sound (cv := cv.toList) h (by simpa [cellsOf] using h1) (fun k hk => by
        have := h2 k hk
        simpa [cellsOf, Array.getD_eq_getD_getElem?, List.getD_eq_getElem?_getD] using this)
      refine ⟨i1, by simpa [Value.cells, i2, cellsOf] using h1, fun k hk => ?_, by simpa [Value.cells] using i4⟩
      have := i3 k hk
      simpa [Value.cells, Array.getD_eq_getD_getElem?, List.getD_eq_getElem?_getD] using this
  · have hc : cellsOf v = [v] := by
      cases v <;> first | rfl | exact absurd ⟨_, rfl⟩ hagg
    rw [hc] at h
    match all, h with
    | [], h => simp [fitOs] at h
    | c :: c' :: r, h =>
      simp only [fitOs] at h
      split at h <;> cases h
      rename_i h2 _
      simp [fitOs] at *
    | [c], h =>
      cases h1 : fitO c v with
      | none => simp [fitOs, h1] at h
      | some a' =>
        simp only [fitOs, h1, Option.some.injEq] at h
        subst h
        obtain ⟨g1, g3, _, g5⟩ := fitO_one h1 hv
        rw [g5]
        refine ⟨rfl, rfl, fun k hk => ?_, by simpa using g3⟩
        have : k = 0 := by simpa using hk
        subst this
        simpa using g1

theorem SR.world (h : SR P w0 X D R st a w) {w' : World} (hb : Below w.heap.size w w') : SR P w0 X D R st a w' := by
  have mono : ∀ {x : AV} {v : Value}, VR P D R w x v → VR P D R w' x v := fun hv => hv.mono (fun _ _ e => e) (fun b hlt => .inr ⟨fun _ hd => hd, hb.block b hlt⟩)
  refine ⟨fun t => mono (h.tmp t), h.nt, fun id => (h.mem id).mono rfl (fun b s e hs => hb.block b (h.own id b _ e hs).2) fun _ _ => mono,
    fun id b s e hs => ⟨(h.own id b s e hs).1, Nat.lt_of_lt_of_le (h.own id b s e hs).2 hb.size⟩, h.fx, h.dom, h.inj, h.nz, h.X, fun b o hd => Nat.lt_of_lt_of_le (h.lt b o hd) hb.size, h.old.trans hb, ?_⟩
  · obtain ⟨ds, d1, d2, d3⟩ := h.df
    exact ⟨ds, d1, d2, fun b hb' => ⟨(hb.block b (Array.getElem?_eq_some_iff.1 (d3 b hb').1).1).trans (d3 b hb').1, (d3 b hb').2⟩⟩

theorem below_alloc' (w : World) (o : Obj) : Below w.heap.size w (w.alloc o) := (Below.refl _ _).alloc (Nat.le_refl _) o

theorem VR_new_rp {all : List CT} {cs : List AV} {cv : Array Value} {t : TypeId} (hD : ∀ b o, D b o → b < w.heap.size) (hs : cv.size = cs.length) (h0 : 0 < cs.length) (hW : WTs P all cs)
    (hv : ∀ k, k < cs.length → VR P D R w (cs.getD k .u) (cv.getD k undef)) :
    VR P D R (w.alloc (.cells cv t)) (.rp all cs 0) (.pointer (some ⟨w.heap.size, 0, none⟩)) := by
  have hb := below_alloc' w (.cells cv t)
  have : VR P D R (w.alloc (.cells cv t)) (.rp all cs 0) (.pointer (some ⟨w.heap.size, 0 + 0, none⟩)) := by
    refine .rp (f := fun k => cv.getD k undef) (fun _ _ hd => absurd (hD _ _ hd) (by omega)) h0 hW (fun k hk => ?_) (fun k hk => (hv k hk).mono (fun _ _ e => e) (fun b hlt => .inr ⟨fun _ hd => hd, hb.block b hlt⟩))
    have hk' : k < cv.size := by omega
    simp [World.cell?_alloc_new, Array.getD_eq_getD_getElem?, hk']
  simpa using this

def Rn (R : Nat → Option (Nat × Nat × Nat)) (site B : Nat) (s : Nat × Nat) (id : Nat) : Option (Nat × Nat × Nat) := if id = site then some (B, s) else R id
def Dn (P : Program) (D : Nat → Nat → Prop) (B : Nat) (s : Nat × Nat) (blk : Blk) (b o : Nat) : Prop := D b o ∨ (b = B ∧ owns P blk s o)
theorem VR.grow (h0 : ∀ b o, D b o → b < w.heap.size) {site B : Nat} {s : Nat × Nat} {blk : Blk} (hf : R site = none) {w' : World} (hb : Below w.heap.size w w') (hB : w.heap.size ≤ B ∨ ∀ o, ¬ owns P blk s o) {x : AV} {v : Value} (h : VR P D R w x v) :
    VR P (Dn P D B s blk) (Rn R site B s) w' x v :=
  h.mono (fun id x e => by
      by_cases hid : id = site
      · subst hid; rw [hf] at e; cases e
      · simpa [Rn, hid] using e) (fun b hlt => .inr ⟨fun o hd e => by
        rcases e with e | ⟨e, e2⟩
        · exact hd e
        · rcases hB with hB | hB
          · omega
          · exact hB o e2, hb.block b hlt⟩)
theorem SR.newrow (h : SR P w0 X D R st a w) {site : Nat} (hf : R site = none) {w' : World} (hb : Below w.heap.size w w') {B : Nat} {s : Nat × Nat} {blk : Blk}
    (hB : (w.heap.size ≤ B ∧ B < w'.heap.size ∧ s ≠ (0, 0)) ∨ (s = (0, 0) ∧ ∀ o, ¬ owns P blk s o)) (hrow : RowOK P (Dn P D B s blk) (Rn R site B s) w' site blk) :
    SR P w0 X (Dn P D B s blk) (Rn R site B s) (st.mem site blk) a w' := by
  have hB' : w.heap.size ≤ B ∨ ∀ o, ¬ owns P blk s o := hB.imp (·.1) (·.2)
  have mono : ∀ {x : AV} {v : Value}, VR P D R w x v → VR P (Dn P D B s blk) (Rn R site B s) w' x v := fun hv => hv.grow h.lt hf hb hB'
  refine ⟨fun x => mono (h.tmp x), h.nt, fun id => ?_, fun id b s' e hs => ?_, fun id b s' et o e hs hm => ?_, fun id b s' o e ho => ?_, fun id id' b s1 s2 e e' hs hs' ha ha' => ?_, fun id b s' e ho => ?_, fun b o hx => .inl (h.X b o hx), fun b o hd => ?_, h.old.trans hb, ?_⟩
  · simp only [St.mem, gm_cons]
    by_cases hid : id = site
    · subst hid
      simpa using hrow
    · simp only [hid, if_false]
      exact (h.mem id).mono (by simp [Rn, hid]) (fun b s e hs => hb.block b (h.own id b _ e hs).2) fun _ _ => mono
  · by_cases hid : id = site
    · simp only [Rn, hid, if_true, Option.some.injEq, Prod.mk.injEq] at e
      obtain ⟨rfl, rfl⟩ := e
      rcases hB with hB | hB
      · exact ⟨.inl (Nat.le_trans h.old.size hB.1), hB.2.1⟩
      · exact absurd hB.1 hs
    · simp only [Rn, hid, if_false] at e
      exact ⟨(h.own id b s' e hs).1, Nat.lt_of_lt_of_le (h.own id b s' e hs).2 hb.size⟩
  · by_cases hid : id = site
    · simp only [Rn, hid, if_true, Option.some.injEq, Prod.mk.injEq] at e
      obtain ⟨rfl, rfl⟩ := e
      rcases hB with hB | hB
      · exact ⟨fun hx => by have := h.lt _ o (h.X _ o hx); omega, .inl (Nat.le_trans h.old.size hB.1)⟩
      · exact absurd hB.1 hs
    · simp only [Rn, hid, if_false] at e
      simp only [St.mem, gm_cons, hid, if_false] at hm
      exact h.fx id b s' et o e hs hm
  · by_cases hid : id = site
    · simp only [Rn, hid, if_true, Option.some.injEq, Prod.mk.injEq] at e
      obtain ⟨rfl, rfl⟩ := e
      simp only [St.mem, gm_cons, hid, if_true] at ho
      exact .inr ⟨rfl, ho⟩
    · simp only [Rn, hid, if_false] at e
      simp only [St.mem, gm_cons, hid, if_false] at ho
      exact .inl (h.dom id b s' o e ho)
  · by_cases hid : id = site <;> by_cases hid' : id' = site
    · rw [hid, hid']
    · simp only [Rn, hid, if_true, Option.some.injEq, Prod.mk.injEq] at e
      simp only [Rn, hid', if_false] at e'
      obtain ⟨rfl, rfl⟩ := e
      rcases hB with hB | hB
      · exact absurd (h.own id' _ s2 e' hs').2 (by omega)
      · exact absurd hB.1 hs
    · simp only [Rn, hid', if_true, Option.some.injEq, Prod.mk.injEq] at e'
      simp only [Rn, hid, if_false] at e
      obtain ⟨rfl, rfl⟩ := e'
      rcases hB with hB | hB
      · exact absurd (h.own id _ s1 e hs).2 (by omega)
      · exact absurd hB.1 hs'
    · simp only [Rn, hid, if_false] at e
      simp only [Rn, hid', if_false] at e'
      simp only [St.mem, gm_cons, hid, if_false] at ha
      simp only [St.mem, gm_cons, hid', if_false] at ha'
      exact h.inj _ _ _ _ _ e e' hs hs' ha ha'
  · by_cases hid : id = site
    · simp only [Rn, hid, if_true, Option.some.injEq, Prod.mk.injEq] at e
      obtain ⟨rfl, rfl⟩ := e
      simp only [St.mem, gm_cons, hid, if_true] at ho
      rcases hB with hB | hB
      · exact hB.2.2
      · exact absurd (ho 0) (hB.2 0)
    · simp only [Rn, hid, if_false] at e
      simp only [St.mem, gm_cons, hid, if_false] at ho
      exact h.nz id b s' e ho
  · rcases hd with hd | ⟨rfl, hd⟩
    · exact Nat.lt_of_lt_of_le (h.lt b o hd) hb.size
    · rcases hB with hB | hB
      · exact hB.2.1
      · exact absurd hd (hB.2 o)
  · obtain ⟨ds, d1, d2, d3⟩ := h.df
    refine ⟨ds, d1, d2, fun b hb' => ?_⟩
    have hlt := (Array.getElem?_eq_some_iff.1 (d3 b hb').1).1
    refine ⟨(hb.block b hlt).trans (d3 b hb').1, fun o hd => ?_, (d3 b hb').2.2⟩
    rcases hd with hd | ⟨rfl, hd⟩
    · exact (d3 b hb').2.1 o hd
    · rcases hB with hB | hB
      · omega
      · exact hB.2 o hd
theorem SR.fresh (h : SR P w0 X D R st a w) {site : Nat} (hf : R site = none) {t : TypeId} {es : List (List AV)} {cv : Array Value}
    (hle : (cts P t).length = P.cellsOf t) (hz : 0 < P.cellsOf t) (hs : es.length * P.cellsOf t ≤ cv.size) (hW : WT P (.sl t) (.rs t es))
    (hv : ∀ i j, i < es.length → j < P.cellsOf t → ∃ v, cv[i * P.cellsOf t + j]? = some v ∧ VR P D R w ((es.getD i []).getD j .u) v) :
    SR P w0 X (Dn P D w.heap.size (P.cellsOf t, 0) (.row t es)) (Rn R site w.heap.size (P.cellsOf t, 0)) (st.mem site (.row t es)) a (w.alloc (.cells cv t)) := by
  have hb := below_alloc' w (.cells cv t)
  refine h.newrow hf hb (.inl ⟨Nat.le_refl _, by simp, by simp; omega⟩) fun _ => ?_
  refine ⟨w.heap.size, cv, t, by simp [Rn], World.alloc_heap_new w _, hle, hz, hs, hW, fun i j hi hj => ?_⟩
  obtain ⟨v, g1, g2⟩ := hv i j hi hj
  exact ⟨v, g1, g2.grow h.lt hf hb (.inl (Nat.le_refl _))⟩
theorem SR.freshL (h : SR P w0 X D R st a w) {site : Nat} (hf : R site = none) {t : TypeId} {es : List (List AV)} {cv : Array Value}
    (hle : (cts P t).length = P.cellsOf t) (hz : 0 < P.cellsOf t) (hs : es.length * P.cellsOf t ≤ cv.size) (hW : ∀ x, x ∈ es → x.length = (cts P t).length)
    (hv : ∀ i j, i < es.length → j < P.cellsOf t → ∃ v, cv[i * P.cellsOf t + j]? = some v ∧ VR P D R w ((es.getD i []).getD j .u) v) :
    SR P w0 X (Dn P D w.heap.size (P.cellsOf t, 0) (.lrow t es)) (Rn R site w.heap.size (P.cellsOf t, 0)) (st.mem site (.lrow t es)) a (w.alloc (.cells cv t)) := by
  have hb := below_alloc' w (.cells cv t)
  refine h.newrow hf hb (.inl ⟨Nat.le_refl _, by simp, by simp; omega⟩) fun _ => ?_
  refine ⟨w.heap.size, cv, t, by simp [Rn], World.alloc_heap_new w _, hle, hz, hs, hW, fun i j hi hj => ?_⟩
  obtain ⟨v, g1, g2⟩ := hv i j hi hj
  exact ⟨v, g1, g2.grow h.lt hf hb (.inl (Nat.le_refl _))⟩
end Go.Ev

set_option linter.unusedVariables false
set_option linter.unusedSimpArgs false
namespace Go.Ev
open Go Go.RowKit

variable {P : Program} {w0 : Base} {X D : Nat → Nat → Prop} {R : Nat → Option (Nat × Nat × Nat)} {st : St} {a : Act} {w : World}

theorem splice_get {α : Type} (l nv : List α) (o p : Nat) (h : o + nv.length ≤ l.length) :
    (l.take o ++ nv ++ l.drop (o + nv.length))[p]? = if p < o then l[p]? else if p < o + nv.length then nv[p - o]? else l[p]? := by
  by_cases h1 : p < o
  · simp only [h1, if_true]
    rw [List.append_assoc, List.getElem?_append_left (by simp; omega), List.getElem?_take]
    simp [h1]
  · simp only [h1, if_false]
    by_cases h2 : p < o + nv.length
    · simp only [h2, if_true]
      rw [List.append_assoc, List.getElem?_append_right (by simp; omega), List.getElem?_append_left (by simp; omega)]
      congr 1
      simp; omega
    · simp only [h2, if_false]
      rw [List.append_assoc, List.getElem?_append_right (by simp; omega), List.getElem?_append_right (by simp; omega), List.getElem?_drop]
      congr 1
      simp; omega

theorem setCs_length {cs new : List AV} {j : Nat} (h : j + new.length ≤ cs.length) : (setCs cs j new).length = cs.length := by
  unfold setCs
  split
  · simp
  · simp [splice]; omega
theorem setCs_getD {cs new : List AV} {j k : Nat} (h : j + new.length ≤ cs.length) :
    (setCs cs j new).getD k .u = if k < j then cs.getD k .u else if k < j + new.length then new.getD (k - j) .u else cs.getD k .u := by
  unfold setCs
  split
  · rename_i v
    simp only [List.length_cons, List.length_nil, Nat.zero_add] at h ⊢
    simp only [List.getD_eq_getElem?_getD, List.getElem?_set]
    by_cases h1 : j = k
    · subst h1
      have : j < cs.length := by omega
      simp [this]
    · simp only [h1, if_false]
      by_cases h2 : k < j
      · simp [h2]
      · simp [h2, show ¬ k < j + 1 by omega]
  · simp only [splice, List.getD_eq_getElem?_getD, splice_get _ _ _ _ h]
    by_cases h1 : k < j
    · simp [h1]
    · by_cases h2 : k < j + new.length <;> simp [h1, h2]

theorem idx_in {sz i j i' k len : Nat} (hj : j + len ≤ sz) (hk : k < sz) : (i * sz + j ≤ i' * sz + k ∧ i' * sz + k < i * sz + j + len) ↔ (i' = i ∧ j ≤ k ∧ k < j + len) := by
  constructor
  · rintro ⟨h1, h2⟩
    have e : i' = i := by
      rcases Nat.lt_trichotomy i' i with h | h | h
      · have := Nat.mul_le_mul_right sz (show i' + 1 ≤ i by omega)
        rw [Nat.add_mul, Nat.one_mul] at this
        omega
      · exact h
      · have := Nat.mul_le_mul_right sz (show i + 1 ≤ i' by omega)
        rw [Nat.add_mul, Nat.one_mul] at this
        omega
    subst e
    omega
  · rintro ⟨rfl, h1, h2⟩
    omega

theorem SR.rewrite (h : SR P w0 X D R st a w) {id b : Nat} {s : Nat × Nat} (hR : R id = some (b, s)) (hs : s ≠ (0, 0)) (hal : alive (gm st.m id) = true) (hown : ∀ o, owns P (gm st.m id) s o) {w' : World}
    (hother : ∀ k, k ≠ b → w'.heap[k]? = w.heap[k]?) (hsz : w'.heap.size = w.heap.size) (hos : w'.os = w.os) (htape : w'.tape = w.tape) (hout : w'.output = w.output)
    {blk : Blk} (hnf : ∀ et, blk ≠ .fr et) (hrow : (∀ {x : AV} {v : Value}, VR P D R w x v → VR P D R w' x v) → RowOK P D R w' id blk) :
    SR P w0 X D R (st.mem id blk) a w' := by
  have hDb : ∀ o, D b o := fun o => h.dom id b s o hR (hown o)
  have mono : ∀ {x : AV} {v : Value}, VR P D R w x v → VR P D R w' x v :=
    fun hv => hv.mono (fun _ _ e => e) (fun k hlt => by
      by_cases hk : k = b
      · exact .inl fun o => hk ▸ hDb o
      · exact .inr ⟨fun _ hd => hd, hother k hk⟩)
  refine ⟨fun t => mono (h.tmp t), h.nt, fun id' => ?_, fun id' b' s' e hs' => ⟨(h.own id' b' s' e hs').1, by rw [hsz]; exact (h.own id' b' s' e hs').2⟩, fun id' b' s' et o e hs' hm' => ?_, fun id' b' s' o e ho => ?_, fun id1 id2 b' s1 s2 e1 e2 h1 h2 a1 a2 => ?_, fun id' b' s' e ho => ?_, h.X, fun k o hd => by rw [hsz]; exact h.lt k o hd, ?_, ?_⟩
  · simp only [St.mem, gm_cons]
    by_cases hid : id' = id
    · subst hid
      simpa using hrow mono
    · simp only [hid, if_false]
      cases ha' : alive (gm st.m id') with
      | false =>
        have : gm st.m id' = .dead := by
          revert ha'
          cases gm st.m id' <;> simp [alive]
        rw [this]; trivial
      | true => exact (h.mem id').mono rfl (fun b1 s1 h1 hs1 => hother b1 fun hb => hid (h.inj _ _ _ _ _ h1 (hb ▸ hR) hs1 hs ha' hal)) fun _ _ => mono
  · by_cases hid : id' = id
    · simp only [St.mem, gm_cons, hid, if_true] at hm'
      exact absurd hm' (hnf et)
    · simp only [St.mem, gm_cons, hid, if_false] at hm'
      exact h.fx id' b' s' et o e hs' hm'
  · by_cases hid : id' = id
    · subst hid
      rw [hR] at e
      simp only [Option.some.injEq, Prod.mk.injEq] at e
      obtain ⟨rfl, rfl⟩ := e
      exact hDb o
    · simp only [St.mem, gm_cons, hid, if_false] at ho
      exact h.dom id' b' s' o e ho
  · have al : ∀ {i}, alive (gm (st.mem id blk).m i) = true → alive (gm st.m i) = true := fun {i} hi => by
      by_cases hid : i = id
      · rw [hid]; exact hal
      · simpa only [St.mem, gm_cons, hid, if_false] using hi
    exact h.inj _ _ _ _ _ e1 e2 h1 h2 (al a1) (al a2)
  · by_cases hid : id' = id
    · subst hid
      rw [hR] at e
      simp only [Option.some.injEq, Prod.mk.injEq] at e
      obtain ⟨rfl, rfl⟩ := e
      exact hs
    · simp only [St.mem, gm_cons, hid, if_false] at ho
      exact h.nz id' b' s' e ho
  · have hge := (h.own id b _ hR hs).1
    refine ⟨by rw [hos]; exact h.old.os, by rw [htape]; exact h.old.tape, by rw [hout]; exact h.old.output, by rw [hsz]; exact h.old.size, fun k hk hY => (hother k (fun e => ?_)).trans (h.old.block k hk hY)⟩
    rcases hge with hge | hge
    · omega
    · exact hY (e ▸ hge.1)
  · obtain ⟨ds, d1, d2, d3⟩ := h.df
    exact ⟨ds, d1, d2, fun k hk => ⟨(hother k (fun e => (d3 k hk).2.1 0 (e ▸ hDb 0))).trans (d3 k hk).1, (d3 k hk).2⟩⟩

theorem SR.store (h : SR P w0 X D R st a w) {id i j : Nat} {e : TypeId} {es : List (List AV)} {new : List AV} {nv : List Value} {b : Nat} {cells : Array Value} {ty : TypeId}
    (hm : gm st.m id = .row e es) (hR : R id = some (b, P.cellsOf e, 0)) (hh : w.heap[b]? = some (.cells cells ty (0, 0))) (hi : i < es.length) (hj : j + new.length ≤ P.cellsOf e)
    (hl : nv.length = new.length) (hW : ∀ k, k < new.length → WT P ((cts P e).getD (j + k) .oth) (new.getD k .u)) (hv : ∀ k, k < new.length → VR P D R w (new.getD k .u) (nv.getD k undef)) :
    SR P w0 X D R (st.mem id (.row e (es.set i (setCs (es.getD i []) j new)))) a (w.setRow b (cells.toList.take (i * P.cellsOf e + j) ++ nv ++ cells.toList.drop (i * P.cellsOf e + j + nv.length)).toArray) := by
  have hs0 := h.mem id
  generalize hw' : w.setRow b (cells.toList.take (i * P.cellsOf e + j) ++ nv ++ cells.toList.drop (i * P.cellsOf e + j + nv.length)).toArray = w'
  have hother : ∀ k, k ≠ b → w'.heap[k]? = w.heap[k]? := fun k hk => by rw [← hw']; exact setRow_other w b k _ hk
  have hrow0 := h.mem id
  rw [hm] at hrow0
  obtain ⟨b', cells', ty', g1, g2, g3, g4, g5, g6, g7⟩ := hrow0 (by intro e0; rw [e0] at hi; simp at hi)
  rw [hR] at g1
  obtain rfl : b = b' := by simpa using g1
  rw [hh] at g2
  obtain ⟨rfl, rfl⟩ : cells = cells' ∧ ty = ty' := by simpa using g2
  have hx : es.getD i [] ∈ es := by simp [List.getD_eq_getElem?_getD, List.getElem?_eq_getElem hi]
  obtain ⟨hlen, hrow, hcell⟩ : es.length ≤ 9223372036854775807 ∧ (∀ x, x ∈ es → x.length = (cts P e).length) ∧ (∀ x, x ∈ es → ∀ j, j < x.length → WT P ((cts P e).getD j .oth) (x.getD j .u)) := by
    cases g6 with
    | sl a b c => exact ⟨a, b, c⟩
  have hxl : (es.getD i []).length = P.cellsOf e := by rw [hrow _ hx, g3]
  have hcs : i * P.cellsOf e + P.cellsOf e ≤ cells.size := by
    have := Nat.mul_le_mul_right (P.cellsOf e) (show i + 1 ≤ es.length by omega)
    rw [Nat.add_mul, Nat.one_mul] at this
    omega
  have hs' : (cells.toList.take (i * P.cellsOf e + j) ++ nv ++ cells.toList.drop (i * P.cellsOf e + j + nv.length)).length = cells.size := by
    simp; omega
  have hw'b : w'.heap[b]? = some (.cells (cells.toList.take (i * P.cellsOf e + j) ++ nv ++ cells.toList.drop (i * P.cellsOf e + j + nv.length)).toArray ty (0, 0)) := by
    rw [← hw']; exact setRow_heap w b cells _ ty _ hh
  have hget : ∀ i' k, k < P.cellsOf e → i' < es.length → ((cells.toList.take (i * P.cellsOf e + j) ++ nv ++ cells.toList.drop (i * P.cellsOf e + j + nv.length)).toArray)[i' * P.cellsOf e + k]? =
      if i' = i ∧ j ≤ k ∧ k < j + new.length then nv[k - j]? else cells[i' * P.cellsOf e + k]? := by
    intro i' k hk hi'
    rw [List.getElem?_toArray, splice_get _ _ _ _ (by simp; omega), hl]
    have hidx := @idx_in (P.cellsOf e) i j i' k new.length hj hk
    by_cases hc : i' = i ∧ j ≤ k ∧ k < j + new.length
    · have h1 := hidx.2 hc
      simp only [hc, and_self, if_true]
      obtain ⟨rfl, hc1, hc2⟩ := hc
      simp only [show ¬ (i' * P.cellsOf e + k < i' * P.cellsOf e + j) by omega, show i' * P.cellsOf e + k < i' * P.cellsOf e + j + new.length by omega, if_true, if_false]
      congr 1
      omega
    · simp only [hc, if_false]
      have h1 : ¬ (i * P.cellsOf e + j ≤ i' * P.cellsOf e + k ∧ i' * P.cellsOf e + k < i * P.cellsOf e + j + new.length) := fun h => hc (hidx.1 h)
      by_cases h2 : i' * P.cellsOf e + k < i * P.cellsOf e + j
      · simp [h2]
      · have h3 : ¬ (i' * P.cellsOf e + k < i * P.cellsOf e + j + new.length) := fun h => h1 ⟨by omega, h⟩
        simp [h2, h3]
  have hsetl : (setCs (es.getD i []) j new).length = P.cellsOf e := by rw [setCs_length (by omega), hxl]
  have hWx : ∀ k, k < P.cellsOf e → WT P ((cts P e).getD k .oth) ((setCs (es.getD i []) j new).getD k .u) := by
    intro k hk
    rw [setCs_getD (by omega)]
    split
    · exact hcell _ hx k (by omega)
    · split
      · have := hW (k - j) (by omega)
        rwa [show j + (k - j) = k by omega] at this
      · exact hcell _ hx k (by omega)
  have hes' : ∀ x, x ∈ es.set i (setCs (es.getD i []) j new) → x = setCs (es.getD i []) j new ∨ x ∈ es := fun x hx => by
    rcases List.mem_or_eq_of_mem_set hx with h | h
    · exact .inr h
    · exact .inl h
  have hkind : (alive (gm st.m id) = true ∧ ∀ o, owns P (gm st.m id) (P.cellsOf e, 0) o) := by
    rw [hm]; exact ⟨rfl, fun _ => trivial⟩
  refine h.rewrite hR (by simp; omega) hkind.1 hkind.2 hother (by rw [← hw']; simp) (by rw [← hw']; rfl) (by rw [← hw']; rfl) (by rw [← hw']; rfl) (fun _ h => by cases h) fun mono => ?_
  intro _
  refine ⟨b, _, ty, hR, hw'b, g3, g4, by rw [List.size_toArray, hs', List.length_set]; exact g5, .sl (by simpa using hlen) (fun x hx => ?_) (fun x hx k hk => ?_), fun i' k hi' hk => ?_⟩
  · rcases hes' x hx with rfl | hx
    · rw [hsetl, g3]
    · exact hrow x hx
  · rcases hes' x hx with rfl | hx
    · exact hWx k (by omega)
    · exact hcell x hx k hk
  · rw [hget i' k hk (by simpa using hi')]
    have hi'' : i' < es.length := by simpa using hi'
    obtain ⟨v, q1, q2⟩ := g7 i' k hi'' hk
    by_cases hc : i' = i
    · subst hc
      have e1 : (es.set i' (setCs (es.getD i' []) j new)).getD i' [] = setCs (es.getD i' []) j new := by simp [List.getD_eq_getElem?_getD, hi'']
      rw [e1, setCs_getD (by omega)]
      by_cases h1 : j ≤ k ∧ k < j + new.length
      · simp only [h1, and_self, true_and, if_true, show ¬ k < j by omega, if_false]
        have := hv (k - j) (by omega)
        refine ⟨nv.getD (k - j) undef, ?_, mono this⟩
        have : k - j < nv.length := by omega
        simp [List.getD_eq_getElem?_getD, this]
      · simp only [h1, and_false, if_false]
        refine ⟨v, q1, ?_⟩
        by_cases h2 : k < j
        · simpa [h2] using mono q2
        · have h3 : ¬ k < j + new.length := fun h => h1 ⟨by omega, h⟩
          simpa [h2, h3] using mono q2
    · simp only [hc, false_and, if_false]
      refine ⟨v, q1, ?_⟩
      have e1 : (es.set i (setCs (es.getD i []) j new)).getD i' [] = es.getD i' [] := by simp [List.getD_eq_getElem?_getD, List.getElem?_set, Ne.symm hc]
      rw [e1]
      exact mono q2

theorem SR.storeL (h : SR P w0 X D R st a w) {id i j : Nat} {e : TypeId} {es : List (List AV)} {new : List AV} {nv : List Value} {b : Nat} {cells : Array Value} {ty : TypeId}
    (hm : gm st.m id = .row e es ∨ gm st.m id = .lrow e es) (hR : R id = some (b, P.cellsOf e, 0)) (hh : w.heap[b]? = some (.cells cells ty (0, 0))) (hi : i < es.length) (hj : j + new.length ≤ P.cellsOf e)
    (hl : nv.length = new.length) (hv : ∀ k, k < new.length → VR P D R w (new.getD k .u) (nv.getD k undef)) :
    SR P w0 X D R (st.mem id (.lrow e (es.set i (setCs (es.getD i []) j new)))) a (w.setRow b (cells.toList.take (i * P.cellsOf e + j) ++ nv ++ cells.toList.drop (i * P.cellsOf e + j + nv.length)).toArray) := by
  have hs0 := h.mem id
  generalize hw' : w.setRow b (cells.toList.take (i * P.cellsOf e + j) ++ nv ++ cells.toList.drop (i * P.cellsOf e + j + nv.length)).toArray = w'
  have hother : ∀ k, k ≠ b → w'.heap[k]? = w.heap[k]? := fun k hk => by rw [← hw']; exact setRow_other w b k _ hk
  have hrow0 := h.mem id
  have hne : es ≠ [] := by intro e0; rw [e0] at hi; simp at hi
  obtain ⟨b', cells', ty', g1, g2, g3, g4, g5, hrow, g7⟩ : ∃ b cells ty, R id = some (b, P.cellsOf e, 0) ∧ w.heap[b]? = some (.cells cells ty (0, 0)) ∧
    (cts P e).length = P.cellsOf e ∧ 0 < P.cellsOf e ∧ es.length * P.cellsOf e ≤ cells.size ∧ (∀ x, x ∈ es → x.length = (cts P e).length) ∧
    ∀ i j, i < es.length → j < P.cellsOf e → ∃ v, cells[i * P.cellsOf e + j]? = some v ∧ VR P D R w ((es.getD i []).getD j .u) v := by
    rcases hm with hm | hm
    · rw [hm] at hrow0
      obtain ⟨b', cells', ty', g1, g2, g3, g4, g5, g6, g7⟩ := hrow0 hne
      refine ⟨b', cells', ty', g1, g2, g3, g4, g5, ?_, g7⟩
      cases g6 with
      | sl a b c => exact b
    · rw [hm] at hrow0
      exact hrow0 hne
  rw [hR] at g1
  obtain rfl : b = b' := by simpa using g1
  rw [hh] at g2
  obtain ⟨rfl, rfl⟩ : cells = cells' ∧ ty = ty' := by simpa using g2
  have hx : es.getD i [] ∈ es := by simp [List.getD_eq_getElem?_getD, List.getElem?_eq_getElem hi]
  have hxl : (es.getD i []).length = P.cellsOf e := by rw [hrow _ hx, g3]
  have hcs : i * P.cellsOf e + P.cellsOf e ≤ cells.size := by
    have := Nat.mul_le_mul_right (P.cellsOf e) (show i + 1 ≤ es.length by omega)
    rw [Nat.add_mul, Nat.one_mul] at this
    omega
  have hs' : (cells.toList.take (i * P.cellsOf e + j) ++ nv ++ cells.toList.drop (i * P.cellsOf e + j + nv.length)).length = cells.size := by
    simp; omega
  have hw'b : w'.heap[b]? = some (.cells (cells.toList.take (i * P.cellsOf e + j) ++ nv ++ cells.toList.drop (i * P.cellsOf e + j + nv.length)).toArray ty (0, 0)) := by
    rw [← hw']; exact setRow_heap w b cells _ ty _ hh
  have hget : ∀ i' k, k < P.cellsOf e → i' < es.length → ((cells.toList.take (i * P.cellsOf e + j) ++ nv ++ cells.toList.drop (i * P.cellsOf e + j + nv.length)).toArray)[i' * P.cellsOf e + k]? =
      if i' = i ∧ j ≤ k ∧ k < j + new.length then nv[k - j]? else cells[i' * P.cellsOf e + k]? := by
    intro i' k hk hi'
    rw [List.getElem?_toArray, splice_get _ _ _ _ (by simp; omega), hl]
    have hidx := @idx_in (P.cellsOf e) i j i' k new.length hj hk
    by_cases hc : i' = i ∧ j ≤ k ∧ k < j + new.length
    · have h1 := hidx.2 hc
      simp only [hc, and_self, if_true]
      obtain ⟨rfl, hc1, hc2⟩ := hc
      simp only [show ¬ (i' * P.cellsOf e + k < i' * P.cellsOf e + j) by omega, show i' * P.cellsOf e + k < i' * P.cellsOf e + j + new.length by omega, if_true, if_false]
      congr 1
      omega
    · simp only [hc, if_false]
      have h1 : ¬ (i * P.cellsOf e + j ≤ i' * P.cellsOf e + k ∧ i' * P.cellsOf e + k < i * P.cellsOf e + j + new.length) := fun h => hc (hidx.1 h)
      by_cases h2 : i' * P.cellsOf e + k < i * P.cellsOf e + j
      · simp [h2]
      · have h3 : ¬ (i' * P.cellsOf e + k < i * P.cellsOf e + j + new.length) := fun h => h1 ⟨by omega, h⟩
        simp [h2, h3]
  have hsetl : (setCs (es.getD i []) j new).length = P.cellsOf e := by rw [setCs_length (by omega), hxl]
  have hes' : ∀ x, x ∈ es.set i (setCs (es.getD i []) j new) → x = setCs (es.getD i []) j new ∨ x ∈ es := fun x hx => by
    rcases List.mem_or_eq_of_mem_set hx with h | h
    · exact .inr h
    · exact .inl h
  have hkind : (alive (gm st.m id) = true ∧ ∀ o, owns P (gm st.m id) (P.cellsOf e, 0) o) := by
    rcases hm with hm | hm <;> rw [hm] <;> exact ⟨rfl, fun _ => trivial⟩
  refine h.rewrite hR (by simp; omega) hkind.1 hkind.2 hother (by rw [← hw']; simp) (by rw [← hw']; rfl) (by rw [← hw']; rfl) (by rw [← hw']; rfl) (fun _ h => by cases h) fun mono => ?_
  intro _
  refine ⟨b, _, ty, hR, hw'b, g3, g4, by rw [List.size_toArray, hs', List.length_set]; exact g5, (fun x hx => ?_), fun i' k hi' hk => ?_⟩
  · rcases hes' x hx with rfl | hx
    · rw [hsetl, g3]
    · exact hrow x hx
  · rw [hget i' k hk (by simpa using hi')]
    have hi'' : i' < es.length := by simpa using hi'
    obtain ⟨v, q1, q2⟩ := g7 i' k hi'' hk
    by_cases hc : i' = i
    · subst hc
      have e1 : (es.set i' (setCs (es.getD i' []) j new)).getD i' [] = setCs (es.getD i' []) j new := by simp [List.getD_eq_getElem?_getD, hi'']
      rw [e1, setCs_getD (by omega)]
      by_cases h1 : j ≤ k ∧ k < j + new.length
      · simp only [h1, and_self, true_and, if_true, show ¬ k < j by omega, if_false]
        have := hv (k - j) (by omega)
        refine ⟨nv.getD (k - j) undef, ?_, mono this⟩
        have : k - j < nv.length := by omega
        simp [List.getD_eq_getElem?_getD, this]
      · simp only [h1, and_false, if_false]
        refine ⟨v, q1, ?_⟩
        by_cases h2 : k < j
        · simpa [h2] using mono q2
        · have h3 : ¬ k < j + new.length := fun h => h1 ⟨by omega, h⟩
          simpa [h2, h3] using mono q2
    · simp only [hc, false_and, if_false]
      refine ⟨v, q1, ?_⟩
      have e1 : (es.set i (setCs (es.getD i []) j new)).getD i' [] = es.getD i' [] := by simp [List.getD_eq_getElem?_getD, List.getElem?_set, Ne.symm hc]
      rw [e1]
      exact mono q2

end Go.Ev

set_option linter.unusedVariables false
set_option linter.unusedSimpArgs false
namespace Go.Ev
open Go Go.RowKit

variable {P : Program} {w0 : Base} {X D : Nat → Nat → Prop} {R : Nat → Option (Nat × Nat × Nat)} {st : St} {a : Act} {w : World}

theorem noOth_cell {d : Nat} {e : TypeId} (h : noOth P (d + 1) e = true) {k : Nat} (hk : k < (cts P e).length) : okc P d ((cts P e).getD k .oth) = true := by
  simp only [noOth] at h
  have := List.all_eq_true.1 h ((cts P e)[k]) (List.getElem_mem hk)
  simpa [List.getD_eq_getElem?_getD, List.getElem?_eq_getElem hk, okc] using this
theorem freeL_at {nb : Nat} : ∀ {l : List AV} {k : Nat}, freeL P nb l = true → k < l.length → free P nb (l.getD k .u) = true
  | [], k, _, hk => by simp at hk
  | a :: r, 0, h, _ => by simp only [freeL, Bool.and_eq_true] at h; simpa using h.1
  | a :: r, k + 1, h, hk => by
    simp only [freeL, Bool.and_eq_true] at h
    simpa using freeL_at h.2 (by simpa using hk)
theorem okL_at {p : Nat → Bool} : ∀ {l : List AV} {k : Nat}, okL P p l = true → k < l.length → okV P p (l.getD k .u) = true
  | [], k, _, hk => by simp at hk
  | a :: r, 0, h, _ => by simp only [okL, Bool.and_eq_true] at h; simpa using h.1
  | a :: r, k + 1, h, hk => by
    simp only [okL, Bool.and_eq_true] at h
    simpa using okL_at h.2 (by simpa using hk)
theorem renL_length (f : Nat → Nat) : ∀ (l : List AV), (renL P f l).length = l.length
  | [] => rfl
  | a :: r => by simp [renL, renL_length f r]
theorem renL_at (f : Nat → Nat) : ∀ (l : List AV) (k : Nat), k < l.length → (renL P f l).getD k .u = renV P f (l.getD k .u)
  | [], k, hk => by simp at hk
  | a :: r, 0, _ => by simp [renL]
  | a :: r, k + 1, hk => by simpa [renL] using renL_at f r k (by simpa using hk)
theorem WT_rs {e : TypeId} {es : List (List AV)} (h : WT P (.sl e) (.rs e es)) : es.length ≤ 9223372036854775807 ∧ (∀ x, x ∈ es → x.length = (cts P e).length) ∧ (∀ x, x ∈ es → ∀ j, j < x.length → WT P ((cts P e).getD j .oth) (x.getD j .u)) := by
  cases h with
  | sl a b c => exact ⟨a, b, c⟩
theorem getD_mem' {es : List (List AV)} {i : Nat} (h : i < es.length) : es.getD i [] ∈ es := by
  simp [List.getD_eq_getElem?_getD, List.getElem?_eq_getElem h]

theorem VR.flat {R' : Nat → Option (Nat × Nat × Nat)} {x : AV} {v : Value} (h : VR P D R w x v) : ∀ c d, WT P c x → okc P d c = true → VR P D R' w x v := by
  induction h with
  | b => exact fun _ _ _ _ => .b
  | i h1 h2 => exact fun _ _ _ _ => .i h1 h2
  | s h1 => exact fun _ _ _ _ => .s h1
  | rs0 h => exact fun _ _ _ _ => .rs0 h
  | @rs e es b o c f h1 hz h2 h3 h4 h5 h6 h7 ih =>
    intro c d hW ho
    cases hW with
    | oth => simp [okc] at ho
    | sl =>
      have hd : noOth P d e = true := by simpa [okc] using ho
      cases d with
      | zero => simp [noOth] at hd
      | succ d =>
        refine .rs h1 hz h2 h3 h4 h5 h6 fun i j hi hj => ?_
        obtain ⟨g1, g2, g3⟩ := WT_rs h5
        have hx := getD_mem' hi
        exact ih i j hi hj _ d (g3 _ hx j (by rw [g2 _ hx, h3]; exact hj)) (noOth_cell hd (by rw [h3]; exact hj))
  | u => exact fun _ _ _ _ => .u
  | _ => exact fun c d hW ho => by cases hW; simp [okc] at ho
theorem flat_es {R' : Nat → Option (Nat × Nat × Nat)} {e : TypeId} {es : List (List AV)} {f : Nat → Nat → Value} (hd : noOth P 8 e = true) (h3 : (cts P e).length = P.cellsOf e) (h5 : WT P (.sl e) (.rs e es))
    (h7 : ∀ i j, i < es.length → j < P.cellsOf e → VR P D R w ((es.getD i []).getD j .u) (f i j)) : ∀ i j, i < es.length → j < P.cellsOf e → VR P D R' w ((es.getD i []).getD j .u) (f i j) := by
  intro i j hi hj
  obtain ⟨g1, g2, g3⟩ := WT_rs h5
  have hx := getD_mem' hi
  exact (h7 i j hi hj).flat _ 7 (g3 _ hx j (by rw [g2 _ hx, h3]; exact hj)) (noOth_cell hd (by rw [h3]; exact hj))

theorem VR.free_any {nb : Nat} {R' : Nat → Option (Nat × Nat × Nat)} (hR : ∀ id y, id < nb → R id = some y → R' id = some y) {x : AV} {v : Value} (h : VR P D R w x v) : free P nb x = true → VR P D R' w x v := by
  induction h with
  | b => exact fun _ => .b
  | i h1 h2 => exact fun _ => .i h1 h2
  | s h1 => exact fun _ => .s h1
  | nl => exact fun _ => .nl
  | rs0 h => exact fun _ => .rs0 h
  | e0 h => exact fun _ => .e0 h
  | sl0 h => exact fun _ => .sl0 h
  | @rs e es b o c f h1 hz h2 h3 h4 h5 h6 h7 ih => exact fun hf => .rs h1 hz h2 h3 h4 h5 h6 (flat_es (by simpa [free] using hf) h3 h5 h7)
  | @gv id e es b c f h1 hz h2 h3 h4 h5 h6 h7 h8 ih =>
    intro hf
    simp only [free, Bool.and_eq_true, Nat.blt_eq] at hf
    exact .gv h1 hz h2 h3 h4 h5 h6 (flat_es hf.2 h3 h5 h7) (hR _ _ hf.1 h8)
  | gv0 h1 =>
    intro hf
    simp only [free, Bool.and_eq_true, Nat.blt_eq] at hf
    exact .gv0 (hR _ _ hf.1 h1)
  | sl h1 h2 h3 => exact fun hf => .sl (hR _ _ (by simpa [free, Nat.blt_eq] using hf) h1) h2 h3
  | sa h1 h2 h3 => exact fun hf => .sa (hR _ _ (by simpa [free, Nat.blt_eq] using hf) h1) h2 h3
  | mp h1 => exact fun hf => .mp (hR _ _ (by simpa [free, Nat.blt_eq] using hf) h1)
  | it h1 => exact fun hf => .it (hR _ _ (by simpa [free, Nat.blt_eq] using hf) h1)
  | p h1 => exact fun hf => .p (hR _ _ (by simpa [free, Nat.blt_eq] using hf) h1)
  | @rp all cs j b o f h1 h0 h2 h3 h4 ih =>
    refine fun hf => .rp h1 h0 h2 h3 fun k hk => ?_
    have hk' : k < all.length := by rw [← h2.1]; exact hk
    simp only [free, Bool.or_eq_true] at hf
    rcases hf with hf | hf
    · have := List.all_eq_true.1 hf (all[k]) (List.getElem_mem hk')
      exact (h4 k hk).flat _ 8 (h2.2 k hk) (by simpa [List.getD_eq_getElem?_getD, List.getElem?_eq_getElem hk'] using this)
    · exact ih k hk (freeL_at hf hk)
  | np => exact fun _ => .np
  | ln h => exact fun _ => .ln h
  | fn h1 _ ih => exact fun hf => .fn h1 fun k hk => ih k hk (freeL_at (by simpa [free] using hf) hk)
  | nf => exact fun _ => .nf
  | yl => exact fun _ => .yl
  | ni => exact fun _ => .ni
  | nm => exact fun _ => .nm
  | ifc _ ih => exact fun hf => .ifc (ih (by simpa [free] using hf))
  | agg h1 _ ih => exact fun hf => .agg h1 fun k hk => ih k hk (freeL_at (by simpa [free] using hf) hk)
  | tup h1 _ ih => exact fun hf => .tup h1 fun k hk => ih k hk (freeL_at (by simpa [free] using hf) hk)
  | u => exact fun hf => .u

theorem WT.ren {f : Nat → Nat} {c : CT} {x : AV} (h : WT P c x) : WT P c (renV P f x) := by
  cases h with
  | int h1 h2 => exact .int h1 h2
  | bool => exact .bool
  | str h => exact .str h
  | sl h1 h2 h3 => exact .sl h1 h2 h3
  | oth => exact .oth
theorem WTs.renL {f : Nat → Nat} {all : List CT} {cs : List AV} (h : WTs P all cs) : WTs P all (Ev.renL P f cs) :=
  ⟨by rw [renL_length]; exact h.1, fun j hj => by
    rw [renL_length] at hj
    rw [renL_at _ _ _ hj]
    exact (h.2 j hj).ren⟩
theorem VR.ren {R' : Nat → Option (Nat × Nat × Nat)} {p : Nat → Bool} {f : Nat → Nat} (hR : ∀ id y, p id = true → R id = some y → R' (f id) = some y) {x : AV} {v : Value} (h : VR P D R w x v) : okV P p x = true → VR P D R' w (renV P f x) v := by
  induction h with
  | b => exact fun _ => .b
  | i h1 h2 => exact fun _ => .i h1 h2
  | s h1 => exact fun _ => .s h1
  | nl => exact fun _ => .nl
  | rs0 h => exact fun _ => .rs0 h
  | e0 h => exact fun _ => .e0 h
  | sl0 h => exact fun _ => .sl0 h
  | @rs e es b o c f h1 hz h2 h3 h4 h5 h6 h7 ih => exact fun hf => .rs h1 hz h2 h3 h4 h5 h6 (flat_es (by simpa [okV] using hf) h3 h5 h7)
  | @gv id e es b c f h1 hz h2 h3 h4 h5 h6 h7 h8 ih => exact fun hf => .rs h1 hz h2 h3 h4 h5 h6 (flat_es (by simpa [okV] using hf) h3 h5 h7)
  | gv0 h1 => exact fun _ => .rs0 fun _ => rfl
  | sl h1 h2 h3 => exact fun hf => .sl (hR _ _ (by simpa [okV] using hf) h1) h2 h3
  | sa h1 h2 h3 => exact fun hf => .sa (hR _ _ (by simpa [okV] using hf) h1) h2 h3
  | mp h1 => exact fun hf => .mp (hR _ _ (by simpa [okV] using hf) h1)
  | it h1 => exact fun hf => .it (hR _ _ (by simpa [okV] using hf) h1)
  | p h1 => exact fun hf => .p (hR _ _ (by simpa [okV] using hf) h1)
  | @rp all cs j b o g h1 h0 h2 h3 h4 ih =>
    intro hf
    simp only [okV, Bool.or_eq_true] at hf
    simp only [renV]
    cases ha : all.all (okc P 8) with
    | true =>
      refine .rp h1 h0 h2 h3 fun k hk => ?_
      have hk' : k < all.length := by rw [← h2.1]; exact hk
      have := List.all_eq_true.1 ha (all[k]) (List.getElem_mem hk')
      exact (h4 k hk).flat _ 8 (h2.2 k hk) (by simpa [List.getD_eq_getElem?_getD, List.getElem?_eq_getElem hk'] using this)
    | false =>
      have hf : okL P p cs = true := by
        rcases hf with hf | hf
        · rw [ha] at hf; cases hf
        · exact hf
      simp only [cond_false]
      have hl := renL_length (P := P) f cs
      refine .rp (fun k hk => h1 k (by omega)) (by omega) h2.renL (fun k hk => h3 k (by omega)) fun k hk => ?_
      rw [hl] at hk
      rw [renL_at _ _ _ hk]
      exact ih k hk (okL_at hf hk)
  | np => exact fun _ => .np
  | ln h => exact fun _ => .ln h
  | fn h1 _ ih =>
    refine fun hf => .fn (by rw [renL_length]; exact h1) fun k hk => ?_
    rw [renL_length] at hk
    rw [renL_at _ _ _ hk]
    exact ih k hk (okL_at (by simpa [okV] using hf) hk)
  | nf => exact fun _ => .nf
  | yl => exact fun _ => .yl
  | ni => exact fun _ => .ni
  | nm => exact fun _ => .nm
  | ifc _ ih => exact fun hf => .ifc (ih (by simpa [okV] using hf))
  | agg h1 _ ih =>
    refine fun hf => .agg (by rw [renL_length]; exact h1) fun k hk => ?_
    rw [renL_length] at hk
    rw [renL_at _ _ _ hk]
    exact ih k hk (okL_at (by simpa [okV] using hf) hk)
  | tup h1 _ ih =>
    refine fun hf => .tup (by rw [renL_length]; exact h1) fun k hk => ?_
    rw [renL_length] at hk
    rw [renL_at _ _ _ hk]
    exact ih k hk (okL_at (by simpa [okV] using hf) hk)
  | u => exact fun hf => .u

theorem TV.flat {R' : Nat → Option (Nat × Nat × Nat)} {t : TypeId} {x : AV} {v : Value} (ht : TV P t x) (hn : noOth P 8 t = true) (h : VR P D R w x v) : VR P D R' w x v := by
  cases hA : isAgg P t with
  | true =>
    obtain ⟨cs, rfl⟩ := ht.a hA
    obtain ⟨cv, rfl, h1, h2⟩ := h.agg_inv
    refine .agg h1 fun k hk => ?_
    have hk' : k < (cts P t).length := by rw [← ht.w.1]; exact hk
    exact (h2 k hk).flat _ 7 (ht.w.2 k hk) (noOth_cell hn hk')
  | false =>
    have hc := ht.n hA
    have hw := ht.w
    rw [hc] at hw
    have hl : 0 < (cts P t).length := by rw [← hw.1]; simp
    exact h.flat _ 7 (by simpa using hw.2 0 (by simp)) (noOth_cell hn hl)

theorem RowOK.free {nb : Nat} {R' : Nat → Option (Nat × Nat × Nat)} {id id' : Nat} {blk : Blk} (hR : ∀ id y, id < nb → R id = some y → R' id = some y) (hid : ∀ y, R id = some y → R' id' = some y) (h : RowOK P D R w id blk) (hf : freeB P nb blk = true) : RowOK P D R' w id' blk := by
  cases blk with
  | dead => trivial
  | row e es =>
    intro hne
    obtain ⟨b, cells, ty, g1, g2, g3, g4, g5, g6, g7⟩ := h hne
    refine ⟨b, cells, ty, hid _ g1, g2, g3, g4, g5, g6, fun i j hi hj => ?_⟩
    obtain ⟨v, q1, q2⟩ := g7 i j hi hj
    refine ⟨v, q1, ?_⟩
    obtain ⟨w1, w2, w3⟩ := WT_rs g6
    have hx := getD_mem' hi
    have hxl : j < (es.getD i []).length := by rw [w2 _ hx, g3]; exact hj
    simp only [freeB, Bool.or_eq_true] at hf
    rcases hf with hf | hf
    · exact q2.flat _ 7 (w3 _ hx j hxl) (noOth_cell hf (by rw [g3]; exact hj))
    · exact q2.free_any hR (freeL_at (List.all_eq_true.1 hf _ hx) hxl)
  | lrow e es =>
    intro hne
    obtain ⟨b, cells, ty, g1, g2, g3, g4, g5, g6, g7⟩ := h hne
    refine ⟨b, cells, ty, hid _ g1, g2, g3, g4, g5, g6, fun i j hi hj => ?_⟩
    obtain ⟨v, q1, q2⟩ := g7 i j hi hj
    have hx := getD_mem' hi
    exact ⟨v, q1, q2.free_any hR (freeL_at (List.all_eq_true.1 (by simpa [freeB] using hf) _ hx) (by rw [g6 _ hx, g3]; exact hj))⟩
  | fr e => simp [freeB] at hf
  | mp kt vt es =>
    obtain ⟨k1, k2, k3, b, en, cl, g1, g2, g3, g4⟩ := h
    exact ⟨k1, k2, k3, b, en, cl, hid _ g1, g2, g3, fun i hi => by
      obtain ⟨q1, q2, q3, q4, q5, q6⟩ := g4 i hi
      exact ⟨q1, q2, q3, q4, q3.flat (by simpa [freeB] using hf) q5, q6⟩⟩
  | ob o =>
    obtain ⟨k1, k2, b, g1, g2⟩ := h
    exact ⟨k1, k2, b, hid _ g1, g2⟩
  | si s pos =>
    obtain ⟨k1, b, g1, g2⟩ := h
    exact ⟨k1, b, hid _ g1, g2⟩

theorem RowOK.ren {R' : Nat → Option (Nat × Nat × Nat)} {p : Nat → Bool} {f : Nat → Nat} (hR : ∀ id y, p id = true → R id = some y → R' (f id) = some y) {id id' : Nat} {blk : Blk} (hid : ∀ y, R id = some y → R' id' = some y) (h : RowOK P D R w id blk) (hf : okB P p blk = true) : RowOK P D R' w id' (renB P f blk) := by
  cases blk with
  | dead => simp [okB] at hf
  | row e es =>
    simp only [renB]
    cases hno : noOth P 8 e with
    | true =>
      intro hne
      obtain ⟨b, cells, ty, g1, g2, g3, g4, g5, g6, g7⟩ := h hne
      refine ⟨b, cells, ty, hid _ g1, g2, g3, g4, g5, g6, fun i j hi hj => ?_⟩
      obtain ⟨v, q1, q2⟩ := g7 i j hi hj
      obtain ⟨w1, w2, w3⟩ := WT_rs g6
      have hx := getD_mem' hi
      exact ⟨v, q1, q2.flat _ 7 (w3 _ hx j (by rw [w2 _ hx, g3]; exact hj)) (noOth_cell hno (by rw [g3]; exact hj))⟩
    | false =>
      simp only [cond_false]
      simp only [okB, hno, Bool.false_or] at hf
      intro hne
      obtain ⟨b, cells, ty, g1, g2, g3, g4, g5, g6, g7⟩ := h (by intro e; rw [e] at hne; exact hne rfl)
      obtain ⟨w1, w2, w3⟩ := WT_rs g6
      refine ⟨b, cells, ty, hid _ g1, g2, g3, g4, by simpa using g5, .sl (by simpa using w1) (fun x hx => ?_) (fun x hx j hj => ?_), fun i j hi hj => ?_⟩
      · obtain ⟨y, hy, rfl⟩ := List.mem_map.1 hx
        rw [renL_length]; exact w2 y hy
      · obtain ⟨y, hy, rfl⟩ := List.mem_map.1 hx
        rw [renL_length] at hj
        rw [renL_at _ _ _ hj]
        exact (w3 y hy j hj).ren
      · have hi' : i < es.length := by simpa using hi
        obtain ⟨v, q1, q2⟩ := g7 i j hi' hj
        have hx := getD_mem' hi'
        have e1 : (es.map (renL P f)).getD i [] = renL P f (es.getD i []) := by simp [List.getD_eq_getElem?_getD, hi']
        have hl : j < (es.getD i []).length := by rw [w2 _ hx, g3]; exact hj
        rw [e1, renL_at _ _ _ hl]
        exact ⟨v, q1, q2.ren hR (okL_at (List.all_eq_true.1 hf _ hx) hl)⟩
  | lrow e es =>
    simp only [renB]
    simp only [okB] at hf
    intro hne
    obtain ⟨b, cells, ty, g1, g2, g3, g4, g5, g6, g7⟩ := h (by intro e; rw [e] at hne; exact hne rfl)
    refine ⟨b, cells, ty, hid _ g1, g2, g3, g4, by simpa using g5, (fun x hx => ?_), fun i j hi hj => ?_⟩
    · obtain ⟨y, hy, rfl⟩ := List.mem_map.1 hx
      rw [renL_length]; exact g6 y hy
    · have hi' : i < es.length := by simpa using hi
      obtain ⟨v, q1, q2⟩ := g7 i j hi' hj
      have hx := getD_mem' hi'
      have e1 : (es.map (renL P f)).getD i [] = renL P f (es.getD i []) := by simp [List.getD_eq_getElem?_getD, hi']
      have hl : j < (es.getD i []).length := by rw [g6 _ hx, g3]; exact hj
      rw [e1, renL_at _ _ _ hl]
      exact ⟨v, q1, q2.ren hR (okL_at (List.all_eq_true.1 hf _ hx) hl)⟩
  | fr e => simp [okB] at hf
  | mp kt vt es =>
    obtain ⟨k1, k2, k3, b, en, cl, g1, g2, g3, g4⟩ := h
    exact ⟨k1, k2, k3, b, en, cl, hid _ g1, g2, g3, fun i hi => by
      obtain ⟨q1, q2, q3, q4, q5, q6⟩ := g4 i hi
      exact ⟨q1, q2, q3, q4, q3.flat (by simpa [okB] using hf) q5, q6⟩⟩
  | ob o =>
    obtain ⟨k1, k2, b, g1, g2⟩ := h
    exact ⟨k1, k2, b, hid _ g1, g2⟩
  | si s pos =>
    obtain ⟨k1, b, g1, g2⟩ := h
    exact ⟨k1, b, hid _ g1, g2⟩

def none2 : Nat → Option (Nat × Nat × Nat) := fun _ => none
def rowsOf (R : Nat → Option (Nat × Nat × Nat)) (b : Nat) : Prop := ∃ id s, R id = some (b, s)
def XR (X : Nat → Nat → Prop) (R : Nat → Option (Nat × Nat × Nat)) (b o : Nat) : Prop := X b o ∨ rowsOf R b
structure Con (P : Program) (f : FuncId) (args : List AV) (rows : List Blk) (v : AV) (rows' : List Blk) : Prop where
  fn : ∃ fn, P.funcs[f]? = some fn ∧ (fn.name == "runtime.NumGoroutine") = false ∧ fn.body.isSome = true
  calls : ∀ (X : Nat → Nat → Prop) (R : Nat → Option (Nat × Nat × Nat)) (w : World) (av : Array Value), (∀ b o, X b o → b < w.heap.size) → (∀ id, rows.length ≤ id → R id = none) →
    (∀ id b s, R id = some (b, s) → b < w.heap.size ∧ s ≠ (0, 0) ∧ ∀ o, ¬ X b o) → (∀ id id' b s s', R id = some (b, s) → R id' = some (b, s') → id = id') →
    (∀ id, id < rows.length → RowOK P (XR X R) R w id (rows.getD id .dead)) → av.size = args.length →
    (∀ k, k < args.length → VR P (XR X R) R w (args.getD k .u) (av.getD k undef)) →
    Calls P f av w fun e w' => ∃ v', e = .returned v' ∧ VR P (XR X R) R w' v v' ∧ (∀ id, id < rows.length → RowOK P (XR X R) R w' id (rows'.getD id .dead)) ∧ BelowY ⟨w, rowsOf R, fun id => id < rows.length, w.heap.size, Nat.le_refl _⟩ w'
def SpecOK (P : Program) (S : Spec) : Prop := ∀ f args rows pre v rows', S f args rows = some (pre, v, rows') → pre = true → Con P f args rows v rows'
theorem XR_none {X : Nat → Nat → Prop} {b o : Nat} : XR X none2 b o ↔ X b o := by
  constructor
  · rintro (h | ⟨id, s, h⟩)
    · exact h
    · cases h
  · exact .inl
theorem VR.xr_none {X : Nat → Nat → Prop} {x : AV} {v : Value} (h : VR P (XR X none2) none2 w x v) : VR P X none2 w x v := h.mono' (fun _ _ e => e) fun b o u hd hc => ⟨fun hx => hd (XR_none.2 hx), hc⟩
theorem VR.to_xr_none {X : Nat → Nat → Prop} {x : AV} {v : Value} (h : VR P X none2 w x v) : VR P (XR X none2) none2 w x v := h.mono' (fun _ _ e => e) fun b o u hd hc => ⟨fun hx => hd (XR_none.1 hx), hc⟩
theorem Con.plain {f : FuncId} {args : List AV} {v : AV} (h : Con P f args [] v []) (X : Nat → Nat → Prop) (w : World) (av : Array Value) (hX : ∀ b o, X b o → b < w.heap.size) (hs : av.size = args.length)
    (hv : ∀ k, k < args.length → VR P X none2 w (args.getD k .u) (av.getD k undef)) : Calls P f av w fun e w' => ∃ v', e = .returned v' ∧ VR P X none2 w' v v' ∧ Below w.heap.size w w' := by
  refine (h.calls X none2 w av hX (fun _ _ => rfl) (fun _ _ _ e => by cases e) (fun _ _ _ _ _ e => by cases e) (fun id hid => by simp at hid) hs fun k hk => (hv k hk).to_xr_none).mono ?_
  rintro e w' ⟨v', rfl, h1, _, h3⟩
  exact ⟨v', rfl, h1.xr_none, ⟨h3.os, h3.tape, h3.output, h3.size, fun k hk => h3.block k hk (by rintro ⟨_, _, h⟩; cases h)⟩⟩

theorem has_iff {l : List Nat} {x : Nat} : has l x = true ↔ x ∈ l := by
  simp [has]
theorem beq_false {i j : Nat} (h : i ≠ j) : Nat.beq i j = false := by
  cases hb : Nat.beq i j with
  | true => exact absurd (Nat.eq_of_beq_eq_true hb) h
  | false => rfl
theorem pos_get : ∀ {I : List Nat} {id : Nat}, id ∈ I → I[pos I id]? = some id
  | [], id, h => by cases h
  | a :: I, id, h => by
    simp only [pos]
    by_cases e : id = a
    · subst e; simp
    · rw [beq_false e]
      have : id ∈ I := by simpa [e] using h
      simpa using pos_get this
theorem pos_lt {I : List Nat} {id : Nat} (h : id ∈ I) : pos I id < I.length := (List.getElem?_eq_some_iff.1 (pos_get h)).1
theorem gm_putRows : ∀ {I : List Nat} {bs : List Blk} {m : List (Nat × Blk)} {id : Nat}, bs.length = I.length → gm (putRows I bs m) id = if id ∈ I then bs.getD (pos I id) .dead else gm m id
  | [], bs, m, id, h => by cases bs <;> simp [putRows]
  | i :: I, [], m, id, h => by simp at h
  | i :: I, b :: bs, m, id, h => by
    simp only [putRows, gm_cons, pos]
    by_cases e : id = i
    · subst e; simp
    · rw [beq_false e]
      simp only [e, if_false, List.mem_cons, false_or, cond_false, List.getD_cons_succ]
      exact gm_putRows (by simpa using h)
def Rc (R : Nat → Option (Nat × Nat × Nat)) (I : List Nat) (j : Nat) : Option (Nat × Nat × Nat) := match I[j]? with
  | some id => R id
  | none => none
theorem Rc_pos {I : List Nat} {id : Nat} (h : id ∈ I) : Rc R I (pos I id) = R id := by simp [Rc, pos_get h]
theorem Rc_back {I : List Nat} {j : Nat} (h : j < I.length) : R (back I j) = Rc R I j := by simp [Rc, back, List.getD_eq_getElem?_getD, h]
theorem okB_alive {p : Nat → Bool} {b : Blk} (h : okB P p b = true) : alive b = true ∧ ∀ s o, owns P b s o := by
  cases b <;> simp [okB] at h <;> exact ⟨rfl, fun _ _ => trivial⟩
theorem renB_alive {f : Nat → Nat} {b : Blk} {s : Nat × Nat} {o : Nat} : alive (renB P f b) = alive b ∧ (owns P (renB P f b) s o ↔ owns P b s o) := by
  cases b <;> simp [renB, alive, owns]
theorem SR.called (h : SR P w0 X D R st a w) {I : List Nat} (hnd : I.Nodup) (hok : ∀ id, id ∈ I → okB P (has I) (gm st.m id) = true) {w' : World} {rows' : List Blk} (hl : rows'.length = I.length)
    (hok' : ∀ j, j < I.length → okB P (Nat.blt · I.length) (rows'.getD j .dead) = true) (hrow : ∀ j, j < I.length → RowOK P D (Rc R I) w' j (rows'.getD j .dead)) {kk : Nat → Prop} (hb : BelowY ⟨w, rowsOf (Rc R I), kk, w.heap.size, Nat.le_refl _⟩ w') :
    (∀ {x : AV} {v : Value}, VR P D R w x v → VR P D R w' x v) ∧ SR P w0 X D R { st with m := putRows I (rows'.map (renB P (back I))) st.m } a w' := by
  have hin : ∀ b, rowsOf (Rc R I) b → ∃ id s, id ∈ I ∧ R id = some (b, s) ∧ s ≠ (0, 0) ∧ ∀ o, D b o := by
    rintro b ⟨j, s, e⟩
    unfold Rc at e
    split at e
    · rename_i id hj
      have hm := List.mem_of_getElem? hj
      have ho := (okB_alive (hok id hm)).2
      exact ⟨id, s, hm, e, h.nz id b s e (ho s), fun o => h.dom id b s o e (ho s o)⟩
    · cases e
  have mono : ∀ {x : AV} {v : Value}, VR P D R w x v → VR P D R w' x v := fun hv => hv.mono (fun _ _ e => e) fun b hlt => by
    by_cases hr : rowsOf (Rc R I) b
    · obtain ⟨_, _, _, _, _, hd⟩ := hin b hr
      exact .inl hd
    · exact .inr ⟨fun _ hd => hd, hb.block b hlt hr⟩
  have hl' : (rows'.map (renB P (back I))).length = I.length := by simpa using hl
  have hgm : ∀ id, gm (putRows I (rows'.map (renB P (back I))) st.m) id = if id ∈ I then renB P (back I) (rows'.getD (pos I id) .dead) else gm st.m id := fun id => by
    rw [gm_putRows hl']
    split
    · rename_i hid
      have := pos_lt hid
      simp [List.getD_eq_getElem?_getD, show pos I id < rows'.length by omega]
    · rfl
  have hal : ∀ id, alive (gm (putRows I (rows'.map (renB P (back I))) st.m) id) = alive (gm st.m id) := fun id => by
    rw [hgm]
    split
    · rename_i hid
      rw [(renB_alive (s := (0, 0)) (o := 0)).1, (okB_alive (hok' _ (pos_lt hid))).1, (okB_alive (hok id hid)).1]
    · rfl
  have how : ∀ id s o, owns P (gm (putRows I (rows'.map (renB P (back I))) st.m) id) s o ↔ owns P (gm st.m id) s o := fun id s o => by
    rw [hgm]
    split
    · rename_i hid
      rw [renB_alive.2]
      exact ⟨fun _ => (okB_alive (hok id hid)).2 s o, fun _ => (okB_alive (hok' _ (pos_lt hid))).2 s o⟩
    · rfl
  refine ⟨mono, fun t => mono (h.tmp t), h.nt, fun id => ?_, fun id b s e hs => ⟨(h.own id b s e hs).1, Nat.lt_of_lt_of_le (h.own id b s e hs).2 hb.size⟩, fun id b s et o e hs hm => ?_, fun id b s o e ho => h.dom id b s o e ((how id s o).1 ho),
    fun id id' b s s' e e' hs hs' ha ha' => h.inj _ _ _ _ _ e e' hs hs' (by rw [← hal]; exact ha) (by rw [← hal]; exact ha'), fun id b s e ho => h.nz id b s e fun o => (how id s o).1 (ho o), h.X, fun b o hd => Nat.lt_of_lt_of_le (h.lt b o hd) hb.size, ?_, ?_⟩
  rotate_left
  · have ha : id ∉ I := fun hid => by
      rw [hgm, if_pos hid] at hm
      have := hok' _ (pos_lt hid)
      cases hk : rows'.getD (pos I id) .dead <;> rw [hk] at hm this <;> simp [renB, okB] at hm this
    rw [hgm, if_neg ha] at hm
    exact h.fx id b s et o e hs hm
  rotate_left 2
  rotate_right 3
  · simp only [hgm]
    split
    · rename_i hid
      have hp := pos_lt hid
      exact (hrow _ hp).ren (fun j y hj e => (Rc_back (by simpa [Nat.blt_eq] using hj)).trans e) (fun y e => (Rc_pos hid).symm.trans e) (hok' _ hp)
    · rename_i hid
      cases ha : alive (gm st.m id) with
      | false =>
        have : gm st.m id = .dead := by
          revert ha
          cases gm st.m id <;> simp [alive]
        rw [this]; trivial
      | true =>
        refine (h.mem id).mono rfl (fun b s e hs => hb.block b (h.own id b s e hs).2 fun hr => ?_) fun _ _ => mono
        obtain ⟨id', s', hm, e', hs', _⟩ := hin b hr
        exact hid (h.inj _ _ _ _ _ e e' hs hs' ha (okB_alive (hok id' hm)).1 ▸ hm)
  · refine ⟨hb.os.trans h.old.os, hb.tape.trans h.old.tape, hb.output.trans h.old.output, Nat.le_trans h.old.size hb.size, fun k hk hY => (hb.block k (Nat.lt_of_lt_of_le hk h.old.size) fun hr => ?_).trans (h.old.block k hk hY)⟩
    obtain ⟨id', s', hm, e', hs', _⟩ := hin k hr
    rcases (h.own id' k s' e' hs').1 with g | g
    · omega
    · exact hY g.1
  · obtain ⟨ds, d1, d2, d3⟩ := h.df
    refine ⟨ds, d1, d2, fun b hb' => ⟨(hb.block b (Array.getElem?_eq_some_iff.1 (d3 b hb').1).1 fun hr => ?_).trans (d3 b hb').1, (d3 b hb').2⟩⟩
    obtain ⟨id', s', hm, e', hs', hd⟩ := hin b hr
    exact (d3 b hb').2.1 0 (hd 0)
def FW (ro : Option Nat) : Fence := { Fence.wide with round := ro }
theorem callsIn_FW {ro : Option Nat} {n : Nat} {f : FuncId} {args : Array Value} {Q : Ending → World → Prop} (h : Calls P f args w Q) : CallsIn (FW ro) n P f args w Q :=
  (callsIn_wide (n := n)).2 h
theorem calls_of_FW {ro : Option Nat} {n : Nat} {f : FuncId} {args : Array Value} {Q : Ending → World → Prop} (h : CallsIn (FW ro) n P f args w Q) : Calls P f args w Q :=
  (callsIn_wide (n := n)).1 h

variable {ro : Option Nat} {n : Nat} {o : Oper} {next : Act → World → Prop} {Q : Exit → Act → World → Prop}
theorem wpIn_value {v : Value} {w' : World} (hd : ∀ c, o.op ≠ .defer c) (h : (execOp a.eval o).run P w = .ok (.value v) w') (hn : next (a.put o.dst v) w') : o.wpIn (FW ro) n P a w next Q := by
  refine ⟨fun _ _ => trivial, ?_⟩
  rw [Oper.semAt_eq _ _ _ hd, h]
  exact hn
theorem wpIn_skip' {w' : World} (hd : ∀ c, o.op ≠ .defer c) (h : (execOp a.eval o).run P w = .ok .skip w') (hn : next (a.put o.dst undef) w') : o.wpIn (FW ro) n P a w next Q := by
  refine ⟨fun _ _ => trivial, ?_⟩
  rw [Oper.semAt_eq _ _ _ hd, h]
  exact hn
theorem wpIn_enter {f : FuncId} {args : Array Value} {w' : World} (hd : ∀ c, o.op ≠ .defer c) (h : (execOp a.eval o).run P w = .ok (.enter f args) w')
    {A : Ending → World → Prop} (hc : Calls P f args w' A) (hn : ∀ e w'', A e w'' → ∃ v, e = .returned v ∧ next (a.put o.dst v) w'') : o.wpIn (FW ro) n P a w next Q := by
  refine ⟨fun _ _ => trivial, ?_⟩
  rw [Oper.semAt_eq _ _ _ hd, h]
  refine ⟨fun h => by simp [FW, Fence.wide] at h, callsIn_FW (hc.mono ?_)⟩
  intro e w'' hA
  obtain ⟨v, rfl, hn⟩ := hn e w'' hA
  exact hn
end Go.Ev

set_option linter.unusedVariables false
set_option linter.unusedSimpArgs false
namespace Go.Ev
open Go Go.RowKit

variable {P : Program} {w0 : Base} {X D : Nat → Nat → Prop} {R : Nat → Option (Nat × Nat × Nat)} {st : St} {a : Act} {w : World}
variable {ro : Option Nat} {n : Nat} {o : Oper} {next : Act → World → Prop} {Q : Exit → Act → World → Prop} {ρ : Type} {K : Eff → Option ρ} {r : ρ} {site : Nat} {S : Spec} {RO : Nat → Bool}

structure Fr (R R' : Nat → Option (Nat × Nat × Nat)) (site : Nat) : Prop where
  R : ∀ id, id ≠ site → R' id = R id
theorem Fr.refl {R : Nat → Option (Nat × Nat × Nat)} {site : Nat} : Fr R R site := ⟨fun _ _ => rfl⟩
theorem Fr.new {R : Nat → Option (Nat × Nat × Nat)} {site B : Nat} {s : Nat × Nat} : Fr R (Rn R site B s) site := ⟨fun id hid => by simp [Rn, hid]⟩
def After (P : Program) (w0 : Base) (X D : Nat → Nat → Prop) (R : Nat → Option (Nat × Nat × Nat)) (st : St) (a : Act) (w : World) (o : Oper) (site : Nat) {ρ : Type} (K : Eff → Option ρ) (r : ρ) (next : Act → World → Prop) : Prop :=
  ∀ D' R' e v' w', SR P w0 X D' R' (st.app o.dst e) (a.put o.dst v') w' → Fr R R' site → K e = some r → next (a.put o.dst v') w'

theorem put_nx (d : Option Nat) (v : AV) : (st.put d v).nx = st.nx := by cases d <;> rfl
theorem put_nt (d : Option Nat) (v : AV) : (st.put d v).nt = st.nt := by cases d <;> rfl
theorem app_nx (d : Option Nat) (e : Eff) : (st.app d e).nx = st.nx := by
  unfold St.app; rw [put_nx]; split <;> rfl
theorem app_nt (d : Option Nat) (e : Eff) : (st.app d e).nt = st.nt := by
  unfold St.app; rw [put_nt]; split <;> rfl

theorem op_value (h : SR P w0 X D R st a w) (hb : ∀ x, o.dst = some x → x < st.nt) (hn : After P w0 X D R st a w o site K r next) {v : AV} {v' : Value} (hd : ∀ c, o.op ≠ .defer c)
    (hr : (execOp a.eval o).run P w = .ok (.value v') w) (hv : VR P D R w v v') (he : K ⟨v, none⟩ = some r) : o.wpIn (FW ro) n P a w next Q :=
  wpIn_value hd hr (hn D R ⟨v, none⟩ v' w (h.put hb hv) .refl he)

theorem inR_wrap (k : IntKind) (x : Int) : k.min ≤ k.wrap x ∧ k.wrap x ≤ k.max := by
  cases k <;> simp only [IntKind.min, IntKind.max, IntKind.wrap, IntKind.signed, IntKind.bits] <;> simp <;> (try split) <;> omega
theorem cond_some {α : Type} {c : Bool} {x : Option α} {r : α} (h : cond c x none = some r) : c = true ∧ x = some r := by
  cases c <;> simp_all
theorem tmod_in {k : IntKind} {x y : Int} (hx : k.min ≤ x ∧ x ≤ k.max) (hy : y ≠ 0) : k.min ≤ x.tmod y ∧ x.tmod y ≤ k.max := by
  have h1 : k.min ≤ 0 ∧ 0 ≤ k.max := by cases k <;> simp [IntKind.min, IntKind.max, IntKind.signed, IntKind.bits]
  have h2 := Int.natAbs_tmod x y
  have h3 : x.natAbs % y.natAbs ≤ x.natAbs := Nat.mod_le _ _
  rcases Int.le_total 0 x with h | h
  · have := Int.tmod_nonneg y h
    omega
  · have : x.tmod y ≤ 0 := by
      have e : x.tmod y = -((-x).tmod y) := by rw [Int.neg_tmod]; omega
      have := Int.tmod_nonneg y (show 0 ≤ -x by omega)
      omega
    omega

theorem binI_sound {op : BinOp} {k : IntKind} {x y : Int} {K : AV → Option ρ} (hx : k.min ≤ x ∧ x ≤ k.max) (h : binI op k x y K = some r) :
    ∃ v v', (∀ t, (Go.binOp op t (.int k x) (.int k y)).run P w = .ok v' w) ∧ VR P D R w v v' ∧ K v = some r := by
  cases op <;> simp only [binI] at h <;> first | (cases h; done) | skip
  case add => exact ⟨_, _, fun t => by simp [Go.binOp, Op.intArith], .i (inR_wrap k _).1 (inR_wrap k _).2, h⟩
  case sub => exact ⟨_, _, fun t => by simp [Go.binOp, Op.intArith], .i (inR_wrap k _).1 (inR_wrap k _).2, h⟩
  case mul => exact ⟨_, _, fun t => by simp [Go.binOp, Op.intArith], .i (inR_wrap k _).1 (inR_wrap k _).2, h⟩
  case quo =>
    cases hy : decide (y = 0) with
    | true => rw [hy] at h; cases h
    | false =>
      rw [hy] at h
      have hy' : ¬ y = 0 := by simpa using hy
      exact ⟨_, _, fun t => by simp [Go.binOp, Op.intDiv, hy'], .i (inR_wrap k _).1 (inR_wrap k _).2, h⟩
  case rem =>
    cases hy : decide (y = 0) with
    | true => rw [hy] at h; cases h
    | false =>
      rw [hy] at h
      have hy' : ¬ y = 0 := by simpa using hy
      exact ⟨_, _, fun t => by simp [Go.binOp, Op.intDiv, hy'], .i (tmod_in hx hy').1 (tmod_in hx hy').2, h⟩
  case and => exact ⟨_, _, fun t => by simp [Go.binOp, Op.intBits], .i (inR_wrap k _).1 (inR_wrap k _).2, h⟩
  case or => exact ⟨_, _, fun t => by simp [Go.binOp, Op.intBits], .i (inR_wrap k _).1 (inR_wrap k _).2, h⟩
  case xor => exact ⟨_, _, fun t => by simp [Go.binOp, Op.intBits], .i (inR_wrap k _).1 (inR_wrap k _).2, h⟩
  case andNot => exact ⟨_, _, fun t => by simp [Go.binOp, Op.intBits], .i (inR_wrap k _).1 (inR_wrap k _).2, h⟩
  all_goals exact ⟨_, _, fun t => by simp [Go.binOp, Op.intCmp], .b, h⟩
theorem fdiv_in {k : IntKind} {x : Int} (hx : k.min ≤ x ∧ x ≤ k.max) (n : Nat) : k.min ≤ x.fdiv (2 ^ n) ∧ x.fdiv (2 ^ n) ≤ k.max := by
  have h1 : k.min ≤ 0 ∧ 0 ≤ k.max := by cases k <;> simp [IntKind.min, IntKind.max, IntKind.signed, IntKind.bits]
  have hp : (0 : Int) < 2 ^ n := Int.pow_pos (by omega)
  rw [Int.fdiv_eq_ediv_of_nonneg _ (by omega)]
  have h2 : x / 2 ^ n * 2 ^ n ≤ x := Int.ediv_mul_le _ (by omega)
  have h3 : x < (x / 2 ^ n + 1) * 2 ^ n := Int.lt_ediv_add_one_mul_self _ hp
  rcases Int.le_total 0 x with h | h
  · have h4 : 0 ≤ x / 2 ^ n := Int.ediv_nonneg h (by omega)
    have h5 : x / 2 ^ n ≤ x := Int.ediv_le_self _ h
    omega
  · have h4 : x / 2 ^ n ≤ 0 := by
      by_cases h' : 0 < x / 2 ^ n
      · have : 0 < x / 2 ^ n * 2 ^ n := Int.mul_pos h' hp
        omega
      · omega
    have h5 : x ≤ x / 2 ^ n := by
      by_cases h' : x / 2 ^ n < x
      · have e : (x / 2 ^ n + 1) * 2 ^ n ≤ (x / 2 ^ n + 1) * 1 ∨ 0 < x / 2 ^ n + 1 := by
          by_cases g : 0 < x / 2 ^ n + 1
          · exact .inr g
          · left
            exact Int.mul_le_mul_of_nonpos_left (by omega) (by omega)
        rcases e with e | e <;> omega
      · omega
    omega
theorem binH_sound {op : BinOp} {k k' : IntKind} {x y : Int} {K : AV → Option ρ} (hx : k.min ≤ x ∧ x ≤ k.max) (h : binH op k x y K = some r) :
    ∃ v v', (∀ t, (Go.binOp op t (.int k x) (.int k' y)).run P w = .ok v' w) ∧ VR P D R w v v' ∧ K v = some r := by
  cases op <;> simp only [binH] at h <;> first | (cases h; done) | skip
  case shl =>
    obtain ⟨h1, h2⟩ := cond_some h
    have h1 : ¬ y < 0 := by have := of_decide_eq_true h1; omega
    exact ⟨_, _, fun t => by simp [Go.binOp, Op.shift, h1], .i (inR_wrap k _).1 (inR_wrap k _).2, h2⟩
  case shr =>
    obtain ⟨h1, h2⟩ := cond_some h
    have h1 : ¬ y < 0 := by have := of_decide_eq_true h1; omega
    exact ⟨_, _, fun t => by simp [Go.binOp, Op.shift, h1], .i (fdiv_in hx _).1 (fdiv_in hx _).2, h2⟩

theorem binS_sound {op : BinOp} {x y : ByteArray} {K : AV → Option ρ} (h : binS op x y K = some r) :
    ∃ v v', (∀ t, (Go.binOp op t (.string x) (.string y)).run P w = .ok v' w) ∧ VR P D R w v v' ∧ K v = some r := by
  cases op <;> simp only [binS] at h <;> first | (cases h; done) | skip
  case add =>
    obtain ⟨h1, h2⟩ := cond_some h
    have h1 : x.size + y.size ≤ 140737488355328 := of_decide_eq_true h1
    refine ⟨_, _, fun t => ?_, .s (x := x ++ y) (by simp; omega), h2⟩
    simp [Go.binOp, Op.stringOp, IntKind.max, IntKind.signed, IntKind.bits]
    omega
  all_goals exact ⟨_, _, fun t => by simp [Go.binOp, Op.stringOp], .b, h⟩

theorem run_sizeOf_of {t : TypeId} {d : TypeDesc} (h : P.underlying t = some d) (w : World) : (sizeOf t).run P w = .ok (P.cellsOf t) w := by
  unfold Program.underlying at h
  cases hi : P.info? t with
  | none => simp [hi] at h
  | some i => simp [sizeOf, typeInfo, hi, Program.cellsOf]
theorem partV_sound {t : TypeId} {cs : List AV} {cv : Array Value} {off : Nat} {x : AV} (hs : cv.size = cs.length) (hv : ∀ k, k < cs.length → VR P D R w (cs.getD k .u) (cv.getD k undef)) (h : partV P t cs off = some x) :
    ∃ v, (part t cv off).run P w = .ok v w ∧ VR P D R w x v := by
  unfold partV at h
  cases hu : P.underlying t with
  | none => rw [hu] at h; cases h
  | some d =>
    rw [hu] at h
    simp only at h
    simp only [part, Sem.run_bind, run_isAgg' hu, Result.andThen_ok]
    cases hA : isAgg P t with
    | true =>
      rw [hA] at h
      simp only [cond_true, Option.some.injEq] at h
      subst h
      refine ⟨.agg (cv.extract off (off + P.cellsOf t)), by simp [run_sizeOf_of hu], .agg ?_ fun k hk => ?_⟩
      · simp [hs]; omega
      · simp only [List.length_take, List.length_drop] at hk
        have h1 : off + k < cs.length := by omega
        have := hv (off + k) h1
        have h2 : off + k < cv.size := by omega
        simpa [List.getD_eq_getElem?_getD, Array.getD_eq_getD_getElem?, List.getElem?_take, show k < P.cellsOf t by omega, Array.getElem?_extract, show k < min (off + P.cellsOf t) cv.size - off by omega, h1, h2] using this
    | false =>
      rw [hA] at h
      simp only [cond_false] at h
      have hlt : off < cs.length := (List.getElem?_eq_some_iff.1 h).1
      have h2 : off < cv.size := by omega
      refine ⟨cv[off], by simp [h2], ?_⟩
      have := hv off hlt
      simpa [List.getD_eq_getElem?_getD, Array.getD_eq_getD_getElem?, h, h2] using this

theorem eqFs_sound {d : Nat} {ev : TypeId → AV → AV → Option Bool} {xs ys : List AV} {xv yv : Array Value}
    (hev : ∀ t x y b v u, ev t x y = some b → VR P D R w x v → VR P D R w y u → (Op.equalIn d t v u).run P w = .ok b w)
    (hx : xv.size = xs.length) (hxv : ∀ k, k < xs.length → VR P D R w (xs.getD k .u) (xv.getD k undef))
    (hy : yv.size = ys.length) (hyv : ∀ k, k < ys.length → VR P D R w (ys.getD k .u) (yv.getD k undef)) :
    ∀ {fs : List Field} {b : Bool}, eqFs P ev xs ys fs = some b → (Op.eqFields d xv yv fs).run P w = .ok b w
  | [], b, h => by
    simp only [eqFs, Option.some.injEq] at h
    subst h
    simp [Op.eqFields]
  | f :: fs, b, h => by
    simp only [eqFs] at h
    obtain ⟨hn, h⟩ := cond_some h
    have hn' : f.name ≠ "_" := by simpa using hn
    cases h1 : partV P f.type xs f.offset with
    | none => simp [h1] at h
    | some x =>
      cases h2 : partV P f.type ys f.offset with
      | none => simp [h1, h2] at h
      | some y =>
        simp only [h1, h2] at h
        obtain ⟨v, r1, v1⟩ := partV_sound hx hxv h1
        obtain ⟨u, r2, v2⟩ := partV_sound hy hyv h2
        cases he : ev f.type x y with
        | none => simp [he] at h
        | some r =>
          have r3 := hev _ _ _ _ _ _ he v1 v2
          rw [Op.eqFields, if_pos hn']
          simp only [Sem.run_bind, r1, r2, r3, Result.andThen_ok]
          cases fs with
          | nil =>
            simp only [he, Option.some.injEq] at h
            subst h
            cases r <;> simp [Op.eqFields]
          | cons g gs =>
            cases hs : eqFs P ev xs ys (g :: gs) with
            | none => simp [he, hs] at h
            | some s =>
              simp only [he, hs, Option.some.injEq] at h
              subst h
              have ih := eqFs_sound hev hx hxv hy hyv hs
              cases r
              · simp
              · simpa using ih

theorem eqEs_sound {d : Nat} {ev : TypeId → AV → AV → Option Bool} {e : TypeId} {xs ys : List AV} {xv yv : Array Value}
    (hev : ∀ t x y b v u, ev t x y = some b → VR P D R w x v → VR P D R w y u → (Op.equalIn d t v u).run P w = .ok b w)
    (hx : xv.size = xs.length) (hxv : ∀ k, k < xs.length → VR P D R w (xs.getD k .u) (xv.getD k undef))
    (hy : yv.size = ys.length) (hyv : ∀ k, k < ys.length → VR P D R w (ys.getD k .u) (yv.getD k undef)) :
    ∀ {is : List Nat} {b : Bool}, eqEs P ev e xs ys (P.cellsOf e) is = some b → (Op.eqItems d e (P.cellsOf e) xv yv is).run P w = .ok b w
  | [], b, h => by
    simp only [eqEs, Option.some.injEq] at h
    subst h
    simp [Op.eqItems]
  | i :: is, b, h => by
    simp only [eqEs] at h
    cases h1 : partV P e xs (i * P.cellsOf e) with
    | none => simp [h1] at h
    | some x =>
      cases h2 : partV P e ys (i * P.cellsOf e) with
      | none => simp [h1, h2] at h
      | some y =>
        simp only [h1, h2] at h
        obtain ⟨v, r1, v1⟩ := partV_sound hx hxv h1
        obtain ⟨u, r2, v2⟩ := partV_sound hy hyv h2
        cases he : ev e x y with
        | none => simp [he] at h
        | some r =>
          have r3 := hev _ _ _ _ _ _ he v1 v2
          simp only [Op.eqItems, Sem.run_bind, r1, r2, r3, Result.andThen_ok]
          cases is with
          | nil =>
            simp only [he, Option.some.injEq] at h
            subst h
            cases r <;> simp [Op.eqItems]
          | cons g gs =>
            cases hs : eqEs P ev e xs ys (P.cellsOf e) (g :: gs) with
            | none => simp [he, hs] at h
            | some s =>
              simp only [he, hs, Option.some.injEq] at h
              subst h
              have ih := eqEs_sound hev hx hxv hy hyv hs
              cases r
              · simp
              · simpa using ih
theorem eqV_sound : ∀ {d : Nat} {t : TypeId} {x y : AV} {b : Bool} {v u : Value} {d' : Nat}, d ≤ d' → eqV P d t x y = some b → VR P D R w x v → VR P D R w y u → (Op.equalIn d' t v u).run P w = .ok b w
  | 0, _, _, _, _, _, _, _, _, h, _, _ => by simp [eqV] at h
  | d + 1, t, x, y, b, v, u, 0, hd, _, _, _ => by omega
  | d + 1, t, x, y, b, v, u, d' + 1, hd, h, hx, hy => by
    simp only [eqV] at h
    split at h
    · rename_i hu
      cases h; cases hx; cases hy
      exact run_equalIn_bool' w d' t _ _ hu
    · rename_i hu
      obtain ⟨hk, h⟩ := cond_some h
      cases h
      obtain ⟨rfl, _⟩ := hx.int_inv
      obtain ⟨rfl, _⟩ := hy.int_inv
      have := of_decide_eq_true hk
      subst this
      exact run_equalIn_int w d' t _ _ _ _ hu
    · rename_i hu
      cases h
      obtain ⟨rfl, _⟩ := hx.str_inv
      obtain ⟨rfl, _⟩ := hy.str_inv
      exact run_equalIn_string w d' t _ _ hu
    · rename_i fs xs ys hu
      obtain ⟨hp, h⟩ := cond_some h
      obtain ⟨xv, rfl, h1, h2⟩ := hx.agg_inv
      obtain ⟨yv, rfl, h3, h4⟩ := hy.agg_inv
      have hf : P.fieldsOf t = fs := by simp [Program.fieldsOf, hu]
      rw [run_equalIn_struct (P := P) w d' t xv yv (by rw [hf]; exact hu) (by simpa using hp), hf]
      exact eqFs_sound (fun t x y b v u h hx hy => eqV_sound (by omega) h hx hy) h1 h2 h3 h4 h
    · rename_i n e xs ys hu
      obtain ⟨xv, rfl, h1, h2⟩ := hx.agg_inv
      obtain ⟨yv, rfl, h3, h4⟩ := hy.agg_inv
      obtain ⟨hi, h⟩ := cond_some h
      obtain ⟨i, hi⟩ := Option.isSome_iff_exists.1 hi
      rw [run_equalIn_array (P := P) w d' xv yv hu hi]
      exact eqEs_sound (fun t x y b v u h hx hy => eqV_sound (by omega) h hx hy) h1 h2 h3 h4 h
    · cases h
end Go.Ev

set_option linter.unusedVariables false
set_option linter.unusedSimpArgs false
namespace Go.Ev
open Go Go.RowKit

variable {P : Program} {w0 : Base} {X D : Nat → Nat → Prop} {R : Nat → Option (Nat × Nat × Nat)} {st : St} {a : Act} {w : World}
variable {ro : Option Nat} {n : Nat} {o : Oper} {next : Act → World → Prop} {Q : Exit → Act → World → Prop} {ρ : Type} {K : Eff → Option ρ} {r : ρ} {site : Nat} {S : Spec} {RO : Nat → Bool}

theorem run_asBool {x : Bool} : (asBool (.bool x)).run P w = .ok x w := rfl

theorem best_sound {mx : Bool} : ∀ {l : List AV} {x v : AV} {lv : List Value} {xv : Value}, best (if mx then bmax else bmin) x l = some v → VR P D R w x xv → lv.length = l.length →
    (∀ k, k < l.length → VR P D R w (l.getD k .u) (lv.getD k undef)) → ∃ u, (lv.foldlM (if mx then Builtin.max2 else Builtin.min2) xv).run P w = .ok u w ∧ VR P D R w v u
  | [], x, v, lv, xv, h, hx, hl, _ => by
    obtain rfl : lv = [] := by simpa using hl
    cases x <;> simp only [best] at h <;> first | (cases h; done) | skip
    cases h
    exact ⟨xv, by simp [List.foldlM], hx⟩
  | y :: l, x, v, lv, xv, h, hx, hl, hv => by
    match lv, hl with
    | yv :: lv, hl =>
      have hy := hv 0 (by simp)
      simp only [List.getD_cons_zero] at hy
      cases x with
      | i k p =>
        cases y with
        | i k' q =>
          simp only [best] at h
          obtain ⟨hk, h2⟩ := cond_some h
          have := of_decide_eq_true hk
          subst this
          obtain ⟨rfl, p1, p2⟩ := hx.int_inv
          obtain ⟨rfl, q1, q2⟩ := hy.int_inv
          have hbnd : VR P D R w (.i k ((if mx then bmax else bmin) p q)) (.int k ((if mx then bmax else bmin) p q)) := by
            cases mx <;> simp only [bmax, bmin, if_true, if_false, Bool.false_eq_true] <;> split <;> exact .i (by assumption) (by assumption)
          obtain ⟨u, g1, g2⟩ := best_sound (mx := mx) (lv := lv) h2 hbnd (by simpa using hl) (fun j hj => by simpa using hv (j + 1) (by simpa using hj))
          refine ⟨u, ?_, g2⟩
          simp only [List.foldlM, Sem.run_bind]
          cases mx
          · simpa [Builtin.min2, bmin] using g1
          · simpa [Builtin.max2, bmax] using g1
        | _ => simp [best] at h
      | _ => cases y <;> simp [best] at h

theorem getD_map {α β : Type} (f : α → β) (l : List α) (k : Nat) (d : α) (d' : β) (h : k < l.length) : (l.map f).getD k d' = f (l.getD k d) := by
  simp [List.getD_eq_getElem?_getD, h]

theorem args_at (h : SR P w0 X D R st a w) (l : List Operand) : ∀ k, k < (l.map (val st)).length → VR P D R w ((l.map (val st)).getD k .u) ((l.map a.eval).getD k undef) := by
  intro k hk
  simp only [List.length_map] at hk
  rw [getD_map _ _ _ (.const Go.undef) _ hk, getD_map _ _ _ (.const Go.undef) _ hk]
  exact h.val _
theorem fitArgs_length : ∀ (ts : List TypeId) (l : List AV), (fitArgs P ts l).length = l.length
  | [], _ => rfl
  | _ :: _, [] => rfl
  | t :: ts, v :: vs => by simp [fitArgs, fitArgs_length ts vs]
theorem fitArgs_at : ∀ (ts : List TypeId) (l : List AV) (lv : List Value), (∀ k, k < l.length → VR P D R w (l.getD k .u) (lv.getD k undef)) → ∀ k, k < l.length → VR P D R w ((fitArgs P ts l).getD k .u) (lv.getD k undef)
  | [], _, _, h => h
  | _ :: _, [], _, h => h
  | t :: ts, v :: vs, lv, h => by
    intro k hk
    cases k with
    | zero => simpa [fitArgs] using VR_fitA t (by simpa using h 0 (by simp))
    | succ k =>
      have := fitArgs_at ts vs lv.tail (fun j hj => by
        have := h (j + 1) (by simpa using hj)
        cases lv <;> simpa using this) k (by simpa using hk)
      cases lv <;> simpa [fitArgs] using this

theorem fresh_sound (h : SR P w0 X D R st a w) (hf : R site = none) (hb : ∀ x, o.dst = some x → x < st.nt) (hn : After P w0 X D R st a w o site K r next) (hd : ∀ c, o.op ≠ .defer c)
    {t : TypeId} {cs : List AV} {cv : Array Value} (hW : WTs P (cts P t) cs) (hs : cv.size = cs.length) (hv : ∀ k, k < cs.length → VR P D R w (cs.getD k .u) (cv.getD k undef))
    (hr : (execOp a.eval o).run P w = .ok (.value (.pointer (some ⟨w.heap.size, 0, none⟩))) (w.alloc (.cells cv t)))
    (he : fresh P RO site o.dst t cs K = some r) : o.wpIn (FW ro) n P a w next Q := by
  unfold fresh at he
  obtain ⟨ho, he⟩ := cond_some he
  obtain ⟨h1, h2, _⟩ := okT_spec ho
  have hl : cs.length = P.cellsOf t := by rw [hW.1, h1]
  cases hro : (o.dst.map RO).getD false with
  | true =>
    rw [hro] at he
    have h' := h.world (below_alloc' w (.cells cv t))
    have hp := VR_new_rp (P := P) (R := R) (t := t) h.lt hs (by omega) hW hv
    exact wpIn_value hd hr (hn D R ⟨_, none⟩ _ _ (h'.put hb hp) .refl he)
  | false =>
    rw [hro] at he
    have h' := h.fresh (t := t) (es := [cs]) (cv := cv) hf h1 h2 (by simp [hs, hl]) (.sl (by simp) (fun x hx => by
      obtain rfl := List.mem_singleton.1 hx
      exact hW.1) (fun x hx j hj => by
      obtain rfl := List.mem_singleton.1 hx
      exact hW.2 j hj)) (fun i j hi hj => by
      have : i = 0 := by simpa using hi
      subst this
      have hj' : j < cs.length := by omega
      refine ⟨cv.getD j Go.undef, ?_, by simpa using hv j hj'⟩
      have : j < cv.size := by omega
      simp [Array.getD_eq_getD_getElem?, this])
    have hp : VR P (Dn P D w.heap.size (P.cellsOf t, 0) (.row t [cs])) (Rn R site w.heap.size (P.cellsOf t, 0)) (w.alloc (.cells cv t)) (.p site 0 0) (.pointer (some ⟨w.heap.size, 0, none⟩)) := by
      have : VR P (Dn P D w.heap.size (P.cellsOf t, 0) (.row t [cs])) (Rn R site w.heap.size (P.cellsOf t, 0)) (w.alloc (.cells cv t)) (.p site 0 0) (.pointer (some ⟨w.heap.size, 0 * P.cellsOf t + 0, none⟩)) := .p (by simp [Rn])
      simpa using this
    exact wpIn_value hd hr (hn _ _ ⟨_, some (site, .row t [cs])⟩ _ _ (h'.put hb hp) .new he)

theorem freshL_sound (h : SR P w0 X D R st a w) (hf : R site = none) (hb : ∀ x, o.dst = some x → x < st.nt) (hn : After P w0 X D R st a w o site K r next) (hd : ∀ c, o.op ≠ .defer c)
    {t : TypeId} {cs : List AV} {cv : Array Value} (hs : cv.size = cs.length) (hv : ∀ k, k < cs.length → VR P D R w (cs.getD k .u) (cv.getD k undef))
    (hr : (execOp a.eval o).run P w = .ok (.value (.pointer (some ⟨w.heap.size, 0, none⟩))) (w.alloc (.cells cv t)))
    (he : freshL P RO site o.dst t cs K = some r) : o.wpIn (FW ro) n P a w next Q := by
  unfold freshL at he
  obtain ⟨ho, he⟩ := cond_some he
  obtain ⟨ho, hle⟩ := Bool.and_eq_true_iff.1 ho
  have hle := Nat.eq_of_beq_eq_true hle
  obtain ⟨h1, h2, _⟩ := okT_spec ho
  have hl : cs.length = P.cellsOf t := by rw [hle, h1]
  cases hro : (o.dst.map RO).getD false with
  | true =>
    rw [hro] at he
    cases he
  | false =>
    rw [hro] at he
    have h' := h.freshL (t := t) (es := [cs]) (cv := cv) hf h1 h2 (by simp [hs, hl]) (fun x hx => by
      obtain rfl := List.mem_singleton.1 hx
      exact hle) (fun i j hi hj => by
      have : i = 0 := by simpa using hi
      subst this
      have hj' : j < cs.length := by omega
      refine ⟨cv.getD j Go.undef, ?_, by simpa using hv j hj'⟩
      have : j < cv.size := by omega
      simp [Array.getD_eq_getD_getElem?, this])
    have hp : VR P (Dn P D w.heap.size (P.cellsOf t, 0) (.lrow t [cs])) (Rn R site w.heap.size (P.cellsOf t, 0)) (w.alloc (.cells cv t)) (.p site 0 0) (.pointer (some ⟨w.heap.size, 0, none⟩)) := by
      have : VR P (Dn P D w.heap.size (P.cellsOf t, 0) (.lrow t [cs])) (Rn R site w.heap.size (P.cellsOf t, 0)) (w.alloc (.cells cv t)) (.p site 0 0) (.pointer (some ⟨w.heap.size, 0 * P.cellsOf t + 0, none⟩)) := .p (by simp [Rn])
      simpa using this
    exact wpIn_value hd hr (hn _ _ ⟨_, some (site, .lrow t [cs])⟩ _ _ (h'.put hb hp) .new he)

theorem zeroOf_sound {t : TypeId} {cs : List AV} (h : zeroOf P t = some cs) : ∃ i z, P.info? t = some i ∧ i.zero = some z ∧ WTs P (cts P t) cs ∧ z.cells.size = cs.length ∧ ∀ k, k < cs.length → VR P D R w (cs.getD k .u) (z.cells.getD k undef) := by
  unfold zeroOf at h
  cases hi : P.info? t with
  | none => simp [hi] at h
  | some i =>
    cases hz : i.zero with
    | none => simp [hi, hz] at h
    | some z =>
      simp only [hi, Option.bind_some, hz] at h
      obtain ⟨g1, g2, g3, _⟩ := fitCs_sound (P := P) (D := D) (R := R) (w := w) (cv := z.cells.toList) h (by simp) (fun k hk => by
        simp only [List.length_map] at hk
        rw [getD_map _ _ _ Go.undef _ hk]
        exact VR_ofC _)
      refine ⟨i, z, rfl, hz, g1, by simpa using g2.symm, fun k hk => ?_⟩
      have := g3 k hk
      simpa [Array.getD_eq_getD_getElem?, List.getD_eq_getElem?_getD] using this
theorem zeroK_sound {k : Bool} {t : TypeId} {cs : List AV} (h : zeroK P k t = some cs) : ∃ i z, P.info? t = some i ∧ i.zero = some z ∧ True ∧ z.cells.size = cs.length ∧ ∀ k, k < cs.length → VR P D R w (cs.getD k .u) (z.cells.getD k undef) := by
  cases k with
  | true =>
    obtain ⟨i, z, h1, h2, _, h4⟩ := zeroOf_sound (D := D) (R := R) (w := w) (show zeroOf P t = some cs from h)
    exact ⟨i, z, h1, h2, trivial, h4⟩
  | false =>
  simp only [zeroK, cond_false] at h
  cases hi : P.info? t with
  | none => simp [hi] at h
  | some i =>
    cases hz : i.zero with
    | none => simp [hi, hz] at h
    | some z =>
      simp only [hi, Option.bind_some, hz] at h
      obtain ⟨_, g2, g3, _⟩ := fitOs_sound (P := P) (D := D) (R := R) (w := w) (cv := z.cells.toList) h (by simp) (fun k hk => by
        simp only [List.length_map] at hk
        rw [getD_map _ _ _ Go.undef _ hk]
        exact VR_ofC _)
      refine ⟨i, z, rfl, hz, trivial, by simpa using g2.symm, fun k hk => ?_⟩
      have := g3 k hk
      simpa [Array.getD_eq_getD_getElem?, List.getD_eq_getElem?_getD] using this
end Go.Ev

set_option linter.unusedVariables false
set_option linter.unusedSimpArgs false
namespace Go.Ev
open Go Go.RowKit

variable {P : Program} {w0 : Base} {X D : Nat → Nat → Prop} {R : Nat → Option (Nat × Nat × Nat)} {st : St} {a : Act} {w : World}
variable {ro : Option Nat} {n : Nat} {o : Oper} {next : Act → World → Prop} {Q : Exit → Act → World → Prop} {ρ : Type} {K : Eff → Option ρ} {r : ρ} {site : Nat} {S : Spec} {RO : Nat → Bool}

theorem inb_spec {x : Int} {len : Nat} (h : inb x len = true) : 0 ≤ x ∧ x < (len : Int) ∧ x.toNat < len := by
  unfold inb at h
  simp only [Bool.and_eq_true, decide_eq_true_eq] at h
  omega

theorem eqGuard_int (op : BinOp) (t : TypeId) (ox oy : Operand) (k k' : IntKind) (x y : Int) : (eqGuard op t ox oy (.int k x) (.int k' y) : Sem Unit).run P w = .ok () w := by cases op <;> simp [eqGuard]
theorem eqGuard_str (op : BinOp) (t : TypeId) (ox oy : Operand) (x y : ByteArray) : (eqGuard op t ox oy (.string x) (.string y) : Sem Unit).run P w = .ok () w := by cases op <;> simp [eqGuard]
theorem run_equalIn_slice {t e : TypeId} {a : Option Addr} {l c : Nat} (d : Nat) (w : World) (hu : P.underlying t = some (.slice e)) : (Op.equalIn (d + 1) t (.slice a l c) (.slice none 0 0)).run P w = .ok a.isNone w := by
  cases a <;> simp [Op.equalIn, run_underlying' hu]
theorem binN_sound {op : BinOp} {t : TypeId} {b : Bool} {a : Option Addr} {l c : Nat} {ox oy : Operand} {K : AV → Option ρ} (ha : a.isNone = b) (h : binN P op t b K = some r) :
    ∃ v v', (do eqGuard op t ox oy (.slice a l c) (.slice none 0 0); Go.binOp op t (.slice a l c) (.slice none 0 0) : Sem Value).run P w = .ok v' w ∧ VR P D R w v v' ∧ K v = some r := by
  unfold binN at h
  split at h
  · rename_i e hu
    refine ⟨_, _, ?_, .b, h⟩
    subst ha; simp [eqGuard, Go.binOp, Op.equal, Op.maxDepth, run_equalIn_slice 9999 w hu]
  · rename_i e hu
    refine ⟨_, _, ?_, .b, h⟩
    subst ha; simp [eqGuard, Go.binOp, Op.equal, Op.maxDepth, run_equalIn_slice 9999 w hu]
  · cases h
theorem bin_sound {op : BinOp} {t : TypeId} {x y : AV} {xv yv : Value} {ox oy : Operand} {K : AV → Option ρ} (hx : VR P D R w x xv) (hy : VR P D R w y yv) (h : bin P op t x y K = some r) :
    ∃ v v', (do eqGuard op t ox oy xv yv; Go.binOp op t xv yv : Sem Value).run P w = .ok v' w ∧ VR P D R w v v' ∧ K v = some r := by
  unfold bin at h
  split at h
  · rename_i k p k' q
    obtain ⟨rfl, hb⟩ := hx.int_inv
    obtain ⟨rfl, _⟩ := hy.int_inv
    cases hsh : isShift op with
    | true =>
      rw [hsh] at h
      obtain ⟨v, v', h1, h2, h3⟩ := binH_sound (P := P) (D := D) (R := R) (w := w) (k' := k') hb h
      refine ⟨v, v', ?_, h2, h3⟩
      simp only [Sem.run_bind, eqGuard_int, Result.andThen_ok, h1]
    | false =>
    rw [hsh] at h
    obtain ⟨hk, h9⟩ := cond_some h
    have := of_decide_eq_true hk
    subst this
    obtain ⟨v, v', h1, h2, h3⟩ := binI_sound (P := P) (D := D) (R := R) (w := w) hb h9
    refine ⟨v, v', ?_, h2, h3⟩
    simp only [Sem.run_bind, eqGuard_int, Result.andThen_ok, h1]
  · obtain ⟨rfl, _⟩ := hx.str_inv
    obtain ⟨rfl, _⟩ := hy.str_inv
    obtain ⟨v, v', h1, h2, h3⟩ := binS_sound (P := P) (D := D) (R := R) (w := w) h
    refine ⟨v, v', ?_, h2, h3⟩
    simp only [Sem.run_bind, eqGuard_str, Result.andThen_ok, h1]
  · obtain rfl := hx.bool_inv
    obtain rfl := hy.bool_inv
    split at h
    · rename_i hu
      refine ⟨_, _, ?_, .b, h⟩
      simp [eqGuard, Go.binOp, Op.equal, Op.maxDepth, run_equalIn_bool' w 9999 t _ _ hu]
    · rename_i hu
      refine ⟨_, _, ?_, .b, h⟩
      simp [eqGuard, Go.binOp, Op.equal, Op.maxDepth, run_equalIn_bool' w 9999 t _ _ hu]
    · cases h
  · rename_i xs ys
    obtain ⟨xv', rfl, h1, h2⟩ := hx.agg_inv
    obtain ⟨yv', rfl, h3, h4⟩ := hy.agg_inv
    cases he : eqV P 16 t (.agg xs) (.agg ys) with
    | none => rw [he] at h; cases op <;> simp at h
    | some b =>
      rw [he] at h
      have hr := eqV_sound (P := P) (D := D) (R := R) (w := w) (d' := 10000) (by omega) he hx hy
      cases op <;> simp only at h <;> first | (cases h; done) | skip
      · obtain ⟨hg, h⟩ := cond_some h
        have hg := run_eqGuard_agg w .eql t ox oy xv' yv' (by simpa using hg)
        exact ⟨_, _, by simp only [Sem.run_bind, hg, Result.andThen_ok, run_eql_struct, hr], .b, h⟩
      · obtain ⟨hg, h⟩ := cond_some h
        have hg := run_eqGuard_agg w .neq t ox oy xv' yv' (by simpa using hg)
        exact ⟨_, _, by simp only [Sem.run_bind, hg, Result.andThen_ok, run_neq_struct, hr], .b, h⟩
  · cases hy
    cases hx with
    | rs => exact binN_sound rfl h
  · cases hy
    cases hx
    exact binN_sound rfl h
  · cases hy
    cases hx
    exact binN_sound rfl h
  · cases h

theorem VR.rs_row {e : TypeId} {es : List (List AV)} {v : Value} (h : VR P D R w (.rs e es) v) {i : Nat} (hi : i < es.length) :
    ∃ b o c, v = .slice (some ⟨b, o, none⟩) es.length c ∧ 0 < P.cellsOf e ∧ VR P D R w (.rp (cts P e) (es.getD i []) 0) (.pointer (some ⟨b, o + i * P.cellsOf e, none⟩)) := by
  cases h with
  | rs0 => simp at hi
  | @rs e es b o c f h1 hz h2 h3 h4 h5 h6 h7 =>
    obtain ⟨g1, g2, g3⟩ : es.length ≤ 9223372036854775807 ∧ (∀ x, x ∈ es → x.length = (cts P e).length) ∧ (∀ x, x ∈ es → ∀ j, j < x.length → WT P ((cts P e).getD j .oth) (x.getD j .u)) := by
      cases h5 with
      | sl a b c => exact ⟨a, b, c⟩
    have hx : es.getD i [] ∈ es := by simp [List.getD_eq_getElem?_getD, List.getElem?_eq_getElem hi]
    have hl : (es.getD i []).length = P.cellsOf e := by rw [g2 _ hx, h3]
    refine ⟨b, o, c, rfl, hz, ?_⟩
    have : VR P D R w (.rp (cts P e) (es.getD i []) 0) (.pointer (some ⟨b, (o + i * P.cellsOf e) + 0, none⟩)) :=
      .rp (f := f i) (fun k hk => by rw [Nat.add_assoc]; exact h4 i k hi (by omega)) (by omega) ⟨g2 _ hx, g3 _ hx⟩ (fun k hk => by rw [Nat.add_assoc]; exact h6 i k hi (by omega)) (fun k hk => h7 i k hi (by omega))
    simpa using this
theorem VR.gv_rs {id : Nat} {e : TypeId} {es : List (List AV)} {v : Value} (h : VR P D R w (.gv id e es) v) : VR P D R w (.rs e es) v := by
  cases h with
  | gv h1 hz h2 h3 h4 h5 h6 h7 h8 => exact .rs h1 hz h2 h3 h4 h5 h6 h7
  | gv0 => exact .rs0 fun _ => rfl

theorem run_indexAt_slice {t e : TypeId} {k : IntKind} {x : Int} {ad : Addr} {len c : Nat} (hu : P.underlying t = some (.slice e)) (h0 : 0 ≤ x) (h1 : x < (len : Int)) (hz : 0 < P.cellsOf e) :
    (Instr.indexAt t (.slice (some ad) len c) (.int k x)).run P w = .ok (.pointer (some (ad.add (x.toNat * P.cellsOf e)))) w := by
  simp [Instr.indexAt, asIntOf, run_underlying' hu, run_sizeOf' hz, h0, h1]

theorem run_fieldPlace {f : Field} {b o : Nat} (hz : 0 < P.cellsOf f.type) : (fieldPlace ⟨b, o, none⟩ f).run P w = .ok ⟨b, o + f.offset, none⟩ w := by
  have : ¬ P.cellsOf f.type = 0 := by omega
  simp [fieldPlace, run_sizeOf' hz, this, add_plain']

theorem run_alloc' {t : TypeId} {i : TypeInfo} {z : Value} (h1 : P.info? t = some i) (h2 : i.zero = some z) :
    (Instr.alloc t true (.tuple #[])).run P w = .ok (.pointer (some ⟨w.heap.size, 0, none⟩)) (w.alloc (.cells z.cells t)) := by
  simp [Instr.alloc, zeroValue, typeInfo, h1, h2, newVar, newRow, newObj, Sem.run]
theorem run_box' {t : TypeId} {v : Value} : (Instr.box t v).run P w = .ok (.pointer (some ⟨w.heap.size, 0, none⟩)) (w.alloc (.cells v.cells t)) := by
  simp [Instr.box, newVar, newRow, newObj, Sem.run]

theorem foldl_set (off : Nat) : ∀ (l : List Value) (j0 : Nat) (arr : Array Value), off + j0 + l.length ≤ arr.size →
    ((l.zipIdx j0).foldl (fun cs (x : Value × Nat) => cs.setIfInBounds (off + x.2) x.1) arr).size = arr.size ∧
    ∀ k, ((l.zipIdx j0).foldl (fun cs (x : Value × Nat) => cs.setIfInBounds (off + x.2) x.1) arr).getD k undef = if off + j0 ≤ k ∧ k < off + j0 + l.length then l.getD (k - (off + j0)) undef else arr.getD k undef
  | [], j0, arr, _ => ⟨by simp, fun k => by
    have : ¬ (off + j0 ≤ k ∧ k < off + j0) := by omega
    simp [this]⟩
  | v :: l, j0, arr, h => by
    simp only [List.length_cons] at h
    obtain ⟨h1, h2⟩ := foldl_set off l (j0 + 1) (arr.setIfInBounds (off + j0) v) (by simp; omega)
    simp only [List.zipIdx_cons, List.foldl_cons]
    refine ⟨by rw [h1]; simp, fun k => ?_⟩
    rw [h2 k]
    by_cases c1 : off + (j0 + 1) ≤ k ∧ k < off + (j0 + 1) + l.length
    · have c2 : off + j0 ≤ k ∧ k < off + j0 + (l.length + 1) := by omega
      simp only [c1, and_self, if_true, List.length_cons, c2]
      rw [show k - (off + j0) = (k - (off + (j0 + 1))) + 1 by omega, List.getD_cons_succ]
    · by_cases c3 : k = off + j0
      · subst c3
        have c2 : off + j0 ≤ off + j0 ∧ off + j0 < off + j0 + (l.length + 1) := by omega
        have c4 : ¬ (off + (j0 + 1) ≤ off + j0 ∧ off + j0 < off + (j0 + 1) + l.length) := by omega
        have c5 : off + j0 < arr.size := by omega
        simp only [c4, if_false, List.length_cons, c2, and_self, if_true]
        simp [Array.getD_eq_getD_getElem?, c5]
      · have c2 : ¬ (off + j0 ≤ k ∧ k < off + j0 + (l.length + 1)) := by omega
        simp only [c1, if_false, List.length_cons, c2]
        simp [Array.getD_eq_getD_getElem?, Array.getElem?_setIfInBounds, Ne.symm c3]

theorem cells_at {v : AV} {u : Value} (h : VR P D R w v u) (hu : v ≠ .u) : u.cells.size = (cellsOf v).length ∧ ∀ k, k < (cellsOf v).length → VR P D R w ((cellsOf v).getD k .u) (u.cells.getD k undef) := by
  have single : cellsOf v = [v] → u.cells = #[u] → u.cells.size = (cellsOf v).length ∧ ∀ k, k < (cellsOf v).length → VR P D R w ((cellsOf v).getD k .u) (u.cells.getD k undef) := by
    intro h1 h2
    rw [h1, h2]
    refine ⟨rfl, fun k hk => ?_⟩
    have : k = 0 := by simpa using hk
    subst this
    simpa using h
  cases h with
  | agg h1 h2 => exact ⟨h1, h2⟩
  | u => exact (hu rfl).elim
  | _ => exact single rfl rfl

theorem fill_sound {pl : Nat → Option (Nat × TypeId)} {pc : Nat → Option (Nat × Nat)} (hpl : ∀ i x, pl i = some x → pc i = some (x.1, P.cellsOf x.2)) :
    ∀ {parts : List (Nat × AV)} {pv : List (Nat × Value)} {cs cs' : List AV} {cv : Array Value}, fill P pl cs parts = some cs' → cv.size = cs.length → (∀ k, k < cs.length → VR P D R w (cs.getD k .u) (cv.getD k undef)) →
      pv.length = parts.length → (∀ k, k < parts.length → (pv.getD k (0, undef)).1 = (parts.getD k (0, .u)).1 ∧ VR P D R w (parts.getD k (0, .u)).2 (pv.getD k (0, undef)).2) →
      ∃ cv', Instr.fill pc cv pv = some cv' ∧ cv'.size = cs'.length ∧ ∀ k, k < cs'.length → VR P D R w (cs'.getD k .u) (cv'.getD k undef)
  | [], pv, cs, cs', cv, h, hs, hv, hl, _ => by
    obtain rfl : pv = [] := by simpa using hl
    simp only [fill, Option.some.injEq] at h
    subst h
    exact ⟨cv, rfl, hs, hv⟩
  | (i, v) :: parts, pv, cs, cs', cv, h, hs, hv, hl, hp => by
    match pv, hl with
    | (i', u) :: pv, hl =>
      obtain ⟨e1, e3⟩ := hp 0 (by simp)
      simp only [List.getD_cons_zero] at e1 e3
      subst e1
      simp only [fill] at h
      cases hpi : pl i' with
      | none => simp [hpi] at h
      | some x =>
        obtain ⟨off, t⟩ := x
        simp only [hpi] at h
        obtain ⟨hc, h⟩ := cond_some h
        simp only [Bool.and_eq_true] at hc
        have e2 : v ≠ .u := fun e => by have := hc.1.1; rw [e] at this; cases this
        have hc1 := Nat.eq_of_beq_eq_true hc.1.2
        have hc2 : off + (cellsOf v).length ≤ cs.length := Nat.le_of_ble_eq_true hc.2
        obtain ⟨q1, q2⟩ := cells_at e3 e2
        have hpc := hpl _ _ hpi
        simp only at hpc
        obtain ⟨f1, f2⟩ := foldl_set off u.cells.toList 0 cv (by simp; omega)
        simp only [Nat.add_zero] at f2
        have hfold : u.cells.zipIdx.foldl (fun cs (x : Value × Nat) => cs.setIfInBounds (off + x.2) x.1) cv = (u.cells.toList.zipIdx 0).foldl (fun cs (x : Value × Nat) => cs.setIfInBounds (off + x.2) x.1) cv := by
          rw [← Array.foldl_toList]
          simp
        obtain ⟨cv', g1, g2, g3⟩ := fill_sound hpl (pv := pv) (cv := u.cells.zipIdx.foldl (fun cs (x : Value × Nat) => cs.setIfInBounds (off + x.2) x.1) cv) h
          (by rw [hfold, f1]; simp only [splice, List.length_append, List.length_take, List.length_drop]; omega)
          (fun k hk => by
            rw [hfold, f2 k]
            simp only [splice, List.getD_eq_getElem?_getD, splice_get _ _ _ _ hc2]
            by_cases c1 : k < off
            · have c2 : ¬ (off ≤ k ∧ k < off + u.cells.toList.length) := by omega
              simp only [c1, if_true, c2, if_false]
              simpa [List.getD_eq_getElem?_getD] using hv k (by omega)
            · by_cases c3 : k < off + (cellsOf v).length
              · have c2 : off ≤ k ∧ k < off + u.cells.toList.length := by simp; omega
                simp only [c1, if_false, c3, if_true, c2, and_self]
                have := q2 (k - off) (by omega)
                simpa [List.getD_eq_getElem?_getD, Array.getD_eq_getD_getElem?] using this
              · have c2 : ¬ (off ≤ k ∧ k < off + u.cells.toList.length) := by simp; omega
                simp only [c1, if_false, c3, c2]
                have hk' : k < cs.length := by
                  simp only [splice, List.length_append, List.length_take, List.length_drop] at hk
                  omega
                simpa [List.getD_eq_getElem?_getD] using hv k hk')
          (by simpa using hl) (fun k hk => by simpa using hp (k + 1) (by simpa using hk))
        refine ⟨cv', ?_, g2, g3⟩
        have hno : ¬ (u.cells.size ≠ P.cellsOf t || decide (off + u.cells.size > cv.size)) = true := by
          simp only [Bool.or_eq_true, decide_eq_true_eq, not_or]
          omega
        simp only [Instr.fill, hpc]
        rw [if_neg (by simpa using hno)]
        exact g1

theorem fill_length {pl : Nat → Option (Nat × TypeId)} : ∀ {parts : List (Nat × AV)} {cs cs' : List AV}, fill P pl cs parts = some cs' → cs'.length = cs.length
  | [], cs, cs', h => by simp only [fill, Option.some.injEq] at h; rw [h]
  | (i, v) :: parts, cs, cs', h => by
    simp only [fill] at h
    cases hpi : pl i with
    | none => simp [hpi] at h
    | some x =>
      obtain ⟨off, t⟩ := x
      simp only [hpi] at h
      obtain ⟨hc, h⟩ := cond_some h
      simp only [Bool.and_eq_true] at hc
      have hc2 : off + (cellsOf v).length ≤ cs.length := Nat.le_of_ble_eq_true hc.2
      rw [fill_length h]
      simp [splice]; omega
theorem chunk_rows {all : List CT} {sz : Nat} (hall : all.length = sz) : ∀ {n : Nat} {cs : List AV} {es : List (List AV)} {cv : List Value}, fitRows all (chunk sz n cs) = some es → cs.length = n * sz → cv.length = cs.length → (∀ k, k < cs.length → VR P D R w (cs.getD k .u) (cv.getD k undef)) →
    es.length = n ∧ (∀ x, x ∈ es → WTs P all x) ∧ ∀ i j, i < n → j < sz → VR P D R w ((es.getD i []).getD j .u) (cv.getD (i * sz + j) undef)
  | 0, cs, es, cv, h, hc, hl, hv => by
    simp only [chunk, fitRows, Option.some.injEq] at h
    subst h
    exact ⟨rfl, fun x hx => by simp at hx, fun i j hi => by omega⟩
  | n + 1, cs, es, cv, h, hc, hl, hv => by
    simp only [chunk, fitRows] at h
    rw [Nat.add_mul, Nat.one_mul] at hc
    cases h1 : fitCs all (cs.take sz) with
    | none => simp [h1] at h
    | some x =>
      cases h2 : fitRows all (chunk sz n (cs.drop sz)) with
      | none => simp [h1, h2] at h
      | some es' =>
        simp only [h1, h2, Option.some.injEq] at h
        subst h
        obtain ⟨f1, f2, f3, _⟩ := fitCs_sound (P := P) (D := D) (R := R) (w := w) (cv := cv.take sz) h1 (by simp; omega) (fun k hk => by
          simp only [List.length_take] at hk
          have := hv k (by omega)
          have hk2 : k < sz := by omega
          simpa [List.getD_eq_getElem?_getD, List.getElem?_take, hk2] using this)
        obtain ⟨g1, g2, g3⟩ := chunk_rows hall (cv := cv.drop sz) h2 (by simp; omega) (by simp; omega) (fun k hk => by
          simp only [List.length_drop] at hk
          have := hv (sz + k) (by omega)
          simpa [List.getD_eq_getElem?_getD, List.getElem?_drop] using this)
        have hxl : x.length = sz := by rw [f2]; simp; omega
        refine ⟨by simp [g1], fun y hy => ?_, fun i j hi hj => ?_⟩
        · rcases List.mem_cons.1 hy with rfl | hy
          · exact f1
          · exact g2 y hy
        · cases i with
          | zero =>
            have := f3 j (by omega)
            simpa [List.getD_eq_getElem?_getD, List.getElem?_take, hj] using this
          | succ i =>
            have := g3 i j (by omega) hj
            rw [Nat.add_mul, Nat.one_mul]
            simpa [List.getD_eq_getElem?_getD, List.getElem?_drop, Nat.add_assoc, Nat.add_comm, Nat.add_left_comm] using this

theorem getD_flat {α : Type} (z : List α) (d : α) : ∀ (n k : Nat), k < n * z.length → ((List.replicate n z).flatten).getD k d = z.getD (k % z.length) d
  | 0, k, h => by omega
  | n + 1, k, h => by
    rw [Nat.add_mul, Nat.one_mul] at h
    rw [List.replicate_succ, List.flatten_cons]
    by_cases hk : k < z.length
    · rw [Nat.mod_eq_of_lt hk]
      simp [List.getD_eq_getElem?_getD, List.getElem?_append, hk]
    · have := getD_flat z d n (k - z.length) (by omega)
      rw [Nat.mod_eq_sub_mod (by omega), ← this]
      simp [List.getD_eq_getElem?_getD, List.getElem?_append, hk]

theorem freshRow_sound (h : SR P w0 X D R st a w) (hf : R site = none) (hb : ∀ x, o.dst = some x → x < st.nt) (hn : After P w0 X D R st a w o site K r next) (hd : ∀ c, o.op ≠ .defer c)
    {e : TypeId} {es : List (List AV)} {cv : Array Value} {c : Nat} (hc : es.length ≤ c) (hcz : es = [] → c = 0) (hW : ∀ x, x ∈ es → WTs P (cts P e) x) (hs : es.length * P.cellsOf e ≤ cv.size)
    (hv : ∀ i j, i < es.length → j < P.cellsOf e → VR P D R w ((es.getD i []).getD j .u) (cv.getD (i * P.cellsOf e + j) undef))
    (hr : (execOp a.eval o).run P w = .ok (.value (.slice (some ⟨w.heap.size, 0, none⟩) es.length c)) (w.alloc (.cells cv e)))
    (he : freshRow P RO site o.dst e es K = some r) : o.wpIn (FW ro) n P a w next Q := by
  unfold freshRow at he
  obtain ⟨ho, he⟩ := cond_some he
  simp only [Bool.and_eq_true] at ho
  obtain ⟨ho, hlen⟩ := ho
  have hlen : es.length ≤ 9223372036854775807 := Nat.le_of_ble_eq_true hlen
  obtain ⟨h1, h2, _⟩ := okT_spec ho
  have hWT : WT P (.sl e) (.rs e es) := .sl hlen (fun x hx => (hW x hx).1) (fun x hx j hj => (hW x hx).2 j hj)
  have hidx : ∀ i j, i < es.length → j < P.cellsOf e → i * P.cellsOf e + j < cv.size := fun i j hi hj => by
    have := Nat.mul_le_mul_right (P.cellsOf e) (show i + 1 ≤ es.length by omega)
    rw [Nat.add_mul, Nat.one_mul] at this
    omega
  cases hem : es.isEmpty with
  | true =>
    rw [hem] at he
    obtain rfl : es = [] := by simpa using hem
    have h' := h.world (below_alloc' w (.cells cv e))
    have hp : VR P D R (w.alloc (.cells cv e)) (.e0 true) (.slice (some ⟨w.heap.size, 0, none⟩) 0 c) := .e0 fun _ => hcz rfl
    exact wpIn_value hd hr (hn D R ⟨_, none⟩ _ _ (h'.put hb hp) .refl he)
  | false =>
  rw [hem] at he
  simp only [cond_false] at he
  cases hro : (o.dst.map RO).getD false with
  | true =>
    rw [hro] at he
    have h' := h.world (below_alloc' w (.cells cv e))
    have hp : VR P D R (w.alloc (.cells cv e)) (.rs e es) (.slice (some ⟨w.heap.size, 0, none⟩) es.length c) := by
      cases es with
      | nil => cases hem
      | cons x l =>
        refine .rs (f := fun i j => cv.getD (i * P.cellsOf e + j) undef) (by simp) h2 hc h1 (fun _ _ _ _ hd => absurd (h.lt _ _ hd) (by omega)) hWT (fun i j hi hj => ?_) (fun i j hi hj => (hv i j hi hj).mono (fun _ _ e => e) (fun b hlt => .inr ⟨fun _ hd => hd, (below_alloc' w _).block b hlt⟩))
        have := hidx i j hi hj
        simp [World.cell?_alloc_new, Array.getD_eq_getD_getElem?, this]
    exact wpIn_value hd hr (hn D R ⟨_, none⟩ _ _ (h'.put hb hp) .refl he)
  | false =>
    rw [hro] at he
    have h' := h.fresh (t := e) (es := es) (cv := cv) hf h1 h2 hs hWT (fun i j hi hj => by
      have := hidx i j hi hj
      exact ⟨cv.getD (i * P.cellsOf e + j) undef, by simp [Array.getD_eq_getD_getElem?, this], hv i j hi hj⟩)
    have hp : VR P (Dn P D w.heap.size (P.cellsOf e, 0) (.row e es)) (Rn R site w.heap.size (P.cellsOf e, 0)) (w.alloc (.cells cv e)) (.sl site 0 es.length) (.slice (some ⟨w.heap.size, 0, none⟩) es.length c) := by
      have : VR P (Dn P D w.heap.size (P.cellsOf e, 0) (.row e es)) (Rn R site w.heap.size (P.cellsOf e, 0)) (w.alloc (.cells cv e)) (.sl site 0 es.length) (.slice (some ⟨w.heap.size, 0 * P.cellsOf e, none⟩) es.length c) := .sl (by simp [Rn]) hc hlen
      simpa using this
    exact wpIn_value hd hr (hn _ _ ⟨_, some (site, .row e es)⟩ _ _ (h'.put hb hp) .new he)
end Go.Ev

set_option linter.unusedVariables false
set_option linter.unusedSimpArgs false
namespace Go.Ev
open Go Go.RowKit

variable {P : Program} {w0 : Base} {X D : Nat → Nat → Prop} {R : Nat → Option (Nat × Nat × Nat)} {st : St} {a : Act} {w : World}
variable {ro : Option Nat} {n : Nat} {o : Oper} {next : Act → World → Prop} {Q : Exit → Act → World → Prop} {ρ : Type} {K : Eff → Option ρ} {r : ρ} {site : Nat} {S : Spec} {RO : Nat → Bool}

theorem SR.kill (h : SR P w0 X D R st a w) (id : Nat) : SR P w0 X D R (st.mem id .dead) a w := by
  refine ⟨h.tmp, h.nt, fun id' => ?_, h.own, fun id' b s et o e hs hm => ?_, fun id' b s o e ho => ?_, fun i1 i2 b s s' e e' hs hs' ha ha' => ?_, fun id' b s e ho => ?_, h.X, h.lt, h.old, h.df⟩
  · simp only [St.mem, gm_cons]
    split
    · trivial
    · exact h.mem id'
  · simp only [St.mem, gm_cons] at hm
    split at hm
    · cases hm
    · exact h.fx id' b s et o e hs hm
  · simp only [St.mem, gm_cons] at ho
    split at ho
    · exact ho.elim
    · exact h.dom id' b s o e ho
  · simp only [St.mem, gm_cons] at ha ha'
    split at ha
    · cases ha
    · split at ha'
      · cases ha'
      · exact h.inj _ _ _ _ _ e e' hs hs' ha ha'
  · simp only [St.mem, gm_cons] at ho
    split at ho
    · exact (ho 0).elim
    · exact h.nz id' b s e ho

theorem div_idx {sz i k : Nat} (hk : k < sz) : (i * sz + k) / sz = i ∧ (i * sz + k) % sz = k := by
  constructor
  · rw [Nat.add_comm, Nat.add_mul_div_right _ _ (by omega), Nat.div_eq_of_lt hk]; omega
  · rw [Nat.add_comm, Nat.add_mul_mod_self_right, Nat.mod_eq_of_lt hk]
theorem idx_lt {sz i j n : Nat} (hi : i < n) (hj : j < sz) : i * sz + j < n * sz := by
  have := Nat.mul_le_mul_right sz (show i + 1 ≤ n by omega)
  rw [Nat.add_mul, Nat.one_mul] at this
  omega
theorem cells_list {e : TypeId} {es : List (List AV)} {b o : Nat} {f : Nat → Nat → Value} (gz : 0 < P.cellsOf e) (g6 : ∀ i j, i < es.length → j < P.cellsOf e → w.cell? ⟨b, o + (i * P.cellsOf e + j), none⟩ = some (f i j)) :
    ∃ news : List Value, news.length = es.length * P.cellsOf e ∧ (∀ k u, news[k]? = some u → w.cell? ((⟨b, o, none⟩ : Addr).add k) = some u) ∧ ∀ i j, i < es.length → j < P.cellsOf e → news[i * P.cellsOf e + j]? = some (f i j) := by
  refine ⟨(List.range (es.length * P.cellsOf e)).map fun k => f (k / P.cellsOf e) (k % P.cellsOf e), by simp, fun k u hk => ?_, fun i j hi hj => ?_⟩
  · simp only [List.getElem?_map] at hk
    by_cases hlt : k < es.length * P.cellsOf e
    · rw [List.getElem?_range hlt] at hk
      simp only [Option.map_some, Option.some.injEq] at hk
      have hm := Nat.mod_lt k gz
      have hdv : k / P.cellsOf e < es.length := (Nat.div_lt_iff_lt_mul gz).2 hlt
      have := g6 _ _ hdv hm
      rw [show k / P.cellsOf e * P.cellsOf e + k % P.cellsOf e = k by rw [Nat.mul_comm]; exact Nat.div_add_mod k _] at this
      rw [add_plain', this, hk]
    · rw [List.getElem?_eq_none (by simp; omega)] at hk
      cases hk
  · have hlt := idx_lt hi hj
    obtain ⟨d1, d2⟩ := div_idx (i := i) hj
    simp [hlt, d1, d2]
theorem WT_app {e : TypeId} {es ys : List (List AV)} (h1 : WT P (.sl e) (.rs e es)) (h2 : WT P (.sl e) (.rs e ys)) (hl : es.length + ys.length ≤ 9223372036854775807) : WT P (.sl e) (.rs e (es ++ ys)) := by
  obtain ⟨a1, a2, a3⟩ := WT_rs h1
  obtain ⟨b1, b2, b3⟩ := WT_rs h2
  exact .sl (by simpa using hl) (fun x hx => by rcases List.mem_append.1 hx with hx | hx; exact a2 x hx; exact b2 x hx) (fun x hx => by rcases List.mem_append.1 hx with hx | hx; exact a3 x hx; exact b3 x hx)
theorem getD_app {es ys : List (List AV)} (i : Nat) : (es ++ ys).getD i [] = if i < es.length then es.getD i [] else ys.getD (i - es.length) [] := by
  by_cases h : i < es.length
  · simp [List.getD_eq_getElem?_getD, List.getElem?_append_left h, h]
  · simp [List.getD_eq_getElem?_getD, List.getElem?_append_right (show es.length ≤ i by omega), h]

theorem SR.newG (h : SR P w0 X D R st a w) (hf : R site = none) {e : TypeId} {es : List (List AV)} {cv : Array Value} {c : Nat} {w1 : World} (hw1 : Below w.heap.size w w1) (hsz1 : w1.heap.size = w.heap.size) (hne : es ≠ [])
    (hle : (cts P e).length = P.cellsOf e) (hz : 0 < P.cellsOf e) (hlc : es.length ≤ c) (hcm : c ≤ 9223372036854775807) (hs : cv.size = c * P.cellsOf e) (hW : WT P (.sl e) (.rs e es)) {f : Nat → Nat → Value}
    (hc : ∀ i j, i < es.length → j < P.cellsOf e → cv[i * P.cellsOf e + j]? = some (f i j)) (hv : ∀ i j, i < es.length → j < P.cellsOf e → VR P D R w ((es.getD i []).getD j .u) (f i j)) :
    ∃ D' R', SR P w0 X D' R' (st.mem site (.fr e)) a (w1.alloc (.cells cv e)) ∧ VR P D' R' (w1.alloc (.cells cv e)) (.gv site e es) (.slice (some ⟨w.heap.size, 0, none⟩) es.length c) ∧ Fr R R' site := by
  have hpos : 0 < es.length := List.length_pos_iff.2 hne
  have hb : Below w.heap.size w (w1.alloc (.cells cv e)) := hw1.alloc (by omega) _
  have hown : ∀ o, ¬ owns P (.fr e) (c, es.length) o ∨ w.heap.size ≤ w.heap.size := fun _ => .inr (Nat.le_refl _)
  refine ⟨_, _, h.newrow (site := site) (B := w.heap.size) (s := (c, es.length)) (blk := .fr e) hf hb (.inl ⟨Nat.le_refl _, by simp [hsz1], by simp; omega⟩) ⟨hz, hle, w.heap.size, c, es.length, by simp [Rn], .inr ⟨by omega, hlc, hcm, cv, ?_, hs⟩⟩, ?_, .new⟩
  · have := World.alloc_heap_new w1 (.cells cv e)
    rwa [hsz1] at this
  · refine .gv (f := f) hne hz hlc hle (fun i j hi hj => ?_) hW (fun i j hi hj => ?_) (fun i j hi hj => (hv i j hi hj).grow h.lt hf hb (.inl (Nat.le_refl _))) (by simp [Rn])
    · rintro (hd | ⟨_, _, hd⟩)
      · exact absurd (h.lt _ _ hd) (by omega)
      · have := idx_lt hi hj
        simp only at hd
        omega
    · have := World.alloc_heap_new w1 (.cells cv e)
      rw [hsz1] at this
      simp [World.cell?, this, hc i j hi hj]
theorem SR.newG0 (h : SR P w0 X D R st a w) (hf : R site = none) {e : TypeId} (ad : Option Addr) (hle : (cts P e).length = P.cellsOf e) (hz : 0 < P.cellsOf e) :
    ∃ D' R', SR P w0 X D' R' (st.mem site (.fr e)) a w ∧ VR P D' R' w (.gv site e []) (.slice ad 0 0) ∧ Fr R R' site := by
  refine ⟨_, _, h.newrow (site := site) (B := 0) (s := (0, 0)) (blk := .fr e) hf (Below.refl _ _) (.inr ⟨rfl, fun o ho => ho.1 rfl⟩) ⟨hz, hle, 0, 0, 0, by simp [Rn], .inl ⟨rfl, rfl⟩⟩, .gv0 (b := 0) (by simp [Rn]), .new⟩

theorem elem_info {e : TypeId} {i : TypeInfo} (hin : P.info? e = some i) (hz0 : i.zero.isSome = true) (hzz : Nat.beq ((i.zero.map fun z => z.cells.size).getD 0) i.size = true) :
    ∃ z, i.zero = some z ∧ i.size = P.cellsOf e ∧ z.cells.size = P.cellsOf e := by
  obtain ⟨z, hz⟩ := Option.isSome_iff_exists.1 hz0
  have hsz : i.size = P.cellsOf e := by simp [Program.cellsOf, hin]
  refine ⟨z, hz, hsz, ?_⟩
  rw [hz] at hzz
  have := Nat.eq_of_beq_eq_true hzz
  simpa [hsz] using this
theorem below_drew (w : World) : Below w.heap.size w w.drew := ⟨rfl, rfl, rfl, Nat.le_refl _, fun _ _ => rfl⟩
theorem run_append_nothing {t ty e : TypeId} {i : TypeInfo} (hu : P.underlying t = some (.slice e)) (hin : P.info? e = some i) {xa ya : Option Addr} {l c yc : Nat} (hc : l ≤ c) :
    (Builtin.append_ #[t, t] ty #[.slice xa l c, .slice ya 0 yc]).run P w = .ok (.slice xa l c) w := by
  cases xa <;> cases ya <;> simp [Builtin.append_, run_underlying' hu, sizeOf, typeInfo, hin, Builtin.lenOf, Builtin.firstCells, loadCells, loadCellsFrom, storeCells, hc]

theorem SR.extend (h : SR P w0 X D R st a w) (hf : R site = none) {id b c n n' : Nat} {e : TypeId} (hm : gm st.m id = .fr e) (hR : R id = some (b, c, n)) (hc0 : c ≠ 0) (hn : n ≤ n') (hnc : n' ≤ c) (hcm : c ≤ 9223372036854775807)
    (hz : 0 < P.cellsOf e) (hle : (cts P e).length = P.cellsOf e) {w' : World} (hother : ∀ k, k ≠ b → w'.heap[k]? = w.heap[k]?) (hsz : w'.heap.size = w.heap.size) (hos : w'.os = w.os) (htape : w'.tape = w.tape) (hout : w'.output = w.output)
    {cells' : Array Value} (hcells : w'.heap[b]? = some (.cells cells' e (0, 0))) (hcs : cells'.size = c * P.cellsOf e) (hkeep : ∀ o, o < n * P.cellsOf e → w'.cell? ⟨b, o, none⟩ = w.cell? ⟨b, o, none⟩) :
    ∃ D', (∀ b' o, D' b' o ↔ D b' o ∧ (b' = b → n' * P.cellsOf e ≤ o)) ∧ (∀ {x : AV} {v : Value}, VR P D R w x v → VR P D' (Rn R site b (c, n')) w' x v) ∧
      SR P w0 X D' (Rn R site b (c, n')) ((st.mem id .dead).mem site (.fr e)) a w' := by
  have hs0 : (c, n) ≠ (0, 0) := by simp; omega
  have hs1 : (c, n') ≠ (0, 0) := by simp; omega
  have hdom : ∀ o, n * P.cellsOf e ≤ o → D b o := fun o ho => h.dom id b _ o hR (by rw [hm]; exact ⟨hc0, ho⟩)
  have hmul := Nat.mul_le_mul_right (P.cellsOf e) hn
  obtain ⟨ow1, ow2⟩ := h.own id b _ hR hs0
  have ow3 : ∀ o, ¬ X b o ∧ (w0.w.heap.size ≤ b ∨ (w0.Y b ∧ ∀ id, w0.K id)) := fun o => h.fx id b _ e o hR hs0 hm
  have hal : alive (gm st.m id) = true := by rw [hm]; rfl
  obtain ⟨D', hD'⟩ : ∃ D' : Nat → Nat → Prop, ∀ b' o, D' b' o ↔ D b' o ∧ (b' = b → n' * P.cellsOf e ≤ o) := ⟨fun b' o => D b' o ∧ (b' = b → n' * P.cellsOf e ≤ o), fun _ _ => Iff.rfl⟩
  have mono : ∀ {x : AV} {v : Value}, VR P D R w x v → VR P D' (Rn R site b (c, n')) w' x v := fun hv => hv.mono' (fun i x e => by
      by_cases hi : i = site
      · subst hi; rw [hf] at e; cases e
      · simpa [Rn, hi] using e) fun b' o u hd hcl => by
    refine ⟨fun hx => hd ((hD' _ _).1 hx).1, ?_⟩
    by_cases hb : b' = b
    · subst hb
      have ho : o < n * P.cellsOf e := by
        rcases Nat.lt_or_ge o (n * P.cellsOf e) with g | g
        · exact g
        · exact absurd (hdom o g) hd
      rw [hkeep o ho]; exact hcl
    · exact (World.cell?_of_block (hother b' hb)).trans hcl
  refine ⟨D', hD', mono, fun t => mono (h.tmp t), h.nt, fun i => ?_, fun i b' s e hs => ?_, fun i b' s et o e hs hm' => ?_, fun i b' s o e ho => ?_, fun i i' b' s s' e1 e2 hs hs' ha ha' => ?_, fun i b' s e ho => ?_, fun b' o hx => ?_, fun b' o hd => by rw [hsz]; exact h.lt b' o ((hD' _ _).1 hd).1, ?_, ?_⟩
  · simp only [St.mem, gm_cons]
    by_cases hi : i = site
    · subst hi
      simp only [if_true]
      exact ⟨hz, hle, b, c, n', by simp [Rn], .inr ⟨by omega, hnc, hcm, cells', hcells, hcs⟩⟩
    · simp only [hi, if_false]
      by_cases hi2 : i = id
      · simp only [hi2, if_true]; trivial
      · simp only [hi2, if_false]
        cases ha : alive (gm st.m i) with
        | false =>
          have : gm st.m i = .dead := by
            revert ha
            cases gm st.m i <;> simp [alive]
          rw [this]; trivial
        | true => exact (h.mem i).mono (by simp [Rn, hi]) (fun b1 s1 h1 hs1 => hother b1 fun hb => hi2 (h.inj _ _ _ _ _ h1 (hb ▸ hR) hs1 hs0 ha hal)) fun _ _ => mono
  · by_cases hi : i = site
    · simp only [Rn, hi, if_true, Option.some.injEq, Prod.mk.injEq] at e
      obtain ⟨rfl, rfl⟩ := e
      exact ⟨(ow3 0).2.imp_right fun h => ⟨h.1, h.2 _⟩, by rw [hsz]; exact ow2⟩
    · simp only [Rn, hi, if_false] at e
      have := h.own i b' s e hs
      exact ⟨this.1, by rw [hsz]; exact this.2⟩
  · by_cases hi : i = site
    · simp only [Rn, hi, if_true, Option.some.injEq, Prod.mk.injEq] at e
      obtain ⟨rfl, rfl⟩ := e
      exact ow3 o
    · simp only [Rn, hi, if_false] at e
      simp only [St.mem, gm_cons, hi, if_false] at hm'
      split at hm'
      · cases hm'
      · exact h.fx i b' s et o e hs hm'
  · simp only [St.mem, gm_cons] at ho
    by_cases hi : i = site
    · simp only [Rn, hi, if_true, Option.some.injEq, Prod.mk.injEq] at e ho
      obtain ⟨rfl, rfl⟩ := e
      exact (hD' _ _).2 ⟨hdom o (Nat.le_trans hmul ho.2), fun _ => ho.2⟩
    · simp only [Rn, hi, if_false] at e ho
      by_cases hi2 : i = id
      · simp only [hi2, if_true] at ho; exact ho.elim
      · simp only [hi2, if_false] at ho
        refine (hD' _ _).2 ⟨h.dom i b' s o e ho, fun hb => ?_⟩
        subst hb
        have hsn : s ≠ (0, 0) := fun hs => by
          subst hs
          cases hk : gm st.m i with
          | fr e' => rw [hk] at ho; exact ho.1 rfl
          | dead => rw [hk] at ho; exact ho
          | _ => exact h.nz i b' (0, 0) e (by rw [hk]; intro _; trivial) rfl
        have ha : alive (gm st.m i) = true := by
          cases hk : gm st.m i <;> first | rfl | (rw [hk] at ho; exact ho.elim)
        exact absurd (h.inj _ _ _ _ _ e hR hsn hs0 ha hal) hi2
  · have key : ∀ {j s}, j ≠ site → R j = some (b, s) → s ≠ (0, 0) → alive (gm ((st.mem id .dead).mem site (.fr e)).m j) = true → False := fun {j s} hj e3 hs ha => by
      simp only [St.mem, gm_cons, hj, if_false] at ha
      by_cases hj2 : j = id
      · simp [hj2, alive] at ha
      · simp only [hj2, if_false] at ha
        exact hj2 (h.inj _ _ _ _ _ e3 hR hs hs0 ha hal)
    by_cases hi : i = site <;> by_cases hi' : i' = site
    · rw [hi, hi']
    · simp only [Rn, hi, if_true, Option.some.injEq, Prod.mk.injEq] at e1
      simp only [Rn, hi', if_false] at e2
      obtain ⟨rfl, rfl⟩ := e1
      exact (key hi' e2 hs' ha').elim
    · simp only [Rn, hi', if_true, Option.some.injEq, Prod.mk.injEq] at e2
      simp only [Rn, hi, if_false] at e1
      obtain ⟨rfl, rfl⟩ := e2
      exact (key hi e1 hs ha).elim
    · simp only [Rn, hi, if_false] at e1
      simp only [Rn, hi', if_false] at e2
      simp only [St.mem, gm_cons, hi, if_false] at ha
      simp only [St.mem, gm_cons, hi', if_false] at ha'
      have a1 : alive (gm st.m i) = true := by
        by_cases hj2 : i = id
        · simp [hj2, alive] at ha
        · simpa only [hj2, if_false] using ha
      have a2 : alive (gm st.m i') = true := by
        by_cases hj2 : i' = id
        · simp [hj2, alive] at ha'
        · simpa only [hj2, if_false] using ha'
      exact h.inj _ _ _ _ _ e1 e2 hs hs' a1 a2
  · simp only [St.mem, gm_cons] at ho
    by_cases hi : i = site
    · simp only [Rn, hi, if_true, Option.some.injEq, Prod.mk.injEq] at e
      obtain ⟨rfl, rfl⟩ := e
      exact hs1
    · simp only [Rn, hi, if_false] at e ho
      by_cases hi2 : i = id
      · simp only [hi2, if_true] at ho; exact (ho 0).elim
      · simp only [hi2, if_false] at ho
        exact h.nz i b' s e ho
  · exact (hD' _ _).2 ⟨h.X b' o hx, fun hb => absurd (hb ▸ hx) (ow3 o).1⟩
  · refine ⟨by rw [hos]; exact h.old.os, by rw [htape]; exact h.old.tape, by rw [hout]; exact h.old.output, by rw [hsz]; exact h.old.size, fun k hk hY => (hother k (fun e => ?_)).trans (h.old.block k hk hY)⟩
    rcases (ow3 0).2 with hge | hge
    · omega
    · exact hY (e ▸ hge.1)
  · obtain ⟨ds, d1, d2, d3⟩ := h.df
    exact ⟨ds, d1, d2, fun k hk => ⟨(hother k (fun e => (d3 k hk).2.1 _ (e ▸ hdom _ (Nat.le_refl _)))).trans (d3 k hk).1, fun o hx => (d3 k hk).2.1 o ((hD' _ _).1 hx).1, (d3 k hk).2.2⟩⟩

theorem grow_nil (h : SR P w0 X D R st a w) (hf : R site = none) {t ty e : TypeId} {i : TypeInfo} (hu : P.underlying t = some (.slice e)) (hin : P.info? e = some i) (ho : okT P e = true) (hz0 : i.zero.isSome = true)
    (hzz : Nat.beq ((i.zero.map fun z => z.cells.size).getD 0) i.size = true) {ys : List (List AV)} (hby : ys.length * i.bytes ≤ 140737488355328) {xa : Option Addr} {yv : Value} (hy : VR P D R w (.rs e ys) yv) :
    ∃ D' R' v' w', (Builtin.append_ #[t, t] ty #[.slice xa 0 0, yv]).run P w = .ok v' w' ∧ SR P w0 X D' R' (st.mem site (.fr e)) a w' ∧ VR P D' R' w' (.gv site e ys) v' ∧ Fr R R' site := by
  obtain ⟨h1, h2, _⟩ := okT_spec ho
  obtain ⟨z, hz, hsz, hzsz⟩ := elem_info hin hz0 hzz
  cases hy with
  | @rs0 _ ya yc hya =>
    obtain ⟨D', R', q1, q2, q3⟩ := h.newG0 hf xa h1 h2
    exact ⟨D', R', _, _, run_append_nothing hu hin (Nat.le_refl _), q1, q2, q3⟩
  | @rs _ _ yb yo yc f g1 gz g2 g3 g4 g5 g6 g7 =>
    obtain ⟨w1, w2, w3⟩ := WT_rs g5
    obtain ⟨news, hnl, hng, hni⟩ := cells_list gz g6
    have hpos : 0 < ys.length := List.length_pos_iff.2 g1
    have pre : ∀ (l : List Value) i j, i < ys.length → j < P.cellsOf e → (news.toArray ++ l.toArray)[i * P.cellsOf e + j]? = some (f i j) := fun l i j hi hj => by
      have := idx_lt hi hj
      rw [Array.getElem?_append_left (by simpa [hnl] using this)]
      simpa using hni i j hi hj
    have hsz' : ∀ (l : List Value) (c : Nat), l.length = (c - ys.length) * P.cellsOf e → ys.length ≤ c → (news.toArray ++ l.toArray).size = c * P.cellsOf e := fun l c hl hc => by
      simp only [Array.size_append, List.size_toArray, hnl, hl, ← Nat.add_mul]
      congr 1; omega
    cases xa with
    | none =>
      have hrun := run_append_nil (P := P) w t ty e i z hu hin hz ⟨yb, yo, none⟩ ys.length yc news (by rw [hnl, hsz]) hng hpos (by omega) (by omega)
      obtain ⟨D', R', q1, q2, q3⟩ := h.newG hf (cv := news.toArray ++ Builtin.zeroCells z.cells (grownCap w ys.length 0 e - ys.length)) (below_drew w) rfl g1 h1 h2 (grownCap_ge w _ _ _) (grownCap_le_maxLen w _ _ _ w1)
        (by have := hsz' (Builtin.zeroCells z.cells (grownCap w ys.length 0 e - ys.length)).toList _ (by simp [size_zeroCells, hzsz]) (grownCap_ge w ys.length 0 e); simpa using this) g5 (f := f) (fun i j hi hj => by simpa using pre (Builtin.zeroCells z.cells (grownCap w ys.length 0 e - ys.length)).toList i j hi hj) g7
      exact ⟨D', R', _, _, hrun, q1, q2, q3⟩
    | some xa =>
      have hrun := run_append_grow (P := P) w t ty e i z hu hin hz xa 0 0 [] (by simp) (by simp) ⟨yb, yo, none⟩ ys.length yc news (by rw [hnl, hsz]) hng (by omega) (by omega) (by
        rw [Nat.zero_add, nextslicecap_zero hpos]; omega)
      simp only [Nat.zero_add] at hrun
      obtain ⟨D', R', q1, q2, q3⟩ := h.newG hf (cv := #[] ++ news.toArray ++ Builtin.zeroCells z.cells (grownCap w ys.length 0 e - ys.length)) (below_drew w) rfl g1 h1 h2 (grownCap_ge w _ _ _) (grownCap_le_maxLen w _ _ _ w1)
        (by have := hsz' (Builtin.zeroCells z.cells (grownCap w ys.length 0 e - ys.length)).toList _ (by simp [size_zeroCells, hzsz]) (grownCap_ge w ys.length 0 e); simpa using this) g5 (f := f) (fun i j hi hj => by simpa using pre (Builtin.zeroCells z.cells (grownCap w ys.length 0 e - ys.length)).toList i j hi hj) g7
      exact ⟨D', R', _, _, hrun, q1, q2, q3⟩

theorem SR.memNew (h : SR P w0 X D R st a w) {site : Nat} (hf : R site = none) {blk : Blk} (hr : RowOK P D R w site blk) : SR P w0 X D R (st.mem site blk) a w := by
  refine ⟨h.tmp, h.nt, fun id => ?_, h.own, fun id b s e o hs hn hm => ?_, fun id b s o hs ho => ?_, fun id id' b s s' hs hs' hn hn' ha ha' => ?_, fun id b s hs ho => ?_, h.X, h.lt, h.old, h.df⟩
  · simp only [St.mem, gm_cons]
    by_cases hid : id = site
    · subst hid; simpa using hr
    · simpa only [hid, if_false] using h.mem id
  · have hid : ¬ id = site := fun e => by rw [e, hf] at hs; cases hs
    simp only [St.mem, gm_cons, hid, if_false] at hm
    exact h.fx id b s e o hs hn hm
  · have hid : ¬ id = site := fun e => by rw [e, hf] at hs; cases hs
    simp only [St.mem, gm_cons, hid, if_false] at ho
    exact h.dom id b s o hs ho
  · have hid : ¬ id = site := fun e => by rw [e, hf] at hs; cases hs
    have hid' : ¬ id' = site := fun e => by rw [e, hf] at hs'; cases hs'
    simp only [St.mem, gm_cons, hid, if_false] at ha
    simp only [St.mem, gm_cons, hid', if_false] at ha'
    exact h.inj id id' b s s' hs hs' hn hn' ha ha'
  · have hid : ¬ id = site := fun e => by rw [e, hf] at hs; cases hs
    simp only [St.mem, gm_cons, hid, if_false] at ho
    exact h.nz id b s hs ho
theorem own_nil (h : SR P w0 X D R st a w) (hf : R site = none) {t ty e : TypeId} {i : TypeInfo} (hu : P.underlying t = some (.slice e)) (hin : P.info? e = some i) (ho : okT P e = true) (hz0 : i.zero.isSome = true)
    (hzz : Nat.beq ((i.zero.map fun z => z.cells.size).getD 0) i.size = true) {ys : List (List AV)} (hby : ys.length * i.bytes ≤ 140737488355328) {yv : Value} (hy : VR P D R w (.rs e ys) yv) :
    ∃ D' R' v' w', (Builtin.append_ #[t, t] ty #[.slice none 0 0, yv]).run P w = .ok v' w' ∧ SR P w0 X D' R' (st.mem site (.row e ys)) a w' ∧ VR P D' R' w' (.sl site 0 ys.length) v' ∧ Fr R R' site := by
  obtain ⟨h1, h2, _⟩ := okT_spec ho
  obtain ⟨z, hz, hsz, hzsz⟩ := elem_info hin hz0 hzz
  cases hy with
  | @rs0 _ ya yc hya =>
    exact ⟨D, R, _, w, run_append_nothing hu hin (Nat.le_refl _), h.memNew hf (blk := .row e []) fun hne => absurd rfl hne, .sl0 fun _ => rfl, .refl⟩
  | @rs _ _ yb yo yc f g1 gz g2 g3 g4 g5 g6 g7 =>
    obtain ⟨w1, w2, w3⟩ := WT_rs g5
    obtain ⟨news, hnl, hng, hni⟩ := cells_list gz g6
    have hpos : 0 < ys.length := List.length_pos_iff.2 g1
    have hrun := run_append_nil (P := P) w t ty e i z hu hin hz ⟨yb, yo, none⟩ ys.length yc news (by rw [hnl, hsz]) hng hpos (by omega) (by omega)
    have hb : Below w.heap.size w (w.drew.alloc (.cells (news.toArray ++ Builtin.zeroCells z.cells (grownCap w ys.length 0 e - ys.length)) e)) := (below_drew w).alloc (by show w.heap.size ≤ w.heap.size; omega) _
    have hnew := World.alloc_heap_new w.drew (.cells (news.toArray ++ Builtin.zeroCells z.cells (grownCap w ys.length 0 e - ys.length)) e)
    have hS := h.newrow (site := site) (B := w.heap.size) (s := (P.cellsOf e, 0)) (blk := .row e ys) hf hb (.inl ⟨Nat.le_refl _, by simp, by simp; omega⟩) (fun _ => ⟨w.heap.size, news.toArray ++ Builtin.zeroCells z.cells (grownCap w ys.length 0 e - ys.length), e, by simp [Rn], hnew, g3, gz, by simp only [Array.size_append, List.size_toArray, hnl]; omega, g5, fun i j hi hj => ⟨f i j, by
        have := idx_lt hi hj
        rw [Array.getElem?_append_left (by simpa [hnl] using this)]
        simpa using hni i j hi hj, (g7 i j hi hj).grow h.lt hf hb (.inl (Nat.le_refl _))⟩⟩)
    refine ⟨_, _, _, _, hrun, hS, ?_, .new⟩
    have := VR.sl (P := P) (D := Dn P D w.heap.size (P.cellsOf e, 0) (.row e ys)) (R := Rn R site w.heap.size (P.cellsOf e, 0)) (w := w.drew.alloc (.cells (news.toArray ++ Builtin.zeroCells z.cells (grownCap w ys.length 0 e - ys.length)) e)) (id := site) (off := 0) (len := ys.length) (b := w.heap.size) (sz := P.cellsOf e) (c := grownCap w ys.length 0 e) (by simp [Rn]) (grownCap_ge w _ _ _) w1
    simpa using this
theorem oneCell_of {c : CT} {d : Nat} {x : AV} {v : Value} (ho : okc P d c = true) (hW : WT P c x) (h : VR P D R w x v) : v.oneCell' = true := by
  cases hW with
  | oth => simp [okc] at ho
  | _ => cases h <;> rfl
theorem grow_own (h : SR P w0 X D R st a w) (hf : R site = none) {t ty e : TypeId} {i : TypeInfo} (hu : P.underlying t = some (.slice e)) (hin : P.info? e = some i) (ho : okT P e = true) (hz0 : i.zero.isSome = true)
    (hzz : Nat.beq ((i.zero.map fun z => z.cells.size).getD 0) i.size = true) {es ys : List (List AV)} (hby : (es.length + ys.length) * i.bytes ≤ 140737488355328) {id : Nat} (hno : noOth P 8 e = true) (hm : gm st.m id = .fr e) {xv yv : Value}
    (hx : VR P D R w (.gv id e es) xv) (hy : VR P D R w (.rs e ys) yv) (hlen : es.length + ys.length ≤ 9223372036854775807) :
    ∃ D' R' v' w', (Builtin.append_ #[t, t] ty #[xv, yv]).run P w = .ok v' w' ∧ SR P w0 X D' R' ((st.mem id .dead).mem site (.fr e)) a w' ∧ VR P D' R' w' (.gv site e (es ++ ys)) v' ∧ Fr R R' site := by
  obtain ⟨h1, h2, _⟩ := okT_spec ho
  obtain ⟨z, hz, hsz, hzsz⟩ := elem_info hin hz0 hzz
  cases hx with
  | @gv0 _ _ xa b0 hR =>
    exact grow_nil (h.kill id) hf hu hin ho hz0 hzz (by simpa using hby) hy
  | @gv _ _ _ b c f e1 ez e2 e3 e4 e5 e6 e7 hR =>
    obtain ⟨_, _, b', c', n', r1, r2⟩ := (by simpa [hm] using h.mem id : RowOK P D R w id (.fr e))
    obtain ⟨rfl, rfl, rfl⟩ : b = b' ∧ c = c' ∧ es.length = n' := by rw [hR] at r1; simpa using r1
    have hpos : 0 < es.length := List.length_pos_iff.2 e1
    obtain ⟨hc0, hnc, hcm, cells, hh, hcs⟩ : 0 < c ∧ es.length ≤ c ∧ c ≤ 9223372036854775807 ∧ ∃ cells, w.heap[b]? = some (.cells cells e (0, 0)) ∧ cells.size = c * P.cellsOf e := by
      rcases r2 with r2 | r2
      · omega
      · exact r2
    cases hy with
    | @rs0 _ ya yc hya =>
      obtain ⟨D', hD', mono, hS⟩ := h.extend (w' := w) (n' := es.length) hf hm hR (by omega) (Nat.le_refl _) hnc hcm h2 h1 (fun _ _ => rfl) rfl rfl rfl rfl hh hcs (fun _ _ => rfl)
      refine ⟨D', _, _, w, run_append_nothing hu hin hnc, hS, ?_, .new⟩
      rw [List.append_nil]
      refine .gv (f := f) e1 ez e2 e3 (fun i j hi hj hd => ?_) e5 e6 (fun i j hi hj => mono (e7 i j hi hj)) (by simp [Rn])
      have := ((hD' _ _).1 hd).2 rfl
      have := idx_lt hi hj
      omega
    | @rs _ _ yb yo yc g g1 gz g2 g3 g4 g5 g6 g7 =>
      obtain ⟨w1, w2, w3⟩ := WT_rs g5
      obtain ⟨news, hnl, hng, hni⟩ := cells_list gz g6
      have hypos : 0 < ys.length := List.length_pos_iff.2 g1
      have hW : WT P (.sl e) (.rs e (es ++ ys)) := WT_app e5 g5 hlen
      -- the cells of both
      have both : ∀ {D' : Nat → Nat → Prop} {R' : Nat → Option (Nat × Nat × Nat)} {w' : World}, (∀ {x : AV} {v : Value}, VR P D R w x v → VR P D' R' w' x v) → ∀ i j, i < (es ++ ys).length → j < P.cellsOf e →
          VR P D' R' w' (((es ++ ys).getD i []).getD j .u) (if i < es.length then f i j else g (i - es.length) j) := fun mono i j hi hj => by
        rw [getD_app]
        split
        · rename_i h'
          exact mono (e7 i j h' hj)
        · simp only [List.length_append] at hi
          exact mono (g7 (i - es.length) j (by omega) hj)
      by_cases hroom : es.length + ys.length ≤ c
      · have hmul := Nat.mul_le_mul_right (P.cellsOf e) hroom
        rw [Nat.add_mul] at hmul
        have hone : ∀ u ∈ news, u.oneCell' = true := by
          intro u hu
          obtain ⟨k, hk, hk2⟩ := List.mem_iff_getElem.1 hu
          have hk' : k < ys.length * P.cellsOf e := by omega
          have hdv : k / P.cellsOf e < ys.length := (Nat.div_lt_iff_lt_mul gz).2 hk'
          have hmd := Nat.mod_lt k gz
          have := hni _ _ hdv hmd
          rw [show k / P.cellsOf e * P.cellsOf e + k % P.cellsOf e = k by rw [Nat.mul_comm]; exact Nat.div_add_mod k _] at this
          have he : u = g (k / P.cellsOf e) (k % P.cellsOf e) := by
            rw [List.getElem?_eq_getElem hk] at this
            rw [← hk2]; simpa using this
          rw [he]
          exact oneCell_of (noOth_cell hno (by rw [g3]; exact hmd)) (w3 _ (getD_mem' hdv) _ (by rw [w2 _ (getD_mem' hdv), g3]; exact hmd)) (g7 _ _ hdv hmd)
        have hrun := run_append_room (P := P) w t ty e i hu hin b es.length c cells hh ⟨yb, yo, none⟩ ys.length yc news (by rw [hnl, hsz]) hng hone hroom (by rw [hnl, hsz, hcs]; omega)
        rw [hsz] at hrun
        generalize hw' : w.setRow b (cells.toList.take (es.length * P.cellsOf e) ++ news ++ cells.toList.drop (es.length * P.cellsOf e + news.length)).toArray = w' at hrun
        have hcl : cells.toList.length = c * P.cellsOf e := by simpa using hcs
        have hlen' : (cells.toList.take (es.length * P.cellsOf e) ++ news ++ cells.toList.drop (es.length * P.cellsOf e + news.length)).length = c * P.cellsOf e := by
          simp only [List.length_append, List.length_take, List.length_drop, Array.length_toList, hcs, hnl]; omega
        have hw'b : w'.heap[b]? = some (.cells (cells.toList.take (es.length * P.cellsOf e) ++ news ++ cells.toList.drop (es.length * P.cellsOf e + news.length)).toArray e (0, 0)) := by
          rw [← hw']; exact setRow_heap w b cells _ e _ hh
        have hget : ∀ k, (cells.toList.take (es.length * P.cellsOf e) ++ news ++ cells.toList.drop (es.length * P.cellsOf e + news.length))[k]? = if k < es.length * P.cellsOf e then cells.toList[k]? else if k < es.length * P.cellsOf e + news.length then news[k - es.length * P.cellsOf e]? else cells.toList[k]? :=
          fun k => splice_get _ _ _ _ (by omega)
        obtain ⟨D', hD', mono, hS⟩ := h.extend (w' := w') (n' := es.length + ys.length) hf hm hR (by omega) (by omega) hroom hcm h2 h1 (fun k hk => by rw [← hw']; exact setRow_other w b k _ hk) (by rw [← hw']; simp) (by rw [← hw']; rfl) (by rw [← hw']; rfl) (by rw [← hw']; rfl) hw'b (by rw [List.size_toArray, hlen'])
          (fun o ho => by
            simp only [World.cell?, hw'b, hh, List.getElem?_toArray]
            rw [hget o]
            simp [ho])
        refine ⟨D', _, _, w', hrun, hS, ?_, .new⟩
        have hl : (es ++ ys).length = es.length + ys.length := List.length_append
        have key : VR P D' (Rn R site b (c, es.length + ys.length)) w' (.gv site e (es ++ ys)) (.slice (some ⟨b, 0, none⟩) (es ++ ys).length c) := ?_
        · rw [hl] at key; exact key
        refine .gv (f := fun i j => if i < es.length then f i j else g (i - es.length) j) (by simp [e1]) h2 (by rw [hl]; exact hroom) h1 (fun i j hi hj hd => ?_) hW (fun i j hi hj => ?_) (both mono) (by simp [Rn, hl])
        · have := ((hD' _ _).1 hd).2 rfl
          rw [hl] at hi
          have := idx_lt hi hj
          omega
        · simp only [World.cell?, hw'b, List.getElem?_toArray, Nat.zero_add]
          rw [hget]
          by_cases hi' : i < es.length
          · have := idx_lt hi' hj
            simp only [this, hi', if_true]
            have := e6 i j hi' hj
            simpa [World.cell?, hh] using this
          · have h4 : es.length * P.cellsOf e ≤ i * P.cellsOf e + j := by
              have := Nat.mul_le_mul_right (P.cellsOf e) (show es.length ≤ i by omega)
              omega
            rw [hl] at hi
            have h5 := idx_lt (show i - es.length < ys.length by omega) hj
            rw [Nat.sub_mul] at h5
            have h6 : es.length * P.cellsOf e ≤ i * P.cellsOf e := Nat.mul_le_mul_right _ (by omega)
            have h7 : i * P.cellsOf e + j < es.length * P.cellsOf e + news.length := by rw [hnl]; omega
            simp only [show ¬ i * P.cellsOf e + j < es.length * P.cellsOf e by omega, h7, hi', if_true, if_false]
            have h8 : i * P.cellsOf e + j - es.length * P.cellsOf e = (i - es.length) * P.cellsOf e + j := by rw [Nat.sub_mul]; omega
            rw [h8]
            exact hni (i - es.length) j (by omega) hj
      · obtain ⟨olds, hol, hog, hoi⟩ := cells_list ez e6
        have hrun := run_append_grow (P := P) w t ty e i z hu hin hz ⟨b, 0, none⟩ es.length c olds (by rw [hol, hsz]) hog ⟨yb, yo, none⟩ ys.length yc news (by rw [hnl, hsz]) hng (by omega) (by omega) (growslice_fits (by omega) hby)
        have hl : (es ++ ys).length = es.length + ys.length := List.length_append
        have hge := grownCap_ge w (es.length + ys.length) c e
        obtain ⟨D', R', q1, q2, q3⟩ := (h.kill id).newG hf (es := es ++ ys) (cv := olds.toArray ++ news.toArray ++ Builtin.zeroCells z.cells (grownCap w (es.length + ys.length) c e - (es.length + ys.length))) (c := grownCap w (es.length + ys.length) c e) (below_drew w) rfl (by simp [e1]) h1 h2 (by rw [hl]; exact hge) (grownCap_le_maxLen w _ _ _ hlen)
          (by simp only [Array.size_append, List.size_toArray, hol, hnl, size_zeroCells, hzsz, ← Nat.add_mul]; congr 1; omega) hW (f := fun i j => if i < es.length then f i j else g (i - es.length) j) (fun i j hi hj => by
            rw [hl] at hi
            have h5 := idx_lt hi hj
            rw [Array.getElem?_append_left (by simp only [Array.size_append, List.size_toArray, hol, hnl, ← Nat.add_mul]; exact h5)]
            by_cases hi' : i < es.length
            · have := idx_lt hi' hj
              rw [Array.getElem?_append_left (by simpa [hol] using this)]
              simpa [hi'] using hoi i j hi' hj
            · have h4 : es.length * P.cellsOf e ≤ i * P.cellsOf e := Nat.mul_le_mul_right _ (by omega)
              rw [Array.getElem?_append_right (by simp [hol]; omega)]
              simp only [hi', if_false, List.size_toArray, hol, List.getElem?_toArray]
              have h8 : i * P.cellsOf e + j - es.length * P.cellsOf e = (i - es.length) * P.cellsOf e + j := by rw [Nat.sub_mul]; omega
              rw [h8]
              exact hni (i - es.length) j (by omega) hj) (both fun h => h)
        rw [hl] at q2
        exact ⟨D', R', _, _, hrun, q1, q2, q3⟩
end Go.Ev

set_option linter.unusedVariables false
set_option linter.unusedSimpArgs false
namespace Go.Ev
open Go Go.RowKit

variable {P : Program} {w0 : Base} {X D : Nat → Nat → Prop} {R : Nat → Option (Nat × Nat × Nat)} {st : St} {a : Act} {w : World}

mutual
theorem sameV_eq : ∀ {x y : AV}, plain x = true → plain y = true → (sameV x y = true ↔ x = y)
  | .b x, y, h1, h2 => by cases y <;> simp [sameV, plain] at *
  | .i k x, y, h1, h2 => by
    cases y <;> simp [sameV, plain] at *
  | .s x, y, h1, h2 => by
    cases y <;> simp [sameV, plain] at *
    rename_i y
    have hb := Go.beq_toListBytes x y
    constructor
    · intro h
      have h2 : (x == y) = true := by rw [hb]; simp [h]
      exact (Go.MapKept.bytes_beq _ _).1 h2
    · intro h; rw [h]
  | .agg x, y, h1, h2 => by
    cases y <;> simp only [sameV, plain, Bool.false_eq_true, false_iff, reduceCtorEq, not_false_eq_true, AV.agg.injEq] at *
    · exact sameL_eq h1 h2
  | .nl, y, h1, h2 => by simp [plain] at h1
  | .rs _ _, y, h1, h2 => by simp [plain] at h1
  | .sl _ _ _, y, h1, h2 => by simp [plain] at h1
  | .p _ _ _, y, h1, h2 => by simp [plain] at h1
  | .rp _ _ _, y, h1, h2 => by simp [plain] at h1
  | .np, y, h1, h2 => by simp [plain] at h1
  | .ln _, y, h1, h2 => by simp [plain] at h1
  | .fn _ _, y, h1, h2 => by simp [plain] at h1
  | .nf, y, h1, h2 => by simp [plain] at h1
  | .yl _, y, h1, h2 => by simp [plain] at h1
  | .ni, y, h1, h2 => by simp [plain] at h1
  | .nm, y, h1, h2 => by simp [plain] at h1
  | .ifc _ _, y, h1, h2 => by simp [plain] at h1
  | .tup _, y, h1, h2 => by simp [plain] at h1
  | .e0 _, y, h1, h2 => by simp [plain] at h1
  | .gv _ _ _, y, h1, h2 => by simp [plain] at h1
  | .sa _ _ _ _, y, h1, h2 => by simp [plain] at h1
  | .mp _, y, h1, h2 => by simp [plain] at h1
  | .it _, y, h1, h2 => by simp [plain] at h1
  | .u, y, h1, h2 => by simp [plain] at h1
theorem sameL_eq : ∀ {x y : List AV}, plainL x = true → plainL y = true → (sameL x y = true ↔ x = y)
  | [], [], _, _ => by simp [sameL]
  | [], _ :: _, _, _ => by simp [sameL]
  | _ :: _, [], _, _ => by simp [sameL]
  | a :: x, b :: y, h1, h2 => by
    simp only [plainL, Bool.and_eq_true] at h1 h2
    simp only [sameL, Bool.and_eq_true, List.cons.injEq, sameV_eq h1.1 h2.1, sameL_eq h1.2 h2.2]
end

theorem plainL_at : ∀ {l : List AV} {i : Nat}, plainL l = true → i < l.length → plain (l.getD i .u) = true
  | [], i, _, h => by simp at h
  | a :: l, i, h, hi => by
    simp only [plainL, Bool.and_eq_true] at h
    cases i with
    | zero => simpa using h.1
    | succ i => simpa using plainL_at h.2 (by simpa using hi)
theorem toVL_at : ∀ {l : List AV} {i : Nat}, i < l.length → (toVL l).getD i undef = toV (l.getD i .u)
  | [], i, h => by simp at h
  | a :: l, 0, _ => by simp [toVL]
  | a :: l, i + 1, h => by simpa [toVL] using toVL_at (by simpa using h)

theorem flatT_ct {t : TypeId} (h : flatT P t = true) : ∃ c d, cts P t = [c] ∧ P.underlying t = some d ∧ isAgg P t = false ∧ ((∃ k, c = .int k ∧ d = .int k) ∨ (c = .bool ∧ d = .bool) ∨ (c = .str ∧ d = .string)) := by
  unfold flatT at h
  cases hu : P.underlying t with
  | none => simp [hu] at h
  | some d =>
    rw [hu] at h
    cases d <;> simp at h
    · exact ⟨.bool, _, by simp [cts, ctsOf, hu], rfl, by simp [isAgg, hu], .inr (.inl ⟨rfl, rfl⟩)⟩
    · exact ⟨.int _, _, by simp [cts, ctsOf, hu], rfl, by simp [isAgg, hu], .inl ⟨_, rfl, rfl⟩⟩
    · exact ⟨.str, _, by simp [cts, ctsOf, hu], rfl, by simp [isAgg, hu], .inr (.inr ⟨rfl, rfl⟩)⟩
theorem flat_eq {t : TypeId} (h : flatT P t = true) {c : CT} (hc : cts P t = [c]) {x y : AV} (hx : WT P c x) (hy : WT P c y) (hpx : plain x = true) (hpy : plain y = true) (d : Nat) :
    (Op.equalIn (d + 1) t (toV x) (toV y)).run P w = .ok (sameV x y) w ∧ (∀ ds, P.underlying t = some ds → Instr.sameNow ds (toV x) (toV y) = some (sameV x y)) ∧ ∀ n, Instr.sameBits n (toV x) (toV x) = true := by
  obtain ⟨c', ds, h1, h2, _, h3⟩ := flatT_ct h
  obtain rfl : c = c' := by rw [hc] at h1; simpa using h1
  rcases h3 with ⟨k, rfl, rfl⟩ | ⟨rfl, rfl⟩ | ⟨rfl, rfl⟩
  · cases hx; cases hy
    simp only [toV, sameV]
    refine ⟨by rw [run_equalIn_int w d t _ _ _ _ h2]; simp; rfl, fun ds hds => ?_, fun n => by cases n <;> simp [Instr.sameBits]⟩
    obtain rfl := Option.some.inj (h2.symm.trans hds)
    simp [Instr.sameNow]; rfl
  · cases hx; cases hy
    simp only [toV, sameV]
    refine ⟨run_equalIn_bool' w d t _ _ h2, fun ds hds => ?_, fun n => by cases n <;> simp [Instr.sameBits]⟩
    obtain rfl := Option.some.inj (h2.symm.trans hds)
    simp [Instr.sameNow]
  · cases hx; cases hy
    simp only [toV, sameV]
    refine ⟨run_equalIn_string w d t _ _ h2, fun ds hds => ?_, fun n => by cases n <;> simp [Instr.sameBits, Go.beq_toListBytes]⟩
    obtain rfl := Option.some.inj (h2.symm.trans hds)
    simp [Instr.sameNow, Go.beq_toListBytes]
theorem ctsAt_one {all : List CT} {i : Nat} {c : CT} (h : ctsEq ((all.drop i).take 1) [c] = true) : all.getD i .oth = c ∧ i < all.length := by
  have := ctsEq_eq h
  cases hd : all.drop i with
  | nil => simp [hd] at this
  | cons a l =>
    rw [hd] at this
    simp at this
    subst this
    have hlt : i < all.length := by
      rcases Nat.lt_or_ge i all.length with g | g
      · exact g
      · rw [List.drop_eq_nil_of_le g] at hd; cases hd
    have h3 := hd.symm.trans (List.drop_eq_getElem_cons hlt)
    injection h3 with h4 h5
    exact ⟨by simp [List.getD_eq_getElem?_getD, List.getElem?_eq_getElem hlt, h4], hlt⟩
theorem run_part_flat {t : TypeId} (h : flatT P t = true) {cs : List AV} {i : Nat} (hi : i < cs.length) : (part t (toVL cs).toArray i).run P w = .ok (toV (cs.getD i .u)) w := by
  obtain ⟨_, d, _, hu, hA, _⟩ := flatT_ct h
  have hl : i < (toVL cs).length := by rw [toVL_length]; exact hi
  have := toVL_at hi
  rw [List.getD_eq_getElem?_getD, List.getElem?_eq_getElem hl] at this
  simp only [part, Sem.run_bind, run_isAgg' hu, hA, Result.andThen_ok, Bool.false_eq_true, if_false]
  simp [hl]
  simpa using this
theorem sameL_drop {xs ys : List AV} {i : Nat} (h1 : i < xs.length) (h2 : i < ys.length) : sameL (xs.drop i) (ys.drop i) = (sameV (xs.getD i .u) (ys.getD i .u) && sameL (xs.drop (i + 1)) (ys.drop (i + 1))) := by
  rw [List.drop_eq_getElem_cons h1, List.drop_eq_getElem_cons h2]
  simp [sameL, List.getD_eq_getElem?_getD, h1, h2]

theorem fields_eq {all : List CT} {xs ys : List AV} (hx : WTs P all xs) (hy : WTs P all ys) (hpx : plainL xs = true) (hpy : plainL ys = true) (d : Nat) : ∀ (fs : List Field) (i : Nat), i + fs.length = all.length →
    (∀ x, x ∈ fs.zipIdx i → (flatT P x.1.type && (x.1.name != "_" && (Nat.beq x.1.offset x.2 && ctsEq ((all.drop x.2).take 1) (cts P x.1.type)))) = true) →
    (Op.eqFields (d + 1) (toVL xs).toArray (toVL ys).toArray fs).run P w = .ok (sameL (xs.drop i) (ys.drop i)) w
  | [], i, hl, _ => by
    have e1 : xs.drop i = [] := List.drop_eq_nil_of_le (by rw [hx.1]; simp at hl; omega)
    have e2 : ys.drop i = [] := List.drop_eq_nil_of_le (by rw [hy.1]; simp at hl; omega)
    rw [e1, e2]
    simp [Op.eqFields, sameL]
  | f :: fs, i, hl, hf => by
    simp only [List.length_cons] at hl
    have h0 := hf (f, i) (by simp [List.zipIdx_cons])
    simp only [Bool.and_eq_true] at h0
    obtain ⟨g1, g2, g3, g4⟩ := h0
    obtain ⟨c, ds, hc, _⟩ := flatT_ct g1
    rw [hc] at g4
    obtain ⟨g5, g6⟩ := ctsAt_one g4
    have g3 := Nat.eq_of_beq_eq_true g3
    have hix : i < xs.length := by rw [hx.1]; exact g6
    have hiy : i < ys.length := by rw [hy.1]; exact g6
    have q1 := (flat_eq (w := w) g1 hc (g5 ▸ hx.2 i hix) (g5 ▸ hy.2 i hiy) (plainL_at hpx hix) (plainL_at hpy hiy) d).1
    have hn : f.name ≠ "_" := by simpa using g2
    rw [Op.eqFields, if_pos hn, g3, sameL_drop hix hiy]
    simp only [Sem.run_bind, run_part_flat g1 hix, run_part_flat g1 hiy, q1, Result.andThen_ok]
    cases sameV (xs.getD i .u) (ys.getD i .u)
    · simp
    · simpa using fields_eq hx hy hpx hpy d fs (i + 1) (by omega) fun x hx => hf x (by rw [List.zipIdx_cons]; exact .tail _ hx)
theorem items_eq {all : List CT} {e : TypeId} {xs ys : List AV} (hx : WTs P all xs) (hy : WTs P all ys) (hpx : plainL xs = true) (hpy : plainL ys = true) (he : flatT P e = true) (h1 : P.cellsOf e = 1) (d : Nat) : ∀ (m i : Nat), i + m = all.length →
    (∀ j, i ≤ j → j < all.length → ctsEq ((all.drop j).take 1) (cts P e) = true) →
    (Op.eqItems (d + 1) e (P.cellsOf e) (toVL xs).toArray (toVL ys).toArray (List.range' i m)).run P w = .ok (sameL (xs.drop i) (ys.drop i)) w
  | 0, i, hl, _ => by
    have e1 : xs.drop i = [] := List.drop_eq_nil_of_le (by rw [hx.1]; omega)
    have e2 : ys.drop i = [] := List.drop_eq_nil_of_le (by rw [hy.1]; omega)
    rw [e1, e2]
    simp [Op.eqItems, sameL]
  | m + 1, i, hl, hf => by
    obtain ⟨c, ds, hc, _⟩ := flatT_ct he
    have h0 := hf i (Nat.le_refl _) (by omega)
    rw [hc] at h0
    obtain ⟨g5, g6⟩ := ctsAt_one h0
    have hix : i < xs.length := by rw [hx.1]; exact g6
    have hiy : i < ys.length := by rw [hy.1]; exact g6
    have q1 := (flat_eq (w := w) he hc (g5 ▸ hx.2 i hix) (g5 ▸ hy.2 i hiy) (plainL_at hpx hix) (plainL_at hpy hiy) d).1
    rw [List.range'_succ, sameL_drop hix hiy]
    simp only [Op.eqItems, Sem.run_bind, show i * P.cellsOf e = i by rw [h1]; omega, run_part_flat he hix, run_part_flat he hiy, q1, Result.andThen_ok]
    cases sameV (xs.getD i .u) (ys.getD i .u)
    · simp
    · simpa using items_eq hx hy hpx hpy he h1 d m (i + 1) (by omega) fun j hj => hf j (by omega)

theorem key_eq {t : TypeId} (hk : keyT P t = true) {x y : AV} (hx : TV P t x) (hy : TV P t y) (hpx : plain x = true) (hpy : plain y = true) (d : Nat) :
    (Op.equalIn (d + 2) t (toV x) (toV y)).run P w = .ok (sameV x y) w := by
  have flat : flatT P t = true → (Op.equalIn (d + 2) t (toV x) (toV y)).run P w = .ok (sameV x y) w := fun hf => by
    obtain ⟨c, ds, hc, hu, hA, _⟩ := flatT_ct hf
    have hwx := hx.w
    have hwy := hy.w
    rw [hx.n hA, hc] at hwx
    rw [hy.n hA, hc] at hwy
    exact (flat_eq hf hc (by simpa using hwx.2 0 (by simp)) (by simpa using hwy.2 0 (by simp)) hpx hpy (d + 1)).1
  unfold keyT at hk
  cases hu : P.underlying t with
  | none => simp [hu] at hk
  | some ds =>
    rw [hu] at hk
    cases ds <;> simp only at hk <;> first | (cases hk; done) | skip
    case bool => exact flat (by simp [flatT, hu])
    case int k => exact flat (by simp [flatT, hu])
    case string => exact flat (by simp [flatT, hu])
    case array n e =>
      simp only [Bool.and_eq_true] at hk
      obtain ⟨g1, g2, g3, g4, g5⟩ := hk
      have hA : isAgg P t = true := by simp [isAgg, hu]
      obtain ⟨xs, rfl⟩ := hx.a hA
      obtain ⟨ys, rfl⟩ := hy.a hA
      obtain ⟨i, hi⟩ := Option.isSome_iff_exists.1 g1
      have hn := Nat.eq_of_beq_eq_true g2
      simp only [toV, sameV]
      rw [run_equalIn_array (P := P) w (d + 1) _ _ hu hi, List.range_eq_range']
      have := items_eq (w := w) (show WTs P (cts P t) xs from hx.w) (show WTs P (cts P t) ys from hy.w) (by simpa [plain] using hpx) (by simpa [plain] using hpy) g3 (Nat.eq_of_beq_eq_true g4) d n 0 (by omega) fun j _ hj => List.all_eq_true.1 g5 j (by simpa using by omega)
      simpa using this
    case struct fs =>
      simp only [Bool.and_eq_true] at hk
      obtain ⟨g1, g2, g3⟩ := hk
      have hA : isAgg P t = true := by simp [isAgg, hu]
      obtain ⟨xs, rfl⟩ := hx.a hA
      obtain ⟨ys, rfl⟩ := hy.a hA
      have hf : P.fieldsOf t = fs := by simp [Program.fieldsOf, hu]
      simp only [toV, sameV]
      rw [run_equalIn_struct (P := P) w (d + 1) t _ _ (by rw [hf]; exact hu) (by simpa using g1), hf]
      have := fields_eq (w := w) (show WTs P (cts P t) xs from hx.w) (show WTs P (cts P t) ys from hy.w) (by simpa [plain] using hpx) (by simpa [plain] using hpy) d fs.toList 0 (by have := Nat.eq_of_beq_eq_true g2; simp; omega) fun x hx => by
        have := List.all_eq_true.1 g3 x hx
        simpa using this
      simpa using this

theorem check_flat {t : TypeId} (h : flatT P t = true) (v : Value) (em : Bool) (n : Nat) : (Instr.checkKey em (n + 1) t v).run P w = .ok () w := by
  obtain ⟨_, d, _, hu, _, hd⟩ := flatT_ct h
  rw [Instr.checkKey]
  simp only [Sem.run_bind, run_underlying' hu, Result.andThen_ok]
  rcases hd with ⟨k, _, rfl⟩ | ⟨_, rfl⟩ | ⟨_, rfl⟩ <;> rfl
theorem check_ok {t : TypeId} (hk : keyT P t = true) {x : AV} (hx : TV P t x) (em : Bool) (n : Nat) : (Instr.checkKey em (n + 2) t (toV x)).run P w = .ok () w := by
  unfold keyT at hk
  cases hu : P.underlying t with
  | none => simp [hu] at hk
  | some ds =>
    rw [hu] at hk
    cases ds <;> simp only at hk <;> first | (cases hk; done) | skip
    case bool => exact check_flat (by simp [flatT, hu]) _ _ _
    case int k => exact check_flat (by simp [flatT, hu]) _ _ _
    case string => exact check_flat (by simp [flatT, hu]) _ _ _
    case array m e =>
      simp only [Bool.and_eq_true] at hk
      obtain ⟨g1, g2, g3, g4, g5⟩ := hk
      have hA : isAgg P t = true := by simp [isAgg, hu]
      obtain ⟨xs, rfl⟩ := hx.a hA
      obtain ⟨i, hi⟩ := Option.isSome_iff_exists.1 g1
      have hw : WTs P (cts P t) xs := hx.w
      have hl : xs.length = m := by rw [hw.1]; exact Nat.eq_of_beq_eq_true g2
      have h1 := Nat.eq_of_beq_eq_true g4
      rw [Instr.checkKey]
      simp only [Sem.run_bind, run_underlying' hu, Result.andThen_ok, toV]
      have key : ∀ (is : List Nat), (∀ i, i ∈ is → i < m) → (forIn is PUnit.unit (fun (i : Nat) (_ : PUnit) => (do Instr.checkKey em (n + 1) e (← part e (toVL xs).toArray (i * (← sizeOf e))); pure (ForInStep.yield PUnit.unit) : Sem (ForInStep PUnit)))).run P w = .ok PUnit.unit w := by
        intro is
        induction is with
        | nil => intro _; simp
        | cons j is ih =>
          intro hj
          have hjl : j < xs.length := by rw [hl]; exact hj j (by simp)
          have hs : (sizeOf e).run P w = .ok 1 w := by rw [run_sizeOf' (by omega)]; rw [h1]
          simp only [List.forIn_cons, Sem.run_bind, hs, Result.andThen_ok, Nat.mul_one, run_part_flat g3 hjl, check_flat g3, Sem.run_pure]
          exact ih fun i hi => hj i (by simp [hi])
      simp only [Std.Legacy.Range.forIn_eq_forIn_range', Std.Legacy.Range.size, Nat.sub_zero, Nat.add_one_sub_one, Nat.div_one]
      have := key (List.range' 0 m) (fun i hi => by simp at hi; omega)
      simp at this ⊢
      rw [this]
      rfl
    case struct fs =>
      simp only [Bool.and_eq_true] at hk
      obtain ⟨g1, g2, g3⟩ := hk
      have hA : isAgg P t = true := by simp [isAgg, hu]
      obtain ⟨xs, rfl⟩ := hx.a hA
      have hw : WTs P (cts P t) xs := hx.w
      have hl : xs.length = fs.size := by rw [hw.1]; exact Nat.eq_of_beq_eq_true g2
      rw [Instr.checkKey]
      simp only [Sem.run_bind, run_underlying' hu, Result.andThen_ok, toV]
      have hall : ∀ f, f ∈ fs.toList → flatT P f.type = true ∧ f.offset < xs.length := fun f hf => by
        obtain ⟨i, hi, rfl⟩ := List.mem_iff_getElem.1 hf
        have := List.all_eq_true.1 g3 (fs.toList[i], i) (by rw [List.mem_zipIdx_iff_getElem?]; simp)
        simp only [Bool.and_eq_true] at this
        have h2 := Nat.eq_of_beq_eq_true this.2.2.1
        refine ⟨this.1, ?_⟩
        rw [h2, hl]; simpa using hi
      rw [← Array.forIn_toList]
      generalize fs.toList = l at hall
      induction l with
      | nil => simp
      | cons f l ih =>
        obtain ⟨q1, q2⟩ := hall f (by simp)
        have ih := ih fun g hg => hall g (by simp [hg])
        simp only [List.forIn_cons, Sem.run_bind, Sem.run_ite] at ih ⊢
        split
        · simp only [Sem.run_bind, run_part_flat q1 q2, check_flat q1, Sem.run_pure, Result.andThen_ok] at ih ⊢
          exact ih
        · simp only [Sem.run_pure, Result.andThen_ok] at ih ⊢
          exact ih

def mfind (k : AV) : List (AV × AV) → Nat → Option (Nat × AV)
  | [], _ => none
  | (k', v) :: r, i => cond (sameV k k') (some (i, v)) (mfind k r (i + 1))
theorem mfind_get (k : AV) : ∀ (es : List (AV × AV)) (i : Nat), (mfind k es i).map (·.2) = mget k es
  | [], _ => rfl
  | (k', v) :: r, i => by
    simp only [mfind, mget]
    cases sameV k k'
    · exact mfind_get k r (i + 1)
    · rfl
theorem mfind_at {k : AV} : ∀ {es : List (AV × AV)} {i j : Nat} {v : AV}, mfind k es i = some (j, v) → ∃ m, j = i + m ∧ ∃ k', es[m]? = some (k', v) ∧ sameV k k' = true
  | [], i, j, v, h => by cases h
  | (k', v') :: r, i, j, v, h => by
    simp only [mfind] at h
    cases hs : sameV k k' with
    | true =>
      rw [hs] at h
      simp only [cond_true, Option.some.injEq, Prod.mk.injEq] at h
      exact ⟨0, by omega, k', by simp [h.2], hs⟩
    | false =>
      rw [hs] at h
      obtain ⟨m, h1, k2, h2, h3⟩ := mfind_at (es := r) h
      exact ⟨m + 1, by omega, k2, by simpa using h2, h3⟩
def Ent (P : Program) (kt : TypeId) (es : List (AV × AV)) (l : List MapEntry) : Prop :=
  l.length = es.length ∧ ∀ i, i < es.length → TV P kt (es.getD i (.u, .u)).1 ∧ plain (es.getD i (.u, .u)).1 = true ∧ (l.getD i default).key = toV (es.getD i (.u, .u)).1
theorem Ent.tail {kt : TypeId} {e : AV × AV} {es : List (AV × AV)} {m : MapEntry} {l : List MapEntry} (h : Ent P kt (e :: es) (m :: l)) : Ent P kt es l :=
  ⟨by simpa using h.1, fun i hi => by simpa using h.2 (i + 1) (by simpa using hi)⟩
theorem find_asking {kt : TypeId} (hk : keyT P kt = true) {x : AV} (hx : TV P kt x) (hp : plain x = true) : ∀ (es : List (AV × AV)) (l : List MapEntry) (i : Nat), Ent P kt es l →
    (Instr.findAsking kt (toV x) l i).run P w = .ok ((mfind x es i).map fun r => (r.1, (l.getD (r.1 - i) default).val)) w
  | [], [], i, _ => by simp [Instr.findAsking, mfind]
  | [], _ :: _, i, h => by simp [Ent] at h
  | _ :: _, [], i, h => by simp [Ent] at h
  | (k', v) :: es, m :: l, i, h => by
    obtain ⟨g1, g2, g3⟩ := h.2 0 (by simp)
    simp only [List.getD_cons_zero] at g1 g2 g3
    have he : (Op.equal kt (toV x) m.key).run P w = .ok (sameV x k') w := by rw [g3]; exact key_eq hk hx g1 hp g2 9998
    simp only [Instr.findAsking, Sem.run_bind, he, Result.andThen_ok, mfind]
    cases sameV x k'
    · simp only [Bool.false_eq_true, if_false, cond_false]
      rw [find_asking hk hx hp es l (i + 1) h.tail]
      congr 1
      cases hm : mfind x es (i + 1) with
      | none => rfl
      | some r =>
        obtain ⟨j, v'⟩ := r
        obtain ⟨q, hq, _⟩ := mfind_at hm
        simp only [Option.map_some]
        rw [show j - i = (j - (i + 1)) + 1 by omega, List.getD_cons_succ]
    · simp
theorem find_now {kt : TypeId} {ds : TypeDesc} (hu : P.underlying kt = some ds) (hf : flatT P kt = true) {x : AV} (hx : TV P kt x) (hp : plain x = true) : ∀ (es : List (AV × AV)) (l : List MapEntry) (i : Nat), Ent P kt es l →
    Instr.findNow ds (toV x) l i = some ((mfind x es i).map fun r => (r.1, (l.getD (r.1 - i) default).val))
  | [], [], i, _ => by simp [Instr.findNow, mfind]
  | [], _ :: _, i, h => by simp [Ent] at h
  | _ :: _, [], i, h => by simp [Ent] at h
  | (k', v) :: es, m :: l, i, h => by
    obtain ⟨g1, g2, g3⟩ := h.2 0 (by simp)
    simp only [List.getD_cons_zero] at g1 g2 g3
    obtain ⟨c, ds', hc, hu', hA, _⟩ := flatT_ct hf
    have hwx := hx.w
    have hwy := g1.w
    rw [hx.n hA, hc] at hwx
    rw [g1.n hA, hc] at hwy
    have he := (flat_eq (P := P) (w := default) hf hc (by simpa using hwx.2 0 (by simp)) (by simpa using hwy.2 0 (by simp)) hp g2 0).2.1 ds hu
    simp only [Instr.findNow, g3, he, mfind]
    cases sameV x k'
    · simp only [cond_false]
      rw [find_now hu hf hx hp es l (i + 1) h.tail]
      congr 1
      cases hm : mfind x es (i + 1) with
      | none => rfl
      | some r =>
        obtain ⟨j, v'⟩ := r
        obtain ⟨q, hq, _⟩ := mfind_at hm
        simp only [Option.map_some]
        rw [show j - i = (j - (i + 1)) + 1 by omega, List.getD_cons_succ]
    · simp
theorem find_key {kt : TypeId} (hk : keyT P kt = true) {x : AV} (hx : TV P kt x) (hp : plain x = true) {es : List (AV × AV)} {l : List MapEntry} (h : Ent P kt es l) :
    (Instr.findKey kt (toV x) l).run P w = .ok ((mfind x es 0).map fun r => (r.1, (l.getD r.1 default).val)) w := by
  by_cases hf : flatT P kt = true
  · obtain ⟨c, ds, hc, hu, _⟩ := flatT_ct hf
    have := find_now hu hf hx hp es l 0 h
    simp only [Instr.findKey, Sem.run_bind, run_underlying' hu, Result.andThen_ok, this, Sem.run_pure]
    simp
  · rw [run_findKey_eq w (by
      unfold keyT at hk
      unfold flatT at hf
      cases hu : P.underlying kt with
      | none => simp [hu] at hk
      | some d => cases d <;> simp [hu] at hk hf ⊢)]
    have := find_asking (w := w) hk hx hp es l 0 h
    simpa using this

theorem mset_none {k v : AV} : ∀ (es : List (AV × AV)) (i : Nat), mfind k es i = none → mset k v es = es ++ [(k, v)]
  | [], _, _ => rfl
  | (k', v') :: r, i, h => by
    simp only [mfind] at h
    cases hs : sameV k k' with
    | true => rw [hs] at h; cases h
    | false =>
      rw [hs] at h
      simp only [mset, hs, cond_false, List.cons_append]
      rw [mset_none r (i + 1) h]
theorem mset_some {k v : AV} : ∀ (es : List (AV × AV)) (i : Nat) {j : Nat} {v0 : AV}, mfind k es i = some (j, v0) → mset k v es = es.set (j - i) (k, v)
  | [], _, _, _, h => by cases h
  | (k', v') :: r, i, j, v0, h => by
    simp only [mfind] at h
    cases hs : sameV k k' with
    | true =>
      rw [hs] at h
      simp only [cond_true, Option.some.injEq, Prod.mk.injEq] at h
      simp [mset, hs, h.1]
    | false =>
      rw [hs] at h
      obtain ⟨m, h1, _⟩ := mfind_at (es := r) h
      simp only [mset, hs, cond_false]
      rw [mset_some r (i + 1) h, show j - i = (j - (i + 1)) + 1 by omega, List.set_cons_succ]
theorem mpos_none {k : AV} : ∀ (es : List (AV × AV)) (i : Nat), mfind k es i = none → mpos k es = es.length
  | [], _, _ => rfl
  | (k', v') :: r, i, h => by
    simp only [mfind] at h
    cases hs : sameV k k' with
    | true => rw [hs] at h; cases h
    | false =>
      rw [hs] at h
      simp only [mpos, hs, cond_false, List.length_cons]
      rw [mpos_none r (i + 1) h]
theorem madd_none {k z : AV} : ∀ (es : List (AV × AV)) (i : Nat), mfind k es i = none → madd k z es = es ++ [(k, z)]
  | [], _, _ => rfl
  | (k', v') :: r, i, h => by
    simp only [mfind] at h
    cases hs : sameV k k' with
    | true => rw [hs] at h; cases h
    | false =>
      rw [hs] at h
      simp only [madd, hs, cond_false, List.cons_append]
      rw [madd_none r (i + 1) h]
theorem mpos_some {k : AV} : ∀ (es : List (AV × AV)) (i : Nat) {j : Nat} {v0 : AV}, mfind k es i = some (j, v0) → mpos k es = j - i
  | [], _, _, _, h => by cases h
  | (k', v') :: r, i, j, v0, h => by
    simp only [mfind] at h
    cases hs : sameV k k' with
    | true =>
      rw [hs] at h
      simp only [cond_true, Option.some.injEq, Prod.mk.injEq] at h
      simp [mpos, hs, h.1]
    | false =>
      rw [hs] at h
      obtain ⟨m, h1, _⟩ := mfind_at (es := r) h
      simp only [mpos, hs, cond_false]
      rw [mpos_some r (i + 1) h]
      omega
theorem madd_some {k z : AV} : ∀ (es : List (AV × AV)) (i : Nat) {j : Nat} {v0 : AV}, mfind k es i = some (j, v0) → madd k z es = es
  | [], _, _, _, h => by cases h
  | (k', v') :: r, i, j, v0, h => by
    simp only [mfind] at h
    cases hs : sameV k k' with
    | true => simp [madd, hs]
    | false =>
      rw [hs] at h
      simp only [madd, hs, cond_false]
      rw [madd_some r (i + 1) h]
theorem mget_madd {k k' z : AV} : ∀ (es : List (AV × AV)), (mget k (madd k' z es)).getD z = (mget k es).getD z
  | [] => by
    simp only [madd, mget]
    cases sameV k k' <;> simp
  | (k2, v2) :: r => by
    simp only [madd]
    cases h2 : sameV k' k2 with
    | true => rfl
    | false =>
      simp only [cond_false, mget]
      cases h3 : sameV k k2 with
      | true => simp
      | false => simpa using mget_madd r
theorem bits_flat {c : CT} {x : AV} (hW : WT P c x) (hc : (∃ k, c = .int k) ∨ c = .bool ∨ c = .str) (n : Nat) : Instr.sameBits n (toV x) (toV x) = true := by
  cases hW with
  | int => cases n <;> simp [toV, Instr.sameBits]
  | bool => cases n <;> simp [toV, Instr.sameBits]
  | str => cases n <;> simp [toV, Instr.sameBits, Go.beq_toListBytes]
  | sl => simp at hc
  | oth => simp at hc
theorem key_cts {t : TypeId} (hk : keyT P t = true) {cs : List AV} (hl : cs.length = (cts P t).length) (i : Nat) (hi : i < cs.length) : (∃ k, (cts P t).getD i .oth = .int k) ∨ (cts P t).getD i .oth = .bool ∨ (cts P t).getD i .oth = .str := by
  have of : ∀ {t : TypeId} {c : CT}, flatT P t = true → cts P t = [c] → (∃ k, c = .int k) ∨ c = .bool ∨ c = .str := fun hf hc => by
    obtain ⟨c', d, h1, _, _, h2⟩ := flatT_ct hf
    rw [hc] at h1
    obtain rfl : _ = c' := by simpa using h1
    rcases h2 with ⟨k, h, _⟩ | ⟨h, _⟩ | ⟨h, _⟩
    · exact .inl ⟨k, h⟩
    · exact .inr (.inl h)
    · exact .inr (.inr h)
  have one : flatT P t = true → (∃ k, (cts P t).getD i .oth = .int k) ∨ (cts P t).getD i .oth = .bool ∨ (cts P t).getD i .oth = .str := fun hf => by
    obtain ⟨c, d, h1, _⟩ := flatT_ct hf
    have : i = 0 := by rw [h1] at hl; simp at hl; omega
    subst this
    rw [h1]
    exact of hf h1
  unfold keyT at hk
  cases hu : P.underlying t with
  | none => simp [hu] at hk
  | some ds =>
    rw [hu] at hk
    cases ds <;> simp only at hk <;> first | (cases hk; done) | skip
    case bool => exact one (by simp [flatT, hu])
    case int k => exact one (by simp [flatT, hu])
    case string => exact one (by simp [flatT, hu])
    case array m e =>
      simp only [Bool.and_eq_true] at hk
      obtain ⟨g1, g2, g3, g4, g5⟩ := hk
      have g2 := Nat.eq_of_beq_eq_true g2
      have h0 := List.all_eq_true.1 g5 i (by simp; omega)
      obtain ⟨c, d, h1, _⟩ := flatT_ct g3
      rw [h1] at h0
      rw [(ctsAt_one h0).1]
      exact of g3 h1
    case struct fs =>
      simp only [Bool.and_eq_true] at hk
      obtain ⟨g1, g2, g3⟩ := hk
      have g2 := Nat.eq_of_beq_eq_true g2
      have hif : i < fs.toList.length := by simp; omega
      have h0 := List.all_eq_true.1 g3 (fs.toList[i], i) (by rw [List.mem_zipIdx_iff_getElem?]; simp [hif])
      simp only [Bool.and_eq_true] at h0
      obtain ⟨c, d, h1, _⟩ := flatT_ct h0.1
      have h2 := h0.2.2.2
      rw [h1] at h2
      rw [(ctsAt_one h2).1]
      exact of h0.1 h1
theorem bits_self {t : TypeId} (hk : keyT P t = true) {x : AV} (hx : TV P t x) (n : Nat) : Instr.sameBits (n + 1) (toV x) (toV x) = true := by
  cases hA : isAgg P t with
  | true =>
    obtain ⟨cs, rfl⟩ := hx.a hA
    have hw : WTs P (cts P t) cs := hx.w
    have : ∀ (l : List AV), (∀ i, i < l.length → Instr.sameBits n (toV (l.getD i .u)) (toV (l.getD i .u)) = true) → ((toVL l).zip (toVL l)).all (fun p => Instr.sameBits n p.1 p.2) = true := by
      intro l
      induction l with
      | nil => intro _; rfl
      | cons a l ih =>
        intro h
        simp only [toVL, List.zip_cons_cons, List.all_cons, Bool.and_eq_true]
        exact ⟨by simpa using h 0 (by simp), ih fun i hi => by simpa using h (i + 1) (by simpa using hi)⟩
    have h2 := this cs fun i hi => bits_flat (hw.2 i hi) (key_cts hk hw.1 i hi) n
    simp only [toV, Instr.sameBits, beq_self_eq_true, Bool.true_and]
    exact h2
  | false =>
    have hw := hx.w
    rw [hx.n hA] at hw
    exact bits_flat (by simpa using hw.2 0 (by simp)) (by have := key_cts hk hw.1 0 (by simp); simpa using this) _
theorem decode_gen (b0 b1 b2 b3 : Nat) (c1 c2 c3 : Bool) : let r : Nat × Nat := (if b0 < 0x80 then (b0, 1)
  else if b0 / 32 == 6 && c1 then
    if (b0 % 32) * 64 + b1 % 64 ≥ 0x80 then ((b0 % 32) * 64 + b1 % 64, 2) else (Utf8.runeError, 1)
  else if b0 / 16 == 14 && c1 && c2 then
    if (b0 % 16) * 4096 + (b1 % 64) * 64 + b2 % 64 ≥ 0x800 && Utf8.valid ((b0 % 16) * 4096 + (b1 % 64) * 64 + b2 % 64 : Nat) then ((b0 % 16) * 4096 + (b1 % 64) * 64 + b2 % 64, 3) else (Utf8.runeError, 1)
  else if b0 / 8 == 30 && c1 && c2 && c3 then
    if (b0 % 8) * 262144 + (b1 % 64) * 4096 + (b2 % 64) * 64 + b3 % 64 ≥ 0x10000 && Utf8.valid ((b0 % 8) * 262144 + (b1 % 64) * 4096 + (b2 % 64) * 64 + b3 % 64 : Nat) then ((b0 % 8) * 262144 + (b1 % 64) * 4096 + (b2 % 64) * 64 + b3 % 64, 4) else (Utf8.runeError, 1)
  else (Utf8.runeError, 1)); r.1 ≤ 1114111 ∧ 0 < r.2 := by
  intro r
  have h1 := Nat.mod_lt b1 (show 0 < 64 by omega)
  have h2 := Nat.mod_lt b2 (show 0 < 64 by omega)
  have h4 := Nat.mod_lt b0 (show 0 < 32 by omega)
  have h5 := Nat.mod_lt b0 (show 0 < 16 by omega)
  have he : Utf8.runeError ≤ 1114111 := by show (65533 : Nat) ≤ 1114111; omega
  show r.1 ≤ 1114111 ∧ 0 < r.2
  have key : ∀ (p : Nat × Nat), r = p → p.1 ≤ 1114111 ∧ 0 < p.2 → r.1 ≤ 1114111 ∧ 0 < r.2 := fun p h1 h2 => h1 ▸ h2
  by_cases g0 : b0 < 0x80
  · exact key (b0, 1) (if_pos g0) ⟨by show b0 ≤ 1114111; omega, Nat.one_pos⟩
  cases g1 : (b0 / 32 == 6 && c1) with
  | true =>
    by_cases g2 : (b0 % 32) * 64 + b1 % 64 ≥ 0x80
    · exact key _ ((if_neg g0).trans ((if_pos g1).trans (if_pos g2))) ⟨by show (b0 % 32) * 64 + b1 % 64 ≤ 1114111; omega, by show 0 < 2; omega⟩
    · exact key _ ((if_neg g0).trans ((if_pos g1).trans (if_neg g2))) ⟨he, Nat.one_pos⟩
  | false =>
    have g1' : ¬ (b0 / 32 == 6 && c1) = true := by rw [g1]; exact Bool.false_ne_true
    cases g2 : (b0 / 16 == 14 && c1 && c2) with
    | true =>
      cases g3 : (decide ((b0 % 16) * 4096 + (b1 % 64) * 64 + b2 % 64 ≥ 0x800) && Utf8.valid ((b0 % 16) * 4096 + (b1 % 64) * 64 + b2 % 64 : Nat)) with
      | true => exact key _ ((if_neg g0).trans ((if_neg g1').trans ((if_pos g2).trans (if_pos g3)))) ⟨by show (b0 % 16) * 4096 + (b1 % 64) * 64 + b2 % 64 ≤ 1114111; omega, by show 0 < 3; omega⟩
      | false => exact key _ ((if_neg g0).trans ((if_neg g1').trans ((if_pos g2).trans (if_neg (by rw [g3]; exact Bool.false_ne_true))))) ⟨he, Nat.one_pos⟩
    | false =>
      have g2' : ¬ (b0 / 16 == 14 && c1 && c2) = true := by rw [g2]; exact Bool.false_ne_true
      cases g3 : (b0 / 8 == 30 && c1 && c2 && c3) with
      | true =>
        cases g4 : (decide ((b0 % 8) * 262144 + (b1 % 64) * 4096 + (b2 % 64) * 64 + b3 % 64 ≥ 0x10000) && Utf8.valid ((b0 % 8) * 262144 + (b1 % 64) * 4096 + (b2 % 64) * 64 + b3 % 64 : Nat)) with
        | true =>
          refine key _ ((if_neg g0).trans ((if_neg g1').trans ((if_neg g2').trans ((if_pos g3).trans (if_pos g4))))) ⟨?_, by show 0 < 4; omega⟩
          show (b0 % 8) * 262144 + (b1 % 64) * 4096 + (b2 % 64) * 64 + b3 % 64 ≤ 1114111
          have g5 := (Bool.and_eq_true_iff.1 g4).2
          unfold Utf8.valid at g5
          simp only [Bool.and_eq_true, Bool.or_eq_true, decide_eq_true_eq] at g5
          omega
        | false => exact key _ ((if_neg g0).trans ((if_neg g1').trans ((if_neg g2').trans ((if_pos g3).trans (if_neg (by rw [g4]; exact Bool.false_ne_true)))))) ⟨he, Nat.one_pos⟩
      | false => exact key _ ((if_neg g0).trans ((if_neg g1').trans ((if_neg g2').trans (if_neg (by rw [g3]; exact Bool.false_ne_true))))) ⟨he, Nat.one_pos⟩
theorem decode_bounds (s : ByteArray) (i : Nat) : (Utf8.decode s i).1 ≤ 1114111 ∧ 0 < (Utf8.decode s i).2 :=
  decode_gen (s.get! (i + 0)).toNat (s.get! (i + 1)).toNat (s.get! (i + 2)).toNat (s.get! (i + 3)).toNat (decide (i + 1 < s.size) && (s.get! (i + 1)).toNat / 64 == 2) (decide (i + 2 < s.size) && (s.get! (i + 2)).toNat / 64 == 2) (decide (i + 3 < s.size) && (s.get! (i + 3)).toNat / 64 == 2)
end Go.Ev
