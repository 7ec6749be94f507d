/-
  The law WearRates returns true for every climate and all numbers, and leaves its arguments as they were. No conditions.
-/
import GoSem.Step
set_option linter.unusedVariables false
namespace Go.Ev
open Go

/-- The kind of a cell. -/
inductive CT where
  | int (k : IntKind)
  | bool
  | str
  | sl (e : TypeId)
  | oth
  deriving DecidableEq, Inhabited

/-- Values as the evaluator has them: 'rs': a slice that nobody writes any more, by its elements' cells; 'sl': a window of a row that may be written; 'p', 'rp': a place in such a row, in memory that nobody writes. -/
inductive AV where
  | b (x : Bool)
  | i (k : IntKind) (n : Int)
  | s (x : ByteArray)
  | nl
  | rs (e : TypeId) (es : List (List AV))
  | sl (id off len : Nat)
  | p (id i j : Nat)
  | rp (cts : List CT) (cs : List AV) (j : Nat)
  | np
  | fn (f : FuncId) (caps : List AV)
  | nf
  | yl (l : Nat)
  | ni
  | ifc (t : TypeId) (v : AV)
  | agg (cs : List AV)
  | tup (vs : List AV)
  | u
  deriving Inhabited

def toI : AV → Int | .i _ n => n | _ => 0
def toB : AV → Bool | .b x => x | _ => false
def toS : AV → ByteArray | .s x => x | _ => ⟨#[]⟩
def toE : AV → List (List AV) | .rs _ es => es | _ => []
def proj : CT → AV → AV
  | .int k, a => .i k (toI a)
  | .bool, a => .b (toB a)
  | .str, a => .s (toS a)
  | .sl e, a => .rs e (toE a)
  | .oth, a => a
def projs : List CT → List AV → Nat → List AV
  | [], _, _ => []
  | c :: r, cs, j => proj c (cs.getD j .u) :: projs r cs (j + 1)

inductive Blk where
  | row (e : TypeId) (es : List (List AV))
  | dead
  deriving Inhabited

structure St where
  t : List (Nat × AV)
  m : List (Nat × Blk)
  nx : Nat
  nt : Nat
  deriving Inhabited

def gt : List (Nat × AV) → Nat → AV
  | [], _ => .u
  | (j, v) :: r, i => cond (Nat.beq i j) v (gt r i)
def gm : List (Nat × Blk) → Nat → Blk
  | [], _ => .dead
  | (j, v) :: r, i => cond (Nat.beq i j) v (gm r i)
def St.put (st : St) (d : Option Nat) (v : AV) : St :=
  match d with
  | some d => { st with t := (d, v) :: st.t }
  | none => st
/-- What an operation does: the value that it yields, and a row that it makes or writes. -/
structure Eff where
  v : AV
  m : Option (Nat × Blk)
  deriving Inhabited
def St.mem (st : St) (id : Nat) (b : Blk) : St := { st with m := (id, b) :: st.m }

def St.app (st : St) (d : Option Nat) (e : Eff) : St :=
  (match e.m with
    | some (id, b) => st.mem id b
    | none => st).put d e.v

/-! ### Types -/
variable (P : Program)
def ctsOf : Nat → TypeId → List CT
  | 0, _ => []
  | d + 1, t => match P.underlying t with
    | some (.int k) => [.int k]
    | some .bool => [.bool]
    | some .string => [.str]
    | some (.slice e) => [.sl e]
    | some (.struct fs) => fs.toList.flatMap fun f => ctsOf d f.type
    | some (.array n e) => (List.replicate n (ctsOf d e)).flatten
    | some _ => [.oth]
    | none => []
def cts (t : TypeId) : List CT := ctsOf P 8 t
def isAgg (t : TypeId) : Bool := match P.underlying t with
  | some (.struct _) | some (.array _ _) => true
  | _ => false
def ctEq : CT → CT → Bool
  | .int k, .int k' => decide (k = k')
  | .bool, .bool => true
  | .str, .str => true
  | .sl e, .sl e' => Nat.beq e e'
  | .oth, .oth => true
  | _, _ => false
def ctsEq : List CT → List CT → Bool
  | [], [] => true
  | a :: x, b :: y => ctEq a b && ctsEq x y
  | _, _ => false
/-- Do the cells from j on have these kinds? (A row of one kind: wherever j is.) -/
def ctsAt (all : List CT) (j : Nat) (want : List CT) : Bool :=
  match want with
  | [c] => cond (all.all (ctEq c ·)) (Nat.blt j all.length) (ctsEq ((all.drop j).take 1) want)
  | _ => ctsEq ((all.drop j).take want.length) want
/-- A value of type t out of the cells from j on. -/
def mkV (t : TypeId) (cs : List AV) (j : Nat) : AV :=
  cond (isAgg P t) (.agg (projs (cts P t) cs j)) (proj ((cts P t).headD .oth) (cs.getD j .u))
/-- A type whose cells can be told. -/
def okT (t : TypeId) : Bool := Nat.beq (cts P t).length (P.cellsOf t) && Nat.blt 0 (P.cellsOf t) && (isAgg P t || Nat.beq (cts P t).length 1)
def fitC : CT → AV → Option AV
  | .int k, .i k' n => cond (decide (k = k')) (some (.i k n)) none
  | .bool, .b x => some (.b x)
  | .str, .s x => some (.s x)
  | .sl e, .rs e' es => cond (Nat.beq e e') (some (.rs e es)) none
  | .sl e, .nl => some (.rs e [])
  | .oth, .fn f c => some (.fn f c)
  | .oth, .nf => some .nf
  | .oth, .yl l => some (.yl l)
  | .oth, .np => some .np
  | .oth, .p id i j => some (.p id i j)
  | .oth, .rp a c j => some (.rp a c j)
  | .oth, .ni => some .ni
  | _, _ => none
def fitCs : List CT → List AV → Option (List AV)
  | [], [] => some []
  | c :: x, a :: y => match fitC c a, fitCs x y with
    | some a', some y' => some (a' :: y')
    | _, _ => none
  | _, _ => none
def cellsOf : AV → List AV
  | .agg cs => cs
  | v => [v]
/-- A value as one of type t: a literal nil gets its element type. -/
def fitT (t : TypeId) (v : AV) : AV :=
  match v with
  | .nl => match P.underlying t with
    | some (.slice e) => .rs e []
    | _ => .nl
  | v => v
/-- Kinds of cells that lead to no memory that may be written. -/
def noOth : Nat → TypeId → Bool
  | 0, _ => false
  | d + 1, t => (cts P t).all fun c => match c with
    | .oth => false
    | .sl e => noOth d e
    | _ => true
def okc (d : Nat) (c : CT) : Bool := match c with
  | .oth => false
  | .sl e => noOth P d e
  | _ => true
mutual
/-- Values that lead to no row that may be written, but for those with numbers below nb. -/
def free (nb : Nat) : AV → Bool
  | .rs e _ => noOth P 8 e
  | .rp all cs _ => all.all (okc P 8) || freeL nb cs
  | .fn _ caps => freeL nb caps
  | .agg cs => freeL nb cs
  | .tup vs => freeL nb vs
  | .ifc _ v => free nb v
  | .sl id _ _ => Nat.blt id nb
  | .p id _ _ => Nat.blt id nb
  | .u => true
  | _ => true
def freeL (nb : Nat) : List AV → Bool
  | [] => true
  | a :: r => free nb a && freeL nb r
end
def freeB (nb : Nat) : Blk → Bool
  | .row e es => noOth P 8 e || es.all (freeL P nb)
  | .dead => true
def ofC : Value → AV
  | .bool b => .b b
  | .int k n => cond (decide (k.min ≤ n) && decide (n ≤ k.max)) (.i k n) .u
  | .string s => cond (Nat.ble s.size 9223372036854775807) (.s s) .u
  | .pointer none => .np
  | .slice none 0 0 => .nl
  | .nilFunc => .nf
  | .nilIface => .ni
  | _ => .u
def zeroOf (t : TypeId) : Option (List AV) :=
  match (P.info? t).bind (·.zero) with
  | some v => fitCs (cts P t) (v.cells.toList.map ofC)
  | none => none

/-! ### Operands and operations -/
def val (st : St) : Operand → AV
  | .tmp t => gt st.t t
  | .const v => ofC v
  | .func f => .fn f []
  | .global _ => .u

def splice (cs : List AV) (j : Nat) (new : List AV) : List AV := cs.take j ++ new ++ cs.drop (j + new.length)
def setCs (cs : List AV) (j : Nat) (new : List AV) : List AV :=
  match new with
  | [v] => cs.set j v
  | vs => splice cs j vs

def place (fs : Array Field) (i : Nat) : Option (Nat × TypeId) := (fs[i]?).map fun f => (f.offset, f.type)
def known : AV → Bool
  | .u => false
  | _ => true
def fill (pl : Nat → Option (Nat × TypeId)) : List AV → List (Nat × AV) → Option (List AV)
  | cs, [] => some cs
  | cs, (i, v) :: r => match pl i with
    | none => none
    | some (off, t) => cond (known v && Nat.beq (cellsOf v).length (P.cellsOf t) && Nat.ble (off + (cellsOf v).length) cs.length) (fill pl (splice cs off (cellsOf v)) r) none

/-- A part of a struct's cells. -/
def partV (t : TypeId) (cs : List AV) (off : Nat) : Option AV :=
  match P.underlying t with
  | some _ => cond (isAgg P t) (some (.agg ((cs.drop off).take (P.cellsOf t)))) (cs[off]?)
  | none => none
def eqFs (ev : TypeId → AV → AV → Option Bool) (a b : List AV) : List Field → Option Bool
  | [] => some true
  | f :: fs => cond (f.name != "_") (match partV P f.type a f.offset, partV P f.type b f.offset with
    | some x, some y => match ev f.type x y, fs, eqFs ev a b fs with
      | some r, [], _ => some r
      | some r, _, some s => some (r && s)
      | _, _, _ => none
    | _, _ => none) none
def eqV : Nat → TypeId → AV → AV → Option Bool
  | 0, _, _, _ => none
  | d + 1, t, x, y => match P.underlying t, x, y with
    | some .bool, .b a, .b b => some (a == b)
    | some (.int _), .i k a, .i k' b => cond (decide (k = k')) (some (a == b)) none
    | some .string, .s a, .s b => some (a.toList == b.toList)
    | some (.struct fs), .agg a, .agg b => cond (!P.stoodInHeld t) (eqFs P (eqV d) a b fs.toList) none
    | _, _, _ => none

section
variable {ρ : Type}

def binI (op : BinOp) (k : IntKind) (a b : Int) (K : AV → Option ρ) : Option ρ :=
  match op with
  | .add => K (.i k (k.wrap (a + b)))
  | .sub => K (.i k (k.wrap (a - b)))
  | .mul => K (.i k (k.wrap (a * b)))
  | .quo => cond (decide (b = 0)) none (K (.i k (k.wrap (a.tdiv b))))
  | .rem => cond (decide (b = 0)) none (K (.i k (a.tmod b)))
  | .eql => K (.b (a == b))
  | .neq => K (.b (a != b))
  | .lss => K (.b (decide (a < b)))
  | .leq => K (.b (decide (a ≤ b)))
  | .gtr => K (.b (decide (a > b)))
  | .geq => K (.b (decide (a ≥ b)))
  | _ => none
def binS (op : BinOp) (a b : ByteArray) (K : AV → Option ρ) : Option ρ :=
  match op with
  | .add => cond (decide (a.size + b.size ≤ 140737488355328)) (K (.s (a ++ b))) none
  | .eql => K (.b (a.toList == b.toList))
  | .neq => K (.b (!(a.toList == b.toList)))
  | .lss => K (.b (Op.bytesLess a.toList b.toList))
  | .leq => K (.b (Op.bytesLess a.toList b.toList || a.toList == b.toList))
  | .gtr => K (.b (!(Op.bytesLess a.toList b.toList || a.toList == b.toList)))
  | .geq => K (.b (!Op.bytesLess a.toList b.toList))
  | _ => none
def bin (op : BinOp) (t : TypeId) (x y : AV) (K : AV → Option ρ) : Option ρ :=
  match x, y with
  | .i k a, .i k' b => cond (decide (k = k')) (binI op k a b K) none
  | .s a, .s b => binS op a b K
  | .b a, .b b => match op, P.underlying t with
    | .eql, some .bool => K (.b (a == b))
    | .neq, some .bool => K (.b (!(a == b)))
    | _, _ => none
  | .agg a, .agg b => match op, eqV P 16 t (.agg a) (.agg b) with
    | .eql, some e => cond (!P.eqGuardType P.depth t) (K (.b e)) none
    | .neq, some e => cond (!P.eqGuardType P.depth t) (K (.b (!e))) none
    | _, _ => none
  | _, _ => none

def inb (n : Int) (len : Nat) : Bool := decide (0 ≤ n) && decide (n < (len : Int))

def best (f : Int → Int → Int) : AV → List AV → Option AV
  | .i k a, [] => some (.i k a)
  | .i k a, .i k' b :: r => cond (decide (k = k')) (best f (.i k (f a b)) r) none
  | _, _ => none
def bmax (a b : Int) : Int := if b > a then b else a
def bmin (a b : Int) : Int := if b < a then b else a

/-- What functions give, by values: a condition, and the result. -/
abbrev Spec := FuncId → List AV → Option (Bool × AV)

variable (S : Spec) (RO : Nat → Bool)

def fitArgs : List TypeId → List AV → List AV
  | t :: ts, v :: vs => fitT P t v :: fitArgs ts vs
  | _, vs => vs

/-- New cells: by value, where nobody will write them. -/
def fresh (site : Nat) (dst : Option Nat) (t : TypeId) (cs : List AV) (K : Eff → Option ρ) : Option ρ :=
  cond (okT P t) (cond ((dst.map RO).getD false) (K ⟨.rp (cts P t) cs 0, none⟩) (K ⟨.p site 0 0, some (site, .row t [cs])⟩)) none

def chunk (sz : Nat) : Nat → List AV → List (List AV)
  | 0, _ => []
  | n + 1, cs => cs.take sz :: chunk sz n (cs.drop sz)
def fitRows (all : List CT) : List (List AV) → Option (List (List AV))
  | [] => some []
  | r :: rs => match fitCs all r, fitRows all rs with
    | some a, some b => some (a :: b)
    | _, _ => none
/-- A new slice: by value, where nobody will write it. -/
def freshRow (site : Nat) (dst : Option Nat) (e : TypeId) (es : List (List AV)) (K : Eff → Option ρ) : Option ρ :=
  cond (okT P e && Nat.ble es.length 9223372036854775807) (cond ((dst.map RO).getD false || es.isEmpty) (K ⟨.rs e es, none⟩) (K ⟨.sl site 0 es.length, some (site, .row e es)⟩)) none

def look (st : St) (t : TypeId) (a : AV) (K : AV → Option ρ) : Option ρ :=
  match a with
  | .rp all cs j => cond (okT P t && ctsAt all j (cts P t)) (K (mkV P t cs j)) none
  | .p id i j => match gm st.m id with
    | .row e es => cond (okT P t && (ctsAt (cts P e) j (cts P t) && Nat.blt i es.length)) (K (mkV P t (es.getD i []) j)) none
    | .dead => none
  | _ => none

def numOf (st : St) (d : Int) (y : Option Operand) : AV :=
  match y with
  | some y => val st y
  | none => .i .i64 d

def evOp (site : Nat) (o : Oper) (st : St) (K : Eff → Option ρ) : Option ρ :=
  let ret (v : AV) : Option ρ := K ⟨v, none⟩
  match o.op with
  | .move x | .assign x => ret (fitT P o.type (val st x))
  | .pick c a b => match val st c with
    | .b x => match val st a, val st b with
      | .b p, .b q => ret (.b (cond x p q))
      | va, vb => cond x (ret va) (ret vb)
    | _ => none
  | .unOp .not _ x => match val st x with
    | .b a => ret (.b (!a))
    | _ => none
  | .unOp .neg _ x => match val st x with
    | .i k n => ret (.i k (k.wrap (0 - n)))
    | _ => none
  | .binOp op t x y _ => bin P op t (val st x) (val st y) ret
  | .convert src dst x => match P.underlying src, P.underlying dst, val st x with
    | some (.int _), some (.int k), .i _ n => ret (.i k (k.wrap n))
    | some .string, some .string, .s a => ret (.s a)
    | _, _, _ => none
  | .extract x j => match val st x with
    | .tup vs => match vs[j]? with
      | some v => ret v
      | none => none
    | _ => none
  | .field t x f => match P.underlying t, val st x with
    | some (.struct fs), .agg cs => match fs[f]? with
      | some fd => match partV P fd.type cs fd.offset with
        | some v => ret v
        | none => none
      | none => none
    | _, _ => none
  | .build t parts => match P.underlying t, zeroOf P t with
    | some (.struct fs), some z => match fill P (place fs) z (parts.toList.map fun p => (p.1, val st p.2)) with
      | some cs => match fitCs (cts P t) cs with
        | some cs => cond (fs.toList.all fun f => (P.info? f.type).isSome) (ret (.agg cs)) none
        | none => none
      | none => none
    | _, _ => none
  | .buildSlice t n parts => match P.underlying t with
    | some (.slice e) => match zeroOf P e with
      | some z => cond (Nat.ble (n * P.cellsOf e) 16777216 && Nat.beq z.length (P.cellsOf e)) (match fill P (fun i => some (i * P.cellsOf e, e)) ((List.replicate n z).flatten) (parts.toList.map fun p => (p.1, val st p.2)) with
        | some cs => match fitRows (cts P e) (chunk (P.cellsOf e) n cs) with
          | some es => freshRow P RO site o.dst e es K
          | none => none
        | none => none) none
      | none => none
    | _ => none
  | .fieldAddr t x f => match P.underlying t, val st x with
    | some (.struct fs), a => match fs[f]?, a with
      | some fd, .p id i j => cond (Nat.beq (P.cellsOf fd.type) 0) none (ret (.p id i (j + fd.offset)))
      | some fd, .rp all cs j => cond (Nat.beq (P.cellsOf fd.type) 0) none (ret (.rp all cs (j + fd.offset)))
      | _, _ => none
    | _, _ => none
  | .indexAddr t x ix => match P.underlying t, val st x, val st ix with
    | some (.slice e), .rs e' es, .i _ n => cond (Nat.beq e e' && inb n es.length) (ret (.rp (cts P e) (es.getD n.toNat []) 0)) none
    | some (.slice e), .sl id off len, .i _ n => match gm st.m id with
      | .row e' _ => cond (Nat.beq e e' && inb n len) (ret (.p id (off + n.toNat) 0)) none
      | .dead => none
    | some (.array len e), .p id i j, .i _ n => cond (Nat.blt 0 (P.cellsOf e) && inb n len) (ret (.p id i (j + n.toNat * P.cellsOf e))) none
    | _, _, _ => none
  | .load t a => look P st t (val st a) ret
  | .store t a v => match val st a, fitCs (cts P t) (cellsOf (val st v)) with
    | .p id i j, some cs => match gm st.m id with
      | .row e es => cond (okT P t && (ctsAt (cts P e) j (cts P t) && Nat.blt i es.length)) (K ⟨.tup [], some (id, .row e (es.set i (setCs (es.getD i []) j cs)))⟩) none
      | .dead => none
    | _, _ => none
  | .nilCheck x => match val st x with
    | .p id i j => ret (.p id i j)
    | .rp all cs j => ret (.rp all cs j)
    | _ => none
  | .index t x ix => match P.underlying t, val st x, val st ix with
    | some .string, .s a, .i _ n => cond (inb n a.size) (ret (.i .u8 ((a.data.toList.getD n.toNat 0).toNat : Int))) none
    | _, _, _ => none
  | .slice t x lo hi none => match P.underlying t, val st x with
    | some (.slice e), .rs e' es => match numOf st 0 lo, numOf st es.length hi with
      | .i _ l, .i _ h => cond ((Nat.beq e e' && Nat.blt 0 (P.cellsOf e)) && (decide (0 ≤ l) && (decide (l ≤ h) && decide (h ≤ (es.length : Int))))) (ret (.rs e ((es.take h.toNat).drop l.toNat))) none
      | _, _ => none
    | some .string, .s a => match numOf st 0 lo, numOf st a.size hi with
      | .i _ l, .i _ h => cond (decide (0 ≤ l) && (decide (l ≤ h) && decide (h ≤ (a.size : Int)))) (ret (.s (a.extract l.toNat h.toNat))) none
      | _, _ => none
    | _, _ => none
  | .makeFunc (.func f) first caps => cond (Nat.beq first.size 0) (ret (.fn f (caps.toList.map (val st)))) none
  | .box t x => match fitCs (cts P t) (cellsOf (val st x)) with
    | some cs => fresh P RO site o.dst t cs K
    | none => none
  | .alloc t => match zeroOf P t with
    | some cs => fresh P RO site o.dst t cs K
    | none => none
  | .call c => match c.callee with
    | .builtin .len => match c.args.toList.map (val st), (c.argTypes[0]?).bind P.underlying with
      | [.rs _ es], some (.slice _) => ret (.i .i64 es.length)
      | [.nl], some (.slice _) => ret (.i .i64 0)
      | [.sl _ _ n], some (.slice _) => ret (.i .i64 n)
      | [.s a], some .string => ret (.i .i64 a.size)
      | _, _ => none
    | .builtin .max => match c.args.toList.map (val st) with
      | x :: r => match best bmax x r with
        | some v => ret v
        | none => none
      | [] => none
    | .builtin .min => match c.args.toList.map (val st) with
      | x :: r => match best bmin x r with
        | some v => ret v
        | none => none
      | [] => none
    | .value f => match val st f with
      | .fn g caps => cond (freeL P 0 (fitArgs P c.argTypes.toList (c.args.toList.map (val st)) ++ caps)) (match S g (fitArgs P c.argTypes.toList (c.args.toList.map (val st)) ++ caps) with
        | some (pre, v) => cond pre (ret v) none
        | none => none) none
      | _ => none
    | _ => none
  | _ => none

/-- The row that an operation reads or writes. -/
def acc (o : Oper) (st : St) : Option Nat :=
  match o.op with
  | .load _ a | .store _ a _ | .indexAddr _ a _ => match val st a with
    | .p id _ _ => some id
    | .sl id _ _ => some id
    | _ => none
  | _ => none
def memS (o : Oper) : Bool := match o.op with
  | .load .. | .store .. | .indexAddr .. => true
  | _ => false
def isStore (o : Oper) : Bool := match o.op with
  | .store .. => true
  | _ => false
/-- What must be done before an operation: bits. -/
def befRow (Ms : List Nat) (o : Oper) : Nat := o.after.toList.foldl (fun m e => cond (Region.binds .any e) ((m ||| (2 ^ e.on)) ||| Ms.getD e.on 0) m) 0
def befs (ops : Array Oper) : List Nat := ops.toList.foldl (fun Ms o => Ms ++ [befRow Ms o]) []
/-- The temporaries that an operation names. -/
def looks (ops : Array Oper) (o : Oper) : List Nat :=
  (o.op.operands.toList.filterMap fun | .tmp t => some t | _ => none) ++
  (match o.guard with
   | some (g, _) => ((ops[g]?).bind (·.dst)).toList
   | none => [])
def has (l : List Nat) (x : Nat) : Bool := l.any (Nat.beq x)
/-- Must two operations stay in the text's order? -/
def clash (ops : Array Oper) (x y : Oper) : Bool :=
  (match x.dst with
   | some d => has (looks ops y) d || (match y.dst with | some d' => Nat.beq d d' | none => false)
   | none => false) ||
  (match y.dst with
   | some d => has (looks ops x) d
   | none => false) ||
  (memS x && (memS y && (isStore x || isStore y)))
def drawRows (ops : Array Oper) (Ms : List Nat) : List Oper → Nat → Bool
  | [], _ => true
  | o :: r, j => Nat.beq (Ms.getD j 0) (befRow Ms o) && (Nat.blt (Ms.getD j 0) (2 ^ j) && ((List.range j).all (fun i => (match ops[i]? with
      | some x => !clash ops x o || Nat.testBit (Ms.getD j 0) i
      | none => true)) && drawRows ops Ms r (j + 1)))
/-- A region whose order is drawn, and may be taken in the text's order. -/
def drawOK (ops : Array Oper) : Bool := drawRows ops (befs ops) ops.toList 0
def accOK (Ms : List Nat) (base : Nat) (j : Nat) (o : Oper) (st : St) : Bool :=
  match acc o st with
  | none => true
  | some id => Nat.blt id base || Nat.testBit (Ms.getD j 0) (id - base)
def chkOf (ops : Array Oper) (draw : Bool) (base : Nat) : Nat → Oper → St → Bool := cond draw (accOK (befs ops) base) (fun _ _ _ => true)

def evOps (all : Array Oper) (base : Nat) (chk : Nat → Oper → St → Bool) : List Oper → Nat → St → (St → Option ρ) → Option ρ
  | [], _, st, K => K st
  | o :: r, j, st, K => cond (((o.dst.map (Nat.blt · st.nt)).getD true) && chk j o st) (
    match o.guard with
    | none => evOp P S RO (base + j) o st fun e => evOps all base chk r (j + 1) (st.app o.dst e) K
    | some (g, want) => match (all[g]?).bind (·.dst) with
      | none => none
      | some tg => match gt st.t tg with
        | .b x => cond x
            (cond want (evOp P S RO (base + j) o (st.put (some tg) (.b true)) fun e => evOps all base chk r (j + 1) ((st.put (some tg) (.b true)).app o.dst e) K) (evOps all base chk r (j + 1) ((st.put (some tg) (.b true)).put o.dst (.tup [])) K))
            (cond want (evOps all base chk r (j + 1) ((st.put (some tg) (.b false)).put o.dst (.tup [])) K) (evOp P S RO (base + j) o (st.put (some tg) (.b false)) fun e => evOps all base chk r (j + 1) ((st.put (some tg) (.b false)).app o.dst e) K))
        | .tup [] => evOps all base chk r (j + 1) (st.put o.dst (.tup [])) K
        | _ => none) none

inductive Ex where
  | nrm
  | ext (id : Nat)
  | ret
  deriving DecidableEq, Inhabited

/-- What is kept at a loop's head: these temporaries, and the rows with numbers below nb, as far as they lead to no others. -/
def keepV (nb : Nat) (v : AV) : AV := cond (free P nb v) v .u
def keepB (nb : Nat) (b : Blk) : Blk := cond (freeB P nb b) b .dead
def norm (keep : List Nat) (nb : Nat) (st : St) : Option St :=
  cond (Nat.ble nb st.nx)
    (some { t := keep.map fun k => (k, keepV P nb (gt st.t k)), m := (List.range nb).map fun id => (id, keepB P nb (gm st.m id)), nx := nb, nt := st.nt }) none

/-- Places in code: the way from the root, its end first. -/
abbrev Pl := List Bool
/-- What loops give, by their place in the code. -/
abbrev LSpec := Pl → St → Option (Bool × Ex × St)
variable (L : LSpec)

def evC : Code → Pl → St → (Ex → St → Option ρ) → Option ρ
  | .skip, _, st, K => K .nrm st
  | .region _ ops draw, _, st, K => cond (!draw || drawOK ops) (evOps P S RO ops st.nx (chkOf ops draw st.nx) ops.toList 0 st fun st => K .nrm { st with nx := st.nx + ops.size }) none
  | .seq a b, p, st, K => evC a (false :: p) st fun e st => match e with
    | .nrm => evC b (true :: p) st K
    | e => K e st
  | .cond c a b, p, st, K => match c, val st c with
    | .tmp t, .b x => cond x (evC a (false :: p) (st.put (some t) (.b true)) K) (evC b (true :: p) (st.put (some t) (.b false)) K)
    | _, .b x => cond x (evC a (false :: p) st K) (evC b (true :: p) st K)
    | _, _ => none
  | .block id c, p, st, K => evC c (false :: p) st fun e st => match e with
    | .ext j => cond (Nat.beq j id) (K .nrm st) (K (.ext j) st)
    | e => K e st
  | .loop _, p, st, K => match L p st with
    | some (pre, e, st) => cond pre (K e st) none
    | none => none
  | .rangeFunc _ _ _ _, p, st, K => match L p st with
    | some (pre, e, st) => cond pre (K e st) none
    | none => none
  | .exit id, _, st, K => K (.ext id) st
  | .ret, _, st, K => K .ret st
  | _, _, _, _ => none

/-- What a function hands back. -/
def resV (st : St) : ResultVar → Option AV
  | .tmp t => some (gt st.t t)
  | .cell a t => look P st t (gt st.t a) some
def resVs (st : St) : List ResultVar → Option (List AV)
  | [] => some []
  | r :: rs => match resV P st r, resVs st rs with
    | some v, some vs => some (v :: vs)
    | _, _ => none
def retV (fn : Func) (st : St) : Option AV :=
  match resVs P st fn.results.toList with
  | some [v] => some v
  | some vs => some (.tup vs)
  | none => none
def nums {α : Type} : Nat → List α → List (Nat × α)
  | _, [] => []
  | j, a :: l => (j, a) :: nums (j + 1) l
def initSt (nt : Nat) (args : List AV) : St := { t := nums 0 args, m := [], nx := 0, nt := nt }
/-- What is handed back leads to no row of the function's own. -/
def retK (fn : Func) (st : St) : Option AV :=
  match retV P fn st with
  | some v => cond (free P 0 v) (some v) none
  | none => none
def evF (fn : Func) (args : List AV) : Option AV :=
  match fn.body with
  | some c => cond (Nat.ble args.length fn.ntmps) (evC P S RO L c [] (initSt fn.ntmps args) fun e st => match e with
    | .ret => retK P fn st
    | .nrm => retK P fn st
    | .ext _ => none) none
  | none => none
end
end Go.Ev
