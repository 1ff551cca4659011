/-
A small deterministic machine over values without addresses: its values, its memory, its code, its steps. How the machine's values and memory stand for the model's values and world. The ways in which both memories move on together. Single operations: what the machine's comes to, the model's comes to. Single operations, from the memory's on. Single operations: what is made new, what is appended, what is sliced. Single operations: structs, append, slicing; all of them together. append, and all single operations together.
Conditions: none beyond those that each theorem states.
-/
import Derived.Calls
import Derived.Orders
import Derived.Laws.Sem
import Derived.Laws.World
import Derived.Laws.Rows
import Derived.Laws.Entries
import Derived.Laws.AppendOwn
import Derived.Laws.CopyRow
import Derived.Laws.Slices
import Derived.Laws.Strings
import Derived.Laws.Strings2
import Derived.Laws.Small
import Derived.Laws.Unary
import Derived.Laws.Tables
import Derived.Great.BuildSlice
import Derived.Laws.Append
import Derived.Laws.StructEq
set_option linter.all false
namespace Go.Proofs.YtplgdddfhjpojaaGreat.AM
open Go

/-- Data without handles: what a cell holds. `sl`: a slice that nobody writes any more, by its elements' cells. `nil`: a slice known to be nil. -/
inductive D where
  | int (k : IntKind) (n : Int)
  | bool (b : Bool)
  | str (l : List UInt8)
  | nil
  | sl (xs : List (List D))

/-- Values. `ptr h sz i f`: cell f of element i of object h. `eptr c f`: cell f of an element c that nobody writes. `hs h sz i n`: a slice of object h. `nn`: a slice that is not nil. -/
inductive AV where
  | d (x : D)
  | ptr (h sz i f : Nat)
  | eptr (c : List D) (f : Nat)
  | hs (h sz i n : Nat)
  | fn (f : Nat) (caps : List AV)
  | agg (cs : List AV)
  | tup (vs : List AV)
  | nn (xs : List (List D))
  | undef

inductive AO where
  | box (cs : List AV)
  | arr (sz : Nat) (es : List (List D)) (wr : Bool)
  | dead

abbrev St := List AO
abbrev Env := List (Nat × AV)

def eget : Env → Nat → AV
  | [], _ => .undef
  | (t, v) :: e, x => if t = x then v else eget e x

def put (ρ : Nat → AV) : Option Nat → AV → Nat → AV
  | some t, v => fun x => if t = x then v else ρ x
  | none, _ => ρ

inductive AOpd where
  | t (n : Nat)
  | k (d : D)
  | f (i : Nat)

def AOpd.ev (ρ : Nat → AV) : AOpd → AV
  | .t n => ρ n
  | .k d => .d d
  | .f i => .fn i []

/-- How a cell is handed on where handles end: as it is, frozen, or (a nil slice) as an own empty slice, or as an own empty slice whose cells may hold handles. -/
inductive CV where
  | keep
  | fz
  | ow (sz : Nat)
  | owb (sz : Nat)

inductive AOp where
  | mv (x : AOpd)
  | pick (c a b : AOpd)
  | alloc (z : List AV)
  | box (x : AOpd)
  | build (z : List AV) (ps : List (Nat × Nat × AOpd))
  | bslice (sz : Nat) (z : List D) (n : Nat) (ps : List (Nat × AOpd))
  | bslq (sz : Nat) (z : List D) (n : Nat) (ps : List (Nat × AOpd))
  | brow (sz : Nat) (z : List D) (n : Nat) (ps : List (Nat × AOpd))
  | isnil (x : AOpd)
  | dsl (sz : Nat) (z : List D) (n : Nat) (ps : List (Nat × AOpd))
  | ldb (n : Option Nat) (x : AOpd)
  | ldg (n : Option Nat) (x g : AOpd)
  | callg (ms : List Bool) (f : AOpd) (args : List AOpd) (g : AOpd)
  | load (n : Option Nat) (x : AOpd)
  | store (n : Nat) (a v : AOpd)
  | nilc (x : AOpd)
  | bin (op : BinOp) (x y : AOpd)
  | eqb (neg : Bool) (x y : AOpd)
  | eqs (ks : List Nat) (neg : Bool) (x y : AOpd)
  | un (op : UnOp) (x : AOpd)
  | conv (k : IntKind) (x : AOpd)
  | convs (x : AOpd)
  | faddr (off : Nat) (x : AOpd)
  | fld (off : Nat) (n : Option Nat) (x : AOpd)
  | iaddr (sz : Nat) (x i : AOpd)
  | stri (x i : AOpd)
  | len (x : AOpd)
  | slen (x : AOpd)
  | append (sz : Nat) (x y : AOpd)
  | appb (sz : Nat) (x y : AOpd)
  | slice0 (sz : Nat) (x : AOpd)
  | slice (sz : Nat) (x : AOpd) (lo hi : Option AOpd)
  | strs (x : AOpd) (lo hi : Option AOpd)
  | ext (x : AOpd) (i : Nat)
  | mkfn (f : Nat) (caps : List AOpd)
  | max (x y : AOpd)
  | min (x y : AOpd)
  | mksl (sz : Nat) (z : List D) (n c : AOpd)
  | mkrow (sz : Nat) (z : List D) (n c : AOpd)
  | b2s (x : AOpd)
  | pcall (f : AOpd) (args : List AOpd)
  | lcall (f : AOpd) (args : List AOpd)
  | call (q : Bool) (ms : List Bool) (f : AOpd) (args : List AOpd)
  | refuse

structure AI where
  dst : Option Nat
  guard : Option (Nat × Bool)
  op : AOp

inductive AC where
  | skip
  | reg (draw : Bool) (ops : List AI) (kp : List Nat)
  | seq (a b : AC)
  | cond (c : AOpd) (a b : AC)
  | block (id : Nat) (c : AC)
  | loop (kp : List (Nat × CV)) (c : AC)
  | kp (kp : List (Nat × CV)) (c : AC)
  | exit (id : Nat)
  | ret
  | refuse

inductive ARes where
  | t (n : Nat)
  | cell (n : Nat) (k : Option Nat)

structure AFunc where
  np : Nat
  res : List ARes
  cv : List (List CV)
  body : AC

/-! ### Plain operations -/

def astr (op : BinOp) (a b : List UInt8) : Option D :=
  match op with
  | .add => if a.length + b.length ≤ 4611686018427387904 then some (.str (a ++ b)) else none
  | .eql => some (.bool (a == b))
  | .neq => some (.bool (!(a == b)))
  | _ => none

def aint (op : BinOp) (k : IntKind) (a b : Int) : Option D :=
  match op with
  | .add => some (.int k (k.wrap (a + b)))
  | .sub => some (.int k (k.wrap (a - b)))
  | .mul => some (.int k (k.wrap (a * b)))
  | .quo => if b = 0 then none else some (.int k (k.wrap (a.tdiv b)))
  | .rem => if b = 0 then none else some (.int k (a.tmod b))
  | .and => some (.int k (k.wrap (BitVec.ofInt k.bits a &&& BitVec.ofInt k.bits b).toNat))
  | .or => some (.int k (k.wrap (BitVec.ofInt k.bits a ||| BitVec.ofInt k.bits b).toNat))
  | .xor => some (.int k (k.wrap (BitVec.ofInt k.bits a ^^^ BitVec.ofInt k.bits b).toNat))
  | .eql => some (.bool (a == b))
  | .neq => some (.bool (a != b))
  | .lss => some (.bool (decide (a < b)))
  | .leq => some (.bool (decide (a ≤ b)))
  | .gtr => some (.bool (decide (a > b)))
  | .geq => some (.bool (decide (a ≥ b)))
  | _ => none

def ashift (left : Bool) (k : IntKind) (a b : Int) : Option D :=
  if b < 0 then none
  else if left then some (.int k (k.wrap (a * 2 ^ (min b.toNat k.bits))))
  else some (.int k (a.fdiv (2 ^ (min b.toNat k.bits))))

def abin (op : BinOp) : D → D → Option D
  | .int k a, .int k' b =>
    match op with
    | .shl => ashift true k a b
    | .shr => ashift false k a b
    | op => if k = k' then aint op k a b else none
  | .str a, .str b => astr op a b
  | _, _ => none

def aun (op : UnOp) : D → Option D
  | .int k a =>
    match op with
    | .neg => some (.int k (k.wrap (0 - a)))
    | .xor => some (.int k (k.wrap (BitVec.ofInt k.bits (if k.signed then -1 else k.max) ^^^ BitVec.ofInt k.bits a).toNat))
    | _ => none
  | .bool b => match op with
    | .not => some (.bool (!b))
    | _ => none
  | _ => none

def AV.cells : AV → List AV
  | .agg cs => cs
  | v => [v]

def sol : AV → Bool
  | .d _ => true
  | .ptr .. => true
  | .eptr .. => true
  | .hs .. => true
  | .fn .. => true
  | _ => false

def solL : List AV → Bool
  | [] => true
  | v :: vs => sol v && solL vs

/-! ### Handles -/
mutual
def hOf : AV → List Nat
  | .ptr h _ _ _ => [h]
  | .hs h _ _ _ => [h]
  | .fn _ cs => hOfL cs
  | .agg cs => hOfL cs
  | .tup cs => hOfL cs
  | _ => []
def hOfL : List AV → List Nat
  | [] => []
  | v :: vs => hOf v ++ hOfL vs
end

mutual
def ren (g : Nat → Option Nat) : AV → AV
  | .ptr h sz i f => match g h with | some j => .ptr j sz i f | none => .undef
  | .hs h sz i n => match g h with | some j => .hs j sz i n | none => .undef
  | .fn f cs => .fn f (renL g cs)
  | .agg cs => .agg (renL g cs)
  | .tup cs => .tup (renL g cs)
  | v => v
def renL (g : Nat → Option Nat) : List AV → List AV
  | [] => []
  | v :: vs => ren g v :: renL g vs
end

def renO (g : Nat → Option Nat) : AO → AO
  | .box cs => .box (renL g cs)
  | o => o

def renS (g : Nat → Option Nat) : List AO → List AO
  | [] => []
  | o :: os => renO g o :: renS g os

def ddup : List Nat → List Nat → List Nat
  | [], acc => acc
  | h :: t, acc => if h ∈ acc then ddup t acc else ddup t (acc ++ [h])

def boxH (st : St) (h : Nat) : List Nat :=
  match st[h]? with
  | some (.box cs) => hOfL cs
  | _ => []

def boxHs (st : St) : List Nat → List Nat
  | [] => []
  | h :: t => boxH st h ++ boxHs st t

def reach (st : St) (l : List Nat) : List Nat :=
  let a := ddup l []
  let b := ddup (boxHs st a) a
  ddup (boxHs st b) b

def idx : List Nat → Nat → Option Nat
  | [], _ => none
  | a :: l, h => if a = h then some 0 else match idx l h with | some j => some (j + 1) | none => none

def pickO (st : St) : List Nat → Option (List AO)
  | [] => some []
  | h :: t => match st[h]? with
    | some o => match pickO st t with
      | some os => some (o :: os)
      | none => none
    | none => none

/-- Drop what is not reached, and number anew; the first m objects stay. -/
def gc (m : Nat) (vs : List AV) (st : St) : Option (List AV × St) :=
  let ord := reach st (List.range m ++ hOfL vs)
  match pickO st ord with
  | some os => some (renL (idx ord) vs, renS (idx ord) os)
  | none => none

/-! ### Freezing -/
def frza (st : St) : AV → Option (D × St)
  | .d .nil => some (.sl [], st)
  | .d x => some (x, st)
  | .hs h sz i n => match st[h]? with
    | some (.arr sz' es _) =>
      if sz' = sz ∧ i + n ≤ es.length then some (.sl ((es.drop i).take n), st.set h (.arr sz' es false)) else none
    | _ => none
  | _ => none

def frzaL (st : St) : List AV → Option (List D × St)
  | [] => some ([], st)
  | v :: vs => match frza st v with
    | some (x, st1) => match frzaL st1 vs with
      | some (xs, st2) => some (x :: xs, st2)
      | none => none
    | none => none

/-- Cells as rows. -/
def chunk (sz : Nat) : Nat → List D → List (List D)
  | 0, _ => []
  | n + 1, ds => ds.take sz :: chunk sz n (ds.drop sz)

/-- A box whose cells a slice shows is frozen: what its cells show is frozen, and the box is given up. -/
def frzb (st : St) (h sz i n : Nat) (cs : List AV) : Option (D × St) :=
  if (i + n) * sz ≤ cs.length then
    match frzaL st cs with
    | some (ds, st1) => some (.sl (chunk sz n (ds.drop (i * sz))), st1.set h .dead)
    | none => none
  else none

def frz1 (st : St) : AV → Option (D × St)
  | .d .nil => some (.sl [], st)
  | .d x => some (x, st)
  | .hs h sz i n => match st[h]? with
    | some (.arr sz' es _) =>
      if sz' = sz ∧ i + n ≤ es.length then some (.sl ((es.drop i).take n), st.set h (.arr sz' es false)) else none
    | some (.box cs) => frzb st h sz i n cs
    | _ => none
  | _ => none

def frzL (st : St) : List AV → Option (List D × St)
  | [] => some ([], st)
  | v :: vs => match frz1 st v with
    | some (x, st1) => match frzL st1 vs with
      | some (xs, st2) => some (x :: xs, st2)
      | none => none
    | none => none

def conv1 (cv : CV) (v : AV) (st : St) : Option (AV × St) :=
  match cv with
  | .keep => some (v, st)
  | .fz => match v with
    | .hs h sz i n => match frz1 st (.hs h sz i n) with
      | some (x, st1) => some (.d x, st1)
      | none => none
    | .d .nil => some (.d (.sl []), st)
    | v => some (v, st)
  | .ow sz => match v with
    | .d .nil => some (.hs st.length sz 0 0, st ++ [.arr sz [] true])
    | v => some (v, st)
  | .owb sz => match v with
    | .d .nil => some (.hs st.length sz 0 0, st ++ [.box []])
    | v => some (v, st)

def convL : List CV → List AV → St → Option (List AV × St)
  | _, [], st => some ([], st)
  | cvs, v :: vs, st => match conv1 (cvs.headD .fz) v st with
    | some (v', st1) => match convL cvs.tail vs st1 with
      | some (vs', st2) => some (v' :: vs', st2)
      | none => none
    | none => none

def convV (cvs : List CV) (v : AV) (st : St) : Option (AV × St) :=
  match v with
  | .agg cs => match convL cvs cs st with
    | some (cs', st1) => some (.agg cs', st1)
    | none => none
  | v => conv1 (cvs.headD .fz) v st

def convVs : List (List CV) → List AV → St → Option (List AV × St)
  | _, [], st => some ([], st)
  | cvs, v :: vs, st => match convV (cvs.headD []) v st with
    | some (v', st1) => match convVs cvs.tail vs st1 with
      | some (vs', st2) => some (v' :: vs', st2)
      | none => none
    | none => none

/-! ### Memory -/
def rdC (cs : List AV) (f : Nat) : Option Nat → Option AV
  | none => cs[f]?
  | some n => if f + n ≤ cs.length then some (.agg ((cs.drop f).take n)) else none

def rdD (c : List D) (f : Nat) : Option Nat → Option AV
  | none => match c[f]? with | some x => some (.d x) | none => none
  | some n => if f + n ≤ c.length then some (.agg (((c.drop f).take n).map .d)) else none

def rd (lim : Nat) (st : St) (n : Option Nat) : AV → Option AV
  | .ptr h sz i f =>
    if h < lim then
      match st[h]? with
      | some (.box cs) => rdC cs (i * sz + f) n
      | some (.arr sz' es _) => if sz' = sz then (match es[i]? with | some e => rdD e f n | none => none) else none
      | _ => none
    else none
  | .eptr c f => rdD c f n
  | _ => none

/-- Reading out of a box alone. -/
def rdb (lim : Nat) (st : St) (n : Option Nat) : AV → Option AV
  | .ptr h sz i f =>
    if h < lim then
      match st[h]? with
      | some (.box cs) => rdC cs (i * sz + f) n
      | _ => none
    else none
  | _ => none

def wrt (st : St) (n : Nat) (p v : AV) : Option St :=
  if v.cells.length = n ∧ solL v.cells = true then
    match p with
    | .ptr h sz i f =>
      match st[h]? with
      | some (.box cs) => if i * sz + f + n ≤ cs.length then some (st.set h (.box (cs.take (i * sz + f) ++ (v.cells ++ cs.drop (i * sz + f + n))))) else none
      | some (.arr sz' _ _) =>
        match frzL st v.cells with
        | some (ds, st1) =>
          match st1[h]? with
          | some (.arr _ es true) =>
            match es[i]? with
            | some e => if sz' = sz ∧ f + n ≤ e.length then some (st1.set h (.arr sz' (es.set i (e.take f ++ (ds ++ e.drop (f + n)))) true)) else none
            | none => none
          | _ => none
        | none => none
      | _ => none
    | _ => none
  else none

def fillE (ρ : Nat → AV) (sz : Nat) : List (Nat × AOpd) → List (List D) → St → Option (List (List D) × St)
  | [], es, st => some (es, st)
  | (i, x) :: ps, es, st => match frzL st (x.ev ρ).cells with
    | some (ds, st1) => if ds.length = sz ∧ i < es.length then fillE ρ sz ps (es.set i ds) st1 else none
    | none => none

def fillQ (ρ : Nat → AV) (sz : Nat) : List (Nat × AOpd) → List (List D) → St → Option (List (List D) × St)
  | [], es, st => some (es, st)
  | (i, x) :: ps, es, st => match frzaL st (x.ev ρ).cells with
    | some (ds, st1) => if ds.length = sz ∧ i < es.length then fillQ ρ sz ps (es.set i ds) st1 else none
    | none => none

/-- Plain data. -/
def dL : List AV → Option (List D)
  | [] => some []
  | .d .nil :: vs => match dL vs with | some xs => some (.sl [] :: xs) | none => none
  | .d x :: vs => match dL vs with | some xs => some (x :: xs) | none => none
  | _ :: _ => none

def fillP (ρ : Nat → AV) (sz : Nat) : List (Nat × AOpd) → List (List D) → Option (List (List D))
  | [], es => some es
  | (i, x) :: ps, es => match dL (x.ev ρ).cells with
    | some ds => if ds.length = sz ∧ i < es.length then fillP ρ sz ps (es.set i ds) else none
    | none => none

def fillC (ρ : Nat → AV) : List (Nat × Nat × AOpd) → List AV → Option (List AV)
  | [], cs => some cs
  | (off, size, x) :: ps, cs =>
    if (x.ev ρ).cells.length = size ∧ solL (x.ev ρ).cells = true ∧ off + size ≤ cs.length then fillC ρ ps (cs.take off ++ ((x.ev ρ).cells ++ cs.drop (off + size))) else none

def okSz (sz : Nat) (xs : List (List D)) : Bool := xs.all fun e => e.length == sz

def elemsOf (st : St) (sz : Nat) : AV → Option (List (List D))
  | .d (.sl ys) => if okSz sz ys then some ys else none
  | .d .nil => some []
  | .nn ys => if okSz sz ys then some ys else none
  | .d (.str l) => if sz = 1 then some (l.map fun b => [.int .u8 b.toNat]) else none
  | .hs h sz' i n => match st[h]? with
    | some (.arr sz'' es _) => if sz' = sz ∧ sz'' = sz ∧ i + n ≤ es.length then some ((es.drop i).take n) else none
    | _ => none
  | _ => none

def maxApp : Nat := 4294967296

def app (st : St) (sz : Nat) (x y : AV) : Option (AV × St) :=
  match elemsOf st sz y with
  | some ys =>
    match x with
    | .d .nil => if ys.length ≤ maxApp then some (.hs st.length sz 0 ys.length, st ++ [.arr sz ys true]) else none
    | .hs h sz' i n => match st[h]? with
      | some (.arr sz'' es true) =>
        if sz' = sz ∧ sz'' = sz ∧ i + n ≤ es.length ∧ n + ys.length ≤ maxApp then
          some (.hs st.length sz 0 (n + ys.length), st.set h .dead ++ [.arr sz ((es.drop i).take n ++ ys) true])
        else none
      | _ => none
    | _ => none
  | none => none

/-- The cells that a slice shows, with their count of elements. -/
def cellsY (st : St) (sz : Nat) (y : AV) : Option (Nat × List AV) :=
  match y with
  | .hs h sz' i n => match st[h]? with
    | some (.box cs) => if sz' = sz ∧ (i + n) * sz ≤ cs.length ∧ solL ((cs.drop (i * sz)).take (n * sz)) = true then some (n, (cs.drop (i * sz)).take (n * sz)) else none
    | _ => none
  | y => match elemsOf st sz y with
    | some ys => if okSz sz ys then some (ys.length, ys.flatten.map .d) else none
    | none => none

/-- append to a slice whose cells may hold handles. -/
def appb (st : St) (sz : Nat) (x y : AV) : Option (AV × St) :=
  match cellsY st sz y with
  | some (m, ys) =>
    match x with
    | .d .nil => if m ≤ maxApp then some (.hs st.length sz 0 m, st ++ [.box ys]) else none
    | .hs h sz' i n => match st[h]? with
      | some (.box cs) =>
        if sz' = sz ∧ i = 0 ∧ n * sz ≤ cs.length ∧ n + m ≤ maxApp then
          some (.hs st.length sz 0 (n + m), st.set h .dead ++ [.box (cs.take (n * sz) ++ ys)])
        else none
      | _ => none
    | _ => none
  | none => none

def rowCells (n : Nat) (z : List D) : List AV := (List.replicate n z).flatten.map .d

def aIx : AV → Option Int
  | .d (.int _ n) => some n
  | _ => none

def orV (ρ : Nat → AV) (n : Int) : Option AOpd → Option Int
  | none => some n
  | some x => aIx (x.ev ρ)

/-- The bounds of a slicing, out of the operands and the length. -/
def bnds (ρ : Nat → AV) (n : Nat) (lo hi : Option AOpd) : Option (Nat × Nat) :=
  match orV ρ 0 lo, orV ρ n hi with
  | some l, some h => if 0 ≤ l ∧ l ≤ h ∧ h ≤ n then some (l.toNat, h.toNat) else none
  | _, _ => none

def slc (ρ : Nat → AV) (sz : Nat) (x : AV) (lo hi : Option AOpd) : Option AV :=
  match x with
  | .d (.sl xs) => match bnds ρ xs.length lo hi with
    | some (l, h) => if okSz sz xs then some (.d (.sl ((xs.take h).drop l))) else none
    | none => none
  | .d .nil => match bnds ρ 0 lo hi with
    | some _ => some (.d .nil)
    | none => none
  | .hs o sz' i n => match bnds ρ n lo hi with
    | some (l, h) => if sz' = sz then some (.hs o sz (i + l) (h - l)) else none
    | none => none
  | _ => none

def strs (ρ : Nat → AV) (x : AV) (lo hi : Option AOpd) : Option AV :=
  match x with
  | .d (.str s) => match bnds ρ s.length lo hi with
    | some (l, h) => some (.d (.str ((s.take h).drop l)))
    | none => none
  | _ => none

def iadr (sz : Nat) (x i : AV) : Option AV :=
  match aIx i with
  | some n =>
    match x with
    | .d (.sl xs) => if 0 ≤ n then (match xs[n.toNat]? with | some e => if e.length = sz then some (.eptr e 0) else none | none => none) else none
    | .hs h sz' j m => if sz' = sz ∧ 0 ≤ n ∧ n < m then some (.ptr h sz (j + n.toNat) 0) else none
    | _ => none
  | none => none

def alen : AV → Option AV
  | .d (.sl xs) => some (.d (.int .i64 xs.length))
  | .d .nil => some (.d (.int .i64 0))
  | .hs _ _ _ n => some (.d (.int .i64 n))
  | _ => none

/-! ### Calls -/
def brw1 (st : St) : AV → Option (AV × List Nat)
  | .hs h sz i n => match st[h]? with
    | some (.arr sz' es _) => if sz' = sz ∧ i + n ≤ es.length then some (.d (.sl ((es.drop i).take n)), [h]) else none
    | _ => none
  | .d .nil => some (.d (.sl []), [])
  | v => some (v, [])

def brwL (st : St) : List AV → Option (List AV × List Nat)
  | [] => some ([], [])
  | v :: vs => match brw1 st v with
    | some (v', b) => match brwL st vs with
      | some (vs', bs) => some (v' :: vs', b ++ bs)
      | none => none
    | none => none

def brw (st : St) : AV → Option (AV × List Nat)
  | .agg cs => match brwL st cs with
    | some (cs', b) => some (.agg cs', b)
    | none => none
  | v => brw1 st v

def brwA (st : St) : List Bool → List AV → Option (List AV × List Nat)
  | _, [] => some ([], [])
  | ms, v :: vs => match (if ms.headD false then some (v, []) else brw st v) with
    | some (v', b) => match brwA st ms.tail vs with
      | some (vs', bs) => some (v' :: vs', b ++ bs)
      | none => none
    | none => none

mutual
def noSl : AV → Bool
  | .d (.int ..) => true
  | .d (.bool _) => true
  | .d (.str _) => true
  | .agg cs => noSlL cs
  | .tup cs => noSlL cs
  | _ => false
def noSlL : List AV → Bool
  | [] => true
  | v :: vs => noSl v && noSlL vs
end

def setAll : St → List Nat → List AO → St
  | st, h :: hs, o :: os => setAll (st.set h o) hs os
  | st, _, _ => st

def frzAll (st : St) : List Nat → St
  | [] => st
  | h :: t => match st[h]? with
    | some (.arr sz es _) => frzAll (st.set h (.arr sz es false)) t
    | _ => frzAll st t

def back (ord : List Nat) (base : Nat) (j : Nat) : Option Nat :=
  match ord[j]? with
  | some h => some h
  | none => some (base + (j - ord.length))

abbrev Orc := Nat → List AV → St → Option (AV × St)

def mcall (C : Orc) (q : Bool) (ms : List Bool) (f : Nat) (vs : List AV) (st : St) : Option (AV × St) :=
  match brwA st ms vs with
  | none => none
  | some (as, bl) =>
    match reach (frzAll st bl) (hOfL as) with
    | [] =>
      match C f (renL (idx []) as) [] with
      | none => none
      | some (v, []) => if noSl v then some (v, st) else if q && !bl.isEmpty then none else some (ren (back [] st.length) v, frzAll st bl)
      | some (v, o :: os) => if q && !bl.isEmpty then none else some (ren (back [] st.length) v, frzAll st bl ++ renS (back [] st.length) (o :: os))
    | h :: t =>
      if q then none else
      match pickO (frzAll st bl) (h :: t) with
      | none => none
      | some os =>
        match C f (renL (idx (h :: t)) as) (renS (idx (h :: t)) os) with
        | none => none
        | some (v, st') =>
          if (h :: t).length ≤ st'.length then
            some (ren (back (h :: t) st.length) v, setAll (frzAll st bl) (h :: t) (renS (back (h :: t) st.length) st') ++ renS (back (h :: t) st.length) (st'.drop (h :: t).length))
          else none

/-- A call that is handed no handle and gives plain data. -/
def pcal (C : Orc) (f : Nat) (vs : List AV) : Option AV :=
  match brwA [] [] vs with
  | some (as, []) =>
    match hOfL as with
    | [] => match C f (renL (idx []) as) [] with
      | some (v, []) => if noSl v then some v else none
      | _ => none
    | _ => none
  | _ => none

/-! A call that is lent all it is handed: for reading. -/
def lendA (lim : Nat) (st : St) : AV → Option D
  | .d x => some x
  | .hs h sz i n => if h < lim then (match st[h]? with
    | some (.arr sz' es _) => if sz' = sz ∧ i + n ≤ es.length then some (.sl ((es.drop i).take n)) else none
    | _ => none) else none
  | _ => none

def lendAC (lim : Nat) (st : St) : List AV → Option (List D)
  | [] => some []
  | v :: vs => match lendA lim st v with
    | some x => match lendAC lim st vs with
      | some xs => some (x :: xs)
      | none => none
    | none => none

def lendB (lim : Nat) (st : St) (sz i n : Nat) (cs : List AV) : Option D :=
  if (i + n) * sz ≤ cs.length then
    match lendAC lim st cs with
    | some ds => some (.sl (chunk sz n (ds.drop (i * sz))))
    | none => none
  else none

def lendD (lim : Nat) (st : St) : AV → Option D
  | .d x => some x
  | .hs h sz i n => if h < lim then (match st[h]? with
    | some (.arr sz' es _) => if sz' = sz ∧ i + n ≤ es.length then some (.sl ((es.drop i).take n)) else none
    | some (.box cs) => lendB lim st sz i n cs
    | _ => none) else none
  | _ => none

def lendC (lim : Nat) (st : St) : List AV → Option (List D)
  | [] => some []
  | v :: vs => match lendD lim st v with
    | some x => match lendC lim st vs with
      | some xs => some (x :: xs)
      | none => none
    | none => none

def lendP (lim : Nat) (st : St) (h sz i f : Nat) : Option AV :=
  if h < lim then
    match st[h]? with
    | some (.box cs) => (match lendC lim st cs with | some ds => some (.eptr ds (i * sz + f)) | none => none)
    | some (.arr sz' es _) => if sz' = sz then (match es[i]? with | some e => some (.eptr e f) | none => none) else none
    | _ => none
  else none

def lendH (lim : Nat) (st : St) (h sz i n : Nat) : Option AV :=
  match lendD lim st (.hs h sz i n) with
  | some x => some (.d x)
  | none => none

mutual
def lend (lim : Nat) (st : St) : AV → Option AV
  | .d .nil => some (.d (.sl []))
  | .d x => some (.d x)
  | .hs h sz i n => lendH lim st h sz i n
  | .ptr h sz i f => lendP lim st h sz i f
  | .eptr c f => some (.eptr c f)
  | .fn f cs => match lendL lim st cs with | some cs' => some (.fn f cs') | none => none
  | .agg cs => match lendL lim st cs with | some cs' => some (.agg cs') | none => none
  | _ => none
def lendL (lim : Nat) (st : St) : List AV → Option (List AV)
  | [] => some []
  | v :: vs => match lend lim st v with
    | some v' => match lendL lim st vs with
      | some vs' => some (v' :: vs')
      | none => none
    | none => none
end

def lcal (C : Orc) (lim f : Nat) (vs : List AV) (st : St) : Option AV :=
  match lendL lim st vs with
  | some as => match C f as [] with
    | some (v, []) => if noSl v then some v else none
    | _ => none
  | none => none

/-- Two structs' cells against each other; the kinds: 0 numbers, 1 truth values, 2 strings. -/
def deqL : List Nat → List AV → List AV → Option Bool
  | [], [], [] => some true
  | 0 :: ks, .d (.int k a) :: xs, .d (.int k' b) :: ys => if k = k' then (match deqL ks xs ys with | some r => some (a == b && r) | none => none) else none
  | 1 :: ks, .d (.bool a) :: xs, .d (.bool b) :: ys => match deqL ks xs ys with | some r => some (a == b && r) | none => none
  | 2 :: ks, .d (.str a) :: xs, .d (.str b) :: ys => match deqL ks xs ys with | some r => some (a == b && r) | none => none
  | _, _, _ => none

def bytesOf : List (List D) → Option (List UInt8)
  | [] => some []
  | [.int .u8 n] :: es => match bytesOf es with | some l => some (UInt8.ofNat n.toNat :: l) | none => none
  | _ => none

def b2sV (st : St) (v : AV) : Option (List UInt8) :=
  match v with
  | .d (.str _) => none
  | .nn _ => none
  | v => match elemsOf st 1 v with | some es => bytesOf es | none => none

/-- The object that a value shows. -/
def hd1 : AV → Option Nat
  | .ptr h _ _ _ => some h
  | .hs h _ _ _ => some h
  | _ => none

/-- An object that a call's arguments do not lead to. -/
def apart (st : St) (ms : List Bool) (vs : List AV) (g : AV) : Bool :=
  match hd1 g with
  | some h => match brwA st ms vs with
    | some (as, bl) => !(reach (frzAll st bl) (hOfL as)).contains h
    | none => false
  | none => false

/-! ### One operation -/
def pair2 (r : Option AV) (st : St) : Option (AV × St) := match r with | some v => some (v, st) | none => none

def dbin (f : D → D → Option D) : AV → AV → Option AV
  | .d x, .d y => match f x y with | some z => some (.d z) | none => none
  | _, _ => none

def evL (ρ : Nat → AV) : List AOpd → List AV
  | [] => []
  | x :: xs => x.ev ρ :: evL ρ xs

def aop (C : Orc) (lim : Nat) (o : AOp) (ρ : Nat → AV) (st : St) : Option (AV × St) :=
  match o with
  | .mv x => some (x.ev ρ, st)
  | .pick c a b => match c.ev ρ with
    | .d (.bool t) => some (if t then a.ev ρ else b.ev ρ, st)
    | _ => none
  | .alloc z => some (.ptr st.length 0 0 0, st ++ [.box z])
  | .box x => if solL (x.ev ρ).cells then some (.ptr st.length 0 0 0, st ++ [.box (x.ev ρ).cells]) else none
  | .build z ps => match fillC ρ ps z with | some cs => some (.agg cs, st) | none => none
  | .bslice sz z n ps => match fillE ρ sz ps (List.replicate n z) st with
    | some (es, st1) => some (.hs st1.length sz 0 n, st1 ++ [.arr sz es true])
    | none => none
  | .bslq sz z n ps => match fillQ ρ sz ps (List.replicate n z) st with
    | some (es, st1) => some (.hs st1.length sz 0 n, st1 ++ [.arr sz es true])
    | none => none
  | .dsl sz z n ps => match fillP ρ sz ps (List.replicate n z) with
    | some es => some (.d (.sl es), st)
    | none => none
  | .ldb n x => pair2 (rdb lim st n (x.ev ρ)) st
  | .ldg n x g => if hd1 (x.ev ρ) = hd1 (g.ev ρ) then (match x.ev ρ with | .ptr h sz i f => pair2 (rd lim st n (.ptr h sz i f)) st | _ => none) else none
  | .callg ms f args g => match f.ev ρ with
    | .fn k caps => if apart st ms (evL ρ args ++ caps) (g.ev ρ) then mcall C false ms k (evL ρ args ++ caps) st else none
    | _ => none
  | .isnil x => match x.ev ρ with
    | .d .nil => some (.d (.bool true), st)
    | .nn _ => some (.d (.bool false), st)
    | .d (.sl (_ :: _)) => some (.d (.bool false), st)
    | .hs _ _ _ (_ + 1) => some (.d (.bool false), st)
    | _ => none
  | .brow sz z n ps => match fillC ρ (ps.map fun p => (p.1 * sz, sz, p.2)) (rowCells n z) with
    | some cs => some (.hs st.length sz 0 n, st ++ [.box cs])
    | none => none
  | .load n x => pair2 (rd lim st n (x.ev ρ)) st
  | .store n a v => match wrt st n (a.ev ρ) (v.ev ρ) with | some st1 => some (.tup [], st1) | none => none
  | .nilc x => match x.ev ρ with
    | .ptr h sz i f => some (.ptr h sz i f, st)
    | .eptr c f => some (.eptr c f, st)
    | _ => none
  | .bin op x y => pair2 (dbin (abin op) (x.ev ρ) (y.ev ρ)) st
  | .eqb neg x y => match x.ev ρ, y.ev ρ with
    | .d (.bool a), .d (.bool b) => some (.d (.bool (if neg then !(a == b) else a == b)), st)
    | _, _ => none
  | .eqs ks neg x y => match x.ev ρ, y.ev ρ with
    | .agg cs, .agg ds => match deqL ks cs ds with
      | some r => some (.d (.bool (if neg then !r else r)), st)
      | none => none
    | _, _ => none
  | .un op x => match x.ev ρ with
    | .d a => match aun op a with | some z => some (.d z, st) | none => none
    | _ => none
  | .conv k x => match x.ev ρ with
    | .d (.int _ n) => some (.d (.int k (k.wrap n)), st)
    | _ => none
  | .convs x => match x.ev ρ with
    | .d (.str l) => some (.d (.str l), st)
    | _ => none
  | .faddr off x => match x.ev ρ with
    | .ptr h sz i f => some (.ptr h sz i (f + off), st)
    | .eptr c f => some (.eptr c (f + off), st)
    | _ => none
  | .fld off n x => match x.ev ρ with
    | .agg cs => pair2 (rdC cs off n) st
    | _ => none
  | .iaddr sz x i => pair2 (iadr sz (x.ev ρ) (i.ev ρ)) st
  | .stri x i => match x.ev ρ, aIx (i.ev ρ) with
    | .d (.str l), some n => if 0 ≤ n then (match l[n.toNat]? with | some b => some (.d (.int .u8 b.toNat), st) | none => none) else none
    | _, _ => none
  | .len x => pair2 (alen (x.ev ρ)) st
  | .slen x => match x.ev ρ with
    | .d (.str l) => some (.d (.int .i64 l.length), st)
    | _ => none
  | .append sz x y => app st sz (x.ev ρ) (y.ev ρ)
  | .appb sz x y => appb st sz (x.ev ρ) (y.ev ρ)
  | .slice0 sz x => match x.ev ρ with
    | .d (.sl _) => some (.hs st.length sz 0 0, st ++ [.arr sz [] true])
    | .d .nil => some (.hs st.length sz 0 0, st ++ [.arr sz [] true])
    | .hs _ _ _ _ => some (.hs st.length sz 0 0, st ++ [.arr sz [] true])
    | _ => none
  | .slice sz x lo hi => pair2 (slc ρ sz (x.ev ρ) lo hi) st
  | .strs x lo hi => pair2 (strs ρ (x.ev ρ) lo hi) st
  | .ext x i => match x.ev ρ with
    | .tup vs => match vs[i]? with | some v => some (v, st) | none => none
    | _ => none
  | .mkfn f caps => some (.fn f (evL ρ caps), st)
  | .max x y => match x.ev ρ, y.ev ρ with
    | .d (.int k a), .d (.int _ b) => some (.d (.int k (if b > a then b else a)), st)
    | _, _ => none
  | .min x y => match x.ev ρ, y.ev ρ with
    | .d (.int k a), .d (.int _ b) => some (.d (.int k (if b < a then b else a)), st)
    | _, _ => none
  | .mksl sz z n c => match aIx (n.ev ρ), aIx (c.ev ρ) with
    | some l, some m => if l = m ∧ 0 ≤ l ∧ l ≤ maxApp then some (.hs st.length sz 0 l.toNat, st ++ [.arr sz (List.replicate l.toNat z) true]) else none
    | _, _ => none
  | .mkrow sz z n c => match aIx (n.ev ρ), aIx (c.ev ρ) with
    | some l, some m => if l = m ∧ 0 ≤ l ∧ l ≤ maxApp then some (.hs st.length sz 0 l.toNat, st ++ [.box (rowCells l.toNat z)]) else none
    | _, _ => none
  | .b2s x => match b2sV st (x.ev ρ) with
    | some l => some (.d (.str l), st)
    | none => none
  | .pcall f args => match f.ev ρ with
    | .fn g caps => pair2 (pcal C g (evL ρ args ++ caps)) st
    | _ => none
  | .lcall f args => match f.ev ρ with
    | .fn g caps => pair2 (lcal C lim g (evL ρ args ++ caps) st) st
    | _ => none
  | .call q ms f args => match f.ev ρ with
    | .fn g caps => mcall C q ms g (evL ρ args ++ caps) st
    | _ => none
  | .refuse => none

def astep (C : Orc) (lim : Nat) (o : AI) (ρ : Nat → AV) (st : St) : Option ((Nat → AV) × St) :=
  match o.guard with
  | none => match aop C lim o.op ρ st with
    | some (v, st1) => some (put ρ o.dst v, st1)
    | none => none
  | some (g, want) => match ρ g with
    | .d (.bool b) => if b = want then (match aop C lim o.op ρ st with
        | some (v, st1) => some (put ρ o.dst v, st1)
        | none => none) else some (put ρ o.dst (.tup []), st)
    | .tup [] => some (put ρ o.dst (.tup []), st)
    | _ => none

/-- The operations of a region in the order of the text. `lim`: loads see the objects below it (0: all). -/
def aops (C : Orc) (lim : Option Nat) : List AI → (Nat → AV) → St → Option ((Nat → AV) × St)
  | [], ρ, st => some (ρ, st)
  | o :: os, ρ, st => match astep C (lim.getD st.length) o ρ st with
    | some (ρ1, st1) => aops C lim os ρ1 st1
    | none => none

def keep (ρ : Nat → AV) : List Nat → Env
  | [] => []
  | t :: ts => (t, ρ t) :: keep ρ ts

def headV (e : Env) : List (Nat × CV) → St → Option (List AV × St)
  | [], st => some ([], st)
  | (t, cv) :: kp, st => match conv1 cv (eget e t) st with
    | some (v, st1) => match headV e kp st1 with
      | some (vs, st2) => some (v :: vs, st2)
      | none => none
    | none => none

def zipE : List (Nat × CV) → List AV → Env
  | (t, _) :: kp, v :: vs => (t, v) :: zipE kp vs
  | _, _ => []

/-- What a loop's head keeps. -/
def head (m : Nat) (kp : List (Nat × CV)) (e : Env) (st : St) : Option (Env × St) :=
  match headV e kp st with
  | some (vs, st1) => match gc m vs st1 with
    | some (vs', st2) => some (zipE kp vs', st2)
    | none => none
  | none => none

inductive AT where
  | code (c : AC)
  | inBlock (id : Nat)
  | inLoop (kp : List (Nat × CV)) (c : AC)

def aexit (id : Nat) : List AT → Option (List AT)
  | .inBlock id' :: k => if id' = id then some k else aexit id k
  | _ :: k => aexit id k
  | [] => none

inductive Nx where
  | go (K : List AT) (e : Env) (st : St)
  | done (e : Env) (st : St)

def nx (C : Orc) (m : Nat) : List AT → Env → St → Option Nx
  | [], e, st => some (.done e st)
  | .code .skip :: K, e, st => some (.go K e st)
  | .code (.reg dr ops kp) :: K, e, st => match aops C (if dr then some st.length else none) ops (eget e) st with
    | some (ρ, st1) => some (.go K (keep ρ kp) st1)
    | none => none
  | .code (.seq a b) :: K, e, st => some (.go (.code a :: .code b :: K) e st)
  | .code (.cond c a b) :: K, e, st => match c.ev (eget e) with
    | .d (.bool t) => if t then some (.go (.code a :: K) e st) else some (.go (.code b :: K) e st)
    | _ => none
  | .code (.block id c) :: K, e, st => some (.go (.code c :: .inBlock id :: K) e st)
  | .inBlock _ :: K, e, st => some (.go K e st)
  | .code (.loop kp c) :: K, e, st => match head m kp e st with
    | some (e1, st1) => some (.go (.code c :: .inLoop kp c :: K) e1 st1)
    | none => none
  | .code (.kp kp c) :: K, e, st => match head m kp e st with
    | some (e1, st1) => some (.go (.code c :: K) e1 st1)
    | none => none
  | .inLoop kp c :: K, e, st => match head m kp e st with
    | some (e1, st1) => some (.go (.code c :: .inLoop kp c :: K) e1 st1)
    | none => none
  | .code (.exit id) :: K, e, st => match aexit id K with
    | some K1 => some (.go K1 e st)
    | none => none
  | .code .ret :: _, e, st => some (.done e st)
  | .code .refuse :: _, _, _ => none

def runK (C : Orc) (m : Nat) : Nat → List AT → Env → St → Option (Env × St)
  | 0, _, _, _ => none
  | n + 1, K, e, st => match nx C m K e st with
    | some (.go K1 e1 st1) => runK C m n K1 e1 st1
    | some (.done e1 st1) => some (e1, st1)
    | none => none

def resV (e : Env) (st : St) : List ARes → Option (List AV)
  | [] => some []
  | .t n :: rs => match resV e st rs with | some vs => some (eget e n :: vs) | none => none
  | .cell n k :: rs => match rd st.length st k (eget e n) with
    | some v => match resV e st rs with | some vs => some (v :: vs) | none => none
    | none => none

def oneOf : List AV → AV
  | [v] => v
  | vs => .tup vs

def fin (F : AFunc) (m : Nat) (e : Env) (st : St) : Option (AV × St) :=
  match resV e st F.res with
  | some vs => match convVs F.cv vs st with
    | some (vs1, st1) => match gc m vs1 st1 with
      | some (vs2, st2) => some (oneOf vs2, st2)
      | none => none
    | none => none
  | none => none

def args : Nat → List AV → Env
  | _, [] => []
  | n, v :: vs => (n, v) :: args (n + 1) vs

/-- Calls, with a bound on their depth and on the steps of each. `X`: functions that are told from outside. -/
def callK (T : Nat → Option AFunc) (X : Orc) : Nat → Orc
  | 0, f, vs, st => X f vs st
  | n + 1, f, vs, st => match X f vs st with
    | some r => some r
    | none => match T f with
      | some F => if vs.length = F.np then (match runK (callK T X n) st.length n [.code F.body] (args 0 vs) st with
          | some (e, st1) => fin F st.length e st1
          | none => none) else none
      | none => none

end Go.Proofs.YtplgdddfhjpojaaGreat.AM

namespace Go.Proofs.YtplgdddfhjpojaaGreat.AM
open Go

theorem cell_iff {w : World} {b o : Nat} {v : Value} :
    w.cell? ⟨b, o, none⟩ = some v ↔ ∃ c el fz, w.heap[b]? = some (.cells c el fz) ∧ c[o]? = some v := by
  unfold World.cell?
  cases h : w.heap[b]? with
  | none => simp
  | some x => cases x <;> simp

/-! ### Data -/
inductive DRel (w : World) (Z : Nat → Nat) : D → Value → Prop
  | int (k : IntKind) (n : Int) : DRel w Z (.int k n) (.int k n)
  | bool (b : Bool) : DRel w Z (.bool b) (.bool b)
  | str (s : ByteArray) : DRel w Z (.str s.data.toList) (.string s)
  | nil : DRel w Z .nil (.slice none 0 0)
  | sl0 : DRel w Z (.sl []) (.slice none 0 0)
  | sl (xs : List (List D)) (b off cap sz : Nat) (vs : Nat → Nat → Value) (hc : xs.length ≤ cap)
      (h : ∀ i e, xs[i]? = some e → e.length = sz ∧ off + (i + 1) * sz ≤ Z b)
      (hv : ∀ i e j d, xs[i]? = some e → e[j]? = some d → w.cell? ⟨b, off + i * sz + j, none⟩ = some (vs i j))
      (hd : ∀ i e j d, xs[i]? = some e → e[j]? = some d → DRel w Z d (vs i j)) :
      DRel w Z (.sl xs) (.slice (some ⟨b, off, none⟩) xs.length cap)

/-- Cells from off on hold these data. -/
def Cells (w : World) (Z : Nat → Nat) (b off : Nat) (ds : List D) : Prop :=
  ∀ j d, ds[j]? = some d → ∃ v, w.cell? ⟨b, off + j, none⟩ = some v ∧ DRel w Z d v

def Rws (w : World) (Z : Nat → Nat) (b off sz : Nat) (xs : List (List D)) : Prop :=
  ∀ i e, xs[i]? = some e → e.length = sz ∧ Cells w Z b (off + i * sz) e

theorem DRel.mk_sl {w : World} {Z : Nat → Nat} {xs : List (List D)} {b off cap sz : Nat} (hc : xs.length ≤ cap)
    (hr : Rws w Z b off sz xs) (hz : ∀ i, i < xs.length → off + (i + 1) * sz ≤ Z b) : DRel w Z (.sl xs) (.slice (some ⟨b, off, none⟩) xs.length cap) := by
  classical
  have hch : ∀ i j, ∃ v, ∀ e d, xs[i]? = some e → e[j]? = some d → w.cell? ⟨b, off + i * sz + j, none⟩ = some v ∧ DRel w Z d v := by
    intro i j
    cases he : xs[i]? with
    | none => exact ⟨undef, fun e d h => by cases h⟩
    | some e =>
      cases hd : e[j]? with
      | none => exact ⟨undef, fun e' d h h' => by cases h; rw [hd] at h'; cases h'⟩
      | some d =>
        obtain ⟨v, hv, hr'⟩ := (hr i e he).2 j d hd
        exact ⟨v, fun e' d' h h' => by cases h; rw [hd] at h'; cases h'; exact ⟨hv, hr'⟩⟩
  refine DRel.sl xs b off cap sz (fun i j => (hch i j).choose) hc (fun i e he => ⟨(hr i e he).1, hz i ?_⟩)
    (fun i e j d he hd => ((hch i j).choose_spec e d he hd).1) (fun i e j d he hd => ((hch i j).choose_spec e d he hd).2)
  rcases Nat.lt_or_ge i xs.length with h | h
  · exact h
  · rw [List.getElem?_eq_none h] at he; cases he

theorem DRel.sl_inv {w : World} {Z : Nat → Nat} {xs : List (List D)} {v : Value} (h : DRel w Z (.sl xs) v) :
    (xs = [] ∧ v = .slice none 0 0) ∨ ∃ b off cap sz, v = .slice (some ⟨b, off, none⟩) xs.length cap ∧ xs.length ≤ cap ∧ Rws w Z b off sz xs ∧
      ∀ i, i < xs.length → off + (i + 1) * sz ≤ Z b := by
  cases h with
  | sl0 => exact .inl ⟨rfl, rfl⟩
  | sl _ b off cap sz vs hc h hv hd =>
    refine .inr ⟨b, off, cap, sz, rfl, hc, fun i e he => ⟨(h i e he).1, fun j d hj => ⟨_, hv i e j d he hj, hd i e j d he hj⟩⟩, fun i hi => ?_⟩
    exact (h i xs[i] (List.getElem?_eq_getElem hi)).2

/-- What stays of a world where frozen cells stay. -/
def Stays (w w' : World) (Z Z' : Nat → Nat) : Prop :=
  (∀ b off, off < Z b → w'.cell? ⟨b, off, none⟩ = w.cell? ⟨b, off, none⟩) ∧ ∀ b, Z b ≤ Z' b

theorem mul_succ_le {off i sz j Zb n : Nat} (hj : j < n) (hn : n = sz) (hz : off + (i + 1) * sz ≤ Zb) : off + i * sz + j < Zb := by
  rw [Nat.add_mul, Nat.one_mul] at hz; omega

theorem DRel.mono {w w' : World} {Z Z' : Nat → Nat} (hs : Stays w w' Z Z') {d : D} {v : Value} (h : DRel w Z d v) : DRel w' Z' d v := by
  induction h with
  | int k n => exact .int k n
  | bool b => exact .bool b
  | str s => exact .str s
  | nil => exact .nil
  | sl0 => exact .sl0
  | sl xs b off cap sz vs hc h hv hd ih =>
    refine .sl xs b off cap sz vs hc (fun i e he => ⟨(h i e he).1, Nat.le_trans (h i e he).2 (hs.2 b)⟩) (fun i e j d he hj => ?_) (fun i e j d he hj => ih i e j d he hj)
    have hlt : j < e.length := by
      rcases Nat.lt_or_ge j e.length with h' | h'
      · exact h'
      · rw [List.getElem?_eq_none h'] at hj; cases hj
    rw [hs.1 b _ (mul_succ_le hlt (h i e he).1 (h i e he).2)]
    exact hv i e j d he hj

theorem Cells.mono {w w' : World} {Z Z' : Nat → Nat} (hs : Stays w w' Z Z') {b off : Nat} {ds : List D} (hz : off + ds.length ≤ Z b) (h : Cells w Z b off ds) : Cells w' Z' b off ds := by
  intro j d hj
  obtain ⟨v, hv, hr⟩ := h j d hj
  have hlt : j < ds.length := by
    rcases Nat.lt_or_ge j ds.length with h' | h'
    · exact h'
    · rw [List.getElem?_eq_none h'] at hj; cases hj
  exact ⟨v, by rw [hs.1 b _ (by omega)]; exact hv, hr.mono hs⟩

/-- Cells of a block that reads as before, though it is not frozen. -/
theorem Cells.keep {w w' : World} {Z Z' : Nat → Nat} (hs : Stays w w' Z Z') {b off : Nat} {ds : List D} (hb : ∀ j, j < ds.length → w'.cell? ⟨b, off + j, none⟩ = w.cell? ⟨b, off + j, none⟩) (h : Cells w Z b off ds) :
    Cells w' Z' b off ds := by
  intro j d hj
  obtain ⟨v, hv, hr⟩ := h j d hj
  have hlt : j < ds.length := by
    rcases Nat.lt_or_ge j ds.length with h' | h'
    · exact h'
    · rw [List.getElem?_eq_none h'] at hj; cases hj
  exact ⟨v, by rw [hb j hlt]; exact hv, hr.mono hs⟩

theorem DRel.one {w : World} {Z : Nat → Nat} {d : D} {v : Value} (h : DRel w Z d v) : v.oneCell' = true := by cases h <;> rfl

theorem lt_of_getElem? {α : Type} {l : List α} {i : Nat} {x : α} (h : l[i]? = some x) : i < l.length := by
  rcases Nat.lt_or_ge i l.length with h' | h'
  · exact h'
  · rw [List.getElem?_eq_none h'] at h; cases h

/-! ### Values -/
inductive VRel (Φ : Nat → FuncId) (w : World) (Z : Nat → Nat) (σ : Nat → Option (Nat × Nat)) (st : St) : AV → Value → Prop
  | d {x : D} {v : Value} (h : DRel w Z x v) : VRel Φ w Z σ st (.d x) v
  | bptr {h sz i f b : Nat} {cs : List AV} (hs : σ h = some (b, 0)) (ho : st[h]? = some (.box cs)) : VRel Φ w Z σ st (.ptr h sz i f) (.pointer (some ⟨b, i * sz + f, none⟩))
  | aptr {h sz i f b o : Nat} {es : List (List D)} {wr : Bool} (hs : σ h = some (b, o)) (ho : st[h]? = some (.arr sz es wr)) :
      VRel Φ w Z σ st (.ptr h sz i f) (.pointer (some ⟨b, o + i * sz + f, none⟩))
  | dptr {h sz i f : Nat} {a : Addr} (ho : st[h]? = some .dead) : VRel Φ w Z σ st (.ptr h sz i f) (.pointer (some a))
  | eptr {c : List D} {f b off : Nat} (hz : off + c.length ≤ Z b) (hc : Cells w Z b off c) : VRel Φ w Z σ st (.eptr c f) (.pointer (some ⟨b, off + f, none⟩))
  | hs {h sz i n b o cap : Nat} {es : List (List D)} {wr : Bool} (hs : σ h = some (b, o)) (ho : st[h]? = some (.arr sz es wr)) (hn : i + n ≤ es.length) (hc : n ≤ cap)
      (hb : ∃ c el, w.heap[b]? = some (.cells c el (0, 0)) ∧ o + (i + cap) * sz ≤ c.size) : VRel Φ w Z σ st (.hs h sz i n) (.slice (some ⟨b, o + i * sz, none⟩) n cap)
  | hs0 {h sz : Nat} {wr : Bool} (ho : st[h]? = some (.arr sz [] wr)) : VRel Φ w Z σ st (.hs h sz 0 0) (.slice none 0 0)
  | hse {h sz i b off : Nat} {es : List (List D)} {wr : Bool} (ho : st[h]? = some (.arr sz es wr)) : VRel Φ w Z σ st (.hs h sz i 0) (.slice (some ⟨b, off, none⟩) 0 0)
  | rhs {h sz i n b cap : Nat} {cs : List AV} (hs : σ h = some (b, 0)) (ho : st[h]? = some (.box cs)) (hn : (i + n) * sz ≤ cs.length) (hc : n ≤ cap)
      (hb : ∃ c el, w.heap[b]? = some (.cells c el (0, 0)) ∧ (i + cap) * sz ≤ c.size) : VRel Φ w Z σ st (.hs h sz i n) (.slice (some ⟨b, i * sz, none⟩) n cap)
  | rhs0 {h sz : Nat} {cs : List AV} (ho : st[h]? = some (.box cs)) : VRel Φ w Z σ st (.hs h sz 0 0) (.slice none 0 0)
  | rhse {h sz i b off : Nat} {cs : List AV} (ho : st[h]? = some (.box cs)) : VRel Φ w Z σ st (.hs h sz i 0) (.slice (some ⟨b, off, none⟩) 0 0)
  | dhs {h sz i n : Nat} {a : Option Addr} {c : Nat} (ho : st[h]? = some .dead) (hc : n ≤ c) (ha : a = none → c = 0) (hp : ∀ x, a = some x → x.spot = none) : VRel Φ w Z σ st (.hs h sz i n) (.slice a n c)
  | fn {f : Nat} {caps : List AV} {vs : Array Value} (hl : vs.size = caps.length) (h : ∀ (i : Nat) (c : AV) (v : Value), caps[i]? = some c → vs[i]? = some v → VRel Φ w Z σ st c v) :
      VRel Φ w Z σ st (.fn f caps) (.func (.func (Φ f)) #[] vs)
  | agg {cs : List AV} {vs : Array Value} (hl : vs.size = cs.length) (h : ∀ (i : Nat) (c : AV) (v : Value), cs[i]? = some c → vs[i]? = some v → VRel Φ w Z σ st c v) : VRel Φ w Z σ st (.agg cs) (.agg vs)
  | tup {cs : List AV} {vs : Array Value} (hl : vs.size = cs.length) (h : ∀ (i : Nat) (c : AV) (v : Value), cs[i]? = some c → vs[i]? = some v → VRel Φ w Z σ st c v) : VRel Φ w Z σ st (.tup cs) (.tuple vs)
  | nn {xs : List (List D)} {a : Addr} {n c : Nat} (h : DRel w Z (.sl xs) (.slice (some a) n c)) : VRel Φ w Z σ st (.nn xs) (.slice (some a) n c)
  | undef (v : Value) : VRel Φ w Z σ st .undef v

/-- Lists of values, one by one. -/
def VRels (Φ : Nat → FuncId) (w : World) (Z : Nat → Nat) (σ : Nat → Option (Nat × Nat)) (st : St) (cs : List AV) (vs : List Value) : Prop :=
  vs.length = cs.length ∧ ∀ (i : Nat) (c : AV) (v : Value), cs[i]? = some c → vs[i]? = some v → VRel Φ w Z σ st c v

def liv (st : St) (h : Nat) : Prop := (∃ cs, st[h]? = some (.box cs)) ∨ ∃ sz es, st[h]? = some (.arr sz es true)

def own (σ : Nat → Option (Nat × Nat)) (st : St) (b : Nat) : Prop := ∃ h o, liv st h ∧ σ h = some (b, o)

/-- What an object says of the world. -/
def ORel (Φ : Nat → FuncId) (w : World) (Z : Nat → Nat) (σ : Nat → Option (Nat × Nat)) (st : St) (h : Nat) : AO → Prop
  | .box cs => (cs = [] ∧ σ h = none) ∨ ∃ b c el, σ h = some (b, 0) ∧ w.heap[b]? = some (.cells c el (0, 0)) ∧ Z b = 0 ∧ VRels Φ w Z σ st cs (c.toList.take cs.length)
  | .arr sz es wr => (es = [] ∧ σ h = none) ∨ ∃ b o c el, σ h = some (b, o) ∧ w.heap[b]? = some (.cells c el (0, 0)) ∧ o + es.length * sz ≤ c.size ∧ Rws w Z b o sz es ∧
      (wr = true → Z b ≤ o) ∧ (wr = false → o + es.length * sz ≤ Z b)
  | .dead => True

structure Sim (Φ : Nat → FuncId) (w : World) (Z : Nat → Nat) (σ : Nat → Option (Nat × Nat)) (st : St) : Prop where
  obj : ∀ h o, st[h]? = some o → ORel Φ w Z σ st h o
  dis : ∀ h h' b o o', liv st h → liv st h' → σ h = some (b, o) → σ h' = some (b, o') → h = h'
  z : ∀ b, 0 < Z b → b < w.heap.size

def OLe : AO → AO → Prop
  | _, .dead => True
  | .box cs, .box cs' => cs'.length = cs.length
  | .arr sz es _, .arr sz' es' _ => sz' = sz ∧ es'.length = es.length
  | _, _ => False

theorem OLe.refl : ∀ o, OLe o o
  | .box _ => rfl
  | .arr .. => ⟨rfl, rfl⟩
  | .dead => trivial

theorem OLe.trans {a b c : AO} (h : OLe a b) (h' : OLe b c) : OLe a c := by
  cases a <;> cases b <;> cases c <;> simp_all [OLe]

/-- From one state of both to a later one; the first M handles stay. -/
structure Ext (M : Nat) (w : World) (Z : Nat → Nat) (σ : Nat → Option (Nat × Nat)) (st : St) (w' : World) (Z' : Nat → Nat) (σ' : Nat → Option (Nat × Nat)) (st' : St) : Prop where
  size : w.heap.size ≤ w'.heap.size
  zle : ∀ b, Z b ≤ Z' b
  zold : ∀ b, b < w.heap.size → ¬ own σ st b → Z' b = Z b
  cel : ∀ b off, off < Z b → w'.cell? ⟨b, off, none⟩ = w.cell? ⟨b, off, none⟩
  blk : ∀ b, b < w.heap.size → ¬ own σ st b → w'.heap[b]? = w.heap[b]?
  shp : ∀ (b : Nat) (c : Array Value) (el : TypeId) (fz : Nat × Nat), w.heap[b]? = some (.cells c el fz) → ∃ c', w'.heap[b]? = some (.cells c' el fz) ∧ c'.size = c.size
  ow : ∀ b, b < w.heap.size → own σ' st' b → own σ st b
  sig : ∀ h, h < M → ∀ o, st[h]? = some o → ∃ o', st'[h]? = some o' ∧ OLe o o' ∧ (o' ≠ .dead → σ' h = σ h)
  os : w'.os = w.os
  out : w'.output = w.output

/-- As much of it as values ask. -/
structure Mon (M : Nat) (w : World) (Z : Nat → Nat) (σ : Nat → Option (Nat × Nat)) (st : St) (w' : World) (Z' : Nat → Nat) (σ' : Nat → Option (Nat × Nat)) (st' : St) : Prop where
  zle : ∀ b, Z b ≤ Z' b
  cel : ∀ b off, off < Z b → w'.cell? ⟨b, off, none⟩ = w.cell? ⟨b, off, none⟩
  shp : ∀ (b : Nat) (c : Array Value) (el : TypeId) (fz : Nat × Nat), w.heap[b]? = some (.cells c el fz) → ∃ c', w'.heap[b]? = some (.cells c' el fz) ∧ c'.size = c.size
  sig : ∀ h, h < M → ∀ o, st[h]? = some o → ∃ o', st'[h]? = some o' ∧ OLe o o' ∧ (o' ≠ .dead → σ' h = σ h)

section
variable {Φ : Nat → FuncId} {w w' w'' : World} {Z Z' Z'' : Nat → Nat} {σ σ' σ'' : Nat → Option (Nat × Nat)} {st st' st'' : St} {M : Nat}

theorem Ext.stays (h : Ext M w Z σ st w' Z' σ' st') : Stays w w' Z Z' := ⟨h.cel, h.zle⟩
theorem Ext.mon (h : Ext M w Z σ st w' Z' σ' st') : Mon M w Z σ st w' Z' σ' st' := ⟨h.zle, h.cel, h.shp, h.sig⟩
theorem Mon.stays (h : Mon M w Z σ st w' Z' σ' st') : Stays w w' Z Z' := ⟨h.cel, h.zle⟩

theorem Ext.refl (M : Nat) (w : World) (Z : Nat → Nat) (σ : Nat → Option (Nat × Nat)) (st : St) : Ext M w Z σ st w Z σ st :=
  ⟨Nat.le_refl _, fun _ => Nat.le_refl _, fun _ _ _ => rfl, fun _ _ _ => rfl, fun _ _ _ => rfl, fun _ c _ _ h => ⟨c, h, rfl⟩, fun _ _ h => h, fun _ _ o h => ⟨o, h, OLe.refl o, fun _ => rfl⟩, rfl, rfl⟩

theorem Ext.le {M' : Nat} (hM : M' ≤ M) (h : Ext M w Z σ st w' Z' σ' st') : Ext M' w Z σ st w' Z' σ' st' :=
  ⟨h.size, h.zle, h.zold, h.cel, h.blk, h.shp, h.ow, fun x hx => h.sig x (Nat.lt_of_lt_of_le hx hM), h.os, h.out⟩

theorem Ext.trans (h : Ext M w Z σ st w' Z' σ' st') (h' : Ext M w' Z' σ' st' w'' Z'' σ'' st'') : Ext M w Z σ st w'' Z'' σ'' st'' where
  size := Nat.le_trans h.size h'.size
  zle b := Nat.le_trans (h.zle b) (h'.zle b)
  zold b hb ho := by rw [h'.zold b (Nat.lt_of_lt_of_le hb h.size) (fun hn => ho (h.ow b hb hn)), h.zold b hb ho]
  cel b off hz := by rw [h'.cel b off (Nat.lt_of_lt_of_le hz (h.zle b)), h.cel b off hz]
  blk b hb ho := by rw [h'.blk b (Nat.lt_of_lt_of_le hb h.size) (fun hn => ho (h.ow b hb hn)), h.blk b hb ho]
  shp b c el fz hb := by
    obtain ⟨c', h1, h2⟩ := h.shp b c el fz hb
    obtain ⟨c'', h3, h4⟩ := h'.shp b c' el fz h1
    exact ⟨c'', h3, h4.trans h2⟩
  ow b hb hn := h.ow b hb (h'.ow b (Nat.lt_of_lt_of_le hb h.size) hn)
  os := h'.os.trans h.os
  out := h'.out.trans h.out
  sig x hx o ho := by
    obtain ⟨o', h1, h2, h3⟩ := h.sig x hx o ho
    obtain ⟨o'', h4, h5, h6⟩ := h'.sig x hx o' h1
    refine ⟨o'', h4, h2.trans h5, fun hn => ?_⟩
    have : o' ≠ .dead := by
      rintro rfl
      cases o'' <;> simp_all [OLe]
    rw [h6 hn, h3 this]

theorem VRel.mon (h : Mon st.length w Z σ st w' Z' σ' st') {v : AV} {x : Value} (hv : VRel Φ w Z σ st v x) : VRel Φ w' Z' σ' st' v x := by
  induction hv with
  | d hd => exact .d (hd.mono h.stays)
  | bptr hs ho =>
    obtain ⟨o', h1, h2, h3⟩ := h.sig _ (lt_of_getElem? ho) _ ho
    cases o' with
    | box cs' => exact .bptr ((h3 (by simp)).trans hs) h1
    | arr => simp [OLe] at h2
    | dead => exact .dptr h1
  | aptr hs ho =>
    obtain ⟨o', h1, h2, h3⟩ := h.sig _ (lt_of_getElem? ho) _ ho
    cases o' with
    | box cs' => simp [OLe] at h2
    | arr sz' es' wr' => obtain ⟨rfl, _⟩ := h2; exact .aptr ((h3 (by simp)).trans hs) h1
    | dead => exact .dptr h1
  | dptr ho =>
    obtain ⟨o', h1, h2, h3⟩ := h.sig _ (lt_of_getElem? ho) _ ho
    cases o' <;> simp [OLe] at h2
    exact .dptr h1
  | eptr hz hc => exact .eptr (Nat.le_trans hz (h.zle _)) (hc.mono h.stays hz)
  | rhs hs ho hn hc hb =>
    obtain ⟨o', h1, h2, h3⟩ := h.sig _ (lt_of_getElem? ho) _ ho
    cases o' with
    | arr sz' es' wr' => simp [OLe] at h2
    | box cs' =>
      have h2 : cs'.length = _ := h2
      obtain ⟨c, el, hb1, hb2⟩ := hb
      obtain ⟨c', hc1, hc2⟩ := h.shp _ _ _ _ hb1
      exact .rhs ((h3 (by simp)).trans hs) h1 (by omega) hc ⟨c', el, hc1, by omega⟩
    | dead => exact .dhs h1 hc (by simp) (by simp)
  | rhs0 ho =>
    obtain ⟨o', h1, h2, h3⟩ := h.sig _ (lt_of_getElem? ho) _ ho
    cases o' with
    | arr sz' es' wr' => simp [OLe] at h2
    | box cs' => exact .rhs0 h1
    | dead => exact .dhs h1 (Nat.le_refl _) (by simp) (by simp)
  | rhse ho =>
    obtain ⟨o', h1, h2, h3⟩ := h.sig _ (lt_of_getElem? ho) _ ho
    cases o' with
    | arr sz' es' wr' => simp [OLe] at h2
    | box cs' => exact .rhse h1
    | dead => exact .dhs h1 (Nat.le_refl _) (by simp) (by simp)
  | hs hs ho hn hc hb =>
    obtain ⟨o', h1, h2, h3⟩ := h.sig _ (lt_of_getElem? ho) _ ho
    cases o' with
    | box cs' => simp [OLe] at h2
    | arr sz' es' wr' =>
      obtain ⟨rfl, hl⟩ := h2
      obtain ⟨c, el, hb1, hb2⟩ := hb
      obtain ⟨c', hc1, hc2⟩ := h.shp _ _ _ _ hb1
      exact .hs ((h3 (by simp)).trans hs) h1 (by omega) hc ⟨c', el, hc1, by omega⟩
    | dead => exact .dhs h1 hc (by simp) (by simp)
  | hs0 ho =>
    obtain ⟨o', h1, h2, h3⟩ := h.sig _ (lt_of_getElem? ho) _ ho
    cases o' with
    | box cs' => simp [OLe] at h2
    | arr sz' es' wr' =>
      obtain ⟨rfl, hl⟩ := h2
      cases es' with
      | nil => exact .hs0 h1
      | cons => simp at hl
    | dead => exact .dhs h1 (Nat.le_refl _) (by simp) (by simp)
  | hse ho =>
    obtain ⟨o', h1, h2, h3⟩ := h.sig _ (lt_of_getElem? ho) _ ho
    cases o' with
    | box cs' => simp [OLe] at h2
    | arr sz' es' wr' => obtain ⟨rfl, hl⟩ := h2; exact .hse h1
    | dead => exact .dhs h1 (Nat.le_refl _) (by simp) (by simp)
  | dhs ho hc ha hp =>
    obtain ⟨o', h1, h2, h3⟩ := h.sig _ (lt_of_getElem? ho) _ ho
    cases o' <;> simp [OLe] at h2
    exact .dhs h1 hc ha hp
  | fn hl _ ih => exact .fn hl ih
  | agg hl _ ih => exact .agg hl ih
  | tup hl _ ih => exact .tup hl ih
  | nn hd => exact .nn (hd.mono h.stays)
  | undef v => exact .undef v

theorem VRel.mono (h : Ext st.length w Z σ st w' Z' σ' st') {v : AV} {x : Value} (hv : VRel Φ w Z σ st v x) : VRel Φ w' Z' σ' st' v x := hv.mon h.mon

theorem VRels.mon (h : Mon st.length w Z σ st w' Z' σ' st') {v : List AV} {x : List Value} (hv : VRels Φ w Z σ st v x) : VRels Φ w' Z' σ' st' v x :=
  ⟨hv.1, fun i c v h1 h2 => (hv.2 i c v h1 h2).mon h⟩

theorem VRels.mono (h : Ext st.length w Z σ st w' Z' σ' st') {v : List AV} {x : List Value} (hv : VRels Φ w Z σ st v x) : VRels Φ w' Z' σ' st' v x :=
  ⟨hv.1, fun i c v h1 h2 => (hv.2 i c v h1 h2).mono h⟩

theorem VRels.nil : VRels Φ w Z σ st [] [] := ⟨rfl, fun i c v h => by simp at h⟩

theorem VRels.cons {v : AV} {x : Value} {vs : List AV} {xs : List Value} (h : VRel Φ w Z σ st v x) (hs : VRels Φ w Z σ st vs xs) : VRels Φ w Z σ st (v :: vs) (x :: xs) :=
  ⟨by simp [hs.1], fun i c y h1 h2 => by
    cases i with
    | zero => simp at h1 h2; subst h1 h2; exact h
    | succ i => simp at h1 h2; exact hs.2 i c y h1 h2⟩

theorem VRels.cons_inv {v : AV} {vs : List AV} {ys : List Value} (h : VRels Φ w Z σ st (v :: vs) ys) : ∃ x xs, ys = x :: xs ∧ VRel Φ w Z σ st v x ∧ VRels Φ w Z σ st vs xs := by
  cases ys with
  | nil => simp [VRels] at h
  | cons x xs => exact ⟨x, xs, rfl, h.2 0 v x rfl rfl, by have := h.1; simpa using this, fun i c y h1 h2 => h.2 (i + 1) c y h1 h2⟩

theorem VRels.nil_inv {ys : List Value} (h : VRels Φ w Z σ st [] ys) : ys = [] := by
  have := h.1; simpa using this

theorem VRels.append {a b : List AV} {x y : List Value} (h : VRels Φ w Z σ st a x) (h' : VRels Φ w Z σ st b y) : VRels Φ w Z σ st (a ++ b) (x ++ y) := by
  induction a generalizing x with
  | nil => rw [VRels.nil_inv h]; exact h'
  | cons v vs ih =>
    obtain ⟨x1, xs, rfl, h1, h2⟩ := VRels.cons_inv h
    exact .cons h1 (ih h2)

theorem VRels.take {a : List AV} {x : List Value} (n : Nat) (h : VRels Φ w Z σ st a x) : VRels Φ w Z σ st (a.take n) (x.take n) :=
  ⟨by simp [h.1], fun i c v h1 h2 => by
    rw [List.getElem?_take] at h1 h2
    split at h1 <;> simp_all
    exact h.2 i c v h1 h2⟩

theorem VRels.drop {a : List AV} {x : List Value} (n : Nat) (h : VRels Φ w Z σ st a x) : VRels Φ w Z σ st (a.drop n) (x.drop n) :=
  ⟨by simp [h.1], fun i c v h1 h2 => by
    rw [List.getElem?_drop] at h1 h2
    exact h.2 _ c v h1 h2⟩

theorem VRel.one {v : AV} {x : Value} (h : VRel Φ w Z σ st v x) (hs : sol v = true) : x.oneCell' = true := by
  cases h <;> simp [sol] at hs <;> first | rfl | (rename_i h; exact h.one)

/-- The cells of a value. -/
theorem VRel.cellsOf {v : AV} {x : Value} (h : VRel Φ w Z σ st v x) (hs : solL v.cells = true) : VRels Φ w Z σ st v.cells x.cells.toList ∧ ∀ y ∈ x.cells.toList, y.oneCell' = true := by
  have hone : ∀ (v : AV) (x : Value), VRel Φ w Z σ st v x → sol v = true → x.cells = #[x] := by
    intro v x h hs
    have := h.one hs
    cases x <;> simp_all [Value.cells, Value.oneCell']
  have hall : ∀ (vs : List AV) (xs : List Value), VRels Φ w Z σ st vs xs → solL vs = true → ∀ y ∈ xs, y.oneCell' = true := by
    intro vs
    induction vs with
    | nil => intro xs h _ y hy; rw [VRels.nil_inv h] at hy; cases hy
    | cons v vs ih =>
      intro xs h hs y hy
      obtain ⟨x1, xs', rfl, h1, h2⟩ := VRels.cons_inv h
      simp [solL] at hs
      cases hy with
      | head => exact h1.one hs.1
      | tail _ hy => exact ih xs' h2 hs.2 y hy
  have key : VRels Φ w Z σ st v.cells x.cells.toList := by
    by_cases hv : sol v = true
    · have hc : v.cells = [v] := by cases v <;> simp_all [sol, AV.cells]
      rw [hc, hone v x h hv]; exact .cons h .nil
    · cases h with
      | agg hl hh => exact ⟨by simp [Value.cells, AV.cells, hl], fun i c y h1 h2 => hh i c y h1 (by simpa [Value.cells] using h2)⟩
      | tup => simp [AV.cells, solL, sol] at hs
      | undef => simp [AV.cells, solL, sol] at hs
      | nn => simp [AV.cells, solL, sol] at hs
      | _ => simp [sol] at hv
  exact ⟨key, hall _ _ key hs⟩

end
end Go.Proofs.YtplgdddfhjpojaaGreat.AM

namespace Go.Proofs.YtplgdddfhjpojaaGreat.AM
open Go

def upd (σ : Nat → Option (Nat × Nat)) (h : Nat) (x : Option (Nat × Nat)) : Nat → Option (Nat × Nat) := fun k => if k = h then x else σ k

theorem upd_same (σ : Nat → Option (Nat × Nat)) (h : Nat) (x : Option (Nat × Nat)) : upd σ h x h = x := by simp [upd]
theorem upd_other {σ : Nat → Option (Nat × Nat)} {h k : Nat} {x : Option (Nat × Nat)} (hk : k ≠ h) : upd σ h x k = σ k := by simp [upd, hk]

section
variable {Φ : Nat → FuncId} {w w' : World} {Z Z' : Nat → Nat} {σ σ' : Nat → Option (Nat × Nat)} {st st' : St}

theorem get_push {o : AO} {h : Nat} (hh : h < st.length) : (st ++ [o])[h]? = st[h]? := by rw [List.getElem?_append_left hh]
theorem get_last {o : AO} : (st ++ [o])[st.length]? = some o := by simp

theorem get_push_inv {o x : AO} {h : Nat} (hh : (st ++ [o])[h]? = some x) : (h < st.length ∧ st[h]? = some x) ∨ (h = st.length ∧ x = o) := by
  have hlt := lt_of_getElem? hh
  simp at hlt
  by_cases h' : h < st.length
  · exact .inl ⟨h', by rwa [get_push h'] at hh⟩
  · have : h = st.length := by omega
    subst this
    rw [get_last] at hh
    cases hh; exact .inr ⟨rfl, rfl⟩

theorem liv.lt {h : Nat} (hl : liv st h) : h < st.length := by
  rcases hl with ⟨cs, h1⟩ | ⟨sz, es, h1⟩ <;> exact lt_of_getElem? h1

theorem liv_push {o : AO} {h : Nat} (hh : h < st.length) : liv (st ++ [o]) h ↔ liv st h := by simp [liv, get_push hh]

theorem Sim.lt (S : Sim Φ w Z σ st) {h b o : Nat} (hl : liv st h) (hs : σ h = some (b, o)) : b < w.heap.size := by
  rcases hl with ⟨cs, h1⟩ | ⟨sz, es, h1⟩
  · rcases S.obj h _ h1 with ⟨_, h2⟩ | ⟨b', c, el, h2, h3, _⟩
    · rw [hs] at h2; cases h2
    · rw [hs] at h2; cases h2
      exact (Array.getElem?_eq_some_iff.1 h3).1
  · rcases S.obj h _ h1 with ⟨_, h2⟩ | ⟨b', o', c, el, h2, h3, _⟩
    · rw [hs] at h2; cases h2
    · rw [hs] at h2; cases h2
      exact (Array.getElem?_eq_some_iff.1 h3).1

/-- A block that an object stands for. -/
theorem Sim.blt (S : Sim Φ w Z σ st) {h b o : Nat} {x : AO} (hx : st[h]? = some x) (hd : x ≠ .dead) (hs : σ h = some (b, o)) : b < w.heap.size := by
  cases x with
  | box cs => exact S.lt (.inl ⟨cs, hx⟩) hs
  | dead => exact absurd rfl hd
  | arr sz es wr =>
    rcases S.obj h _ hx with ⟨_, h3⟩ | ⟨b', o'', c, el, h3, h4, _⟩
    · rw [hs] at h3; cases h3
    · rw [hs] at h3; cases h3; exact (Array.getElem?_eq_some_iff.1 h4).1

theorem block_cell {b : Nat} (h : w'.heap[b]? = w.heap[b]?) (off : Nat) : w'.cell? ⟨b, off, none⟩ = w.cell? ⟨b, off, none⟩ := by simp [World.cell?, h]

theorem Rws.keep (hs : Stays w w' Z Z') {b off sz : Nat} {xs : List (List D)} (hb : ∀ o, w'.cell? ⟨b, o, none⟩ = w.cell? ⟨b, o, none⟩) (h : Rws w Z b off sz xs) : Rws w' Z' b off sz xs :=
  fun i e he => ⟨(h i e he).1, (h i e he).2.keep hs fun _ _ => hb _⟩

/-- An object that is not touched says of the later world what it said. -/
theorem ORel.keepM (E : Mon st.length w Z σ st w' Z' σ' st') {h : Nat} {o : AO} (hσ : σ' h = σ h) (hb : o ≠ .dead → ∀ b o', σ h = some (b, o') → w'.heap[b]? = w.heap[b]?)
    (hz : ∀ b o', σ h = some (b, o') → liv st h → Z' b = Z b) (ho : st[h]? = some o) (H : ORel Φ w Z σ st h o) : ORel Φ w' Z' σ' st' h o := by
  cases o with
  | box cs =>
    rcases H with ⟨h1, h2⟩ | ⟨b, c, el, h1, h2, h3, h4⟩
    · exact .inl ⟨h1, hσ.trans h2⟩
    · exact .inr ⟨b, c, el, hσ.trans h1, (hb (by simp) b 0 h1).trans h2, (hz b 0 h1 (.inl ⟨cs, ho⟩)).trans h3, h4.mon E⟩
  | arr sz es wr =>
    rcases H with ⟨h1, h2⟩ | ⟨b, o', c, el, h1, h2, h3, h4, h5, h6⟩
    · exact .inl ⟨h1, hσ.trans h2⟩
    · refine .inr ⟨b, o', c, el, hσ.trans h1, (hb (by simp) b o' h1).trans h2, h3, h4.keep E.stays (block_cell (hb (by simp) b o' h1)), fun hw => ?_, fun hw => Nat.le_trans (h6 hw) (E.zle b)⟩
      subst hw
      rw [hz b o' h1 (.inr ⟨sz, es, ho⟩)]; exact h5 rfl
  | dead => trivial

theorem ORel.keep (E : Ext st.length w Z σ st w' Z' σ' st') {h : Nat} {o : AO} (hσ : σ' h = σ h) (hb : o ≠ .dead → ∀ b o', σ h = some (b, o') → w'.heap[b]? = w.heap[b]?)
    (hz : ∀ b o', σ h = some (b, o') → liv st h → Z' b = Z b) (ho : st[h]? = some o) (H : ORel Φ w Z σ st h o) : ORel Φ w' Z' σ' st' h o :=
  H.keepM E.mon hσ hb hz ho

theorem ext_alloc (S : Sim Φ w Z σ st) (o : AO) (obj : Obj) :
    Ext st.length w Z σ st (w.alloc obj) Z (upd σ st.length (some (w.heap.size, 0))) (st ++ [o]) where
  os := rfl
  out := rfl
  size := by simp
  zle _ := Nat.le_refl _
  zold _ _ _ := rfl
  cel b off hz := World.cell?_alloc_lt w _ ⟨b, off, none⟩ (S.z b (by omega))
  blk b hb _ := heap_alloc_old w _ b hb
  shp b c el fz hb := ⟨c, by rw [heap_alloc_old w _ b (Array.getElem?_eq_some_iff.1 hb).1]; exact hb, rfl⟩
  ow b hb hn := by
    obtain ⟨h, o', hl, hs⟩ := hn
    have hlt := hl.lt
    simp at hlt
    by_cases hh : h = st.length
    · subst hh; rw [upd_same] at hs; cases hs; omega
    · rw [upd_other hh] at hs
      exact ⟨h, o', (liv_push (by omega)).1 hl, hs⟩
  sig h hh x hx := ⟨x, by rw [get_push hh]; exact hx, OLe.refl x, fun _ => upd_other (by omega)⟩

theorem Sim.push (S : Sim Φ w Z σ st) {obj : Obj} {o : AO} (H : ORel Φ (w.alloc obj) Z (upd σ st.length (some (w.heap.size, 0))) (st ++ [o]) st.length o) :
    Sim Φ (w.alloc obj) Z (upd σ st.length (some (w.heap.size, 0))) (st ++ [o]) where
  obj h x hx := by
    rcases get_push_inv hx with ⟨h1, h2⟩ | ⟨rfl, rfl⟩
    · have hsz : x ≠ .dead → ∀ b o', σ h = some (b, o') → (w.alloc obj).heap[b]? = w.heap[b]? :=
        fun hd b o' hs => heap_alloc_old w _ b (S.blt h2 hd hs)
      exact (S.obj h x h2).keep (ext_alloc S o obj) (upd_other (by omega)) hsz (fun _ _ _ _ => rfl) h2
    · exact H
  dis h h' b o1 o2 l1 l2 s1 s2 := by
    have e1 := l1.lt; have e2 := l2.lt
    simp at e1 e2
    by_cases c1 : h = st.length
    · by_cases c2 : h' = st.length
      · omega
      · subst c1; rw [upd_same] at s1; rw [upd_other c2] at s2; cases s1
        have := S.lt ((liv_push (by omega)).1 l2) s2
        omega
    · by_cases c2 : h' = st.length
      · subst c2; rw [upd_same] at s2; rw [upd_other c1] at s1; cases s2
        have := S.lt ((liv_push (by omega)).1 l1) s1
        omega
      · rw [upd_other c1] at s1; rw [upd_other c2] at s2
        exact S.dis h h' b o1 o2 ((liv_push (by omega)).1 l1) ((liv_push (by omega)).1 l2) s1 s2
  z b hb := by have := S.z b hb; simp; omega


/-! ### A world of the same heap -/
theorem ext_heap (hw : w'.heap = w.heap) (ho : w'.os = w.os) (hp : w'.output = w.output) (M : Nat) : Ext M w Z σ st w' Z σ st := by
  have hc : ∀ b off, w'.cell? ⟨b, off, none⟩ = w.cell? ⟨b, off, none⟩ := fun b off => by simp [World.cell?, hw]
  exact ⟨by rw [hw]; exact Nat.le_refl _, fun _ => Nat.le_refl _, fun _ _ _ => rfl, fun b off _ => hc b off, fun b _ _ => by rw [hw], fun b c el fz h => ⟨c, by rw [hw]; exact h, rfl⟩, fun _ _ h => h, fun h _ o ho => ⟨o, ho, OLe.refl o, fun _ => rfl⟩, ho, hp⟩

theorem Sim.heap (hw : w'.heap = w.heap) (h1 : w'.os = w.os) (h2 : w'.output = w.output) (S : Sim Φ w Z σ st) : Sim Φ w' Z σ st where
  obj h o ho := (S.obj h o ho).keep (ext_heap hw h1 h2 _) rfl (fun _ b _ _ => by rw [hw]) (fun _ _ _ _ => rfl) ho
  dis := S.dis
  z b hb := by rw [hw]; exact S.z b hb

/-! ### A block is written through its object -/
theorem get_set {h k : Nat} {o x : AO} (hx : st[h]? = some x) : (st.set h o)[k]? = if k = h then some o else st[k]? := by
  have := lt_of_getElem? hx
  rw [List.getElem?_set]
  by_cases e : h = k
  · subst e; simp [this]
  · simp [e, Ne.symm e]

theorem liv_set {h k : Nat} {o x : AO} (hx : st[h]? = some x) (hk : k ≠ h) : liv (st.set h o) k ↔ liv st k := by simp [liv, get_set hx, hk]

theorem ext_set (S : Sim Φ w Z σ st) {h b o' : Nat} {x o : AO} {c c' : Array Value} {el : TypeId} (hx : st[h]? = some x) (hl : liv st h) (hs : σ h = some (b, o'))
    (hb : w.heap[b]? = some (.cells c el (0, 0))) (hc : c'.size = c.size) (hz : ∀ off : Nat, off < Z b → c'[off]? = c[off]?) (hle : OLe x o) :
    Ext st.length w Z σ st (w.setRow b c') Z σ (st.set h o) where
  os := rfl
  out := rfl
  size := by simp
  zle _ := Nat.le_refl _
  zold _ _ _ := rfl
  cel k off hk := by
    by_cases e : k = b
    · subst e; rw [cell_setRow_same w k off c c' el (0, 0) hb, hz off hk]; simp [World.cell?, hb]
    · exact block_cell (setRow_other w b k c' e) off
  blk k hk hn := setRow_other w b k c' (fun e => hn (by subst e; exact ⟨h, o', hl, hs⟩))
  shp k c1 el1 fz h1 := by
    by_cases e : k = b
    · subst e; rw [hb] at h1; cases h1; exact ⟨c', setRow_heap w k c c' el (0, 0) hb, hc⟩
    · exact ⟨c1, by rw [setRow_other w b k c' e]; exact h1, rfl⟩
  ow k hk hn := by
    obtain ⟨h', o1, l1, s1⟩ := hn
    by_cases e : h' = h
    · subst e; exact ⟨h', o', hl, by rw [hs] at s1; cases s1; exact hs⟩
    · exact ⟨h', o1, (liv_set hx e).1 l1, s1⟩
  sig k hk y hy := by
    rw [get_set hx]
    by_cases e : k = h
    · subst e; rw [hx] at hy; cases hy; exact ⟨o, by simp, hle, fun _ => rfl⟩
    · exact ⟨y, by simp [e]; exact hy, OLe.refl y, fun _ => rfl⟩

/-- Who does not own a block of an owner lies elsewhere, or is frozen below. -/
theorem Sim.other (S : Sim Φ w Z σ st) {h k b o' o1 b1 : Nat} (hl : liv st h) (hs : σ h = some (b, o')) (hk : k ≠ h) (l1 : liv st k) (s1 : σ k = some (b1, o1)) : b1 ≠ b :=
  fun e => hk (S.dis k h b1 o1 o' l1 hl s1 (e ▸ hs))

/-- A frozen row reads as before where frozen cells do. -/
theorem Rws.frozen (hs : Stays w w' Z Z') {b off sz : Nat} {xs : List (List D)} (hz : off + xs.length * sz ≤ Z b) (h : Rws w Z b off sz xs) : Rws w' Z' b off sz xs := by
  intro i e he
  obtain ⟨h1, h2⟩ := h i e he
  have hi := lt_of_getElem? he
  have : (i + 1) * sz ≤ xs.length * sz := Nat.mul_le_mul_right _ hi
  exact ⟨h1, h2.mono hs (by rw [Nat.add_mul, Nat.one_mul] at this; omega)⟩

theorem Sim.setObj (S : Sim Φ w Z σ st) {h b o' : Nat} {x o : AO} {c c' : Array Value} {el : TypeId} (hx : st[h]? = some x) (hl : liv st h) (hs : σ h = some (b, o'))
    (hb : w.heap[b]? = some (.cells c el (0, 0))) (hc : c'.size = c.size) (hz : ∀ off : Nat, off < Z b → c'[off]? = c[off]?) (hle : OLe x o)
    (H : ORel Φ (w.setRow b c') Z σ (st.set h o) h o) : Sim Φ (w.setRow b c') Z σ (st.set h o) where
  obj k y hy := by
    have E := ext_set S hx hl hs hb hc hz hle
    rw [get_set hx] at hy
    by_cases e : k = h
    · subst e; simp at hy; subst hy; exact H
    · simp [e] at hy
      by_cases lk : liv st k
      · exact (S.obj k y hy).keep E rfl (fun _ b1 o1 s1 => setRow_other w b b1 c' (S.other hl hs e lk s1)) (fun _ _ _ _ => rfl) hy
      · cases y with
        | box cs => exact absurd (.inl ⟨cs, hy⟩) lk
        | dead => trivial
        | arr sz es wr =>
          cases wr with
          | true => exact absurd (.inr ⟨sz, es, hy⟩) lk
          | false =>
            rcases S.obj k _ hy with h1 | ⟨b1, o1, c1, el1, h1, h2, h3, h4, h5, h6⟩
            · exact .inl h1
            · by_cases eb : b1 = b
              · subst eb
                rw [hb] at h2; cases h2
                exact .inr ⟨b1, o1, c', el, h1, setRow_heap w b1 c c' el (0, 0) hb, by omega, h4.frozen E.stays (h6 rfl), (fun q => by cases q), h6⟩
              · exact .inr ⟨b1, o1, c1, el1, h1, (setRow_other w b b1 c' eb).trans h2, h3, h4.frozen E.stays (h6 rfl), (fun q => by cases q), h6⟩
  dis h1 h2 b1 o1 o2 l1 l2 s1 s2 := by
    have lv : ∀ k, liv (st.set h o) k → liv st k := fun k lk => by
      by_cases e : k = h
      · subst e; exact hl
      · exact (liv_set hx e).1 lk
    exact S.dis h1 h2 b1 o1 o2 (lv _ l1) (lv _ l2) s1 s2
  z b1 h1 := by have := S.z b1 h1; simpa using this

/-! ### An object is frozen -/
def zf (Z : Nat → Nat) (b n : Nat) : Nat → Nat := fun k => if k = b then max (Z k) n else Z k

theorem ext_frz (S : Sim Φ w Z σ st) {h b o sz : Nat} {es : List (List D)} (hx : st[h]? = some (.arr sz es true)) (hs : σ h = some (b, o)) (n : Nat) :
    Ext st.length w Z σ st w (zf Z b n) σ (st.set h (.arr sz es false)) where
  os := rfl
  out := rfl
  size := Nat.le_refl _
  zle k := by unfold zf; split <;> omega
  zold k hk hn := by
    have : k ≠ b := fun e => hn (by subst e; exact ⟨h, o, .inr ⟨sz, es, hx⟩, hs⟩)
    simp [zf, this]
  cel _ _ _ := rfl
  blk _ _ _ := rfl
  shp _ c _ _ h1 := ⟨c, h1, rfl⟩
  ow k hk hn := by
    obtain ⟨h', o1, l1, s1⟩ := hn
    by_cases e : h' = h
    · subst e; exact ⟨h', o1, .inr ⟨sz, es, hx⟩, s1⟩
    · exact ⟨h', o1, (liv_set hx e).1 l1, s1⟩
  sig k hk y hy := by
    rw [get_set hx]
    by_cases e : k = h
    · subst e; rw [hx] at hy; cases hy; exact ⟨.arr sz es false, by simp, ⟨rfl, rfl⟩, fun _ => rfl⟩
    · exact ⟨y, by simp [e]; exact hy, OLe.refl y, fun _ => rfl⟩

theorem not_liv_frz {h sz : Nat} {es : List (List D)} {x : AO} (hx : st[h]? = some x) : ¬ liv (st.set h (.arr sz es false)) h := by
  simp [liv, get_set hx]

theorem Sim.frz (S : Sim Φ w Z σ st) {h b o sz : Nat} {es : List (List D)} (hx : st[h]? = some (.arr sz es true)) (hs : σ h = some (b, o)) :
    Sim Φ w (zf Z b (o + es.length * sz)) σ (st.set h (.arr sz es false)) where
  obj k y hy := by
    have E := ext_frz S hx hs (o + es.length * sz)
    have hl : liv st h := .inr ⟨sz, es, hx⟩
    rw [get_set hx] at hy
    by_cases e : k = h
    · subst e; simp at hy; subst hy
      rcases S.obj k _ hx with ⟨_, h2⟩ | ⟨b', o', c, el, h1, h2, h3, h4, h5, h6⟩
      · rw [hs] at h2; cases h2
      · rw [hs] at h1; cases h1
        exact .inr ⟨b, o, c, el, hs, h2, h3, h4.keep E.stays (fun _ => rfl), (fun q => by cases q), fun _ => by simp [zf]; omega⟩
    · simp [e] at hy
      refine (S.obj k y hy).keep E rfl (fun _ _ _ _ => rfl) (fun b1 o1 s1 l1 => ?_) hy
      have : b1 ≠ b := S.other hl hs e l1 s1
      simp [zf, this]
  dis h1 h2 b1 o1 o2 l1 l2 s1 s2 := by
    have e1 : h1 ≠ h := fun e => not_liv_frz hx (e ▸ l1)
    have e2 : h2 ≠ h := fun e => not_liv_frz hx (e ▸ l2)
    exact S.dis h1 h2 b1 o1 o2 ((liv_set hx e1).1 l1) ((liv_set hx e2).1 l2) s1 s2
  z k hk := by
    unfold zf at hk
    by_cases e : k = b
    · subst e; exact S.lt (.inr ⟨sz, es, hx⟩) hs
    · simp [e] at hk; exact S.z k hk

/-- A slice of a frozen object. -/
theorem Sim.frozen_read (S : Sim Φ w Z σ st) {h sz i n : Nat} {es : List (List D)} {v : Value} (hg : st[h]? = some (.arr sz es false)) (hin : i + n ≤ es.length)
    (hv : VRel Φ w Z σ st (.hs h sz i n) v) : DRel w Z (.sl ((es.drop i).take n)) v := by
  cases hv with
  | dhs hd => rw [hg] at hd; cases hd
  | rhs _ ho => rw [hg] at ho; cases ho
  | rhs0 ho => rw [hg] at ho; cases ho
  | rhse ho => rw [hg] at ho; cases ho
  | hs0 => simpa using DRel.sl0
  | hse => simpa using DRel.mk_sl (xs := []) (cap := 0) (sz := 0) (by simp) (fun i e h => by simp at h) (fun i h => by simp at h)
  | hs hs ho hn hc hb =>
    rename_i b o cap es' wr'
    rw [hg] at ho; cases ho
    rcases S.obj h _ hg with ⟨h1, h2⟩ | ⟨b', o', c, el, h1, h2, h3, h4, h5, h6⟩
    · rw [hs] at h2; cases h2
    · rw [hs] at h1; cases h1
      have hl : ((es.drop i).take n).length = n := by simp; omega
      have hr : Rws w Z b (o + i * sz) sz ((es.drop i).take n) := by
        intro j e he
        have hj : j < n := by have := lt_of_getElem? he; rwa [hl] at this
        rw [List.getElem?_take_of_lt hj, List.getElem?_drop] at he
        obtain ⟨h7, h8⟩ := h4 _ e he
        exact ⟨h7, by rw [Nat.add_assoc, ← Nat.add_mul]; exact h8⟩
      have := DRel.mk_sl (cap := cap) (by rw [hl]; exact hc) hr (fun j hj => by
        rw [hl] at hj
        have : (i + j + 1) * sz ≤ es.length * sz := Nat.mul_le_mul_right _ (by omega)
        have h6' := h6 rfl
        rw [Nat.add_mul, Nat.add_mul] at this
        rw [Nat.add_mul]
        omega)
      rw [hl] at this
      exact this

/-- Freezing, in all cases: what the row reads as from then on. -/
theorem Sim.frzAny (S : Sim Φ w Z σ st) {h sz : Nat} {es : List (List D)} {wr : Bool} (hx : st[h]? = some (.arr sz es wr)) :
    ∃ Z', Sim Φ w Z' σ (st.set h (.arr sz es false)) ∧ Ext st.length w Z σ st w Z' σ (st.set h (.arr sz es false)) ∧
      ∀ i n v, i + n ≤ es.length → VRel Φ w Z σ st (.hs h sz i n) v → DRel w Z' (.sl ((es.drop i).take n)) v := by
  have main : ∀ {Z'} (S' : Sim Φ w Z' σ (st.set h (.arr sz es false))) (E : Ext st.length w Z σ st w Z' σ (st.set h (.arr sz es false))),
      ∀ i n v, i + n ≤ es.length → VRel Φ w Z σ st (.hs h sz i n) v → DRel w Z' (.sl ((es.drop i).take n)) v :=
    fun S' E i n v hin hv => S'.frozen_read (by rw [get_set hx]; simp) hin (hv.mono E)
  cases wr with
  | false =>
    have : st.set h (.arr sz es false) = st := by
      apply List.ext_getElem?
      intro k
      rw [get_set hx]
      split
      · rename_i e; subst e; exact hx.symm
      · rfl
    rw [this] at main ⊢
    exact ⟨Z, S, Ext.refl _ _ _ _ _, main S (Ext.refl _ _ _ _ _)⟩
  | true =>
    cases hs : σ h with
    | some bo =>
      obtain ⟨b, o⟩ := bo
      exact ⟨_, S.frz hx hs, ext_frz S hx hs _, main (S.frz hx hs) (ext_frz S hx hs _)⟩
    | none =>
      have E : Ext st.length w Z σ st w Z σ (st.set h (.arr sz es false)) := by
        refine ⟨Nat.le_refl _, fun _ => Nat.le_refl _, fun _ _ _ => rfl, fun _ _ _ => rfl, fun _ _ _ => rfl, fun _ c _ _ h => ⟨c, h, rfl⟩, fun b _ hn => ?_, fun k _ y hy => ?_, rfl, rfl⟩
        · obtain ⟨h', o1, l1, s1⟩ := hn
          by_cases e : h' = h
          · subst e; rw [hs] at s1; cases s1
          · exact ⟨h', o1, (liv_set hx e).1 l1, s1⟩
        · rw [get_set hx]
          by_cases e : k = h
          · subst e; rw [hx] at hy; cases hy; exact ⟨.arr sz es false, by simp, ⟨rfl, rfl⟩, fun _ => rfl⟩
          · exact ⟨y, by simp [e]; exact hy, OLe.refl y, fun _ => rfl⟩
      have S' : Sim Φ w Z σ (st.set h (.arr sz es false)) := by
        refine ⟨fun k y hy => ?_, fun h1 h2 b1 o1 o2 l1 l2 s1 s2 => ?_, S.z⟩
        · rw [get_set hx] at hy
          by_cases e : k = h
          · subst e; simp at hy; subst hy
            rcases S.obj k _ hx with h1 | ⟨b', o', c, el, h1, _⟩
            · exact .inl h1
            · rw [hs] at h1; cases h1
          · simp [e] at hy
            exact (S.obj k y hy).keep E rfl (fun _ _ _ _ => rfl) (fun _ _ _ _ => rfl) hy
        · have e1 : h1 ≠ h := fun e => not_liv_frz hx (e ▸ l1)
          have e2 : h2 ≠ h := fun e => not_liv_frz hx (e ▸ l2)
          exact S.dis h1 h2 b1 o1 o2 ((liv_set hx e1).1 l1) ((liv_set hx e2).1 l2) s1 s2
      exact ⟨Z, S', E, main S' E⟩

/-! ### An object goes; another takes its block -/
theorem Sim.adopt (S : Sim Φ w Z σ st) {o : AO} {b k : Nat} (hb : b < w.heap.size) (hno : ¬ own σ st b) (H : ORel Φ w Z (upd σ st.length (some (b, k))) (st ++ [o]) st.length o) :
    Sim Φ w Z (upd σ st.length (some (b, k))) (st ++ [o]) where
  obj h x hx := by
    have M : Mon st.length w Z σ st w Z (upd σ st.length (some (b, k))) (st ++ [o]) :=
      ⟨fun _ => Nat.le_refl _, fun _ _ _ => rfl, fun _ c _ _ h => ⟨c, h, rfl⟩, fun h hh x hx => ⟨x, by rw [get_push hh]; exact hx, OLe.refl x, fun _ => upd_other (by omega)⟩⟩
    rcases get_push_inv hx with ⟨h1, h2⟩ | ⟨rfl, rfl⟩
    · exact (S.obj h x h2).keepM M (upd_other (by omega)) (fun _ _ _ _ => rfl) (fun _ _ _ _ => rfl) h2
    · exact H
  dis h h' b1 o1 o2 l1 l2 s1 s2 := by
    have e1 := l1.lt; have e2 := l2.lt
    simp at e1 e2
    by_cases c1 : h = st.length
    · by_cases c2 : h' = st.length
      · omega
      · subst c1; rw [upd_same] at s1; rw [upd_other c2] at s2; cases s1
        exact absurd ⟨h', o2, (liv_push (by omega)).1 l2, s2⟩ hno
    · by_cases c2 : h' = st.length
      · subst c2; rw [upd_same] at s2; rw [upd_other c1] at s1; cases s2
        exact absurd ⟨h, o1, (liv_push (by omega)).1 l1, s1⟩ hno
      · rw [upd_other c1] at s1; rw [upd_other c2] at s2
        exact S.dis h h' b1 o1 o2 ((liv_push (by omega)).1 l1) ((liv_push (by omega)).1 l2) s1 s2
  z := S.z

theorem ext_adopt {st1 : St} (E : Ext st.length w Z σ st w' Z' σ' st1) (hl : st1.length = st.length) {o : AO} {b k : Nat} (hb : own σ st b) :
    Ext st.length w Z σ st w' Z' (upd σ' st1.length (some (b, k))) (st1 ++ [o]) where
  os := E.os
  out := E.out
  size := E.size
  zle := E.zle
  zold := E.zold
  cel := E.cel
  blk := E.blk
  shp := E.shp
  ow b1 h1 hn := by
    obtain ⟨h, o1, l1, s1⟩ := hn
    have e1 := l1.lt
    simp at e1
    by_cases c1 : h = st1.length
    · subst c1; rw [upd_same] at s1; cases s1; exact hb
    · rw [upd_other c1] at s1
      exact E.ow b1 h1 ⟨h, o1, (liv_push (by omega)).1 l1, s1⟩
  sig h hh x hx := by
    obtain ⟨o', h1, h2, h3⟩ := E.sig h hh x hx
    exact ⟨o', by rw [get_push (by omega)]; exact h1, h2, fun hn => (upd_other (by omega)).trans (h3 hn)⟩

/-- An object is given up; nothing else moves. -/
theorem ext_kill {h : Nat} {x : AO} (hx : st[h]? = some x) : Ext st.length w Z σ st w Z σ (st.set h .dead) := by
  refine ⟨Nat.le_refl _, fun _ => Nat.le_refl _, fun _ _ _ => rfl, fun _ _ _ => rfl, fun _ _ _ => rfl, fun _ c _ _ h => ⟨c, h, rfl⟩, fun b _ hn => ?_, fun k _ y hy => ?_, rfl, rfl⟩
  · obtain ⟨h', o1, l1, s1⟩ := hn
    by_cases e : h' = h
    · subst e; simp [liv, get_set hx] at l1
    · exact ⟨h', o1, (liv_set hx e).1 l1, s1⟩
  · rw [get_set hx]
    by_cases e : k = h
    · subst e; exact ⟨.dead, by simp, by cases y <;> trivial, fun q => absurd rfl q⟩
    · exact ⟨y, by simp [e]; exact hy, OLe.refl y, fun _ => rfl⟩

theorem Sim.kill (S : Sim Φ w Z σ st) {h : Nat} {x : AO} (hx : st[h]? = some x) : Sim Φ w Z σ (st.set h .dead) where
  obj k y hy := by
    rw [get_set hx] at hy
    by_cases e : k = h
    · subst e; simp at hy; subst hy; trivial
    · simp [e] at hy
      exact (S.obj k y hy).keep (ext_kill hx) rfl (fun _ _ _ _ => rfl) (fun _ _ _ _ => rfl) hy
  dis h1 h2 b1 o1 o2 l1 l2 s1 s2 := by
    have lv : ∀ k, liv (st.set h .dead) k → liv st k := fun k lk => by
      by_cases e : k = h
      · subst e; simp [liv, get_set hx] at lk
      · exact (liv_set hx e).1 lk
    exact S.dis h1 h2 b1 o1 o2 (lv _ l1) (lv _ l2) s1 s2
  z := S.z


/-! ### A box that slices show is frozen -/
theorem chunk_len (sz : Nat) : ∀ (n : Nat) (ds : List D), (chunk sz n ds).length = n
  | 0, _ => rfl
  | n + 1, ds => by simp [chunk, chunk_len sz n]
theorem chunk_get (sz : Nat) : ∀ (n : Nat) (ds : List D) (i : Nat) (e : List D), n * sz ≤ ds.length → (chunk sz n ds)[i]? = some e → i < n ∧ e.length = sz ∧ ∀ j, j < sz → e[j]? = ds[i * sz + j]?
  | 0, ds, i, e, _, h => by simp [chunk] at h
  | n + 1, ds, i, e, hl, h => by
    rw [Nat.add_mul, Nat.one_mul] at hl
    cases i with
    | zero =>
      simp [chunk] at h
      subst h
      refine ⟨by omega, by simp; omega, fun j hj => ?_⟩
      rw [List.getElem?_take_of_lt hj]; simp
    | succ i =>
      simp [chunk] at h
      obtain ⟨h1, h2, h3⟩ := chunk_get sz n (ds.drop sz) i e (by simp; omega) h
      refine ⟨by omega, h2, fun j hj => ?_⟩
      rw [h3 j hj, List.getElem?_drop]
      congr 1
      rw [Nat.add_mul]; omega

theorem ext_frzb (S : Sim Φ w Z σ st) {h b : Nat} {cs : List AV} (hx : st[h]? = some (.box cs)) (hs : σ h = some (b, 0)) (n : Nat) :
    Ext st.length w Z σ st w (zf Z b n) σ (st.set h .dead) where
  os := rfl
  out := rfl
  size := Nat.le_refl _
  zle k := by unfold zf; split <;> omega
  zold k hk hn := by
    have : k ≠ b := fun e => hn (by subst e; exact ⟨h, 0, .inl ⟨cs, hx⟩, hs⟩)
    simp [zf, this]
  cel _ _ _ := rfl
  blk _ _ _ := rfl
  shp _ c _ _ h1 := ⟨c, h1, rfl⟩
  ow k hk hn := by
    obtain ⟨h', o1, l1, s1⟩ := hn
    by_cases e : h' = h
    · subst e; simp [liv, get_set hx] at l1
    · exact ⟨h', o1, (liv_set hx e).1 l1, s1⟩
  sig k hk y hy := by
    rw [get_set hx]
    by_cases e : k = h
    · subst e; rw [hx] at hy; cases hy; exact ⟨.dead, by simp, trivial, fun q => absurd rfl q⟩
    · exact ⟨y, by simp [e]; exact hy, OLe.refl y, fun _ => rfl⟩

theorem Sim.frzBox (S : Sim Φ w Z σ st) {h : Nat} {cs : List AV} (hx : st[h]? = some (.box cs)) {ds : List D} (hd : ds.length = cs.length)
    (hr : ∀ b c el, σ h = some (b, 0) → w.heap[b]? = some (.cells c el (0, 0)) → ∀ (j : Nat) d x, ds[j]? = some d → c[j]? = some x → DRel w Z d x) :
    ∃ Z', Sim Φ w Z' σ (st.set h .dead) ∧ Ext st.length w Z σ st w Z' σ (st.set h .dead) ∧
      ∀ sz i n v, (i + n) * sz ≤ cs.length → VRel Φ w Z σ st (.hs h sz i n) v → DRel w Z' (.sl (chunk sz n (ds.drop (i * sz)))) v := by
  have nl : ¬ liv (st.set h .dead) h := by simp [liv, get_set hx]
  rcases S.obj h _ hx with ⟨h1, h2⟩ | ⟨b, c, el, h1, h2, h3, h4⟩
  · refine ⟨Z, S.kill hx, ext_kill hx, fun sz i n v hn hv => ?_⟩
    cases hv with
    | dhs hd => rw [hx] at hd; cases hd
    | hs _ ho => rw [hx] at ho; cases ho
    | hs0 ho => rw [hx] at ho; cases ho
    | hse ho => rw [hx] at ho; cases ho
    | rhs hs => rw [h2] at hs; cases hs
    | rhs0 => exact .sl0
    | rhse => exact DRel.mk_sl (xs := []) (cap := 0) (sz := 0) (by simp) (fun i e h => by simp at h) (fun i h => by simp at h)
  · have hcl : cs.length ≤ c.size := by have := h4.1; simp at this; omega
    have E := ext_frzb S hx h1 cs.length
    have S' : Sim Φ w (zf Z b cs.length) σ (st.set h .dead) := by
      refine ⟨fun k y hy => ?_, fun h1' h2' b1 o1 o2 l1 l2 s1 s2 => ?_, fun k hk => ?_⟩
      · rw [get_set hx] at hy
        by_cases e : k = h
        · subst e; simp at hy; subst hy; trivial
        · simp [e] at hy
          refine (S.obj k y hy).keep E rfl (fun _ _ _ _ => rfl) (fun b1 o1 s1 l1 => ?_) hy
          have : b1 ≠ b := S.other (.inl ⟨cs, hx⟩) h1 e l1 s1
          simp [zf, this]
      · have e1 : h1' ≠ h := fun e => nl (e ▸ l1)
        have e2 : h2' ≠ h := fun e => nl (e ▸ l2)
        exact S.dis h1' h2' b1 o1 o2 ((liv_set hx e1).1 l1) ((liv_set hx e2).1 l2) s1 s2
      · unfold zf at hk
        by_cases e : k = b
        · subst e; exact (Array.getElem?_eq_some_iff.1 h2).1
        · simp [e] at hk; exact S.z k hk
    refine ⟨_, S', E, fun sz i n v hn hv => ?_⟩
    cases hv with
    | dhs hd => rw [hx] at hd; cases hd
    | hs _ ho => rw [hx] at ho; cases ho
    | hs0 ho => rw [hx] at ho; cases ho
    | hse ho => rw [hx] at ho; cases ho
    | rhs0 => exact .sl0
    | rhse => exact DRel.mk_sl (xs := []) (cap := 0) (sz := 0) (by simp) (fun i e h => by simp at h) (fun i h => by simp at h)
    | rhs hs ho hn' hc hb =>
      rename_i b' cap cs'
      rw [hx] at ho; cases ho
      rw [h1] at hs; cases hs
      have hlen := chunk_len sz n (ds.drop (i * sz))
      have hle : n * sz ≤ (ds.drop (i * sz)).length := by simp [hd]; rw [Nat.add_mul] at hn; omega
      have key := DRel.mk_sl (w := w) (Z := zf Z b cs.length) (xs := chunk sz n (ds.drop (i * sz))) (b := b) (off := i * sz) (cap := cap) (sz := sz) (by rw [hlen]; exact hc) ?_ ?_
      · rw [hlen] at key; exact key
      · intro k e he
        obtain ⟨g1, g2, g3⟩ := chunk_get sz n _ k e hle he
        refine ⟨g2, fun j d hj => ?_⟩
        have hjs : j < sz := by have := lt_of_getElem? hj; omega
        rw [g3 j hjs, List.getElem?_drop] at hj
        have hm : (k + 1) * sz ≤ n * sz := Nat.mul_le_mul_right _ g1
        rw [Nat.add_mul, Nat.one_mul] at hm
        rw [Nat.add_mul] at hn
        have hlt : i * sz + (k * sz + j) < c.size := by omega
        have hcx : c[i * sz + (k * sz + j)]? = some c[i * sz + (k * sz + j)] := Array.getElem?_eq_getElem hlt
        refine ⟨_, ?_, (hr b c el h1 h2 _ d _ hj hcx).mono E.stays⟩
        rw [cell_iff]
        exact ⟨c, el, _, h2, by rw [Nat.add_assoc]; exact hcx⟩
      · intro k hk
        rw [hlen] at hk
        have hm : (k + 1) * sz ≤ n * sz := Nat.mul_le_mul_right _ hk
        rw [Nat.add_mul] at hn
        simp only [zf, if_true]
        omega

end
end Go.Proofs.YtplgdddfhjpojaaGreat.AM

namespace Go.Proofs.YtplgdddfhjpojaaGreat.AM
open Go

/-! ### The machine's operation against the program's -/
def mD : D → Value → Bool
  | .int k n, .int k' n' => decide (k = k') && decide (n = n')
  | .bool b, .bool b' => b == b'
  | .str l, .string s => s.data.toList == l
  | .nil, .slice none 0 0 => true
  | _, _ => false

def mOpd (Φ : Nat → FuncId) : AOpd → Operand → Bool
  | .t n, .tmp m => n == m
  | .k d, .const v => mD d v
  | .f i, .func g => Φ i == g
  | _, _ => false

def mOpds (Φ : Nat → FuncId) : List AOpd → List Operand → Bool
  | [], [] => true
  | x :: xs, y :: ys => mOpd Φ x y && mOpds Φ xs ys
  | _, _ => false

def mOpt (Φ : Nat → FuncId) : Option AOpd → Option Operand → Bool
  | none, none => true
  | some x, some y => mOpd Φ x y
  | _, _ => false

def mZ : List AV → List Value → Bool
  | [], [] => true
  | .d x :: vs, y :: ys => mD x y && mZ vs ys
  | .undef :: vs, y :: ys => y.oneCell' && mZ vs ys
  | _, _ => false

def aggB (P : Program) (t : TypeId) : Option Bool :=
  match P.underlying t with
  | some (.struct _) => some true
  | some (.array _ _) => some true
  | some _ => some false
  | none => none

/-- How a load of a type reads: whole, of so many cells, or one. -/
def mN (P : Program) (t : TypeId) (n : Option Nat) : Bool :=
  match aggB P t, P.info? t with
  | some true, some i => n == some i.size
  | some false, some _ => n == none
  | _, _ => false

def fieldAtB (P : Program) (s : TypeId) (f : Nat) : Option (Nat × TypeId) :=
  match P.underlying s with
  | some (.struct fields) => match fields[f]? with
    | some fd => some (fd.offset, fd.type)
    | none => none
  | _ => none

def elemSz (P : Program) (t : TypeId) : Option (TypeId × Nat) :=
  match P.underlying t with
  | some (.slice e) => match P.info? e with
    | some i => if i.size = 0 then none else some (e, i.size)
    | none => none
  | _ => none

def mParts (P : Program) (Φ : Nat → FuncId) (t : TypeId) : List (Nat × Nat × AOpd) → List (Nat × Operand) → Bool
  | [], [] => true
  | (off, size, x) :: ps, (i, y) :: qs =>
    (match fieldAtB P t i with
      | some (o, ft) => (match P.info? ft with | some fi => o == off && fi.size == size | none => false)
      | none => false) && mOpd Φ x y && mParts P Φ t ps qs
  | _, _ => false

def fieldsB (P : Program) (t : TypeId) : Bool :=
  match P.underlying t with
  | some (.struct fields) => (fields.toList.mapM fun f => (P.info? f.type).map fun i => (f.offset, i.size)).isSome
  | _ => false

def mElems (Φ : Nat → FuncId) : List (Nat × AOpd) → List (Nat × Operand) → Bool
  | [], [] => true
  | (i, x) :: ps, (j, y) :: qs => i == j && mOpd Φ x y && mElems Φ ps qs
  | _, _ => false

def zeroOf (P : Program) (t : TypeId) : Option (List Value) :=
  match P.info? t with
  | some i => match i.zero with
    | some v => if v.cells.size = i.size then some v.cells.toList else none
    | none => none
  | none => none

/-- A struct's fields, by their kinds, one cell each. -/
def mEq (P : Program) : Nat → List Nat → List Field → Bool
  | _, [], [] => true
  | i, k :: ks, f :: fs => f.name != "_" && f.offset == i && mN P f.type none &&
      (match k, P.underlying f.type with
        | 0, some (.int _) => true
        | 1, some .bool => true
        | 2, some .string => true
        | _, _ => false) && mEq P (i + 1) ks fs
  | _, _, _ => false

def nilOp : Operand → Bool
  | .const (.slice none 0 0) => true
  | _ => false
theorem nilOp_inv {x : Operand} (h : nilOp x = true) : x = .const (.slice none 0 0) := by
  unfold nilOp at h
  split at h
  · rfl
  · cases h

def zeroOp : Option Operand → Bool
  | some (.const (.int .i64 0)) => true
  | _ => false
theorem zeroOp_inv {x : Option Operand} (h : zeroOp x = true) : x = some (.const (.int .i64 0)) := by
  unfold zeroOp at h
  split at h
  · rfl
  · cases h

def mOp (P : Program) (Φ : Nat → FuncId) : AOp → Op → Bool
  | .refuse, _ => true
  | .mv x, .move y => mOpd Φ x y
  | .mv x, .assign y => mOpd Φ x y
  | .pick c a b, .pick c' a' b' => mOpd Φ c c' && mOpd Φ a a' && mOpd Φ b b'
  | .alloc z, .alloc t => match zeroOf P t with | some vs => mZ z vs | none => false
  | .box x, .box _ y => mOpd Φ x y
  | .build z ps, .build t qs => (match zeroOf P t with | some vs => mZ z vs | none => false) && fieldsB P t && mParts P Φ t ps qs.toList
  | .bslice sz z n ps, .buildSlice t m qs =>
    (match elemSz P t with
      | some (e, s) => s == sz && (match zeroOf P e with | some vs => mZ (z.map .d) vs | none => false)
      | none => false) && n == m && decide (n * sz ≤ 2 ^ 24) && mElems Φ ps qs.toList
  | .bslq sz z n ps, .buildSlice t m qs =>
    (match elemSz P t with
      | some (e, s) => s == sz && (match zeroOf P e with | some vs => mZ (z.map .d) vs | none => false)
      | none => false) && n == m && decide (n * sz ≤ 2 ^ 24) && mElems Φ ps qs.toList
  | .dsl sz z n ps, .buildSlice t m qs =>
    (match elemSz P t with
      | some (e, s) => s == sz && (match zeroOf P e with | some vs => mZ (z.map .d) vs | none => false)
      | none => false) && n == m && decide (n * sz ≤ 2 ^ 24) && mElems Φ ps qs.toList
  | .ldb n x, .load t y => mN P t n && mOpd Φ x y
  | .ldg n x _, .load t y => mN P t n && mOpd Φ x y
  | .isnil x, .binOp op t x' y' _ => decide (op = .eql) && (elemSz P t).isSome && mOpd Φ x x' && nilOp y'
  | .brow sz z n ps, .buildSlice t m qs =>
    (match elemSz P t with
      | some (e, s) => s == sz && (match zeroOf P e with | some vs => mZ (z.map .d) vs | none => false)
      | none => false) && n == m && decide (n * sz ≤ 2 ^ 24) && mElems Φ ps qs.toList
  | .load n x, .load t y => mN P t n && mOpd Φ x y
  | .store n a v, .store t b u => (match P.info? t with | some i => i.size == n | none => false) && mOpd Φ a b && mOpd Φ v u
  | .nilc x, .nilCheck y => mOpd Φ x y
  | .bin op x y, .binOp op' _ x' y' _ => decide (op = op') && mOpd Φ x x' && mOpd Φ y y'
  | .eqb neg x y, .binOp op t x' y' _ => decide (op = if neg then .neq else .eql) && (match P.underlying t with | some .bool => true | _ => false) && mOpd Φ x x' && mOpd Φ y y'
  | .eqs ks neg x y, .binOp op t x' y' _ => decide (op = if neg then .neq else .eql) && (match P.underlying t with | some (.struct _) => true | _ => false) && mEq P 0 ks (P.fieldsOf t).toList && !P.stoodInHeld t && !P.eqGuardType P.depth t && mOpd Φ x x' && mOpd Φ y y'
  | .un op x, .unOp op' _ y => decide (op = op') && mOpd Φ x y
  | .conv k x, .convert src dst y => (P.underlying src).isSome && (match P.underlying dst with | some (.int k') => decide (k = k') | _ => false) && mOpd Φ x y
  | .convs x, .convert src dst y => (P.underlying src).isSome && (match P.underlying dst with | some .string => true | _ => false) && mOpd Φ x y
  | .faddr off x, .fieldAddr s y f => (match fieldAtB P s f with
      | some (o, ft) => o == off && (match P.info? ft with | some i => decide (i.size ≠ 0) | none => false)
      | none => false) && mOpd Φ x y
  | .fld off n x, .field s y f => (match fieldAtB P s f with
      | some (o, ft) => o == off && mN P ft n
      | none => false) && mOpd Φ x y
  | .iaddr sz x i, .indexAddr t y j => (match elemSz P t with | some (_, s) => s == sz | none => false) && mOpd Φ x y && mOpd Φ i j
  | .stri x i, .index t y j => (match P.underlying t with | some .string => true | _ => false) && mOpd Φ x y && mOpd Φ i j
  | .len x, .call { callee := .builtin .len, args := as, argTypes := ts } => (match ts.toList, as.toList with
      | [t], [y] => (elemSz P t).isSome && mOpd Φ x y
      | _, _ => false)
  | .slen x, .call { callee := .builtin .len, args := as, argTypes := ts } => (match ts.toList, as.toList with
      | [t], [y] => (match P.underlying t with | some .string => true | _ => false) && mOpd Φ x y
      | _, _ => false)
  | .append sz x y, .call { callee := .builtin .append, args := as, argTypes := ts } => (match ts.toList, as.toList with
      | [t, u], [x', y'] => (match elemSz P t with
          | some (e, s) => s == sz && (match P.info? e with | some i => decide (i.bytes ≤ 4096) | none => false) && (zeroOf P e).isSome
          | none => false) && (match P.underlying u with | some (.slice _) => true | some .string => true | _ => false) && mOpd Φ x x' && mOpd Φ y y'
      | _, _ => false)
  | .appb sz x y, .call { callee := .builtin .append, args := as, argTypes := ts } => (match ts.toList, as.toList with
      | [t, u], [x', y'] => (match elemSz P t with
          | some (e, s) => s == sz && (match P.info? e with | some i => decide (i.bytes ≤ 4096) | none => false) && (zeroOf P e).isSome
          | none => false) && (match P.underlying u with | some (.slice _) => true | some .string => true | _ => false) && mOpd Φ x x' && mOpd Φ y y'
      | _, _ => false)
  | .slice0 sz x, .slice t y lo hi mx => (match elemSz P t with | some (_, s) => s == sz | none => false) && mOpd Φ x y && lo.isNone && zeroOp hi && zeroOp mx
  | .slice sz x lo hi, .slice t y lo' hi' none => (match elemSz P t with | some (_, s) => s == sz | none => false) && mOpd Φ x y && mOpt Φ lo lo' && mOpt Φ hi hi'
  | .strs x lo hi, .slice t y lo' hi' none => (match P.underlying t with | some .string => true | _ => false) && mOpd Φ x y && mOpt Φ lo lo' && mOpt Φ hi hi'
  | .ext x i, .extract y j => mOpd Φ x y && i == j
  | .mkfn f caps, .makeFunc (.func g) first cs => Φ f == g && first.isEmpty && mOpds Φ caps cs.toList
  | .max x y, .call { callee := .builtin .max, args := as, .. } => (match as.toList with | [x', y'] => mOpd Φ x x' && mOpd Φ y y' | _ => false)
  | .min x y, .call { callee := .builtin .min, args := as, .. } => (match as.toList with | [x', y'] => mOpd Φ x x' && mOpd Φ y y' | _ => false)
  | .mksl sz z n c, .makeSlice t n' c' => (match elemSz P t with
      | some (e, s) => s == sz && (match zeroOf P e with | some vs => mZ (z.map .d) vs | none => false) && (match P.info? e with | some i => decide (i.bytes ≤ 4096) | none => false)
      | none => false) && mOpd Φ n n' && mOpd Φ c c'
  | .mkrow sz z n c, .makeSlice t n' c' => (match elemSz P t with
      | some (e, s) => s == sz && (match zeroOf P e with | some vs => mZ (z.map .d) vs | none => false) && (match P.info? e with | some i => decide (i.bytes ≤ 4096) | none => false)
      | none => false) && mOpd Φ n n' && mOpd Φ c c'
  | .b2s x, .convert src dst y => (match P.underlying src with | some (.slice e) => (match P.underlying e with | some (.int .u8) => true | _ => false) | _ => false) && (match P.underlying dst with | some .string => true | _ => false) && mOpd Φ x y
  | .pcall f xs, .call { callee := .value g, args := as, .. } => mOpd Φ f g && mOpds Φ xs as.toList
  | .lcall f xs, .call { callee := .value g, args := as, .. } => mOpd Φ f g && mOpds Φ xs as.toList
  | .call _ _ f xs, .call { callee := .value g, args := as, .. } => mOpd Φ f g && mOpds Φ xs as.toList
  | .callg _ f xs _, .call { callee := .value g, args := as, .. } => mOpd Φ f g && mOpds Φ xs as.toList
  | _, _ => false

theorem mD_sound {w : World} {Z : Nat → Nat} {d : D} {v : Value} (h : mD d v = true) : DRel w Z d v := by
  cases d <;> cases v <;> simp [mD] at h
  · obtain ⟨rfl, rfl⟩ := h; exact .int _ _
  · subst h; exact .bool _
  · subst h; exact .str _
  · rename_i a l c
    cases a with
    | none => cases l with
      | zero => cases c with
        | zero => exact .nil
        | succ c => simp at h
      | succ l => simp at h
    | some a => simp at h

section
variable {P : Program} {Φ : Nat → FuncId} {w : World} {Z : Nat → Nat} {σ : Nat → Option (Nat × Nat)} {st : St} {ρ : Nat → AV} {a : Act}

/-- The temporaries stand for what the machine has of them. -/
def ERel (Φ : Nat → FuncId) (w : World) (Z : Nat → Nat) (σ : Nat → Option (Nat × Nat)) (st : St) (ρ : Nat → AV) (a : Act) : Prop := ∀ t, VRel Φ w Z σ st (ρ t) (a.tmps.getD t undef)

theorem opd (hE : ERel Φ w Z σ st ρ a) {x : AOpd} {y : Operand} (h : mOpd Φ x y = true) : VRel Φ w Z σ st (x.ev ρ) (a.eval y) := by
  cases x <;> cases y <;> simp [mOpd] at h
  · subst h; exact hE _
  · exact .d (mD_sound h)
  · subst h; exact .fn rfl (fun i c v h => by simp at h)

theorem opds (hE : ERel Φ w Z σ st ρ a) : ∀ {xs : List AOpd} {ys : List Operand}, mOpds Φ xs ys = true → VRels Φ w Z σ st (evL ρ xs) (ys.map a.eval)
  | [], [], _ => .nil
  | x :: xs, y :: ys, h => by
    simp [mOpds] at h
    exact .cons (opd hE h.1) (opds hE h.2)
  | [], _ :: _, h => by simp [mOpds] at h
  | _ :: _, [], h => by simp [mOpds] at h

/-- What an operation's run gives. -/
def Ran (Φ : Nat → FuncId) (w : World) (Z : Nat → Nat) (σ : Nat → Option (Nat × Nat)) (st : St) (r : Result Next) (v : AV) (st1 : St) : Prop :=
  ∃ x w' Z' σ', (r = .ok (.value x) w' ∨ (r = .ok .skip w' ∧ x = undef)) ∧ Sim Φ w' Z' σ' st1 ∧ VRel Φ w' Z' σ' st1 v x ∧ Ext st.length w Z σ st w' Z' σ' st1

theorem Ran.val (S : Sim Φ w Z σ st) {r : Result Next} {v : AV} {x : Value} (h : r = .ok (.value x) w) (hv : VRel Φ w Z σ st v x) : Ran Φ w Z σ st r v st :=
  ⟨x, w, Z, σ, .inl h, S, hv, Ext.refl _ _ _ _ _⟩

theorem VRel.int_inv {k : IntKind} {n : Int} {x : Value} (h : VRel Φ w Z σ st (.d (.int k n)) x) : x = .int k n := by cases h with | d h => cases h; rfl
theorem VRel.bool_inv {b : Bool} {x : Value} (h : VRel Φ w Z σ st (.d (.bool b)) x) : x = .bool b := by cases h with | d h => cases h; rfl
theorem VRel.str_inv {l : List UInt8} {x : Value} (h : VRel Φ w Z σ st (.d (.str l)) x) : ∃ s : ByteArray, x = .string s ∧ s.data.toList = l := by cases h with | d h => cases h; exact ⟨_, rfl, rfl⟩
theorem VRel.nil_inv {x : Value} (h : VRel Φ w Z σ st (.d .nil) x) : x = .slice none 0 0 := by cases h with | d h => cases h; rfl

theorem DRel.str' {s : ByteArray} {l : List UInt8} (h : s.data.toList = l) : DRel w Z (.str l) (.string s) := by subst h; exact .str s

theorem aIx_inv {v : AV} {n : Int} {x : Value} (h : aIx v = some n) (hv : VRel Φ w Z σ st v x) : ∃ k, x = .int k n := by
  cases v with
  | d y => cases y <;> simp [aIx] at h; subst h; exact ⟨_, hv.int_inv⟩
  | _ => simp [aIx] at h

/-! ### Sums and comparisons -/
theorem abin_run {op : BinOp} {x y z : D} {u v : Value} (t : TypeId) (xo yo : Operand) (h : abin op x y = some z) (hx : DRel w Z x u) (hy : DRel w Z y v) :
    ∃ r, (do eqGuard op t xo yo u v; binOp op t u v : Sem Value).run P w = .ok r w ∧ DRel w Z z r := by
  cases hx with
  | int k n =>
    cases hy with
    | int k' m =>
      simp only [eqGuard_at_int, Sem.run_bind, Sem.run_pure, Result.andThen_ok]
      cases op <;> simp only [abin] at h
      case shl =>
        unfold ashift at h
        by_cases hm : m < 0
        · simp [hm] at h
        · simp [hm] at h; subst h
          exact ⟨_, by simp [binOp, Op.shift, hm], .int _ _⟩
      case shr =>
        unfold ashift at h
        by_cases hm : m < 0
        · simp [hm] at h
        · simp [hm] at h; subst h
          exact ⟨_, by simp [binOp, Op.shift, hm], .int _ _⟩
      all_goals
        split at h
        · rename_i hk
          subst hk
          first
            | (simp only [aint] at h
               split at h
               · cases h
               · rename_i hz
                 cases h
                 exact ⟨_, by simp [binOp, Op.intDiv, hz], .int _ _⟩)
            | (simp only [aint, Option.some.injEq] at h
               subst h
               first
                 | exact ⟨_, by simp [binOp, Op.intArith, Op.intBits, Op.intCmp], DRel.int _ _⟩
                 | exact ⟨_, by simp [binOp, Op.intArith, Op.intBits, Op.intCmp], DRel.bool _⟩)
            | (simp [aint] at h)
        · cases h
    | _ => simp [abin] at h
  | str s =>
    cases hy with
    | str s' =>
      simp only [abin] at h
      have e1 := ByteArray.toList_eq s
      have e2 := ByteArray.toList_eq s'
      cases op <;> simp only [astr] at h
      case add =>
        split at h
        · cases h
          rename_i hb
          refine ⟨.string (s ++ s'), ?_, DRel.str' (by simp)⟩
          have h1 : s.data.toList.length = s.size := by rw [Array.length_toList]; rfl
          have h2 : s'.data.toList.length = s'.size := by rw [Array.length_toList]; rfl
          have : ¬ ((s.size : Int) + (s'.size : Int) > 9223372036854775807) := by omega
          simp [binOp, Op.stringOp, eqGuard_add, this]
        · cases h
      case eql =>
        cases h
        exact ⟨_, by simp [eqGuard_at_string, binOp, Op.stringOp, e1, e2], DRel.bool _⟩
      case neq =>
        cases h
        exact ⟨_, by simp [eqGuard_at_string, binOp, Op.stringOp, e1, e2], DRel.bool _⟩
      all_goals cases h
    | _ => simp [abin] at h
  | _ => simp [abin] at h

theorem aun_run {op : UnOp} {x z : D} {u : Value} (h : aun op x = some z) (hx : DRel w Z x u) : ∃ r, (Op.unary op u).run P w = .ok r w ∧ DRel w Z z r := by
  cases hx with
  | int k n =>
    cases op <;> simp only [aun] at h <;> cases h
    · exact ⟨_, by simp [Op.unary, Op.intArith], .int _ _⟩
    · exact ⟨_, by simp [Op.unary, Op.intBits], .int _ _⟩
  | bool b =>
    cases op <;> simp only [aun] at h <;> cases h
    exact ⟨_, by simp [Op.unary], .bool _⟩
  | _ => simp [aun] at h

end
end Go.Proofs.YtplgdddfhjpojaaGreat.AM

namespace Go.Proofs.YtplgdddfhjpojaaGreat.AM
open Go

section
variable {P : Program} {Φ : Nat → FuncId} {w : World} {Z : Nat → Nat} {σ : Nat → Option (Nat × Nat)} {st : St} {ρ : Nat → AV} {a : Act}

/-! ### Reading -/
def RdAt (Φ : Nat → FuncId) (w : World) (Z : Nat → Nat) (σ : Nat → Option (Nat × Nat)) (st : St) (b off : Nat) (v : AV) : Option Nat → Prop
  | none => ∃ u, w.cell? ⟨b, off, none⟩ = some u ∧ VRel Φ w Z σ st v u
  | some n => ∃ us : List Value, us.length = n ∧ (∀ (j : Nat) u, us[j]? = some u → w.cell? ⟨b, off + j, none⟩ = some u) ∧ VRel Φ w Z σ st v (.agg us.toArray)

def RcAt (Φ : Nat → FuncId) (w : World) (Z : Nat → Nat) (σ : Nat → Option (Nat × Nat)) (st : St) (c : List Value) (f : Nat) (v : AV) : Option Nat → Prop
  | none => ∃ u, c[f]? = some u ∧ VRel Φ w Z σ st v u
  | some n => f + n ≤ c.length ∧ VRel Φ w Z σ st v (.agg ((c.drop f).take n).toArray)

theorem rdD_sound {c : List D} {f b off : Nat} {n : Option Nat} {v : AV} (h : rdD c f n = some v) (hc : Cells w Z b off c) : RdAt Φ w Z σ st b (off + f) v n := by
  cases n with
  | none =>
    simp only [rdD] at h
    cases hd : c[f]? with
    | none => simp [hd] at h
    | some x =>
      simp [hd] at h; subst h
      obtain ⟨u, h1, h2⟩ := hc f x hd
      exact ⟨u, h1, .d h2⟩
  | some n =>
    simp only [rdD] at h
    split at h
    · cases h
      rename_i hl
      have key : ∀ (m k : Nat), k + m ≤ c.length → ∃ us : List Value, us.length = m ∧ (∀ j u, us[j]? = some u → w.cell? ⟨b, off + k + j, none⟩ = some u) ∧ VRels Φ w Z σ st (((c.drop k).take m).map .d) us := by
        intro m
        induction m with
        | zero => intro k _; exact ⟨[], rfl, fun j u h => by simp at h, by simpa using VRels.nil⟩
        | succ m ih =>
          intro k hk
          obtain ⟨us, h1, h2, h3⟩ := ih (k + 1) (by omega)
          have hx : c[k]? = some c[k] := List.getElem?_eq_getElem (by omega)
          obtain ⟨u, h4, h5⟩ := hc k _ hx
          refine ⟨u :: us, by simp [h1], fun j y hj => ?_, ?_⟩
          · cases j with
            | zero => simp at hj; subst hj; exact h4
            | succ j => simp at hj; have := h2 j y hj; rwa [show off + k + (j + 1) = off + (k + 1) + j by omega]
          · rw [List.drop_eq_getElem_cons (by omega : k < c.length), List.take_succ_cons, List.map_cons]
            exact .cons (.d h5) h3
      obtain ⟨us, h1, h2, h3⟩ := key n f hl
      exact ⟨us, h1, h2, .agg (by simpa using h3.1) (fun i c v h4 h5 => h3.2 i c v h4 (by simpa using h5))⟩
    · cases h

theorem rdC_sound {cs : List AV} {c : List Value} {f : Nat} {n : Option Nat} {v : AV} (h : rdC cs f n = some v) (hc : VRels Φ w Z σ st cs c) : RcAt Φ w Z σ st c f v n := by
  cases n with
  | none =>
    simp only [rdC] at h
    have hf := lt_of_getElem? h
    have hu : c[f]? = some (c[f]'(by rw [hc.1]; exact hf)) := List.getElem?_eq_getElem (by rw [hc.1]; exact hf)
    exact ⟨_, hu, hc.2 f v _ h hu⟩
  | some n =>
    simp only [rdC] at h
    split at h
    · cases h
      rename_i hl
      have := (hc.drop f).take n
      exact ⟨by rw [hc.1]; exact hl, .agg (by simpa using this.1) (fun i c v h4 h5 => this.2 i c v h4 (by simpa using h5))⟩
    · cases h

/-- Reading at a pointer. -/
theorem rd_sound (S : Sim Φ w Z σ st) {lim : Nat} {p v : AV} {x : Value} {n : Option Nat} (h : rd lim st n p = some v) (hp : VRel Φ w Z σ st p x) :
    ∃ b off, x = .pointer (some ⟨b, off, none⟩) ∧ RdAt Φ w Z σ st b off v n := by
  cases hp with
  | eptr hz hc =>
    rename_i c f b off
    simp only [rd] at h
    exact ⟨b, off + f, rfl, rdD_sound h hc⟩
  | dptr hd =>
    simp only [rd] at h
    split at h
    · rw [hd] at h; simp at h
    · cases h
  | bptr hs ho =>
    rename_i h' sz i f b cs
    simp only [rd] at h
    split at h
    · rw [ho] at h
      simp at h
      rcases S.obj _ _ ho with ⟨_, h1⟩ | ⟨b', c, el, h1, h2, h3, h4⟩
      · rw [hs] at h1; cases h1
      · rw [hs] at h1; cases h1
        have := rdC_sound h h4
        refine ⟨b, i * sz + f, rfl, ?_⟩
        cases n with
        | none =>
          obtain ⟨u, h5, h6⟩ := this
          have hlt := lt_of_getElem? h5
          simp at hlt
          rw [List.getElem?_take_of_lt (by omega)] at h5
          exact ⟨u, by rw [cell_iff]; exact ⟨c, el, _, h2, by simpa using h5⟩, h6⟩
        | some n =>
          obtain ⟨h5, h6⟩ := this
          refine ⟨_, by simp; simp at h5; omega, fun j u hj => ?_, h6⟩
          rw [cell_iff]
          refine ⟨c, el, _, h2, ?_⟩
          have hlt := lt_of_getElem? hj
          simp at hlt
          rw [List.getElem?_take_of_lt (by omega), List.getElem?_drop, List.getElem?_take_of_lt (by omega)] at hj
          simpa using hj
    · cases h
  | aptr hs ho =>
    rename_i h' sz i f b o es wr
    simp only [rd] at h
    split at h
    · rw [ho] at h
      simp at h
      cases he : es[i]? with
      | none => simp [he] at h
      | some e =>
        simp [he] at h
        rcases S.obj _ _ ho with ⟨h1, h2⟩ | ⟨b', o', c, el, h1, h2, h3, h4, h5, h6⟩
        · rw [hs] at h2; cases h2
        · rw [hs] at h1; cases h1
          exact ⟨b, o + i * sz + f, rfl, rdD_sound h (h4 i e he).2⟩
    · cases h
  | d => simp [rd] at h
  | hs => simp [rd] at h
  | hs0 => simp [rd] at h
  | hse => simp [rd] at h
  | dhs => simp [rd] at h
  | rhs => simp [rd] at h
  | rhs0 => simp [rd] at h
  | rhse => simp [rd] at h
  | nn => simp [rd] at h
  | fn => simp [rd] at h
  | agg => simp [rd] at h
  | tup => simp [rd] at h
  | undef => simp [rd] at h

theorem isAgg_run {t : TypeId} {b : Bool} (h : aggB P t = some b) (w : World) : (isAgg t).run P w = .ok b w := by
  unfold aggB at h
  cases hu : P.underlying t with
  | none => simp [hu] at h
  | some d =>
    simp only [isAgg, Sem.run_bind, run_underlying hu w, Result.andThen_ok]
    cases d <;> simp_all

theorem loadVar_run (S : Sim Φ w Z σ st) {lim : Nat} {p v : AV} {x : Value} {n : Option Nat} {t : TypeId} (hn : mN P t n = true) (h : rd lim st n p = some v) (hp : VRel Φ w Z σ st p x) :
    ∃ A u, x = .pointer (some A) ∧ (loadVar t A).run P w = .ok u w ∧ VRel Φ w Z σ st v u := by
  obtain ⟨b, off, rfl, hr⟩ := rd_sound S h hp
  refine ⟨⟨b, off, none⟩, ?_⟩
  unfold mN at hn
  cases hg : aggB P t with
  | none => simp [hg] at hn
  | some g =>
    cases hi : P.info? t with
    | none => cases g <;> simp [hg, hi] at hn
    | some i =>
      cases g with
      | true =>
        simp [hg, hi] at hn
        subst hn
        obtain ⟨us, h1, h2, h3⟩ := hr
        refine ⟨_, rfl, ?_, h3⟩
        have hl := run_loadCells_list (P := P) w ⟨b, off, none⟩ us (fun j v hj => by rw [Addr.add_lit]; exact h2 j v hj)
        rw [h1] at hl
        simp [loadVar, isAgg_run hg, sizeOf, typeInfo, hi, hl]
      | false =>
        simp [hg, hi] at hn
        subst hn
        obtain ⟨u, h1, h2⟩ := hr
        exact ⟨u, rfl, by simp [loadVar, isAgg_run hg, h1], h2⟩

/-! ### Freezing -/
theorem frza_sound (S : Sim Φ w Z σ st) {v : AV} {x : Value} {d : D} {st1 : St} (h : frza st v = some (d, st1)) (hv : VRel Φ w Z σ st v x) :
    ∃ Z', Sim Φ w Z' σ st1 ∧ Ext st.length w Z σ st w Z' σ st1 ∧ DRel w Z' d x ∧ d ≠ .nil ∧ st1.length = st.length := by
  cases v with
  | d y =>
    cases y with
    | nil =>
      simp [frza] at h; obtain ⟨rfl, rfl⟩ := h
      rw [hv.nil_inv]
      exact ⟨Z, S, Ext.refl _ _ _ _ _, .sl0, by simp, rfl⟩
    | _ =>
      simp [frza] at h; obtain ⟨rfl, rfl⟩ := h
      cases hv with
      | d hd => exact ⟨Z, S, Ext.refl _ _ _ _ _, hd, by simp, rfl⟩
  | hs h' sz i n =>
    simp only [frza] at h
    split at h
    · rename_i sz' es wr ho
      split at h
      · rename_i hc
        obtain ⟨rfl, hc⟩ := hc
        cases h
        obtain ⟨Z', h1, h2, h3⟩ := S.frzAny ho
        exact ⟨Z', h1, h2, h3 i n x hc hv, by simp, by simp⟩
      · cases h
    · cases h
  | _ => simp [frza] at h

theorem DRel.monoE {w' : World} {Z' : Nat → Nat} {σ' : Nat → Option (Nat × Nat)} {st' : St} {M : Nat} (E : Ext M w Z σ st w' Z' σ' st') {d : D} {x : Value} (h : DRel w Z d x) : DRel w' Z' d x := h.mono E.stays

theorem frzaL_sound : ∀ {vs : List AV} {xs : List Value} {st st1 : St} {Z : Nat → Nat} {ds : List D}, Sim Φ w Z σ st → frzaL st vs = some (ds, st1) → VRels Φ w Z σ st vs xs →
    ∃ Z', Sim Φ w Z' σ st1 ∧ Ext st.length w Z σ st w Z' σ st1 ∧ ds.length = vs.length ∧ (∀ (j : Nat) d x, ds[j]? = some d → xs[j]? = some x → DRel w Z' d x) ∧ st1.length = st.length
  | [], xs, st, st1, Z, ds, S, h, hv => by
    simp [frzaL] at h; obtain ⟨rfl, rfl⟩ := h
    exact ⟨Z, S, Ext.refl _ _ _ _ _, rfl, fun j d x h => by simp at h, rfl⟩
  | v :: vs, xs, st, st1, Z, ds, S, h, hv => by
    obtain ⟨x, xs', rfl, hx, hxs⟩ := VRels.cons_inv hv
    simp only [frzaL] at h
    cases h1 : frza st v with
    | none => simp [h1] at h
    | some r =>
      obtain ⟨d, st2⟩ := r
      cases h2 : frzaL st2 vs with
      | none => simp [h1, h2] at h
      | some r2 =>
        obtain ⟨ds2, st3⟩ := r2
        simp [h1, h2] at h
        obtain ⟨rfl, rfl⟩ := h
        obtain ⟨Z1, S1, E1, hd, _, hl1⟩ := frza_sound S h1 hx
        obtain ⟨Z2, S2, E2, hl, hds, hl2⟩ := frzaL_sound S1 h2 (hxs.mono E1)
        rw [hl1] at E2
        refine ⟨Z2, S2, E1.trans E2, by simp [hl], fun j d' x' hj hx' => ?_, hl2.trans hl1⟩
        cases j with
        | zero => simp at hj hx'; subst hj hx'; exact hd.monoE E2
        | succ j => simp at hj hx'; exact hds j d' x' hj hx'

/-- Freezing arrays alone leaves boxes as they are. -/
theorem frzaL_box {h : Nat} {cs : List AV} : ∀ {vs : List AV} {st st1 : St} {ds : List D}, frzaL st vs = some (ds, st1) → st[h]? = some (.box cs) → st1[h]? = some (.box cs)
  | [], st, st1, ds, hf, hx => by simp [frzaL] at hf; rw [← hf.2]; exact hx
  | v :: vs, st, st1, ds, hf, hx => by
    simp only [frzaL] at hf
    cases h1 : frza st v with
    | none => simp [h1] at hf
    | some r =>
      obtain ⟨d, st2⟩ := r
      cases h2 : frzaL st2 vs with
      | none => simp [h1, h2] at hf
      | some r2 =>
        obtain ⟨ds2, st3⟩ := r2
        simp [h1, h2] at hf
        obtain ⟨_, rfl⟩ := hf
        refine frzaL_box h2 ?_
        cases v with
        | d y => cases y <;> simp [frza] at h1 <;> (rw [← h1.2]; exact hx)
        | hs h' sz i n =>
          simp only [frza] at h1
          split at h1
          · rename_i sz' es wr ho
            split at h1
            · cases h1
              have : h ≠ h' := by rintro rfl; rw [hx] at ho; cases ho
              rw [List.getElem?_set_ne (Ne.symm this)]; exact hx
            · cases h1
          · cases h1
        | _ => simp [frza] at h1

theorem frz1_sound (S : Sim Φ w Z σ st) {v : AV} {x : Value} {d : D} {st1 : St} (h : frz1 st v = some (d, st1)) (hv : VRel Φ w Z σ st v x) :
    ∃ Z', Sim Φ w Z' σ st1 ∧ Ext st.length w Z σ st w Z' σ st1 ∧ DRel w Z' d x ∧ d ≠ .nil ∧ st1.length = st.length := by
  by_cases hb : ∃ h' sz i n cs, v = .hs h' sz i n ∧ st[h']? = some (.box cs)
  · obtain ⟨h', sz, i, n, cs, rfl, ho⟩ := hb
    simp only [frz1, ho, frzb] at h
    split at h
    · rename_i hn
      cases hf : frzaL st cs with
      | none => simp [hf] at h
      | some r =>
        obtain ⟨ds, st2⟩ := r
        simp [hf] at h
        obtain ⟨rfl, rfl⟩ := h
        have ho2 := frzaL_box hf ho
        have hrel : ∃ xs, VRels Φ w Z σ st cs xs ∧ ∀ b c el, σ h' = some (b, 0) → w.heap[b]? = some (.cells c el (0, 0)) → xs = c.toList.take cs.length := by
          rcases S.obj _ _ ho with ⟨rfl, h2⟩ | ⟨b, c, el, h1, h2, h3, h4⟩
          · exact ⟨[], .nil, fun b c el h1 _ => by rw [h2] at h1; cases h1⟩
          · refine ⟨_, h4, fun b' c' el' h1' h2' => ?_⟩
            rw [h1] at h1'; cases h1'
            rw [h2] at h2'; cases h2'; rfl
        obtain ⟨xs, hxs, hxc⟩ := hrel
        obtain ⟨Z1, S1, E1, hl, hds, hl1⟩ := frzaL_sound S hf hxs
        obtain ⟨Z2, S2, E2, hfin⟩ := S1.frzBox ho2 hl (fun b c el h1 h2 j d x hj hx => by
          have hjl := lt_of_getElem? hj
          refine hds j d x hj ?_
          rw [hxc b c el h1 h2, List.getElem?_take_of_lt (by omega)]
          simpa using hx)
        rw [hl1] at E2
        exact ⟨Z2, S2, E1.trans E2, hfin sz i n x hn (hv.mono E1), by simp, by simp [hl1]⟩
    · cases h
  · have he : frz1 st v = frza st v := by
      cases v with
      | d y => cases y <;> rfl
      | hs h' sz i n =>
        simp only [frz1, frza]
        cases ho : st[h']? with
        | none => rfl
        | some o =>
          cases o with
          | box cs => exact absurd ⟨h', sz, i, n, cs, rfl, ho⟩ hb
          | _ => rfl
      | _ => rfl
    rw [he] at h
    exact frza_sound S h hv

theorem frzL_sound : ∀ {vs : List AV} {xs : List Value} {st st1 : St} {Z : Nat → Nat} {ds : List D}, Sim Φ w Z σ st → frzL st vs = some (ds, st1) → VRels Φ w Z σ st vs xs →
    ∃ Z', Sim Φ w Z' σ st1 ∧ Ext st.length w Z σ st w Z' σ st1 ∧ ds.length = vs.length ∧ (∀ (j : Nat) d x, ds[j]? = some d → xs[j]? = some x → DRel w Z' d x) ∧ st1.length = st.length
  | [], xs, st, st1, Z, ds, S, h, hv => by
    simp [frzL] at h; obtain ⟨rfl, rfl⟩ := h
    exact ⟨Z, S, Ext.refl _ _ _ _ _, rfl, fun j d x h => by simp at h, rfl⟩
  | v :: vs, xs, st, st1, Z, ds, S, h, hv => by
    obtain ⟨x, xs', rfl, hx, hxs⟩ := VRels.cons_inv hv
    simp only [frzL] at h
    cases h1 : frz1 st v with
    | none => simp [h1] at h
    | some r =>
      obtain ⟨d, st2⟩ := r
      cases h2 : frzL st2 vs with
      | none => simp [h1, h2] at h
      | some r2 =>
        obtain ⟨ds2, st3⟩ := r2
        simp [h1, h2] at h
        obtain ⟨rfl, rfl⟩ := h
        obtain ⟨Z1, S1, E1, hd, _, hl1⟩ := frz1_sound S h1 hx
        obtain ⟨Z2, S2, E2, hl, hds, hl2⟩ := frzL_sound S1 h2 (hxs.mono E1)
        rw [hl1] at E2
        refine ⟨Z2, S2, E1.trans E2, by simp [hl], fun j d' x' hj hx' => ?_, hl2.trans hl1⟩
        cases j with
        | zero => simp at hj hx'; subst hj hx'; exact hd.monoE E2
        | succ j => simp at hj hx'; exact hds j d' x' hj hx'

/-! ### Writing -/
theorem splice_get (c : Array Value) (vals : List Value) (q r : Nat) (h : q + vals.length ≤ c.size) :
    (c.toList.take q ++ vals ++ c.toList.drop (q + vals.length)).toArray[r]? = if r < q then c[r]? else if r < q + vals.length then vals[r - q]? else c[r]? := by
  have hq : (c.toList.take q).length = q := by simp; omega
  simp only [List.getElem?_toArray, List.append_assoc]
  by_cases h1 : r < q
  · rw [List.getElem?_append_left (by omega), List.getElem?_take_of_lt h1]; simp [h1]
  · rw [List.getElem?_append_right (by omega), hq]
    by_cases h2 : r < q + vals.length
    · rw [List.getElem?_append_left (by omega)]; simp [h1, h2]
    · rw [List.getElem?_append_right (by omega), List.getElem?_drop]
      simp only [h1, h2, if_false]
      rw [show q + vals.length + (r - q - vals.length) = r by omega]
      simp

theorem splice_size (c : Array Value) (vals : List Value) (q : Nat) (h : q + vals.length ≤ c.size) :
    (c.toList.take q ++ vals ++ c.toList.drop (q + vals.length)).toArray.size = c.size := by
  simp; omega

theorem storeVar_run {t : TypeId} {b off n : Nat} {el : TypeId} {c : Array Value} {u : Value} {i : TypeInfo} (hi : P.info? t = some i) (hn : i.size = n) (hu : u.cells.size = n)
    (hb : w.heap[b]? = some (.cells c el (0, 0))) (hl : off + n ≤ c.size) (h1 : ∀ y ∈ u.cells.toList, y.oneCell' = true) :
    (storeVar t ⟨b, off, none⟩ u).run P w = .ok () (w.setRow b (c.toList.take off ++ u.cells.toList ++ c.toList.drop (off + u.cells.toList.length)).toArray) := by
  have := run_storeCells_at P b off el u.cells.toList 0 c w hb (by simp; omega) h1
  simp only [Nat.add_zero] at this
  simp [storeVar, sizeOf, typeInfo, hi, hn, hu, this]

/-- Where the rows of an object lie apart. -/
theorem row_apart {i k sz f n j : Nat} (hk : k ≠ i) (hj : j < sz) (hf : f + n ≤ sz) : k * sz + j < i * sz + f ∨ i * sz + f + n ≤ k * sz + j := by
  rcases Nat.lt_or_gt_of_ne hk with h | h
  · left
    have : (k + 1) * sz ≤ i * sz := Nat.mul_le_mul_right _ h
    rw [Nat.add_mul] at this; omega
  · right
    have : (i + 1) * sz ≤ k * sz := Nat.mul_le_mul_right _ h
    rw [Nat.add_mul] at this; omega

theorem wrt_run (S : Sim Φ w Z σ st) {n : Nat} {p v : AV} {x u : Value} {st1 : St} {t : TypeId} {ti : TypeInfo} (hti : P.info? t = some ti) (htn : ti.size = n)
    (h : wrt st n p v = some st1) (hp : VRel Φ w Z σ st p x) (hv : VRel Φ w Z σ st v u) :
    ∃ A w' Z', x = .pointer (some A) ∧ (storeVar t A u).run P w = .ok () w' ∧ Sim Φ w' Z' σ st1 ∧ Ext st.length w Z σ st w' Z' σ st1 := by
  unfold wrt at h
  split at h
  · rename_i hn
    obtain ⟨hn, hsol⟩ := hn
    obtain ⟨hcs, hone⟩ := hv.cellsOf hsol
    have husz : u.cells.size = n := by have := hcs.1; simp at this; omega
    cases hp with
    | bptr hs ho =>
      rename_i h' sz i f0 b cs
      simp only [ho] at h
      generalize hfe : i * sz + f0 = f at h
      split at h
      · rename_i hf
        cases h
        rcases S.obj _ _ ho with ⟨_, h1⟩ | ⟨b', c, el, h1, h2, h3, h4⟩
        · rw [hs] at h1; cases h1
        rw [hs] at h1; cases h1
        have hcl : cs.length ≤ c.size := by have := h4.1; simp at this; omega
        have hrun := storeVar_run (P := P) (w := w) (off := f) hti htn husz h2 (by omega) hone
        have hl : liv st h' := .inl ⟨cs, ho⟩
        have hsz := splice_size c u.cells.toList f (by simp; omega)
        have hzc : ∀ off : Nat, off < Z b → (c.toList.take f ++ u.cells.toList ++ c.toList.drop (f + u.cells.toList.length)).toArray[off]? = c[off]? := fun off ho => by omega
        have hvn : v.cells.length = n := hn
        have hlen : (cs.take f ++ (v.cells ++ cs.drop (f + n))).length = cs.length := by simp [hvn]; omega
        have E := ext_set S ho hl hs h2 hsz hzc (o := .box (cs.take f ++ (v.cells ++ cs.drop (f + n)))) hlen
        refine ⟨⟨b, f, none⟩, _, Z, rfl, hrun, S.setObj ho hl hs h2 hsz hzc hlen ?_, E⟩
        refine .inr ⟨b, _, el, hs, setRow_heap w b c _ el (0, 0) h2, h3, ?_⟩
        have hv' : VRels Φ w Z σ st (cs.take f ++ (v.cells ++ cs.drop (f + n))) ((c.toList.take cs.length).take f ++ (u.cells.toList ++ (c.toList.take cs.length).drop (f + n))) :=
          (h4.take f).append (hcs.append (h4.drop (f + n)))
        have : (c.toList.take f ++ u.cells.toList ++ c.toList.drop (f + u.cells.toList.length)).toArray.toList.take (cs.take f ++ (v.cells ++ cs.drop (f + n))).length = (c.toList.take cs.length).take f ++ (u.cells.toList ++ (c.toList.take cs.length).drop (f + n)) := by
          rw [hlen]
          have hun : u.cells.toList.length = n := by simp [husz]
          apply List.ext_getElem?
          intro r
          have hq : ((c.toList.take cs.length).take f).length = f := by simp; omega
          by_cases hr : r < cs.length
          · rw [List.getElem?_take_of_lt hr]
            have := splice_get c u.cells.toList f r (by omega)
            simp only [List.getElem?_toArray] at this
            rw [this]
            by_cases r1 : r < f
            · rw [if_pos r1, List.getElem?_append_left (by omega), List.getElem?_take_of_lt r1, List.getElem?_take_of_lt hr]; simp
            · rw [if_neg r1, List.getElem?_append_right (by omega), hq]
              by_cases r2 : r < f + n
              · rw [if_pos (by omega), List.getElem?_append_left (by omega)]
              · rw [if_neg (by omega), List.getElem?_append_right (by omega), hun, List.getElem?_drop, show f + n + (r - f - n) = r by omega, List.getElem?_take_of_lt hr]; simp
          · rw [List.getElem?_eq_none (by simp; omega), List.getElem?_eq_none (by simp [hun]; omega)]
        rw [this]
        exact hv'.mono E
      · cases h
    | aptr hs ho =>
      rename_i h' sz i f b o es wr
      simp only [ho] at h
      cases hf : frzL st v.cells with
      | none => simp [hf] at h
      | some r =>
        obtain ⟨ds, st2⟩ := r
        simp only [hf] at h
        obtain ⟨Z1, S1, E1, hdl, hds, hl1⟩ := frzL_sound S hf hcs
        cases ho2 : st2[h']? with
        | none => simp [ho2] at h
        | some ob =>
          simp only [ho2] at h
          obtain ⟨o2, hq1, hq2, hq3⟩ := E1.sig h' (lt_of_getElem? ho) _ ho
          rw [ho2] at hq1; cases hq1
          cases ob with
          | box => simp at h
          | dead => simp at h
          | arr sz2 es2 wr2 =>
            obtain ⟨rfl, hlen⟩ := hq2
            cases wr2 with
            | false => simp at h
            | true =>
              simp only at h
              cases he : es2[i]? with
              | none => simp [he] at h
              | some e =>
                simp only [he] at h
                split at h
                · rename_i hfn
                  obtain ⟨_, hfn⟩ := hfn
                  cases h
                  have hs2 := hq3 (by simp)
                  have hs' : σ h' = some (b, o) := hs
                  rcases S1.obj _ _ ho2 with ⟨h1, h2⟩ | ⟨b', o', c, el, h1, h2, h3, h4, h5, h6⟩
                  · rw [hs'] at h2; cases h2
                  · rw [hs'] at h1; cases h1
                    have hi := lt_of_getElem? he
                    obtain ⟨hesz, hecells⟩ := h4 i e he
                    have hdn : ds.length = n := by omega
                    have hmul : (i + 1) * sz2 ≤ es2.length * sz2 := Nat.mul_le_mul_right _ hi
                    rw [Nat.add_mul, Nat.one_mul] at hmul
                    have hfit : o + i * sz2 + f + n ≤ c.size := by omega
                    have hrun := storeVar_run (P := P) (w := w) (off := o + i * sz2 + f) hti htn husz h2 hfit hone
                    have hl : liv st2 h' := .inr ⟨sz2, es2, ho2⟩
                    have hul : u.cells.toList.length = n := by simp [husz]
                    have hsz := splice_size c u.cells.toList (o + i * sz2 + f) (by omega)
                    have hzb := h5 rfl
                    have hzc : ∀ off : Nat, off < Z1 b → (c.toList.take (o + i * sz2 + f) ++ u.cells.toList ++ c.toList.drop (o + i * sz2 + f + u.cells.toList.length)).toArray[off]? = c[off]? := fun off ho => by
                      rw [splice_get c _ _ off (by omega), if_pos (by omega)]
                    have hle : OLe (.arr sz2 es2 true) (.arr sz2 (es2.set i (e.take f ++ (ds ++ e.drop (f + n)))) true) := ⟨rfl, by simp⟩
                    have E := ext_set S1 ho2 hl hs' h2 hsz hzc hle
                    rw [hl1] at E
                    refine ⟨⟨b, o + i * sz2 + f, none⟩, _, Z1, rfl, hrun, S1.setObj ho2 hl hs' h2 hsz hzc hle ?_, E1.trans E⟩
                    refine .inr ⟨b, o, _, el, hs', setRow_heap w b c _ el (0, 0) h2, by rw [hsz]; simpa using h3, ?_, fun _ => hzb, fun q => by cases q⟩
                    intro k e' he'
                    have stays : Stays w (w.setRow b (c.toList.take (o + i * sz2 + f) ++ u.cells.toList ++ c.toList.drop (o + i * sz2 + f + u.cells.toList.length)).toArray) Z1 Z1 := E.stays
                    rw [List.getElem?_set] at he'
                    by_cases hki : i = k
                    · subst hki
                      simp [hi] at he'
                      subst he'
                      refine ⟨by simp; omega, fun j d hj => ?_⟩
                      have hjl := lt_of_getElem? hj
                      simp at hjl
                      rw [cell_setRow_same w b _ c _ el (0, 0) h2, splice_get c _ _ _ (by omega)]
                      by_cases hj1 : j < f
                      · rw [List.getElem?_append_left (by simp; omega), List.getElem?_take_of_lt hj1] at hj
                        obtain ⟨y, h7, h8⟩ := hecells j d hj
                        rw [if_pos (by omega)]
                        refine ⟨y, ?_, h8.mono stays⟩
                        simpa [World.cell?, h2] using h7
                      · rw [List.getElem?_append_right (by simp; omega)] at hj
                        have htk : (e.take f).length = f := by simp; omega
                        rw [htk] at hj
                        by_cases hj2 : j < f + n
                        · rw [List.getElem?_append_left (by omega)] at hj
                          rw [if_neg (by omega), if_pos (by omega)]
                          have hjy : u.cells.toList[j - f]? = some (u.cells.toList[j - f]'(by omega)) := List.getElem?_eq_getElem (by omega)
                          refine ⟨_, ?_, (hds (j - f) d _ hj hjy).mono stays⟩
                          rw [show o + i * sz2 + j - (o + i * sz2 + f) = j - f by omega]
                          exact hjy
                        · rw [List.getElem?_append_right (by omega), List.getElem?_drop, hdn] at hj
                          rw [show f + n + (j - f - n) = j by omega] at hj
                          obtain ⟨y, h7, h8⟩ := hecells j d hj
                          rw [if_neg (by omega), if_neg (by omega)]
                          refine ⟨y, ?_, h8.mono stays⟩
                          simpa [World.cell?, h2] using h7
                    · simp [hki] at he'
                      obtain ⟨h7, h8⟩ := h4 k e' he'
                      refine ⟨h7, h8.keep stays fun j hj => ?_⟩
                      rw [cell_setRow_same w b _ c _ el (0, 0) h2, splice_get c _ _ _ (by omega)]
                      have hap := row_apart (n := n) (f := f) (Ne.symm hki : k ≠ i) (h7 ▸ hj : j < sz2) (by omega)
                      have hc : w.cell? ⟨b, o + k * sz2 + j, none⟩ = c[o + k * sz2 + j]? := by simp [World.cell?, h2]
                      rw [hc]
                      rcases hap with hap | hap
                      · rw [if_pos (by omega)]
                      · rw [if_neg (by omega), if_neg (by omega)]
                · cases h
    | dptr hd => simp [hd] at h
    | _ => simp at h
  · cases h

end
end Go.Proofs.YtplgdddfhjpojaaGreat.AM

namespace Go.Proofs.YtplgdddfhjpojaaGreat.AM
open Go

section
variable {P : Program} {Φ : Nat → FuncId} {w : World} {Z : Nat → Nat} {σ : Nat → Option (Nat × Nat)} {st : St} {ρ : Nat → AV} {a : Act}

/-! ### Zero values -/
theorem mZ_sound : ∀ {vs : List AV} {ys : List Value}, mZ vs ys = true → VRels Φ w Z σ st vs ys
  | [], [], _ => .nil
  | .d x :: vs, y :: ys, h => by simp [mZ] at h; exact .cons (.d (mD_sound h.1)) (mZ_sound h.2)
  | .undef :: vs, y :: ys, h => by simp [mZ] at h; exact .cons (.undef y) (mZ_sound h.2)
  | [], _ :: _, h => by simp [mZ] at h
  | v :: _, [], h => by cases v <;> simp [mZ] at h
  | .ptr .. :: _, _ :: _, h => by simp [mZ] at h
  | .eptr .. :: _, _ :: _, h => by simp [mZ] at h
  | .hs .. :: _, _ :: _, h => by simp [mZ] at h
  | .fn .. :: _, _ :: _, h => by simp [mZ] at h
  | .agg .. :: _, _ :: _, h => by simp [mZ] at h
  | .tup .. :: _, _ :: _, h => by simp [mZ] at h

theorem mZd_sound : ∀ {vs : List D} {ys : List Value}, mZ (vs.map .d) ys = true → vs.length = ys.length ∧ ∀ (j : Nat) d y, vs[j]? = some d → ys[j]? = some y → DRel w Z d y
  | [], [], _ => ⟨rfl, fun j d y h => by simp at h⟩
  | x :: vs, y :: ys, h => by
    simp [mZ] at h
    obtain ⟨h1, h2⟩ := mZd_sound h.2
    refine ⟨by simp [h1], fun j d y' hd hy => ?_⟩
    cases j with
    | zero => simp at hd hy; subst hd hy; exact mD_sound h.1
    | succ j => simp at hd hy; exact h2 j d y' hd hy
  | [], _ :: _, h => by simp [mZ] at h
  | _ :: _, [], h => by simp [mZ] at h

theorem zeroOf_some {t : TypeId} {vs : List Value} (h : zeroOf P t = some vs) : ∃ i z, P.info? t = some i ∧ i.zero = some z ∧ z.cells.toList = vs ∧ z.cells.size = i.size := by
  unfold zeroOf at h
  cases hi : P.info? t with
  | none => simp [hi] at h
  | some i =>
    cases hz : i.zero with
    | none => simp [hi, hz] at h
    | some z =>
      simp [hi, hz] at h
      exact ⟨i, z, rfl, hz, h.2, h.1⟩

theorem elemSz_some {t : TypeId} {e : TypeId} {s : Nat} (h : elemSz P t = some (e, s)) : ∃ i, P.underlying t = some (.slice e) ∧ P.info? e = some i ∧ i.size = s ∧ s ≠ 0 := by
  unfold elemSz at h
  cases hu : P.underlying t with
  | none => simp [hu] at h
  | some d =>
    cases d <;> simp [hu] at h
    rename_i e'
    cases hi : P.info? e' with
    | none => simp [hi] at h
    | some i =>
      simp [hi] at h
      obtain ⟨h1, rfl, rfl⟩ := h
      exact ⟨i, rfl, hi, rfl, h1⟩

/-! ### New objects -/
theorem new_box (S : Sim Φ w Z σ st) {cs : List AV} {c : Array Value} (el : TypeId) (hv : VRels Φ w Z σ st cs c.toList) :
    ∃ σ', Sim Φ (w.alloc (.cells c el)) Z σ' (st ++ [.box cs]) ∧ VRel Φ (w.alloc (.cells c el)) Z σ' (st ++ [.box cs]) (.ptr st.length 0 0 0) (.pointer (some ⟨w.heap.size, 0, none⟩)) ∧
      Ext st.length w Z σ st (w.alloc (.cells c el)) Z σ' (st ++ [.box cs]) := by
  have E := ext_alloc S (.box cs) (.cells c el)
  have hz : Z w.heap.size = 0 := by
    rcases Nat.eq_zero_or_pos (Z w.heap.size) with h | h
    · exact h
    · have := S.z _ h; omega
  have hp : VRel Φ (w.alloc (.cells c el)) Z (upd σ st.length (some (w.heap.size, 0))) (st ++ [.box cs]) (.ptr st.length 0 0 0) (.pointer (some ⟨w.heap.size, 0 * 0 + 0, none⟩)) := .bptr (upd_same _ _ _) get_last
  refine ⟨_, S.push ?_, hp, E⟩
  have hl : cs.length = c.toList.length := hv.1.symm
  exact .inr ⟨w.heap.size, c, el, upd_same _ _ _, heap_alloc_new w _, hz, by rw [hl, List.take_length]; exact hv.mono E⟩

/-- A new box that slices show. -/
theorem new_rows (S : Sim Φ w Z σ st) {sz : Nat} {cs : List AV} {c : Array Value} {n cap : Nat} (el : TypeId) (hv : VRels Φ w Z σ st cs (c.toList.take cs.length)) (hn : n * sz ≤ cs.length) (hc : n ≤ cap) (hcs : cap * sz ≤ c.size) :
    ∃ σ', Sim Φ (w.alloc (.cells c el)) Z σ' (st ++ [.box cs]) ∧ VRel Φ (w.alloc (.cells c el)) Z σ' (st ++ [.box cs]) (.hs st.length sz 0 n) (.slice (some ⟨w.heap.size, 0, none⟩) n cap) ∧
      Ext st.length w Z σ st (w.alloc (.cells c el)) Z σ' (st ++ [.box cs]) := by
  have E := ext_alloc S (.box cs) (.cells c el)
  have hz : Z w.heap.size = 0 := by
    rcases Nat.eq_zero_or_pos (Z w.heap.size) with h | h
    · exact h
    · have := S.z _ h; omega
  have hp : VRel Φ (w.alloc (.cells c el)) Z (upd σ st.length (some (w.heap.size, 0))) (st ++ [.box cs]) (.hs st.length sz 0 n) (.slice (some ⟨w.heap.size, 0 * sz, none⟩) n cap) :=
    .rhs (upd_same _ _ _) get_last (by simpa using hn) hc ⟨c, el, heap_alloc_new w _, by simpa using hcs⟩
  refine ⟨_, S.push ?_, by simpa using hp, E⟩
  exact .inr ⟨w.heap.size, c, el, upd_same _ _ _, heap_alloc_new w _, hz, hv.mono E⟩

/-- A row of cells for a list of elements. -/
def ARel (w : World) (Z : Nat → Nat) (sz : Nat) (es : List (List D)) (c : Array Value) : Prop :=
  es.length * sz ≤ c.size ∧ ∀ (i : Nat) e, es[i]? = some e → e.length = sz ∧ ∀ (j : Nat) d, e[j]? = some d → ∃ x, c[i * sz + j]? = some x ∧ DRel w Z d x

theorem ARel.monoE {w' : World} {Z' : Nat → Nat} {σ' : Nat → Option (Nat × Nat)} {st' : St} {M sz : Nat} {es : List (List D)} {c : Array Value} (E : Ext M w Z σ st w' Z' σ' st') (h : ARel w Z sz es c) : ARel w' Z' sz es c :=
  ⟨h.1, fun i e he => ⟨(h.2 i e he).1, fun j d hj => by obtain ⟨x, h1, h2⟩ := (h.2 i e he).2 j d hj; exact ⟨x, h1, h2.monoE E⟩⟩⟩

theorem new_arr (S : Sim Φ w Z σ st) {sz : Nat} {es : List (List D)} {c : Array Value} {cap : Nat} (el : TypeId) (hv : ARel w Z sz es c) (hc : es.length ≤ cap) (hcs : cap * sz ≤ c.size) :
    ∃ σ', Sim Φ (w.alloc (.cells c el)) Z σ' (st ++ [.arr sz es true]) ∧
      VRel Φ (w.alloc (.cells c el)) Z σ' (st ++ [.arr sz es true]) (.hs st.length sz 0 es.length) (.slice (some ⟨w.heap.size, 0, none⟩) es.length cap) ∧
      Ext st.length w Z σ st (w.alloc (.cells c el)) Z σ' (st ++ [.arr sz es true]) := by
  have E := ext_alloc S (.arr sz es true) (.cells c el)
  have hz : Z w.heap.size = 0 := by
    rcases Nat.eq_zero_or_pos (Z w.heap.size) with h | h
    · exact h
    · have := S.z _ h; omega
  have hv' := hv.monoE E
  have hr : VRel Φ (w.alloc (.cells c el)) Z (upd σ st.length (some (w.heap.size, 0))) (st ++ [.arr sz es true]) (.hs st.length sz 0 es.length) (.slice (some ⟨w.heap.size, 0 + 0 * sz, none⟩) es.length cap) :=
    .hs (upd_same _ _ _) get_last (by simp) hc ⟨c, el, heap_alloc_new w _, by simpa using hcs⟩
  refine ⟨_, S.push ?_, by simpa using hr, E⟩
  refine .inr ⟨w.heap.size, 0, c, el, upd_same _ _ _, heap_alloc_new w _, by simpa using hv.1, fun i e he => ⟨(hv.2 i e he).1, fun j d hj => ?_⟩, fun _ => by omega, fun q => by cases q⟩
  obtain ⟨x, h1, h2⟩ := (hv'.2 i e he).2 j d hj
  exact ⟨x, by rw [cell_iff]; exact ⟨c, el, _, heap_alloc_new w _, by simpa using h1⟩, h2⟩

theorem foldl_set_get (off : Nat) : ∀ (vs : List Value) (k : Nat) (c : Array Value) (r : Nat), off + k + vs.length ≤ c.size →
    ((vs.zipIdx k).foldl (fun cs (x : Value × Nat) => cs.setIfInBounds (off + x.2) x.1) c).size = c.size ∧
    ((vs.zipIdx k).foldl (fun cs (x : Value × Nat) => cs.setIfInBounds (off + x.2) x.1) c)[r]? = if off + k ≤ r ∧ r < off + k + vs.length then vs[r - (off + k)]? else c[r]?
  | [], k, c, r, _ => by
    refine ⟨rfl, ?_⟩
    rw [if_neg (by simp)]; rfl
  | v :: vs, k, c, r, h => by
    simp only [List.zipIdx_cons, List.foldl_cons, List.length_cons] at h ⊢
    obtain ⟨h1, h2⟩ := foldl_set_get off vs (k + 1) (c.setIfInBounds (off + k) v) r (by simp; omega)
    refine ⟨by rw [h1]; simp, ?_⟩
    rw [h2]
    by_cases e1 : r = off + k
    · subst e1
      rw [if_neg (by omega), if_pos (by omega), Array.getElem?_setIfInBounds_self_of_lt (by omega)]
      simp
    · by_cases e2 : off + k ≤ r ∧ r < off + k + (vs.length + 1)
      · rw [if_pos (by omega), if_pos (by omega), show r - (off + k) = (r - (off + (k + 1))) + 1 by omega]
        simp
      · rw [if_neg (by omega), if_neg (by omega), Array.getElem?_setIfInBounds_ne (by omega)]

theorem fill_step (cells : Array Value) (v : Value) (off : Nat) (h : off + v.cells.size ≤ cells.size) :
    (v.cells.zipIdx.foldl (fun cs (x : Value × Nat) => cs.setIfInBounds (off + x.2) x.1) cells).size = cells.size ∧
    ∀ r : Nat, (v.cells.zipIdx.foldl (fun cs (x : Value × Nat) => cs.setIfInBounds (off + x.2) x.1) cells)[r]? = if off ≤ r ∧ r < off + v.cells.size then v.cells[r - off]? else cells[r]? := by
  have e : v.cells.zipIdx.foldl (fun cs (x : Value × Nat) => cs.setIfInBounds (off + x.2) x.1) cells = (v.cells.toList.zipIdx 0).foldl (fun cs (x : Value × Nat) => cs.setIfInBounds (off + x.2) x.1) cells := by
    rw [← Array.foldl_toList, Array.toList_zipIdx]
  rw [e]
  exact ⟨(foldl_set_get off v.cells.toList 0 cells 0 (by simpa using h)).1, fun r => by
    have := (foldl_set_get off v.cells.toList 0 cells r (by simpa using h)).2
    simpa using this⟩

theorem fillE_sound (hm : ∀ t, VRel Φ w Z σ st (ρ t) (a.tmps.getD t undef)) :
    ∀ {ps : List (Nat × AOpd)} {qs : List (Nat × Operand)} {es es1 : List (List D)} {st0 st1 : St} {Z0 : Nat → Nat} {sz : Nat} {c : Array Value}, mElems Φ ps qs = true →
    Sim Φ w Z0 σ st0 → Ext st.length w Z σ st w Z0 σ st0 → st0.length = st.length → fillE ρ sz ps es st0 = some (es1, st1) → ARel w Z0 sz es c → c.size = es.length * sz →
    ∃ Z' c', Sim Φ w Z' σ st1 ∧ Ext st.length w Z σ st w Z' σ st1 ∧ st1.length = st.length ∧ ARel w Z' sz es1 c' ∧ c'.size = es1.length * sz ∧ es1.length = es.length ∧
      Instr.fill (fun i => some (i * sz, sz)) c (qs.map fun (i, x) => (i, a.eval x)) = some c'
  | [], [], es, es1, st0, st1, Z0, sz, c, _, S, E, hl, h, hA, hc => by
    simp [fillE] at h; obtain ⟨rfl, rfl⟩ := h
    exact ⟨Z0, c, S, E, hl, hA, hc, rfl, rfl⟩
  | (i, x) :: ps, (i', y) :: qs, es, es1, st0, st1, Z0, sz, c, hq, S, E, hl, h, hA, hc => by
    simp [mElems] at hq
    obtain ⟨⟨rfl, hxy⟩, hq⟩ := hq
    simp only [fillE] at h
    cases hf : frzL st0 (x.ev ρ).cells with
    | none => simp [hf] at h
    | some r =>
      obtain ⟨ds, st2⟩ := r
      simp only [hf] at h
      split at h
      · rename_i hds
        have hv0 : VRel Φ w Z0 σ st0 (x.ev ρ) (a.eval y) := (opd (a := a) hm hxy).mono E
        have hsol : ∀ {st : St} {vs : List AV} {r}, frzL st vs = some r → solL vs = true := by
          intro st vs
          induction vs generalizing st with
          | nil => intro r _; rfl
          | cons v vs ih =>
            intro r hr
            simp only [frzL] at hr
            cases h1 : frz1 st v with
            | none => simp [h1] at hr
            | some r1 =>
              cases h2 : frzL r1.2 vs with
              | none => simp [h1, h2] at hr
              | some r2 =>
                have : sol v = true := by cases v <;> simp [frz1] at h1 <;> rfl
                simp [solL, this, ih h2]
        obtain ⟨hcs, _⟩ := hv0.cellsOf (hsol hf)
        obtain ⟨Z1, S1, E1, hdl, hdr, hl1⟩ := frzL_sound S hf hcs
        rw [hl] at E1
        have hysz : (a.eval y).cells.size = sz := by have := hcs.1; simp at this; omega
        have hmul : (i + 1) * sz ≤ es.length * sz := Nat.mul_le_mul_right _ hds.2
        rw [Nat.add_mul, Nat.one_mul] at hmul
        obtain ⟨f1, f2⟩ := fill_step c (a.eval y) (i * sz) (by omega)
        have hA' : ARel w Z1 sz (es.set i ds) ((a.eval y).cells.zipIdx.foldl (fun cs (x : Value × Nat) => cs.setIfInBounds (i * sz + x.2) x.1) c) := by
          refine ⟨by rw [f1, List.length_set, hc]; exact Nat.le_refl _, fun k e he => ?_⟩
          rw [List.getElem?_set] at he
          by_cases hki : i = k
          · subst hki
            simp [hds.2] at he
            subst he
            refine ⟨hds.1, fun j d hj => ?_⟩
            have hjl := lt_of_getElem? hj
            have hy : (a.eval y).cells[j]? = some ((a.eval y).cells[j]'(by omega)) := Array.getElem?_eq_getElem (by omega)
            refine ⟨_, ?_, hdr j d _ hj (by rw [Array.getElem?_toList]; exact hy)⟩
            rw [f2, if_pos (by omega), show i * sz + j - i * sz = j by omega]
            exact hy
          · simp [hki] at he
            obtain ⟨h7, h8⟩ := hA.2 k e he
            refine ⟨h7, fun j d hj => ?_⟩
            obtain ⟨u, h9, h10⟩ := h8 j d hj
            have hjl := lt_of_getElem? hj
            refine ⟨u, ?_, h10.monoE E1⟩
            have := row_apart (n := sz) (f := 0) (Ne.symm hki : k ≠ i) (h7 ▸ hjl : j < sz) (by omega)
            rw [f2, if_neg (by omega)]; exact h9
        obtain ⟨Z', c', g1, g2, g3, g4, g5, g6, g7⟩ := fillE_sound hm hq S1 (E.trans E1) (hl1.trans hl) h hA' (by rw [f1, hc]; simp)
        refine ⟨Z', c', g1, g2, g3, g4, g5, by simpa using g6, ?_⟩
        simp only [List.map_cons, Instr.fill]
        rw [if_neg (by simp [hysz]; omega)]
        exact g7
      · cases h
  | [], _ :: _, _, _, _, _, _, _, _, hq, _, _, _, _, _, _ => by simp [mElems] at hq
  | _ :: _, [], _, _, _, _, _, _, _, hq, _, _, _, _, _, _ => by simp [mElems] at hq

theorem zero_row {z : List D} {zv : Value} {sz n : Nat} (hz : mZ (z.map .d) zv.cells.toList = true) (hs : zv.cells.size = sz) (hsz : sz ≠ 0) :
    ARel w Z sz (List.replicate n z) ((Array.range (n * sz)).map (zv.cells[· % zv.cells.size]!)) := by
  obtain ⟨h1, h2⟩ := mZd_sound (w := w) (Z := Z) hz
  refine ⟨by simp, fun i e he => ?_⟩
  have hi := lt_of_getElem? he
  simp at hi
  rw [List.getElem?_replicate] at he
  simp [hi] at he
  subst he
  refine ⟨by rw [h1]; simp [hs], fun j d hj => ?_⟩
  have hjl := lt_of_getElem? hj
  have hjs : j < sz := by rw [h1] at hjl; simp at hjl; omega
  have hmul : (i + 1) * sz ≤ n * sz := Nat.mul_le_mul_right _ hi
  rw [Nat.add_mul, Nat.one_mul] at hmul
  have hy : zv.cells[j]? = some (zv.cells[j]'(by omega)) := Array.getElem?_eq_getElem (by omega)
  refine ⟨zv.cells[j]'(by omega), ?_, h2 j d _ hj (by simpa using hy)⟩
  have hmod : (i * sz + j) % zv.cells.size = j := by rw [hs, Nat.mul_comm, Nat.mul_add_mod, Nat.mod_eq_of_lt hjs]
  rw [Array.getElem?_map, Array.getElem?_range, if_pos (by omega)]
  simp [hmod, getElem!_pos, (by omega : j < zv.cells.size)]

/-- A new row that nobody writes. -/
theorem new_dsl (S : Sim Φ w Z σ st) {sz : Nat} {es : List (List D)} {c : Array Value} (el : TypeId) (hv : ARel w Z sz es c) :
    ∃ Z', Sim Φ (w.alloc (.cells c el)) Z' σ st ∧ DRel (w.alloc (.cells c el)) Z' (.sl es) (.slice (some ⟨w.heap.size, 0, none⟩) es.length es.length) ∧ Ext st.length w Z σ st (w.alloc (.cells c el)) Z' σ st := by
  have hzo : ∀ b, b < w.heap.size → zf Z w.heap.size c.size b = Z b := fun b hb => by simp [zf, show b ≠ w.heap.size by omega]
  have E : Ext st.length w Z σ st (w.alloc (.cells c el)) (zf Z w.heap.size c.size) σ st :=
    { size := by simp
      zle := fun k => by unfold zf; split <;> omega
      zold := fun b hb _ => hzo b hb
      cel := fun b off hz => World.cell?_alloc_lt w _ ⟨b, off, none⟩ (S.z b (by omega))
      blk := fun b hb _ => heap_alloc_old w _ b hb
      shp := fun b c' el' fz hb => ⟨c', by rw [heap_alloc_old w _ b (Array.getElem?_eq_some_iff.1 hb).1]; exact hb, rfl⟩
      ow := fun _ _ h => h
      sig := fun h _ o ho => ⟨o, ho, OLe.refl o, fun _ => rfl⟩
      os := rfl
      out := rfl }
  refine ⟨zf Z w.heap.size c.size, ⟨fun h o ho => (S.obj h o ho).keep E rfl (fun hd b o' hs => heap_alloc_old w _ b (S.blt ho hd hs)) (fun b o' hs l => hzo b (S.lt l hs)) ho, S.dis, fun b hb => ?_⟩, ?_, E⟩
  · unfold zf at hb
    by_cases e : b = w.heap.size
    · subst e; simp
    · simp [e] at hb; have := S.z b hb; simp; omega
  · refine DRel.mk_sl (sz := sz) (Nat.le_refl _) (fun i e he => ⟨(hv.2 i e he).1, fun j d hj => ?_⟩) (fun i hi => ?_)
    · obtain ⟨x, h1, h2⟩ := (hv.2 i e he).2 j d hj
      exact ⟨x, by rw [cell_iff]; exact ⟨c, el, _, heap_alloc_new w _, by simpa using h1⟩, h2.monoE E⟩
    · have h1 := hv.1
      have : (i + 1) * sz ≤ es.length * sz := Nat.mul_le_mul_right _ hi
      simp only [zf, if_true]
      omega

end
end Go.Proofs.YtplgdddfhjpojaaGreat.AM

namespace Go.Proofs.YtplgdddfhjpojaaGreat.AM
open Go

section
variable {P : Program} {Φ : Nat → FuncId} {w : World} {Z : Nat → Nat} {σ : Nat → Option (Nat × Nat)} {st : St} {ρ : Nat → AV} {a : Act}

/-! ### Structs -/
theorem mapM_get {α β : Type} {g : α → Option β} : ∀ {l : List α} {r : List β}, l.mapM g = some r → ∀ (i : Nat) x, l[i]? = some x → ∃ y, g x = some y ∧ r[i]? = some y
  | [], r, _, i, x, hx => by simp at hx
  | z :: l, r, h, i, x, hx => by
    simp only [List.mapM_cons, Option.bind_eq_bind, Option.pure_def] at h
    cases h1 : g z with
    | none => simp [h1] at h
    | some y =>
      cases h2 : l.mapM g with
      | none => simp [h1, h2] at h
      | some r' =>
        simp [h1, h2] at h
        subst h
        cases i with
        | zero => simp at hx; subst hx; exact ⟨y, h1, rfl⟩
        | succ i => simp at hx; simpa using mapM_get h2 i x hx

theorem fillC_sound (hE : ERel Φ w Z σ st ρ a) {t : TypeId} {fields : Array Field} (hu : P.underlying t = some (.struct fields)) {places : List (Nat × Nat)}
    (hpl : fields.toList.mapM (fun f => (P.info? f.type).map fun i => (f.offset, i.size)) = some places) :
    ∀ {ps : List (Nat × Nat × AOpd)} {qs : List (Nat × Operand)} {cs cs1 : List AV} {c : Array Value}, mParts P Φ t ps qs = true → fillC ρ ps cs = some cs1 → VRels Φ w Z σ st cs c.toList →
    ∃ c', Instr.fill (places.toArray[·]?) c (qs.map fun (i, x) => (i, a.eval x)) = some c' ∧ VRels Φ w Z σ st cs1 c'.toList
  | [], [], cs, cs1, c, _, h, hv => by
    simp [fillC] at h; subst h
    exact ⟨c, rfl, hv⟩
  | (off, size, x) :: ps, (i, y) :: qs, cs, cs1, c, hq, h, hv => by
    simp only [mParts, Bool.and_eq_true] at hq
    obtain ⟨⟨hpf, hxy⟩, hq⟩ := hq
    simp only [fillC] at h
    split at h
    · rename_i hc
      obtain ⟨h1, h2, h3⟩ := hc
      obtain ⟨hcs, _⟩ := (opd hE hxy).cellsOf h2
      have hys : (a.eval y).cells.size = size := by have := hcs.1; simp at this; omega
      have hcl : c.size = cs.length := by have := hv.1; simpa using this
      have hplace : places.toArray[i]? = some (off, size) := by
        unfold fieldAtB at hpf
        simp only [hu] at hpf
        cases hf : fields[i]? with
        | none => simp [hf] at hpf
        | some f =>
          obtain ⟨p, hp1, hp2⟩ := mapM_get hpl i f (by simpa using hf)
          cases hi : P.info? f.type with
          | none => simp [hf, hi] at hpf
          | some fi =>
            simp [hf, hi] at hpf
            simp [hi] at hp1
            subst hp1
            simp [hp2, hpf.1, hpf.2]
      obtain ⟨f1, f2⟩ := fill_step c (a.eval y) off (by omega)
      have htl : ((a.eval y).cells.zipIdx.foldl (fun cs (x : Value × Nat) => cs.setIfInBounds (off + x.2) x.1) c).toList = c.toList.take off ++ ((a.eval y).cells.toList ++ c.toList.drop (off + size)) := by
        apply List.ext_getElem?
        intro r
        rw [Array.getElem?_toList, f2]
        have hq : (c.toList.take off).length = off := by simp; omega
        by_cases e1 : r < off
        · rw [if_neg (by omega), List.getElem?_append_left (by omega), List.getElem?_take_of_lt e1]; simp
        · rw [List.getElem?_append_right (by omega), hq]
          by_cases e2 : r < off + size
          · rw [if_pos (by omega), List.getElem?_append_left (by simp; omega)]; simp
          · rw [if_neg (by omega), List.getElem?_append_right (by simp; omega), List.getElem?_drop]
            simp only [Array.length_toList, hys]
            rw [show off + size + (r - off - size) = r by omega]; simp
      have hv' : VRels Φ w Z σ st (cs.take off ++ ((x.ev ρ).cells ++ cs.drop (off + size))) ((a.eval y).cells.zipIdx.foldl (fun cs (x : Value × Nat) => cs.setIfInBounds (off + x.2) x.1) c).toList := by
        rw [htl]
        exact (hv.take off).append (hcs.append (hv.drop (off + size)))
      obtain ⟨c', g1, g2⟩ := fillC_sound hE hu hpl hq h hv'
      refine ⟨c', ?_, g2⟩
      simp only [List.map_cons, Instr.fill, hplace]
      rw [if_neg (by simp [hys]; omega)]
      exact g1
    · cases h
  | [], _ :: _, _, _, _, hq, _, _ => by simp [mParts] at hq
  | _ :: _, [], _, _, _, hq, _, _ => by simp [mParts] at hq

/-! ### append -/
/-- What the second operand of an append is good for: so many elements, these cells, in every world of this heap. -/
def Gives (P : Program) (w : World) (size : Nat) (y : Value) (n : Nat) (news : List Value) : Prop :=
  news.length = n * size ∧ (∀ u ∈ news, u.oneCell' = true) ∧ ∀ w2 : World, w2.heap = w.heap → (Builtin.lenOf y).run P w2 = .ok n w2 ∧ (Builtin.firstCells size n y).run P w2 = .ok news.toArray w2

theorem app_room {t u e ty : TypeId} {i : TypeInfo} (ht : P.underlying t = some (.slice e)) (hi : P.info? e = some i) (hu : (∃ e', P.underlying u = some (.slice e')) ∨ P.underlying u = some .string)
    {y : Value} {n : Nat} {news : List Value} (hy : Gives P w i.size y n news)
    {b off sLen sCap : Nat} {c : Array Value} {el : TypeId} (hb : w.heap[b]? = some (.cells c el (0, 0))) (hfit : off + sCap * i.size ≤ c.size) (hroom : sLen + n ≤ sCap) :
    (Builtin.append_ #[t, u] ty #[.slice (some ⟨b, off, none⟩) sLen sCap, y]).run P w =
      .ok (.slice (some ⟨b, off, none⟩) (sLen + n) sCap) (w.setRow b (c.toList.take (off + sLen * i.size) ++ news ++ c.toList.drop (off + sLen * i.size + news.length)).toArray) := by
  obtain ⟨h1, h2, h3⟩ := hy
  obtain ⟨h4, h5⟩ := h3 w rfl
  have hmul : (sLen + n) * i.size ≤ sCap * i.size := Nat.mul_le_mul_right _ hroom
  rw [Nat.add_mul] at hmul
  have hst := run_storeCells_at P b (off + sLen * i.size) el news 0 c w hb (by omega) h2
  simp only [Nat.add_zero] at hst
  rcases hu with ⟨e', hu⟩ | hu <;>
    simp [Builtin.append_, run_underlying ht, run_underlying hu, sizeOf, typeInfo, hi, h4, h5, hroom, Addr.add_lit, hst]

theorem app_none {t u e ty : TypeId} {i : TypeInfo} (ht : P.underlying t = some (.slice e)) (hi : P.info? e = some i) (hu : (∃ e', P.underlying u = some (.slice e')) ∨ P.underlying u = some .string)
    {y : Value} {news : List Value} (hy : Gives P w i.size y 0 news) (l : Nat) :
    (Builtin.append_ #[t, u] ty #[.slice none 0 l, y]).run P w = .ok (.slice none 0 l) w := by
  obtain ⟨h1, h2, h3⟩ := hy
  obtain ⟨h4, h5⟩ := h3 w rfl
  rcases hu with ⟨e', hu⟩ | hu <;>
    simp [Builtin.append_, run_underlying ht, run_underlying hu, sizeOf, typeInfo, hi, h4, h5]

theorem app_empty {t u e ty : TypeId} {i : TypeInfo} (ht : P.underlying t = some (.slice e)) (hi : P.info? e = some i) (hu : (∃ e', P.underlying u = some (.slice e')) ∨ P.underlying u = some .string)
    {y : Value} {news : List Value} (hy : Gives P w i.size y 0 news) (b off : Nat) :
    (Builtin.append_ #[t, u] ty #[.slice (some ⟨b, off, none⟩) 0 0, y]).run P w = .ok (.slice (some ⟨b, off, none⟩) 0 0) w := by
  obtain ⟨h1, h2, h3⟩ := hy
  obtain ⟨h4, h5⟩ := h3 w rfl
  have hn : news = [] := List.eq_nil_of_length_eq_zero (by simpa using h1)
  subst hn
  rcases hu with ⟨e', hu⟩ | hu <;>
    simp [Builtin.append_, run_underlying ht, run_underlying hu, sizeOf, typeInfo, hi, h4, h5, storeCells]

theorem app_grow {t u e ty : TypeId} {i : TypeInfo} {z : Value} (ht : P.underlying t = some (.slice e)) (hi : P.info? e = some i) (hz : i.zero = some z) (hu : (∃ e', P.underlying u = some (.slice e')) ∨ P.underlying u = some .string)
    {y : Value} {n : Nat} {news : List Value} (hy : Gives P w i.size y n news)
    {s : Option Addr} {sLen sCap : Nat} {olds : List Value} (hs : (Builtin.firstCells i.size sLen (.slice s sLen sCap)).run P w.drew = .ok olds.toArray w.drew)
    (hg : sCap < sLen + n) (h63 : ((sLen + n : Nat) : Int) ≤ 9223372036854775807) (hfit : Builtin.nextslicecap (sLen + n) sCap * i.bytes ≤ 281474976710656) :
    ∃ nc, sLen + n ≤ nc ∧ (Builtin.append_ #[t, u] ty #[.slice s sLen sCap, y]).run P w =
      .ok (.slice (some ⟨w.heap.size, 0, none⟩) (sLen + n) nc) (w.drew.alloc (.cells (olds.toArray ++ news.toArray ++ Builtin.zeroCells z.cells (nc - (sLen + n))) e)) := by
  obtain ⟨h1, h2, h3⟩ := hy
  obtain ⟨h4, h5⟩ := h3 w rfl
  obtain ⟨h6, h7⟩ := h3 w.drew rfl
  refine ⟨grownCap w (sLen + n) sCap e, grownCap_ge w _ _ _, ?_⟩
  have hn : ¬ (sLen + n ≤ sCap) := by omega
  have h63' : ¬ (9223372036854775807 < ((sLen : Int) + (n : Int))) := by omega
  have h48' : ¬ (281474976710656 < Builtin.nextslicecap (sLen + n) sCap * i.bytes) := by omega
  rcases hu with ⟨e', hu⟩ | hu <;>
    (simp [Builtin.append_, run_underlying ht, run_underlying hu, sizeOf, typeInfo, zeroValue, hi, hz, hn, h63', h48', Question.forced, h4, h7, hs, newRow, grownCap]
     first | done | (congr 2; apply Array.ext'; simp [List.append_assoc]))

/-- The cells of a list of elements. -/
def flat : List (List D) → List D
  | [] => []
  | e :: es => e ++ flat es

theorem getElem?_flat {sz : Nat} : ∀ {es : List (List D)}, (∀ (i : Nat) e, es[i]? = some e → e.length = sz) → ∀ {r : Nat} {d : D}, (flat es)[r]? = some d → ∃ i j e, r = i * sz + j ∧ j < sz ∧ es[i]? = some e ∧ e[j]? = some d
  | [], _, r, d, h => by simp [flat] at h
  | e :: es, hl, r, d, h => by
    have h0 := hl 0 e rfl
    simp only [flat] at h
    by_cases hr : r < sz
    · rw [List.getElem?_append_left (by omega)] at h
      exact ⟨0, r, e, by simp, hr, rfl, h⟩
    · rw [List.getElem?_append_right (by omega), h0] at h
      obtain ⟨i, j, e', h1, h2, h3, h4⟩ := getElem?_flat (fun i e' he => hl (i + 1) e' he) h
      exact ⟨i + 1, j, e', by rw [Nat.add_mul]; omega, h2, h3, h4⟩

/-- A row that reads, cell by cell, as a list of values. -/
theorem row_list {b off sz : Nat} {es : List (List D)} (hr : Rws w Z b off sz es) :
    ∃ us : List Value, us.length = es.length * sz ∧ (∀ (r : Nat) u, us[r]? = some u → w.cell? ⟨b, off + r, none⟩ = some u ∧ u.oneCell' = true) ∧
      ∀ (i : Nat) e, es[i]? = some e → e.length = sz ∧ ∀ (j : Nat) d, e[j]? = some d → ∃ x, us[i * sz + j]? = some x ∧ DRel w Z d x := by
  induction es generalizing off with
  | nil => exact ⟨[], by simp, fun r u h => by simp at h, fun i e h => by simp at h⟩
  | cons e es ih =>
    have hr' : Rws w Z b (off + sz) sz es := fun i e' he => by
      obtain ⟨h1, h2⟩ := hr (i + 1) e' he
      refine ⟨h1, ?_⟩
      rw [Nat.add_mul, Nat.one_mul] at h2
      rwa [show off + sz + i * sz = off + (i * sz + sz) by omega]
    obtain ⟨us, h1, h2, h3⟩ := ih hr'
    obtain ⟨hel, hec⟩ := hr 0 e rfl
    simp only [Nat.zero_mul, Nat.add_zero] at hec
    have key : ∀ (ds : List D) (k : Nat), (∀ (j : Nat) d, ds[j]? = some d → ∃ v, w.cell? ⟨b, off + k + j, none⟩ = some v ∧ DRel w Z d v) →
        ∃ vs : List Value, vs.length = ds.length ∧ ∀ (j : Nat) d, ds[j]? = some d → ∃ v, vs[j]? = some v ∧ w.cell? ⟨b, off + k + j, none⟩ = some v ∧ DRel w Z d v := by
      intro ds
      induction ds with
      | nil => intro k _; exact ⟨[], rfl, fun j d h => by simp at h⟩
      | cons d ds ihd =>
        intro k hk
        obtain ⟨v, hv1, hv2⟩ := hk 0 d rfl
        obtain ⟨vs, h4, h5⟩ := ihd (k + 1) (fun j d' hj => by have := hk (j + 1) d' hj; rwa [show off + k + (j + 1) = off + (k + 1) + j by omega] at this)
        refine ⟨v :: vs, by simp [h4], fun j d' hj => ?_⟩
        cases j with
        | zero => simp at hj; subst hj; exact ⟨v, rfl, hv1, hv2⟩
        | succ j =>
          obtain ⟨v', h6, h7, h8⟩ := h5 j d' hj
          exact ⟨v', by simpa using h6, by rwa [show off + k + (j + 1) = off + (k + 1) + j by omega], h8⟩
    obtain ⟨vs, h4, h5⟩ := key e 0 (fun j d hj => by simpa using hec j d hj)
    have hvl : vs.length = sz := by omega
    refine ⟨vs ++ us, by simp [hvl, h1, Nat.add_mul]; omega, fun r u hu => ?_, fun i e' he => ?_⟩
    · by_cases hrs : r < sz
      · rw [List.getElem?_append_left (by omega)] at hu
        have hd : e[r]? = some (e[r]'(by omega)) := List.getElem?_eq_getElem (by omega)
        obtain ⟨v, h6, h7, h8⟩ := h5 r _ hd
        rw [h6] at hu; cases hu
        exact ⟨by simpa using h7, h8.one⟩
      · rw [List.getElem?_append_right (by omega), hvl] at hu
        obtain ⟨h6, h7⟩ := h2 (r - sz) u hu
        exact ⟨by rwa [show off + sz + (r - sz) = off + r by omega] at h6, h7⟩
    · cases i with
      | zero =>
        simp at he; subst he
        refine ⟨hel, fun j d hj => ?_⟩
        have hjl := lt_of_getElem? hj
        obtain ⟨v, h6, h7, h8⟩ := h5 j d hj
        exact ⟨v, by rw [Nat.zero_mul, Nat.zero_add, List.getElem?_append_left (by omega)]; exact h6, h8⟩
      | succ i =>
        simp at he
        obtain ⟨h6, h7⟩ := h3 i e' he
        refine ⟨h6, fun j d hj => ?_⟩
        obtain ⟨x, h8, h9⟩ := h7 j d hj
        refine ⟨x, ?_, h9⟩
        rw [Nat.add_mul, Nat.one_mul, List.getElem?_append_right (by omega), hvl]
        rwa [show i * sz + sz + j - sz = i * sz + j by omega]

end
end Go.Proofs.YtplgdddfhjpojaaGreat.AM

namespace Go.Proofs.YtplgdddfhjpojaaGreat.AM
open Go

section
variable {P : Program} {Φ : Nat → FuncId} {w : World} {Z : Nat → Nat} {σ : Nat → Option (Nat × Nat)} {st : St} {ρ : Nat → AV} {a : Act}

/-- Values in a row, element by element. -/
def Elems (w : World) (Z : Nat → Nat) (sz : Nat) (es : List (List D)) (us : List Value) : Prop :=
  us.length = es.length * sz ∧ ∀ (i : Nat) e, es[i]? = some e → e.length = sz ∧ ∀ (j : Nat) d, e[j]? = some d → ∃ x, us[i * sz + j]? = some x ∧ DRel w Z d x

theorem Elems.append {sz : Nat} {es fs : List (List D)} {us vs : List Value} (h : Elems w Z sz es us) (h' : Elems w Z sz fs vs) : Elems w Z sz (es ++ fs) (us ++ vs) := by
  refine ⟨by simp [h.1, h'.1, Nat.add_mul], fun i e he => ?_⟩
  by_cases hi : i < es.length
  · rw [List.getElem?_append_left hi] at he
    obtain ⟨h1, h2⟩ := h.2 i e he
    refine ⟨h1, fun j d hj => ?_⟩
    obtain ⟨x, h3, h4⟩ := h2 j d hj
    exact ⟨x, by rw [List.getElem?_append_left (lt_of_getElem? h3)]; exact h3, h4⟩
  · rw [List.getElem?_append_right (by omega)] at he
    obtain ⟨h1, h2⟩ := h'.2 _ e he
    refine ⟨h1, fun j d hj => ?_⟩
    obtain ⟨x, h3, h4⟩ := h2 j d hj
    have hm : i * sz = es.length * sz + (i - es.length) * sz := by rw [← Nat.add_mul]; congr 1; omega
    refine ⟨x, ?_, h4⟩
    rw [List.getElem?_append_right (by rw [h.1, hm]; omega), h.1, hm]
    rwa [show es.length * sz + (i - es.length) * sz + j - es.length * sz = (i - es.length) * sz + j by omega]

theorem Elems.nil {sz : Nat} : Elems w Z sz [] [] := ⟨by simp, fun i e h => by simp at h⟩

theorem Elems.arel {sz : Nat} {es : List (List D)} {us : List Value} (h : Elems w Z sz es us) (rest : Array Value) : ARel w Z sz es (us.toArray ++ rest) := by
  refine ⟨by simp [h.1], fun i e he => ⟨(h.2 i e he).1, fun j d hj => ?_⟩⟩
  obtain ⟨x, h3, h4⟩ := (h.2 i e he).2 j d hj
  exact ⟨x, by rw [Array.getElem?_append_left (by simpa using lt_of_getElem? h3)]; simpa using h3, h4⟩

theorem cell_heap {w2 : World} (h : w2.heap = w.heap) (A : Addr) : w2.cell? A = w.cell? A := by simp [World.cell?, h]

/-- A row gives its elements, read from the front. -/
theorem rows_give {sz b off n cap : Nat} {es : List (List D)} (hr : Rws w Z b off sz es) (hn : n = es.length) :
    ∃ us, Elems w Z sz es us ∧ (∀ (r : Nat) u, us[r]? = some u → w.cell? ⟨b, off + r, none⟩ = some u) ∧ Gives P w sz (.slice (some ⟨b, off, none⟩) n cap) n us := by
  obtain ⟨us, h1, h2, h3⟩ := row_list hr
  refine ⟨us, ⟨h1, h3⟩, fun r u hu => (h2 r u hu).1, by rw [h1, hn], fun u hu => ?_, fun w2 hw => ⟨rfl, ?_⟩⟩
  · obtain ⟨r, hr⟩ := List.getElem?_of_mem hu
    exact (h2 r u hr).2
  · refine run_firstCells_some w2 sz n ⟨b, off, none⟩ n cap us (by rw [h1, hn]) fun j v hj => ?_
    rw [Addr.add_lit, cell_heap hw]
    exact (h2 j v hj).1

theorem rows_part {b o sz i n : Nat} {es : List (List D)} (h : Rws w Z b o sz es) (hn : i + n ≤ es.length) : Rws w Z b (o + i * sz) sz ((es.drop i).take n) := by
  have hl : ((es.drop i).take n).length = n := by simp; omega
  intro j e he
  have hj : j < n := by have := lt_of_getElem? he; rwa [hl] at this
  rw [List.getElem?_take_of_lt hj, List.getElem?_drop] at he
  obtain ⟨h7, h8⟩ := h _ e he
  exact ⟨h7, by rw [Nat.add_assoc, ← Nat.add_mul]; exact h8⟩

theorem gives_nil {sz : Nat} {l : Nat} : Gives P w sz (.slice none 0 l) 0 [] := ⟨by simp, fun u h => by simp at h, fun w2 _ => ⟨rfl, run_firstCells_none w2 sz 0 0 l⟩⟩
theorem gives_zero {sz : Nat} {A : Addr} {l : Nat} : Gives P w sz (.slice (some A) 0 l) 0 [] :=
  ⟨by simp, fun u h => by simp at h, fun w2 _ => ⟨rfl, by simp [Builtin.firstCells, loadCells, loadCellsFrom]⟩⟩

theorem okSz_spec {sz : Nat} {xs : List (List D)} (h : okSz sz xs = true) (i : Nat) (e : List D) (he : xs[i]? = some e) : e.length = sz := by
  unfold okSz at h
  rw [List.all_eq_true] at h
  simpa using h e (List.mem_of_getElem? he)

theorem rws_size {b off sz sz' : Nat} {xs : List (List D)} (h : Rws w Z b off sz' xs) (hk : okSz sz xs = true) : Rws w Z b off sz xs := by
  cases xs with
  | nil => intro i e he; simp at he
  | cons e es =>
    have h1 := (h 0 e rfl).1
    have h2 := okSz_spec hk 0 e rfl
    have : sz' = sz := by omega
    subst this; exact h

theorem elemsOf_sound (S : Sim Φ w Z σ st) {sz : Nat} {y : AV} {Y : Value} {ys : List (List D)} (h : elemsOf st sz y = some ys) (hy : VRel Φ w Z σ st y Y) :
    ∃ us, Elems w Z sz ys us ∧ Gives P w sz Y ys.length us := by
  cases hy with
  | d hd =>
    rename_i x
    cases x with
    | sl xs =>
      simp [elemsOf] at h
      obtain ⟨hk, rfl⟩ := h
      rcases hd.sl_inv with ⟨rfl, rfl⟩ | ⟨b, off, cap, sz', rfl, hc, hr, hz⟩
      · exact ⟨[], .nil, gives_nil⟩
      · obtain ⟨us, h1, _, h2⟩ := rows_give (P := P) (cap := cap) (rws_size hr hk) rfl
        exact ⟨us, h1, h2⟩
    | nil =>
      simp [elemsOf] at h; subst h
      cases hd
      exact ⟨[], .nil, gives_nil⟩
    | str l =>
      simp [elemsOf] at h
      obtain ⟨rfl, rfl⟩ := h
      cases hd with
      | str s =>
        have hsz : s.data.toList.length = s.size := by rw [Array.length_toList]; rfl
        refine ⟨s.data.toList.map fun b => .int .u8 b.toNat, ⟨by simp, fun i e he => ?_⟩, by simp, fun u hu => ?_, fun w2 _ => ⟨?_, ?_⟩⟩
        · rw [List.getElem?_map] at he
          cases hb : s.data.toList[i]? with
          | none => simp [hb] at he
          | some b =>
            simp [hb] at he; subst he
            refine ⟨rfl, fun j d hj => ?_⟩
            cases j with
            | zero => simp at hj; subst hj; exact ⟨.int .u8 b.toNat, by simp at hb; simp [hb], .int _ _⟩
            | succ j => simp at hj
        · simp at hu; obtain ⟨b, _, rfl⟩ := hu; rfl
        · simp only [Builtin.lenOf, Sem.run_pure, List.length_map, hsz]
        · simp only [Builtin.firstCells, Sem.run_pure, List.length_map, hsz]
          congr 1
          apply Array.ext'
          have : s.extract 0 s.size = s := by
            apply ByteArray.ext
            rw [ByteArray.data_extract]
            exact Array.extract_size
          rw [this]
          simp
    | _ => simp [elemsOf] at h
  | hs hs ho hn hc hb =>
    rename_i h' sz' i n b o cap es wr
    simp only [elemsOf, ho] at h
    split at h
    · rename_i hq
      obtain ⟨rfl, _, _⟩ := hq
      cases h
      rcases S.obj _ _ ho with ⟨_, h2⟩ | ⟨b', o', c, el, h1, h2, h3, h4, h5, h6⟩
      · rw [hs] at h2; cases h2
      · rw [hs] at h1; cases h1
        have hl : ((es.drop i).take n).length = n := by simp; omega
        obtain ⟨us, g1, _, g2⟩ := rows_give (P := P) (cap := cap) (rows_part h4 hn) hl.symm
        exact ⟨us, g1, by rw [hl]; exact g2⟩
    · cases h
  | hs0 ho =>
    simp only [elemsOf, ho] at h
    split at h
    · cases h; exact ⟨[], by simpa using Elems.nil, by simpa using gives_nil⟩
    · cases h
  | hse ho =>
    simp only [elemsOf, ho] at h
    split at h
    · cases h; exact ⟨[], by simpa using Elems.nil, by simpa using gives_zero⟩
    · cases h
  | nn hd =>
    rename_i xs a n c
    simp only [elemsOf] at h
    split at h
    · rename_i hk
      cases h
      rcases hd.sl_inv with ⟨rfl, hq⟩ | ⟨b, off, cap, sz', hq, hc, hr, hz⟩
      · cases hq
      · cases hq
        obtain ⟨us, h1, _, h2⟩ := rows_give (P := P) (cap := c) (rws_size hr hk) rfl
        exact ⟨us, h1, h2⟩
    · cases h
  | dhs ho => simp [elemsOf, ho] at h
  | rhs _ ho => simp [elemsOf, ho] at h
  | rhs0 ho => simp [elemsOf, ho] at h
  | rhse ho => simp [elemsOf, ho] at h
  | _ => simp [elemsOf] at h

/-- An own empty slice without a block. -/
theorem new_virtual (S : Sim Φ w Z σ st) (sz : Nat) :
    Sim Φ w Z (upd σ st.length none) (st ++ [.arr sz [] true]) ∧ Ext st.length w Z σ st w Z (upd σ st.length none) (st ++ [.arr sz [] true]) := by
  have sg : ∀ h, h < st.length → ∀ o, st[h]? = some o → ∃ o', (st ++ [.arr sz [] true])[h]? = some o' ∧ OLe o o' ∧ (o' ≠ .dead → upd σ st.length none h = σ h) :=
    fun h hh x hx => ⟨x, by rw [get_push hh]; exact hx, OLe.refl x, fun _ => upd_other (by omega)⟩
  have M : Mon st.length w Z σ st w Z (upd σ st.length none) (st ++ [.arr sz [] true]) := ⟨fun _ => Nat.le_refl _, fun _ _ _ => rfl, fun _ c _ _ h => ⟨c, h, rfl⟩, sg⟩
  have ol : ∀ h b o, liv (st ++ [.arr sz [] true]) h → upd σ st.length none h = some (b, o) → liv st h ∧ σ h = some (b, o) := by
    intro h b o l1 s1
    have := l1.lt
    simp at this
    by_cases e : h = st.length
    · subst e; rw [upd_same] at s1; cases s1
    · rw [upd_other e] at s1; exact ⟨(liv_push (by omega)).1 l1, s1⟩
  refine ⟨⟨fun h x hx => ?_, fun h1 h2 b o1 o2 l1 l2 s1 s2 => ?_, S.z⟩, ⟨Nat.le_refl _, fun _ => Nat.le_refl _, fun _ _ _ => rfl, fun _ _ _ => rfl, fun _ _ _ => rfl, fun _ c _ _ h => ⟨c, h, rfl⟩, fun b _ hn => ?_, sg, rfl, rfl⟩⟩
  · rcases get_push_inv hx with ⟨h1, h2⟩ | ⟨rfl, rfl⟩
    · exact (S.obj h x h2).keepM M (upd_other (by omega)) (fun _ _ _ _ => rfl) (fun _ _ _ _ => rfl) h2
    · exact .inl ⟨rfl, upd_same _ _ _⟩
  · obtain ⟨l1, s1⟩ := ol _ _ _ l1 s1
    obtain ⟨l2, s2⟩ := ol _ _ _ l2 s2
    exact S.dis h1 h2 b o1 o2 l1 l2 s1 s2
  · obtain ⟨h, o, l1, s1⟩ := hn
    obtain ⟨l1, s1⟩ := ol _ _ _ l1 s1
    exact ⟨h, o, l1, s1⟩

/-- The appended row in a new block. -/
theorem grow_sound (S : Sim Φ w Z σ st) {sz n m : Nat} {es ys : List (List D)} {olds news : List Value} (ho : Elems w Z sz es olds) (hn : Elems w Z sz ys news) (hnl : es.length = n) (hml : ys.length = m)
    {z : Value} (hz : z.cells.size = sz) {nc : Nat} (hc : n + m ≤ nc) (el : TypeId) :
    ∃ σ', Sim Φ (w.drew.alloc (.cells (olds.toArray ++ news.toArray ++ Builtin.zeroCells z.cells (nc - (n + m))) el)) Z σ' (st ++ [.arr sz (es ++ ys) true]) ∧
      VRel Φ (w.drew.alloc (.cells (olds.toArray ++ news.toArray ++ Builtin.zeroCells z.cells (nc - (n + m))) el)) Z σ' (st ++ [.arr sz (es ++ ys) true]) (.hs st.length sz 0 (n + m)) (.slice (some ⟨w.heap.size, 0, none⟩) (n + m) nc) ∧
      Ext st.length w Z σ st (w.drew.alloc (.cells (olds.toArray ++ news.toArray ++ Builtin.zeroCells z.cells (nc - (n + m))) el)) Z σ' (st ++ [.arr sz (es ++ ys) true]) := by
  have S' : Sim Φ w.drew Z σ st := Sim.heap (w := w) (w' := w.drew) rfl rfl rfl S
  have E' : Ext st.length w Z σ st w.drew Z σ st := ext_heap (w := w) (w' := w.drew) rfl rfl rfl _
  have hA : ARel w.drew Z sz (es ++ ys) (olds.toArray ++ news.toArray ++ Builtin.zeroCells z.cells (nc - (n + m))) := by
    have := ((ho.append hn).arel (Builtin.zeroCells z.cells (nc - (n + m)))).monoE E'
    simpa using this
  have hl : (es ++ ys).length = n + m := by simp [hnl, hml]
  have hcs : nc * sz ≤ (olds.toArray ++ news.toArray ++ Builtin.zeroCells z.cells (nc - (n + m))).size := by
    simp only [Array.size_append, List.size_toArray, size_zeroCells, hz, ho.1, hn.1, hnl, hml, ← Nat.add_mul]
    exact Nat.mul_le_mul_right _ (by omega)
  obtain ⟨σ', g1, g2, g3⟩ := new_arr S' el hA (by omega : (es ++ ys).length ≤ nc) hcs
  rw [hl] at g2
  exact ⟨σ', g1, g2, E'.trans g3⟩

theorem app_sound (S : Sim Φ w Z σ st) {sz : Nat} {x y v : AV} {X Y : Value} {st1 : St} {t u e ty : TypeId} {i : TypeInfo} {z : Value} (ht : P.underlying t = some (.slice e)) (hi : P.info? e = some i) (his : i.size = sz)
    (hz : i.zero = some z) (hzs : z.cells.size = i.size) (hby : i.bytes ≤ 4096)
    (hu : (∃ e', P.underlying u = some (.slice e')) ∨ P.underlying u = some .string) (h : app st sz x y = some (v, st1)) (hx : VRel Φ w Z σ st x X) (hy : VRel Φ w Z σ st y Y) :
    ∃ X' w' Z' σ', (Builtin.append_ #[t, u] ty #[X, Y]).run P w = .ok X' w' ∧ Sim Φ w' Z' σ' st1 ∧ VRel Φ w' Z' σ' st1 v X' ∧ Ext st.length w Z σ st w' Z' σ' st1 := by
  subst his
  unfold app at h
  cases hye : elemsOf st i.size y with
  | none => simp [hye] at h
  | some ys =>
    simp only [hye] at h
    obtain ⟨news, hne, hng⟩ := elemsOf_sound (P := P) S hye hy
    have fit : ∀ k old, old < k → k ≤ maxApp → ((k : Nat) : Int) ≤ 9223372036854775807 ∧ Builtin.nextslicecap k old * i.bytes ≤ 281474976710656 := by
      intro k old ho hk
      unfold maxApp at hk
      refine ⟨by omega, growslice_fits ho ?_⟩
      have : k * i.bytes ≤ 4294967296 * 4096 := Nat.mul_le_mul hk hby
      omega
    -- what is new lies in a block of its own
    have new : ∀ {st0 : St} {Z0 : Nat → Nat} {es : List (List D)} {olds : List Value} {s : Option Addr} {n cap : Nat}, Sim Φ w Z0 σ st0 → Ext st.length w Z σ st w Z0 σ st0 → st0.length = st.length →
        Elems w Z0 i.size es olds → es.length = n → Elems w Z0 i.size ys news → (Builtin.firstCells i.size n (.slice s n cap)).run P w.drew = .ok olds.toArray w.drew → cap < n + ys.length → n + ys.length ≤ maxApp →
        ∃ X' w' Z' σ', (Builtin.append_ #[t, u] ty #[.slice s n cap, Y]).run P w = .ok X' w' ∧ Sim Φ w' Z' σ' (st0 ++ [.arr i.size (es ++ ys) true]) ∧
          VRel Φ w' Z' σ' (st0 ++ [.arr i.size (es ++ ys) true]) (.hs st0.length i.size 0 (n + ys.length)) X' ∧ Ext st.length w Z σ st w' Z' σ' (st0 ++ [.arr i.size (es ++ ys) true]) := by
      intro st0 Z0 es olds s n cap S0 E0 hl he hen hne' hf hg hm
      obtain ⟨h63, hfit⟩ := fit _ _ hg hm
      obtain ⟨nc, hnc, hr⟩ := app_grow (ty := ty) ht hi hz hu hng hf hg h63 hfit
      obtain ⟨σ', g1, g2, g3⟩ := grow_sound S0 he hne' hen rfl hzs hnc e
      rw [hl] at g3
      exact ⟨_, _, Z0, σ', hr, g1, g2, E0.trans g3⟩
    have virt : ∀ {st0 : St} {Z0 : Nat → Nat} {X' : Value}, Sim Φ w Z0 σ st0 → Ext st.length w Z σ st w Z0 σ st0 → st0.length = st.length → (X' = .slice none 0 0 ∨ ∃ b off, X' = .slice (some ⟨b, off, none⟩) 0 0) →
        ∃ w' Z' σ', w' = w ∧ Sim Φ w' Z' σ' (st0 ++ [.arr i.size [] true]) ∧ VRel Φ w' Z' σ' (st0 ++ [.arr i.size [] true]) (.hs st0.length i.size 0 0) X' ∧ Ext st.length w Z σ st w' Z' σ' (st0 ++ [.arr i.size [] true]) := by
      intro st0 Z0 X' S0 E0 hl hX
      obtain ⟨g1, g2⟩ := new_virtual S0 i.size
      rw [hl] at g2
      rw [← hl] at g2
      refine ⟨w, Z0, _, rfl, g1, ?_, E0.trans (hl ▸ g2)⟩
      rcases hX with rfl | ⟨b, off, rfl⟩
      · exact .hs0 get_last
      · exact .hse get_last
    cases x with
    | d xd =>
      cases xd with
      | nil =>
        simp only at h
        split at h
        · rename_i hm
          cases h
          rw [hx.nil_inv]
          cases hys : ys with
          | nil =>
            subst hys
            obtain ⟨w', Z', σ', rfl, g1, g2, g3⟩ := virt S (Ext.refl _ _ _ _ _) rfl (.inl rfl)
            exact ⟨_, _, Z', σ', app_none ht hi hu hng 0, g1, g2, g3⟩
          | cons e0 es0 =>
            have hpos : 0 < ys.length := by rw [hys]; simp
            rw [← hys]
            obtain ⟨X', w', Z', σ', g0, g1, g2, g3⟩ := new (n := 0) (cap := 0) (s := none) S (Ext.refl _ _ _ _ _) rfl Elems.nil rfl hne (run_firstCells_none _ _ _ _ _) (by omega) (by omega)
            exact ⟨X', w', Z', σ', g0, by simpa using g1, by simpa using g2, by simpa using g3⟩
        · cases h
      | _ => simp at h
    | hs h' sz' k n =>
      simp only at h
      cases ho : st[h']? with
      | none => simp [ho] at h
      | some ob =>
        cases ob with
        | box => simp [ho] at h
        | dead => simp [ho] at h
        | arr sz'' es wr =>
          cases wr with
          | false => simp [ho] at h
          | true =>
            simp only [ho] at h
            split at h
            · rename_i hq
              obtain ⟨rfl, rfl, hkn, hm⟩ := hq
              cases h
              have hl : liv st h' := .inr ⟨_, es, ho⟩
              have Sk : Sim Φ w Z σ (st.set h' .dead) := S.kill ho
              have Ek : Ext st.length w Z σ st w Z σ (st.set h' .dead) := ext_kill ho
              have hlk : (st.set h' .dead).length = st.length := by simp
              have hlen : ((es.drop k).take n).length = n := by simp; omega
              cases hx with
              | dhs hd => rw [ho] at hd; cases hd
              | rhs _ hd => rw [ho] at hd; cases hd
              | rhs0 hd => rw [ho] at hd; cases hd
              | rhse hd => rw [ho] at hd; cases hd
              | hs0 ho' =>
                rw [ho] at ho'; cases ho'
                simp only [Nat.zero_add, List.drop_nil, List.take_nil, List.nil_append] at hm ⊢
                cases hys : ys with
                | nil =>
                  subst hys
                  obtain ⟨w', Z', σ', rfl, g1, g2, g3⟩ := virt Sk Ek hlk (.inl rfl)
                  rw [hlk] at g2
                  exact ⟨_, _, Z', σ', app_none ht hi hu hng 0, g1, g2, g3⟩
                | cons e0 es0 =>
                  have hpos : 0 < ys.length := by rw [hys]; simp
                  rw [← hys]
                  obtain ⟨X', w', Z', σ', g0, g1, g2, g3⟩ := new (n := 0) (cap := 0) (s := none) Sk Ek hlk Elems.nil rfl hne (run_firstCells_none _ _ _ _ _) (by omega) (by omega)
                  rw [hlk] at g2
                  exact ⟨X', w', Z', σ', g0, by simpa using g1, by simpa using g2, by simpa using g3⟩
              | hse ho' =>
                rename_i b off wr' es'
                rw [ho] at ho'; cases ho'
                simp only [Nat.zero_add, List.take_zero, List.nil_append] at hm ⊢
                cases hys : ys with
                | nil =>
                  subst hys
                  obtain ⟨w', Z', σ', rfl, g1, g2, g3⟩ := virt Sk Ek hlk (.inr ⟨b, off, rfl⟩)
                  rw [hlk] at g2
                  exact ⟨_, _, Z', σ', app_empty ht hi hu hng b off, g1, g2, g3⟩
                | cons e0 es0 =>
                  have hpos : 0 < ys.length := by rw [hys]; simp
                  rw [← hys]
                  obtain ⟨X', w', Z', σ', g0, g1, g2, g3⟩ := new (n := 0) (cap := 0) (s := some ⟨b, off, none⟩) Sk Ek hlk Elems.nil rfl hne (by simp [Builtin.firstCells, loadCells, loadCellsFrom]) (by omega) (by omega)
                  rw [hlk] at g2
                  exact ⟨X', w', Z', σ', g0, by simpa using g1, by simpa using g2, by simpa using g3⟩
              | hs hs ho' hn hc hb =>
                rename_i b o cap es' wr'
                rw [ho] at ho'; cases ho'
                rcases S.obj _ _ ho with ⟨_, h2⟩ | ⟨b', o', c, el, h1, h2, h3, h4, h5, h6⟩
                · rw [hs] at h2; cases h2
                · rw [hs] at h1; cases h1
                  obtain ⟨c2, el2, hb1, hb2⟩ := hb
                  rw [h2] at hb1; cases hb1
                  obtain ⟨olds, hoe, hoc, hog⟩ := rows_give (P := P) (cap := cap) (rows_part h4 hkn) hlen.symm
                  by_cases hroom : n + ys.length ≤ cap
                  · -- in place
                    have hnl : news.length = ys.length * i.size := hne.1
                    have hmul : (n + ys.length) * i.size ≤ cap * i.size := Nat.mul_le_mul_right _ hroom
                    have hkc : (k + cap) * i.size = k * i.size + cap * i.size := Nat.add_mul _ _ _
                    rw [Nat.add_mul] at hmul
                    have hrun := app_room (ty := ty) ht hi hu hng (off := o + k * i.size) (sLen := n) (sCap := cap) h2 (by omega) hroom
                    have hsz := splice_size c news (o + k * i.size + n * i.size) (by omega)
                    have hzb := h5 rfl
                    have hzc : ∀ off : Nat, off < Z b → (c.toList.take (o + k * i.size + n * i.size) ++ news ++ c.toList.drop (o + k * i.size + n * i.size + news.length)).toArray[off]? = c[off]? := fun off hoff => by
                      rw [splice_get c _ _ off (by omega), if_pos (by omega)]
                    have E1 := ext_set S ho hl hs h2 hsz hzc (o := .dead) trivial
                    have S1 := S.setObj ho hl hs h2 hsz hzc (o := .dead) trivial trivial
                    have hno : ¬ own σ (st.set h' .dead) b := by
                      rintro ⟨h'', o'', l1, s1⟩
                      by_cases e1 : h'' = h'
                      · subst e1; simp [liv, get_set ho] at l1
                      · exact e1 (S.dis h'' h' b o'' o ((liv_set ho e1).1 l1) hl s1 hs)
                    have hown : own σ st b := ⟨h', o, hl, hs⟩
                    have E2 := ext_adopt E1 hlk (o := .arr i.size ((es.drop k).take n ++ ys) true) (k := o + k * i.size) hown
                    rw [hlk] at E2
                    have hbl : b < (w.setRow b (c.toList.take (o + k * i.size + n * i.size) ++ news ++ c.toList.drop (o + k * i.size + n * i.size + news.length)).toArray).heap.size := by simpa using (Array.getElem?_eq_some_iff.1 h2).1
                    have hrow := setRow_heap w b c (c.toList.take (o + k * i.size + n * i.size) ++ news ++ c.toList.drop (o + k * i.size + n * i.size + news.length)).toArray el (0, 0) h2
                    have hall : Elems w Z i.size ((es.drop k).take n ++ ys) (olds ++ news) := hoe.append hne
                    have hol : olds.length = n * i.size := by have := hoe.1; rwa [hlen] at this
                    have hrws : Rws (w.setRow b (c.toList.take (o + k * i.size + n * i.size) ++ news ++ c.toList.drop (o + k * i.size + n * i.size + news.length)).toArray) Z b (o + k * i.size) i.size ((es.drop k).take n ++ ys) := by
                      intro j e' he'
                      obtain ⟨g1, g2⟩ := hall.2 j e' he'
                      refine ⟨g1, fun r d hr => ?_⟩
                      obtain ⟨x, g3, g4⟩ := g2 r d hr
                      refine ⟨x, ?_, g4.monoE E1⟩
                      rw [cell_setRow_same w b _ c _ el (0, 0) h2, splice_get c _ _ _ (by omega)]
                      by_cases e1 : j * i.size + r < olds.length
                      · rw [List.getElem?_append_left e1] at g3
                        rw [if_pos (by omega)]
                        have := hoc _ _ g3
                        rw [show o + k * i.size + (j * i.size + r) = o + k * i.size + j * i.size + r by omega] at this
                        simpa [World.cell?, h2] using this
                      · have e2 := lt_of_getElem? g3
                        simp at e2
                        rw [List.getElem?_append_right (by omega)] at g3
                        rw [if_neg (by omega), if_pos (by omega)]
                        rwa [show o + k * i.size + j * i.size + r - (o + k * i.size + n * i.size) = j * i.size + r - olds.length by omega]
                    have hnl2 : ((es.drop k).take n ++ ys).length = n + ys.length := by simp only [List.length_append, hlen]
                    have S2 : Sim Φ _ Z (upd σ (st.set h' .dead).length (some (b, o + k * i.size))) (st.set h' .dead ++ [.arr i.size ((es.drop k).take n ++ ys) true]) := S1.adopt hbl hno (.inr ⟨b, o + k * i.size, _, el, upd_same _ _ _, hrow, by rw [hsz, hnl2, Nat.add_mul]; omega, hrws, fun _ => by omega, fun q => by cases q⟩)
                    rw [hlk] at S2
                    refine ⟨_, _, Z, _, hrun, S2, ?_, E2⟩
                    have hv := VRel.hs (Φ := Φ) (w := w.setRow b (c.toList.take (o + k * i.size + n * i.size) ++ news ++ c.toList.drop (o + k * i.size + n * i.size + news.length)).toArray) (Z := Z) (σ := upd σ st.length (some (b, o + k * i.size))) (st := st.set h' .dead ++ [.arr i.size ((es.drop k).take n ++ ys) true])
                      (h := st.length) (i := 0) (n := n + ys.length) (cap := cap) (upd_same _ _ _) (by rw [← hlk]; exact get_last) (by rw [hnl2]; omega) hroom ⟨_, el, hrow, by rw [hsz]; simp; omega⟩
                    simpa using hv
                  · have hf : (Builtin.firstCells i.size n (.slice (some ⟨b, o + k * i.size, none⟩) n cap)).run P w.drew = .ok olds.toArray w.drew := (hog.2.2 w.drew rfl).2
                    obtain ⟨X', w', Z', σ', g0, g1, g2, g3⟩ := new (n := n) (cap := cap) (s := some ⟨b, o + k * i.size, none⟩) Sk Ek hlk hoe hlen hne hf (by omega) hm
                    rw [hlk] at g2
                    exact ⟨X', w', Z', σ', g0, g1, g2, g3⟩
            · cases h
    | _ => simp at h

/-! ### append to a slice whose cells may hold handles -/
theorem flat_flatten : ∀ es : List (List D), es.flatten = flat es
  | [] => rfl
  | e :: es => by simp [flat, flat_flatten es]

theorem cellsY_sound (S : Sim Φ w Z σ st) {sz m : Nat} {y : AV} {Y : Value} {ys : List AV} (h : cellsY st sz y = some (m, ys)) (hy : VRel Φ w Z σ st y Y) :
    ∃ us, VRels Φ w Z σ st ys us ∧ Gives P w sz Y m us := by
  by_cases hb : ∃ h' sz' i n, y = .hs h' sz' i n
  · obtain ⟨h', sz', i, n, rfl⟩ := hb
    simp only [cellsY] at h
    split at h
    · rename_i cs ho
      split at h
      · rename_i hq
        obtain ⟨rfl, hn, hsol⟩ := hq
        cases h
        cases hy with
        | dhs hd => rw [ho] at hd; cases hd
        | hs _ hd => rw [ho] at hd; cases hd
        | hs0 hd => rw [ho] at hd; cases hd
        | hse hd => rw [ho] at hd; cases hd
        | rhs0 hd => exact ⟨[], by simpa using VRels.nil, by simpa using gives_nil⟩
        | rhse hd => exact ⟨[], by simpa using VRels.nil, by simpa using gives_zero⟩
        | rhs hs hd hn' hc hbk =>
          rename_i b cap cs'
          rw [ho] at hd; cases hd
          rcases S.obj _ _ ho with ⟨_, h2⟩ | ⟨b', c, el, h1, h2, h3, h4⟩
          · rw [hs] at h2; cases h2
          · rw [hs] at h1; cases h1
            have hcl : cs.length ≤ c.size := by have := h4.1; simp at this; omega
            rw [Nat.add_mul] at hn
            have hvr := (h4.drop (i * sz')).take (m * sz')
            have hul : (((c.toList.take cs.length).drop (i * sz')).take (m * sz')).length = m * sz' := by simp; omega
            refine ⟨_, hvr, hul, fun u hu => ?_, fun w2 hw => ⟨rfl, ?_⟩⟩
            · obtain ⟨r, hr⟩ := List.getElem?_of_mem hu
              have hrl := lt_of_getElem? hr
              have hsl : ∀ {vs : List AV}, solL vs = true → ∀ v ∈ vs, sol v = true := by
                intro vs
                induction vs with
                | nil => intro _ v hv; cases hv
                | cons v vs ih =>
                  intro hs' v' hv'
                  simp [solL] at hs'
                  cases hv' with
                  | head => exact hs'.1
                  | tail _ hv' => exact ih hs'.2 v' hv'
              have hx : ((cs.drop (i * sz')).take (m * sz'))[r]? = some (((cs.drop (i * sz')).take (m * sz'))[r]'(by rw [← hvr.1]; exact hrl)) := List.getElem?_eq_getElem _
              exact (hvr.2 r _ u hx hr).one (hsl hsol _ (List.mem_of_getElem? hx))
            · refine run_firstCells_some w2 sz' m ⟨b, i * sz', none⟩ m cap _ hul fun j v hj => ?_
              rw [Addr.add_lit, cell_heap hw, cell_iff]
              have hjl := lt_of_getElem? hj
              rw [hul] at hjl
              rw [List.getElem?_take_of_lt hjl, List.getElem?_drop, List.getElem?_take_of_lt (by omega)] at hj
              exact ⟨c, el, _, h2, by simpa using hj⟩
      · cases h
    · cases h
  · have he : cellsY st sz y = match elemsOf st sz y with
      | some ys => if okSz sz ys then some (ys.length, ys.flatten.map .d) else none
      | none => none := by
      cases y with
      | hs h' sz' i n => exact absurd ⟨h', sz', i, n, rfl⟩ hb
      | _ => rfl
    rw [he] at h
    cases hel : elemsOf st sz y with
    | none => simp [hel] at h
    | some es =>
      simp only [hel] at h
      split at h
      · rename_i hk
        cases h
        obtain ⟨us, ⟨h1, h2⟩, hg⟩ := elemsOf_sound (P := P) S hel hy
        refine ⟨us, ⟨?_, fun r c x hc hx => ?_⟩, hg⟩
        · rw [h1, List.length_map]
          have : ∀ {es : List (List D)}, okSz sz es = true → es.flatten.length = es.length * sz := by
            intro es
            induction es with
            | nil => intro _; simp
            | cons e es ih =>
              intro hk
              have h0 := okSz_spec hk 0 e rfl
              have hk' : okSz sz es = true := by simp [okSz] at hk ⊢; exact hk.2
              simp [ih hk', h0, Nat.add_mul]; omega
          rw [this hk]
        · rw [List.getElem?_map] at hc
          cases hd : es.flatten[r]? with
          | none => simp [hd] at hc
          | some d =>
            simp [hd] at hc
            subst hc
            rw [flat_flatten] at hd
            obtain ⟨i, j, e, rfl, hj, he, hde⟩ := getElem?_flat (fun i e he => okSz_spec hk i e he) hd
            obtain ⟨x', hx', hr⟩ := (h2 i e he).2 j d hde
            rw [hx] at hx'; cases hx'
            exact .d hr
      · cases h

/-- An own empty box without a block. -/
theorem new_vbox (S : Sim Φ w Z σ st) :
    Sim Φ w Z (upd σ st.length none) (st ++ [.box []]) ∧ Ext st.length w Z σ st w Z (upd σ st.length none) (st ++ [.box []]) := by
  have sg : ∀ h, h < st.length → ∀ o, st[h]? = some o → ∃ o', (st ++ [.box []])[h]? = some o' ∧ OLe o o' ∧ (o' ≠ .dead → upd σ st.length none h = σ h) :=
    fun h hh x hx => ⟨x, by rw [get_push hh]; exact hx, OLe.refl x, fun _ => upd_other (by omega)⟩
  have M : Mon st.length w Z σ st w Z (upd σ st.length none) (st ++ [.box []]) := ⟨fun _ => Nat.le_refl _, fun _ _ _ => rfl, fun _ c _ _ h => ⟨c, h, rfl⟩, sg⟩
  have ol : ∀ h b o, liv (st ++ [.box []]) h → upd σ st.length none h = some (b, o) → liv st h ∧ σ h = some (b, o) := by
    intro h b o l1 s1
    have := l1.lt
    simp at this
    by_cases e : h = st.length
    · subst e; rw [upd_same] at s1; cases s1
    · rw [upd_other e] at s1; exact ⟨(liv_push (by omega)).1 l1, s1⟩
  refine ⟨⟨fun h x hx => ?_, fun h1 h2 b o1 o2 l1 l2 s1 s2 => ?_, S.z⟩, ⟨Nat.le_refl _, fun _ => Nat.le_refl _, fun _ _ _ => rfl, fun _ _ _ => rfl, fun _ _ _ => rfl, fun _ c _ _ h => ⟨c, h, rfl⟩, fun b _ hn => ?_, sg, rfl, rfl⟩⟩
  · rcases get_push_inv hx with ⟨h1, h2⟩ | ⟨rfl, rfl⟩
    · exact (S.obj h x h2).keepM M (upd_other (by omega)) (fun _ _ _ _ => rfl) (fun _ _ _ _ => rfl) h2
    · exact .inl ⟨rfl, upd_same _ _ _⟩
  · obtain ⟨l1, s1⟩ := ol _ _ _ l1 s1
    obtain ⟨l2, s2⟩ := ol _ _ _ l2 s2
    exact S.dis h1 h2 b o1 o2 l1 l2 s1 s2
  · obtain ⟨h, o, l1, s1⟩ := hn
    obtain ⟨l1, s1⟩ := ol _ _ _ l1 s1
    exact ⟨h, o, l1, s1⟩

theorem appb_sound (S : Sim Φ w Z σ st) {sz : Nat} {x y v : AV} {X Y : Value} {st1 : St} {t u e ty : TypeId} {i : TypeInfo} {z : Value} (ht : P.underlying t = some (.slice e)) (hi : P.info? e = some i) (his : i.size = sz)
    (hz : i.zero = some z) (hzs : z.cells.size = i.size) (hby : i.bytes ≤ 4096)
    (hu : (∃ e', P.underlying u = some (.slice e')) ∨ P.underlying u = some .string) (h : appb st sz x y = some (v, st1)) (hx : VRel Φ w Z σ st x X) (hy : VRel Φ w Z σ st y Y) :
    ∃ X' w' Z' σ', (Builtin.append_ #[t, u] ty #[X, Y]).run P w = .ok X' w' ∧ Sim Φ w' Z' σ' st1 ∧ VRel Φ w' Z' σ' st1 v X' ∧ Ext st.length w Z σ st w' Z' σ' st1 := by
  subst his
  unfold appb at h
  cases hye : cellsY st i.size y with
  | none => simp [hye] at h
  | some r =>
    obtain ⟨m, ys⟩ := r
    simp only [hye] at h
    obtain ⟨news, hne, hng⟩ := cellsY_sound (P := P) S hye hy
    have hnl : news.length = m * i.size := hng.1
    have fit : ∀ k old, old < k → k ≤ maxApp → ((k : Nat) : Int) ≤ 9223372036854775807 ∧ Builtin.nextslicecap k old * i.bytes ≤ 281474976710656 := by
      intro k old ho hk
      unfold maxApp at hk
      refine ⟨by omega, growslice_fits ho ?_⟩
      have : k * i.bytes ≤ 4294967296 * 4096 := Nat.mul_le_mul hk hby
      omega
    have new : ∀ {st0 : St} {cs : List AV} {olds : List Value} {s : Option Addr} {n cap : Nat}, Sim Φ w Z σ st0 → Ext st.length w Z σ st w Z σ st0 → st0.length = st.length →
        VRels Φ w Z σ st cs olds → olds.length = n * i.size → (Builtin.firstCells i.size n (.slice s n cap)).run P w.drew = .ok olds.toArray w.drew → cap < n + m → n + m ≤ maxApp →
        ∃ X' w' Z' σ', (Builtin.append_ #[t, u] ty #[.slice s n cap, Y]).run P w = .ok X' w' ∧ Sim Φ w' Z' σ' (st0 ++ [.box (cs ++ ys)]) ∧
          VRel Φ w' Z' σ' (st0 ++ [.box (cs ++ ys)]) (.hs st0.length i.size 0 (n + m)) X' ∧ Ext st.length w Z σ st w' Z' σ' (st0 ++ [.box (cs ++ ys)]) := by
      intro st0 cs olds s n cap S0 E0 hl hco hol hf hg hm
      obtain ⟨h63, hfit⟩ := fit _ _ hg hm
      obtain ⟨nc, hnc, hr⟩ := app_grow (ty := ty) ht hi hz hu hng hf hg h63 hfit
      have S' : Sim Φ w.drew Z σ st0 := Sim.heap (w := w) (w' := w.drew) rfl rfl rfl S0
      have E' : Ext st0.length w Z σ st0 w.drew Z σ st0 := ext_heap (w := w) (w' := w.drew) rfl rfl rfl _
      rw [hl] at E'
      have hall : VRels Φ w.drew Z σ st0 (cs ++ ys) (olds ++ news) := ((hco.append hne).mono E0).mono (hl ▸ E')
      have hlen : (cs ++ ys).length = (n + m) * i.size := by rw [← hall.1]; simp [hol, hnl, Nat.add_mul]
      have hcs : nc * i.size ≤ (olds.toArray ++ news.toArray ++ Builtin.zeroCells z.cells (nc - (n + m))).size := by
        simp only [Array.size_append, List.size_toArray, size_zeroCells, hzs, hol, hnl, ← Nat.add_mul]
        exact Nat.mul_le_mul_right _ (by omega)
      obtain ⟨σ', g1, g2, g3⟩ := new_rows (sz := i.size) (n := n + m) (cap := nc) (cs := cs ++ ys) (c := olds.toArray ++ news.toArray ++ Builtin.zeroCells z.cells (nc - (n + m))) S' e
        (by rw [hlen]
            have : (olds.toArray ++ news.toArray ++ Builtin.zeroCells z.cells (nc - (n + m))).toList.take ((n + m) * i.size) = olds ++ news := by
              simp only [Array.toList_append]
              rw [List.take_append_of_le_length (by simp [hol, hnl, Nat.add_mul])]
              rw [List.take_of_length_le (by simp [hol, hnl, Nat.add_mul])]
            rw [this]; exact hall) (by rw [hlen]; exact Nat.le_refl _) hnc hcs
      rw [hl] at g3
      exact ⟨_, _, Z, σ', hr, g1, g2, E0.trans (E'.trans g3)⟩
    have virt : ∀ {st0 : St} {X' : Value}, Sim Φ w Z σ st0 → Ext st.length w Z σ st w Z σ st0 → st0.length = st.length → (X' = .slice none 0 0 ∨ ∃ b off, X' = .slice (some ⟨b, off, none⟩) 0 0) →
        ∃ w' Z' σ', w' = w ∧ Sim Φ w' Z' σ' (st0 ++ [.box []]) ∧ VRel Φ w' Z' σ' (st0 ++ [.box []]) (.hs st0.length i.size 0 0) X' ∧ Ext st.length w Z σ st w' Z' σ' (st0 ++ [.box []]) := by
      intro st0 X' S0 E0 hl hX
      obtain ⟨g1, g2⟩ := new_vbox S0
      refine ⟨w, Z, _, rfl, g1, ?_, E0.trans (g2.le (by omega))⟩
      rcases hX with rfl | ⟨b, off, rfl⟩
      · exact .rhs0 get_last
      · exact .rhse get_last
    have hm0 : m = 0 → news = [] ∧ ys = [] := fun q => by
      subst q
      have h1 : news = [] := List.eq_nil_of_length_eq_zero (by simpa using hnl)
      subst h1
      exact ⟨rfl, List.eq_nil_of_length_eq_zero (by simpa using hne.1.symm)⟩
    cases x with
    | d xd =>
      cases xd with
      | nil =>
        simp only at h
        split at h
        · rename_i hm
          cases h
          rw [hx.nil_inv]
          by_cases hmz : m = 0
          · obtain ⟨rfl, rfl⟩ := hm0 hmz
            subst hmz
            obtain ⟨w', Z', σ', rfl, g1, g2, g3⟩ := virt S (Ext.refl _ _ _ _ _) rfl (.inl rfl)
            exact ⟨_, _, Z', σ', app_none ht hi hu hng 0, g1, g2, g3⟩
          · obtain ⟨X', w', Z', σ', g0, g1, g2, g3⟩ := new (n := 0) (cap := 0) (s := none) S (Ext.refl _ _ _ _ _) rfl VRels.nil (by simp) (run_firstCells_none _ _ _ _ _) (by omega) (by omega)
            exact ⟨X', w', Z', σ', g0, by simpa using g1, by simpa using g2, by simpa using g3⟩
        · cases h
      | _ => simp at h
    | hs h' sz' k n =>
      simp only at h
      cases ho : st[h']? with
      | none => simp [ho] at h
      | some ob =>
        cases ob with
        | arr => simp [ho] at h
        | dead => simp [ho] at h
        | box cs =>
          simp only [ho] at h
          split at h
          · rename_i hq
            obtain ⟨rfl, rfl, hkn, hm⟩ := hq
            cases h
            have hl : liv st h' := .inl ⟨cs, ho⟩
            have Sk : Sim Φ w Z σ (st.set h' .dead) := S.kill ho
            have Ek : Ext st.length w Z σ st w Z σ (st.set h' .dead) := ext_kill ho
            have hlk : (st.set h' .dead).length = st.length := by simp
            have zero : ∀ {X : Value} {s : Option Addr}, n = 0 → X = .slice s 0 0 → (s = none ∨ ∃ b off, s = some ⟨b, off, none⟩) →
                ∃ X' w' Z' σ', (Builtin.append_ #[t, u] ty #[X, Y]).run P w = .ok X' w' ∧ Sim Φ w' Z' σ' (st.set h' .dead ++ [.box (cs.take (n * i.size) ++ ys)]) ∧
                  VRel Φ w' Z' σ' (st.set h' .dead ++ [.box (cs.take (n * i.size) ++ ys)]) (.hs st.length i.size 0 (n + m)) X' ∧ Ext st.length w Z σ st w' Z' σ' (st.set h' .dead ++ [.box (cs.take (n * i.size) ++ ys)]) := by
              intro X s hn0 hX hs
              subst hn0 hX
              simp only [Nat.zero_mul, List.take_zero, List.nil_append, Nat.zero_add]
              by_cases hmz : m = 0
              · obtain ⟨rfl, rfl⟩ := hm0 hmz
                subst hmz
                rcases hs with rfl | ⟨b, off, rfl⟩
                · obtain ⟨w', Z', σ', rfl, g1, g2, g3⟩ := virt Sk Ek hlk (.inl rfl)
                  rw [hlk] at g2
                  exact ⟨_, _, Z', σ', app_none ht hi hu hng 0, g1, g2, g3⟩
                · obtain ⟨w', Z', σ', rfl, g1, g2, g3⟩ := virt Sk Ek hlk (.inr ⟨b, off, rfl⟩)
                  rw [hlk] at g2
                  exact ⟨_, _, Z', σ', app_empty ht hi hu hng b off, g1, g2, g3⟩
              · rcases hs with rfl | ⟨b, off, rfl⟩
                · obtain ⟨X', w', Z', σ', g0, g1, g2, g3⟩ := new (n := 0) (cap := 0) (s := none) Sk Ek hlk VRels.nil (by simp) (run_firstCells_none _ _ _ _ _) (by omega) (by omega)
                  rw [hlk] at g2
                  exact ⟨X', w', Z', σ', g0, by simpa using g1, by simpa using g2, by simpa using g3⟩
                · obtain ⟨X', w', Z', σ', g0, g1, g2, g3⟩ := new (n := 0) (cap := 0) (s := some ⟨b, off, none⟩) Sk Ek hlk VRels.nil (by simp) (by simp [Builtin.firstCells, loadCells, loadCellsFrom]) (by omega) (by omega)
                  rw [hlk] at g2
                  exact ⟨X', w', Z', σ', g0, by simpa using g1, by simpa using g2, by simpa using g3⟩
            cases hx with
            | dhs hd => rw [ho] at hd; cases hd
            | hs _ hd => rw [ho] at hd; cases hd
            | hs0 hd => rw [ho] at hd; cases hd
            | hse hd => rw [ho] at hd; cases hd
            | rhs0 ho' => exact zero rfl rfl (.inl rfl)
            | rhse ho' => exact zero rfl rfl (.inr ⟨_, _, rfl⟩)
            | rhs hs ho' hn hc hb =>
              rename_i b cap cs'
              rw [ho] at ho'; cases ho'
              rcases S.obj _ _ ho with ⟨_, h2⟩ | ⟨b', c, el, h1, h2, h3, h4⟩
              · rw [hs] at h2; cases h2
              · rw [hs] at h1; cases h1
                obtain ⟨c2, el2, hb1, hb2⟩ := hb
                rw [h2] at hb1; cases hb1
                simp only [Nat.zero_add, Nat.zero_mul] at hb2 hn ⊢
                have hcl : cs.length ≤ c.size := by have := h4.1; simp at this; omega
                have hco : VRels Φ w Z σ st (cs.take (n * i.size)) (c.toList.take (n * i.size)) := by
                  have := h4.take (n * i.size)
                  rwa [List.take_take, Nat.min_eq_left hn] at this
                have hol : (c.toList.take (n * i.size)).length = n * i.size := by simp; omega
                by_cases hroom : n + m ≤ cap
                · have hmul : (n + m) * i.size ≤ cap * i.size := Nat.mul_le_mul_right _ hroom
                  rw [Nat.add_mul] at hmul
                  have hrun := app_room (ty := ty) ht hi hu hng (off := 0) (sLen := n) (sCap := cap) h2 (by omega) hroom
                  simp only [Nat.zero_add] at hrun
                  have hsz := splice_size c news (n * i.size) (by omega)
                  have hzc : ∀ off : Nat, off < Z b → (c.toList.take (n * i.size) ++ news ++ c.toList.drop (n * i.size + news.length)).toArray[off]? = c[off]? := fun off hoff => by omega
                  have E1 := ext_set S ho hl hs h2 hsz hzc (o := .dead) trivial
                  have S1 := S.setObj ho hl hs h2 hsz hzc (o := .dead) trivial trivial
                  have hno : ¬ own σ (st.set h' .dead) b := by
                    rintro ⟨h'', o'', l1, s1⟩
                    by_cases e1 : h'' = h'
                    · subst e1; simp [liv, get_set ho] at l1
                    · exact e1 (S.dis h'' h' b o'' 0 ((liv_set ho e1).1 l1) hl s1 hs)
                  have hown : own σ st b := ⟨h', 0, hl, hs⟩
                  have E2 := ext_adopt E1 hlk (o := .box (cs.take (n * i.size) ++ ys)) (k := 0) hown
                  rw [hlk] at E2
                  have hbl : b < (w.setRow b (c.toList.take (n * i.size) ++ news ++ c.toList.drop (n * i.size + news.length)).toArray).heap.size := by simpa using (Array.getElem?_eq_some_iff.1 h2).1
                  have hrow := setRow_heap w b c (c.toList.take (n * i.size) ++ news ++ c.toList.drop (n * i.size + news.length)).toArray el (0, 0) h2
                  have hall := (hco.append hne).mono E2
                  have hlen : (cs.take (n * i.size) ++ ys).length = n * i.size + m * i.size := by rw [← hall.1]; simp [hnl]; omega
                  have S2 : Sim Φ _ Z (upd σ (st.set h' .dead).length (some (b, 0))) (st.set h' .dead ++ [.box (cs.take (n * i.size) ++ ys)]) := S1.adopt hbl hno (.inr ⟨b, _, el, upd_same _ _ _, hrow, h3, by
                    rw [hlk, hlen]
                    have : (c.toList.take (n * i.size) ++ news ++ c.toList.drop (n * i.size + news.length)).toArray.toList.take (n * i.size + m * i.size) = c.toList.take (n * i.size) ++ news := by
                      simp only [List.toList_toArray]
                      rw [List.take_append_of_le_length (by rw [List.length_append, hol, hnl]; exact Nat.le_refl _), List.take_of_length_le (by rw [List.length_append, hol, hnl]; exact Nat.le_refl _)]
                    rw [this]; exact hall⟩)
                  rw [hlk] at S2
                  refine ⟨_, _, Z, _, hrun, S2, ?_, E2⟩
                  have hv := VRel.rhs (Φ := Φ) (w := w.setRow b (c.toList.take (n * i.size) ++ news ++ c.toList.drop (n * i.size + news.length)).toArray) (Z := Z) (σ := upd σ st.length (some (b, 0))) (st := st.set h' .dead ++ [.box (cs.take (n * i.size) ++ ys)])
                    (h := st.length) (i := 0) (sz := i.size) (n := n + m) (cap := cap) (upd_same _ _ _) (by rw [← hlk]; exact get_last) (by rw [hlen, Nat.zero_add, Nat.add_mul]; exact Nat.le_refl _) hroom ⟨_, el, hrow, by rw [hsz]; simpa using hb2⟩
                  simpa using hv
                · have hf : (Builtin.firstCells i.size n (.slice (some ⟨b, 0, none⟩) n cap)).run P w.drew = .ok (c.toList.take (n * i.size)).toArray w.drew := by
                    refine run_firstCells_some w.drew i.size n ⟨b, 0, none⟩ n cap _ hol fun j v hj => ?_
                    rw [Addr.add_lit, cell_heap rfl, cell_iff]
                    have hjl := lt_of_getElem? hj
                    rw [hol] at hjl
                    rw [List.getElem?_take_of_lt hjl] at hj
                    exact ⟨c, el, _, h2, by simpa using hj⟩
                  obtain ⟨X', w', Z', σ', g0, g1, g2, g3⟩ := new (n := n) (cap := cap) (s := some ⟨b, 0, none⟩) Sk Ek hlk hco hol hf (by omega) hm
                  rw [hlk] at g2
                  exact ⟨X', w', Z', σ', g0, g1, g2, g3⟩
          · cases h
    | _ => simp at h

end
end Go.Proofs.YtplgdddfhjpojaaGreat.AM
