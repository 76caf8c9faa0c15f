/-
  The generic layer, part 3: the abstract steps: what an operation asks of the state that stands, and what it leaves ('opK'); of code ('swp').
-/
import Derived.Test.YtmplpdjddjiioaaDoorA2
import Derived.Laws.Cells
import Derived.Laws.Rows
import Derived.Laws.Tables
import Derived.Laws.IdiomCopy
import Derived.Laws.Entries
namespace Go.Ab

/-! ### Types, as the steps ask of them -/
inductive TK where
  | bad | oth | bool | int (k : IntKind) | str | ptr (e : Nat) | slice (e : Nat) | arr (n e : Nat) | map (k e : Nat) | struct (fs : List (Nat × Nat)) | func | ifc
structure TI where
  k : TK
  sz : Nat
  by' : Nat
  z : Option (List D)
def zd : Value → Option D
  | .int k n => some (.int k n)
  | .bool b => some (.bool b)
  | .string s => some (.str s.data.toList)
  | .pointer none => some .nilp
  | .slice none 0 0 => some .nils
  | .map none => some .nilm
  | .nilFunc => some .nilf
  | .nilIface => some .nili
  | _ => none
def tk : TypeDesc → TK
  | .bool => .bool
  | .int k => .int k
  | .string => .str
  | .pointer e => .ptr e
  | .slice e => .slice e
  | .array n e => .arr n e
  | .map k e => .map k e
  | .struct fs => .struct (fs.toList.map fun f => (f.offset, f.type))
  | .func _ _ _ => .func
  | .interface _ => .ifc
  | _ => .oth
def TK.agg : TK → Bool
  | .struct _ => true
  | .arr _ _ => true
  | _ => false
def TK.isBad : TK → Bool
  | .bad => true
  | _ => false
/-- What the program says of a type. -/
def _root_.Go.Program.ti (P : Program) (t : Nat) : TI :=
  match P.info? t, P.underlying t with
  | some i, some d => { k := tk d, sz := i.size, by' := i.bytes, z := i.zero.bind fun v => v.cells.toList.mapM zd }
  | _, _ => { k := .bad, sz := 0, by' := 0, z := none }
/-- A type's form as an element. -/
def TI.w (i : TI) : W := if i.k.agg then some i.sz else none
def TI.zero (i : TI) : Option D := i.z.bind fun cs => if i.k.agg then some (.agg cs) else match cs with | [d] => some d | _ => none

/-- A slice of this type's elements has elements of that form. -/
def TI.isW (i : TI) (w : W) : Bool := !i.k.isBad && match w with
  | none => !i.k.agg && i.sz == 1
  | some n => i.k.agg && i.sz == n

/-! ### Values -/
def cv : Value → AV
  | .int k n => .d (.int k n)
  | .bool b => .d (.bool b)
  | .string s => .d (.str s.data.toList)
  | .pointer none => .d .nilp
  | .slice none 0 0 => .d .nils
  | .map none => .d .nilm
  | .nilFunc => .d .nilf
  | .nilIface => .d .nili
  | _ => .un
def ev (s : St) : Operand → AV
  | .tmp t => s.fr t
  | .const v => cv v
  | .global _ => .un
  | .func f => .clo f []
def allD : List AV → Option (List D)
  | [] => some []
  | .d x :: r => (allD r).map (x :: ·)
  | _ :: _ => none
def mkAgg (cs : List AV) : AV :=
  match allD cs with
  | some ds => .d (.agg ds)
  | none => .agg cs
/-- The cells of a value that is stored: none where it is not known. -/
def cellsD : D → Option (List AV)
  | .agg ds => some (ds.map .d)
  | .int k n => some [.d (.int k n)]
  | .bool b => some [.d (.bool b)]
  | .str s => some [.d (.str s)]
  | .nilp => some [.d .nilp]
  | .nils => some [.d .nils]
  | .nilm => some [.d .nilm]
  | .nilf => some [.d .nilf]
  | .nili => some [.d .nili]
  | .sl w xs => some [.d (.sl w xs)]
  | .ptr d => some [.d (.ptr d)]
  | .clo f c => some [.d (.clo f c)]
  | .ifc t d => some [.d (.ifc t d)]
def cellsA : AV → Option (List AV)
  | .d x => cellsD x
  | .agg cs => some cs
  | .vw p o l => some [.vw p o l]
  | .at p c => some [.at p c]
  | .el p i c => some [.el p i c]
  | .mp p => some [.mp p]
  | .it p => some [.it p]
  | .clo f c => some [.clo f c]
  | .un => none
  | .tup _ => none
def splice {α : Type} (l : List α) (c : Nat) (xs : List α) : List α := l.take c ++ (xs ++ l.drop (c + xs.length))

/-! ### What an operation asks, and what it leaves -/
/-- A result: it stands · it stands if p · nothing is said. -/
inductive R (α : Type) : Type 1 where
  | ok (a : α)
  | need (p : Prop) (r : R α)
  | no
def R.bind {α β : Type} : R α → (α → R β) → R β
  | .ok a, f => f a
  | .need p r, f => .need p (r.bind f)
  | .no, _ => .no
def R.ofO {α : Type} : Option α → R α
  | some a => .ok a
  | none => .no

/-- The part of a datum at a cell, as a type reads it. -/
def partD (i : TI) (d : D) (c : Nat) : Option D :=
  if i.k.isBad then none else match d with
  | .agg cs => if i.k.agg then (if c + i.sz ≤ cs.length then some (.agg ((cs.drop c).take i.sz)) else none) else cs[c]?
  | d => if i.k.agg then none else if c = 0 then some d else none
/-- The part of a struct's cells. -/
def partC (i : TI) (cs : List AV) (c : Nat) : R AV :=
  if i.k.isBad then .no else if i.k.agg then (if c + i.sz ≤ cs.length then .ok (mkAgg ((cs.drop c).take i.sz)) else .no) else R.ofO cs[c]?

def loadR (i : TI) (hp : Name → Option Ob) : AV → R AV
  | .at p c => match hp p with
    | some (.box cs) => partC i cs c
    | _ => .no
  | .el p j c => match hp p with
    | some (.arr _ xs) => R.ofO ((partD i (xs.getD j .nilp) c).map .d)
    | _ => .no
  | .d (.ptr d) => R.ofO ((partD i d 0).map .d)
  | _ => .no

def okWb : W → D → Bool
  | none, d => d.scal
  | some n, .agg cs => cs.length == n && cs.all D.scal
  | some _, _ => false
/-- An element, or a part of one, is stored. -/
def storeEl (i : TI) (w : W) (xs : List D) (j c : Nat) (y : D) : Option (List D) :=
  if i.k.isBad then none
  else if i.isW w && okWb w y && c == 0 then some (xs.set j y)
  else if i.k.agg then none
  else match xs.getD j .nilp with
    | .agg cs => if y.scal ∧ c < cs.length ∧ i.sz = 1 then some (xs.set j (.agg (cs.set c y))) else none
    | _ => none
def storeR (i : TI) (s : St) (x v : AV) : R St :=
  match x with
  | .at p c =>
    match s.hp p with
    | some (.box cs) => match cellsA v with
      | some vs => if i.k.isBad = false ∧ vs.length = i.sz ∧ c + i.sz ≤ cs.length then .ok (s.set p (some (.box (splice cs c vs)))) else .no
      | none => .no
    | _ => .no
  | .el p j c =>
    match s.hp p, v with
    | some (.arr w xs), .d y => match storeEl i w xs j c y with
      | some ys => .ok (s.set p (some (.arr w ys)))
      | none => .no
    | _, _ => .no
  | _ => .no

def fieldAddrR (i : TI) (tf : Nat → TI) (hp : Name → Option Ob) (x : AV) (f : Nat) : R AV :=
  match i.k with
  | .struct fs =>
    match fs[f]? with
    | some (o, t) =>
      if (tf t).sz = 0 then .no else
        match x with
        | .at p c => match hp p with
          | some (.box _) => .ok (.at p (c + o))
          | _ => .no
        | .el p j c => match hp p with
          | some (.arr _ _) => .ok (.el p j (c + o))
          | _ => .no
        | .d (.ptr (.agg cs)) => R.ofO ((partD (tf t) (.agg cs) o).map fun d => .d (.ptr d))
        | _ => .no
    | none => .no
  | _ => .no

def fieldR (i : TI) (tf : Nat → TI) (x : AV) (f : Nat) : R AV :=
  match i.k with
  | .struct fs =>
    match fs[f]? with
    | some (o, t) =>
      match x with
      | .d (.agg cs) => R.ofO ((partD (tf t) (.agg cs) o).map .d)
      | .agg cs => partC (tf t) cs o
      | _ => .no
    | none => .no
  | _ => .no

def indexAddrR (i : TI) (tf : Nat → TI) (hp : Name → Option Ob) (x j : AV) : R AV :=
  match i.k, x, j with
  | .slice e, .vw p o l, .d (.int _ n) =>
    match hp p with
    | some (.arr w _) => if (tf e).isW w then .need (0 ≤ n ∧ n < l) (.ok (.el p (o + n.toNat) 0)) else .no
    | _ => .no
  | .slice e, .d (.sl w xs), .d (.int _ n) => if (tf e).isW w then .need (0 ≤ n ∧ n < xs.length) (.ok (.d (.ptr (xs.getD n.toNat .nilp)))) else .no
  | _, _, _ => .no

def indexR (i : TI) (x j : AV) : R AV :=
  match i.k, x, j with
  | .str, .d (.str l), .d (.int _ n) => .need (0 ≤ n ∧ n < l.length) (.ok (.d (.int .u8 (l.getD n.toNat 0).toNat)))
  | _, _, _ => .no

def loI (n : Int) (x : Option AV) : Option Int :=
  match x with
  | none => some n
  | some (.d (.int _ m)) => some m
  | _ => none
def sliceR (i : TI) (tf : Nat → TI) (hp : Name → Option Ob) (x : AV) (lo hi : Option AV) : R AV :=
  match i.k, x with
  | .str, .d (.str l) => match loI 0 lo, loI l.length hi with
    | some a, some b => .need (0 ≤ a ∧ a ≤ b ∧ b ≤ l.length) (.ok (.d (.str ((l.drop a.toNat).take (b.toNat - a.toNat)))))
    | _, _ => .no
  | .slice e, .d (.sl w xs) => if (tf e).isW w then match loI 0 lo, loI xs.length hi with
      | some a, some b => .need (0 ≤ a ∧ a ≤ b ∧ b ≤ xs.length) (.ok (.d (.sl w ((xs.drop a.toNat).take (b.toNat - a.toNat)))))
      | _, _ => .no
    else .no
  | .slice e, .vw p o n => match hp p with
    | some (.arr w _) => if (tf e).isW w then match loI 0 lo, loI n hi with
        | some a, some b => .need (0 ≤ a ∧ a ≤ b ∧ b ≤ n) (.ok (.vw p (o + a.toNat) (b.toNat - a.toNat)))
        | _, _ => .no
      else .no
    | _ => .no
  | .slice e, .d .nils => if (tf e).k.isBad then .no else match loI 0 lo, loI 0 hi with
    | some a, some b => .need (a = 0 ∧ b = 0) (.ok (.d .nils))
    | _, _ => .no
  | _, _ => .no

def bitI (op : BinOp) (k : IntKind) (x y : Int) : Int :=
  match op with
  | .and => k.wrap ((BitVec.ofInt k.bits x &&& BitVec.ofInt k.bits y).toNat)
  | .or => k.wrap ((BitVec.ofInt k.bits x ||| BitVec.ofInt k.bits y).toNat)
  | .xor => k.wrap ((BitVec.ofInt k.bits x ^^^ BitVec.ofInt k.bits y).toNat)
  | _ => k.wrap ((BitVec.ofInt k.bits x &&& ~~~BitVec.ofInt k.bits y).toNat)
def TK.isBool : TK → Bool
  | .bool => true
  | _ => false
def binD (tk : TK) (op : BinOp) (x y : D) : R D :=
  match op, x, y with
  | .and, .int i a, .int j b => if i = j then .ok (.int i (bitI .and i a b)) else .no
  | .or, .int i a, .int j b => if i = j then .ok (.int i (bitI .or i a b)) else .no
  | .xor, .int i a, .int j b => if i = j then .ok (.int i (bitI .xor i a b)) else .no
  | .andNot, .int i a, .int j b => if i = j then .ok (.int i (bitI .andNot i a b)) else .no
  | .shl, .int i a, .int _ b => .need (0 ≤ b) (.ok (.int i (i.wrap (a * 2 ^ min b.toNat i.bits))))
  | .shr, .int i a, .int _ b => .need (0 ≤ b) (.ok (.int i (a.fdiv (2 ^ min b.toNat i.bits))))
  | .eql, .bool a, .bool b => if tk.isBool then .ok (.bool (a == b)) else .no
  | .neq, .bool a, .bool b => if tk.isBool then .ok (.bool (!(a == b))) else .no
  | .add, .int i a, .int j b => if i = j then .ok (.int i (i.wrap (a + b))) else .no
  | .sub, .int i a, .int j b => if i = j then .ok (.int i (i.wrap (a - b))) else .no
  | .mul, .int i a, .int j b => if i = j then .ok (.int i (i.wrap (a * b))) else .no
  | .quo, .int i a, .int j b => if i = j then .need (b ≠ 0) (.ok (.int i (i.wrap (a.tdiv b)))) else .no
  | .rem, .int i a, .int j b => if i = j then .need (b ≠ 0) (.ok (.int i (a.tmod b))) else .no
  | .eql, .int i a, .int j b => if i = j then .ok (.bool (a == b)) else .no
  | .neq, .int i a, .int j b => if i = j then .ok (.bool (a != b)) else .no
  | .lss, .int i a, .int j b => if i = j then .ok (.bool (decide (a < b))) else .no
  | .leq, .int i a, .int j b => if i = j then .ok (.bool (decide (a ≤ b))) else .no
  | .gtr, .int i a, .int j b => if i = j then .ok (.bool (decide (b < a))) else .no
  | .geq, .int i a, .int j b => if i = j then .ok (.bool (decide (b ≤ a))) else .no
  | .add, .str a, .str b => .need (a.length + b.length ≤ 140737488355328) (.ok (.str (a ++ b)))
  | .eql, .str a, .str b => .ok (.bool (a == b))
  | .neq, .str a, .str b => .ok (.bool (!(a == b)))
  | .lss, .str a, .str b => .ok (.bool (Op.bytesLess a b))
  | .leq, .str a, .str b => .ok (.bool (Op.bytesLess a b || a == b))
  | .gtr, .str a, .str b => .ok (.bool (!(Op.bytesLess a b || a == b)))
  | .geq, .str a, .str b => .ok (.bool (!(Op.bytesLess a b)))
  | _, _, _ => .no
def dR (r : R D) : R AV := r.bind fun d => .ok (.d d)
def binR (tk : TK) (op : BinOp) (x y : AV) : R AV :=
  match x, y with
  | .d a, .d b => dR (binD tk op a b)
  | _, _ => .no

def unR (op : UnOp) (x : AV) : R AV :=
  match op, x with
  | .not, .d (.bool b) => .ok (.d (.bool (!b)))
  | .neg, .d (.int i a) => .ok (.d (.int i (i.wrap (0 - a))))
  | _, _ => .no

def pickR (c x y : AV) : R AV :=
  match c with
  | .d (.bool true) => .ok x
  | .d (.bool false) => .ok y
  | _ => .no

def lenR (i : TI) (hp : Name → Option Ob) (x : AV) : R AV :=
  match i.k, x with
  | .str, .d (.str l) => .ok (.d (.int .i64 l.length))
  | .slice _, .d (.sl _ xs) => .ok (.d (.int .i64 xs.length))
  | .slice _, .d .nils => .ok (.d (.int .i64 0))
  | .slice _, .vw p _ l => match hp p with
    | some (.arr _ _) => .ok (.d (.int .i64 l))
    | _ => .no
  | .map _ _, .mp p => match hp p with
    | some (.map es) => .ok (.d (.int .i64 es.length))
    | _ => .no
  | _, _ => .no

def maxR (x y : AV) : R AV :=
  match x, y with
  | .d (.int i a), .d (.int j b) => if i = j then .ok (.d (.int i (if b > a then b else a))) else .no
  | _, _ => .no
def minR (x y : AV) : R AV :=
  match x, y with
  | .d (.int i a), .d (.int j b) => if i = j then .ok (.d (.int i (if b < a then b else a))) else .no
  | _, _ => .no

def convR (a b : TI) (x : AV) : R AV :=
  match a.k, b.k, x with
  | .int _, .int j, .d (.int _ n) => .ok (.d (.int j (j.wrap n)))
  | .str, .str, .d (.str l) => .ok (.d (.str l))
  | _, _, _ => .no

def extractR (x : AV) (i : Nat) : R AV :=
  match x with
  | .tup vs => R.ofO vs[i]?
  | _ => .no

/-- A struct built of its fields: the zero value's cells, each field's cells laid over them. -/
def buildG (tf : Nat → TI) (fs : List (Nat × Nat)) : List AV → List (Nat × AV) → Option (List AV)
  | cs, [] => some cs
  | cs, q :: r =>
    match fs[q.1]?, cellsA q.2 with
    | some (o, t), some vs => if vs.length = (tf t).sz ∧ o + vs.length ≤ cs.length then buildG tf fs (splice cs o vs) r else none
    | _, _ => none
def allGood (tf : Nat → TI) : List (Nat × Nat) → Bool
  | [] => true
  | q :: r => !(tf q.2).k.isBad && allGood tf r
def buildR (tf : Nat → TI) (i : TI) (parts : List (Nat × AV)) : R AV :=
  match i.k, i.z with
  | .struct fs, some zs => if allGood tf fs then R.ofO ((buildG tf fs (zs.map .d) parts).map mkAgg) else .no
  | _, _ => .no

def partsD : Nat → List (Nat × AV) → Option (List D)
  | _, [] => some []
  | i, q :: r => match q.2 with
    | .d x => if q.1 = i then (partsD (i + 1) r).map (x :: ·) else none
    | _ => none

/-- A temporary takes a value. -/
def putR (n : Nat) (d : Option Nat) (s : St) (x : AV) : R St :=
  match d with
  | some t => if t < n then .ok (s.put t x) else .no
  | none => .ok s
/-- A new object: its name is its temporary's. -/
def newR (n : Nat) (d : Option Nat) (s : St) (ob : Ob) (x : Name → AV) : R St :=
  match d with
  | some t => if t < n ∧ t ∉ s.used then .ok ((s.add t ob).put t (x [t])) else .no
  | none => .no

def listOf (w : W) (hp : Name → Option Ob) : AV → Option (List D)
  | .vw p o l => match hp p with
    | some (.arr w' ys) => if w' = w then some ((ys.drop o).take l) else none
    | _ => none
  | .d (.sl w' ys) => if w' = w then some ys else none
  | .d .nils => some []
  | _ => none
def TI.zOk (i : TI) : Bool := match i.z with
  | some z => z.length == i.sz
  | none => false
def TI.by1 (i : TI) : Nat := if i.by' = 0 then 1 else i.by'
def appendR (n : Nat) (e : TI) (d : Option Nat) (s : St) (x y : AV) : R St :=
  match listOf e.w s.hp y, x with
  | some ys, .d .nils => .need (ys.length * e.by1 ≤ 140737488355328) (newR n d s (.arr e.w ys) (.vw · 0 ys.length))
  | some ys, .vw p o l =>
    match s.hp p with
    | some (.arr w xs) => if w = e.w then .need ((l + ys.length) * e.by1 ≤ 140737488355328) (newR n d (s.set p none) (.arr w ((xs.drop o).take l ++ ys)) (.vw · 0 (l + ys.length))) else .no
    | _ => .no
  | _, _ => .no

def makeFuncR (fn : Fn) (first : List Operand) (caps : List AV) : R AV :=
  match fn, first with
  | .func f, [] => .ok (.clo f caps)
  | _, _ => .no

def makeSliceR (n : Nat) (i : TI) (tf : Nat → TI) (d : Option Nat) (s : St) (l c : AV) : R St :=
  match i.k, l, c with
  | .slice e, .d (.int .i64 a), .d (.int .i64 b) =>
    match (tf e).zero with
    | some z => if ((tf e).isW (tf e).w && okWb (tf e).w z) = false then .no else .need (0 ≤ a ∧ a ≤ b ∧ b * (tf e).by' ≤ 140737488355328 ∧ b ≤ 140737488355328) (newR n d s (.arr (tf e).w (List.replicate a.toNat z)) (.vw · 0 a.toNat))
    | none => .no
  | _, _, _ => .no

def builtinR (tf : Nat → TI) (n : Nat) (b : Builtin) (args : List AV) (ts : List Nat) (d : Option Nat) (s : St) : R St :=
  match b, args with
  | .len, [x] => match ts with
    | [t] => (lenR (tf t) s.hp x).bind (putR n d s)
    | _ => .no
  | .max, [x, y] => (maxR x y).bind (putR n d s)
  | .min, [x, y] => (minR x y).bind (putR n d s)
  | .append, [x, y] =>
    match ts with
    | [t, t'] => if t ≠ t' then .no else match (tf t).k with
      | .slice e => if (tf e).zOk ∧ (tf e).isW (tf e).w then appendR n (tf e) d s x y else .no
      | _ => .no
    | _ => .no
  | _, _ => .no

def sliceE : TK → Option Nat
  | .slice e => some e
  | _ => none

section
variable (tf : Nat → TI) (n : Nat)

def opR (o : Op) (d : Option Nat) (s : St) : R St :=
  match o with
  | .move x => putR n d s (ev s x)
  | .assign x => putR n d s (ev s x)
  | .pick c a b => (pickR (ev s c) (ev s a) (ev s b)).bind (putR n d s)
  | .alloc e => match (tf e).z with
    | some cs => newR n d s (.box (cs.map .d)) (.at · 0)
    | none => .no
  | .box _ x => match cellsA (ev s x) with
    | some cs => newR n d s (.box cs) (.at · 0)
    | none => .no
  | .build t parts => (buildR tf (tf t) (parts.toList.map fun q => (q.1, ev s q.2))).bind (putR n d s)
  | .buildSlice t l parts =>
    match sliceE (tf t).k, partsD 0 (parts.toList.map fun q => (q.1, ev s q.2)) with
    | some e, some xs => if xs.length = l ∧ (tf e).z.isSome ∧ (tf e).isW (tf e).w ∧ xs.all (okWb (tf e).w) ∧ l * (tf e).sz ≤ 16777216 then newR n d s (.arr (tf e).w xs) (.vw · 0 l) else .no
    | _, _ => .no
  | .load t x => (loadR (tf t) s.hp (ev s x)).bind (putR n d s)
  | .store t x v => (storeR (tf t) s (ev s x) (ev s v)).bind fun s' => putR n d s' .un
  | .fieldAddr t x f => (fieldAddrR (tf t) tf s.hp (ev s x) f).bind (putR n d s)
  | .field t x f => (fieldR (tf t) tf (ev s x) f).bind (putR n d s)
  | .indexAddr t x j => (indexAddrR (tf t) tf s.hp (ev s x) (ev s j)).bind (putR n d s)
  | .index t x j => (indexR (tf t) (ev s x) (ev s j)).bind (putR n d s)
  | .slice t x lo hi mx => match mx with
    | none => (sliceR (tf t) tf s.hp (ev s x) (lo.map (ev s)) (hi.map (ev s))).bind (putR n d s)
    | some _ => .no
  | .binOp op t x y _ => (binR (tf t).k op (ev s x) (ev s y)).bind (putR n d s)
  | .unOp op _ x => (unR op (ev s x)).bind (putR n d s)
  | .convert a b x => (convR (tf a) (tf b) (ev s x)).bind (putR n d s)
  | .extract x i => (extractR (ev s x) i).bind (putR n d s)
  | .makeFunc fn first caps => (makeFuncR fn first.toList (caps.toList.map (ev s))).bind (putR n d s)
  | .makeSlice t l c => makeSliceR n (tf t) tf d s (ev s l) (ev s c)
  | .call c => match c.callee with
    | .builtin b => builtinR tf n b (c.args.toList.map (ev s)) c.argTypes.toList d s
    | _ => .no
  | _ => .no
end
end Go.Ab
