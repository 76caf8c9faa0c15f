/-
  The generic layer, part 1: data by values ('D'), what a temporary may hold ('AV'), objects by names ('Ob'), and when machine memory stands for them ('Rep', 'VR', 'OR', 'Sim'). It names no program.
-/
import Derived.CallsIn
import Derived.Laws.AppendOwn
import Derived.Laws.Strings
namespace Go.Ab

abbrev Name := List Nat
/-- An element's form: 'none': one cell; 'some n': a struct of n cells. -/
abbrev W := Option Nat
def wd : W → Nat
  | none => 1
  | some n => n

inductive D where
  | int (k : IntKind) (n : Int)
  | bool (b : Bool)
  | str (s : List UInt8)
  | nilp | nils | nilm | nilf | nili
  | sl (w : W) (xs : List D)
  | agg (cs : List D)
  | ptr (d : D)
  | clo (f : Nat) (caps : List D)
  | ifc (t : Nat) (d : D)
  deriving Inhabited

inductive AV where
  | un
  | d (x : D)
  | vw (p : Name) (off len : Nat)
  | at (p : Name) (c : Nat)
  | el (p : Name) (i c : Nat)
  | mp (p : Name)
  | it (p : Name)
  | agg (cs : List AV)
  | tup (vs : List AV)
  | clo (f : Nat) (caps : List AV)
  deriving Inhabited

inductive Ob where
  | arr (w : W) (xs : List D)
  | box (cs : List AV)
  | map (es : List (D × D))
  | siter (s : List UInt8) (pos : Nat)
  | miter (m : Name) (todo : List (D × D))
  deriving Inhabited

def D.cells : D → List D
  | .agg cs => cs
  | d => [d]
def D.scal : D → Bool
  | .agg _ => false
  | _ => true
def okW : W → D → Prop
  | none, d => d.scal = true
  | some n, .agg cs => cs.length = n ∧ ∀ d ∈ cs, d.scal = true
  | some _, _ => False

/-- Where an object lies: block, first cell, how many cells the block has. -/
structure Blk where
  b : Nat
  o : Nat
  z : Nat

section
variable (H : Array Obj) (own : Nat → Prop)

inductive Rep : Value → D → Prop
  | int (k n) : Rep (.int k n) (.int k n)
  | bool (b) : Rep (.bool b) (.bool b)
  | str (l : List UInt8) : Rep (.string ⟨l.toArray⟩) (.str l)
  | nilp : Rep (.pointer none) .nilp
  | nils : Rep (.slice none 0 0) .nils
  | nilm : Rep (.map none) .nilm
  | nilf : Rep .nilFunc .nilf
  | nili : Rep .nilIface .nili
  | agg (vs : Array Value) (cs : List D) (hs : vs.size = cs.length) (hc : ∀ d ∈ cs, d.scal = true)
      (h : ∀ i d, cs[i]? = some d → Rep (vs.getD i undef) d) : Rep (.agg vs) (.agg cs)
  | sl0 (a cap w) : Rep (.slice a 0 cap) (.sl w [])
  | sl (b o cap : Nat) (c : Array Value) (e : TypeId) (fz : Nat × Nat) (w : W) (xs : List D) (hb : H[b]? = some (.cells c e fz)) (hn : ¬ own b)
      (hcap : xs.length ≤ cap) (hz : o + xs.length * wd w ≤ c.size) (hw : ∀ x ∈ xs, okW w x)
      (h : ∀ i x j d, xs[i]? = some x → x.cells[j]? = some d → Rep (c.getD (o + i * wd w + j) undef) d) :
      Rep (.slice (some ⟨b, o, none⟩) xs.length cap) (.sl w xs)
  | ptr (b o : Nat) (c : Array Value) (e : TypeId) (fz : Nat × Nat) (d : D) (hb : H[b]? = some (.cells c e fz)) (hn : ¬ own b)
      (hz : o + d.cells.length ≤ c.size) (hsc : ∀ x ∈ d.cells, x.scal = true) (h : ∀ j x, d.cells[j]? = some x → Rep (c.getD (o + j) undef) x) :
      Rep (.pointer (some ⟨b, o, none⟩)) (.ptr d)
  | clo (f : Nat) (vs : Array Value) (cs : List D) (hs : vs.size = cs.length) (h : ∀ i d, cs[i]? = some d → Rep (vs.getD i undef) d) :
      Rep (.func (.func f) #[] vs) (.clo f cs)
  | ifc (t v d) (h : Rep v d) : Rep (.iface t v) (.ifc t d)

variable (used : List Nat) (hp : Name → Option Ob) (β : Name → Option Blk)

def nm (used : List Nat) (p : Name) : Prop := ∃ h t, p = h :: t ∧ h ∈ used

inductive VR : Value → AV → Prop
  | un (v) : VR v .un
  | d (v x) (h : Rep H own v x) : VR v (.d x)
  | vw (v p off len) (hu : nm used p) (h1 : v.oneCell' = true)
      (h : ∀ w xs, hp p = some (.arr w xs) → off + len ≤ xs.length ∧ ∃ a cap, v = .slice a len cap ∧
        (len = 0 ∧ cap = 0 ∨ ∃ k, β p = some k ∧ a = some ⟨k.b, k.o + off * wd w, none⟩ ∧ len ≤ cap ∧ k.o + (off + cap) * wd w ≤ k.z)) : VR v (.vw p off len)
  | at (v p c) (hu : nm used p) (h1 : v.oneCell' = true) (h : ∀ cs, hp p = some (.box cs) → ∃ k, β p = some k ∧ k.o = 0 ∧ v = .pointer (some ⟨k.b, c, none⟩)) : VR v (.at p c)
  | el (v p i c) (hu : nm used p) (h1 : v.oneCell' = true) (h : ∀ w xs, hp p = some (.arr w xs) → i < xs.length ∧ ∃ k, β p = some k ∧ v = .pointer (some ⟨k.b, k.o + i * wd w + c, none⟩)) : VR v (.el p i c)
  | mp (v p) (hu : nm used p) (h1 : v.oneCell' = true) (h : ∀ es, hp p = some (.map es) → ∃ k, β p = some k ∧ v = .map (some k.b)) : VR v (.mp p)
  | its (v p) (hu : nm used p) (h1 : v.oneCell' = true) (h : ∀ s i, hp p = some (.siter s i) → ∃ k, β p = some k ∧ v = .pointer (some ⟨k.b, 0, none⟩))
      (h' : ∀ s i, hp p = some (.miter s i) → ∃ k, β p = some k ∧ v = .pointer (some ⟨k.b, 0, none⟩)) : VR v (.it p)
  | agg (vs : Array Value) (cs : List AV) (hs : vs.size = cs.length) (hc : ∀ v ∈ vs, v.oneCell' = true) (h : ∀ i x, cs[i]? = some x → VR (vs.getD i undef) x) : VR (.agg vs) (.agg cs)
  | tup (vs : Array Value) (cs : List AV) (hs : vs.size = cs.length) (h : ∀ i x, cs[i]? = some x → VR (vs.getD i undef) x) : VR (.tuple vs) (.tup cs)
  | clo (f : Nat) (vs : Array Value) (cs : List AV) (hs : vs.size = cs.length) (h : ∀ i x, cs[i]? = some x → VR (vs.getD i undef) x) : VR (.func (.func f) #[] vs) (.clo f cs)

/-- When an object lies there. -/
def OR (p : Name) : Ob → Prop
  | .arr w xs => (β p = none ∧ xs = []) ∨ ∃ k c e, β p = some k ∧ H[k.b]? = some (.cells c e (0, 0)) ∧ c.size = k.z ∧ k.o + xs.length * wd w ≤ k.z ∧ (∀ x ∈ xs, okW w x) ∧
      ∀ i x j d, xs[i]? = some x → x.cells[j]? = some d → Rep H own (c.getD (k.o + i * wd w + j) undef) d
  | .box cs => ∃ k c e, β p = some k ∧ k.o = 0 ∧ H[k.b]? = some (.cells c e (0, 0)) ∧ c.size = k.z ∧ c.size = cs.length ∧ (∀ v ∈ c, v.oneCell' = true) ∧
      ∀ j x, cs[j]? = some x → VR H own used hp β (c.getD j undef) x
  | .map es => ∃ k ents clock, β p = some k ∧ H[k.b]? = some (.map ents clock) ∧ ents.size = es.length ∧
      ∀ (i : Nat) (x : D × D), es[i]? = some x → ∃ en : MapEntry, ents[i]? = some en ∧ Rep H own en.key x.1 ∧ Rep H own en.val x.2
  | .siter s pos => ∃ k, β p = some k ∧ H[k.b]? = some (.stringIter ⟨s.toArray⟩ pos)
  | .miter _ _ => False
end

/-- The abstract state: what the temporaries hold; the objects by their names; the heads of all names that may be held. -/
structure St where
  fr : Nat → AV
  hp : Name → Option Ob
  used : List Nat

/-- What is owned: foreign blocks, and those of the objects. -/
def St.own (s : St) (A : Nat → Prop) (β : Name → Option Blk) (b : Nat) : Prop := A b ∨ ∃ p k, s.hp p ≠ none ∧ β p = some k ∧ k.b = b

/-- Of a world, what lies outside of memory. -/
def wio (w : World) : Os × Array (Nat × ByteArray) := (w.os, w.output)
/-- The call began in a memory H0; of its blocks O0 may be written. A: blocks that no one looks at. U0, β0: the names that were handed in, and where their objects lie. -/
structure Base where
  n : Nat
  io : Os × Array (Nat × ByteArray)
  G : List (Nat × Obj)
  H0 : Array Obj
  O0 : Nat → Prop
  A : Nat → Prop
  U0 : List Nat
  β0 : Name → Option Blk
  hA : ∀ b, A b → b < H0.size
  hG : ∀ q ∈ G, H0[q.1]? = some q.2 ∧ ¬ O0 q.1

structure Sim (B : Base) (β : Name → Option Blk) (s : St) (tm : Array Value) (w : World) : Prop where
  tms : tm.size = B.n
  io : wio w = B.io
  size : B.H0.size ≤ w.heap.size
  frame : ∀ b, b < B.H0.size → ¬ B.O0 b → w.heap[b]? = B.H0[b]?
  slots : ∀ t, VR w.heap (s.own B.A β) s.used s.hp β (tm.getD t undef) (s.fr t)
  objs : ∀ p o, s.hp p = some o → nm s.used p ∧ OR w.heap (s.own B.A β) s.used s.hp β p o
  blocks : ∀ p k, s.hp p ≠ none → β p = some k → k.b < w.heap.size ∧ ¬ B.A k.b ∧ (B.H0.size ≤ k.b ∨ B.O0 k.b)
  inj : ∀ p q k l, s.hp p ≠ none → s.hp q ≠ none → β p = some k → β q = some l → k.b = l.b → p = q
  us : ∀ x ∈ B.U0, x ∈ s.used
  stay : ∀ p, nm B.U0 p → β p = B.β0 p

end Go.Ab
