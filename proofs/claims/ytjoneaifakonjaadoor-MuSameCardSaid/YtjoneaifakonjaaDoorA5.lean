/-
  The generic layer, part 1: data by values ('D'), what a temporary may hold ('AV'), objects by names ('Ob'), and when machine memory stands for them ('Rep', 'VR', 'OR', 'Sim'). It names no program. (with the parts that follow it)
-/
import Derived.CallsIn
import Derived.Laws.AppendOwn
import Derived.Laws.Strings
import Derived.Laws.Cells
import Derived.Laws.Rows
import Derived.Laws.Tables
import Derived.Laws.IdiomCopy
import Derived.Laws.Entries
import Derived.Attr
set_option linter.all false
/-! ### The generic layer, part 1: data by values ('D'), what a temporary may hold ('AV'), objects by names ('Ob'), and when machine memory stands for them ('Rep', 'VR', 'OR', 'Sim'). It names no program. -/
namespace Go.Ab

abbrev Name := List Nat
/-- An element's form: 'none': one cell; 'some n': a struct of n cells. -/
abbrev W := Option Nat
def wd : W → Nat
  | none => 1
  | some n => n

inductive D where
  | int (k : IntKind) (n : Int)
  | bool (b : Bool)
  | str (s : List UInt8)
  | nilp | nils | nilm | nilf | nili
  | sl (w : W) (xs : List D)
  | agg (cs : List D)
  | ptr (d : D)
  | clo (f : Nat) (caps : List D)
  | ifc (t : Nat) (d : D)
  | mpd (clk : Nat) (bs : List Nat) (ks vs : List D)
  | yl (l : Nat)
  deriving Inhabited

inductive AV where
  | un
  | d (x : D)
  | vw (p : Name) (off len : Nat)
  | bx (p : Name) (c : Nat)
  | el (p : Name) (i c : Nat)
  | mp (p : Name)
  | it (p : Name)
  | agg (cs : List AV)
  | tup (vs : List AV)
  | clo (f : Nat) (caps : List AV)
  deriving Inhabited

inductive Ob where
  | arr (w : W) (xs : List D)
  | box (cs : List AV)
  | map (es : List (D × D))
  | siter (s : List UInt8) (pos : Nat)
  | miter (m : D) (cur : Option (D × D)) (todo : List (D × D))
  deriving Inhabited

def D.cells : D → List D
  | .agg cs => cs
  | d => [d]
def D.scal : D → Bool
  | .agg _ => false
  | _ => true
def okW : W → D → Prop
  | none, d => d.scal = true
  | some n, .agg cs => cs.length = n ∧ ∀ d ∈ cs, d.scal = true
  | some _, _ => False

/-- Where an object lies: block, first cell, how many cells the block has. -/
structure Blk where
  b : Nat
  o : Nat
  z : Nat

section
variable (H : Array Obj) (own : Nat → Prop)

inductive Rep : Value → D → Prop
  | int (k n) : Rep (.int k n) (.int k n)
  | bool (b) : Rep (.bool b) (.bool b)
  | str (l : List UInt8) : Rep (.string ⟨l.toArray⟩) (.str l)
  | nilp : Rep (.pointer none) .nilp
  | nils : Rep (.slice none 0 0) .nils
  | nilm : Rep (.map none) .nilm
  | nilf : Rep .nilFunc .nilf
  | nili : Rep .nilIface .nili
  | yl (l : Nat) : Rep (.func (.yield l) #[] #[]) (.yl l)
  | agg (vs : Array Value) (cs : List D) (hs : vs.size = cs.length) (hc : ∀ d ∈ cs, d.scal = true)
      (h : ∀ i d, cs[i]? = some d → Rep (vs.getD i undef) d) : Rep (.agg vs) (.agg cs)
  | sl0 (a cap w) : Rep (.slice a 0 cap) (.sl w [])
  | sl (b o cap : Nat) (c : Array Value) (e : TypeId) (fz : Nat × Nat) (w : W) (xs : List D) (hb : H[b]? = some (.cells c e fz)) (hn : ¬ own b)
      (hcap : xs.length ≤ cap) (hz : o + xs.length * wd w ≤ c.size) (hw : ∀ x ∈ xs, okW w x)
      (h : ∀ i x j d, xs[i]? = some x → x.cells[j]? = some d → Rep (c.getD (o + i * wd w + j) undef) d) :
      Rep (.slice (some ⟨b, o, none⟩) xs.length cap) (.sl w xs)
  | ptr (b o : Nat) (c : Array Value) (e : TypeId) (fz : Nat × Nat) (d : D) (hb : H[b]? = some (.cells c e fz)) (hn : ¬ own b)
      (hz : o + d.cells.length ≤ c.size) (hsc : ∀ x ∈ d.cells, x.scal = true) (h : ∀ j x, d.cells[j]? = some x → Rep (c.getD (o + j) undef) x) :
      Rep (.pointer (some ⟨b, o, none⟩)) (.ptr d)
  | clo (f : Nat) (vs : Array Value) (cs : List D) (hs : vs.size = cs.length) (h : ∀ i d, cs[i]? = some d → Rep (vs.getD i undef) d) :
      Rep (.func (.func f) #[] vs) (.clo f cs)
  | ifc (t v d) (h : Rep v d) : Rep (.iface t v) (.ifc t d)
  | mpd (b clk : Nat) (ents : Array MapEntry) (bs : List Nat) (ks vs : List D) (hb : H[b]? = some (.map ents clk)) (hn : ¬ own b) (hs : ents.size = ks.length ∧ ks.length = vs.length) (hbs : ents.toList.map (·.born) = bs)
      (hk : ∀ i d, ks[i]? = some d → Rep (ents.getD i default).key d) (hv : ∀ i d, vs[i]? = some d → Rep (ents.getD i default).val d) : Rep (.map (some b)) (.mpd clk bs ks vs)

variable (used : List Nat) (hp : Name → Option Ob) (β : Name → Option Blk)

def nm (used : List Nat) (p : Name) : Prop := ∃ h t, p = h :: t ∧ h ∈ used

inductive VR : Value → AV → Prop
  | un (v) : VR v .un
  | d (v x) (h : Rep H own v x) : VR v (.d x)
  | vw (v p off len) (hu : nm used p) (h1 : v.oneCell' = true)
      (h : ∀ w xs, hp p = some (.arr w xs) → off + len ≤ xs.length ∧ ∃ a cap, v = .slice a len cap ∧
        (len = 0 ∧ cap = 0 ∨ ∃ k, β p = some k ∧ a = some ⟨k.b, k.o + off * wd w, none⟩ ∧ len ≤ cap ∧ k.o + (off + cap) * wd w ≤ k.z)) : VR v (.vw p off len)
  | bx (v p c) (hu : nm used p) (h1 : v.oneCell' = true) (h : ∀ cs, hp p = some (.box cs) → ∃ k, β p = some k ∧ k.o = 0 ∧ v = .pointer (some ⟨k.b, c, none⟩)) : VR v (.bx p c)
  | el (v p i c) (hu : nm used p) (h1 : v.oneCell' = true) (h : ∀ w xs, hp p = some (.arr w xs) → i < xs.length ∧ ∃ k, β p = some k ∧ v = .pointer (some ⟨k.b, k.o + i * wd w + c, none⟩)) : VR v (.el p i c)
  | mp (v p) (hu : nm used p) (h1 : v.oneCell' = true) (h : ∀ es, hp p = some (.map es) → ∃ k, β p = some k ∧ v = .map (some k.b)) : VR v (.mp p)
  | its (v p) (hu : nm used p) (h1 : v.oneCell' = true) (h : ∀ s i, hp p = some (.siter s i) → ∃ k, β p = some k ∧ v = .pointer (some ⟨k.b, 0, none⟩))
      (h' : ∀ m c i, hp p = some (.miter m c i) → ∃ k, β p = some k ∧ v = .pointer (some ⟨k.b, 0, none⟩)) : VR v (.it p)
  | agg (vs : Array Value) (cs : List AV) (hs : vs.size = cs.length) (hc : ∀ v ∈ vs, v.oneCell' = true) (h : ∀ i x, cs[i]? = some x → VR (vs.getD i undef) x) : VR (.agg vs) (.agg cs)
  | tup (vs : Array Value) (cs : List AV) (hs : vs.size = cs.length) (h : ∀ i x, cs[i]? = some x → VR (vs.getD i undef) x) : VR (.tuple vs) (.tup cs)
  | clo (f : Nat) (vs : Array Value) (cs : List AV) (hs : vs.size = cs.length) (h : ∀ i x, cs[i]? = some x → VR (vs.getD i undef) x) : VR (.func (.func f) #[] vs) (.clo f cs)

/-- A map's stamps. -/
def Borns (ents : Array MapEntry) (clock : Nat) : Prop := (ents.toList.map (·.born)).Nodup ∧ ∀ e ∈ ents.toList, e.born < clock
/-- How far a range over a map is. -/
def MIt (m : D) (since : Nat) (seen : Array Nat) (last : Nat) (cur : Option (D × D)) (todo : List (D × D)) : Prop :=
  ∃ clk bs ks vs, m = .mpd clk bs ks vs ∧ bs.length = ks.length ∧ ks.length = vs.length ∧ bs.Nodup ∧ (∀ x ∈ bs, x < since) ∧ (since ≤ last ∧ since ≤ clk) ∧
    todo = ((bs.zip (ks.zip vs)).filter fun q => !seen.contains q.1).map (·.2) ∧ ∀ x, cur = some x → last = clk ∧ ∃ st, seen.back? = some st ∧ (st, x) ∈ bs.zip (ks.zip vs)
/-- When an object lies there. -/
def OR (p : Name) : Ob → Prop
  | .arr w xs => (β p = none ∧ xs = []) ∨ ∃ k c e, β p = some k ∧ H[k.b]? = some (.cells c e (0, 0)) ∧ c.size = k.z ∧ k.o + xs.length * wd w ≤ k.z ∧ (∀ x ∈ xs, okW w x) ∧
      ∀ i x j d, xs[i]? = some x → x.cells[j]? = some d → Rep H own (c.getD (k.o + i * wd w + j) undef) d
  | .box cs => ∃ k c e, β p = some k ∧ k.o = 0 ∧ H[k.b]? = some (.cells c e (0, 0)) ∧ c.size = k.z ∧ c.size = cs.length ∧ (∀ v ∈ c, v.oneCell' = true) ∧
      ∀ j x, cs[j]? = some x → VR H own used hp β (c.getD j undef) x
  | .map es => ∃ k ents clock, β p = some k ∧ H[k.b]? = some (.map ents clock) ∧ (ents.size = es.length ∧ Borns ents clock) ∧
      ∀ (i : Nat) (x : D × D), es[i]? = some x → ∃ en : MapEntry, ents[i]? = some en ∧ Rep H own en.key x.1 ∧ Rep H own en.val x.2
  | .siter s pos => ∃ k, β p = some k ∧ H[k.b]? = some (.stringIter ⟨s.toArray⟩ pos)
  | .miter m cur todo => ∃ k b since seen last, β p = some k ∧ H[k.b]? = some (.mapIter (some b) since seen last) ∧ Rep H own (.map (some b)) m ∧ MIt m since seen last cur todo
end

/-- The abstract state: what the temporaries hold; the objects by their names; the heads of all names that may be held. -/
structure St where
  fr : Nat → AV
  hp : Name → Option Ob
  used : List Nat

/-- What is owned: foreign blocks, and those of the objects. -/
def St.own (s : St) (A : Nat → Prop) (β : Name → Option Blk) (b : Nat) : Prop := A b ∨ ∃ p k, s.hp p ≠ none ∧ β p = some k ∧ k.b = b

/-- Of a world, what lies outside of memory. -/
def wio (w : World) : Os × Array (Nat × ByteArray) := (w.os, w.output)
/-- The call began in a memory H0; of its blocks O0 may be written. A: blocks that no one looks at. U0, β0: the names that were handed in, and where their objects lie. -/
structure Base where
  n : Nat
  io : Os × Array (Nat × ByteArray)
  G : List (Nat × Obj)
  H0 : Array Obj
  O0 : Nat → Prop
  A : Nat → Prop
  U0 : List Nat
  β0 : Name → Option Blk
  hA : ∀ b, A b → b < H0.size
  hG : ∀ q ∈ G, H0[q.1]? = some q.2 ∧ ¬ O0 q.1

structure Sim (B : Base) (β : Name → Option Blk) (s : St) (tm : Array Value) (w : World) : Prop where
  tms : tm.size = B.n
  io : wio w = B.io
  size : B.H0.size ≤ w.heap.size
  frame : ∀ b, b < B.H0.size → ¬ B.O0 b → w.heap[b]? = B.H0[b]?
  slots : ∀ t, VR w.heap (s.own B.A β) s.used s.hp β (tm.getD t undef) (s.fr t)
  objs : ∀ p o, s.hp p = some o → nm s.used p ∧ OR w.heap (s.own B.A β) s.used s.hp β p o
  blocks : ∀ p k, s.hp p ≠ none → β p = some k → k.b < w.heap.size ∧ ¬ B.A k.b ∧ (B.H0.size ≤ k.b ∨ B.O0 k.b)
  inj : ∀ p q k l, s.hp p ≠ none → s.hp q ≠ none → β p = some k → β q = some l → k.b = l.b → p = q
  us : ∀ x ∈ B.U0, x ∈ s.used
  stay : ∀ p, nm B.U0 p → β p = B.β0 p

end Go.Ab
/-! ### The generic layer, part 2: what stands for a value goes on standing for it when memory turns elsewhere. -/
namespace Go.Ab

theorem lt_of_some {α : Type} {a : Array α} {i : Nat} {x : α} (h : a[i]? = some x) : i < a.size := (Array.getElem?_eq_some_iff.1 h).1

theorem Rep.mono {H H' : Array Obj} {own own' : Nat → Prop} (hH : ∀ b, ¬ own b → b < H.size → H'[b]? = H[b]?) (ho : ∀ b, b < H.size → own' b → own b)
    {v : Value} {d : D} (h : Rep H own v d) : Rep H' own' v d := by
  induction h with
  | int k n => exact .int k n
  | bool b => exact .bool b
  | str l => exact .str l
  | nilp => exact .nilp
  | nils => exact .nils
  | nilm => exact .nilm
  | nilf => exact .nilf
  | nili => exact .nili
  | yl l => exact .yl l
  | agg vs cs hs hc _ ih => exact .agg vs cs hs hc ih
  | sl0 a cap w => exact .sl0 a cap w
  | sl b o cap c e fz w xs hb hn hcap hz hw _ ih => exact .sl b o cap c e fz w xs ((hH b hn (lt_of_some hb)).trans hb) (fun h => hn (ho b (lt_of_some hb) h)) hcap hz hw ih
  | ptr b o c e fz d hb hn hz hsc _ ih => exact .ptr b o c e fz d ((hH b hn (lt_of_some hb)).trans hb) (fun h => hn (ho b (lt_of_some hb) h)) hz hsc ih
  | clo f vs cs hs _ ih => exact .clo f vs cs hs ih
  | ifc t v d _ ih => exact .ifc t v d ih
  | mpd b clk ents bs ks vs hb hn hs hbs _ _ ih1 ih2 => exact .mpd b clk ents bs ks vs ((hH b hn (lt_of_some hb)).trans hb) (fun h => hn (ho b (lt_of_some hb) h)) hs hbs ih1 ih2

theorem Rep.oneCell {H : Array Obj} {own : Nat → Prop} {v : Value} {d : D} (h : Rep H own v d) (hd : d.scal = true) : v.oneCell' = true := by
  cases h <;> first | rfl | simp [D.scal] at hd

/-- An object may turn into one of the same make. -/
def Ob.like : Ob → Ob → Prop
  | .arr w xs, .arr w' xs' => w = w' ∧ xs.length ≤ xs'.length
  | .box _, .box _ => True
  | .map _, .map _ => True
  | .siter _ _, .siter _ _ => True
  | .miter _ _ _, .miter _ _ _ => True
  | _, _ => False
theorem Ob.like_refl (o : Ob) : o.like o := by cases o <;> simp [Ob.like]

def Stays (hp hp' : Name → Option Ob) (β β' : Name → Option Blk) (p : Name) : Prop := ∀ o', hp' p = some o' → ∃ o, hp p = some o ∧ o.like o' ∧ β' p = β p

section
variable {H H' : Array Obj} {own own' : Nat → Prop} {used used' : List Nat} {hp hp' : Name → Option Ob} {β β' : Name → Option Blk}

theorem nm.mono {p : Name} (hu : ∀ x ∈ used, x ∈ used') (h : nm used p) : nm used' p := let ⟨a, t, e, m⟩ := h; ⟨a, t, e, hu a m⟩

theorem VR.mono (hr : ∀ v d, Rep H own v d → Rep H' own' v d) (hu : ∀ x ∈ used, x ∈ used') (hst : ∀ p, nm used p → Stays hp hp' β β' p)
    {v : Value} {x : AV} (h : VR H own used hp β v x) : VR H' own' used' hp' β' v x := by
  induction h with
  | un v => exact .un v
  | d v x h => exact .d v x (hr v x h)
  | vw v p off len hn h1 h =>
    refine .vw v p off len (hn.mono hu) h1 fun w xs hx => ?_
    obtain ⟨o, ho, hl, hb⟩ := hst p hn _ hx
    cases o <;> simp [Ob.like] at hl
    obtain ⟨rfl, hle⟩ := hl
    obtain ⟨h1, a, cap, rfl, h2⟩ := h _ _ ho
    exact ⟨by omega, a, cap, rfl, by rw [hb]; exact h2⟩
  | bx v p c hn h1 h =>
    refine .bx v p c (hn.mono hu) h1 fun cs hx => ?_
    obtain ⟨o, ho, hl, hb⟩ := hst p hn _ hx
    cases o <;> simp [Ob.like] at hl
    rw [hb]; exact h _ ho
  | el v p i c hn h1 h =>
    refine .el v p i c (hn.mono hu) h1 fun w xs hx => ?_
    obtain ⟨o, ho, hl, hb⟩ := hst p hn _ hx
    cases o <;> simp [Ob.like] at hl
    obtain ⟨rfl, hle⟩ := hl
    obtain ⟨h1, h2⟩ := h _ _ ho
    exact ⟨by omega, by rw [hb]; exact h2⟩
  | mp v p hn h1 h =>
    refine .mp v p (hn.mono hu) h1 fun es hx => ?_
    obtain ⟨o, ho, hl, hb⟩ := hst p hn _ hx
    cases o <;> simp [Ob.like] at hl
    rw [hb]; exact h _ ho
  | its v p hn h1 h h' =>
    refine .its v p (hn.mono hu) h1 (fun s i hx => ?_) (fun m c i hx => ?_)
    · obtain ⟨o, ho, hl, hb⟩ := hst p hn _ hx
      cases o <;> simp [Ob.like] at hl
      rw [hb]; exact h _ _ ho
    · obtain ⟨o, ho, hl, hb⟩ := hst p hn _ hx
      cases o <;> simp [Ob.like] at hl
      rw [hb]; exact h' _ _ _ ho
  | agg vs cs hs hc _ ih => exact .agg vs cs hs hc ih
  | tup vs cs hs _ ih => exact .tup vs cs hs ih
  | clo f vs cs hs _ ih => exact .clo f vs cs hs ih

theorem OR.mono (hr : ∀ v d, Rep H own v d → Rep H' own' v d) (hu : ∀ x ∈ used, x ∈ used') (hst : ∀ p, nm used p → Stays hp hp' β β' p)
    {p : Name} {o : Ob} (hb : β' p = β p) (hH : ∀ k, β p = some k → H'[k.b]? = H[k.b]?) (h : OR H own used hp β p o) : OR H' own' used' hp' β' p o := by
  cases o with
  | arr w xs =>
    rcases h with ⟨h1, h2⟩ | ⟨k, c, e, hk, hc, hz, hl, hw, h⟩
    · exact .inl ⟨hb.trans h1, h2⟩
    · exact .inr ⟨k, c, e, hb.trans hk, (hH k hk).trans hc, hz, hl, hw, fun i x j d hi hj => hr _ _ (h i x j d hi hj)⟩
  | box cs =>
    obtain ⟨k, c, e, hk, ho, hc, hz, hl, h1, h⟩ := h
    exact ⟨k, c, e, hb.trans hk, ho, (hH k hk).trans hc, hz, hl, h1, fun j x hj => (h j x hj).mono hr hu hst⟩
  | map es =>
    obtain ⟨k, ents, clock, hk, hc, hz, h⟩ := h
    refine ⟨k, ents, clock, hb.trans hk, (hH k hk).trans hc, hz, fun i x hi => ?_⟩
    obtain ⟨en, h1, h2, h3⟩ := h i x hi
    exact ⟨en, h1, hr _ _ h2, hr _ _ h3⟩
  | siter s pos =>
    obtain ⟨k, hk, hc⟩ := h
    exact ⟨k, hb.trans hk, (hH k hk).trans hc⟩
  | miter _ _ _ =>
    obtain ⟨k, b, since, seen, last, hk, hc, hm, hi⟩ := h
    exact ⟨k, b, since, seen, last, hb.trans hk, (hH k hk).trans hc, hr _ _ hm, hi⟩
end

/-! ### The state's turns -/
def updN {α : Type} (f : Nat → α) (i : Nat) (v : α) : Nat → α := fun j => if j = i then v else f j
def updP {α : Type} (f : Name → α) (i : Name) (v : α) : Name → α := fun j => if j = i then v else f j
def St.put (s : St) (t : Nat) (v : AV) : St := { s with fr := updN s.fr t v }
def St.set (s : St) (p : Name) (o : Option Ob) : St := { s with hp := updP s.hp p o }
def St.add (s : St) (t : Nat) (o : Ob) : St := { s with hp := updP s.hp [t] (some o), used := t :: s.used }

section
variable {B : Base} {β : Name → Option Blk} {s : St} {tm : Array Value} {w : World}

theorem Sim.put (h : Sim B β s tm w) {t : Nat} (ht : t < B.n) {v : Value} {x : AV} (hv : VR w.heap (s.own B.A β) s.used s.hp β v x) :
    Sim B β (s.put t x) (tm.setIfInBounds t v) w := by
  refine { h with tms := by simpa using h.tms, slots := fun i => ?_ }
  show VR w.heap (s.own B.A β) s.used s.hp β _ (updN s.fr t x i)
  unfold updN
  by_cases hi : i = t
  · subst hi
    rw [if_pos rfl]
    have : i < tm.size := by rw [h.tms]; exact ht
    simpa [Array.getD_eq_getD_getElem?, this] using hv
  · rw [if_neg hi]
    have := h.slots i
    rw [show (tm.setIfInBounds t v).getD i undef = tm.getD i undef from by simp [Array.getD_eq_getD_getElem?, Ne.symm hi]]
    exact this

/-- Where only what is counted turns (the tape's count), all stands. -/
theorem Sim.heap_eq (h : Sim B β s tm w) {w' : World} (e : w'.heap = w.heap) (e2 : wio w' = wio w) : Sim B β s tm w' :=
  { tms := h.tms, io := e2.trans h.io, size := by rw [e]; exact h.size, frame := by rw [e]; exact h.frame, slots := by rw [e]; exact h.slots, objs := by rw [e]; exact h.objs, blocks := by rw [e]; exact h.blocks, inj := h.inj, us := h.us, stay := h.stay }

theorem Sim.own_lt (h : Sim B β s tm w) {b : Nat} (hb : s.own B.A β b) : b < w.heap.size := by
  rcases hb with hb | ⟨p, k, hp, hk, rfl⟩
  · exact Nat.lt_of_lt_of_le (B.hA b hb) h.size
  · exact (h.blocks p k hp hk).1

/-- A new block with a new object in it. -/
theorem Sim.alloc (h : Sim B β s tm w) {t : Nat} (ht : t ∉ s.used) (o : Obj) (ob : Ob) (z : Nat)
    (hO : ∀ β' : Name → Option Blk, β' [t] = some ⟨w.heap.size, 0, z⟩ → (∀ v x, VR w.heap (s.own B.A β) s.used s.hp β v x → VR (w.alloc o).heap ((s.add t ob).own B.A β') (t :: s.used) (s.add t ob).hp β' v x) →
      OR (w.alloc o).heap ((s.add t ob).own B.A β') (t :: s.used) (s.add t ob).hp β' [t] ob) :
    Sim B (updP β [t] (some ⟨w.heap.size, 0, z⟩)) (s.add t ob) tm (w.alloc o) ∧
      ∀ v x, VR w.heap (s.own B.A β) s.used s.hp β v x → VR (w.alloc o).heap ((s.add t ob).own B.A (updP β [t] (some ⟨w.heap.size, 0, z⟩))) (t :: s.used) (s.add t ob).hp (updP β [t] (some ⟨w.heap.size, 0, z⟩)) v x := by
  obtain ⟨β', hβ'⟩ : ∃ β', updP β [t] (some ⟨w.heap.size, 0, z⟩) = β' := ⟨_, rfl⟩
  have hnew : β' [t] = some ⟨w.heap.size, 0, z⟩ := by rw [← hβ']; simp [updP]
  have hold : ∀ p, p ≠ [t] → β' p = β p := fun p hp => by rw [← hβ']; simp [updP, hp]
  have hhp : ∀ p, p ≠ [t] → (s.add t ob).hp p = s.hp p := fun p hp => by simp [St.add, updP, hp]
  have hnm : ∀ p, nm s.used p → p ≠ [t] := by
    rintro p ⟨a, l, rfl, ha⟩ e
    simp at e
    exact ht (e.1 ▸ ha)
  have hown : ∀ b, b < w.heap.size → (s.add t ob).own B.A β' b → s.own B.A β b := by
    rintro b hb (hA | ⟨p, k, hp, hk, rfl⟩)
    · exact .inl hA
    · by_cases e : p = [t]
      · subst e
        rw [hnew] at hk; cases hk
        exact absurd hb (Nat.lt_irrefl _)
      · rw [hold p e] at hk; rw [hhp p e] at hp
        exact .inr ⟨p, k, hp, hk, rfl⟩
  have hr : ∀ v d, Rep w.heap (s.own B.A β) v d → Rep (w.alloc o).heap ((s.add t ob).own B.A β') v d :=
    fun v d hd => hd.mono (fun b _ hb => heap_alloc_old w o b hb) hown
  have hst : ∀ p, nm s.used p → Stays s.hp (s.add t ob).hp β β' p := fun p hp o' ho' =>
    ⟨o', by rwa [hhp p (hnm p hp)] at ho', Ob.like_refl _, hold p (hnm p hp)⟩
  have hv : ∀ v x, VR w.heap (s.own B.A β) s.used s.hp β v x → VR (w.alloc o).heap ((s.add t ob).own B.A β') (t :: s.used) (s.add t ob).hp β' v x :=
    fun v x hx => hx.mono hr (fun y hy => List.mem_cons_of_mem _ hy) hst
  rw [hβ']
  refine ⟨{ tms := h.tms, io := h.io, size := by simp; exact Nat.le_succ_of_le h.size, frame := ?_, slots := fun i => hv _ _ (h.slots i), objs := ?_, blocks := ?_, inj := ?_, us := fun x hx => List.mem_cons_of_mem _ (h.us x hx),
            stay := fun p hp => (hold p (hnm p (hp.mono h.us))).trans (h.stay p hp) }, hv⟩
  · intro b hb hn
    rw [heap_alloc_old w o b (Nat.lt_of_lt_of_le hb h.size)]
    exact h.frame b hb hn
  · intro p o' ho'
    by_cases e : p = [t]
    · subst e
      have : o' = ob := by simpa [St.add, updP] using ho'.symm
      subst this
      exact ⟨⟨t, [], rfl, List.mem_cons_self⟩, hO β' hnew hv⟩
    · rw [hhp p e] at ho'
      obtain ⟨h1, h2⟩ := h.objs p o' ho'
      refine ⟨h1.mono fun y hy => List.mem_cons_of_mem _ hy, h2.mono hr (fun y hy => List.mem_cons_of_mem _ hy) hst (hold p e) fun k hk => ?_⟩
      exact heap_alloc_old w o k.b (h.blocks p k (by rw [ho']; simp) hk).1
  · intro p k hp hk
    by_cases e : p = [t]
    · subst e
      rw [hnew] at hk; cases hk
      refine ⟨by simp, fun hA => absurd (Nat.lt_of_lt_of_le (B.hA _ hA) h.size) (Nat.lt_irrefl _), .inl h.size⟩
    · rw [hold p e] at hk; rw [hhp p e] at hp
      obtain ⟨h1, h2⟩ := h.blocks p k hp hk
      exact ⟨by simp; omega, h2⟩
  · intro p q k l hp hq hk hl e
    by_cases ep : p = [t] <;> by_cases eq : q = [t]
    · rw [ep, eq]
    · subst ep
      rw [hnew] at hk; cases hk
      rw [hold q eq] at hl; rw [hhp q eq] at hq
      have := (h.blocks q l hq hl).1
      simp at e; omega
    · subst eq
      rw [hnew] at hl; cases hl
      rw [hold p ep] at hk; rw [hhp p ep] at hp
      have := (h.blocks p k hp hk).1
      simp at e; omega
    · rw [hold p ep] at hk; rw [hhp p ep] at hp; rw [hold q eq] at hl; rw [hhp q eq] at hq
      exact h.inj p q k l hp hq hk hl e

/-- An object's block turns: the object turns into one of its make. -/
theorem Sim.modify (h : Sim B β s tm w) {p : Name} {ob ob' : Ob} (hp : s.hp p = some ob) (hl : ob.like ob') {w' : World} (hio : wio w' = wio w) (hsz : w'.heap.size = w.heap.size)
    (hw : ∀ b, (∀ k, β p = some k → b ≠ k.b) → w'.heap[b]? = w.heap[b]?)
    (hO : (∀ v x, VR w.heap (s.own B.A β) s.used s.hp β v x → VR w'.heap ((s.set p (some ob')).own B.A β) s.used (s.set p (some ob')).hp β v x) →
      (∀ v d, Rep w.heap (s.own B.A β) v d → Rep w'.heap ((s.set p (some ob')).own B.A β) v d) →
      OR w'.heap ((s.set p (some ob')).own B.A β) s.used (s.set p (some ob')).hp β p ob') :
    Sim B β (s.set p (some ob')) tm w' ∧
      (∀ v x, VR w.heap (s.own B.A β) s.used s.hp β v x → VR w'.heap ((s.set p (some ob')).own B.A β) s.used (s.set p (some ob')).hp β v x) := by
  have hne : ∀ q, (s.set p (some ob')).hp q ≠ none ↔ s.hp q ≠ none := by
    intro q
    by_cases e : q = p
    · subst e; simp [St.set, updP, hp]
    · simp [St.set, updP, e]
  have hown : (s.set p (some ob')).own B.A β = s.own B.A β := by
    funext b
    refine propext (or_congr_right ⟨?_, ?_⟩)
    · rintro ⟨q, k, hq, hk, e⟩; exact ⟨q, k, (hne q).1 hq, hk, e⟩
    · rintro ⟨q, k, hq, hk, e⟩; exact ⟨q, k, (hne q).2 hq, hk, e⟩
  rw [hown] at hO ⊢
  have hmine : ∀ b, ¬ s.own B.A β b → w'.heap[b]? = w.heap[b]? := fun b hb => hw b fun k hk e => hb (.inr ⟨p, k, by rw [hp]; simp, hk, e.symm⟩)
  have hr : ∀ v d, Rep w.heap (s.own B.A β) v d → Rep w'.heap (s.own B.A β) v d := fun v d hd => hd.mono (fun b hb _ => hmine b hb) (fun _ _ h => h)
  have hst : ∀ q, nm s.used q → Stays s.hp (s.set p (some ob')).hp β β q := by
    intro q _ o' ho'
    by_cases e : q = p
    · subst e
      have : o' = ob' := by simpa [St.set, updP] using ho'.symm
      subst this
      exact ⟨ob, hp, hl, rfl⟩
    · exact ⟨o', by simpa [St.set, updP, e] using ho', Ob.like_refl _, rfl⟩
  have hv : ∀ v x, VR w.heap (s.own B.A β) s.used s.hp β v x → VR w'.heap (s.own B.A β) s.used (s.set p (some ob')).hp β v x := fun v x hx => hx.mono hr (fun _ h => h) hst
  refine ⟨{ tms := h.tms, io := hio.trans h.io, size := by rw [hsz]; exact h.size, frame := ?_, slots := ?_, objs := ?_, blocks := ?_, inj := ?_, us := h.us, stay := h.stay }, hv⟩
  · intro b hb hn
    rw [hw b ?_]
    · exact h.frame b hb hn
    · intro k hk e
      obtain ⟨_, _, h3⟩ := h.blocks p k (by rw [hp]; simp) hk
      rcases h3 with h3 | h3
      · omega
      · exact hn (e ▸ h3)
  · intro i
    rw [hown]
    exact hv _ _ (h.slots i)
  · intro q o' ho'
    rw [hown]
    by_cases e : q = p
    · subst e
      have : o' = ob' := by simpa [St.set, updP] using ho'.symm
      subst this
      exact ⟨(h.objs q ob hp).1, hO hv hr⟩
    · have ho : s.hp q = some o' := by simpa [St.set, updP, e] using ho'
      obtain ⟨h1, h2⟩ := h.objs q o' ho
      refine ⟨h1, h2.mono hr (fun _ h => h) hst rfl fun k hk => hw k.b fun l hl' e' => ?_⟩
      exact e (h.inj q p k l (by rw [ho]; simp) (by rw [hp]; simp) hk hl' e')
  · intro q k hq hk
    rw [hsz]
    exact h.blocks q k ((hne q).1 hq) hk
  · intro q q' k l hq hq' hk hl' e
    exact h.inj q q' k l ((hne q).1 hq) ((hne q').1 hq') hk hl' e

/-- An object is forgotten. -/
theorem Sim.drop (h : Sim B β s tm w) (p : Name) : Sim B β (s.set p none) tm w := by
  have hsub : ∀ q o, (s.set p none).hp q = some o → s.hp q = some o := by
    intro q o ho
    by_cases e : q = p
    · subst e; simp [St.set, updP] at ho
    · simpa [St.set, updP, e] using ho
  have hne : ∀ q, (s.set p none).hp q ≠ none → s.hp q ≠ none := by
    intro q hq e
    cases ho : (s.set p none).hp q with
    | none => exact hq ho
    | some o => rw [hsub q o ho] at e; cases e
  have hr : ∀ v d, Rep w.heap (s.own B.A β) v d → Rep w.heap ((s.set p none).own B.A β) v d := fun v d hd => hd.mono (fun _ _ _ => rfl) (by
    rintro b _ (hA | ⟨q, k, hq, hk, e⟩)
    · exact .inl hA
    · exact .inr ⟨q, k, hne q hq, hk, e⟩)
  have hst : ∀ q, nm s.used q → Stays s.hp (s.set p none).hp β β q := fun q _ o' ho' => ⟨o', hsub q o' ho', Ob.like_refl _, rfl⟩
  refine { tms := h.tms, io := h.io, size := h.size, frame := h.frame, slots := fun i => (h.slots i).mono hr (fun _ h => h) hst, objs := ?_, blocks := fun q k hq hk => h.blocks q k (hne q hq) hk,
           inj := fun q q' k l hq hq' hk hl e => h.inj q q' k l (hne q hq) (hne q' hq') hk hl e, us := h.us, stay := h.stay }
  intro q o ho
  obtain ⟨h1, h2⟩ := h.objs q o (hsub q o ho)
  exact ⟨h1, h2.mono hr (fun _ h => h) hst rfl fun _ _ => rfl⟩

/-- A lesser state stands, too: what is not known, and objects that are forgotten. -/
theorem Sim.un (h : Sim B β s tm w) (t : Nat) : Sim B β (s.put t .un) tm w := by
  refine { h with slots := fun i => ?_ }
  show VR w.heap (s.own B.A β) s.used s.hp β _ (updN s.fr t .un i)
  unfold updN
  split
  · exact .un _
  · exact h.slots i
end

end Go.Ab
/-! ### The generic layer, part 3: the abstract steps: what an operation asks of the state that stands, and what it leaves ('opK'); of code ('swp'). -/
namespace Go.Ab

/-! ### Types, as the steps ask of them -/
inductive TK where
  | bad | oth | bool | int (k : IntKind) | str | ptr (e : Nat) | slice (e : Nat) | arr (n e : Nat) | map (k e : Nat) | struct (fs : List (Nat × Nat)) | func | ifc
structure TI where
  k : TK
  sz : Nat
  by' : Nat
  z : Option (List D)
def zd : Value → Option D
  | .int k n => some (.int k n)
  | .bool b => some (.bool b)
  | .string s => some (.str s.data.toList)
  | .pointer none => some .nilp
  | .slice none 0 0 => some .nils
  | .map none => some .nilm
  | .nilFunc => some .nilf
  | .nilIface => some .nili
  | _ => none
def tk : TypeDesc → TK
  | .bool => .bool
  | .int k => .int k
  | .string => .str
  | .pointer e => .ptr e
  | .slice e => .slice e
  | .array n e => .arr n e
  | .map k e => .map k e
  | .struct fs => .struct (fs.toList.map fun f => (f.offset, f.type))
  | .func _ _ _ => .func
  | .interface _ => .ifc
  | _ => .oth
def TK.agg : TK → Bool
  | .struct _ => true
  | .arr _ _ => true
  | _ => false
def TK.isBad : TK → Bool
  | .bad => true
  | _ => false
end Go.Ab
open Go.Ab in
def Go.Program.ti (P : Program) (t : Nat) : TI :=
  match P.info? t, P.underlying t with
  | some i, some d => { k := tk d, sz := i.size, by' := i.bytes, z := i.zero.bind fun v => v.cells.toList.mapM zd }
  | _, _ => { k := .bad, sz := 0, by' := 0, z := none }
namespace Go.Ab
/-- A type's form as an element. -/
def TI.w (i : TI) : W := if i.k.agg then some i.sz else none
def TI.zero (i : TI) : Option D := i.z.bind fun cs => if i.k.agg then some (.agg cs) else match cs with | [d] => some d | _ => none

/-- A slice of this type's elements has elements of that form. -/
def TI.isW (i : TI) (w : W) : Bool := !i.k.isBad && match w with
  | none => !i.k.agg && i.sz == 1
  | some n => i.k.agg && i.sz == n

/-! ### Values -/
def cv : Value → AV
  | .int k n => .d (.int k n)
  | .bool b => .d (.bool b)
  | .string s => .d (.str s.data.toList)
  | .pointer none => .d .nilp
  | .slice none 0 0 => .d .nils
  | .map none => .d .nilm
  | .nilFunc => .d .nilf
  | .nilIface => .d .nili
  | _ => .un
def ev (s : St) : Operand → AV
  | .tmp t => s.fr t
  | .const v => cv v
  | .global _ => .un
  | .func f => .clo f []
def allD : List AV → Option (List D)
  | [] => some []
  | .d x :: r => (allD r).map (x :: ·)
  | _ :: _ => none
def mkAgg (cs : List AV) : AV :=
  match allD cs with
  | some ds => .d (.agg ds)
  | none => .agg cs
/-- The cells of a value that is stored: none where it is not known. -/
def cellsD : D → Option (List AV)
  | .agg ds => some (ds.map .d)
  | .int k n => some [.d (.int k n)]
  | .bool b => some [.d (.bool b)]
  | .str s => some [.d (.str s)]
  | .nilp => some [.d .nilp]
  | .nils => some [.d .nils]
  | .nilm => some [.d .nilm]
  | .nilf => some [.d .nilf]
  | .nili => some [.d .nili]
  | .sl w xs => some [.d (.sl w xs)]
  | .ptr d => some [.d (.ptr d)]
  | .clo f c => some [.d (.clo f c)]
  | .ifc t d => some [.d (.ifc t d)]
  | .mpd c b k v => some [.d (.mpd c b k v)]
  | .yl l => some [.d (.yl l)]
def cellsA : AV → Option (List AV)
  | .d x => cellsD x
  | .agg cs => some cs
  | .vw p o l => some [.vw p o l]
  | .bx p c => some [.bx p c]
  | .el p i c => some [.el p i c]
  | .mp p => some [.mp p]
  | .it p => some [.it p]
  | .clo f c => some [.clo f c]
  | .un => none
  | .tup _ => none
def splice {α : Type} (l : List α) (c : Nat) (xs : List α) : List α := l.take c ++ (xs ++ l.drop (c + xs.length))

/-! ### What an operation asks, and what it leaves -/
/-- A result: it stands · it stands if p · nothing is said. -/
inductive R (α : Type) : Type 1 where
  | ok (a : α)
  | need (p : Prop) (r : R α)
  | no
def R.bind {α β : Type} : R α → (α → R β) → R β
  | .ok a, f => f a
  | .need p r, f => .need p (r.bind f)
  | .no, _ => .no
def R.ofO {α : Type} : Option α → R α
  | some a => .ok a
  | none => .no

/-- The part of a datum at a cell, as a type reads it. -/
def partD (i : TI) (d : D) (c : Nat) : Option D :=
  if i.k.isBad then none else match d with
  | .agg cs => if i.k.agg then (if c + i.sz ≤ cs.length then some (.agg ((cs.drop c).take i.sz)) else none) else cs[c]?
  | d => if i.k.agg then none else if c = 0 then some d else none
/-- The part of a struct's cells. -/
def partC (i : TI) (cs : List AV) (c : Nat) : R AV :=
  if i.k.isBad then .no else if i.k.agg then (if c + i.sz ≤ cs.length then .ok (mkAgg ((cs.drop c).take i.sz)) else .no) else R.ofO cs[c]?

def loadR (i : TI) (hp : Name → Option Ob) : AV → R AV
  | .bx p c => match hp p with
    | some (.box cs) => partC i cs c
    | _ => .no
  | .el p j c => match hp p with
    | some (.arr _ xs) => R.ofO ((partD i (xs.getD j .nilp) c).map .d)
    | _ => .no
  | .d (.ptr d) => R.ofO ((partD i d 0).map .d)
  | _ => .no

def okWb : W → D → Bool
  | none, d => d.scal
  | some n, .agg cs => cs.length == n && cs.all D.scal
  | some _, _ => false
/-- An element, or a part of one, is stored. -/
def storeEl (i : TI) (w : W) (xs : List D) (j c : Nat) (y : D) : Option (List D) :=
  if i.k.isBad then none
  else if i.isW w && okWb w y && c == 0 then some (xs.set j y)
  else if i.k.agg then none
  else match xs.getD j .nilp with
    | .agg cs => if y.scal ∧ c < cs.length ∧ i.sz = 1 then some (xs.set j (.agg (cs.set c y))) else none
    | _ => none
def storeR (i : TI) (s : St) (x v : AV) : R St :=
  match x with
  | .bx p c =>
    match s.hp p with
    | some (.box cs) => match cellsA v with
      | some vs => if i.k.isBad = false ∧ vs.length = i.sz ∧ c + i.sz ≤ cs.length then .ok (s.set p (some (.box (splice cs c vs)))) else .no
      | none => .no
    | _ => .no
  | .el p j c =>
    match s.hp p, v with
    | some (.arr w xs), .d y => match storeEl i w xs j c y with
      | some ys => .ok (s.set p (some (.arr w ys)))
      | none => .no
    | _, _ => .no
  | _ => .no

def fieldAddrR (i : TI) (tf : Nat → TI) (hp : Name → Option Ob) (x : AV) (f : Nat) : R AV :=
  match i.k with
  | .struct fs =>
    match fs[f]? with
    | some (o, t) =>
      if (tf t).sz = 0 then .no else
        match x with
        | .bx p c => match hp p with
          | some (.box _) => .ok (.bx p (c + o))
          | _ => .no
        | .el p j c => match hp p with
          | some (.arr _ _) => .ok (.el p j (c + o))
          | _ => .no
        | .d (.ptr (.agg cs)) => R.ofO ((partD (tf t) (.agg cs) o).map fun d => .d (.ptr d))
        | _ => .no
    | none => .no
  | _ => .no

def fieldR (i : TI) (tf : Nat → TI) (x : AV) (f : Nat) : R AV :=
  match i.k with
  | .struct fs =>
    match fs[f]? with
    | some (o, t) =>
      match x with
      | .d (.agg cs) => R.ofO ((partD (tf t) (.agg cs) o).map .d)
      | .agg cs => partC (tf t) cs o
      | _ => .no
    | none => .no
  | _ => .no

def indexAddrR (i : TI) (tf : Nat → TI) (hp : Name → Option Ob) (x j : AV) : R AV :=
  match i.k, x, j with
  | .slice e, .vw p o l, .d (.int _ n) =>
    match hp p with
    | some (.arr w _) => if (tf e).isW w then .need (0 ≤ n ∧ n < l) (.ok (.el p (o + n.toNat) 0)) else .no
    | _ => .no
  | .slice e, .d (.sl w xs), .d (.int _ n) => if (tf e).isW w then .need (0 ≤ n ∧ n < xs.length) (.ok (.d (.ptr (xs.getD n.toNat .nilp)))) else .no
  | _, _, _ => .no

def indexR (i : TI) (x j : AV) : R AV :=
  match i.k, x, j with
  | .str, .d (.str l), .d (.int _ n) => .need (0 ≤ n ∧ n < l.length) (.ok (.d (.int .u8 (l.getD n.toNat 0).toNat)))
  | _, _, _ => .no

def loI (n : Int) (x : Option AV) : Option Int :=
  match x with
  | none => some n
  | some (.d (.int _ m)) => some m
  | _ => none
def sliceR (i : TI) (tf : Nat → TI) (hp : Name → Option Ob) (x : AV) (lo hi : Option AV) : R AV :=
  match i.k, x with
  | .str, .d (.str l) => match loI 0 lo, loI l.length hi with
    | some a, some b => .need (0 ≤ a ∧ a ≤ b ∧ b ≤ l.length) (.ok (.d (.str ((l.drop a.toNat).take (b.toNat - a.toNat)))))
    | _, _ => .no
  | .slice e, .d (.sl w xs) => if (tf e).isW w then match loI 0 lo, loI xs.length hi with
      | some a, some b => .need (0 ≤ a ∧ a ≤ b ∧ b ≤ xs.length) (.ok (.d (.sl w ((xs.drop a.toNat).take (b.toNat - a.toNat)))))
      | _, _ => .no
    else .no
  | .slice e, .vw p o n => match hp p with
    | some (.arr w _) => if (tf e).isW w then match loI 0 lo, loI n hi with
        | some a, some b => .need (0 ≤ a ∧ a ≤ b ∧ b ≤ n) (.ok (.vw p (o + a.toNat) (b.toNat - a.toNat)))
        | _, _ => .no
      else .no
    | _ => .no
  | .slice e, .d .nils => if (tf e).k.isBad then .no else match loI 0 lo, loI 0 hi with
    | some a, some b => .need (a = 0 ∧ b = 0) (.ok (.d .nils))
    | _, _ => .no
  | _, _ => .no

def bitI (op : BinOp) (k : IntKind) (x y : Int) : Int :=
  match op with
  | .and => k.wrap ((BitVec.ofInt k.bits x &&& BitVec.ofInt k.bits y).toNat)
  | .or => k.wrap ((BitVec.ofInt k.bits x ||| BitVec.ofInt k.bits y).toNat)
  | .xor => k.wrap ((BitVec.ofInt k.bits x ^^^ BitVec.ofInt k.bits y).toNat)
  | _ => k.wrap ((BitVec.ofInt k.bits x &&& ~~~BitVec.ofInt k.bits y).toNat)
def TK.isBool : TK → Bool
  | .bool => true
  | _ => false
def binD (tk : TK) (op : BinOp) (x y : D) : R D :=
  match op, x, y with
  | .and, .int i a, .int j b => if i = j then .ok (.int i (bitI .and i a b)) else .no
  | .or, .int i a, .int j b => if i = j then .ok (.int i (bitI .or i a b)) else .no
  | .xor, .int i a, .int j b => if i = j then .ok (.int i (bitI .xor i a b)) else .no
  | .andNot, .int i a, .int j b => if i = j then .ok (.int i (bitI .andNot i a b)) else .no
  | .shl, .int i a, .int _ b => .need (0 ≤ b) (.ok (.int i (i.wrap (a * 2 ^ min b.toNat i.bits))))
  | .shr, .int i a, .int _ b => .need (0 ≤ b) (.ok (.int i (a.fdiv (2 ^ min b.toNat i.bits))))
  | .eql, .bool a, .bool b => if tk.isBool then .ok (.bool (a == b)) else .no
  | .neq, .bool a, .bool b => if tk.isBool then .ok (.bool (!(a == b))) else .no
  | .add, .int i a, .int j b => if i = j then .ok (.int i (i.wrap (a + b))) else .no
  | .sub, .int i a, .int j b => if i = j then .ok (.int i (i.wrap (a - b))) else .no
  | .mul, .int i a, .int j b => if i = j then .ok (.int i (i.wrap (a * b))) else .no
  | .quo, .int i a, .int j b => if i = j then .need (b ≠ 0) (.ok (.int i (i.wrap (a.tdiv b)))) else .no
  | .rem, .int i a, .int j b => if i = j then .need (b ≠ 0) (.ok (.int i (a.tmod b))) else .no
  | .eql, .int i a, .int j b => if i = j then .ok (.bool (a == b)) else .no
  | .neq, .int i a, .int j b => if i = j then .ok (.bool (a != b)) else .no
  | .lss, .int i a, .int j b => if i = j then .ok (.bool (decide (a < b))) else .no
  | .leq, .int i a, .int j b => if i = j then .ok (.bool (decide (a ≤ b))) else .no
  | .gtr, .int i a, .int j b => if i = j then .ok (.bool (decide (b < a))) else .no
  | .geq, .int i a, .int j b => if i = j then .ok (.bool (decide (b ≤ a))) else .no
  | .add, .str a, .str b => .need (a.length + b.length ≤ 140737488355328) (.ok (.str (a ++ b)))
  | .eql, .str a, .str b => .ok (.bool (a == b))
  | .neq, .str a, .str b => .ok (.bool (!(a == b)))
  | .lss, .str a, .str b => .ok (.bool (Op.bytesLess a b))
  | .leq, .str a, .str b => .ok (.bool (Op.bytesLess a b || a == b))
  | .gtr, .str a, .str b => .ok (.bool (!(Op.bytesLess a b || a == b)))
  | .geq, .str a, .str b => .ok (.bool (!(Op.bytesLess a b)))
  | _, _, _ => .no
def dR (r : R D) : R AV := r.bind fun d => .ok (.d d)
def binR (tk : TK) (op : BinOp) (x y : AV) : R AV :=
  match x, y with
  | .d a, .d b => dR (binD tk op a b)
  | _, _ => .no

def unR (op : UnOp) (x : AV) : R AV :=
  match op, x with
  | .not, .d (.bool b) => .ok (.d (.bool (!b)))
  | .neg, .d (.int i a) => .ok (.d (.int i (i.wrap (0 - a))))
  | _, _ => .no

def pickR (c x y : AV) : R AV :=
  match c with
  | .d (.bool true) => .ok x
  | .d (.bool false) => .ok y
  | _ => .no

def lenR (i : TI) (hp : Name → Option Ob) (x : AV) : R AV :=
  match i.k, x with
  | .str, .d (.str l) => .ok (.d (.int .i64 l.length))
  | .slice _, .d (.sl _ xs) => .ok (.d (.int .i64 xs.length))
  | .slice _, .d .nils => .ok (.d (.int .i64 0))
  | .slice _, .vw p _ l => match hp p with
    | some (.arr _ _) => .ok (.d (.int .i64 l))
    | _ => .no
  | .map _ _, .mp p => match hp p with
    | some (.map es) => .ok (.d (.int .i64 es.length))
    | _ => .no
  | _, _ => .no

def nilR (hp : Name → Option Ob) (x : AV) : R AV :=
  match x with
  | .bx p c => (match hp p with
    | some (.box _) => .ok (.bx p c)
    | _ => .no)
  | _ => .no
def maxR (x y : AV) : R AV :=
  match x, y with
  | .d (.int i a), .d (.int j b) => if i = j then .ok (.d (.int i (if b > a then b else a))) else .no
  | _, _ => .no
def minR (x y : AV) : R AV :=
  match x, y with
  | .d (.int i a), .d (.int j b) => if i = j then .ok (.d (.int i (if b < a then b else a))) else .no
  | _, _ => .no

def convR (a b : TI) (x : AV) : R AV :=
  match a.k, b.k, x with
  | .int _, .int j, .d (.int _ n) => .ok (.d (.int j (j.wrap n)))
  | .str, .str, .d (.str l) => .ok (.d (.str l))
  | _, _, _ => .no

def extractR (x : AV) (i : Nat) : R AV :=
  match x with
  | .tup vs => R.ofO vs[i]?
  | _ => .no

/-- A struct built of its fields: the zero value's cells, each field's cells laid over them. -/
def buildG (tf : Nat → TI) (fs : List (Nat × Nat)) : List AV → List (Nat × AV) → Option (List AV)
  | cs, [] => some cs
  | cs, q :: r =>
    match fs[q.1]?, cellsA q.2 with
    | some (o, t), some vs => if vs.length = (tf t).sz ∧ o + vs.length ≤ cs.length then buildG tf fs (splice cs o vs) r else none
    | _, _ => none
def allGood (tf : Nat → TI) : List (Nat × Nat) → Bool
  | [] => true
  | q :: r => !(tf q.2).k.isBad && allGood tf r
def buildR (tf : Nat → TI) (i : TI) (parts : List (Nat × AV)) : R AV :=
  match i.k, i.z with
  | .struct fs, some zs => if allGood tf fs then R.ofO ((buildG tf fs (zs.map .d) parts).map mkAgg) else .no
  | _, _ => .no

def partsD : Nat → List (Nat × AV) → Option (List D)
  | _, [] => some []
  | i, q :: r => match q.2 with
    | .d x => if q.1 = i then (partsD (i + 1) r).map (x :: ·) else none
    | _ => none

/-- A temporary takes a value. -/
def putR (n : Nat) (d : Option Nat) (s : St) (x : AV) : R St :=
  match d with
  | some t => if t < n then .ok (s.put t x) else .no
  | none => .ok s
/-- A new object: its name is its temporary's. -/
def newR (n : Nat) (d : Option Nat) (s : St) (ob : Ob) (x : Name → AV) : R St :=
  match d with
  | some t => if t < n ∧ t ∉ s.used then .ok ((s.add t ob).put t (x [t])) else .no
  | none => .no

def listOf (w : W) (hp : Name → Option Ob) : AV → Option (List D)
  | .vw p o l => match hp p with
    | some (.arr w' ys) => if w' = w then some ((ys.drop o).take l) else none
    | _ => none
  | .d (.sl w' ys) => if w' = w then some ys else none
  | .d .nils => some []
  | _ => none
def TI.zOk (i : TI) : Bool := match i.z with
  | some z => z.length == i.sz
  | none => false
def TI.by1 (i : TI) : Nat := if i.by' = 0 then 1 else i.by'
def appendR (n : Nat) (e : TI) (d : Option Nat) (s : St) (x y : AV) : R St :=
  match listOf e.w s.hp y, x with
  | some ys, .d .nils => .need (ys.length * e.by1 ≤ 140737488355328) (newR n d s (.arr e.w ys) (.vw · 0 ys.length))
  | some ys, .vw p o l =>
    match s.hp p with
    | some (.arr w xs) => if w = e.w then .need ((l + ys.length) * e.by1 ≤ 140737488355328) (newR n d (s.set p none) (.arr w ((xs.drop o).take l ++ ys)) (.vw · 0 (l + ys.length))) else .no
    | _ => .no
  | _, _ => .no

def makeFuncR (fn : Fn) (first : List Operand) (caps : List AV) : R AV :=
  match fn, first with
  | .func f, [] => .ok (.clo f caps)
  | _, _ => .no

def makeSliceR (n : Nat) (i : TI) (tf : Nat → TI) (d : Option Nat) (s : St) (l c : AV) : R St :=
  match i.k, l, c with
  | .slice e, .d (.int .i64 a), .d (.int .i64 b) =>
    match (tf e).zero with
    | some z => if ((tf e).isW (tf e).w && okWb (tf e).w z) = false then .no else .need (0 ≤ a ∧ a ≤ b ∧ b * (tf e).by' ≤ 140737488355328 ∧ b ≤ 140737488355328) (newR n d s (.arr (tf e).w (List.replicate a.toNat z)) (.vw · 0 a.toNat))
    | none => .no
  | _, _, _ => .no

def builtinR (tf : Nat → TI) (n : Nat) (b : Builtin) (args : List AV) (ts : List Nat) (d : Option Nat) (s : St) : R St :=
  match b, args with
  | .len, [x] => match ts with
    | [t] => (lenR (tf t) s.hp x).bind (putR n d s)
    | _ => .no
  | .max, [x, y] => (maxR x y).bind (putR n d s)
  | .min, [x, y] => (minR x y).bind (putR n d s)
  | .append, [x, y] =>
    match ts with
    | [t, t'] => if t ≠ t' then .no else match (tf t).k with
      | .slice e => if (tf e).zOk ∧ (tf e).isW (tf e).w then appendR n (tf e) d s x y else .no
      | _ => .no
    | _ => .no
  | _, _ => .no

def sliceE : TK → Option Nat
  | .slice e => some e
  | _ => none

section
variable (tf : Nat → TI) (n : Nat)

def opR (o : Op) (d : Option Nat) (s : St) : R St :=
  match o with
  | .move x => putR n d s (ev s x)
  | .assign x => putR n d s (ev s x)
  | .pick c a b => (pickR (ev s c) (ev s a) (ev s b)).bind (putR n d s)
  | .alloc e => match (tf e).z with
    | some cs => newR n d s (.box (cs.map .d)) (.bx · 0)
    | none => .no
  | .box _ x => match cellsA (ev s x) with
    | some cs => newR n d s (.box cs) (.bx · 0)
    | none => .no
  | .build t parts => (buildR tf (tf t) (parts.toList.map fun q => (q.1, ev s q.2))).bind (putR n d s)
  | .buildSlice t l parts =>
    match sliceE (tf t).k, partsD 0 (parts.toList.map fun q => (q.1, ev s q.2)) with
    | some e, some xs => if xs.length = l ∧ (tf e).z.isSome ∧ (tf e).isW (tf e).w ∧ xs.all (okWb (tf e).w) ∧ l * (tf e).sz ≤ 16777216 then newR n d s (.arr (tf e).w xs) (.vw · 0 l) else .no
    | _, _ => .no
  | .load t x => (loadR (tf t) s.hp (ev s x)).bind (putR n d s)
  | .store t x v => (storeR (tf t) s (ev s x) (ev s v)).bind fun s' => putR n d s' .un
  | .fieldAddr t x f => (fieldAddrR (tf t) tf s.hp (ev s x) f).bind (putR n d s)
  | .field t x f => (fieldR (tf t) tf (ev s x) f).bind (putR n d s)
  | .indexAddr t x j => (indexAddrR (tf t) tf s.hp (ev s x) (ev s j)).bind (putR n d s)
  | .index t x j => (indexR (tf t) (ev s x) (ev s j)).bind (putR n d s)
  | .slice t x lo hi mx => match mx with
    | none => (sliceR (tf t) tf s.hp (ev s x) (lo.map (ev s)) (hi.map (ev s))).bind (putR n d s)
    | some _ => .no
  | .binOp op t x y _ => (binR (tf t).k op (ev s x) (ev s y)).bind (putR n d s)
  | .unOp op _ x => (unR op (ev s x)).bind (putR n d s)
  | .convert a b x => (convR (tf a) (tf b) (ev s x)).bind (putR n d s)
  | .extract x i => (extractR (ev s x) i).bind (putR n d s)
  | .nilCheck x => (nilR s.hp (ev s x)).bind (putR n d s)
  | .makeFunc fn first caps => (makeFuncR fn first.toList (caps.toList.map (ev s))).bind (putR n d s)
  | .makeSlice t l c => makeSliceR n (tf t) tf d s (ev s l) (ev s c)
  | .call c => match c.callee with
    | .builtin b => builtinR tf n b (c.args.toList.map (ev s)) c.argTypes.toList d s
    | _ => .no
  | _ => .no
end
end Go.Ab
/-! ### The generic layer, part 4: code, as a machine whose rest is data ('run'). -/
namespace Go.Ab

/-- What is still to be done. -/
inductive It where
  | code (c : Code)
  | ops (all : Array Oper) (r : List Oper)
  | blk (i : Nat)

def msz : Code → Nat
  | .region _ ops _ => ops.toList.length + 2
  | .seq a b => msz a + msz b + 1
  | .cond _ a b => msz a + msz b + 1
  | .block _ b => msz b + 2
  | _ => 1
def It.msz : It → Nat
  | .code c => Ab.msz c
  | .ops _ r => r.length + 1
  | .blk _ => 1
def kmsz : List It → Nat
  | [] => 0
  | i :: k => i.msz + kmsz k
theorem msz_pos (c : Code) : 0 < msz c := by cases c <;> simp [msz]
theorem It.msz_pos (i : It) : 0 < i.msz := by cases i <;> simp [It.msz, Ab.msz_pos]

/-- Where an exit leads. -/
def exitK (i : Nat) : List It → Option (List It)
  | [] => none
  | .blk j :: k => if j = i then some k else exitK i k
  | _ :: k => exitK i k
theorem exitK_le (i : Nat) : ∀ (k k' : List It), exitK i k = some k' → kmsz k' ≤ kmsz k
  | [], k', h => by cases h
  | .blk j :: k, k', h => by
    simp only [exitK] at h
    split at h
    · cases h; simp [kmsz]
    · have := exitK_le i k k' h; simp [kmsz]; omega
  | .code c :: k, k', h => by have := exitK_le i k k' h; simp [kmsz]; omega
  | .ops _ r :: k, k', h => by have := exitK_le i k k' h; simp [kmsz]; omega

def R.run : R St → (St → Prop) → Prop → Prop
  | .ok s, f, _ => f s
  | .need p r, f, z => p ∧ r.run f z
  | .no, _, z => z

/-- A walk's setting: how many temporaries; the round of a range over a function, if it is in one; the heads of the names that were handed in. -/
structure Cf where
  n : Nat
  ro : Option Nat
  G : List (Nat × Obj)
  U : List Nat
def Cf.fits (c : Cf) (B : Base) : Prop := B.n = c.n ∧ B.U0 = c.U ∧ B.G = c.G

section
variable (P : Program) (cf : Cf)

/-- The fence that lets all in; in a round of a range over a function: of that round. -/
def Fw (ro : Option Nat) : Fence := { Fence.wide with round := ro }

/-- What is asked of the state in which an item list begins, at the machine. -/
def hold (Q : Exit → Act → World → Prop) : List It → Exit → Act → World → Prop
  | [], e, a, w => Q e a w
  | .code c :: k, e, a, w => match e with
    | .normal => c.wpIn (Fw cf.ro) 0 P (hold Q k) a w
    | e => hold Q k e a w
  | .ops all r :: k, e, a, w => match e with
    | .normal => ∀ (l : List Nat), l.map (all[·]?) = r.map some → wpOpsIn (Fw cf.ro) 0 P all (hold Q k) l a w
    | e => hold Q k e a w
  | .blk i :: k, e, a, w => match e with
    | .normal => hold Q k .normal a w
    | .exit j => if j = i then hold Q k .normal a w else hold Q k (.exit j) a w
    | e => hold Q k e a w

/-- A post of states, at the machine. -/
def lift (B : Base) (ds : List Deferred) (Q : Exit → St → Prop) (e : Exit) (a : Act) (w : World) : Prop :=
  a.defers = ds ∧ ∃ s β, Q e s ∧ Sim B β s a.tmps w

/-- From each machine state that the abstract state stands for the items lead where Q holds. -/
def ARun (k : List It) (Q : Exit → St → Prop) (s : St) : Prop :=
  ∀ (B : Base), cf.fits B → ∀ ds β a w, a.defers = ds → Sim B β s a.tmps w → hold P cf (lift B ds Q) k .normal a w

/-- An operation of which the steps say nothing. -/
def AOk (o : Oper) (s : St) (k : List It) (Q : Exit → St → Prop) : Prop :=
  ∀ (B : Base), cf.fits B → ∀ ds β a w, a.defers = ds → Sim B β s a.tmps w → ∀ Q', o.wpIn (Fw cf.ro) 0 P a w (fun a' w' => a'.defers = ds ∧ ∃ s' β', ARun P cf k Q s' ∧ Sim B β' s' a'.tmps w') Q'
/-- Code of which the steps say nothing. -/
def ACk (c : Code) (s : St) (k : List It) (Q : Exit → St → Prop) : Prop := ARun P cf (.code c :: k) Q s

def guardV (all : Array Oper) (j : Nat) (s : St) : Option (Nat × AV) :=
  match all[j]? with
  | some o => o.dst.map fun t => (t, s.fr t)
  | none => none

def run : List It → (Exit → St → Prop) → St → Prop
  | [], Q, s => Q .normal s
  | .blk _ :: k, Q, s => run k Q s
  | .ops _ [] :: k, Q, s => run k Q s
  | .ops all (o :: r) :: k, Q, s =>
    match o.guard with
    | none => (opR P.ti cf.n o.op o.dst s).run (fun s' => run (.ops all r :: k) Q s') (AOk P cf o s (.ops all r :: k) Q)
    | some (j, want) =>
      match guardV all j s with
      | some (t, .d (.bool b)) =>
        (b = want → (opR P.ti cf.n o.op o.dst (s.put t (.d (.bool want)))).run (fun s' => run (.ops all r :: k) Q s') (AOk P cf { o with guard := none } (s.put t (.d (.bool want))) (.ops all r :: k) Q)) ∧
        (b = !want → (putR cf.n o.dst (s.put t (.d (.bool (!want)))) (.tup [])).run (fun s' => run (.ops all r :: k) Q s') False)
      | some (_, .tup []) => (putR cf.n o.dst s (.tup [])).run (fun s' => run (.ops all r :: k) Q s') False
      | _ => False
  | .code .skip :: k, Q, s => run k Q s
  | .code (.region _ ops false) :: k, Q, s => run (.ops ops ops.toList :: k) Q s
  | .code (.region i ops true) :: k, Q, s => ACk P cf (.region i ops true) s k Q
  | .code (.seq a b) :: k, Q, s => run (.code a :: .code b :: k) Q s
  | .code (.cond c a b) :: k, Q, s =>
    match ev s c with
    | .d (.bool t) => (t = true → run (.code a :: k) Q s) ∧ (t = false → run (.code b :: k) Q s)
    | _ => False
  | .code (.block i c) :: k, Q, s => run (.code c :: .blk i :: k) Q s
  | .code (.exit i) :: k, Q, s => match _h : exitK i k with
    | some k' => run k' Q s
    | none => Q (.exit i) s
  | .code .ret :: _, Q, s => Q .ret s
  | .code c :: k, Q, s => ACk P cf c s k Q
termination_by k => kmsz k
decreasing_by
  all_goals simp only [kmsz, It.msz, msz, List.length_cons, List.length_nil]
  all_goals first
    | omega
    | (have := msz_pos ‹_›; omega)
    | (have := exitK_le _ _ _ _h; omega)
end
end Go.Ab
/-! ### The generic layer, part 5: the steps as rules for simp. -/
namespace Go.Ab
section
variable (P : Program) (cf : Cf)

def stp (r : R St) (o : Oper) (s : St) (k : List It) (Q : Exit → St → Prop) : Prop := r.run (fun s' => run P cf k Q s') (AOk P cf o s k Q)
def gd (v : Option (Nat × AV)) (want : Bool) (all : Array Oper) (o : Oper) (r : List Oper) (s : St) (k : List It) (Q : Exit → St → Prop) : Prop :=
  match v with
  | some (t, .d (.bool b)) =>
    (b = want → stp P cf (opR P.ti cf.n o.op o.dst (s.put t (.d (.bool want)))) { o with guard := none } (s.put t (.d (.bool want))) (.ops all r :: k) Q) ∧
    (b = !want → (putR cf.n o.dst (s.put t (.d (.bool (!want)))) (.tup [])).run (fun s' => run P cf (.ops all r :: k) Q s') False)
  | some (_, .tup []) => (putR cf.n o.dst s (.tup [])).run (fun s' => run P cf (.ops all r :: k) Q s') False
  | _ => False
def cnd (v : AV) (a b : Code) (k : List It) (Q : Exit → St → Prop) (s : St) : Prop :=
  match v with
  | .d (.bool t) => (t = true → run P cf (.code a :: k) Q s) ∧ (t = false → run P cf (.code b :: k) Q s)
  | _ => False
def goK (o : Option (List It)) (i : Nat) (Q : Exit → St → Prop) (s : St) : Prop :=
  match o with
  | some k => run P cf k Q s
  | none => Q (.exit i) s

variable {P cf}
variable (Q : Exit → St → Prop) (s : St) (k : List It) (o : Oper) (x : Operand) (a b : Code) (i : Nat)

theorem run_nil : run P cf [] Q s = Q .normal s := by rw [run]
theorem run_blk : run P cf (.blk i :: k) Q s = run P cf k Q s := by rw [run]
theorem run_ops_nil (all : Array Oper) : run P cf (.ops all [] :: k) Q s = run P cf k Q s := by rw [run]
theorem run_ops (all : Array Oper) (d : Option Nat) (op : Op) (t : Nat) (p : String) (e : Array Edge) (r : List Oper) :
    run P cf (.ops all ({ dst := d, op := op, type := t, pos := p, after := e, guard := none } :: r) :: k) Q s =
      stp P cf (opR P.ti cf.n op d s) { dst := d, op := op, type := t, pos := p, after := e, guard := none } s (.ops all r :: k) Q := by rw [run]; rfl
theorem run_ops_g (all : Array Oper) (d : Option Nat) (op : Op) (t : Nat) (p : String) (e : Array Edge) (j : Nat) (want : Bool) (r : List Oper) :
    run P cf (.ops all ({ dst := d, op := op, type := t, pos := p, after := e, guard := some (j, want) } :: r) :: k) Q s =
      gd P cf (guardV all j s) want all { dst := d, op := op, type := t, pos := p, after := e, guard := some (j, want) } r s k Q := by rw [run]; rfl
theorem run_skip : run P cf (.code .skip :: k) Q s = run P cf k Q s := by rw [run]
theorem run_region (ops : List Oper) : run P cf (.code (.region i ops.toArray false) :: k) Q s = run P cf (.ops ops.toArray ops :: k) Q s := by rw [run]
theorem run_draw (ops : Array Oper) : run P cf (.code (.region i ops true) :: k) Q s = ACk P cf (.region i ops true) s k Q := by rw [run]
theorem run_seq : run P cf (.code (.seq a b) :: k) Q s = run P cf (.code a :: .code b :: k) Q s := by rw [run]
theorem run_cond : run P cf (.code (.cond x a b) :: k) Q s = cnd P cf (ev s x) a b k Q s := by rw [run]; rfl
theorem run_block : run P cf (.code (.block i a) :: k) Q s = run P cf (.code a :: .blk i :: k) Q s := by rw [run]
theorem run_exit : run P cf (.code (.exit i) :: k) Q s = goK P cf (exitK i k) i Q s := by
  rw [run]; unfold goK; split <;> simp_all
theorem run_ret : run P cf (.code .ret :: k) Q s = Q .ret s := by rw [run]
theorem run_loop : run P cf (.code (.loop a) :: k) Q s = ACk P cf (.loop a) s k Q := by rw [run]; all_goals simp

theorem stp_ok (s' : St) : stp P cf (.ok s') o s k Q = run P cf k Q s' := rfl
theorem stp_need (p : Prop) (r : R St) : stp P cf (.need p r) o s k Q = (p ∧ stp P cf r o s k Q) := rfl
theorem stp_no : stp P cf .no o s k Q = AOk P cf o s k Q := rfl
theorem gd_bool (t : Nat) (v want : Bool) (all : Array Oper) (r : List Oper) : gd P cf (some (t, .d (.bool v))) want all o r s k Q =
    ((v = want → stp P cf (opR P.ti cf.n o.op o.dst (s.put t (.d (.bool want)))) { o with guard := none } (s.put t (.d (.bool want))) (.ops all r :: k) Q) ∧
    (v = !want → (putR cf.n o.dst (s.put t (.d (.bool (!want)))) (.tup [])).run (fun s' => run P cf (.ops all r :: k) Q s') False)) := rfl
theorem run_putR_some (t : Nat) (h : t < cf.n) (v : AV) (f : St → Prop) (z : Prop) : (putR cf.n (some t) s v).run f z = f (s.put t v) := by simp [putR, h, R.run]
theorem cnd_bool (t : Bool) : cnd P cf (.d (.bool t)) a b k Q s = ((t = true → run P cf (.code a :: k) Q s) ∧ (t = false → run P cf (.code b :: k) Q s)) := rfl
theorem goK_some (k' : List It) : goK P cf (some k') i Q s = run P cf k' Q s := rfl
theorem goK_none : goK P cf none i Q s = Q (.exit i) s := rfl
def gV (s : St) : Option Oper → Option (Nat × AV)
  | some o => o.dst.map fun t => (t, s.fr t)
  | none => none
theorem guardV_eq (all : List Oper) (j : Nat) : guardV all.toArray j s = gV s all[j]? := by
  simp only [guardV, List.getElem?_toArray]; cases all[j]? <;> rfl
end

section
variable (s : St) (t i : Nat) (v : AV) (ob : Ob) (p q : Name) (oo : Option Ob)
theorem put_fr : (s.put t v).fr i = if i = t then v else s.fr i := rfl
theorem put_hp : (s.put t v).hp = s.hp := rfl
theorem put_used : (s.put t v).used = s.used := rfl
theorem add_fr : (s.add t ob).fr = s.fr := rfl
theorem add_hp : (s.add t ob).hp q = if q = [t] then some ob else s.hp q := rfl
theorem add_used : (s.add t ob).used = t :: s.used := rfl
theorem set_fr : (s.set p oo).fr = s.fr := rfl
theorem set_hp : (s.set p oo).hp q = if q = p then oo else s.hp q := rfl
theorem set_used : (s.set p oo).used = s.used := rfl

def lkA {α β : Type} [DecidableEq α] (z : β) : List (α × β) → α → β
  | [], _ => z
  | q :: r, i => if i = q.1 then q.2 else lkA z r i
/-- A state, written out. -/
def mk (fr : List (Nat × AV)) (hp : List (Name × Ob)) (used : List Nat) : St :=
  { fr := lkA .un fr, hp := lkA none (hp.map fun q => (q.1, some q.2)), used := used }
theorem mk_fr (fr hp used) : (mk fr hp used).fr i = lkA .un fr i := rfl
theorem mk_hp (fr hp used) : (mk fr hp used).hp p = lkA none (hp.map fun q => (q.1, some q.2)) p := rfl
theorem mk_used (fr hp used) : (mk fr hp used).used = used := rfl
theorem lkA_nil {α β : Type} [DecidableEq α] (z : β) (i : α) : lkA z [] i = z := rfl
theorem lkA_cons {α β : Type} [DecidableEq α] (z : β) (q : α × β) (r) (i : α) : lkA z (q :: r) i = if i = q.1 then q.2 else lkA z r i := rfl
end
end Go.Ab
