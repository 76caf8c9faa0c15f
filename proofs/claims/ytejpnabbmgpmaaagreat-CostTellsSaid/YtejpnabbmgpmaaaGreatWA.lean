/-
  The generic layer, part 1: data by values ('D'), what a temporary may hold ('AV'), objects by names ('Ob'), and when machine memory stands for them ('Rep', 'VR', 'OR', 'Sim'). It names no program. (with the parts that follow it) (with the parts that follow it)
-/
import Derived.CallsIn
import Derived.Laws.AppendOwn
import Derived.Laws.Strings
import Derived.Laws.Cells
import Derived.Laws.Rows
import Derived.Laws.Tables
import Derived.Laws.IdiomCopy
import Derived.Laws.Entries
import Derived.Attr
import Derived.Laws.Strings2
import Derived.Laws.Concat
import Derived.Laws.Small
import Derived.Laws.MakeOwn
import Derived.Laws.NewBlocks
import Derived.OrdersIn
import Derived.LoopNIn
set_option linter.unusedSimpArgs false
namespace Go.Ab
abbrev Name := List Nat
abbrev W := Option Nat
def wd : W → Nat
  | none => 1
  | some n => n
inductive D where
  | int (k : IntKind) (n : Int)
  | bool (b : Bool)
  | str (s : List UInt8)
  | nilp | nils | nilm | nilf | nili
  | sl (w : W) (xs : List D)
  | slx (w : W) (xs : List D)
  | agg (cs : List D)
  | ptr (d : D)
  | clo (f : Nat) (caps : List D)
  | ifc (t : Nat) (d : D)
  | mpd (clk : Nat) (bs : List Nat) (ks vs : List D)
  | yl (l : Nat)
  deriving Inhabited
inductive AV where
  | un
  | d (x : D)
  | vw (p : Name) (off len : Nat)
  | at (p : Name) (c : Nat)
  | el (p : Name) (i c : Nat)
  | mp (p : Name)
  | it (p : Name)
  | agg (cs : List AV)
  | tup (vs : List AV)
  | clo (f : Nat) (caps : List AV)
  deriving Inhabited
inductive Ob where
  | arrT (ty : Option Nat) (w : W) (xs : List D)
  | boxT (ty : Option Nat) (cs : List AV)
  | map (es : List (D × D))
  | siter (s : List UInt8) (pos : Nat)
  | miter (m : D) (cur : Option (D × D)) (todo : List (D × D))
  deriving Inhabited
def D.cells : D → List D
  | .agg cs => cs
  | d => [d]
def D.scal : D → Bool
  | .agg _ => false
  | _ => true
def okW : W → D → Prop
  | none, d => d.scal = true
  | some n, .agg cs => cs.length = n ∧ ∀ d ∈ cs, d.scal = true
  | some _, _ => False
@[match_pattern, reducible] def Ob.box (cs : List AV) : Ob := .boxT none cs
@[match_pattern, reducible] def Ob.arr (w : W) (xs : List D) : Ob := .arrT none w xs
structure Blk where
  b : Nat
  o : Nat
  z : Nat
section
variable (H : Array Obj) (own : Nat → Prop)
inductive Rep : Value → D → Prop
  | int (k n) : Rep (.int k n) (.int k n)
  | bool (b) : Rep (.bool b) (.bool b)
  | str (l : List UInt8) : Rep (.string ⟨l.toArray⟩) (.str l)
  | nilp : Rep (.pointer none) .nilp
  | nils : Rep (.slice none 0 0) .nils
  | nilm : Rep (.map none) .nilm
  | nilf : Rep .nilFunc .nilf
  | nili : Rep .nilIface .nili
  | yl (l : Nat) : Rep (.func (.yield l) #[] #[]) (.yl l)
  | agg (vs : Array Value) (cs : List D) (hs : vs.size = cs.length) (hc : ∀ d ∈ cs, d.scal = true)
      (h : ∀ i d, cs[i]? = some d → Rep (vs.getD i undef) d) : Rep (.agg vs) (.agg cs)
  | sl0 (a cap w) : Rep (.slice a 0 cap) (.sl w [])
  | sl (b o cap : Nat) (c : Array Value) (e : TypeId) (fz : Nat × Nat) (w : W) (xs : List D) (hb : H[b]? = some (.cells c e fz)) (hn : ¬ own b)
      (hcap : xs.length ≤ cap) (hz : o + xs.length * wd w ≤ c.size) (hw : ∀ x ∈ xs, okW w x)
      (h : ∀ i x j d, xs[i]? = some x → x.cells[j]? = some d → Rep (c.getD (o + i * wd w + j) undef) d) :
      Rep (.slice (some ⟨b, o, none⟩) xs.length cap) (.sl w xs)
  | slx (v : Value) (w : W) (xs : List D) (h : Rep v (.sl w xs)) (hc : ∃ a, v = .slice a xs.length xs.length) : Rep v (.slx w xs)
  | ptr (b o : Nat) (c : Array Value) (e : TypeId) (fz : Nat × Nat) (d : D) (hb : H[b]? = some (.cells c e fz)) (hn : ¬ own b)
      (hz : o + d.cells.length ≤ c.size) (hsc : ∀ x ∈ d.cells, x.scal = true) (h : ∀ j x, d.cells[j]? = some x → Rep (c.getD (o + j) undef) x) :
      Rep (.pointer (some ⟨b, o, none⟩)) (.ptr d)
  | clo (f : Nat) (vs : Array Value) (cs : List D) (hs : vs.size = cs.length) (h : ∀ i d, cs[i]? = some d → Rep (vs.getD i undef) d) :
      Rep (.func (.func f) #[] vs) (.clo f cs)
  | ifc (t v d) (h : Rep v d) : Rep (.iface t v) (.ifc t d)
  | mpd (b clk : Nat) (ents : Array MapEntry) (bs : List Nat) (ks vs : List D) (hb : H[b]? = some (.map ents clk)) (hn : ¬ own b) (hs : ents.size = ks.length ∧ ks.length = vs.length) (hbs : ents.toList.map (·.born) = bs)
      (hk : ∀ i d, ks[i]? = some d → Rep (ents.getD i default).key d) (hv : ∀ i d, vs[i]? = some d → Rep (ents.getD i default).val d) : Rep (.map (some b)) (.mpd clk bs ks vs)
variable (used : List Nat) (hp : Name → Option Ob) (β : Name → Option Blk)
def nm (used : List Nat) (p : Name) : Prop := ∃ h t, p = h :: t ∧ h ∈ used
inductive VR : Value → AV → Prop
  | un (v) : VR v .un
  | d (v x) (h : Rep H own v x) : VR v (.d x)
  | vw (v p off len) (hu : nm used p) (h1 : v.oneCell' = true)
      (h : ∀ ty w xs, hp p = some (.arrT ty w xs) → off + len ≤ xs.length ∧ ∃ a cap, v = .slice a len cap ∧
        (len = 0 ∧ cap = 0 ∨ ∃ k, β p = some k ∧ a = some ⟨k.b, k.o + off * wd w, none⟩ ∧ len ≤ cap ∧ k.o + (off + cap) * wd w ≤ k.z)) : VR v (.vw p off len)
  | at (v p c) (hu : nm used p) (h1 : v.oneCell' = true) (h : ∀ ty cs, hp p = some (.boxT ty cs) → ∃ k, β p = some k ∧ k.o = 0 ∧ v = .pointer (some ⟨k.b, c, none⟩)) : VR v (.at p c)
  | el (v p i c) (hu : nm used p) (h1 : v.oneCell' = true) (h : ∀ ty w xs, hp p = some (.arrT ty w xs) → i < xs.length ∧ ∃ k, β p = some k ∧ v = .pointer (some ⟨k.b, k.o + i * wd w + c, none⟩)) : VR v (.el p i c)
  | mp (v p) (hu : nm used p) (h1 : v.oneCell' = true) (h : ∀ es, hp p = some (.map es) → ∃ k, β p = some k ∧ v = .map (some k.b)) : VR v (.mp p)
  | its (v p) (hu : nm used p) (h1 : v.oneCell' = true) (h : ∀ s i, hp p = some (.siter s i) → ∃ k, β p = some k ∧ v = .pointer (some ⟨k.b, 0, none⟩))
      (h' : ∀ m c i, hp p = some (.miter m c i) → ∃ k, β p = some k ∧ v = .pointer (some ⟨k.b, 0, none⟩)) : VR v (.it p)
  | agg (vs : Array Value) (cs : List AV) (hs : vs.size = cs.length) (hc : ∀ v ∈ vs, v.oneCell' = true) (h : ∀ i x, cs[i]? = some x → VR (vs.getD i undef) x) : VR (.agg vs) (.agg cs)
  | tup (vs : Array Value) (cs : List AV) (hs : vs.size = cs.length) (h : ∀ i x, cs[i]? = some x → VR (vs.getD i undef) x) : VR (.tuple vs) (.tup cs)
  | clo (f : Nat) (vs : Array Value) (cs : List AV) (hs : vs.size = cs.length) (h : ∀ i x, cs[i]? = some x → VR (vs.getD i undef) x) : VR (.func (.func f) #[] vs) (.clo f cs)
def Borns (ents : Array MapEntry) (clock : Nat) : Prop := (ents.toList.map (·.born)).Nodup ∧ ∀ e ∈ ents.toList, e.born < clock
def MIt (m : D) (since : Nat) (seen : Array Nat) (last : Nat) (cur : Option (D × D)) (todo : List (D × D)) : Prop :=
  ∃ clk bs ks vs, m = .mpd clk bs ks vs ∧ bs.length = ks.length ∧ ks.length = vs.length ∧ bs.Nodup ∧ (∀ x ∈ bs, x < since) ∧ (since ≤ last ∧ since ≤ clk) ∧
    todo = ((bs.zip (ks.zip vs)).filter fun q => !seen.contains q.1).map (·.2) ∧ ∀ x, cur = some x → last = clk ∧ ∃ st, seen.back? = some st ∧ (st, x) ∈ bs.zip (ks.zip vs)
def OR (p : Name) : Ob → Prop
  | .arrT ty w xs => (β p = none ∧ xs = []) ∨ ∃ k c e, β p = some k ∧ H[k.b]? = some (.cells c (ty.getD e) (0, 0)) ∧ c.size = k.z ∧ k.o + xs.length * wd w ≤ k.z ∧ (∀ x ∈ xs, okW w x) ∧
      ∀ i x j d, xs[i]? = some x → x.cells[j]? = some d → Rep H own (c.getD (k.o + i * wd w + j) undef) d
  | .boxT ty cs => ∃ k c e, β p = some k ∧ k.o = 0 ∧ H[k.b]? = some (.cells c (ty.getD e) (0, 0)) ∧ c.size = k.z ∧ c.size = cs.length ∧ (∀ v ∈ c, v.oneCell' = true) ∧
      ∀ j x, cs[j]? = some x → VR H own used hp β (c.getD j undef) x
  | .map es => ∃ k ents clock, β p = some k ∧ H[k.b]? = some (.map ents clock) ∧ (ents.size = es.length ∧ Borns ents clock) ∧
      ∀ (i : Nat) (x : D × D), es[i]? = some x → ∃ en : MapEntry, ents[i]? = some en ∧ Rep H own en.key x.1 ∧ Rep H own en.val x.2
  | .siter s pos => ∃ k, β p = some k ∧ H[k.b]? = some (.stringIter ⟨s.toArray⟩ pos)
  | .miter m cur todo => ∃ k b since seen last, β p = some k ∧ H[k.b]? = some (.mapIter (some b) since seen last) ∧ Rep H own (.map (some b)) m ∧ MIt m since seen last cur todo
end
structure St where
  fr : Nat → AV
  hp : Name → Option Ob
  used : List Nat
def St.own (s : St) (A : Nat → Prop) (β : Name → Option Blk) (b : Nat) : Prop := A b ∨ ∃ p k, s.hp p ≠ none ∧ β p = some k ∧ k.b = b
def wio (w : World) : Os × Array (Nat × ByteArray) := (w.os, w.output)
structure Base where
  n : Nat
  io : Os × Array (Nat × ByteArray)
  G : List (Nat × Obj)
  H0 : Array Obj
  O0 : Nat → Prop
  A : Nat → Prop
  U0 : List Nat
  β0 : Name → Option Blk
  hA : ∀ b, A b → b < H0.size
  hG : ∀ q ∈ G, H0[q.1]? = some q.2 ∧ ¬ O0 q.1
structure Sim (B : Base) (β : Name → Option Blk) (s : St) (tm : Array Value) (w : World) : Prop where
  tms : tm.size = B.n
  io : wio w = B.io
  size : B.H0.size ≤ w.heap.size
  frame : ∀ b, b < B.H0.size → ¬ B.O0 b → w.heap[b]? = B.H0[b]?
  slots : ∀ t, VR w.heap (s.own B.A β) s.used s.hp β (tm.getD t undef) (s.fr t)
  objs : ∀ p o, s.hp p = some o → nm s.used p ∧ OR w.heap (s.own B.A β) s.used s.hp β p o
  blocks : ∀ p k, s.hp p ≠ none → β p = some k → k.b < w.heap.size ∧ ¬ B.A k.b ∧ (B.H0.size ≤ k.b ∨ B.O0 k.b)
  inj : ∀ p q k l, s.hp p ≠ none → s.hp q ≠ none → β p = some k → β q = some l → k.b = l.b → p = q
  us : ∀ x ∈ B.U0, x ∈ s.used
  stay : ∀ p, nm B.U0 p → β p = B.β0 p
end Go.Ab
namespace Go.Ab
theorem lt_of_some {α : Type} {a : Array α} {i : Nat} {x : α} (h : a[i]? = some x) : i < a.size := (Array.getElem?_eq_some_iff.1 h).1
theorem Rep.mono {H H' : Array Obj} {own own' : Nat → Prop} (hH : ∀ b, ¬ own b → b < H.size → H'[b]? = H[b]?) (ho : ∀ b, b < H.size → own' b → own b)
    {v : Value} {d : D} (h : Rep H own v d) : Rep H' own' v d := by
  induction h with
  | int k n => exact .int k n
  | bool b => exact .bool b
  | str l => exact .str l
  | nilp => exact .nilp
  | nils => exact .nils
  | nilm => exact .nilm
  | nilf => exact .nilf
  | nili => exact .nili
  | yl l => exact .yl l
  | agg vs cs hs hc _ ih => exact .agg vs cs hs hc ih
  | sl0 a cap w => exact .sl0 a cap w
  | sl b o cap c e fz w xs hb hn hcap hz hw _ ih => exact .sl b o cap c e fz w xs ((hH b hn (lt_of_some hb)).trans hb) (fun h => hn (ho b (lt_of_some hb) h)) hcap hz hw ih
  | slx v w xs _ hc ih => exact .slx v w xs ih hc
  | ptr b o c e fz d hb hn hz hsc _ ih => exact .ptr b o c e fz d ((hH b hn (lt_of_some hb)).trans hb) (fun h => hn (ho b (lt_of_some hb) h)) hz hsc ih
  | clo f vs cs hs _ ih => exact .clo f vs cs hs ih
  | ifc t v d _ ih => exact .ifc t v d ih
  | mpd b clk ents bs ks vs hb hn hs hbs _ _ ih1 ih2 => exact .mpd b clk ents bs ks vs ((hH b hn (lt_of_some hb)).trans hb) (fun h => hn (ho b (lt_of_some hb) h)) hs hbs ih1 ih2
theorem Rep.oneCell {H : Array Obj} {own : Nat → Prop} {v : Value} {d : D} (h : Rep H own v d) (hd : d.scal = true) : v.oneCell' = true := by
  cases h <;> first | rfl | (rename_i hc; obtain ⟨a, rfl⟩ := hc; rfl) | simp [D.scal] at hd
def Ob.like : Ob → Ob → Prop
  | .arrT a w xs, .arrT b w' xs' => (a = b ∧ w = w') ∧ xs.length ≤ xs'.length
  | .boxT a _, .boxT b _ => a = b
  | .map _, .map _ => True
  | .siter _ _, .siter _ _ => True
  | .miter _ _ _, .miter _ _ _ => True
  | _, _ => False
theorem Ob.like_refl (o : Ob) : o.like o := by cases o <;> simp [Ob.like]
def Stays (hp hp' : Name → Option Ob) (β β' : Name → Option Blk) (p : Name) : Prop := ∀ o', hp' p = some o' → ∃ o, hp p = some o ∧ o.like o' ∧ β' p = β p
section
variable {H H' : Array Obj} {own own' : Nat → Prop} {used used' : List Nat} {hp hp' : Name → Option Ob} {β β' : Name → Option Blk}
theorem nm.mono {p : Name} (hu : ∀ x ∈ used, x ∈ used') (h : nm used p) : nm used' p := let ⟨a, t, e, m⟩ := h; ⟨a, t, e, hu a m⟩
theorem VR.mono (hr : ∀ v d, Rep H own v d → Rep H' own' v d) (hu : ∀ x ∈ used, x ∈ used') (hst : ∀ p, nm used p → Stays hp hp' β β' p)
    {v : Value} {x : AV} (h : VR H own used hp β v x) : VR H' own' used' hp' β' v x := by
  induction h with
  | un v => exact .un v
  | d v x h => exact .d v x (hr v x h)
  | vw v p off len hn h1 h =>
    refine .vw v p off len (hn.mono hu) h1 fun ty w xs hx => ?_
    obtain ⟨o, ho, hl, hb⟩ := hst p hn _ hx
    cases o <;> simp [Ob.like] at hl
    obtain ⟨⟨rfl, rfl⟩, hle⟩ := hl
    obtain ⟨h1, a, cap, rfl, h2⟩ := h _ _ _ ho
    exact ⟨by omega, a, cap, rfl, by rw [hb]; exact h2⟩
  | «at» v p c hn h1 h =>
    refine .at v p c (hn.mono hu) h1 fun ty cs hx => ?_
    obtain ⟨o, ho, hl, hb⟩ := hst p hn _ hx
    cases o <;> simp [Ob.like] at hl
    rw [hb]; exact h _ _ ho
  | el v p i c hn h1 h =>
    refine .el v p i c (hn.mono hu) h1 fun ty w xs hx => ?_
    obtain ⟨o, ho, hl, hb⟩ := hst p hn _ hx
    cases o <;> simp [Ob.like] at hl
    obtain ⟨⟨rfl, rfl⟩, hle⟩ := hl
    obtain ⟨h1, h2⟩ := h _ _ _ ho
    exact ⟨by omega, by rw [hb]; exact h2⟩
  | mp v p hn h1 h =>
    refine .mp v p (hn.mono hu) h1 fun es hx => ?_
    obtain ⟨o, ho, hl, hb⟩ := hst p hn _ hx
    cases o <;> simp [Ob.like] at hl
    rw [hb]; exact h _ ho
  | its v p hn h1 h h' =>
    refine .its v p (hn.mono hu) h1 (fun s i hx => ?_) (fun m c i hx => ?_)
    · obtain ⟨o, ho, hl, hb⟩ := hst p hn _ hx
      cases o <;> simp [Ob.like] at hl
      rw [hb]; exact h _ _ ho
    · obtain ⟨o, ho, hl, hb⟩ := hst p hn _ hx
      cases o <;> simp [Ob.like] at hl
      rw [hb]; exact h' _ _ _ ho
  | agg vs cs hs hc _ ih => exact .agg vs cs hs hc ih
  | tup vs cs hs _ ih => exact .tup vs cs hs ih
  | clo f vs cs hs _ ih => exact .clo f vs cs hs ih
theorem OR.mono (hr : ∀ v d, Rep H own v d → Rep H' own' v d) (hu : ∀ x ∈ used, x ∈ used') (hst : ∀ p, nm used p → Stays hp hp' β β' p)
    {p : Name} {o : Ob} (hb : β' p = β p) (hH : ∀ k, β p = some k → H'[k.b]? = H[k.b]?) (h : OR H own used hp β p o) : OR H' own' used' hp' β' p o := by
  cases o with
  | arrT ty w xs =>
    rcases h with ⟨h1, h2⟩ | ⟨k, c, e, hk, hc, hz, hl, hw, h⟩
    · exact .inl ⟨hb.trans h1, h2⟩
    · exact .inr ⟨k, c, e, hb.trans hk, (hH k hk).trans hc, hz, hl, hw, fun i x j d hi hj => hr _ _ (h i x j d hi hj)⟩
  | boxT ty cs =>
    obtain ⟨k, c, e, hk, ho, hc, hz, hl, h1, h⟩ := h
    exact ⟨k, c, e, hb.trans hk, ho, (hH k hk).trans hc, hz, hl, h1, fun j x hj => (h j x hj).mono hr hu hst⟩
  | map es =>
    obtain ⟨k, ents, clock, hk, hc, hz, h⟩ := h
    refine ⟨k, ents, clock, hb.trans hk, (hH k hk).trans hc, hz, fun i x hi => ?_⟩
    obtain ⟨en, h1, h2, h3⟩ := h i x hi
    exact ⟨en, h1, hr _ _ h2, hr _ _ h3⟩
  | siter s pos =>
    obtain ⟨k, hk, hc⟩ := h
    exact ⟨k, hb.trans hk, (hH k hk).trans hc⟩
  | miter _ _ _ =>
    obtain ⟨k, b, since, seen, last, hk, hc, hm, hi⟩ := h
    exact ⟨k, b, since, seen, last, hb.trans hk, (hH k hk).trans hc, hr _ _ hm, hi⟩
end
def updN {α : Type} (f : Nat → α) (i : Nat) (v : α) : Nat → α := fun j => if j = i then v else f j
def updP {α : Type} (f : Name → α) (i : Name) (v : α) : Name → α := fun j => if j = i then v else f j
def St.put (s : St) (t : Nat) (v : AV) : St := { s with fr := updN s.fr t v }
def St.set (s : St) (p : Name) (o : Option Ob) : St := { s with hp := updP s.hp p o }
def St.add (s : St) (t : Nat) (o : Ob) : St := { s with hp := updP s.hp [t] (some o), used := t :: s.used }
section
variable {B : Base} {β : Name → Option Blk} {s : St} {tm : Array Value} {w : World}
theorem Sim.put (h : Sim B β s tm w) {t : Nat} (ht : t < B.n) {v : Value} {x : AV} (hv : VR w.heap (s.own B.A β) s.used s.hp β v x) :
    Sim B β (s.put t x) (tm.setIfInBounds t v) w := by
  refine { h with tms := by simpa using h.tms, slots := fun i => ?_ }
  show VR w.heap (s.own B.A β) s.used s.hp β _ (updN s.fr t x i)
  unfold updN
  by_cases hi : i = t
  · subst hi
    rw [if_pos rfl]
    have : i < tm.size := by rw [h.tms]; exact ht
    simpa [Array.getD_eq_getD_getElem?, this] using hv
  · rw [if_neg hi]
    have := h.slots i
    rw [show (tm.setIfInBounds t v).getD i undef = tm.getD i undef from by simp [Array.getD_eq_getD_getElem?, Ne.symm hi]]
    exact this
theorem Sim.heap_eq (h : Sim B β s tm w) {w' : World} (e : w'.heap = w.heap) (e2 : wio w' = wio w) : Sim B β s tm w' :=
  { tms := h.tms, io := e2.trans h.io, size := by rw [e]; exact h.size, frame := by rw [e]; exact h.frame, slots := by rw [e]; exact h.slots, objs := by rw [e]; exact h.objs, blocks := by rw [e]; exact h.blocks, inj := h.inj, us := h.us, stay := h.stay }
theorem Sim.own_lt (h : Sim B β s tm w) {b : Nat} (hb : s.own B.A β b) : b < w.heap.size := by
  rcases hb with hb | ⟨p, k, hp, hk, rfl⟩
  · exact Nat.lt_of_lt_of_le (B.hA b hb) h.size
  · exact (h.blocks p k hp hk).1
theorem Sim.alloc (h : Sim B β s tm w) {t : Nat} (ht : t ∉ s.used) (o : Obj) (ob : Ob) (z : Nat)
    (hO : ∀ β' : Name → Option Blk, β' [t] = some ⟨w.heap.size, 0, z⟩ → (∀ v x, VR w.heap (s.own B.A β) s.used s.hp β v x → VR (w.alloc o).heap ((s.add t ob).own B.A β') (t :: s.used) (s.add t ob).hp β' v x) →
      OR (w.alloc o).heap ((s.add t ob).own B.A β') (t :: s.used) (s.add t ob).hp β' [t] ob) :
    Sim B (updP β [t] (some ⟨w.heap.size, 0, z⟩)) (s.add t ob) tm (w.alloc o) ∧
      ∀ v x, VR w.heap (s.own B.A β) s.used s.hp β v x → VR (w.alloc o).heap ((s.add t ob).own B.A (updP β [t] (some ⟨w.heap.size, 0, z⟩))) (t :: s.used) (s.add t ob).hp (updP β [t] (some ⟨w.heap.size, 0, z⟩)) v x := by
  obtain ⟨β', hβ'⟩ : ∃ β', updP β [t] (some ⟨w.heap.size, 0, z⟩) = β' := ⟨_, rfl⟩
  have hnew : β' [t] = some ⟨w.heap.size, 0, z⟩ := by rw [← hβ']; simp [updP]
  have hold : ∀ p, p ≠ [t] → β' p = β p := fun p hp => by rw [← hβ']; simp [updP, hp]
  have hhp : ∀ p, p ≠ [t] → (s.add t ob).hp p = s.hp p := fun p hp => by simp [St.add, updP, hp]
  have hnm : ∀ p, nm s.used p → p ≠ [t] := by
    rintro p ⟨a, l, rfl, ha⟩ e
    simp at e
    exact ht (e.1 ▸ ha)
  have hown : ∀ b, b < w.heap.size → (s.add t ob).own B.A β' b → s.own B.A β b := by
    rintro b hb (hA | ⟨p, k, hp, hk, rfl⟩)
    · exact .inl hA
    · by_cases e : p = [t]
      · subst e
        rw [hnew] at hk; cases hk
        exact absurd hb (Nat.lt_irrefl _)
      · rw [hold p e] at hk; rw [hhp p e] at hp
        exact .inr ⟨p, k, hp, hk, rfl⟩
  have hr : ∀ v d, Rep w.heap (s.own B.A β) v d → Rep (w.alloc o).heap ((s.add t ob).own B.A β') v d :=
    fun v d hd => hd.mono (fun b _ hb => heap_alloc_old w o b hb) hown
  have hst : ∀ p, nm s.used p → Stays s.hp (s.add t ob).hp β β' p := fun p hp o' ho' =>
    ⟨o', by rwa [hhp p (hnm p hp)] at ho', Ob.like_refl _, hold p (hnm p hp)⟩
  have hv : ∀ v x, VR w.heap (s.own B.A β) s.used s.hp β v x → VR (w.alloc o).heap ((s.add t ob).own B.A β') (t :: s.used) (s.add t ob).hp β' v x :=
    fun v x hx => hx.mono hr (fun y hy => List.mem_cons_of_mem _ hy) hst
  rw [hβ']
  refine ⟨{ tms := h.tms, io := h.io, size := by simp; exact Nat.le_succ_of_le h.size, frame := ?_, slots := fun i => hv _ _ (h.slots i), objs := ?_, blocks := ?_, inj := ?_, us := fun x hx => List.mem_cons_of_mem _ (h.us x hx),
            stay := fun p hp => (hold p (hnm p (hp.mono h.us))).trans (h.stay p hp) }, hv⟩
  · intro b hb hn
    rw [heap_alloc_old w o b (Nat.lt_of_lt_of_le hb h.size)]
    exact h.frame b hb hn
  · intro p o' ho'
    by_cases e : p = [t]
    · subst e
      have : o' = ob := by simpa [St.add, updP] using ho'.symm
      subst this
      exact ⟨⟨t, [], rfl, List.mem_cons_self⟩, hO β' hnew hv⟩
    · rw [hhp p e] at ho'
      obtain ⟨h1, h2⟩ := h.objs p o' ho'
      refine ⟨h1.mono fun y hy => List.mem_cons_of_mem _ hy, h2.mono hr (fun y hy => List.mem_cons_of_mem _ hy) hst (hold p e) fun k hk => ?_⟩
      exact heap_alloc_old w o k.b (h.blocks p k (by rw [ho']; simp) hk).1
  · intro p k hp hk
    by_cases e : p = [t]
    · subst e
      rw [hnew] at hk; cases hk
      refine ⟨by simp, fun hA => absurd (Nat.lt_of_lt_of_le (B.hA _ hA) h.size) (Nat.lt_irrefl _), .inl h.size⟩
    · rw [hold p e] at hk; rw [hhp p e] at hp
      obtain ⟨h1, h2⟩ := h.blocks p k hp hk
      exact ⟨by simp; omega, h2⟩
  · intro p q k l hp hq hk hl e
    by_cases ep : p = [t] <;> by_cases eq : q = [t]
    · rw [ep, eq]
    · subst ep
      rw [hnew] at hk; cases hk
      rw [hold q eq] at hl; rw [hhp q eq] at hq
      have := (h.blocks q l hq hl).1
      simp at e; omega
    · subst eq
      rw [hnew] at hl; cases hl
      rw [hold p ep] at hk; rw [hhp p ep] at hp
      have := (h.blocks p k hp hk).1
      simp at e; omega
    · rw [hold p ep] at hk; rw [hhp p ep] at hp; rw [hold q eq] at hl; rw [hhp q eq] at hq
      exact h.inj p q k l hp hq hk hl e
theorem Sim.modify (h : Sim B β s tm w) {p : Name} {ob ob' : Ob} (hp : s.hp p = some ob) (hl : ob.like ob') {w' : World} (hio : wio w' = wio w) (hsz : w'.heap.size = w.heap.size)
    (hw : ∀ b, (∀ k, β p = some k → b ≠ k.b) → w'.heap[b]? = w.heap[b]?)
    (hO : (∀ v x, VR w.heap (s.own B.A β) s.used s.hp β v x → VR w'.heap ((s.set p (some ob')).own B.A β) s.used (s.set p (some ob')).hp β v x) →
      (∀ v d, Rep w.heap (s.own B.A β) v d → Rep w'.heap ((s.set p (some ob')).own B.A β) v d) →
      OR w'.heap ((s.set p (some ob')).own B.A β) s.used (s.set p (some ob')).hp β p ob') :
    Sim B β (s.set p (some ob')) tm w' ∧
      (∀ v x, VR w.heap (s.own B.A β) s.used s.hp β v x → VR w'.heap ((s.set p (some ob')).own B.A β) s.used (s.set p (some ob')).hp β v x) := by
  have hne : ∀ q, (s.set p (some ob')).hp q ≠ none ↔ s.hp q ≠ none := by
    intro q
    by_cases e : q = p
    · subst e; simp [St.set, updP, hp]
    · simp [St.set, updP, e]
  have hown : (s.set p (some ob')).own B.A β = s.own B.A β := by
    funext b
    refine propext (or_congr_right ⟨?_, ?_⟩)
    · rintro ⟨q, k, hq, hk, e⟩; exact ⟨q, k, (hne q).1 hq, hk, e⟩
    · rintro ⟨q, k, hq, hk, e⟩; exact ⟨q, k, (hne q).2 hq, hk, e⟩
  rw [hown] at hO ⊢
  have hmine : ∀ b, ¬ s.own B.A β b → w'.heap[b]? = w.heap[b]? := fun b hb => hw b fun k hk e => hb (.inr ⟨p, k, by rw [hp]; simp, hk, e.symm⟩)
  have hr : ∀ v d, Rep w.heap (s.own B.A β) v d → Rep w'.heap (s.own B.A β) v d := fun v d hd => hd.mono (fun b hb _ => hmine b hb) (fun _ _ h => h)
  have hst : ∀ q, nm s.used q → Stays s.hp (s.set p (some ob')).hp β β q := by
    intro q _ o' ho'
    by_cases e : q = p
    · subst e
      have : o' = ob' := by simpa [St.set, updP] using ho'.symm
      subst this
      exact ⟨ob, hp, hl, rfl⟩
    · exact ⟨o', by simpa [St.set, updP, e] using ho', Ob.like_refl _, rfl⟩
  have hv : ∀ v x, VR w.heap (s.own B.A β) s.used s.hp β v x → VR w'.heap (s.own B.A β) s.used (s.set p (some ob')).hp β v x := fun v x hx => hx.mono hr (fun _ h => h) hst
  refine ⟨{ tms := h.tms, io := hio.trans h.io, size := by rw [hsz]; exact h.size, frame := ?_, slots := ?_, objs := ?_, blocks := ?_, inj := ?_, us := h.us, stay := h.stay }, hv⟩
  · intro b hb hn
    rw [hw b ?_]
    · exact h.frame b hb hn
    · intro k hk e
      obtain ⟨_, _, h3⟩ := h.blocks p k (by rw [hp]; simp) hk
      rcases h3 with h3 | h3
      · omega
      · exact hn (e ▸ h3)
  · intro i
    rw [hown]
    exact hv _ _ (h.slots i)
  · intro q o' ho'
    rw [hown]
    by_cases e : q = p
    · subst e
      have : o' = ob' := by simpa [St.set, updP] using ho'.symm
      subst this
      exact ⟨(h.objs q ob hp).1, hO hv hr⟩
    · have ho : s.hp q = some o' := by simpa [St.set, updP, e] using ho'
      obtain ⟨h1, h2⟩ := h.objs q o' ho
      refine ⟨h1, h2.mono hr (fun _ h => h) hst rfl fun k hk => hw k.b fun l hl' e' => ?_⟩
      exact e (h.inj q p k l (by rw [ho]; simp) (by rw [hp]; simp) hk hl' e')
  · intro q k hq hk
    rw [hsz]
    exact h.blocks q k ((hne q).1 hq) hk
  · intro q q' k l hq hq' hk hl' e
    exact h.inj q q' k l ((hne q).1 hq) ((hne q').1 hq') hk hl' e
theorem Sim.drop (h : Sim B β s tm w) (p : Name) : Sim B β (s.set p none) tm w := by
  have hsub : ∀ q o, (s.set p none).hp q = some o → s.hp q = some o := by
    intro q o ho
    by_cases e : q = p
    · subst e; simp [St.set, updP] at ho
    · simpa [St.set, updP, e] using ho
  have hne : ∀ q, (s.set p none).hp q ≠ none → s.hp q ≠ none := by
    intro q hq e
    cases ho : (s.set p none).hp q with
    | none => exact hq ho
    | some o => rw [hsub q o ho] at e; cases e
  have hr : ∀ v d, Rep w.heap (s.own B.A β) v d → Rep w.heap ((s.set p none).own B.A β) v d := fun v d hd => hd.mono (fun _ _ _ => rfl) (by
    rintro b _ (hA | ⟨q, k, hq, hk, e⟩)
    · exact .inl hA
    · exact .inr ⟨q, k, hne q hq, hk, e⟩)
  have hst : ∀ q, nm s.used q → Stays s.hp (s.set p none).hp β β q := fun q _ o' ho' => ⟨o', hsub q o' ho', Ob.like_refl _, rfl⟩
  refine { tms := h.tms, io := h.io, size := h.size, frame := h.frame, slots := fun i => (h.slots i).mono hr (fun _ h => h) hst, objs := ?_, blocks := fun q k hq hk => h.blocks q k (hne q hq) hk,
           inj := fun q q' k l hq hq' hk hl e => h.inj q q' k l (hne q hq) (hne q' hq') hk hl e, us := h.us, stay := h.stay }
  intro q o ho
  obtain ⟨h1, h2⟩ := h.objs q o (hsub q o ho)
  exact ⟨h1, h2.mono hr (fun _ h => h) hst rfl fun _ _ => rfl⟩
theorem Sim.un (h : Sim B β s tm w) (t : Nat) : Sim B β (s.put t .un) tm w := by
  refine { h with slots := fun i => ?_ }
  show VR w.heap (s.own B.A β) s.used s.hp β _ (updN s.fr t .un i)
  unfold updN
  split
  · exact .un _
  · exact h.slots i
end
end Go.Ab
namespace Go.Ab
inductive TK where
  | bad | oth | bool | int (k : IntKind) | str | ptr (e : Nat) | slice (e : Nat) | arr (n e : Nat) | map (k e : Nat) | struct (fs : List (Nat × Nat)) | func | ifc
structure TI where
  k : TK
  sz : Nat
  by' : Nat
  z : Option (List D)
def zd : Value → Option D
  | .int k n => some (.int k n)
  | .bool b => some (.bool b)
  | .string s => some (.str s.data.toList)
  | .pointer none => some .nilp
  | .slice none 0 0 => some .nils
  | .map none => some .nilm
  | .nilFunc => some .nilf
  | .nilIface => some .nili
  | _ => none
def tk : TypeDesc → TK
  | .bool => .bool
  | .int k => .int k
  | .string => .str
  | .pointer e => .ptr e
  | .slice e => .slice e
  | .array n e => .arr n e
  | .map k e => .map k e
  | .struct fs => .struct (fs.toList.map fun f => (f.offset, f.type))
  | .func _ _ _ => .func
  | .interface _ => .ifc
  | _ => .oth
def TK.agg : TK → Bool
  | .struct _ => true
  | .arr _ _ => true
  | _ => false
def TK.isBad : TK → Bool
  | .bad => true
  | _ => false
def _root_.Go.Program.ti (P : Program) (t : Nat) : TI :=
  match P.info? t, P.underlying t with
  | some i, some d => { k := tk d, sz := i.size, by' := i.bytes, z := i.zero.bind fun v => v.cells.toList.mapM zd }
  | _, _ => { k := .bad, sz := 0, by' := 0, z := none }
def TI.w (i : TI) : W := if i.k.agg then some i.sz else none
def TI.zero (i : TI) : Option D := i.z.bind fun cs => if i.k.agg then some (.agg cs) else match cs with | [d] => some d | _ => none
def TI.isW (i : TI) (w : W) : Bool := !i.k.isBad && match w with
  | none => !i.k.agg && i.sz == 1
  | some n => i.k.agg && i.sz == n
def cv : Value → AV
  | .int k n => .d (.int k n)
  | .bool b => .d (.bool b)
  | .string s => .d (.str s.data.toList)
  | .pointer none => .d .nilp
  | .slice none 0 0 => .d .nils
  | .map none => .d .nilm
  | .nilFunc => .d .nilf
  | .nilIface => .d .nili
  | _ => .un
def ev (s : St) : Operand → AV
  | .tmp t => s.fr t
  | .const v => cv v
  | .global _ => .un
  | .func f => .clo f []
def allD : List AV → Option (List D)
  | [] => some []
  | .d x :: r => (allD r).map (x :: ·)
  | _ :: _ => none
def mkAgg (cs : List AV) : AV :=
  match allD cs with
  | some ds => .d (.agg ds)
  | none => .agg cs
def cellsD : D → Option (List AV)
  | .agg ds => some (ds.map .d)
  | .int k n => some [.d (.int k n)]
  | .bool b => some [.d (.bool b)]
  | .str s => some [.d (.str s)]
  | .nilp => some [.d .nilp]
  | .nils => some [.d .nils]
  | .nilm => some [.d .nilm]
  | .nilf => some [.d .nilf]
  | .nili => some [.d .nili]
  | .sl w xs => some [.d (.sl w xs)]
  | .slx w xs => some [.d (.slx w xs)]
  | .ptr d => some [.d (.ptr d)]
  | .clo f c => some [.d (.clo f c)]
  | .ifc t d => some [.d (.ifc t d)]
  | .mpd c b k v => some [.d (.mpd c b k v)]
  | .yl l => some [.d (.yl l)]
def cellsA : AV → Option (List AV)
  | .d x => cellsD x
  | .agg cs => some cs
  | .vw p o l => some [.vw p o l]
  | .at p c => some [.at p c]
  | .el p i c => some [.el p i c]
  | .mp p => some [.mp p]
  | .it p => some [.it p]
  | .clo f c => some [.clo f c]
  | .un => none
  | .tup _ => none
def splice {α : Type} (l : List α) (c : Nat) (xs : List α) : List α := l.take c ++ (xs ++ l.drop (c + xs.length))
inductive R (α : Type) : Type 1 where
  | ok (a : α)
  | need (p : Prop) (r : R α)
  | no
def R.bind {α β : Type} : R α → (α → R β) → R β
  | .ok a, f => f a
  | .need p r, f => .need p (r.bind f)
  | .no, _ => .no
def R.ofO {α : Type} : Option α → R α
  | some a => .ok a
  | none => .no
def partD (i : TI) (d : D) (c : Nat) : Option D :=
  if i.k.isBad then none else match d with
  | .agg cs => if i.k.agg then (if c + i.sz ≤ cs.length then some (.agg ((cs.drop c).take i.sz)) else none) else cs[c]?
  | d => if i.k.agg then none else if c = 0 then some d else none
def partC (i : TI) (cs : List AV) (c : Nat) : R AV :=
  if i.k.isBad then .no else if i.k.agg then (if c + i.sz ≤ cs.length then .ok (mkAgg ((cs.drop c).take i.sz)) else .no) else R.ofO cs[c]?
def loadR (i : TI) (hp : Name → Option Ob) : AV → R AV
  | .at p c => match hp p with
    | some (.boxT _ cs) => partC i cs c
    | _ => .no
  | .el p j c => match hp p with
    | some (.arr _ xs) => R.ofO ((partD i (xs.getD j .nilp) c).map .d)
    | _ => .no
  | .d (.ptr d) => R.ofO ((partD i d 0).map .d)
  | _ => .no
def okWb : W → D → Bool
  | none, d => d.scal
  | some n, .agg cs => cs.length == n && cs.all D.scal
  | some _, _ => false
def storeEl (i : TI) (w : W) (xs : List D) (j c : Nat) (y : D) : Option (List D) :=
  if i.k.isBad then none
  else if i.isW w && okWb w y && c == 0 then some (xs.set j y)
  else if i.k.agg then none
  else match xs.getD j .nilp with
    | .agg cs => if y.scal ∧ c < cs.length ∧ i.sz = 1 then some (xs.set j (.agg (cs.set c y))) else none
    | _ => none
def storeR (i : TI) (s : St) (x v : AV) : R St :=
  match x with
  | .at p c =>
    match s.hp p with
    | some (.boxT ty cs) => match cellsA v with
      | some vs => if i.k.isBad = false ∧ vs.length = i.sz ∧ c + i.sz ≤ cs.length then .ok (s.set p (some (.boxT ty (splice cs c vs)))) else .no
      | none => .no
    | _ => .no
  | .el p j c =>
    match s.hp p, v with
    | some (.arr w xs), .d y => match storeEl i w xs j c y with
      | some ys => .ok (s.set p (some (.arr w ys)))
      | none => .no
    | _, _ => .no
  | _ => .no
def fieldAddrR (i : TI) (tf : Nat → TI) (hp : Name → Option Ob) (x : AV) (f : Nat) : R AV :=
  match i.k with
  | .struct fs =>
    match fs[f]? with
    | some (o, t) =>
      if (tf t).sz = 0 then .no else
        match x with
        | .at p c => match hp p with
          | some (.boxT _ _) => .ok (.at p (c + o))
          | _ => .no
        | .el p j c => match hp p with
          | some (.arr _ _) => .ok (.el p j (c + o))
          | _ => .no
        | .d (.ptr (.agg cs)) => R.ofO ((partD (tf t) (.agg cs) o).map fun d => .d (.ptr d))
        | _ => .no
    | none => .no
  | _ => .no
def fieldR (i : TI) (tf : Nat → TI) (x : AV) (f : Nat) : R AV :=
  match i.k with
  | .struct fs =>
    match fs[f]? with
    | some (o, t) =>
      match x with
      | .d (.agg cs) => R.ofO ((partD (tf t) (.agg cs) o).map .d)
      | .agg cs => partC (tf t) cs o
      | _ => .no
    | none => .no
  | _ => .no
def indexAddrR (i : TI) (tf : Nat → TI) (hp : Name → Option Ob) (x j : AV) : R AV :=
  match i.k, x, j with
  | .slice e, .vw p o l, .d (.int _ n) =>
    match hp p with
    | some (.arr w _) => if (tf e).isW w then .need (0 ≤ n ∧ n < l) (.ok (.el p (o + n.toNat) 0)) else .no
    | _ => .no
  | .slice e, .d (.sl w xs), .d (.int _ n) => if (tf e).isW w then .need (0 ≤ n ∧ n < xs.length) (.ok (.d (.ptr (xs.getD n.toNat .nilp)))) else .no
  | .arr l e, .el p i c, .d (.int _ n) =>
    match hp p with
    | some (.arr w xs) => if (tf e).isW w = true ∧ c = 0 ∧ i + l ≤ xs.length ∧ 1 < l then .need (0 ≤ n ∧ n < l) (.ok (.el p (i + n.toNat) 0)) else .no
    | _ => .no
  | _, _, _ => .no
def indexR (i : TI) (x j : AV) : R AV :=
  match i.k, x, j with
  | .str, .d (.str l), .d (.int _ n) => .need (0 ≤ n ∧ n < l.length) (.ok (.d (.int .u8 (l.getD n.toNat 0).toNat)))
  | _, _, _ => .no
def loI (n : Int) (x : Option AV) : Option Int :=
  match x with
  | none => some n
  | some (.d (.int _ m)) => some m
  | _ => none
def sliceR (i : TI) (tf : Nat → TI) (hp : Name → Option Ob) (x : AV) (lo hi : Option AV) : R AV :=
  match i.k, x with
  | .str, .d (.str l) => match loI 0 lo, loI l.length hi with
    | some a, some b => .need (0 ≤ a ∧ a ≤ b ∧ b ≤ l.length) (.ok (.d (.str ((l.drop a.toNat).take (b.toNat - a.toNat)))))
    | _, _ => .no
  | .slice e, .d (.sl w xs) => if (tf e).isW w then match loI 0 lo, loI xs.length hi with
      | some a, some b => .need (0 ≤ a ∧ a ≤ b ∧ b ≤ xs.length) (.ok (.d (.sl w ((xs.drop a.toNat).take (b.toNat - a.toNat)))))
      | _, _ => .no
    else .no
  | .slice e, .vw p o n => match hp p with
    | some (.arr w _) => if (tf e).isW w then match loI 0 lo, loI n hi with
        | some a, some b => .need (0 ≤ a ∧ a ≤ b ∧ b ≤ n) (.ok (.vw p (o + a.toNat) (b.toNat - a.toNat)))
        | _, _ => .no
      else .no
    | _ => .no
  | .slice e, .d .nils => if (tf e).k.isBad then .no else match loI 0 lo, loI 0 hi with
    | some a, some b => .need (a = 0 ∧ b = 0) (.ok (.d .nils))
    | _, _ => .no
  | .arr l e, .el p i c => match hp p, lo, hi with
    | some (.arr w xs), none, none => if (tf e).isW w = true ∧ c = 0 ∧ i + l ≤ xs.length then .ok (.vw p i l) else .no
    | _, _, _ => .no
  | _, _ => .no
def bitI (op : BinOp) (k : IntKind) (x y : Int) : Int :=
  match op with
  | .and => k.wrap ((BitVec.ofInt k.bits x &&& BitVec.ofInt k.bits y).toNat)
  | .or => k.wrap ((BitVec.ofInt k.bits x ||| BitVec.ofInt k.bits y).toNat)
  | .xor => k.wrap ((BitVec.ofInt k.bits x ^^^ BitVec.ofInt k.bits y).toNat)
  | _ => k.wrap ((BitVec.ofInt k.bits x &&& ~~~BitVec.ofInt k.bits y).toNat)
def TK.isBool : TK → Bool
  | .bool => true
  | _ => false
def binD (tk : TK) (op : BinOp) (x y : D) : R D :=
  match op, x, y with
  | .and, .int i a, .int j b => if i = j then .ok (.int i (bitI .and i a b)) else .no
  | .or, .int i a, .int j b => if i = j then .ok (.int i (bitI .or i a b)) else .no
  | .xor, .int i a, .int j b => if i = j then .ok (.int i (bitI .xor i a b)) else .no
  | .andNot, .int i a, .int j b => if i = j then .ok (.int i (bitI .andNot i a b)) else .no
  | .shl, .int i a, .int _ b => .need (0 ≤ b) (.ok (.int i (i.wrap (a * 2 ^ min b.toNat i.bits))))
  | .shr, .int i a, .int _ b => .need (0 ≤ b) (.ok (.int i (a.fdiv (2 ^ min b.toNat i.bits))))
  | .eql, .bool a, .bool b => if tk.isBool then .ok (.bool (a == b)) else .no
  | .neq, .bool a, .bool b => if tk.isBool then .ok (.bool (!(a == b))) else .no
  | .add, .int i a, .int j b => if i = j then .ok (.int i (i.wrap (a + b))) else .no
  | .sub, .int i a, .int j b => if i = j then .ok (.int i (i.wrap (a - b))) else .no
  | .mul, .int i a, .int j b => if i = j then .ok (.int i (i.wrap (a * b))) else .no
  | .quo, .int i a, .int j b => if i = j then .need (b ≠ 0) (.ok (.int i (i.wrap (a.tdiv b)))) else .no
  | .rem, .int i a, .int j b => if i = j then .need (b ≠ 0) (.ok (.int i (a.tmod b))) else .no
  | .eql, .int i a, .int j b => if i = j then .ok (.bool (a == b)) else .no
  | .neq, .int i a, .int j b => if i = j then .ok (.bool (a != b)) else .no
  | .lss, .int i a, .int j b => if i = j then .ok (.bool (decide (a < b))) else .no
  | .leq, .int i a, .int j b => if i = j then .ok (.bool (decide (a ≤ b))) else .no
  | .gtr, .int i a, .int j b => if i = j then .ok (.bool (decide (b < a))) else .no
  | .geq, .int i a, .int j b => if i = j then .ok (.bool (decide (b ≤ a))) else .no
  | .add, .str a, .str b => .need (a.length + b.length ≤ 140737488355328) (.ok (.str (a ++ b)))
  | .eql, .str a, .str b => .ok (.bool (a == b))
  | .neq, .str a, .str b => .ok (.bool (!(a == b)))
  | .lss, .str a, .str b => .ok (.bool (Op.bytesLess a b))
  | .leq, .str a, .str b => .ok (.bool (Op.bytesLess a b || a == b))
  | .gtr, .str a, .str b => .ok (.bool (!(Op.bytesLess a b || a == b)))
  | .geq, .str a, .str b => .ok (.bool (!(Op.bytesLess a b)))
  | _, _, _ => .no
def dR (r : R D) : R AV := r.bind fun d => .ok (.d d)
def binR (tk : TK) (op : BinOp) (x y : AV) : R AV :=
  match x, y with
  | .d a, .d b => dR (binD tk op a b)
  | _, _ => .no
def unR (op : UnOp) (x : AV) : R AV :=
  match op, x with
  | .not, .d (.bool b) => .ok (.d (.bool (!b)))
  | .neg, .d (.int i a) => .ok (.d (.int i (i.wrap (0 - a))))
  | _, _ => .no
def pickR (c x y : AV) : R AV :=
  match c with
  | .d (.bool true) => .ok x
  | .d (.bool false) => .ok y
  | _ => .no
def lenR (i : TI) (hp : Name → Option Ob) (x : AV) : R AV :=
  match i.k, x with
  | .str, .d (.str l) => .ok (.d (.int .i64 l.length))
  | .slice _, .d (.sl _ xs) => .ok (.d (.int .i64 xs.length))
  | .slice _, .d .nils => .ok (.d (.int .i64 0))
  | .slice _, .vw p _ l => match hp p with
    | some (.arrT _ _ _) => .ok (.d (.int .i64 l))
    | _ => .no
  | .map _ _, .mp p => match hp p with
    | some (.map es) => .ok (.d (.int .i64 es.length))
    | _ => .no
  | _, _ => .no
def nilR (hp : Name → Option Ob) (x : AV) : R AV :=
  match x with
  | .at p c => (match hp p with
    | some (.boxT _ _) => .ok (.at p c)
    | _ => .no)
  | _ => .no
def maxR (x y : AV) : R AV :=
  match x, y with
  | .d (.int i a), .d (.int j b) => if i = j then .ok (.d (.int i (if b > a then b else a))) else .no
  | _, _ => .no
def minR (x y : AV) : R AV :=
  match x, y with
  | .d (.int i a), .d (.int j b) => if i = j then .ok (.d (.int i (if b < a then b else a))) else .no
  | _, _ => .no
def convR (a b : TI) (x : AV) : R AV :=
  match a.k, b.k, x with
  | .int _, .int j, .d (.int _ n) => .ok (.d (.int j (j.wrap n)))
  | .str, .str, .d (.str l) => .ok (.d (.str l))
  | _, _, _ => .no
def extractR (x : AV) (i : Nat) : R AV :=
  match x with
  | .tup vs => R.ofO vs[i]?
  | _ => .no
def buildG (tf : Nat → TI) (fs : List (Nat × Nat)) : List AV → List (Nat × AV) → Option (List AV)
  | cs, [] => some cs
  | cs, q :: r =>
    match fs[q.1]?, cellsA q.2 with
    | some (o, t), some vs => if vs.length = (tf t).sz ∧ o + vs.length ≤ cs.length then buildG tf fs (splice cs o vs) r else none
    | _, _ => none
def allGood (tf : Nat → TI) : List (Nat × Nat) → Bool
  | [] => true
  | q :: r => !(tf q.2).k.isBad && allGood tf r
def buildR (tf : Nat → TI) (i : TI) (parts : List (Nat × AV)) : R AV :=
  match i.k, i.z with
  | .struct fs, some zs => if allGood tf fs then R.ofO ((buildG tf fs (zs.map .d) parts).map mkAgg) else .no
  | .arr _ e, some zs => match parts with
    | [] => if (tf e).k.isBad then .no else .ok (mkAgg (zs.map .d))
    | _ => .no
  | _, _ => .no
def partsD : Nat → List (Nat × AV) → Option (List D)
  | _, [] => some []
  | i, q :: r => match q.2 with
    | .d x => if q.1 = i then (partsD (i + 1) r).map (x :: ·) else none
    | _ => none
def putR (n : Nat) (d : Option Nat) (s : St) (x : AV) : R St :=
  match d with
  | some t => if t < n then .ok (s.put t x) else .no
  | none => .ok s
def newR (n : Nat) (d : Option Nat) (s : St) (ob : Ob) (x : Name → AV) : R St :=
  match d with
  | some t => if t < n ∧ t ∉ s.used then .ok ((s.add t ob).put t (x [t])) else .no
  | none => .no
def listOf (w : W) (hp : Name → Option Ob) : AV → Option (List D)
  | .vw p o l => match hp p with
    | some (.arrT _ w' ys) => if w' = w then some ((ys.drop o).take l) else none
    | _ => none
  | .d (.sl w' ys) => if w' = w then some ys else none
  | .d .nils => some []
  | _ => none
def TI.zOk (i : TI) : Bool := match i.z with
  | some z => z.length == i.sz
  | none => false
def TI.by1 (i : TI) : Nat := if i.by' = 0 then 1 else i.by'
def appendR (n : Nat) (e : TI) (d : Option Nat) (s : St) (x y : AV) : R St :=
  match listOf e.w s.hp y, x with
  | some ys, .d .nils => .need (ys.length * e.by1 ≤ 140737488355328) (newR n d s (.arr e.w ys) (.vw · 0 ys.length))
  | some ys, .vw p o l =>
    match s.hp p with
    | some (.arr w xs) => if w = e.w then .need ((l + ys.length) * e.by1 ≤ 140737488355328) (newR n d (s.set p none) (.arr w ((xs.drop o).take l ++ ys)) (.vw · 0 (l + ys.length))) else .no
    | _ => .no
  | _, _ => .no
def appendT (ty : Option Nat) (n : Nat) (e : TI) (d : Option Nat) (s : St) (x y : AV) : R St :=
  match listOf e.w s.hp y, x with
  | some ys, .d .nils => .need (ys.length * e.by1 ≤ 140737488355328) (newR n d s (.arrT ty e.w ys) (.vw · 0 ys.length))
  | some ys, .vw p o l =>
    match s.hp p with
    | some (.arrT ty' w xs) => if ty' = ty ∧ w = e.w then .need ((l + ys.length) * e.by1 ≤ 140737488355328) (newR n d (s.set p none) (.arrT ty w ((xs.drop o).take l ++ ys)) (.vw · 0 (l + ys.length))) else .no
    | _ => .no
  | _, _ => .no
theorem appendR_T (n : Nat) (e : TI) (d : Option Nat) (s : St) (x y : AV) : appendR n e d s x y = appendT none n e d s x y := by
  unfold appendR appendT
  cases listOf e.w s.hp y with
  | none => rfl
  | some ys =>
    cases x with
    | vw p o l =>
      simp only
      cases s.hp p with
      | none => rfl
      | some ob =>
        cases ob with
        | arrT ty w xs => cases ty <;> simp
        | _ => rfl
    | d z => cases z <;> rfl
    | _ => rfl
def makeFuncR (fn : Fn) (first : List Operand) (caps : List AV) : R AV :=
  match fn, first with
  | .func f, [] => .ok (.clo f caps)
  | _, _ => .no
def makeSliceR (n : Nat) (i : TI) (tf : Nat → TI) (d : Option Nat) (s : St) (l c : AV) : R St :=
  match i.k, l, c with
  | .slice e, .d (.int .i64 a), .d (.int .i64 b) =>
    match (tf e).zero with
    | some z => if ((tf e).isW (tf e).w && okWb (tf e).w z) = false then .no else .need (0 ≤ a ∧ a ≤ b ∧ b * (tf e).by' ≤ 140737488355328 ∧ b ≤ 140737488355328) (newR n d s (.arr (tf e).w (List.replicate a.toNat z)) (.vw · 0 a.toNat))
    | none => .no
  | _, _, _ => .no
def builtinR (tf : Nat → TI) (n : Nat) (b : Builtin) (args : List AV) (ts : List Nat) (d : Option Nat) (s : St) : R St :=
  match b, args with
  | .len, [x] => match ts with
    | [t] => (lenR (tf t) s.hp x).bind (putR n d s)
    | _ => .no
  | .max, [x, y] => (maxR x y).bind (putR n d s)
  | .min, [x, y] => (minR x y).bind (putR n d s)
  | .append, [x, y] =>
    match ts with
    | [t, t'] => if t ≠ t' then .no else match (tf t).k with
      | .slice e => if (tf e).zOk ∧ (tf e).isW (tf e).w then appendR n (tf e) d s x y else .no
      | _ => .no
    | _ => .no
  | _, _ => .no
def isB (tf : Nat → TI) (t : Nat) : Bool :=
  match (tf t).k with
  | .struct [(_, x), (_, _)] => match (tf x).k with
    | .ptr z => z == t
    | _ => false
  | _ => false
def anyB (tf : Nat → TI) : List (Nat × Nat) → Bool
  | [] => false
  | q :: r => if isB tf q.2 then true else anyB tf r
def tagT (tf : Nat → TI) (t : Nat) : Option Nat :=
  match (tf t).k with
  | .struct fs => if isB tf t then some t else if anyB tf fs then some t else none
  | _ => none
theorem tagT_getD (tf : Nat → TI) (t : Nat) : (tagT tf t).getD t = t := by
  unfold tagT
  split
  · split
    · rfl
    split <;> rfl
  · rfl
def sliceE : TK → Option Nat
  | .slice e => some e
  | _ => none
section
variable (tf : Nat → TI) (n : Nat)
def opR (o : Op) (d : Option Nat) (s : St) : R St :=
  match o with
  | .move x => putR n d s (ev s x)
  | .assign x => putR n d s (ev s x)
  | .pick c a b => (pickR (ev s c) (ev s a) (ev s b)).bind (putR n d s)
  | .alloc e => match (tf e).z with
    | some cs => newR n d s (.boxT (tagT tf e) (cs.map .d)) (.at · 0)
    | none => .no
  | .box _ x => match cellsA (ev s x) with
    | some cs => newR n d s (.box cs) (.at · 0)
    | none => .no
  | .build t parts => (buildR tf (tf t) (parts.toList.map fun q => (q.1, ev s q.2))).bind (putR n d s)
  | .buildSlice t l parts =>
    match sliceE (tf t).k, partsD 0 (parts.toList.map fun q => (q.1, ev s q.2)) with
    | some e, some xs => if xs.length = l ∧ (tf e).z.isSome ∧ (tf e).isW (tf e).w ∧ xs.all (okWb (tf e).w) ∧ l * (tf e).sz ≤ 16777216 then newR n d s (.arr (tf e).w xs) (.vw · 0 l) else .no
    | _, _ => .no
  | .load t x => (loadR (tf t) s.hp (ev s x)).bind (putR n d s)
  | .store t x v => (storeR (tf t) s (ev s x) (ev s v)).bind fun s' => putR n d s' .un
  | .fieldAddr t x f => (fieldAddrR (tf t) tf s.hp (ev s x) f).bind (putR n d s)
  | .field t x f => (fieldR (tf t) tf (ev s x) f).bind (putR n d s)
  | .indexAddr t x j => (indexAddrR (tf t) tf s.hp (ev s x) (ev s j)).bind (putR n d s)
  | .index t x j => (indexR (tf t) (ev s x) (ev s j)).bind (putR n d s)
  | .slice t x lo hi mx => match mx with
    | none => (sliceR (tf t) tf s.hp (ev s x) (lo.map (ev s)) (hi.map (ev s))).bind (putR n d s)
    | some _ => .no
  | .binOp op t x y _ => (binR (tf t).k op (ev s x) (ev s y)).bind (putR n d s)
  | .unOp op _ x => (unR op (ev s x)).bind (putR n d s)
  | .convert a b x => (convR (tf a) (tf b) (ev s x)).bind (putR n d s)
  | .extract x i => (extractR (ev s x) i).bind (putR n d s)
  | .nilCheck x => (nilR s.hp (ev s x)).bind (putR n d s)
  | .makeFunc fn first caps => (makeFuncR fn first.toList (caps.toList.map (ev s))).bind (putR n d s)
  | .makeSlice t l c => makeSliceR n (tf t) tf d s (ev s l) (ev s c)
  | .call c => match c.callee with
    | .builtin b => builtinR tf n b (c.args.toList.map (ev s)) c.argTypes.toList d s
    | _ => .no
  | _ => .no
end
end Go.Ab
namespace Go.Ab
inductive It where
  | code (c : Code)
  | ops (all : Array Oper) (r : List Oper)
  | blk (i : Nat)
def msz : Code → Nat
  | .region _ ops _ => ops.toList.length + 2
  | .seq a b => msz a + msz b + 1
  | .cond _ a b => msz a + msz b + 1
  | .block _ b => msz b + 2
  | _ => 1
def It.msz : It → Nat
  | .code c => Ab.msz c
  | .ops _ r => r.length + 1
  | .blk _ => 1
def kmsz : List It → Nat
  | [] => 0
  | i :: k => i.msz + kmsz k
theorem msz_pos (c : Code) : 0 < msz c := by cases c <;> simp [msz]
theorem It.msz_pos (i : It) : 0 < i.msz := by cases i <;> simp [It.msz, Ab.msz_pos]
def exitK (i : Nat) : List It → Option (List It)
  | [] => none
  | .blk j :: k => if j = i then some k else exitK i k
  | _ :: k => exitK i k
theorem exitK_le (i : Nat) : ∀ (k k' : List It), exitK i k = some k' → kmsz k' ≤ kmsz k
  | [], k', h => by cases h
  | .blk j :: k, k', h => by
    simp only [exitK] at h
    split at h
    · cases h; simp [kmsz]
    · have := exitK_le i k k' h; simp [kmsz]; omega
  | .code c :: k, k', h => by have := exitK_le i k k' h; simp [kmsz]; omega
  | .ops _ r :: k, k', h => by have := exitK_le i k k' h; simp [kmsz]; omega
def R.run : R St → (St → Prop) → Prop → Prop
  | .ok s, f, _ => f s
  | .need p r, f, z => p ∧ r.run f z
  | .no, _, z => z
structure Cf where
  n : Nat
  ro : Option Nat
  G : List (Nat × Obj)
  U : List Nat
def Cf.fits (c : Cf) (B : Base) : Prop := B.n = c.n ∧ B.U0 = c.U ∧ B.G = c.G
section
variable (P : Program) (cf : Cf)
def Fw (ro : Option Nat) : Fence := { Fence.wide with round := ro }
def hold (Q : Exit → Act → World → Prop) : List It → Exit → Act → World → Prop
  | [], e, a, w => Q e a w
  | .code c :: k, e, a, w => match e with
    | .normal => c.wpIn (Fw cf.ro) 0 P (hold Q k) a w
    | e => hold Q k e a w
  | .ops all r :: k, e, a, w => match e with
    | .normal => ∀ (l : List Nat), l.map (all[·]?) = r.map some → wpOpsIn (Fw cf.ro) 0 P all (hold Q k) l a w
    | e => hold Q k e a w
  | .blk i :: k, e, a, w => match e with
    | .normal => hold Q k .normal a w
    | .exit j => if j = i then hold Q k .normal a w else hold Q k (.exit j) a w
    | e => hold Q k e a w
def lift (B : Base) (ds : List Deferred) (Q : Exit → St → Prop) (e : Exit) (a : Act) (w : World) : Prop :=
  a.defers = ds ∧ ∃ s β, Q e s ∧ Sim B β s a.tmps w
def ARun (k : List It) (Q : Exit → St → Prop) (s : St) : Prop :=
  ∀ (B : Base), cf.fits B → ∀ ds β a w, a.defers = ds → Sim B β s a.tmps w → hold P cf (lift B ds Q) k .normal a w
def AOk (o : Oper) (s : St) (k : List It) (Q : Exit → St → Prop) : Prop :=
  ∀ (B : Base), cf.fits B → ∀ ds β a w, a.defers = ds → Sim B β s a.tmps w → ∀ Q', o.wpIn (Fw cf.ro) 0 P a w (fun a' w' => a'.defers = ds ∧ ∃ s' β', ARun P cf k Q s' ∧ Sim B β' s' a'.tmps w') Q'
def ACk (c : Code) (s : St) (k : List It) (Q : Exit → St → Prop) : Prop := ARun P cf (.code c :: k) Q s
def guardV (all : Array Oper) (j : Nat) (s : St) : Option (Nat × AV) :=
  match all[j]? with
  | some o => o.dst.map fun t => (t, s.fr t)
  | none => none
def run : List It → (Exit → St → Prop) → St → Prop
  | [], Q, s => Q .normal s
  | .blk _ :: k, Q, s => run k Q s
  | .ops _ [] :: k, Q, s => run k Q s
  | .ops all (o :: r) :: k, Q, s =>
    match o.guard with
    | none => (opR P.ti cf.n o.op o.dst s).run (fun s' => run (.ops all r :: k) Q s') (AOk P cf o s (.ops all r :: k) Q)
    | some (j, want) =>
      match guardV all j s with
      | some (t, .d (.bool b)) =>
        (b = want → (opR P.ti cf.n o.op o.dst (s.put t (.d (.bool want)))).run (fun s' => run (.ops all r :: k) Q s') (AOk P cf { o with guard := none } (s.put t (.d (.bool want))) (.ops all r :: k) Q)) ∧
        (b = !want → (putR cf.n o.dst (s.put t (.d (.bool (!want)))) (.tup [])).run (fun s' => run (.ops all r :: k) Q s') False)
      | some (_, .tup []) => (putR cf.n o.dst s (.tup [])).run (fun s' => run (.ops all r :: k) Q s') False
      | _ => False
  | .code .skip :: k, Q, s => run k Q s
  | .code (.region _ ops false) :: k, Q, s => run (.ops ops ops.toList :: k) Q s
  | .code (.region i ops true) :: k, Q, s => ACk P cf (.region i ops true) s k Q
  | .code (.seq a b) :: k, Q, s => run (.code a :: .code b :: k) Q s
  | .code (.cond c a b) :: k, Q, s =>
    match ev s c with
    | .d (.bool t) => (t = true → run (.code a :: k) Q s) ∧ (t = false → run (.code b :: k) Q s)
    | _ => False
  | .code (.block i c) :: k, Q, s => run (.code c :: .blk i :: k) Q s
  | .code (.exit i) :: k, Q, s => match _h : exitK i k with
    | some k' => run k' Q s
    | none => Q (.exit i) s
  | .code .ret :: _, Q, s => Q .ret s
  | .code c :: k, Q, s => ACk P cf c s k Q
termination_by k => kmsz k
decreasing_by
  all_goals simp only [kmsz, It.msz, msz, List.length_cons, List.length_nil]
  all_goals first
    | omega
    | (have := msz_pos ‹_›; omega)
    | (have := exitK_le _ _ _ _h; omega)
end
end Go.Ab
namespace Go.Ab
section
variable (P : Program) (cf : Cf)
def stp (r : R St) (o : Oper) (s : St) (k : List It) (Q : Exit → St → Prop) : Prop := r.run (fun s' => run P cf k Q s') (AOk P cf o s k Q)
def gd (v : Option (Nat × AV)) (want : Bool) (all : Array Oper) (o : Oper) (r : List Oper) (s : St) (k : List It) (Q : Exit → St → Prop) : Prop :=
  match v with
  | some (t, .d (.bool b)) =>
    (b = want → stp P cf (opR P.ti cf.n o.op o.dst (s.put t (.d (.bool want)))) { o with guard := none } (s.put t (.d (.bool want))) (.ops all r :: k) Q) ∧
    (b = !want → (putR cf.n o.dst (s.put t (.d (.bool (!want)))) (.tup [])).run (fun s' => run P cf (.ops all r :: k) Q s') False)
  | some (_, .tup []) => (putR cf.n o.dst s (.tup [])).run (fun s' => run P cf (.ops all r :: k) Q s') False
  | _ => False
def cnd (v : AV) (a b : Code) (k : List It) (Q : Exit → St → Prop) (s : St) : Prop :=
  match v with
  | .d (.bool t) => (t = true → run P cf (.code a :: k) Q s) ∧ (t = false → run P cf (.code b :: k) Q s)
  | _ => False
def goK (o : Option (List It)) (i : Nat) (Q : Exit → St → Prop) (s : St) : Prop :=
  match o with
  | some k => run P cf k Q s
  | none => Q (.exit i) s
variable {P cf}
variable (Q : Exit → St → Prop) (s : St) (k : List It) (o : Oper) (x : Operand) (a b : Code) (i : Nat)
theorem run_nil : run P cf [] Q s = Q .normal s := by rw [run]
theorem run_blk : run P cf (.blk i :: k) Q s = run P cf k Q s := by rw [run]
theorem run_ops_nil (all : Array Oper) : run P cf (.ops all [] :: k) Q s = run P cf k Q s := by rw [run]
theorem run_ops (all : Array Oper) (d : Option Nat) (op : Op) (t : Nat) (p : String) (e : Array Edge) (r : List Oper) :
    run P cf (.ops all ({ dst := d, op := op, type := t, pos := p, after := e, guard := none } :: r) :: k) Q s =
      stp P cf (opR P.ti cf.n op d s) { dst := d, op := op, type := t, pos := p, after := e, guard := none } s (.ops all r :: k) Q := by rw [run]; rfl
theorem run_ops_g (all : Array Oper) (d : Option Nat) (op : Op) (t : Nat) (p : String) (e : Array Edge) (j : Nat) (want : Bool) (r : List Oper) :
    run P cf (.ops all ({ dst := d, op := op, type := t, pos := p, after := e, guard := some (j, want) } :: r) :: k) Q s =
      gd P cf (guardV all j s) want all { dst := d, op := op, type := t, pos := p, after := e, guard := some (j, want) } r s k Q := by rw [run]; rfl
theorem run_skip : run P cf (.code .skip :: k) Q s = run P cf k Q s := by rw [run]
theorem run_region (ops : List Oper) : run P cf (.code (.region i ops.toArray false) :: k) Q s = run P cf (.ops ops.toArray ops :: k) Q s := by rw [run]
theorem run_draw (ops : Array Oper) : run P cf (.code (.region i ops true) :: k) Q s = ACk P cf (.region i ops true) s k Q := by rw [run]
theorem run_seq : run P cf (.code (.seq a b) :: k) Q s = run P cf (.code a :: .code b :: k) Q s := by rw [run]
theorem run_cond : run P cf (.code (.cond x a b) :: k) Q s = cnd P cf (ev s x) a b k Q s := by rw [run]; rfl
theorem run_block : run P cf (.code (.block i a) :: k) Q s = run P cf (.code a :: .blk i :: k) Q s := by rw [run]
theorem run_exit : run P cf (.code (.exit i) :: k) Q s = goK P cf (exitK i k) i Q s := by
  rw [run]; unfold goK; split <;> simp_all
theorem run_ret : run P cf (.code .ret :: k) Q s = Q .ret s := by rw [run]
theorem run_loop : run P cf (.code (.loop a) :: k) Q s = ACk P cf (.loop a) s k Q := by rw [run]; all_goals simp
theorem stp_ok (s' : St) : stp P cf (.ok s') o s k Q = run P cf k Q s' := rfl
theorem stp_need (p : Prop) (r : R St) : stp P cf (.need p r) o s k Q = (p ∧ stp P cf r o s k Q) := rfl
theorem stp_no : stp P cf .no o s k Q = AOk P cf o s k Q := rfl
theorem run_putR_some (t : Nat) (h : t < cf.n) (v : AV) (f : St → Prop) (z : Prop) : (putR cf.n (some t) s v).run f z = f (s.put t v) := by simp [putR, h, R.run]
def gV (s : St) : Option Oper → Option (Nat × AV)
  | some o => o.dst.map fun t => (t, s.fr t)
  | none => none
theorem guardV_eq (all : List Oper) (j : Nat) : guardV all.toArray j s = gV s all[j]? := by
  simp only [guardV, List.getElem?_toArray]; cases all[j]? <;> rfl
end
section
variable (s : St) (t i : Nat) (v : AV) (ob : Ob) (p q : Name) (oo : Option Ob)
def lkA {α β : Type} [DecidableEq α] (z : β) : List (α × β) → α → β
  | [], _ => z
  | q :: r, i => if i = q.1 then q.2 else lkA z r i
def mk (fr : List (Nat × AV)) (hp : List (Name × Ob)) (used : List Nat) : St :=
  { fr := lkA .un fr, hp := lkA none (hp.map fun q => (q.1, some q.2)), used := used }
theorem mk_fr (fr hp used) : (mk fr hp used).fr i = lkA .un fr i := rfl
theorem mk_hp (fr hp used) : (mk fr hp used).hp p = lkA none (hp.map fun q => (q.1, some q.2)) p := rfl
theorem mk_used (fr hp used) : (mk fr hp used).used = used := rfl
theorem lkA_nil {α β : Type} [DecidableEq α] (z : β) (i : α) : lkA z [] i = z := rfl
theorem lkA_cons {α β : Type} [DecidableEq α] (z : β) (q : α × β) (r) (i : α) : lkA z (q :: r) i = if i = q.1 then q.2 else lkA z r i := rfl
end
end Go.Ab
namespace Go.Ab
section
variable {P : Program} {t : Nat}
theorem ti_good (h : (P.ti t).k.isBad = false) : ∃ i d, P.info? t = some i ∧ P.underlying t = some d ∧ (P.ti t).k = tk d ∧ (P.ti t).sz = i.size ∧ (P.ti t).by' = i.bytes ∧
    (P.ti t).z = i.zero.bind fun v => v.cells.toList.mapM zd := by
  unfold Program.ti at h ⊢
  split
  · rename_i i d hi hd
    exact ⟨i, d, hi, hd, rfl, rfl, rfl, rfl⟩
  · rename_i hne
    split at h
    · rename_i i d hi hd; exact absurd hd (hne i d hi)
    · simp [TK.isBad] at h
theorem ti_slice {e : Nat} (h : (P.ti t).k = .slice e) : P.underlying t = some (.slice e) := by
  obtain ⟨i, d, _, hd, hk, _⟩ := ti_good (P := P) (t := t) (by rw [h]; rfl)
  rw [h] at hk; rw [hd]
  cases d <;> simp [tk] at hk
  rw [hk]
theorem ti_str (h : (P.ti t).k = .str) : P.underlying t = some .string := by
  obtain ⟨i, d, _, hd, hk, _⟩ := ti_good (P := P) (t := t) (by rw [h]; rfl)
  rw [h] at hk; rw [hd]
  cases d <;> simp [tk] at hk
  rfl
theorem ti_int {k : IntKind} (h : (P.ti t).k = .int k) : P.underlying t = some (.int k) := by
  obtain ⟨i, d, _, hd, hk, _⟩ := ti_good (P := P) (t := t) (by rw [h]; rfl)
  rw [h] at hk; rw [hd]
  cases d <;> simp [tk] at hk
  rw [hk]
theorem ti_map {a b : Nat} (h : (P.ti t).k = .map a b) : P.underlying t = some (.map a b) := by
  obtain ⟨i, d, _, hd, hk, _⟩ := ti_good (P := P) (t := t) (by rw [h]; rfl)
  rw [h] at hk; rw [hd]
  cases d <;> simp [tk] at hk
  rw [hk.1, hk.2]
theorem ti_struct {fs : List (Nat × Nat)} (h : (P.ti t).k = .struct fs) : ∃ fl : Array Field, P.underlying t = some (.struct fl) ∧ fs = fl.toList.map fun f => (f.offset, f.type) := by
  obtain ⟨i, d, _, hd, hk, _⟩ := ti_good (P := P) (t := t) (by rw [h]; rfl)
  rw [h] at hk; rw [hd]
  cases d <;> simp [tk] at hk
  exact ⟨_, rfl, hk⟩
theorem run_isAgg (h : (P.ti t).k.isBad = false) (w : World) : (isAgg t).run P w = .ok (P.ti t).k.agg w := by
  obtain ⟨i, d, _, hd, hk, _⟩ := ti_good h
  rw [hk]
  cases d <;> simp [isAgg, run_underlying hd, tk, TK.agg]
theorem run_sizeOf (h : (P.ti t).k.isBad = false) (w : World) : (sizeOf t).run P w = .ok (P.ti t).sz w := by
  obtain ⟨i, d, hi, hd, _, hs, _⟩ := ti_good h
  simp [sizeOf, typeInfo, hi, hs]
theorem zd_good {z : List D} (h : (P.ti t).z = some z) : (P.ti t).k.isBad = false := by
  unfold Program.ti at h ⊢
  split
  · rename_i i d _ _
    cases d <;> rfl
  · split at h <;> simp_all
end
theorem zd_rep {H : Array Obj} {own : Nat → Prop} {v : Value} {d : D} (h : zd v = some d) : Rep H own v d ∧ d.scal = true ∧ v.oneCell' = true := by
  cases v with
  | bool b => cases h; exact ⟨.bool b, rfl, rfl⟩
  | int k n => cases h; exact ⟨.int k n, rfl, rfl⟩
  | string s => cases h; exact ⟨.str s.data.toList, rfl, rfl⟩
  | pointer a => cases a <;> cases h; exact ⟨.nilp, rfl, rfl⟩
  | slice a l c => cases a <;> cases l <;> cases c <;> cases h; exact ⟨.nils, rfl, rfl⟩
  | map r => cases r <;> cases h; exact ⟨.nilm, rfl, rfl⟩
  | nilFunc => cases h; exact ⟨.nilf, rfl, rfl⟩
  | nilIface => cases h; exact ⟨.nili, rfl, rfl⟩
  | _ => cases h
theorem mapM_zd {H : Array Obj} {own : Nat → Prop} : ∀ {vs : List Value} {ds : List D}, vs.mapM zd = some ds → ds.length = vs.length ∧ (∀ d ∈ ds, d.scal = true) ∧ (∀ v ∈ vs, v.oneCell' = true) ∧
    ∀ (j : Nat) (d : D), ds[j]? = some d → ∃ v, vs[j]? = some v ∧ Rep H own v d
  | [], ds, h => by simp at h; subst h; simp
  | v :: r, ds, h => by
    simp only [List.mapM_cons, Option.bind_eq_bind, Option.bind_eq_some_iff] at h
    obtain ⟨d, hd, ds', hr, h⟩ := h
    cases h
    obtain ⟨h1, h2, h3⟩ := zd_rep (H := H) (own := own) hd
    obtain ⟨g1, g2, g3, g4⟩ := mapM_zd (H := H) (own := own) hr
    refine ⟨by simp [g1], by simpa using ⟨h2, g2⟩, by simpa using ⟨h3, g3⟩, fun j d' hj => ?_⟩
    cases j with
    | zero => simp at hj; subst hj; exact ⟨v, rfl, h1⟩
    | succ j => exact g4 j d' (by simpa using hj)
section
variable {B : Base} {β : Name → Option Blk} {s : St} {a : Act} {w : World}
theorem cv_rep {H own used hp} {β : Name → Option Blk} (v : Value) : VR H own used hp β v (cv v) := by
  cases v with
  | bool b => exact .d _ _ (.bool b)
  | int k n => exact .d _ _ (.int k n)
  | string s => exact .d _ _ (.str s.data.toList)
  | pointer a => cases a <;> first | exact .d _ _ .nilp | exact .un _
  | slice a l c => cases a <;> cases l <;> cases c <;> first | exact .d _ _ .nils | exact .un _
  | map r => cases r <;> first | exact .d _ _ .nilm | exact .un _
  | nilFunc => exact .d _ _ .nilf
  | nilIface => exact .d _ _ .nili
  | _ => exact .un _
theorem Sim.ev (h : Sim B β s a.tmps w) (x : Operand) : VR w.heap (s.own B.A β) s.used s.hp β (a.eval x) (ev s x) := by
  cases x with
  | tmp t => exact h.slots t
  | const v => exact cv_rep v
  | global g => exact .un _
  | func f => exact .clo f #[] [] rfl (fun i x hi => by simp at hi)
end
section
variable {H : Array Obj} {own : Nat → Prop} {used : List Nat} {hp : Name → Option Ob} {β : Name → Option Blk} {v : Value}
theorem VR.toD {x : D} (h : VR H own used hp β v (.d x)) : Rep H own v x := by cases h; assumption
theorem VR.int {k n} (h : VR H own used hp β v (.d (.int k n))) : v = .int k n := by cases h.toD; rfl
theorem VR.bool {b} (h : VR H own used hp β v (.d (.bool b))) : v = .bool b := by cases h.toD; rfl
theorem VR.str {l} (h : VR H own used hp β v (.d (.str l))) : v = .string ⟨l.toArray⟩ := by cases h.toD; rfl
theorem VR.nils (h : VR H own used hp β v (.d .nils)) : v = .slice none 0 0 := by cases h.toD; rfl
end
theorem allD_some : ∀ {cs : List AV} {ds : List D}, allD cs = some ds → cs = ds.map .d
  | [], ds, h => by simp [allD] at h; subst h; rfl
  | .d x :: r, ds, h => by
    simp only [allD, Option.map_eq_some_iff] at h
    obtain ⟨ds', hr, rfl⟩ := h
    simp [allD_some hr]
  | .un :: r, ds, h => by simp [allD] at h
  | .vw _ _ _ :: r, ds, h => by simp [allD] at h
  | .at _ _ :: r, ds, h => by simp [allD] at h
  | .el _ _ _ :: r, ds, h => by simp [allD] at h
  | .mp _ :: r, ds, h => by simp [allD] at h
  | .it _ :: r, ds, h => by simp [allD] at h
  | .agg _ :: r, ds, h => by simp [allD] at h
  | .tup _ :: r, ds, h => by simp [allD] at h
  | .clo _ _ :: r, ds, h => by simp [allD] at h
section
variable {H : Array Obj} {own : Nat → Prop} {used : List Nat} {hp : Name → Option Ob} {β : Name → Option Blk}
theorem VR.scal {v : Value} {d : D} (h1 : v.oneCell' = true) (h : VR H own used hp β v (.d d)) : d.scal = true := by
  have := h.toD
  cases this <;> first | rfl | simp [Value.oneCell'] at h1
theorem mkAgg_rep {vs : List Value} {cs : List AV} (hs : vs.length = cs.length) (h1 : ∀ v ∈ vs, v.oneCell' = true) (h : ∀ (i : Nat) v x, vs[i]? = some v → cs[i]? = some x → VR H own used hp β v x) :
    VR H own used hp β (.agg vs.toArray) (mkAgg cs) := by
  unfold mkAgg
  split
  · rename_i ds hd
    have e := allD_some hd
    subst e
    refine .d _ _ (.agg _ ds (by simpa using hs) (fun d hd' => ?_) (fun i d hi => ?_))
    · obtain ⟨i, hi⟩ := List.mem_iff_getElem?.1 hd'
      have hlt : i < vs.length := by rw [hs]; simp; exact (List.getElem?_eq_some_iff.1 hi).1
      exact VR.scal (h1 _ (List.getElem_mem hlt)) (h i _ (.d d) (List.getElem?_eq_getElem hlt) (by simp [hi]))
    · have hlt : i < vs.length := by rw [hs]; simp; exact (List.getElem?_eq_some_iff.1 hi).1
      have := (h i _ (.d d) (List.getElem?_eq_getElem hlt) (by simp [hi])).toD
      simpa [Array.getD_eq_getD_getElem?, hlt] using this
  · refine .agg _ cs (by simpa using hs) (by simpa using h1) (fun i x hi => ?_)
    have hlt : i < vs.length := by rw [hs]; exact (List.getElem?_eq_some_iff.1 hi).1
    have := h i _ x (List.getElem?_eq_getElem hlt) hi
    simpa [Array.getD_eq_getD_getElem?, hlt] using this
theorem cellsD_rep {v : Value} {d : D} {cs : List AV} (hc : cellsD d = some cs) (h : Rep H own v d) : v.cells.size = cs.length ∧ (∀ u ∈ v.cells, u.oneCell' = true) ∧
    ∀ i x, cs[i]? = some x → VR H own used hp β (v.cells.getD i undef) x := by
  cases d with
  | agg ds =>
    simp only [cellsD, Option.some.injEq] at hc; subst hc
    cases h with
    | agg vs ds hs hsc h =>
      refine ⟨by simpa [Value.cells] using hs, fun u hu => ?_, fun i x hi => ?_⟩
      · obtain ⟨i, hi⟩ := Array.mem_iff_getElem?.1 hu
        have hlt : i < ds.length := by rw [← hs]; exact (Array.getElem?_eq_some_iff.1 hi).1
        have := (h i _ (List.getElem?_eq_getElem hlt)).oneCell (hsc _ (List.getElem_mem hlt))
        have e : vs.getD i undef = u := by
          simp only [Value.cells] at hi
          simp [Array.getD_eq_getD_getElem?, hi]
        rwa [e] at this
      · simp only [List.getElem?_map, Option.map_eq_some_iff] at hi
        obtain ⟨d, hd, rfl⟩ := hi
        exact .d _ _ (h i d hd)
  | _ =>
    simp only [cellsD, Option.some.injEq] at hc; subst hc
    have h1 := h.oneCell rfl
    have e : v.cells = #[v] := by cases v <;> first | rfl | simp [Value.oneCell'] at h1
    rw [e]
    refine ⟨rfl, by simpa using h1, fun i x hi => ?_⟩
    cases i with
    | zero => simp at hi; subst hi; exact .d _ _ (by simpa using h)
    | succ i => simp at hi
theorem cellsA_rep {v : Value} {x : AV} {cs : List AV} (hc : cellsA x = some cs) (h : VR H own used hp β v x) :
    v.cells.size = cs.length ∧ (∀ u ∈ v.cells, u.oneCell' = true) ∧ ∀ i x, cs[i]? = some x → VR H own used hp β (v.cells.getD i undef) x := by
  have one : ∀ y : AV, cs = [y] → VR H own used hp β v y → v.oneCell' = true → v.cells.size = cs.length ∧ (∀ u ∈ v.cells, u.oneCell' = true) ∧ ∀ i x, cs[i]? = some x → VR H own used hp β (v.cells.getD i undef) x := by
    intro y hy hh h1
    subst hy
    have e : v.cells = #[v] := by cases v <;> first | rfl | simp [Value.oneCell'] at h1
    rw [e]
    refine ⟨rfl, by simpa using h1, fun i x hi => ?_⟩
    cases i with
    | zero => simp at hi; subst hi; simpa using hh
    | succ i => simp at hi
  cases x with
  | d y => exact cellsD_rep hc h.toD
  | agg ds =>
    simp only [cellsA, Option.some.injEq] at hc; subst hc
    cases h with
    | agg vs ds hs h1 h => exact ⟨by simpa [Value.cells] using hs, by simpa [Value.cells] using h1, fun i x hi => by simpa [Value.cells] using h i x hi⟩
  | vw p o l => simp only [cellsA, Option.some.injEq] at hc; exact one _ hc.symm h (by cases h; assumption)
  | «at» p c => simp only [cellsA, Option.some.injEq] at hc; exact one _ hc.symm h (by cases h; assumption)
  | el p i c => simp only [cellsA, Option.some.injEq] at hc; exact one _ hc.symm h (by cases h; assumption)
  | mp p => simp only [cellsA, Option.some.injEq] at hc; exact one _ hc.symm h (by cases h; assumption)
  | it p => simp only [cellsA, Option.some.injEq] at hc; exact one _ hc.symm h (by cases h; assumption)
  | clo f c => simp only [cellsA, Option.some.injEq] at hc; exact one _ hc.symm h (by cases h; rfl)
  | un => cases hc
  | tup _ => cases hc
end
end Go.Ab
namespace Go.Ab
def RV {α : Type} : R α → (α → Prop) → Prop
  | .ok x, φ => φ x
  | .need p r, φ => p → RV r φ
  | .no, _ => True
theorem RV.mono {α : Type} {φ ψ : α → Prop} (h : ∀ x, φ x → ψ x) : ∀ {r : R α}, RV r φ → RV r ψ
  | .ok _, hr => h _ hr
  | .need _ _, hr => fun hp => RV.mono h (hr hp)
  | .no, _ => trivial
theorem RV.bind {α β : Type} {φ : α → Prop} {ψ : β → Prop} {f : α → R β} (hf : ∀ x, φ x → RV (f x) ψ) : ∀ {r : R α}, RV r φ → RV (r.bind f) ψ
  | .ok _, hr => hf _ hr
  | .need _ _, hr => fun hp => RV.bind hf (hr hp)
  | .no, _ => trivial
theorem RV.ofO {α : Type} {φ : α → Prop} {o : Option α} (h : ∀ x, o = some x → φ x) : RV (R.ofO o) φ := by
  cases o with
  | none => trivial
  | some x => exact h x rfl
theorem RV.run {φ : St → Prop} {f : St → Prop} {z : Prop} : ∀ {r : R St}, RV r φ → r.run f z → z ∨ ∃ s, φ s ∧ f s
  | .ok _, hr, h => .inr ⟨_, hr, h⟩
  | .need _ _, hr, h => RV.run (hr h.1) h.2
  | .no, _, h => .inl h
section
variable {P : Program} {t : Nat}
theorem addr_add (b o n : Nat) : (⟨b, o, none⟩ : Addr).add n = ⟨b, o + n, none⟩ := by unfold Addr.add; split <;> simp_all
theorem run_loadVar_agg (hg : (P.ti t).k.isBad = false) (ha : (P.ti t).k.agg = true) {w : World} {b o : Nat} {c : Array Value} {e : TypeId} {fz : Nat × Nat}
    (hb : w.heap[b]? = some (.cells c e fz)) (hz : o + (P.ti t).sz ≤ c.size) :
    (loadVar t ⟨b, o, none⟩).run P w = .ok (.agg ((c.toList.drop o).take (P.ti t).sz).toArray) w := by
  have hl : ((c.toList.drop o).take (P.ti t).sz).length = (P.ti t).sz := by simp; omega
  have := run_loadCells_list (P := P) w ⟨b, o, none⟩ ((c.toList.drop o).take (P.ti t).sz) (fun j v hv => by
    rw [addr_add, cell_of_row w b (o + j) c e fz hb]
    rw [List.getElem?_take] at hv
    split at hv
    · simpa using hv
    · cases hv)
  rw [hl] at this
  simp [loadVar, run_isAgg hg, ha, run_sizeOf hg, this]
theorem run_loadVar_one (hg : (P.ti t).k.isBad = false) (ha : (P.ti t).k.agg = false) {w : World} {b o : Nat} {c : Array Value} {e : TypeId} {fz : Nat × Nat}
    (hb : w.heap[b]? = some (.cells c e fz)) {v : Value} (hv : c[o]? = some v) : (loadVar t ⟨b, o, none⟩).run P w = .ok v w := by
  have hc : w.cell? ⟨b, o, none⟩ = some v := by rw [cell_of_row w b o c e fz hb, hv]
  simp [loadVar, run_isAgg hg, ha, hc]
theorem getD_of {α : Type} {c : Array α} {i : Nat} {z : α} (h : i < c.size) : c[i]? = some (c.getD i z) := by simp [Array.getD_eq_getD_getElem?, h]
theorem part_sound {H : Array Obj} {own : Nat → Prop} {w : World} (hw : w.heap = H) {b o c0 : Nat} {c : Array Value} {e : TypeId} {fz : Nat × Nat} (hb : H[b]? = some (.cells c e fz)) {d y : D}
    (hz : o + d.cells.length ≤ c.size) (hsc : ∀ x ∈ d.cells, x.scal = true) (h : ∀ j x, d.cells[j]? = some x → Rep H own (c.getD (o + j) undef) x) (hp : partD (P.ti t) d c0 = some y) :
    ∃ v, (loadVar t ⟨b, o + c0, none⟩).run P w = .ok v w ∧ Rep H own v y := by
  subst hw
  unfold partD at hp
  by_cases hg : (P.ti t).k.isBad = true
  · simp [hg] at hp
  · have hg : (P.ti t).k.isBad = false := by simpa using hg
    simp only [hg, Bool.false_eq_true, if_false] at hp
    have one : ∀ y', d.cells[c0]? = some y' → (P.ti t).k.agg = false → ∃ v, (loadVar t ⟨b, o + c0, none⟩).run P w = .ok v w ∧ Rep w.heap own v y' := by
      intro y' hy ha
      have hlt : c0 < d.cells.length := (List.getElem?_eq_some_iff.1 hy).1
      exact ⟨_, run_loadVar_one hg ha hb (getD_of (z := undef) (show o + c0 < c.size by omega)), h c0 y' hy⟩
    cases d with
    | agg cs =>
      simp only at hp
      by_cases ha : (P.ti t).k.agg = true
      · simp only [ha, if_true] at hp
        split at hp
        · rename_i hle
          cases hp
          simp only [D.cells] at hz hsc h
          refine ⟨_, run_loadVar_agg hg ha hb (by omega), .agg _ _ (by simp; omega) (fun x hx => hsc x (List.mem_of_mem_drop (List.mem_of_mem_take hx))) (fun i x hi => ?_)⟩
          rw [List.getElem?_take] at hi
          split at hi
          · rename_i hlt
            rw [List.getElem?_drop] at hi
            have := h (c0 + i) x hi
            have hlt2 : c0 + i < cs.length := (List.getElem?_eq_some_iff.1 hi).1
            have e1 : ((c.toList.drop (o + c0)).take (P.ti t).sz).toArray.getD i undef = c.getD (o + (c0 + i)) undef := by
              simp [Array.getD_eq_getD_getElem?, hlt, Nat.add_assoc]
            rw [e1]; exact this
          · cases hi
        · cases hp
      · have ha : (P.ti t).k.agg = false := by simpa using ha
        simp only [ha, Bool.false_eq_true, if_false] at hp
        exact one y hp ha
    | _ =>
      simp only at hp
      by_cases ha : (P.ti t).k.agg = true
      · simp [ha] at hp
      · have ha : (P.ti t).k.agg = false := by simpa using ha
        simp only [ha, Bool.false_eq_true, if_false] at hp
        split at hp
        · rename_i h0
          cases hp; subst h0
          exact one _ rfl ha
        · cases hp
end
section
variable {P : Program} {B : Base} {β : Name → Option Blk} {s : St} {tm : Array Value} {w : World} {t : Nat}
theorem partC_sound (_h : Sim B β s tm w) {b c0 : Nat} {c : Array Value} {e : TypeId} {fz : Nat × Nat} (hb : w.heap[b]? = some (.cells c e fz)) {cs : List AV} (hl : c.size = cs.length) (h1 : ∀ v ∈ c, v.oneCell' = true)
    (hc : ∀ (j : Nat) x, cs[j]? = some x → VR w.heap (s.own B.A β) s.used s.hp β (c.getD j undef) x) :
    RV (partC (P.ti t) cs c0) fun y => ∃ v, (loadVar t ⟨b, c0, none⟩).run P w = .ok v w ∧ VR w.heap (s.own B.A β) s.used s.hp β v y := by
  unfold partC
  by_cases hg : (P.ti t).k.isBad = true
  · simp [hg, RV]
  · have hg : (P.ti t).k.isBad = false := by simpa using hg
    simp only [hg, Bool.false_eq_true, if_false]
    by_cases ha : (P.ti t).k.agg = true
    · simp only [ha, if_true]
      split
      · rename_i hle
        refine ⟨_, run_loadVar_agg hg ha hb (by omega), mkAgg_rep (by simp; omega) (fun v hv => h1 v ?_) (fun i v x hv hx => ?_)⟩
        · have := List.mem_of_mem_drop (List.mem_of_mem_take hv); simpa using this
        · rw [List.getElem?_take] at hv hx
          split at hv
          · rename_i hlt
            rw [if_pos hlt] at hx
            rw [List.getElem?_drop] at hv hx
            have := hc _ x hx
            have e1 : c.getD (c0 + i) undef = v := by
              simp only [Array.getElem?_toList] at hv
              simp [Array.getD_eq_getD_getElem?, hv]
            rwa [e1] at this
          · cases hv
      · trivial
    · have ha : (P.ti t).k.agg = false := by simpa using ha
      simp only [ha, Bool.false_eq_true, if_false]
      refine RV.ofO fun x hx => ?_
      have hlt : c0 < cs.length := (List.getElem?_eq_some_iff.1 hx).1
      exact ⟨_, run_loadVar_one hg ha hb (getD_of (z := undef) (by omega)), hc c0 x hx⟩
theorem okW_len {w : W} {x : D} (h : okW w x) : x.cells.length = wd w := by
  cases w with
  | none => cases x <;> first | rfl | simp [okW, D.scal] at h
  | some n => cases x <;> first | exact h.1 | exact h.elim
theorem okW_scal {w : W} {x : D} (h : okW w x) : ∀ y ∈ x.cells, y.scal = true := by
  cases w with
  | none => cases x <;> first | simp [okW, D.scal] at h; done | (intro y hy; simp [D.cells] at hy; subst hy; rfl)
  | some n => cases x <;> first | exact h.2 | exact h.elim
theorem load_sound (h : Sim B β s tm w) {xv : Value} {x : AV} (hx : VR w.heap (s.own B.A β) s.used s.hp β xv x) :
    RV (loadR (P.ti t) s.hp x) fun y => ∃ v, (Instr.loadAt t xv).run P w = .ok v w ∧ VR w.heap (s.own B.A β) s.used s.hp β v y := by
  unfold loadR
  split
  · rename_i p c
    split
    · rename_i ty cs hp
      cases hx with
      | «at» _ _ _ _ _ hx =>
        obtain ⟨k, hk, hk0, rfl⟩ := hx ty cs hp
        obtain ⟨k', c', e, hk', _, hc, hz, hl, h1, hcs⟩ := (h.objs p _ hp).2
        rw [hk] at hk'; cases hk'
        exact (partC_sound (P := P) (t := t) h hc hl h1 hcs (c0 := c)).mono fun y ⟨v, hr, hv⟩ => ⟨v, by simpa [Instr.loadAt, Instr.sureAddr] using hr, hv⟩
    · trivial
  · rename_i p j c
    split
    · rename_i wf xs hp
      cases hx with
      | el _ _ _ _ _ _ hx =>
        obtain ⟨hj, k, hk, rfl⟩ := hx none wf xs hp
        refine RV.ofO fun y hy => ?_
        simp only [Option.map_eq_some_iff] at hy
        obtain ⟨d, hd, rfl⟩ := hy
        rcases (h.objs p _ hp).2 with ⟨h0, h0'⟩ | ⟨k', c', e, hk', hc, hz, hl, hw, hcs⟩
        · rw [h0'] at hj; simp at hj
        · rw [hk] at hk'; cases hk'
          have hget : xs[j]? = some (xs.getD j .nilp) := by simp [List.getD_eq_getElem?_getD, hj]
          have hmem : xs.getD j .nilp ∈ xs := List.mem_of_getElem? hget
          have hok := hw _ hmem
          have hle : j * wd wf + wd wf ≤ xs.length * wd wf := by
            have := Nat.mul_le_mul_right (wd wf) (Nat.succ_le_of_lt hj); rwa [Nat.succ_mul] at this
          obtain ⟨v, hr, hv⟩ := part_sound (P := P) (t := t) (own := s.own B.A β) (w := w) rfl hc (o := k.o + j * wd wf) (c0 := c) (d := xs.getD j .nilp) (y := d)
            (by rw [okW_len hok]; omega) (okW_scal hok) (fun i x hi => hcs j _ i x hget hi) hd
          exact ⟨v, by simpa [Instr.loadAt, Instr.sureAddr] using hr, .d _ _ hv⟩
    · trivial
  · rename_i d
    refine RV.ofO fun y hy => ?_
    simp only [Option.map_eq_some_iff] at hy
    obtain ⟨d', hd, rfl⟩ := hy
    cases hx.toD with
    | ptr b o c e fz d hb hn hz hsc hc =>
      obtain ⟨v, hr, hv⟩ := part_sound (P := P) (t := t) (own := s.own B.A β) (w := w) rfl hb (o := o) (c0 := 0) hz hsc hc hd
      exact ⟨v, by simpa [Instr.loadAt, Instr.sureAddr] using hr, .d _ _ hv⟩
  · trivial
theorem sz_good {t : Nat} (h : ¬ (P.ti t).sz = 0) : (P.ti t).k.isBad = false := by
  unfold Program.ti at h ⊢
  split
  · rename_i i d _ _
    cases d <;> rfl
  · rename_i hne
    split at h
    · rename_i i d hi hd; exact absurd hd (hne i d hi)
    · simp at h
theorem run_fieldAt {fs : List (Nat × Nat)} (hk : (P.ti t).k = .struct fs) {f o tt : Nat} (hf : fs[f]? = some (o, tt)) (hs : ¬ (P.ti tt).sz = 0) (b c : Nat) (w : World) :
    (Instr.fieldAt t (.pointer (some ⟨b, c, none⟩)) f).run P w = .ok (.pointer (some ⟨b, c + o, none⟩)) w := by
  obtain ⟨fl, hu, rfl⟩ := ti_struct hk
  simp only [List.getElem?_map, Option.map_eq_some_iff, Prod.mk.injEq] at hf
  obtain ⟨fd, hfd, rfl, rfl⟩ := hf
  have hfd' : fl[f]? = some fd := by simpa using hfd
  simp [Instr.fieldAt, run_underlying hu, hfd', Instr.sureAddr, fieldPlace, run_sizeOf (sz_good hs), hs, addr_add]
theorem fieldAddr_sound {xv : Value} {x : AV} {f : Nat} (hx : VR w.heap (s.own B.A β) s.used s.hp β xv x) :
    RV (fieldAddrR (P.ti t) P.ti s.hp x f) fun y => ∃ v, (Instr.fieldAt t xv f).run P w = .ok v w ∧ VR w.heap (s.own B.A β) s.used s.hp β v y := by
  unfold fieldAddrR
  split <;> try trivial
  rename_i fs hk
  split <;> try trivial
  rename_i o tt hf
  split <;> try trivial
  rename_i hs
  split
  · rename_i p c
    split <;> try trivial
    rename_i ty cs hp
    cases hx with
    | «at» _ _ _ hn h1 hx =>
      obtain ⟨k, hk', hk0, rfl⟩ := hx _ _ hp
      exact ⟨_, run_fieldAt hk hf hs _ _ w, .at _ _ _ hn rfl fun ty' cs' hp' => ⟨k, hk', hk0, rfl⟩⟩
  · rename_i p j c
    split <;> try trivial
    rename_i wf xs hp
    cases hx with
    | el _ _ _ _ hn h1 hx =>
      obtain ⟨hj, k, hk', rfl⟩ := hx _ _ _ hp
      refine ⟨_, run_fieldAt hk hf hs _ _ w, .el _ _ _ _ hn rfl fun ty' w' xs' hp' => ?_⟩
      rw [hp] at hp'; cases hp'
      exact ⟨hj, k, hk', by rw [Nat.add_assoc]⟩
  · rename_i cs
    refine RV.ofO fun y hy => ?_
    simp only [Option.map_eq_some_iff] at hy
    obtain ⟨d, hd, rfl⟩ := hy
    cases hx.toD with
    | ptr b o' c e fz d' hb hn hz hsc hc =>
      refine ⟨_, run_fieldAt hk hf hs _ _ w, .d _ _ ?_⟩
      simp only [D.cells] at hz hsc hc
      unfold partD at hd
      split at hd
      · cases hd
      · simp only at hd
        split at hd
        · split at hd
          · rename_i hle
            cases hd
            refine .ptr b (o' + o) c e fz _ hb hn (by simp [D.cells]; omega) (fun x hx' => hsc x (List.mem_of_mem_drop (List.mem_of_mem_take hx'))) (fun i x hi => ?_)
            simp only [D.cells] at hi
            rw [List.getElem?_take] at hi
            split at hi
            · rw [List.getElem?_drop] at hi
              have := hc _ x hi
              rwa [← Nat.add_assoc] at this
            · cases hi
          · cases hd
        · have hlt : o < cs.length := (List.getElem?_eq_some_iff.1 hd).1
          have hsd := hsc d (List.mem_of_getElem? hd)
          have e1 : d.cells = [d] := by cases d <;> first | rfl | simp [D.scal] at hsd
          refine .ptr b (o' + o) c e fz d hb hn (by rw [e1]; simp; omega) (by rw [e1]; simpa using hsd) (fun i x hi => ?_)
          rw [e1] at hi
          cases i with
          | zero => simp at hi; subst hi; exact hc _ _ hd
          | succ i => simp at hi
  · trivial
theorem ti_array {l e : Nat} (h : (P.ti t).k = .arr l e) : P.underlying t = some (.array l e) := by
  obtain ⟨i, d, _, hd, hk, _⟩ := ti_good (P := P) (t := t) (by rw [h]; rfl)
  rw [h] at hk; rw [hd]
  cases d <;> simp [tk] at hk
  rw [hk.1, hk.2]
theorem run_indexArr {l e : Nat} (hk : (P.ti t).k = .arr l e) (hg : (P.ti e).k.isBad = false) (b o : Nat) (kd : IntKind) (n : Int) (h0 : 0 ≤ n) (h1 : n < l) (w : World) :
    (Instr.indexAt t (.pointer (some ⟨b, o, none⟩)) (.int kd n)).run P w = .ok (.pointer (some ⟨b, o + n.toNat * (P.ti e).sz, none⟩)) w := by
  have hu := ti_array hk
  simp [Instr.indexAt, Instr.sureAddr, asIntOf, run_underlying hu, h0, h1, run_sizeOf hg, addr_add]
theorem run_indexAt {e : Nat} (hk : (P.ti t).k = .slice e) (hg : (P.ti e).k.isBad = false) (b o : Nat) (len cap : Nat) (kd : IntKind) (n : Int) (h0 : 0 ≤ n) (h1 : n < len) (w : World) :
    (Instr.indexAt t (.slice (some ⟨b, o, none⟩) len cap) (.int kd n)).run P w = .ok (.pointer (some ⟨b, o + n.toNat * (P.ti e).sz, none⟩)) w := by
  have hu := ti_slice hk
  simp [Instr.indexAt, asIntOf, run_underlying hu, h0, h1, run_sizeOf hg, addr_add]
theorem isW_spec {i : TI} {w : W} (h : i.isW w = true) : i.k.isBad = false ∧ wd w = i.sz ∧ w = i.w := by
  unfold TI.isW at h
  simp only [Bool.and_eq_true, Bool.not_eq_true'] at h
  cases w with
  | none => simp at h; exact ⟨h.1, by simp [wd, h.2.2], by simp [TI.w, h.2.1]⟩
  | some n => simp at h; exact ⟨h.1, by simp [wd, h.2.2], by simp [TI.w, h.2.1, h.2.2]⟩
theorem indexAddr_sound {xv jv : Value} {x j : AV} (hx : VR w.heap (s.own B.A β) s.used s.hp β xv x) (hj : VR w.heap (s.own B.A β) s.used s.hp β jv j) :
    RV (indexAddrR (P.ti t) P.ti s.hp x j) fun y => ∃ v, (Instr.indexAt t xv jv).run P w = .ok v w ∧ VR w.heap (s.own B.A β) s.used s.hp β v y := by
  unfold indexAddrR
  split
  · rename_i e p o l kd n hk
    split <;> try trivial
    rename_i wf xs hp
    split <;> try trivial
    rename_i hw
    obtain ⟨hg, hwd, _⟩ := isW_spec hw
    rintro ⟨h0, h1⟩
    obtain rfl := hj.int
    cases hx with
    | vw _ _ _ _ hn h1' hx =>
      obtain ⟨hle, a, cap, rfl, hx'⟩ := hx _ _ _ hp
      rcases hx' with ⟨hl0, _⟩ | ⟨k, hk', rfl, hcap, hz⟩
      · omega
      · refine ⟨_, run_indexAt hk hg _ _ _ _ _ n h0 h1 w, .el _ _ _ _ hn rfl fun ty' w' xs' hp' => ?_⟩
        rw [hp] at hp'; cases hp'
        refine ⟨by omega, k, hk', ?_⟩
        rw [hwd, Nat.add_mul, Nat.add_assoc]; rfl
  · rename_i e wf xs kd n hk
    split <;> try trivial
    rename_i hw
    obtain ⟨hg, hwd, _⟩ := isW_spec hw
    rintro ⟨h0, h1⟩
    obtain rfl := hj.int
    cases hx.toD with
    | sl0 a cap _ => simp at h1; omega
    | sl b o cap c e' fz _ _ hb hn hcap hz hok hc =>
      have hlt : n.toNat < xs.length := by omega
      have hget : xs[n.toNat]? = some (xs.getD n.toNat .nilp) := by simp [List.getD_eq_getElem?_getD, hlt]
      have hmem : xs.getD n.toNat .nilp ∈ xs := List.mem_of_getElem? hget
      have ho := hok _ hmem
      have hle : n.toNat * wd wf + wd wf ≤ xs.length * wd wf := by
        have := Nat.mul_le_mul_right (wd wf) (Nat.succ_le_of_lt hlt); rwa [Nat.succ_mul] at this
      refine ⟨_, run_indexAt hk hg _ _ _ _ _ n h0 h1 w, .d _ _ (.ptr b _ c e' fz _ hb hn ?_ (okW_scal ho) fun i x hi => ?_)⟩
      · rw [okW_len ho, ← hwd]; omega
      · rw [← hwd]; exact hc _ _ i x hget hi
  · rename_i l e p i c kd n hk
    split <;> try trivial
    rename_i wf xs hp
    split <;> try trivial
    rename_i hw
    obtain ⟨hw, rfl, hle, _⟩ := hw
    obtain ⟨hg, hwd, _⟩ := isW_spec hw
    rintro ⟨h0, h1⟩
    obtain rfl := hj.int
    cases hx with
    | el _ _ _ _ hn h1' hx =>
      obtain ⟨hlt, k, hk', rfl⟩ := hx _ _ _ hp
      refine ⟨_, run_indexArr hk hg _ _ _ n h0 h1 w, .el _ _ _ _ hn rfl fun ty' w' xs' hp' => ?_⟩
      rw [hp] at hp'; cases hp'
      refine ⟨by omega, k, hk', ?_⟩
      rw [hwd, Nat.add_mul, Nat.add_zero, Nat.add_zero, Nat.add_assoc]
  · trivial
theorem bs_get (l : List UInt8) (n : Nat) (h : n < l.length) : (⟨l.toArray⟩ : ByteArray)[n]? = some (l.getD n 0) := by
  have h2 : n < (⟨l.toArray⟩ : ByteArray).size := by simpa [ByteArray.size] using h
  rw [ByteArray.getElem?_lt' _ _ h2]
  simp [ByteArray.getElem_eq_getElem_data, List.getD_eq_getElem?_getD, h]
theorem index_sound {xv jv : Value} {x j : AV} (hx : VR w.heap (s.own B.A β) s.used s.hp β xv x) (hj : VR w.heap (s.own B.A β) s.used s.hp β jv j) :
    RV (indexR (P.ti t) x j) fun y => ∃ v, (Instr.index t xv jv).run P w = .ok v w ∧ VR w.heap (s.own B.A β) s.used s.hp β v y := by
  unfold indexR
  split
  · rename_i l kd n hk
    rintro ⟨h0, h1⟩
    obtain rfl := hj.int
    obtain rfl := hx.str
    have hget := bs_get l n.toNat (by omega)
    exact ⟨_, by simp [Instr.index, asIntOf, run_underlying (ti_str hk), h0, hget], .d _ _ (.int _ _)⟩
  · trivial
theorem Rep.sl_inv {H : Array Obj} {own : Nat → Prop} {v : Value} {wf : W} {xs : List D} (h : Rep H own v (.sl wf xs)) : ∃ a cap, v = .slice a xs.length cap ∧ xs.length ≤ cap ∧
    (xs ≠ [] → ∃ b o c e fz, a = some ⟨b, o, none⟩ ∧ H[b]? = some (.cells c e fz) ∧ ¬ own b ∧ o + xs.length * wd wf ≤ c.size ∧ (∀ x ∈ xs, okW wf x) ∧
      ∀ i x j d, xs[i]? = some x → x.cells[j]? = some d → Rep H own (c.getD (o + i * wd wf + j) undef) d) := by
  cases h with
  | sl0 a cap _ => exact ⟨a, cap, rfl, Nat.zero_le _, fun h => absurd rfl h⟩
  | sl b o cap c e fz _ _ hb hn hcap hz hok hc => exact ⟨_, cap, rfl, hcap, fun _ => ⟨b, o, c, e, fz, rfl, hb, hn, hz, hok, hc⟩⟩
theorem loI_sound {n m : Int} {xo : Option AV} {vo : Option Value} (hx : ∀ x, xo = some x → ∃ v, vo = some v ∧ VR w.heap (s.own B.A β) s.used s.hp β v x) (hn : xo = none → vo = none) (h : loI n xo = some m) :
    (vo = none ∧ m = n) ∨ ∃ k, vo = some (.int k m) := by
  unfold loI at h
  split at h
  · cases h; exact .inl ⟨hn rfl, rfl⟩
  · cases h
    obtain ⟨v, rfl, hv⟩ := hx _ rfl
    obtain rfl := hv.int
    exact .inr ⟨_, rfl⟩
  · cases h
theorem run_bound (k : IntKind) (i : Int) (y : Nat) (code : BoundsCode) (h0 : 0 ≤ i) (h1 : i ≤ y) (w : World) : (Instr.sliceBound (.int k i) y code).run P w = .ok i.toNat w := by
  simp [Instr.sliceBound, asIntOf, h0, h1]
theorem run_bounds (isSlice : Bool) (len cap : Nat) (lo hi : Option Value) (a b : Int) (hlo : (lo = none ∧ a = 0) ∨ ∃ k, lo = some (.int k a)) (hhi : (hi = none ∧ b = len) ∨ ∃ k, hi = some (.int k b))
    (h0 : 0 ≤ a) (h1 : a ≤ b) (h2 : b ≤ cap) (w : World) : (Instr.sliceBounds isSlice len cap lo hi none).run P w = .ok (a.toNat, b.toNat, cap) w := by
  have hb : ∀ k code, (Instr.sliceBound (.int k b) cap code).run P w = .ok b.toNat w := fun k code => run_bound k b cap code (by omega) h2 w
  have ha : ∀ k code, (Instr.sliceBound (.int k a) b.toNat code).run P w = .ok a.toNat w := fun k code => run_bound k a _ code h0 (by omega) w
  rcases hlo with ⟨rfl, rfl⟩ | ⟨k1, rfl⟩ <;> rcases hhi with ⟨rfl, rfl⟩ | ⟨k2, rfl⟩ <;> simp only [Instr.sliceBounds]
  · simp
  · simp [hb]
  · have := ha k1; simp at this; simp [this]
  · simp [hb, ha]
theorem slice_sound (h : Sim B β s tm w) {xv : Value} {x : AV} {lo hi : Option AV} {lov hiv : Option Value} (hx : VR w.heap (s.own B.A β) s.used s.hp β xv x)
    (hlo : ∀ x, lo = some x → ∃ v, lov = some v ∧ VR w.heap (s.own B.A β) s.used s.hp β v x) (hlo' : lo = none → lov = none)
    (hhi : ∀ x, hi = some x → ∃ v, hiv = some v ∧ VR w.heap (s.own B.A β) s.used s.hp β v x) (hhi' : hi = none → hiv = none) :
    RV (sliceR (P.ti t) P.ti s.hp x lo hi) fun y => ∃ v, (Instr.sliceAt t xv lov hiv none).run P w = .ok v w ∧ VR w.heap (s.own B.A β) s.used s.hp β v y := by
  unfold sliceR
  split
  · rename_i l hk
    split <;> try trivial
    rename_i a b ha hb
    rintro ⟨h0, h1, h2⟩
    obtain rfl := hx.str
    have hu := ti_str hk
    have hr := run_bounds (P := P) false l.length l.length lov hiv a b (loI_sound hlo hlo' ha) (loI_sound hhi hhi' hb) h0 h1 h2 w
    refine ⟨.string ⟨((l.drop a.toNat).take (b.toNat - a.toNat)).toArray⟩, ?_, .d _ _ (.str _)⟩
    have hsz : (⟨l.toArray⟩ : ByteArray).size = l.length := by simp [ByteArray.size]
    simp only [Instr.sliceAt, Instr.slice, Sem.run_bind, run_underlying hu, Result.andThen_ok, Option.isSome_none, Bool.false_eq_true, if_false, hsz, hr, Sem.run_pure, ByteArray.extract_mk]
  · rename_i e wf xs hk
    split <;> try trivial
    rename_i hw
    obtain ⟨hg, hwd, _⟩ := isW_spec hw
    split <;> try trivial
    rename_i a b ha hb
    rintro ⟨h0, h1, h2⟩
    have hu := ti_slice hk
    obtain ⟨a0, cap, rfl, hcap, hd⟩ := hx.toD.sl_inv
    have hr := run_bounds (P := P) true xs.length cap lov hiv a b (loI_sound hlo hlo' ha) (loI_sound hhi hhi' hb) h0 h1 (by omega) w
    refine ⟨.slice (if cap = a.toNat then a0 else a0.map (·.add (a.toNat * (P.ti e).sz))) (b.toNat - a.toNat) (cap - a.toNat), ?_, .d _ _ ?_⟩
    · simp [Instr.sliceAt, run_underlying hu, Instr.slice, hr, run_sizeOf hg]
    · have hlen : ((xs.drop a.toNat).take (b.toNat - a.toNat)).length = b.toNat - a.toNat := by simp; omega
      by_cases hz0 : b.toNat - a.toNat = 0
      · have : (xs.drop a.toNat).take (b.toNat - a.toNat) = [] := by rw [hz0]; simp
        rw [this, hz0]; exact .sl0 _ _ _
      · have hne : cap ≠ a.toNat := by omega
        rw [if_neg hne]
        obtain ⟨b', o, c, e', fz, rfl, hb', hn, hz, hok, hc⟩ := hd (by rintro rfl; simp at h2; omega)
        have hle : a.toNat * wd wf + (b.toNat - a.toNat) * wd wf ≤ xs.length * wd wf := by
          rw [← Nat.add_mul]; exact Nat.mul_le_mul_right _ (by omega)
        have e1 : (some (⟨b', o, none⟩ : Addr)).map (·.add (a.toNat * (P.ti e).sz)) = some ⟨b', o + a.toNat * wd wf, none⟩ := by simp [addr_add, hwd]
        rw [e1]
        have := Rep.sl (H := w.heap) (own := s.own B.A β) b' (o + a.toNat * wd wf) (cap - a.toNat) c e' fz wf ((xs.drop a.toNat).take (b.toNat - a.toNat)) hb' hn (by rw [hlen]; omega)
          (by rw [hlen]; omega) (fun x hx' => hok x (List.mem_of_mem_drop (List.mem_of_mem_take hx'))) (fun i x j d hi hj => by
            rw [List.getElem?_take] at hi
            split at hi
            · rw [List.getElem?_drop] at hi
              have := hc _ x j d hi hj
              rwa [show o + a.toNat * wd wf + i * wd wf + j = o + (a.toNat + i) * wd wf + j by rw [Nat.add_mul]; omega]
            · cases hi)
        rwa [hlen] at this
  · rename_i e p off n hk
    split <;> try trivial
    rename_i wf xs hp
    split <;> try trivial
    rename_i hw
    obtain ⟨hg, hwd, _⟩ := isW_spec hw
    split <;> try trivial
    rename_i a b ha hb
    rintro ⟨h0, h1, h2⟩
    have hu := ti_slice hk
    cases hx with
    | vw _ _ _ _ hn h1' hx =>
      obtain ⟨hle, a0, cap, rfl, hx'⟩ := hx _ _ _ hp
      have hcap : n ≤ cap := by
        rcases hx' with ⟨rfl, rfl⟩ | ⟨k, _, _, h, _⟩
        · exact Nat.le_refl _
        · exact h
      have hr := run_bounds (P := P) true n cap lov hiv a b (loI_sound hlo hlo' ha) (loI_sound hhi hhi' hb) h0 h1 (by omega) w
      refine ⟨.slice (if cap = a.toNat then a0 else a0.map (·.add (a.toNat * (P.ti e).sz))) (b.toNat - a.toNat) (cap - a.toNat), ?_, .vw _ _ _ _ hn rfl fun ty' w' xs' hp' => ?_⟩
      · simp [Instr.sliceAt, run_underlying hu, Instr.slice, hr, run_sizeOf hg]
      · rw [hp] at hp'; cases hp'
        refine ⟨by omega, _, _, rfl, ?_⟩
        by_cases hc0 : cap = a.toNat
        · exact .inl ⟨by omega, by omega⟩
        · rw [if_neg hc0]
          rcases hx' with ⟨rfl, rfl⟩ | ⟨k, hk', rfl, h3, h4⟩
          · exact absurd (by omega) hc0
          · refine .inr ⟨k, hk', ?_, by omega, ?_⟩
            · simp [addr_add, hwd, Nat.add_mul]; omega
            · rw [show off + a.toNat + (cap - a.toNat) = off + cap by omega]; exact h4
  · rename_i e hk
    split <;> try trivial
    rename_i hg
    have hg : (P.ti e).k.isBad = false := by simpa using hg
    split <;> try trivial
    rename_i a b ha hb
    rintro ⟨rfl, rfl⟩
    obtain rfl := hx.nils
    have hr := run_bounds (P := P) true 0 0 lov hiv 0 0 (loI_sound hlo hlo' ha) (loI_sound hhi hhi' hb) (by omega) (by omega) (by omega) w
    exact ⟨.slice none 0 0, by simp [Instr.sliceAt, run_underlying (ti_slice hk), Instr.slice, hr, run_sizeOf hg], .d _ _ .nils⟩
  · rename_i l e p i c hk
    split <;> try trivial
    rename_i wf xs hp
    split <;> try trivial
    rename_i hw
    obtain ⟨hw, rfl, hle⟩ := hw
    obtain ⟨hg, hwd, _⟩ := isW_spec hw
    obtain rfl := hlo' rfl
    obtain rfl := hhi' rfl
    cases hx with
    | el _ _ _ _ hn h1' hx =>
      obtain ⟨hlt, k, hk', rfl⟩ := hx _ _ _ hp
      have hu := ti_array hk
      have hr := run_bounds (P := P) false l l none none 0 l (.inl ⟨rfl, rfl⟩) (.inl ⟨rfl, rfl⟩) (by omega) (by omega) (by omega) w
      refine ⟨.slice (some (if l = 0 then (⟨k.b, k.o + i * wd wf + 0, none⟩ : Addr) else Addr.add ⟨k.b, k.o + i * wd wf + 0, none⟩ (0 * (P.ti e).sz))) (l - 0) (l - 0), ?_, .vw _ _ _ _ hn rfl fun ty' w' xs' hp' => ?_⟩
      · simp [Instr.sliceAt, Instr.sureAddr, run_underlying hu, hr, run_sizeOf hg]
      · rw [hp] at hp'; cases hp'
        refine ⟨hle, _, l, rfl, .inr ⟨k, hk', ?_, Nat.le_refl _, ?_⟩⟩
        · split <;> simp [addr_add]
        · rcases (h.objs p _ hp).2 with ⟨h1, _⟩ | ⟨k', c', e', h1, _, _, h4, _⟩
          · rw [hk'] at h1; cases h1
          · rw [hk'] at h1; cases h1
            have := Nat.mul_le_mul_right (wd wf) hle
            omega
  · trivial
end
end Go.Ab
namespace Go.Ab
section
variable {P : Program} {B : Base} {β : Name → Option Blk} {s : St} {tm : Array Value} {w : World} {t : Nat}
theorem eqGuard_pure (op : BinOp) (t : TypeId) (x y : Operand) (a b : Value) (h : (∃ k n, a = .int k n) ∨ (∃ l, a = .string l) ∨ (∃ l, a = .bool l)) : eqGuard op t x y a b = pure () := by
  rcases h with ⟨k, n, rfl⟩ | ⟨l, rfl⟩ | ⟨l, rfl⟩
  · exact eqGuard_at_int ..
  · exact eqGuard_at_string ..
  · exact eqGuard_at_bool ..
theorem isBool_und (h : (P.ti t).k.isBool = true) : P.underlying t = some .bool := by
  unfold Program.ti at h
  split at h
  · rename_i d _ hd
    cases d <;> simp [tk, TK.isBool] at h
    exact hd
  · simp [TK.isBool] at h
theorem shl_run (i j : IntKind) (a b : Int) (h : 0 ≤ b) : (binOp .shl t (.int i a) (.int j b)).run P w = .ok (.int i (i.wrap (a * 2 ^ min b.toNat i.bits))) w := by
  show (Op.shift .shl i a j b).run P w = _
  unfold Op.shift
  rw [if_neg (by omega)]; rfl
theorem shr_run (i j : IntKind) (a b : Int) (h : 0 ≤ b) : (binOp .shr t (.int i a) (.int j b)).run P w = .ok (.int i (a.fdiv (2 ^ min b.toNat i.bits))) w := by
  show (Op.shift .shr i a j b).run P w = _
  unfold Op.shift
  rw [if_neg (by omega)]; rfl
theorem binD_sound {op : BinOp} {x y : D} {xv yv : Value} (H : Array Obj) (own : Nat → Prop) (hx : Rep H own xv x) (hy : Rep H own yv y) (t : TypeId) (xo yo : Operand) :
    RV (binD (P.ti t).k op x y) fun d => ∃ v, (do eqGuard op t xo yo xv yv; binOp op t xv yv : Sem Value).run P w = .ok v w ∧ Rep H own v d := by
  have go : ∀ (d : D) (v : Value), ((∃ k n, xv = .int k n) ∨ (∃ l, xv = .string l) ∨ (∃ l, xv = .bool l)) → (binOp op t xv yv).run P w = .ok v w → Rep H own v d →
      ∃ v, (do eqGuard op t xo yo xv yv; binOp op t xv yv : Sem Value).run P w = .ok v w ∧ Rep H own v d := fun d v hg hr hv => by
    refine ⟨v, ?_, hv⟩
    rw [eqGuard_pure op t xo yo xv yv hg]
    simpa using hr
  unfold binD
  split <;> try trivial
  all_goals first
    | (split <;> try trivial
       rename_i hk; subst hk
       cases hx; cases hy
       refine go _ _ (.inl ⟨_, _, rfl⟩) (by simp [binOp, Op.intArith, Op.intCmp]; rfl) (by constructor))
    | (split <;> try trivial
       rename_i hk; subst hk
       cases hx; cases hy
       refine go _ _ (.inl ⟨_, _, rfl⟩) (by simp [binOp, Op.intBits, bitI]; rfl) (by constructor))
    | (split <;> try trivial
       rename_i hk
       have hu := isBool_und hk
       cases hx; cases hy
       refine go _ _ (.inr (.inr ⟨_, rfl⟩)) (by simp [binOp, run_equal_bool _ _ _ _ hu]; rfl) (by constructor))
    | (split <;> try trivial
       rename_i hk; subst hk
       intro h0
       cases hx; cases hy
       refine go _ _ (.inl ⟨_, _, rfl⟩) (by simp [binOp, Op.intDiv, h0]; rfl) (by constructor))
    | (cases hx; cases hy
       refine go _ _ (.inr (.inl ⟨_, rfl⟩)) (by simp only [binOp, Op.stringOp, ByteArray.toList_mk, Sem.run_pure]; rfl) (by constructor))
    | skip
  · intro h0
    cases hx; cases hy
    exact go _ _ (.inl ⟨_, _, rfl⟩) (shl_run _ _ _ _ h0) (by constructor)
  · intro h0
    cases hx; cases hy
    exact go _ _ (.inl ⟨_, _, rfl⟩) (shr_run _ _ _ _ h0) (by constructor)
  · intro h0
    cases hx; cases hy
    rename_i a b
    refine go _ (.string ⟨(a ++ b).toArray⟩) (.inr (.inl ⟨_, rfl⟩)) ?_ (by constructor)
    have hsz : ¬ ((((⟨a.toArray⟩ : ByteArray).size + (⟨b.toArray⟩ : ByteArray).size : Nat) : Int) > IntKind.i64.max) := by
      simp [ByteArray.size, IntKind.max_i64]; omega
    simp only [binOp, Op.stringOp, if_neg hsz, Sem.run_pure, ByteArray.mk_append_mk]
theorem bin_sound {op : BinOp} {x y : AV} {xv yv : Value} (hx : VR w.heap (s.own B.A β) s.used s.hp β xv x) (hy : VR w.heap (s.own B.A β) s.used s.hp β yv y) (xo yo : Operand) :
    RV (binR (P.ti t).k op x y) fun z => ∃ v, (do eqGuard op t xo yo xv yv; binOp op t xv yv : Sem Value).run P w = .ok v w ∧ VR w.heap (s.own B.A β) s.used s.hp β v z := by
  unfold binR
  split <;> try trivial
  exact RV.bind (fun d ⟨v, hr, hv⟩ => ⟨v, hr, .d _ _ hv⟩) (binD_sound w.heap (s.own B.A β) hx.toD hy.toD t xo yo)
theorem un_sound {op : UnOp} {x : AV} {xv : Value} (hx : VR w.heap (s.own B.A β) s.used s.hp β xv x) :
    RV (unR op x) fun z => ∃ v, (Op.unary op xv).run P w = .ok v w ∧ VR w.heap (s.own B.A β) s.used s.hp β v z := by
  unfold unR
  split <;> try trivial
  · obtain rfl := hx.bool
    exact ⟨_, by simp [Op.unary], .d _ _ (.bool _)⟩
  · obtain rfl := hx.int
    exact ⟨_, by simp [Op.unary, Op.intArith], .d _ _ (.int _ _)⟩
theorem pick_sound {c x y : AV} {cv xv yv : Value} (hc : VR w.heap (s.own B.A β) s.used s.hp β cv c) (hx : VR w.heap (s.own B.A β) s.used s.hp β xv x) (hy : VR w.heap (s.own B.A β) s.used s.hp β yv y) :
    RV (pickR c x y) fun z => ∃ v, (do pure (.value (if ← asBool cv then xv else yv)) : Sem Next).run P w = .ok (.value v) w ∧ VR w.heap (s.own B.A β) s.used s.hp β v z := by
  unfold pickR
  split <;> try trivial
  · obtain rfl := hc.bool; exact ⟨_, by simp [asBool], hx⟩
  · obtain rfl := hc.bool; exact ⟨_, by simp [asBool], hy⟩
theorem len_sound (h : Sim B β s tm w) {x : AV} {xv : Value} (hx : VR w.heap (s.own B.A β) s.used s.hp β xv x) {i : TI} (hi : i = P.ti t) (ty : TypeId) :
    RV (lenR i s.hp x) fun z => ∃ v, (Builtin.len_ #[t] ty #[xv]).run P w = .ok v w ∧ VR w.heap (s.own B.A β) s.used s.hp β v z := by
  subst hi
  unfold lenR
  split
  · rename_i l hk
    obtain rfl := hx.str
    have hsz : (⟨l.toArray⟩ : ByteArray).size = l.length := by simp [ByteArray.size]
    exact ⟨.int .i64 l.length, by simp [Builtin.len_, run_underlying (ti_str hk), goInt, hsz], .d _ _ (.int _ _)⟩
  · rename_i e wf xs hk
    obtain ⟨a, cap, rfl, _⟩ := hx.toD.sl_inv
    exact ⟨_, by simp [Builtin.len_, run_underlying (ti_slice hk), goInt], .d _ _ (.int _ _)⟩
  · rename_i e hk
    obtain rfl := hx.nils
    exact ⟨_, by simp [Builtin.len_, run_underlying (ti_slice hk), goInt], .d _ _ (.int _ _)⟩
  · rename_i e p o l hk
    split <;> try trivial
    rename_i wf xs hp
    cases hx with
    | vw _ _ _ _ hn h1' hx =>
      obtain ⟨hle, a0, cap, rfl, hx'⟩ := hx _ _ _ hp
      exact ⟨_, by simp [Builtin.len_, run_underlying (ti_slice hk), goInt], .d _ _ (.int _ _)⟩
  · rename_i a b p hk
    split <;> try trivial
    rename_i es hp
    cases hx with
    | mp _ _ hn h1 hx =>
      obtain ⟨k, hk', rfl⟩ := hx _ hp
      obtain ⟨k', ents, clock, hk'', hb, hz, _⟩ := (h.objs p _ hp).2
      rw [hk'] at hk''; cases hk''
      refine ⟨_, ?_, .d _ _ (.int .i64 es.length)⟩
      simp [Builtin.len_, run_underlying (ti_map hk), goInt, getObj, Sem.run, hb, hz]
  · trivial
theorem max_sound {x y : AV} {xv yv : Value} (hx : VR w.heap (s.own B.A β) s.used s.hp β xv x) (hy : VR w.heap (s.own B.A β) s.used s.hp β yv y) (ts : Array TypeId) (ty : TypeId) :
    RV (maxR x y) fun z => ∃ v, (Builtin.max_ ts ty #[xv, yv]).run P w = .ok v w ∧ VR w.heap (s.own B.A β) s.used s.hp β v z := by
  unfold maxR
  split <;> try trivial
  split <;> try trivial
  obtain rfl := hx.int; obtain rfl := hy.int
  exact ⟨_, by simp [Builtin.max_, Builtin.max2], .d _ _ (.int _ _)⟩
theorem min_sound {x y : AV} {xv yv : Value} (hx : VR w.heap (s.own B.A β) s.used s.hp β xv x) (hy : VR w.heap (s.own B.A β) s.used s.hp β yv y) (ts : Array TypeId) (ty : TypeId) :
    RV (minR x y) fun z => ∃ v, (Builtin.min_ ts ty #[xv, yv]).run P w = .ok v w ∧ VR w.heap (s.own B.A β) s.used s.hp β v z := by
  unfold minR
  split <;> try trivial
  split <;> try trivial
  obtain rfl := hx.int; obtain rfl := hy.int
  exact ⟨_, by simp [Builtin.min_, Builtin.min2], .d _ _ (.int _ _)⟩
theorem conv_sound {t' : Nat} {x : AV} {xv : Value} (hx : VR w.heap (s.own B.A β) s.used s.hp β xv x) :
    RV (convR (P.ti t) (P.ti t') x) fun z => ∃ v, (convert t t' xv).run P w = .ok v w ∧ VR w.heap (s.own B.A β) s.used s.hp β v z := by
  unfold convR
  split <;> try trivial
  · rename_i k1 k2 j n hk1 hk2
    obtain rfl := hx.int
    exact ⟨_, by simp [convert, run_underlying (ti_int hk1), run_underlying (ti_int hk2), Conv.intToInt], .d _ _ (.int _ _)⟩
  · rename_i l hk1 hk2
    obtain rfl := hx.str
    exact ⟨_, by simp [convert, run_underlying (ti_str hk1), run_underlying (ti_str hk2)], .d _ _ (.str _)⟩
theorem extract_sound {x : AV} {xv : Value} (hx : VR w.heap (s.own B.A β) s.used s.hp β xv x) (i : Nat) :
    RV (extractR x i) fun z => ∃ v, (Instr.extract xv i).run P w = .ok v w ∧ VR w.heap (s.own B.A β) s.used s.hp β v z := by
  unfold extractR
  split <;> try trivial
  rename_i vs
  refine RV.ofO fun y hy => ?_
  cases hx with
  | tup xs _ hs h =>
    have hlt : i < xs.size := by rw [hs]; exact (List.getElem?_eq_some_iff.1 hy).1
    have := h i y hy
    refine ⟨_, ?_, this⟩
    simp [Instr.extract, Array.getElem?_eq_getElem hlt, Array.getD_eq_getD_getElem?]
theorem nil_sound {B : Base} {x : AV} {xv : Value} (hx : VR w.heap (s.own B.A β) s.used s.hp β xv x) :
    RV (nilR s.hp x) fun z => (∃ a, xv = .pointer (some a)) ∧ VR w.heap (s.own B.A β) s.used s.hp β xv z := by
  unfold nilR
  split <;> try trivial
  split <;> try trivial
  rename_i p c ty cs hp
  cases hx with
  | «at» _ _ _ hu h1 h =>
    obtain ⟨k, _, _, rfl⟩ := h ty cs hp
    exact ⟨⟨_, rfl⟩, .at _ _ _ hu h1 h⟩
theorem makeFunc_sound {fn : Fn} {first : Array Operand} {caps : List AV} {cvs : Array Value} {ρ : Operand → Value} (hs : cvs.size = caps.length)
    (h : ∀ (i : Nat) x, caps[i]? = some x → VR w.heap (s.own B.A β) s.used s.hp β (cvs.getD i undef) x) :
    RV (makeFuncR fn first.toList caps) fun z => ∃ v, (Instr.makeFunc fn (first.map ρ) cvs).run P w = .ok v w ∧ VR w.heap (s.own B.A β) s.used s.hp β v z := by
  unfold makeFuncR
  split <;> try trivial
  rename_i f hf
  have : first = #[] := by simpa using hf
  subst this
  exact ⟨_, by simp [Instr.makeFunc], .clo f cvs caps hs h⟩
theorem run_part_agg (hg : (P.ti t).k.isBad = false) (ha : (P.ti t).k.agg = true) (cs : Array Value) (o : Nat) : (part t cs o).run P w = .ok (.agg (cs.extract o (o + (P.ti t).sz))) w := by
  simp [part, run_isAgg hg, ha, run_sizeOf hg]
theorem run_part_one (hg : (P.ti t).k.isBad = false) (ha : (P.ti t).k.agg = false) (cs : Array Value) (o : Nat) (v : Value) (h : cs[o]? = some v) : (part t cs o).run P w = .ok v w := by
  simp [part, run_isAgg hg, ha, h]
theorem extract_toArray (c : Array Value) (o z : Nat) : c.extract o (o + z) = ((c.toList.drop o).take z).toArray := by
  apply Array.ext'
  simp [List.extract_eq_take_drop]
theorem partV_sound {H : Array Obj} {own : Nat → Prop} {v : Value} {d y : D} {c0 : Nat} (hd : ∃ cs, d = .agg cs) (h : Rep H own v d) (hp : partD (P.ti t) d c0 = some y) :
    ∃ c u, v = .agg c ∧ (part t c c0).run P w = .ok u w ∧ Rep H own u y := by
  obtain ⟨cs, rfl⟩ := hd
  cases h with
  | agg vs _ hs hsc h =>
    unfold partD at hp
    by_cases hg : (P.ti t).k.isBad = true
    · simp [hg] at hp
    · have hg : (P.ti t).k.isBad = false := by simpa using hg
      simp only [hg, Bool.false_eq_true, if_false] at hp
      by_cases ha : (P.ti t).k.agg = true
      · simp only [ha, if_true] at hp
        split at hp
        · rename_i hle
          cases hp
          refine ⟨vs, _, rfl, run_part_agg hg ha vs c0, ?_⟩
          rw [extract_toArray]
          refine .agg _ _ (by simp; omega) (fun x hx => hsc x (List.mem_of_mem_drop (List.mem_of_mem_take hx))) (fun i x hi => ?_)
          rw [List.getElem?_take] at hi
          split at hi
          · rename_i hlt
            rw [List.getElem?_drop] at hi
            have := h (c0 + i) x hi
            have e1 : ((vs.toList.drop c0).take (P.ti t).sz).toArray.getD i undef = vs.getD (c0 + i) undef := by
              simp [Array.getD_eq_getD_getElem?, hlt]
            rw [e1]; exact this
          · cases hi
        · cases hp
      · have ha : (P.ti t).k.agg = false := by simpa using ha
        simp only [ha, Bool.false_eq_true, if_false] at hp
        have hlt : c0 < vs.size := by rw [hs]; exact (List.getElem?_eq_some_iff.1 hp).1
        exact ⟨vs, _, rfl, run_part_one hg ha vs c0 _ (getD_of (z := undef) hlt), h c0 y hp⟩
theorem field_sound {xv : Value} {x : AV} {f : Nat} (hx : VR w.heap (s.own B.A β) s.used s.hp β xv x) :
    RV (fieldR (P.ti t) P.ti x f) fun y => ∃ v, (Instr.field t xv f).run P w = .ok v w ∧ VR w.heap (s.own B.A β) s.used s.hp β v y := by
  unfold fieldR
  split <;> try trivial
  rename_i fs hk
  split <;> try trivial
  rename_i o tt hf
  obtain ⟨fl, hu, rfl⟩ := ti_struct hk
  simp only [List.getElem?_map, Option.map_eq_some_iff, Prod.mk.injEq] at hf
  obtain ⟨fd, hfd, rfl, rfl⟩ := hf
  have hfd' : fl[f]? = some fd := by simpa using hfd
  have hrun : ∀ (c : Array Value) (u : Value), (part fd.type c fd.offset).run P w = .ok u w → (Instr.field t (.agg c) f).run P w = .ok u w := fun c u hr => by
    simp [Instr.field, run_underlying hu, hfd', asAgg, hr]
  split
  · rename_i cs
    refine RV.ofO fun y hy => ?_
    simp only [Option.map_eq_some_iff] at hy
    obtain ⟨d, hd, rfl⟩ := hy
    obtain ⟨c, u, rfl, hr, hv⟩ := partV_sound (P := P) (w := w) ⟨cs, rfl⟩ hx.toD hd
    exact ⟨u, hrun c u hr, .d _ _ hv⟩
  · rename_i cs
    cases hx with
    | agg vs _ hs h1 h =>
      unfold partC
      by_cases hg : (P.ti fd.type).k.isBad = true
      · simp [hg, RV]
      · have hg : (P.ti fd.type).k.isBad = false := by simpa using hg
        simp only [hg, Bool.false_eq_true, if_false]
        by_cases ha : (P.ti fd.type).k.agg = true
        · simp only [ha, if_true]
          split
          · rename_i hle
            refine ⟨_, hrun _ _ (run_part_agg hg ha vs fd.offset), ?_⟩
            rw [extract_toArray]
            refine mkAgg_rep (by simp; omega) (fun v hv => h1 v ?_) (fun i v x hv hx => ?_)
            · have := List.mem_of_mem_drop (List.mem_of_mem_take hv); simpa using this
            · rw [List.getElem?_take] at hv hx
              split at hv
              · rename_i hlt
                rw [if_pos hlt] at hx
                rw [List.getElem?_drop] at hv hx
                have := h _ x hx
                have e1 : vs.getD (fd.offset + i) undef = v := by
                  simp only [Array.getElem?_toList] at hv
                  simp [Array.getD_eq_getD_getElem?, hv]
                rwa [e1] at this
              · cases hv
          · trivial
        · have ha : (P.ti fd.type).k.agg = false := by simpa using ha
          simp only [ha, Bool.false_eq_true, if_false]
          refine RV.ofO fun x hx => ?_
          have hlt : fd.offset < vs.size := by rw [hs]; exact (List.getElem?_eq_some_iff.1 hx).1
          exact ⟨_, hrun _ _ (run_part_one hg ha vs fd.offset _ (getD_of (z := undef) hlt)), h _ x hx⟩
  · trivial
end
end Go.Ab
namespace Go.Ab
section
variable {P : Program} {B : Base} {β : Name → Option Blk} {s : St} {tm : Array Value} {w : World} {t : Nat}
theorem nm_ne {used : List Nat} {p : Name} (h : nm used p) (ht : t ∉ used) : p ≠ [t] := by
  obtain ⟨a, l, rfl, ha⟩ := h
  intro e
  simp at e
  exact ht (e.1 ▸ ha)
theorem Sim.renew (h : Sim B β s tm w) (ht : t ∉ s.used) {p : Name} {ob : Ob} {k : Blk} (hp : s.hp p = some ob) (hk : β p = some k) (ty : Option Nat) (wf : W) (xs : List D) (o' : Nat) {w' : World} (hio : wio w' = wio w) (hsz : w'.heap.size = w.heap.size)
    (hw : ∀ b, b ≠ k.b → w'.heap[b]? = w.heap[b]?)
    (hO : (∀ v d, Rep w.heap (s.own B.A β) v d → Rep w'.heap (s.own B.A β) v d) →
      ∃ c e, w'.heap[k.b]? = some (.cells c (ty.getD e) (0, 0)) ∧ c.size = k.z ∧ o' + xs.length * wd wf ≤ k.z ∧ (∀ x ∈ xs, okW wf x) ∧
        ∀ i x j d, xs[i]? = some x → x.cells[j]? = some d → Rep w'.heap (s.own B.A β) (c.getD (o' + i * wd wf + j) undef) d) :
    Sim B (updP β [t] (some ⟨k.b, o', k.z⟩)) ((s.set p none).add t (.arrT ty wf xs)) tm w' := by
  obtain ⟨β', hβ'⟩ : ∃ β', updP β [t] (some ⟨k.b, o', k.z⟩) = β' := ⟨_, rfl⟩
  obtain ⟨s', hs'⟩ : ∃ s', (s.set p none).add t (.arrT ty wf xs) = s' := ⟨_, rfl⟩
  have hnew : β' [t] = some ⟨k.b, o', k.z⟩ := by rw [← hβ']; simp [updP]
  have hold : ∀ q, q ≠ [t] → β' q = β q := fun q hq => by rw [← hβ']; simp [updP, hq]
  have hpn := nm_ne (h.objs p ob hp).1 ht
  have hhn : s'.hp [t] = some (.arrT ty wf xs) := by rw [← hs']; simp [St.add, updP]
  have hhp : s'.hp p = none := by rw [← hs']; simp [St.add, St.set, updP, hpn]
  have hhq : ∀ q, q ≠ [t] → q ≠ p → s'.hp q = s.hp q := fun q h1 h2 => by rw [← hs']; simp [St.add, St.set, updP, h1, h2]
  have hus : s'.used = t :: s.used := by rw [← hs']; rfl
  have hfr : s'.fr = s.fr := by rw [← hs']; rfl
  have hpne : s.hp p ≠ none := by rw [hp]; simp
  have hown : s'.own B.A β' = s.own B.A β := by
    funext b
    refine propext (or_congr_right ⟨?_, ?_⟩)
    · rintro ⟨q, l, hq, hl, rfl⟩
      by_cases e1 : q = [t]
      · subst e1; rw [hnew] at hl; cases hl; exact ⟨p, k, hpne, hk, rfl⟩
      · by_cases e2 : q = p
        · subst e2; exact absurd hhp hq
        · rw [hold q e1] at hl; rw [hhq q e1 e2] at hq; exact ⟨q, l, hq, hl, rfl⟩
    · rintro ⟨q, l, hq, hl, rfl⟩
      by_cases e2 : q = p
      · subst e2; rw [hk] at hl; cases hl; exact ⟨[t], _, by rw [hhn]; simp, hnew, rfl⟩
      · cases ho : s.hp q with
        | none => exact absurd ho hq
        | some o =>
          have e1 := nm_ne (h.objs q o ho).1 ht
          exact ⟨q, l, by rw [hhq q e1 e2]; exact hq, by rw [hold q e1]; exact hl, rfl⟩
  have hr : ∀ v d, Rep w.heap (s.own B.A β) v d → Rep w'.heap (s.own B.A β) v d := fun v d hd => hd.mono (fun b hb _ => hw b fun e => hb (.inr ⟨p, k, hpne, hk, e.symm⟩)) (fun _ _ h => h)
  have hst : ∀ q, nm s.used q → Stays s.hp s'.hp β β' q := by
    intro q hq o ho
    have e1 := nm_ne hq ht
    have e2 : q ≠ p := by rintro rfl; rw [hhp] at ho; cases ho
    exact ⟨o, by rwa [hhq q e1 e2] at ho, Ob.like_refl _, hold q e1⟩
  have hu : ∀ x ∈ s.used, x ∈ s'.used := fun x hx => by rw [hus]; exact List.mem_cons_of_mem _ hx
  rw [hβ', hs']
  refine { tms := h.tms, io := hio.trans h.io, size := by rw [hsz]; exact h.size, frame := ?_, slots := fun i => ?_, objs := ?_, blocks := ?_, inj := ?_, us := fun x hx => hu x (h.us x hx),
           stay := fun p hp => (hold p (nm_ne (hp.mono h.us) ht)).trans (h.stay p hp) }
  · intro b hb hn
    rw [hw b ?_]
    · exact h.frame b hb hn
    · rintro rfl
      rcases (h.blocks p k hpne hk).2.2 with h3 | h3
      · omega
      · exact hn h3
  · rw [hown, hfr]; exact (h.slots i).mono hr hu hst
  · intro q o ho
    rw [hown]
    by_cases e1 : q = [t]
    · subst e1
      rw [hhn] at ho; cases ho
      obtain ⟨c, e, h1, h2, h3, h4, h5⟩ := hO hr
      exact ⟨⟨t, [], rfl, by rw [hus]; exact List.mem_cons_self⟩, .inr ⟨_, c, e, hnew, h1, h2, h3, h4, h5⟩⟩
    · have e2 : q ≠ p := by rintro rfl; rw [hhp] at ho; cases ho
      rw [hhq q e1 e2] at ho
      obtain ⟨h1, h2⟩ := h.objs q o ho
      refine ⟨h1.mono hu, h2.mono hr hu hst (hold q e1) fun l hl => hw l.b fun e => ?_⟩
      exact e2 (h.inj q p l k (by rw [ho]; simp) hpne hl hk e)
  · intro q l hq hl
    rw [hsz]
    by_cases e1 : q = [t]
    · subst e1; rw [hnew] at hl; cases hl; exact h.blocks p k hpne hk
    · have e2 : q ≠ p := by rintro rfl; exact hq hhp
      rw [hold q e1] at hl; rw [hhq q e1 e2] at hq
      exact h.blocks q l hq hl
  · intro q q' l l' hq hq' hl hl' e
    have key : ∀ q l, s'.hp q ≠ none → β' q = some l → ∃ r, (q = [t] ∧ r = p ∨ q ≠ [t] ∧ r = q ∧ q ≠ p) ∧ s.hp r ≠ none ∧ ∃ m, β r = some m ∧ m.b = l.b := by
      intro q l hq hl
      by_cases e1 : q = [t]
      · subst e1; rw [hnew] at hl; cases hl; exact ⟨p, .inl ⟨rfl, rfl⟩, hpne, k, hk, rfl⟩
      · have e2 : q ≠ p := by rintro rfl; exact hq hhp
        rw [hold q e1] at hl; rw [hhq q e1 e2] at hq
        exact ⟨q, .inr ⟨e1, rfl, e2⟩, hq, l, hl, rfl⟩
    obtain ⟨r, h1, h2, m, h3, h4⟩ := key q l hq hl
    obtain ⟨r', g1, g2, m', g3, g4⟩ := key q' l' hq' hl'
    have : r = r' := h.inj r r' m m' h2 g2 h3 g3 (by rw [h4, g4, e])
    rcases h1 with ⟨rfl, rfl⟩ | ⟨h1, rfl, h5⟩ <;> rcases g1 with ⟨rfl, rfl⟩ | ⟨g1, rfl, g5⟩
    · rfl
    · exact absurd this.symm g5
    · exact absurd this h5
    · exact this
theorem Sim.addNone (h : Sim B β s tm w) (ht : t ∉ s.used) (ty : Option Nat) (wf : W) : Sim B (updP β [t] none) (s.add t (.arrT ty wf [])) tm w := by
  have hold : ∀ q, q ≠ [t] → updP β [t] none q = β q := fun q hq => by simp [updP, hq]
  have hnew : updP β [t] none [t] = none := by simp [updP]
  have hhq : ∀ q, q ≠ [t] → (s.add t (.arrT ty wf [])).hp q = s.hp q := fun q h1 => by simp [St.add, updP, h1]
  have hown : (s.add t (.arrT ty wf [])).own B.A (updP β [t] none) = s.own B.A β := by
    funext b
    refine propext (or_congr_right ⟨?_, ?_⟩)
    · rintro ⟨q, l, hq, hl, rfl⟩
      by_cases e1 : q = [t]
      · subst e1; rw [hnew] at hl; cases hl
      · rw [hold q e1] at hl; rw [hhq q e1] at hq; exact ⟨q, l, hq, hl, rfl⟩
    · rintro ⟨q, l, hq, hl, rfl⟩
      cases ho : s.hp q with
      | none => exact absurd ho hq
      | some o =>
        have e1 := nm_ne (h.objs q o ho).1 ht
        exact ⟨q, l, by rw [hhq q e1]; exact hq, by rw [hold q e1]; exact hl, rfl⟩
  have hst : ∀ q, nm s.used q → Stays s.hp (s.add t (.arrT ty wf [])).hp β (updP β [t] none) q := by
    intro q hq o ho
    have e1 := nm_ne hq ht
    exact ⟨o, by rwa [hhq q e1] at ho, Ob.like_refl _, hold q e1⟩
  have hu : ∀ x ∈ s.used, x ∈ (s.add t (.arrT ty wf [])).used := fun x hx => List.mem_cons_of_mem _ hx
  refine { tms := h.tms, io := h.io, size := h.size, frame := h.frame, slots := fun i => ?_, objs := ?_, blocks := ?_, inj := ?_, us := fun x hx => hu x (h.us x hx),
           stay := fun p hp => (hold p (nm_ne (hp.mono h.us) ht)).trans (h.stay p hp) }
  · rw [hown]; exact (h.slots i).mono (fun _ _ h => h) hu hst
  · intro q o ho
    rw [hown]
    by_cases e1 : q = [t]
    · subst e1
      have : o = .arrT ty wf [] := by simpa [St.add, updP] using ho.symm
      subst this
      exact ⟨⟨t, [], rfl, List.mem_cons_self⟩, .inl ⟨hnew, rfl⟩⟩
    · rw [hhq q e1] at ho
      obtain ⟨h1, h2⟩ := h.objs q o ho
      exact ⟨h1.mono hu, h2.mono (fun _ _ h => h) hu hst (hold q e1) fun _ _ => rfl⟩
  · intro q l hq hl
    by_cases e1 : q = [t]
    · subst e1; rw [hnew] at hl; cases hl
    · rw [hold q e1] at hl; rw [hhq q e1] at hq
      exact h.blocks q l hq hl
  · intro q q' l l' hq hq' hl hl' e
    by_cases e1 : q = [t]
    · subst e1; rw [hnew] at hl; cases hl
    · by_cases e2 : q' = [t]
      · subst e2; rw [hnew] at hl'; cases hl'
      · rw [hold q e1] at hl; rw [hhq q e1] at hq; rw [hold q' e2] at hl'; rw [hhq q' e2] at hq'
        exact h.inj q q' l l' hq hq' hl hl' e
theorem VR.own_at {H own} (p : Name) (b z : Nat) {used : List Nat} {hp : Name → Option Ob} {β : Name → Option Blk} (hu : nm used p) (hβ : β p = some ⟨b, 0, z⟩) : VR H own used hp β (.pointer (some ⟨b, 0, none⟩)) (.at p 0) :=
  .at _ _ _ hu rfl fun _ _ _ => ⟨_, hβ, rfl, rfl⟩
theorem newBox_sound (h : Sim B β s tm w) (ht : t < B.n) (hu : t ∉ s.used) {c : Array Value} {cs : List AV} (hs : c.size = cs.length) (h1 : ∀ u ∈ c, u.oneCell' = true)
    (hv : ∀ i x, cs[i]? = some x → VR w.heap (s.own B.A β) s.used s.hp β (c.getD i undef) x) (e : TypeId) (ty : Option Nat) (hty : ty.getD e = e) :
    ∃ β', Sim B β' ((s.add t (.boxT ty cs)).put t (.at [t] 0)) (tm.setIfInBounds t (.pointer (some ⟨w.heap.size, 0, none⟩))) (w.alloc (.cells c e)) := by
  obtain ⟨hsim, _⟩ := h.alloc hu (.cells c e) (.boxT ty cs) c.size (fun β' hβ hmono =>
    ⟨_, c, e, hβ, rfl, by rw [hty]; exact heap_alloc_new w _, rfl, hs, h1, fun j x hj => hmono _ _ (hv j x hj)⟩)
  refine ⟨_, hsim.put ht (.own_at [t] w.heap.size c.size ⟨t, [], rfl, List.mem_cons_self⟩ ?_)⟩
  simp [updP]
theorem newArr_sound (h : Sim B β s tm w) (ht : t < B.n) (hu : t ∉ s.used) {c : Array Value} {wf : W} {xs : List D} {cap : Nat} (hl : xs.length ≤ cap) (hz : cap * wd wf ≤ c.size) (hok : ∀ x ∈ xs, okW wf x)
    (hv : ∀ i x j d, xs[i]? = some x → x.cells[j]? = some d → Rep w.heap (s.own B.A β) (c.getD (i * wd wf + j) undef) d) (e : TypeId) (ty : Option Nat) (hty : ty.getD e = e) :
    ∃ β', Sim B β' ((s.add t (.arrT ty wf xs)).put t (.vw [t] 0 xs.length)) (tm.setIfInBounds t (.slice (some ⟨w.heap.size, 0, none⟩) xs.length cap)) (w.alloc (.cells c e)) := by
  have hle : xs.length * wd wf ≤ cap * wd wf := Nat.mul_le_mul_right _ hl
  obtain ⟨hsim, _⟩ := h.alloc hu (.cells c e) (.arrT ty wf xs) c.size (fun β' hβ hmono =>
    .inr ⟨_, c, e, hβ, by rw [hty]; exact heap_alloc_new w _, rfl, by simp; omega, hok, fun i x j d hi hj => by
      have := hmono _ _ (.d _ _ (hv i x j d hi hj))
      simpa using this.toD⟩)
  refine ⟨_, hsim.put ht (.vw _ _ _ _ ⟨t, [], rfl, List.mem_cons_self⟩ rfl fun ty' w' xs' hp' => ?_)⟩
  have : w' = wf ∧ xs' = xs := by
    have h3 : ty' = ty ∧ wf = w' ∧ xs = xs' := by simpa [St.add, updP, eq_comm] using hp'
    exact ⟨h3.2.1.symm, h3.2.2.symm⟩
  obtain ⟨rfl, rfl⟩ := this
  exact ⟨by simp, _, cap, rfl, .inr ⟨⟨w.heap.size, 0, c.size⟩, by simp [updP], by simp, hl, by simpa using hz⟩⟩
end
end Go.Ab
namespace Go.Ab
section
variable {P : Program} {B : Base} {β : Name → Option Blk} {s : St} {tm : Array Value} {w : World} {t : Nat}
theorem zero_run {z : List D} (hz : (P.ti t).z = some z) : ∃ v, (∀ w, (zeroValue t).run P w = .ok v w) ∧ v.cells.toList.mapM zd = some z ∧ ∃ i, P.info? t = some i ∧ i.zero = some v ∧ i.size = (P.ti t).sz ∧ i.bytes = (P.ti t).by' := by
  obtain ⟨i, d, hi, hd, _, hs, hb, hz'⟩ := ti_good (zd_good hz)
  rw [hz] at hz'
  cases hv : i.zero with
  | none => rw [hv] at hz'; cases hz'
  | some v =>
    rw [hv] at hz'
    exact ⟨v, fun w => by simp [zeroValue, typeInfo, hi, hv], hz'.symm, i, hi, hv, hs.symm, hb.symm⟩
theorem alloc_sound (h : Sim B β s tm w) {z : List D} (hz : (P.ti t).z = some z) {d : Nat} (hd : d < B.n) (hu : d ∉ s.used) (ty : Option Nat) (hty : ty.getD t = t) :
    ∃ v w' β', (Instr.alloc t true (.tuple #[])).run P w = .ok v w' ∧ Sim B β' ((s.add d (.boxT ty (z.map .d))).put d (.at [d] 0)) (tm.setIfInBounds d v) w' := by
  obtain ⟨v, hr, hm, _⟩ := zero_run hz
  obtain ⟨h1, h2, h3, h4⟩ := mapM_zd (H := w.heap) (own := s.own B.A β) hm
  obtain ⟨β', hs⟩ := newBox_sound h hd hu (c := v.cells) (cs := z.map .d) (by simpa using h1.symm) (by simpa using h3) (fun i x hi => by
    simp only [List.getElem?_map, Option.map_eq_some_iff] at hi
    obtain ⟨d', hd', rfl⟩ := hi
    obtain ⟨u, hu', hrep⟩ := h4 i d' hd'
    have : v.cells.getD i undef = u := by
      simp only [Array.getElem?_toList] at hu'
      simp [Array.getD_eq_getD_getElem?, hu']
    rw [this]; exact .d _ _ hrep) t ty hty
  exact ⟨_, _, β', by simp [Instr.alloc, hr, newVar, newRow], hs⟩
theorem box_sound (h : Sim B β s tm w) {xv : Value} {x : AV} (hx : VR w.heap (s.own B.A β) s.used s.hp β xv x) {cs : List AV} (hc : cellsA x = some cs) {d : Nat} (hd : d < B.n) (hu : d ∉ s.used) :
    ∃ v w' β', (Instr.box t xv).run P w = .ok v w' ∧ Sim B β' ((s.add d (.box cs)).put d (.at [d] 0)) (tm.setIfInBounds d v) w' := by
  obtain ⟨h1, h2, h3⟩ := cellsA_rep hc hx
  obtain ⟨β', hs⟩ := newBox_sound h hd hu h1 h2 h3 t none rfl
  exact ⟨_, _, β', by simp [Instr.box, newVar, newRow], hs⟩
theorem splice_length {α : Type} (l : List α) (c : Nat) (xs : List α) (h : c + xs.length ≤ l.length) : (splice l c xs).length = l.length := by simp [splice]; omega
theorem splice_get {α : Type} (l : List α) (c : Nat) (xs : List α) (h : c + xs.length ≤ l.length) (i : Nat) : (splice l c xs)[i]? = if c ≤ i ∧ i < c + xs.length then xs[i - c]? else l[i]? := by
  unfold splice
  by_cases h1 : i < c
  · rw [if_neg (by omega), List.getElem?_append_left (by simp; omega)]; simp [h1]
  · have e : (l.take c).length = c := by simp; omega
    rw [List.getElem?_append_right (by omega), e]
    by_cases h2 : i < c + xs.length
    · rw [if_pos ⟨by omega, h2⟩, List.getElem?_append_left (by omega)]
    · rw [if_neg (by omega), List.getElem?_append_right (by omega), List.getElem?_drop]; congr 1; omega
theorem fill_step (cells vs : Array Value) (off : Nat) (h : off + vs.size ≤ cells.size) :
    ((vs.zipIdx.foldl (fun cs (c, j) => cs.setIfInBounds (off + j) c) cells : Array Value)).toList = splice cells.toList off vs.toList := by
  have gen : ∀ (l : List Value) (k : Nat) (cells : Array Value), off + k + l.length ≤ cells.size →
      ((l.zipIdx k).foldl (fun (cs : Array Value) (p : Value × Nat) => cs.setIfInBounds (off + p.2) p.1) cells).toList = splice cells.toList (off + k) l := by
    intro l
    induction l with
    | nil => intro k cells h; simp [splice]
    | cons a r ih =>
      intro k cells h
      simp only [List.zipIdx_cons, List.foldl_cons, List.length_cons] at h ⊢
      rw [ih (k + 1) _ (by simp; omega)]
      apply List.ext_getElem?
      intro i
      rw [splice_get _ _ _ (by simp; omega), splice_get _ _ _ (by simp; omega)]
      simp only [Array.toList_setIfInBounds, List.length_cons, List.getElem?_set, Array.length_toList]
      by_cases h1 : i = off + k
      · subst h1
        simp [show ¬ (off + (k + 1) ≤ off + k) by omega, show off + k < cells.size by omega]
      · by_cases h2 : off + (k + 1) ≤ i ∧ i < off + (k + 1) + r.length
        · rw [if_pos h2, if_pos (by omega), show i - (off + k) = (i - (off + (k + 1))) + 1 by omega, List.getElem?_cons_succ]
        · rw [if_neg h2, if_neg (by omega), if_neg (by omega)]
  have := gen vs.toList 0 cells (by simpa using h)
  rw [Nat.add_zero] at this
  rw [← this]
  rw [← Array.foldl_toList, Array.toList_zipIdx]
section
variable {H : Array Obj} {own : Nat → Prop} {used : List Nat} {hp : Name → Option Ob}
def CR (H : Array Obj) (own : Nat → Prop) (used : List Nat) (hp : Name → Option Ob) (β : Name → Option Blk) (vs : List Value) (cs : List AV) : Prop :=
  vs.length = cs.length ∧ (∀ v ∈ vs, v.oneCell' = true) ∧ ∀ (i : Nat) x, cs[i]? = some x → VR H own used hp β (vs.getD i undef) x
theorem CR.splice {vs us : List Value} {cs ds : List AV} (h : CR H own used hp β vs cs) (g : CR H own used hp β us ds) {c : Nat} (hc : c + us.length ≤ vs.length) : CR H own used hp β (splice vs c us) (splice cs c ds) := by
  have hc' : c + ds.length ≤ cs.length := by rw [← h.1, ← g.1]; exact hc
  refine ⟨by rw [splice_length _ _ _ hc, splice_length _ _ _ hc', h.1], fun v hv => ?_, fun i x hi => ?_⟩
  · simp only [Ab.splice, List.mem_append] at hv
    rcases hv with hv | hv | hv
    · exact h.2.1 v (List.mem_of_mem_take hv)
    · exact g.2.1 v hv
    · exact h.2.1 v (List.mem_of_mem_drop hv)
  · rw [splice_get _ _ _ hc'] at hi
    rw [List.getD_eq_getElem?_getD, splice_get _ _ _ hc, g.1]
    split at hi
    · rename_i hcond
      rw [if_pos hcond]
      have := g.2.2 _ x hi
      rwa [List.getD_eq_getElem?_getD] at this
    · rename_i hcond
      rw [if_neg hcond]
      have := h.2.2 _ x hi
      rwa [List.getD_eq_getElem?_getD] at this
theorem CR.of_cells {v : Value} {x : AV} {cs : List AV} (hc : cellsA x = some cs) (h : VR H own used hp β v x) : CR H own used hp β v.cells.toList cs := by
  obtain ⟨h1, h2, h3⟩ := cellsA_rep hc h
  refine ⟨by simpa using h1, by simpa using h2, fun i x hi => ?_⟩
  have := h3 i x hi
  simpa [Array.getD_eq_getD_getElem?, List.getD_eq_getElem?_getD] using this
theorem CR.mkAgg {vs : List Value} {cs : List AV} (h : CR H own used hp β vs cs) : VR H own used hp β (.agg vs.toArray) (mkAgg cs) :=
  mkAgg_rep h.1 h.2.1 fun i v x hv hx => by
    have := h.2.2 i x hx
    rwa [List.getD_eq_getElem?_getD, hv] at this
theorem CR.zero {v : Value} {z : List D} (hm : v.cells.toList.mapM zd = some z) : CR H own used hp β v.cells.toList (z.map .d) := by
  obtain ⟨h1, h2, h3, h4⟩ := mapM_zd (H := H) (own := own) hm
  refine ⟨by simpa using h1.symm, h3, fun i x hi => ?_⟩
  simp only [List.getElem?_map, Option.map_eq_some_iff] at hi
  obtain ⟨d', hd', rfl⟩ := hi
  obtain ⟨u, hu', hrep⟩ := h4 i d' hd'
  rw [List.getD_eq_getElem?_getD, hu']; exact .d _ _ hrep
theorem buildG_fill {fl : List Field} (place : Nat → Option (Nat × Nat)) (hpl : ∀ f o tt, (fl.map fun f => (f.offset, f.type))[f]? = some (o, tt) → place f = some (o, (P.ti tt).sz)) :
    ∀ (parts : List (Nat × AV)) (pv : List (Nat × Value)) (cells : Array Value) (cs cs' : List AV), CR H own used hp β cells.toList cs →
      pv.length = parts.length → (∀ (i : Nat) q u, parts[i]? = some q → pv[i]? = some u → u.1 = q.1 ∧ VR H own used hp β u.2 q.2) →
      buildG P.ti (fl.map fun f => (f.offset, f.type)) cs parts = some cs' → ∃ cells', Instr.fill place cells pv = some cells' ∧ CR H own used hp β cells'.toList cs'
  | [], [], cells, cs, cs', hc, _, _, h => by simp [buildG] at h; subst h; exact ⟨cells, rfl, hc⟩
  | q :: r, u :: pr, cells, cs, cs', hc, hl, hq, h => by
    obtain ⟨e1, hv⟩ := hq 0 q u rfl rfl
    simp only [buildG] at h
    split at h
    · rename_i o tt vs hf hcv
      split at h
      · rename_i hcond
        have hcr := CR.of_cells hcv hv
        have hpl' := hpl _ _ _ hf
        have hlen : u.2.cells.size = vs.length := by simpa using hcr.1
        have hcs := hc.1
        simp at hcs
        have hno : ¬ (u.2.cells.size ≠ (P.ti tt).sz || o + u.2.cells.size > cells.size) = true := by simp; omega
        have hstep := fill_step cells u.2.cells o (by omega)
        have hc2 := hc.splice hcr (c := o) (by simp; omega)
        rw [← hstep] at hc2
        obtain ⟨cells', hfill, hcr'⟩ := buildG_fill place hpl r pr _ _ cs' hc2 (by simpa using hl) (fun i q' u' h1 h2 => hq (i + 1) q' u' (by simpa using h1) (by simpa using h2)) h
        refine ⟨cells', ?_, hcr'⟩
        obtain ⟨i, v⟩ := u
        simp only at e1 hno hfill ⊢
        subst e1
        simp only [Instr.fill, hpl', if_neg hno]
        exact hfill
      · cases h
    · cases h
  | [], _ :: _, _, _, _, _, hl, _, _ => by simp at hl
  | _ :: _, [], _, _, _, _, hl, _, _ => by simp at hl
end
theorem allGood_places : ∀ (fl : List Field), allGood P.ti (fl.map fun f => (f.offset, f.type)) = true →
    fl.mapM (fun f => (P.info? f.type).map fun i => (f.offset, i.size)) = some (fl.map fun f => (f.offset, (P.ti f.type).sz))
  | [], _ => rfl
  | f :: r, h => by
    simp only [List.map_cons, allGood, Bool.and_eq_true, Bool.not_eq_true'] at h
    obtain ⟨i, d, hi, _, _, hs, _⟩ := ti_good h.1
    simp [List.mapM_cons, hi, allGood_places r h.2, hs]
theorem build_sound {parts : List (Nat × AV)} {pv : Array (Nat × Value)} (hl : pv.size = parts.length)
    (hq : ∀ (i : Nat) q u, parts[i]? = some q → pv.toList[i]? = some u → u.1 = q.1 ∧ VR w.heap (s.own B.A β) s.used s.hp β u.2 q.2) :
    RV (buildR P.ti (P.ti t) parts) fun y => ∃ v, (Instr.build t pv).run P w = .ok v w ∧ VR w.heap (s.own B.A β) s.used s.hp β v y := by
  unfold buildR
  split
  rotate_left
  · rename_i l e zs hk hz
    split <;> try trivial
    split <;> try trivial
    rename_i hg
    have hg : (P.ti e).k.isBad = false := by simpa using hg
    have hu := ti_array hk
    obtain ⟨v, hr, hm, it, hi, hiz, _, _⟩ := zero_run hz
    have hp0 : pv = #[] := Array.eq_empty_of_size_eq_zero (by simpa using hl)
    subst hp0
    refine ⟨.agg v.cells, ?_, by simpa using (CR.zero (H := w.heap) (own := s.own B.A β) (used := s.used) (hp := s.hp) (β := β) hm).mkAgg⟩
    simp [Instr.build, hr, run_underlying hu, run_sizeOf hg, Instr.fill]
  · trivial
  rename_i fs zs hk hz
  split <;> try trivial
  rename_i hag
  obtain ⟨fl, hu, rfl⟩ := ti_struct hk
  obtain ⟨v, hr, hm, it, hi, hiz, _, _⟩ := zero_run hz
  refine RV.ofO fun y hy => ?_
  simp only [Option.map_eq_some_iff] at hy
  obtain ⟨cs, hb, rfl⟩ := hy
  have hpl := allGood_places fl.toList hag
  obtain ⟨cells', hfill, hcr⟩ := buildG_fill (P := P) (fl := fl.toList) ((fl.toList.map fun f => (f.offset, (P.ti f.type).sz)).toArray[·]?) (fun f o tt hf => by
      simp only [List.getElem?_map, Option.map_eq_some_iff, Prod.mk.injEq] at hf
      obtain ⟨fd, hfd, rfl, rfl⟩ := hf
      simp [show fl[f]? = some fd by simpa using hfd]) parts pv.toList v.cells (zs.map .d) cs (CR.zero (H := w.heap) (own := s.own B.A β) (used := s.used) (hp := s.hp) (β := β) hm) (by simpa using hl) hq hb
  refine ⟨_, run_build w t pv cells' ?_, by simpa using hcr.mkAgg⟩
  simp only [Program.built, hi, hu, hiz, hpl]
  exact hfill
def rowOK (H : Array Obj) (own : Nat → Prop) (c : Array Value) (o : Nat) (wf : W) (xs : List D) : Prop :=
  (∀ x ∈ xs, okW wf x) ∧ ∀ i x j d, xs[i]? = some x → x.cells[j]? = some d → Rep H own (c.getD (o + i * wd wf + j) undef) d
theorem cellsD_cells {d : D} {cs : List AV} (h : cellsD d = some cs) : cs = d.cells.map .d := by
  cases d <;> simp only [cellsD, Option.some.injEq] at h <;> subst h <;> rfl
theorem cells_len {H : Array Obj} {own : Nat → Prop} {v : Value} {d : D} (h : Rep H own v d) : v.cells.size = d.cells.length ∧ (∀ u ∈ v.cells, u.oneCell' = true) ∧ (∀ x ∈ d.cells, x.scal = true) ∧
    ∀ j x, d.cells[j]? = some x → Rep H own (v.cells.getD j undef) x := by
  obtain ⟨cs, hc⟩ : ∃ cs, cellsD d = some cs := by cases d <;> exact ⟨_, rfl⟩
  have e := cellsD_cells hc
  obtain ⟨h1, h2, h3⟩ := cellsD_rep (used := []) (hp := fun _ => none) (β := fun _ => none) hc h
  subst e
  refine ⟨by simpa using h1, h2, ?_, fun j x hj => (h3 j (.d x) (by simp [hj])).toD⟩
  intro x hx
  cases d with
  | agg cs => cases h with | agg _ _ _ hsc _ => exact hsc x hx
  | _ => simp [D.cells] at hx; subst hx; rfl
theorem fill_rows {H : Array Obj} {own : Nat → Prop} (size : Nat) (wf : W) (hw : wd wf = size) : ∀ (parts : List (Nat × AV)) (pv : List (Nat × Value)) (k : Nat) (cells : Array Value) (pre xs : List D), pre.length = k → rowOK H own cells 0 wf pre →
    pv.length = parts.length → (∀ (i : Nat) q u, parts[i]? = some q → pv[i]? = some u → u.1 = q.1 ∧ ∀ d, q.2 = .d d → Rep H own u.2 d) → partsD k parts = some xs → (∀ x ∈ xs, okW wf x) → (k + xs.length) * size ≤ cells.size →
    ∃ cells', Instr.fill (fun i => some (i * size, size)) cells pv = some cells' ∧ cells'.size = cells.size ∧ rowOK H own cells' 0 wf (pre ++ xs)
  | [], [], k, cells, pre, xs, hk, hpre, _, _, h, _, _ => by
    simp [partsD] at h; subst h
    exact ⟨cells, rfl, rfl, by simpa using hpre⟩
  | q :: r, u :: pr, k, cells, pre, xs, hk, hpre, hl, hq, h, hok, hz => by
    obtain ⟨e1, hv⟩ := hq 0 q u rfl rfl
    simp only [partsD] at h
    split at h <;> try cases h
    rename_i d hqd
    split at h <;> try cases h
    rename_i hqk
    simp only [Option.map_eq_some_iff] at h
    obtain ⟨xs', hx', rfl⟩ := h
    have hrep := hv d hqd
    have hokd : okW wf d := hok d List.mem_cons_self
    obtain ⟨c1, c2, c3, c4⟩ := cells_len hrep
    rw [okW_len hokd, hw] at c1
    simp only [List.length_cons] at hz
    have hle : k * size + size ≤ (k + (xs'.length + 1)) * size := by
      rw [← Nat.succ_mul]; exact Nat.mul_le_mul_right _ (by omega)
    have hno : ¬ (u.2.cells.size ≠ size || k * size + u.2.cells.size > cells.size) = true := by simp; omega
    have hstep := fill_step cells u.2.cells (k * size) (by omega)
    obtain ⟨cells1, hc1⟩ : ∃ c, (u.2.cells.zipIdx.foldl (fun cs (c, j) => cs.setIfInBounds (k * size + j) c) cells : Array Value) = c := ⟨_, rfl⟩
    rw [hc1] at hstep
    have hsz1 : cells1.size = cells.size := by
      have := congrArg List.length hstep
      rw [splice_length _ _ _ (by simp; omega)] at this; simpa using this
    have hget : ∀ i, cells1.getD i undef = if k * size ≤ i ∧ i < k * size + size then u.2.cells.getD (i - k * size) undef else cells.getD i undef := by
      intro i
      have := splice_get cells.toList (k * size) u.2.cells.toList (by simp; omega) i
      rw [← hstep] at this
      simp only [Array.getElem?_toList, Array.length_toList, c1] at this
      simp only [Array.getD_eq_getD_getElem?, this]
      split <;> rfl
    have hpre1 : rowOK H own cells1 0 wf (pre ++ [d]) := by
      refine ⟨fun x hx => ?_, fun i x j d' hi hj => ?_⟩
      · rcases List.mem_append.1 hx with hx | hx
        · exact hpre.1 x hx
        · simp at hx; subst hx; exact hokd
      · rw [hget]
        rcases Nat.lt_or_ge i pre.length with hlt | hge
        · rw [List.getElem?_append_left hlt] at hi
          have hxo := hpre.1 x (List.mem_of_getElem? hi)
          have hjl : j < wd wf := by rw [← okW_len hxo]; exact (List.getElem?_eq_some_iff.1 hj).1
          have : i * wd wf + wd wf ≤ k * size := by rw [← Nat.succ_mul, hw]; exact Nat.mul_le_mul_right _ (by omega)
          rw [if_neg (by omega)]
          exact hpre.2 i x j d' hi hj
        · rw [List.getElem?_append_right hge] at hi
          have hi0 : i = pre.length := by
            have := (List.getElem?_eq_some_iff.1 hi).1; simp at this; omega
          subst hi0
          simp at hi; subst hi
          have hjl : j < wd wf := by rw [← okW_len hokd]; exact (List.getElem?_eq_some_iff.1 hj).1
          rw [hk, hw, if_pos (by omega), show 0 + k * size + j - k * size = j by omega]
          exact c4 j d' hj
    obtain ⟨cells', hfill, hs', hrow⟩ := fill_rows size wf hw r pr (k + 1) cells1 (pre ++ [d]) xs' (by simp [hk]) hpre1 (by simpa using hl) (fun i q' u' h1 h2 => hq (i + 1) q' u' (by simpa using h1) (by simpa using h2)) hx'
      (fun x hx => hok x (List.mem_cons_of_mem _ hx)) (by rw [hsz1]; rw [show k + 1 + xs'.length = k + (xs'.length + 1) by omega]; exact hz)
    refine ⟨cells', ?_, hs'.trans hsz1, by simpa using hrow⟩
    obtain ⟨i, v⟩ := u
    simp only at e1 hno hfill hc1 ⊢
    subst e1
    rw [hqk] at *
    simp only [Instr.fill, if_neg hno, hc1]
    exact hfill
  | [], _ :: _, _, _, _, _, _, _, hl, _, _, _, _ => by simp at hl
  | _ :: _, [], _, _, _, _, _, _, hl, _, _, _, _ => by simp at hl
theorem buildSlice_sound (h : Sim B β s tm w) {parts : List (Nat × AV)} {pv : Array (Nat × Value)} (hl : pv.size = parts.length)
    (hq : ∀ (i : Nat) q u, parts[i]? = some q → pv.toList[i]? = some u → u.1 = q.1 ∧ VR w.heap (s.own B.A β) s.used s.hp β u.2 q.2) {e : Nat} (hk : (P.ti t).k = .slice e) {xs : List D} (hx : partsD 0 parts = some xs)
    {z : List D} (hz : (P.ti e).z = some z) (hw : (P.ti e).isW (P.ti e).w = true) (hok : ∀ x ∈ xs, okW (P.ti e).w x) (hb : xs.length * (P.ti e).sz ≤ 16777216) {d : Nat} (hd : d < B.n) (hu : d ∉ s.used) :
    ∃ v w' β', (Instr.buildSlice t xs.length pv).run P w = .ok v w' ∧ Sim B β' ((s.add d (.arr (P.ti e).w xs)).put d (.vw [d] 0 xs.length)) (tm.setIfInBounds d v) w' := by
  obtain ⟨hg, hwd, _⟩ := isW_spec hw
  obtain ⟨v, hr, hm, it, hi, hiz, _, _⟩ := zero_run hz
  obtain ⟨zc, hzc⟩ : ∃ zc : Array Value, (Array.range (xs.length * (P.ti e).sz)).map ((if xs.length * (P.ti e).sz = 0 then #[] else v.cells)[· % (if xs.length * (P.ti e).sz = 0 then #[] else v.cells).size]!) = zc := ⟨_, rfl⟩
  have hzs : zc.size = xs.length * (P.ti e).sz := by rw [← hzc]; simp
  obtain ⟨cells', hfill, hs', hrow⟩ := fill_rows (H := w.heap) (own := s.own B.A β) (P.ti e).sz (P.ti e).w hwd parts pv.toList 0 zc [] xs rfl ⟨fun x hx => by simp at hx, fun i x j d hi => by simp at hi⟩ (by simpa using hl)
    (fun i q u h1 h2 => let ⟨a, b⟩ := hq i q u h1 h2; ⟨a, fun d hd => by rw [hd] at b; exact b.toD⟩) hx hok (by simp; omega)
  obtain ⟨β', hsim⟩ := newArr_sound h hd hu (c := cells') (wf := (P.ti e).w) (xs := xs) (cap := xs.length) (Nat.le_refl _) (by rw [hwd, hs', hzs]; exact Nat.le_refl _) hok (fun i x j d hi hj => by
    have := hrow.2 i x j d (by simpa using hi) hj
    simpa using this) e none rfl
  refine ⟨_, _, β', ?_, hsim⟩
  have hb' : ¬ (xs.length * (P.ti e).sz > 2 ^ 24) := by omega
  simp only [Instr.buildSlice, Sem.run_bind, run_underlying (ti_slice hk), Result.andThen_ok, run_sizeOf hg, if_neg hb']
  by_cases h0 : xs.length * (P.ti e).sz = 0
  · simp only [h0, if_true] at hzc ⊢
    simp only [Sem.run_pure, Result.andThen_ok, hzc, hfill, newRow, Sem.run_bind, run_newObj]
    rfl
  · simp only [h0, if_false] at hzc ⊢
    simp only [Sem.run_bind, hr, Sem.run_pure, Result.andThen_ok, hzc, hfill, newRow, run_newObj]
    rfl
end
end Go.Ab
namespace Go.Ab
theorem okWb_ok {w : W} {d : D} (h : okWb w d = true) : okW w d := by
  cases w with
  | none => exact h
  | some n => cases d <;> simp [okWb] at h; exact ⟨h.1, h.2⟩
section
variable {P : Program} {B : Base} {β : Name → Option Blk} {s : St} {tm : Array Value} {w : World} {t : Nat}
theorem run_storeVar (hg : (P.ti t).k.isBad = false) {w : World} {b o : Nat} {c : Array Value} {e : TypeId} (hb : w.heap[b]? = some (.cells c e (0, 0))) {v : Value} (hs : v.cells.size = (P.ti t).sz) (hz : o + v.cells.size ≤ c.size) (h1 : ∀ u ∈ v.cells, u.oneCell' = true) :
    (storeVar t ⟨b, o, none⟩ v).run P w = .ok () (w.setRow b (splice c.toList o v.cells.toList).toArray) := by
  have := run_storeCells_at (P := P) b o e v.cells.toList 0 c w hb (by simpa using hz) (by simpa using h1)
  simp only [Nat.add_zero, Array.length_toList] at this
  simp only [storeVar, Sem.run_bind, run_sizeOf hg, Result.andThen_ok, ne_eq, hs, not_true_eq_false, if_false]
  simp only [hs] at this
  simp only [this, splice, Array.length_toList, hs]
  simp [List.append_assoc]
theorem store_sound (h : Sim B β s tm w) {xv yv : Value} {x y : AV} (hx : VR w.heap (s.own B.A β) s.used s.hp β xv x) (hy : VR w.heap (s.own B.A β) s.used s.hp β yv y) :
    RV (storeR (P.ti t) s x y) fun s' => ∃ w', (Instr.storeAt t xv yv).run P w = .ok () w' ∧ Sim B β s' tm w' := by
  unfold storeR
  split
  · rename_i p c
    split <;> try trivial
    rename_i ty cs hp
    split <;> try trivial
    rename_i vs hvs
    split <;> try trivial
    rename_i hcond
    obtain ⟨hg, hlen, hle⟩ := hcond
    have hcr := CR.of_cells hvs hy
    cases hx with
    | «at» _ _ _ hn h1 hx =>
      obtain ⟨k, hk, hk0, rfl⟩ := hx ty cs hp
      obtain ⟨k', c', e, hk', _, hc, hz, hl, h1', hcs⟩ := (h.objs p _ hp).2
      rw [hk] at hk'; cases hk'
      have hsz : yv.cells.size = (P.ti t).sz := by have := hcr.1; simp at this; omega
      have hfit : c + yv.cells.size ≤ c'.size := by omega
      have hrun := run_storeVar (P := P) (t := t) hg hc (o := c) hsz hfit (fun u hu => hcr.2.1 u (by simpa using hu))
      refine ⟨_, by simpa [Instr.storeAt, Instr.sureAddr] using hrun, ?_⟩
      have hbox : CR w.heap (s.own B.A β) s.used s.hp β c'.toList cs := ⟨by simpa using hl, by simpa using h1', fun i x hi => by
        have := hcs i x hi
        simpa [Array.getD_eq_getD_getElem?, List.getD_eq_getElem?_getD] using this⟩
      have hnew := hbox.splice hcr (c := c) (by simpa using hfit)
      refine (h.modify (p := p) hp (ob' := .boxT ty (splice cs c vs)) rfl (w' := w.setRow k.b _) rfl (by simp) (fun b hb => setRow_other w k.b b _ (hb k hk)) (fun hv _ => ?_)).1
      refine ⟨k, _, e, hk, hk0, setRow_heap w k.b c' _ (ty.getD e) (0, 0) hc, ?_, ?_, ?_, fun j x hj => ?_⟩
      · simp; rw [splice_length _ _ _ (by simpa using hfit)]; simpa using hz
      · simpa using hnew.1
      · intro v hv'; exact hnew.2.1 v (by simpa using hv')
      · have := hv _ _ (hnew.2.2 j x hj)
        simpa [Array.getD_eq_getD_getElem?, List.getD_eq_getElem?_getD] using this
  · rename_i p j c
    split <;> try trivial
    rename_i wf xs y' hp
    split <;> try trivial
    rename_i ys hys
    have hrep : Rep w.heap (s.own B.A β) yv y' := hy.toD
    cases hx with
    | el _ _ _ _ hn h1 hx =>
      obtain ⟨hj, k, hk, rfl⟩ := hx none wf xs hp
      rcases (h.objs p _ hp).2 with ⟨h0, h0'⟩ | ⟨k', c', e, hk', hc, hz, hl, hw, hcs⟩
      · rw [h0'] at hj; simp at hj
      · rw [hk] at hk'; cases hk'
        have hget : xs[j]? = some (xs.getD j .nilp) := by simp [List.getD_eq_getElem?_getD, hj]
        have hok := hw _ (List.mem_of_getElem? hget)
        have hlej : j * wd wf + wd wf ≤ xs.length * wd wf := by
          have := Nat.mul_le_mul_right (wd wf) (Nat.succ_le_of_lt hj); rwa [Nat.succ_mul] at this
        -- what is stored over which cells
        obtain ⟨z, hz1, hys', hcells, hg, hfit, hsz⟩ : ∃ z, okW wf z ∧ ys = xs.set j z ∧ (∀ i, z.cells[i]? = if c ≤ i ∧ i < c + yv.cells.size then y'.cells[i - c]? else (xs.getD j .nilp).cells[i]?) ∧
            (P.ti t).k.isBad = false ∧ c + yv.cells.size ≤ wd wf ∧ yv.cells.size = (P.ti t).sz := by
          obtain ⟨c1, c2, c3, c4⟩ := cells_len hrep
          unfold storeEl at hys
          split at hys
          · cases hys
          rename_i hg
          have hg : (P.ti t).k.isBad = false := by simpa using hg
          split at hys
          · rename_i hcond
            simp only [Bool.and_eq_true, beq_iff_eq] at hcond
            obtain ⟨⟨hw1, hw2⟩, rfl⟩ := hcond
            cases hys
            obtain ⟨_, hwd, _⟩ := isW_spec hw1
            have hoky := okWb_ok hw2
            rw [okW_len hoky] at c1
            refine ⟨y', hoky, rfl, fun i => ?_, hg, by omega, by omega⟩
            by_cases hi : i < wd wf
            · rw [if_pos (by omega)]; simp
            · rw [if_neg (by omega), List.getElem?_eq_none (by rw [okW_len hoky]; omega), List.getElem?_eq_none (by rw [okW_len hok]; omega)]
          · split at hys
            · cases hys
            · split at hys <;> try cases hys
              rename_i cs hcs'
              split at hys <;> try cases hys
              rename_i hcond
              obtain ⟨hsc, hlt, hs1⟩ := hcond
              have e1 : y'.cells = [y'] := by cases y' <;> first | rfl | simp [D.scal] at hsc
              rw [e1] at c1
              simp at c1
              rw [hcs'] at hok
              have hlen : cs.length = wd wf := okW_len hok
              have hok2 : okW wf (.agg (cs.set c y')) := by
                cases wf with
                | none => simp [okW, D.scal] at hok
                | some n =>
                  refine ⟨by simpa using hok.1, fun d hd => ?_⟩
                  rcases List.mem_or_eq_of_mem_set hd with hd | rfl
                  · exact hok.2 d hd
                  · exact hsc
              refine ⟨_, hok2, rfl, fun i => ?_, hg, by omega, by omega⟩
              rw [hcs', c1, e1]
              simp only [D.cells, List.getElem?_set]
              by_cases hi : c = i
              · subst hi; simp [hlt]
              · rw [if_neg hi, if_neg (by omega)]
        obtain ⟨c1, c2, c3, c4⟩ := cells_len hrep
        have hfit' : k.o + j * wd wf + c + yv.cells.size ≤ c'.size := by omega
        have hrun := run_storeVar (P := P) (t := t) hg hc (o := k.o + j * wd wf + c) hsz hfit' c2
        refine ⟨_, by simpa [Instr.storeAt, Instr.sureAddr] using hrun, ?_⟩
        subst hys'
        refine (h.modify (p := p) hp (ob' := .arr wf (xs.set j z)) ⟨⟨rfl, rfl⟩, by simp⟩ (w' := w.setRow k.b _) rfl (by simp) (fun b hb => setRow_other w k.b b _ (hb k hk)) (fun _ hr => ?_)).1
        have hsp := splice_length c'.toList (k.o + j * wd wf + c) yv.cells.toList (by simpa using hfit')
        refine .inr ⟨k, _, e, hk, setRow_heap w k.b c' _ e (0, 0) hc, by simp; rw [hsp]; simpa using hz, by simpa using hl, fun x hx => ?_, fun i x m d hi hm => ?_⟩
        · rcases List.mem_or_eq_of_mem_set hx with hx | rfl
          · exact hw x hx
          · exact hz1
        · have hgetc : ((splice c'.toList (k.o + j * wd wf + c) yv.cells.toList).toArray).getD (k.o + i * wd wf + m) undef =
              if k.o + j * wd wf + c ≤ k.o + i * wd wf + m ∧ k.o + i * wd wf + m < k.o + j * wd wf + c + yv.cells.size then yv.cells.getD (k.o + i * wd wf + m - (k.o + j * wd wf + c)) undef else c'.getD (k.o + i * wd wf + m) undef := by
            have := splice_get c'.toList (k.o + j * wd wf + c) yv.cells.toList (by simpa using hfit') (k.o + i * wd wf + m)
            simp only [Array.getElem?_toList, Array.length_toList] at this
            simp only [Array.getD_eq_getD_getElem?, List.getElem?_toArray, this]
            split <;> rfl
          rw [hgetc]
          rw [List.getElem?_set] at hi
          split at hi
          · rename_i hji
            subst hji
            simp at hi; obtain ⟨_, rfl⟩ := hi
            rw [hcells m] at hm
            by_cases hcm : c ≤ m ∧ m < c + yv.cells.size
            · rw [if_pos hcm] at hm
              rw [if_pos (by omega), show k.o + j * wd wf + m - (k.o + j * wd wf + c) = m - c by omega]
              exact hr _ _ (c4 _ d hm)
            · rw [if_neg hcm] at hm
              rw [if_neg (by omega)]
              exact hr _ _ (hcs j _ m d hget hm)
          · rename_i hji
            have hxo := hw x (List.mem_of_getElem? hi)
            have hml : m < wd wf := by rw [← okW_len hxo]; exact (List.getElem?_eq_some_iff.1 hm).1
            have hne : ¬ (k.o + j * wd wf + c ≤ k.o + i * wd wf + m ∧ k.o + i * wd wf + m < k.o + j * wd wf + c + yv.cells.size) := by
              rcases Nat.lt_or_gt_of_ne hji with hlt | hgt
              · have : j * wd wf + wd wf ≤ i * wd wf := by rw [← Nat.succ_mul]; exact Nat.mul_le_mul_right _ hlt
                omega
              · have : i * wd wf + wd wf ≤ j * wd wf := by rw [← Nat.succ_mul]; exact Nat.mul_le_mul_right _ hgt
                omega
            rw [if_neg hne]
            exact hr _ _ (hcs i x m d hi hm)
  · trivial
end
end Go.Ab
namespace Go.Ab
section
variable {P : Program} {B : Base} {β : Name → Option Blk} {s : St} {tm : Array Value} {w : World} {t : Nat}
structure Seg (P : Program) (H : Array Obj) (own : Nat → Prop) (wf : W) (v : Value) (xs : List D) (news : List Value) : Prop where
  len : ∃ a cap, v = .slice a xs.length cap
  size : news.length = xs.length * wd wf
  one : ∀ u ∈ news, u.oneCell' = true
  ok : ∀ x ∈ xs, okW wf x
  rep : ∀ i x j d, xs[i]? = some x → x.cells[j]? = some d → Rep H own (news.getD (i * wd wf + j) undef) d
  run : ∀ w' : World, w'.heap = H → (Builtin.firstCells (wd wf) xs.length v).run P w' = .ok news.toArray w'
theorem seg_nil {H own} {wf : W} {a : Option Addr} {cap : Nat} : Seg P H own wf (.slice a 0 cap) [] [] := by
  refine ⟨⟨a, cap, rfl⟩, by simp, by simp, by simp, by simp, fun w' _ => ?_⟩
  cases a with
  | none => simp [Builtin.firstCells]
  | some a => simp [Builtin.firstCells, loadCells, loadCellsFrom]
theorem cells_one {H : Array Obj} {own : Nat → Prop} {c : Array Value} {o : Nat} {wf : W} {xs : List D} (hok : ∀ x ∈ xs, okW wf x)
    (h : ∀ i x j d, xs[i]? = some x → x.cells[j]? = some d → Rep H own (c.getD (o + i * wd wf + j) undef) d) : ∀ m, m < xs.length * wd wf → (c.getD (o + m) undef).oneCell' = true := by
  intro m hm
  have hw : 0 < wd wf := by rcases Nat.eq_zero_or_pos (wd wf) with h0 | h0
                            · rw [h0] at hm; simp at hm
                            · exact h0
  have hi : m / wd wf < xs.length := by rw [Nat.div_lt_iff_lt_mul hw]; exact hm
  have hget : xs[m / wd wf]? = some xs[m / wd wf] := List.getElem?_eq_getElem hi
  have hx := hok _ (List.getElem_mem hi)
  have hj : m % wd wf < (xs[m / wd wf]).cells.length := by rw [okW_len hx]; exact Nat.mod_lt _ hw
  have hr := h _ _ _ _ hget (List.getElem?_eq_getElem hj)
  have := hr.oneCell (okW_scal hx _ (List.getElem_mem hj))
  rwa [Nat.add_assoc, Nat.mul_comm, Nat.div_add_mod] at this
theorem seg_block {b o cap : Nat} {c : Array Value} {e : TypeId} {fz : Nat × Nat} {own : Nat → Prop} {wf : W} {xs : List D} (hb : w.heap[b]? = some (.cells c e fz)) (hz : o + xs.length * wd wf ≤ c.size) (hok : ∀ x ∈ xs, okW wf x)
    (h : ∀ i x j d, xs[i]? = some x → x.cells[j]? = some d → Rep w.heap own (c.getD (o + i * wd wf + j) undef) d) :
    Seg P w.heap own wf (.slice (some ⟨b, o, none⟩) xs.length cap) xs ((c.toList.drop o).take (xs.length * wd wf)) := by
  have hl : ((c.toList.drop o).take (xs.length * wd wf)).length = xs.length * wd wf := by simp; omega
  have hg : ∀ m, m < xs.length * wd wf → ((c.toList.drop o).take (xs.length * wd wf)).getD m undef = c.getD (o + m) undef := by
    intro m hm
    simp [List.getD_eq_getElem?_getD, Array.getD_eq_getD_getElem?, hm]
  refine ⟨⟨_, cap, rfl⟩, hl, fun u hu => ?_, hok, fun i x j d hi hj => ?_, fun w' hw' => ?_⟩
  · obtain ⟨m, hm⟩ := List.mem_iff_getElem?.1 hu
    have hlt : m < xs.length * wd wf := by rw [← hl]; exact (List.getElem?_eq_some_iff.1 hm).1
    have := cells_one hok h m hlt
    rw [← hg m hlt, List.getD_eq_getElem?_getD, hm] at this
    exact this
  · have hxo := hok x (List.mem_of_getElem? hi)
    have hjl : j < wd wf := by rw [← okW_len hxo]; exact (List.getElem?_eq_some_iff.1 hj).1
    have hil := (List.getElem?_eq_some_iff.1 hi).1
    have : i * wd wf + wd wf ≤ xs.length * wd wf := by rw [← Nat.succ_mul]; exact Nat.mul_le_mul_right _ hil
    rw [hg _ (by omega), ← Nat.add_assoc]
    exact h i x j d hi hj
  · refine run_firstCells_some (P := P) w' (wd wf) xs.length ⟨b, o, none⟩ xs.length cap _ hl (fun j v hv => ?_)
    rw [addr_add, cell_of_row w' b (o + j) c e fz (by rw [hw']; exact hb)]
    rw [List.getElem?_take] at hv
    split at hv
    · simpa using hv
    · cases hv
theorem listOf_sound (h : Sim B β s tm w) {yv : Value} {y : AV} (hy : VR w.heap (s.own B.A β) s.used s.hp β yv y) {wf : W} {ys : List D} (hl : listOf wf s.hp y = some ys) : ∃ news, Seg P w.heap (s.own B.A β) wf yv ys news := by
  unfold listOf at hl
  split at hl
  · rename_i p o l
    split at hl <;> try cases hl
    rename_i ty w' xs hp
    split at hl <;> try cases hl
    rename_i hw; subst hw
    cases hy with
    | vw _ _ _ _ hn h1 hx =>
      obtain ⟨hle, a, cap, rfl, hx'⟩ := hx _ _ _ hp
      have hlen : ((xs.drop o).take l).length = l := by simp; omega
      rcases hx' with ⟨rfl, rfl⟩ | ⟨k, hk, rfl, hcap, hz⟩
      · exact ⟨[], by simpa using seg_nil⟩
      · rcases (h.objs p _ hp).2 with ⟨h0, h0'⟩ | ⟨k', c', e, hk', hc, hzz, hl', hw, hcs⟩
        · rw [h0] at hk; cases hk
        · rw [hk] at hk'; cases hk'
          have hle2 : o * wd w' + l * wd w' ≤ xs.length * wd w' := by rw [← Nat.add_mul]; exact Nat.mul_le_mul_right _ hle
          have := seg_block (P := P) (w := w) (own := s.own B.A β) (cap := cap) (wf := w') (xs := (xs.drop o).take l) (b := k.b) (o := k.o + o * wd w') hc (by rw [hlen]; omega)
            (fun x hx => hw x (List.mem_of_mem_drop (List.mem_of_mem_take hx))) (fun i x j d hi hj => by
              rw [List.getElem?_take] at hi
              split at hi
              · rw [List.getElem?_drop] at hi
                have := hcs _ x j d hi hj
                rwa [show k.o + o * wd w' + i * wd w' + j = k.o + (o + i) * wd w' + j by rw [Nat.add_mul]; omega]
              · cases hi)
          rw [hlen] at this
          exact ⟨_, this⟩
  · rename_i w' xs
    split at hl <;> try cases hl
    rename_i hw; subst hw
    cases hy.toD with
    | sl0 a cap _ => exact ⟨[], seg_nil⟩
    | sl b o cap c e fz _ _ hb hn hcap hz hok hc => exact ⟨_, seg_block hb hz hok hc⟩
  · cases hl
    obtain rfl := hy.nils
    exact ⟨[], seg_nil⟩
  · cases hl
section
variable {e : Nat} {i : TypeInfo} {z : Value}
theorem run_append_grow' (hk : P.underlying t = some (.slice e)) (hi : P.info? e = some i) (hz : i.zero = some z) (ty : TypeId) {own : Nat → Prop} {wf : W} {xv yv : Value} {xs ys : List D} {olds news : List Value} (hs : i.size = wd wf)
    (hx : Seg P w.heap own wf xv xs olds) (hy : Seg P w.heap own wf yv ys news) {a : Option Addr} {cap : Nat} (hxv : xv = .slice a xs.length cap) (hgr : cap < xs.length + ys.length) (hb : (xs.length + ys.length) * i.bytes ≤ 140737488355328) (hb' : xs.length + ys.length ≤ 140737488355328) :
    ∃ nc, xs.length + ys.length ≤ nc ∧ (Builtin.append_ #[t, t] ty #[xv, yv]).run P w =
      .ok (.slice (some ⟨w.heap.size, 0, none⟩) (xs.length + ys.length) nc) (w.drew.alloc (.cells (olds.toArray ++ news.toArray ++ Builtin.zeroCells z.cells (nc - (xs.length + ys.length))) e)) := by
  obtain ⟨ya, yc, rfl⟩ := hy.len
  subst hxv
  refine ⟨grownCap w (xs.length + ys.length) cap e, grownCap_ge _ _ _ _, ?_⟩
  have hn : ¬ (xs.length + ys.length ≤ cap) := by omega
  have h63' : ¬ (9223372036854775807 < ((xs.length : Int) + (ys.length : Int))) := by omega
  have h48' : ¬ (281474976710656 < Builtin.nextslicecap (xs.length + ys.length) cap * i.bytes) := by have := growslice_fits hgr hb; omega
  have hf := hy.run w.drew rfl
  have hfo := hx.run w.drew rfl
  simp [Builtin.append_, run_underlying hk, sizeOf, typeInfo, zeroValue, hi, hz, Builtin.lenOf, hn, h63', h48', Question.forced, hs, hf, hfo, newRow, grownCap]
  congr 2
  apply Array.ext'
  simp [List.append_assoc]
theorem run_append_room' (hk : P.underlying t = some (.slice e)) (hi : P.info? e = some i) (ty : TypeId) {own : Nat → Prop} {wf : W} {yv : Value} {ys : List D} {news : List Value} (hs : i.size = wd wf)
    (hy : Seg P w.heap own wf yv ys news) {b o n cap : Nat} {c : Array Value} {e' : TypeId} (hb : w.heap[b]? = some (.cells c e' (0, 0))) (hr : n + ys.length ≤ cap) (hfit : o + n * wd wf + news.length ≤ c.size) :
    (Builtin.append_ #[t, t] ty #[.slice (some ⟨b, o, none⟩) n cap, yv]).run P w =
      .ok (.slice (some ⟨b, o, none⟩) (n + ys.length) cap) (w.setRow b (splice c.toList (o + n * wd wf) news).toArray) := by
  obtain ⟨ya, yc, rfl⟩ := hy.len
  have hf := hy.run w rfl
  have hst := run_storeCells_at (P := P) b (o + n * wd wf) e' news 0 c w hb (by simpa using hfit) hy.one
  simp only [Nat.add_zero] at hst
  simp [Builtin.append_, run_underlying hk, sizeOf, typeInfo, hi, Builtin.lenOf, hr, hs, hf, addr_add, hst, splice, List.append_assoc]
theorem run_append_none' (hk : P.underlying t = some (.slice e)) (hi : P.info? e = some i) (ty : TypeId) {own : Nat → Prop} {wf : W} {yv : Value} {news : List Value} (hs : i.size = wd wf) (hy : Seg P w.heap own wf yv [] news) (a : Option Addr) (cap : Nat)  :
    (Builtin.append_ #[t, t] ty #[.slice a 0 cap, yv]).run P w = .ok (.slice a 0 cap) w := by
  obtain ⟨ya, yc, rfl⟩ := hy.len
  have hf := hy.run w rfl
  have : news = [] := by have := hy.size; simpa using this
  subst this
  simp only [List.length_nil] at hf
  cases a <;> simp [Builtin.append_, run_underlying hk, sizeOf, typeInfo, hi, Builtin.lenOf, hs, hf, storeCells]
end
theorem rows_append {H : Array Obj} {own : Nat → Prop} {wf : W} {xs ys : List D} {olds news : List Value} {xv yv : Value} (hx : Seg P H own wf xv xs olds) (hy : Seg P H own wf yv ys news) (rest : Array Value) :
    (∀ x ∈ xs ++ ys, okW wf x) ∧ ∀ i x j d, (xs ++ ys)[i]? = some x → x.cells[j]? = some d → Rep H own ((olds.toArray ++ news.toArray ++ rest).getD (i * wd wf + j) undef) d := by
  refine ⟨fun x h => (List.mem_append.1 h).elim (hx.ok x) (hy.ok x), fun i x j d hi hj => ?_⟩
  have hget : ∀ m, (olds.toArray ++ news.toArray ++ rest).getD m undef = if m < olds.length then olds.getD m undef else if m < olds.length + news.length then news.getD (m - olds.length) undef else rest.getD (m - (olds.length + news.length)) undef := by
    intro m
    simp only [Array.getD_eq_getD_getElem?, List.getD_eq_getElem?_getD, Array.getElem?_append, List.size_toArray, Array.size_append, List.getElem?_toArray]
    by_cases h1 : m < olds.length
    · simp [h1, show m < olds.length + news.length by omega]
    · by_cases h2 : m < olds.length + news.length
      · simp [h1, h2]
      · simp [h1, h2]
  rw [hget]
  rcases Nat.lt_or_ge i xs.length with hlt | hge
  · rw [List.getElem?_append_left hlt] at hi
    have hxo := hx.ok x (List.mem_of_getElem? hi)
    have hjl : j < wd wf := by rw [← okW_len hxo]; exact (List.getElem?_eq_some_iff.1 hj).1
    have : i * wd wf + wd wf ≤ xs.length * wd wf := by rw [← Nat.succ_mul]; exact Nat.mul_le_mul_right _ hlt
    rw [if_pos (by rw [hx.size]; omega)]
    exact hx.rep i x j d hi hj
  · rw [List.getElem?_append_right hge] at hi
    have hxo := hy.ok x (List.mem_of_getElem? hi)
    have hil := (List.getElem?_eq_some_iff.1 hi).1
    have hjl : j < wd wf := by rw [← okW_len hxo]; exact (List.getElem?_eq_some_iff.1 hj).1
    have h1 : xs.length * wd wf ≤ i * wd wf := Nat.mul_le_mul_right _ hge
    have h2 : (i - xs.length) * wd wf + wd wf ≤ ys.length * wd wf := by rw [← Nat.succ_mul]; exact Nat.mul_le_mul_right _ hil
    have h3 : i * wd wf = (i - xs.length) * wd wf + xs.length * wd wf := by rw [← Nat.add_mul]; congr 1; omega
    rw [if_neg (by rw [hx.size]; omega), if_pos (by rw [hx.size, hy.size]; omega), hx.size, show i * wd wf + j - xs.length * wd wf = (i - xs.length) * wd wf + j by omega]
    exact hy.rep _ x j d hi hj
theorem appendT_sound (h : Sim B β s tm w) {xv yv : Value} {x y : AV} (hx : VR w.heap (s.own B.A β) s.used s.hp β xv x) (hy : VR w.heap (s.own B.A β) s.used s.hp β yv y) {e : Nat} (hk : (P.ti t).k = .slice e)
    (hz : (P.ti e).zOk = true) (hw : (P.ti e).isW (P.ti e).w = true) (ty : TypeId) (d : Option Nat) (tg : Option Nat) (htg : tg.getD e = e) :
    RV (appendT tg B.n (P.ti e) d s x y) fun s' => ∃ dd v w' β', d = some dd ∧ (Builtin.append_ #[t, t] ty #[xv, yv]).run P w = .ok v w' ∧ Sim B β' s' (tm.setIfInBounds dd v) w' := by
  obtain ⟨hg, hwd, _⟩ := isW_spec hw
  obtain ⟨z, hz, hzl⟩ : ∃ z, (P.ti e).z = some z ∧ z.length = (P.ti e).sz := by
    unfold TI.zOk at hz
    split at hz
    · rename_i z h1; exact ⟨z, h1, by simpa using hz⟩
    · cases hz
  obtain ⟨zv, hr, hm, it, hi, hiz, his, hib⟩ := zero_run hz
  have hu := ti_slice hk
  have hby : ∀ m : Nat, m * (P.ti e).by1 ≤ 140737488355328 → m * it.bytes ≤ 140737488355328 ∧ m ≤ 140737488355328 := by
    intro m hm'
    unfold TI.by1 at hm'
    rw [hib]
    split at hm'
    · rename_i h0; rw [h0]; simp at hm' ⊢; exact hm'
    · exact ⟨hm', Nat.le_trans (Nat.le_mul_of_pos_right m (by omega)) hm'⟩
  -- the whole new row
  have fresh : ∀ (s1 : St) (β1 : Name → Option Blk) (xs ys : List D) (olds news : List Value) (xv' yv' : Value) (dd nc : Nat), Sim B β1 s1 tm w → Seg P w.heap (s1.own B.A β1) (P.ti e).w xv' xs olds → Seg P w.heap (s1.own B.A β1) (P.ti e).w yv' ys news → dd < B.n → dd ∉ s1.used →
      xs.length + ys.length ≤ nc → ∃ β', Sim B β' ((s1.add dd (.arrT tg (P.ti e).w (xs ++ ys))).put dd (.vw [dd] 0 (xs.length + ys.length))) (tm.setIfInBounds dd (.slice (some ⟨w.heap.size, 0, none⟩) (xs.length + ys.length) nc))
        (w.drew.alloc (.cells (olds.toArray ++ news.toArray ++ Builtin.zeroCells zv.cells (nc - (xs.length + ys.length))) e)) := by
    intro s1 β1 xs ys olds news xv' yv' dd nc h1 hsx hsy hdd hud hnc
    obtain ⟨r1, r2⟩ := rows_append hsx hsy (Builtin.zeroCells zv.cells (nc - (xs.length + ys.length)))
    have hzs : zv.cells.size = wd (P.ti e).w := by
      have := (mapM_zd (H := w.heap) (own := s.own B.A β) hm).1
      simp at this; omega
    have hsz : (olds.toArray ++ news.toArray ++ Builtin.zeroCells zv.cells (nc - (xs.length + ys.length))).size = nc * wd (P.ti e).w := by
      simp only [Array.size_append, List.size_toArray, hsx.size, hsy.size, size_zeroCells, hzs, ← Nat.add_mul]; congr 1; omega
    have := newArr_sound (h1.heap_eq (w' := w.drew) rfl rfl) hdd hud (c := olds.toArray ++ news.toArray ++ Builtin.zeroCells zv.cells (nc - (xs.length + ys.length))) (wf := (P.ti e).w) (xs := xs ++ ys) (cap := nc) (by simpa using hnc)
      (by rw [hsz]; exact Nat.le_refl _) r1 (fun i x j d hi hj => r2 i x j d hi hj) e tg htg
    simpa using this
  unfold appendT
  split
  · -- onto nil
    rename_i ys hys
    obtain rfl := hx.nils
    intro hb
    obtain ⟨hb1, hb2⟩ := hby _ hb
    unfold newR
    split <;> try trivial
    rename_i dd
    split <;> try trivial
    rename_i hcond
    obtain ⟨hdd, hud⟩ := hcond
    obtain ⟨news, hsy⟩ := listOf_sound (P := P) h hy hys
    by_cases h0 : ys.length = 0
    · have : ys = [] := List.length_eq_zero_iff.1 h0
      subst this
      have hrun := run_append_none' (P := P) (t := t) hu hi ty (by rw [his, hwd]) hsy none 0
      refine ⟨dd, _, _, _, rfl, hrun, (h.addNone hud tg _).put hdd (.vw _ _ _ _ ⟨dd, [], rfl, List.mem_cons_self⟩ rfl fun ty' w' xs' hp' => ?_)⟩
      have : w' = (P.ti e).w ∧ xs' = [] := And.right (a := ty' = tg) (by simpa [St.add, updP, eq_comm] using hp')
      obtain ⟨rfl, rfl⟩ := this
      exact ⟨by simp, _, 0, rfl, .inl ⟨rfl, rfl⟩⟩
    · obtain ⟨nc, hnc, hrun⟩ := run_append_grow' (P := P) (t := t) hu hi hiz ty (by rw [his, hwd]) (seg_nil (P := P) (H := w.heap) (own := s.own B.A β) (wf := (P.ti e).w) (a := none) (cap := 0)) hsy rfl (by simp; omega) (by simpa using hb1) (by simpa using hb2)
      obtain ⟨β', hs⟩ := fresh s β [] ys [] news _ _ dd nc h (seg_nil (a := none) (cap := 0)) hsy hdd hud hnc
      exact ⟨dd, _, _, β', rfl, hrun, by simpa using hs⟩
  · -- onto a view
    rename_i ys p o l hys
    split <;> try trivial
    rename_i tg' wf xs hp
    split <;> try trivial
    rename_i hwf
    obtain ⟨rfl, hwf⟩ := hwf
    intro hb
    obtain ⟨hb1, hb2⟩ := hby _ hb
    unfold newR
    split <;> try trivial
    rename_i dd
    split <;> try trivial
    rename_i hcond
    obtain ⟨hdd, hud⟩ := hcond
    have hud : dd ∉ s.used := hud
    obtain ⟨news, hsy⟩ := listOf_sound (P := P) h hy hys
    have hlx : listOf (P.ti e).w s.hp (.vw p o l) = some ((xs.drop o).take l) := by simp [listOf, hp, hwf]
    obtain ⟨olds, hsx⟩ := listOf_sound (P := P) h hx hlx
    have hpn := nm_ne (h.objs p _ hp).1 hud
    have hcomm : ∀ ob, (s.set p none).add dd ob = (s.add dd ob).set p none := by
      intro ob
      unfold St.add St.set
      simp only [St.mk.injEq, true_and, and_true]
      funext q
      simp only [updP]
      by_cases h1 : q = [dd]
      · subst h1; simp [Ne.symm hpn]
      · simp [h1]
    cases hx with
    | vw _ _ _ _ hn h1 hx =>
      obtain ⟨hle, a, cap, rfl, hx'⟩ := hx _ _ _ hp
      have hlen : ((xs.drop o).take l).length = l := by simp; omega
      by_cases hgr : cap < l + ys.length
      · -- it grows
        have hgr' : cap < ((xs.drop o).take l).length + ys.length := by rw [hlen]; exact hgr
        obtain ⟨nc, hnc, hrun⟩ := run_append_grow' (P := P) (t := t) hu hi hiz ty (by rw [his, hwd]) hsx hsy (a := a) (cap := cap) (by rw [hlen]) hgr' (by rw [hlen]; exact hb1) (by rw [hlen]; exact hb2)
        obtain ⟨β', hs⟩ := fresh s β _ ys olds news _ _ dd nc h hsx hsy hdd hud hnc
        rw [hlen] at hs hrun
        refine ⟨dd, _, _, β', rfl, hrun, ?_⟩
        rw [hcomm, hwf]
        have := hs.drop p
        have e2 : ((s.add dd (.arrT tg' (P.ti e).w ((xs.drop o).take l ++ ys))).put dd (.vw [dd] 0 (l + ys.length))).set p none = ((s.add dd (.arrT tg' (P.ti e).w ((xs.drop o).take l ++ ys))).set p none).put dd (.vw [dd] 0 (l + ys.length)) := rfl
        rwa [e2] at this
      · -- there is room
        rcases hx' with ⟨rfl, rfl⟩ | ⟨k, hk', rfl, hcap, hz'⟩
        · have : ys = [] := List.length_eq_zero_iff.1 (by omega)
          subst this
          have hrun := run_append_none' (P := P) (t := t) hu hi ty (by rw [his, hwd]) hsy a 0
          refine ⟨dd, _, _, updP β [dd] none, rfl, hrun, ?_⟩
          rw [hcomm]
          have e3 : ((xs.drop o).take 0 ++ ([] : List D)) = [] := by simp
          rw [e3]
          have := ((h.addNone hud tg' wf).put hdd (v := .slice a 0 0) (x := .vw [dd] 0 0) (.vw _ _ _ _ ⟨dd, [], rfl, List.mem_cons_self⟩ rfl fun ty' w' xs' hp' => by
            have : w' = wf ∧ xs' = [] := And.right (a := ty' = tg') (by simpa [St.add, updP, eq_comm] using hp')
            obtain ⟨rfl, rfl⟩ := this
            exact ⟨by simp, a, 0, rfl, .inl ⟨rfl, rfl⟩⟩)).drop p
          exact this
        · have hob := (h.objs p _ hp).2
          rcases hob with ⟨h0, h0'⟩ | ⟨k', c', e', hk'', hc, hzz, hl', hwx, hcs⟩
          · rw [h0] at hk'; cases hk'
          · rw [hk'] at hk''; cases hk''
            have hmul : (o + cap) * wd wf = o * wd wf + cap * wd wf := Nat.add_mul _ _ _
            have hle2 : (l + ys.length) * wd wf ≤ cap * wd wf := Nat.mul_le_mul_right _ (by omega)
            have hmul2 : (l + ys.length) * wd wf = l * wd wf + ys.length * wd wf := Nat.add_mul _ _ _
            have hns := hsy.size
            rw [← hwf] at hns
            have hfit : k.o + o * wd wf + l * wd wf + news.length ≤ c'.size := by omega
            have hrun := run_append_room' (P := P) (t := t) hu hi ty (wf := wf) (by rw [his, hwf, hwd]) (by rw [hwf]; exact hsy) hc (o := k.o + o * wd wf) (n := l) (cap := cap) (by omega) hfit
            refine ⟨dd, _, _, updP β [dd] (some ⟨k.b, k.o + o * wd wf, k.z⟩), rfl, hrun, ?_⟩
            have hsim := h.renew hud hp hk' tg' wf ((xs.drop o).take l ++ ys) (k.o + o * wd wf) (w' := w.setRow k.b (splice c'.toList (k.o + o * wd wf + l * wd wf) news).toArray) rfl (by simp)
              (fun b hb => setRow_other w k.b b _ hb) (fun hr => ?_)
            · refine hsim.put hdd (.vw _ _ _ _ ⟨dd, [], rfl, List.mem_cons_self⟩ rfl fun ty' w' xs' hp' => ?_)
              have : w' = wf ∧ xs' = (xs.drop o).take l ++ ys := And.right (a := ty' = tg') (by simpa [St.add, updP, eq_comm] using hp')
              obtain ⟨rfl, rfl⟩ := this
              refine ⟨by simp; omega, _, cap, rfl, .inr ⟨_, by simp [updP]; rfl, by simp, by omega, ?_⟩⟩
              simp only [Nat.zero_add]; omega
            · have hsp := splice_length c'.toList (k.o + o * wd wf + l * wd wf) news (by simpa using hfit)
              refine ⟨_, e', setRow_heap w k.b c' _ _ (0, 0) hc, by simp; rw [hsp]; simpa using hzz, ?_, fun x hx => ?_, fun i x j d hi hj => ?_⟩
              · rw [List.length_append, hlen]; omega
              · rcases List.mem_append.1 hx with hx | hx
                · exact hwx x (List.mem_of_mem_drop (List.mem_of_mem_take hx))
                · rw [hwf]; exact hsy.ok x hx
              · have hgetc : ((splice c'.toList (k.o + o * wd wf + l * wd wf) news).toArray).getD (k.o + o * wd wf + i * wd wf + j) undef =
                    if k.o + o * wd wf + l * wd wf ≤ k.o + o * wd wf + i * wd wf + j ∧ k.o + o * wd wf + i * wd wf + j < k.o + o * wd wf + l * wd wf + news.length then news.getD (k.o + o * wd wf + i * wd wf + j - (k.o + o * wd wf + l * wd wf)) undef else c'.getD (k.o + o * wd wf + i * wd wf + j) undef := by
                  have := splice_get c'.toList (k.o + o * wd wf + l * wd wf) news (by simpa using hfit) (k.o + o * wd wf + i * wd wf + j)
                  simp only [Array.getElem?_toList] at this
                  simp only [Array.getD_eq_getD_getElem?, List.getElem?_toArray, this, List.getD_eq_getElem?_getD]
                  split <;> rfl
                rw [hgetc]
                rcases Nat.lt_or_ge i l with hlt | hge
                · rw [List.getElem?_append_left (by rw [hlen]; exact hlt), List.getElem?_take, if_pos hlt, List.getElem?_drop] at hi
                  have hxo := hwx x (List.mem_of_getElem? hi)
                  have hjl : j < wd wf := by rw [← okW_len hxo]; exact (List.getElem?_eq_some_iff.1 hj).1
                  have : i * wd wf + wd wf ≤ l * wd wf := by rw [← Nat.succ_mul]; exact Nat.mul_le_mul_right _ hlt
                  rw [if_neg (by omega)]
                  have := hr _ _ (hcs _ x j d hi hj)
                  rwa [show k.o + o * wd wf + i * wd wf + j = k.o + (o + i) * wd wf + j by rw [Nat.add_mul]; omega]
                · rw [List.getElem?_append_right (by rw [hlen]; exact hge), hlen] at hi
                  have hxo := hsy.ok x (List.mem_of_getElem? hi)
                  rw [← hwf] at hxo
                  have hil := (List.getElem?_eq_some_iff.1 hi).1
                  have hjl : j < wd wf := by rw [← okW_len hxo]; exact (List.getElem?_eq_some_iff.1 hj).1
                  have g1 : l * wd wf ≤ i * wd wf := Nat.mul_le_mul_right _ hge
                  have g2 : (i - l) * wd wf + wd wf ≤ ys.length * wd wf := by rw [← Nat.succ_mul]; exact Nat.mul_le_mul_right _ hil
                  have g3 : i * wd wf = (i - l) * wd wf + l * wd wf := by rw [← Nat.add_mul]; congr 1; omega
                  rw [if_pos (by omega), show k.o + o * wd wf + i * wd wf + j - (k.o + o * wd wf + l * wd wf) = (i - l) * wd wf + j by omega]
                  have := hsy.rep _ x j d hi hj
                  rw [← hwf] at this
                  exact hr _ _ this
  · trivial
theorem append_sound (h : Sim B β s tm w) {xv yv : Value} {x y : AV} (hx : VR w.heap (s.own B.A β) s.used s.hp β xv x) (hy : VR w.heap (s.own B.A β) s.used s.hp β yv y) {e : Nat} (hk : (P.ti t).k = .slice e)
    (hz : (P.ti e).zOk = true) (hw : (P.ti e).isW (P.ti e).w = true) (ty : TypeId) (d : Option Nat) :
    RV (appendR B.n (P.ti e) d s x y) fun s' => ∃ dd v w' β', d = some dd ∧ (Builtin.append_ #[t, t] ty #[xv, yv]).run P w = .ok v w' ∧ Sim B β' s' (tm.setIfInBounds dd v) w' := by
  rw [appendR_T]
  exact appendT_sound h hx hy hk hz hw ty d none rfl
end
end Go.Ab
namespace Go.Ab
section
variable {P : Program} {B : Base} {β : Name → Option Blk} {s : St} {a : Act} {w : World}
def Does (P : Program) (B : Base) (o : Oper) (a : Act) (w : World) (f : St → Prop) : Prop :=
  ∃ nx v w' s' β', (execOp a.eval o).run P w = .ok nx w' ∧ (nx = .value v ∨ nx = .skip ∧ v = undef) ∧ f s' ∧ Sim B β' s' (a.put o.dst v).tmps w'
theorem tmps_put (a : Act) (d : Option Tmp) (v : Value) : (a.put d v).tmps = match d with
  | some d => a.tmps.setIfInBounds d v
  | none => a.tmps := by cases d <;> rfl
def _root_.Go.Ab.St.putd (s : St) : Option Nat → AV → St
  | some t, x => s.put t x
  | none, _ => s
theorem putR_ok {n : Nat} {d : Option Nat} {x : AV} {f : St → Prop} {z : Prop} (h : (putR n d s x).run f z) : z ∨ (∀ t, d = some t → t < n) ∧ f (s.putd d x) := by
  cases d with
  | some t =>
    simp only [putR] at h
    split at h
    · rename_i ht; exact .inr ⟨fun t' e => by cases e; exact ht, h⟩
    · exact .inl h
  | none => exact .inr ⟨fun t' e => (by cases e), h⟩
theorem Sim.putd (h : Sim B β s a.tmps w) {d : Option Nat} (hd : ∀ t, d = some t → t < B.n) {v : Value} {x : AV} (hv : VR w.heap (s.own B.A β) s.used s.hp β v x) :
    Sim B β (s.putd d x) (a.put d v).tmps w := by
  cases d with
  | none => exact h
  | some t => exact h.put (hd t rfl) hv
theorem bind_run {r : R AV} {g : AV → R St} {f : St → Prop} {z : Prop} {φ : AV → Prop} (hφ : RV r φ) (h : (r.bind g).run f z) : z ∨ ∃ x, φ x ∧ (g x).run f z := by
  induction r with
  | ok x => exact .inr ⟨x, hφ, h⟩
  | need p r ih => exact ih (hφ h.1) h.2
  | no => exact .inl h
theorem val_ok {o : Oper} {r : R AV} {f : St → Prop} {z : Prop} (h : Sim B β s a.tmps w)
    (hφ : RV r fun x => ∃ v, (execOp a.eval o).run P w = .ok (.value v) w ∧ VR w.heap (s.own B.A β) s.used s.hp β v x) (hr : (r.bind (putR B.n o.dst s)).run f z) : z ∨ Does P B o a w f := by
  rcases bind_run hφ hr with hz | ⟨x, ⟨v, hrun, hv⟩, hp⟩
  · exact .inl hz
  · rcases putR_ok hp with hz | ⟨hd, hf⟩
    · exact .inl hz
    · exact .inr ⟨_, v, w, _, β, hrun, .inl rfl, hf, h.putd hd hv⟩
theorem put_ok {o : Oper} {x : AV} {f : St → Prop} {z : Prop} (h : Sim B β s a.tmps w) {v : Value} (hrun : (execOp a.eval o).run P w = .ok (.value v) w) (hv : VR w.heap (s.own B.A β) s.used s.hp β v x)
    (hr : (putR B.n o.dst s x).run f z) : z ∨ Does P B o a w f := by
  rcases putR_ok hr with hz | ⟨hd, hf⟩
  · exact .inl hz
  · exact .inr ⟨_, v, w, _, β, hrun, .inl rfl, hf, h.putd hd hv⟩
theorem new_ok {o : Oper} {ob : Ob} {x : Name → AV} {f : St → Prop} {z : Prop} (hφ : ∀ d, o.dst = some d → d < B.n → d ∉ s.used → ∃ v w' β', (execOp a.eval o).run P w = .ok (.value v) w' ∧ Sim B β' ((s.add d ob).put d (x [d])) (a.tmps.setIfInBounds d v) w')
    (hr : (newR B.n o.dst s ob x).run f z) : z ∨ Does P B o a w f := by
  unfold newR at hr
  split at hr
  · rename_i d hd
    split at hr
    · rename_i hc
      obtain ⟨v, w', β', hrun, hs⟩ := hφ d hd hc.1 hc.2
      exact .inr ⟨_, v, w', _, β', hrun, .inl rfl, hr, by rw [tmps_put, hd]; exact hs⟩
    · exact .inl hr
  · exact .inl hr
theorem parts_ok (h : Sim B β s a.tmps w) (parts : Array (Nat × Operand)) : (parts.map fun (i, x) => (i, a.eval x)).size = (parts.toList.map fun q => (q.1, ev s q.2)).length ∧
    ∀ (i : Nat) q u, (parts.toList.map fun q => (q.1, ev s q.2))[i]? = some q → (parts.map fun (i, x) => (i, a.eval x)).toList[i]? = some u → u.1 = q.1 ∧ VR w.heap (s.own B.A β) s.used s.hp β u.2 q.2 := by
  refine ⟨by simp, fun i q u h1 h2 => ?_⟩
  simp only [List.getElem?_map, Option.map_eq_some_iff, Array.toList_map] at h1 h2
  obtain ⟨r, hr, rfl⟩ := h1
  obtain ⟨r', hr', rfl⟩ := h2
  rw [hr] at hr'; cases hr'
  exact ⟨rfl, h.ev _⟩
theorem makeSlice_sound (h : Sim B β s a.tmps w) {t : Nat} {lv cv : Value} {l c : AV} (hl : VR w.heap (s.own B.A β) s.used s.hp β lv l) (hc : VR w.heap (s.own B.A β) s.used s.hp β cv c) (o : Oper)
    (ho : ∀ v w', (Instr.makeSlice t lv cv).run P w = .ok v w' → (execOp a.eval o).run P w = .ok (.value v) w') {f : St → Prop} {z : Prop} (hr : (makeSliceR B.n (P.ti t) P.ti o.dst s l c).run f z) : z ∨ Does P B o a w f := by
  unfold makeSliceR at hr
  split at hr <;> try exact .inl hr
  rename_i e la lb hk
  obtain rfl := hl.int; obtain rfl := hc.int
  split at hr <;> try exact .inl hr
  rename_i zd' hzd
  split at hr <;> try exact .inl hr
  rename_i hcond
  have hcond : ((P.ti e).isW (P.ti e).w && okWb (P.ti e).w zd') = true := by simpa using hcond
  simp only [Bool.and_eq_true] at hcond
  obtain ⟨hw, hokb⟩ := hcond
  have hok := okWb_ok hokb
  obtain ⟨hg, hwd, _⟩ := isW_spec hw
  obtain ⟨⟨h0, h1, h2, h3⟩, hr⟩ := hr
  obtain ⟨zc, hz, hzc⟩ : ∃ zc, (P.ti e).z = some zc ∧ zc = zd'.cells := by
    unfold TI.zero at hzd
    cases hz : (P.ti e).z with
    | none => simp [hz] at hzd
    | some zc =>
      refine ⟨zc, rfl, ?_⟩
      simp only [hz, Option.bind_some] at hzd
      split at hzd
      · cases hzd; rfl
      · rename_i hna
        split at hzd <;> try cases hzd
        have : (P.ti e).w = none := by unfold TI.w; rw [if_neg hna]
        rw [this] at hok
        cases zd' <;> first | rfl | simp [okW, D.scal] at hok
  obtain ⟨zv, hr', hm, it, hi, hiz, his, hib⟩ := zero_run hz
  obtain ⟨m1, m2, m3, m4⟩ := mapM_zd (H := w.heap) (own := s.own B.A β) hm
  have hzlen : zv.cells.size = wd (P.ti e).w := by
    rw [hzc, okW_len hok] at m1; simpa using m1.symm
  refine new_ok (fun d hd hdn hdu => ?_) hr
  have hrun := run_make (P := P) w t e it zv (ti_slice hk) hi hiz .i64 .i64 la lb h0 h1 (by rw [hib, Int.mul_comm]; omega) (by omega)
  obtain ⟨β', hs⟩ := newArr_sound h hdn hdu (c := madeCells zv.cells (lb.toNat * it.size)) (wf := (P.ti e).w) (xs := List.replicate la.toNat zd') (cap := lb.toNat) (by simp; omega)
    (by rw [size_madeCells, his, hwd]; exact Nat.le_refl _) (fun x hx => by rw [List.eq_of_mem_replicate hx]; exact hok) (fun i x j d' hi' hj => by
      have hxe : x = zd' := List.eq_of_mem_replicate (List.mem_of_getElem? hi')
      subst hxe
      have hil : i < la.toNat := by have := (List.getElem?_eq_some_iff.1 hi').1; simpa using this
      have hjl : j < wd (P.ti e).w := by rw [← okW_len hok]; exact (List.getElem?_eq_some_iff.1 hj).1
      rw [← hzc] at hj
      obtain ⟨u, hu, hrep⟩ := m4 j d' hj
      have hin : i * wd (P.ti e).w + wd (P.ti e).w ≤ lb.toNat * it.size := by rw [← Nat.succ_mul, his, hwd]; exact Nat.mul_le_mul_right _ (by omega)
      have : (madeCells zv.cells (lb.toNat * it.size)).getD (i * wd (P.ti e).w + j) undef = u := by
        simp only [Array.getElem?_toList] at hu
        have hmod : (i * wd (P.ti e).w + j) % zv.cells.size = j := by rw [hzlen, Nat.mul_comm, Nat.mul_add_mod]; exact Nat.mod_eq_of_lt hjl
        have hget : zv.cells[j]! = u := by simp [getElem!_def, hu]
        simp [madeCells, Array.getD_eq_getD_getElem?, show i * wd (P.ti e).w + j < lb.toNat * it.size by omega, hmod, hget]
      rw [this]; exact hrep) e none rfl
  refine ⟨_, _, β', ho _ _ hrun, ?_⟩
  simpa using hs
set_option maxHeartbeats 1000000 in
theorem opR_sound {o : Oper} (h : Sim B β s a.tmps w) {f : St → Prop} {z : Prop} (hr : (opR P.ti B.n o.op o.dst s).run f z) : z ∨ Does P B o a w f := by
  have hev := h.ev
  obtain ⟨dst, op, ty, pos, after, guard⟩ := o
  simp only at hr
  cases op with
  | move x => exact put_ok h (o := ⟨dst, .move x, ty, pos, after, guard⟩) rfl (hev x) hr
  | assign x => exact put_ok h (o := ⟨dst, .assign x, ty, pos, after, guard⟩) rfl (hev x) hr
  | pick c x y => exact val_ok h (o := ⟨dst, .pick c x y, ty, pos, after, guard⟩) ((pick_sound (P := P) (hev c) (hev x) (hev y)).mono fun _ ⟨v, hr, hv⟩ => ⟨v, by simpa [execOp] using hr, hv⟩) hr
  | alloc e =>
    simp only [opR] at hr
    split at hr <;> try exact .inl hr
    rename_i cs hz
    exact new_ok (o := ⟨dst, .alloc e, ty, pos, after, guard⟩) (fun d hd h1 h2 => let ⟨v, w', β', hrun, hs⟩ := alloc_sound h hz h1 h2 _ (tagT_getD _ _); ⟨v, w', β', by simp [execOp, hrun], hs⟩) hr
  | box e x =>
    simp only [opR] at hr
    split at hr <;> try exact .inl hr
    rename_i cs hc
    exact new_ok (o := ⟨dst, .box e x, ty, pos, after, guard⟩) (fun d hd h1 h2 => let ⟨v, w', β', hrun, hs⟩ := box_sound (P := P) (t := e) h (hev x) hc h1 h2; ⟨v, w', β', by simp [execOp, hrun], hs⟩) hr
  | build t parts =>
    obtain ⟨p1, p2⟩ := parts_ok h parts
    exact val_ok h (o := ⟨dst, .build t parts, ty, pos, after, guard⟩) ((build_sound (P := P) (t := t) p1 p2).mono fun _ ⟨v, hr, hv⟩ => ⟨v, by simp [execOp, hr], hv⟩) hr
  | buildSlice t l parts =>
    simp only [opR] at hr
    split at hr <;> try exact .inl hr
    rename_i e xs hk hx
    split at hr <;> try exact .inl hr
    rename_i hc
    obtain ⟨rfl, hz, hw, hok, hb⟩ := hc
    obtain ⟨z', hz⟩ := Option.isSome_iff_exists.1 hz
    have hk' : (P.ti t).k = .slice e := by
      unfold sliceE at hk
      split at hk <;> cases hk
      assumption
    obtain ⟨p1, p2⟩ := parts_ok h parts
    refine new_ok (o := ⟨dst, .buildSlice t xs.length parts, ty, pos, after, guard⟩) (fun d hd h1 h2 => ?_) hr
    obtain ⟨v, w', β', hrun, hs⟩ := buildSlice_sound (P := P) (t := t) h p1 p2 hk' hx hz hw (fun x hx' => okWb_ok (List.all_eq_true.1 hok x hx')) hb h1 h2
    exact ⟨v, w', β', by simp [execOp, hrun], hs⟩
  | load t x => exact val_ok h (o := ⟨dst, .load t x, ty, pos, after, guard⟩) ((load_sound (P := P) (t := t) h (hev x)).mono fun _ ⟨v, hr, hv⟩ => ⟨v, by simp [execOp, hr], hv⟩) hr
  | store t x y =>
    have hs := store_sound (P := P) (t := t) h (hev x) (hev y)
    have hr' : ((storeR (P.ti t) s (ev s x) (ev s y)).bind fun s' => putR B.n dst s' .un).run f z := hr
    have key : ∀ r : R St, RV r (fun s' => ∃ w', (Instr.storeAt t (a.eval x) (a.eval y)).run P w = .ok () w' ∧ Sim B β s' a.tmps w') → (r.bind fun s' => putR B.n dst s' .un).run f z → z ∨ Does P B ⟨dst, .store t x y, ty, pos, after, guard⟩ a w f := by
      intro r
      induction r with
      | ok s' =>
        rintro ⟨w', hrun, hsim⟩ hr
        rcases putR_ok hr with hz | ⟨hd, hf⟩
        · exact .inl hz
        · exact .inr ⟨.skip, undef, w', _, β, by simp [execOp, hrun], .inr ⟨rfl, rfl⟩, hf, hsim.putd hd (.un _)⟩
      | need p r ih => exact fun hφ hr => ih (hφ hr.1) hr.2
      | no => exact fun _ hr => .inl hr
    exact key _ hs hr'
  | fieldAddr t x fi => exact val_ok h (o := ⟨dst, .fieldAddr t x fi, ty, pos, after, guard⟩) ((fieldAddr_sound (P := P) (t := t) (hev x)).mono fun _ ⟨v, hr, hv⟩ => ⟨v, by simp [execOp, hr], hv⟩) hr
  | field t x fi => exact val_ok h (o := ⟨dst, .field t x fi, ty, pos, after, guard⟩) ((field_sound (P := P) (t := t) (hev x)).mono fun _ ⟨v, hr, hv⟩ => ⟨v, by simp [execOp, hr], hv⟩) hr
  | indexAddr t x j => exact val_ok h (o := ⟨dst, .indexAddr t x j, ty, pos, after, guard⟩) ((indexAddr_sound (P := P) (t := t) (hev x) (hev j)).mono fun _ ⟨v, hr, hv⟩ => ⟨v, by simp [execOp, hr], hv⟩) hr
  | index t x j => exact val_ok h (o := ⟨dst, .index t x j, ty, pos, after, guard⟩) ((index_sound (P := P) (t := t) (hev x) (hev j)).mono fun _ ⟨v, hr, hv⟩ => ⟨v, by simp [execOp, hr], hv⟩) hr
  | slice t x lo hi mx =>
    cases mx with
    | some _ => exact .inl hr
    | none =>
      have opt : ∀ o : Option Operand, (∀ x, o.map (ev s) = some x → ∃ v, o.map a.eval = some v ∧ VR w.heap (s.own B.A β) s.used s.hp β v x) ∧ (o.map (ev s) = none → o.map a.eval = none) := by
        intro o
        cases o with
        | none => exact ⟨fun x h => (by cases h), fun _ => rfl⟩
        | some o => exact ⟨fun x h => (by cases h; exact ⟨_, rfl, hev o⟩), fun h => (by cases h)⟩
      exact val_ok h (o := ⟨dst, .slice t x lo hi none, ty, pos, after, guard⟩) ((slice_sound (P := P) (t := t) h (hev x) (opt lo).1 (opt lo).2 (opt hi).1 (opt hi).2).mono fun _ ⟨v, hr, hv⟩ => ⟨v, by simp [execOp, hr], hv⟩) hr
  | binOp op t x y yt =>
    exact val_ok h (o := ⟨dst, .binOp op t x y yt, ty, pos, after, guard⟩) ((bin_sound (P := P) (t := t) (hev x) (hev y) x y).mono fun _ ⟨v, hr, hv⟩ => ⟨v, by simp only [execOp, Sem.run_bind] at hr ⊢; rw [hr]; rfl, hv⟩) hr
  | unOp op t x => exact val_ok h (o := ⟨dst, .unOp op t x, ty, pos, after, guard⟩) ((un_sound (P := P) (hev x)).mono fun _ ⟨v, hr, hv⟩ => ⟨v, by simp [execOp, hr], hv⟩) hr
  | convert t t' x => exact val_ok h (o := ⟨dst, .convert t t' x, ty, pos, after, guard⟩) ((conv_sound (P := P) (t := t) (t' := t') (hev x)).mono fun _ ⟨v, hr, hv⟩ => ⟨v, by simp [execOp, hr], hv⟩) hr
  | extract x i => exact val_ok h (o := ⟨dst, .extract x i, ty, pos, after, guard⟩) ((extract_sound (P := P) (hev x) i).mono fun _ ⟨v, hr, hv⟩ => ⟨v, by simp [execOp, hr], hv⟩) hr
  | nilCheck x => exact val_ok h (o := ⟨dst, .nilCheck x, ty, pos, after, guard⟩) ((nil_sound (hev x)).mono fun _ ⟨⟨ad, hr⟩, hv⟩ => ⟨a.eval x, by simp [execOp, hr], hv⟩) hr
  | makeFunc fn first caps =>
    refine val_ok h (o := ⟨dst, .makeFunc fn first caps, ty, pos, after, guard⟩) ((makeFunc_sound (P := P) (ρ := a.eval) (cvs := caps.map a.eval) (by simp) (fun i x hi => ?_)).mono fun _ ⟨v, hr, hv⟩ => ⟨v, by simp [execOp, hr], hv⟩) hr
    simp only [List.getElem?_map, Option.map_eq_some_iff] at hi
    obtain ⟨o, ho, rfl⟩ := hi
    have : (caps.map a.eval).getD i undef = a.eval o := by
      simp only [Array.getElem?_toList] at ho
      simp [Array.getD_eq_getD_getElem?, ho]
    rw [this]; exact hev o
  | makeSlice t l c => exact makeSlice_sound h (hev l) (hev c) ⟨dst, .makeSlice t l c, ty, pos, after, guard⟩ (fun v w' hr => by simp [execOp, hr]) hr
  | call c =>
    obtain ⟨callee, args, ats⟩ := c
    cases callee with
    | value _ => exact .inl hr
    | invoke _ _ => exact .inl hr
    | builtin b =>
      obtain ⟨args⟩ := args
      obtain ⟨ats⟩ := ats
      simp only [opR, builtinR] at hr
      split at hr
      · rename_i x hx
        obtain ⟨xo, rfl, rfl⟩ : ∃ xo, args = [xo] ∧ ev s xo = x := by
          match args, hx with
          | [xo], hx => exact ⟨xo, rfl, by simpa using hx⟩
        split at hr <;> try exact .inl hr
        rename_i t
        exact val_ok h (o := ⟨dst, .call { callee := .builtin .len, args := [xo].toArray, argTypes := [t].toArray }, ty, pos, after, guard⟩)
          ((len_sound (P := P) (t := t) h (hev xo) rfl ty).mono fun _ ⟨v, hr, hv⟩ => ⟨v, by simp [execOp, resolve, invoke, builtin, hr], hv⟩) hr
      · rename_i x y hx
        obtain ⟨xo, yo, rfl, rfl, rfl⟩ : ∃ xo yo, args = [xo, yo] ∧ ev s xo = x ∧ ev s yo = y := by
          match args, hx with
          | [xo, yo], hx => exact ⟨xo, yo, rfl, by simpa using hx⟩
        exact val_ok h (o := ⟨dst, .call { callee := .builtin .max, args := [xo, yo].toArray, argTypes := ats.toArray }, ty, pos, after, guard⟩)
          ((max_sound (P := P) (hev xo) (hev yo) ats.toArray ty).mono fun _ ⟨v, hr, hv⟩ => ⟨v, by simp [execOp, resolve, invoke, builtin, hr], hv⟩) hr
      · rename_i x y hx
        obtain ⟨xo, yo, rfl, rfl, rfl⟩ : ∃ xo yo, args = [xo, yo] ∧ ev s xo = x ∧ ev s yo = y := by
          match args, hx with
          | [xo, yo], hx => exact ⟨xo, yo, rfl, by simpa using hx⟩
        exact val_ok h (o := ⟨dst, .call { callee := .builtin .min, args := [xo, yo].toArray, argTypes := ats.toArray }, ty, pos, after, guard⟩)
          ((min_sound (P := P) (hev xo) (hev yo) ats.toArray ty).mono fun _ ⟨v, hr, hv⟩ => ⟨v, by simp [execOp, resolve, invoke, builtin, hr], hv⟩) hr
      · rename_i x y hx
        obtain ⟨xo, yo, rfl, rfl, rfl⟩ : ∃ xo yo, args = [xo, yo] ∧ ev s xo = x ∧ ev s yo = y := by
          match args, hx with
          | [xo, yo], hx => exact ⟨xo, yo, rfl, by simpa using hx⟩
        split at hr <;> try exact .inl hr
        rename_i t t'
        split at hr <;> try exact .inl hr
        rename_i htt
        have htt : t = t' := by simpa using htt
        subst htt
        split at hr <;> try exact .inl hr
        rename_i e hk
        split at hr <;> try exact .inl hr
        rename_i hc
        have hs := append_sound (P := P) (t := t) h (hev xo) (hev yo) hk hc.1 hc.2 ty dst
        rcases RV.run hs hr with hz | ⟨s', ⟨dd, v, w', β', rfl, hrun, hsim⟩, hf⟩
        · exact .inl hz
        · exact .inr ⟨_, v, w', s', β', by simp [execOp, resolve, invoke, builtin, hrun], .inl rfl, hf, hsim⟩
      · exact .inl hr
  | _ => exact .inl hr
end
end Go.Ab
namespace Go.Ab
section
variable {P : Program} {cf : Cf} {ro : Option Nat}
theorem Fw_depth : (Fw ro).depth = none := rfl
theorem Sim.setv {B : Base} {β : Name → Option Blk} {s : St} {tm : Array Value} {w : World} (h : Sim B β s tm w) {t : Nat} {x : AV} (hv : VR w.heap (s.own B.A β) s.used s.hp β (tm.getD t undef) x) : Sim B β (s.put t x) tm w := by
  refine { h with slots := fun i => ?_ }
  show VR w.heap (s.own B.A β) s.used s.hp β _ (updN s.fr t x i)
  unfold updN
  split
  · rename_i e; rw [e]; exact hv
  · exact h.slots i
theorem wpIn_of_run {o : Oper} {a : Act} {w w' : World} {nx : Next} {v : Value} (hnd : ∀ c, o.op ≠ .defer c) (hrun : (execOp a.eval o).run P w = .ok nx w') (hnx : nx = .value v ∨ nx = .skip ∧ v = undef)
    {next : Act → World → Prop} {Q : Exit → Act → World → Prop} (h : next (a.put o.dst v) w') : o.wpIn (Fw cf.ro) 0 P a w next Q := by
  refine ⟨fun _ _ => trivial, ?_⟩
  rw [Oper.semAt_eq _ _ _ hnd, hrun]
  rcases hnx with rfl | ⟨rfl, rfl⟩ <;> exact h
theorem hold_ret (Q : Exit → Act → World → Prop) : ∀ (k : List It) (a : Act) (w : World), Q .ret a w → hold P cf Q k .ret a w
  | [], _, _, h => h
  | .code _ :: k, a, w, h => hold_ret Q k a w h
  | .ops _ _ :: k, a, w, h => hold_ret Q k a w h
  | .blk _ :: k, a, w, h => hold_ret Q k a w h
theorem hold_exit_none (Q : Exit → Act → World → Prop) (i : Nat) : ∀ (k : List It) (a : Act) (w : World), exitK i k = none → Q (.exit i) a w → hold P cf Q k (.exit i) a w
  | [], _, _, _, h => h
  | .code _ :: k, a, w, hk, h => hold_exit_none Q i k a w hk h
  | .ops _ _ :: k, a, w, hk, h => hold_exit_none Q i k a w hk h
  | .blk j :: k, a, w, hk, h => by
    simp only [exitK] at hk
    split at hk
    · cases hk
    · rename_i hj
      simp only [hold, if_neg (fun e : i = j => hj e.symm)]
      exact hold_exit_none Q i k a w hk h
theorem hold_exit_some (Q : Exit → Act → World → Prop) (i : Nat) : ∀ (k k' : List It) (a : Act) (w : World), exitK i k = some k' → hold P cf Q k' .normal a w → hold P cf Q k (.exit i) a w
  | [], _, _, _, hk, _ => by cases hk
  | .code _ :: k, k', a, w, hk, h => hold_exit_some Q i k k' a w hk h
  | .ops _ _ :: k, k', a, w, hk, h => hold_exit_some Q i k k' a w hk h
  | .blk j :: k, k', a, w, hk, h => by
    simp only [exitK] at hk
    split at hk
    · rename_i hj; cases hk; subst hj
      simp only [hold, if_true]; exact h
    · rename_i hj
      simp only [hold, if_neg (fun e : i = j => hj e.symm)]
      exact hold_exit_some Q i k k' a w hk h
theorem hold_then (Q : Exit → Act → World → Prop) (c : Code) (k : List It) : ∀ e a w, hold P cf Q (.code c :: k) e a w → Exit.then (c.wpIn (Fw cf.ro) 0 P (hold P cf Q k)) (hold P cf Q k) e a w := by
  intro e a w h; cases e <;> exact h
theorem hold_block (Q : Exit → Act → World → Prop) (i : Nat) (k : List It) : ∀ e a w, hold P cf Q (.blk i :: k) e a w → Exit.inBlock i (hold P cf Q k) e a w := by
  intro e a w h; cases e <;> exact h
theorem ops_step {B : Base} {ds : List Deferred} {β : Name → Option Blk} {a : Act} {w : World} {s : St} {o : Oper} {all : Array Oper} {r : List Oper} {k : List It} {Q : Exit → St → Prop} (hB : cf.fits B) (hds : a.defers = ds) (h : Sim B β s a.tmps w)
    (ih : ∀ s', run P cf (.ops all r :: k) Q s' → ARun P cf (.ops all r :: k) Q s') {i : Nat} {l : List Nat} (hl : l.map (all[·]?) = r.map some) (hi : all[i]? = some o)
    (hw : Region.wanted o (yielded all a.tmps) = true) {o' : Oper} (ho' : o' = { o with guard := none })
    (hr : (opR P.ti cf.n o.op o.dst s).run (fun s' => run P cf (.ops all r :: k) Q s') (AOk P cf o s (.ops all r :: k) Q) ∨ (opR P.ti cf.n o.op o.dst s).run (fun s' => run P cf (.ops all r :: k) Q s') (AOk P cf o' s (.ops all r :: k) Q)) :
    wpOpsIn (Fw cf.ro) 0 P all (hold P cf (lift B ds Q) k) (i :: l) a w := by
  simp only [wpOpsIn, hi, hw, if_true]
  have done : ∀ a' w', (a'.defers = ds ∧ ∃ s' β', ARun P cf (.ops all r :: k) Q s' ∧ Sim B β' s' a'.tmps w') → wpOpsIn (Fw cf.ro) 0 P all (hold P cf (lift B ds Q) k) l a' w' := by
    rintro a' w' ⟨hd', s', β', hA, hs⟩
    exact hA B hB ds β' a' w' hd' hs l hl
  have does : Does P B o a w (fun s' => run P cf (.ops all r :: k) Q s') → o.wpIn (Fw cf.ro) 0 P a w (wpOpsIn (Fw cf.ro) 0 P all (hold P cf (lift B ds Q) k) l) (hold P cf (lift B ds Q) k) := by
    rintro ⟨nx, v, w', s', β', hrun, hnx, hf, hs⟩
    have hnd : ∀ c, o.op ≠ .defer c := by
      intro c hc
      have : ∃ d w2, (execOp a.eval o).run P w = .ok (.defer d) w2 ∨ ∃ h w2, (execOp a.eval o).run P w = .halt h w2 := by
        simp only [execOp, hc, Sem.run_bind]
        cases (resolve a.eval c o.type).run P w with
        | ok d w2 => exact ⟨d, w2, .inl rfl⟩
        | halt hh w2 => exact ⟨default, w2, .inr ⟨hh, w2, rfl⟩⟩
      obtain ⟨d, w2, h1 | ⟨hh, w3, h1⟩⟩ := this
      · rw [hrun] at h1; cases h1; rcases hnx with h2 | ⟨h2, _⟩ <;> cases h2
      · rw [hrun] at h1; cases h1
    refine wpIn_of_run hnd hrun hnx (done _ _ ⟨?_, s', β', ih s' hf, hs⟩)
    cases o.dst <;> exact hds
  rcases hr with hr | hr
  · rw [← hB.1] at hr
    rcases opR_sound h hr with hz | hd
    · exact Oper.wpIn_mono done (hz B hB ds β a w hds h _)
    · exact does hd
  · rw [← hB.1] at hr
    rcases opR_sound h hr with hz | hd
    · subst ho'
      exact Oper.wpIn_mono done (hz B hB ds β a w hds h (hold P cf (lift B ds Q) k))
    · exact does hd
theorem run_sound : ∀ (N : Nat) (k : List It) (Q : Exit → St → Prop) (s : St), kmsz k ≤ N → run P cf k Q s → ARun P cf k Q s := by
  intro N
  induction N with
  | zero =>
    intro k Q s hN hr
    cases k with
    | nil =>
      rw [run] at hr
      exact fun B hB ds β a w hds h => ⟨hds, s, β, hr, h⟩
    | cons i k => simp only [kmsz] at hN; have := i.msz_pos; omega
  | succ N ih =>
    intro k Q s hN hr
    cases k with
    | nil =>
      rw [run] at hr
      exact fun B hB ds β a w hds h => ⟨hds, s, β, hr, h⟩
    | cons i k =>
      have go : ∀ k' s', kmsz k' ≤ N → run P cf k' Q s' → ARun P cf k' Q s' := fun k' s' hk' => ih k' Q s' hk'
      simp only [kmsz] at hN
      cases i with
      | blk i =>
        simp only [It.msz] at hN
        rw [run] at hr
        exact fun B hB ds β a w hds h => go k s (by omega) hr B hB ds β a w hds h
      | ops all r =>
        simp only [It.msz] at hN
        cases r with
        | nil =>
          rw [run] at hr
          intro B hB ds β a w hds h l hl
          have : l = [] := by simpa using hl
          subst this
          exact go k s (by simp at hN; omega) hr B hB ds β a w hds h
        | cons o r =>
          simp only [List.length_cons] at hN
          have hgo : ∀ s', run P cf (.ops all r :: k) Q s' → ARun P cf (.ops all r :: k) Q s' := fun s' => go _ s' (by simp only [kmsz, It.msz]; omega)
          intro B hB ds β a w hds h l hl
          cases l with
          | nil => simp at hl
          | cons i l =>
            simp only [List.map_cons, List.cons.injEq] at hl
            obtain ⟨hi, hl⟩ := hl
            rw [run] at hr
            cases hg : o.guard with
            | none =>
              rw [hg] at hr
              exact ops_step hB hds h hgo hl hi (by simp [Region.wanted, hg]) rfl (.inl hr)
            | some q =>
              obtain ⟨j, want⟩ := q
              rw [hg] at hr
              simp only at hr
              split at hr
              · rename_i t b hgv
                obtain ⟨oj, hj, hjd, hjt⟩ : ∃ oj, all[j]? = some oj ∧ oj.dst = some t ∧ s.fr t = .d (.bool b) := by
                  unfold guardV at hgv
                  split at hgv
                  · rename_i oj hj
                    simp only [Option.map_eq_some_iff, Prod.mk.injEq] at hgv
                    obtain ⟨t', ht', rfl, hv⟩ := hgv
                    exact ⟨oj, hj, ht', hv⟩
                  · cases hgv
                have hv := h.slots t
                rw [hjt] at hv
                have hb := hv.bool
                have hlt : t < a.tmps.size := by
                  rcases Nat.lt_or_ge t a.tmps.size with hlt | hge
                  · exact hlt
                  · simp [Array.getD_eq_getD_getElem?, Array.getElem?_eq_none hge] at hb; cases hb
                have hy : yielded all a.tmps j = some b := by
                  simp [yielded, hj, hjd, Array.getElem?_eq_getElem hlt]
                  simp [Array.getD_eq_getD_getElem?, hlt] at hb
                  rw [hb]
                by_cases hbw : b = want
                · have hs' : Sim B β (s.put t (.d (.bool want))) a.tmps w := h.setv (by rw [← hbw]; exact hv)
                  exact ops_step hB hds hs' hgo hl hi (by simp [Region.wanted, hg, hy, hbw]) rfl (.inr (hr.1 hbw))
                · have hbn : b = !want := by cases b <;> cases want <;> simp_all
                  have hs' : Sim B β (s.put t (.d (.bool (!want)))) a.tmps w := h.setv (by rw [← hbn]; exact hv)
                  have hnw : Region.wanted o (yielded all a.tmps) = false := by simp [Region.wanted, hg, hy, hbw]
                  simp only [wpOpsIn, hi, hnw, Bool.false_eq_true, if_false]
                  refine ⟨fun _ _ => trivial, ?_⟩
                  rcases putR_ok (hr.2 hbn) with hz | ⟨hd, hf⟩
                  · exact hz.elim
                  · refine hgo _ hf B hB ds β (a.put o.dst undef) w ?_ (hs'.putd (by rw [hB.1]; exact hd) (.tup #[] [] rfl (by simp))) l hl
                    cases o.dst <;> exact hds
              · rename_i t hgv
                obtain ⟨oj, hj, hjd, hjt⟩ : ∃ oj, all[j]? = some oj ∧ oj.dst = some t ∧ s.fr t = .tup [] := by
                  unfold guardV at hgv
                  split at hgv
                  · rename_i oj hj
                    simp only [Option.map_eq_some_iff, Prod.mk.injEq] at hgv
                    obtain ⟨t', ht', rfl, hv⟩ := hgv
                    exact ⟨oj, hj, ht', hv⟩
                  · cases hgv
                have hv := h.slots t
                rw [hjt] at hv
                have hy : yielded all a.tmps j = none := by
                  rcases Nat.lt_or_ge t a.tmps.size with hlt | hge
                  · have hb : a.tmps.getD t undef = .tuple #[] := by
                      generalize a.tmps.getD t undef = v at hv
                      cases hv with
                      | tup vs _ hs _ =>
                        have : vs = #[] := Array.eq_empty_of_size_eq_zero hs
                        rw [this]
                    simp [Array.getD_eq_getD_getElem?, hlt] at hb
                    simp [yielded, hj, hjd, Array.getElem?_eq_getElem hlt, hb]
                  · simp [yielded, hj, hjd, Array.getElem?_eq_none hge]
                have hnw : Region.wanted o (yielded all a.tmps) = false := by simp [Region.wanted, hg, hy]
                simp only [wpOpsIn, hi, hnw, Bool.false_eq_true, if_false]
                refine ⟨fun _ _ => trivial, ?_⟩
                rcases putR_ok hr with hz | ⟨hd, hf⟩
                · exact hz.elim
                · refine hgo _ hf B hB ds β (a.put o.dst undef) w ?_ (h.putd (by rw [hB.1]; exact hd) (.tup #[] [] rfl (by simp))) l hl
                  cases o.dst <;> exact hds
              · exact hr.elim
      | code c =>
        simp only [It.msz] at hN
        have hpos := msz_pos c
        cases c with
        | skip =>
          rw [run] at hr
          exact fun B hB ds β a w hds h => wpIn_skip (go k s (by omega) hr B hB ds β a w hds h)
        | region id ops draw =>
          cases draw with
          | false =>
            rw [run] at hr
            intro B hB ds β a w hds h
            refine wpIn_region ?_
            refine go (.ops ops ops.toList :: k) s (by simp only [kmsz, It.msz, msz] at hN ⊢; omega) hr B hB ds β a w hds h _ ?_
            apply List.ext_getElem?
            intro j
            simp only [List.getElem?_map, Array.getElem?_toList]
            by_cases hj : j < ops.size
            · simp [hj]
            · simp [hj]
          | true => rw [run] at hr; exact hr
        | seq x y =>
          rw [run] at hr
          intro B hB ds β a w hds h
          have := go (.code x :: .code y :: k) s (by simp only [kmsz, It.msz, msz] at hN ⊢; omega) hr B hB ds β a w hds h
          exact wpIn_seq (wpIn_mono this (hold_then _ y k))
        | cond c x y =>
          rw [run] at hr
          intro B hB ds β a w hds h
          split at hr
          · rename_i t ht
            have hc := h.ev c
            rw [ht] at hc
            refine wpIn_cond hc.bool ?_
            cases t with
            | true => exact go (.code x :: k) s (by simp only [kmsz, It.msz, msz] at hN ⊢; omega) (hr.1 rfl) B hB ds β a w hds h
            | false => exact go (.code y :: k) s (by simp only [kmsz, It.msz, msz] at hN ⊢; omega) (hr.2 rfl) B hB ds β a w hds h
          · exact hr.elim
        | block i x =>
          rw [run] at hr
          intro B hB ds β a w hds h
          have := go (.code x :: .blk i :: k) s (by simp only [kmsz, It.msz, msz] at hN ⊢; omega) hr B hB ds β a w hds h
          exact wpIn_block (wpIn_mono this (hold_block _ i k))
        | exit i =>
          rw [run] at hr
          intro B hB ds β a w hds h
          refine wpIn_exit ?_
          split at hr
          · rename_i k' hk'
            have hle := exitK_le _ _ _ hk'
            exact hold_exit_some _ i k k' a w hk' (go k' s (by omega) hr B hB ds β a w hds h)
          · rename_i hk'
            exact hold_exit_none _ i k a w hk' ⟨hds, s, β, hr, h⟩
        | ret =>
          rw [run] at hr
          exact fun B hB ds β a w hds h => wpIn_ret (hold_ret _ k a w ⟨hds, s, β, hr, h⟩)
        | loop c => rw [run] at hr; exact hr; all_goals simp
        | rangeFunc f p as b => rw [run] at hr; exact hr; all_goals simp
        | scope c => rw [run] at hr; exact hr; all_goals simp
        | label l => rw [run] at hr; exact hr; all_goals simp
        | goto l => rw [run] at hr; exact hr; all_goals simp
        | refuse y => rw [run] at hr; exact hr; all_goals simp
theorem run_ok {k : List It} {Q : Exit → St → Prop} {s : St} (h : run P cf k Q s) : ARun P cf k Q s := run_sound (kmsz k) k Q s (Nat.le_refl _) h
end
end Go.Ab
namespace Go.Ab
mutual
def AV.ren (τ : Name → Name) : AV → AV
  | .un => .un
  | .d x => .d x
  | .vw p o l => .vw (τ p) o l
  | .at p c => .at (τ p) c
  | .el p i c => .el (τ p) i c
  | .mp p => .mp (τ p)
  | .it p => .it (τ p)
  | .agg cs => .agg (renL τ cs)
  | .tup cs => .tup (renL τ cs)
  | .clo f cs => .clo f (renL τ cs)
def renL (τ : Name → Name) : List AV → List AV
  | [] => []
  | x :: r => x.ren τ :: renL τ r
end
def Ob.ren (τ : Name → Name) : Ob → Ob
  | .arrT ty w xs => .arrT ty w xs
  | .boxT ty cs => .boxT ty (renL τ cs)
  | .map es => .map es
  | .siter s i => .siter s i
  | .miter m c es => .miter m c es
def nmb (used : List Nat) : Name → Bool
  | [] => false
  | h :: _ => used.contains h
mutual
def AV.inU (u : List Nat) : AV → Bool
  | .un => true
  | .d _ => true
  | .vw p _ _ => nmb u p
  | .at p _ => nmb u p
  | .el p _ _ => nmb u p
  | .mp p => nmb u p
  | .it p => nmb u p
  | .agg cs => inUL u cs
  | .tup cs => inUL u cs
  | .clo _ cs => inUL u cs
def inUL (u : List Nat) : List AV → Bool
  | [] => true
  | x :: r => x.inU u && inUL u r
end
def Ob.inU (u : List Nat) : Ob → Bool
  | .boxT _ cs => inUL u cs
  | _ => true
theorem nmb_nm {u : List Nat} {p : Name} (h : nmb u p = true) : nm u p := by
  cases p with
  | nil => cases h
  | cons a t => exact ⟨a, t, rfl, by simpa [nmb] using h⟩
theorem renL_length (τ : Name → Name) : ∀ l : List AV, (renL τ l).length = l.length
  | [] => rfl
  | _ :: r => by simp [renL, renL_length τ r]
theorem renL_get (τ : Name → Name) : ∀ (l : List AV) (i : Nat), (renL τ l)[i]? = (l[i]?).map (AV.ren τ)
  | [], i => by simp [renL]
  | x :: r, 0 => by simp [renL]
  | x :: r, i + 1 => by simp [renL, renL_get τ r i]
theorem inUL_get {u : List Nat} : ∀ {l : List AV}, inUL u l = true → ∀ (i : Nat) (x : AV), l[i]? = some x → x.inU u = true
  | [], _, i, x, h => by simp at h
  | y :: r, h, 0, x, hx => by simp [inUL] at h hx; subst hx; exact h.1
  | y :: r, h, i + 1, x, hx => by simp only [inUL, Bool.and_eq_true] at h; exact inUL_get h.2 i x (by simpa using hx)
section
variable {H : Array Obj} {own own' : Nat → Prop} {used used' : List Nat} {hp hp' : Name → Option Ob} {β β' : Name → Option Blk}
theorem VR.ren {τ : Name → Name} (hr : ∀ v d, Rep H own v d → Rep H own' v d) (hob : ∀ p o, hp' p = some o → hp (τ p) = some (o.ren τ) ∧ β' p = β (τ p)) :
    ∀ {v : Value} {y : AV}, VR H own used hp β v y → ∀ x : AV, y = x.ren τ → x.inU used' = true → VR H own' used' hp' β' v x := by
  intro v y h
  induction h with
  | un v => intro x e hu; cases x <;> simp [AV.ren] at e; exact .un v
  | d v z h => intro x e hu; cases x <;> simp [AV.ren] at e; subst e; exact .d v _ (hr v _ h)
  | vw v p off len hn h1 h =>
    intro x e hu; cases x <;> simp [AV.ren] at e
    obtain ⟨rfl, rfl, rfl⟩ := e
    refine .vw v _ _ _ (nmb_nm hu) h1 fun ty w xs hx => ?_
    obtain ⟨ho, hb⟩ := hob _ _ hx
    rw [hb]; exact h _ w xs ho
  | «at» v p c hn h1 h =>
    intro x e hu; cases x <;> simp [AV.ren] at e
    obtain ⟨rfl, rfl⟩ := e
    refine .at v _ _ (nmb_nm hu) h1 fun ty cs hx => ?_
    obtain ⟨ho, hb⟩ := hob _ _ hx
    rw [hb]; exact h _ _ ho
  | el v p i c hn h1 h =>
    intro x e hu; cases x <;> simp [AV.ren] at e
    obtain ⟨rfl, rfl, rfl⟩ := e
    refine .el v _ _ _ (nmb_nm hu) h1 fun ty w xs hx => ?_
    obtain ⟨ho, hb⟩ := hob _ _ hx
    rw [hb]; exact h _ w xs ho
  | mp v p hn h1 h =>
    intro x e hu; cases x <;> simp [AV.ren] at e
    subst e
    refine .mp v _ (nmb_nm hu) h1 fun es hx => ?_
    obtain ⟨ho, hb⟩ := hob _ _ hx
    rw [hb]; exact h _ ho
  | its v p hn h1 h h' =>
    intro x e hu; cases x <;> simp [AV.ren] at e
    subst e
    refine .its v _ (nmb_nm hu) h1 (fun s i hx => ?_) (fun m c i hx => ?_)
    · obtain ⟨ho, hb⟩ := hob _ _ hx
      rw [hb]; exact h _ _ ho
    · obtain ⟨ho, hb⟩ := hob _ _ hx
      rw [hb]; exact h' _ _ _ ho
  | agg vs cs hs hc h0 ih =>
    intro x e hu; cases x <;> simp [AV.ren] at e
    subst e
    rename_i ds
    refine .agg vs ds (by rw [hs, renL_length]) hc fun i x hi => ih i _ (by rw [renL_get, hi]; rfl) x rfl (inUL_get hu i x hi)
  | tup vs cs hs h0 ih =>
    intro x e hu; cases x <;> simp [AV.ren] at e
    subst e
    rename_i ds
    refine .tup vs ds (by rw [hs, renL_length]) fun i x hi => ih i _ (by rw [renL_get, hi]; rfl) x rfl (inUL_get hu i x hi)
  | clo f vs cs hs h0 ih =>
    intro x e hu; cases x <;> simp [AV.ren] at e
    obtain ⟨rfl, rfl⟩ := e
    rename_i ds
    refine .clo _ vs ds (by rw [hs, renL_length]) fun i x hi => ih i _ (by rw [renL_get, hi]; rfl) x rfl (inUL_get hu i x hi)
theorem OR.ren {τ : Name → Name} (hr : ∀ v d, Rep H own v d → Rep H own' v d) (hob : ∀ p o, hp' p = some o → hp (τ p) = some (o.ren τ) ∧ β' p = β (τ p)) {p : Name} {o : Ob} (hb : β' p = β (τ p)) (hu : o.inU used' = true)
    (h : OR H own used hp β (τ p) (o.ren τ)) : OR H own' used' hp' β' p o := by
  cases o with
  | arrT ty w xs =>
    rcases h with ⟨h1, h2⟩ | ⟨k, c, e, hk, hc, hz, hl, hw, h⟩
    · exact .inl ⟨hb.trans h1, h2⟩
    · exact .inr ⟨k, c, e, hb.trans hk, hc, hz, hl, hw, fun i x j d hi hj => hr _ _ (h i x j d hi hj)⟩
  | boxT ty cs =>
    obtain ⟨k, c, e, hk, ho, hc, hz, hl, h1, h⟩ := h
    refine ⟨k, c, e, hb.trans hk, ho, hc, hz, by rw [hl, renL_length], h1, fun j x hj => ?_⟩
    exact (h j (x.ren τ) (by rw [renL_get, hj]; rfl)).ren hr hob x rfl (inUL_get hu j x hj)
  | map es =>
    obtain ⟨k, ents, clock, hk, hc, hz, h⟩ := h
    refine ⟨k, ents, clock, hb.trans hk, hc, hz, fun i x hi => ?_⟩
    obtain ⟨en, h1, h2, h3⟩ := h i x hi
    exact ⟨en, h1, hr _ _ h2, hr _ _ h3⟩
  | siter s pos =>
    obtain ⟨k, hk, hc⟩ := h
    exact ⟨k, hb.trans hk, hc⟩
  | miter _ _ _ =>
    obtain ⟨k, b, since, seen, last, hk, hc, hm, hi⟩ := h
    exact ⟨k, b, since, seen, last, hb.trans hk, hc, hr _ _ hm, hi⟩
end
structure Le (U : List Nat) (τ : Name → Name) (s s2 : St) : Prop where
  fr : ∀ t, s2.fr t = .un ∨ s.fr t = (s2.fr t).ren τ ∧ (s2.fr t).inU s2.used = true
  hp : ∀ p o, s2.hp p = some o → s.hp (τ p) = some (o.ren τ) ∧ o.inU s2.used = true ∧ nm s2.used p
  inj : ∀ p q, s2.hp p ≠ none → s2.hp q ≠ none → τ p = τ q → p = q
  us : ∀ x ∈ U, x ∈ s2.used
  stay : ∀ p, nm U p → s2.hp p ≠ none → τ p = p
theorem Sim.le {B : Base} {β : Name → Option Blk} {s s2 : St} {tm : Array Value} {w : World} {τ : Name → Name} (h : Sim B β s tm w) (hle : Le B.U0 τ s s2) : ∃ β2, Sim B β2 s2 tm w ∧ ∀ p, s2.hp p ≠ none → β2 p = β (τ p) := by
  have key : ∃ β2 : Name → Option Blk, (∀ p, s2.hp p ≠ none → β2 p = β (τ p)) ∧ ∀ p, s2.hp p = none → β2 p = β p := by
    refine ⟨fun p => if (s2.hp p).isSome then β (τ p) else β p, fun p hp => ?_, fun p hp => ?_⟩
    · cases h : s2.hp p with
      | none => exact absurd h hp
      | some o => simp [h]
    · simp [hp]
  obtain ⟨β2, hb, hb'⟩ := key
  have hob : ∀ p o, s2.hp p = some o → s.hp (τ p) = some (o.ren τ) ∧ β2 p = β (τ p) := fun p o hp => ⟨(hle.hp p o hp).1, hb p (by rw [hp]; simp)⟩
  have hown : ∀ b, s2.own B.A β2 b → s.own B.A β b := by
    rintro b (hA | ⟨p, k, hp, hk, rfl⟩)
    · exact .inl hA
    · cases ho : s2.hp p with
      | none => exact absurd ho hp
      | some o =>
        obtain ⟨h1, h2⟩ := hob p o ho
        exact .inr ⟨τ p, k, by rw [h1]; simp, by rw [← h2]; exact hk, rfl⟩
  have hr : ∀ v d, Rep w.heap (s.own B.A β) v d → Rep w.heap (s2.own B.A β2) v d := fun v d hd => hd.mono (fun _ _ _ => rfl) (fun b _ => hown b)
  refine ⟨β2, { tms := h.tms, io := h.io, size := h.size, frame := h.frame, slots := fun i => ?_, objs := fun p o hp => ?_, blocks := fun p k hp hk => ?_, inj := fun p q k l hp hq hk hl e => ?_, us := hle.us, stay := fun p hp => ?_ }, hb⟩
  · rcases hle.fr i with e | ⟨e, hu⟩
    · rw [e]; exact .un _
    · exact (h.slots i).ren hr hob _ e hu
  · obtain ⟨h1, h2, h3⟩ := hle.hp p o hp
    exact ⟨h3, OR.ren hr hob (hb p (by rw [hp]; simp)) h2 (h.objs _ _ h1).2⟩
  · rw [hb p hp] at hk
    cases ho : s2.hp p with
    | none => exact absurd ho hp
    | some o => exact h.blocks (τ p) k (by rw [(hle.hp p o ho).1]; simp) hk
  · rw [hb p hp] at hk; rw [hb q hq] at hl
    have live : ∀ p, s2.hp p ≠ none → s.hp (τ p) ≠ none := fun p hp => by
      cases ho : s2.hp p with
      | none => exact absurd ho hp
      | some o => rw [(hle.hp p o ho).1]; simp
    exact hle.inj p q hp hq (h.inj _ _ k l (live p hp) (live q hq) hk hl e)
  · cases ho : s2.hp p with
    | none => rw [hb' p ho]; exact h.stay p hp
    | some o =>
      have hpn : s2.hp p ≠ none := by rw [ho]; simp
      rw [hb p hpn, hle.stay p hp hpn]; exact h.stay p hp
def tau (l : List (Name × Name)) (p : Name) : Name := lkA p l p
def frL (τ : Name → Name) (u : List Nat) (s : St) : List (Nat × AV) → Prop
  | [] => True
  | q :: r => (s.fr q.1 = q.2.ren τ ∧ q.2.inU u = true) ∧ frL τ u s r
def hpL (τ : Name → Name) (u : List Nat) (s : St) : List (Name × Ob) → Prop
  | [] => True
  | q :: r => (s.hp (τ q.1) = some (q.2.ren τ) ∧ q.2.inU u = true ∧ nmb u q.1 = true) ∧ hpL τ u s r
def injL (τ : Name → Name) : List (Name × Ob) → Prop
  | [] => True
  | q :: r => (∀ x ∈ r, τ q.1 ≠ τ x.1) ∧ injL τ r
def stayL (U : List Nat) (τ : Name → Name) : List (Name × Ob) → Prop
  | [] => True
  | q :: r => (nmb U q.1 = true → τ q.1 = q.1) ∧ stayL U τ r
def LeL (U : List Nat) (τ : Name → Name) (s : St) (fr : List (Nat × AV)) (hp : List (Name × Ob)) (u : List Nat) : Prop :=
  frL τ u s fr ∧ hpL τ u s hp ∧ injL τ hp ∧ (U.all fun x => u.contains x) = true ∧ stayL U τ hp
theorem lkA_mem {α β : Type} [DecidableEq α] {z : β} : ∀ {l : List (α × β)} {i : α}, lkA z l i = z ∨ (i, lkA z l i) ∈ l
  | [], i => .inl rfl
  | q :: r, i => by
    simp only [lkA]
    split
    · rename_i e; subst e; exact .inr List.mem_cons_self
    · rcases lkA_mem (z := z) (l := r) (i := i) with h | h
      · exact .inl h
      · exact .inr (List.mem_cons_of_mem _ h)
theorem frL_mem {τ : Name → Name} {u : List Nat} {s : St} : ∀ {l : List (Nat × AV)}, frL τ u s l → ∀ q ∈ l, s.fr q.1 = q.2.ren τ ∧ q.2.inU u = true
  | [], _, q, h => by simp at h
  | _ :: r, h, q, hq => by
    rcases List.mem_cons.1 hq with rfl | hq
    · exact h.1
    · exact frL_mem h.2 q hq
theorem hpL_mem {τ : Name → Name} {u : List Nat} {s : St} : ∀ {l : List (Name × Ob)}, hpL τ u s l → ∀ q ∈ l, s.hp (τ q.1) = some (q.2.ren τ) ∧ q.2.inU u = true ∧ nmb u q.1 = true
  | [], _, q, h => by simp at h
  | _ :: r, h, q, hq => by
    rcases List.mem_cons.1 hq with rfl | hq
    · exact h.1
    · exact hpL_mem h.2 q hq
theorem injL_mem {τ : Name → Name} : ∀ {l : List (Name × Ob)}, injL τ l → ∀ q ∈ l, ∀ r ∈ l, τ q.1 = τ r.1 → q.1 = r.1
  | [], _, q, h, _, _, _ => by simp at h
  | a :: l, h, q, hq, r, hr, e => by
    rcases List.mem_cons.1 hq with h1 | h1 <;> rcases List.mem_cons.1 hr with h2 | h2
    · rw [h1, h2]
    · rw [h1] at e; exact absurd e (h.1 r h2)
    · rw [h2] at e; exact absurd e.symm (h.1 q h1)
    · exact injL_mem h.2 q h1 r h2 e
theorem stayL_mem {U : List Nat} {τ : Name → Name} : ∀ {l : List (Name × Ob)}, stayL U τ l → ∀ q ∈ l, nmb U q.1 = true → τ q.1 = q.1
  | [], _, q, h, _ => by simp at h
  | _ :: r, h, q, hq, hn => by
    rcases List.mem_cons.1 hq with rfl | hq
    · exact h.1 hn
    · exact stayL_mem h.2 q hq hn
theorem mk_hp_mem {fr : List (Nat × AV)} {hp : List (Name × Ob)} {u : List Nat} {p : Name} {o : Ob} (h : (mk fr hp u).hp p = some o) : (p, o) ∈ hp := by
  have := lkA_mem (z := (none : Option Ob)) (l := hp.map fun q => (q.1, some q.2)) (i := p)
  have e : lkA none (hp.map fun q => (q.1, some q.2)) p = some o := h
  rw [e] at this
  rcases this with h | h
  · cases h
  · obtain ⟨q, hq, e⟩ := List.mem_map.1 h
    cases e; exact hq
theorem LeL.le {U : List Nat} {τ : Name → Name} {s : St} {fr : List (Nat × AV)} {hp : List (Name × Ob)} {u : List Nat} (h : LeL U τ s fr hp u) : Le U τ s (mk fr hp u) := by
  obtain ⟨h1, h2, h3, h4, h5⟩ := h
  have live : ∀ p, (mk fr hp u).hp p ≠ none → ∃ o, (p, o) ∈ hp := fun p hp' => by
    cases ho : (mk fr hp u).hp p with
    | none => exact absurd ho hp'
    | some o => exact ⟨o, mk_hp_mem ho⟩
  refine ⟨fun t => ?_, fun p o hp' => ?_, fun p q hp' hq' e => ?_, fun x hx => ?_, fun p hp' hl => ?_⟩
  · rcases lkA_mem (z := AV.un) (l := fr) (i := t) with e | hm
    · exact .inl e
    · exact .inr (frL_mem h1 _ hm)
  · obtain ⟨a, b, c⟩ := hpL_mem h2 _ (mk_hp_mem hp')
    exact ⟨a, b, nmb_nm c⟩
  · obtain ⟨o, ho⟩ := live p hp'
    obtain ⟨o', ho'⟩ := live q hq'
    exact injL_mem h3 _ ho _ ho' e
  · have := List.all_eq_true.1 h4 x hx
    show x ∈ u
    simpa using this
  · obtain ⟨o, ho⟩ := live p hl
    refine stayL_mem h5 _ ho ?_
    obtain ⟨a, t, rfl, ha⟩ := hp'
    simpa [nmb] using ha
section
variable {P : Program} {cf : Cf}
def lq (P : Program) (cf : Cf) (next : St → Prop) (k : List It) (Q : Exit → St → Prop) (e : Exit) (s : St) : Prop :=
  match e with
  | .normal => next s
  | .exit i => goK P cf (exitK i k) i Q s
  | .ret => Q .ret s
  | _ => False
theorem lq_normal (next : St → Prop) (k : List It) (Q : Exit → St → Prop) (s : St) : lq P cf next k Q .normal s = next s := rfl
theorem lq_ret (next : St → Prop) (k : List It) (Q : Exit → St → Prop) (s : St) : lq P cf next k Q .ret s = Q .ret s := rfl
theorem AOk.le {o : Oper} {s s2 : St} {k : List It} {Q : Exit → St → Prop} {τ : Name → Name} (hle : Le cf.U τ s s2) (h : AOk P cf o s2 k Q) : AOk P cf o s k Q :=
  fun B hB ds β a w hds hs Q' => let ⟨β2, hs2, _⟩ := hs.le (τ := τ) (by rw [hB.2.1]; exact hle); h B hB ds β2 a w hds hs2 Q'
theorem ACk.le {c : Code} {s s2 : St} {k : List It} {Q : Exit → St → Prop} {τ : Name → Name} (hle : Le cf.U τ s s2) (h : ACk P cf c s2 k Q) : ACk P cf c s k Q :=
  fun B hB ds β a w hds hs => let ⟨β2, hs2, _⟩ := hs.le (τ := τ) (by rw [hB.2.1]; exact hle); h B hB ds β2 a w hds hs2
end
end Go.Ab
namespace Go.Ab
def argsFr : Nat → List AV → List (Nat × AV)
  | _, [] => []
  | i, x :: r => (i, x) :: argsFr (i + 1) r
def HCall (P : Program) (G : List (Nat × Obj)) (f : FuncId) (args : List AV) (hp : List (Name × Ob)) (u : List Nat) (Q : AV → List (Name × Ob) → Prop) : Prop :=
  (∀ vs w, (callFunc f vs).run P w = .ok (.enter f vs) w) ∧
  ∀ (B : Base) (β : Name → Option Blk) (vs : Array Value) (w : World), B.n = args.length → B.H0 = w.heap → B.U0 = u → B.G = G → Sim B β (mk (argsFr 0 args) hp u) vs w →
    CallsIn Fence.wide 0 P f vs w fun e w' => ∃ v r hp' u' β', e = .returned v ∧ Q r hp' ∧ Sim { B with n := 1 } β' (mk [(0, r)] hp' u') #[v] w'
theorem HCall.mono {P : Program} {G : List (Nat × Obj)} {f : FuncId} {args : List AV} {hp : List (Name × Ob)} {u : List Nat} {Q Q' : AV → List (Name × Ob) → Prop} (h : HCall P G f args hp u Q) (hq : ∀ r hp', Q r hp' → Q' r hp') : HCall P G f args hp u Q' :=
  ⟨h.1, fun B β vs w h1 h2 h3 h4 h5 => (h.2 B β vs w h1 h2 h3 h4 h5).mono fun _ _ ⟨v, r, hp', u', β', he, hQ, hs⟩ => ⟨v, r, hp', u', β', he, hq _ _ hQ, hs⟩⟩
theorem argsFr_get : ∀ (l : List AV) (i t : Nat), lkA AV.un (argsFr i l) t = if i ≤ t then (l[t - i]?).getD .un else .un
  | [], i, t => by simp [argsFr, lkA]
  | x :: r, i, t => by
    simp only [argsFr, lkA, argsFr_get r (i + 1) t]
    by_cases h1 : t = i
    · subst h1; simp
    · rw [if_neg h1]
      by_cases h2 : i + 1 ≤ t
      · rw [if_pos h2, if_pos (by omega), show t - i = (t - (i + 1)) + 1 by omega, List.getElem?_cons_succ]
      · rw [if_neg h2, if_neg (by omega)]
def resR (P : Program) (s : St) : List ResultVar → R (List AV)
  | [] => .ok []
  | .tmp t :: r => (resR P s r).bind fun l => .ok (s.fr t :: l)
  | .cell p ty :: r => (loadR (P.ti ty) s.hp (s.fr p)).bind fun x => (resR P s r).bind fun l => .ok (x :: l)
def retV : List AV → AV
  | [x] => x
  | l => .tup l
def RX {α : Type} : R α → (α → Prop) → Prop
  | .ok a, φ => φ a
  | .need p r, φ => p ∧ RX r φ
  | .no, _ => False
def retS (s : St) (x : AV) : St := { s with fr := fun t => if t = 0 then x else .un }
def fq (P : Program) (rs : List ResultVar) (u : List Nat) (Q : AV → List (Name × Ob) → Prop) (e : Exit) (s : St) : Prop :=
  match e with
  | .ret => RX (resR P s rs) fun l => ∃ r hp' u' τ, Q r hp' ∧ LeL u τ (retS s (retV l)) [(0, r)] hp' u'
  | .normal => RX (resR P s rs) fun l => ∃ r hp' u' τ, Q r hp' ∧ LeL u τ (retS s (retV l)) [(0, r)] hp' u'
  | _ => False
section
variable {P : Program}
def oneRes (tm : Array Value) : ResultVar → Sem Value
  | .tmp t => pure (tm.getD t undef)
  | .cell a t => do loadVar t (← asAddr (tm.getD a undef))
theorem RX.RV {α : Type} {φ ψ : α → Prop} : ∀ {r : R α}, RX r φ → RV r ψ → ∃ a, φ a ∧ ψ a
  | .ok a, h, g => ⟨a, h, g⟩
  | .need _ _, h, g => RX.RV h.2 (g h.1)
  | .no, h, _ => h.elim
theorem resR_sound {B : Base} {β : Name → Option Blk} {s : St} {tm : Array Value} {w : World} (h : Sim B β s tm w) : ∀ (rs : List ResultVar),
    RV (resR P s rs) fun l => ∃ vs : List Value, (rs.mapM (oneRes tm)).run P w = .ok vs w ∧ vs.length = l.length ∧
      ∀ (i : Nat) x, l[i]? = some x → VR w.heap (s.own B.A β) s.used s.hp β (vs.getD i undef) x
  | [] => ⟨[], by simp, rfl, by simp⟩
  | .tmp t :: r => RV.bind (fun l ⟨vs, h1, h2, h3⟩ => ⟨tm.getD t undef :: vs, by simp [List.mapM_cons, oneRes, h1], by simp [h2], fun i x hi => by
      cases i with
      | zero => simp at hi; subst hi; exact h.slots t
      | succ i => simpa using h3 i x (by simpa using hi)⟩) (resR_sound h r)
  | .cell p ty :: r => RV.bind (fun y ⟨v, hv, hy⟩ => RV.bind (fun l ⟨vs, h1, h2, h3⟩ => ⟨v :: vs, by
      have : (oneRes tm (.cell p ty)).run P w = .ok v w := by
        show (do loadVar ty (← asAddr (tm.getD p undef)) : Sem Value).run P w = .ok v w
        cases hp : tm.getD p undef with
        | pointer a =>
          cases a with
          | none => rw [hp] at hv; simp [Instr.loadAt, Instr.sureAddr] at hv
          | some a => rw [hp] at hv; simpa only [Instr.loadAt, Instr.sureAddr, asAddr, Sem.run_bind, Sem.run_pure, Result.andThen_ok] using hv
        | _ => rw [hp] at hv; simp [Instr.loadAt, Instr.sureAddr] at hv
      simp [List.mapM_cons, this, h1], by simp [h2], fun i x hi => by
      cases i with
      | zero => simp at hi; subst hi; exact hy
      | succ i => simpa using h3 i x (by simpa using hi)⟩) (resR_sound h r)) (load_sound (P := P) (t := ty) h (h.slots p))
theorem run_results {B : Base} {β : Name → Option Blk} {s : St} {tm : Array Value} {w : World} (h : Sim B β s tm w) (fn : Func) {φ : List AV → Prop} (hr : RX (resR P s fn.results.toList) φ) :
    ∃ l v, φ l ∧ (results fn tm).run P w = .ok v w ∧ VR w.heap (s.own B.A β) s.used s.hp β v (retV l) := by
  obtain ⟨l, hφ, vs, h1, h2, h3⟩ := RX.RV hr (resR_sound (P := P) h fn.results.toList)
  refine ⟨l, (if vs.length = 1 then vs.getD 0 undef else .tuple vs.toArray), hφ, ?_, ?_⟩
  · have hm : (fn.results.mapM (oneRes tm)).run P w = .ok vs.toArray w := by
      rw [Array.mapM_eq_mapM_toList]
      simp only [Sem.run_map, h1, Result.andThen_ok]
    have e : results fn tm = (do let vs ← fn.results.mapM (oneRes tm); pure (if h : vs.size = 1 then vs[0] else .tuple vs)) := by
      unfold results
      have : (fun x : ResultVar => match x with | .tmp t => (pure (tm.getD t undef) : Sem Value) | .cell a t => do loadVar t (← asAddr (tm.getD a undef))) = oneRes tm := by
        funext x; cases x <;> rfl
      rw [← this]; rfl
    rw [e, Sem.run_bind, hm]
    simp only [Result.andThen_ok, Sem.run_pure, List.size_toArray]
    by_cases hl : vs.length = 1
    · match vs, hl with
      | [v], _ => simp
    · rw [if_neg hl]; simp [hl]
  · match l, h2, h3 with
    | [x], h2, h3 =>
      simp only [List.length_cons, List.length_nil] at h2
      rw [if_pos h2]
      exact h3 0 x rfl
    | [], h2, h3 =>
      rw [if_neg (by rw [h2]; simp)]
      exact .tup _ _ (by simpa using h2) (fun i x hi => by simp at hi)
    | x :: y :: r, h2, h3 =>
      rw [if_neg (by rw [h2]; simp)]
      refine .tup _ _ (by simpa using h2) (fun i z hi => ?_)
      have := h3 i z hi
      simpa [Array.getD_eq_getD_getElem?, List.getD_eq_getElem?_getD] using this
theorem fun_ok {G : List (Nat × Obj)} {f : FuncId} {fn : Func} {c : Code} {args : List AV} {hp : List (Name × Ob)} {u : List Nat} {Q : AV → List (Name × Ob) → Prop} (hf : P.funcs[f]? = some fn) (hb : fn.body = some c)
    (he : ∀ vs w, (callFunc f vs).run P w = .ok (.enter f vs) w) (hn : args.length ≤ fn.ntmps)
    {Q0 : Exit → St → Prop} (hQ0 : ∀ e s, Q0 e s → fq P fn.results.toList u Q e s)
    (h : run P ⟨fn.ntmps, none, G, u⟩ [.code c] Q0 (mk (argsFr 0 args) hp u)) : HCall P G f args hp u Q := by
  refine ⟨he, fun B β vs w h1 h2 h3 h4 hs => ?_⟩
  have hsz : vs.size = args.length := hs.tms.trans h1
  have hs' : Sim { B with n := fn.ntmps } β (mk (argsFr 0 args) hp u) (vs ++ Array.replicate (fn.ntmps - vs.size) undef) w := by
    refine { hs with tms := by simp; omega, slots := fun t => ?_ }
    have := hs.slots t
    by_cases ht : t < vs.size
    · have e : (vs ++ Array.replicate (fn.ntmps - vs.size) undef).getD t undef = vs.getD t undef := by
        simp [Array.getD_eq_getD_getElem?, Array.getElem?_append, ht]
      rw [e]; exact this
    · have e : (mk (argsFr 0 args) hp u).fr t = .un := by
        rw [mk_fr, argsFr_get, if_pos (Nat.zero_le _), List.getElem?_eq_none (by omega)]; rfl
      rw [e]; exact .un _
  have hrun := run_ok h { B with n := fn.ntmps } ⟨rfl, h3, h4⟩ [] β { tmps := vs ++ Array.replicate (fn.ntmps - vs.size) undef, defers := [] } w rfl hs'
  refine callsIn_of_wp hf hb trivial (wpIn_mono (F := Fence.wide) hrun fun e a' w' hq => ?_)
  obtain ⟨hd, s', β', hq, hsim⟩ := hq
  have hq := hQ0 _ _ hq
  have fin : RX (resR P s' fn.results.toList) (fun l => ∃ r hp' u' τ, Q r hp' ∧ LeL u τ (retS s' (retV l)) [(0, r)] hp' u') →
      a'.defers = [] ∧ ∃ v, (results fn a'.tmps).run P w' = .ok v w' ∧ ∃ v' r hp' u' β', Ending.returned v = .returned v' ∧ Q r hp' ∧ Sim { B with n := 1 } β' (mk [(0, r)] hp' u') #[v'] w' := by
    intro hx
    obtain ⟨l, v, ⟨r, hp', u', τ, hQ, hle⟩, hr, hv⟩ := run_results hsim fn hx
    have hret : Sim { B with n := 1 } β' (retS s' (retV l)) #[v] w' := by
      refine { tms := rfl, io := hsim.io, size := hsim.size, frame := hsim.frame, slots := fun t => ?_, objs := hsim.objs, blocks := hsim.blocks, inj := hsim.inj, us := hsim.us, stay := hsim.stay }
      show VR w'.heap (s'.own B.A β') s'.used s'.hp β' _ (if t = 0 then retV l else .un)
      by_cases ht : t = 0
      · subst ht; rw [if_pos rfl]; exact hv
      · rw [if_neg ht]; exact .un _
    obtain ⟨β2, hs2, _⟩ := hret.le (τ := τ) (by show Le B.U0 τ _ _; rw [h3]; exact hle.le)
    exact ⟨hd, v, hr, v, r, hp', u', β2, rfl, hQ, hs2⟩
  cases e with
  | normal => exact fin hq
  | ret => exact fin hq
  | exit i => exact hq.elim
  | goto l => exact hq.elim
  | panic c => exact hq.elim
  | outgrown => exact hq.elim
def aftN (σ : Name → Name) (d : Nat) (chp : List (Name × Ob)) (p : Name) : Name := if chp.any (fun q => q.1 == p) then σ p else d :: p
def aft (s : St) (σ : Name → Name) (d : Nat) (chp hp' : List (Name × Ob)) (r : AV) : St :=
  { fr := updN s.fr d (r.ren (aftN σ d chp)), used := d :: s.used,
    hp := fun q => lkA (lkA (s.hp q) (chp.map fun x => (σ x.1, none)) q) (hp'.map fun x => (aftN σ d chp x.1, some (x.2.ren (aftN σ d chp)))) q }
theorem VR.ren' {H : Array Obj} {own own' : Nat → Prop} {used used' : List Nat} {hp hp' : Name → Option Ob} {β β' : Name → Option Blk} {σ : Name → Name} (hr : ∀ v d, Rep H own v d → Rep H own' v d)
    (hu : ∀ p, nm used p → nm used' (σ p)) (hob : ∀ p, nm used p → ∀ o', hp' (σ p) = some o' → ∃ o, hp p = some o ∧ o' = o.ren σ ∧ β' (σ p) = β p) :
    ∀ {v : Value} {x : AV}, VR H own used hp β v x → VR H own' used' hp' β' v (x.ren σ) := by
  intro v x h
  induction h with
  | un v => exact .un v
  | d v z h => exact .d v _ (hr v _ h)
  | vw v p off len hn h1 h =>
    refine .vw v _ _ _ (hu p hn) h1 fun ty w xs hx => ?_
    obtain ⟨o, ho, e, hb⟩ := hob p hn _ hx
    cases o <;> simp [Ob.ren] at e
    obtain ⟨rfl, rfl, rfl⟩ := e
    rw [hb]; exact h _ _ _ ho
  | «at» v p c hn h1 h =>
    refine .at v _ _ (hu p hn) h1 fun ty cs hx => ?_
    obtain ⟨o, ho, e, hb⟩ := hob p hn _ hx
    cases o <;> simp [Ob.ren] at e
    rw [hb]; exact h _ _ ho
  | el v p i c hn h1 h =>
    refine .el v _ _ _ (hu p hn) h1 fun ty w xs hx => ?_
    obtain ⟨o, ho, e, hb⟩ := hob p hn _ hx
    cases o <;> simp [Ob.ren] at e
    obtain ⟨rfl, rfl, rfl⟩ := e
    rw [hb]; exact h _ _ _ ho
  | mp v p hn h1 h =>
    refine .mp v _ (hu p hn) h1 fun es hx => ?_
    obtain ⟨o, ho, e, hb⟩ := hob p hn _ hx
    cases o <;> simp [Ob.ren] at e
    rw [hb]; exact h _ ho
  | its v p hn h1 h h' =>
    refine .its v _ (hu p hn) h1 (fun s i hx => ?_) (fun m c i hx => ?_)
    · obtain ⟨o, ho, e, hb⟩ := hob p hn _ hx
      cases o <;> simp [Ob.ren] at e
      rw [hb]; exact h _ _ ho
    · obtain ⟨o, ho, e, hb⟩ := hob p hn _ hx
      cases o <;> simp [Ob.ren] at e
      rw [hb]; exact h' _ _ _ ho
  | agg vs cs hs hc h0 ih => 
    refine .agg vs _ (by rw [hs, renL_length]) hc fun i x hi => ?_
    rw [renL_get, Option.map_eq_some_iff] at hi
    obtain ⟨y, hy, rfl⟩ := hi
    exact ih i y hy
  | tup vs cs hs h0 ih => 
    refine .tup vs _ (by rw [hs, renL_length]) fun i x hi => ?_
    rw [renL_get, Option.map_eq_some_iff] at hi
    obtain ⟨y, hy, rfl⟩ := hi
    exact ih i y hy
  | clo f vs cs hs h0 ih => 
    refine .clo f vs _ (by rw [hs, renL_length]) fun i x hi => ?_
    rw [renL_get, Option.map_eq_some_iff] at hi
    obtain ⟨y, hy, rfl⟩ := hi
    exact ih i y hy
theorem OR.ren' {H : Array Obj} {own own' : Nat → Prop} {used used' : List Nat} {hp hp' : Name → Option Ob} {β β' : Name → Option Blk} {σ : Name → Name} (hr : ∀ v d, Rep H own v d → Rep H own' v d)
    (hu : ∀ p, nm used p → nm used' (σ p)) (hob : ∀ p, nm used p → ∀ o', hp' (σ p) = some o' → ∃ o, hp p = some o ∧ o' = o.ren σ ∧ β' (σ p) = β p) {p : Name} {o : Ob} (hb : β' (σ p) = β p) (h : OR H own used hp β p o) :
    OR H own' used' hp' β' (σ p) (o.ren σ) := by
  cases o with
  | arrT ty w xs =>
    rcases h with ⟨h1, h2⟩ | ⟨k, c, e, hk, hc, hz, hl, hw, h⟩
    · exact .inl ⟨hb.trans h1, h2⟩
    · exact .inr ⟨k, c, e, hb.trans hk, hc, hz, hl, hw, fun i x j d hi hj => hr _ _ (h i x j d hi hj)⟩
  | boxT ty cs =>
    obtain ⟨k, c, e, hk, ho, hc, hz, hl, h1, h⟩ := h
    refine ⟨k, c, e, hb.trans hk, ho, hc, hz, by rw [hl, renL_length], h1, fun j x hj => ?_⟩
    rw [renL_get, Option.map_eq_some_iff] at hj
    obtain ⟨y, hy, rfl⟩ := hj
    exact (h j y hy).ren' hr hu hob
  | map es =>
    obtain ⟨k, ents, clock, hk, hc, hz, h⟩ := h
    refine ⟨k, ents, clock, hb.trans hk, hc, hz, fun i x hi => ?_⟩
    obtain ⟨en, h1, h2, h3⟩ := h i x hi
    exact ⟨en, h1, hr _ _ h2, hr _ _ h3⟩
  | siter s pos =>
    obtain ⟨k, hk, hc⟩ := h
    exact ⟨k, hb.trans hk, hc⟩
  | miter _ _ _ =>
    obtain ⟨k, b, since, seen, last, hk, hc, hm, hi⟩ := h
    exact ⟨k, b, since, seen, last, hb.trans hk, hc, hr _ _ hm, hi⟩
end
end Go.Ab
namespace Go.Ab
def passL (σ : Name → Name) (u : List Nat) (s : St) : List (Name × Ob) → Prop
  | [] => True
  | q :: r => (s.hp (σ q.1) = some (q.2.ren σ) ∧ q.2.inU u = true ∧ nmb u q.1 = true) ∧ passL σ u s r
theorem passL_mem {σ : Name → Name} {u : List Nat} {s : St} : ∀ {l : List (Name × Ob)}, passL σ u s l → ∀ q ∈ l, s.hp (σ q.1) = some (q.2.ren σ) ∧ q.2.inU u = true ∧ nmb u q.1 = true
  | [], _, q, h => by simp at h
  | _ :: r, h, q, hq => by
    rcases List.mem_cons.1 hq with rfl | hq
    · exact h.1
    · exact passL_mem h.2 q hq
def likeM (chp : List (Name × Ob)) : List (Name × Ob) → Prop
  | [] => True
  | q :: r => (match lkA none (chp.map fun x => (x.1, some x.2)) q.1 with
      | some o => o.like q.2
      | none => True) ∧ likeM chp r
theorem likeM_mem {chp : List (Name × Ob)} : ∀ {l : List (Name × Ob)}, likeM chp l → ∀ q ∈ l, ∀ o, lkA none (chp.map fun x => (x.1, some x.2)) q.1 = some o → o.like q.2
  | [], _, q, h, _, _ => by simp at h
  | a :: r, h, q, hq, o, ho => by
    rcases List.mem_cons.1 hq with rfl | hq
    · have := h.1; rw [ho] at this; exact this
    · exact likeM_mem h.2 q hq o ho
theorem lkS {l : List (Name × Ob)} {p : Name} {o : Ob} (h : lkA none (l.map fun x => (x.1, some x.2)) p = some o) : (p, o) ∈ l := mk_hp_mem (fr := []) (u := []) h
theorem lkS_any {l : List (Name × Ob)} {p : Name} (h : l.any (fun q => q.1 == p) = true) : ∃ o, lkA none (l.map fun x => (x.1, some x.2)) p = some o := by
  induction l with
  | nil => simp at h
  | cons q r ih =>
    simp only [List.map_cons, lkA]
    by_cases e : p = q.1
    · exact ⟨q.2, by rw [if_pos e]⟩
    · rw [if_neg e]
      refine ih ?_
      simp only [List.any_cons, Bool.or_eq_true, beq_iff_eq] at h
      exact h.resolve_left fun h => e h.symm
theorem lk_turn (f : Name → Name) (g : Ob → Ob) (z : Option Ob) (p : Name) : ∀ (l : List (Name × Ob)), (∀ q ∈ l, f q.1 = f p → q.1 = p) →
    lkA z (l.map fun x => (f x.1, some (g x.2))) (f p) = match lkA none (l.map fun x => (x.1, some x.2)) p with
      | some o => some (g o)
      | none => z
  | [], _ => rfl
  | q :: r, h => by
    simp only [List.map_cons, lkA]
    by_cases e : p = q.1
    · rw [if_pos (by rw [e]), if_pos e]
    · rw [if_neg (fun e' => e (h q List.mem_cons_self e'.symm).symm), if_neg e]
      exact lk_turn f g z p r fun x hx => h x (List.mem_cons_of_mem _ hx)
theorem lk_none (f : Name → Name) (z : Option Ob) (q : Name) : ∀ (l : List (Name × Ob)), lkA z (l.map fun x => (f x.1, (none : Option Ob))) q = if (l.any fun x => f x.1 == q) = true then none else z
  | [] => rfl
  | x :: r => by
    rw [List.map_cons, lkA_cons, List.any_cons, lk_none f z q r]
    by_cases e : q = f x.1
    · rw [if_pos e, if_pos]; subst e; simp
    · have h2 : (f x.1 == q) = false := by
        rw [beq_eq_false_iff_ne]; exact fun h => e h.symm
      rw [if_neg e, h2, Bool.false_or]
theorem lk_miss (f : Name → Name) (g : Ob → Ob) (z : Option Ob) (q : Name) : ∀ (l : List (Name × Ob)), (∀ x ∈ l, f x.1 ≠ q) → lkA z (l.map fun x => (f x.1, some (g x.2))) q = z
  | [], _ => rfl
  | x :: r, h => by
    simp only [List.map_cons, lkA]
    rw [if_neg (fun e => h x List.mem_cons_self e.symm)]
    exact lk_miss f g z q r fun y hy => h y (List.mem_cons_of_mem _ hy)
section
variable {P : Program} {cf : Cf}
set_option maxHeartbeats 1000000 in
theorem aft_sim {B : Base} {β : Name → Option Blk} {s : St} {tm : Array Value} {w w' : World} (h : Sim B β s tm w) {σ : Name → Name} {d : Nat} (hd : d ∉ s.used) {chp hp' : List (Name × Ob)} {cu u' : List Nat}
    (hpass : passL σ cu s chp) (hinj : injL σ chp) {A' O0' : Nat → Prop} {G' : List (Nat × Obj)} {βc : Name → Option Blk} (hβc : ∀ p, chp.any (fun q => q.1 == p) = true → βc p = β (σ p))
    (hO : ∀ b, O0' b ↔ ∃ p k, chp.any (fun q => q.1 == p) = true ∧ β (σ p) = some k ∧ k.b = b) (hA : ∀ b, A' b ↔ s.own B.A β b ∧ ¬ O0' b) (hA' : ∀ b, A' b → b < w.heap.size) (hG' : ∀ q ∈ G', w.heap[q.1]? = some q.2 ∧ ¬ O0' q.1)
    {r : AV} {β' : Name → Option Blk} {v : Value} (hlike : likeM chp hp')
    (hs : Sim { n := 1, io := B.io, G := G', H0 := w.heap, O0 := O0', A := A', U0 := cu, β0 := βc, hA := hA', hG := hG' } β' (mk [(0, r)] hp' u') #[v] w') :
    ∃ β2, (Sim B β2 { aft s σ d chp hp' r with fr := s.fr } tm w' ∧ VR w'.heap ((aft s σ d chp hp' r).own B.A β2) (d :: s.used) (aft s σ d chp hp' r).hp β2 v (r.ren (aftN σ d chp))) := by
  obtain ⟨τ, hτ⟩ : ∃ τ, aftN σ d chp = τ := ⟨_, rfl⟩
  obtain ⟨s2, hs2⟩ : ∃ s2, aft s σ d chp hp' r = s2 := ⟨_, rfl⟩
  have hτp : ∀ p, chp.any (fun q => q.1 == p) = true → τ p = σ p := fun p hp => by rw [← hτ]; simp only [aftN]; rw [if_pos hp]
  have hτn : ∀ p, ¬ chp.any (fun q => q.1 == p) = true → τ p = d :: p := fun p hp => by rw [← hτ]; simp only [aftN]; rw [if_neg hp]
  have hlive : ∀ p, chp.any (fun q => q.1 == p) = true → ∃ o, (p, o) ∈ chp ∧ s.hp (σ p) = some (o.ren σ) ∧ nm s.used (σ p) ∧ nmb cu p = true := by
    intro p hp
    obtain ⟨o, ho⟩ := lkS_any hp
    obtain ⟨h1, h2, h3⟩ := passL_mem hpass _ (lkS ho)
    exact ⟨o, lkS ho, h1, (h.objs _ _ h1).1, h3⟩
  have hσd : ∀ p l, chp.any (fun q => q.1 == p) = true → σ p ≠ d :: l := by
    intro p l hp e
    obtain ⟨_, _, _, ⟨a, t, e2, ha⟩, _⟩ := hlive p hp
    rw [e] at e2; cases e2; exact hd ha
  have hτinj : ∀ p q, τ p = τ q → p = q := by
    intro p q e
    by_cases hp : chp.any (fun q => q.1 == p) = true <;> by_cases hq : chp.any (fun x => x.1 == q) = true
    · rw [hτp p hp, hτp q hq] at e
      obtain ⟨o, ho, _⟩ := hlive p hp
      obtain ⟨o', ho', _⟩ := hlive q hq
      exact injL_mem hinj _ ho _ ho' e
    · rw [hτp p hp, hτn q hq] at e; exact absurd e (hσd p q hp)
    · rw [hτn p hp, hτp q hq] at e; exact absurd e.symm (hσd q p hq)
    · rw [hτn p hp, hτn q hq] at e; exact (List.cons.inj e).2
  -- where the names lie now
  have hhp : ∀ p, s2.hp (τ p) = (lkA none (hp'.map fun x => (x.1, some x.2)) p).map (Ob.ren τ) := by
    intro p
    rw [← hs2]
    show lkA (lkA (s.hp (τ p)) (chp.map fun x => (σ x.1, none)) (τ p)) (hp'.map fun x => (aftN σ d chp x.1, some (x.2.ren (aftN σ d chp)))) (τ p) = _
    rw [hτ, lk_turn τ (Ob.ren τ) _ p hp' (fun q _ e => hτinj _ _ e), lk_none]
    cases lkA none (hp'.map fun x => (x.1, some x.2)) p with
    | some o => rfl
    | none =>
      simp only [Option.map_none]
      split
      · rfl
      · rename_i hno
        by_cases hp : chp.any (fun q => q.1 == p) = true
        · exfalso
          apply hno
          obtain ⟨o, ho, _⟩ := hlive p hp
          exact List.any_eq_true.2 ⟨_, ho, by simp [hτp p hp]⟩
        · rw [hτn p hp]
          cases hsd : s.hp (d :: p) with
          | none => rfl
          | some o =>
            obtain ⟨a, t, e, ha⟩ := (h.objs _ _ hsd).1
            cases e; exact absurd ha hd
  have hho : ∀ q, nm s.used q → (∀ p, chp.any (fun x => x.1 == p) = true → σ p ≠ q) → s2.hp q = s.hp q := by
    intro q hq hne
    rw [← hs2]
    show lkA (lkA (s.hp q) (chp.map fun x => (σ x.1, none)) q) (hp'.map fun x => (aftN σ d chp x.1, some (x.2.ren (aftN σ d chp)))) q = _
    rw [hτ, lk_miss τ (Ob.ren τ) _ q hp', lk_none, if_neg]
    · intro ha
      obtain ⟨x, hx, e⟩ := List.any_eq_true.1 ha
      exact hne x.1 (List.any_eq_true.2 ⟨x, hx, by simp⟩) (by simpa using e)
    · intro x _ e
      by_cases hp : chp.any (fun q => q.1 == x.1) = true
      · rw [hτp _ hp] at e; exact hne _ hp e
      · rw [hτn _ hp] at e
        obtain ⟨a, t, e2, ha⟩ := hq
        rw [← e] at e2; cases e2; exact hd ha
  have hlive2 : ∀ q o, s2.hp q = some o → (∃ p o', q = τ p ∧ lkA none (hp'.map fun x => (x.1, some x.2)) p = some o' ∧ o = o'.ren τ) ∨ (nm s.used q ∧ (∀ p, chp.any (fun x => x.1 == p) = true → σ p ≠ q) ∧ s.hp q = some o) := by
    intro q o ho
    by_cases hq : ∃ p, τ p = q
    · obtain ⟨p, rfl⟩ := hq
      rw [hhp] at ho
      obtain ⟨o', ho', rfl⟩ := Option.map_eq_some_iff.1 ho
      exact .inl ⟨p, o', rfl, ho', rfl⟩
    · have hne : ∀ p, chp.any (fun x => x.1 == p) = true → σ p ≠ q := fun p hp e => hq ⟨p, by rw [hτp p hp]; exact e⟩
      have hsq : s.hp q = some o := by
        rw [← hs2] at ho
        have ho : lkA (lkA (s.hp q) (chp.map fun x => (σ x.1, none)) q) (hp'.map fun x => (aftN σ d chp x.1, some (x.2.ren (aftN σ d chp)))) q = some o := ho
        rw [hτ, lk_miss τ (Ob.ren τ) _ q hp' (fun x _ e => hq ⟨_, e⟩), lk_none] at ho
        split at ho
        · cases ho
        · exact ho
      exact .inr ⟨(h.objs _ _ hsq).1, hne, hsq⟩
  -- the blocks
  obtain ⟨β2, hβn, hβo⟩ : ∃ β2 : Name → Option Blk, (∀ p, lkA none (hp'.map fun x => (x.1, some x.2)) p ≠ none → β2 (τ p) = β' p) ∧ ∀ q, nm s.used q → β2 q = β q := by
    refine ⟨fun q => match q with | a :: t => if a = d then β' t else β (a :: t) | [] => β [], fun p hp => ?_, fun q hq => ?_⟩
    · by_cases hc : chp.any (fun q => q.1 == p) = true
      · rw [hτp p hc]
        obtain ⟨o, ho, h1, ⟨a, t, e, ha⟩, h3⟩ := hlive p hc
        have hst := hs.stay p (nmb_nm h3)
        rw [e]
        have had : a ≠ d := fun e2 => hd (e2 ▸ ha)
        simp only [if_neg had]
        rw [← e, hst]
        exact (hβc p hc).symm
      · rw [hτn p hc]; simp
    · obtain ⟨a, t, rfl, ha⟩ := hq
      have had : a ≠ d := fun e2 => hd (e2 ▸ ha)
      simp [had]
  have hO0 : ∀ b, O0' b → b < w.heap.size ∧ ¬ B.A b ∧ (B.H0.size ≤ b ∨ B.O0 b) ∧ s.own B.A β b := by
    intro b hb
    obtain ⟨p, k, hp, hk, rfl⟩ := (hO b).1 hb
    obtain ⟨o, _, h1, _⟩ := hlive p hp
    obtain ⟨g1, g2, g3⟩ := h.blocks (σ p) k (by rw [h1]; simp) hk
    exact ⟨g1, g2, g3, .inr ⟨σ p, k, by rw [h1]; simp, hk, rfl⟩⟩
  have hmk : ∀ p o, lkA none (hp'.map fun x => (x.1, some x.2)) p = some o → (mk [(0, r)] hp' u').hp p = some o := fun p o h => h
  have hnewb : ∀ p o k, lkA none (hp'.map fun x => (x.1, some x.2)) p = some o → β' p = some k → k.b < w'.heap.size ∧ ¬ A' k.b ∧ (w.heap.size ≤ k.b ∨ O0' k.b) := fun p o k hp hk =>
    hs.blocks p k (by rw [hmk p o hp]; simp) hk
  have hotherb : ∀ q o k, s.hp q = some o → (∀ p, chp.any (fun x => x.1 == p) = true → σ p ≠ q) → β q = some k → k.b < w.heap.size ∧ ¬ O0' k.b ∧ A' k.b := by
    intro q o k hq hne hk
    obtain ⟨g1, g2, g3⟩ := h.blocks q k (by rw [hq]; simp) hk
    have hno : ¬ O0' k.b := by
      intro hb
      obtain ⟨p, l, hp, hl, e⟩ := (hO _).1 hb
      obtain ⟨o', _, h1, _⟩ := hlive p hp
      exact hne p hp (h.inj (σ p) q l k (by rw [h1]; simp) (by rw [hq]; simp) hl hk e)
    exact ⟨g1, hno, (hA _).2 ⟨.inr ⟨q, k, by rw [hq]; simp, hk, rfl⟩, hno⟩⟩
  have hframe : ∀ b, b < w.heap.size → ¬ O0' b → w'.heap[b]? = w.heap[b]? := fun b hb hn => hs.frame b hb hn
  have hsize : w.heap.size ≤ w'.heap.size := hs.size
  have hown2 : ∀ b, b < w.heap.size → s2.own B.A β2 b → s.own B.A β b := by
    rintro b hb (hB | ⟨q, k, hq, hk, rfl⟩)
    · exact .inl hB
    · cases ho : s2.hp q with
      | none => exact absurd ho hq
      | some o =>
        rcases hlive2 q o ho with ⟨p, o', rfl, hp, rfl⟩ | ⟨hn, hne, hsq⟩
        · rw [hβn p (by rw [hp]; simp)] at hk
          obtain ⟨_, _, g⟩ := hnewb p o' k hp hk
          rcases g with g | g
          · omega
          · exact (hO0 _ g).2.2.2
        · rw [hβo q hn] at hk
          exact .inr ⟨q, k, by rw [hsq]; simp, hk, rfl⟩
  have hownc : ∀ b, s2.own B.A β2 b → (mk [(0, r)] hp' u').own A' β' b := by
    rintro b hb
    rcases hb with hB | ⟨q, k, hq, hk, rfl⟩
    · exact .inl ((hA b).2 ⟨.inl hB, fun hb' => (hO0 b hb').2.1 hB⟩)
    · cases ho : s2.hp q with
      | none => exact absurd ho hq
      | some o =>
        rcases hlive2 q o ho with ⟨p, o', rfl, hp, rfl⟩ | ⟨hn, hne, hsq⟩
        · rw [hβn p (by rw [hp]; simp)] at hk
          exact .inr ⟨p, k, by rw [hmk p o' hp]; simp, hk, rfl⟩
        · rw [hβo q hn] at hk
          exact .inl (hotherb q o k hsq hne hk).2.2
  have hr1 : ∀ v d, Rep w.heap (s.own B.A β) v d → Rep w'.heap (s2.own B.A β2) v d := fun v d hd => hd.mono (fun b hb hlt => hframe b hlt fun hO => hb (hO0 b hO).2.2.2) hown2
  have hr2 : ∀ v d, Rep w'.heap ((mk [(0, r)] hp' u').own A' β') v d → Rep w'.heap (s2.own B.A β2) v d := fun v d hd => hd.mono (fun _ _ _ => rfl) (fun b _ => hownc b)
  have hus2 : s2.used = d :: s.used := by rw [← hs2]; rfl
  have hu1 : ∀ x ∈ s.used, x ∈ s2.used := fun x hx => by rw [hus2]; exact List.mem_cons_of_mem _ hx
  have hst : ∀ q, nm s.used q → Stays s.hp s2.hp β β2 q := by
    intro q hq o ho
    rcases hlive2 q o ho with ⟨p, o', rfl, hp, rfl⟩ | ⟨hn, hne, hsq⟩
    · by_cases hc : chp.any (fun x => x.1 == p) = true
      · obtain ⟨o1, ho1⟩ := lkS_any hc
        have hl := likeM_mem hlike _ (lkS hp) o1 ho1
        obtain ⟨g1, _, _⟩ := passL_mem hpass _ (lkS ho1)
        refine ⟨o1.ren σ, by rw [hτp p hc]; exact g1, ?_, hβo _ hq⟩
        cases o1 <;> cases o' <;> first | exact hl | exact hl.elim
      · rw [hτn p hc] at hq
        obtain ⟨a, t, e, ha⟩ := hq
        cases e; exact absurd ha hd
    · exact ⟨o, hsq, Ob.like_refl _, hβo q hn⟩
  have hum : ∀ p, nm u' p → nm s2.used (τ p) := by
    intro p _
    rw [hus2]
    by_cases hc : chp.any (fun x => x.1 == p) = true
    · rw [hτp p hc]
      obtain ⟨_, _, _, ⟨a, t, e, ha⟩, _⟩ := hlive p hc
      exact ⟨a, t, e, List.mem_cons_of_mem _ ha⟩
    · rw [hτn p hc]; exact ⟨d, p, rfl, List.mem_cons_self⟩
  have hob : ∀ p, nm u' p → ∀ o', s2.hp (τ p) = some o' → ∃ o, (mk [(0, r)] hp' u').hp p = some o ∧ o' = o.ren τ ∧ β2 (τ p) = β' p := by
    intro p _ o' ho
    rw [hhp] at ho
    obtain ⟨o, ho', rfl⟩ := Option.map_eq_some_iff.1 ho
    exact ⟨o, hmk p o ho', rfl, hβn p (by rw [ho']; simp)⟩
  refine ⟨β2, ?_⟩
  rw [hτ, hs2]
  refine ⟨{ tms := h.tms, io := hs.io, size := Nat.le_trans h.size hsize, frame := fun b hb hn => ?_, slots := fun i => (h.slots i).mono hr1 hu1 hst, objs := fun q o ho => ?_, blocks := fun q k hq hk => ?_, inj := fun q q' k l hq hq' hk hl e => ?_, us := fun x hx => hu1 x (h.us x hx), stay := fun p hp => ?_ }, ?_⟩
  · rw [hframe b (Nat.lt_of_lt_of_le hb h.size) fun hO => ?_]
    · exact h.frame b hb hn
    · rcases (hO0 b hO).2.2.1 with g | g
      · omega
      · exact hn g
  · have ho : s2.hp q = some o := ho
    rcases hlive2 q o ho with ⟨p, o', rfl, hp, rfl⟩ | ⟨hn, hne, hsq⟩
    · obtain ⟨g1, g2⟩ := hs.objs p o' (hmk p o' hp)
      exact ⟨hum p g1, g2.ren' hr2 hum hob (hβn p (by rw [hp]; simp))⟩
    · obtain ⟨g1, g2⟩ := h.objs q o hsq
      exact ⟨g1.mono hu1, g2.mono hr1 hu1 hst (hβo q hn) fun k hk => hframe k.b (hotherb q o k hsq hne hk).1 (hotherb q o k hsq hne hk).2.1⟩
  · have hq : s2.hp q ≠ none := hq
    cases ho : s2.hp q with
    | none => exact absurd ho hq
    | some o =>
      rcases hlive2 q o ho with ⟨p, o', rfl, hp, rfl⟩ | ⟨hn, hne, hsq⟩
      · rw [hβn p (by rw [hp]; simp)] at hk
        obtain ⟨g1, g2, g3⟩ := hnewb p o' k hp hk
        rcases g3 with g3 | g3
        · exact ⟨g1, fun hB => by have := Nat.lt_of_lt_of_le (B.hA _ hB) h.size; omega, .inl (Nat.le_trans h.size g3)⟩
        · obtain ⟨_, k2, k3, _⟩ := hO0 _ g3
          exact ⟨g1, k2, k3⟩
      · rw [hβo q hn] at hk
        obtain ⟨g1, g2, g3⟩ := h.blocks q k (by rw [hsq]; simp) hk
        exact ⟨Nat.lt_of_lt_of_le g1 hsize, g2, g3⟩
  · have hq : s2.hp q ≠ none := hq
    have hq' : s2.hp q' ≠ none := hq'
    cases ho : s2.hp q with
    | none => exact absurd ho hq
    | some o =>
      cases ho' : s2.hp q' with
      | none => exact absurd ho' hq'
      | some o2 =>
        rcases hlive2 q o ho with ⟨p, o', rfl, hp, rfl⟩ | ⟨hn, hne, hsq⟩ <;> rcases hlive2 q' o2 ho' with ⟨p2, o3, rfl, hp2, rfl⟩ | ⟨hn2, hne2, hsq2⟩
        · rw [hβn p (by rw [hp]; simp)] at hk; rw [hβn p2 (by rw [hp2]; simp)] at hl
          rw [hs.inj p p2 k l (by rw [hmk p o' hp]; simp) (by rw [hmk p2 o3 hp2]; simp) hk hl e]
        · rw [hβn p (by rw [hp]; simp)] at hk; rw [hβo _ hn2] at hl
          exact absurd (e ▸ (hotherb _ _ l hsq2 hne2 hl).2.2) (hnewb p o' k hp hk).2.1
        · rw [hβo _ hn] at hk; rw [hβn p2 (by rw [hp2]; simp)] at hl
          exact absurd (e ▸ (hotherb _ _ k hsq hne hk).2.2) (hnewb p2 o3 l hp2 hl).2.1
        · rw [hβo _ hn] at hk; rw [hβo _ hn2] at hl
          exact h.inj q q' k l (by rw [hsq]; simp) (by rw [hsq2]; simp) hk hl e
  · rw [hβo p (hp.mono h.us)]; exact h.stay p hp
  · have := hs.slots 0
    have := this.ren' hr2 hum hob
    rw [hus2] at this
    exact this
end
end Go.Ab
