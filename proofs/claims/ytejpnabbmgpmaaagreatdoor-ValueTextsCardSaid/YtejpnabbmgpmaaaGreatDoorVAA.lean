/-
  The generic layer, part 1: data by values ('D'), what a temporary may hold ('AV'), objects by names ('Ob'), and when machine memory stands for them ('Rep', 'VR', 'OR', 'Sim'). It names no program. (with the parts that follow it) (with the parts that follow it)
-/
import Derived.CallsIn
import Derived.Laws.AppendOwn
import Derived.Laws.Strings
import Derived.Laws.Cells
import Derived.Laws.Rows
import Derived.Laws.Tables
import Derived.Laws.IdiomCopy
import Derived.Laws.Entries
import Derived.Attr
import Derived.Laws.Strings2
import Derived.Laws.Concat
import Derived.Laws.Small
import Derived.Laws.MakeOwn
import Derived.Laws.NewBlocks
set_option linter.all false
namespace Go.Ab
abbrev Name:=List Nat
abbrev W:=Option Nat
def wd:W→Nat
 | none=>1
 | some n=>n
inductive D where
 | int (k:IntKind) (n:Int)
 | bool (b:Bool)
 | str (s:List UInt8)
 | nilp | nils | nilm | nilf | nili
 | unk
 | sl (w:W) (xs:List D)
 | slx (w:W) (xs:List D)
 | agg (cs:List D)
 | ptr (d:D)
 | clo (f:Nat) (caps:List D)
 | ifc (t:Nat) (d:D)
 | mpd (clk:Nat) (bs:List Nat) (ks vs:List D)
 | yl (l:Nat)
 deriving Inhabited
inductive AV where
 | un
 | d (x:D)
 | vw (p:Name) (off len:Nat)
 | bx (p:Name) (c:Nat)
 | el (p:Name) (i c:Nat)
 | mp (p:Name)
 | it (p:Name)
 | agg (cs:List AV)
 | tup (vs:List AV)
 | clo (f:Nat) (caps:List AV)
 deriving Inhabited
inductive Ob where
 | arrT (ty:Option Nat) (w:W) (xs:List D)
 | boxT (ty:Option Nat) (cs:List AV)
 | map (es:List (D × D))
 | siter (s:List UInt8) (pos:Nat)
 | miter (m:D) (cur:Option (D × D)) (todo:List (D × D))
 deriving Inhabited
def D.cells:D→List D
 | .agg cs=>cs
 | d=>[d]
def D.scal:D→Bool
 | .agg _=>false
 | _=>true
def okW:W→D→Prop
 | none,d=>d.scal=true
 | some n,.agg cs=>cs.length=n∧∀ d∈cs,d.scal=true
 | some _,_=>False
@[reducible] def Ob.box (cs:List AV):Ob:=.boxT none cs
@[reducible] def Ob.arr (w:W) (xs:List D):Ob:=.arrT none w xs
structure Blk where
 b:Nat
 o:Nat
 z:Nat
section
variable (H:Array Obj) (own:Nat→Prop)
inductive Rep:Value→D→Prop
 | int (k n):Rep (.int k n) (.int k n)
 | bool (b):Rep (.bool b) (.bool b)
 | str (l:List UInt8):Rep (.string ⟨l.toArray⟩) (.str l)
 | nilp:Rep (.pointer none) .nilp
 | nils:Rep (.slice none 0 0) .nils
 | nilm:Rep (.map none) .nilm
 | nilf:Rep .nilFunc .nilf
 | nili:Rep .nilIface .nili
 | unk (v) (h:v.oneCell'=true):Rep v .unk
 | yl (l:Nat):Rep (.func (.yield l) #[] #[]) (.yl l)
 | agg (vs:Array Value) (cs:List D) (hs:vs.size=cs.length) (hc:∀ d∈cs,d.scal=true)
  (h:∀ i d,cs[i]?=some d→Rep (vs.getD i undef) d):Rep (.agg vs) (.agg cs)
 | sl0 (a cap w):Rep (.slice a 0 cap) (.sl w [])
 | sl (b o cap:Nat) (c:Array Value) (e:TypeId) (fz:Nat × Nat) (w:W) (xs:List D) (hb:H[b]?=some (.cells c e fz)) (hn:¬ own b)
  (hcap:xs.length≤cap) (hz:o+xs.length*wd w≤c.size) (hw:∀ x∈xs,okW w x)
  (h:∀ i x j d,xs[i]?=some x→x.cells[j]?=some d→Rep (c.getD (o+i*wd w+j) undef) d) :
  Rep (.slice (some ⟨b,o,none⟩) xs.length cap) (.sl w xs)
 | slx (v:Value) (w:W) (xs:List D) (h:Rep v (.sl w xs)) (hc:∃ a,v=.slice a xs.length xs.length):Rep v (.slx w xs)
 | ptr (b o:Nat) (c:Array Value) (e:TypeId) (fz:Nat × Nat) (d:D) (hb:H[b]?=some (.cells c e fz)) (hn:¬ own b)
  (hz:o+d.cells.length≤c.size) (hsc:∀ x∈d.cells,x.scal=true) (h:∀ j x,d.cells[j]?=some x→Rep (c.getD (o+j) undef) x) :
  Rep (.pointer (some ⟨b,o,none⟩)) (.ptr d)
 | clo (f:Nat) (vs:Array Value) (cs:List D) (hs:vs.size=cs.length) (h:∀ i d,cs[i]?=some d→Rep (vs.getD i undef) d) :
  Rep (.func (.func f) #[] vs) (.clo f cs)
 | ifc (t v d) (h:Rep v d):Rep (.iface t v) (.ifc t d)
 | mpd (b clk:Nat) (ents:Array MapEntry) (bs:List Nat) (ks vs:List D) (hb:H[b]?=some (.map ents clk)) (hn:¬ own b) (hs:ents.size=ks.length∧ks.length=vs.length) (hbs:ents.toList.map (·.born)=bs)
  (hk:∀ i d,ks[i]?=some d→Rep (ents.getD i default).key d) (hv:∀ i d,vs[i]?=some d→Rep (ents.getD i default).val d):Rep (.map (some b)) (.mpd clk bs ks vs)
variable (used:List Nat) (hp:Name→Option Ob) (β:Name→Option Blk)
def nm (used:List Nat) (p:Name):Prop:=∃ h t,p=h::t∧h∈used
inductive VR:Value→AV→Prop
 | un (v):VR v .un
 | d (v x) (h:Rep H own v x):VR v (.d x)
 | vw (v p off len) (hu:nm used p) (h1:v.oneCell'=true)
  (h:∀ ty w xs,hp p=some (.arrT ty w xs)→off+len≤xs.length∧∃ a cap,v=.slice a len cap ∧
   (len=0∧cap=0∨∃ k,β p=some k∧a=some ⟨k.b,k.o+off*wd w,none⟩∧len≤cap∧k.o+(off+cap)*wd w≤k.z)):VR v (.vw p off len)
 | bx (v p c) (hu:nm used p) (h1:v.oneCell'=true) (h:∀ ty cs,hp p=some (.boxT ty cs)→∃ k,β p=some k∧k.o=0∧v=.pointer (some ⟨k.b,c,none⟩)):VR v (.bx p c)
 | el (v p i c) (hu:nm used p) (h1:v.oneCell'=true) (h:∀ ty w xs,hp p=some (.arrT ty w xs)→i<xs.length∧∃ k,β p=some k∧v=.pointer (some ⟨k.b,k.o+i*wd w+c,none⟩)):VR v (.el p i c)
 | mp (v p) (hu:nm used p) (h1:v.oneCell'=true) (h:∀ es,hp p=some (.map es)→∃ k,β p=some k∧v=.map (some k.b)):VR v (.mp p)
 | its (v p) (hu:nm used p) (h1:v.oneCell'=true) (h:∀ s i,hp p=some (.siter s i)→∃ k,β p=some k∧v=.pointer (some ⟨k.b,0,none⟩))
  (h':∀ m c i,hp p=some (.miter m c i)→∃ k,β p=some k∧v=.pointer (some ⟨k.b,0,none⟩)):VR v (.it p)
 | agg (vs:Array Value) (cs:List AV) (hs:vs.size=cs.length) (hc:∀ v∈vs,v.oneCell'=true) (h:∀ i x,cs[i]?=some x→VR (vs.getD i undef) x):VR (.agg vs) (.agg cs)
 | tup (vs:Array Value) (cs:List AV) (hs:vs.size=cs.length) (h:∀ i x,cs[i]?=some x→VR (vs.getD i undef) x):VR (.tuple vs) (.tup cs)
 | clo (f:Nat) (vs:Array Value) (cs:List AV) (hs:vs.size=cs.length) (h:∀ i x,cs[i]?=some x→VR (vs.getD i undef) x):VR (.func (.func f) #[] vs) (.clo f cs)
def Borns (ents:Array MapEntry) (clock:Nat):Prop:=(ents.toList.map (·.born)).Nodup∧∀ e∈ents.toList,e.born<clock
def MIt (m:D) (since:Nat) (seen:Array Nat) (last:Nat) (cur:Option (D × D)) (todo:List (D × D)):Prop :=
 ∃ clk bs ks vs,m=.mpd clk bs ks vs∧bs.length=ks.length∧ks.length=vs.length∧bs.Nodup∧(∀ x∈bs,x<since)∧(since≤last∧since≤clk) ∧
  todo=((bs.zip (ks.zip vs)).filter fun q=>!seen.contains q.1).map (·.2)∧∀ x,cur=some x→last=clk∧∃ st,seen.back?=some st∧(st,x)∈bs.zip (ks.zip vs)
def OR (p:Name):Ob→Prop
 | .arrT ty w xs=>(β p=none∧xs=[])∨∃ k c e,β p=some k∧H[k.b]?=some (.cells c (ty.getD e) (0,0))∧c.size=k.z∧k.o+xs.length*wd w≤k.z∧(∀ x∈xs,okW w x) ∧
  ∀ i x j d,xs[i]?=some x→x.cells[j]?=some d→Rep H own (c.getD (k.o+i*wd w+j) undef) d
 | .boxT ty cs=>∃ k c e,β p=some k∧k.o=0∧H[k.b]?=some (.cells c (ty.getD e) (0,0))∧c.size=k.z∧c.size=cs.length∧(∀ v∈c,v.oneCell'=true) ∧
  ∀ j x,cs[j]?=some x→VR H own used hp β (c.getD j undef) x
 | .map es=>∃ k ents clock,β p=some k∧H[k.b]?=some (.map ents clock)∧(ents.size=es.length∧Borns ents clock) ∧
  ∀ (i:Nat) (x:D × D),es[i]?=some x→∃ en:MapEntry,ents[i]?=some en∧Rep H own en.key x.1∧Rep H own en.val x.2
 | .siter s pos=>∃ k,β p=some k∧H[k.b]?=some (.stringIter ⟨s.toArray⟩ pos)
 | .miter m cur todo=>∃ k b since seen last,β p=some k∧H[k.b]?=some (.mapIter (some b) since seen last)∧Rep H own (.map (some b)) m∧MIt m since seen last cur todo
end
structure St where
 fr:Nat→AV
 hp:Name→Option Ob
 used:List Nat
def St.own (s:St) (A:Nat→Prop) (β:Name→Option Blk) (b:Nat):Prop:=A b∨∃ p k,s.hp p≠none∧β p=some k∧k.b=b
def wio (w:World):Os × Array (Nat × ByteArray):=(w.os,w.output)
structure Base where
 n:Nat
 io:Os × Array (Nat × ByteArray)
 G:List (Nat × Obj)
 H0:Array Obj
 O0:Nat→Prop
 A:Nat→Prop
 U0:List Nat
 β0:Name→Option Blk
 hA:∀ b,A b→b<H0.size
 hG:∀ q∈G,H0[q.1]?=some q.2∧¬ O0 q.1
structure Sim (B:Base) (β:Name→Option Blk) (s:St) (tm:Array Value) (w:World):Prop where
 tms:tm.size=B.n
 io:wio w=B.io
 size:B.H0.size≤w.heap.size
 frame:∀ b,b<B.H0.size→¬ B.O0 b→w.heap[b]?=B.H0[b]?
 slots:∀ t,VR w.heap (s.own B.A β) s.used s.hp β (tm.getD t undef) (s.fr t)
 objs:∀ p o,s.hp p=some o→nm s.used p∧OR w.heap (s.own B.A β) s.used s.hp β p o
 blocks:∀ p k,s.hp p≠none→β p=some k→k.b<w.heap.size∧¬ B.A k.b∧(B.H0.size≤k.b∨B.O0 k.b)
 inj:∀ p q k l,s.hp p≠none→s.hp q≠none→β p=some k→β q=some l→k.b=l.b→p=q
 us:∀ x∈B.U0,x∈s.used
 stay:∀ p,nm B.U0 p→β p=B.β0 p
end Go.Ab
namespace Go.Ab
theorem al {α:Type} {a:Array α} {i:Nat} {x:α} (h:a[i]?=some x):i<a.size:=(Array.getElem?_eq_some_iff.1 h).1
theorem Rep.mono {H H':Array Obj} {own own':Nat→Prop} (hH:∀ b,¬ own b→b<H.size→H'[b]?=H[b]?) (ho:∀ b,b<H.size→own' b→own b)
  {v:Value} {d:D} (h:Rep H own v d):Rep H' own' v d:=by
 induction h with
 | int k n=>exact .int k n
 | bool b=>exact .bool b
 | str l=>exact .str l
 | nilp=>exact .nilp
 | nils=>exact .nils
 | nilm=>exact .nilm
 | nilf=>exact .nilf
 | nili=>exact .nili
 | unk v h=>exact .unk v h
 | yl l=>exact .yl l
 | agg vs cs hs hc _ ih=>exact .agg vs cs hs hc ih
 | sl0 a cap w=>exact .sl0 a cap w
 | sl b o cap c e fz w xs hb hn hcap hz hw _ ih=>exact .sl b o cap c e fz w xs ((hH b hn (al hb)).trans hb) (fun h=>hn (ho b (al hb) h)) hcap hz hw ih
 | slx v w xs _ hc ih=>exact .slx v w xs ih hc
 | ptr b o c e fz d hb hn hz hsc _ ih=>exact .ptr b o c e fz d ((hH b hn (al hb)).trans hb) (fun h=>hn (ho b (al hb) h)) hz hsc ih
 | clo f vs cs hs _ ih=>exact .clo f vs cs hs ih
 | ifc t v d _ ih=>exact .ifc t v d ih
 | mpd b clk ents bs ks vs hb hn hs hbs _ _ ih1 ih2=>exact .mpd b clk ents bs ks vs ((hH b hn (al hb)).trans hb) (fun h=>hn (ho b (al hb) h)) hs hbs ih1 ih2
theorem Rep.lH {H:Array Obj} {own:Nat→Prop} {v:Value} {d:D} (h:Rep H own v d) (hd:d.scal=true):v.oneCell'=true:=by
 cases h<;>first | rfl | assumption | (rename_i hc;obtain ⟨a,rfl⟩:=hc;rfl) | simp [D.scal] at hd
def Ob.like:Ob→Ob→Prop
 | .arrT a w xs,.arrT b w' xs'=>(a=b∧w=w')∧xs.length≤xs'.length
 | .boxT a _,.boxT b _=>a=b
 | .map _,.map _=>True
 | .siter _ _,.siter _ _=>True
 | .miter _ _ _,.miter _ _ _=>True
 | _,_=>False
theorem Ob.bE (o:Ob):o.like o:=by cases o<;>simp [Ob.like]
def Stays (hp hp':Name→Option Ob) (β β':Name→Option Blk) (p:Name):Prop:=∀ o',hp' p=some o'→∃ o,hp p=some o∧o.like o'∧β' p=β p
section
variable {H H':Array Obj} {own own':Nat→Prop} {used used':List Nat} {hp hp':Name→Option Ob} {β β':Name→Option Blk}
theorem nm.mono {p:Name} (hu:∀ x∈used,x∈used') (h:nm used p):nm used' p:=let ⟨a,t,e,m⟩:=h;⟨a,t,e,hu a m⟩
theorem VR.mono (hr:∀ v d,Rep H own v d→Rep H' own' v d) (hu:∀ x∈used,x∈used') (hst:∀ p,nm used p→Stays hp hp' β β' p)
  {v:Value} {x:AV} (h:VR H own used hp β v x):VR H' own' used' hp' β' v x:=by
 induction h with
 | un v=>exact .un v
 | d v x h=>exact .d v x (hr v x h)
 | vw v p off len hn h1 h =>
   refine .vw v p off len (hn.mono hu) h1 fun ty w xs hx=>?_
   obtain ⟨o,ho,hl,hb⟩:=hst p hn _ hx
   cases o<;>simp [Ob.like] at hl
   obtain ⟨⟨rfl,rfl⟩,hle⟩:=hl
   obtain ⟨h1,a,cap,rfl,h2⟩:=h _ _ _ ho
   exact ⟨by omega,a,cap,rfl,by rw [hb];exact h2⟩
 | bx v p c hn h1 h =>
   refine .bx v p c (hn.mono hu) h1 fun ty cs hx=>?_
   obtain ⟨o,ho,hl,hb⟩:=hst p hn _ hx
   cases o<;>simp [Ob.like] at hl
   rw [hb];exact h _ _ ho
 | el v p i c hn h1 h =>
   refine .el v p i c (hn.mono hu) h1 fun ty w xs hx=>?_
   obtain ⟨o,ho,hl,hb⟩:=hst p hn _ hx
   cases o<;>simp [Ob.like] at hl
   obtain ⟨⟨rfl,rfl⟩,hle⟩:=hl
   obtain ⟨h1,h2⟩:=h _ _ _ ho
   exact ⟨by omega,by rw [hb];exact h2⟩
 | mp v p hn h1 h =>
   refine .mp v p (hn.mono hu) h1 fun es hx=>?_
   obtain ⟨o,ho,hl,hb⟩:=hst p hn _ hx
   cases o<;>simp [Ob.like] at hl
   rw [hb];exact h _ ho
 | its v p hn h1 h h' =>
   refine .its v p (hn.mono hu) h1 (fun s i hx=>?_) (fun m c i hx=>?_)
   ·obtain ⟨o,ho,hl,hb⟩:=hst p hn _ hx
    cases o<;>simp [Ob.like] at hl
    rw [hb];exact h _ _ ho
   ·obtain ⟨o,ho,hl,hb⟩:=hst p hn _ hx
    cases o<;>simp [Ob.like] at hl
    rw [hb];exact h' _ _ _ ho
 | agg vs cs hs hc _ ih=>exact .agg vs cs hs hc ih
 | tup vs cs hs _ ih=>exact .tup vs cs hs ih
 | clo f vs cs hs _ ih=>exact .clo f vs cs hs ih
theorem OR.mono (hr:∀ v d,Rep H own v d→Rep H' own' v d) (hu:∀ x∈used,x∈used') (hst:∀ p,nm used p→Stays hp hp' β β' p)
  {p:Name} {o:Ob} (hb:β' p=β p) (hH:∀ k,β p=some k→H'[k.b]?=H[k.b]?) (h:OR H own used hp β p o):OR H' own' used' hp' β' p o:=by
 cases o with
 | arrT ty w xs =>
   rcases h with ⟨h1,h2⟩ | ⟨k,c,e,hk,hc,hz,hl,hw,h⟩
   ·exact .inl ⟨hb.trans h1,h2⟩
   ·exact .inr ⟨k,c,e,hb.trans hk,(hH k hk).trans hc,hz,hl,hw,fun i x j d hi hj=>hr _ _ (h i x j d hi hj)⟩
 | boxT ty cs =>
   obtain ⟨k,c,e,hk,ho,hc,hz,hl,h1,h⟩:=h
   exact ⟨k,c,e,hb.trans hk,ho,(hH k hk).trans hc,hz,hl,h1,fun j x hj=>(h j x hj).mono hr hu hst⟩
 | map es =>
   obtain ⟨k,ents,clock,hk,hc,hz,h⟩:=h
   refine ⟨k,ents,clock,hb.trans hk,(hH k hk).trans hc,hz,fun i x hi=>?_⟩
   obtain ⟨en,h1,h2,h3⟩:=h i x hi
   exact ⟨en,h1,hr _ _ h2,hr _ _ h3⟩
 | siter s pos =>
   obtain ⟨k,hk,hc⟩:=h
   exact ⟨k,hb.trans hk,(hH k hk).trans hc⟩
 | miter _ _ _ =>
   obtain ⟨k,b,since,seen,last,hk,hc,hm,hi⟩:=h
   exact ⟨k,b,since,seen,last,hb.trans hk,(hH k hk).trans hc,hr _ _ hm,hi⟩
end
def de {α:Type} (f:Nat→α) (i:Nat) (v:α):Nat→α:=fun j=>if j=i then v else f j
def au {α:Type} (f:Name→α) (i:Name) (v:α):Name→α:=fun j=>if j=i then v else f j
def St.put (s:St) (t:Nat) (v:AV):St:={ s with fr:=de s.fr t v }
def St.set (s:St) (p:Name) (o:Option Ob):St:={ s with hp:=au s.hp p o }
def St.add (s:St) (t:Nat) (o:Ob):St:={ s with hp:=au s.hp [t] (some o),used:=t::s.used }
section
variable {B:Base} {β:Name→Option Blk} {s:St} {tm:Array Value} {w:World}
theorem Sim.put (h:Sim B β s tm w) {t:Nat} (ht:t<B.n) {v:Value} {x:AV} (hv:VR w.heap (s.own B.A β) s.used s.hp β v x) :
  Sim B β (s.put t x) (tm.setIfInBounds t v) w:=by
 refine { h with tms:=by simpa using h.tms,slots:=fun i=>?_ }
 show VR w.heap (s.own B.A β) s.used s.hp β _ (de s.fr t x i)
 unfold de
 by_cases hi:i=t
 ·subst hi
  rw [if_pos rfl]
  have:i<tm.size:=by rw [h.tms];exact ht
  simpa [Array.getD_eq_getD_getElem?,this] using hv
 ·rw [if_neg hi]
  have:=h.slots i
  rw [show (tm.setIfInBounds t v).getD i undef=tm.getD i undef from by simp [Array.getD_eq_getD_getElem?,Ne.symm hi]]
  exact this
theorem Sim.jR (h:Sim B β s tm w) {w':World} (e:w'.heap=w.heap) (e2:wio w'=wio w):Sim B β s tm w' :=
 { tms:=h.tms,io:=e2.trans h.io,size:=by rw [e];exact h.size,frame:=by rw [e];exact h.frame,slots:=by rw [e];exact h.slots,objs:=by rw [e];exact h.objs,blocks:=by rw [e];exact h.blocks,inj:=h.inj,us:=h.us,stay:=h.stay }
theorem Sim.qb (h:Sim B β s tm w) {b:Nat} (hb:s.own B.A β b):b<w.heap.size:=by
 rcases hb with hb | ⟨p,k,hp,hk,rfl⟩
 ·exact Nat.lt_of_lt_of_le (B.hA b hb) h.size
 ·exact (h.blocks p k hp hk).1
theorem Sim.alloc (h:Sim B β s tm w) {t:Nat} (ht:t ∉ s.used) (o:Obj) (ob:Ob) (z:Nat)
  (hO:∀ β':Name→Option Blk,β' [t]=some ⟨w.heap.size,0,z⟩→(∀ v x,VR w.heap (s.own B.A β) s.used s.hp β v x→VR (w.alloc o).heap ((s.add t ob).own B.A β') (t::s.used) (s.add t ob).hp β' v x) →
   OR (w.alloc o).heap ((s.add t ob).own B.A β') (t::s.used) (s.add t ob).hp β' [t] ob) :
  Sim B (au β [t] (some ⟨w.heap.size,0,z⟩)) (s.add t ob) tm (w.alloc o) ∧
   ∀ v x,VR w.heap (s.own B.A β) s.used s.hp β v x→VR (w.alloc o).heap ((s.add t ob).own B.A (au β [t] (some ⟨w.heap.size,0,z⟩))) (t::s.used) (s.add t ob).hp (au β [t] (some ⟨w.heap.size,0,z⟩)) v x:=by
 obtain ⟨β',hβ'⟩:∃ β',au β [t] (some ⟨w.heap.size,0,z⟩)=β':=⟨_,rfl⟩
 have hnew:β' [t]=some ⟨w.heap.size,0,z⟩:=by rw [← hβ'];simp [au]
 have hold:∀ p,p≠[t]→β' p=β p:=fun p hp=>by rw [← hβ'];simp [au,hp]
 have hhp:∀ p,p≠[t]→(s.add t ob).hp p=s.hp p:=fun p hp=>by simp [St.add,au,hp]
 have hnm:∀ p,nm s.used p→p≠[t]:=by
  rintro p ⟨a,l,rfl,ha⟩ e
  simp at e
  exact ht (e.1 ▸ ha)
 have hown:∀ b,b<w.heap.size→(s.add t ob).own B.A β' b→s.own B.A β b:=by
  rintro b hb (hA | ⟨p,k,hp,hk,rfl⟩)
  ·exact .inl hA
  ·by_cases e:p=[t]
   ·subst e
    rw [hnew] at hk;cases hk
    exact absurd hb (Nat.lt_irrefl _)
   ·rw [hold p e] at hk;rw [hhp p e] at hp
    exact .inr ⟨p,k,hp,hk,rfl⟩
 have hr:∀ v d,Rep w.heap (s.own B.A β) v d→Rep (w.alloc o).heap ((s.add t ob).own B.A β') v d :=
  fun v d hd=>hd.mono (fun b _ hb=>heap_alloc_old w o b hb) hown
 have hst:∀ p,nm s.used p→Stays s.hp (s.add t ob).hp β β' p:=fun p hp o' ho' =>
  ⟨o',by rwa [hhp p (hnm p hp)] at ho',Ob.bE _,hold p (hnm p hp)⟩
 have hv:∀ v x,VR w.heap (s.own B.A β) s.used s.hp β v x→VR (w.alloc o).heap ((s.add t ob).own B.A β') (t::s.used) (s.add t ob).hp β' v x :=
  fun v x hx=>hx.mono hr (fun y hy=>List.mem_cons_of_mem _ hy) hst
 rw [hβ']
 refine ⟨{ tms:=h.tms,io:=h.io,size:=by simp;exact Nat.le_succ_of_le h.size,frame:=?_,slots:=fun i=>hv _ _ (h.slots i),objs:=?_,blocks:=?_,inj:=?_,us:=fun x hx=>List.mem_cons_of_mem _ (h.us x hx), stay:=fun p hp=>(hold p (hnm p (hp.mono h.us))).trans (h.stay p hp) },hv⟩
 ·intro b hb hn
  rw [heap_alloc_old w o b (Nat.lt_of_lt_of_le hb h.size)]
  exact h.frame b hb hn
 ·intro p o' ho'
  by_cases e:p=[t]
  ·subst e
   have:o'=ob:=by simpa [St.add,au] using ho'.symm
   subst this
   exact ⟨⟨t,[],rfl,List.mem_cons_self⟩,hO β' hnew hv⟩
  ·rw [hhp p e] at ho'
   obtain ⟨h1,h2⟩:=h.objs p o' ho'
   refine ⟨h1.mono fun y hy=>List.mem_cons_of_mem _ hy,h2.mono hr (fun y hy=>List.mem_cons_of_mem _ hy) hst (hold p e) fun k hk=>?_⟩
   exact heap_alloc_old w o k.b (h.blocks p k (by rw [ho'];simp) hk).1
 ·intro p k hp hk
  by_cases e:p=[t]
  ·subst e
   rw [hnew] at hk;cases hk
   refine ⟨by simp,fun hA=>absurd (Nat.lt_of_lt_of_le (B.hA _ hA) h.size) (Nat.lt_irrefl _),.inl h.size⟩
  ·rw [hold p e] at hk;rw [hhp p e] at hp
   obtain ⟨h1,h2⟩:=h.blocks p k hp hk
   exact ⟨by simp;omega,h2⟩
 ·intro p q k l hp hq hk hl e
  by_cases ep:p=[t]<;>by_cases eq:q=[t]
  ·rw [ep,eq]
  ·subst ep
   rw [hnew] at hk;cases hk
   rw [hold q eq] at hl;rw [hhp q eq] at hq
   have:=(h.blocks q l hq hl).1
   simp at e;omega
  ·subst eq
   rw [hnew] at hl;cases hl
   rw [hold p ep] at hk;rw [hhp p ep] at hp
   have:=(h.blocks p k hp hk).1
   simp at e;omega
  ·rw [hold p ep] at hk;rw [hhp p ep] at hp;rw [hold q eq] at hl;rw [hhp q eq] at hq
   exact h.inj p q k l hp hq hk hl e
theorem Sim.modify (h:Sim B β s tm w) {p:Name} {ob ob':Ob} (hp:s.hp p=some ob) (hl:ob.like ob') {w':World} (hio:wio w'=wio w) (hsz:w'.heap.size=w.heap.size)
  (hw:∀ b,(∀ k,β p=some k→b≠k.b)→w'.heap[b]?=w.heap[b]?)
  (hO:(∀ v x,VR w.heap (s.own B.A β) s.used s.hp β v x→VR w'.heap ((s.set p (some ob')).own B.A β) s.used (s.set p (some ob')).hp β v x) →
   (∀ v d,Rep w.heap (s.own B.A β) v d→Rep w'.heap ((s.set p (some ob')).own B.A β) v d) →
   OR w'.heap ((s.set p (some ob')).own B.A β) s.used (s.set p (some ob')).hp β p ob') :
  Sim B β (s.set p (some ob')) tm w' ∧
   (∀ v x,VR w.heap (s.own B.A β) s.used s.hp β v x→VR w'.heap ((s.set p (some ob')).own B.A β) s.used (s.set p (some ob')).hp β v x):=by
 have hne:∀ q,(s.set p (some ob')).hp q≠none↔s.hp q≠none:=by
  intro q
  by_cases e:q=p
  ·subst e;simp [St.set,au,hp]
  ·simp [St.set,au,e]
 have hown:(s.set p (some ob')).own B.A β=s.own B.A β:=by
  funext b
  refine propext (or_congr_right ⟨?_,?_⟩)
  ·rintro ⟨q,k,hq,hk,e⟩;exact ⟨q,k,(hne q).1 hq,hk,e⟩
  ·rintro ⟨q,k,hq,hk,e⟩;exact ⟨q,k,(hne q).2 hq,hk,e⟩
 rw [hown] at hO ⊢
 have hmine:∀ b,¬ s.own B.A β b→w'.heap[b]?=w.heap[b]?:=fun b hb=>hw b fun k hk e=>hb (.inr ⟨p,k,by rw [hp];simp,hk,e.symm⟩)
 have hr:∀ v d,Rep w.heap (s.own B.A β) v d→Rep w'.heap (s.own B.A β) v d:=fun v d hd=>hd.mono (fun b hb _=>hmine b hb) (fun _ _ h=>h)
 have hst:∀ q,nm s.used q→Stays s.hp (s.set p (some ob')).hp β β q:=by
  intro q _ o' ho'
  by_cases e:q=p
  ·subst e
   have:o'=ob':=by simpa [St.set,au] using ho'.symm
   subst this
   exact ⟨ob,hp,hl,rfl⟩
  ·exact ⟨o',by simpa [St.set,au,e] using ho',Ob.bE _,rfl⟩
 have hv:∀ v x,VR w.heap (s.own B.A β) s.used s.hp β v x→VR w'.heap (s.own B.A β) s.used (s.set p (some ob')).hp β v x:=fun v x hx=>hx.mono hr (fun _ h=>h) hst
 refine ⟨{ tms:=h.tms,io:=hio.trans h.io,size:=by rw [hsz];exact h.size,frame:=?_,slots:=?_,objs:=?_,blocks:=?_,inj:=?_,us:=h.us,stay:=h.stay },hv⟩
 ·intro b hb hn
  rw [hw b ?_]
  ·exact h.frame b hb hn
  ·intro k hk e
   obtain ⟨_,_,h3⟩:=h.blocks p k (by rw [hp];simp) hk
   rcases h3 with h3 | h3
   ·omega
   ·exact hn (e ▸ h3)
 ·intro i
  rw [hown]
  exact hv _ _ (h.slots i)
 ·intro q o' ho'
  rw [hown]
  by_cases e:q=p
  ·subst e
   have:o'=ob':=by simpa [St.set,au] using ho'.symm
   subst this
   exact ⟨(h.objs q ob hp).1,hO hv hr⟩
  ·have ho:s.hp q=some o':=by simpa [St.set,au,e] using ho'
   obtain ⟨h1,h2⟩:=h.objs q o' ho
   refine ⟨h1,h2.mono hr (fun _ h=>h) hst rfl fun k hk=>hw k.b fun l hl' e'=>?_⟩
   exact e (h.inj q p k l (by rw [ho];simp) (by rw [hp];simp) hk hl' e')
 ·intro q k hq hk
  rw [hsz]
  exact h.blocks q k ((hne q).1 hq) hk
 ·intro q q' k l hq hq' hk hl' e
  exact h.inj q q' k l ((hne q).1 hq) ((hne q').1 hq') hk hl' e
theorem Sim.drop (h:Sim B β s tm w) (p:Name):Sim B β (s.set p none) tm w:=by
 have hsub:∀ q o,(s.set p none).hp q=some o→s.hp q=some o:=by
  intro q o ho
  by_cases e:q=p
  ·subst e;simp [St.set,au] at ho
  ·simpa [St.set,au,e] using ho
 have hne:∀ q,(s.set p none).hp q≠none→s.hp q≠none:=by
  intro q hq e
  cases ho:(s.set p none).hp q with
  | none=>exact hq ho
  | some o=>rw [hsub q o ho] at e;cases e
 have hr:∀ v d,Rep w.heap (s.own B.A β) v d→Rep w.heap ((s.set p none).own B.A β) v d:=fun v d hd=>hd.mono (fun _ _ _=>rfl) (by
  rintro b _ (hA | ⟨q,k,hq,hk,e⟩)
  ·exact .inl hA
  ·exact .inr ⟨q,k,hne q hq,hk,e⟩)
 have hst:∀ q,nm s.used q→Stays s.hp (s.set p none).hp β β q:=fun q _ o' ho'=>⟨o',hsub q o' ho',Ob.bE _,rfl⟩
 refine { tms:=h.tms,io:=h.io,size:=h.size,frame:=h.frame,slots:=fun i=>(h.slots i).mono hr (fun _ h=>h) hst,objs:=?_,blocks:=fun q k hq hk=>h.blocks q k (hne q hq) hk, inj:=fun q q' k l hq hq' hk hl e=>h.inj q q' k l (hne q hq) (hne q' hq') hk hl e,us:=h.us,stay:=h.stay }
 intro q o ho
 obtain ⟨h1,h2⟩:=h.objs q o (hsub q o ho)
 exact ⟨h1,h2.mono hr (fun _ h=>h) hst rfl fun _ _=>rfl⟩
theorem Sim.un (h:Sim B β s tm w) (t:Nat):Sim B β (s.put t .un) tm w:=by
 refine { h with slots:=fun i=>?_ }
 show VR w.heap (s.own B.A β) s.used s.hp β _ (de s.fr t .un i)
 unfold de
 split
 ·exact .un _
 ·exact h.slots i
end
end Go.Ab
namespace Go.Ab
inductive TK where
 | bad | oth | bool | int (k:IntKind) | str | ptr (e:Nat) | slice (e:Nat) | arr (n e:Nat) | map (k e:Nat) | struct (fs:List (Nat × Nat)) | func | ifc
structure TI where
 k:TK
 sz:Nat
 by':Nat
 z:Option (List D)
def zd:Value→Option D
 | .int k n=>some (.int k n)
 | .bool b=>some (.bool b)
 | .string s=>some (.str s.data.toList)
 | .pointer none=>some .nilp
 | .slice none 0 0=>some .nils
 | .map none=>some .nilm
 | .nilFunc=>some .nilf
 | .nilIface=>some .nili
 | _=>none
def tk:TypeDesc→TK
 | .bool=>.bool
 | .int k=>.int k
 | .string=>.str
 | .pointer e=>.ptr e
 | .slice e=>.slice e
 | .array n e=>.arr n e
 | .map k e=>.map k e
 | .struct fs=>.struct (fs.toList.map fun f=>(f.offset,f.type))
 | .func _ _ _=>.func
 | .interface _=>.ifc
 | _=>.oth
def TK.agg:TK→Bool
 | .struct _=>true
 | .arr _ _=>true
 | _=>false
def TK.aV:TK→Bool
 | .bad=>true
 | _=>false
end Go.Ab
open Go.Ab in
def Go.Program.ti (P:Program) (t:Nat):TI :=
 match P.info? t,P.underlying t with
 | some i,some d=>{ k:=tk d,sz:=i.size,by':=i.bytes,z:=i.zero.bind fun v=>v.cells.toList.mapM zd }
 | _,_=>{ k:=.bad,sz:=0,by':=0,z:=none }
namespace Go.Ab
def TI.w (i:TI):W:=if i.k.agg then some i.sz else none
def TI.zero (i:TI):Option D:=i.z.bind fun cs=>if i.k.agg then some (.agg cs) else match cs with | [d]=>some d | _=>none
def TI.isW (i:TI) (w:W):Bool:=!i.k.aV && match w with
 | none=>!i.k.agg && i.sz == 1
 | some n=>i.k.agg && i.sz == n
def cv:Value→AV
 | .int k n=>.d (.int k n)
 | .bool b=>.d (.bool b)
 | .string s=>.d (.str s.data.toList)
 | .pointer none=>.d .nilp
 | .slice none 0 0=>.d .nils
 | .map none=>.d .nilm
 | .nilFunc=>.d .nilf
 | .nilIface=>.d .nili
 | _=>.un
def ev (s:St):Operand→AV
 | .tmp t=>s.fr t
 | .const v=>cv v
 | .global _=>.un
 | .func f=>.clo f []
def iF:List AV→Option (List D)
 | []=>some []
 | .d x::r=>(iF r).map (x::·)
 | _::_=>none
def eS (cs:List AV):AV :=
 match iF cs with
 | some ds=>.d (.agg ds)
 | none=>.agg cs
def cellsD:D→Option (List AV)
 | .agg ds=>some (ds.map .d)
 | .int k n=>some [.d (.int k n)]
 | .bool b=>some [.d (.bool b)]
 | .str s=>some [.d (.str s)]
 | .nilp=>some [.d .nilp]
 | .nils=>some [.d .nils]
 | .nilm=>some [.d .nilm]
 | .nilf=>some [.d .nilf]
 | .nili=>some [.d .nili]
 | .unk=>some [.d .unk]
 | .sl w xs=>some [.d (.sl w xs)]
 | .slx w xs=>some [.d (.slx w xs)]
 | .ptr d=>some [.d (.ptr d)]
 | .clo f c=>some [.d (.clo f c)]
 | .ifc t d=>some [.d (.ifc t d)]
 | .mpd c b k v=>some [.d (.mpd c b k v)]
 | .yl l=>some [.d (.yl l)]
def cg:AV→Option (List AV)
 | .d x=>cellsD x
 | .agg cs=>some cs
 | .vw p o l=>some [.vw p o l]
 | .bx p c=>some [.bx p c]
 | .el p i c=>some [.el p i c]
 | .mp p=>some [.mp p]
 | .it p=>some [.it p]
 | .clo f c=>some [.clo f c]
 | .un=>none
 | .tup _=>none
def splice {α:Type} (l:List α) (c:Nat) (xs:List α):List α:=l.take c++(xs++l.drop (c+xs.length))
inductive R (α:Type):Type 1 where
 | ok (a:α)
 | need (p:Prop) (r:R α)
 | no
def R.bind {α β:Type}:R α→(α→R β)→R β
 | .ok a,f=>f a
 | .need p r,f=>.need p (r.bind f)
 | .no,_=>.no
def R.ofO {α:Type}:Option α→R α
 | some a=>.ok a
 | none=>.no
def gD (i:TI) (d:D) (c:Nat):Option D :=
 if i.k.aV then none else match d with
 | .agg cs=>if i.k.agg then (if c+i.sz≤cs.length then some (.agg ((cs.drop c).take i.sz)) else none) else cs[c]?
 | d=>if i.k.agg then none else if c=0 then some d else none
def mW (i:TI) (cs:List AV) (c:Nat):R AV :=
 if i.k.aV then .no else if i.k.agg then (if c+i.sz≤cs.length then .ok (eS ((cs.drop c).take i.sz)) else .no) else R.ofO cs[c]?
def iM (i:TI) (hp:Name→Option Ob):AV→R AV
 | .bx p c=>match hp p with
   | some (.boxT _ cs)=>mW i cs c
   | _=>.no
 | .el p j c=>match hp p with
   | some (.arrT none _ xs)=>R.ofO ((gD i (xs.getD j .nilp) c).map .d)
   | _=>.no
 | .d (.ptr d)=>R.ofO ((gD i d 0).map .d)
 | _=>.no
def nT:W→D→Bool
 | none,d=>d.scal
 | some n,.agg cs=>cs.length == n && cs.all D.scal
 | some _,_=>false
def iC (i:TI) (w:W) (xs:List D) (j c:Nat) (y:D):Option (List D) :=
 if i.k.aV then none
 else if i.isW w && nT w y && c == 0 then some (xs.set j y)
 else if i.k.agg then none
 else match xs.getD j .nilp with
  | .agg cs=>if y.scal∧c<cs.length∧i.sz=1 then some (xs.set j (.agg (cs.set c y))) else none
  | _=>none
def gJ (i:TI) (s:St) (x v:AV):R St :=
 match x with
 | .bx p c =>
   match s.hp p with
   | some (.boxT ty cs)=>match cg v with
     | some vs=>if i.k.aV=false∧vs.length=i.sz∧c+i.sz≤cs.length then .ok (s.set p (some (.boxT ty (splice cs c vs)))) else .no
     | none=>.no
   | _=>.no
 | .el p j c =>
   match s.hp p,v with
   | some (.arrT none w xs),.d y=>match iC i w xs j c y with
     | some ys=>.ok (s.set p (some (.arr w ys)))
     | none=>.no
   | _,_=>.no
 | _=>.no
def bW (i:TI) (tf:Nat→TI) (hp:Name→Option Ob) (x:AV) (f:Nat):R AV :=
 match i.k with
 | .struct fs =>
   match fs[f]? with
   | some (o,t) =>
     if (tf t).sz=0 then .no else
      match x with
      | .bx p c=>match hp p with
        | some (.boxT _ _)=>.ok (.bx p (c+o))
        | _=>.no
      | .el p j c=>match hp p with
        | some (.arrT none _ _)=>.ok (.el p j (c+o))
        | _=>.no
      | .d (.ptr (.agg cs))=>R.ofO ((gD (tf t) (.agg cs) o).map fun d=>.d (.ptr d))
      | _=>.no
   | none=>.no
 | _=>.no
def nF (i:TI) (tf:Nat→TI) (x:AV) (f:Nat):R AV :=
 match i.k with
 | .struct fs =>
   match fs[f]? with
   | some (o,t) =>
     match x with
     | .d (.agg cs)=>R.ofO ((gD (tf t) (.agg cs) o).map .d)
     | .agg cs=>mW (tf t) cs o
     | _=>.no
   | none=>.no
 | _=>.no
def bQ (i:TI) (tf:Nat→TI) (hp:Name→Option Ob) (x j:AV):R AV :=
 match i.k,x,j with
 | .slice e,.vw p o l,.d (.int _ n) =>
   match hp p with
   | some (.arrT none w _)=>if (tf e).isW w then .need (0≤n∧n<l) (.ok (.el p (o+n.toNat) 0)) else .no
   | _=>.no
 | .slice e,.d (.sl w xs),.d (.int _ n)=>if (tf e).isW w then .need (0≤n∧n<xs.length) (.ok (.d (.ptr (xs.getD n.toNat .nilp)))) else .no
 | .arr l e,.el p i c,.d (.int _ n) =>
   match hp p with
   | some (.arrT none w xs)=>if (tf e).isW w=true∧c=0∧i+l≤xs.length∧1<l then .need (0≤n∧n<l) (.ok (.el p (i+n.toNat) 0)) else .no
   | _=>.no
 | _,_,_=>.no
def ng (i:TI) (x j:AV):R AV :=
 match i.k,x,j with
 | .str,.d (.str l),.d (.int _ n)=>.need (0≤n∧n<l.length) (.ok (.d (.int .u8 (l.getD n.toNat 0).toNat)))
 | _,_,_=>.no
def loI (n:Int) (x:Option AV):Option Int :=
 match x with
 | none=>some n
 | some (.d (.int _ m))=>some m
 | _=>none
def gU (i:TI) (tf:Nat→TI) (hp:Name→Option Ob) (x:AV) (lo hi:Option AV):R AV :=
 match i.k,x with
 | .str,.d (.str l)=>match loI 0 lo,loI l.length hi with
   | some a,some b=>.need (0≤a∧a≤b∧b≤l.length) (.ok (.d (.str ((l.drop a.toNat).take (b.toNat-a.toNat)))))
   | _,_=>.no
 | .slice e,.d (.sl w xs)=>if (tf e).isW w then match loI 0 lo,loI xs.length hi with
   | some a,some b=>.need (0≤a∧a≤b∧b≤xs.length) (.ok (.d (.sl w ((xs.drop a.toNat).take (b.toNat-a.toNat)))))
   | _,_=>.no
  else .no
 | .slice e,.vw p o n=>match hp p with
   | some (.arrT none w _)=>if (tf e).isW w then match loI 0 lo,loI n hi with
     | some a,some b=>.need (0≤a∧a≤b∧b≤n) (.ok (.vw p (o+a.toNat) (b.toNat-a.toNat)))
     | _,_=>.no
    else .no
   | _=>.no
 | .slice e,.d .nils=>if (tf e).k.aV then .no else match loI 0 lo,loI 0 hi with
   | some a,some b=>.need (a=0∧b=0) (.ok (.d .nils))
   | _,_=>.no
 | .arr l e,.el p i c=>match hp p,lo,hi with
   | some (.arrT none w xs),none,none=>if (tf e).isW w=true∧c=0∧i+l≤xs.length then .ok (.vw p i l) else .no
   | _,_,_=>.no
 | _,_=>.no
def As (op:BinOp) (k:IntKind) (x y:Int):Int :=
 match op with
 | .and=>k.wrap ((BitVec.ofInt k.bits x &&& BitVec.ofInt k.bits y).toNat)
 | .or=>k.wrap ((BitVec.ofInt k.bits x ||| BitVec.ofInt k.bits y).toNat)
 | .xor=>k.wrap ((BitVec.ofInt k.bits x ^^^ BitVec.ofInt k.bits y).toNat)
 | _=>k.wrap ((BitVec.ofInt k.bits x &&& ~~~BitVec.ofInt k.bits y).toNat)
def TK.isBool:TK→Bool
 | .bool=>true
 | _=>false
def En (tk:TK) (op:BinOp) (x y:D):R D :=
 match op,x,y with
 | .and,.int i a,.int j b=>if i=j then .ok (.int i (As .and i a b)) else .no
 | .or,.int i a,.int j b=>if i=j then .ok (.int i (As .or i a b)) else .no
 | .xor,.int i a,.int j b=>if i=j then .ok (.int i (As .xor i a b)) else .no
 | .andNot,.int i a,.int j b=>if i=j then .ok (.int i (As .andNot i a b)) else .no
 | .shl,.int i a,.int _ b=>.need (0≤b) (.ok (.int i (i.wrap (a*2 ^ min b.toNat i.bits))))
 | .shr,.int i a,.int _ b=>.need (0≤b) (.ok (.int i (a.fdiv (2 ^ min b.toNat i.bits))))
 | .eql,.bool a,.bool b=>if tk.isBool then .ok (.bool (a == b)) else .no
 | .neq,.bool a,.bool b=>if tk.isBool then .ok (.bool (!(a == b))) else .no
 | .add,.int i a,.int j b=>if i=j then .ok (.int i (i.wrap (a+b))) else .no
 | .sub,.int i a,.int j b=>if i=j then .ok (.int i (i.wrap (a-b))) else .no
 | .mul,.int i a,.int j b=>if i=j then .ok (.int i (i.wrap (a*b))) else .no
 | .quo,.int i a,.int j b=>if i=j then .need (b≠0) (.ok (.int i (i.wrap (a.tdiv b)))) else .no
 | .rem,.int i a,.int j b=>if i=j then .need (b≠0) (.ok (.int i (a.tmod b))) else .no
 | .eql,.int i a,.int j b=>if i=j then .ok (.bool (a == b)) else .no
 | .neq,.int i a,.int j b=>if i=j then .ok (.bool (a != b)) else .no
 | .lss,.int i a,.int j b=>if i=j then .ok (.bool (decide (a<b))) else .no
 | .leq,.int i a,.int j b=>if i=j then .ok (.bool (decide (a≤b))) else .no
 | .gtr,.int i a,.int j b=>if i=j then .ok (.bool (decide (b<a))) else .no
 | .geq,.int i a,.int j b=>if i=j then .ok (.bool (decide (b≤a))) else .no
 | .add,.str a,.str b=>.need (a.length+b.length≤140737488355328) (.ok (.str (a++b)))
 | .eql,.str a,.str b=>.ok (.bool (a == b))
 | .neq,.str a,.str b=>.ok (.bool (!(a == b)))
 | .lss,.str a,.str b=>.ok (.bool (Op.bytesLess a b))
 | .leq,.str a,.str b=>.ok (.bool (Op.bytesLess a b || a == b))
 | .gtr,.str a,.str b=>.ok (.bool (!(Op.bytesLess a b || a == b)))
 | .geq,.str a,.str b=>.ok (.bool (!(Op.bytesLess a b)))
 | _,_,_=>.no
def dR (r:R D):R AV:=r.bind fun d=>.ok (.d d)
def AH (tk:TK) (op:BinOp) (x y:AV):R AV :=
 match x,y with
 | .d a,.d b=>dR (En tk op a b)
 | _,_=>.no
def unR (op:UnOp) (x:AV):R AV :=
 match op,x with
 | .not,.d (.bool b)=>.ok (.d (.bool (!b)))
 | .neg,.d (.int i a)=>.ok (.d (.int i (i.wrap (0-a))))
 | _,_=>.no
def jB (c x y:AV):R AV :=
 match c with
 | .d (.bool true)=>.ok x
 | .d (.bool false)=>.ok y
 | _=>.no
def sx (i:TI) (hp:Name→Option Ob) (x:AV):R AV :=
 match i.k,x with
 | .str,.d (.str l)=>.ok (.d (.int .i64 l.length))
 | .slice _,.d (.sl _ xs)=>.ok (.d (.int .i64 xs.length))
 | .slice _,.d .nils=>.ok (.d (.int .i64 0))
 | .slice _,.vw p _ l=>match hp p with
   | some (.arrT _ _ _)=>.ok (.d (.int .i64 l))
   | _=>.no
 | .map _ _,.mp p=>match hp p with
   | some (.map es)=>.ok (.d (.int .i64 es.length))
   | _=>.no
 | _,_=>.no
def Az (hp:Name→Option Ob) (x:AV):R AV :=
 match x with
 | .bx p c=>(match hp p with
   | some (.boxT _ _)=>.ok (.bx p c)
   | _=>.no)
 | _=>.no
def Am (x y:AV):R AV :=
 match x,y with
 | .d (.int i a),.d (.int j b)=>if i=j then .ok (.d (.int i (if b > a then b else a))) else .no
 | _,_=>.no
def Cn (x y:AV):R AV :=
 match x,y with
 | .d (.int i a),.d (.int j b)=>if i=j then .ok (.d (.int i (if b<a then b else a))) else .no
 | _,_=>.no
def tF (a b:TI) (x:AV):R AV :=
 match a.k,b.k,x with
 | .int _,.int j,.d (.int _ n)=>.ok (.d (.int j (j.wrap n)))
 | .str,.str,.d (.str l)=>.ok (.d (.str l))
 | _,_,_=>.no
def gZ (x:AV) (i:Nat):R AV :=
 match x with
 | .tup vs=>R.ofO vs[i]?
 | _=>.no
def kK (tf:Nat→TI) (fs:List (Nat × Nat)):List AV→List (Nat × AV)→Option (List AV)
 | cs,[]=>some cs
 | cs,q::r =>
   match fs[q.1]?,cg q.2 with
   | some (o,t),some vs=>if vs.length=(tf t).sz∧o+vs.length≤cs.length then kK tf fs (splice cs o vs) r else none
   | _,_=>none
def jL (tf:Nat→TI):List (Nat × Nat)→Bool
 | []=>true
 | q::r=>!(tf q.2).k.aV && jL tf r
def nV (tf:Nat→TI) (i:TI) (parts:List (Nat × AV)):R AV :=
 match i.k,i.z with
 | .struct fs,some zs=>if jL tf fs then R.ofO ((kK tf fs (zs.map .d) parts).map eS) else .no
 | .arr _ e,some zs=>match parts with
   | []=>if (tf e).k.aV then .no else .ok (eS (zs.map .d))
   | _=>.no
 | _,_=>.no
def fO:Nat→List (Nat × AV)→Option (List D)
 | _,[]=>some []
 | i,q::r=>match q.2 with
   | .d x=>if q.1=i then (fO (i+1) r).map (x::·) else none
   | _=>none
def bx (n:Nat) (d:Option Nat) (s:St) (x:AV):R St :=
 match d with
 | some t=>if t<n then .ok (s.put t x) else .no
 | none=>.ok s
def fP (n:Nat) (d:Option Nat) (s:St) (ob:Ob) (x:Name→AV):R St :=
 match d with
 | some t=>if t<n∧t ∉ s.used then .ok ((s.add t ob).put t (x [t])) else .no
 | none=>.no
def bD (w:W) (hp:Name→Option Ob):AV→Option (List D)
 | .vw p o l=>match hp p with
   | some (.arrT _ w' ys)=>if w'=w then some ((ys.drop o).take l) else none
   | _=>none
 | .d (.sl w' ys)=>if w'=w then some ys else none
 | .d .nils=>some []
 | _=>none
def TI.zOk (i:TI):Bool:=match i.z with
 | some z=>z.length == i.sz
 | none=>false
def TI.by1 (i:TI):Nat:=if i.by'=0 then 1 else i.by'
def fY (n:Nat) (e:TI) (d:Option Nat) (s:St) (x y:AV):R St :=
 match bD e.w s.hp y,x with
 | some ys,.d .nils=>.need (ys.length*e.by1≤140737488355328) (fP n d s (.arr e.w ys) (.vw · 0 ys.length))
 | some ys,.vw p o l =>
   match s.hp p with
   | some (.arrT none w xs)=>if w=e.w then .need ((l+ys.length)*e.by1≤140737488355328) (fP n d (s.set p none) (.arr w ((xs.drop o).take l++ys)) (.vw · 0 (l+ys.length))) else .no
   | _=>.no
 | _,_=>.no
def ia (ty:Option Nat) (n:Nat) (e:TI) (d:Option Nat) (s:St) (x y:AV):R St :=
 match bD e.w s.hp y,x with
 | some ys,.d .nils=>.need (ys.length*e.by1≤140737488355328) (fP n d s (.arrT ty e.w ys) (.vw · 0 ys.length))
 | some ys,.vw p o l =>
   match s.hp p with
   | some (.arrT ty' w xs)=>if ty'=ty∧w=e.w then .need ((l+ys.length)*e.by1≤140737488355328) (fP n d (s.set p none) (.arrT ty w ((xs.drop o).take l++ys)) (.vw · 0 (l+ys.length))) else .no
   | _=>.no
 | _,_=>.no
theorem yH (n:Nat) (e:TI) (d:Option Nat) (s:St) (x y:AV):fY n e d s x y=ia none n e d s x y:=by
 unfold fY ia
 cases bD e.w s.hp y with
 | none=>rfl
 | some ys =>
   cases x with
   | vw p o l =>
     simp only
     cases s.hp p with
     | none=>rfl
     | some ob =>
       cases ob with
       | arrT ty w xs=>cases ty<;>simp
       | _=>rfl
   | d z=>cases z<;>rfl
   | _=>rfl
def fw (fn:Fn) (first:List Operand) (caps:List AV):R AV :=
 match fn,first with
 | .func f,[]=>.ok (.clo f caps)
 | _,_=>.no
def eh (n:Nat) (i:TI) (tf:Nat→TI) (d:Option Nat) (s:St) (l c:AV):R St :=
 match i.k,l,c with
 | .slice e,.d (.int .i64 a),.d (.int .i64 b) =>
   match (tf e).zero with
   | some z=>if ((tf e).isW (tf e).w && nT (tf e).w z)=false then .no else .need (0≤a∧a≤b∧b*(tf e).by'≤140737488355328∧b≤140737488355328) (fP n d s (.arr (tf e).w (List.replicate a.toNat z)) (.vw · 0 a.toNat))
   | none=>.no
 | _,_,_=>.no
def jl (tf:Nat→TI) (n:Nat) (b:Builtin) (args:List AV) (ts:List Nat) (d:Option Nat) (s:St):R St :=
 match b,args with
 | .len,[x]=>match ts with
   | [t]=>(sx (tf t) s.hp x).bind (bx n d s)
   | _=>.no
 | .max,[x,y]=>(Am x y).bind (bx n d s)
 | .min,[x,y]=>(Cn x y).bind (bx n d s)
 | .append,[x,y] =>
   match ts with
   | [t,t']=>if t≠t' then .no else match (tf t).k with
     | .slice e=>if (tf e).zOk∧(tf e).isW (tf e).w then fY n (tf e) d s x y else .no
     | _=>.no
   | _=>.no
 | _,_=>.no
def isB (tf:Nat→TI) (t:Nat):Bool :=
 match (tf t).k with
 | .struct [(_,x),(_,_)]=>match (tf x).k with
   | .ptr z=>z == t
   | _=>false
 | _=>false
def GY (tf:Nat→TI):List (Nat × Nat)→Bool
 | []=>false
 | q::r=>if isB tf q.2 then true else GY tf r
def yd (tf:Nat→TI) (t:Nat):Option Nat :=
 match (tf t).k with
 | .struct fs=>if isB tf t then some t else if GY tf fs then some t else none
 | _=>none
theorem yI (tf:Nat→TI) (t:Nat):(yd tf t).getD t=t:=by
 unfold yd
 split
 ·split
  ·rfl
  split<;>rfl
 ·rfl
def mz:TK→Option Nat
 | .slice e=>some e
 | _=>none
section
variable (tf:Nat→TI) (n:Nat)
def opR (o:Op) (d:Option Nat) (s:St):R St :=
 match o with
 | .move x=>bx n d s (ev s x)
 | .assign x=>bx n d s (ev s x)
 | .pick c a b=>(jB (ev s c) (ev s a) (ev s b)).bind (bx n d s)
 | .alloc e=>match (tf e).z with
   | some cs=>fP n d s (.boxT (yd tf e) (cs.map .d)) (.bx · 0)
   | none=>.no
 | .box _ x=>match cg (ev s x) with
   | some cs=>fP n d s (.box cs) (.bx · 0)
   | none=>.no
 | .build t parts=>(nV tf (tf t) (parts.toList.map fun q=>(q.1,ev s q.2))).bind (bx n d s)
 | .buildSlice t l parts =>
   match mz (tf t).k,fO 0 (parts.toList.map fun q=>(q.1,ev s q.2)) with
   | some e,some xs=>if xs.length=l∧(tf e).z.isSome∧(tf e).isW (tf e).w∧xs.all (nT (tf e).w)∧l*(tf e).sz≤16777216 then fP n d s (.arr (tf e).w xs) (.vw · 0 l) else .no
   | _,_=>.no
 | .load t x=>(iM (tf t) s.hp (ev s x)).bind (bx n d s)
 | .store t x v=>(gJ (tf t) s (ev s x) (ev s v)).bind fun s'=>bx n d s' .un
 | .fieldAddr t x f=>(bW (tf t) tf s.hp (ev s x) f).bind (bx n d s)
 | .field t x f=>(nF (tf t) tf (ev s x) f).bind (bx n d s)
 | .indexAddr t x j=>(bQ (tf t) tf s.hp (ev s x) (ev s j)).bind (bx n d s)
 | .index t x j=>(ng (tf t) (ev s x) (ev s j)).bind (bx n d s)
 | .slice t x lo hi mx=>match mx with
   | none=>(gU (tf t) tf s.hp (ev s x) (lo.map (ev s)) (hi.map (ev s))).bind (bx n d s)
   | some _=>.no
 | .binOp op t x y _=>(AH (tf t).k op (ev s x) (ev s y)).bind (bx n d s)
 | .unOp op _ x=>(unR op (ev s x)).bind (bx n d s)
 | .convert a b x=>(tF (tf a) (tf b) (ev s x)).bind (bx n d s)
 | .extract x i=>(gZ (ev s x) i).bind (bx n d s)
 | .nilCheck x=>(Az s.hp (ev s x)).bind (bx n d s)
 | .makeFunc fn first caps=>(fw fn first.toList (caps.toList.map (ev s))).bind (bx n d s)
 | .makeSlice t l c=>eh n (tf t) tf d s (ev s l) (ev s c)
 | .call c=>match c.callee with
   | .builtin b=>jl tf n b (c.args.toList.map (ev s)) c.argTypes.toList d s
   | _=>.no
 | _=>.no
end
end Go.Ab
namespace Go.Ab
inductive It where
 | code (c:Code)
 | ops (all:Array Oper) (r:List Oper)
 | blk (i:Nat)
def msz:Code→Nat
 | .region _ ops _=>ops.toList.length+2
 | .seq a b=>msz a+msz b+1
 | .cond _ a b=>msz a+msz b+1
 | .block _ b=>msz b+2
 | _=>1
def It.msz:It→Nat
 | .code c=>Ab.msz c
 | .ops _ r=>r.length+1
 | .blk _=>1
def kmsz:List It→Nat
 | []=>0
 | i::k=>i.msz+kmsz k
theorem jw (c:Code):0<msz c:=by cases c<;>simp [msz]
theorem It.jw (i:It):0<i.msz:=by cases i<;>simp [It.msz,Ab.jw]
def eJ (i:Nat):List It→Option (List It)
 | []=>none
 | .blk j::k=>if j=i then some k else eJ i k
 | _::k=>eJ i k
theorem gI (i:Nat):∀ (k k':List It),eJ i k=some k'→kmsz k'≤kmsz k
 | [],k',h=>by cases h
 | .blk j::k,k',h=>by
   simp only [eJ] at h
   split at h
   ·cases h;simp [kmsz]
   ·have:=gI i k k' h;simp [kmsz];omega
 | .code c::k,k',h=>by have:=gI i k k' h;simp [kmsz];omega
 | .ops _ r::k,k',h=>by have:=gI i k k' h;simp [kmsz];omega
def R.run:R St→(St→Prop)→Prop→Prop
 | .ok s,f,_=>f s
 | .need p r,f,z=>p∧r.run f z
 | .no,_,z=>z
structure Cf where
 n:Nat
 ro:Option Nat
 G:List (Nat × Obj)
 U:List Nat
def Cf.fits (c:Cf) (B:Base):Prop:=B.n=c.n∧B.U0=c.U∧B.G=c.G
section
variable (P:Program) (cf:Cf)
def Fw (ro:Option Nat):Fence:={ Fence.wide with round:=ro }
def hold (Q:Exit→Act→World→Prop):List It→Exit→Act→World→Prop
 | [],e,a,w=>Q e a w
 | .code c::k,e,a,w=>match e with
   | .normal=>c.wpIn (Fw cf.ro) 0 P (hold Q k) a w
   | e=>hold Q k e a w
 | .ops all r::k,e,a,w=>match e with
   | .normal=>∀ (l:List Nat),l.map (all[·]?)=r.map some→wpOpsIn (Fw cf.ro) 0 P all (hold Q k) l a w
   | e=>hold Q k e a w
 | .blk i::k,e,a,w=>match e with
   | .normal=>hold Q k .normal a w
   | .exit j=>if j=i then hold Q k .normal a w else hold Q k (.exit j) a w
   | e=>hold Q k e a w
def lift (B:Base) (ds:List Deferred) (Q:Exit→St→Prop) (e:Exit) (a:Act) (w:World):Prop :=
 a.defers=ds∧∃ s β,Q e s∧Sim B β s a.tmps w
def ARun (k:List It) (Q:Exit→St→Prop) (s:St):Prop :=
 ∀ (B:Base),cf.fits B→∀ ds β a w,a.defers=ds→Sim B β s a.tmps w→hold P cf (lift B ds Q) k .normal a w
def AOk (o:Oper) (s:St) (k:List It) (Q:Exit→St→Prop):Prop :=
 ∀ (B:Base),cf.fits B→∀ ds β a w,a.defers=ds→Sim B β s a.tmps w→∀ Q',o.wpIn (Fw cf.ro) 0 P a w (fun a' w'=>a'.defers=ds∧∃ s' β',ARun P cf k Q s'∧Sim B β' s' a'.tmps w') Q'
def ACk (c:Code) (s:St) (k:List It) (Q:Exit→St→Prop):Prop:=ARun P cf (.code c::k) Q s
def dK (all:Array Oper) (j:Nat) (s:St):Option (Nat × AV) :=
 match all[j]? with
 | some o=>o.dst.map fun t=>(t,s.fr t)
 | none=>none
def run:List It→(Exit→St→Prop)→St→Prop
 | [],Q,s=>Q .normal s
 | .blk _::k,Q,s=>run k Q s
 | .ops _ []::k,Q,s=>run k Q s
 | .ops all (o::r)::k,Q,s =>
   match o.guard with
   | none=>(opR P.ti cf.n o.op o.dst s).run (fun s'=>run (.ops all r::k) Q s') (AOk P cf o s (.ops all r::k) Q)
   | some (j,want) =>
     match dK all j s with
     | some (t,.d (.bool b)) =>
       (b=want→(opR P.ti cf.n o.op o.dst (s.put t (.d (.bool want)))).run (fun s'=>run (.ops all r::k) Q s') (AOk P cf { o with guard:=none } (s.put t (.d (.bool want))) (.ops all r::k) Q)) ∧
       (b=!want→(bx cf.n o.dst (s.put t (.d (.bool (!want)))) (.tup [])).run (fun s'=>run (.ops all r::k) Q s') False)
     | some (_,.tup [])=>(bx cf.n o.dst s (.tup [])).run (fun s'=>run (.ops all r::k) Q s') False
     | _=>False
 | .code .skip::k,Q,s=>run k Q s
 | .code (.region _ ops false)::k,Q,s=>run (.ops ops ops.toList::k) Q s
 | .code (.region i ops true)::k,Q,s=>ACk P cf (.region i ops true) s k Q
 | .code (.seq a b)::k,Q,s=>run (.code a::.code b::k) Q s
 | .code (.cond c a b)::k,Q,s =>
   match ev s c with
   | .d (.bool t)=>(t=true→run (.code a::k) Q s)∧(t=false→run (.code b::k) Q s)
   | _=>False
 | .code (.block i c)::k,Q,s=>run (.code c::.blk i::k) Q s
 | .code (.exit i)::k,Q,s=>match _h:eJ i k with
   | some k'=>run k' Q s
   | none=>Q (.exit i) s
 | .code .ret::_,Q,s=>Q .ret s
 | .code c::k,Q,s=>ACk P cf c s k Q
termination_by k=>kmsz k
decreasing_by
 all_goals simp only [kmsz,It.msz,msz,List.length_cons,List.length_nil]
 all_goals first
  | omega
  | (have:=jw ‹_›;omega)
  | (have:=gI _ _ _ _h;omega)
end
end Go.Ab
namespace Go.Ab
section
variable (P:Program) (cf:Cf)
def stp (r:R St) (o:Oper) (s:St) (k:List It) (Q:Exit→St→Prop):Prop:=r.run (fun s'=>run P cf k Q s') (AOk P cf o s k Q)
def gd (v:Option (Nat × AV)) (want:Bool) (all:Array Oper) (o:Oper) (r:List Oper) (s:St) (k:List It) (Q:Exit→St→Prop):Prop :=
 match v with
 | some (t,.d (.bool b)) =>
   (b=want→stp P cf (opR P.ti cf.n o.op o.dst (s.put t (.d (.bool want)))) { o with guard:=none } (s.put t (.d (.bool want))) (.ops all r::k) Q) ∧
   (b=!want→(bx cf.n o.dst (s.put t (.d (.bool (!want)))) (.tup [])).run (fun s'=>run P cf (.ops all r::k) Q s') False)
 | some (_,.tup [])=>(bx cf.n o.dst s (.tup [])).run (fun s'=>run P cf (.ops all r::k) Q s') False
 | _=>False
def cnd (v:AV) (a b:Code) (k:List It) (Q:Exit→St→Prop) (s:St):Prop :=
 match v with
 | .d (.bool t)=>(t=true→run P cf (.code a::k) Q s)∧(t=false→run P cf (.code b::k) Q s)
 | _=>False
def goK (o:Option (List It)) (i:Nat) (Q:Exit→St→Prop) (s:St):Prop :=
 match o with
 | some k=>run P cf k Q s
 | none=>Q (.exit i) s
variable {P cf}
variable (Q:Exit→St→Prop) (s:St) (k:List It) (o:Oper) (x:Operand) (a b:Code) (i:Nat)
theorem cF:run P cf [] Q s=Q .normal s:=by rw [run]
theorem wV:run P cf (.blk i::k) Q s=run P cf k Q s:=by rw [run]
theorem kX (all:Array Oper):run P cf (.ops all []::k) Q s=run P cf k Q s:=by rw [run]
theorem wU (all:Array Oper) (d:Option Nat) (op:Op) (t:Nat) (p:String) (e:Array Edge) (r:List Oper) :
 run P cf (.ops all ({ dst:=d,op:=op,type:=t,pos:=p,after:=e,guard:=none }::r)::k) Q s =
  stp P cf (opR P.ti cf.n op d s) { dst:=d,op:=op,type:=t,pos:=p,after:=e,guard:=none } s (.ops all r::k) Q:=by rw [run];rfl
theorem oZ (all:Array Oper) (d:Option Nat) (op:Op) (t:Nat) (p:String) (e:Array Edge) (j:Nat) (want:Bool) (r:List Oper) :
 run P cf (.ops all ({ dst:=d,op:=op,type:=t,pos:=p,after:=e,guard:=some (j,want) }::r)::k) Q s =
  gd P cf (dK all j s) want all { dst:=d,op:=op,type:=t,pos:=p,after:=e,guard:=some (j,want) } r s k Q:=by rw [run];rfl
theorem sL:run P cf (.code .skip::k) Q s=run P cf k Q s:=by rw [run]
theorem lR (ops:List Oper):run P cf (.code (.region i ops.toArray false)::k) Q s=run P cf (.ops ops.toArray ops::k) Q s:=by rw [run]
theorem zX (ops:Array Oper):run P cf (.code (.region i ops true)::k) Q s=ACk P cf (.region i ops true) s k Q:=by rw [run]
theorem run_seq:run P cf (.code (.seq a b)::k) Q s=run P cf (.code a::.code b::k) Q s:=by rw [run]
theorem sk:run P cf (.code (.cond x a b)::k) Q s=cnd P cf (ev s x) a b k Q s:=by rw [run];rfl
theorem oP:run P cf (.code (.block i a)::k) Q s=run P cf (.code a::.blk i::k) Q s:=by rw [run]
theorem BG:run P cf (.code (.exit i)::k) Q s=goK P cf (eJ i k) i Q s:=by
 rw [run];unfold goK;split<;>simp_all
theorem wv:run P cf (.code .ret::k) Q s=Q .ret s:=by rw [run]
theorem sY:run P cf (.code (.loop a)::k) Q s=ACk P cf (.loop a) s k Q:=by rw [run];all_goals simp
theorem vm (s':St):stp P cf (.ok s') o s k Q=run P cf k Q s':=rfl
theorem mU (p:Prop) (r:R St):stp P cf (.need p r) o s k Q=(p∧stp P cf r o s k Q):=rfl
theorem uw:stp P cf .no o s k Q=AOk P cf o s k Q:=rfl
def gV (s:St):Option Oper→Option (Nat × AV)
 | some o=>o.dst.map fun t=>(t,s.fr t)
 | none=>none
theorem yk (all:List Oper) (j:Nat):dK all.toArray j s=gV s all[j]?:=by
 simp only [dK,List.getElem?_toArray];cases all[j]?<;>rfl
end
section
variable (s:St) (t i:Nat) (v:AV) (ob:Ob) (p q:Name) (oo:Option Ob)
def lkA {α β:Type} [DecidableEq α] (z:β):List (α × β)→α→β
 | [],_=>z
 | q::r,i=>if i=q.1 then q.2 else lkA z r i
def mk (fr:List (Nat × AV)) (hp:List (Name × Ob)) (used:List Nat):St :=
 { fr:=lkA .un fr,hp:=lkA none (hp.map fun q=>(q.1,some q.2)),used:=used }
theorem cS (fr hp used):(mk fr hp used).fr i=lkA .un fr i:=rfl
theorem H6 (fr hp used):(mk fr hp used).hp p=lkA none (hp.map fun q=>(q.1,some q.2)) p:=rfl
theorem aa (fr hp used):(mk fr hp used).used=used:=rfl
theorem wH {α β:Type} [DecidableEq α] (z:β) (i:α):lkA z [] i=z:=rfl
theorem dv {α β:Type} [DecidableEq α] (z:β) (q:α × β) (r) (i:α):lkA z (q::r) i=if i=q.1 then q.2 else lkA z r i:=rfl
end
end Go.Ab

namespace Go.Ab
section
variable {P:Program} {t:Nat}
theorem b7 (h:(P.ti t).k.aV=false):∃ i d,P.info? t=some i∧P.underlying t=some d∧(P.ti t).k=tk d∧(P.ti t).sz=i.size∧(P.ti t).by'=i.bytes ∧
  (P.ti t).z=i.zero.bind fun v=>v.cells.toList.mapM zd:=by
 unfold Program.ti at h ⊢
 split
 ·rename_i i d hi hd
  exact ⟨i,d,hi,hd,rfl,rfl,rfl,rfl⟩
 ·rename_i hne
  split at h
  ·rename_i i d hi hd;exact absurd hd (hne i d hi)
  ·simp [TK.aV] at h
theorem a8 {e:Nat} (h:(P.ti t).k=.slice e):P.underlying t=some (.slice e):=by
 obtain ⟨i,d,_,hd,hk,_⟩:=b7 (P:=P) (t:=t) (by rw [h];rfl)
 rw [h] at hk;rw [hd]
 cases d<;>simp [tk] at hk
 rw [hk]
theorem eK (h:(P.ti t).k=.str):P.underlying t=some .string:=by
 obtain ⟨i,d,_,hd,hk,_⟩:=b7 (P:=P) (t:=t) (by rw [h];rfl)
 rw [h] at hk;rw [hd]
 cases d<;>simp [tk] at hk
 rfl
theorem u2 {k:IntKind} (h:(P.ti t).k=.int k):P.underlying t=some (.int k):=by
 obtain ⟨i,d,_,hd,hk,_⟩:=b7 (P:=P) (t:=t) (by rw [h];rfl)
 rw [h] at hk;rw [hd]
 cases d<;>simp [tk] at hk
 rw [hk]
theorem lZ {a b:Nat} (h:(P.ti t).k=.map a b):P.underlying t=some (.map a b):=by
 obtain ⟨i,d,_,hd,hk,_⟩:=b7 (P:=P) (t:=t) (by rw [h];rfl)
 rw [h] at hk;rw [hd]
 cases d<;>simp [tk] at hk
 rw [hk.1,hk.2]
theorem e8 {fs:List (Nat × Nat)} (h:(P.ti t).k=.struct fs):∃ fl:Array Field,P.underlying t=some (.struct fl)∧fs=fl.toList.map fun f=>(f.offset,f.type):=by
 obtain ⟨i,d,_,hd,hk,_⟩:=b7 (P:=P) (t:=t) (by rw [h];rfl)
 rw [h] at hk;rw [hd]
 cases d<;>simp [tk] at hk
 exact ⟨_,rfl,hk⟩
theorem ig (h:(P.ti t).k.aV=false) (w:World):(isAgg t).run P w=.ok (P.ti t).k.agg w:=by
 obtain ⟨i,d,_,hd,hk,_⟩:=b7 h
 rw [hk]
 cases d<;>simp [isAgg,run_underlying hd,tk,TK.agg]
theorem run_sizeOf (h:(P.ti t).k.aV=false) (w:World):(sizeOf t).run P w=.ok (P.ti t).sz w:=by
 obtain ⟨i,d,hi,hd,_,hs,_⟩:=b7 h
 simp [sizeOf,typeInfo,hi,hs]
theorem Ee {z:List D} (h:(P.ti t).z=some z):(P.ti t).k.aV=false:=by
 unfold Program.ti at h ⊢
 split
 ·rename_i i d _ _
  cases d<;>rfl
 ·split at h<;>simp_all
end
theorem zf {H:Array Obj} {own:Nat→Prop} {v:Value} {d:D} (h:zd v=some d):Rep H own v d∧d.scal=true∧v.oneCell'=true:=by
 cases v with
 | bool b=>cases h;exact ⟨.bool b,rfl,rfl⟩
 | int k n=>cases h;exact ⟨.int k n,rfl,rfl⟩
 | string s=>cases h;exact ⟨.str s.data.toList,rfl,rfl⟩
 | pointer a=>cases a<;>cases h;exact ⟨.nilp,rfl,rfl⟩
 | slice a l c=>cases a<;>cases l<;>cases c<;>cases h;exact ⟨.nils,rfl,rfl⟩
 | map r=>cases r<;>cases h;exact ⟨.nilm,rfl,rfl⟩
 | nilFunc=>cases h;exact ⟨.nilf,rfl,rfl⟩
 | nilIface=>cases h;exact ⟨.nili,rfl,rfl⟩
 | _=>cases h
theorem ga {H:Array Obj} {own:Nat→Prop}:∀ {vs:List Value} {ds:List D},vs.mapM zd=some ds→ds.length=vs.length∧(∀ d∈ds,d.scal=true)∧(∀ v∈vs,v.oneCell'=true) ∧
  ∀ (j:Nat) (d:D),ds[j]?=some d→∃ v,vs[j]?=some v∧Rep H own v d
 | [],ds,h=>by simp at h;subst h;simp
 | v::r,ds,h=>by
   simp only [List.mapM_cons,Option.bind_eq_bind,Option.bind_eq_some_iff] at h
   obtain ⟨d,hd,ds',hr,h⟩:=h
   cases h
   obtain ⟨h1,h2,h3⟩:=zf (H:=H) (own:=own) hd
   obtain ⟨g1,g2,g3,g4⟩:=ga (H:=H) (own:=own) hr
   refine ⟨by simp [g1],by simpa using ⟨h2,g2⟩,by simpa using ⟨h3,g3⟩,fun j d' hj=>?_⟩
   cases j with
   | zero=>simp at hj;subst hj;exact ⟨v,rfl,h1⟩
   | succ j=>exact g4 j d' (by simpa using hj)
section
variable {B:Base} {β:Name→Option Blk} {s:St} {a:Act} {w:World}
theorem G6 {H own used hp} {β:Name→Option Blk} (v:Value):VR H own used hp β v (cv v):=by
 cases v with
 | bool b=>exact .d _ _ (.bool b)
 | int k n=>exact .d _ _ (.int k n)
 | string s=>exact .d _ _ (.str s.data.toList)
 | pointer a=>cases a<;>first | exact .d _ _ .nilp | exact .un _
 | slice a l c=>cases a<;>cases l<;>cases c<;>first | exact .d _ _ .nils | exact .un _
 | map r=>cases r<;>first | exact .d _ _ .nilm | exact .un _
 | nilFunc=>exact .d _ _ .nilf
 | nilIface=>exact .d _ _ .nili
 | _=>exact .un _
theorem Sim.ev (h:Sim B β s a.tmps w) (x:Operand):VR w.heap (s.own B.A β) s.used s.hp β (a.eval x) (ev s x):=by
 cases x with
 | tmp t=>exact h.slots t
 | const v=>exact G6 v
 | global g=>exact .un _
 | func f=>exact .clo f #[] [] rfl (fun i x hi=>by simp at hi)
end
section
variable {H:Array Obj} {own:Nat→Prop} {used:List Nat} {hp:Name→Option Ob} {β:Name→Option Blk} {v:Value}
theorem VR.toD {x:D} (h:VR H own used hp β v (.d x)):Rep H own v x:=by cases h;assumption
theorem VR.int {k n} (h:VR H own used hp β v (.d (.int k n))):v=.int k n:=by cases h.toD;rfl
theorem VR.bool {b} (h:VR H own used hp β v (.d (.bool b))):v=.bool b:=by cases h.toD;rfl
theorem VR.str {l} (h:VR H own used hp β v (.d (.str l))):v=.string ⟨l.toArray⟩:=by cases h.toD;rfl
theorem VR.nils (h:VR H own used hp β v (.d .nils)):v=.slice none 0 0:=by cases h.toD;rfl
end
theorem kr:∀ {cs:List AV} {ds:List D},iF cs=some ds→cs=ds.map .d
 | [],ds,h=>by simp [iF] at h;subst h;rfl
 | .d x::r,ds,h=>by
   simp only [iF,Option.map_eq_some_iff] at h
   obtain ⟨ds',hr,rfl⟩:=h
   simp [kr hr]
 | .un::r,ds,h=>by simp [iF] at h
 | .vw _ _ _::r,ds,h=>by simp [iF] at h
 | .bx _ _::r,ds,h=>by simp [iF] at h
 | .el _ _ _::r,ds,h=>by simp [iF] at h
 | .mp _::r,ds,h=>by simp [iF] at h
 | .it _::r,ds,h=>by simp [iF] at h
 | .agg _::r,ds,h=>by simp [iF] at h
 | .tup _::r,ds,h=>by simp [iF] at h
 | .clo _ _::r,ds,h=>by simp [iF] at h
section
variable {H:Array Obj} {own:Nat→Prop} {used:List Nat} {hp:Name→Option Ob} {β:Name→Option Blk}
theorem VR.scal {v:Value} {d:D} (h1:v.oneCell'=true) (h:VR H own used hp β v (.d d)):d.scal=true:=by
 have:=h.toD
 cases this<;>first | rfl | simp [Value.oneCell'] at h1
theorem ef {vs:List Value} {cs:List AV} (hs:vs.length=cs.length) (h1:∀ v∈vs,v.oneCell'=true) (h:∀ (i:Nat) v x,vs[i]?=some v→cs[i]?=some x→VR H own used hp β v x) :
  VR H own used hp β (.agg vs.toArray) (eS cs):=by
 unfold eS
 split
 ·rename_i ds hd
  have e:=kr hd
  subst e
  refine .d _ _ (.agg _ ds (by simpa using hs) (fun d hd'=>?_) (fun i d hi=>?_))
  ·obtain ⟨i,hi⟩:=List.mem_iff_getElem?.1 hd'
   have hlt:i<vs.length:=by rw [hs];simp;exact (List.getElem?_eq_some_iff.1 hi).1
   exact VR.scal (h1 _ (List.getElem_mem hlt)) (h i _ (.d d) (List.getElem?_eq_getElem hlt) (by simp [hi]))
  ·have hlt:i<vs.length:=by rw [hs];simp;exact (List.getElem?_eq_some_iff.1 hi).1
   have:=(h i _ (.d d) (List.getElem?_eq_getElem hlt) (by simp [hi])).toD
   simpa [Array.getD_eq_getD_getElem?,hlt] using this
 ·refine .agg _ cs (by simpa using hs) (by simpa using h1) (fun i x hi=>?_)
  have hlt:i<vs.length:=by rw [hs];exact (List.getElem?_eq_some_iff.1 hi).1
  have:=h i _ x (List.getElem?_eq_getElem hlt) hi
  simpa [Array.getD_eq_getD_getElem?,hlt] using this
theorem mF {v:Value} {d:D} {cs:List AV} (hc:cellsD d=some cs) (h:Rep H own v d):v.cells.size=cs.length∧(∀ u∈v.cells,u.oneCell'=true) ∧
  ∀ i x,cs[i]?=some x→VR H own used hp β (v.cells.getD i undef) x:=by
 cases d with
 | agg ds =>
   simp only [cellsD,Option.some.injEq] at hc;subst hc
   cases h with
   | agg vs ds hs hsc h =>
     refine ⟨by simpa [Value.cells] using hs,fun u hu=>?_,fun i x hi=>?_⟩
     ·obtain ⟨i,hi⟩:=Array.mem_iff_getElem?.1 hu
      have hlt:i<ds.length:=by rw [← hs];exact (Array.getElem?_eq_some_iff.1 hi).1
      have:=(h i _ (List.getElem?_eq_getElem hlt)).lH (hsc _ (List.getElem_mem hlt))
      have e:vs.getD i undef=u:=by
       simp only [Value.cells] at hi
       simp [Array.getD_eq_getD_getElem?,hi]
      rwa [e] at this
     ·simp only [List.getElem?_map,Option.map_eq_some_iff] at hi
      obtain ⟨d,hd,rfl⟩:=hi
      exact .d _ _ (h i d hd)
 | _ =>
   simp only [cellsD,Option.some.injEq] at hc;subst hc
   have h1:=h.lH rfl
   have e:v.cells=#[v]:=by cases v<;>first | rfl | simp [Value.oneCell'] at h1
   rw [e]
   refine ⟨rfl,by simpa using h1,fun i x hi=>?_⟩
   cases i with
   | zero=>simp at hi;subst hi;exact .d _ _ (by simpa using h)
   | succ i=>simp at hi
theorem mP {v:Value} {x:AV} {cs:List AV} (hc:cg x=some cs) (h:VR H own used hp β v x) :
  v.cells.size=cs.length∧(∀ u∈v.cells,u.oneCell'=true)∧∀ i x,cs[i]?=some x→VR H own used hp β (v.cells.getD i undef) x:=by
 have one:∀ y:AV,cs=[y]→VR H own used hp β v y→v.oneCell'=true→v.cells.size=cs.length∧(∀ u∈v.cells,u.oneCell'=true)∧∀ i x,cs[i]?=some x→VR H own used hp β (v.cells.getD i undef) x:=by
  intro y hy hh h1
  subst hy
  have e:v.cells=#[v]:=by cases v<;>first | rfl | simp [Value.oneCell'] at h1
  rw [e]
  refine ⟨rfl,by simpa using h1,fun i x hi=>?_⟩
  cases i with
  | zero=>simp at hi;subst hi;simpa using hh
  | succ i=>simp at hi
 cases x with
 | d y=>exact mF hc h.toD
 | agg ds =>
   simp only [cg,Option.some.injEq] at hc;subst hc
   cases h with
   | agg vs ds hs h1 h=>exact ⟨by simpa [Value.cells] using hs,by simpa [Value.cells] using h1,fun i x hi=>by simpa [Value.cells] using h i x hi⟩
 | vw p o l=>simp only [cg,Option.some.injEq] at hc;exact one _ hc.symm h (by cases h;assumption)
 | bx p c=>simp only [cg,Option.some.injEq] at hc;exact one _ hc.symm h (by cases h;assumption)
 | el p i c=>simp only [cg,Option.some.injEq] at hc;exact one _ hc.symm h (by cases h;assumption)
 | mp p=>simp only [cg,Option.some.injEq] at hc;exact one _ hc.symm h (by cases h;assumption)
 | it p=>simp only [cg,Option.some.injEq] at hc;exact one _ hc.symm h (by cases h;assumption)
 | clo f c=>simp only [cg,Option.some.injEq] at hc;exact one _ hc.symm h (by cases h;rfl)
 | un=>cases hc
 | tup _=>cases hc
end
end Go.Ab
namespace Go.Ab
def RV {α:Type}:R α→(α→Prop)→Prop
 | .ok x,φ=>φ x
 | .need p r,φ=>p→RV r φ
 | .no,_=>True
theorem RV.mono {α:Type} {φ ψ:α→Prop} (h:∀ x,φ x→ψ x):∀ {r:R α},RV r φ→RV r ψ
 | .ok _,hr=>h _ hr
 | .need _ _,hr=>fun hp=>RV.mono h (hr hp)
 | .no,_=>trivial
theorem RV.bind {α β:Type} {φ:α→Prop} {ψ:β→Prop} {f:α→R β} (hf:∀ x,φ x→RV (f x) ψ):∀ {r:R α},RV r φ→RV (r.bind f) ψ
 | .ok _,hr=>hf _ hr
 | .need _ _,hr=>fun hp=>RV.bind hf (hr hp)
 | .no,_=>trivial
theorem RV.ofO {α:Type} {φ:α→Prop} {o:Option α} (h:∀ x,o=some x→φ x):RV (R.ofO o) φ:=by
 cases o with
 | none=>trivial
 | some x=>exact h x rfl
theorem RV.run {φ:St→Prop} {f:St→Prop} {z:Prop}:∀ {r:R St},RV r φ→r.run f z→z∨∃ s,φ s∧f s
 | .ok _,hr,h=>.inr ⟨_,hr,h⟩
 | .need _ _,hr,h=>RV.run (hr h.1) h.2
 | .no,_,h=>.inl h
section
variable {P:Program} {t:Nat}
theorem bj (b o n:Nat):(⟨b,o,none⟩:Addr).add n=⟨b,o+n,none⟩:=by unfold Addr.add;split<;>simp_all
theorem gq (hg:(P.ti t).k.aV=false) (ha:(P.ti t).k.agg=true) {w:World} {b o:Nat} {c:Array Value} {e:TypeId} {fz:Nat × Nat}
  (hb:w.heap[b]?=some (.cells c e fz)) (hz:o+(P.ti t).sz≤c.size) :
  (loadVar t ⟨b,o,none⟩).run P w=.ok (.agg ((c.toList.drop o).take (P.ti t).sz).toArray) w:=by
 have hl:((c.toList.drop o).take (P.ti t).sz).length=(P.ti t).sz:=by simp;omega
 have:=run_loadCells_list (P:=P) w ⟨b,o,none⟩ ((c.toList.drop o).take (P.ti t).sz) (fun j v hv=>by
  rw [bj,cell_of_row w b (o+j) c e fz hb]
  rw [List.getElem?_take] at hv
  split at hv
  ·simpa using hv
  ·cases hv)
 rw [hl] at this
 simp [loadVar,ig hg,ha,run_sizeOf hg,this]
theorem gy (hg:(P.ti t).k.aV=false) (ha:(P.ti t).k.agg=false) {w:World} {b o:Nat} {c:Array Value} {e:TypeId} {fz:Nat × Nat}
  (hb:w.heap[b]?=some (.cells c e fz)) {v:Value} (hv:c[o]?=some v):(loadVar t ⟨b,o,none⟩).run P w=.ok v w:=by
 have hc:w.cell? ⟨b,o,none⟩=some v:=by rw [cell_of_row w b o c e fz hb,hv]
 simp [loadVar,ig hg,ha,hc]
theorem lN {α:Type} {c:Array α} {i:Nat} {z:α} (h:i<c.size):c[i]?=some (c.getD i z):=by simp [Array.getD_eq_getD_getElem?,h]
theorem mG {H:Array Obj} {own:Nat→Prop} {w:World} (hw:w.heap=H) {b o c0:Nat} {c:Array Value} {e:TypeId} {fz:Nat × Nat} (hb:H[b]?=some (.cells c e fz)) {d y:D}
  (hz:o+d.cells.length≤c.size) (hsc:∀ x∈d.cells,x.scal=true) (h:∀ j x,d.cells[j]?=some x→Rep H own (c.getD (o+j) undef) x) (hp:gD (P.ti t) d c0=some y) :
  ∃ v,(loadVar t ⟨b,o+c0,none⟩).run P w=.ok v w∧Rep H own v y:=by
 subst hw
 unfold gD at hp
 by_cases hg:(P.ti t).k.aV=true
 ·simp [hg] at hp
 ·have hg:(P.ti t).k.aV=false:=by simpa using hg
  simp only [hg,Bool.false_eq_true,if_false] at hp
  have one:∀ y',d.cells[c0]?=some y'→(P.ti t).k.agg=false→∃ v,(loadVar t ⟨b,o+c0,none⟩).run P w=.ok v w∧Rep w.heap own v y':=by
   intro y' hy ha
   have hlt:c0<d.cells.length:=(List.getElem?_eq_some_iff.1 hy).1
   exact ⟨_,gy hg ha hb (lN (z:=undef) (show o+c0<c.size by omega)),h c0 y' hy⟩
  cases d with
  | agg cs =>
    simp only at hp
    by_cases ha:(P.ti t).k.agg=true
    ·simp only [ha,if_true] at hp
     split at hp
     ·rename_i hle
      cases hp
      simp only [D.cells] at hz hsc h
      refine ⟨_,gq hg ha hb (by omega),.agg _ _ (by simp;omega) (fun x hx=>hsc x (List.mem_of_mem_drop (List.mem_of_mem_take hx))) (fun i x hi=>?_)⟩
      rw [List.getElem?_take] at hi
      split at hi
      ·rename_i hlt
       rw [List.getElem?_drop] at hi
       have:=h (c0+i) x hi
       have hlt2:c0+i<cs.length:=(List.getElem?_eq_some_iff.1 hi).1
       have e1:((c.toList.drop (o+c0)).take (P.ti t).sz).toArray.getD i undef=c.getD (o+(c0+i)) undef:=by
        simp [Array.getD_eq_getD_getElem?,hlt,Nat.add_assoc]
       rw [e1];exact this
      ·cases hi
     ·cases hp
    ·have ha:(P.ti t).k.agg=false:=by simpa using ha
     simp only [ha,Bool.false_eq_true,if_false] at hp
     exact one y hp ha
  | _ =>
    simp only at hp
    by_cases ha:(P.ti t).k.agg=true
    ·simp [ha] at hp
    ·have ha:(P.ti t).k.agg=false:=by simpa using ha
     simp only [ha,Bool.false_eq_true,if_false] at hp
     split at hp
     ·rename_i h0
      cases hp;subst h0
      exact one _ rfl ha
     ·cases hp
end
section
variable {P:Program} {B:Base} {β:Name→Option Blk} {s:St} {tm:Array Value} {w:World} {t:Nat}
theorem sP (_h:Sim B β s tm w) {b c0:Nat} {c:Array Value} {e:TypeId} {fz:Nat × Nat} (hb:w.heap[b]?=some (.cells c e fz)) {cs:List AV} (hl:c.size=cs.length) (h1:∀ v∈c,v.oneCell'=true)
  (hc:∀ (j:Nat) x,cs[j]?=some x→VR w.heap (s.own B.A β) s.used s.hp β (c.getD j undef) x) :
  RV (mW (P.ti t) cs c0) fun y=>∃ v,(loadVar t ⟨b,c0,none⟩).run P w=.ok v w∧VR w.heap (s.own B.A β) s.used s.hp β v y:=by
 unfold mW
 by_cases hg:(P.ti t).k.aV=true
 ·simp [hg,RV]
 ·have hg:(P.ti t).k.aV=false:=by simpa using hg
  simp only [hg,Bool.false_eq_true,if_false]
  by_cases ha:(P.ti t).k.agg=true
  ·simp only [ha,if_true]
   split
   ·rename_i hle
    refine ⟨_,gq hg ha hb (by omega),ef (by simp;omega) (fun v hv=>h1 v ?_) (fun i v x hv hx=>?_)⟩
    ·have:=List.mem_of_mem_drop (List.mem_of_mem_take hv);simpa using this
    ·rw [List.getElem?_take] at hv hx
     split at hv
     ·rename_i hlt
      rw [if_pos hlt] at hx
      rw [List.getElem?_drop] at hv hx
      have:=hc _ x hx
      have e1:c.getD (c0+i) undef=v:=by
       simp only [Array.getElem?_toList] at hv
       simp [Array.getD_eq_getD_getElem?,hv]
      rwa [e1] at this
     ·cases hv
   ·trivial
  ·have ha:(P.ti t).k.agg=false:=by simpa using ha
   simp only [ha,Bool.false_eq_true,if_false]
   refine RV.ofO fun x hx=>?_
   have hlt:c0<cs.length:=(List.getElem?_eq_some_iff.1 hx).1
   exact ⟨_,gy hg ha hb (lN (z:=undef) (by omega)),hc c0 x hx⟩
theorem aT {w:W} {x:D} (h:okW w x):x.cells.length=wd w:=by
 cases w with
 | none=>cases x<;>first | rfl | simp [okW,D.scal] at h
 | some n=>cases x<;>first | exact h.1 | exact h.elim
theorem mO {w:W} {x:D} (h:okW w x):∀ y∈x.cells,y.scal=true:=by
 cases w with
 | none=>cases x<;>first | simp [okW,D.scal] at h;done | (intro y hy;simp [D.cells] at hy;subst hy;rfl)
 | some n=>cases x<;>first | exact h.2 | exact h.elim
theorem mB (h:Sim B β s tm w) {xv:Value} {x:AV} (hx:VR w.heap (s.own B.A β) s.used s.hp β xv x) :
  RV (iM (P.ti t) s.hp x) fun y=>∃ v,(Instr.loadAt t xv).run P w=.ok v w∧VR w.heap (s.own B.A β) s.used s.hp β v y:=by
 unfold iM
 split
 ·rename_i p c
  split
  ·rename_i ty cs hp
   cases hx with
   | bx _ _ _ _ _ hx =>
     obtain ⟨k,hk,hk0,rfl⟩:=hx ty cs hp
     obtain ⟨k',c',e,hk',_,hc,hz,hl,h1,hcs⟩:=(h.objs p _ hp).2
     rw [hk] at hk';cases hk'
     exact (sP (P:=P) (t:=t) h hc hl h1 hcs (c0:=c)).mono fun y ⟨v,hr,hv⟩=>⟨v,by simpa [Instr.loadAt,Instr.sureAddr] using hr,hv⟩
  ·trivial
 ·rename_i p j c
  split
  ·rename_i wf xs hp
   cases hx with
   | el _ _ _ _ _ _ hx =>
     obtain ⟨hj,k,hk,rfl⟩:=hx none wf xs hp
     refine RV.ofO fun y hy=>?_
     simp only [Option.map_eq_some_iff] at hy
     obtain ⟨d,hd,rfl⟩:=hy
     rcases (h.objs p _ hp).2 with ⟨h0,h0'⟩ | ⟨k',c',e,hk',hc,hz,hl,hw,hcs⟩
     ·rw [h0'] at hj;simp at hj
     ·rw [hk] at hk';cases hk'
      have hget:xs[j]?=some (xs.getD j .nilp):=by simp [List.getD_eq_getElem?_getD,hj]
      have hmem:xs.getD j .nilp∈xs:=List.mem_of_getElem? hget
      have hok:=hw _ hmem
      have hle:j*wd wf+wd wf≤xs.length*wd wf:=by
       have:=Nat.mul_le_mul_right (wd wf) (Nat.succ_le_of_lt hj);rwa [Nat.succ_mul] at this
      obtain ⟨v,hr,hv⟩:=mG (P:=P) (t:=t) (own:=s.own B.A β) (w:=w) rfl hc (o:=k.o+j*wd wf) (c0:=c) (d:=xs.getD j .nilp) (y:=d)
       (by rw [aT hok];omega) (mO hok) (fun i x hi=>hcs j _ i x hget hi) hd
      exact ⟨v,by simpa [Instr.loadAt,Instr.sureAddr] using hr,.d _ _ hv⟩
  ·trivial
 ·rename_i d
  refine RV.ofO fun y hy=>?_
  simp only [Option.map_eq_some_iff] at hy
  obtain ⟨d',hd,rfl⟩:=hy
  cases hx.toD with
  | ptr b o c e fz d hb hn hz hsc hc =>
    obtain ⟨v,hr,hv⟩:=mG (P:=P) (t:=t) (own:=s.own B.A β) (w:=w) rfl hb (o:=o) (c0:=0) hz hsc hc hd
    exact ⟨v,by simpa [Instr.loadAt,Instr.sureAddr] using hr,.d _ _ hv⟩
 ·trivial
theorem Ec {t:Nat} (h:¬ (P.ti t).sz=0):(P.ti t).k.aV=false:=by
 unfold Program.ti at h ⊢
 split
 ·rename_i i d _ _
  cases d<;>rfl
 ·rename_i hne
  split at h
  ·rename_i i d hi hd;exact absurd hd (hne i d hi)
  ·simp at h
theorem gA {fs:List (Nat × Nat)} (hk:(P.ti t).k=.struct fs) {f o tt:Nat} (hf:fs[f]?=some (o,tt)) (hs:¬ (P.ti tt).sz=0) (b c:Nat) (w:World) :
  (Instr.fieldAt t (.pointer (some ⟨b,c,none⟩)) f).run P w=.ok (.pointer (some ⟨b,c+o,none⟩)) w:=by
 obtain ⟨fl,hu,rfl⟩:=e8 hk
 simp only [List.getElem?_map,Option.map_eq_some_iff,Prod.mk.injEq] at hf
 obtain ⟨fd,hfd,rfl,rfl⟩:=hf
 have hfd':fl[f]?=some fd:=by simpa using hfd
 simp [Instr.fieldAt,run_underlying hu,hfd',Instr.sureAddr,fieldPlace,run_sizeOf (Ec hs),hs,bj]
theorem lg {xv:Value} {x:AV} {f:Nat} (hx:VR w.heap (s.own B.A β) s.used s.hp β xv x) :
  RV (bW (P.ti t) P.ti s.hp x f) fun y=>∃ v,(Instr.fieldAt t xv f).run P w=.ok v w∧VR w.heap (s.own B.A β) s.used s.hp β v y:=by
 unfold bW
 split<;>try trivial
 rename_i fs hk
 split<;>try trivial
 rename_i o tt hf
 split<;>try trivial
 rename_i hs
 split
 ·rename_i p c
  split<;>try trivial
  rename_i ty cs hp
  cases hx with
  | bx _ _ _ hn h1 hx =>
    obtain ⟨k,hk',hk0,rfl⟩:=hx _ _ hp
    exact ⟨_,gA hk hf hs _ _ w,.bx _ _ _ hn rfl fun ty' cs' hp'=>⟨k,hk',hk0,rfl⟩⟩
 ·rename_i p j c
  split<;>try trivial
  rename_i wf xs hp
  cases hx with
  | el _ _ _ _ hn h1 hx =>
    obtain ⟨hj,k,hk',rfl⟩:=hx _ _ _ hp
    refine ⟨_,gA hk hf hs _ _ w,.el _ _ _ _ hn rfl fun ty' w' xs' hp'=>?_⟩
    rw [hp] at hp';cases hp'
    exact ⟨hj,k,hk',by rw [Nat.add_assoc]⟩
 ·rename_i cs
  refine RV.ofO fun y hy=>?_
  simp only [Option.map_eq_some_iff] at hy
  obtain ⟨d,hd,rfl⟩:=hy
  cases hx.toD with
  | ptr b o' c e fz d' hb hn hz hsc hc =>
    refine ⟨_,gA hk hf hs _ _ w,.d _ _ ?_⟩
    simp only [D.cells] at hz hsc hc
    unfold gD at hd
    split at hd
    ·cases hd
    ·simp only at hd
     split at hd
     ·split at hd
      ·rename_i hle
       cases hd
       refine .ptr b (o'+o) c e fz _ hb hn (by simp [D.cells];omega) (fun x hx'=>hsc x (List.mem_of_mem_drop (List.mem_of_mem_take hx'))) (fun i x hi=>?_)
       simp only [D.cells] at hi
       rw [List.getElem?_take] at hi
       split at hi
       ·rw [List.getElem?_drop] at hi
        have:=hc _ x hi
        rwa [← Nat.add_assoc] at this
       ·cases hi
      ·cases hd
     ·have hlt:o<cs.length:=(List.getElem?_eq_some_iff.1 hd).1
      have hsd:=hsc d (List.mem_of_getElem? hd)
      have e1:d.cells=[d]:=by cases d<;>first | rfl | simp [D.scal] at hsd
      refine .ptr b (o'+o) c e fz d hb hn (by rw [e1];simp;omega) (by rw [e1];simpa using hsd) (fun i x hi=>?_)
      rw [e1] at hi
      cases i with
      | zero=>simp at hi;subst hi;exact hc _ _ hd
      | succ i=>simp at hi
 ·trivial
theorem n5 {l e:Nat} (h:(P.ti t).k=.arr l e):P.underlying t=some (.array l e):=by
 obtain ⟨i,d,_,hd,hk,_⟩:=b7 (P:=P) (t:=t) (by rw [h];rfl)
 rw [h] at hk;rw [hd]
 cases d<;>simp [tk] at hk
 rw [hk.1,hk.2]
theorem pV {l e:Nat} (hk:(P.ti t).k=.arr l e) (hg:(P.ti e).k.aV=false) (b o:Nat) (kd:IntKind) (n:Int) (h0:0≤n) (h1:n<l) (w:World) :
  (Instr.indexAt t (.pointer (some ⟨b,o,none⟩)) (.int kd n)).run P w=.ok (.pointer (some ⟨b,o+n.toNat*(P.ti e).sz,none⟩)) w:=by
 have hu:=n5 hk
 simp [Instr.indexAt,Instr.sureAddr,asIntOf,run_underlying hu,h0,h1,run_sizeOf hg,bj]
theorem kO {e:Nat} (hk:(P.ti t).k=.slice e) (hg:(P.ti e).k.aV=false) (b o:Nat) (len cap:Nat) (kd:IntKind) (n:Int) (h0:0≤n) (h1:n<len) (w:World) :
  (Instr.indexAt t (.slice (some ⟨b,o,none⟩) len cap) (.int kd n)).run P w=.ok (.pointer (some ⟨b,o+n.toNat*(P.ti e).sz,none⟩)) w:=by
 have hu:=a8 hk
 simp [Instr.indexAt,asIntOf,run_underlying hu,h0,h1,run_sizeOf hg,bj]
theorem bn {i:TI} {w:W} (h:i.isW w=true):i.k.aV=false∧wd w=i.sz∧w=i.w:=by
 unfold TI.isW at h
 simp only [Bool.and_eq_true,Bool.not_eq_true'] at h
 cases w with
 | none=>simp at h;exact ⟨h.1,by simp [wd,h.2.2],by simp [TI.w,h.2.1]⟩
 | some n=>simp at h;exact ⟨h.1,by simp [wd,h.2.2],by simp [TI.w,h.2.1,h.2.2]⟩
theorem lr {xv jv:Value} {x j:AV} (hx:VR w.heap (s.own B.A β) s.used s.hp β xv x) (hj:VR w.heap (s.own B.A β) s.used s.hp β jv j) :
  RV (bQ (P.ti t) P.ti s.hp x j) fun y=>∃ v,(Instr.indexAt t xv jv).run P w=.ok v w∧VR w.heap (s.own B.A β) s.used s.hp β v y:=by
 unfold bQ
 split
 ·rename_i e p o l kd n hk
  split<;>try trivial
  rename_i wf xs hp
  split<;>try trivial
  rename_i hw
  obtain ⟨hg,hwd,_⟩:=bn hw
  rintro ⟨h0,h1⟩
  obtain rfl:=hj.int
  cases hx with
  | vw _ _ _ _ hn h1' hx =>
    obtain ⟨hle,a,cap,rfl,hx'⟩:=hx _ _ _ hp
    rcases hx' with ⟨hl0,_⟩ | ⟨k,hk',rfl,hcap,hz⟩
    ·omega
    ·refine ⟨_,kO hk hg _ _ _ _ _ n h0 h1 w,.el _ _ _ _ hn rfl fun ty' w' xs' hp'=>?_⟩
     rw [hp] at hp';cases hp'
     refine ⟨by omega,k,hk',?_⟩
     rw [hwd,Nat.add_mul,Nat.add_assoc];rfl
 ·rename_i e wf xs kd n hk
  split<;>try trivial
  rename_i hw
  obtain ⟨hg,hwd,_⟩:=bn hw
  rintro ⟨h0,h1⟩
  obtain rfl:=hj.int
  cases hx.toD with
  | sl0 a cap _=>simp at h1;omega
  | sl b o cap c e' fz _ _ hb hn hcap hz hok hc =>
    have hlt:n.toNat<xs.length:=by omega
    have hget:xs[n.toNat]?=some (xs.getD n.toNat .nilp):=by simp [List.getD_eq_getElem?_getD,hlt]
    have hmem:xs.getD n.toNat .nilp∈xs:=List.mem_of_getElem? hget
    have ho:=hok _ hmem
    have hle:n.toNat*wd wf+wd wf≤xs.length*wd wf:=by
     have:=Nat.mul_le_mul_right (wd wf) (Nat.succ_le_of_lt hlt);rwa [Nat.succ_mul] at this
    refine ⟨_,kO hk hg _ _ _ _ _ n h0 h1 w,.d _ _ (.ptr b _ c e' fz _ hb hn ?_ (mO ho) fun i x hi=>?_)⟩
    ·rw [aT ho,← hwd];omega
    ·rw [← hwd];exact hc _ _ i x hget hi
 ·rename_i l e p i c kd n hk
  split<;>try trivial
  rename_i wf xs hp
  split<;>try trivial
  rename_i hw
  obtain ⟨hw,rfl,hle,_⟩:=hw
  obtain ⟨hg,hwd,_⟩:=bn hw
  rintro ⟨h0,h1⟩
  obtain rfl:=hj.int
  cases hx with
  | el _ _ _ _ hn h1' hx =>
    obtain ⟨hlt,k,hk',rfl⟩:=hx _ _ _ hp
    refine ⟨_,pV hk hg _ _ _ n h0 h1 w,.el _ _ _ _ hn rfl fun ty' w' xs' hp'=>?_⟩
    rw [hp] at hp';cases hp'
    refine ⟨by omega,k,hk',?_⟩
    rw [hwd,Nat.add_mul,Nat.add_zero,Nat.add_zero,Nat.add_assoc]
 ·trivial
theorem Hd (l:List UInt8) (n:Nat) (h:n<l.length):(⟨l.toArray⟩:ByteArray)[n]?=some (l.getD n 0):=by
 have h2:n<(⟨l.toArray⟩:ByteArray).size:=by simpa [ByteArray.size] using h
 rw [ByteArray.getElem?_lt' _ _ h2]
 simp [ByteArray.getElem_eq_getElem_data,List.getD_eq_getElem?_getD,h]
theorem s7 {xv jv:Value} {x j:AV} (hx:VR w.heap (s.own B.A β) s.used s.hp β xv x) (hj:VR w.heap (s.own B.A β) s.used s.hp β jv j) :
  RV (ng (P.ti t) x j) fun y=>∃ v,(Instr.index t xv jv).run P w=.ok v w∧VR w.heap (s.own B.A β) s.used s.hp β v y:=by
 unfold ng
 split
 ·rename_i l kd n hk
  rintro ⟨h0,h1⟩
  obtain rfl:=hj.int
  obtain rfl:=hx.str
  have hget:=Hd l n.toNat (by omega)
  exact ⟨_,by simp [Instr.index,asIntOf,run_underlying (eK hk),h0,hget],.d _ _ (.int _ _)⟩
 ·trivial
theorem Rep.uK {H:Array Obj} {own:Nat→Prop} {v:Value} {wf:W} {xs:List D} (h:Rep H own v (.sl wf xs)):∃ a cap,v=.slice a xs.length cap∧xs.length≤cap ∧
  (xs≠[]→∃ b o c e fz,a=some ⟨b,o,none⟩∧H[b]?=some (.cells c e fz)∧¬ own b∧o+xs.length*wd wf≤c.size∧(∀ x∈xs,okW wf x) ∧
   ∀ i x j d,xs[i]?=some x→x.cells[j]?=some d→Rep H own (c.getD (o+i*wd wf+j) undef) d):=by
 cases h with
 | sl0 a cap _=>exact ⟨a,cap,rfl,Nat.zero_le _,fun h=>absurd rfl h⟩
 | sl b o cap c e fz _ _ hb hn hcap hz hok hc=>exact ⟨_,cap,rfl,hcap,fun _=>⟨b,o,c,e,fz,rfl,hb,hn,hz,hok,hc⟩⟩
theorem cD {n m:Int} {xo:Option AV} {vo:Option Value} (hx:∀ x,xo=some x→∃ v,vo=some v∧VR w.heap (s.own B.A β) s.used s.hp β v x) (hn:xo=none→vo=none) (h:loI n xo=some m) :
  (vo=none∧m=n)∨∃ k,vo=some (.int k m):=by
 unfold loI at h
 split at h
 ·cases h;exact .inl ⟨hn rfl,rfl⟩
 ·cases h
  obtain ⟨v,rfl,hv⟩:=hx _ rfl
  obtain rfl:=hv.int
  exact .inr ⟨_,rfl⟩
 ·cases h
theorem pf (k:IntKind) (i:Int) (y:Nat) (code:BoundsCode) (h0:0≤i) (h1:i≤y) (w:World):(Instr.sliceBound (.int k i) y code).run P w=.ok i.toNat w:=by
 simp [Instr.sliceBound,asIntOf,h0,h1]
theorem da (isSlice:Bool) (len cap:Nat) (lo hi:Option Value) (a b:Int) (hlo:(lo=none∧a=0)∨∃ k,lo=some (.int k a)) (hhi:(hi=none∧b=len)∨∃ k,hi=some (.int k b))
  (h0:0≤a) (h1:a≤b) (h2:b≤cap) (w:World):(Instr.sliceBounds isSlice len cap lo hi none).run P w=.ok (a.toNat,b.toNat,cap) w:=by
 have hb:∀ k code,(Instr.sliceBound (.int k b) cap code).run P w=.ok b.toNat w:=fun k code=>pf k b cap code (by omega) h2 w
 have ha:∀ k code,(Instr.sliceBound (.int k a) b.toNat code).run P w=.ok a.toNat w:=fun k code=>pf k a _ code h0 (by omega) w
 rcases hlo with ⟨rfl,rfl⟩ | ⟨k1,rfl⟩<;>rcases hhi with ⟨rfl,rfl⟩ | ⟨k2,rfl⟩<;>simp only [Instr.sliceBounds]
 ·simp
 ·simp [hb]
 ·have:=ha k1;simp at this;simp [this]
 ·simp [hb,ha]
theorem rG (h:Sim B β s tm w) {xv:Value} {x:AV} {lo hi:Option AV} {lov hiv:Option Value} (hx:VR w.heap (s.own B.A β) s.used s.hp β xv x)
  (hlo:∀ x,lo=some x→∃ v,lov=some v∧VR w.heap (s.own B.A β) s.used s.hp β v x) (hlo':lo=none→lov=none)
  (hhi:∀ x,hi=some x→∃ v,hiv=some v∧VR w.heap (s.own B.A β) s.used s.hp β v x) (hhi':hi=none→hiv=none) :
  RV (gU (P.ti t) P.ti s.hp x lo hi) fun y=>∃ v,(Instr.sliceAt t xv lov hiv none).run P w=.ok v w∧VR w.heap (s.own B.A β) s.used s.hp β v y:=by
 unfold gU
 split
 ·rename_i l hk
  split<;>try trivial
  rename_i a b ha hb
  rintro ⟨h0,h1,h2⟩
  obtain rfl:=hx.str
  have hu:=eK hk
  have hr:=da (P:=P) false l.length l.length lov hiv a b (cD hlo hlo' ha) (cD hhi hhi' hb) h0 h1 h2 w
  refine ⟨.string ⟨((l.drop a.toNat).take (b.toNat-a.toNat)).toArray⟩,?_,.d _ _ (.str _)⟩
  have hsz:(⟨l.toArray⟩:ByteArray).size=l.length:=by simp [ByteArray.size]
  simp only [Instr.sliceAt,Instr.slice,Sem.run_bind,run_underlying hu,Result.andThen_ok,Option.isSome_none,Bool.false_eq_true,if_false,hsz,hr,Sem.run_pure,ByteArray.extract_mk]
 ·rename_i e wf xs hk
  split<;>try trivial
  rename_i hw
  obtain ⟨hg,hwd,_⟩:=bn hw
  split<;>try trivial
  rename_i a b ha hb
  rintro ⟨h0,h1,h2⟩
  have hu:=a8 hk
  obtain ⟨a0,cap,rfl,hcap,hd⟩:=hx.toD.uK
  have hr:=da (P:=P) true xs.length cap lov hiv a b (cD hlo hlo' ha) (cD hhi hhi' hb) h0 h1 (by omega) w
  refine ⟨.slice (if cap=a.toNat then a0 else a0.map (·.add (a.toNat*(P.ti e).sz))) (b.toNat-a.toNat) (cap-a.toNat),?_,.d _ _ ?_⟩
  ·simp [Instr.sliceAt,run_underlying hu,Instr.slice,hr,run_sizeOf hg]
  ·have hlen:((xs.drop a.toNat).take (b.toNat-a.toNat)).length=b.toNat-a.toNat:=by simp;omega
   by_cases hz0:b.toNat-a.toNat=0
   ·have:(xs.drop a.toNat).take (b.toNat-a.toNat)=[]:=by rw [hz0];simp
    rw [this,hz0];exact .sl0 _ _ _
   ·have hne:cap≠a.toNat:=by omega
    rw [if_neg hne]
    obtain ⟨b',o,c,e',fz,rfl,hb',hn,hz,hok,hc⟩:=hd (by rintro rfl;simp at h2;omega)
    have hle:a.toNat*wd wf+(b.toNat-a.toNat)*wd wf≤xs.length*wd wf:=by
     rw [← Nat.add_mul];exact Nat.mul_le_mul_right _ (by omega)
    have e1:(some (⟨b',o,none⟩:Addr)).map (·.add (a.toNat*(P.ti e).sz))=some ⟨b',o+a.toNat*wd wf,none⟩:=by simp [bj,hwd]
    rw [e1]
    have:=Rep.sl (H:=w.heap) (own:=s.own B.A β) b' (o+a.toNat*wd wf) (cap-a.toNat) c e' fz wf ((xs.drop a.toNat).take (b.toNat-a.toNat)) hb' hn (by rw [hlen];omega)
     (by rw [hlen];omega) (fun x hx'=>hok x (List.mem_of_mem_drop (List.mem_of_mem_take hx'))) (fun i x j d hi hj=>by
      rw [List.getElem?_take] at hi
      split at hi
      ·rw [List.getElem?_drop] at hi
       have:=hc _ x j d hi hj
       rwa [show o+a.toNat*wd wf+i*wd wf+j=o+(a.toNat+i)*wd wf+j by rw [Nat.add_mul];omega]
      ·cases hi)
    rwa [hlen] at this
 ·rename_i e p off n hk
  split<;>try trivial
  rename_i wf xs hp
  split<;>try trivial
  rename_i hw
  obtain ⟨hg,hwd,_⟩:=bn hw
  split<;>try trivial
  rename_i a b ha hb
  rintro ⟨h0,h1,h2⟩
  have hu:=a8 hk
  cases hx with
  | vw _ _ _ _ hn h1' hx =>
    obtain ⟨hle,a0,cap,rfl,hx'⟩:=hx _ _ _ hp
    have hcap:n≤cap:=by
     rcases hx' with ⟨rfl,rfl⟩ | ⟨k,_,_,h,_⟩
     ·exact Nat.le_refl _
     ·exact h
    have hr:=da (P:=P) true n cap lov hiv a b (cD hlo hlo' ha) (cD hhi hhi' hb) h0 h1 (by omega) w
    refine ⟨.slice (if cap=a.toNat then a0 else a0.map (·.add (a.toNat*(P.ti e).sz))) (b.toNat-a.toNat) (cap-a.toNat),?_,.vw _ _ _ _ hn rfl fun ty' w' xs' hp'=>?_⟩
    ·simp [Instr.sliceAt,run_underlying hu,Instr.slice,hr,run_sizeOf hg]
    ·rw [hp] at hp';cases hp'
     refine ⟨by omega,_,_,rfl,?_⟩
     by_cases hc0:cap=a.toNat
     ·exact .inl ⟨by omega,by omega⟩
     ·rw [if_neg hc0]
      rcases hx' with ⟨rfl,rfl⟩ | ⟨k,hk',rfl,h3,h4⟩
      ·exact absurd (by omega) hc0
      ·refine .inr ⟨k,hk',?_,by omega,?_⟩
       ·simp [bj,hwd,Nat.add_mul];omega
       ·rw [show off+a.toNat+(cap-a.toNat)=off+cap by omega];exact h4
 ·rename_i e hk
  split<;>try trivial
  rename_i hg
  have hg:(P.ti e).k.aV=false:=by simpa using hg
  split<;>try trivial
  rename_i a b ha hb
  rintro ⟨rfl,rfl⟩
  obtain rfl:=hx.nils
  have hr:=da (P:=P) true 0 0 lov hiv 0 0 (cD hlo hlo' ha) (cD hhi hhi' hb) (by omega) (by omega) (by omega) w
  exact ⟨.slice none 0 0,by simp [Instr.sliceAt,run_underlying (a8 hk),Instr.slice,hr,run_sizeOf hg],.d _ _ .nils⟩
 ·rename_i l e p i c hk
  split<;>try trivial
  rename_i wf xs hp
  split<;>try trivial
  rename_i hw
  obtain ⟨hw,rfl,hle⟩:=hw
  obtain ⟨hg,hwd,_⟩:=bn hw
  obtain rfl:=hlo' rfl
  obtain rfl:=hhi' rfl
  cases hx with
  | el _ _ _ _ hn h1' hx =>
    obtain ⟨hlt,k,hk',rfl⟩:=hx _ _ _ hp
    have hu:=n5 hk
    have hr:=da (P:=P) false l l none none 0 l (.inl ⟨rfl,rfl⟩) (.inl ⟨rfl,rfl⟩) (by omega) (by omega) (by omega) w
    refine ⟨.slice (some (if l=0 then (⟨k.b,k.o+i*wd wf+0,none⟩:Addr) else Addr.add ⟨k.b,k.o+i*wd wf+0,none⟩ (0*(P.ti e).sz))) (l-0) (l-0),?_,.vw _ _ _ _ hn rfl fun ty' w' xs' hp'=>?_⟩
    ·simp [Instr.sliceAt,Instr.sureAddr,run_underlying hu,hr,run_sizeOf hg]
    ·rw [hp] at hp';cases hp'
     refine ⟨hle,_,l,rfl,.inr ⟨k,hk',?_,Nat.le_refl _,?_⟩⟩
     ·split<;>simp [bj]
     ·rcases (h.objs p _ hp).2 with ⟨h1,_⟩ | ⟨k',c',e',h1,_,_,h4,_⟩
      ·rw [hk'] at h1;cases h1
      ·rw [hk'] at h1;cases h1
       have:=Nat.mul_le_mul_right (wd wf) hle
       omega
 ·trivial
end
end Go.Ab
namespace Go.Ab
section
variable {P:Program} {B:Base} {β:Name→Option Blk} {s:St} {tm:Array Value} {w:World} {t:Nat}
theorem qh (op:BinOp) (t:TypeId) (x y:Operand) (a b:Value) (h:(∃ k n,a=.int k n)∨(∃ l,a=.string l)∨(∃ l,a=.bool l)):eqGuard op t x y a b=pure ():=by
 rcases h with ⟨k,n,rfl⟩ | ⟨l,rfl⟩ | ⟨l,rfl⟩
 ·exact eqGuard_at_int ..
 ·exact eqGuard_at_string ..
 ·exact eqGuard_at_bool ..
theorem nJ (h:(P.ti t).k.isBool=true):P.underlying t=some .bool:=by
 unfold Program.ti at h
 split at h
 ·rename_i d _ hd
  cases d<;>simp [tk,TK.isBool] at h
  exact hd
 ·simp [TK.isBool] at h
theorem Dq (i j:IntKind) (a b:Int) (h:0≤b):(binOp .shl t (.int i a) (.int j b)).run P w=.ok (.int i (i.wrap (a*2 ^ min b.toNat i.bits))) w:=by
 show (Op.shift .shl i a j b).run P w=_
 unfold Op.shift
 rw [if_neg (by omega)];rfl
theorem C7 (i j:IntKind) (a b:Int) (h:0≤b):(binOp .shr t (.int i a) (.int j b)).run P w=.ok (.int i (a.fdiv (2 ^ min b.toNat i.bits))) w:=by
 show (Op.shift .shr i a j b).run P w=_
 unfold Op.shift
 rw [if_neg (by omega)];rfl
theorem vt {op:BinOp} {x y:D} {xv yv:Value} (H:Array Obj) (own:Nat→Prop) (hx:Rep H own xv x) (hy:Rep H own yv y) (t:TypeId) (xo yo:Operand) :
  RV (En (P.ti t).k op x y) fun d=>∃ v,(do eqGuard op t xo yo xv yv;binOp op t xv yv:Sem Value).run P w=.ok v w∧Rep H own v d:=by
 have go:∀ (d:D) (v:Value),((∃ k n,xv=.int k n)∨(∃ l,xv=.string l)∨(∃ l,xv=.bool l))→(binOp op t xv yv).run P w=.ok v w→Rep H own v d →
   ∃ v,(do eqGuard op t xo yo xv yv;binOp op t xv yv:Sem Value).run P w=.ok v w∧Rep H own v d:=fun d v hg hr hv=>by
  refine ⟨v,?_,hv⟩
  rw [qh op t xo yo xv yv hg]
  simpa using hr
 unfold En
 split<;>try trivial
 all_goals first
  | (split<;>try trivial
     rename_i hk;subst hk
     cases hx;cases hy
     refine go _ _ (.inl ⟨_,_,rfl⟩) (by simp [binOp,Op.intArith,Op.intCmp];rfl) (by constructor))
  | (split<;>try trivial
     rename_i hk;subst hk
     cases hx;cases hy
     refine go _ _ (.inl ⟨_,_,rfl⟩) (by simp [binOp,Op.intBits,As];rfl) (by constructor))
  | (split<;>try trivial
     rename_i hk
     have hu:=nJ hk
     cases hx;cases hy
     refine go _ _ (.inr (.inr ⟨_,rfl⟩)) (by simp [binOp,run_equal_bool _ _ _ _ hu];rfl) (by constructor))
  | (split<;>try trivial
     rename_i hk;subst hk
     intro h0
     cases hx;cases hy
     refine go _ _ (.inl ⟨_,_,rfl⟩) (by simp [binOp,Op.intDiv,h0];rfl) (by constructor))
  | (cases hx;cases hy
     refine go _ _ (.inr (.inl ⟨_,rfl⟩)) (by simp only [binOp,Op.stringOp,ByteArray.toList_mk,Sem.run_pure];rfl) (by constructor))
  | skip
 ·intro h0
  cases hx;cases hy
  exact go _ _ (.inl ⟨_,_,rfl⟩) (Dq _ _ _ _ h0) (by constructor)
 ·intro h0
  cases hx;cases hy
  exact go _ _ (.inl ⟨_,_,rfl⟩) (C7 _ _ _ _ h0) (by constructor)
 ·intro h0
  cases hx;cases hy
  rename_i a b
  refine go _ (.string ⟨(a++b).toArray⟩) (.inr (.inl ⟨_,rfl⟩)) ?_ (by constructor)
  have hsz:¬ ((((⟨a.toArray⟩:ByteArray).size+(⟨b.toArray⟩:ByteArray).size:Nat):Int) > IntKind.i64.max):=by
   simp [ByteArray.size,IntKind.max_i64];omega
  simp only [binOp,Op.stringOp,if_neg hsz,Sem.run_pure,ByteArray.mk_append_mk]
theorem xq {op:BinOp} {x y:AV} {xv yv:Value} (hx:VR w.heap (s.own B.A β) s.used s.hp β xv x) (hy:VR w.heap (s.own B.A β) s.used s.hp β yv y) (xo yo:Operand) :
  RV (AH (P.ti t).k op x y) fun z=>∃ v,(do eqGuard op t xo yo xv yv;binOp op t xv yv:Sem Value).run P w=.ok v w∧VR w.heap (s.own B.A β) s.used s.hp β v z:=by
 unfold AH
 split<;>try trivial
 exact RV.bind (fun d ⟨v,hr,hv⟩=>⟨v,hr,.d _ _ hv⟩) (vt w.heap (s.own B.A β) hx.toD hy.toD t xo yo)
theorem Br {op:UnOp} {x:AV} {xv:Value} (hx:VR w.heap (s.own B.A β) s.used s.hp β xv x) :
  RV (unR op x) fun z=>∃ v,(Op.unary op xv).run P w=.ok v w∧VR w.heap (s.own B.A β) s.used s.hp β v z:=by
 unfold unR
 split<;>try trivial
 ·obtain rfl:=hx.bool
  exact ⟨_,by simp [Op.unary],.d _ _ (.bool _)⟩
 ·obtain rfl:=hx.int
  exact ⟨_,by simp [Op.unary,Op.intArith],.d _ _ (.int _ _)⟩
theorem uF {c x y:AV} {cv xv yv:Value} (hc:VR w.heap (s.own B.A β) s.used s.hp β cv c) (hx:VR w.heap (s.own B.A β) s.used s.hp β xv x) (hy:VR w.heap (s.own B.A β) s.used s.hp β yv y) :
  RV (jB c x y) fun z=>∃ v,(do pure (.value (if ← asBool cv then xv else yv)):Sem Next).run P w=.ok (.value v) w∧VR w.heap (s.own B.A β) s.used s.hp β v z:=by
 unfold jB
 split<;>try trivial
 ·obtain rfl:=hc.bool;exact ⟨_,by simp [asBool],hx⟩
 ·obtain rfl:=hc.bool;exact ⟨_,by simp [asBool],hy⟩
theorem xS (h:Sim B β s tm w) {x:AV} {xv:Value} (hx:VR w.heap (s.own B.A β) s.used s.hp β xv x) {i:TI} (hi:i=P.ti t) (ty:TypeId) :
  RV (sx i s.hp x) fun z=>∃ v,(Builtin.len_ #[t] ty #[xv]).run P w=.ok v w∧VR w.heap (s.own B.A β) s.used s.hp β v z:=by
 subst hi
 unfold sx
 split
 ·rename_i l hk
  obtain rfl:=hx.str
  have hsz:(⟨l.toArray⟩:ByteArray).size=l.length:=by simp [ByteArray.size]
  exact ⟨.int .i64 l.length,by simp [Builtin.len_,run_underlying (eK hk),goInt,hsz],.d _ _ (.int _ _)⟩
 ·rename_i e wf xs hk
  obtain ⟨a,cap,rfl,_⟩:=hx.toD.uK
  exact ⟨_,by simp [Builtin.len_,run_underlying (a8 hk),goInt],.d _ _ (.int _ _)⟩
 ·rename_i e hk
  obtain rfl:=hx.nils
  exact ⟨_,by simp [Builtin.len_,run_underlying (a8 hk),goInt],.d _ _ (.int _ _)⟩
 ·rename_i e p o l hk
  split<;>try trivial
  rename_i wf xs hp
  cases hx with
  | vw _ _ _ _ hn h1' hx =>
    obtain ⟨hle,a0,cap,rfl,hx'⟩:=hx _ _ _ hp
    exact ⟨_,by simp [Builtin.len_,run_underlying (a8 hk),goInt],.d _ _ (.int _ _)⟩
 ·rename_i a b p hk
  split<;>try trivial
  rename_i es hp
  cases hx with
  | mp _ _ hn h1 hx =>
    obtain ⟨k,hk',rfl⟩:=hx _ hp
    obtain ⟨k',ents,clock,hk'',hb,hz,_⟩:=(h.objs p _ hp).2
    rw [hk'] at hk'';cases hk''
    refine ⟨_,?_,.d _ _ (.int .i64 es.length)⟩
    simp [Builtin.len_,run_underlying (lZ hk),goInt,getObj,Sem.run,hb,hz]
 ·trivial
theorem yr {x y:AV} {xv yv:Value} (hx:VR w.heap (s.own B.A β) s.used s.hp β xv x) (hy:VR w.heap (s.own B.A β) s.used s.hp β yv y) (ts:Array TypeId) (ty:TypeId) :
  RV (Am x y) fun z=>∃ v,(Builtin.max_ ts ty #[xv,yv]).run P w=.ok v w∧VR w.heap (s.own B.A β) s.used s.hp β v z:=by
 unfold Am
 split<;>try trivial
 split<;>try trivial
 obtain rfl:=hx.int;obtain rfl:=hy.int
 exact ⟨_,by simp [Builtin.max_,Builtin.max2],.d _ _ (.int _ _)⟩
theorem xP {x y:AV} {xv yv:Value} (hx:VR w.heap (s.own B.A β) s.used s.hp β xv x) (hy:VR w.heap (s.own B.A β) s.used s.hp β yv y) (ts:Array TypeId) (ty:TypeId) :
  RV (Cn x y) fun z=>∃ v,(Builtin.min_ ts ty #[xv,yv]).run P w=.ok v w∧VR w.heap (s.own B.A β) s.used s.hp β v z:=by
 unfold Cn
 split<;>try trivial
 split<;>try trivial
 obtain rfl:=hx.int;obtain rfl:=hy.int
 exact ⟨_,by simp [Builtin.min_,Builtin.min2],.d _ _ (.int _ _)⟩
theorem uv {t':Nat} {x:AV} {xv:Value} (hx:VR w.heap (s.own B.A β) s.used s.hp β xv x) :
  RV (tF (P.ti t) (P.ti t') x) fun z=>∃ v,(convert t t' xv).run P w=.ok v w∧VR w.heap (s.own B.A β) s.used s.hp β v z:=by
 unfold tF
 split<;>try trivial
 ·rename_i k1 k2 j n hk1 hk2
  obtain rfl:=hx.int
  exact ⟨_,by simp [convert,run_underlying (u2 hk1),run_underlying (u2 hk2),Conv.intToInt],.d _ _ (.int _ _)⟩
 ·rename_i l hk1 hk2
  obtain rfl:=hx.str
  exact ⟨_,by simp [convert,run_underlying (eK hk1),run_underlying (eK hk2)],.d _ _ (.str _)⟩
theorem oA {x:AV} {xv:Value} (hx:VR w.heap (s.own B.A β) s.used s.hp β xv x) (i:Nat) :
  RV (gZ x i) fun z=>∃ v,(Instr.extract xv i).run P w=.ok v w∧VR w.heap (s.own B.A β) s.used s.hp β v z:=by
 unfold gZ
 split<;>try trivial
 rename_i vs
 refine RV.ofO fun y hy=>?_
 cases hx with
 | tup xs _ hs h =>
   have hlt:i<xs.size:=by rw [hs];exact (List.getElem?_eq_some_iff.1 hy).1
   have:=h i y hy
   refine ⟨_,?_,this⟩
   simp [Instr.extract,Array.getElem?_eq_getElem hlt,Array.getD_eq_getD_getElem?]
theorem x9 {B:Base} {x:AV} {xv:Value} (hx:VR w.heap (s.own B.A β) s.used s.hp β xv x) :
  RV (Az s.hp x) fun z=>(∃ a,xv=.pointer (some a))∧VR w.heap (s.own B.A β) s.used s.hp β xv z:=by
 unfold Az
 split<;>try trivial
 split<;>try trivial
 rename_i p c ty cs hp
 cases hx with
 | bx _ _ _ hu h1 h =>
   obtain ⟨k,_,_,rfl⟩:=h ty cs hp
   exact ⟨⟨_,rfl⟩,.bx _ _ _ hu h1 h⟩
theorem l6 {fn:Fn} {first:Array Operand} {caps:List AV} {cvs:Array Value} {ρ:Operand→Value} (hs:cvs.size=caps.length)
  (h:∀ (i:Nat) x,caps[i]?=some x→VR w.heap (s.own B.A β) s.used s.hp β (cvs.getD i undef) x) :
  RV (fw fn first.toList caps) fun z=>∃ v,(Instr.makeFunc fn (first.map ρ) cvs).run P w=.ok v w∧VR w.heap (s.own B.A β) s.used s.hp β v z:=by
 unfold fw
 split<;>try trivial
 rename_i f hf
 have:first=#[]:=by simpa using hf
 subst this
 exact ⟨_,by simp [Instr.makeFunc],.clo f cvs caps hs h⟩
theorem jn (hg:(P.ti t).k.aV=false) (ha:(P.ti t).k.agg=true) (cs:Array Value) (o:Nat):(part t cs o).run P w=.ok (.agg (cs.extract o (o+(P.ti t).sz))) w:=by
 simp [part,ig hg,ha,run_sizeOf hg]
theorem jt (hg:(P.ti t).k.aV=false) (ha:(P.ti t).k.agg=false) (cs:Array Value) (o:Nat) (v:Value) (h:cs[o]?=some v):(part t cs o).run P w=.ok v w:=by
 simp [part,ig hg,ha,h]
theorem extract_toArray (c:Array Value) (o z:Nat):c.extract o (o+z)=((c.toList.drop o).take z).toArray:=by
 apply Array.ext'
 simp [List.extract_eq_take_drop]
theorem rM {H:Array Obj} {own:Nat→Prop} {v:Value} {d y:D} {c0:Nat} (hd:∃ cs,d=.agg cs) (h:Rep H own v d) (hp:gD (P.ti t) d c0=some y) :
  ∃ c u,v=.agg c∧(part t c c0).run P w=.ok u w∧Rep H own u y:=by
 obtain ⟨cs,rfl⟩:=hd
 cases h with
 | agg vs _ hs hsc h =>
   unfold gD at hp
   by_cases hg:(P.ti t).k.aV=true
   ·simp [hg] at hp
   ·have hg:(P.ti t).k.aV=false:=by simpa using hg
    simp only [hg,Bool.false_eq_true,if_false] at hp
    by_cases ha:(P.ti t).k.agg=true
    ·simp only [ha,if_true] at hp
     split at hp
     ·rename_i hle
      cases hp
      refine ⟨vs,_,rfl,jn hg ha vs c0,?_⟩
      rw [extract_toArray]
      refine .agg _ _ (by simp;omega) (fun x hx=>hsc x (List.mem_of_mem_drop (List.mem_of_mem_take hx))) (fun i x hi=>?_)
      rw [List.getElem?_take] at hi
      split at hi
      ·rename_i hlt
       rw [List.getElem?_drop] at hi
       have:=h (c0+i) x hi
       have e1:((vs.toList.drop c0).take (P.ti t).sz).toArray.getD i undef=vs.getD (c0+i) undef:=by
        simp [Array.getD_eq_getD_getElem?,hlt]
       rw [e1];exact this
      ·cases hi
     ·cases hp
    ·have ha:(P.ti t).k.agg=false:=by simpa using ha
     simp only [ha,Bool.false_eq_true,if_false] at hp
     have hlt:c0<vs.size:=by rw [hs];exact (List.getElem?_eq_some_iff.1 hp).1
     exact ⟨vs,_,rfl,jt hg ha vs c0 _ (lN (z:=undef) hlt),h c0 y hp⟩
theorem tL {xv:Value} {x:AV} {f:Nat} (hx:VR w.heap (s.own B.A β) s.used s.hp β xv x) :
  RV (nF (P.ti t) P.ti x f) fun y=>∃ v,(Instr.field t xv f).run P w=.ok v w∧VR w.heap (s.own B.A β) s.used s.hp β v y:=by
 unfold nF
 split<;>try trivial
 rename_i fs hk
 split<;>try trivial
 rename_i o tt hf
 obtain ⟨fl,hu,rfl⟩:=e8 hk
 simp only [List.getElem?_map,Option.map_eq_some_iff,Prod.mk.injEq] at hf
 obtain ⟨fd,hfd,rfl,rfl⟩:=hf
 have hfd':fl[f]?=some fd:=by simpa using hfd
 have hrun:∀ (c:Array Value) (u:Value),(part fd.type c fd.offset).run P w=.ok u w→(Instr.field t (.agg c) f).run P w=.ok u w:=fun c u hr=>by
  simp [Instr.field,run_underlying hu,hfd',asAgg,hr]
 split
 ·rename_i cs
  refine RV.ofO fun y hy=>?_
  simp only [Option.map_eq_some_iff] at hy
  obtain ⟨d,hd,rfl⟩:=hy
  obtain ⟨c,u,rfl,hr,hv⟩:=rM (P:=P) (w:=w) ⟨cs,rfl⟩ hx.toD hd
  exact ⟨u,hrun c u hr,.d _ _ hv⟩
 ·rename_i cs
  cases hx with
  | agg vs _ hs h1 h =>
    unfold mW
    by_cases hg:(P.ti fd.type).k.aV=true
    ·simp [hg,RV]
    ·have hg:(P.ti fd.type).k.aV=false:=by simpa using hg
     simp only [hg,Bool.false_eq_true,if_false]
     by_cases ha:(P.ti fd.type).k.agg=true
     ·simp only [ha,if_true]
      split
      ·rename_i hle
       refine ⟨_,hrun _ _ (jn hg ha vs fd.offset),?_⟩
       rw [extract_toArray]
       refine ef (by simp;omega) (fun v hv=>h1 v ?_) (fun i v x hv hx=>?_)
       ·have:=List.mem_of_mem_drop (List.mem_of_mem_take hv);simpa using this
       ·rw [List.getElem?_take] at hv hx
        split at hv
        ·rename_i hlt
         rw [if_pos hlt] at hx
         rw [List.getElem?_drop] at hv hx
         have:=h _ x hx
         have e1:vs.getD (fd.offset+i) undef=v:=by
          simp only [Array.getElem?_toList] at hv
          simp [Array.getD_eq_getD_getElem?,hv]
         rwa [e1] at this
        ·cases hv
      ·trivial
     ·have ha:(P.ti fd.type).k.agg=false:=by simpa using ha
      simp only [ha,Bool.false_eq_true,if_false]
      refine RV.ofO fun x hx=>?_
      have hlt:fd.offset<vs.size:=by rw [hs];exact (List.getElem?_eq_some_iff.1 hx).1
      exact ⟨_,hrun _ _ (jt hg ha vs fd.offset _ (lN (z:=undef) hlt)),h _ x hx⟩
 ·trivial
end
end Go.Ab
namespace Go.Ab
section
variable {P:Program} {B:Base} {β:Name→Option Blk} {s:St} {tm:Array Value} {w:World} {t:Nat}
theorem fE {used:List Nat} {p:Name} (h:nm used p) (ht:t ∉ used):p≠[t]:=by
 obtain ⟨a,l,rfl,ha⟩:=h
 intro e
 simp at e
 exact ht (e.1 ▸ ha)
theorem Sim.renew (h:Sim B β s tm w) (ht:t ∉ s.used) {p:Name} {ob:Ob} {k:Blk} (hp:s.hp p=some ob) (hk:β p=some k) (ty:Option Nat) (wf:W) (xs:List D) (o':Nat) {w':World} (hio:wio w'=wio w) (hsz:w'.heap.size=w.heap.size)
  (hw:∀ b,b≠k.b→w'.heap[b]?=w.heap[b]?)
  (hO:(∀ v d,Rep w.heap (s.own B.A β) v d→Rep w'.heap (s.own B.A β) v d) →
   ∃ c e,w'.heap[k.b]?=some (.cells c (ty.getD e) (0,0))∧c.size=k.z∧o'+xs.length*wd wf≤k.z∧(∀ x∈xs,okW wf x) ∧
    ∀ i x j d,xs[i]?=some x→x.cells[j]?=some d→Rep w'.heap (s.own B.A β) (c.getD (o'+i*wd wf+j) undef) d) :
  Sim B (au β [t] (some ⟨k.b,o',k.z⟩)) ((s.set p none).add t (.arrT ty wf xs)) tm w':=by
 obtain ⟨β',hβ'⟩:∃ β',au β [t] (some ⟨k.b,o',k.z⟩)=β':=⟨_,rfl⟩
 obtain ⟨s',hs'⟩:∃ s',(s.set p none).add t (.arrT ty wf xs)=s':=⟨_,rfl⟩
 have hnew:β' [t]=some ⟨k.b,o',k.z⟩:=by rw [← hβ'];simp [au]
 have hold:∀ q,q≠[t]→β' q=β q:=fun q hq=>by rw [← hβ'];simp [au,hq]
 have hpn:=fE (h.objs p ob hp).1 ht
 have hhn:s'.hp [t]=some (.arrT ty wf xs):=by rw [← hs'];simp [St.add,au]
 have hhp:s'.hp p=none:=by rw [← hs'];simp [St.add,St.set,au,hpn]
 have hhq:∀ q,q≠[t]→q≠p→s'.hp q=s.hp q:=fun q h1 h2=>by rw [← hs'];simp [St.add,St.set,au,h1,h2]
 have hus:s'.used=t::s.used:=by rw [← hs'];rfl
 have hfr:s'.fr=s.fr:=by rw [← hs'];rfl
 have hpne:s.hp p≠none:=by rw [hp];simp
 have hown:s'.own B.A β'=s.own B.A β:=by
  funext b
  refine propext (or_congr_right ⟨?_,?_⟩)
  ·rintro ⟨q,l,hq,hl,rfl⟩
   by_cases e1:q=[t]
   ·subst e1;rw [hnew] at hl;cases hl;exact ⟨p,k,hpne,hk,rfl⟩
   ·by_cases e2:q=p
    ·subst e2;exact absurd hhp hq
    ·rw [hold q e1] at hl;rw [hhq q e1 e2] at hq;exact ⟨q,l,hq,hl,rfl⟩
  ·rintro ⟨q,l,hq,hl,rfl⟩
   by_cases e2:q=p
   ·subst e2;rw [hk] at hl;cases hl;exact ⟨[t],_,by rw [hhn];simp,hnew,rfl⟩
   ·cases ho:s.hp q with
    | none=>exact absurd ho hq
    | some o =>
      have e1:=fE (h.objs q o ho).1 ht
      exact ⟨q,l,by rw [hhq q e1 e2];exact hq,by rw [hold q e1];exact hl,rfl⟩
 have hr:∀ v d,Rep w.heap (s.own B.A β) v d→Rep w'.heap (s.own B.A β) v d:=fun v d hd=>hd.mono (fun b hb _=>hw b fun e=>hb (.inr ⟨p,k,hpne,hk,e.symm⟩)) (fun _ _ h=>h)
 have hst:∀ q,nm s.used q→Stays s.hp s'.hp β β' q:=by
  intro q hq o ho
  have e1:=fE hq ht
  have e2:q≠p:=by rintro rfl;rw [hhp] at ho;cases ho
  exact ⟨o,by rwa [hhq q e1 e2] at ho,Ob.bE _,hold q e1⟩
 have hu:∀ x∈s.used,x∈s'.used:=fun x hx=>by rw [hus];exact List.mem_cons_of_mem _ hx
 rw [hβ',hs']
 refine { tms:=h.tms,io:=hio.trans h.io,size:=by rw [hsz];exact h.size,frame:=?_,slots:=fun i=>?_,objs:=?_,blocks:=?_,inj:=?_,us:=fun x hx=>hu x (h.us x hx), stay:=fun p hp=>(hold p (fE (hp.mono h.us) ht)).trans (h.stay p hp) }
 ·intro b hb hn
  rw [hw b ?_]
  ·exact h.frame b hb hn
  ·rintro rfl
   rcases (h.blocks p k hpne hk).2.2 with h3 | h3
   ·omega
   ·exact hn h3
 ·rw [hown,hfr];exact (h.slots i).mono hr hu hst
 ·intro q o ho
  rw [hown]
  by_cases e1:q=[t]
  ·subst e1
   rw [hhn] at ho;cases ho
   obtain ⟨c,e,h1,h2,h3,h4,h5⟩:=hO hr
   exact ⟨⟨t,[],rfl,by rw [hus];exact List.mem_cons_self⟩,.inr ⟨_,c,e,hnew,h1,h2,h3,h4,h5⟩⟩
  ·have e2:q≠p:=by rintro rfl;rw [hhp] at ho;cases ho
   rw [hhq q e1 e2] at ho
   obtain ⟨h1,h2⟩:=h.objs q o ho
   refine ⟨h1.mono hu,h2.mono hr hu hst (hold q e1) fun l hl=>hw l.b fun e=>?_⟩
   exact e2 (h.inj q p l k (by rw [ho];simp) hpne hl hk e)
 ·intro q l hq hl
  rw [hsz]
  by_cases e1:q=[t]
  ·subst e1;rw [hnew] at hl;cases hl;exact h.blocks p k hpne hk
  ·have e2:q≠p:=by rintro rfl;exact hq hhp
   rw [hold q e1] at hl;rw [hhq q e1 e2] at hq
   exact h.blocks q l hq hl
 ·intro q q' l l' hq hq' hl hl' e
  have key:∀ q l,s'.hp q≠none→β' q=some l→∃ r,(q=[t]∧r=p∨q≠[t]∧r=q∧q≠p)∧s.hp r≠none∧∃ m,β r=some m∧m.b=l.b:=by
   intro q l hq hl
   by_cases e1:q=[t]
   ·subst e1;rw [hnew] at hl;cases hl;exact ⟨p,.inl ⟨rfl,rfl⟩,hpne,k,hk,rfl⟩
   ·have e2:q≠p:=by rintro rfl;exact hq hhp
    rw [hold q e1] at hl;rw [hhq q e1 e2] at hq
    exact ⟨q,.inr ⟨e1,rfl,e2⟩,hq,l,hl,rfl⟩
  obtain ⟨r,h1,h2,m,h3,h4⟩:=key q l hq hl
  obtain ⟨r',g1,g2,m',g3,g4⟩:=key q' l' hq' hl'
  have:r=r':=h.inj r r' m m' h2 g2 h3 g3 (by rw [h4,g4,e])
  rcases h1 with ⟨rfl,rfl⟩ | ⟨h1,rfl,h5⟩<;>rcases g1 with ⟨rfl,rfl⟩ | ⟨g1,rfl,g5⟩
  ·rfl
  ·exact absurd this.symm g5
  ·exact absurd this h5
  ·exact this
theorem Sim.dU (h:Sim B β s tm w) (ht:t ∉ s.used) (ty:Option Nat) (wf:W):Sim B (au β [t] none) (s.add t (.arrT ty wf [])) tm w:=by
 have hold:∀ q,q≠[t]→au β [t] none q=β q:=fun q hq=>by simp [au,hq]
 have hnew:au β [t] none [t]=none:=by simp [au]
 have hhq:∀ q,q≠[t]→(s.add t (.arrT ty wf [])).hp q=s.hp q:=fun q h1=>by simp [St.add,au,h1]
 have hown:(s.add t (.arrT ty wf [])).own B.A (au β [t] none)=s.own B.A β:=by
  funext b
  refine propext (or_congr_right ⟨?_,?_⟩)
  ·rintro ⟨q,l,hq,hl,rfl⟩
   by_cases e1:q=[t]
   ·subst e1;rw [hnew] at hl;cases hl
   ·rw [hold q e1] at hl;rw [hhq q e1] at hq;exact ⟨q,l,hq,hl,rfl⟩
  ·rintro ⟨q,l,hq,hl,rfl⟩
   cases ho:s.hp q with
   | none=>exact absurd ho hq
   | some o =>
     have e1:=fE (h.objs q o ho).1 ht
     exact ⟨q,l,by rw [hhq q e1];exact hq,by rw [hold q e1];exact hl,rfl⟩
 have hst:∀ q,nm s.used q→Stays s.hp (s.add t (.arrT ty wf [])).hp β (au β [t] none) q:=by
  intro q hq o ho
  have e1:=fE hq ht
  exact ⟨o,by rwa [hhq q e1] at ho,Ob.bE _,hold q e1⟩
 have hu:∀ x∈s.used,x∈(s.add t (.arrT ty wf [])).used:=fun x hx=>List.mem_cons_of_mem _ hx
 refine { tms:=h.tms,io:=h.io,size:=h.size,frame:=h.frame,slots:=fun i=>?_,objs:=?_,blocks:=?_,inj:=?_,us:=fun x hx=>hu x (h.us x hx), stay:=fun p hp=>(hold p (fE (hp.mono h.us) ht)).trans (h.stay p hp) }
 ·rw [hown];exact (h.slots i).mono (fun _ _ h=>h) hu hst
 ·intro q o ho
  rw [hown]
  by_cases e1:q=[t]
  ·subst e1
   have:o=.arrT ty wf []:=by simpa [St.add,au] using ho.symm
   subst this
   exact ⟨⟨t,[],rfl,List.mem_cons_self⟩,.inl ⟨hnew,rfl⟩⟩
  ·rw [hhq q e1] at ho
   obtain ⟨h1,h2⟩:=h.objs q o ho
   exact ⟨h1.mono hu,h2.mono (fun _ _ h=>h) hu hst (hold q e1) fun _ _=>rfl⟩
 ·intro q l hq hl
  by_cases e1:q=[t]
  ·subst e1;rw [hnew] at hl;cases hl
  ·rw [hold q e1] at hl;rw [hhq q e1] at hq
   exact h.blocks q l hq hl
 ·intro q q' l l' hq hq' hl hl' e
  by_cases e1:q=[t]
  ·subst e1;rw [hnew] at hl;cases hl
  ·by_cases e2:q'=[t]
   ·subst e2;rw [hnew] at hl';cases hl'
   ·rw [hold q e1] at hl;rw [hhq q e1] at hq;rw [hold q' e2] at hl';rw [hhq q' e2] at hq'
    exact h.inj q q' l l' hq hq' hl hl' e
theorem VR.FR {H own} (p:Name) (b z:Nat) {used:List Nat} {hp:Name→Option Ob} {β:Name→Option Blk} (hu:nm used p) (hβ:β p=some ⟨b,0,z⟩):VR H own used hp β (.pointer (some ⟨b,0,none⟩)) (.bx p 0) :=
 .bx _ _ _ hu rfl fun _ _ _=>⟨_,hβ,rfl,rfl⟩
theorem jH (h:Sim B β s tm w) (ht:t<B.n) (hu:t ∉ s.used) {c:Array Value} {cs:List AV} (hs:c.size=cs.length) (h1:∀ u∈c,u.oneCell'=true)
  (hv:∀ i x,cs[i]?=some x→VR w.heap (s.own B.A β) s.used s.hp β (c.getD i undef) x) (e:TypeId) (ty:Option Nat) (hty:ty.getD e=e) :
  ∃ β',Sim B β' ((s.add t (.boxT ty cs)).put t (.bx [t] 0)) (tm.setIfInBounds t (.pointer (some ⟨w.heap.size,0,none⟩))) (w.alloc (.cells c e)):=by
 obtain ⟨hsim,_⟩:=h.alloc hu (.cells c e) (.boxT ty cs) c.size (fun β' hβ hmono =>
  ⟨_,c,e,hβ,rfl,by rw [hty];exact heap_alloc_new w _,rfl,hs,h1,fun j x hj=>hmono _ _ (hv j x hj)⟩)
 refine ⟨_,hsim.put ht (.FR [t] w.heap.size c.size ⟨t,[],rfl,List.mem_cons_self⟩ ?_)⟩
 simp [au]
theorem cJ (h:Sim B β s tm w) (ht:t<B.n) (hu:t ∉ s.used) {c:Array Value} {wf:W} {xs:List D} {cap:Nat} (hl:xs.length≤cap) (hz:cap*wd wf≤c.size) (hok:∀ x∈xs,okW wf x)
  (hv:∀ i x j d,xs[i]?=some x→x.cells[j]?=some d→Rep w.heap (s.own B.A β) (c.getD (i*wd wf+j) undef) d) (e:TypeId) (ty:Option Nat) (hty:ty.getD e=e) :
  ∃ β',Sim B β' ((s.add t (.arrT ty wf xs)).put t (.vw [t] 0 xs.length)) (tm.setIfInBounds t (.slice (some ⟨w.heap.size,0,none⟩) xs.length cap)) (w.alloc (.cells c e)):=by
 have hle:xs.length*wd wf≤cap*wd wf:=Nat.mul_le_mul_right _ hl
 obtain ⟨hsim,_⟩:=h.alloc hu (.cells c e) (.arrT ty wf xs) c.size (fun β' hβ hmono =>
  .inr ⟨_,c,e,hβ,by rw [hty];exact heap_alloc_new w _,rfl,by simp;omega,hok,fun i x j d hi hj=>by
   have:=hmono _ _ (.d _ _ (hv i x j d hi hj))
   simpa using this.toD⟩)
 refine ⟨_,hsim.put ht (.vw _ _ _ _ ⟨t,[],rfl,List.mem_cons_self⟩ rfl fun ty' w' xs' hp'=>?_)⟩
 have:w'=wf∧xs'=xs:=by
  have h3:ty'=ty∧wf=w'∧xs=xs':=by simpa [St.add,au,eq_comm] using hp'
  exact ⟨h3.2.1.symm,h3.2.2.symm⟩
 obtain ⟨rfl,rfl⟩:=this
 exact ⟨by simp,_,cap,rfl,.inr ⟨⟨w.heap.size,0,c.size⟩,by simp [au],by simp,hl,by simpa using hz⟩⟩
end
end Go.Ab

