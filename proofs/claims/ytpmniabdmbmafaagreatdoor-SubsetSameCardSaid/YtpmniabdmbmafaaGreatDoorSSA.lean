/-
  The generic layer, part 1: data by values ('D'), what a temporary may hold ('AV'), objects by names ('Ob'), and when machine memory stands for them ('Rep', 'VR', 'OR', 'Sim'). It names no program. (with the parts that follow it) (with the parts that follow it)
-/
import Derived.CallsIn
import Derived.Laws.AppendOwn
import Derived.Laws.Strings
import Derived.Laws.Cells
import Derived.Laws.Rows
import Derived.Laws.Tables
import Derived.Laws.IdiomCopy
import Derived.Laws.Entries
import Derived.Attr
set_option linter.all false
set_option maxHeartbeats 16000000
namespace Go.Ab
abbrev ahX:=@List.getD_eq_getElem?_getD
abbrev ahY:=@Array.getD_eq_getD_getElem?
abbrev ahZ:=@List.mem_singleton
abbrev ah0:=@List.mem_cons_self
abbrev ah1:=@List.mem_append
abbrev ah2:=@List.getElem_mem
abbrev ah3:=@List.getElem?_eq_some_iff
abbrev ah4:=@Option.map_eq_some_iff
abbrev ah5:=@List.take_succ_eq_append_getElem
abbrev ah6:=@List.mem_cons
abbrev ah7:=@List.length_append
abbrev ah8:=@List.mem_cons_of_mem
abbrev ah9:=@List.mem_map
abbrev aia:=@Bool.and_eq_true
abbrev aib:=@List.getElem?_eq_getElem
abbrev aic:=@List.take_of_length_le
abbrev aid:=@List.map_cons
abbrev aie:=@Nat.zero_le
abbrev aif:=@List.mem_append_left
abbrev aih:=@List.getElem?_append_left
abbrev aii:=@List.getElem?_map
abbrev aij:=@List.take_length
abbrev aik:=@List.length_map
abbrev ail:=@List.map_append
abbrev aim:=@List.getElem?_append_right
abbrev ain:=@Nat.le_refl
abbrev aio:=@List.all_eq_true
abbrev aip:=@Bool.false_eq_true
abbrev aiq:=@List.mem_range
abbrev air:=@List.length_take
abbrev ais:=@Option.some.inj
abbrev ait:=@List.mem_filter
abbrev aiu:=@Nat.mul_le_mul_right
abbrev aiv:=@Option.some.injEq
abbrev aiw:=@List.not_mem_nil
abbrev aix:=@Nat.le_trans
abbrev aiy:=@List.getElem?_set_ne
abbrev aiz:=@List.mem_of_getElem?
abbrev aiA:=@List.any_eq_true
abbrev aiB:=@List.getElem_of_mem
abbrev aiC:=@List.getElem?_set_self
abbrev aiD:=@Nat.zero_add
abbrev aiE:=@List.getElem?_eq_none
abbrev aiF:=@List.length_filter_le
abbrev aiG:=@Nat.lt_or_ge
abbrev aiH:=@Array.getElem?_eq_getElem
abbrev aiI:=@Array.getElem?_toList
abbrev aiJ:=@List.mem_of_mem_take
abbrev aiK:=@Nat.lt_of_lt_of_le
abbrev aiL:=@Bool.or_eq_true
abbrev aiM:=@Array.getElem?_eq_none
abbrev aiN:=@Array.getElem?_append
abbrev aiO:=@List.map_nil
abbrev aiP:=@Bool.false_and
abbrev aiQ:=@List.map_congr_left
abbrev aiR:=@List.append_nil
abbrev aiS:=@List.append_assoc
abbrev aiT:=@Bool.not_eq_true'
abbrev aiU:=@List.getElem?_drop
abbrev aiV:=@List.map_map
abbrev aiW:=@Nat.not_lt_zero
abbrev aiX:=@List.mem_of_mem_drop
abbrev aiY:=@List.ext_getElem?
abbrev aiZ:=@List.nodup_append
abbrev ai0:=@List.ext_getElem
abbrev ai1:=@List.length_set
abbrev ai2:=@Nat.succ_mul
abbrev ai3:=@List.nodup_cons
abbrev ai4:=@List.getElem?_take
abbrev ai5:=@Bool.or_eq_false_iff
abbrev ai6:=@List.any_eq_false
abbrev ai7:=@List.eq_nil_of_length_eq_zero
abbrev ai8:=@Nat.add_mul
abbrev ai9:=@List.length_replicate
abbrev aja:=@Decidable.byContradiction
abbrev ajb:=@List.eq_of_mem_replicate
abbrev ajc:=@List.cons.injEq
abbrev ajd:=@List.mem_append_right
abbrev aje:=@List.getElem?_take_of_lt
abbrev ajf:=@List.getElem?_toArray
abbrev ajg:=@Array.getElem?_modify
abbrev ajh:=@Nat.le_succ_of_le
abbrev aji:=@List.mem_range'_1
abbrev ajj:=@Option.bind_eq_some_iff
abbrev ajk:=@List.length_eq_zero_iff
abbrev ajl:=@List.pairwise_iff_getElem
abbrev ajm:=@List.getElem?_set
abbrev ajn:=@Nat.add_assoc
abbrev ajo:=@Bool.not_true
abbrev ajp:=@Bool.true_and
abbrev ajq:=@List.mem_iff_getElem?
abbrev ajr:=@Prod.mk.inj
abbrev ajs:=@List.pairwise_cons
abbrev ajt:=@List.getElem?_replicate
abbrev aju:=@Nat.le_of_not_lt
abbrev ajv:=@List.map_set
abbrev ajw:=@Array.getElem?_setIfInBounds_ne
abbrev ajx:=@Array.eq_empty_of_size_eq_zero
abbrev ajy:=@List.mem_or_eq_of_mem_set
abbrev ajz:=@List.drop_eq_getElem_cons
abbrev ajA:=@List.filter_cons
abbrev ajB:=@List.getElem_map
abbrev ajC:=@List.map_drop
abbrev ajD:=@Bool.and_false
abbrev ajE:=@List.pairwise_singleton
abbrev ajF:=@Bool.eq_iff_iff
abbrev ajG:=@List.length_reverse
abbrev ajH:=@Array.getElem?_eq_some_iff
abbrev ajI:=@Bool.false_or
abbrev ajJ:=@List.take_append_drop
abbrev ajK:=@List.size_toArray
abbrev ajL:=@List.foldl_append
abbrev ajM:=@Prod.mk.injEq
abbrev ajN:=@List.map_take
abbrev ajO:=@List.length_pos_iff
abbrev ajP:=@List.mem_flatMap
abbrev ajQ:=@List.length_pos_of_mem
abbrev ajR:=@List.length_mergeSort
abbrev ajS:=@List.flatMap_cons
abbrev ajT:=@List.contains_eq_mem
abbrev ajU:=@List.getElem?_zip_eq_some
abbrev ajV:=@List.mem_of_find?_eq_some
abbrev ajW:=@List.getElem_set
abbrev ajX:=@List.mem_reverse
abbrev ajY:=@List.filter_cons_of_pos
abbrev ajZ:=@List.eq_nil_iff_forall_not_mem
abbrev aj0:=@Nat.min_eq_left
abbrev aj1:=@Bool.not_eq_false'
abbrev aj2:=@List.find?_eq_none
abbrev aj3:=@List.take_append_of_le_length
abbrev aj4:=@List.getElem_take
abbrev aj5:=@List.filter_congr
abbrev aj6:=@Bool.not_false
abbrev aj7:=@List.drop_drop
abbrev aj8:=@List.concat_eq_append
abbrev aj9:=@Array.mem_toList_iff
abbrev aka:=@List.countP_cons
abbrev akb:=@Bool.or_assoc
abbrev akc:=@Array.getElem?_push
abbrev akd:=@List.getD_cons_zero
abbrev ake:=@Option.isSome_iff_exists
abbrev akf:=@List.length_erase_of_mem
abbrev akg:=@List.filter_append
abbrev akh:=@List.mem_mergeSort
abbrev aki:=@Nat.add_sub_cancel
abbrev akj:=@Array.ext'
abbrev akk:=@List.nodup_nil
abbrev akl:=@Array.size_append
abbrev akm:=@List.pairwise_map
abbrev akn:=@Nat.mul_one
abbrev ako:=@List.drop_eq_nil_of_le
abbrev akp:=@Nat.lt_irrefl
abbrev akq:=@Nat.lt_succ_self
abbrev akr:=@Bool.and_eq_false_iff
abbrev aks:=@List.countP_le_length
abbrev akt:=@List.eq_nil_or_concat
abbrev aku:=@Nat.sub_self
abbrev akv:=@List.any_append
abbrev akw:=@List.range_succ
abbrev akx:=@List.find?_some
abbrev aky:=@List.pairwise_append
abbrev akz:=@List.flatMap_append
abbrev akA:=@List.mapM_cons
abbrev akB:=@List.drop_zero
abbrev akC:=@List.dropLast_concat_getLast
abbrev akD:=@List.map_replicate
abbrev akE:=@List.getElem?_concat_length
abbrev akF:=@Bool.and_true
abbrev akG:=@Int.tdiv_eq_ediv_of_nonneg
abbrev akH:=@Bool.or_false
abbrev akI:=@Nat.succ_le_of_lt
abbrev akJ:=@List.all_eq_false
abbrev akK:=@List.findIdx_cons
abbrev akL:=@List.getElem?_eq_none_iff
abbrev akM:=@List.mem_toArray
abbrev akN:=@Array.getElem?_push_size
abbrev akO:=@List.length_drop
abbrev akP:=@List.set_set
abbrev akQ:=@List.isEmpty_iff
abbrev akR:=@Nat.le_mul_of_pos_right
abbrev akS:=@List.pairwise_mergeSort
abbrev akT:=@List.filter_cons_of_neg
abbrev akU:=@And.right
abbrev akV:=@List.sum_append
abbrev akW:=@Nat.one_ne_zero
abbrev akX:=@List.length_eq_one_iff
abbrev akY:=@Nat.mul_le_mul
abbrev akZ:=@List.cons.inj
abbrev ak0:=@List.lt_trans
abbrev ak1:=@Nat.add_comm
abbrev ak2:=@Bool.or_true
abbrev ak3:=@Bool.true_or
abbrev Name:=List Nat
abbrev W:=Option Nat
def wd:W->Nat
 |none=>1
 |some n=>n
inductive D where
 |int (k:IntKind) (n:Int)
 |bool (b:Bool)
 |str (s:List UInt8)
 |aY|ai|jT|lJ|lK
 |unk
 |sl (w:W) (xs:List D)
 |tS (w:W) (xs:List D)
 |agg (cs:List D)
 |ptr (d:D)
 |aW (f:Nat) (aR:List D)
 |pU (t:Nat) (d:D)
 |nM (aZ:Nat) (bs:List Nat) (ks vs:List D)
 |yl (l:Nat)
 deriving Inhabited
inductive AV where
 |un
 |d (x:D)
 |vw (p:Name) (off len:Nat)
 |bx (p:Name) (c:Nat)
 |el (p:Name) (i c:Nat)
 |mp (p:Name)
 |it (p:Name)
 |agg (cs:List AV)
 |aA (vs:List AV)
 |aW (f:Nat) (aR:List AV)
 |va (p:Name) (off len:Nat)
 |ea (p:Name) (i:Nat)
 |ma (p:Name)
 deriving Inhabited
inductive Ob where
 |bu (ty:Option Nat) (w:W) (xs:List D)
 |bz (ty:Option Nat) (cs:List AV)
 |map (es:List (D×D))
 |pV (s:List UInt8) (pos:Nat)
 |pX (m:D) (cur:Option (D×D)) (todo:List (D×D))
 |dZ (w:Nat) (xs:List AV)
 |mapA (aZ:Nat) (bs:List Nat) (es:List (D×AV))
 deriving Inhabited
abbrev Ob.xx(xs:List AV):Ob:=.dZ 1 xs
def D.cells:D->List D
 |.agg cs=>cs
 |d=>[d]
def D.ct:D->Bool
 |.agg _=>false
 |_=>true
def okW:W->D->Prop
 |none,d=>d.ct=true
 |some n,.agg cs=>cs.length=n∧∀d∈cs,d.ct=true
 |some _,_=>False
@[reducible] def Ob.box(cs:List AV):Ob:=.bz none cs
@[reducible] def Ob.arr(w:W)(xs:List D):Ob:=.bu none w xs
structure aU where
 b:Nat
 o:Nat
 z:Nat
section
variable (H:Array Obj)(own:Nat->Prop)
inductive au:Value->D->Prop
 |int (k n):au (.int k n) (.int k n)
 |bool (b):au (.bool b) (.bool b)
 |str (l:List UInt8):au (.string ⟨l.toArray⟩) (.str l)
 |aY:au (.pointer none) .aY
 |ai:au (.slice none 0 0) .ai
 |jT:au (.map none) .jT
 |lJ:au .nilFunc .lJ
 |lK:au .nilIface .lK
 |unk (v) (h:v.oneCell'=true):au v .unk
 |yl (l:Nat):au (.func (.yield l) #[] #[]) (.yl l)
 |agg (vs:Array Value) (cs:List D) (hs:vs.size=cs.length) (hc:∀d∈cs,d.ct=true)
  (h:∀i d,cs[i]?=some d->au (vs.getD i undef) d):au (.agg vs) (.agg cs)
 |lL (a cap w):au (.slice a 0 cap) (.sl w [])
 |sl (b o cap:Nat) (c:Array Value) (e:TypeId) (fz:Nat×Nat) (w:W) (xs:List D) (hb:H[b]?=some (.cells c e fz)) (hn:¬own b)
  (fL:xs.length<=cap) (hz:o+xs.length*wd w<=c.size) (hw:∀x∈xs,okW w x)
  (h:∀i x j d,xs[i]?=some x->x.cells[j]?=some d->au (c.getD (o+i*wd w+j) undef) d) :
  au (.slice (some ⟨b,o,none⟩) xs.length cap) (.sl w xs)
 |tS (v:Value) (w:W) (xs:List D) (h:au v (.sl w xs)) (hc:∃a,v=.slice a xs.length xs.length):au v (.tS w xs)
 |ptr (b o:Nat) (c:Array Value) (e:TypeId) (fz:Nat×Nat) (d:D) (hb:H[b]?=some (.cells c e fz)) (hn:¬own b)
  (hz:o+d.cells.length<=c.size) (ez:∀x∈d.cells,x.ct=true) (h:∀j x,d.cells[j]?=some x->au (c.getD (o+j) undef) x) :
  au (.pointer (some ⟨b,o,none⟩)) (.ptr d)
 |aW (f:Nat) (vs:Array Value) (cs:List D) (hs:vs.size=cs.length) (h:∀i d,cs[i]?=some d->au (vs.getD i undef) d) :
  au (.func (.func f) #[] vs) (.aW f cs)
 |pU (t v d) (h:au v d):au (.iface t v) (.pU t d)
 |nM (b aZ:Nat) (aS:Array MapEntry) (bs:List Nat) (ks vs:List D) (hb:H[b]?=some (.map aS aZ)) (hn:¬own b) (hs:aS.size=ks.length∧ks.length=vs.length) (kT:aS.toList.map (·.born)=bs)
  (hk:∀i d,ks[i]?=some d->au (aS.getD i default).key d) (hv:∀i d,vs[i]?=some d->au (aS.getD i default).val d):au (.map (some b)) (.nM aZ bs ks vs)
variable (used:List Nat)(hp:Name->Option Ob)(β:Name->Option aU)
def nm(used:List Nat)(p:Name):Prop:=∃h t,p=h::t∧h∈used
inductive VR:Value->AV->Prop
 |un (v):VR v .un
 |d (v x) (h:au H own v x):VR v (.d x)
 |vw (v p off len) (hu:nm used p) (h1:v.oneCell'=true)
  (h:∀ty w xs,hp p=some (.bu ty w xs)->off+len<=xs.length∧∃a cap,v=.slice a len cap ∧
   (len=0∧cap=0∨∃k,β p=some k∧a=some ⟨k.b,k.o+off*wd w,none⟩∧len<=cap∧k.o+(off+cap)*wd w<=k.z)):VR v (.vw p off len)
 |bx (v p c) (hu:nm used p) (h1:v.oneCell'=true) (h:∀ty cs,hp p=some (.bz ty cs)->∃k,β p=some k∧k.o=0∧v=.pointer (some ⟨k.b,c,none⟩)):VR v (.bx p c)
 |el (v p i c) (hu:nm used p) (h1:v.oneCell'=true) (h:∀ty w xs,hp p=some (.bu ty w xs)->i<xs.length∧∃k,β p=some k∧v=.pointer (some ⟨k.b,k.o+i*wd w+c,none⟩)):VR v (.el p i c)
 |mp (v p) (hu:nm used p) (h1:v.oneCell'=true) (h:∀es,hp p=some (.map es)->∃k,β p=some k∧v=.map (some k.b)):VR v (.mp p)
 |its (v p) (hu:nm used p) (h1:v.oneCell'=true) (h:∀s i,hp p=some (.pV s i)->∃k,β p=some k∧v=.pointer (some ⟨k.b,0,none⟩))
  (h':∀m c i,hp p=some (.pX m c i)->∃k,β p=some k∧v=.pointer (some ⟨k.b,0,none⟩)):VR v (.it p)
 |va (v p off len) (hu:nm used p) (h1:v.oneCell'=true)
  (h:∀w xs,hp p=some (.dZ w xs)->(off+len)*w<=xs.length∧∃a cap,v=.slice a len cap ∧
   (len=0∧cap=0∨∃k,β p=some k∧a=some ⟨k.b,k.o+off*w,none⟩∧len<=cap∧k.o+(off+cap)*w<=k.z)):VR v (.va p off len)
 |ea (v p i) (hu:nm used p) (h1:v.oneCell'=true) (h:∀w xs,hp p=some (.dZ w xs)->i<xs.length∧∃k,β p=some k∧v=.pointer (some ⟨k.b,k.o+i,none⟩)):VR v (.ea p i)
 |ma (v p) (hu:nm used p) (h1:v.oneCell'=true) (h:∀aZ bs es,hp p=some (.mapA aZ bs es)->∃k,β p=some k∧v=.map (some k.b)):VR v (.ma p)
 |agg (vs:Array Value) (cs:List AV) (hs:vs.size=cs.length) (hc:∀v∈vs,v.oneCell'=true) (h:∀i x,cs[i]?=some x->VR (vs.getD i undef) x):VR (.agg vs) (.agg cs)
 |aA (vs:Array Value) (cs:List AV) (hs:vs.size=cs.length) (h:∀i x,cs[i]?=some x->VR (vs.getD i undef) x):VR (.tuple vs) (.aA cs)
 |aW (f:Nat) (vs:Array Value) (cs:List AV) (hs:vs.size=cs.length) (h:∀i x,cs[i]?=some x->VR (vs.getD i undef) x):VR (.func (.func f) #[] vs) (.aW f cs)
def si(aS:Array MapEntry)(clock:Nat):Prop:=(aS.toList.map (·.born)).Nodup∧∀e∈aS.toList,e.born<clock
def TY(m:D)(since:Nat)(seen:Array Nat)(last:Nat)(cur:Option (D×D))(todo:List (D×D)):Prop :=
 ∃aZ bs ks vs,m=.nM aZ bs ks vs∧bs.length=ks.length∧ks.length=vs.length∧bs.Nodup∧(∀x∈bs,x<since)∧(since<=last∧since<=aZ) ∧
  todo=((bs.zip (ks.zip vs)).filter fun q=>!seen.contains q.1).map (·.2)∧∀x,cur=some x->last=aZ∧∃st,seen.back?=some st∧(st,x)∈bs.zip (ks.zip vs)
def OR(p:Name):Ob->Prop
 |.bu ty w xs=>(β p=none∧xs=[])∨∃k c e,β p=some k∧H[k.b]?=some (.cells c (ty.getD e) (0,0))∧c.size=k.z∧k.o+xs.length*wd w<=k.z∧(∀x∈xs,okW w x) ∧
  ∀i x j d,xs[i]?=some x->x.cells[j]?=some d->au H own (c.getD (k.o+i*wd w+j) undef) d
 |.bz ty cs=>∃k c e,β p=some k∧k.o=0∧H[k.b]?=some (.cells c (ty.getD e) (0,0))∧c.size=k.z∧c.size=cs.length∧(∀v∈c,v.oneCell'=true) ∧
  ∀j x,cs[j]?=some x->VR H own used hp β (c.getD j undef) x
 |.map es=>∃k aS clock,β p=some k∧H[k.b]?=some (.map aS clock)∧(aS.size=es.length∧si aS clock) ∧
  ∀(i:Nat) (x:D×D),es[i]?=some x->∃en:MapEntry,aS[i]?=some en∧au H own en.key x.1∧au H own en.val x.2
 |.pV s pos=>∃k,β p=some k∧H[k.b]?=some (.stringIter ⟨s.toArray⟩ pos)
 |.dZ _ xs=>(β p=none∧xs=[])∨∃k c e,β p=some k∧H[k.b]?=some (.cells c e (0,0))∧c.size=k.z∧k.o+xs.length<=k.z∧(∀i,i<xs.length->(c.getD (k.o+i) undef).oneCell'=true) ∧
  ∀i x,xs[i]?=some x->VR H own used hp β (c.getD (k.o+i) undef) x
 |.mapA aZ bs es=>∃k aS,β p=some k∧H[k.b]?=some (.map aS aZ)∧(aS.size=es.length∧si aS aZ∧aS.toList.map (·.born)=bs) ∧
  ∀(i:Nat) (x:D×AV),es[i]?=some x->∃en:MapEntry,aS[i]?=some en∧au H own en.key x.1∧VR H own used hp β en.val x.2
 |.pX m cur todo=>∃k b since seen last,β p=some k∧H[k.b]?=some (.mapIter (some b) since seen last)∧au H own (.map (some b)) m∧TY m since seen last cur todo
end
structure St where
 fr:Nat->AV
 hp:Name->Option Ob
 used:List Nat
def St.own(s:St)(A:Nat->Prop)(β:Name->Option aU)(b:Nat):Prop:=A b∨∃p k,s.hp p≠none∧β p=some k∧k.b=b
def dy(w:World):Os×Array (Nat×ByteArray):=(w.os,w.output)
structure Base where
 n:Nat
 io:Os×Array (Nat×ByteArray)
 G:List (Nat×Obj)
 H0:Array Obj
 O0:Nat->Prop
 A:Nat->Prop
 U0:List Nat
 β0:Name->Option aU
 hA:∀b,A b->b<H0.size
 hG:∀q∈G,H0[q.1]?=some q.2∧¬O0 q.1
structure aj(B:Base)(β:Name->Option aU)(s:St)(tm:Array Value)(w:World):Prop where
 bE:tm.size=B.n
 io:dy w=B.io
 size:B.H0.size<=w.heap.size
 frame:∀b,b<B.H0.size->¬B.O0 b->w.heap[b]?=B.H0[b]?
 slots:∀t,VR w.heap (s.own B.A β) s.used s.hp β (tm.getD t undef) (s.fr t)
 aO:∀p o,s.hp p=some o->nm s.used p∧OR w.heap (s.own B.A β) s.used s.hp β p o
 blocks:∀p k,s.hp p≠none->β p=some k->k.b<w.heap.size∧¬B.A k.b∧(B.H0.size<=k.b∨B.O0 k.b)
 inj:∀p q k l,s.hp p≠none->s.hp q≠none->β p=some k->β q=some l->k.b=l.b->p=q
 us:∀x∈B.U0,x∈s.used
 stay:∀p,nm B.U0 p->β p=B.β0 p
end Go.Ab
namespace Go.Ab
theorem dK{α:Type}{a:Array α}{i:Nat}{x:α}(h:a[i]?=some x):i<a.size:=(ajH.1 h).1
theorem au.mono{H H':Array Obj}{own own':Nat->Prop}(hH:∀b,¬own b->b<H.size->H'[b]?=H[b]?)(ho:∀b,b<H.size->own' b->own b)
  {v:Value} {d:D} (h:au H own v d):au H' own' v d:=by
 induction h with
 |int k n=>exact .int k n
 |bool b=>exact .bool b
 |str l=>exact .str l
 |aY=>exact .aY
 |ai=>exact .ai
 |jT=>exact .jT
 |lJ=>exact .lJ
 |lK=>exact .lK
 |unk v h=>exact .unk v h
 |yl l=>exact .yl l
 |agg vs cs hs hc _ ih=>exact .agg vs cs hs hc ih
 |lL a cap w=>exact .lL a cap w
 |sl b o cap c e fz w xs hb hn fL hz hw _ ih=>exact .sl b o cap c e fz w xs ((hH b hn (dK hb)).trans hb) (fun h=>hn (ho b (dK hb) h)) fL hz hw ih
 |tS v w xs _ hc ih=>exact .tS v w xs ih hc
 |ptr b o c e fz d hb hn hz ez _ ih=>exact .ptr b o c e fz d ((hH b hn (dK hb)).trans hb) (fun h=>hn (ho b (dK hb) h)) hz ez ih
 |aW f vs cs hs _ ih=>exact .aW f vs cs hs ih
 |pU t v d _ ih=>exact .pU t v d ih
 |nM b aZ aS bs ks vs hb hn hs kT _ _ qU oN=>exact .nM b aZ aS bs ks vs ((hH b hn (dK hb)).trans hb) (fun h=>hn (ho b (dK hb) h)) hs kT qU oN
theorem au.vD{H:Array Obj}{own:Nat->Prop}{v:Value}{d:D}(h:au H own v d)(hd:d.ct=true):v.oneCell'=true:=by
 cases h<;>first|rfl|assumption|(rename_i hc;obtain⟨a,rfl⟩:=hc;rfl)|simp[D.ct]at hd
def Ob.like:Ob->Ob->Prop
 |.bu a w xs,.bu b w' xs'=>(a=b∧w=w')∧xs.length<=xs'.length
 |.bz a _,.bz b _=>a=b
 |.map _,.map _=>True
 |.pV _ _,.pV _ _=>True
 |.pX _ _ _,.pX _ _ _=>True
 |.dZ w xs,.dZ w' xs'=>w=w'∧xs.length<=xs'.length
 |.mapA _ _ _,.mapA _ _ _=>True
 |_,_=>False
theorem Ob.mS(o:Ob):o.like o:=by cases o<;>simp[Ob.like]
def iG(hp ae:Name->Option Ob)(β β':Name->Option aU)(p:Name):Prop:=∀o',ae p=some o'->∃o,hp p=some o∧o.like o'∧β' p=β p
section
variable {H H':Array Obj}{own own':Nat->Prop}{used kU:List Nat}{hp ae:Name->Option Ob}{β β':Name->Option aU}
theorem nm.mono{p:Name}(hu:∀x∈used,x∈kU)(h:nm used p):nm kU p:=let ⟨a,t,e,m⟩:=h;⟨a,t,e,hu a m⟩
theorem VR.mono(hr:∀v d,au H own v d->au H' own' v d)(hu:∀x∈used,x∈kU)(ah:∀p,nm used p->iG hp ae β β' p)
  {v:Value} {x:AV} (h:VR H own used hp β v x):VR H' own' kU ae β' v x:=by
 induction h with
 |un v=>exact .un v
 |d v x h=>exact .d v x (hr v x h)
 |vw v p off len hn h1 h =>
   refine .vw v p off len (hn.mono hu) h1 fun ty w xs hx=>?_;obtain⟨o,ho,hl,hb⟩:=ah p hn _ hx;cases o<;>simp[Ob.like]at hl;obtain⟨⟨rfl,rfl⟩,hle⟩:=hl;obtain⟨h1,a,cap,rfl,h2⟩:=h _ _ _ ho;exact⟨by omega,a,cap,rfl,by rw[hb];exact h2⟩
 |bx v p c hn h1 h =>
   refine .bx v p c (hn.mono hu) h1 fun ty cs hx=>?_;obtain⟨o,ho,hl,hb⟩:=ah p hn _ hx;cases o<;>simp[Ob.like]at hl;rw[hb];exact h _ _ ho
 |el v p i c hn h1 h =>
   refine .el v p i c (hn.mono hu) h1 fun ty w xs hx=>?_;obtain⟨o,ho,hl,hb⟩:=ah p hn _ hx;cases o<;>simp[Ob.like]at hl;obtain⟨⟨rfl,rfl⟩,hle⟩:=hl;obtain⟨h1,h2⟩:=h _ _ _ ho;exact⟨by omega,by rw[hb];exact h2⟩
 |mp v p hn h1 h =>
   refine .mp v p (hn.mono hu) h1 fun es hx=>?_;obtain⟨o,ho,hl,hb⟩:=ah p hn _ hx;cases o<;>simp[Ob.like]at hl;rw[hb];exact h _ ho
 |its v p hn h1 h h' =>
   refine .its v p (hn.mono hu) h1 (fun s i hx=>?_) (fun m c i hx=>?_)
   .obtain⟨o,ho,hl,hb⟩:=ah p hn _ hx;cases o<;>simp[Ob.like]at hl;rw[hb];exact h _ _ ho
   .obtain⟨o,ho,hl,hb⟩:=ah p hn _ hx;cases o<;>simp[Ob.like]at hl;rw[hb];exact h' _ _ _ ho
 |va v p off len hn h1 h =>
   refine .va v p off len (hn.mono hu) h1 fun w xs hx=>?_;obtain⟨o,ho,hl,hb⟩:=ah p hn _ hx;cases o<;>simp[Ob.like]at hl;obtain⟨rfl,hl⟩:=hl;obtain⟨h1,a,cap,rfl,h2⟩:=h _ _ ho;exact⟨by omega,a,cap,rfl,by rw[hb];exact h2⟩
 |ea v p i hn h1 h =>
   refine .ea v p i (hn.mono hu) h1 fun w xs hx=>?_;obtain⟨o,ho,hl,hb⟩:=ah p hn _ hx;cases o<;>simp[Ob.like]at hl;obtain⟨rfl,hl⟩:=hl;obtain⟨h1,h2⟩:=h _ _ ho;exact⟨by omega,by rw[hb];exact h2⟩
 |ma v p hn h1 h =>
   refine .ma v p (hn.mono hu) h1 fun aZ bs es hx=>?_;obtain⟨o,ho,hl,hb⟩:=ah p hn _ hx;cases o<;>simp[Ob.like]at hl;rw[hb];exact h _ _ _ ho
 |agg vs cs hs hc _ ih=>exact .agg vs cs hs hc ih
 |aA vs cs hs _ ih=>exact .aA vs cs hs ih
 |aW f vs cs hs _ ih=>exact .aW f vs cs hs ih
theorem OR.mono(hr:∀v d,au H own v d->au H' own' v d)(hu:∀x∈used,x∈kU)(ah:∀p,nm used p->iG hp ae β β' p)
  {p:Name} {o:Ob} (hb:β' p=β p) (hH:∀k,β p=some k->H'[k.b]?=H[k.b]?) (h:OR H own used hp β p o):OR H' own' kU ae β' p o:=by
 cases o with
 |bu ty w xs =>
   obtain⟨h1,h2⟩|⟨k,c,e,hk,hc,hz,hl,hw,h⟩:=h
   .exact .inl ⟨hb.trans h1,h2⟩
   .exact .inr ⟨k,c,e,hb.trans hk,(hH k hk).trans hc,hz,hl,hw,fun i x j d hi hj=>hr _ _ (h i x j d hi hj)⟩
 |bz ty cs =>
   obtain⟨k,c,e,hk,ho,hc,hz,hl,h1,h⟩:=h;exact⟨k,c,e,hb.trans hk,ho,(hH k hk).trans hc,hz,hl,h1,fun j x hj=>(h j x hj).mono hr hu ah⟩
 |map es =>
   obtain⟨k,aS,clock,hk,hc,hz,h⟩:=h;refine⟨k,aS,clock,hb.trans hk,(hH k hk).trans hc,hz,fun i x hi=>?_⟩;obtain⟨en,h1,h2,h3⟩:=h i x hi;exact⟨en,h1,hr _ _ h2,hr _ _ h3⟩
 |pV s pos =>
   obtain⟨k,hk,hc⟩:=h;exact⟨k,hb.trans hk,(hH k hk).trans hc⟩
 |dZ w xs =>
   obtain⟨h1,h2⟩|⟨k,c,e,hk,hc,hz,hl,hw,h⟩:=h
   .exact .inl ⟨hb.trans h1,h2⟩
   .exact .inr ⟨k,c,e,hb.trans hk,(hH k hk).trans hc,hz,hl,hw,fun i x hi=>(h i x hi).mono hr hu ah⟩
 |mapA aZ bs es =>
   obtain⟨k,aS,hk,hc,hz,h⟩:=h;refine⟨k,aS,hb.trans hk,(hH k hk).trans hc,hz,fun i x hi=>?_⟩;obtain⟨en,h1,h2,h3⟩:=h i x hi;exact⟨en,h1,hr _ _ h2,h3.mono hr hu ah⟩
 |pX _ _ _ =>
   obtain⟨k,b,since,seen,last,hk,hc,hm,hi⟩:=h;exact⟨k,b,since,seen,last,hb.trans hk,(hH k hk).trans hc,hr _ _ hm,hi⟩
end
def eC{α:Type}(f:Nat->α)(i:Nat)(v:α):Nat->α:=fun j=>if j=i then v else f j
def aP{α:Type}(f:Name->α)(i:Name)(v:α):Name->α:=fun j=>if j=i then v else f j
def St.put(s:St)(t:Nat)(v:AV):St:={ s with fr:=eC s.fr t v }
def St.set(s:St)(p:Name)(o:Option Ob):St:={ s with hp:=aP s.hp p o }
def St.add(s:St)(t:Nat)(o:Ob):St:={ s with hp:=aP s.hp [t] (some o),used:=t::s.used }
section
variable {B:Base}{β:Name->Option aU}{s:St}{tm:Array Value}{w:World}
theorem aj.put(h:aj B β s tm w){t:Nat}(ht:t<B.n){v:Value}{x:AV}(hv:VR w.heap (s.own B.A β) s.used s.hp β v x) :
  aj B β (s.put t x) (tm.setIfInBounds t v) w:=by
 refine { h with bE:=by simpa using h.bE,slots:=fun i=>?_ };show VR w.heap (s.own B.A β) s.used s.hp β _ (eC s.fr t x i);unfold eC;by_cases hi:i=t
 .subst hi;rw[if_pos rfl];have:i<tm.size:=by rw[h.bE];exact ht
  simpa[ahY,this]using hv
 .rw[if_neg hi];have:=h.slots i;rw[show(tm.setIfInBounds t v).getD i undef=tm.getD i undef from by simp[ahY,Ne.symm hi]];exact this
theorem aj.xy(h:aj B β s tm w){w':World}(e:w'.heap=w.heap)(e2:dy w'=dy w):aj B β s tm w' :=
 { bE:=h.bE,io:=e2.trans h.io,size:=by rw[e];exact h.size,frame:=by rw[e];exact h.frame,slots:=by rw[e];exact h.slots,aO:=by rw[e];exact h.aO,blocks:=by rw[e];exact h.blocks,inj:=h.inj,us:=h.us,stay:=h.stay }
theorem aj.Cg(h:aj B β s tm w){b:Nat}(hb:s.own B.A β b):b<w.heap.size:=by
 obtain hb|⟨p,k,hp,hk,rfl⟩:=hb
 .exact aiK (B.hA b hb) h.size
 .exact(h.blocks p k hp hk).1
theorem aj.alloc(h:aj B β s tm w){t:Nat}(ht:t∉s.used)(o:Obj)(ob:Ob)(z:Nat)
  (hO:∀β':Name->Option aU,β' [t]=some ⟨w.heap.size,0,z⟩->(∀v x,VR w.heap (s.own B.A β) s.used s.hp β v x->VR (w.alloc o).heap ((s.add t ob).own B.A β') (t::s.used) (s.add t ob).hp β' v x) ->
   OR (w.alloc o).heap ((s.add t ob).own B.A β') (t::s.used) (s.add t ob).hp β' [t] ob) :
  aj B (aP β [t] (some ⟨w.heap.size,0,z⟩)) (s.add t ob) tm (w.alloc o) ∧
   ∀v x,VR w.heap (s.own B.A β) s.used s.hp β v x->VR (w.alloc o).heap ((s.add t ob).own B.A (aP β [t] (some ⟨w.heap.size,0,z⟩))) (t::s.used) (s.add t ob).hp (aP β [t] (some ⟨w.heap.size,0,z⟩)) v x:=by
 obtain⟨β',hβ'⟩:∃β',aP β [t] (some ⟨w.heap.size,0,z⟩)=β':=⟨_,rfl⟩
 have fR:β' [t]=some ⟨w.heap.size,0,z⟩:=by rw[<-hβ'];simp[aP]
 have hold:∀p,p≠[t]->β' p=β p:=fun p hp=>by rw[<-hβ'];simp[aP,hp]
 have dz:∀p,p≠[t]->(s.add t ob).hp p=s.hp p:=fun p hp=>by simp[St.add,aP,hp]
 have eI:∀p,nm s.used p->p≠[t]:=by
  rintro p ⟨a,l,rfl,ha⟩ e;simp at e;exact ht (e.1▸ha)
 have dS:∀b,b<w.heap.size->(s.add t ob).own B.A β' b->s.own B.A β b:=by
  rintro b hb (hA|⟨p,k,hp,hk,rfl⟩)
  .exact .inl hA
  .by_cases e:p=[t]
   .subst e;rw[fR]at hk;cases hk;exact absurd hb (akp _)
   .rw[hold p e]at hk;rw[dz p e]at hp;exact .inr ⟨p,k,hp,hk,rfl⟩
 have hr:∀v d,au w.heap (s.own B.A β) v d->au (w.alloc o).heap ((s.add t ob).own B.A β') v d :=
  fun v d hd=>hd.mono (fun b _ hb=>heap_alloc_old w o b hb) dS
 have ah:∀p,nm s.used p->iG s.hp (s.add t ob).hp β β' p:=fun p hp o' aM =>
  ⟨o',by rwa [dz p (eI p hp)]at aM,Ob.mS _,hold p (eI p hp)⟩
 have hv:∀v x,VR w.heap (s.own B.A β) s.used s.hp β v x->VR (w.alloc o).heap ((s.add t ob).own B.A β') (t::s.used) (s.add t ob).hp β' v x :=
  fun v x hx=>hx.mono hr (fun y hy=>ah8 _ hy) ah
 rw[hβ'];refine⟨{ bE:=h.bE,io:=h.io,size:=by simp;exact ajh h.size,frame:=?_,slots:=fun i=>hv _ _ (h.slots i),aO:=?_,blocks:=?_,inj:=?_,us:=fun x hx=>ah8 _ (h.us x hx), stay:=fun p hp=>(hold p (eI p (hp.mono h.us))).trans (h.stay p hp) },hv⟩
 .intro b hb hn;rw[heap_alloc_old w o b (aiK hb h.size)];exact h.frame b hb hn
 .intro p o' aM;by_cases e:p=[t]
  .subst e;have:o'=ob:=by simpa[St.add,aP]using aM.symm
   subst this;exact⟨⟨t,[],rfl,ah0⟩,hO β' fR hv⟩
  .rw[dz p e]at aM;obtain⟨h1,h2⟩:=h.aO p o' aM;refine⟨h1.mono fun y hy=>ah8 _ hy,h2.mono hr (fun y hy=>ah8 _ hy) ah (hold p e) fun k hk=>?_⟩;exact heap_alloc_old w o k.b (h.blocks p k (by rw[aM];simp) hk).1
 .intro p k hp hk;by_cases e:p=[t]
  .subst e;rw[fR]at hk;cases hk;refine⟨by simp,fun hA=>absurd (aiK (B.hA _ hA) h.size) (akp _),.inl h.size⟩
  .rw[hold p e]at hk;rw[dz p e]at hp;obtain⟨h1,h2⟩:=h.blocks p k hp hk;exact⟨by simp;omega,h2⟩
 .intro p q k l hp hq hk hl e;by_cases ep:p=[t]<;>by_cases eq:q=[t]
  .rw[ep,eq]
  .subst ep;rw[fR]at hk;cases hk;rw[hold q eq]at hl;rw[dz q eq]at hq;have:=(h.blocks q l hq hl).1;simp at e;omega
  .subst eq;rw[fR]at hl;cases hl;rw[hold p ep]at hk;rw[dz p ep]at hp;have:=(h.blocks p k hp hk).1;simp at e;omega
  .rw[hold p ep]at hk;rw[dz p ep]at hp;rw[hold q eq]at hl;rw[dz q eq]at hq;exact h.inj p q k l hp hq hk hl e
theorem aj.modify(h:aj B β s tm w){p:Name}{ob ob':Ob}(hp:s.hp p=some ob)(hl:ob.like ob'){w':World}(ic:dy w'=dy w)(bh:w'.heap.size=w.heap.size)
  (hw:∀b,(∀k,β p=some k->b≠k.b)->w'.heap[b]?=w.heap[b]?)
  (hO:(∀v x,VR w.heap (s.own B.A β) s.used s.hp β v x->VR w'.heap ((s.set p (some ob')).own B.A β) s.used (s.set p (some ob')).hp β v x) ->
   (∀v d,au w.heap (s.own B.A β) v d->au w'.heap ((s.set p (some ob')).own B.A β) v d) ->
   OR w'.heap ((s.set p (some ob')).own B.A β) s.used (s.set p (some ob')).hp β p ob') :
  aj B β (s.set p (some ob')) tm w' ∧
   (∀v x,VR w.heap (s.own B.A β) s.used s.hp β v x->VR w'.heap ((s.set p (some ob')).own B.A β) s.used (s.set p (some ob')).hp β v x):=by
 have aJ:∀q,(s.set p (some ob')).hp q≠none↔s.hp q≠none:=by
  intro q;by_cases e:q=p
  .subst e;simp[St.set,aP,hp]
  .simp[St.set,aP,e]
 have dS:(s.set p (some ob')).own B.A β=s.own B.A β:=by
  funext b;refine propext (or_congr_right ⟨?_,?_⟩)
  .rintro⟨q,k,hq,hk,e⟩;exact⟨q,k,(aJ q).1 hq,hk,e⟩
  .rintro⟨q,k,hq,hk,e⟩;exact⟨q,k,(aJ q).2 hq,hk,e⟩
 rw[dS]at hO ⊢;have T0:∀b,¬s.own B.A β b->w'.heap[b]?=w.heap[b]?:=fun b hb=>hw b fun k hk e=>hb (.inr ⟨p,k,by rw[hp];simp,hk,e.symm⟩);have hr:∀v d,au w.heap (s.own B.A β) v d->au w'.heap (s.own B.A β) v d:=fun v d hd=>hd.mono (fun b hb _=>T0 b hb) (fun _ _ h=>h)
 have ah:∀q,nm s.used q->iG s.hp (s.set p (some ob')).hp β β q:=by
  intro q _ o' aM;by_cases e:q=p
  .subst e;have:o'=ob':=by simpa[St.set,aP]using aM.symm
   subst this;exact⟨ob,hp,hl,rfl⟩
  .exact⟨o',by simpa[St.set,aP,e]using aM,Ob.mS _,rfl⟩
 have hv:∀v x,VR w.heap (s.own B.A β) s.used s.hp β v x->VR w'.heap (s.own B.A β) s.used (s.set p (some ob')).hp β v x:=fun v x hx=>hx.mono hr (fun _ h=>h) ah;refine⟨{ bE:=h.bE,io:=ic.trans h.io,size:=by rw[bh];exact h.size,frame:=?_,slots:=?_,aO:=?_,blocks:=?_,inj:=?_,us:=h.us,stay:=h.stay },hv⟩
 .intro b hb hn;rw[hw b ?_]
  .exact h.frame b hb hn
  .intro k hk e;obtain⟨_,_,h3⟩:=h.blocks p k (by rw[hp];simp) hk;obtain h3|h3:=h3
   .omega
   .exact hn (e▸h3)
 .intro i;rw[dS];exact hv _ _ (h.slots i)
 .intro q o' aM;rw[dS];by_cases e:q=p
  .subst e;have:o'=ob':=by simpa[St.set,aP]using aM.symm
   subst this;exact⟨(h.aO q ob hp).1,hO hv hr⟩
  .have ho:s.hp q=some o':=by simpa[St.set,aP,e]using aM
   obtain⟨h1,h2⟩:=h.aO q o' ho;refine⟨h1,h2.mono hr (fun _ h=>h) ah rfl fun k hk=>hw k.b fun l gM e'=>?_⟩;exact e (h.inj q p k l (by rw[ho];simp) (by rw[hp];simp) hk gM e')
 .intro q k hq hk;rw[bh];exact h.blocks q k ((aJ q).1 hq) hk
 .intro q q' k l hq cg hk gM e;exact h.inj q q' k l ((aJ q).1 hq) ((aJ q').1 cg) hk gM e
theorem aj.drop(h:aj B β s tm w)(p:Name):aj B β (s.set p none) tm w:=by
 have dL:∀q o,(s.set p none).hp q=some o->s.hp q=some o:=by
  intro q o ho;by_cases e:q=p
  .subst e;simp[St.set,aP]at ho
  .simpa[St.set,aP,e]using ho
 have aJ:∀q,(s.set p none).hp q≠none->s.hp q≠none:=by
  intro q hq e
  cases ho:(s.set p none).hp q with
  |none=>exact hq ho
  |some o=>rw[dL q o ho]at e;cases e
 have hr:∀v d,au w.heap (s.own B.A β) v d->au w.heap ((s.set p none).own B.A β) v d:=fun v d hd=>hd.mono (fun _ _ _=>rfl) (by
  rintro b _ (hA|⟨q,k,hq,hk,e⟩)
  .exact .inl hA
  .exact .inr ⟨q,k,aJ q hq,hk,e⟩)
 have ah:∀q,nm s.used q->iG s.hp (s.set p none).hp β β q:=fun q _ o' aM=>⟨o',dL q o' aM,Ob.mS _,rfl⟩
 refine { bE:=h.bE,io:=h.io,size:=h.size,frame:=h.frame,slots:=fun i=>(h.slots i).mono hr (fun _ h=>h) ah,aO:=?_,blocks:=fun q k hq hk=>h.blocks q k (aJ q hq) hk, inj:=fun q q' k l hq cg hk hl e=>h.inj q q' k l (aJ q hq) (aJ q' cg) hk hl e,us:=h.us,stay:=h.stay };intro q o ho;obtain⟨h1,h2⟩:=h.aO q o (dL q o ho);exact⟨h1,h2.mono hr (fun _ h=>h) ah rfl fun _ _=>rfl⟩
theorem aj.un(h:aj B β s tm w)(t:Nat):aj B β (s.put t .un) tm w:=by
 refine { h with slots:=fun i=>?_ };show VR w.heap (s.own B.A β) s.used s.hp β _ (eC s.fr t .un i);unfold eC;split
 .exact .un _
 .exact h.slots i
end
end Go.Ab
namespace Go.Ab
inductive TK where
 |bad|Kv|bool|int (k:IntKind)|str|ptr (e:Nat)|slice (e:Nat)|arr (n e:Nat)|map (k e:Nat)|struct (fs:List (Nat×Nat))|func|pU
structure TI where
 k:TK
 sz:Nat
 by':Nat
 z:Option (List D)
def zd:Value->Option D
 |.int k n=>some (.int k n)
 |.bool b=>some (.bool b)
 |.string s=>some (.str s.data.toList)
 |.pointer none=>some .aY
 |.slice none 0 0=>some .ai
 |.map none=>some .jT
 |.nilFunc=>some .lJ
 |.nilIface=>some .lK
 |_=>none
def tk:TypeDesc->TK
 |.bool=>.bool
 |.int k=>.int k
 |.string=>.str
 |.pointer e=>.ptr e
 |.slice e=>.slice e
 |.array n e=>.arr n e
 |.map k e=>.map k e
 |.struct fs=>.struct (fs.toList.map fun f=>(f.offset,f.type))
 |.func _ _ _=>.func
 |.interface _=>.pU
 |_=>.Kv
def TK.agg:TK->Bool
 |.struct _=>true
 |.arr _ _=>true
 |_=>false
def TK.dA:TK->Bool
 |.bad=>true
 |_=>false
end Go.Ab
open Go.Ab in
def Go.Program.ti(P:Program)(t:Nat):TI :=
 match P.info? t,P.underlying t with
 |some i,some d=>{ k:=tk d,sz:=i.size,by':=i.bytes,z:=i.zero.bind fun v=>v.cells.toList.mapM zd }
 |_,_=>{ k:=.bad,sz:=0,by':=0,z:=none }
namespace Go.Ab
def TI.w(i:TI):W:=if i.k.agg then some i.sz else none
def TI.zero(i:TI):Option D:=i.z.bind fun cs=>if i.k.agg then some (.agg cs)else match cs with|[d]=>some d|_=>none
def TI.fM(i:TI)(w:W):Bool:=!i.k.dA&&match w with
 |none=>!i.k.agg&&i.sz == 1
 |some n=>i.k.agg&&i.sz == n
def cv:Value->AV
 |.int k n=>.d (.int k n)
 |.bool b=>.d (.bool b)
 |.string s=>.d (.str s.data.toList)
 |.pointer none=>.d .aY
 |.slice none 0 0=>.d .ai
 |.map none=>.d .jT
 |.nilFunc=>.d .lJ
 |.nilIface=>.d .lK
 |_=>.un
def ev(s:St):Operand->AV
 |.tmp t=>s.fr t
 |.const v=>cv v
 |.global _=>.un
 |.func f=>.aW f []
def lM:List AV->Option (List D)
 |[]=>some []
 |.d x::r=>(lM r).map (x::·)
 |_::_=>none
def mT(cs:List AV):AV :=
 match lM cs with
 |some ds=>.d (.agg ds)
 |none=>.agg cs
def cellsD:D->Option (List AV)
 |.agg ds=>some (ds.map .d)
 |.int k n=>some [.d (.int k n)]
 |.bool b=>some [.d (.bool b)]
 |.str s=>some [.d (.str s)]
 |.aY=>some [.d .aY]
 |.ai=>some [.d .ai]
 |.jT=>some [.d .jT]
 |.lJ=>some [.d .lJ]
 |.lK=>some [.d .lK]
 |.unk=>some [.d .unk]
 |.sl w xs=>some [.d (.sl w xs)]
 |.tS w xs=>some [.d (.tS w xs)]
 |.ptr d=>some [.d (.ptr d)]
 |.aW f c=>some [.d (.aW f c)]
 |.pU t d=>some [.d (.pU t d)]
 |.nM c b k v=>some [.d (.nM c b k v)]
 |.yl l=>some [.d (.yl l)]
def iW:AV->Option (List AV)
 |.d x=>cellsD x
 |.agg cs=>some cs
 |.vw p o l=>some [.vw p o l]
 |.bx p c=>some [.bx p c]
 |.el p i c=>some [.el p i c]
 |.mp p=>some [.mp p]
 |.it p=>some [.it p]
 |.aW f c=>some [.aW f c]
 |.va p o l=>some [.va p o l]
 |.ea p i=>some [.ea p i]
 |.ma p=>some [.ma p]
 |.un=>none
 |.aA _=>none
def splice{α:Type}(l:List α)(c:Nat)(xs:List α):List α:=l.take c++(xs++l.drop (c+xs.length))
inductive R(α:Type):Type 1 where
 |ok (a:α)
 |need (p:Prop) (r:R α)
 |no
def R.bind{α β:Type}:R α->(α->R β)->R β
 |.ok a,f=>f a
 |.need p r,f=>.need p (r.bind f)
 |.no,_=>.no
def R.jU{α:Type}:Option α->R α
 |some a=>.ok a
 |none=>.no
def pY(i:TI)(d:D)(c:Nat):Option D :=
 if i.k.dA then none else match d with
 |.agg cs=>if i.k.agg then(if c+i.sz<=cs.length then some (.agg ((cs.drop c).take i.sz))else none)else cs[c]?
 |d=>if i.k.agg then none else if c=0 then some d else none
def vE(i:TI)(cs:List AV)(c:Nat):R AV :=
 if i.k.dA then .no else if i.k.agg then(if c+i.sz<=cs.length then .ok (mT ((cs.drop c).take i.sz))else .no)else R.jU cs[c]?
def qV(i:TI)(hp:Name->Option Ob):AV->R AV
 |.bx p c=>match hp p with
   |some (.bz _ cs)=>vE i cs c
   |_=>.no
 |.el p j c=>match hp p with
   |some (.bu none _ xs)=>R.jU ((pY i (xs.getD j .aY) c).map .d)
   |_=>.no
 |.d (.ptr d)=>R.jU ((pY i d 0).map .d)
 |_=>.no
def pZ:W->D->Bool
 |none,d=>d.ct
 |some n,.agg cs=>cs.length == n&&cs.all D.ct
 |some _,_=>false
def xA(i:TI)(w:W)(xs:List D)(j c:Nat)(y:D):Option (List D) :=
 if i.k.dA then none
 else if i.fM w&&pZ w y&&c == 0 then some (xs.set j y)
 else if i.k.agg then none
 else match xs.getD j .aY with
  |.agg cs=>if y.ct∧c<cs.length∧i.sz=1 then some (xs.set j (.agg (cs.set c y)))else none
  |_=>none
def tT(i:TI)(s:St)(x v:AV):R St :=
 match x with
 |.bx p c =>
   match s.hp p with
   |some (.bz ty cs)=>match iW v with
     |some vs=>if i.k.dA=false∧vs.length=i.sz∧c+i.sz<=cs.length then .ok (s.set p (some (.bz ty (splice cs c vs))))else .no
     |none=>.no
   |_=>.no
 |.el p j c =>
   match s.hp p,v with
   |some (.bu none w xs),.d y=>match xA i w xs j c y with
     |some ys=>.ok (s.set p (some (.arr w ys)))
     |none=>.no
   |_,_=>.no
 |_=>.no
def tU(i:TI)(tf:Nat->TI)(hp:Name->Option Ob)(x:AV)(f:Nat):R AV :=
 match i.k with
 |.struct fs =>
   match fs[f]? with
   |some (o,t) =>
     if(tf t).sz=0 then .no else
      match x with
      |.bx p c=>match hp p with
        |some (.bz _ _)=>.ok (.bx p (c+o))
        |_=>.no
      |.el p j c=>match hp p with
        |some (.bu none _ _)=>.ok (.el p j (c+o))
        |_=>.no
      |.d (.ptr (.agg cs))=>R.jU ((pY (tf t) (.agg cs) o).map fun d=>.d (.ptr d))
      |_=>.no
   |none=>.no
 |_=>.no
def zk(i:TI)(tf:Nat->TI)(x:AV)(f:Nat):R AV :=
 match i.k with
 |.struct fs =>
   match fs[f]? with
   |some (o,t) =>
     match x with
     |.d (.agg cs)=>R.jU ((pY (tf t) (.agg cs) o).map .d)
     |.agg cs=>vE (tf t) cs o
     |_=>.no
   |none=>.no
 |_=>.no
def tV(i:TI)(tf:Nat->TI)(hp:Name->Option Ob)(x j:AV):R AV :=
 match i.k,x,j with
 |.slice e,.vw p o l,.d (.int _ n) =>
   match hp p with
   |some (.bu none w _)=>if(tf e).fM w then .need (0<=n∧n<l) (.ok (.el p (o+n.toNat) 0))else .no
   |_=>.no
 |.slice e,.d (.sl w xs),.d (.int _ n)=>if(tf e).fM w then .need (0<=n∧n<xs.length) (.ok (.d (.ptr (xs.getD n.toNat .aY))))else .no
 |.arr l e,.el p i c,.d (.int _ n) =>
   match hp p with
   |some (.bu none w xs)=>if(tf e).fM w=true∧c=0∧i+l<=xs.length∧1<l then .need (0<=n∧n<l) (.ok (.el p (i+n.toNat) 0))else .no
   |_=>.no
 |_,_,_=>.no
def zl(i:TI)(x j:AV):R AV :=
 match i.k,x,j with
 |.str,.d (.str l),.d (.int _ n)=>.need (0<=n∧n<l.length) (.ok (.d (.int .u8 (l.getD n.toNat 0).toNat)))
 |_,_,_=>.no
def p3(n:Int)(x:Option AV):Option Int :=
 match x with
 |none=>some n
 |some (.d (.int _ m))=>some m
 |_=>none
def tW(i:TI)(tf:Nat->TI)(hp:Name->Option Ob)(x:AV)(lo hi:Option AV):R AV :=
 match i.k,x with
 |.str,.d (.str l)=>match p3 0 lo,p3 l.length hi with
   |some a,some b=>.need (0<=a∧a<=b∧b<=l.length) (.ok (.d (.str ((l.drop a.toNat).take (b.toNat-a.toNat)))))
   |_,_=>.no
 |.slice e,.d (.sl w xs)=>if(tf e).fM w then match p3 0 lo,p3 xs.length hi with
   |some a,some b=>.need (0<=a∧a<=b∧b<=xs.length) (.ok (.d (.sl w ((xs.drop a.toNat).take (b.toNat-a.toNat)))))
   |_,_=>.no
  else .no
 |.slice e,.vw p o n=>match hp p with
   |some (.bu none w _)=>if(tf e).fM w then match p3 0 lo,p3 n hi with
     |some a,some b=>.need (0<=a∧a<=b∧b<=n) (.ok (.vw p (o+a.toNat) (b.toNat-a.toNat)))
     |_,_=>.no
    else .no
   |_=>.no
 |.slice e,.d .ai=>if(tf e).k.dA then .no else match p3 0 lo,p3 0 hi with
   |some a,some b=>.need (a=0∧b=0) (.ok (.d .ai))
   |_,_=>.no
 |.arr l e,.el p i c=>match hp p,lo,hi with
   |some (.bu none w xs),none,none=>if(tf e).fM w=true∧c=0∧i+l<=xs.length then .ok (.vw p i l)else .no
   |_,_,_=>.no
 |_,_=>.no
def qW(op:BinOp)(k:IntKind)(x y:Int):Int :=
 match op with
 |.and=>k.wrap ((BitVec.ofInt k.bits x &&& BitVec.ofInt k.bits y).toNat)
 |.or=>k.wrap ((BitVec.ofInt k.bits x ||| BitVec.ofInt k.bits y).toNat)
 |.xor=>k.wrap ((BitVec.ofInt k.bits x ^^^ BitVec.ofInt k.bits y).toNat)
 |_=>k.wrap ((BitVec.ofInt k.bits x &&& ~~~BitVec.ofInt k.bits y).toNat)
def TK.isBool:TK->Bool
 |.bool=>true
 |_=>false
def Ch(tk:TK)(op:BinOp)(x y:D):R D :=
 match op,x,y with
 |.and,.int i a,.int j b=>if i=j then .ok (.int i (qW .and i a b))else .no
 |.or,.int i a,.int j b=>if i=j then .ok (.int i (qW .or i a b))else .no
 |.xor,.int i a,.int j b=>if i=j then .ok (.int i (qW .xor i a b))else .no
 |.andNot,.int i a,.int j b=>if i=j then .ok (.int i (qW .andNot i a b))else .no
 |.shl,.int i a,.int _ b=>.need (0<=b) (.ok (.int i (i.wrap (a*2 ^ min b.toNat i.bits))))
 |.shr,.int i a,.int _ b=>.need (0<=b) (.ok (.int i (a.fdiv (2 ^ min b.toNat i.bits))))
 |.eql,.bool a,.bool b=>if tk.isBool then .ok (.bool (a == b))else .no
 |.neq,.bool a,.bool b=>if tk.isBool then .ok (.bool (!(a == b)))else .no
 |.add,.int i a,.int j b=>if i=j then .ok (.int i (i.wrap (a+b)))else .no
 |.sub,.int i a,.int j b=>if i=j then .ok (.int i (i.wrap (a-b)))else .no
 |.mul,.int i a,.int j b=>if i=j then .ok (.int i (i.wrap (a*b)))else .no
 |.quo,.int i a,.int j b=>if i=j then .need (b≠0) (.ok (.int i (i.wrap (a.tdiv b))))else .no
 |.rem,.int i a,.int j b=>if i=j then .need (b≠0) (.ok (.int i (a.tmod b)))else .no
 |.eql,.int i a,.int j b=>if i=j then .ok (.bool (a == b))else .no
 |.neq,.int i a,.int j b=>if i=j then .ok (.bool (a != b))else .no
 |.lss,.int i a,.int j b=>if i=j then .ok (.bool (decide (a<b)))else .no
 |.leq,.int i a,.int j b=>if i=j then .ok (.bool (decide (a<=b)))else .no
 |.gtr,.int i a,.int j b=>if i=j then .ok (.bool (decide (b<a)))else .no
 |.geq,.int i a,.int j b=>if i=j then .ok (.bool (decide (b<=a)))else .no
 |.add,.str a,.str b=>.need (a.length+b.length<=140737488355328) (.ok (.str (a++b)))
 |.eql,.str a,.str b=>.ok (.bool (a == b))
 |.neq,.str a,.str b=>.ok (.bool (!(a == b)))
 |.lss,.str a,.str b=>.ok (.bool (Op.bytesLess a b))
 |.leq,.str a,.str b=>.ok (.bool (Op.bytesLess a b||a == b))
 |.gtr,.str a,.str b=>.ok (.bool (!(Op.bytesLess a b||a == b)))
 |.geq,.str a,.str b=>.ok (.bool (!(Op.bytesLess a b)))
 |_,_,_=>.no
def dR(r:R D):R AV:=r.bind fun d=>.ok (.d d)
def zm(tk:TK)(op:BinOp)(x y:AV):R AV :=
 match x,y with
 |.d a,.d b=>dR (Ch tk op a b)
 |_,_=>.no
def zn(op:UnOp)(x:AV):R AV :=
 match op,x with
 |.not,.d (.bool b)=>.ok (.d (.bool (!b)))
 |.neg,.d (.int i a)=>.ok (.d (.int i (i.wrap (0-a))))
 |_,_=>.no
def sj(c x y:AV):R AV :=
 match c with
 |.d (.bool true)=>.ok x
 |.d (.bool false)=>.ok y
 |_=>.no
def tX(i:TI)(hp:Name->Option Ob)(x:AV):R AV :=
 match i.k,x with
 |.str,.d (.str l)=>.ok (.d (.int .i64 l.length))
 |.slice _,.d (.sl _ xs)=>.ok (.d (.int .i64 xs.length))
 |.slice _,.d .ai=>.ok (.d (.int .i64 0))
 |.slice _,.vw p _ l=>match hp p with
   |some (.bu _ _ _)=>.ok (.d (.int .i64 l))
   |_=>.no
 |.map _ _,.mp p=>match hp p with
   |some (.map es)=>.ok (.d (.int .i64 es.length))
   |_=>.no
 |_,_=>.no
def zo(hp:Name->Option Ob)(x:AV):R AV :=
 match x with
 |.bx p c=>(match hp p with
   |some (.bz _ _)=>.ok (.bx p c)
   |_=>.no)
 |_=>.no
def zp(x y:AV):R AV :=
 match x,y with
 |.d (.int i a),.d (.int j b)=>if i=j then .ok (.d (.int i (if b > a then b else a)))else .no
 |_,_=>.no
def zq(x y:AV):R AV :=
 match x,y with
 |.d (.int i a),.d (.int j b)=>if i=j then .ok (.d (.int i (if b<a then b else a)))else .no
 |_,_=>.no
def zr(a b:TI)(x:AV):R AV :=
 match a.k,b.k,x with
 |.int _,.int j,.d (.int _ n)=>.ok (.d (.int j (j.wrap n)))
 |.str,.str,.d (.str l)=>.ok (.d (.str l))
 |_,_,_=>.no
def zt(x:AV)(i:Nat):R AV :=
 match x with
 |.aA vs=>R.jU vs[i]?
 |_=>.no
def xB(tf:Nat->TI)(fs:List (Nat×Nat)):List AV->List (Nat×AV)->Option (List AV)
 |cs,[]=>some cs
 |cs,q::r =>
   match fs[q.1]?,iW q.2 with
   |some (o,t),some vs=>if vs.length=(tf t).sz∧o+vs.length<=cs.length then xB tf fs (splice cs o vs) r else none
   |_,_=>none
def zu(tf:Nat->TI):List (Nat×Nat)->Bool
 |[]=>true
 |q::r=>!(tf q.2).k.dA&&zu tf r
def zw(tf:Nat->TI)(i:TI)(parts:List (Nat×AV)):R AV :=
 match i.k,i.z with
 |.struct fs,some zs=>if zu tf fs then R.jU ((xB tf fs (zs.map .d) parts).map mT)else .no
 |.arr _ e,some zs=>match parts with
   |[]=>if(tf e).k.dA then .no else .ok (mT (zs.map .d))
   |_=>.no
 |_,_=>.no
def sk:Nat->List (Nat×AV)->Option (List D)
 |_,[]=>some []
 |i,q::r=>match q.2 with
   |.d x=>if q.1=i then(sk (i+1) r).map (x::·)else none
   |_=>none
def c9(n:Nat)(d:Option Nat)(s:St)(x:AV):R St :=
 match d with
 |some t=>if t<n then .ok (s.put t x)else .no
 |none=>.ok s
def jI(n:Nat)(d:Option Nat)(s:St)(ob:Ob)(x:Name->AV):R St :=
 match d with
 |some t=>if t<n∧t∉s.used then .ok ((s.add t ob).put t (x [t]))else .no
 |none=>.no
def kr(w:W)(hp:Name->Option Ob):AV->Option (List D)
 |.vw p o l=>match hp p with
   |some (.bu _ w' ys)=>if w'=w then some ((ys.drop o).take l)else none
   |_=>none
 |.d (.sl w' ys)=>if w'=w then some ys else none
 |.d .ai=>some []
 |_=>none
def TI.nN(i:TI):Bool:=match i.z with
 |some z=>z.length == i.sz
 |none=>false
def TI.lN(i:TI):Nat:=if i.by'=0 then 1 else i.by'
def vF(n:Nat)(e:TI)(d:Option Nat)(s:St)(x y:AV):R St :=
 match kr e.w s.hp y,x with
 |some ys,.d .ai=>.need (ys.length*e.lN<=140737488355328) (jI n d s (.arr e.w ys) (.vw · 0 ys.length))
 |some ys,.vw p o l =>
   match s.hp p with
   |some (.bu none w xs)=>if w=e.w then .need ((l+ys.length)*e.lN<=140737488355328) (jI n d (s.set p none) (.arr w ((xs.drop o).take l++ys)) (.vw · 0 (l+ys.length)))else .no
   |_=>.no
 |_,_=>.no
def Ci(ty:Option Nat)(n:Nat)(e:TI)(d:Option Nat)(s:St)(x y:AV):R St :=
 match kr e.w s.hp y,x with
 |some ys,.d .ai=>.need (ys.length*e.lN<=140737488355328) (jI n d s (.bu ty e.w ys) (.vw · 0 ys.length))
 |some ys,.vw p o l =>
   match s.hp p with
   |some (.bu ty' w xs)=>if ty'=ty∧w=e.w then .need ((l+ys.length)*e.lN<=140737488355328) (jI n d (s.set p none) (.bu ty w ((xs.drop o).take l++ys)) (.vw · 0 (l+ys.length)))else .no
   |_=>.no
 |_,_=>.no
theorem T1(n:Nat)(e:TI)(d:Option Nat)(s:St)(x y:AV):vF n e d s x y=Ci none n e d s x y:=by
 unfold vF Ci
 cases kr e.w s.hp y with
 |none=>rfl
 |some ys =>
   cases x with
   |vw p o l =>
     simp only
     cases s.hp p with
     |none=>rfl
     |some ob =>
       cases ob with
       |bu ty w xs=>cases ty<;>simp
       |_=>rfl
   |d z=>cases z<;>rfl
   |_=>rfl
def zx(fn:Fn)(first:List Operand)(aR:List AV):R AV :=
 match fn,first with
 |.func f,[]=>.ok (.aW f aR)
 |_,_=>.no
def zy(n:Nat)(i:TI)(tf:Nat->TI)(d:Option Nat)(s:St)(l c:AV):R St :=
 match i.k,l,c with
 |.slice e,.d (.int .i64 a),.d (.int .i64 b) =>
   match(tf e).zero with
   |some z=>if((tf e).fM (tf e).w&&pZ (tf e).w z)=false then .no else .need (0<=a∧a<=b∧b*(tf e).by'<=140737488355328∧b<=140737488355328) (jI n d s (.arr (tf e).w (List.replicate a.toNat z)) (.vw · 0 a.toNat))
   |none=>.no
 |_,_,_=>.no
def Cj(tf:Nat->TI)(n:Nat)(b:Builtin)(args:List AV)(ts:List Nat)(d:Option Nat)(s:St):R St :=
 match b,args with
 |.len,[x]=>match ts with
   |[t]=>(tX (tf t) s.hp x).bind (c9 n d s)
   |_=>.no
 |.max,[x,y]=>(zp x y).bind (c9 n d s)
 |.min,[x,y]=>(zq x y).bind (c9 n d s)
 |.append,[x,y] =>
   match ts with
   |[t,t']=>if t≠t' then .no else match(tf t).k with
     |.slice e=>if(tf e).nN∧(tf e).fM (tf e).w then vF n (tf e) d s x y else .no
     |_=>.no
   |_=>.no
 |_,_=>.no
def FI(tf:Nat->TI)(t:Nat):Bool :=
 match(tf t).k with
 |.struct [(_,x),(_,_)]=>match(tf x).k with
   |.ptr z=>z == t
   |_=>false
 |_=>false
def FJ(tf:Nat->TI):List (Nat×Nat)->Bool
 |[]=>false
 |q::r=>if FI tf q.2 then true else FJ tf r
def xC(tf:Nat->TI)(t:Nat):Option Nat :=
 match(tf t).k with
 |.struct fs=>if FI tf t then some t else if FJ tf fs then some t else none
 |_=>none
theorem T2(tf:Nat->TI)(t:Nat):(xC tf t).getD t=t:=by
 unfold xC;split
 .split
  .rfl
  split<;>rfl
 .rfl
def zz:TK->Option Nat
 |.slice e=>some e
 |_=>none
section
variable (tf:Nat->TI)(n:Nat)
def cR(o:Op)(d:Option Nat)(s:St):R St :=
 match o with
 |.move x=>c9 n d s (ev s x)
 |.assign x=>c9 n d s (ev s x)
 |.pick c a b=>(sj (ev s c) (ev s a) (ev s b)).bind (c9 n d s)
 |.alloc e=>match(tf e).z with
   |some cs=>jI n d s (.bz (xC tf e) (cs.map .d)) (.bx · 0)
   |none=>.no
 |.box _ x=>match iW (ev s x)with
   |some cs=>jI n d s (.box cs) (.bx · 0)
   |none=>.no
 |.build t parts=>(zw tf (tf t) (parts.toList.map fun q=>(q.1,ev s q.2))).bind (c9 n d s)
 |.buildSlice t l parts =>
   match zz (tf t).k,sk 0 (parts.toList.map fun q=>(q.1,ev s q.2))with
   |some e,some xs=>if xs.length=l∧(tf e).z.isSome∧(tf e).fM (tf e).w∧xs.all (pZ (tf e).w)∧l*(tf e).sz<=16777216 then jI n d s (.arr (tf e).w xs) (.vw · 0 l)else .no
   |_,_=>.no
 |.load t x=>(qV (tf t) s.hp (ev s x)).bind (c9 n d s)
 |.store t x v=>(tT (tf t) s (ev s x) (ev s v)).bind fun s'=>c9 n d s' .un
 |.fieldAddr t x f=>(tU (tf t) tf s.hp (ev s x) f).bind (c9 n d s)
 |.field t x f=>(zk (tf t) tf (ev s x) f).bind (c9 n d s)
 |.indexAddr t x j=>(tV (tf t) tf s.hp (ev s x) (ev s j)).bind (c9 n d s)
 |.index t x j=>(zl (tf t) (ev s x) (ev s j)).bind (c9 n d s)
 |.slice t x lo hi mx=>match mx with
   |none=>(tW (tf t) tf s.hp (ev s x) (lo.map (ev s)) (hi.map (ev s))).bind (c9 n d s)
   |some _=>.no
 |.binOp op t x y _=>(zm (tf t).k op (ev s x) (ev s y)).bind (c9 n d s)
 |.unOp op _ x=>(zn op (ev s x)).bind (c9 n d s)
 |.convert a b x=>(zr (tf a) (tf b) (ev s x)).bind (c9 n d s)
 |.extract x i=>(zt (ev s x) i).bind (c9 n d s)
 |.nilCheck x=>(zo s.hp (ev s x)).bind (c9 n d s)
 |.makeFunc fn first aR=>(zx fn first.toList (aR.toList.map (ev s))).bind (c9 n d s)
 |.makeSlice t l c=>zy n (tf t) tf d s (ev s l) (ev s c)
 |.call c=>match c.callee with
   |.builtin b=>Cj tf n b (c.args.toList.map (ev s)) c.argTypes.toList d s
   |_=>.no
 |_=>.no
end
end Go.Ab
namespace Go.Ab
inductive It where
 |code (c:Code)
 |ops (all:Array Oper) (r:List Oper)
 |ff (i:Nat)
def fN:Code->Nat
 |.region _ ops _=>ops.toList.length+2
 |.seq a b=>fN a+fN b+1
 |.cond _ a b=>fN a+fN b+1
 |.block _ b=>fN b+2
 |_=>1
def It.fN:It->Nat
 |.code c=>Ab.fN c
 |.ops _ r=>r.length+1
 |.ff _=>1
def jJ:List It->Nat
 |[]=>0
 |i::k=>i.fN+jJ k
theorem zA(c:Code):0<fN c:=by cases c<;>simp[fN]
theorem It.zA(i:It):0<i.fN:=by cases i<;>simp[It.fN,Ab.zA]
def ml(i:Nat):List It->Option (List It)
 |[]=>none
 |.ff j::k=>if j=i then some k else ml i k
 |_::k=>ml i k
theorem zB(i:Nat):∀(k k':List It),ml i k=some k'->jJ k'<=jJ k
 |[],k',h=>by cases h
 |.ff j::k,k',h=>by
   simp only[ml]at h;split at h
   .cases h;simp[jJ]
   .have:=zB i k k' h;simp[jJ];omega
 |.code c::k,k',h=>by have:=zB i k k' h;simp[jJ];omega
 |.ops _ r::k,k',h=>by have:=zB i k k' h;simp[jJ];omega
def R.run:R St->(St->Prop)->Prop->Prop
 |.ok s,f,_=>f s
 |.need p r,f,z=>p∧r.run f z
 |.no,_,z=>z
structure Cf where
 n:Nat
 ro:Option Nat
 G:List (Nat×Obj)
 U:List Nat
def Cf.fits(c:Cf)(B:Base):Prop:=B.n=c.n∧B.U0=c.U∧B.G=c.G
section
variable (P:Program)(cf:Cf)
def Fw(ro:Option Nat):Fence:={ Fence.wide with round:=ro }
def hold(Q:Exit->Act->World->Prop):List It->Exit->Act->World->Prop
 |[],e,a,w=>Q e a w
 |.code c::k,e,a,w=>match e with
   |.normal=>c.wpIn (Fw cf.ro) 0 P (hold Q k) a w
   |e=>hold Q k e a w
 |.ops all r::k,e,a,w=>match e with
   |.normal=>∀(l:List Nat),l.map (all[·]?)=r.map some->wpOpsIn (Fw cf.ro) 0 P all (hold Q k) l a w
   |e=>hold Q k e a w
 |.ff i::k,e,a,w=>match e with
   |.normal=>hold Q k .normal a w
   |.exit j=>if j=i then hold Q k .normal a w else hold Q k (.exit j) a w
   |e=>hold Q k e a w
def lift(B:Base)(ds:List Deferred)(Q:Exit->St->Prop)(e:Exit)(a:Act)(w:World):Prop :=
 a.defers=ds∧∃s β,Q e s∧aj B β s a.tmps w
def tY(k:List It)(Q:Exit->St->Prop)(s:St):Prop :=
 ∀(B:Base),cf.fits B->∀ds β a w,a.defers=ds->aj B β s a.tmps w->hold P cf (lift B ds Q) k .normal a w
def fS(o:Oper)(s:St)(k:List It)(Q:Exit->St->Prop):Prop :=
 ∀(B:Base),cf.fits B->∀ds β a w,a.defers=ds->aj B β s a.tmps w->∀Q',o.wpIn (Fw cf.ro) 0 P a w (fun a' w'=>a'.defers=ds∧∃s' β',tY P cf k Q s'∧aj B β' s' a'.tmps w') Q'
def p4(c:Code)(s:St)(k:List It)(Q:Exit->St->Prop):Prop:=tY P cf (.code c::k) Q s
def nO(all:Array Oper)(j:Nat)(s:St):Option (Nat×AV) :=
 match all[j]? with
 |some o=>o.dst.map fun t=>(t,s.fr t)
 |none=>none
def run:List It->(Exit->St->Prop)->St->Prop
 |[],Q,s=>Q .normal s
 |.ff _::k,Q,s=>run k Q s
 |.ops _ []::k,Q,s=>run k Q s
 |.ops all (o::r)::k,Q,s =>
   match o.guard with
   |none=>(cR P.ti cf.n o.op o.dst s).run (fun s'=>run (.ops all r::k) Q s') (fS P cf o s (.ops all r::k) Q)
   |some (j,want) =>
     match nO all j s with
     |some (t,.d (.bool b)) =>
       (b=want->(cR P.ti cf.n o.op o.dst (s.put t (.d (.bool want)))).run (fun s'=>run (.ops all r::k) Q s') (fS P cf { o with guard:=none } (s.put t (.d (.bool want))) (.ops all r::k) Q)) ∧
       (b=!want->(c9 cf.n o.dst (s.put t (.d (.bool (!want)))) (.aA [])).run (fun s'=>run (.ops all r::k) Q s') False)
     |some (_,.aA [])=>(c9 cf.n o.dst s (.aA [])).run (fun s'=>run (.ops all r::k) Q s') False
     |_=>False
 |.code .skip::k,Q,s=>run k Q s
 |.code (.region _ ops false)::k,Q,s=>run (.ops ops ops.toList::k) Q s
 |.code (.region i ops true)::k,Q,s=>p4 P cf (.region i ops true) s k Q
 |.code (.seq a b)::k,Q,s=>run (.code a::.code b::k) Q s
 |.code (.cond c a b)::k,Q,s =>
   match ev s c with
   |.d (.bool t)=>(t=true->run (.code a::k) Q s)∧(t=false->run (.code b::k) Q s)
   |_=>False
 |.code (.block i c)::k,Q,s=>run (.code c::.ff i::k) Q s
 |.code (.exit i)::k,Q,s=>match _h:ml i k with
   |some k'=>run k' Q s
   |none=>Q (.exit i) s
 |.code .ret::_,Q,s=>Q .ret s
 |.code c::k,Q,s=>p4 P cf c s k Q
termination_by k=>jJ k
decreasing_by
 all_goals simp only[jJ,It.fN,fN,List.length_cons,List.length_nil]
 all_goals first
  |omega
  |(have:=zA ‹_›;omega)
  |(have:=zB _ _ _ _h;omega)
end
end Go.Ab
namespace Go.Ab
section
variable (P:Program)(cf:Cf)
def aX(r:R St)(o:Oper)(s:St)(k:List It)(Q:Exit->St->Prop):Prop:=r.run (fun s'=>run P cf k Q s') (fS P cf o s k Q)
def gd(v:Option (Nat×AV))(want:Bool)(all:Array Oper)(o:Oper)(r:List Oper)(s:St)(k:List It)(Q:Exit->St->Prop):Prop :=
 match v with
 |some (t,.d (.bool b)) =>
   (b=want->aX P cf (cR P.ti cf.n o.op o.dst (s.put t (.d (.bool want)))) { o with guard:=none } (s.put t (.d (.bool want))) (.ops all r::k) Q) ∧
   (b=!want->(c9 cf.n o.dst (s.put t (.d (.bool (!want)))) (.aA [])).run (fun s'=>run P cf (.ops all r::k) Q s') False)
 |some (_,.aA [])=>(c9 cf.n o.dst s (.aA [])).run (fun s'=>run P cf (.ops all r::k) Q s') False
 |_=>False
def lO(v:AV)(a b:Code)(k:List It)(Q:Exit->St->Prop)(s:St):Prop :=
 match v with
 |.d (.bool t)=>(t=true->run P cf (.code a::k) Q s)∧(t=false->run P cf (.code b::k) Q s)
 |_=>False
def xD(o:Option (List It))(i:Nat)(Q:Exit->St->Prop)(s:St):Prop :=
 match o with
 |some k=>run P cf k Q s
 |none=>Q (.exit i) s
variable {P cf}
variable (Q:Exit->St->Prop)(s:St)(k:List It)(o:Oper)(x:Operand)(a b:Code)(i:Nat)
theorem mU:run P cf [] Q s=Q .normal s:=by rw[run]
theorem Kw:run P cf (.ff i::k) Q s=run P cf k Q s:=by rw[run]
theorem Kx(all:Array Oper):run P cf (.ops all []::k) Q s=run P cf k Q s:=by rw[run]
theorem Ky(all:Array Oper)(d:Option Nat)(op:Op)(t:Nat)(p:String)(e:Array Edge)(r:List Oper) :
 run P cf (.ops all ({ dst:=d,op:=op,type:=t,pos:=p,after:=e,guard:=none }::r)::k) Q s =
  aX P cf (cR P.ti cf.n op d s) { dst:=d,op:=op,type:=t,pos:=p,after:=e,guard:=none } s (.ops all r::k) Q:=by rw[run];rfl
theorem Kz(all:Array Oper)(d:Option Nat)(op:Op)(t:Nat)(p:String)(e:Array Edge)(j:Nat)(want:Bool)(r:List Oper) :
 run P cf (.ops all ({ dst:=d,op:=op,type:=t,pos:=p,after:=e,guard:=some (j,want) }::r)::k) Q s =
  gd P cf (nO all j s) want all { dst:=d,op:=op,type:=t,pos:=p,after:=e,guard:=some (j,want) } r s k Q:=by rw[run];rfl
theorem KA:run P cf (.code .skip::k) Q s=run P cf k Q s:=by rw[run]
theorem KB(ops:List Oper):run P cf (.code (.region i ops.toArray false)::k) Q s=run P cf (.ops ops.toArray ops::k) Q s:=by rw[run]
theorem T3(ops:Array Oper):run P cf (.code (.region i ops true)::k) Q s=p4 P cf (.region i ops true) s k Q:=by rw[run]
theorem run_seq:run P cf (.code (.seq a b)::k) Q s=run P cf (.code a::.code b::k) Q s:=by rw[run]
theorem KC:run P cf (.code (.cond x a b)::k) Q s=lO P cf (ev s x) a b k Q s:=by rw[run];rfl
theorem KD:run P cf (.code (.block i a)::k) Q s=run P cf (.code a::.ff i::k) Q s:=by rw[run]
theorem T4:run P cf (.code (.exit i)::k) Q s=xD P cf (ml i k) i Q s:=by
 rw[run];unfold xD;split<;>simp_all
theorem KE:run P cf (.code .ret::k) Q s=Q .ret s:=by rw[run]
theorem KF:run P cf (.code (.loop a)::k) Q s=p4 P cf (.loop a) s k Q:=by rw[run];all_goals simp
theorem Ck(s':St):aX P cf (.ok s') o s k Q=run P cf k Q s':=rfl
theorem FK(p:Prop)(r:R St):aX P cf (.need p r) o s k Q=(p∧aX P cf r o s k Q):=rfl
theorem FL:aX P cf .no o s k Q=fS P cf o s k Q:=rfl
def gV(s:St):Option Oper->Option (Nat×AV)
 |some o=>o.dst.map fun t=>(t,s.fr t)
 |none=>none
theorem T5(all:List Oper)(j:Nat):nO all.toArray j s=gV s all[j]?:=by
 simp only[nO,ajf];cases all[j]?<;>rfl
end
section
variable (s:St)(t i:Nat)(v:AV)(ob:Ob)(p q:Name)(oo:Option Ob)
def aE{α β:Type}[DecidableEq α](z:β):List (α×β)->α->β
 |[],_=>z
 |q::r,i=>if i=q.1 then q.2 else aE z r i
def mk(fr:List (Nat×AV))(hp:List (Name×Ob))(used:List Nat):St :=
 { fr:=aE .un fr,hp:=aE none (hp.map fun q=>(q.1,some q.2)),used:=used }
theorem kV(fr hp used):(mk fr hp used).fr i=aE .un fr i:=rfl
theorem tZ(fr hp used):(mk fr hp used).hp p=aE none (hp.map fun q=>(q.1,some q.2)) p:=rfl
theorem ay(fr hp used):(mk fr hp used).used=used:=rfl
theorem xE{α β:Type}[DecidableEq α](z:β)(i:α):aE z [] i=z:=rfl
theorem lP{α β:Type}[DecidableEq α](z:β)(q:α×β)(r)(i:α):aE z (q::r) i=if i=q.1 then q.2 else aE z r i:=rfl
end
end Go.Ab

