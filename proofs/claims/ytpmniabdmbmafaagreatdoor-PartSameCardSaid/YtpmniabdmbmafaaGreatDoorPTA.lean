/-
  The generic layer, part 1: data by values ('D'), what a temporary may hold ('AV'), objects by names ('Ob'), and when machine memory stands for them ('Rep', 'VR', 'OR', 'Sim'). It names no program. (with the parts that follow it) (with the parts that follow it)
-/
import Derived.CallsIn
import Derived.Laws.AppendOwn
import Derived.Laws.Strings
import Derived.Laws.Cells
import Derived.Laws.Rows
import Derived.Laws.Tables
import Derived.Laws.IdiomCopy
import Derived.Laws.Entries
import Derived.Attr
set_option linter.all false
set_option maxHeartbeats 16000000
namespace Go.Ab
abbrev akX:=@List.getD_eq_getElem?_getD
abbrev akY:=@List.getElem?_eq_some_iff
abbrev akZ:=@Array.getD_eq_getD_getElem?
abbrev ak0:=@List.getElem?_eq_getElem
abbrev ak1:=@List.mem_append
abbrev ak2:=@List.getElem_mem
abbrev ak3:=@List.mem_singleton
abbrev ak4:=@List.length_append
abbrev ak5:=@List.take_of_length_le
abbrev ak6:=@List.mem_map
abbrev ak7:=@Bool.and_eq_true
abbrev ak8:=@Option.map_eq_some_iff
abbrev ak9:=@List.take_succ_eq_append_getElem
abbrev ala:=@List.getElem?_map
abbrev alb:=@List.mem_cons_self
abbrev alc:=@List.mem_cons
abbrev ald:=@List.mem_cons_of_mem
abbrev ale:=@Nat.zero_le
abbrev alf:=@List.map_cons
abbrev alg:=@List.length_map
abbrev alh:=@List.map_append
abbrev ali:=@Nat.le_refl
abbrev alj:=@List.getElem?_append_left
abbrev alk:=@List.take_length
abbrev alm:=@List.mem_append_left
abbrev aln:=@List.getElem?_append_right
abbrev alo:=@Option.some.inj
abbrev alp:=@List.mem_of_getElem?
abbrev alq:=@List.length_take
abbrev alr:=@List.all_eq_true
abbrev als:=@Bool.false_eq_true
abbrev alu:=@List.getElem?_set_ne
abbrev alv:=@List.not_mem_nil
abbrev alw:=@List.mem_range
abbrev alx:=@List.getElem_of_mem
abbrev aly:=@List.mem_filter
abbrev alz:=@Nat.mul_le_mul_right
abbrev alA:=@List.getElem?_set_self
abbrev alB:=@List.mem_append_right
abbrev alC:=@Nat.zero_add
abbrev alD:=@List.map_map
abbrev alE:=@Option.some.injEq
abbrev alF:=@Bool.or_eq_true
abbrev alG:=@List.any_eq_true
abbrev alH:=@Bool.not_eq_true'
abbrev alI:=@List.map_congr_left
abbrev alJ:=@List.map_nil
abbrev alK:=@List.append_assoc
abbrev alL:=@List.mem_of_mem_take
abbrev alM:=@Array.getElem?_toList
abbrev alN:=@List.getElem?_eq_none
abbrev alO:=@Array.getElem?_append
abbrev alP:=@Nat.lt_or_ge
abbrev alQ:=@Bool.false_and
abbrev alS:=@List.append_nil
abbrev alT:=@Array.getElem?_eq_none
abbrev alU:=@Nat.le_trans
abbrev alV:=@Nat.lt_of_lt_of_le
abbrev alW:=@List.nodup_cons
abbrev alX:=@List.length_set
abbrev alY:=@List.getElem?_drop
abbrev alZ:=@List.nodup_append
abbrev al0:=@Bool.or_eq_false_iff
abbrev al3:=@List.cons.injEq
abbrev al4:=@List.length_filter_le
abbrev al5:=@List.mem_of_mem_drop
abbrev al6:=@Array.getElem?_eq_getElem
abbrev al7:=@Array.getElem?_modify
abbrev al8:=@Nat.succ_mul
abbrev al9:=@List.ext_getElem
abbrev ama:=@List.any_eq_false
abbrev amb:=@List.getElem?_take
abbrev amc:=@List.length_replicate
abbrev amd:=@Prod.mk.injEq
abbrev ame:=@Bool.true_and
abbrev amf:=@Nat.add_mul
abbrev amg:=@List.ext_getElem?
abbrev amh:=@List.eq_nil_of_length_eq_zero
abbrev ami:=@Nat.not_lt_zero
abbrev amj:=@Decidable.byContradiction
abbrev amk:=@List.pairwise_iff_getElem
abbrev aml:=@List.eq_of_mem_replicate
abbrev amm:=@List.getElem?_toArray
abbrev amn:=@List.getElem_map
abbrev amo:=@List.drop_eq_getElem_cons
abbrev amq:=@List.getElem?_zip_eq_some
abbrev amr:=@List.map_set
abbrev ams:=@List.mem_map_of_mem
abbrev amt:=@List.mem_range'_1
abbrev amu:=@Option.bind_eq_some_iff
abbrev amv:=@List.getElem?_replicate
abbrev amw:=@Array.getElem?_eq_some_iff
abbrev amx:=@List.filter_append
abbrev amy:=@List.getElem?_eq_none_iff
abbrev amz:=@Nat.le_succ_of_le
abbrev amA:=@Bool.not_true
abbrev amB:=@List.mem_iff_getElem?
abbrev amC:=@Bool.and_false
abbrev amD:=@Bool.not_eq_false'
abbrev amE:=@List.length_eq_zero_iff
abbrev amF:=@Nat.add_assoc
abbrev amG:=@Array.getElem?_setIfInBounds_ne
abbrev amH:=@Prod.mk.inj
abbrev amI:=@List.size_toArray
abbrev amJ:=@List.length_pos_iff
abbrev amK:=@Array.eq_empty_of_size_eq_zero
abbrev amL:=@Bool.eq_iff_iff
abbrev amM:=@Bool.not_eq_false
abbrev amN:=@List.foldl_append
abbrev amO:=@Nat.le_of_not_lt
abbrev amP:=@List.getElem_set
abbrev amQ:=@Bool.and_eq_false_iff
abbrev amR:=@List.getElem?_take_of_lt
abbrev amS:=@Array.size_append
abbrev amT:=@List.map_drop
abbrev amU:=@List.filter_eq_self
abbrev amV:=@Bool.not_false
abbrev amW:=@List.length_pos_of_mem
abbrev amX:=@List.pairwise_cons
abbrev amY:=@List.take_append_drop
abbrev amZ:=@Nat.min_eq_left
abbrev am0:=@List.map_take
abbrev am1:=@List.getElem?_set
abbrev am2:=@List.filter_congr
abbrev am3:=@List.getElem_take
abbrev am4:=@List.contains_eq_mem
abbrev am5:=@Nat.sub_self
abbrev am6:=@Array.getElem?_push_size
abbrev am7:=@Nat.le_mul_of_pos_right
abbrev am8:=@List.pairwise_singleton
abbrev am9:=@List.filter_cons_of_pos
abbrev ana:=@Bool.and_true
abbrev anb:=@List.eq_nil_iff_forall_not_mem
abbrev anc:=@List.filter_eq_nil_iff
abbrev ane:=@List.pairwise_map
abbrev anf:=@List.drop_drop
abbrev ang:=@List.set_append_right
abbrev anh:=@List.Perm.append_left
abbrev ani:=@Array.ext'
abbrev anj:=@List.getElem?_of_mem
abbrev ank:=@Array.mem_toList_iff
abbrev anl:=@List.countP_cons
abbrev anm:=@Bool.or_assoc
abbrev ann:=@Nat.mul_one
abbrev ano:=@Array.getElem?_push
abbrev anp:=@List.getD_cons_zero
abbrev anq:=@Int.toNat_of_nonneg
abbrev anr:=@List.length_reverse
abbrev ans:=@List.mem_or_eq_of_mem_set
abbrev ant:=@Option.isSome_iff_exists
abbrev anu:=@List.length_erase_of_mem
abbrev anv:=@List.set_set
abbrev anw:=@List.find?_eq_none
abbrev anx:=@List.nodup_nil
abbrev anz:=@List.all_eq_false
abbrev anA:=@List.drop_eq_nil_of_le
abbrev anB:=@Nat.lt_irrefl
abbrev anC:=@Bool.false_or
abbrev anD:=@Nat.lt_succ_self
abbrev anE:=@List.mem_flatMap
abbrev anF:=@Bool.not_eq_true
abbrev anG:=@List.perm_middle
abbrev anH:=@Nat.add_comm
abbrev anI:=@List.range_succ
abbrev anJ:=@List.all_append
abbrev anK:=@Nat.le_of_eq
abbrev anL:=@List.take_append_of_le_length
abbrev anM:=@List.mapM_cons
abbrev anN:=@List.dropLast_concat_getLast
abbrev anO:=@List.drop_zero
abbrev anP:=@Int.natCast_nonneg
abbrev anQ:=@Bool.or_false
abbrev anR:=@Nat.succ_le_of_lt
abbrev anS:=@Array.toList_push
abbrev anT:=@Nat.lt_trichotomy
abbrev anU:=@List.take_sublist
abbrev anV:=@List.length_range
abbrev anW:=@List.findIdx_cons
abbrev anX:=@List.mem_of_find?_eq_some
abbrev anY:=@Nat.mul_comm
abbrev anZ:=@List.mem_toArray
abbrev an0:=@List.filter_cons
abbrev an1:=@List.isEmpty_iff
abbrev an2:=@List.filter_cons_of_neg
abbrev an3:=@And.right
abbrev an4:=@List.length_zip
abbrev an5:=@Nat.one_ne_zero
abbrev an6:=@List.getElem?_eraseIdx
abbrev an7:=@List.countP_le_length
abbrev an8:=@List.length_mergeSort
abbrev an9:=@Array.getElem?_mapIdx
abbrev aoa:=@Nat.mul_le_mul
abbrev aob:=@List.lt_trans
abbrev aoc:=@Nat.zero_mul
abbrev Name:=List Nat
abbrev W:=Option Nat
def wd:W->Nat
 |none=>1
 |some n=>n
inductive D where
 |int (k:IntKind) (n:Int)
 |bool (b:Bool)
 |str (s:List UInt8)
 |aY|ao|j8|nj|lF
 |unk
 |sl (w:W) (xs:List D)
 |vh (w:W) (xs:List D)
 |agg (cs:List D)
 |ptr (d:D)
 |aH (f:Nat) (aG:List D)
 |rC (t:Nat) (d:D)
 |lG (ay:Nat) (bs:List Nat) (ks vs:List D)
 |yl (l:Nat)
 deriving Inhabited
inductive AV where
 |un
 |d (x:D)
 |vw (p:Name) (off len:Nat)
 |bx (p:Name) (c:Nat)
 |el (p:Name) (i c:Nat)
 |mp (p:Name)
 |it (p:Name)
 |agg (cs:List AV)
 |az (vs:List AV)
 |aH (f:Nat) (aG:List AV)
 |va (p:Name) (off len:Nat)
 |ea (p:Name) (i:Nat)
 |ma (p:Name)
 deriving Inhabited
inductive Ob where
 |bB (ty:Option Nat) (w:W) (xs:List D)
 |bt (ty:Option Nat) (cs:List AV)
 |map (es:List (D×D))
 |rD (s:List UInt8) (pos:Nat)
 |kz (m:D) (cur:Option (D×D)) (todo:List (D×D))
 |ez (w:Nat) (xs:List AV)
 |mapA (ay:Nat) (bs:List Nat) (es:List (D×AV))
 deriving Inhabited
abbrev Ob.eA(xs:List AV):Ob:=.ez 1 xs
def D.cells:D->List D
 |.agg cs=>cs
 |d=>[d]
def D.bR:D->Bool
 |.agg _=>false
 |_=>true
def okW:W->D->Prop
 |none,d=>d.bR=true
 |some n,.agg cs=>cs.length=n∧∀d∈cs,d.bR=true
 |some _,_=>False
@[reducible] def Ob.box(cs:List AV):Ob:=.bt none cs
@[reducible] def Ob.arr(w:W)(xs:List D):Ob:=.bB none w xs
structure a8 where
 b:Nat
 o:Nat
 z:Nat
section
variable (H:Array Obj)(own:Nat->Prop)
inductive au:Value->D->Prop
 |int (k n):au (.int k n) (.int k n)
 |bool (b):au (.bool b) (.bool b)
 |str (l:List UInt8):au (.string ⟨l.toArray⟩) (.str l)
 |aY:au (.pointer none) .aY
 |ao:au (.slice none 0 0) .ao
 |j8:au (.map none) .j8
 |nj:au .nilFunc .nj
 |lF:au .nilIface .lF
 |unk (v) (h:v.oneCell'=true):au v .unk
 |yl (l:Nat):au (.func (.yield l) #[] #[]) (.yl l)
 |agg (vs:Array Value) (cs:List D) (hs:vs.size=cs.length) (hc:∀d∈cs,d.bR=true)
  (h:∀i d,cs[i]?=some d->au (vs.getD i undef) d):au (.agg vs) (.agg cs)
 |kZ (a cap w):au (.slice a 0 cap) (.sl w [])
 |sl (b o cap:Nat) (c:Array Value) (e:TypeId) (fz:Nat×Nat) (w:W) (xs:List D) (hb:H[b]?=some (.cells c e fz)) (hn:¬own b)
  (eY:xs.length<=cap) (hz:o+xs.length*wd w<=c.size) (hw:∀x∈xs,okW w x)
  (h:∀i x j d,xs[i]?=some x->x.cells[j]?=some d->au (c.getD (o+i*wd w+j) undef) d) :
  au (.slice (some ⟨b,o,none⟩) xs.length cap) (.sl w xs)
 |vh (v:Value) (w:W) (xs:List D) (h:au v (.sl w xs)) (hc:∃a,v=.slice a xs.length xs.length):au v (.vh w xs)
 |ptr (b o:Nat) (c:Array Value) (e:TypeId) (fz:Nat×Nat) (d:D) (hb:H[b]?=some (.cells c e fz)) (hn:¬own b)
  (hz:o+d.cells.length<=c.size) (dv:∀x∈d.cells,x.bR=true) (h:∀j x,d.cells[j]?=some x->au (c.getD (o+j) undef) x) :
  au (.pointer (some ⟨b,o,none⟩)) (.ptr d)
 |aH (f:Nat) (vs:Array Value) (cs:List D) (hs:vs.size=cs.length) (h:∀i d,cs[i]?=some d->au (vs.getD i undef) d) :
  au (.func (.func f) #[] vs) (.aH f cs)
 |rC (t v d) (h:au v d):au (.iface t v) (.rC t d)
 |lG (b ay:Nat) (aE:Array MapEntry) (bs:List Nat) (ks vs:List D) (hb:H[b]?=some (.map aE ay)) (hn:¬own b) (hs:aE.size=ks.length∧ks.length=vs.length) (iD:aE.toList.map (·.born)=bs)
  (hk:∀i d,ks[i]?=some d->au (aE.getD i default).key d) (hv:∀i d,vs[i]?=some d->au (aE.getD i default).val d):au (.map (some b)) (.lG ay bs ks vs)
variable (used:List Nat)(hp:Name->Option Ob)(β:Name->Option a8)
def nm(used:List Nat)(p:Name):Prop:=∃h t,p=h::t∧h∈used
inductive VR:Value->AV->Prop
 |un (v):VR v .un
 |d (v x) (h:au H own v x):VR v (.d x)
 |vw (v p off len) (hu:nm used p) (h1:v.oneCell'=true)
  (h:∀ty w xs,hp p=some (.bB ty w xs)->off+len<=xs.length∧∃a cap,v=.slice a len cap ∧
   (len=0∧cap=0∨∃k,β p=some k∧a=some ⟨k.b,k.o+off*wd w,none⟩∧len<=cap∧k.o+(off+cap)*wd w<=k.z)):VR v (.vw p off len)
 |bx (v p c) (hu:nm used p) (h1:v.oneCell'=true) (h:∀ty cs,hp p=some (.bt ty cs)->∃k,β p=some k∧k.o=0∧v=.pointer (some ⟨k.b,c,none⟩)):VR v (.bx p c)
 |el (v p i c) (hu:nm used p) (h1:v.oneCell'=true) (h:∀ty w xs,hp p=some (.bB ty w xs)->i<xs.length∧∃k,β p=some k∧v=.pointer (some ⟨k.b,k.o+i*wd w+c,none⟩)):VR v (.el p i c)
 |mp (v p) (hu:nm used p) (h1:v.oneCell'=true) (h:∀es,hp p=some (.map es)->∃k,β p=some k∧v=.map (some k.b)):VR v (.mp p)
 |its (v p) (hu:nm used p) (h1:v.oneCell'=true) (h:∀s i,hp p=some (.rD s i)->∃k,β p=some k∧v=.pointer (some ⟨k.b,0,none⟩))
  (h':∀m c i,hp p=some (.kz m c i)->∃k,β p=some k∧v=.pointer (some ⟨k.b,0,none⟩)):VR v (.it p)
 |va (v p off len) (hu:nm used p) (h1:v.oneCell'=true)
  (h:∀w xs,hp p=some (.ez w xs)->(off+len)*w<=xs.length∧∃a cap,v=.slice a len cap ∧
   (len=0∧cap=0∨∃k,β p=some k∧a=some ⟨k.b,k.o+off*w,none⟩∧len<=cap∧k.o+(off+cap)*w<=k.z)):VR v (.va p off len)
 |ea (v p i) (hu:nm used p) (h1:v.oneCell'=true) (h:∀w xs,hp p=some (.ez w xs)->i<xs.length∧∃k,β p=some k∧v=.pointer (some ⟨k.b,k.o+i,none⟩)):VR v (.ea p i)
 |ma (v p) (hu:nm used p) (h1:v.oneCell'=true) (h:∀ay bs es,hp p=some (.mapA ay bs es)->∃k,β p=some k∧v=.map (some k.b)):VR v (.ma p)
 |agg (vs:Array Value) (cs:List AV) (hs:vs.size=cs.length) (hc:∀v∈vs,v.oneCell'=true) (h:∀i x,cs[i]?=some x->VR (vs.getD i undef) x):VR (.agg vs) (.agg cs)
 |az (vs:Array Value) (cs:List AV) (hs:vs.size=cs.length) (h:∀i x,cs[i]?=some x->VR (vs.getD i undef) x):VR (.tuple vs) (.az cs)
 |aH (f:Nat) (vs:Array Value) (cs:List AV) (hs:vs.size=cs.length) (h:∀i x,cs[i]?=some x->VR (vs.getD i undef) x):VR (.func (.func f) #[] vs) (.aH f cs)
def pK(aE:Array MapEntry)(clock:Nat):Prop:=(aE.toList.map (·.born)).Nodup∧∀e∈aE.toList,e.born<clock
def M8(m:D)(since:Nat)(seen:Array Nat)(last:Nat)(cur:Option (D×D))(todo:List (D×D)):Prop :=
 ∃ay bs ks vs,m=.lG ay bs ks vs∧bs.length=ks.length∧ks.length=vs.length∧bs.Nodup∧(∀x∈bs,x<since)∧(since<=last∧since<=ay) ∧
  todo=((bs.zip (ks.zip vs)).filter fun q=>!seen.contains q.1).map (·.2)∧∀x,cur=some x->last=ay∧∃st,seen.back?=some st∧(st,x)∈bs.zip (ks.zip vs)
def OR(p:Name):Ob->Prop
 |.bB ty w xs=>(β p=none∧xs=[])∨∃k c e,β p=some k∧H[k.b]?=some (.cells c (ty.getD e) (0,0))∧c.size=k.z∧k.o+xs.length*wd w<=k.z∧(∀x∈xs,okW w x) ∧
  ∀i x j d,xs[i]?=some x->x.cells[j]?=some d->au H own (c.getD (k.o+i*wd w+j) undef) d
 |.bt ty cs=>∃k c e,β p=some k∧k.o=0∧H[k.b]?=some (.cells c (ty.getD e) (0,0))∧c.size=k.z∧c.size=cs.length∧(∀v∈c,v.oneCell'=true) ∧
  ∀j x,cs[j]?=some x->VR H own used hp β (c.getD j undef) x
 |.map es=>∃k aE clock,β p=some k∧H[k.b]?=some (.map aE clock)∧(aE.size=es.length∧pK aE clock) ∧
  ∀(i:Nat) (x:D×D),es[i]?=some x->∃en:MapEntry,aE[i]?=some en∧au H own en.key x.1∧au H own en.val x.2
 |.rD s pos=>∃k,β p=some k∧H[k.b]?=some (.stringIter ⟨s.toArray⟩ pos)
 |.ez _ xs=>(β p=none∧xs=[])∨∃k c e,β p=some k∧H[k.b]?=some (.cells c e (0,0))∧c.size=k.z∧k.o+xs.length<=k.z∧(∀i,i<xs.length->(c.getD (k.o+i) undef).oneCell'=true) ∧
  ∀i x,xs[i]?=some x->VR H own used hp β (c.getD (k.o+i) undef) x
 |.mapA ay bs es=>∃k aE,β p=some k∧H[k.b]?=some (.map aE ay)∧(aE.size=es.length∧pK aE ay∧aE.toList.map (·.born)=bs) ∧
  ∀(i:Nat) (x:D×AV),es[i]?=some x->∃en:MapEntry,aE[i]?=some en∧au H own en.key x.1∧VR H own used hp β en.val x.2
 |.kz m cur todo=>∃k b since seen last,β p=some k∧H[k.b]?=some (.mapIter (some b) since seen last)∧au H own (.map (some b)) m∧M8 m since seen last cur todo
end
structure St where
 fr:Nat->AV
 hp:Name->Option Ob
 used:List Nat
def St.own(s:St)(A:Nat->Prop)(β:Name->Option a8)(b:Nat):Prop:=A b∨∃p k,s.hp p≠none∧β p=some k∧k.b=b
def dH(w:World):Os×Array (Nat×ByteArray):=(w.os,w.output)
structure Base where
 n:Nat
 io:Os×Array (Nat×ByteArray)
 G:List (Nat×Obj)
 H0:Array Obj
 O0:Nat->Prop
 A:Nat->Prop
 U0:List Nat
 β0:Name->Option a8
 hA:∀b,A b->b<H0.size
 hG:∀q∈G,H0[q.1]?=some q.2∧¬O0 q.1
structure aj(B:Base)(β:Name->Option a8)(s:St)(tm:Array Value)(w:World):Prop where
 bG:tm.size=B.n
 io:dH w=B.io
 size:B.H0.size<=w.heap.size
 frame:∀b,b<B.H0.size->¬B.O0 b->w.heap[b]?=B.H0[b]?
 slots:∀t,VR w.heap (s.own B.A β) s.used s.hp β (tm.getD t undef) (s.fr t)
 aJ:∀p o,s.hp p=some o->nm s.used p∧OR w.heap (s.own B.A β) s.used s.hp β p o
 blocks:∀p k,s.hp p≠none->β p=some k->k.b<w.heap.size∧¬B.A k.b∧(B.H0.size<=k.b∨B.O0 k.b)
 inj:∀p q k l,s.hp p≠none->s.hp q≠none->β p=some k->β q=some l->k.b=l.b->p=q
 us:∀x∈B.U0,x∈s.used
 stay:∀p,nm B.U0 p->β p=B.β0 p
end Go.Ab
namespace Go.Ab
theorem dI{α:Type}{a:Array α}{i:Nat}{x:α}(h:a[i]?=some x):i<a.size:=(amw.1 h).1
theorem au.mono{H H':Array Obj}{own own':Nat->Prop}(hH:∀b,¬own b->b<H.size->H'[b]?=H[b]?)(ho:∀b,b<H.size->own' b->own b)
  {v:Value} {d:D} (h:au H own v d):au H' own' v d:=by
 induction h with
 |int k n=>exact .int k n
 |bool b=>exact .bool b
 |str l=>exact .str l
 |aY=>exact .aY
 |ao=>exact .ao
 |j8=>exact .j8
 |nj=>exact .nj
 |lF=>exact .lF
 |unk v h=>exact .unk v h
 |yl l=>exact .yl l
 |agg vs cs hs hc _ ih=>exact .agg vs cs hs hc ih
 |kZ a cap w=>exact .kZ a cap w
 |sl b o cap c e fz w xs hb hn eY hz hw _ ih=>exact .sl b o cap c e fz w xs ((hH b hn (dI hb)).trans hb) (fun h=>hn (ho b (dI hb) h)) eY hz hw ih
 |vh v w xs _ hc ih=>exact .vh v w xs ih hc
 |ptr b o c e fz d hb hn hz dv _ ih=>exact .ptr b o c e fz d ((hH b hn (dI hb)).trans hb) (fun h=>hn (ho b (dI hb) h)) hz dv ih
 |aH f vs cs hs _ ih=>exact .aH f vs cs hs ih
 |rC t v d _ ih=>exact .rC t v d ih
 |lG b ay aE bs ks vs hb hn hs iD _ _ vk sJ=>exact .lG b ay aE bs ks vs ((hH b hn (dI hb)).trans hb) (fun h=>hn (ho b (dI hb) h)) hs iD vk sJ
theorem au.yR{H:Array Obj}{own:Nat->Prop}{v:Value}{d:D}(h:au H own v d)(hd:d.bR=true):v.oneCell'=true:=by
 cases h<;>first|rfl|assumption|(rename_i hc;obtain⟨a,rfl⟩:=hc;rfl)|simp[D.bR]at hd
def Ob.like:Ob->Ob->Prop
 |.bB a w xs,.bB b w' xs'=>(a=b∧w=w')∧xs.length<=xs'.length
 |.bt a _,.bt b _=>a=b
 |.map _,.map _=>True
 |.rD _ _,.rD _ _=>True
 |.kz _ _ _,.kz _ _ _=>True
 |.ez w xs,.ez w' xs'=>w=w'∧xs.length<=xs'.length
 |.mapA _ _ _,.mapA _ _ _=>True
 |_,_=>False
theorem Ob.k4(o:Ob):o.like o:=by cases o<;>simp[Ob.like]
def iQ(hp ae:Name->Option Ob)(β β':Name->Option a8)(p:Name):Prop:=∀o',ae p=some o'->∃o,hp p=some o∧o.like o'∧β' p=β p
section
variable {H H':Array Obj}{own own':Nat->Prop}{used lH:List Nat}{hp ae:Name->Option Ob}{β β':Name->Option a8}
theorem nm.mono{p:Name}(hu:∀x∈used,x∈lH)(h:nm used p):nm lH p:=let ⟨a,t,e,m⟩:=h;⟨a,t,e,hu a m⟩
theorem VR.mono(hr:∀v d,au H own v d->au H' own' v d)(hu:∀x∈used,x∈lH)(ag:∀p,nm used p->iQ hp ae β β' p)
  {v:Value} {x:AV} (h:VR H own used hp β v x):VR H' own' lH ae β' v x:=by
 induction h with
 |un v=>exact .un v
 |d v x h=>exact .d v x (hr v x h)
 |vw v p off len hn h1 h =>
   refine .vw v p off len (hn.mono hu) h1 fun ty w xs hx=>?_;obtain⟨o,ho,hl,hb⟩:=ag p hn _ hx;cases o<;>simp[Ob.like]at hl;obtain⟨⟨rfl,rfl⟩,hle⟩:=hl;obtain⟨h1,a,cap,rfl,h2⟩:=h _ _ _ ho;exact⟨by omega,a,cap,rfl,by rw[hb];exact h2⟩
 |bx v p c hn h1 h =>
   refine .bx v p c (hn.mono hu) h1 fun ty cs hx=>?_;obtain⟨o,ho,hl,hb⟩:=ag p hn _ hx;cases o<;>simp[Ob.like]at hl;rw[hb];exact h _ _ ho
 |el v p i c hn h1 h =>
   refine .el v p i c (hn.mono hu) h1 fun ty w xs hx=>?_;obtain⟨o,ho,hl,hb⟩:=ag p hn _ hx;cases o<;>simp[Ob.like]at hl;obtain⟨⟨rfl,rfl⟩,hle⟩:=hl;obtain⟨h1,h2⟩:=h _ _ _ ho;exact⟨by omega,by rw[hb];exact h2⟩
 |mp v p hn h1 h =>
   refine .mp v p (hn.mono hu) h1 fun es hx=>?_;obtain⟨o,ho,hl,hb⟩:=ag p hn _ hx;cases o<;>simp[Ob.like]at hl;rw[hb];exact h _ ho
 |its v p hn h1 h h' =>
   refine .its v p (hn.mono hu) h1 (fun s i hx=>?_) (fun m c i hx=>?_)
   .obtain⟨o,ho,hl,hb⟩:=ag p hn _ hx;cases o<;>simp[Ob.like]at hl;rw[hb];exact h _ _ ho
   .obtain⟨o,ho,hl,hb⟩:=ag p hn _ hx;cases o<;>simp[Ob.like]at hl;rw[hb];exact h' _ _ _ ho
 |va v p off len hn h1 h =>
   refine .va v p off len (hn.mono hu) h1 fun w xs hx=>?_;obtain⟨o,ho,hl,hb⟩:=ag p hn _ hx;cases o<;>simp[Ob.like]at hl;obtain⟨rfl,hl⟩:=hl;obtain⟨h1,a,cap,rfl,h2⟩:=h _ _ ho;exact⟨by omega,a,cap,rfl,by rw[hb];exact h2⟩
 |ea v p i hn h1 h =>
   refine .ea v p i (hn.mono hu) h1 fun w xs hx=>?_;obtain⟨o,ho,hl,hb⟩:=ag p hn _ hx;cases o<;>simp[Ob.like]at hl;obtain⟨rfl,hl⟩:=hl;obtain⟨h1,h2⟩:=h _ _ ho;exact⟨by omega,by rw[hb];exact h2⟩
 |ma v p hn h1 h =>
   refine .ma v p (hn.mono hu) h1 fun ay bs es hx=>?_;obtain⟨o,ho,hl,hb⟩:=ag p hn _ hx;cases o<;>simp[Ob.like]at hl;rw[hb];exact h _ _ _ ho
 |agg vs cs hs hc _ ih=>exact .agg vs cs hs hc ih
 |az vs cs hs _ ih=>exact .az vs cs hs ih
 |aH f vs cs hs _ ih=>exact .aH f vs cs hs ih
theorem OR.mono(hr:∀v d,au H own v d->au H' own' v d)(hu:∀x∈used,x∈lH)(ag:∀p,nm used p->iQ hp ae β β' p)
  {p:Name} {o:Ob} (hb:β' p=β p) (hH:∀k,β p=some k->H'[k.b]?=H[k.b]?) (h:OR H own used hp β p o):OR H' own' lH ae β' p o:=by
 cases o with
 |bB ty w xs =>
   obtain⟨h1,h2⟩|⟨k,c,e,hk,hc,hz,hl,hw,h⟩:=h
   .exact .inl ⟨hb.trans h1,h2⟩
   .exact .inr ⟨k,c,e,hb.trans hk,(hH k hk).trans hc,hz,hl,hw,fun i x j d hi hj=>hr _ _ (h i x j d hi hj)⟩
 |bt ty cs =>
   obtain⟨k,c,e,hk,ho,hc,hz,hl,h1,h⟩:=h;exact⟨k,c,e,hb.trans hk,ho,(hH k hk).trans hc,hz,hl,h1,fun j x hj=>(h j x hj).mono hr hu ag⟩
 |map es =>
   obtain⟨k,aE,clock,hk,hc,hz,h⟩:=h;refine⟨k,aE,clock,hb.trans hk,(hH k hk).trans hc,hz,fun i x hi=>?_⟩;obtain⟨en,h1,h2,h3⟩:=h i x hi;exact⟨en,h1,hr _ _ h2,hr _ _ h3⟩
 |rD s pos =>
   obtain⟨k,hk,hc⟩:=h;exact⟨k,hb.trans hk,(hH k hk).trans hc⟩
 |ez w xs =>
   obtain⟨h1,h2⟩|⟨k,c,e,hk,hc,hz,hl,hw,h⟩:=h
   .exact .inl ⟨hb.trans h1,h2⟩
   .exact .inr ⟨k,c,e,hb.trans hk,(hH k hk).trans hc,hz,hl,hw,fun i x hi=>(h i x hi).mono hr hu ag⟩
 |mapA ay bs es =>
   obtain⟨k,aE,hk,hc,hz,h⟩:=h;refine⟨k,aE,hb.trans hk,(hH k hk).trans hc,hz,fun i x hi=>?_⟩;obtain⟨en,h1,h2,h3⟩:=h i x hi;exact⟨en,h1,hr _ _ h2,h3.mono hr hu ag⟩
 |kz _ _ _ =>
   obtain⟨k,b,since,seen,last,hk,hc,hm,hi⟩:=h;exact⟨k,b,since,seen,last,hb.trans hk,(hH k hk).trans hc,hr _ _ hm,hi⟩
end
def dV{α:Type}(f:Nat->α)(i:Nat)(v:α):Nat->α:=fun j=>if j=i then v else f j
def aA{α:Type}(f:Name->α)(i:Name)(v:α):Name->α:=fun j=>if j=i then v else f j
def St.put(s:St)(t:Nat)(v:AV):St:={ s with fr:=dV s.fr t v }
def St.set(s:St)(p:Name)(o:Option Ob):St:={ s with hp:=aA s.hp p o }
def St.add(s:St)(t:Nat)(o:Ob):St:={ s with hp:=aA s.hp [t] (some o),used:=t::s.used }
section
variable {B:Base}{β:Name->Option a8}{s:St}{tm:Array Value}{w:World}
theorem aj.put(h:aj B β s tm w){t:Nat}(ht:t<B.n){v:Value}{x:AV}(hv:VR w.heap (s.own B.A β) s.used s.hp β v x) :
  aj B β (s.put t x) (tm.setIfInBounds t v) w:=by
 refine { h with bG:=by simpa using h.bG,slots:=fun i=>?_ };show VR w.heap (s.own B.A β) s.used s.hp β _ (dV s.fr t x i);unfold dV;by_cases hi:i=t
 .subst hi;rw[if_pos rfl];have:i<tm.size:=by rw[h.bG];exact ht
  simpa[akZ,this]using hv
 .rw[if_neg hi];have:=h.slots i;rw[show(tm.setIfInBounds t v).getD i undef=tm.getD i undef from by simp[akZ,Ne.symm hi]];exact this
theorem aj.xe(h:aj B β s tm w){w':World}(e:w'.heap=w.heap)(e2:dH w'=dH w):aj B β s tm w' :=
 { bG:=h.bG,io:=e2.trans h.io,size:=by rw[e];exact h.size,frame:=by rw[e];exact h.frame,slots:=by rw[e];exact h.slots,aJ:=by rw[e];exact h.aJ,blocks:=by rw[e];exact h.blocks,inj:=h.inj,us:=h.us,stay:=h.stay }
theorem aj.Em(h:aj B β s tm w){b:Nat}(hb:s.own B.A β b):b<w.heap.size:=by
 obtain hb|⟨p,k,hp,hk,rfl⟩:=hb
 .exact alV (B.hA b hb) h.size
 .exact(h.blocks p k hp hk).1
theorem aj.alloc(h:aj B β s tm w){t:Nat}(ht:t∉s.used)(o:Obj)(ob:Ob)(z:Nat)
  (hO:∀β':Name->Option a8,β' [t]=some ⟨w.heap.size,0,z⟩->(∀v x,VR w.heap (s.own B.A β) s.used s.hp β v x->VR (w.alloc o).heap ((s.add t ob).own B.A β') (t::s.used) (s.add t ob).hp β' v x) ->
   OR (w.alloc o).heap ((s.add t ob).own B.A β') (t::s.used) (s.add t ob).hp β' [t] ob) :
  aj B (aA β [t] (some ⟨w.heap.size,0,z⟩)) (s.add t ob) tm (w.alloc o) ∧
   ∀v x,VR w.heap (s.own B.A β) s.used s.hp β v x->VR (w.alloc o).heap ((s.add t ob).own B.A (aA β [t] (some ⟨w.heap.size,0,z⟩))) (t::s.used) (s.add t ob).hp (aA β [t] (some ⟨w.heap.size,0,z⟩)) v x:=by
 obtain⟨β',hβ'⟩:∃β',aA β [t] (some ⟨w.heap.size,0,z⟩)=β':=⟨_,rfl⟩
 have fC:β' [t]=some ⟨w.heap.size,0,z⟩:=by rw[<-hβ'];simp[aA]
 have hold:∀p,p≠[t]->β' p=β p:=fun p hp=>by rw[<-hβ'];simp[aA,hp]
 have dJ:∀p,p≠[t]->(s.add t ob).hp p=s.hp p:=fun p hp=>by simp[St.add,aA,hp]
 have eO:∀p,nm s.used p->p≠[t]:=by
  rintro p ⟨a,l,rfl,ha⟩ e;simp at e;exact ht (e.1▸ha)
 have eH:∀b,b<w.heap.size->(s.add t ob).own B.A β' b->s.own B.A β b:=by
  rintro b hb (hA|⟨p,k,hp,hk,rfl⟩)
  .exact .inl hA
  .by_cases e:p=[t]
   .subst e;rw[fC]at hk;cases hk;exact absurd hb (anB _)
   .rw[hold p e]at hk;rw[dJ p e]at hp;exact .inr ⟨p,k,hp,hk,rfl⟩
 have hr:∀v d,au w.heap (s.own B.A β) v d->au (w.alloc o).heap ((s.add t ob).own B.A β') v d :=
  fun v d hd=>hd.mono (fun b _ hb=>heap_alloc_old w o b hb) eH
 have ag:∀p,nm s.used p->iQ s.hp (s.add t ob).hp β β' p:=fun p hp o' aV =>
  ⟨o',by rwa [dJ p (eO p hp)]at aV,Ob.k4 _,hold p (eO p hp)⟩
 have hv:∀v x,VR w.heap (s.own B.A β) s.used s.hp β v x->VR (w.alloc o).heap ((s.add t ob).own B.A β') (t::s.used) (s.add t ob).hp β' v x :=
  fun v x hx=>hx.mono hr (fun y hy=>ald _ hy) ag
 rw[hβ'];refine⟨{ bG:=h.bG,io:=h.io,size:=by simp;exact amz h.size,frame:=?_,slots:=fun i=>hv _ _ (h.slots i),aJ:=?_,blocks:=?_,inj:=?_,us:=fun x hx=>ald _ (h.us x hx), stay:=fun p hp=>(hold p (eO p (hp.mono h.us))).trans (h.stay p hp) },hv⟩
 .intro b hb hn;rw[heap_alloc_old w o b (alV hb h.size)];exact h.frame b hb hn
 .intro p o' aV;by_cases e:p=[t]
  .subst e;have:o'=ob:=by simpa[St.add,aA]using aV.symm
   subst this;exact⟨⟨t,[],rfl,alb⟩,hO β' fC hv⟩
  .rw[dJ p e]at aV;obtain⟨h1,h2⟩:=h.aJ p o' aV;refine⟨h1.mono fun y hy=>ald _ hy,h2.mono hr (fun y hy=>ald _ hy) ag (hold p e) fun k hk=>?_⟩;exact heap_alloc_old w o k.b (h.blocks p k (by rw[aV];simp) hk).1
 .intro p k hp hk;by_cases e:p=[t]
  .subst e;rw[fC]at hk;cases hk;refine⟨by simp,fun hA=>absurd (alV (B.hA _ hA) h.size) (anB _),.inl h.size⟩
  .rw[hold p e]at hk;rw[dJ p e]at hp;obtain⟨h1,h2⟩:=h.blocks p k hp hk;exact⟨by simp;omega,h2⟩
 .intro p q k l hp hq hk hl e;by_cases ep:p=[t]<;>by_cases eq:q=[t]
  .rw[ep,eq]
  .subst ep;rw[fC]at hk;cases hk;rw[hold q eq]at hl;rw[dJ q eq]at hq;have:=(h.blocks q l hq hl).1;simp at e;omega
  .subst eq;rw[fC]at hl;cases hl;rw[hold p ep]at hk;rw[dJ p ep]at hp;have:=(h.blocks p k hp hk).1;simp at e;omega
  .rw[hold p ep]at hk;rw[dJ p ep]at hp;rw[hold q eq]at hl;rw[dJ q eq]at hq;exact h.inj p q k l hp hq hk hl e
theorem aj.modify(h:aj B β s tm w){p:Name}{ob ob':Ob}(hp:s.hp p=some ob)(hl:ob.like ob'){w':World}(eP:dH w'=dH w)(bj:w'.heap.size=w.heap.size)
  (hw:∀b,(∀k,β p=some k->b≠k.b)->w'.heap[b]?=w.heap[b]?)
  (hO:(∀v x,VR w.heap (s.own B.A β) s.used s.hp β v x->VR w'.heap ((s.set p (some ob')).own B.A β) s.used (s.set p (some ob')).hp β v x) ->
   (∀v d,au w.heap (s.own B.A β) v d->au w'.heap ((s.set p (some ob')).own B.A β) v d) ->
   OR w'.heap ((s.set p (some ob')).own B.A β) s.used (s.set p (some ob')).hp β p ob') :
  aj B β (s.set p (some ob')) tm w' ∧
   (∀v x,VR w.heap (s.own B.A β) s.used s.hp β v x->VR w'.heap ((s.set p (some ob')).own B.A β) s.used (s.set p (some ob')).hp β v x):=by
 have aB:∀q,(s.set p (some ob')).hp q≠none↔s.hp q≠none:=by
  intro q;by_cases e:q=p
  .subst e;simp[St.set,aA,hp]
  .simp[St.set,aA,e]
 have eH:(s.set p (some ob')).own B.A β=s.own B.A β:=by
  funext b;refine propext (or_congr_right ⟨?_,?_⟩)
  .rintro⟨q,k,hq,hk,e⟩;exact⟨q,k,(aB q).1 hq,hk,e⟩
  .rintro⟨q,k,hq,hk,e⟩;exact⟨q,k,(aB q).2 hq,hk,e⟩
 rw[eH]at hO ⊢;have W5:∀b,¬s.own B.A β b->w'.heap[b]?=w.heap[b]?:=fun b hb=>hw b fun k hk e=>hb (.inr ⟨p,k,by rw[hp];simp,hk,e.symm⟩);have hr:∀v d,au w.heap (s.own B.A β) v d->au w'.heap (s.own B.A β) v d:=fun v d hd=>hd.mono (fun b hb _=>W5 b hb) (fun _ _ h=>h)
 have ag:∀q,nm s.used q->iQ s.hp (s.set p (some ob')).hp β β q:=by
  intro q _ o' aV;by_cases e:q=p
  .subst e;have:o'=ob':=by simpa[St.set,aA]using aV.symm
   subst this;exact⟨ob,hp,hl,rfl⟩
  .exact⟨o',by simpa[St.set,aA,e]using aV,Ob.k4 _,rfl⟩
 have hv:∀v x,VR w.heap (s.own B.A β) s.used s.hp β v x->VR w'.heap (s.own B.A β) s.used (s.set p (some ob')).hp β v x:=fun v x hx=>hx.mono hr (fun _ h=>h) ag;refine⟨{ bG:=h.bG,io:=eP.trans h.io,size:=by rw[bj];exact h.size,frame:=?_,slots:=?_,aJ:=?_,blocks:=?_,inj:=?_,us:=h.us,stay:=h.stay },hv⟩
 .intro b hb hn;rw[hw b ?_]
  .exact h.frame b hb hn
  .intro k hk e;obtain⟨_,_,h3⟩:=h.blocks p k (by rw[hp];simp) hk;obtain h3|h3:=h3
   .omega
   .exact hn (e▸h3)
 .intro i;rw[eH];exact hv _ _ (h.slots i)
 .intro q o' aV;rw[eH];by_cases e:q=p
  .subst e;have:o'=ob':=by simpa[St.set,aA]using aV.symm
   subst this;exact⟨(h.aJ q ob hp).1,hO hv hr⟩
  .have ho:s.hp q=some o':=by simpa[St.set,aA,e]using aV
   obtain⟨h1,h2⟩:=h.aJ q o' ho;refine⟨h1,h2.mono hr (fun _ h=>h) ag rfl fun k hk=>hw k.b fun l jO e'=>?_⟩;exact e (h.inj q p k l (by rw[ho];simp) (by rw[hp];simp) hk jO e')
 .intro q k hq hk;rw[bj];exact h.blocks q k ((aB q).1 hq) hk
 .intro q q' k l hq bX hk jO e;exact h.inj q q' k l ((aB q).1 hq) ((aB q').1 bX) hk jO e
theorem aj.drop(h:aj B β s tm w)(p:Name):aj B β (s.set p none) tm w:=by
 have dL:∀q o,(s.set p none).hp q=some o->s.hp q=some o:=by
  intro q o ho;by_cases e:q=p
  .subst e;simp[St.set,aA]at ho
  .simpa[St.set,aA,e]using ho
 have aB:∀q,(s.set p none).hp q≠none->s.hp q≠none:=by
  intro q hq e
  cases ho:(s.set p none).hp q with
  |none=>exact hq ho
  |some o=>rw[dL q o ho]at e;cases e
 have hr:∀v d,au w.heap (s.own B.A β) v d->au w.heap ((s.set p none).own B.A β) v d:=fun v d hd=>hd.mono (fun _ _ _=>rfl) (by
  rintro b _ (hA|⟨q,k,hq,hk,e⟩)
  .exact .inl hA
  .exact .inr ⟨q,k,aB q hq,hk,e⟩)
 have ag:∀q,nm s.used q->iQ s.hp (s.set p none).hp β β q:=fun q _ o' aV=>⟨o',dL q o' aV,Ob.k4 _,rfl⟩
 refine { bG:=h.bG,io:=h.io,size:=h.size,frame:=h.frame,slots:=fun i=>(h.slots i).mono hr (fun _ h=>h) ag,aJ:=?_,blocks:=fun q k hq hk=>h.blocks q k (aB q hq) hk, inj:=fun q q' k l hq bX hk hl e=>h.inj q q' k l (aB q hq) (aB q' bX) hk hl e,us:=h.us,stay:=h.stay };intro q o ho;obtain⟨h1,h2⟩:=h.aJ q o (dL q o ho);exact⟨h1,h2.mono hr (fun _ h=>h) ag rfl fun _ _=>rfl⟩
theorem aj.un(h:aj B β s tm w)(t:Nat):aj B β (s.put t .un) tm w:=by
 refine { h with slots:=fun i=>?_ };show VR w.heap (s.own B.A β) s.used s.hp β _ (dV s.fr t .un i);unfold dV;split
 .exact .un _
 .exact h.slots i
end
end Go.Ab
namespace Go.Ab
inductive TK where
 |bad|M9|bool|int (k:IntKind)|str|ptr (e:Nat)|slice (e:Nat)|arr (n e:Nat)|map (k e:Nat)|struct (fs:List (Nat×Nat))|func|rC
structure TI where
 k:TK
 sz:Nat
 by':Nat
 z:Option (List D)
def zd:Value->Option D
 |.int k n=>some (.int k n)
 |.bool b=>some (.bool b)
 |.string s=>some (.str s.data.toList)
 |.pointer none=>some .aY
 |.slice none 0 0=>some .ao
 |.map none=>some .j8
 |.nilFunc=>some .nj
 |.nilIface=>some .lF
 |_=>none
def tk:TypeDesc->TK
 |.bool=>.bool
 |.int k=>.int k
 |.string=>.str
 |.pointer e=>.ptr e
 |.slice e=>.slice e
 |.array n e=>.arr n e
 |.map k e=>.map k e
 |.struct fs=>.struct (fs.toList.map fun f=>(f.offset,f.type))
 |.func _ _ _=>.func
 |.interface _=>.rC
 |_=>.M9
def TK.agg:TK->Bool
 |.struct _=>true
 |.arr _ _=>true
 |_=>false
def TK.dM:TK->Bool
 |.bad=>true
 |_=>false
end Go.Ab
open Go.Ab in
def Go.Program.ti(P:Program)(t:Nat):TI :=
 match P.info? t,P.underlying t with
 |some i,some d=>{ k:=tk d,sz:=i.size,by':=i.bytes,z:=i.zero.bind fun v=>v.cells.toList.mapM zd }
 |_,_=>{ k:=.bad,sz:=0,by':=0,z:=none }
namespace Go.Ab
def TI.w(i:TI):W:=if i.k.agg then some i.sz else none
def TI.zero(i:TI):Option D:=i.z.bind fun cs=>if i.k.agg then some (.agg cs)else match cs with|[d]=>some d|_=>none
def TI.gD(i:TI)(w:W):Bool:=!i.k.dM&&match w with
 |none=>!i.k.agg&&i.sz == 1
 |some n=>i.k.agg&&i.sz == n
def cv:Value->AV
 |.int k n=>.d (.int k n)
 |.bool b=>.d (.bool b)
 |.string s=>.d (.str s.data.toList)
 |.pointer none=>.d .aY
 |.slice none 0 0=>.d .ao
 |.map none=>.d .j8
 |.nilFunc=>.d .nj
 |.nilIface=>.d .lF
 |_=>.un
def ev(s:St):Operand->AV
 |.tmp t=>s.fr t
 |.const v=>cv v
 |.global _=>.un
 |.func f=>.aH f []
def j9:List AV->Option (List D)
 |[]=>some []
 |.d x::r=>(j9 r).map (x::·)
 |_::_=>none
def oA(cs:List AV):AV :=
 match j9 cs with
 |some ds=>.d (.agg ds)
 |none=>.agg cs
def cellsD:D->Option (List AV)
 |.agg ds=>some (ds.map .d)
 |.int k n=>some [.d (.int k n)]
 |.bool b=>some [.d (.bool b)]
 |.str s=>some [.d (.str s)]
 |.aY=>some [.d .aY]
 |.ao=>some [.d .ao]
 |.j8=>some [.d .j8]
 |.nj=>some [.d .nj]
 |.lF=>some [.d .lF]
 |.unk=>some [.d .unk]
 |.sl w xs=>some [.d (.sl w xs)]
 |.vh w xs=>some [.d (.vh w xs)]
 |.ptr d=>some [.d (.ptr d)]
 |.aH f c=>some [.d (.aH f c)]
 |.rC t d=>some [.d (.rC t d)]
 |.lG c b k v=>some [.d (.lG c b k v)]
 |.yl l=>some [.d (.yl l)]
def jE:AV->Option (List AV)
 |.d x=>cellsD x
 |.agg cs=>some cs
 |.vw p o l=>some [.vw p o l]
 |.bx p c=>some [.bx p c]
 |.el p i c=>some [.el p i c]
 |.mp p=>some [.mp p]
 |.it p=>some [.it p]
 |.aH f c=>some [.aH f c]
 |.va p o l=>some [.va p o l]
 |.ea p i=>some [.ea p i]
 |.ma p=>some [.ma p]
 |.un=>none
 |.az _=>none
def splice{α:Type}(l:List α)(c:Nat)(xs:List α):List α:=l.take c++(xs++l.drop (c+xs.length))
inductive R(α:Type):Type 1 where
 |ok (a:α)
 |need (p:Prop) (r:R α)
 |no
def R.bind{α β:Type}:R α->(α->R β)->R β
 |.ok a,f=>f a
 |.need p r,f=>.need p (r.bind f)
 |.no,_=>.no
def R.kA{α:Type}:Option α->R α
 |some a=>.ok a
 |none=>.no
def rE(i:TI)(d:D)(c:Nat):Option D :=
 if i.k.dM then none else match d with
 |.agg cs=>if i.k.agg then(if c+i.sz<=cs.length then some (.agg ((cs.drop c).take i.sz))else none)else cs[c]?
 |d=>if i.k.agg then none else if c=0 then some d else none
def xf(i:TI)(cs:List AV)(c:Nat):R AV :=
 if i.k.dM then .no else if i.k.agg then(if c+i.sz<=cs.length then .ok (oA ((cs.drop c).take i.sz))else .no)else R.kA cs[c]?
def sK(i:TI)(hp:Name->Option Ob):AV->R AV
 |.bx p c=>match hp p with
   |some (.bt _ cs)=>xf i cs c
   |_=>.no
 |.el p j c=>match hp p with
   |some (.bB none _ xs)=>R.kA ((rE i (xs.getD j .aY) c).map .d)
   |_=>.no
 |.d (.ptr d)=>R.kA ((rE i d 0).map .d)
 |_=>.no
def rF:W->D->Bool
 |none,d=>d.bR
 |some n,.agg cs=>cs.length == n&&cs.all D.bR
 |some _,_=>false
def yS(i:TI)(w:W)(xs:List D)(j c:Nat)(y:D):Option (List D) :=
 if i.k.dM then none
 else if i.gD w&&rF w y&&c == 0 then some (xs.set j y)
 else if i.k.agg then none
 else match xs.getD j .aY with
  |.agg cs=>if y.bR∧c<cs.length∧i.sz=1 then some (xs.set j (.agg (cs.set c y)))else none
  |_=>none
def vl(i:TI)(s:St)(x v:AV):R St :=
 match x with
 |.bx p c =>
   match s.hp p with
   |some (.bt ty cs)=>match jE v with
     |some vs=>if i.k.dM=false∧vs.length=i.sz∧c+i.sz<=cs.length then .ok (s.set p (some (.bt ty (splice cs c vs))))else .no
     |none=>.no
   |_=>.no
 |.el p j c =>
   match s.hp p,v with
   |some (.bB none w xs),.d y=>match yS i w xs j c y with
     |some ys=>.ok (s.set p (some (.arr w ys)))
     |none=>.no
   |_,_=>.no
 |_=>.no
def vm(i:TI)(tf:Nat->TI)(hp:Name->Option Ob)(x:AV)(f:Nat):R AV :=
 match i.k with
 |.struct fs =>
   match fs[f]? with
   |some (o,t) =>
     if(tf t).sz=0 then .no else
      match x with
      |.bx p c=>match hp p with
        |some (.bt _ _)=>.ok (.bx p (c+o))
        |_=>.no
      |.el p j c=>match hp p with
        |some (.bB none _ _)=>.ok (.el p j (c+o))
        |_=>.no
      |.d (.ptr (.agg cs))=>R.kA ((rE (tf t) (.agg cs) o).map fun d=>.d (.ptr d))
      |_=>.no
   |none=>.no
 |_=>.no
def AO(i:TI)(tf:Nat->TI)(x:AV)(f:Nat):R AV :=
 match i.k with
 |.struct fs =>
   match fs[f]? with
   |some (o,t) =>
     match x with
     |.d (.agg cs)=>R.kA ((rE (tf t) (.agg cs) o).map .d)
     |.agg cs=>xf (tf t) cs o
     |_=>.no
   |none=>.no
 |_=>.no
def vn(i:TI)(tf:Nat->TI)(hp:Name->Option Ob)(x j:AV):R AV :=
 match i.k,x,j with
 |.slice e,.vw p o l,.d (.int _ n) =>
   match hp p with
   |some (.bB none w _)=>if(tf e).gD w then .need (0<=n∧n<l) (.ok (.el p (o+n.toNat) 0))else .no
   |_=>.no
 |.slice e,.d (.sl w xs),.d (.int _ n)=>if(tf e).gD w then .need (0<=n∧n<xs.length) (.ok (.d (.ptr (xs.getD n.toNat .aY))))else .no
 |.arr l e,.el p i c,.d (.int _ n) =>
   match hp p with
   |some (.bB none w xs)=>if(tf e).gD w=true∧c=0∧i+l<=xs.length∧1<l then .need (0<=n∧n<l) (.ok (.el p (i+n.toNat) 0))else .no
   |_=>.no
 |_,_,_=>.no
def AP(i:TI)(x j:AV):R AV :=
 match i.k,x,j with
 |.str,.d (.str l),.d (.int _ n)=>.need (0<=n∧n<l.length) (.ok (.d (.int .u8 (l.getD n.toNat 0).toNat)))
 |_,_,_=>.no
def rG(n:Int)(x:Option AV):Option Int :=
 match x with
 |none=>some n
 |some (.d (.int _ m))=>some m
 |_=>none
def vp(i:TI)(tf:Nat->TI)(hp:Name->Option Ob)(x:AV)(lo hi:Option AV):R AV :=
 match i.k,x with
 |.str,.d (.str l)=>match rG 0 lo,rG l.length hi with
   |some a,some b=>.need (0<=a∧a<=b∧b<=l.length) (.ok (.d (.str ((l.drop a.toNat).take (b.toNat-a.toNat)))))
   |_,_=>.no
 |.slice e,.d (.sl w xs)=>if(tf e).gD w then match rG 0 lo,rG xs.length hi with
   |some a,some b=>.need (0<=a∧a<=b∧b<=xs.length) (.ok (.d (.sl w ((xs.drop a.toNat).take (b.toNat-a.toNat)))))
   |_,_=>.no
  else .no
 |.slice e,.vw p o n=>match hp p with
   |some (.bB none w _)=>if(tf e).gD w then match rG 0 lo,rG n hi with
     |some a,some b=>.need (0<=a∧a<=b∧b<=n) (.ok (.vw p (o+a.toNat) (b.toNat-a.toNat)))
     |_,_=>.no
    else .no
   |_=>.no
 |.slice e,.d .ao=>if(tf e).k.dM then .no else match rG 0 lo,rG 0 hi with
   |some a,some b=>.need (a=0∧b=0) (.ok (.d .ao))
   |_,_=>.no
 |.arr l e,.el p i c=>match hp p,lo,hi with
   |some (.bB none w xs),none,none=>if(tf e).gD w=true∧c=0∧i+l<=xs.length then .ok (.vw p i l)else .no
   |_,_,_=>.no
 |_,_=>.no
def AQ(op:BinOp)(k:IntKind)(x y:Int):Int :=
 match op with
 |.and=>k.wrap ((BitVec.ofInt k.bits x &&& BitVec.ofInt k.bits y).toNat)
 |.or=>k.wrap ((BitVec.ofInt k.bits x ||| BitVec.ofInt k.bits y).toNat)
 |.xor=>k.wrap ((BitVec.ofInt k.bits x ^^^ BitVec.ofInt k.bits y).toNat)
 |_=>k.wrap ((BitVec.ofInt k.bits x &&& ~~~BitVec.ofInt k.bits y).toNat)
def TK.isBool:TK->Bool
 |.bool=>true
 |_=>false
def En(tk:TK)(op:BinOp)(x y:D):R D :=
 match op,x,y with
 |.and,.int i a,.int j b=>if i=j then .ok (.int i (AQ .and i a b))else .no
 |.or,.int i a,.int j b=>if i=j then .ok (.int i (AQ .or i a b))else .no
 |.xor,.int i a,.int j b=>if i=j then .ok (.int i (AQ .xor i a b))else .no
 |.andNot,.int i a,.int j b=>if i=j then .ok (.int i (AQ .andNot i a b))else .no
 |.shl,.int i a,.int _ b=>.need (0<=b) (.ok (.int i (i.wrap (a*2 ^ min b.toNat i.bits))))
 |.shr,.int i a,.int _ b=>.need (0<=b) (.ok (.int i (a.fdiv (2 ^ min b.toNat i.bits))))
 |.eql,.bool a,.bool b=>if tk.isBool then .ok (.bool (a == b))else .no
 |.neq,.bool a,.bool b=>if tk.isBool then .ok (.bool (!(a == b)))else .no
 |.add,.int i a,.int j b=>if i=j then .ok (.int i (i.wrap (a+b)))else .no
 |.sub,.int i a,.int j b=>if i=j then .ok (.int i (i.wrap (a-b)))else .no
 |.mul,.int i a,.int j b=>if i=j then .ok (.int i (i.wrap (a*b)))else .no
 |.quo,.int i a,.int j b=>if i=j then .need (b≠0) (.ok (.int i (i.wrap (a.tdiv b))))else .no
 |.rem,.int i a,.int j b=>if i=j then .need (b≠0) (.ok (.int i (a.tmod b)))else .no
 |.eql,.int i a,.int j b=>if i=j then .ok (.bool (a == b))else .no
 |.neq,.int i a,.int j b=>if i=j then .ok (.bool (a != b))else .no
 |.lss,.int i a,.int j b=>if i=j then .ok (.bool (decide (a<b)))else .no
 |.leq,.int i a,.int j b=>if i=j then .ok (.bool (decide (a<=b)))else .no
 |.gtr,.int i a,.int j b=>if i=j then .ok (.bool (decide (b<a)))else .no
 |.geq,.int i a,.int j b=>if i=j then .ok (.bool (decide (b<=a)))else .no
 |.add,.str a,.str b=>.need (a.length+b.length<=140737488355328) (.ok (.str (a++b)))
 |.eql,.str a,.str b=>.ok (.bool (a == b))
 |.neq,.str a,.str b=>.ok (.bool (!(a == b)))
 |.lss,.str a,.str b=>.ok (.bool (Op.bytesLess a b))
 |.leq,.str a,.str b=>.ok (.bool (Op.bytesLess a b||a == b))
 |.gtr,.str a,.str b=>.ok (.bool (!(Op.bytesLess a b||a == b)))
 |.geq,.str a,.str b=>.ok (.bool (!(Op.bytesLess a b)))
 |_,_,_=>.no
def dR(r:R D):R AV:=r.bind fun d=>.ok (.d d)
def AR(tk:TK)(op:BinOp)(x y:AV):R AV :=
 match x,y with
 |.d a,.d b=>dR (En tk op a b)
 |_,_=>.no
def AU(op:UnOp)(x:AV):R AV :=
 match op,x with
 |.not,.d (.bool b)=>.ok (.d (.bool (!b)))
 |.neg,.d (.int i a)=>.ok (.d (.int i (i.wrap (0-a))))
 |_,_=>.no
def ui(c x y:AV):R AV :=
 match c with
 |.d (.bool true)=>.ok x
 |.d (.bool false)=>.ok y
 |_=>.no
def vq(i:TI)(hp:Name->Option Ob)(x:AV):R AV :=
 match i.k,x with
 |.str,.d (.str l)=>.ok (.d (.int .i64 l.length))
 |.slice _,.d (.sl _ xs)=>.ok (.d (.int .i64 xs.length))
 |.slice _,.d .ao=>.ok (.d (.int .i64 0))
 |.slice _,.vw p _ l=>match hp p with
   |some (.bB _ _ _)=>.ok (.d (.int .i64 l))
   |_=>.no
 |.map _ _,.mp p=>match hp p with
   |some (.map es)=>.ok (.d (.int .i64 es.length))
   |_=>.no
 |_,_=>.no
def AW(hp:Name->Option Ob)(x:AV):R AV :=
 match x with
 |.bx p c=>(match hp p with
   |some (.bt _ _)=>.ok (.bx p c)
   |_=>.no)
 |_=>.no
def AX(x y:AV):R AV :=
 match x,y with
 |.d (.int i a),.d (.int j b)=>if i=j then .ok (.d (.int i (if b > a then b else a)))else .no
 |_,_=>.no
def AY(x y:AV):R AV :=
 match x,y with
 |.d (.int i a),.d (.int j b)=>if i=j then .ok (.d (.int i (if b<a then b else a)))else .no
 |_,_=>.no
def AZ(a b:TI)(x:AV):R AV :=
 match a.k,b.k,x with
 |.int _,.int j,.d (.int _ n)=>.ok (.d (.int j (j.wrap n)))
 |.str,.str,.d (.str l)=>.ok (.d (.str l))
 |_,_,_=>.no
def A1(x:AV)(i:Nat):R AV :=
 match x with
 |.az vs=>R.kA vs[i]?
 |_=>.no
def yT(tf:Nat->TI)(fs:List (Nat×Nat)):List AV->List (Nat×AV)->Option (List AV)
 |cs,[]=>some cs
 |cs,q::r =>
   match fs[q.1]?,jE q.2 with
   |some (o,t),some vs=>if vs.length=(tf t).sz∧o+vs.length<=cs.length then yT tf fs (splice cs o vs) r else none
   |_,_=>none
def A3(tf:Nat->TI):List (Nat×Nat)->Bool
 |[]=>true
 |q::r=>!(tf q.2).k.dM&&A3 tf r
def A4(tf:Nat->TI)(i:TI)(parts:List (Nat×AV)):R AV :=
 match i.k,i.z with
 |.struct fs,some zs=>if A3 tf fs then R.kA ((yT tf fs (zs.map .d) parts).map oA)else .no
 |.arr _ e,some zs=>match parts with
   |[]=>if(tf e).k.dM then .no else .ok (oA (zs.map .d))
   |_=>.no
 |_,_=>.no
def uj:Nat->List (Nat×AV)->Option (List D)
 |_,[]=>some []
 |i,q::r=>match q.2 with
   |.d x=>if q.1=i then(uj (i+1) r).map (x::·)else none
   |_=>none
def dp(n:Nat)(d:Option Nat)(s:St)(x:AV):R St :=
 match d with
 |some t=>if t<n then .ok (s.put t x)else .no
 |none=>.ok s
def gN(n:Nat)(d:Option Nat)(s:St)(ob:Ob)(x:Name->AV):R St :=
 match d with
 |some t=>if t<n∧t∉s.used then .ok ((s.add t ob).put t (x [t]))else .no
 |none=>.no
def jl(w:W)(hp:Name->Option Ob):AV->Option (List D)
 |.vw p o l=>match hp p with
   |some (.bB _ w' ys)=>if w'=w then some ((ys.drop o).take l)else none
   |_=>none
 |.d (.sl w' ys)=>if w'=w then some ys else none
 |.d .ao=>some []
 |_=>none
def TI.oB(i:TI):Bool:=match i.z with
 |some z=>z.length == i.sz
 |none=>false
def TI.iT(i:TI):Nat:=if i.by'=0 then 1 else i.by'
def xg(n:Nat)(e:TI)(d:Option Nat)(s:St)(x y:AV):R St :=
 match jl e.w s.hp y,x with
 |some ys,.d .ao=>.need (ys.length*e.iT<=140737488355328) (gN n d s (.arr e.w ys) (.vw · 0 ys.length))
 |some ys,.vw p o l =>
   match s.hp p with
   |some (.bB none w xs)=>if w=e.w then .need ((l+ys.length)*e.iT<=140737488355328) (gN n d (s.set p none) (.arr w ((xs.drop o).take l++ys)) (.vw · 0 (l+ys.length)))else .no
   |_=>.no
 |_,_=>.no
def yU(ty:Option Nat)(n:Nat)(e:TI)(d:Option Nat)(s:St)(x y:AV):R St :=
 match jl e.w s.hp y,x with
 |some ys,.d .ao=>.need (ys.length*e.iT<=140737488355328) (gN n d s (.bB ty e.w ys) (.vw · 0 ys.length))
 |some ys,.vw p o l =>
   match s.hp p with
   |some (.bB ty' w xs)=>if ty'=ty∧w=e.w then .need ((l+ys.length)*e.iT<=140737488355328) (gN n d (s.set p none) (.bB ty w ((xs.drop o).take l++ys)) (.vw · 0 (l+ys.length)))else .no
   |_=>.no
 |_,_=>.no
theorem W6(n:Nat)(e:TI)(d:Option Nat)(s:St)(x y:AV):xg n e d s x y=yU none n e d s x y:=by
 unfold xg yU
 cases jl e.w s.hp y with
 |none=>rfl
 |some ys =>
   cases x with
   |vw p o l =>
     simp only
     cases s.hp p with
     |none=>rfl
     |some ob =>
       cases ob with
       |bB ty w xs=>cases ty<;>simp
       |_=>rfl
   |d z=>cases z<;>rfl
   |_=>rfl
def A5(fn:Fn)(first:List Operand)(aG:List AV):R AV :=
 match fn,first with
 |.func f,[]=>.ok (.aH f aG)
 |_,_=>.no
def A6(n:Nat)(i:TI)(tf:Nat->TI)(d:Option Nat)(s:St)(l c:AV):R St :=
 match i.k,l,c with
 |.slice e,.d (.int .i64 a),.d (.int .i64 b) =>
   match(tf e).zero with
   |some z=>if((tf e).gD (tf e).w&&rF (tf e).w z)=false then .no else .need (0<=a∧a<=b∧b*(tf e).by'<=140737488355328∧b<=140737488355328) (gN n d s (.arr (tf e).w (List.replicate a.toNat z)) (.vw · 0 a.toNat))
   |none=>.no
 |_,_,_=>.no
def Eo(tf:Nat->TI)(n:Nat)(b:Builtin)(args:List AV)(ts:List Nat)(d:Option Nat)(s:St):R St :=
 match b,args with
 |.len,[x]=>match ts with
   |[t]=>(vq (tf t) s.hp x).bind (dp n d s)
   |_=>.no
 |.max,[x,y]=>(AX x y).bind (dp n d s)
 |.min,[x,y]=>(AY x y).bind (dp n d s)
 |.append,[x,y] =>
   match ts with
   |[t,t']=>if t≠t' then .no else match(tf t).k with
     |.slice e=>if(tf e).oB∧(tf e).gD (tf e).w then xg n (tf e) d s x y else .no
     |_=>.no
   |_=>.no
 |_,_=>.no
def HV(tf:Nat->TI)(t:Nat):Bool :=
 match(tf t).k with
 |.struct [(_,x),(_,_)]=>match(tf x).k with
   |.ptr z=>z == t
   |_=>false
 |_=>false
def HW(tf:Nat->TI):List (Nat×Nat)->Bool
 |[]=>false
 |q::r=>if HV tf q.2 then true else HW tf r
def yV(tf:Nat->TI)(t:Nat):Option Nat :=
 match(tf t).k with
 |.struct fs=>if HV tf t then some t else if HW tf fs then some t else none
 |_=>none
theorem W7(tf:Nat->TI)(t:Nat):(yV tf t).getD t=t:=by
 unfold yV;split
 .split
  .rfl
  split<;>rfl
 .rfl
def A7:TK->Option Nat
 |.slice e=>some e
 |_=>none
section
variable (tf:Nat->TI)(n:Nat)
def cV(o:Op)(d:Option Nat)(s:St):R St :=
 match o with
 |.move x=>dp n d s (ev s x)
 |.assign x=>dp n d s (ev s x)
 |.pick c a b=>(ui (ev s c) (ev s a) (ev s b)).bind (dp n d s)
 |.alloc e=>match(tf e).z with
   |some cs=>gN n d s (.bt (yV tf e) (cs.map .d)) (.bx · 0)
   |none=>.no
 |.box _ x=>match jE (ev s x)with
   |some cs=>gN n d s (.box cs) (.bx · 0)
   |none=>.no
 |.build t parts=>(A4 tf (tf t) (parts.toList.map fun q=>(q.1,ev s q.2))).bind (dp n d s)
 |.buildSlice t l parts =>
   match A7 (tf t).k,uj 0 (parts.toList.map fun q=>(q.1,ev s q.2))with
   |some e,some xs=>if xs.length=l∧(tf e).z.isSome∧(tf e).gD (tf e).w∧xs.all (rF (tf e).w)∧l*(tf e).sz<=16777216 then gN n d s (.arr (tf e).w xs) (.vw · 0 l)else .no
   |_,_=>.no
 |.load t x=>(sK (tf t) s.hp (ev s x)).bind (dp n d s)
 |.store t x v=>(vl (tf t) s (ev s x) (ev s v)).bind fun s'=>dp n d s' .un
 |.fieldAddr t x f=>(vm (tf t) tf s.hp (ev s x) f).bind (dp n d s)
 |.field t x f=>(AO (tf t) tf (ev s x) f).bind (dp n d s)
 |.indexAddr t x j=>(vn (tf t) tf s.hp (ev s x) (ev s j)).bind (dp n d s)
 |.index t x j=>(AP (tf t) (ev s x) (ev s j)).bind (dp n d s)
 |.slice t x lo hi mx=>match mx with
   |none=>(vp (tf t) tf s.hp (ev s x) (lo.map (ev s)) (hi.map (ev s))).bind (dp n d s)
   |some _=>.no
 |.binOp op t x y _=>(AR (tf t).k op (ev s x) (ev s y)).bind (dp n d s)
 |.unOp op _ x=>(AU op (ev s x)).bind (dp n d s)
 |.convert a b x=>(AZ (tf a) (tf b) (ev s x)).bind (dp n d s)
 |.extract x i=>(A1 (ev s x) i).bind (dp n d s)
 |.nilCheck x=>(AW s.hp (ev s x)).bind (dp n d s)
 |.makeFunc fn first aG=>(A5 fn first.toList (aG.toList.map (ev s))).bind (dp n d s)
 |.makeSlice t l c=>A6 n (tf t) tf d s (ev s l) (ev s c)
 |.call c=>match c.callee with
   |.builtin b=>Eo tf n b (c.args.toList.map (ev s)) c.argTypes.toList d s
   |_=>.no
 |_=>.no
end
end Go.Ab
namespace Go.Ab
inductive It where
 |code (c:Code)
 |ops (all:Array Oper) (r:List Oper)
 |ef (i:Nat)
def gE:Code->Nat
 |.region _ ops _=>ops.toList.length+2
 |.seq a b=>gE a+gE b+1
 |.cond _ a b=>gE a+gE b+1
 |.block _ b=>gE b+2
 |_=>1
def It.gE:It->Nat
 |.code c=>Ab.gE c
 |.ops _ r=>r.length+1
 |.ef _=>1
def kc:List It->Nat
 |[]=>0
 |i::k=>i.gE+kc k
theorem A8(c:Code):0<gE c:=by cases c<;>simp[gE]
theorem It.A8(i:It):0<i.gE:=by cases i<;>simp[It.gE,Ab.A8]
def nq(i:Nat):List It->Option (List It)
 |[]=>none
 |.ef j::k=>if j=i then some k else nq i k
 |_::k=>nq i k
theorem A9(i:Nat):∀(k k':List It),nq i k=some k'->kc k'<=kc k
 |[],k',h=>by cases h
 |.ef j::k,k',h=>by
   simp only[nq]at h;split at h
   .cases h;simp[kc]
   .have:=A9 i k k' h;simp[kc];omega
 |.code c::k,k',h=>by have:=A9 i k k' h;simp[kc];omega
 |.ops _ r::k,k',h=>by have:=A9 i k k' h;simp[kc];omega
def R.run:R St->(St->Prop)->Prop->Prop
 |.ok s,f,_=>f s
 |.need p r,f,z=>p∧r.run f z
 |.no,_,z=>z
structure Cf where
 n:Nat
 ro:Option Nat
 G:List (Nat×Obj)
 U:List Nat
def Cf.fits(c:Cf)(B:Base):Prop:=B.n=c.n∧B.U0=c.U∧B.G=c.G
section
variable (P:Program)(cf:Cf)
def Fw(ro:Option Nat):Fence:={ Fence.wide with round:=ro }
def hold(Q:Exit->Act->World->Prop):List It->Exit->Act->World->Prop
 |[],e,a,w=>Q e a w
 |.code c::k,e,a,w=>match e with
   |.normal=>c.wpIn (Fw cf.ro) 0 P (hold Q k) a w
   |e=>hold Q k e a w
 |.ops all r::k,e,a,w=>match e with
   |.normal=>∀(l:List Nat),l.map (all[·]?)=r.map some->wpOpsIn (Fw cf.ro) 0 P all (hold Q k) l a w
   |e=>hold Q k e a w
 |.ef i::k,e,a,w=>match e with
   |.normal=>hold Q k .normal a w
   |.exit j=>if j=i then hold Q k .normal a w else hold Q k (.exit j) a w
   |e=>hold Q k e a w
def lift(B:Base)(ds:List Deferred)(Q:Exit->St->Prop)(e:Exit)(a:Act)(w:World):Prop :=
 a.defers=ds∧∃s β,Q e s∧aj B β s a.tmps w
def vt(k:List It)(Q:Exit->St->Prop)(s:St):Prop :=
 ∀(B:Base),cf.fits B->∀ds β a w,a.defers=ds->aj B β s a.tmps w->hold P cf (lift B ds Q) k .normal a w
def ia(o:Oper)(s:St)(k:List It)(Q:Exit->St->Prop):Prop :=
 ∀(B:Base),cf.fits B->∀ds β a w,a.defers=ds->aj B β s a.tmps w->∀Q',o.wpIn (Fw cf.ro) 0 P a w (fun a' w'=>a'.defers=ds∧∃s' β',vt P cf k Q s'∧aj B β' s' a'.tmps w') Q'
def rH(c:Code)(s:St)(k:List It)(Q:Exit->St->Prop):Prop:=vt P cf (.code c::k) Q s
def pL(all:Array Oper)(j:Nat)(s:St):Option (Nat×AV) :=
 match all[j]? with
 |some o=>o.dst.map fun t=>(t,s.fr t)
 |none=>none
def run:List It->(Exit->St->Prop)->St->Prop
 |[],Q,s=>Q .normal s
 |.ef _::k,Q,s=>run k Q s
 |.ops _ []::k,Q,s=>run k Q s
 |.ops all (o::r)::k,Q,s =>
   match o.guard with
   |none=>(cV P.ti cf.n o.op o.dst s).run (fun s'=>run (.ops all r::k) Q s') (ia P cf o s (.ops all r::k) Q)
   |some (j,want) =>
     match pL all j s with
     |some (t,.d (.bool b)) =>
       (b=want->(cV P.ti cf.n o.op o.dst (s.put t (.d (.bool want)))).run (fun s'=>run (.ops all r::k) Q s') (ia P cf { o with guard:=none } (s.put t (.d (.bool want))) (.ops all r::k) Q)) ∧
       (b=!want->(dp cf.n o.dst (s.put t (.d (.bool (!want)))) (.az [])).run (fun s'=>run (.ops all r::k) Q s') False)
     |some (_,.az [])=>(dp cf.n o.dst s (.az [])).run (fun s'=>run (.ops all r::k) Q s') False
     |_=>False
 |.code .skip::k,Q,s=>run k Q s
 |.code (.region _ ops false)::k,Q,s=>run (.ops ops ops.toList::k) Q s
 |.code (.region i ops true)::k,Q,s=>rH P cf (.region i ops true) s k Q
 |.code (.seq a b)::k,Q,s=>run (.code a::.code b::k) Q s
 |.code (.cond c a b)::k,Q,s =>
   match ev s c with
   |.d (.bool t)=>(t=true->run (.code a::k) Q s)∧(t=false->run (.code b::k) Q s)
   |_=>False
 |.code (.block i c)::k,Q,s=>run (.code c::.ef i::k) Q s
 |.code (.exit i)::k,Q,s=>match _h:nq i k with
   |some k'=>run k' Q s
   |none=>Q (.exit i) s
 |.code .ret::_,Q,s=>Q .ret s
 |.code c::k,Q,s=>rH P cf c s k Q
termination_by k=>kc k
decreasing_by
 all_goals simp only[kc,It.gE,gE,List.length_cons,List.length_nil]
 all_goals first
  |omega
  |(have:=A8 ‹_›;omega)
  |(have:=A9 _ _ _ _h;omega)
end
end Go.Ab
namespace Go.Ab
section
variable (P:Program)(cf:Cf)
def bc(r:R St)(o:Oper)(s:St)(k:List It)(Q:Exit->St->Prop):Prop:=r.run (fun s'=>run P cf k Q s') (ia P cf o s k Q)
def gd(v:Option (Nat×AV))(want:Bool)(all:Array Oper)(o:Oper)(r:List Oper)(s:St)(k:List It)(Q:Exit->St->Prop):Prop :=
 match v with
 |some (t,.d (.bool b)) =>
   (b=want->bc P cf (cV P.ti cf.n o.op o.dst (s.put t (.d (.bool want)))) { o with guard:=none } (s.put t (.d (.bool want))) (.ops all r::k) Q) ∧
   (b=!want->(dp cf.n o.dst (s.put t (.d (.bool (!want)))) (.az [])).run (fun s'=>run P cf (.ops all r::k) Q s') False)
 |some (_,.az [])=>(dp cf.n o.dst s (.az [])).run (fun s'=>run P cf (.ops all r::k) Q s') False
 |_=>False
def mf(v:AV)(a b:Code)(k:List It)(Q:Exit->St->Prop)(s:St):Prop :=
 match v with
 |.d (.bool t)=>(t=true->run P cf (.code a::k) Q s)∧(t=false->run P cf (.code b::k) Q s)
 |_=>False
def yW(o:Option (List It))(i:Nat)(Q:Exit->St->Prop)(s:St):Prop :=
 match o with
 |some k=>run P cf k Q s
 |none=>Q (.exit i) s
variable {P cf}
variable (Q:Exit->St->Prop)(s:St)(k:List It)(o:Oper)(x:Operand)(a b:Code)(i:Nat)
theorem pM:run P cf [] Q s=Q .normal s:=by rw[run]
theorem Na:run P cf (.ef i::k) Q s=run P cf k Q s:=by rw[run]
theorem Nb(all:Array Oper):run P cf (.ops all []::k) Q s=run P cf k Q s:=by rw[run]
theorem Nc(all:Array Oper)(d:Option Nat)(op:Op)(t:Nat)(p:String)(e:Array Edge)(r:List Oper) :
 run P cf (.ops all ({ dst:=d,op:=op,type:=t,pos:=p,after:=e,guard:=none }::r)::k) Q s =
  bc P cf (cV P.ti cf.n op d s) { dst:=d,op:=op,type:=t,pos:=p,after:=e,guard:=none } s (.ops all r::k) Q:=by rw[run];rfl
theorem Nd(all:Array Oper)(d:Option Nat)(op:Op)(t:Nat)(p:String)(e:Array Edge)(j:Nat)(want:Bool)(r:List Oper) :
 run P cf (.ops all ({ dst:=d,op:=op,type:=t,pos:=p,after:=e,guard:=some (j,want) }::r)::k) Q s =
  gd P cf (pL all j s) want all { dst:=d,op:=op,type:=t,pos:=p,after:=e,guard:=some (j,want) } r s k Q:=by rw[run];rfl
theorem Nf:run P cf (.code .skip::k) Q s=run P cf k Q s:=by rw[run]
theorem Ng(ops:List Oper):run P cf (.code (.region i ops.toArray false)::k) Q s=run P cf (.ops ops.toArray ops::k) Q s:=by rw[run]
theorem W8(ops:Array Oper):run P cf (.code (.region i ops true)::k) Q s=rH P cf (.region i ops true) s k Q:=by rw[run]
theorem run_seq:run P cf (.code (.seq a b)::k) Q s=run P cf (.code a::.code b::k) Q s:=by rw[run]
theorem Nh:run P cf (.code (.cond x a b)::k) Q s=mf P cf (ev s x) a b k Q s:=by rw[run];rfl
theorem Ni:run P cf (.code (.block i a)::k) Q s=run P cf (.code a::.ef i::k) Q s:=by rw[run]
theorem W9:run P cf (.code (.exit i)::k) Q s=yW P cf (nq i k) i Q s:=by
 rw[run];unfold yW;split<;>simp_all
theorem Nj:run P cf (.code .ret::k) Q s=Q .ret s:=by rw[run]
theorem Nk:run P cf (.code (.loop a)::k) Q s=rH P cf (.loop a) s k Q:=by rw[run];all_goals simp
theorem Ep(s':St):bc P cf (.ok s') o s k Q=run P cf k Q s':=rfl
theorem HX(p:Prop)(r:R St):bc P cf (.need p r) o s k Q=(p∧bc P cf r o s k Q):=rfl
theorem Er:bc P cf .no o s k Q=ia P cf o s k Q:=rfl
def gV(s:St):Option Oper->Option (Nat×AV)
 |some o=>o.dst.map fun t=>(t,s.fr t)
 |none=>none
theorem Xa(all:List Oper)(j:Nat):pL all.toArray j s=gV s all[j]?:=by
 simp only[pL,amm];cases all[j]?<;>rfl
end
section
variable (s:St)(t i:Nat)(v:AV)(ob:Ob)(p q:Name)(oo:Option Ob)
def aw{α β:Type}[DecidableEq α](z:β):List (α×β)->α->β
 |[],_=>z
 |q::r,i=>if i=q.1 then q.2 else aw z r i
def mk(fr:List (Nat×AV))(hp:List (Name×Ob))(used:List Nat):St :=
 { fr:=aw .un fr,hp:=aw none (hp.map fun q=>(q.1,some q.2)),used:=used }
theorem kC(fr hp used):(mk fr hp used).fr i=aw .un fr i:=rfl
theorem vu(fr hp used):(mk fr hp used).hp p=aw none (hp.map fun q=>(q.1,some q.2)) p:=rfl
theorem aT(fr hp used):(mk fr hp used).used=used:=rfl
theorem xh{α β:Type}[DecidableEq α](z:β)(i:α):aw z [] i=z:=rfl
theorem kD{α β:Type}[DecidableEq α](z:β)(q:α×β)(r)(i:α):aw z (q::r) i=if i=q.1 then q.2 else aw z r i:=rfl
end
end Go.Ab

