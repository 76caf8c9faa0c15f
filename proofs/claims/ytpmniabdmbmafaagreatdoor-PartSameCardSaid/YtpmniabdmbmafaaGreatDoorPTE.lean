/-
  The generic layer, part 27: regions that draw their order, whose operations turn no memory: one walk in the text's order serves every order. (with the parts that follow it) (with the parts that follow it)
-/
import Derived.Test.YtpmniabdmbmafaaGreatDoorPTD
import Derived.Test.YtpmniabdmbmafaaGreatDoorPTA
import Derived.Laws.IdiomMaps
import Derived.ChangeArms
import Derived.WideKeyArgs
import Derived.Test.YtpmniabdmbmafaaGreatDoorProg
import Derived.KernelRfl
import Derived.Shelf.LaysM
import Derived.Shelf.Strconv.Itoa4
import Derived.Ground.NamesProg
set_option linter.all false
set_option maxHeartbeats 16000000
namespace Go.Ab
def cM(tf:Nat->TI)(o:Op)(s:St):R AV :=
 match o with
 |.move x=>.ok (ev s x)
 |.assign x=>.ok (ev s x)
 |.pick c a b=>ui (ev s c) (ev s a) (ev s b)
 |.build t parts=>A4 tf (tf t) (parts.toList.map fun q=>(q.1,ev s q.2))
 |.load t x=>sK (tf t) s.hp (ev s x)
 |.fieldAddr t x f=>vm (tf t) tf s.hp (ev s x) f
 |.field t x f=>AO (tf t) tf (ev s x) f
 |.indexAddr t x j=>vn (tf t) tf s.hp (ev s x) (ev s j)
 |.index t x j=>AP (tf t) (ev s x) (ev s j)
 |.slice t x lo hi mx=>match mx with
   |none=>vp (tf t) tf s.hp (ev s x) (lo.map (ev s)) (hi.map (ev s))
   |some _=>.no
 |.binOp op t x y _=>AR (tf t).k op (ev s x) (ev s y)
 |.unOp op _ x=>AU op (ev s x)
 |.convert a b x=>AZ (tf a) (tf b) (ev s x)
 |.extract x i=>A1 (ev s x) i
 |.makeFunc fn first aG=>A5 fn first.toList (aG.toList.map (ev s))
 |.call c=>match c.callee with
   |.builtin b=>match b,c.args.toList,c.argTypes.toList with
     |.len,[x],[t]=>vq (tf t) s.hp (ev s x)
     |.max,[x,y],_=>AX (ev s x) (ev s y)
     |.min,[x,y],_=>AY (ev s x) (ev s y)
     |_,_,_=>.no
   |_=>.no
 |_=>.no
theorem Oq(tf:Nat->TI)(n:Nat)(o:Op)(d:Option Nat)(s:St):cM tf o s=.no∨cV tf n o d s=(cM tf o s).bind (dp n d s):=by
 cases o with
 |slice t x lo hi mx=>cases mx<;>simp[cM,cV]
 |call c =>
   obtain⟨callee,args,jP⟩:=c
   cases callee with
   |value _=>exact .inl rfl
   |invoke _ _=>exact .inl rfl
   |builtin b =>
     obtain⟨args⟩:=args;obtain⟨jP⟩:=jP;simp only[cM,cV];split
     .exact .inr rfl
     .exact .inr rfl
     .exact .inr rfl
     .exact .inl rfl
 |_=>first|exact .inr rfl|exact .inl rfl
theorem Ot{s s':St}{x:Operand}(h:∀t,x=.tmp t->s'.fr t=s.fr t):ev s' x=ev s x:=by
 cases x<;>first|rfl|exact h _ rfl
theorem ET{s s':St}{l:List Operand}(h:∀x∈l,ev s' x=ev s x):l.map (ev s')=l.map (ev s):=alI h
theorem IY(tf:Nat->TI)(o:Op)(s s':St)(hh:s'.hp=s.hp)(h:∀x∈o.operands,ev s' x=ev s x):cM tf o s'=cM tf o s:=by
 cases o with
 |slice t x lo hi mx =>
   cases mx with
   |some _=>rfl
   |none =>
     simp only[cM,hh];rw[h x (by simp[Op.operands])]
     have h1:lo.map (ev s')=lo.map (ev s):=by
      cases lo with
      |none=>rfl
      |some y=>simp[h y (by simp[Op.operands])]
     have h2:hi.map (ev s')=hi.map (ev s):=by
      cases hi with
      |none=>rfl
      |some y=>simp[h y (by simp[Op.operands])]
     rw[h1,h2]
 |build t parts =>
   simp only[cM]
   have:(parts.toList.map fun q=>(q.1,ev s' q.2))=parts.toList.map fun q=>(q.1,ev s q.2) :=
    alI fun q hq=>by rw[h q.2 (by simp only[Op.operands,anZ,ak6];exact⟨q,hq,rfl⟩)]
   rw[this]
 |makeFunc fn first aG =>
   simp only[cM];rw[ET fun x hx=>h x (by simp only[Op.operands,Array.mem_append];exact .inr (by simpa using hx))]
 |call c =>
   obtain⟨callee,args,jP⟩:=c
   cases callee with
   |value _=>rfl
   |invoke _ _=>rfl
   |builtin b =>
     obtain⟨args⟩:=args;obtain⟨jP⟩:=jP;have hm:∀x∈args,ev s' x=ev s x:=fun x hx=>h x (by simp[Op.operands,Call.operands,hx]);simp only[cM];split
     .rename_i x _;rw[hh,hm x (by simp)]
     .rename_i x y;rw[hm x (by simp),hm y (by simp)]
     .rename_i x y;rw[hm x (by simp),hm y (by simp)]
     .rfl
 |_=>first
   |rfl
   |(simp only[cM,hh];simp only[Op.operands,anZ,alc,alv,or_false,forall_eq_or_imp,forall_eq]at h;simp only[h])
def yl:R AV->AV->Prop
 |.ok y,x=>y=x
 |.need p r,x=>p∧yl r x
 |.no,_=>False
def qv:R AV->(AV->Prop)->Prop->Prop
 |.ok x,f,_=>f x
 |.need p r,f,z=>p∧qv r f z
 |.no,_,z=>z
theorem Ou{f:AV->Prop}{z:Prop}:∀{r:R AV},qv r f z->(r=.no∨∃x,yl r x∧f x)∨z
 |.ok x,h=>.inl (.inr ⟨x,rfl,h⟩)
 |.no,h=>.inr h
 |.need p r,h=>by
   rcases Ou (r:=r) h.2 with(e|⟨x,h1,h2⟩)|hz
   .subst e;exact .inr h.2
   .exact .inl (.inr ⟨x,⟨h.1,h1⟩,h2⟩)
   .exact .inr hz
theorem Ov{x:AV}{g:AV->R St}{f:St->Prop}{z:Prop}:∀{r:R AV},yl r x->(g x).run f z->(r.bind g).run f z
 |.ok y,h,hg=>by have h:y=x:=h;subst h;exact hg
 |.need p r,h,hg=>⟨h.1,Ov h.2 hg⟩
 |.no,h,_=>h.elim
def dS(n:Nat):Option Nat->Prop
 |some t=>t<n
 |none=>True
section
variable (P:Program)(cf:Cf)(ops:Array Oper)
def zi(l:List Nat)(s s':St):Prop:=s'.hp=s.hp∧s'.used=s.used∧∀t∈l,s'.fr t=s.fr t
def QY(o:Oper)(s:St)(x:AV):Prop:=∀s',s'.hp=s.hp->s'.used=s.used->(∀y∈o.op.operands,ev s' y=ev s y) ->
 ∀B,cf.fits B->∀ds β a w,a.defers=ds->aj B β s' a.tmps w->∀Q',o.wpIn (Fw cf.ro) 0 P a w (fun a' w'=>a'.defers=ds∧∃β',aj B β' (s'.cU o.dst x) a'.tmps w') Q'
def jH(K:St->Prop):List Oper->St->Prop
 |[],s=>K s
 |o::r,s =>
   match o.guard with
   |none=>qv (cM P.ti o.op s) (fun x=>dS cf.n o.dst∧jH K r (s.cU o.dst x)) (∃x,QY P cf o s x∧dS cf.n o.dst∧jH K r (s.cU o.dst x))
   |some (j,want) =>
     match pL ops j s with
     |some (t,.d (.bool b)) =>
       (b=want->qv (cM P.ti o.op (s.put t (.d (.bool want)))) (fun x=>dS cf.n o.dst∧jH K r ((s.put t (.d (.bool want))).cU o.dst x)) (∃x,QY P cf o (s.put t (.d (.bool want))) x∧dS cf.n o.dst∧jH K r ((s.put t (.d (.bool want))).cU o.dst x))) ∧
       (b=!want->dS cf.n o.dst∧jH K r ((s.put t (.d (.bool (!want)))).cU o.dst (.az [])))
     |some (_,.az [])=>dS cf.n o.dst∧jH K r (s.cU o.dst (.az []))
     |_=>False
def Fact(i:Nat)(o:Oper)(s:St)(x:AV):Prop:=∀s',zi (o.looksAt ops) s s'->∀B,cf.fits B->∀ds β a w,a.defers=ds->aj B β s' a.tmps w->∀Q',
 wpOpIn (Fw cf.ro) 0 P ops Q' i (fun a' w'=>a'.defers=ds∧∃β',aj B β' (s'.cU o.dst x) a'.tmps w') a w
variable {P cf ops}
theorem Y2{o:Oper}{s s':St}(h:zi (o.looksAt ops) s s'):∀y∈o.op.operands,ev s' y=ev s y:=fun y hy =>
 Ot fun t ht=>h.2.2 t (by subst ht;exact alm _ (List.mem_filterMap.2 ⟨.tmp t,by simpa using hy,rfl⟩))
theorem Y3{o:Oper}{s:St}{x:AV}(h:yl (cM P.ti o.op s) x)(hd:dS cf.n o.dst):QY P cf o s x:=by
 intro s' hh hu he B hB ds β a w ai hs Q'
 have pS:cV P.ti B.n o.op o.dst s'=(cM P.ti o.op s').bind (dp B.n o.dst s'):=by
  rcases Oq P.ti B.n o.op o.dst s' with e|e
  .rw[IY P.ti o.op s s' hh he]at e;rw[e]at h;exact h.elim
  .exact e
 rw[IY P.ti o.op s s' hh he]at pS
 have hr:(cV P.ti B.n o.op o.dst s').run (fun s2=>s2=s'.cU o.dst x) False:=by
  rw[pS];refine Ov h ?_
  cases cY:o.dst with
  |none=>exact rfl
  |some t =>
    rw[cY]at hd;have:t<B.n:=by rw[hB.1];exact hd
    simp[dp,this,R.run,St.cU]
 rcases y2 hs hr with hz|⟨nx,v,w',s2,β',aF,dy,rfl,bh⟩
 .exact hz.elim
 .have hnd:∀c,o.op≠.defer c:=by
   intro c hc;rw[hc]at h;exact h.elim
  exact fR hnd aF dy ⟨by cases o.dst<;>exact ai,β',bh⟩
theorem BK{s:St}{t:Nat}{x:AV}(h:s.fr t=x):s.put t x=s:=by
 unfold St.put;congr 1;funext i;unfold dV;split
 .rename_i e;rw[e,h]
 .rfl
theorem EU{j:Nat}{s:St}{t:Nat}{v:AV}(h:pL ops j s=some (t,v)):∃oj,ops[j]?=some oj∧oj.dst=some t∧s.fr t=v:=by
 unfold pL at h;split at h
 .rename_i oj hj;simp only[ak8,amd]at h;obtain⟨t',k8,rfl,hv⟩:=h;exact⟨oj,hj,k8,hv⟩
 .cases h
theorem EV{o oj:Oper}{j t:Nat}{want:Bool}(hg:o.guard=some (j,want))(hj:ops[j]?=some oj)(hd:oj.dst=some t):t∈o.looksAt ops:=by
 refine alB _ ?_;simp[hg,hj,hd]
theorem EW{B:Base}{β:Name->Option a8}{s:St}{tm:Array Value}{w:World}(h:aj B β s tm w){j t:Nat}{oj:Oper}{b:Bool}(hj:ops[j]?=some oj)(jr:oj.dst=some t)(jQ:s.fr t=.d (.bool b)):yielded ops tm j=some b:=by
 have hv:=h.slots t;rw[jQ]at hv;have hb:=hv.bool
 have hlt:t<tm.size:=by
  rcases alP t tm.size with hlt|cK
  .exact hlt
  .simp[akZ,alT cK]at hb;cases hb
 simp[yielded,hj,jr,al6 hlt];simp[akZ,hlt]at hb;rw[hb]
theorem Ow{B:Base}{β:Name->Option a8}{s:St}{tm:Array Value}{w:World}(h:aj B β s tm w){j t:Nat}{oj:Oper}(hj:ops[j]?=some oj)(jr:oj.dst=some t)(jQ:s.fr t=.az []):yielded ops tm j=none:=by
 have hv:=h.slots t;rw[jQ]at hv;rcases alP t tm.size with hlt|cK
 .have hb:tm.getD t undef=.tuple #[]:=by
   generalize tm.getD t undef=v at hv
   cases hv with
   |az vs _ hs _ =>
     have:vs=#[]:=amK hs;rw[this]
  simp[akZ,hlt]at hb;simp[yielded,hj,jr,al6 hlt,hb]
 .simp[yielded,hj,jr,alT cK]
theorem Ox{i:Nat}{o:Oper}{s:St}(hi:ops[i]?=some o)(hd:dS cf.n o.dst)(hw:∀(B:Base) (β:Name->Option a8) s' tm w,zi (o.looksAt ops) s s'->aj B β s' tm w->Region.wanted o (yielded ops tm)=false):Fact P cf ops i o s (.az []):=by
 intro s' gO B hB ds β a w ai hs Q';unfold wpOpIn;simp only[hi,hw B β s' a.tmps w gO hs,als,if_false];refine⟨fun _ _=>trivial,by cases o.dst<;>exact ai,β,hs.cU (fun t ht=>?_) (.az #[] [] rfl (by simp))⟩;rw[ht]at hd;rw[hB.1];exact hd
theorem IZ{i:Nat}{o:Oper}{s:St}{x:AV}(hi:ops[i]?=some o)(hw:∀(B:Base) (β:Name->Option a8) s' tm w,zi (o.looksAt ops) s s'->aj B β s' tm w->Region.wanted o (yielded ops tm)=true)(h:QY P cf o s x):Fact P cf ops i o s x:=by
 intro s' gO B hB ds β a w ai hs Q';unfold wpOpIn;simp only[hi,hw B β s' a.tmps w gO hs,if_true];exact h s' gO.1 gO.2.1 (Y2 gO) B hB ds β a w ai hs Q'
theorem Y4{K:St->Prop}{i:Nat}{o:Oper}{r:List Oper}{s:St}(hi:ops[i]?=some o)(h:jH P cf ops K (o::r) s):∃x,Fact P cf ops i o s x∧jH P cf ops K r (s.cU o.dst x):=by
 unfold jH at h
 have go:∀{z:Prop} s1,s1=s->(∀(B:Base) (β:Name->Option a8) s' tm w,zi (o.looksAt ops) s s'->aj B β s' tm w->Region.wanted o (yielded ops tm)=true) ->
   qv (cM P.ti o.op s1) (fun x=>dS cf.n o.dst∧jH P cf ops K r (s1.cU o.dst x)) (∃x,QY P cf o s1 x∧dS cf.n o.dst∧jH P cf ops K r (s1.cU o.dst x))->∃x,Fact P cf ops i o s x∧jH P cf ops K r (s.cU o.dst x):=by
  rintro z s1 rfl hw h;rcases Ou h with(e|⟨x,h1,hd,h2⟩)|⟨x,h1,_,h2⟩
  .rw[e]at h;obtain⟨x,h1,_,h2⟩:=h;exact⟨x,IZ hi hw h1,h2⟩
  .exact⟨x,IZ hi hw (Y3 h1 hd),h2⟩
  .exact⟨x,IZ hi hw h1,h2⟩
 cases hg:o.guard with
 |none =>
   rw[hg]at h;exact go (z:=True) s rfl (fun _ _ _ _ _ _ _=>by simp[Region.wanted,hg]) h
 |some q =>
   obtain⟨j,want⟩:=q;rw[hg]at h;simp only at h;split at h
   .rename_i t b eS;obtain⟨oj,hj,jr,jQ⟩:=EU eS;have hl:=EV hg hj jr;by_cases hb:b=want
    .have e:s.put t (.d (.bool want))=s:=BK (by rw[jQ,hb]);have h1:=h.1 hb;rw[e]at h1;refine go (z:=True) s rfl (fun B β s' tm w gO hs=>?_) h1;have:=EW hs hj jr ((gO.2.2 t hl).trans jQ);simp[Region.wanted,hg,this,hb]
    .have vB:b=!want:=by cases b<;>cases want<;>simp_all
     have e:s.put t (.d (.bool (!want)))=s:=BK (by rw[jQ,vB]);obtain⟨hd,h2⟩:=h.2 vB;rw[e]at h2;refine⟨_,Ox hi hd (fun B β s' tm w gO hs=>?_),h2⟩;have:=EW hs hj jr ((gO.2.2 t hl).trans jQ);simp[Region.wanted,hg,this,hb]
   .rename_i t eS;obtain⟨oj,hj,jr,jQ⟩:=EU eS;have hl:=EV hg hj jr;refine⟨_,Ox hi h.1 (fun B β s' tm w gO hs=>?_),h.2⟩;have:=Ow hs hj jr ((gO.2.2 t hl).trans jQ);simp[Region.wanted,hg,this]
   .exact h.elim
end
end Go.Ab
namespace Go.Ab
section
variable {P:Program}{cf:Cf}{ops:Array Oper}
def eg(ops:Array Oper)(i:Nat):Option Nat:=(ops[i]?).bind (·.dst)
def lay(ops:Array Oper)(xs:Nat->AV):List Nat->St->St
 |[],s=>s
 |i::l,s=>lay ops xs l (s.cU (eg ops i) (xs i))
theorem Oy(s:St)(d:Option Nat)(x:AV):(s.cU d x).hp=s.hp:=by cases d<;>rfl
theorem Oz(s:St)(d:Option Nat)(x:AV):(s.cU d x).used=s.used:=by cases d<;>rfl
theorem BL(xs:Nat->AV):∀(l:List Nat) (s:St),(lay ops xs l s).hp=s.hp
 |[],_=>rfl
 |i::l,s=>by rw[lay,BL xs l,Oy]
theorem BM(xs:Nat->AV):∀(l:List Nat) (s:St),(lay ops xs l s).used=s.used
 |[],_=>rfl
 |i::l,s=>by rw[lay,BM xs l,Oz]
theorem OA(xs:Nat->AV)(i:Nat):∀(l:List Nat) (s:St),lay ops xs (l++[i]) s=(lay ops xs l s).cU (eg ops i) (xs i)
 |[],_=>rfl
 |j::l,s=>by rw[List.cons_append,lay,OA xs i l,lay]
def OB(ops:Array Oper):Prop:=∀i j t,eg ops i=some t->eg ops j=some t->i=j
theorem vS(xs:Nat->AV)(t:Nat):∀(l:List Nat) (s:St),(∀k∈l,eg ops k≠some t)->(lay ops xs l s).fr t=s.fr t
 |[],_,_=>rfl
 |k::l,s,h=>by
   rw[lay,vS xs t l _ fun j hj=>h j (ald _ hj)];have hk:=h k alb
   cases hd:eg ops k with
   |none=>rfl
   |some u =>
     rw[hd]at hk;show dV _ _ _ _=_;unfold dV;rw[if_neg (fun e=>hk (by rw[e]))]
theorem BN(h1:OB ops)(xs:Nat->AV){k t:Nat}(hk:eg ops k=some t):∀(l:List Nat) (s:St),k∈l->(lay ops xs l s).fr t=xs k
 |[],_,h=>by cases h
 |j::l,s,h=>by
   rw[lay];by_cases fb:k∈l
   .exact BN h1 xs hk l _ fb
   .rcases alc.1 h with rfl|h
    .rw[vS xs t l _ fun i hi e=>fb (by rw[h1 k i t hk e];exact hi),hk];show dV _ _ _ _=_;simp[dV]
    .exact absurd h fb
def waits(ops:Array Oper)(i j:Nat):Bool:=match ops[i]? with
 |some o=>o.after.any fun e=>Region.binds .any e&&e.on == j
 |none=>false
def vT(ops:Array Oper)(i:Nat):List Nat:=match ops[i]? with
 |some o=>o.looksAt ops
 |none=>[]
def qB(ops:Array Oper):Bool :=
 (List.range ops.size).all fun i =>
  (match ops[i]? with
   |some o=>o.after.toList.all fun e=>!Region.binds .any e||decide (e.on<i)
   |none=>true) &&
  (List.range ops.size).all fun k=>match eg ops k with
   |none=>true
   |some t=>(decide (i=k)||eg ops i != some t)&&(!(vT ops i).contains t||(decide (k<i)&&waits ops i k)||(decide (i<k)&&waits ops k i))
theorem sT{i t:Nat}(h:eg ops i=some t):i<ops.size:=by
 unfold eg at h;rcases alP i ops.size with hlt|cK
 .exact hlt
 .rw[alT cK]at h;cases h
theorem OC(h:qB ops=true):OB ops:=by
 intro i j t hi hj;have h2:=alr.1 h i (alw.2 (sT hi));simp only[ak7]at h2;have h3:=alr.1 h2.2 j (alw.2 (sT hj));rw[hj]at h3;simp only[ak7,alF,decide_eq_true_eq,hi,bne_self_eq_false,als,or_false]at h3;exact h3.1
theorem Y5(h:qB ops=true){i k t:Nat}(hi:i<ops.size)(hk:eg ops k=some t)(ht:t∈vT ops i):(k<i∧waits ops i k=true)∨(i<k∧waits ops k i=true):=by
 have h2:=alr.1 h i (alw.2 hi);simp only[ak7]at h2;have h3:=alr.1 h2.2 k (alw.2 (sT hk));rw[hk]at h3;simp only[ak7,alF,alH,am4,decide_eq_false_iff_not,decide_eq_true_eq]at h3;obtain(h4|h4)|h4:=h3.2
 .exact absurd ht h4
 .exact .inl h4
 .exact .inr h4
theorem I0(h:qB ops=true){i:Nat}{o:Oper}(ho:ops[i]?=some o):∀e∈o.after,Region.binds .any e=true->e.on<i:=by
 intro e he hb
 have hi:i<ops.size:=by
  rcases alP i ops.size with hlt|cK
  .exact hlt
  .rw[alT cK]at ho;cases ho
 have h2:=alr.1 h i (alw.2 hi);simp only[ho,ak7]at h2;have h3:=alr.1 h2.1 e (ank.2 he);simpa[hb]using h3
theorem OD{K:St->Prop}:∀(r:List Oper) (i:Nat) (s:St),(∀j,(r[j]?=ops[i+j]?))->jH P cf ops K r s ->
  ∃xs:Nat->AV,K (lay ops xs (List.range' i r.length) s)∧∀j o,i<=j->ops[j]?=some o->Fact P cf ops j o (lay ops xs (List.range' i (j-i)) s) (xs j)
 |[],i,s,hr,h=>⟨fun _=>.un,h,fun j o cx ho=>by
  have:=hr (j-i);rw[show i+(j-i)=j by omega,ho]at this
  simp at this⟩
 |o::r,i,s,hr,h=>by
   have hi:ops[i]?=some o:=by simpa using(hr 0).symm
   obtain⟨x,hf,h2⟩:=Y4 hi h;obtain⟨xs,hK,hall⟩:=OD r (i+1) (s.cU o.dst x) (fun j=>by have:=hr (j+1);rw[List.getElem?_cons_succ]at this;rw[this,show i+(j+1)=i+1+j by omega]) h2;obtain⟨ys,ic⟩:∃ys:Nat->AV,ys=fun j=>if j=i then x else xs j:=⟨_,rfl⟩
   have hd:eg ops i=o.dst:=by simp[eg,hi]
   have e1:∀(n k:Nat) (s:St),i<k->lay ops ys (List.range' k n) s=lay ops xs (List.range' k n) s:=by
    intro n
    induction n with
    |zero=>intros;rfl
    |succ n ih =>
      intro k s hk;rw[List.range'_succ,lay,lay,ih (k+1) _ (by omega),ic];simp only[if_neg (show¬k=i by omega)]
   have mG:ys i=x:=by rw[ic];simp
   refine⟨ys,?_,fun j o' cx aV=>?_⟩
   .rw[List.length_cons,List.range'_succ,lay,hd,mG,e1 _ _ _ (by omega)];exact hK
   .rcases alP i j with hlt|cK
    .have:=hall j o' (by omega) aV;rw[show j-i=(j-(i+1))+1 by omega,List.range'_succ,lay,hd,mG,e1 _ _ _ (by omega)];rw[show ys j=xs j by rw[ic];simp only[if_neg (show¬j=i by omega)]];exact this
    .have:j=i:=by omega
     subst this;rw[hi]at aV;cases aV;rw[am5,mG];exact hf
structure Up(ops:Array Oper)(listed:Array Bool)(L:List Nat):Prop where
 size:listed.size=ops.size
 mem:∀j,j<ops.size->(listed[j]?=some true↔j∈L)
 lt:∀j∈L,j<ops.size
 closed:∀j∈L,∀o,ops[j]?=some o->∀e∈o.after,Region.binds .any e=true->e.on∈L
theorem OE{i j:Nat}(h:waits ops i j=true):∃o,ops[i]?=some o∧∃e∈o.after,Region.binds .any e=true∧e.on=j:=by
 unfold waits at h;split at h
 .rename_i o ho;rw[Array.any_eq_true]at h;obtain⟨k,hk,hb⟩:=h;simp only[ak7,beq_iff_eq]at hb;exact⟨o,ho,_,Array.getElem_mem hk,hb⟩
 .cases h
theorem Y6(hq:qB ops=true){listed:Array Bool}{L:List Nat}(hu:Up ops listed L)(xs:Nat->AV)(s:St){i:Nat}{o:Oper}(ho:ops[i]?=some o)(hi:i∉L)
  (hw:∀e∈o.after,Region.binds .any e=true->e.on∈L):zi (o.looksAt ops) (lay ops xs (List.range' 0 (i-0)) s) (lay ops xs L s):=by
 refine⟨by rw[BL,BL],by rw[BM,BM],fun t ht=>?_⟩
 have hlt:i<ops.size:=by
  rcases alP i ops.size with hlt|cK
  .exact hlt
  .rw[alT cK]at ho;cases ho
 have k8:t∈vT ops i:=by unfold vT;rw[ho];exact ht
 have h1:=OC hq;by_cases hk:∃k,eg ops k=some t
 .obtain⟨k,hk⟩:=hk;rcases Y5 hq hlt hk k8 with⟨h2,h3⟩|⟨h2,h3⟩
  .obtain⟨o',aV,e,he,hb,rfl⟩:=OE h3;rw[ho]at aV;cases aV;rw[BN h1 xs hk _ _ (hw e he hb),BN h1 xs hk _ _ (by rw[amt];omega)]
  .obtain⟨o',aV,e,he,hb,e1⟩:=OE h3;have vU:k∉L:=fun vU=>hi (by rw[<-e1];exact hu.closed k vU o' aV e he hb)
   rw[vS xs t _ _ fun j hj e=>vU (by rw[h1 k j t hk e];exact hj),vS xs t _ _ fun j hj e=>by
    have:=h1 k j t hk e;subst this;rw[amt]at hj
    omega]
 .rw[vS xs t _ _ fun j _ e=>hk ⟨j,e⟩,vS xs t _ _ fun j _ e=>hk ⟨j,e⟩]
theorem BO:∀(n:Nat) (L:List Nat),L.Nodup->(∀x∈L,x<n)->L.length<=n
 |0,L,_,h=>by
   cases L with
   |nil=>simp
   |cons a r=>exact absurd (h a alb) (ami _)
 |n+1,L,hn,h=>by
   have h1:=BO n (L.erase n) (hn.erase n) fun x hx=>by
    have:=(hn.mem_erase_iff).1 hx;have h2:=h x this.2;omega
   by_cases hm:n∈L
   .rw[anu hm]at h1;omega
   .rw[List.erase_of_not_mem hm]at h1;omega
theorem I1{s s':St}(h1:s.hp=s'.hp)(h2:s.used=s'.used)(h3:∀t,s.fr t=s'.fr t):s=s':=by
 obtain⟨f,h,u⟩:=s;obtain⟨f',h',u'⟩:=s';simp only at h1 h2 h3;subst h1;subst h2;rw[show f=f' from funext h3]
theorem Y7{B:Base}(hB:cf.fits B){ds:List Deferred}{Q:Exit->Act->World->Prop}(hq:qB ops=true)(xs:Nat->AV)(s:St)
  (hall:∀j o,ops[j]?=some o->Fact P cf ops j o (lay ops xs (List.range' 0 (j-0)) s) (xs j))
  (hK:∀β a w,a.defers=ds->aj B β (lay ops xs (List.range' 0 ops.size) s) a.tmps w->Q .normal a w) :
  ∀(fuel:Nat) (listed:Array Bool) (L:List Nat) (β:Name->Option a8) (a:Act) (w:World),Up ops listed L->L.Nodup->ops.size<=fuel+L.length->a.defers=ds->aj B β (lay ops xs L s) a.tmps w ->
   wpAnyIn (Fw cf.ro) 0 P .any ops Q fuel listed a w:=by
 have fin:∀(listed:Array Bool) (L:List Nat) (β:Name->Option a8) (a:Act) (w:World),Up ops listed L->a.defers=ds->aj B β (lay ops xs L s) a.tmps w->Region.ready .any ops listed=[]->Q .normal a w:=by
  intro listed L β a w hu ai hs hr
  have xD:∀n j,j<=n->j<ops.size->j∈L:=by
   intro n
   induction n with
   |zero =>
     intro j hj hlt;have qM:j=0:=by omega
     subst qM;apply amj;intro hn;obtain⟨o,ho⟩:∃o,ops[0]?=some o:=⟨ops[0],by simp⟩
     have:0∈Region.ready .any ops listed:=by
      rw[mem_ready];refine⟨?_,o,ho,fun e he hb=>?_⟩
      .have:=hu.mem 0 hlt;have hl:0<listed.size:=by rw[hu.size];exact hlt
       cases hv:listed[0]with
       |true=>exact absurd (this.1 (by simp[hl,hv])) hn
       |false=>simp[hl,hv]
      .have:=I0 hq ho e he hb;omega
     rw[hr]at this;cases this
   |succ n ih =>
     intro j hj hlt;rcases alP j (n+1)with h|h
     .exact ih j (by omega) hlt
     .apply amj;intro hn;obtain⟨o,ho⟩:∃o,ops[j]?=some o:=⟨ops[j],by simp⟩
      have:j∈Region.ready .any ops listed:=by
       rw[mem_ready];refine⟨?_,o,ho,fun e he hb=>?_⟩
       .have:=hu.mem j hlt;have hl:j<listed.size:=by rw[hu.size];exact hlt
        cases hv:listed[j]with
        |true=>exact absurd (this.1 (by simp[hl,hv])) hn
        |false=>simp[hl,hv]
       .have h2:=I0 hq ho e he hb;have h3:=(hu.mem e.on (by omega)).2 (ih e.on (by omega) (by omega));simp[h3]
      rw[hr]at this;cases this
  have h1:=OC hq
  have e:lay ops xs L s=lay ops xs (List.range' 0 ops.size) s:=by
   refine I1 (by rw[BL,BL]) (by rw[BM,BM]) fun t=>?_;by_cases hk:∃k,eg ops k=some t
   .obtain⟨k,hk⟩:=hk;have hlt:=sT hk;rw[BN h1 xs hk _ _ (xD k k (ali _) hlt),BN h1 xs hk _ _ (by rw[amt];omega)]
   .rw[vS xs t _ _ fun j _ e=>hk ⟨j,e⟩,vS xs t _ _ fun j _ e=>hk ⟨j,e⟩]
  rw[e]at hs;exact hK β a w ai hs
 intro fuel
 induction fuel with
 |zero =>
   intro listed L β a w hu hnd hn ai hs
   have hr:Region.ready .any ops listed=[]:=by
    apply anb.2;intro j hj;obtain⟨h0,o,ho,_⟩:=mem_ready.1 hj
    have hlt:j<ops.size:=by
     rcases alP j ops.size with hlt|cK
     .exact hlt
     .rw[alT cK]at ho;cases ho
    have I2:j∈L:=by
     apply amj;intro iH
     have dL:(j::L).length<=ops.size:=by
      refine BO ops.size (j::L) (alW.2 ⟨iH,hnd⟩) fun x hx=>?_;rcases alc.1 hx with rfl|hx
      .exact hlt
      .exact hu.lt x hx
     simp only[List.length_cons]at dL;omega
    have h3:=(hu.mem j hlt).2 I2;simp[h3]at h0
   exact⟨hr,fin listed L β a w hu ai hs hr⟩
 |succ fuel ih =>
   intro listed L β a w hu hnd hn ai hs;refine⟨fun hr=>fin listed L β a w hu ai hs hr,fun i hi=>?_⟩;obtain⟨h0,o,ho,hw⟩:=mem_ready.1 hi
   have hlt:i<ops.size:=by
    rcases alP i ops.size with hlt|cK
    .exact hlt
    .rw[alT cK]at ho;cases ho
   have qN:i∉L:=fun h=>by
    have h3:=(hu.mem i hlt).2 h;simp[h3]at h0
   have qO:∀e∈o.after,Region.binds .any e=true->e.on∈L:=fun e he hb=>by
    have h1:=hw e he hb;have h2:=I0 hq ho e he hb;refine(hu.mem e.on (by omega)).1 ?_;have hl:e.on<listed.size:=by rw[hu.size];omega
    simp[hl]at h1;simp[hl,h1]
   refine wpOpIn_mono (fun a' w' ⟨dP,β',bm⟩=>ih (listed.setIfInBounds i true) (L++[i]) β' a' w' ?_ ?_ ?_ dP ?_) (hall i o ho _ (Y6 hq hu xs s ho qN qO) B hB ds β a w ai hs Q)
   .refine⟨by simpa using hu.size,fun j hj=>?_,fun j hj=>?_,fun j hj o' aV e he hb=>?_⟩
    .have hl:j<listed.size:=by rw[hu.size];exact hj
     by_cases cx:i=j
     .subst cx;simp[hl]
     .rw[amG cx,hu.mem j hj];simp[Ne.symm cx]
    .rcases ak1.1 hj with hj|hj
     .exact hu.lt j hj
     .rw[ak3.1 hj];exact hlt
    .rcases ak1.1 hj with hj|hj
     .exact alm _ (hu.closed j hj o' aV e he hb)
     .rw[ak3.1 hj,ho]at aV;cases aV;exact alm _ (qO e he hb)
   .rw[alZ];exact⟨hnd,by simp,fun x hx y hy=>by rw[ak3.1 hy];rintro rfl;exact qN hx⟩
   .simp only[ak4,List.length_singleton];omega
   .rw[OA,show eg ops i=o.dst by simp[eg,ho]];exact bm
theorem Y8{id:Nat}{l:List Oper}{s:St}{k:List It}{Q:Exit->St->Prop}(hm:P.follows .mixedOrders=true)(hq:qB l.toArray=true)(h:jH P cf l.toArray (fun s'=>run P cf k Q s') l s) :
  rH P cf (.region id l.toArray true) s k Q:=by
 obtain⟨xs,hK,hall⟩:=OD (ops:=l.toArray) l 0 s (fun j=>by simp) h;intro B hB ds β a w ai hs;refine wpIn_region_any hm ?_;refine Y7 hB (ds:=ds) hq xs s (fun j o ho=>hall j o (ale _) ho) (fun β a w ai hs=>eB hK B hB ds β a w ai (by simpa using hs)) _ _ [] β a _ ?_ anx (by simp) ai (hs.xe rfl rfl);refine⟨by simp,fun j hj=>?_,by simp,by simp⟩;have hj:j<l.length:=by simpa using hj
 simp[hj]
end
end Go.Ab
namespace Go.Ab
section
variable (P:Program)(cf:Cf)(ops:Array Oper)(K:St->Prop)
def I3(x:R AV)(o:Oper)(r:List Oper)(s:St):Prop:=qv x (fun y=>dS cf.n o.dst∧jH P cf ops K r (s.cU o.dst y)) (∃y,QY P cf o s y∧dS cf.n o.dst∧jH P cf ops K r (s.cU o.dst y))
def zj(v:Option (Nat×AV))(want:Bool)(o:Oper)(r:List Oper)(s:St):Prop :=
 match v with
 |some (t,.d (.bool b)) =>
   (b=want->I3 P cf ops K (cM P.ti o.op (s.put t (.d (.bool want)))) o r (s.put t (.d (.bool want)))) ∧
   (b=!want->dS cf.n o.dst∧jH P cf ops K r ((s.put t (.d (.bool (!want)))).cU o.dst (.az [])))
 |some (_,.az [])=>dS cf.n o.dst∧jH P cf ops K r (s.cU o.dst (.az []))
 |_=>False
abbrev OG(_:List Oper):Type:=St
abbrev Y9(_:Oper)(_:List Oper)(_:St):Type 1:=R AV
abbrev Za(_:Bool)(_:Oper)(_:List Oper)(_:St):Type:=Option (Nat×AV)
abbrev Zb(_:Option Nat)(_:AV)(_:List Oper):Type:=St
structure I4 where
 run:(r:List Oper)->OG r->Prop
 bc:(o:Oper)->(r:List Oper)->(s:St)->Y9 o r s->Prop
 gd:(w:Bool)->(o:Oper)->(r:List Oper)->(s:St)->Za w o r s->Prop
 pt:(d:Option Nat)->(x:AV)->(r:List Oper)->Zb d x r->Prop
 run_eq:∀r (s:St),run r s=jH P cf ops K r s
 fk:∀(x:R AV) o r s,bc o r s x=I3 P cf ops K x o r s
 iG:∀(v:Option (Nat×AV)) w o r s,gd w o r s v=zj P cf ops K v w o r s
 nH:∀d x r (s:St),pt d x r s=(dS cf.n d∧jH P cf ops K r (s.cU d x))
theorem Zc:Nonempty (I4 P cf ops K) :=
 ⟨⟨jH P cf ops K,fun o r s x=>I3 P cf ops K x o r s,fun w o r s v=>zj P cf ops K v w o r s,fun d x r s=>dS cf.n d∧jH P cf ops K r (s.cU d x),fun _ _=>rfl,fun _ _ _ _=>rfl,fun _ _ _ _ _=>rfl,fun _ _ _ _=>rfl⟩⟩
end
section
variable {P:Program}{cf:Cf}{ops:Array Oper}{K:St->Prop}(E:I4 P cf ops K)(s:St)(o:Oper)(r:List Oper)
theorem Zd:E.run [] s=K s:=by rw[E.run_eq];rfl
theorem Ze(d:Option Nat)(op:Op)(ty:Nat)(p:String)(e:Array Edge) :
 E.run ({ dst:=d,op:=op,type:=ty,pos:=p,after:=e,guard:=none }::r) s=E.bc { dst:=d,op:=op,type:=ty,pos:=p,after:=e,guard:=none } r s (cM P.ti op s):=by rw[E.run_eq,E.fk];rfl
theorem Zf(d:Option Nat)(op:Op)(ty:Nat)(p:String)(e:Array Edge)(j:Nat)(want:Bool) :
 E.run ({ dst:=d,op:=op,type:=ty,pos:=p,after:=e,guard:=some (j,want) }::r) s=E.gd want { dst:=d,op:=op,type:=ty,pos:=p,after:=e,guard:=some (j,want) } r s (pL ops j s):=by rw[E.run_eq,E.iG];rfl
theorem Zg(x:AV):E.bc o r s (.ok x)=E.pt o.dst x r s:=by rw[E.fk,E.nH];rfl
theorem Zh(p:Prop)(x:R AV):E.bc o r s (.need p x)=(p∧E.bc o r s x):=by rw[E.fk,E.fk];rfl
theorem Zi(t:Nat)(x:AV)(h:t<cf.n):E.pt (some t) x r s=E.run r (s.put t x):=by rw[E.nH,E.run_eq];simp[dS,h,St.cU]
theorem I5(t:Nat):E.gd true o r s (some (t,.d (.bool true)))=E.bc o r (s.put t (.d (.bool true))) (cM P.ti o.op (s.put t (.d (.bool true)))):=by rw[E.iG,E.fk];simp[zj]
theorem I6(t:Nat):E.gd false o r s (some (t,.d (.bool false)))=E.bc o r (s.put t (.d (.bool false))) (cM P.ti o.op (s.put t (.d (.bool false)))):=by rw[E.iG,E.fk];simp[zj]
theorem I7(t:Nat):E.gd false o r s (some (t,.d (.bool true)))=E.pt o.dst (.az []) r (s.put t (.d (.bool true))):=by rw[E.iG,E.nH];simp[zj]
theorem I8(t:Nat):E.gd true o r s (some (t,.d (.bool false)))=E.pt o.dst (.az []) r (s.put t (.d (.bool false))):=by rw[E.iG,E.nH];simp[zj]
variable {s o r}
attribute [go_sem] Zd Ze Zf Zg Zh Zi I5 I6 I7 I8 cM
theorem vV(s:St)(t:Nat)(x y:AV):(s.put t x).put t y=s.put t y:=by
 unfold St.put;congr 1;funext i;simp only[dV];split<;>rfl
theorem Zj{c:Bool}{t:Nat}{want:Bool}(h1:c=true->E.gd want o r (s.put t (.d (.bool true))) (some (t,.d (.bool true))))(h2:c=false->E.gd want o r (s.put t (.d (.bool false))) (some (t,.d (.bool false)))):E.gd want o r s (some (t,.d (.bool c))):=by
 cases c
 .have:=h2 rfl;cases want
  .rw[I6,vV]at this;rw[I6];exact this
  .rw[I8,vV]at this;rw[I8];exact this
 .have:=h1 rfl;cases want
  .rw[I7,vV]at this;rw[I7];exact this
  .rw[I5,vV]at this;rw[I5];exact this
theorem Zk{p:Prop}[Decidable p]{t:Nat}{want:Bool}(h1:p->E.gd want o r (s.put t (.d (.bool true))) (some (t,.d (.bool true))))(h2:¬p->E.gd want o r (s.put t (.d (.bool false))) (some (t,.d (.bool false)))):E.gd want o r s (some (t,.d (.bool (decide p)))) :=
 Zj E (fun h=>h1 (of_decide_eq_true h)) (fun h=>h2 (of_decide_eq_false h))
theorem OH{id:Nat}{l:List Oper}{s:St}{k:List It}{Q:Exit->St->Prop}(hm:P.follows .mixedOrders=true)(hq:qB l.toArray=true)(E0:bu P cf Q)(h:∀E:I4 P cf l.toArray (fun s'=>E0.run k s'),E.run l s) :
  e8 E0 (.region id l.toArray true) s k:=by
 refine Y8 hm hq ?_;have e:(fun s'=>E0.run k s')=fun s'=>run P cf k Q s':=by funext s';rw[E0.run_eq]
 obtain⟨E⟩:=Zc P cf l.toArray (fun s'=>E0.run k s');have:=h E;rw[E.run_eq,e]at this;exact this
end
end Go.Ab

namespace Go.Ab
section
variable {P:Program}{cf:Cf}{Q:Exit->St->Prop}{s:St}{k:List It}{c:Code}
def xE(E:bu P cf Q)(next:St->Prop)(k:List It)(e:Exit)(s:St):Prop :=
 match e with
 |.normal=>next s
 |.exit i=>E.xk i k s
 |.ret=>Q .ret s
 |_=>False
theorem I9(E:bu P cf Q)(next:St->Prop)(k:List It):xE E next k=lq P cf next k Q:=by
 funext e s
 cases e with
 |exit i=>show E.xk i k s=xk P cf i k Q s;rw[E.zh]
 |_=>rfl
theorem oL(E:bu P cf Q)(next:St->Prop):xE E next k .normal s=next s:=rfl
theorem Zl(E:bu P cf Q)(next:St->Prop)(i:Nat):xE E next k (.exit i) s=E.xk i k s:=rfl
theorem Zm(E:bu P cf Q)(next:St->Prop):xE E next k .ret s=Q .ret s:=rfl
attribute [go_sem] oL Zl Zm
theorem pU(E:bu P cf Q){X:Type}(I:X->List (Nat×AV))(μ:X->Nat)(hU:cf.U=[])(x0:X)(h0:vR s (I x0))
  (hr:∀x,∀E':bu P cf (xE E (fun s'=>∃y,μ y<μ x∧vR s' (I y)) k),E'.run [.code c] (mk (I x) [] [])):e8 E (.loop c) s k :=
 Y0 I μ hU x0 h0 fun x=>by rw[<-I9 E];exact aS (hr x)
theorem BP(E:bu P cf Q){X:Type}(I:X->List (Nat×AV))(O:X->List (Name×Ob))(u:List Nat)(μ:X->Nat)(x0:X)(h0:cw cf.U id s (I x0) (O x0) u)
  (hr:∀x,∀E':bu P cf (xE E (fun s'=>∃y,μ y<μ x∧cw cf.U id s' (I y) (O y) u) k),E'.run [.code c] (mk (I x) (O x) u)):e8 E (.loop c) s k :=
 Y1 I O u μ x0 h0 fun x=>by rw[<-I9 E];exact aS (hr x)
end
end Go.Ab
namespace Go.Ab
theorem Zn(u:List Nat)(h:Nat)(t:Name):b9 u (h::t)=u.contains h:=rfl
attribute [go_sem] cw oG oH kh Bv AV.ren Ob.ren cg Ob.bn Zn id_eq List.contains_cons List.contains_nil Bool.or_true Bool.true_or Bool.or_false Bool.false_or
end Go.Ab
namespace Go.Ab
mutual
def AV.dq(p:Name)(w:W)(xs:List D):AV->AV
 |.un=>.un
 |.d x=>.d x
 |.vw q o l=>if q=p then .d (.sl w ((xs.drop o).take l))else .vw q o l
 |.bx q c=>.bx q c
 |.el q i c=>.el q i c
 |.mp q=>.mp q
 |.it q=>.it q
 |.agg cs=>oA (gP p w xs cs)
 |.az cs=>.az (gP p w xs cs)
 |.aH f cs=>.aH f (gP p w xs cs)
 |.va q o l=>.va q o l
 |.ea q i=>.ea q i
 |.ma q=>.ma q
def gP(p:Name)(w:W)(xs:List D):List AV->List AV
 |[]=>[]
 |x::r=>x.dq p w xs::gP p w xs r
end
theorem BQ(p:Name)(w:W)(xs:List D):∀l:List AV,(gP p w xs l).length=l.length
 |[]=>rfl
 |_::r=>by simp[gP,BQ p w xs r]
theorem BR(p:Name)(w:W)(xs:List D):∀(l:List AV) (i:Nat),(gP p w xs l)[i]?=(l[i]?).map (AV.dq p w xs)
 |[],i=>by simp[gP]
 |x::r,0=>by simp[gP]
 |x::r,i+1=>by simp[gP,BR p w xs r i]
section
variable {H:Array Obj}{own own':Nat->Prop}{used:List Nat}{hp ae:Name->Option Ob}{β:Name->Option a8}
theorem VR.dq{p:Name}{w:W}{xs:List D}(hr:∀v d,au H own v d->au H own' v d)(ag:∀q,nm used q->iQ hp ae β β q)(nB:hp p=some (.arr w xs))(ho:OR H own used hp β p (.arr w xs))
  (bY:∀k,β p=some k->¬own' k.b) {v:Value} {x:AV} (h:VR H own used hp β v x):VR H own' used ae β v (x.dq p w xs):=by
 induction h with
 |un v=>exact .un v
 |d v x h=>exact .d v x (hr v x h)
 |vw v q off len hn h1 h =>
   unfold AV.dq;split
   .rename_i e;subst e;obtain⟨hle,a,cap,rfl,h2⟩:=h _ w xs nB;refine .d _ _ ?_;have hlen:((xs.drop off).take len).length=len:=by simp;omega
    by_cases h0:len=0
    .subst h0;rw[List.take_zero];exact .kZ a cap w
    .rcases h2 with⟨h3,_⟩|⟨k,hk,rfl,eY,hz⟩
     .exact absurd h3 h0
     .rcases ho with⟨h4,rfl⟩|⟨k',c,e,aC,hc,BT,hl,hw,cd⟩
      .rw[hk]at h4;cases h4
      .rw[hk]at aC;cases aC
       have:au H own' (.slice (some ⟨k.b,k.o+off*wd w,none⟩) ((xs.drop off).take len).length cap) (.sl w ((xs.drop off).take len)):=by
        refine .sl k.b (k.o+off*wd w) cap c e (0,0) w _ hc (bY k hk) (by omega) ?_ (fun x hx=>hw x (al5 (alL hx))) (fun i x j d hi hj=>?_)
        .rw[hlen,BT];have e1:(off+cap)*wd w=off*wd w+cap*wd w:=amf _ _ _;have e2:len*wd w<=cap*wd w:=alz _ eY;omega
        .have aq:xs[off+i]?=some x:=by
          rw[amb]at hi;split at hi
          .rw[alY]at hi;exact hi
          .cases hi
         have:=cd (off+i) x j d aq hj;rw[show k.o+off*wd w+i*wd w+j=k.o+(off+i)*wd w+j by rw[amf];omega];exact hr _ _ this
       rw[hlen]at this;exact this
   .exact VR.mono hr (fun _ h=>h) ag (.vw v q off len hn h1 h)
 |bx v q c hn h1 h=>exact VR.mono hr (fun _ h=>h) ag (.bx v q c hn h1 h)
 |el v q i c hn h1 h=>exact VR.mono hr (fun _ h=>h) ag (.el v q i c hn h1 h)
 |mp v q hn h1 h=>exact VR.mono hr (fun _ h=>h) ag (.mp v q hn h1 h)
 |its v q hn h1 h h'=>exact VR.mono hr (fun _ h=>h) ag (.its v q hn h1 h h')
 |va v q off len hn h1 h=>exact VR.mono hr (fun _ h=>h) ag (.va v q off len hn h1 h)
 |ea v q i hn h1 h=>exact VR.mono hr (fun _ h=>h) ag (.ea v q i hn h1 h)
 |ma v q hn h1 h=>exact VR.mono hr (fun _ h=>h) ag (.ma v q hn h1 h)
 |agg vs cs hs hc _ ih =>
   have:=yX (H:=H) (own:=own') (used:=used) (hp:=ae) (β:=β) (vs:=vs.toList) (cs:=gP p w xs cs) (by rw[BQ];simpa using hs) (by simpa using hc) (fun i v x hv hx=>by
    rw[BR,ak8]at hx;obtain⟨y,hy,rfl⟩:=hx;have:=ih i y hy
    have e:vs.getD i undef=v:=by
     simp only[alM]at hv;simp[akZ,hv]
    rw[e]at this
    exact this)
   simpa[AV.dq]using this
 |az vs cs hs _ ih =>
   refine .az vs _ (by rw[BQ];exact hs) (fun i x hi=>?_);rw[BR,ak8]at hi;obtain⟨y,hy,rfl⟩:=hi;exact ih i y hy
 |aH f vs cs hs _ ih =>
   refine .aH f vs _ (by rw[BQ];exact hs) (fun i x hi=>?_);rw[BR,ak8]at hi;obtain⟨y,hy,rfl⟩:=hi;exact ih i y hy
end
def St.dq(s:St)(p:Name)(w:W)(xs:List D):St:={ fr:=fun t=>(s.fr t).dq p w xs,hp:=aA s.hp p none,used:=s.used }
theorem aj.dq{B:Base}{β:Name->Option a8}{s:St}{tm:Array Value}{w:World}(h:aj B β s tm w){p:Name}{wf:W}{xs:List D}(hp:s.hp p=some (.arr wf xs)):aj B β (s.dq p wf xs) tm w:=by
 have h0:=h.drop p
 have dL:∀q o,(s.set p none).hp q=some o->s.hp q=some o:=by
  intro q o ho;by_cases e:q=p
  .subst e;simp[St.set,aA]at ho
  .simpa[St.set,aA,e]using ho
 have aB:∀q,(s.set p none).hp q≠none->s.hp q≠none∧q≠p:=by
  intro q hq
  cases ho:(s.set p none).hp q with
  |none=>exact absurd ho hq
  |some o =>
    refine⟨by rw[dL q o ho];simp,fun e=>?_⟩;subst e;simp[St.set,aA]at ho
 have hr:∀v d,au w.heap (s.own B.A β) v d->au w.heap ((s.set p none).own B.A β) v d:=fun v d hd=>hd.mono (fun _ _ _=>rfl) (by
  rintro b _ (hA|⟨q,k,hq,hk,e⟩)
  .exact .inl hA
  .exact .inr ⟨q,k,(aB q hq).1,hk,e⟩)
 have ag:∀q,nm s.used q->iQ s.hp (s.set p none).hp β β q:=fun q _ o' aV=>⟨o',dL q o' aV,Ob.k4 _,rfl⟩
 refine { bG:=h.bG,io:=h.io,size:=h.size,frame:=h.frame,slots:=fun i=>?_,aJ:=h0.aJ,blocks:=h0.blocks,inj:=h0.inj,us:=h.us,stay:=h.stay };refine(h.slots i).dq hr ag hp (h.aJ p _ hp).2 fun k hk eH=>?_;obtain hA|⟨q,k',hq,aC,e⟩:=eH
 .exact(h.blocks p k (by rw[hp];simp) hk).2.1 hA
 .exact(aB q hq).2 (h.inj q p k' k (aB q hq).1 (by rw[hp];simp) aC hk e)
section
variable {P:Program}{cf:Cf}{Q:Exit->St->Prop}{s:St}{k:List It}
theorem xF{o:Oper}{o':Oper}(aV:o'={ o with guard:=none })(h:bc P cf (cV P.ti cf.n o.op o.dst s) o' s k Q):ia P cf o' s k Q:=by
 intro B hB ds β a w ai hs Q';unfold bc at h;have h':(cV P.ti B.n o'.op o'.dst s).run (fun s'=>run P cf k Q s') (ia P cf o' s k Q):=by subst aV;rw[hB.1];exact h
 rcases y2 hs h' with hz|⟨nx,v,w',s',β',aF,dy,hf,bh⟩
 .exact hz B hB ds β a w ai hs Q'
 .have hnd:∀c,o'.op≠.defer c:=by
   intro c hc
   have:∃d w2,(execOp a.eval o').run P w=.ok (.defer d) w2∨∃h w2,(execOp a.eval o').run P w=.halt h w2:=by
    simp only[execOp,hc,Sem.run_bind]
    cases (resolve a.eval c o'.type).run P w with
    |ok d w2=>exact⟨d,w2,.inl rfl⟩
    |halt hh w2=>exact⟨default,w2,.inr ⟨hh,w2,rfl⟩⟩
   obtain⟨d,w2,h1|⟨hh,w3,h1⟩⟩:=this
   .rw[aF]at h1;cases h1;rcases dy with h2|⟨h2,_⟩<;>cases h2
   .rw[aF]at h1;cases h1
  exact fR hnd aF dy ⟨by cases o'.dst<;>exact ai,s',β',eB hf,bh⟩
theorem qP(E:bu P cf Q){d:Option Nat}{op:Op}{ty:TypeId}{ps:String}{af:Array Edge}(p:Name)(w:W)(xs:List D)(hp:s.hp p=some (.arr w xs))(h:E.bc { dst:=d,op:=op,type:=ty,pos:=ps,after:=af,guard:=none } (s.dq p w xs) k (cV P.ti cf.n op d (s.dq p w xs))) :
  E.bc { dst:=d,op:=op,type:=ty,pos:=ps,after:=af,guard:=none } s k .no:=by
 rw[ie];rw[E.fk]at h;have h1:=xF (o:={ dst:=d,op:=op,type:=ty,pos:=ps,after:=af,guard:=none }) rfl h;intro B hB ds β a w' ai hs Q';exact h1 B hB ds β a w' ai (hs.dq hp) Q'
theorem Ja(p:Name)(w:W)(xs:List D)(t:Nat):∀l:List (Nat×AV),(aw .un l t).dq p w xs=aw .un (l.map fun q=>(q.1,q.2.dq p w xs)) t
 |[]=>rfl
 |q::r=>by
   simp only[aw,alf];split
   .rfl
   .exact Ja p w xs t r
theorem Zo(fr:List (Nat×AV))(hp:List (Name×Ob))(u:List Nat)(p:Name)(w:W)(xs:List D):(mk fr hp u).dq p w xs=mk (fr.map fun q=>(q.1,q.2.dq p w xs)) (jR hp p) u:=by
 unfold St.dq mk;congr 1
 .funext t;exact Ja p w xs t fr
 .funext q;rw[vL,vK];rfl
attribute [go_sem] Zo AV.dq gP
def mH(L:List (Name×W×List D))(x:AV):AV:=L.foldl (fun x q=>x.dq q.1 q.2.1 q.2.2) x
def pV(s:St):List (Name×W×List D)->Prop
 |[]=>True
 |q::r=>s.hp q.1=some (.arr q.2.1 q.2.2)∧pV (s.dq q.1 q.2.1 q.2.2) r
def pz(P:Program)(rs:List ResultVar)(Q:AV->Prop)(e:Exit)(s:St):Prop :=
 match e with
 |.ret=>RX (kG P s rs) fun l=>∃L,pV s L∧(mH L (e7 l)).bn []=true∧Q (mH L (e7 l))
 |.normal=>RX (kG P s rs) fun l=>∃L,pV s L∧(mH L (e7 l)).bn []=true∧Q (mH L (e7 l))
 |_=>False
theorem Zp(rs:List ResultVar)(Q:AV->Prop)(s:St):pz P rs Q .ret s=RX (kG P s rs) fun l=>∃L,pV s L∧(mH L (e7 l)).bn []=true∧Q (mH L (e7 l)):=rfl
theorem Zq(rs:List ResultVar)(Q:AV->Prop)(s:St):pz P rs Q .normal s=RX (kG P s rs) fun l=>∃L,pV s L∧(mH L (e7 l)).bn []=true∧Q (mH L (e7 l)):=rfl
theorem Zr{α:Type}(a:α)(φ:α->Prop):RX (.ok a) φ=φ a:=rfl
theorem Zs{α:Type}(p:Prop)(r:R α)(φ:α->Prop):RX (.need p r) φ=(p∧RX r φ):=rfl
attribute [go_sem] Zp Zq Zr Zs
theorem Zt(q:Name×W×List D)(L:List (Name×W×List D))(x:AV):mH (q::L) x=mH L (x.dq q.1 q.2.1 q.2.2):=rfl
theorem Zu(x:AV):mH [] x=x:=rfl
attribute [go_sem] Zt Zu pV
theorem Jb{B:Base}{β:Name->Option a8}{tm:Array Value}{w:World}:∀(L:List (Name×W×List D)) (s:St),aj B β s tm w->pV s L->∃s',aj B β s' tm w∧∀t,s'.fr t=mH L (s.fr t)
 |[],s,h,_=>⟨s,h,fun _=>rfl⟩
 |q::L,s,h,hl=>by
   obtain⟨s',h1,h2⟩:=Jb L (s.dq q.1 q.2.1 q.2.2) (h.dq hl.1) hl.2;exact⟨s',h1,fun t=>by rw[h2 t];rfl⟩
theorem Jc(x:AV):∀(L:List (Name×W×List D)) (s s2:St),s.hp=s2.hp->pV s L->pV s2 L
 |[],_,_,_,_=>trivial
 |q::L,s,s2,e,h=>⟨by rw[<-e];exact h.1,Jc x L _ _ (by show aA s.hp _ _=aA s2.hp _ _;rw[e]) h.2⟩
theorem fK {G:List (Nat×Obj)} {f:FuncId} {fn:Func} {c:Code} {args:List D} {Q:AV->Prop} (hf:P.funcs[f]?=some fn) (hb:fn.body=some c) (eO:(fn.name == "runtime.NumGoroutine")=false) (hn:args.length<=fn.ntmps)
  (h:run P ⟨fn.ntmps,none,G,[]⟩ [.code c] (pz P fn.results.toList Q) (mk (dQ 0 (args.map .d)) [] [])):HP P G f args Q:=by
 refine⟨vH hf hb eO,fun B β vs w h1 h2 h3 h4 hs=>?_⟩;have bj:vs.size=args.length:=by rw[hs.bG,h1];simp
 have bm:aj { B with n:=fn.ntmps } β (mk (dQ 0 (args.map .d)) [] []) (vs++Array.replicate (fn.ntmps-vs.size) undef) w:=by
  refine { hs with bG:=by simp;omega,slots:=fun t=>?_ };have:=hs.slots t;by_cases ht:t<vs.size
  .have e:(vs++Array.replicate (fn.ntmps-vs.size) undef).getD t undef=vs.getD t undef:=by
    simp[akZ,alO,ht]
   rw[e];exact this
  .have e:(mk (dQ 0 (args.map .d)) [] []).fr t=.un:=by
    rw[kC,qJ,if_pos (ale _),alN (by simp;omega)];rfl
   rw[e];exact .un _
 have aF:=eB h { B with n:=fn.ntmps } ⟨rfl,h3,h4⟩ [] β { tmps:=vs++Array.replicate (fn.ntmps-vs.size) undef,defers:=[] } w rfl bm;refine callsIn_of_wp hf hb trivial (wpIn_mono (F:=Fence.wide) aF fun e a' w' hq=>?_);obtain⟨hd,s',β',hq,bh⟩:=hq
 have fin:RX (kG P s' fn.results.toList) (fun l=>∃L,pV s' L∧(mH L (e7 l)).bn []=true∧Q (mH L (e7 l))) ->
   a'.defers=[]∧∃v,(results fn a'.tmps).run P w'=.ok v w'∧∃v' r ae u' β',Ending.returned v=.returned v'∧(Q r∧r.bn []=true∧ae=[])∧aj { B with n:=1 } β' (mk [(0,r)] ae u') #[v'] w':=by
  intro hx;obtain⟨l,v,⟨L,hL,aU,hQ⟩,hr,hv⟩:=Io bh fn hx
  have Ip:aj { B with n:=1 } β' (qK s' (e7 l)) #[v] w':=by
   refine { bG:=rfl,io:=bh.io,size:=bh.size,frame:=bh.frame,slots:=fun t=>?_,aJ:=bh.aJ,blocks:=bh.blocks,inj:=bh.inj,us:=bh.us,stay:=bh.stay };show VR w'.heap (s'.own B.A β') s'.used s'.hp β' _ (if t=0 then e7 l else .un);by_cases ht:t=0
   .subst ht;rw[if_pos rfl];exact hv
   .rw[if_neg ht];exact .un _
  obtain⟨s2,br,oD⟩:=Jb L _ Ip (Jc (e7 l) L s' _ rfl hL)
  have hle:cw ([]:List Nat) id s2 [(0,mH L (e7 l))] [] []:=by
   refine⟨⟨⟨?_,aU⟩,trivial⟩,trivial,trivial,rfl,trivial⟩;rw[AV.mE id (fun _=>rfl),oD 0];rfl
  obtain⟨β2,iI,_⟩:=br.le (τ:=id) (by show Le B.U0 id _ _;rw[h3];exact hle.le);exact⟨hd,v,hr,v,_,_,_,β2,rfl,⟨hQ,aU,rfl⟩,iI⟩
 cases e with
 |normal=>exact fin hq
 |ret=>exact fin hq
 |exit i=>exact hq.elim
 |goto l=>exact hq.elim
 |panic c=>exact hq.elim
 |outgrown=>exact hq.elim
end
end Go.Ab

namespace Go.Ab
def aM{κ:Type}(ke:κ->D)(ms:List (κ×D)):List (D×D):=ms.map fun q=>(ke q.1,q.2)
theorem Zv{κ:Type}(ke:κ->D):aM ke []=[]:=rfl
section
variable {κ:Type}[DecidableEq κ]
def cJ:List (κ×D)->κ->Option D
 |[],_=>none
 |q::r,a=>if q.1=a then some q.2 else cJ r a
def ek:List (κ×D)->κ->D->List (κ×D)
 |[],a,d=>[(a,d)]
 |q::r,a,d=>if q.1=a then(a,d)::r else q::ek r a d
def eT:List κ->κ->Option Nat
 |[],_=>none
 |x::r,a=>if x=a then some 0 else(eT r a).map (·+1)
theorem BU{a:κ}{d:D}:∀{ms:List (κ×D)},eT (ms.map (·.1)) a=none->cJ ms a=none∧ek ms a d=ms++[(a,d)]
 |[],_=>⟨rfl,rfl⟩
 |q::r,h=>by
   simp only[alf,eT]at h;split at h
   .cases h
   .rename_i hq;obtain⟨h1,h2⟩:=BU (d:=d) (Option.map_eq_none_iff.1 h);exact⟨by simp[cJ,hq,h1],by simp[ek,hq,h2]⟩
theorem zl{a:κ}{d:D}:∀{ms:List (κ×D)} {i:Nat},eT (ms.map (·.1)) a=some i->∃e,ms[i]?=some (a,e)∧cJ ms a=some e∧ek ms a d=ms.set i (a,d)
 |[],_,h=>by cases h
 |q::r,i,h=>by
   simp only[alf,eT]at h;split at h
   .rename_i hq;cases h;exact⟨q.2,by simp[<-hq],by simp[cJ,hq],by simp[ek,hq]⟩
   .rename_i hq;obtain⟨j,hj,rfl⟩:=ak8.1 h;obtain⟨e,h1,h2,h3⟩:=zl (d:=d) hj;exact⟨e,by simpa using h1,by simp[cJ,hq,h2],by simp[ek,hq,h3]⟩
structure jS(P:Program)(kt:TypeId)(ke:κ->D)(kv:κ->Value):Prop where
 val:∀{H:Array Obj} {own:Nat->Prop} {v:Value} {a:κ},au H own v (ke a)->v=kv a
 rep:∀(H:Array Obj) (own:Nat->Prop) (a:κ),au H own (kv a) (ke a)
 fc:∀(b:Bool) (a:κ) (w:World),(Instr.checkKey b 10000 kt (kv a)).run P w=.ok () w
 same:∀a:κ,Instr.sameBits 10000 (kv a) (kv a)=true
 find:∀(a:κ) (es:List MapEntry) (ks:List κ) (w:World),es.map (·.key)=ks.map kv->(Instr.findKey kt (kv a) es).run P w=.ok ((eT ks a).bind fun i=>(es[i]?).map fun e=>(i,e.val)) w
end
section
variable {P:Program}
theorem OI{κ:Type}[DecidableEq κ]{kv:κ->Value}{kind:TypeDesc}{a:κ}(hs:∀x,Instr.sameNow kind (kv a) (kv x)=some (decide (x=a))):∀(es:List MapEntry) (ks:List κ) (i:Nat),es.map (·.key)=ks.map kv ->
  Instr.findNow kind (kv a) es i=some ((eT ks a).bind fun j=>(es[j]?).map fun e=>(i+j,e.val))
 |[],ks,i,h=>by
   cases ks with
   |nil=>rfl
   |cons k r=>simp at h
 |e::es,ks,i,h=>by
   cases ks with
   |nil=>simp at h
   |cons k r =>
     simp only[alf,al3]at h;simp only[Instr.findNow,h.1,hs,eT];by_cases hk:k=a
     .simp[hk]
     .simp only[hk,decide_false,if_false,OI hs es r (i+1) h.2]
      cases eT r a with
      |none=>rfl
      |some j=>simp[amF,anH 1 j]
theorem OJ{κ:Type}[DecidableEq κ]{kt:TypeId}{kv:κ->Value}{kind:TypeDesc}(hk:P.underlying kt=some kind)(a:κ)(hs:∀x,Instr.sameNow kind (kv a) (kv x)=some (decide (x=a)))(es:List MapEntry)(ks:List κ)(w:World)(h:es.map (·.key)=ks.map kv) :
  (Instr.findKey kt (kv a) es).run P w=.ok ((eT ks a).bind fun i=>(es[i]?).map fun e=>(i,e.val)) w:=by
 have:=OI hs es ks 0 h;simp only[alC]at this;simp only[Instr.findKey,Sem.run_bind,run_underlying hk,Result.andThen_ok,this];rfl
theorem OL{d:TypeDesc}{a b:Value}{p:Prop}[Decidable p](ha:MapKept.IsKey d a)(hb:MapKept.IsKey d b)(h:p↔a=b):Instr.sameNow d a b=some (decide p):=by
 obtain⟨r,hr,hi⟩:=MapKept.sameNow_of_keys ha hb;rw[hr];congr 1;rw[amL,hi,decide_eq_true_eq,h]
theorem Zw{kt:TypeId}(h:(P.ti kt).k=.str):jS P kt (fun l:List UInt8=>D.str l) (fun l=>.string ⟨l.toArray⟩) where
 val:=fun h=>by cases h;rfl
 rep:=fun _ _ l=>.str l
 fc:=fun b a w=>MapKept.run_checkKey (rJ h) (by trivial) b 9999
 same:=fun a=>by
  have:Instr.sameBits (9999+1) (.string ⟨a.toArray⟩) (.string ⟨a.toArray⟩)=true:=by simp[Instr.sameBits,MapKept.bytes_beq]
  exact this
 find:=fun a es ks w hk=>OJ (rJ h) a (fun x=>OL (by trivial) (by trivial) ⟨fun e=>by rw[e],fun e=>by
  have e1:=congrArg (fun v=>match v with|Value.string b=>b.data.toList|_=>[]) e
  simpa using e1.symm⟩) es ks w hk
theorem Zx{kt:TypeId}{i:IntKind}(h:(P.ti kt).k=.int i):jS P kt (fun n:Int=>D.int i n) (fun n=>.int i n) where
 val:=fun h=>by cases h;rfl
 rep:=fun _ _ n=>.int i n
 fc:=fun b a w=>MapKept.run_checkKey (k:=.int i a) (rK h) (show i=i from rfl) b 9999
 same:=fun a=>by
  have:Instr.sameBits (9999+1) (.int i a) (.int i a)=true:=by simp[Instr.sameBits]
  exact this
 find:=fun a es ks w hk=>OJ (rK h) a (fun x=>OL (d:=.int i) (a:=.int i a) (b:=.int i x) (show i=i from rfl) (show i=i from rfl) ⟨fun e=>by rw[e],fun e=>by cases e;rfl⟩) es ks w hk
end
section
variable {P:Program}{cf:Cf}{Q:Exit->St->Prop}{s:St}{k:List It}
variable {κ:Type}[DecidableEq κ]{ke:κ->D}{kv:κ->Value}
theorem OM{aE:Array MapEntry}{clock:Nat}(h:pK aE clock)(k v:Value):pK (aE.push { key:=k,val:=v,born:=clock }) (clock+1):=by
 obtain⟨h1,h2⟩:=h;refine⟨?_,fun e he=>?_⟩
 .rw[anS,alh,alZ];refine⟨h1,by simp,fun a ha b hb=>?_⟩;obtain⟨e,he,rfl⟩:=ak6.1 ha;have:=h2 e he;have hb:b=clock:=by simpa using hb
  omega
 .rw[anS]at he;rcases ak1.1 he with he|he
  .have:=h2 e he;omega
  .rw[ak3.1 he];exact anD _
theorem Jd{aE:Array MapEntry}{clock:Nat}(h:pK aE clock)(i:Nat)(f:MapEntry->MapEntry)(hf:∀e,(f e).born=e.born):pK (aE.modify i f) clock:=by
 have e:(aE.modify i f).toList.map (·.born)=aE.toList.map (·.born):=by
  refine amg fun j=>?_;rw[ala,ala,alM,alM,al7];split
  .cases aE[j]? with
   |none=>rfl
   |some x=>simp[hf]
  .rfl
 obtain⟨h1,h2⟩:=h;refine⟨by rw[e];exact h1,fun x hx=>?_⟩;have:x.born∈(aE.modify i f).toList.map (·.born):=ams hx;rw[e]at this;obtain⟨y,hy,zm⟩:=ak6.1 this;rw[<-zm];exact h2 y hy
theorem EX(E:bu P cf Q){t0:Nat}{t:Nat}{ty:TypeId}{pos:String}{af:Array Edge}(ht:t<cf.n)(hu:t∉s.used)(hk:E.run k ((s.add t (.map [])).put t (.mp [t]))) :
  E.bc { dst:=some t,op:=.makeMap t0 none,type:=ty,pos:=pos,after:=af,guard:=none } s k .no:=by
 rw[ie];rw[E.run_eq]at hk;intro B hB ds β a w ai h Q'
 have aF:(execOp a.eval { dst:=some t,op:=.makeMap t0 none,type:=ty,pos:=pos,after:=af,guard:=none }).run P w=.ok (.value (.map (some w.heap.size))) (w.alloc (.map #[] 0)):=by
  simp only[execOp,Instr.makeMap];rfl
 obtain⟨bh,_⟩:=h.alloc hu (.map #[] 0) (.map []) 0 (fun β' hβ _=>⟨_,#[],0,hβ,by show(w.heap.push _)[w.heap.size]?=_;rw[am6],⟨rfl,by simp[pK]⟩,fun i x hi=>by simp at hi⟩);refine fR (by simp) aF (.inl rfl) ⟨ai,_,_,eB hk,bh.put (by rw[hB.1];exact ht) ?_⟩;refine .mp _ _ ⟨t,[],rfl,alb⟩ rfl (fun es _=>⟨⟨w.heap.size,0,0⟩,by simp[aA],rfl⟩)
theorem BV{kt:TypeId}(K:jS P kt ke kv){H:Array Obj}{own:Nat->Prop}{ms:List (κ×D)}{aE:Array MapEntry}(bj:aE.size=(aM ke ms).length)
  (h:∀(i:Nat) (x:D×D),(aM ke ms)[i]?=some x->∃en:MapEntry,aE[i]?=some en∧au H own en.key x.1∧au H own en.val x.2):aE.toList.map (·.key)=(ms.map (·.1)).map kv:=by
 have hl:aE.size=ms.length:=by simpa[aM]using bj
 apply al9 (by simp[hl]);intro i h1 h2;have hi:i<ms.length:=by simpa using h2
 obtain⟨en,he,hk,_⟩:=h i (ke ms[i].1,ms[i].2) (by simp[aM,hi]);have de:i<aE.size:=by omega
 simp[de]at he;simp[he,K.val hk]
def Je:Value->Option D
 |.agg cs=>(cs.toList.mapM zd).map .agg
 |v=>zd v
def rT(P:Program)(t:TypeId):Option D:=(P.info? t).bind fun i=>i.zero.bind Je
theorem EY{t:TypeId}{z:D}(h:rT P t=some z):∃v,(∀w,(zeroValue t).run P w=.ok v w)∧∀(H:Array Obj) (own:Nat->Prop),au H own v z:=by
 obtain⟨i,hi,h⟩:=amu.1 h;obtain⟨v,hv,h⟩:=amu.1 h;refine⟨v,fun w=>?_,fun H own=>?_⟩
 .simp[zeroValue,typeInfo,hi,hv]
 .cases v with
  |agg cs =>
    simp only[Je,ak8]at h;obtain⟨ds,hd,rfl⟩:=h;obtain⟨h1,h2,_,h4⟩:=sL (H:=H) (own:=own) hd;refine .agg cs ds (by simpa using h1.symm) h2 (fun i d hi=>?_);obtain⟨u,hu,hr⟩:=h4 i d hi;have qD:cs[i]?=some u:=by simpa using hu
    have:cs.getD i undef=u:=by simp[akZ,qD]
    rw[this];exact hr
  |_=>simp only[Je]at h;exact(Nl (H:=H) (own:=own) h).1
def sU(z:D)(co:Bool)(r:Option D):AV:=if co then .az [.d (r.getD z),.d (.bool r.isSome)]else .d (r.getD z)
theorem OO{xt kt et:Nat}{x y:Operand}{co:Bool}{dst:Option Nat}{ty:TypeId}{pos:String}{af:Array Edge}{gg:Option (Nat×Bool)}(p:Name)(ms:List (κ×D))(key:κ)(z:D)(hm:(P.ti xt).k=.map kt et)(K:jS P kt ke kv)(hz:rT P et=some z)
  (hx:ev s x=.mp p) (hp:s.hp p=some (.map (aM ke ms))) (hy:ev s y=.d (ke key)) (cY:∀t∈dst,t<cf.n) (hk:run P cf k Q (s.iZ dst (sU z co (cJ ms key)))) :
  ia P cf { dst:=dst,op:=.lookup xt x y co,type:=ty,pos:=pos,after:=af,guard:=gg } s k Q:=by
 intro B hB ds β a w ai h Q';have hv:=h.ev x;rw[hx]at hv;have fL:=h.ev y;rw[hy]at fL;have fL:=K.val fL.cA;generalize hval:a.eval x=v at hv
 cases hv with
 |mp _ _ hn ho g =>
 obtain⟨b,hb,rfl⟩:=g _ hp;obtain⟨b2,aE,clock,eQ,hh,⟨bj,pX⟩,fF⟩:=(h.aJ p _ hp).2;obtain rfl:=alo (hb.symm.trans eQ);obtain⟨zv,xG,lM⟩:=EY hz;have lM:=lM w.heap (s.own B.A β);have jT:=BV K bj fF;have hf:=K.find key aE.toList _ w jT
 have key1:∃r,VR w.heap (s.own B.A β) s.used s.hp β r (sU z co (cJ ms key))∧(execOp a.eval { dst:=dst,op:=.lookup xt x y co,type:=ty,pos:=pos,after:=af,guard:=gg }).run P w=.ok (.value r) w:=by
  cases hi:eT (ms.map (·.1)) key with
  |none =>
    obtain⟨h1,_⟩:=BU (d:=z) hi;rw[hi]at hf;refine⟨if co then .tuple #[zv,.bool false]else zv,?_,?_⟩
    .rw[h1];cases co
     .exact .d _ _ lM
     .refine .az _ _ rfl fun i y hi=>?_
      match i,hi with
      |0,hi=>obtain rfl:=alo hi;exact .d _ _ lM
      |1,hi=>obtain rfl:=alo hi;exact .d _ _ (.bool _)
    .simp only[execOp,hval,fL,Instr.lookup,Sem.run_bind,run_underlying (mg hm),Result.andThen_ok,MapKept.run_getObj_map hh,K.fc,Sem.run_pure];rw[hf];simp[xG]
  |some i =>
    obtain⟨e,h0,h1,_⟩:=zl (d:=z) hi;rw[hi]at hf;obtain⟨en,he,_,cd⟩:=fF i (ke key,e) (by simp[aM,h0]);have df:aE.toList[i]?=some en:=by simpa using he
    refine⟨if co then .tuple #[en.val,.bool true]else en.val,?_,?_⟩
    .rw[h1];cases co
     .exact .d _ _ cd
     .refine .az _ _ rfl fun i y hi=>?_
      match i,hi with
      |0,hi=>obtain rfl:=alo hi;exact .d _ _ cd
      |1,hi=>obtain rfl:=alo hi;exact .d _ _ (.bool _)
    .simp only[execOp,hval,fL,Instr.lookup,Sem.run_bind,run_underlying (mg hm),Result.andThen_ok,MapKept.run_getObj_map hh,K.fc,Sem.run_pure];rw[hf];simp[he]
 obtain⟨r,ux,y9⟩:=key1;refine fR (by simp) y9 (.inl rfl) ⟨by cases dst<;>exact ai,_,β,eB hk,?_⟩
 cases dst with
 |none=>exact h
 |some t=>exact h.put (by rw[hB.1];exact cY t rfl) ux
theorem Jf(E:bu P cf Q){xt kt et:Nat}{x y:Operand}{co:Bool}{dst:Option Nat}{ty:TypeId}{pos:String}{af:Array Edge}(p:Name)(ms:List (κ×D))(key:κ)(z:D)(hm:(P.ti xt).k=.map kt et)(K:jS P kt ke kv)(hz:rT P et=some z)
  (hx:ev s x=.mp p) (hp:s.hp p=some (.map (aM ke ms))) (hy:ev s y=.d (ke key)) (cY:∀t∈dst,t<cf.n) (hk:E.run k (s.iZ dst (sU z co (cJ ms key)))) :
  E.bc { dst:=dst,op:=.lookup xt x y co,type:=ty,pos:=pos,after:=af,guard:=none } s k .no:=by
 rw[ie];rw[E.run_eq]at hk;exact OO p ms key z hm K hz hx hp hy cY hk
theorem vW(E:bu P cf Q){xt kt et:Nat}{x y z:Operand}{dst:Option Nat}{ty:TypeId}{pos:String}{af:Array Edge}(p:Name)(ms:List (κ×D))(key:κ)(d:D)(hm:(P.ti xt).k=.map kt et)(K:jS P kt ke kv)
  (hx:ev s x=.mp p) (hp:s.hp p=some (.map (aM ke ms))) (hy:ev s y=.d (ke key)) (hd:ev s z=.d d) (cY:dst=none) (hk:E.run k (s.set p (some (.map (aM ke (ek ms key d)))))) :
  E.bc { dst:=dst,op:=.mapUpdate xt x y z,type:=ty,pos:=pos,after:=af,guard:=none } s k .no:=by
 subst cY;rw[ie];rw[E.run_eq]at hk;intro B hB ds β a w ai h Q';have hv:=h.ev x;rw[hx]at hv;have fL:=h.ev y;rw[hy]at fL;have fL:=K.val fL.cA;have vX:=h.ev z;rw[hd]at vX;have vX:=vX.cA;generalize hval:a.eval x=v at hv
 cases hv with
 |mp _ _ hn ho g =>
 obtain⟨b,hb,rfl⟩:=g _ hp;obtain⟨b2,aE,clock,eQ,hh,⟨bj,pX⟩,fF⟩:=(h.aJ p _ hp).2;obtain rfl:=alo (hb.symm.trans eQ);have hlt:=dI hh;have jT:=BV K bj fF;have hf:=K.find key aE.toList _ w jT;have hl:aE.size=ms.length:=by simpa[aM]using bj
 have key1:∃nI BW,(execOp a.eval { dst:=none,op:=.mapUpdate xt x y z,type:=ty,pos:=pos,after:=af,guard:=none }).run P w=.ok .skip { w with heap:=w.heap.setIfInBounds b.b (.map nI BW) } ∧
   (nI.size=(aM ke (ek ms key d)).length∧pK nI BW)∧∀(H:Array Obj) (own:Nat->Prop),(∀v d,au w.heap (s.own B.A β) v d->au H own v d)->∀(i:Nat) (x:D×D),(aM ke (ek ms key d))[i]?=some x->∃en:MapEntry,nI[i]?=some en∧au H own en.key x.1∧au H own en.val x.2:=by
  cases hi:eT (ms.map (·.1)) key with
  |none =>
    obtain⟨_,h2⟩:=BU (d:=d) hi;rw[hi]at hf;refine⟨aE.push { key:=kv key,val:=a.eval z,born:=clock },clock+1,?_,?_,?_⟩
    .simp only[execOp,hval,fL,Instr.mapUpdate,Sem.run_bind,run_underlying (mg hm),Result.andThen_ok,MapKept.run_getObj_map hh,K.fc,Sem.run_pure];rw[hf];simp[setObj,Sem.run,hh]
    .rw[h2];exact⟨by simp[aM,hl],OM pX _ _⟩
    .intro H own hr i x aq;rw[h2]at aq;by_cases sV:i<ms.length
     .have:(aM ke ms)[i]?=some x:=by
       rw[<-aq];simp[aM,alj,sV]
      obtain⟨en,h3,h4,h5⟩:=fF i x this;exact⟨en,by rw[ano,if_neg (by omega)];exact h3,hr _ _ h4,hr _ _ h5⟩
     .have de:i=ms.length:=by
       have:=(akY.1 aq).1;simp[aM]at this;omega
      subst de
      have:x=(ke key,d):=by
       simp[aM]at aq;exact aq.symm
      subst this;exact⟨_,by rw[ano,if_pos hl.symm],K.rep _ _ _,hr _ _ vX⟩
  |some i =>
    obtain⟨e,h0,_,h2⟩:=zl (d:=d) hi;rw[hi]at hf;obtain⟨en,he,nJ,cd⟩:=fF i (ke key,e) (by simp[aM,h0]);have nK:=K.val nJ;have df:aE.toList[i]?=some en:=by simpa using he
    refine⟨aE.modify i fun e=>{ e with key:=kv key,val:=a.eval z },clock,?_,?_,?_⟩
    .simp only[execOp,hval,fL,Instr.mapUpdate,Sem.run_bind,run_underlying (mg hm),Result.andThen_ok,MapKept.run_getObj_map hh,K.fc,Sem.run_pure];rw[hf];simp[setObj,Sem.run,Instr.keyThatStays,he,nK,K.same,hh]
    .rw[h2];exact⟨by simp[aM,hl],Jd pX _ _ fun _=>rfl⟩
    .intro H own hr j x hj;rw[h2]at hj
     have e6:j<ms.length:=by
      have:=(akY.1 hj).1;simpa[aM]using this
     by_cases cx:i=j
     .subst cx
      have:x=(ke key,d):=by
       simp[aM,e6]at hj;exact hj.symm
      subst this;exact⟨_,by rw[al7,if_pos rfl,he];rfl,K.rep _ _ _,hr _ _ vX⟩
     .have:(aM ke ms)[j]?=some x:=by
       rw[<-hj];simp[aM,alu cx]
      obtain⟨rU,h3,h4,h5⟩:=fF j x this;exact⟨rU,by rw[al7,if_neg cx];exact h3,hr _ _ h4,hr _ _ h5⟩
 obtain⟨nI,BW,aF,Jg,Jh⟩:=key1
 obtain⟨bh,_⟩:=h.modify (p:=p) (ob':=.map (aM ke (ek ms key d))) hp trivial (w':={ w with heap:=w.heap.setIfInBounds b.b (.map nI BW) }) rfl (by simp)
  (fun b' eI=>by
   have:=eI b hb
   simp[Ne.symm this]) (fun _ hr=>⟨b,nI,BW,hb,by simp[hlt],Jg,Jh _ _ hr⟩)
 exact fR (by simp) aF (.inr ⟨rfl,rfl⟩) ⟨ai,_,_,eB hk,bh⟩
end
attribute [go_sem] sU Zv
end Go.Ab
namespace Go.Ab
inductive TS where
 |int (k:IntKind)
 |bool
 |str
 |sl (w:W) (es:List TS)
mutual
def TS.ok:TS->D->Prop
 |.int k,.int k' n=>k'=k∧k.min<=n∧n<=k.max
 |.bool,.bool _=>True
 |.str,.str l=>l.length<=maxLen
 |.sl _ _,.ao=>True
 |.sl w es,.sl w' xs=>w'=w∧xs.length<=maxLen∧∀x∈xs,okW w x∧ig es x.cells
 |_,_=>False
def ig:List TS->List D->Prop
 |[],[]=>True
 |t::ts,d::ds=>t.ok d∧ig ts ds
 |_,_=>False
end
theorem EZ:∀{ts:List TS} {ds:List D},ig ts ds->ds.length=ts.length
 |[],[],_=>rfl
 |_::_,_::_,h=>by simp[EZ h.2]
 |[],_::_,h=>h.elim
 |_::_,[],h=>h.elim
theorem OP:∀{ts:List TS} {ds:List D} {Ji:List TS} {gF:List D},ig ts ds->ig Ji gF->ig (ts++Ji) (ds++gF)
 |[],[],_,_,_,h=>h
 |_::_,_::_,_,_,h,h'=>⟨h.1,OP h.2 h'⟩
 |[],_::_,_,_,h,_=>h.elim
 |_::_,[],_,_,h,_=>h.elim
mutual
def shp(P:Program):Nat->TypeId->Option (List TS)
 |0,_=>none
 |n+1,t =>
   match(P.ti t).k with
   |.int k=>some [.int k]
   |.bool=>some [.bool]
   |.str=>some [.str]
   |.slice e=>(shp P n e).bind fun es=>if es.length=P.cellsOf e∧wd (P.ti e).w=es.length∧0<es.length then some [.sl (P.ti e).w es]else none
   |.struct fs=>(BX P n fs 0).bind fun ts=>if ts.length=P.cellsOf t then some ts else none
   |_=>none
def BX(P:Program):Nat->List (Nat×Nat)->Nat->Option (List TS)
 |0,_,_=>none
 |_+1,[],_=>some []
 |n+1,f::r,off =>
   if f.1=off then(shp P n f.2).bind fun ts=>if ts.length=P.cellsOf f.2 then(BX P n r (off+ts.length)).map (ts++·)else none else none
end
theorem Zy{α:Type}{n:Nat}{p:Nat->α->Prop}(h:∀i,i<n->∃a,p i a):∃xs:List α,xs.length=n∧∀i a,xs[i]?=some a->p i a:=by
 induction n with
 |zero=>exact⟨[],rfl,fun i a h=>by simp at h⟩
 |succ n ih =>
   obtain⟨xs,h1,h2⟩:=ih fun i hi=>h i (by omega);obtain⟨a,ha⟩:=h n (by omega);refine⟨xs++[a],by simp[h1],fun i b hb=>?_⟩;by_cases hi:i<xs.length
   .rw[alj hi]at hb;exact h2 i b hb
   .rw[aln (by omega)]at hb
    have Bj:i-xs.length=0:=by
     have:=(akY.1 hb).1;simp at this;omega
    rw[Bj]at hb;have hb:a=b:=by simpa using hb
    subst hb;rw[show i=n by omega];exact ha
section
variable {H:Type}{enc:TypeId×Value->H}{P:Program}{w:World}{spare:Nat->Bool}{held:Bool}
def CD(w:World)(cs:List Value)(ds:List D):Prop:=(∀d∈ds,d.bR=true)∧∀(i:Nat) d,ds[i]?=some d->au w.heap (fun _=>False) (cs.getD i undef) d
theorem CD.one{v:Value}{d:D}(hd:d.bR=true)(h:au w.heap (fun _=>False) v d):CD w [v] [d]:=by
 refine⟨by simpa using hd,fun i d' hi=>?_⟩
 match i,hi with
 |0,hi=>obtain rfl:=alo hi;exact h
theorem Jj{a:Addr}{n:Nat}{cs:List Value}(h:w.cells? 0 a n=some cs):cs.length=n∧∀i,i<n->∃v,cs[i]?=some v∧w.cell? (a.add i)=some v:=by
 unfold World.cells? at h;rw[if_pos (ale _)]at h;have hl:cs.length=n:=by simpa using mapM_some_length h
 refine⟨hl,fun i hi=>?_⟩;have:=mapM_some_get h i i (by simp[hi]);exact⟨cs[i]'(by omega),by simp[hl,hi],by rw[this];simp[hl,hi]⟩
theorem Zz{a:Addr}{cap:Nat}{wf:W}{c:Nat}{xs:List D}(hc:wd wf=c)(vz:0<c)(eY:xs.length<=cap)(hw:∀x∈xs,okW wf x)
  (h:∀i,i<xs.length->∃cs,w.cells? 0 (a.add (i*c)) c=some cs∧∀x,xs[i]?=some x->∀(j:Nat) d,x.cells[j]?=some d->au w.heap (fun _=>False) (cs.getD j undef) d) :
  au w.heap (fun _=>False) (.slice (some a) xs.length cap) (.sl wf xs):=by
 by_cases h0:xs.length=0
 .have:xs=[]:=amE.1 h0;subst this;exact .kZ _ _ _
 obtain⟨cs0,ZA,_⟩:=h 0 (by omega);obtain⟨_,OQ⟩:=Jj ZA;obtain⟨v0,_,mI⟩:=OQ 0 vz;have e0:(a.add (0*c)).add 0=a:=by simp[Addr.add]
 rw[e0]at mI;obtain⟨b,o,spot⟩:=a;unfold World.cell? at mI
 cases hh:w.heap[b]? with
 |none=>rw[hh]at mI;cases mI
 |some ob =>
   rw[hh]at mI
   cases ob with
   |cells cc e fz =>
     simp only at mI
     cases spot with
     |some _=>simp at mI
     |none =>
       have hcell:∀i v,w.cell? ⟨b,i,none⟩=some v->cc[i]?=some v:=by
        intro i v hi;simpa[World.cell?,hh]using hi
       refine .sl b o cap cc e fz wf xs hh (fun h=>h) eY ?_ hw (fun i x j d hi hj=>?_)
       .rw[hc];obtain⟨cs,hcs,_⟩:=h (xs.length-1) (by omega);obtain⟨_,hg⟩:=Jj hcs;obtain⟨v,_,hv⟩:=hg (c-1) (by omega);rw[nr,nr]at hv;have:=(amw.1 (hcell _ _ hv)).1
        have e1:(xs.length-1)*c+c=xs.length*c:=by
         rw[<-al8];congr 1;omega
        omega
       .have bF:i<xs.length:=(akY.1 hi).1;obtain⟨cs,hcs,cd⟩:=h i bF;obtain⟨hlen,hg⟩:=Jj hcs
        have e6:j<c:=by
         have h1:=iE (hw x (alp hi));have h2:=(akY.1 hj).1;omega
        obtain⟨v,sX,hv⟩:=hg j e6;rw[nr,nr]at hv;have h3:=hcell _ _ hv;have h4:=cd x hi j d hj;have e1:cs.getD j undef=v:=by simp[akX,sX]
        have e2:cc.getD (o+i*wd wf+j) undef=v:=by rw[hc];simp[akZ,h3]
        rw[e2,<-e1];exact h4
   |_=>simp at mI
theorem ZB:∀m:Nat,
  (∀n' t cs x ts,shp P m t=some ts->DataW.trod enc P w 0 spare held n' t cs=some x->∃ds,ig ts ds∧cs.length=ds.length∧CD w cs ds) ∧
  (∀n' (cs:List Value) r off ts,BX P m r off=some ts->(∀f∈r,∃x,DataW.trod enc P w 0 spare held n' f.2 ((cs.drop f.1).take (P.cellsOf f.2))=some x) ->
   ∃ds,ig ts ds∧(∀d∈ds,d.bR=true)∧∀(i:Nat) d,ds[i]?=some d->au w.heap (fun _=>False) (cs.getD (off+i) undef) d):=by
 intro m
 induction m with
 |zero=>exact⟨fun n' t cs x ts h=>by simp[shp]at h,fun n' cs r off ts h=>by simp[BX]at h⟩
 |succ m ih =>
   obtain⟨OT,OU⟩:=ih;refine⟨fun n' t cs x ts h hx=>?_,fun n' cs r off ts h hx=>?_⟩
   .unfold shp at h;split at h
    .rename_i k hk;cases h;obtain⟨n,rfl,_,jq⟩:=DataW.trod_int (rK hk) hx;simp only[Lit.wf,ak7,decide_eq_true_eq]at jq;exact⟨[.int k n],⟨⟨rfl,jq⟩,trivial⟩,rfl,CD.one rfl (.int k n)⟩
    .rename_i hk;cases h;have hu:P.underlying t=some .bool:=H6 (by rw[hk];rfl);obtain⟨b,rfl,_⟩:=DataW.trod_bool hu hx;exact⟨[.bool b],⟨trivial,trivial⟩,rfl,CD.one rfl (.bool b)⟩
    .rename_i hk;cases h;obtain⟨s,rfl,_,hs⟩:=DataW.trod_string (rJ hk) hx;obtain⟨l,rfl⟩:∃l:List UInt8,s=⟨l.toArray⟩:=⟨s.data.toList,by simp⟩
     refine⟨[.str l],⟨?_,trivial⟩,rfl,CD.one rfl (.str l)⟩;simpa[ByteArray.size,TS.ok]using hs
    .rename_i e hk;obtain⟨es,ZC,h⟩:=amu.1 h;split at h
     .rename_i hc;cases h;obtain⟨pO,fD,hc3⟩:=hc;rcases DataW.trod_slice (k5 hk) hx with⟨rfl,_⟩|⟨a,len,cap,elems,rest,n,_,rfl,_,_,hlen,eY,hel,dj,_,_⟩
      .exact⟨[.ao],⟨trivial,trivial⟩,rfl,CD.one rfl .ao⟩
      have each:∀i,i<len->∃x:D,(okW (P.ti e).w x∧ig es x.cells)∧∃cs,w.cells? 0 (a.add (i*P.cellsOf e)) (P.cellsOf e)=some cs∧∀(j:Nat) d,x.cells[j]?=some d->au w.heap (fun _=>False) (cs.getD j undef) d:=by
       intro i hi;have h1:=dj i hi;have aq:i<elems.length:=by omega
       rw[ak0 aq,amu]at h1;obtain⟨ci,nL,ZD⟩:=h1;obtain⟨di,aW,BZ,dv,cd⟩:=OT n e ci _ es ZC ZD;have B3:=EZ aW
       cases hw:(P.ti e).w with
       |none =>
         rw[hw]at fD
         match di,B3,dv,cd,aW with
         |[d],_,dv,cd,aW =>
           have hs:d.bR=true:=dv d (by simp);have OV:d.cells=[d]:=by cases d<;>simp_all [D.bR,D.cells]
           exact⟨d,⟨hs,by rw[OV];exact aW⟩,ci,nL,by rw[OV];exact cd⟩
         |[],B3,_,_,_=>simp[wd]at fD;simp at B3;omega
         |_::_::_,B3,_,_,_=>simp[wd]at fD;simp at B3;omega
       |some nn =>
         rw[hw]at fD;have fD:nn=es.length:=fD;exact⟨.agg di,⟨⟨by omega,dv⟩,aW⟩,ci,nL,cd⟩
      obtain⟨xs,jt,nM⟩:=Zy each
      have hr:=Zz (w:=w) (a:=a) (cap:=cap) (wf:=(P.ti e).w) (c:=P.cellsOf e) (xs:=xs) (by omega) (by omega) (by omega)
       (fun x aR=>by obtain⟨i,hi⟩:=amB.1 aR;exact(nM i x hi).1.1)
       (fun i hi=>by
        obtain⟨_,cs,h2,h3⟩:=nM i xs[i] (by simp[hi])
        exact⟨cs,h2,fun x aR j d hj=>by
         have aR:xs[i]=x:=by simpa[hi]using aR
         subst aR
         exact h3 j d hj⟩)
      rw[jt]at hr;refine⟨[.sl (P.ti e).w xs],⟨⟨rfl,by omega,fun x aR=>?_⟩,trivial⟩,rfl,CD.one rfl hr⟩;obtain⟨i,hi⟩:=amB.1 aR;exact(nM i x hi).1
     .cases h
    .rename_i fs hk;obtain⟨Ji,vY,h⟩:=amu.1 h;split at h
     .rename_i hc;cases h;obtain⟨fl,hu,rfl⟩:=Ba hk;obtain⟨xs,n,_,_,cF,_,hf⟩:=DataW.trod_struct hu hx
      obtain⟨ds,h1,h2,h3⟩:=OU n cs _ 0 ts vY (fun f pY=>by
       obtain⟨f0,ZE,rfl⟩:=ak6.1 pY;obtain⟨i,hi⟩:=amB.1 ZE;have aq:fl[i]?=some f0:=by simpa using hi
       have:=hf i f0 aq
       have hlt:i<xs.length:=by
        have:=(amw.1 aq).1;omega
       exact⟨xs[i],by rw[this];simp[hlt]⟩)
      have hl:=EZ h1;exact⟨ds,h1,by omega,h2,fun i d hi=>by have:=h3 i d hi;rwa [alC]at this⟩
     .cases h
    .cases h
   .unfold BX at h
    cases r with
    |nil =>
      cases h;exact⟨[],trivial,by simp,fun i d hi=>by simp at hi⟩
    |cons f r =>
      simp only at h;split at h
      .rename_i ZF;obtain⟨OW,h1,h⟩:=amu.1 h;split at h
       .rename_i hc;obtain⟨ZG,h2,rfl⟩:=ak8.1 h;obtain⟨x,ki⟩:=hx f alb;obtain⟨d1,g1,g2,g3,g4⟩:=OT n' f.2 _ x OW h1 ki;obtain⟨d2,k1,k2,k3⟩:=OU n' cs r _ ZG h2 fun q hq=>hx q (ald _ hq);have pZ:=EZ g1;refine⟨d1++d2,OP g1 k1,fun d hd=>?_,fun i d hi=>?_⟩
        .rcases ak1.1 hd with hd|hd
         .exact g3 d hd
         .exact k2 d hd
        .by_cases hlt:i<d1.length
         .rw[alj hlt]at hi;have:=g4 i d hi
          have e:((cs.drop f.1).take (P.cellsOf f.2)).getD i undef=cs.getD (off+i) undef:=by
           rw[akX,akX,amb,if_pos (by omega),alY,ZF]
          rw[e]at this;exact this
         .rw[aln (by omega)]at hi;have:=k3 _ d hi;rw[show off+OW.length+(i-d1.length)=off+i by omega]at this;exact this
       .cases h
      .cases h
theorem reads{m:Nat}{t:TypeId}{v:Value}{dw:DataW H}{ps:List MemPlace}{ts:List TS}(hs:shp P m t=some ts)(h:DataW.Trod enc P w 0 spare held t v dw ps):∃ds,ig ts ds∧v.cells.size=ds.length∧CD w v.cells.toList ds:=by
 obtain⟨n,hn⟩:=h;obtain⟨ds,h1,h2,h3⟩:=(ZB m).1 n t _ _ ts hs hn;exact⟨ds,h1,by simpa using h2,h3⟩
theorem OX{m:Nat}{t:TypeId}{vs:Array Value}{dw:DataW H}{ps:List MemPlace}{ts:List TS}(hs:shp P m t=some ts)(h:DataW.Trod enc P w 0 spare held t (.agg vs) dw ps):∃ds,ig ts ds∧au w.heap (fun _=>False) (.agg vs) (.agg ds):=by
 obtain⟨ds,h1,h2,h3,h4⟩:=reads hs h;refine⟨ds,h1,.agg vs ds h2 h3 fun i d hi=>?_⟩;have:=h4 i d hi;simpa[Value.cells,akZ,akX]using this
end
end Go.Ab

namespace Go.Proofs.YtpmniabdmbmafaaGreatDoor
open Go.Ab Tryz
theorem p3:prog.ti 3={ k:=.int .i64,sz:=1,by':=8,z:=some [.int .i64 0] }:=by kernel_rfl
theorem ZH:prog.ti 4={ k:=.bool,sz:=1,by':=1,z:=some [.bool false] }:=by kernel_rfl
theorem p4:prog.ti 5={ k:=.int .u8,sz:=1,by':=1,z:=some [.int .u8 0] }:=by kernel_rfl
theorem B6:prog.ti 9={ k:=.str,sz:=1,by':=16,z:=some [.str []] }:=by kernel_rfl
theorem ZI:prog.ti 22={ k:=.slice 45,sz:=1,by':=24,z:=some [.ao] }:=by kernel_rfl
theorem ZJ:prog.ti 24={ k:=.struct [(0,22),(1,3)],sz:=2,by':=32,z:=some [.ao,.int .i64 0] }:=by kernel_rfl
theorem ZK:prog.ti 27={ k:=.slice 51,sz:=1,by':=24,z:=some [.ao] }:=by kernel_rfl
theorem ZL:prog.ti 29={ k:=.struct [(0,27),(1,3)],sz:=2,by':=32,z:=some [.ao,.int .i64 0] }:=by kernel_rfl
theorem ZM:prog.ti 36={ k:=.slice 74,sz:=1,by':=24,z:=some [.ao] }:=by kernel_rfl
theorem ZN:prog.ti 38={ k:=.struct [(0,36),(1,3)],sz:=2,by':=32,z:=some [.ao,.int .i64 0] }:=by kernel_rfl
theorem ZO:prog.ti 43={ k:=.slice 98,sz:=1,by':=24,z:=some [.ao] }:=by kernel_rfl
theorem ZP:prog.ti 45={ k:=.struct [(0,3),(1,3),(2,3),(3,43)],sz:=4,by':=48,z:=some [.int .i64 0,.int .i64 0,.int .i64 0,.ao] }:=by kernel_rfl
theorem fM:prog.ti 48={ k:=.slice 3,sz:=1,by':=24,z:=some [.ao] }:=by kernel_rfl
theorem ZQ:prog.ti 49={ k:=.slice 78,sz:=1,by':=24,z:=some [.ao] }:=by kernel_rfl
theorem ZR:prog.ti 51={ k:=.struct [(0,4),(1,4),(2,4),(3,4),(4,4),(5,4),(6,4),(7,4),(8,48),(9,3),(10,3),(11,49),(12,49)],sz:=13,by':=96,z:=some [.bool false,.bool false,.bool false,.bool false,.bool false,.bool false,.bool false,.bool false,.ao,.int .i64 0,.int .i64 0,.ao,.ao] }:=by kernel_rfl
theorem Jk:prog.ti 54={ k:=.map 9 3,sz:=1,by':=8,z:=some [.j8] }:=by kernel_rfl
theorem ZS:prog.ti 69={ k:=.struct [(0,48),(1,48)],sz:=2,by':=48,z:=some [.ao,.ao] }:=by kernel_rfl
theorem ZT:prog.ti 70={ k:=.slice 69,sz:=1,by':=24,z:=some [.ao] }:=by kernel_rfl
theorem ZU:prog.ti 72={ k:=.slice 79,sz:=1,by':=24,z:=some [.ao] }:=by kernel_rfl
theorem ZV:prog.ti 74={ k:=.struct [(0,4),(1,4),(2,4),(3,4),(4,4),(5,4),(6,4),(7,4),(8,48),(9,3),(10,3),(11,72),(12,72)],sz:=13,by':=96,z:=some [.bool false,.bool false,.bool false,.bool false,.bool false,.bool false,.bool false,.bool false,.ao,.int .i64 0,.int .i64 0,.ao,.ao] }:=by kernel_rfl
theorem ZW:prog.ti 78={ k:=.struct [(0,9),(1,3)],sz:=2,by':=24,z:=some [.str [],.int .i64 0] }:=by kernel_rfl
theorem ZX:prog.ti 79={ k:=.struct [(0,9),(1,3)],sz:=2,by':=24,z:=some [.str [],.int .i64 0] }:=by kernel_rfl
theorem ZY:prog.ti 98={ k:=.struct [(0,9),(1,3)],sz:=2,by':=24,z:=some [.str [],.int .i64 0] }:=by kernel_rfl
theorem Jl:prog.ti 99={ k:=.slice 100,sz:=1,by':=24,z:=some [.ao] }:=by kernel_rfl
theorem mJ:prog.ti 100={ k:=.slice 48,sz:=1,by':=24,z:=some [.ao] }:=by kernel_rfl
theorem ZZ:prog.ti 102={ k:=.struct [(0,24),(2,3),(3,70),(4,100),(5,99),(6,99),(7,4),(8,4)],sz:=9,by':=144,z:=some [.ao,.int .i64 0,.int .i64 0,.ao,.ao,.ao,.ao,.bool false,.bool false] }:=by kernel_rfl
theorem Ca:prog.ti 110={ k:=.map 157 48,sz:=1,by':=8,z:=some [.j8] }:=by kernel_rfl
theorem qQ:prog.ti 111={ k:=.map 3 4,sz:=1,by':=8,z:=some [.j8] }:=by kernel_rfl
theorem Z0:prog.ti 113={ k:=.struct [(0,29),(2,110),(3,48),(4,100),(5,48),(6,111)],sz:=7,by':=120,z:=some [.ao,.int .i64 0,.j8,.ao,.ao,.ao,.j8] }:=by kernel_rfl
theorem Z1:prog.ti 120={ k:=.slice 9,sz:=1,by':=24,z:=some [.ao] }:=by kernel_rfl
theorem Z2:prog.ti 125={ k:=.func,sz:=1,by':=8,z:=some [.nj] }:=by kernel_rfl
theorem Z3:prog.ti 134={ k:=.slice 4,sz:=1,by':=24,z:=some [.ao] }:=by kernel_rfl
theorem Z4:prog.ti 151={ k:=.slice 156,sz:=1,by':=24,z:=some [.ao] }:=by kernel_rfl
theorem Fa:prog.ti 154={ k:=.struct [(0,3),(1,9)],sz:=2,by':=24,z:=some [.int .i64 0,.str []] }:=by kernel_rfl
theorem Z5:prog.ti 156={ k:=.struct [(0,154),(2,3)],sz:=3,by':=32,z:=some [.int .i64 0,.str [],.int .i64 0] }:=by kernel_rfl
theorem Z6:prog.ti 157={ k:=.struct [(0,154),(2,3)],sz:=3,by':=32,z:=some [.int .i64 0,.str [],.int .i64 0] }:=by kernel_rfl
theorem Z7:prog.ti 158={ k:=.slice 154,sz:=1,by':=24,z:=some [.ao] }:=by kernel_rfl
theorem zn:prog.ti 164={ k:=.ptr 167,sz:=1,by':=8,z:=some [.aY] }:=by kernel_rfl
theorem Fb:prog.ti 165={ k:=.slice 5,sz:=1,by':=24,z:=some [.ao] }:=by kernel_rfl
theorem Z8:prog.ti 167={ k:=.struct [(0,164),(1,165)],sz:=2,by':=32,z:=some [.aY,.ao] }:=by kernel_rfl
theorem Jm:prog.ti 197={ k:=.map 154 4,sz:=1,by':=8,z:=some [.j8] }:=by kernel_rfl
end Go.Proofs.YtpmniabdmbmafaaGreatDoor

namespace Go.Proofs.YtpmniabdmbmafaaGreatDoor
open Go.Ab Tryz
attribute [go_sem] p3 ZH p4 B6 ZI ZJ ZK ZL ZM ZN ZO ZP fM ZQ ZR Jk ZS ZT ZU ZV ZW ZX ZY Jl mJ ZZ Ca qQ Z0 Z1 Z2 Z3 Z4 Fa Z5 Z6 Z7 zn Fb Z8 Jm
attribute [go_sem] ntmps4 results4 ntmps6 results6 ntmps8 results8 ntmps9 results9 ntmps10 results10 ntmps11 results11 ntmps12 results12 ntmps13 results13 ntmps14 results14 ntmps20 results20 ntmps21 results21 ntmps22 results22 ntmps23 results23 ntmps24 results24 ntmps25 results25 ntmps26 results26 ntmps27 results27 ntmps28 results28 ntmps29 results29 ntmps30 results30 ntmps31 results31 ntmps39 results39 ntmps40 results40 ntmps41 results41 ntmps42 results42 ntmps43 results43 ntmps44 results44 ntmps45 results45 ntmps46 results46 ntmps47 results47 ntmps48 results48 ntmps49 results49 ntmps50 results50 ntmps51 results51 ntmps52 results52 ntmps53 results53 ntmps54 results54 ntmps55 results55 ntmps58 results58 ntmps62 results62 ntmps66 results66 ntmps67 results67 ntmps68 results68 ntmps69 results69 ntmps70 results70 ntmps71 results71 ntmps72 results72 ntmps73 results73 ntmps74 results74 ntmps75 results75 ntmps76 results76 ntmps77 results77 ntmps78 results78 ntmps79 results79 ntmps80 results80 ntmps81 results81 ntmps82 results82 ntmps83 results83 ntmps84 results84 ntmps85 results85 ntmps86 results86 ntmps87 results87 ntmps88 results88 ntmps89 results89 ntmps90 results90 ntmps91 results91 ntmps92 results92 ntmps93 results93 ntmps94 results94 ntmps95 results95 ntmps96 results96 ntmps97 results97 ntmps101 results101 ntmps103 results103 ntmps104 results104 ntmps105 results105 ntmps109 results109 ntmps110 results110 ntmps111 results111 ntmps112 results112 ntmps113 results113 ntmps114 results114 ntmps115 results115 ntmps116 results116 ntmps117 results117 ntmps118 results118 ntmps119 results119 ntmps120 results120 ntmps121 results121 ntmps122 results122 ntmps123 results123 ntmps124 results124 ntmps125 results125 ntmps126 results126 ntmps127 results127 ntmps128 results128 ntmps129 results129 ntmps130 results130 ntmps131 results131 ntmps132 results132 ntmps133 results133 ntmps134 results134 ntmps135 results135 ntmps136 results136 ntmps137 results137 ntmps138 results138 ntmps139 results139 ntmps140 results140 ntmps141 results141 ntmps142 results142 ntmps144 results144 ntmps145 results145 ntmps149 results149 ntmps150 results150 ntmps151 results151 ntmps152 results152 ntmps153 results153 ntmps154 results154 ntmps155 results155 ntmps156 results156 ntmps157 results157 ntmps158 results158 ntmps159 results159 ntmps160 results160 ntmps161 results161 ntmps162 results162 ntmps163 results163 ntmps164 results164 ntmps165 results165 ntmps166 results166 ntmps167 results167 ntmps179 results179 ntmps180 results180 ntmps181 results181 ntmps182 results182 ntmps183 results183 ntmps184 results184 ntmps185 results185 ntmps186 results186 ntmps187 results187 ntmps188 results188 ntmps189 results189 ntmps190 results190 ntmps191 results191 ntmps192 results192 ntmps193 results193 ntmps195 results195 ntmps196 results196 ntmps197 results197 ntmps198 results198 ntmps203 results203 ntmps204 results204 ntmps205 results205 ntmps206 results206 ntmps207 results207 ntmps208 results208 ntmps209 results209 ntmps211 results211
attribute [go_sem] Nat.reduceEqDiff Nat.reduceLT Nat.reduceAdd Nat.reduceMul Nat.reduceLeDiff Nat.reduceSub Nat.reduceBEq Int.reduceEq Int.reduceLT Int.reduceLE Int.reduceToNat Int.reduceAdd Int.reduceSub Int.reduceNeg UInt8.reduceToNat
attribute [go_sem ↓] reduceIte
end Go.Proofs.YtpmniabdmbmafaaGreatDoor

namespace Go.Proofs
open Go.Shelf
def Tryz.Z9:Go.Shelf.Ren:=⟨fun|246=>144|283=>164|284=>165|285=>166|286=>167|129=>121|317=>195|318=>196|319=>197|320=>198|337=>208|338=>209|n=>n,fun|2=>2|3=>3|9=>9|4=>4|171=>218|0=>0|53=>186|37=>165|5=>5|173=>220|212=>245|51=>184|20=>20|213=>246|46=>137|232=>254|233=>255|n=>n,fun|17=>1|18=>2|19=>3|n=>n⟩
theorem Tryz.aac:Go.Proofs.LaysM.n246 Tryz.prog Tryz.Z9:={
 mixed:=by kernel_rfl
 f129:=Tryz.func121.trans (congrArg some (by kernel_rfl))
 f246:=Tryz.func144.trans (congrArg some (by kernel_rfl))
 f283:=Tryz.func164.trans (congrArg some (by kernel_rfl))
 f284:=Tryz.func165.trans (congrArg some (by kernel_rfl))
 f285:=Tryz.func166.trans (congrArg some (by kernel_rfl))
 f286:=Tryz.func167.trans (congrArg some (by kernel_rfl))
 f317:=Tryz.func195.trans (congrArg some (by kernel_rfl))
 f318:=Tryz.func196.trans (congrArg some (by kernel_rfl))
 f319:=Tryz.func197.trans (congrArg some (by kernel_rfl))
 f320:=Tryz.func198.trans (congrArg some (by kernel_rfl))
 f337:=Tryz.func208.trans (congrArg some (by kernel_rfl))
 f338:=Tryz.func209.trans (congrArg some (by kernel_rfl))
 t0:=Tryz.underlying0
 a0:=Tryz.isAgg0
 z0:=Tryz.sizeOf0
 v0:=Tryz.zeroValue0
 t2:=Tryz.underlying2
 a2:=Tryz.isAgg2
 z2:=Tryz.sizeOf2
 v2:=Tryz.zeroValue2
 t3:=Tryz.underlying3
 a3:=Tryz.isAgg3
 z3:=Tryz.sizeOf3
 v3:=Tryz.zeroValue3
 t4:=Tryz.underlying4
 a4:=Tryz.isAgg4
 z4:=Tryz.sizeOf4
 v4:=Tryz.zeroValue4
 t5:=Tryz.underlying5
 a5:=Tryz.isAgg5
 z5:=Tryz.sizeOf5
 v5:=Tryz.zeroValue5
 t9:=Tryz.underlying9
 a9:=Tryz.isAgg9
 z9:=Tryz.sizeOf9
 v9:=Tryz.zeroValue9
 t20:=Tryz.underlying20
 a20:=Tryz.isAgg20
 z20:=Tryz.sizeOf20
 v20:=Tryz.zeroValue20
 t37:=Tryz.underlying165
 a37:=Tryz.isAgg165
 z37:=Tryz.sizeOf165
 v37:=Tryz.zeroValue165
 t46:=Tryz.underlying137
 a46:=Tryz.isAgg137
 z46:=Tryz.sizeOf137
 v46:=Tryz.zeroValue137
 t51:=Tryz.underlying184
 a51:=Tryz.isAgg184
 z51:=Tryz.sizeOf184
 v51:=Tryz.zeroValue184
 t53:=Tryz.underlying186
 a53:=Tryz.isAgg186
 z53:=Tryz.sizeOf186
 v53:=Tryz.zeroValue186
 t171:=Tryz.underlying218
 a171:=Tryz.isAgg218
 z171:=Tryz.sizeOf218
 v171:=Tryz.zeroValue218
 t173:=Tryz.underlying220
 a173:=Tryz.isAgg220
 z173:=Tryz.sizeOf220
 v173:=Tryz.zeroValue220
 t212:=Tryz.underlying245
 a212:=Tryz.isAgg245
 z212:=Tryz.sizeOf245
 v212:=Tryz.zeroValue245
 t213:=Tryz.underlying246
 a213:=Tryz.isAgg246
 z213:=Tryz.sizeOf246
 t232:=Tryz.underlying254
 a232:=Tryz.isAgg254
 z232:=Tryz.sizeOf254
 v232:=Tryz.zeroValue254
 t233:=Tryz.underlying255
 a233:=Tryz.isAgg255
 z233:=Tryz.sizeOf255
 v233:=Tryz.zeroValue255
 g17:=by kernel_rfl
 g18:=by kernel_rfl
 g19:=by kernel_rfl
 i0:=by kernel_rfl
 i2:=by kernel_rfl
 i3:=by kernel_rfl
 i4:=by kernel_rfl
 i5:=by kernel_rfl
 i9:=by kernel_rfl
 i20:=by kernel_rfl
 i37:=by kernel_rfl
 i46:=by kernel_rfl
 i51:=by kernel_rfl
 i53:=by kernel_rfl
 i171:=by kernel_rfl
 i173:=by kernel_rfl
 i212:=by kernel_rfl
 i232:=by kernel_rfl
 i233:=by kernel_rfl
 m17:=by kernel_rfl
 m18:=by kernel_rfl
 m19:=by kernel_rfl }
end Go.Proofs
namespace Go.Proofs.YtpmniabdmbmafaaGreatDoor
open Go.Ab Tryz
def zf(n:Int):Prop:=-9223372036854775808<=n∧n<=9223372036854775807
def GT(t:TypeId)(fz:Nat×Nat):List (Nat×Obj):=[(1,.cells (Lib.pow10Tab.map fun z=>Value.int .u64 z).toArray t fz)]
theorem aad {t:TypeId} {fz:Nat×Nat} {w:World} (h:∀q∈GT t fz,w.heap[q.1]?=some q.2):Lib.TabIs prog w "internal/strconv.uint64pow10" .u64 Lib.pow10Tab:=by
 have:=h _ alb;unfold Lib.TabIs World.var?;rw[show prog.globalNamed "internal/strconv.uint64pow10" = some 1 by kernel_rfl];simp[this]
theorem aae{t fz}(n:Int)(hn:zf n):HP prog (GT t fz) 144 [i64 n,i64 10] (fun r=>r=.d (.str (Lib.itoa n))) :=
 Yi (vH func144 rfl (by decide +kernel)) rfl fun w hw =>
  (Any.internal_strconv_FormatInt_10 Tryz.aac n hn.1 hn.2 w (aad hw)).mono fun _ _ ⟨he,k,os,rQ⟩=>⟨_,.str (Lib.itoa n),he,rfl,rfl,rQ▸Ext.grow w k os⟩
end Go.Proofs.YtpmniabdmbmafaaGreatDoor

