/-
  The generic layer, part 27: regions that draw their order, whose operations turn no memory: one walk in the text's order serves every order. (with the parts that follow it) (with the parts that follow it)
-/
import Derived.Test.YtpmniabdmbmafaaGreatDoorSSD
import Derived.Test.YtpmniabdmbmafaaGreatDoorSSA
import Derived.Laws.IdiomMaps
import Derived.ChangeArms
import Derived.WideKeyArgs
import Derived.Test.YtpmniabdmbmafaaGreatDoorProg
import Derived.KernelRfl
import Derived.Shelf.LaysM
import Derived.Shelf.Strconv.Itoa4
import Derived.Ground.NamesProg
set_option linter.all false
set_option maxHeartbeats 16000000
namespace Go.Ab
def cM(tf:Nat->TI)(o:Op)(s:St):R AV :=
 match o with
 |.move x=>.ok (ev s x)
 |.assign x=>.ok (ev s x)
 |.pick c a b=>sj (ev s c) (ev s a) (ev s b)
 |.build t parts=>zw tf (tf t) (parts.toList.map fun q=>(q.1,ev s q.2))
 |.load t x=>qV (tf t) s.hp (ev s x)
 |.fieldAddr t x f=>tU (tf t) tf s.hp (ev s x) f
 |.field t x f=>zk (tf t) tf (ev s x) f
 |.indexAddr t x j=>tV (tf t) tf s.hp (ev s x) (ev s j)
 |.index t x j=>zl (tf t) (ev s x) (ev s j)
 |.slice t x lo hi mx=>match mx with
   |none=>tW (tf t) tf s.hp (ev s x) (lo.map (ev s)) (hi.map (ev s))
   |some _=>.no
 |.binOp op t x y _=>zm (tf t).k op (ev s x) (ev s y)
 |.unOp op _ x=>zn op (ev s x)
 |.convert a b x=>zr (tf a) (tf b) (ev s x)
 |.extract x i=>zt (ev s x) i
 |.makeFunc fn first aR=>zx fn first.toList (aR.toList.map (ev s))
 |.call c=>match c.callee with
   |.builtin b=>match b,c.args.toList,c.argTypes.toList with
     |.len,[x],[t]=>tX (tf t) s.hp (ev s x)
     |.max,[x,y],_=>zp (ev s x) (ev s y)
     |.min,[x,y],_=>zq (ev s x) (ev s y)
     |_,_,_=>.no
   |_=>.no
 |_=>.no
theorem LR(tf:Nat->TI)(n:Nat)(o:Op)(d:Option Nat)(s:St):cM tf o s=.no∨cR tf n o d s=(cM tf o s).bind (c9 n d s):=by
 cases o with
 |slice t x lo hi mx=>cases mx<;>simp[cM,cR]
 |call c =>
   obtain⟨callee,args,jr⟩:=c
   cases callee with
   |value _=>exact .inl rfl
   |invoke _ _=>exact .inl rfl
   |builtin b =>
     obtain⟨args⟩:=args;obtain⟨jr⟩:=jr;simp only[cM,cR];split
     .exact .inr rfl
     .exact .inr rfl
     .exact .inr rfl
     .exact .inl rfl
 |_=>first|exact .inr rfl|exact .inl rfl
theorem LS{s s':St}{x:Operand}(h:∀t,x=.tmp t->s'.fr t=s.fr t):ev s' x=ev s x:=by
 cases x<;>first|rfl|exact h _ rfl
theorem Gy{s s':St}{l:List Operand}(h:∀x∈l,ev s' x=ev s x):l.map (ev s')=l.map (ev s):=aiQ h
theorem Gz(tf:Nat->TI)(o:Op)(s s':St)(hh:s'.hp=s.hp)(h:∀x∈o.operands,ev s' x=ev s x):cM tf o s'=cM tf o s:=by
 cases o with
 |slice t x lo hi mx =>
   cases mx with
   |some _=>rfl
   |none =>
     simp only[cM,hh];rw[h x (by simp[Op.operands])]
     have h1:lo.map (ev s')=lo.map (ev s):=by
      cases lo with
      |none=>rfl
      |some y=>simp[h y (by simp[Op.operands])]
     have h2:hi.map (ev s')=hi.map (ev s):=by
      cases hi with
      |none=>rfl
      |some y=>simp[h y (by simp[Op.operands])]
     rw[h1,h2]
 |build t parts =>
   simp only[cM]
   have:(parts.toList.map fun q=>(q.1,ev s' q.2))=parts.toList.map fun q=>(q.1,ev s q.2) :=
    aiQ fun q hq=>by rw[h q.2 (by simp only[Op.operands,akM,ah9];exact⟨q,hq,rfl⟩)]
   rw[this]
 |makeFunc fn first aR =>
   simp only[cM];rw[Gy fun x hx=>h x (by simp only[Op.operands,Array.mem_append];exact .inr (by simpa using hx))]
 |call c =>
   obtain⟨callee,args,jr⟩:=c
   cases callee with
   |value _=>rfl
   |invoke _ _=>rfl
   |builtin b =>
     obtain⟨args⟩:=args;obtain⟨jr⟩:=jr;have hm:∀x∈args,ev s' x=ev s x:=fun x hx=>h x (by simp[Op.operands,Call.operands,hx]);simp only[cM];split
     .rename_i x _;rw[hh,hm x (by simp)]
     .rename_i x y;rw[hm x (by simp),hm y (by simp)]
     .rename_i x y;rw[hm x (by simp),hm y (by simp)]
     .rfl
 |_=>first
   |rfl
   |(simp only[cM,hh];simp only[Op.operands,akM,ah6,aiw,or_false,forall_eq_or_imp,forall_eq]at h;simp only[h])
def yl:R AV->AV->Prop
 |.ok y,x=>y=x
 |.need p r,x=>p∧yl r x
 |.no,_=>False
def qv:R AV->(AV->Prop)->Prop->Prop
 |.ok x,f,_=>f x
 |.need p r,f,z=>p∧qv r f z
 |.no,_,z=>z
theorem LU{f:AV->Prop}{z:Prop}:∀{r:R AV},qv r f z->(r=.no∨∃x,yl r x∧f x)∨z
 |.ok x,h=>.inl (.inr ⟨x,rfl,h⟩)
 |.no,h=>.inr h
 |.need p r,h=>by
   rcases LU (r:=r) h.2 with(e|⟨x,h1,h2⟩)|hz
   .subst e;exact .inr h.2
   .exact .inl (.inr ⟨x,⟨h.1,h1⟩,h2⟩)
   .exact .inr hz
theorem LV{x:AV}{g:AV->R St}{f:St->Prop}{z:Prop}:∀{r:R AV},yl r x->(g x).run f z->(r.bind g).run f z
 |.ok y,h,hg=>by have h:y=x:=h;subst h;exact hg
 |.need p r,h,hg=>⟨h.1,LV h.2 hg⟩
 |.no,h,_=>h.elim
def dE(n:Nat):Option Nat->Prop
 |some t=>t<n
 |none=>True
section
variable (P:Program)(cf:Cf)(ops:Array Oper)
def x8(l:List Nat)(s s':St):Prop:=s'.hp=s.hp∧s'.used=s.used∧∀t∈l,s'.fr t=s.fr t
def QY(o:Oper)(s:St)(x:AV):Prop:=∀s',s'.hp=s.hp->s'.used=s.used->(∀y∈o.op.operands,ev s' y=ev s y) ->
 ∀B,cf.fits B->∀ds β a w,a.defers=ds->aj B β s' a.tmps w->∀Q',o.wpIn (Fw cf.ro) 0 P a w (fun a' w'=>a'.defers=ds∧∃β',aj B β' (s'.cV o.dst x) a'.tmps w') Q'
def jc(K:St->Prop):List Oper->St->Prop
 |[],s=>K s
 |o::r,s =>
   match o.guard with
   |none=>qv (cM P.ti o.op s) (fun x=>dE cf.n o.dst∧jc K r (s.cV o.dst x)) (∃x,QY P cf o s x∧dE cf.n o.dst∧jc K r (s.cV o.dst x))
   |some (j,want) =>
     match nO ops j s with
     |some (t,.d (.bool b)) =>
       (b=want->qv (cM P.ti o.op (s.put t (.d (.bool want)))) (fun x=>dE cf.n o.dst∧jc K r ((s.put t (.d (.bool want))).cV o.dst x)) (∃x,QY P cf o (s.put t (.d (.bool want))) x∧dE cf.n o.dst∧jc K r ((s.put t (.d (.bool want))).cV o.dst x))) ∧
       (b=!want->dE cf.n o.dst∧jc K r ((s.put t (.d (.bool (!want)))).cV o.dst (.aA [])))
     |some (_,.aA [])=>dE cf.n o.dst∧jc K r (s.cV o.dst (.aA []))
     |_=>False
def Fact(i:Nat)(o:Oper)(s:St)(x:AV):Prop:=∀s',x8 (o.looksAt ops) s s'->∀B,cf.fits B->∀ds β a w,a.defers=ds->aj B β s' a.tmps w->∀Q',
 wpOpIn (Fw cf.ro) 0 P ops Q' i (fun a' w'=>a'.defers=ds∧∃β',aj B β' (s'.cV o.dst x) a'.tmps w') a w
variable {P cf ops}
theorem V2{o:Oper}{s s':St}(h:x8 (o.looksAt ops) s s'):∀y∈o.op.operands,ev s' y=ev s y:=fun y hy =>
 LS fun t ht=>h.2.2 t (by subst ht;exact aif _ (List.mem_filterMap.2 ⟨.tmp t,by simpa using hy,rfl⟩))
theorem V3{o:Oper}{s:St}{x:AV}(h:yl (cM P.ti o.op s) x)(hd:dE cf.n o.dst):QY P cf o s x:=by
 intro s' hh hu he B hB ds β a w ak hs Q'
 have LW:cR P.ti B.n o.op o.dst s'=(cM P.ti o.op s').bind (c9 B.n o.dst s'):=by
  rcases LR P.ti B.n o.op o.dst s' with e|e
  .rw[Gz P.ti o.op s s' hh he]at e;rw[e]at h;exact h.elim
  .exact e
 rw[Gz P.ti o.op s s' hh he]at LW
 have hr:(cR P.ti B.n o.op o.dst s').run (fun s2=>s2=s'.cV o.dst x) False:=by
  rw[LW];refine LV h ?_
  cases dD:o.dst with
  |none=>exact rfl
  |some t =>
    rw[dD]at hd;have:t<B.n:=by rw[hB.1];exact hd
    simp[c9,this,R.run,St.cV]
 rcases xN hs hr with hz|⟨nx,v,w',s2,β',aK,bU,rfl,bm⟩
 .exact hz.elim
 .have hnd:∀c,o.op≠.defer c:=by
   intro c hc;rw[hc]at h;exact h.elim
  exact iZ hnd aK bU ⟨by cases o.dst<;>exact ak,β',bm⟩
theorem Ae{s:St}{t:Nat}{x:AV}(h:s.fr t=x):s.put t x=s:=by
 unfold St.put;congr 1;funext i;unfold eC;split
 .rename_i e;rw[e,h]
 .rfl
theorem CM{j:Nat}{s:St}{t:Nat}{v:AV}(h:nO ops j s=some (t,v)):∃oj,ops[j]?=some oj∧oj.dst=some t∧s.fr t=v:=by
 unfold nO at h;split at h
 .rename_i oj hj;simp only[ah4,ajM]at h;obtain⟨t',kD,rfl,hv⟩:=h;exact⟨oj,hj,kD,hv⟩
 .cases h
theorem CN{o oj:Oper}{j t:Nat}{want:Bool}(hg:o.guard=some (j,want))(hj:ops[j]?=some oj)(hd:oj.dst=some t):t∈o.looksAt ops:=by
 refine ajd _ ?_;simp[hg,hj,hd]
theorem CO{B:Base}{β:Name->Option aU}{s:St}{tm:Array Value}{w:World}(h:aj B β s tm w){j t:Nat}{oj:Oper}{b:Bool}(hj:ops[j]?=some oj)(iJ:oj.dst=some t)(js:s.fr t=.d (.bool b)):yielded ops tm j=some b:=by
 have hv:=h.slots t;rw[js]at hv;have hb:=hv.bool
 have hlt:t<tm.size:=by
  rcases aiG t tm.size with hlt|cy
  .exact hlt
  .simp[ahY,aiM cy]at hb;cases hb
 simp[yielded,hj,iJ,aiH hlt];simp[ahY,hlt]at hb;rw[hb]
theorem LX{B:Base}{β:Name->Option aU}{s:St}{tm:Array Value}{w:World}(h:aj B β s tm w){j t:Nat}{oj:Oper}(hj:ops[j]?=some oj)(iJ:oj.dst=some t)(js:s.fr t=.aA []):yielded ops tm j=none:=by
 have hv:=h.slots t;rw[js]at hv;rcases aiG t tm.size with hlt|cy
 .have hb:tm.getD t undef=.tuple #[]:=by
   generalize tm.getD t undef=v at hv
   cases hv with
   |aA vs _ hs _ =>
     have:vs=#[]:=ajx hs;rw[this]
  simp[ahY,hlt]at hb;simp[yielded,hj,iJ,aiH hlt,hb]
 .simp[yielded,hj,iJ,aiM cy]
theorem LY{i:Nat}{o:Oper}{s:St}(hi:ops[i]?=some o)(hd:dE cf.n o.dst)(hw:∀(B:Base) (β:Name->Option aU) s' tm w,x8 (o.looksAt ops) s s'->aj B β s' tm w->Region.wanted o (yielded ops tm)=false):Fact P cf ops i o s (.aA []):=by
 intro s' fT B hB ds β a w ak hs Q';unfold wpOpIn;simp only[hi,hw B β s' a.tmps w fT hs,aip,if_false];refine⟨fun _ _=>trivial,by cases o.dst<;>exact ak,β,hs.cV (fun t ht=>?_) (.aA #[] [] rfl (by simp))⟩;rw[ht]at hd;rw[hB.1];exact hd
theorem GA{i:Nat}{o:Oper}{s:St}{x:AV}(hi:ops[i]?=some o)(hw:∀(B:Base) (β:Name->Option aU) s' tm w,x8 (o.looksAt ops) s s'->aj B β s' tm w->Region.wanted o (yielded ops tm)=true)(h:QY P cf o s x):Fact P cf ops i o s x:=by
 intro s' fT B hB ds β a w ak hs Q';unfold wpOpIn;simp only[hi,hw B β s' a.tmps w fT hs,if_true];exact h s' fT.1 fT.2.1 (V2 fT) B hB ds β a w ak hs Q'
theorem V4{K:St->Prop}{i:Nat}{o:Oper}{r:List Oper}{s:St}(hi:ops[i]?=some o)(h:jc P cf ops K (o::r) s):∃x,Fact P cf ops i o s x∧jc P cf ops K r (s.cV o.dst x):=by
 unfold jc at h
 have go:∀{z:Prop} s1,s1=s->(∀(B:Base) (β:Name->Option aU) s' tm w,x8 (o.looksAt ops) s s'->aj B β s' tm w->Region.wanted o (yielded ops tm)=true) ->
   qv (cM P.ti o.op s1) (fun x=>dE cf.n o.dst∧jc P cf ops K r (s1.cV o.dst x)) (∃x,QY P cf o s1 x∧dE cf.n o.dst∧jc P cf ops K r (s1.cV o.dst x))->∃x,Fact P cf ops i o s x∧jc P cf ops K r (s.cV o.dst x):=by
  rintro z s1 rfl hw h;rcases LU h with(e|⟨x,h1,hd,h2⟩)|⟨x,h1,_,h2⟩
  .rw[e]at h;obtain⟨x,h1,_,h2⟩:=h;exact⟨x,GA hi hw h1,h2⟩
  .exact⟨x,GA hi hw (V3 h1 hd),h2⟩
  .exact⟨x,GA hi hw h1,h2⟩
 cases hg:o.guard with
 |none =>
   rw[hg]at h;exact go (z:=True) s rfl (fun _ _ _ _ _ _ _=>by simp[Region.wanted,hg]) h
 |some q =>
   obtain⟨j,want⟩:=q;rw[hg]at h;simp only at h;split at h
   .rename_i t b ie;obtain⟨oj,hj,iJ,js⟩:=CM ie;have hl:=CN hg hj iJ;by_cases hb:b=want
    .have e:s.put t (.d (.bool want))=s:=Ae (by rw[js,hb]);have h1:=h.1 hb;rw[e]at h1;refine go (z:=True) s rfl (fun B β s' tm w fT hs=>?_) h1;have:=CO hs hj iJ ((fT.2.2 t hl).trans js);simp[Region.wanted,hg,this,hb]
    .have uq:b=!want:=by cases b<;>cases want<;>simp_all
     have e:s.put t (.d (.bool (!want)))=s:=Ae (by rw[js,uq]);obtain⟨hd,h2⟩:=h.2 uq;rw[e]at h2;refine⟨_,LY hi hd (fun B β s' tm w fT hs=>?_),h2⟩;have:=CO hs hj iJ ((fT.2.2 t hl).trans js);simp[Region.wanted,hg,this,hb]
   .rename_i t ie;obtain⟨oj,hj,iJ,js⟩:=CM ie;have hl:=CN hg hj iJ;refine⟨_,LY hi h.1 (fun B β s' tm w fT hs=>?_),h.2⟩;have:=LX hs hj iJ ((fT.2.2 t hl).trans js);simp[Region.wanted,hg,this]
   .exact h.elim
end
end Go.Ab
namespace Go.Ab
section
variable {P:Program}{cf:Cf}{ops:Array Oper}
def dV(ops:Array Oper)(i:Nat):Option Nat:=(ops[i]?).bind (·.dst)
def lay(ops:Array Oper)(xs:Nat->AV):List Nat->St->St
 |[],s=>s
 |i::l,s=>lay ops xs l (s.cV (dV ops i) (xs i))
theorem LZ(s:St)(d:Option Nat)(x:AV):(s.cV d x).hp=s.hp:=by cases d<;>rfl
theorem L0(s:St)(d:Option Nat)(x:AV):(s.cV d x).used=s.used:=by cases d<;>rfl
theorem Af(xs:Nat->AV):∀(l:List Nat) (s:St),(lay ops xs l s).hp=s.hp
 |[],_=>rfl
 |i::l,s=>by rw[lay,Af xs l,LZ]
theorem Ag(xs:Nat->AV):∀(l:List Nat) (s:St),(lay ops xs l s).used=s.used
 |[],_=>rfl
 |i::l,s=>by rw[lay,Ag xs l,L0]
theorem L5(xs:Nat->AV)(i:Nat):∀(l:List Nat) (s:St),lay ops xs (l++[i]) s=(lay ops xs l s).cV (dV ops i) (xs i)
 |[],_=>rfl
 |j::l,s=>by rw[List.cons_append,lay,L5 xs i l,lay]
def L6(ops:Array Oper):Prop:=∀i j t,dV ops i=some t->dV ops j=some t->i=j
theorem uG(xs:Nat->AV)(t:Nat):∀(l:List Nat) (s:St),(∀k∈l,dV ops k≠some t)->(lay ops xs l s).fr t=s.fr t
 |[],_,_=>rfl
 |k::l,s,h=>by
   rw[lay,uG xs t l _ fun j hj=>h j (ah8 _ hj)];have hk:=h k ah0
   cases hd:dV ops k with
   |none=>rfl
   |some u =>
     rw[hd]at hk;show eC _ _ _ _=_;unfold eC;rw[if_neg (fun e=>hk (by rw[e]))]
theorem Ah(h1:L6 ops)(xs:Nat->AV){k t:Nat}(hk:dV ops k=some t):∀(l:List Nat) (s:St),k∈l->(lay ops xs l s).fr t=xs k
 |[],_,h=>by cases h
 |j::l,s,h=>by
   rw[lay];by_cases jd:k∈l
   .exact Ah h1 xs hk l _ jd
   .rcases ah6.1 h with rfl|h
    .rw[uG xs t l _ fun i hi e=>jd (by rw[h1 k i t hk e];exact hi),hk];show eC _ _ _ _=_;simp[eC]
    .exact absurd h jd
def waits(ops:Array Oper)(i j:Nat):Bool:=match ops[i]? with
 |some o=>o.after.any fun e=>Region.binds .any e&&e.on == j
 |none=>false
def uH(ops:Array Oper)(i:Nat):List Nat:=match ops[i]? with
 |some o=>o.looksAt ops
 |none=>[]
def qB(ops:Array Oper):Bool :=
 (List.range ops.size).all fun i =>
  (match ops[i]? with
   |some o=>o.after.toList.all fun e=>!Region.binds .any e||decide (e.on<i)
   |none=>true) &&
  (List.range ops.size).all fun k=>match dV ops k with
   |none=>true
   |some t=>(decide (i=k)||dV ops i != some t)&&(!(uH ops i).contains t||(decide (k<i)&&waits ops i k)||(decide (i<k)&&waits ops k i))
theorem rb{i t:Nat}(h:dV ops i=some t):i<ops.size:=by
 unfold dV at h;rcases aiG i ops.size with hlt|cy
 .exact hlt
 .rw[aiM cy]at h;cases h
theorem L7(h:qB ops=true):L6 ops:=by
 intro i j t hi hj;have h2:=aio.1 h i (aiq.2 (rb hi));simp only[aia]at h2;have h3:=aio.1 h2.2 j (aiq.2 (rb hj));rw[hj]at h3;simp only[aia,aiL,decide_eq_true_eq,hi,bne_self_eq_false,aip,or_false]at h3;exact h3.1
theorem V5(h:qB ops=true){i k t:Nat}(hi:i<ops.size)(hk:dV ops k=some t)(ht:t∈uH ops i):(k<i∧waits ops i k=true)∨(i<k∧waits ops k i=true):=by
 have h2:=aio.1 h i (aiq.2 hi);simp only[aia]at h2;have h3:=aio.1 h2.2 k (aiq.2 (rb hk));rw[hk]at h3;simp only[aia,aiL,aiT,ajT,decide_eq_false_iff_not,decide_eq_true_eq]at h3;obtain(h4|h4)|h4:=h3.2
 .exact absurd ht h4
 .exact .inl h4
 .exact .inr h4
theorem GB(h:qB ops=true){i:Nat}{o:Oper}(ho:ops[i]?=some o):∀e∈o.after,Region.binds .any e=true->e.on<i:=by
 intro e he hb
 have hi:i<ops.size:=by
  rcases aiG i ops.size with hlt|cy
  .exact hlt
  .rw[aiM cy]at ho;cases ho
 have h2:=aio.1 h i (aiq.2 hi);simp only[ho,aia]at h2;have h3:=aio.1 h2.1 e (aj9.2 he);simpa[hb]using h3
theorem L8{K:St->Prop}:∀(r:List Oper) (i:Nat) (s:St),(∀j,(r[j]?=ops[i+j]?))->jc P cf ops K r s ->
  ∃xs:Nat->AV,K (lay ops xs (List.range' i r.length) s)∧∀j o,i<=j->ops[j]?=some o->Fact P cf ops j o (lay ops xs (List.range' i (j-i)) s) (xs j)
 |[],i,s,hr,h=>⟨fun _=>.un,h,fun j o dW ho=>by
  have:=hr (j-i);rw[show i+(j-i)=j by omega,ho]at this
  simp at this⟩
 |o::r,i,s,hr,h=>by
   have hi:ops[i]?=some o:=by simpa using(hr 0).symm
   obtain⟨x,hf,h2⟩:=V4 hi h;obtain⟨xs,hK,hall⟩:=L8 r (i+1) (s.cV o.dst x) (fun j=>by have:=hr (j+1);rw[List.getElem?_cons_succ]at this;rw[this,show i+(j+1)=i+1+j by omega]) h2;obtain⟨ys,gq⟩:∃ys:Nat->AV,ys=fun j=>if j=i then x else xs j:=⟨_,rfl⟩
   have hd:dV ops i=o.dst:=by simp[dV,hi]
   have e1:∀(n k:Nat) (s:St),i<k->lay ops ys (List.range' k n) s=lay ops xs (List.range' k n) s:=by
    intro n
    induction n with
    |zero=>intros;rfl
    |succ n ih =>
      intro k s hk;rw[List.range'_succ,lay,lay,ih (k+1) _ (by omega),gq];simp only[if_neg (show¬k=i by omega)]
   have ng:ys i=x:=by rw[gq];simp
   refine⟨ys,?_,fun j o' dW aM=>?_⟩
   .rw[List.length_cons,List.range'_succ,lay,hd,ng,e1 _ _ _ (by omega)];exact hK
   .rcases aiG i j with hlt|cy
    .have:=hall j o' (by omega) aM;rw[show j-i=(j-(i+1))+1 by omega,List.range'_succ,lay,hd,ng,e1 _ _ _ (by omega)];rw[show ys j=xs j by rw[gq];simp only[if_neg (show¬j=i by omega)]];exact this
    .have:j=i:=by omega
     subst this;rw[hi]at aM;cases aM;rw[aku,ng];exact hf
structure Up(ops:Array Oper)(listed:Array Bool)(L:List Nat):Prop where
 size:listed.size=ops.size
 mem:∀j,j<ops.size->(listed[j]?=some true↔j∈L)
 lt:∀j∈L,j<ops.size
 closed:∀j∈L,∀o,ops[j]?=some o->∀e∈o.after,Region.binds .any e=true->e.on∈L
theorem L9{i j:Nat}(h:waits ops i j=true):∃o,ops[i]?=some o∧∃e∈o.after,Region.binds .any e=true∧e.on=j:=by
 unfold waits at h;split at h
 .rename_i o ho;rw[Array.any_eq_true]at h;obtain⟨k,hk,hb⟩:=h;simp only[aia,beq_iff_eq]at hb;exact⟨o,ho,_,Array.getElem_mem hk,hb⟩
 .cases h
theorem V6(hq:qB ops=true){listed:Array Bool}{L:List Nat}(hu:Up ops listed L)(xs:Nat->AV)(s:St){i:Nat}{o:Oper}(ho:ops[i]?=some o)(hi:i∉L)
  (hw:∀e∈o.after,Region.binds .any e=true->e.on∈L):x8 (o.looksAt ops) (lay ops xs (List.range' 0 (i-0)) s) (lay ops xs L s):=by
 refine⟨by rw[Af,Af],by rw[Ag,Ag],fun t ht=>?_⟩
 have hlt:i<ops.size:=by
  rcases aiG i ops.size with hlt|cy
  .exact hlt
  .rw[aiM cy]at ho;cases ho
 have kD:t∈uH ops i:=by unfold uH;rw[ho];exact ht
 have h1:=L7 hq;by_cases hk:∃k,dV ops k=some t
 .obtain⟨k,hk⟩:=hk;rcases V5 hq hlt hk kD with⟨h2,h3⟩|⟨h2,h3⟩
  .obtain⟨o',aM,e,he,hb,rfl⟩:=L9 h3;rw[ho]at aM;cases aM;rw[Ah h1 xs hk _ _ (hw e he hb),Ah h1 xs hk _ _ (by rw[aji];omega)]
  .obtain⟨o',aM,e,he,hb,e1⟩:=L9 h3;have uI:k∉L:=fun uI=>hi (by rw[<-e1];exact hu.closed k uI o' aM e he hb)
   rw[uG xs t _ _ fun j hj e=>uI (by rw[h1 k j t hk e];exact hj),uG xs t _ _ fun j hj e=>by
    have:=h1 k j t hk e;subst this;rw[aji]at hj
    omega]
 .rw[uG xs t _ _ fun j _ e=>hk ⟨j,e⟩,uG xs t _ _ fun j _ e=>hk ⟨j,e⟩]
theorem Ai:∀(n:Nat) (L:List Nat),L.Nodup->(∀x∈L,x<n)->L.length<=n
 |0,L,_,h=>by
   cases L with
   |nil=>simp
   |cons a r=>exact absurd (h a ah0) (aiW _)
 |n+1,L,hn,h=>by
   have h1:=Ai n (L.erase n) (hn.erase n) fun x hx=>by
    have:=(hn.mem_erase_iff).1 hx;have h2:=h x this.2;omega
   by_cases hm:n∈L
   .rw[akf hm]at h1;omega
   .rw[List.erase_of_not_mem hm]at h1;omega
theorem GD{s s':St}(h1:s.hp=s'.hp)(h2:s.used=s'.used)(h3:∀t,s.fr t=s'.fr t):s=s':=by
 obtain⟨f,h,u⟩:=s;obtain⟨f',h',u'⟩:=s';simp only at h1 h2 h3;subst h1;subst h2;rw[show f=f' from funext h3]
theorem V7{B:Base}(hB:cf.fits B){ds:List Deferred}{Q:Exit->Act->World->Prop}(hq:qB ops=true)(xs:Nat->AV)(s:St)
  (hall:∀j o,ops[j]?=some o->Fact P cf ops j o (lay ops xs (List.range' 0 (j-0)) s) (xs j))
  (hK:∀β a w,a.defers=ds->aj B β (lay ops xs (List.range' 0 ops.size) s) a.tmps w->Q .normal a w) :
  ∀(fuel:Nat) (listed:Array Bool) (L:List Nat) (β:Name->Option aU) (a:Act) (w:World),Up ops listed L->L.Nodup->ops.size<=fuel+L.length->a.defers=ds->aj B β (lay ops xs L s) a.tmps w ->
   wpAnyIn (Fw cf.ro) 0 P .any ops Q fuel listed a w:=by
 have fin:∀(listed:Array Bool) (L:List Nat) (β:Name->Option aU) (a:Act) (w:World),Up ops listed L->a.defers=ds->aj B β (lay ops xs L s) a.tmps w->Region.ready .any ops listed=[]->Q .normal a w:=by
  intro listed L β a w hu ak hs hr
  have vU:∀n j,j<=n->j<ops.size->j∈L:=by
   intro n
   induction n with
   |zero =>
     intro j hj hlt;have l0:j=0:=by omega
     subst l0;apply aja;intro hn;obtain⟨o,ho⟩:∃o,ops[0]?=some o:=⟨ops[0],by simp⟩
     have:0∈Region.ready .any ops listed:=by
      rw[mem_ready];refine⟨?_,o,ho,fun e he hb=>?_⟩
      .have:=hu.mem 0 hlt;have hl:0<listed.size:=by rw[hu.size];exact hlt
       cases hv:listed[0]with
       |true=>exact absurd (this.1 (by simp[hl,hv])) hn
       |false=>simp[hl,hv]
      .have:=GB hq ho e he hb;omega
     rw[hr]at this;cases this
   |succ n ih =>
     intro j hj hlt;rcases aiG j (n+1)with h|h
     .exact ih j (by omega) hlt
     .apply aja;intro hn;obtain⟨o,ho⟩:∃o,ops[j]?=some o:=⟨ops[j],by simp⟩
      have:j∈Region.ready .any ops listed:=by
       rw[mem_ready];refine⟨?_,o,ho,fun e he hb=>?_⟩
       .have:=hu.mem j hlt;have hl:j<listed.size:=by rw[hu.size];exact hlt
        cases hv:listed[j]with
        |true=>exact absurd (this.1 (by simp[hl,hv])) hn
        |false=>simp[hl,hv]
       .have h2:=GB hq ho e he hb;have h3:=(hu.mem e.on (by omega)).2 (ih e.on (by omega) (by omega));simp[h3]
      rw[hr]at this;cases this
  have h1:=L7 hq
  have e:lay ops xs L s=lay ops xs (List.range' 0 ops.size) s:=by
   refine GD (by rw[Af,Af]) (by rw[Ag,Ag]) fun t=>?_;by_cases hk:∃k,dV ops k=some t
   .obtain⟨k,hk⟩:=hk;have hlt:=rb hk;rw[Ah h1 xs hk _ _ (vU k k (ain _) hlt),Ah h1 xs hk _ _ (by rw[aji];omega)]
   .rw[uG xs t _ _ fun j _ e=>hk ⟨j,e⟩,uG xs t _ _ fun j _ e=>hk ⟨j,e⟩]
  rw[e]at hs;exact hK β a w ak hs
 intro fuel
 induction fuel with
 |zero =>
   intro listed L β a w hu hnd hn ak hs
   have hr:Region.ready .any ops listed=[]:=by
    apply ajZ.2;intro j hj;obtain⟨h0,o,ho,_⟩:=mem_ready.1 hj
    have hlt:j<ops.size:=by
     rcases aiG j ops.size with hlt|cy
     .exact hlt
     .rw[aiM cy]at ho;cases ho
    have GF:j∈L:=by
     apply aja;intro lf
     have dL:(j::L).length<=ops.size:=by
      refine Ai ops.size (j::L) (ai3.2 ⟨lf,hnd⟩) fun x hx=>?_;rcases ah6.1 hx with rfl|hx
      .exact hlt
      .exact hu.lt x hx
     simp only[List.length_cons]at dL;omega
    have h3:=(hu.mem j hlt).2 GF;simp[h3]at h0
   exact⟨hr,fin listed L β a w hu ak hs hr⟩
 |succ fuel ih =>
   intro listed L β a w hu hnd hn ak hs;refine⟨fun hr=>fin listed L β a w hu ak hs hr,fun i hi=>?_⟩;obtain⟨h0,o,ho,hw⟩:=mem_ready.1 hi
   have hlt:i<ops.size:=by
    rcases aiG i ops.size with hlt|cy
    .exact hlt
    .rw[aiM cy]at ho;cases ho
   have oT:i∉L:=fun h=>by
    have h3:=(hu.mem i hlt).2 h;simp[h3]at h0
   have oU:∀e∈o.after,Region.binds .any e=true->e.on∈L:=fun e he hb=>by
    have h1:=hw e he hb;have h2:=GB hq ho e he hb;refine(hu.mem e.on (by omega)).1 ?_;have hl:e.on<listed.size:=by rw[hu.size];omega
    simp[hl]at h1;simp[hl,h1]
   refine wpOpIn_mono (fun a' w' ⟨dB,β',bc⟩=>ih (listed.setIfInBounds i true) (L++[i]) β' a' w' ?_ ?_ ?_ dB ?_) (hall i o ho _ (V6 hq hu xs s ho oT oU) B hB ds β a w ak hs Q)
   .refine⟨by simpa using hu.size,fun j hj=>?_,fun j hj=>?_,fun j hj o' aM e he hb=>?_⟩
    .have hl:j<listed.size:=by rw[hu.size];exact hj
     by_cases dW:i=j
     .subst dW;simp[hl]
     .rw[ajw dW,hu.mem j hj];simp[Ne.symm dW]
    .rcases ah1.1 hj with hj|hj
     .exact hu.lt j hj
     .rw[ahZ.1 hj];exact hlt
    .rcases ah1.1 hj with hj|hj
     .exact aif _ (hu.closed j hj o' aM e he hb)
     .rw[ahZ.1 hj,ho]at aM;cases aM;exact aif _ (oU e he hb)
   .rw[aiZ];exact⟨hnd,by simp,fun x hx y hy=>by rw[ahZ.1 hy];rintro rfl;exact oT hx⟩
   .simp only[ah7,List.length_singleton];omega
   .rw[L5,show dV ops i=o.dst by simp[dV,ho]];exact bc
theorem V8{id:Nat}{l:List Oper}{s:St}{k:List It}{Q:Exit->St->Prop}(hm:P.follows .mixedOrders=true)(hq:qB l.toArray=true)(h:jc P cf l.toArray (fun s'=>run P cf k Q s') l s) :
  p4 P cf (.region id l.toArray true) s k Q:=by
 obtain⟨xs,hK,hall⟩:=L8 (ops:=l.toArray) l 0 s (fun j=>by simp) h;intro B hB ds β a w ak hs;refine wpIn_region_any hm ?_;refine V7 hB (ds:=ds) hq xs s (fun j o ho=>hall j o (aie _) ho) (fun β a w ak hs=>eT hK B hB ds β a w ak (by simpa using hs)) _ _ [] β a _ ?_ akk (by simp) ak (hs.xy rfl rfl);refine⟨by simp,fun j hj=>?_,by simp,by simp⟩;have hj:j<l.length:=by simpa using hj
 simp[hj]
end
end Go.Ab
namespace Go.Ab
section
variable (P:Program)(cf:Cf)(ops:Array Oper)(K:St->Prop)
def GG(x:R AV)(o:Oper)(r:List Oper)(s:St):Prop:=qv x (fun y=>dE cf.n o.dst∧jc P cf ops K r (s.cV o.dst y)) (∃y,QY P cf o s y∧dE cf.n o.dst∧jc P cf ops K r (s.cV o.dst y))
def x9(v:Option (Nat×AV))(want:Bool)(o:Oper)(r:List Oper)(s:St):Prop :=
 match v with
 |some (t,.d (.bool b)) =>
   (b=want->GG P cf ops K (cM P.ti o.op (s.put t (.d (.bool want)))) o r (s.put t (.d (.bool want)))) ∧
   (b=!want->dE cf.n o.dst∧jc P cf ops K r ((s.put t (.d (.bool (!want)))).cV o.dst (.aA [])))
 |some (_,.aA [])=>dE cf.n o.dst∧jc P cf ops K r (s.cV o.dst (.aA []))
 |_=>False
abbrev Ma(_:List Oper):Type:=St
abbrev V9(_:Oper)(_:List Oper)(_:St):Type 1:=R AV
abbrev Wa(_:Bool)(_:Oper)(_:List Oper)(_:St):Type:=Option (Nat×AV)
abbrev Wb(_:Option Nat)(_:AV)(_:List Oper):Type:=St
structure GH where
 run:(r:List Oper)->Ma r->Prop
 aX:(o:Oper)->(r:List Oper)->(s:St)->V9 o r s->Prop
 gd:(w:Bool)->(o:Oper)->(r:List Oper)->(s:St)->Wa w o r s->Prop
 pt:(d:Option Nat)->(x:AV)->(r:List Oper)->Wb d x r->Prop
 run_eq:∀r (s:St),run r s=jc P cf ops K r s
 eE:∀(x:R AV) o r s,aX o r s x=GG P cf ops K x o r s
 ik:∀(v:Option (Nat×AV)) w o r s,gd w o r s v=x9 P cf ops K v w o r s
 n3:∀d x r (s:St),pt d x r s=(dE cf.n d∧jc P cf ops K r (s.cV d x))
theorem Wc:Nonempty (GH P cf ops K) :=
 ⟨⟨jc P cf ops K,fun o r s x=>GG P cf ops K x o r s,fun w o r s v=>x9 P cf ops K v w o r s,fun d x r s=>dE cf.n d∧jc P cf ops K r (s.cV d x),fun _ _=>rfl,fun _ _ _ _=>rfl,fun _ _ _ _ _=>rfl,fun _ _ _ _=>rfl⟩⟩
end
section
variable {P:Program}{cf:Cf}{ops:Array Oper}{K:St->Prop}(E:GH P cf ops K)(s:St)(o:Oper)(r:List Oper)
theorem Wd:E.run [] s=K s:=by rw[E.run_eq];rfl
theorem Wf(d:Option Nat)(op:Op)(ty:Nat)(p:String)(e:Array Edge) :
 E.run ({ dst:=d,op:=op,type:=ty,pos:=p,after:=e,guard:=none }::r) s=E.aX { dst:=d,op:=op,type:=ty,pos:=p,after:=e,guard:=none } r s (cM P.ti op s):=by rw[E.run_eq,E.eE];rfl
theorem Wg(d:Option Nat)(op:Op)(ty:Nat)(p:String)(e:Array Edge)(j:Nat)(want:Bool) :
 E.run ({ dst:=d,op:=op,type:=ty,pos:=p,after:=e,guard:=some (j,want) }::r) s=E.gd want { dst:=d,op:=op,type:=ty,pos:=p,after:=e,guard:=some (j,want) } r s (nO ops j s):=by rw[E.run_eq,E.ik];rfl
theorem Wh(x:AV):E.aX o r s (.ok x)=E.pt o.dst x r s:=by rw[E.eE,E.n3];rfl
theorem Wi(p:Prop)(x:R AV):E.aX o r s (.need p x)=(p∧E.aX o r s x):=by rw[E.eE,E.eE];rfl
theorem Wj(t:Nat)(x:AV)(h:t<cf.n):E.pt (some t) x r s=E.run r (s.put t x):=by rw[E.n3,E.run_eq];simp[dE,h,St.cV]
theorem GI(t:Nat):E.gd true o r s (some (t,.d (.bool true)))=E.aX o r (s.put t (.d (.bool true))) (cM P.ti o.op (s.put t (.d (.bool true)))):=by rw[E.ik,E.eE];simp[x9]
theorem GJ(t:Nat):E.gd false o r s (some (t,.d (.bool false)))=E.aX o r (s.put t (.d (.bool false))) (cM P.ti o.op (s.put t (.d (.bool false)))):=by rw[E.ik,E.eE];simp[x9]
theorem GK(t:Nat):E.gd false o r s (some (t,.d (.bool true)))=E.pt o.dst (.aA []) r (s.put t (.d (.bool true))):=by rw[E.ik,E.n3];simp[x9]
theorem GL(t:Nat):E.gd true o r s (some (t,.d (.bool false)))=E.pt o.dst (.aA []) r (s.put t (.d (.bool false))):=by rw[E.ik,E.n3];simp[x9]
variable {s o r}
attribute [go_sem] Wd Wf Wg Wh Wi Wj GI GJ GK GL cM
theorem uJ(s:St)(t:Nat)(x y:AV):(s.put t x).put t y=s.put t y:=by
 unfold St.put;congr 1;funext i;simp only[eC];split<;>rfl
theorem Wl{c:Bool}{t:Nat}{want:Bool}(h1:c=true->E.gd want o r (s.put t (.d (.bool true))) (some (t,.d (.bool true))))(h2:c=false->E.gd want o r (s.put t (.d (.bool false))) (some (t,.d (.bool false)))):E.gd want o r s (some (t,.d (.bool c))):=by
 cases c
 .have:=h2 rfl;cases want
  .rw[GJ,uJ]at this;rw[GJ];exact this
  .rw[GL,uJ]at this;rw[GL];exact this
 .have:=h1 rfl;cases want
  .rw[GK,uJ]at this;rw[GK];exact this
  .rw[GI,uJ]at this;rw[GI];exact this
theorem Wm{p:Prop}[Decidable p]{t:Nat}{want:Bool}(h1:p->E.gd want o r (s.put t (.d (.bool true))) (some (t,.d (.bool true))))(h2:¬p->E.gd want o r (s.put t (.d (.bool false))) (some (t,.d (.bool false)))):E.gd want o r s (some (t,.d (.bool (decide p)))) :=
 Wl E (fun h=>h1 (of_decide_eq_true h)) (fun h=>h2 (of_decide_eq_false h))
theorem Mb{id:Nat}{l:List Oper}{s:St}{k:List It}{Q:Exit->St->Prop}(hm:P.follows .mixedOrders=true)(hq:qB l.toArray=true)(E0:bB P cf Q)(h:∀E:GH P cf l.toArray (fun s'=>E0.run k s'),E.run l s) :
  gw E0 (.region id l.toArray true) s k:=by
 refine V8 hm hq ?_;have e:(fun s'=>E0.run k s')=fun s'=>run P cf k Q s':=by funext s';rw[E0.run_eq]
 obtain⟨E⟩:=Wc P cf l.toArray (fun s'=>E0.run k s');have:=h E;rw[E.run_eq,e]at this;exact this
end
end Go.Ab

namespace Go.Ab
section
variable {P:Program}{cf:Cf}{Q:Exit->St->Prop}{s:St}{k:List It}{c:Code}
def vV(E:bB P cf Q)(next:St->Prop)(k:List It)(e:Exit)(s:St):Prop :=
 match e with
 |.normal=>next s
 |.exit i=>E.xk i k s
 |.ret=>Q .ret s
 |_=>False
theorem GM(E:bB P cf Q)(next:St->Prop)(k:List It):vV E next k=lq P cf next k Q:=by
 funext e s
 cases e with
 |exit i=>show E.xk i k s=xk P cf i k Q s;rw[E.x7]
 |_=>rfl
theorem nh(E:bB P cf Q)(next:St->Prop):vV E next k .normal s=next s:=rfl
theorem Wn(E:bB P cf Q)(next:St->Prop)(i:Nat):vV E next k (.exit i) s=E.xk i k s:=rfl
theorem Wo(E:bB P cf Q)(next:St->Prop):vV E next k .ret s=Q .ret s:=rfl
attribute [go_sem] nh Wn Wo
theorem rh(E:bB P cf Q){X:Type}(I:X->List (Nat×AV))(μ:X->Nat)(hU:cf.U=[])(x0:X)(h0:uF s (I x0))
  (hr:∀x,∀E':bB P cf (vV E (fun s'=>∃y,μ y<μ x∧uF s' (I y)) k),E'.run [.code c] (mk (I x) [] [])):gw E (.loop c) s k :=
 V0 I μ hU x0 h0 fun x=>by rw[<-GM E];exact aT (hr x)
theorem Aj(E:bB P cf Q){X:Type}(I:X->List (Nat×AV))(O:X->List (Name×Ob))(u:List Nat)(μ:X->Nat)(x0:X)(h0:cF cf.U id s (I x0) (O x0) u)
  (hr:∀x,∀E':bB P cf (vV E (fun s'=>∃y,μ y<μ x∧cF cf.U id s' (I y) (O y) u) k),E'.run [.code c] (mk (I x) (O x) u)):gw E (.loop c) s k :=
 V1 I O u μ x0 h0 fun x=>by rw[<-GM E];exact aT (hr x)
end
end Go.Ab
namespace Go.Ab
theorem Wp(u:List Nat)(h:Nat)(t:Name):bX u (h::t)=u.contains h:=rfl
attribute [go_sem] cF my nV nW qb AV.ren Ob.ren bZ Ob.bn Wp id_eq List.contains_cons List.contains_nil Bool.or_true Bool.true_or Bool.or_false Bool.false_or
end Go.Ab
namespace Go.Ab
mutual
def AV.cY(p:Name)(w:W)(xs:List D):AV->AV
 |.un=>.un
 |.d x=>.d x
 |.vw q o l=>if q=p then .d (.sl w ((xs.drop o).take l))else .vw q o l
 |.bx q c=>.bx q c
 |.el q i c=>.el q i c
 |.mp q=>.mp q
 |.it q=>.it q
 |.agg cs=>mT (fV p w xs cs)
 |.aA cs=>.aA (fV p w xs cs)
 |.aW f cs=>.aW f (fV p w xs cs)
 |.va q o l=>.va q o l
 |.ea q i=>.ea q i
 |.ma q=>.ma q
def fV(p:Name)(w:W)(xs:List D):List AV->List AV
 |[]=>[]
 |x::r=>x.cY p w xs::fV p w xs r
end
theorem Ak(p:Name)(w:W)(xs:List D):∀l:List AV,(fV p w xs l).length=l.length
 |[]=>rfl
 |_::r=>by simp[fV,Ak p w xs r]
theorem Al(p:Name)(w:W)(xs:List D):∀(l:List AV) (i:Nat),(fV p w xs l)[i]?=(l[i]?).map (AV.cY p w xs)
 |[],i=>by simp[fV]
 |x::r,0=>by simp[fV]
 |x::r,i+1=>by simp[fV,Al p w xs r i]
section
variable {H:Array Obj}{own own':Nat->Prop}{used:List Nat}{hp ae:Name->Option Ob}{β:Name->Option aU}
theorem VR.cY{p:Name}{w:W}{xs:List D}(hr:∀v d,au H own v d->au H own' v d)(ah:∀q,nm used q->iG hp ae β β q)(jW:hp p=some (.arr w xs))(ho:OR H own used hp β p (.arr w xs))
  (bH:∀k,β p=some k->¬own' k.b) {v:Value} {x:AV} (h:VR H own used hp β v x):VR H own' used ae β v (x.cY p w xs):=by
 induction h with
 |un v=>exact .un v
 |d v x h=>exact .d v x (hr v x h)
 |vw v q off len hn h1 h =>
   unfold AV.cY;split
   .rename_i e;subst e;obtain⟨hle,a,cap,rfl,h2⟩:=h _ w xs jW;refine .d _ _ ?_;have hlen:((xs.drop off).take len).length=len:=by simp;omega
    by_cases h0:len=0
    .subst h0;rw[List.take_zero];exact .lL a cap w
    .rcases h2 with⟨h3,_⟩|⟨k,hk,rfl,fL,hz⟩
     .exact absurd h3 h0
     .rcases ho with⟨h4,rfl⟩|⟨k',c,e,az,hc,CP,hl,hw,cD⟩
      .rw[hk]at h4;cases h4
      .rw[hk]at az;cases az
       have:au H own' (.slice (some ⟨k.b,k.o+off*wd w,none⟩) ((xs.drop off).take len).length cap) (.sl w ((xs.drop off).take len)):=by
        refine .sl k.b (k.o+off*wd w) cap c e (0,0) w _ hc (bH k hk) (by omega) ?_ (fun x hx=>hw x (aiX (aiJ hx))) (fun i x j d hi hj=>?_)
        .rw[hlen,CP];have e1:(off+cap)*wd w=off*wd w+cap*wd w:=ai8 _ _ _;have e2:len*wd w<=cap*wd w:=aiu _ fL;omega
        .have ao:xs[off+i]?=some x:=by
          rw[ai4]at hi;split at hi
          .rw[aiU]at hi;exact hi
          .cases hi
         have:=cD (off+i) x j d ao hj;rw[show k.o+off*wd w+i*wd w+j=k.o+(off+i)*wd w+j by rw[ai8];omega];exact hr _ _ this
       rw[hlen]at this;exact this
   .exact VR.mono hr (fun _ h=>h) ah (.vw v q off len hn h1 h)
 |bx v q c hn h1 h=>exact VR.mono hr (fun _ h=>h) ah (.bx v q c hn h1 h)
 |el v q i c hn h1 h=>exact VR.mono hr (fun _ h=>h) ah (.el v q i c hn h1 h)
 |mp v q hn h1 h=>exact VR.mono hr (fun _ h=>h) ah (.mp v q hn h1 h)
 |its v q hn h1 h h'=>exact VR.mono hr (fun _ h=>h) ah (.its v q hn h1 h h')
 |va v q off len hn h1 h=>exact VR.mono hr (fun _ h=>h) ah (.va v q off len hn h1 h)
 |ea v q i hn h1 h=>exact VR.mono hr (fun _ h=>h) ah (.ea v q i hn h1 h)
 |ma v q hn h1 h=>exact VR.mono hr (fun _ h=>h) ah (.ma v q hn h1 h)
 |agg vs cs hs hc _ ih =>
   have:=xF (H:=H) (own:=own') (used:=used) (hp:=ae) (β:=β) (vs:=vs.toList) (cs:=fV p w xs cs) (by rw[Ak];simpa using hs) (by simpa using hc) (fun i v x hv hx=>by
    rw[Al,ah4]at hx;obtain⟨y,hy,rfl⟩:=hx;have:=ih i y hy
    have e:vs.getD i undef=v:=by
     simp only[aiI]at hv;simp[ahY,hv]
    rw[e]at this
    exact this)
   simpa[AV.cY]using this
 |aA vs cs hs _ ih =>
   refine .aA vs _ (by rw[Ak];exact hs) (fun i x hi=>?_);rw[Al,ah4]at hi;obtain⟨y,hy,rfl⟩:=hi;exact ih i y hy
 |aW f vs cs hs _ ih =>
   refine .aW f vs _ (by rw[Ak];exact hs) (fun i x hi=>?_);rw[Al,ah4]at hi;obtain⟨y,hy,rfl⟩:=hi;exact ih i y hy
end
def St.cY(s:St)(p:Name)(w:W)(xs:List D):St:={ fr:=fun t=>(s.fr t).cY p w xs,hp:=aP s.hp p none,used:=s.used }
theorem aj.cY{B:Base}{β:Name->Option aU}{s:St}{tm:Array Value}{w:World}(h:aj B β s tm w){p:Name}{wf:W}{xs:List D}(hp:s.hp p=some (.arr wf xs)):aj B β (s.cY p wf xs) tm w:=by
 have h0:=h.drop p
 have dL:∀q o,(s.set p none).hp q=some o->s.hp q=some o:=by
  intro q o ho;by_cases e:q=p
  .subst e;simp[St.set,aP]at ho
  .simpa[St.set,aP,e]using ho
 have aJ:∀q,(s.set p none).hp q≠none->s.hp q≠none∧q≠p:=by
  intro q hq
  cases ho:(s.set p none).hp q with
  |none=>exact absurd ho hq
  |some o =>
    refine⟨by rw[dL q o ho];simp,fun e=>?_⟩;subst e;simp[St.set,aP]at ho
 have hr:∀v d,au w.heap (s.own B.A β) v d->au w.heap ((s.set p none).own B.A β) v d:=fun v d hd=>hd.mono (fun _ _ _=>rfl) (by
  rintro b _ (hA|⟨q,k,hq,hk,e⟩)
  .exact .inl hA
  .exact .inr ⟨q,k,(aJ q hq).1,hk,e⟩)
 have ah:∀q,nm s.used q->iG s.hp (s.set p none).hp β β q:=fun q _ o' aM=>⟨o',dL q o' aM,Ob.mS _,rfl⟩
 refine { bE:=h.bE,io:=h.io,size:=h.size,frame:=h.frame,slots:=fun i=>?_,aO:=h0.aO,blocks:=h0.blocks,inj:=h0.inj,us:=h.us,stay:=h.stay };refine(h.slots i).cY hr ah hp (h.aO p _ hp).2 fun k hk dS=>?_;obtain hA|⟨q,k',hq,az,e⟩:=dS
 .exact(h.blocks p k (by rw[hp];simp) hk).2.1 hA
 .exact(aJ q hq).2 (h.inj q p k' k (aJ q hq).1 (by rw[hp];simp) az hk e)
section
variable {P:Program}{cf:Cf}{Q:Exit->St->Prop}{s:St}{k:List It}
theorem sG{o:Oper}{o':Oper}(aM:o'={ o with guard:=none })(h:aX P cf (cR P.ti cf.n o.op o.dst s) o' s k Q):fS P cf o' s k Q:=by
 intro B hB ds β a w ak hs Q';unfold aX at h;have h':(cR P.ti B.n o'.op o'.dst s).run (fun s'=>run P cf k Q s') (fS P cf o' s k Q):=by subst aM;rw[hB.1];exact h
 rcases xN hs h' with hz|⟨nx,v,w',s',β',aK,bU,hf,bm⟩
 .exact hz B hB ds β a w ak hs Q'
 .have hnd:∀c,o'.op≠.defer c:=by
   intro c hc
   have:∃d w2,(execOp a.eval o').run P w=.ok (.defer d) w2∨∃h w2,(execOp a.eval o').run P w=.halt h w2:=by
    simp only[execOp,hc,Sem.run_bind]
    cases (resolve a.eval c o'.type).run P w with
    |ok d w2=>exact⟨d,w2,.inl rfl⟩
    |halt hh w2=>exact⟨default,w2,.inr ⟨hh,w2,rfl⟩⟩
   obtain⟨d,w2,h1|⟨hh,w3,h1⟩⟩:=this
   .rw[aK]at h1;cases h1;rcases bU with h2|⟨h2,_⟩<;>cases h2
   .rw[aK]at h1;cases h1
  exact iZ hnd aK bU ⟨by cases o'.dst<;>exact ak,s',β',eT hf,bm⟩
theorem oV(E:bB P cf Q){d:Option Nat}{op:Op}{ty:TypeId}{ps:String}{af:Array Edge}(p:Name)(w:W)(xs:List D)(hp:s.hp p=some (.arr w xs))(h:E.aX { dst:=d,op:=op,type:=ty,pos:=ps,after:=af,guard:=none } (s.cY p w xs) k (cR P.ti cf.n op d (s.cY p w xs))) :
  E.aX { dst:=d,op:=op,type:=ty,pos:=ps,after:=af,guard:=none } s k .no:=by
 rw[gx];rw[E.eE]at h;have h1:=sG (o:={ dst:=d,op:=op,type:=ty,pos:=ps,after:=af,guard:=none }) rfl h;intro B hB ds β a w' ak hs Q';exact h1 B hB ds β a w' ak (hs.cY hp) Q'
theorem GN(p:Name)(w:W)(xs:List D)(t:Nat):∀l:List (Nat×AV),(aE .un l t).cY p w xs=aE .un (l.map fun q=>(q.1,q.2.cY p w xs)) t
 |[]=>rfl
 |q::r=>by
   simp only[aE,aid];split
   .rfl
   .exact GN p w xs t r
theorem Wq(fr:List (Nat×AV))(hp:List (Name×Ob))(u:List Nat)(p:Name)(w:W)(xs:List D):(mk fr hp u).cY p w xs=mk (fr.map fun q=>(q.1,q.2.cY p w xs)) (jb hp p) u:=by
 unfold St.cY mk;congr 1
 .funext t;exact GN p w xs t fr
 .funext q;rw[uz,uy];rfl
attribute [go_sem] Wq AV.cY fV
def l4(L:List (Name×W×List D))(x:AV):AV:=L.foldl (fun x q=>x.cY q.1 q.2.1 q.2.2) x
def n4(s:St):List (Name×W×List D)->Prop
 |[]=>True
 |q::r=>s.hp q.1=some (.arr q.2.1 q.2.2)∧n4 (s.cY q.1 q.2.1 q.2.2) r
def pz(P:Program)(rs:List ResultVar)(Q:AV->Prop)(e:Exit)(s:St):Prop :=
 match e with
 |.ret=>RX (jY P s rs) fun l=>∃L,n4 s L∧(l4 L (eK l)).bn []=true∧Q (l4 L (eK l))
 |.normal=>RX (jY P s rs) fun l=>∃L,n4 s L∧(l4 L (eK l)).bn []=true∧Q (l4 L (eK l))
 |_=>False
theorem Wr(rs:List ResultVar)(Q:AV->Prop)(s:St):pz P rs Q .ret s=RX (jY P s rs) fun l=>∃L,n4 s L∧(l4 L (eK l)).bn []=true∧Q (l4 L (eK l)):=rfl
theorem Ws(rs:List ResultVar)(Q:AV->Prop)(s:St):pz P rs Q .normal s=RX (jY P s rs) fun l=>∃L,n4 s L∧(l4 L (eK l)).bn []=true∧Q (l4 L (eK l)):=rfl
theorem Wt{α:Type}(a:α)(φ:α->Prop):RX (.ok a) φ=φ a:=rfl
theorem Wu{α:Type}(p:Prop)(r:R α)(φ:α->Prop):RX (.need p r) φ=(p∧RX r φ):=rfl
attribute [go_sem] Wr Ws Wt Wu
theorem Wv(q:Name×W×List D)(L:List (Name×W×List D))(x:AV):l4 (q::L) x=l4 L (x.cY q.1 q.2.1 q.2.2):=rfl
theorem Ww(x:AV):l4 [] x=x:=rfl
attribute [go_sem] Wv Ww n4
theorem GQ{B:Base}{β:Name->Option aU}{tm:Array Value}{w:World}:∀(L:List (Name×W×List D)) (s:St),aj B β s tm w->n4 s L->∃s',aj B β s' tm w∧∀t,s'.fr t=l4 L (s.fr t)
 |[],s,h,_=>⟨s,h,fun _=>rfl⟩
 |q::L,s,h,hl=>by
   obtain⟨s',h1,h2⟩:=GQ L (s.cY q.1 q.2.1 q.2.2) (h.cY hl.1) hl.2;exact⟨s',h1,fun t=>by rw[h2 t];rfl⟩
theorem GR(x:AV):∀(L:List (Name×W×List D)) (s s2:St),s.hp=s2.hp->n4 s L->n4 s2 L
 |[],_,_,_,_=>trivial
 |q::L,s,s2,e,h=>⟨by rw[<-e];exact h.1,GR x L _ _ (by show aP s.hp _ _=aP s2.hp _ _;rw[e]) h.2⟩
theorem gy {G:List (Nat×Obj)} {f:FuncId} {fn:Func} {c:Code} {args:List D} {Q:AV->Prop} (hf:P.funcs[f]?=some fn) (hb:fn.body=some c) (eI:(fn.name == "runtime.NumGoroutine")=false) (hn:args.length<=fn.ntmps)
  (h:run P ⟨fn.ntmps,none,G,[]⟩ [.code c] (pz P fn.results.toList Q) (mk (dM 0 (args.map .d)) [] [])):HP P G f args Q:=by
 refine⟨ra hf hb eI,fun B β vs w h1 h2 h3 h4 hs=>?_⟩;have bh:vs.size=args.length:=by rw[hs.bE,h1];simp
 have bc:aj { B with n:=fn.ntmps } β (mk (dM 0 (args.map .d)) [] []) (vs++Array.replicate (fn.ntmps-vs.size) undef) w:=by
  refine { hs with bE:=by simp;omega,slots:=fun t=>?_ };have:=hs.slots t;by_cases ht:t<vs.size
  .have e:(vs++Array.replicate (fn.ntmps-vs.size) undef).getD t undef=vs.getD t undef:=by
    simp[ahY,aiN,ht]
   rw[e];exact this
  .have e:(mk (dM 0 (args.map .d)) [] []).fr t=.un:=by
    rw[kV,qc,if_pos (aie _),aiE (by simp;omega)];rfl
   rw[e];exact .un _
 have aK:=eT h { B with n:=fn.ntmps } ⟨rfl,h3,h4⟩ [] β { tmps:=vs++Array.replicate (fn.ntmps-vs.size) undef,defers:=[] } w rfl bc;refine callsIn_of_wp hf hb trivial (wpIn_mono (F:=Fence.wide) aK fun e a' w' hq=>?_);obtain⟨hd,s',β',hq,bm⟩:=hq
 have fin:RX (jY P s' fn.results.toList) (fun l=>∃L,n4 s' L∧(l4 L (eK l)).bn []=true∧Q (l4 L (eK l))) ->
   a'.defers=[]∧∃v,(results fn a'.tmps).run P w'=.ok v w'∧∃v' r ae u' β',Ending.returned v=.returned v'∧(Q r∧r.bn []=true∧ae=[])∧aj { B with n:=1 } β' (mk [(0,r)] ae u') #[v'] w':=by
  intro hx;obtain⟨l,v,⟨L,hL,de,hQ⟩,hr,hv⟩:=Gb bm fn hx
  have Gc:aj { B with n:=1 } β' (oR s' (eK l)) #[v] w':=by
   refine { bE:=rfl,io:=bm.io,size:=bm.size,frame:=bm.frame,slots:=fun t=>?_,aO:=bm.aO,blocks:=bm.blocks,inj:=bm.inj,us:=bm.us,stay:=bm.stay };show VR w'.heap (s'.own B.A β') s'.used s'.hp β' _ (if t=0 then eK l else .un);by_cases ht:t=0
   .subst ht;rw[if_pos rfl];exact hv
   .rw[if_neg ht];exact .un _
  obtain⟨s2,br,lS⟩:=GQ L _ Gc (GR (eK l) L s' _ rfl hL)
  have hle:cF ([]:List Nat) id s2 [(0,l4 L (eK l))] [] []:=by
   refine⟨⟨⟨?_,de⟩,trivial⟩,trivial,trivial,rfl,trivial⟩;rw[AV.lX id (fun _=>rfl),lS 0];rfl
  obtain⟨β2,gQ,_⟩:=br.le (τ:=id) (by show Le B.U0 id _ _;rw[h3];exact hle.le);exact⟨hd,v,hr,v,_,_,_,β2,rfl,⟨hQ,de,rfl⟩,gQ⟩
 cases e with
 |normal=>exact fin hq
 |ret=>exact fin hq
 |exit i=>exact hq.elim
 |goto l=>exact hq.elim
 |panic c=>exact hq.elim
 |outgrown=>exact hq.elim
end
end Go.Ab

namespace Go.Ab
def bT{κ:Type}(ke:κ->D)(ms:List (κ×D)):List (D×D):=ms.map fun q=>(ke q.1,q.2)
theorem Wx{κ:Type}(ke:κ->D):bT ke []=[]:=rfl
section
variable {κ:Type}[DecidableEq κ]
def fP:List (κ×D)->κ->Option D
 |[],_=>none
 |q::r,a=>if q.1=a then some q.2 else fP r a
def gA:List (κ×D)->κ->D->List (κ×D)
 |[],a,d=>[(a,d)]
 |q::r,a,d=>if q.1=a then(a,d)::r else q::gA r a d
def eU:List κ->κ->Option Nat
 |[],_=>none
 |x::r,a=>if x=a then some 0 else(eU r a).map (·+1)
theorem CQ{a:κ}{d:D}:∀{ms:List (κ×D)},eU (ms.map (·.1)) a=none->fP ms a=none∧gA ms a d=ms++[(a,d)]
 |[],_=>⟨rfl,rfl⟩
 |q::r,h=>by
   simp only[aid,eU]at h;split at h
   .cases h
   .rename_i hq;obtain⟨h1,h2⟩:=CQ (d:=d) (Option.map_eq_none_iff.1 h);exact⟨by simp[fP,hq,h1],by simp[gA,hq,h2]⟩
theorem CS{a:κ}{d:D}:∀{ms:List (κ×D)} {i:Nat},eU (ms.map (·.1)) a=some i->∃e,ms[i]?=some (a,e)∧fP ms a=some e∧gA ms a d=ms.set i (a,d)
 |[],_,h=>by cases h
 |q::r,i,h=>by
   simp only[aid,eU]at h;split at h
   .rename_i hq;cases h;exact⟨q.2,by simp[<-hq],by simp[fP,hq],by simp[gA,hq]⟩
   .rename_i hq;obtain⟨j,hj,rfl⟩:=ah4.1 h;obtain⟨e,h1,h2,h3⟩:=CS (d:=d) hj;exact⟨e,by simpa using h1,by simp[fP,hq,h2],by simp[gA,hq,h3]⟩
structure j3(P:Program)(kt:TypeId)(ke:κ->D)(kv:κ->Value):Prop where
 val:∀{H:Array Obj} {own:Nat->Prop} {v:Value} {a:κ},au H own v (ke a)->v=kv a
 rep:∀(H:Array Obj) (own:Nat->Prop) (a:κ),au H own (kv a) (ke a)
 fk:∀(b:Bool) (a:κ) (w:World),(Instr.checkKey b 10000 kt (kv a)).run P w=.ok () w
 same:∀a:κ,Instr.sameBits 10000 (kv a) (kv a)=true
 find:∀(a:κ) (es:List MapEntry) (ks:List κ) (w:World),es.map (·.key)=ks.map kv->(Instr.findKey kt (kv a) es).run P w=.ok ((eU ks a).bind fun i=>(es[i]?).map fun e=>(i,e.val)) w
end
section
variable {P:Program}
theorem Mc{κ:Type}[DecidableEq κ]{kv:κ->Value}{kind:TypeDesc}{a:κ}(hs:∀x,Instr.sameNow kind (kv a) (kv x)=some (decide (x=a))):∀(es:List MapEntry) (ks:List κ) (i:Nat),es.map (·.key)=ks.map kv ->
  Instr.findNow kind (kv a) es i=some ((eU ks a).bind fun j=>(es[j]?).map fun e=>(i+j,e.val))
 |[],ks,i,h=>by
   cases ks with
   |nil=>rfl
   |cons k r=>simp at h
 |e::es,ks,i,h=>by
   cases ks with
   |nil=>simp at h
   |cons k r =>
     simp only[aid,ajc]at h;simp only[Instr.findNow,h.1,hs,eU];by_cases hk:k=a
     .simp[hk]
     .simp only[hk,decide_false,if_false,Mc hs es r (i+1) h.2]
      cases eU r a with
      |none=>rfl
      |some j=>simp[ajn,ak1 1 j]
theorem Md{κ:Type}[DecidableEq κ]{kt:TypeId}{kv:κ->Value}{kind:TypeDesc}(hk:P.underlying kt=some kind)(a:κ)(hs:∀x,Instr.sameNow kind (kv a) (kv x)=some (decide (x=a)))(es:List MapEntry)(ks:List κ)(w:World)(h:es.map (·.key)=ks.map kv) :
  (Instr.findKey kt (kv a) es).run P w=.ok ((eU ks a).bind fun i=>(es[i]?).map fun e=>(i,e.val)) w:=by
 have:=Mc hs es ks 0 h;simp only[aiD]at this;simp only[Instr.findKey,Sem.run_bind,run_underlying hk,Result.andThen_ok,this];rfl
theorem Me{d:TypeDesc}{a b:Value}{p:Prop}[Decidable p](ha:MapKept.IsKey d a)(hb:MapKept.IsKey d b)(h:p↔a=b):Instr.sameNow d a b=some (decide p):=by
 obtain⟨r,hr,hi⟩:=MapKept.sameNow_of_keys ha hb;rw[hr];congr 1;rw[ajF,hi,decide_eq_true_eq,h]
theorem Wy{kt:TypeId}(h:(P.ti kt).k=.str):j3 P kt (fun l:List UInt8=>D.str l) (fun l=>.string ⟨l.toArray⟩) where
 val:=fun h=>by cases h;rfl
 rep:=fun _ _ l=>.str l
 fk:=fun b a w=>MapKept.run_checkKey (p5 h) (by trivial) b 9999
 same:=fun a=>by
  have:Instr.sameBits (9999+1) (.string ⟨a.toArray⟩) (.string ⟨a.toArray⟩)=true:=by simp[Instr.sameBits,MapKept.bytes_beq]
  exact this
 find:=fun a es ks w hk=>Md (p5 h) a (fun x=>Me (by trivial) (by trivial) ⟨fun e=>by rw[e],fun e=>by
  have e1:=congrArg (fun v=>match v with|Value.string b=>b.data.toList|_=>[]) e
  simpa using e1.symm⟩) es ks w hk
theorem Wz{kt:TypeId}{i:IntKind}(h:(P.ti kt).k=.int i):j3 P kt (fun n:Int=>D.int i n) (fun n=>.int i n) where
 val:=fun h=>by cases h;rfl
 rep:=fun _ _ n=>.int i n
 fk:=fun b a w=>MapKept.run_checkKey (k:=.int i a) (ub h) (show i=i from rfl) b 9999
 same:=fun a=>by
  have:Instr.sameBits (9999+1) (.int i a) (.int i a)=true:=by simp[Instr.sameBits]
  exact this
 find:=fun a es ks w hk=>Md (ub h) a (fun x=>Me (d:=.int i) (a:=.int i a) (b:=.int i x) (show i=i from rfl) (show i=i from rfl) ⟨fun e=>by rw[e],fun e=>by cases e;rfl⟩) es ks w hk
end
section
variable {P:Program}{cf:Cf}{Q:Exit->St->Prop}{s:St}{k:List It}
variable {κ:Type}[DecidableEq κ]{ke:κ->D}{kv:κ->Value}
theorem Mf{aS:Array MapEntry}{clock:Nat}(h:si aS clock)(k v:Value):si (aS.push { key:=k,val:=v,born:=clock }) (clock+1):=by
 obtain⟨h1,h2⟩:=h;refine⟨?_,fun e he=>?_⟩
 .rw[Array.toList_push,ail,aiZ];refine⟨h1,by simp,fun a ha b hb=>?_⟩;obtain⟨e,he,rfl⟩:=ah9.1 ha;have:=h2 e he;have hb:b=clock:=by simpa using hb
  omega
 .rw[Array.toList_push]at he;rcases ah1.1 he with he|he
  .have:=h2 e he;omega
  .rw[ahZ.1 he];exact akq _
theorem Mg{aS:Array MapEntry}{clock:Nat}(h:si aS clock)(i:Nat)(f:MapEntry->MapEntry)(hf:∀e,(f e).born=e.born):si (aS.modify i f) clock:=by
 have e:(aS.modify i f).toList.map (·.born)=aS.toList.map (·.born):=by
  refine aiY fun j=>?_;rw[aii,aii,aiI,aiI,ajg];split
  .cases aS[j]? with
   |none=>rfl
   |some x=>simp[hf]
  .rfl
 obtain⟨h1,h2⟩:=h;refine⟨by rw[e];exact h1,fun x hx=>?_⟩;have:x.born∈(aS.modify i f).toList.map (·.born):=List.mem_map_of_mem hx;rw[e]at this;obtain⟨y,hy,yb⟩:=ah9.1 this;rw[<-yb];exact h2 y hy
theorem GU(E:bB P cf Q){t0:Nat}{t:Nat}{ty:TypeId}{pos:String}{af:Array Edge}(ht:t<cf.n)(hu:t∉s.used)(hk:E.run k ((s.add t (.map [])).put t (.mp [t]))) :
  E.aX { dst:=some t,op:=.makeMap t0 none,type:=ty,pos:=pos,after:=af,guard:=none } s k .no:=by
 rw[gx];rw[E.run_eq]at hk;intro B hB ds β a w ak h Q'
 have aK:(execOp a.eval { dst:=some t,op:=.makeMap t0 none,type:=ty,pos:=pos,after:=af,guard:=none }).run P w=.ok (.value (.map (some w.heap.size))) (w.alloc (.map #[] 0)):=by
  simp only[execOp,Instr.makeMap];rfl
 obtain⟨bm,_⟩:=h.alloc hu (.map #[] 0) (.map []) 0 (fun β' hβ _=>⟨_,#[],0,hβ,by show(w.heap.push _)[w.heap.size]?=_;rw[akN],⟨rfl,by simp[si]⟩,fun i x hi=>by simp at hi⟩);refine iZ (by simp) aK (.inl rfl) ⟨ak,_,_,eT hk,bm.put (by rw[hB.1];exact ht) ?_⟩;refine .mp _ _ ⟨t,[],rfl,ah0⟩ rfl (fun es _=>⟨⟨w.heap.size,0,0⟩,by simp[aP],rfl⟩)
theorem GV{kt:TypeId}(K:j3 P kt ke kv){H:Array Obj}{own:Nat->Prop}{ms:List (κ×D)}{aS:Array MapEntry}(bh:aS.size=(bT ke ms).length)
  (h:∀(i:Nat) (x:D×D),(bT ke ms)[i]?=some x->∃en:MapEntry,aS[i]?=some en∧au H own en.key x.1∧au H own en.val x.2):aS.toList.map (·.key)=(ms.map (·.1)).map kv:=by
 have hl:aS.size=ms.length:=by simpa[bT]using bh
 apply ai0 (by simp[hl]);intro i h1 h2;have hi:i<ms.length:=by simpa using h2
 obtain⟨en,he,hk,_⟩:=h i (ke ms[i].1,ms[i].2) (by simp[bT,hi]);have bJ:i<aS.size:=by omega
 simp[bJ]at he;simp[he,K.val hk]
def GX:Value->Option D
 |.agg cs=>(cs.toList.mapM zd).map .agg
 |v=>zd v
def qf(P:Program)(t:TypeId):Option D:=(P.info? t).bind fun i=>i.zero.bind GX
theorem CT{t:TypeId}{z:D}(h:qf P t=some z):∃v,(∀w,(zeroValue t).run P w=.ok v w)∧∀(H:Array Obj) (own:Nat->Prop),au H own v z:=by
 obtain⟨i,hi,h⟩:=ajj.1 h;obtain⟨v,hv,h⟩:=ajj.1 h;refine⟨v,fun w=>?_,fun H own=>?_⟩
 .simp[zeroValue,typeInfo,hi,hv]
 .cases v with
  |agg cs =>
    simp only[GX,ah4]at h;obtain⟨ds,hd,rfl⟩:=h;obtain⟨h1,h2,_,h4⟩:=uc (H:=H) (own:=own) hd;refine .agg cs ds (by simpa using h1.symm) h2 (fun i d hi=>?_);obtain⟨u,hu,hr⟩:=h4 i d hi;have ui:cs[i]?=some u:=by simpa using hu
    have:cs.getD i undef=u:=by simp[ahY,ui]
    rw[this];exact hr
  |_=>simp only[GX]at h;exact(KG (H:=H) (own:=own) h).1
def vW(z:D)(co:Bool)(r:Option D):AV:=if co then .aA [.d (r.getD z),.d (.bool r.isSome)]else .d (r.getD z)
theorem WA{xt kt et:Nat}{x y:Operand}{co:Bool}{dst:Option Nat}{ty:TypeId}{pos:String}{af:Array Edge}{gg:Option (Nat×Bool)}(p:Name)(ms:List (κ×D))(key:κ)(z:D)(hm:(P.ti xt).k=.map kt et)(K:j3 P kt ke kv)(hz:qf P et=some z)
  (hx:ev s x=.mp p) (hp:s.hp p=some (.map (bT ke ms))) (hy:ev s y=.d (ke key)) (dD:∀t∈dst,t<cf.n) (hk:run P cf k Q (s.jt dst (vW z co (fP ms key)))) :
  fS P cf { dst:=dst,op:=.lookup xt x y co,type:=ty,pos:=pos,after:=af,guard:=gg } s k Q:=by
 intro B hB ds β a w ak h Q';have hv:=h.ev x;rw[hx]at hv;have jN:=h.ev y;rw[hy]at jN;have jN:=K.val jN.cU;generalize hval:a.eval x=v at hv
 cases hv with
 |mp _ _ hn ho g =>
 obtain⟨b,hb,rfl⟩:=g _ hp;obtain⟨b2,aS,clock,mY,hh,⟨bh,sH⟩,gR⟩:=(h.aO p _ hp).2;obtain rfl:=ais (hb.symm.trans mY);obtain⟨zv,yd,qg⟩:=CT hz;have qg:=qg w.heap (s.own B.A β);have gS:=GV K bh gR;have hf:=K.find key aS.toList _ w gS
 have key1:∃r,VR w.heap (s.own B.A β) s.used s.hp β r (vW z co (fP ms key))∧(execOp a.eval { dst:=dst,op:=.lookup xt x y co,type:=ty,pos:=pos,after:=af,guard:=gg }).run P w=.ok (.value r) w:=by
  cases hi:eU (ms.map (·.1)) key with
  |none =>
    obtain⟨h1,_⟩:=CQ (d:=z) hi;rw[hi]at hf;refine⟨if co then .tuple #[zv,.bool false]else zv,?_,?_⟩
    .rw[h1];cases co
     .exact .d _ _ qg
     .refine .aA _ _ rfl fun i y hi=>?_
      match i,hi with
      |0,hi=>obtain rfl:=ais hi;exact .d _ _ qg
      |1,hi=>obtain rfl:=ais hi;exact .d _ _ (.bool _)
    .simp only[execOp,hval,jN,Instr.lookup,Sem.run_bind,run_underlying (p6 hm),Result.andThen_ok,MapKept.run_getObj_map hh,K.fk,Sem.run_pure];rw[hf];simp[yd]
  |some i =>
    obtain⟨e,h0,h1,_⟩:=CS (d:=z) hi;rw[hi]at hf;obtain⟨en,he,_,cD⟩:=gR i (ke key,e) (by simp[bT,h0]);have iK:aS.toList[i]?=some en:=by simpa using he
    refine⟨if co then .tuple #[en.val,.bool true]else en.val,?_,?_⟩
    .rw[h1];cases co
     .exact .d _ _ cD
     .refine .aA _ _ rfl fun i y hi=>?_
      match i,hi with
      |0,hi=>obtain rfl:=ais hi;exact .d _ _ cD
      |1,hi=>obtain rfl:=ais hi;exact .d _ _ (.bool _)
    .simp only[execOp,hval,jN,Instr.lookup,Sem.run_bind,run_underlying (p6 hm),Result.andThen_ok,MapKept.run_getObj_map hh,K.fk,Sem.run_pure];rw[hf];simp[he]
 obtain⟨r,sF,xV⟩:=key1;refine iZ (by simp) xV (.inl rfl) ⟨by cases dst<;>exact ak,_,β,eT hk,?_⟩
 cases dst with
 |none=>exact h
 |some t=>exact h.put (by rw[hB.1];exact dD t rfl) sF
theorem GY(E:bB P cf Q){xt kt et:Nat}{x y:Operand}{co:Bool}{dst:Option Nat}{ty:TypeId}{pos:String}{af:Array Edge}(p:Name)(ms:List (κ×D))(key:κ)(z:D)(hm:(P.ti xt).k=.map kt et)(K:j3 P kt ke kv)(hz:qf P et=some z)
  (hx:ev s x=.mp p) (hp:s.hp p=some (.map (bT ke ms))) (hy:ev s y=.d (ke key)) (dD:∀t∈dst,t<cf.n) (hk:E.run k (s.jt dst (vW z co (fP ms key)))) :
  E.aX { dst:=dst,op:=.lookup xt x y co,type:=ty,pos:=pos,after:=af,guard:=none } s k .no:=by
 rw[gx];rw[E.run_eq]at hk;exact WA p ms key z hm K hz hx hp hy dD hk
theorem GZ(E:bB P cf Q){xt kt et:Nat}{x y z:Operand}{dst:Option Nat}{ty:TypeId}{pos:String}{af:Array Edge}(p:Name)(ms:List (κ×D))(key:κ)(d:D)(hm:(P.ti xt).k=.map kt et)(K:j3 P kt ke kv)
  (hx:ev s x=.mp p) (hp:s.hp p=some (.map (bT ke ms))) (hy:ev s y=.d (ke key)) (hd:ev s z=.d d) (dD:dst=none) (hk:E.run k (s.set p (some (.map (bT ke (gA ms key d)))))) :
  E.aX { dst:=dst,op:=.mapUpdate xt x y z,type:=ty,pos:=pos,after:=af,guard:=none } s k .no:=by
 subst dD;rw[gx];rw[E.run_eq]at hk;intro B hB ds β a w ak h Q';have hv:=h.ev x;rw[hx]at hv;have jN:=h.ev y;rw[hy]at jN;have jN:=K.val jN.cU;have qh:=h.ev z;rw[hd]at qh;have qh:=qh.cU;generalize hval:a.eval x=v at hv
 cases hv with
 |mp _ _ hn ho g =>
 obtain⟨b,hb,rfl⟩:=g _ hp;obtain⟨b2,aS,clock,mY,hh,⟨bh,sH⟩,gR⟩:=(h.aO p _ hp).2;obtain rfl:=ais (hb.symm.trans mY);have hlt:=dK hh;have gS:=GV K bh gR;have hf:=K.find key aS.toList _ w gS;have hl:aS.size=ms.length:=by simpa[bT]using bh
 have key1:∃vX Am,(execOp a.eval { dst:=none,op:=.mapUpdate xt x y z,type:=ty,pos:=pos,after:=af,guard:=none }).run P w=.ok .skip { w with heap:=w.heap.setIfInBounds b.b (.map vX Am) } ∧
   (vX.size=(bT ke (gA ms key d)).length∧si vX Am)∧∀(H:Array Obj) (own:Nat->Prop),(∀v d,au w.heap (s.own B.A β) v d->au H own v d)->∀(i:Nat) (x:D×D),(bT ke (gA ms key d))[i]?=some x->∃en:MapEntry,vX[i]?=some en∧au H own en.key x.1∧au H own en.val x.2:=by
  cases hi:eU (ms.map (·.1)) key with
  |none =>
    obtain⟨_,h2⟩:=CQ (d:=d) hi;rw[hi]at hf;refine⟨aS.push { key:=kv key,val:=a.eval z,born:=clock },clock+1,?_,?_,?_⟩
    .simp only[execOp,hval,jN,Instr.mapUpdate,Sem.run_bind,run_underlying (p6 hm),Result.andThen_ok,MapKept.run_getObj_map hh,K.fk,Sem.run_pure];rw[hf];simp[setObj,Sem.run,hh]
    .rw[h2];exact⟨by simp[bT,hl],Mf sH _ _⟩
    .intro H own hr i x ao;rw[h2]at ao;by_cases ye:i<ms.length
     .have:(bT ke ms)[i]?=some x:=by
       rw[<-ao];simp[bT,aih,ye]
      obtain⟨en,h3,h4,h5⟩:=gR i x this;exact⟨en,by rw[akc,if_neg (by omega)];exact h3,hr _ _ h4,hr _ _ h5⟩
     .have bJ:i=ms.length:=by
       have:=(ah3.1 ao).1;simp[bT]at this;omega
      subst bJ
      have:x=(ke key,d):=by
       simp[bT]at ao;exact ao.symm
      subst this;exact⟨_,by rw[akc,if_pos hl.symm],K.rep _ _ _,hr _ _ qh⟩
  |some i =>
    obtain⟨e,h0,_,h2⟩:=CS (d:=d) hi;rw[hi]at hf;obtain⟨en,he,ri,cD⟩:=gR i (ke key,e) (by simp[bT,h0]);have mB:=K.val ri;have iK:aS.toList[i]?=some en:=by simpa using he
    refine⟨aS.modify i fun e=>{ e with key:=kv key,val:=a.eval z },clock,?_,?_,?_⟩
    .simp only[execOp,hval,jN,Instr.mapUpdate,Sem.run_bind,run_underlying (p6 hm),Result.andThen_ok,MapKept.run_getObj_map hh,K.fk,Sem.run_pure];rw[hf];simp[setObj,Sem.run,Instr.keyThatStays,he,mB,K.same,hh]
    .rw[h2];exact⟨by simp[bT,hl],Mg sH _ _ fun _=>rfl⟩
    .intro H own hr j x hj;rw[h2]at hj
     have fU:j<ms.length:=by
      have:=(ah3.1 hj).1;simpa[bT]using this
     by_cases dW:i=j
     .subst dW
      have:x=(ke key,d):=by
       simp[bT,fU]at hj;exact hj.symm
      subst this;exact⟨_,by rw[ajg,if_pos rfl,he];rfl,K.rep _ _ _,hr _ _ qh⟩
     .have:(bT ke ms)[j]?=some x:=by
       rw[<-hj];simp[bT,aiy dW]
      obtain⟨Ao,h3,h4,h5⟩:=gR j x this;exact⟨Ao,by rw[ajg,if_neg dW];exact h3,hr _ _ h4,hr _ _ h5⟩
 obtain⟨vX,Am,aK,WB,WC⟩:=key1
 obtain⟨bm,_⟩:=h.modify (p:=p) (ob':=.map (bT ke (gA ms key d))) hp trivial (w':={ w with heap:=w.heap.setIfInBounds b.b (.map vX Am) }) rfl (by simp)
  (fun b' fg=>by
   have:=fg b hb
   simp[Ne.symm this]) (fun _ hr=>⟨b,vX,Am,hb,by simp[hlt],WB,WC _ _ hr⟩)
 exact iZ (by simp) aK (.inr ⟨rfl,rfl⟩) ⟨ak,_,_,eT hk,bm⟩
end
attribute [go_sem] vW Wx
end Go.Ab
namespace Go.Ab
inductive TS where
 |int (k:IntKind)
 |bool
 |str
 |sl (w:W) (es:List TS)
mutual
def TS.ok:TS->D->Prop
 |.int k,.int k' n=>k'=k∧k.min<=n∧n<=k.max
 |.bool,.bool _=>True
 |.str,.str l=>l.length<=maxLen
 |.sl _ _,.ai=>True
 |.sl w es,.sl w' xs=>w'=w∧xs.length<=maxLen∧∀x∈xs,okW w x∧j4 es x.cells
 |_,_=>False
def j4:List TS->List D->Prop
 |[],[]=>True
 |t::ts,d::ds=>t.ok d∧j4 ts ds
 |_,_=>False
end
theorem CU:∀{ts:List TS} {ds:List D},j4 ts ds->ds.length=ts.length
 |[],[],_=>rfl
 |_::_,_::_,h=>by simp[CU h.2]
 |[],_::_,h=>h.elim
 |_::_,[],h=>h.elim
theorem Mh:∀{ts:List TS} {ds:List D} {G1:List TS} {gm:List D},j4 ts ds->j4 G1 gm->j4 (ts++G1) (ds++gm)
 |[],[],_,_,_,h=>h
 |_::_,_::_,_,_,h,h'=>⟨h.1,Mh h.2 h'⟩
 |[],_::_,_,_,h,_=>h.elim
 |_::_,[],_,_,h,_=>h.elim
mutual
def shp(P:Program):Nat->TypeId->Option (List TS)
 |0,_=>none
 |n+1,t =>
   match(P.ti t).k with
   |.int k=>some [.int k]
   |.bool=>some [.bool]
   |.str=>some [.str]
   |.slice e=>(shp P n e).bind fun es=>if es.length=P.cellsOf e∧wd (P.ti e).w=es.length∧0<es.length then some [.sl (P.ti e).w es]else none
   |.struct fs=>(Ap P n fs 0).bind fun ts=>if ts.length=P.cellsOf t then some ts else none
   |_=>none
def Ap(P:Program):Nat->List (Nat×Nat)->Nat->Option (List TS)
 |0,_,_=>none
 |_+1,[],_=>some []
 |n+1,f::r,off =>
   if f.1=off then(shp P n f.2).bind fun ts=>if ts.length=P.cellsOf f.2 then(Ap P n r (off+ts.length)).map (ts++·)else none else none
end
theorem WD{α:Type}{n:Nat}{p:Nat->α->Prop}(h:∀i,i<n->∃a,p i a):∃xs:List α,xs.length=n∧∀i a,xs[i]?=some a->p i a:=by
 induction n with
 |zero=>exact⟨[],rfl,fun i a h=>by simp at h⟩
 |succ n ih =>
   obtain⟨xs,h1,h2⟩:=ih fun i hi=>h i (by omega);obtain⟨a,ha⟩:=h n (by omega);refine⟨xs++[a],by simp[h1],fun i b hb=>?_⟩;by_cases hi:i<xs.length
   .rw[aih hi]at hb;exact h2 i b hb
   .rw[aim (by omega)]at hb
    have q6:i-xs.length=0:=by
     have:=(ah3.1 hb).1;simp at this;omega
    rw[q6]at hb;have hb:a=b:=by simpa using hb
    subst hb;rw[show i=n by omega];exact ha
section
variable {H:Type}{enc:TypeId×Value->H}{P:Program}{w:World}{spare:Nat->Bool}{held:Bool}
def CD(w:World)(cs:List Value)(ds:List D):Prop:=(∀d∈ds,d.ct=true)∧∀(i:Nat) d,ds[i]?=some d->au w.heap (fun _=>False) (cs.getD i undef) d
theorem CD.one{v:Value}{d:D}(hd:d.ct=true)(h:au w.heap (fun _=>False) v d):CD w [v] [d]:=by
 refine⟨by simpa using hd,fun i d' hi=>?_⟩
 match i,hi with
 |0,hi=>obtain rfl:=ais hi;exact h
theorem G2{a:Addr}{n:Nat}{cs:List Value}(h:w.cells? 0 a n=some cs):cs.length=n∧∀i,i<n->∃v,cs[i]?=some v∧w.cell? (a.add i)=some v:=by
 unfold World.cells? at h;rw[if_pos (aie _)]at h;have hl:cs.length=n:=by simpa using mapM_some_length h
 refine⟨hl,fun i hi=>?_⟩;have:=mapM_some_get h i i (by simp[hi]);exact⟨cs[i]'(by omega),by simp[hl,hi],by rw[this];simp[hl,hi]⟩
theorem WE{a:Addr}{cap:Nat}{wf:W}{c:Nat}{xs:List D}(hc:wd wf=c)(mV:0<c)(fL:xs.length<=cap)(hw:∀x∈xs,okW wf x)
  (h:∀i,i<xs.length->∃cs,w.cells? 0 (a.add (i*c)) c=some cs∧∀x,xs[i]?=some x->∀(j:Nat) d,x.cells[j]?=some d->au w.heap (fun _=>False) (cs.getD j undef) d) :
  au w.heap (fun _=>False) (.slice (some a) xs.length cap) (.sl wf xs):=by
 by_cases h0:xs.length=0
 .have:xs=[]:=ajk.1 h0;subst this;exact .lL _ _ _
 obtain⟨cs0,WG,_⟩:=h 0 (by omega);obtain⟨_,Mi⟩:=G2 WG;obtain⟨v0,_,rj⟩:=Mi 0 mV;have e0:(a.add (0*c)).add 0=a:=by simp[Addr.add]
 rw[e0]at rj;obtain⟨b,o,spot⟩:=a;unfold World.cell? at rj
 cases hh:w.heap[b]? with
 |none=>rw[hh]at rj;cases rj
 |some ob =>
   rw[hh]at rj
   cases ob with
   |cells cc e fz =>
     simp only at rj
     cases spot with
     |some _=>simp at rj
     |none =>
       have hcell:∀i v,w.cell? ⟨b,i,none⟩=some v->cc[i]?=some v:=by
        intro i v hi;simpa[World.cell?,hh]using hi
       refine .sl b o cap cc e fz wf xs hh (fun h=>h) fL ?_ hw (fun i x j d hi hj=>?_)
       .rw[hc];obtain⟨cs,hcs,_⟩:=h (xs.length-1) (by omega);obtain⟨_,hg⟩:=G2 hcs;obtain⟨v,_,hv⟩:=hg (c-1) (by omega);rw[lQ,lQ]at hv;have:=(ajH.1 (hcell _ _ hv)).1
        have e1:(xs.length-1)*c+c=xs.length*c:=by
         rw[<-ai2];congr 1;omega
        omega
       .have bR:i<xs.length:=(ah3.1 hi).1;obtain⟨cs,hcs,cD⟩:=h i bR;obtain⟨hlen,hg⟩:=G2 hcs
        have fU:j<c:=by
         have h1:=gN (hw x (aiz hi));have h2:=(ah3.1 hj).1;omega
        obtain⟨v,CV,hv⟩:=hg j fU;rw[lQ,lQ]at hv;have h3:=hcell _ _ hv;have h4:=cD x hi j d hj;have e1:cs.getD j undef=v:=by simp[ahX,CV]
        have e2:cc.getD (o+i*wd wf+j) undef=v:=by rw[hc];simp[ahY,h3]
        rw[e2,<-e1];exact h4
   |_=>simp at rj
theorem WH:∀m:Nat,
  (∀n' t cs x ts,shp P m t=some ts->DataW.trod enc P w 0 spare held n' t cs=some x->∃ds,j4 ts ds∧cs.length=ds.length∧CD w cs ds) ∧
  (∀n' (cs:List Value) r off ts,Ap P m r off=some ts->(∀f∈r,∃x,DataW.trod enc P w 0 spare held n' f.2 ((cs.drop f.1).take (P.cellsOf f.2))=some x) ->
   ∃ds,j4 ts ds∧(∀d∈ds,d.ct=true)∧∀(i:Nat) d,ds[i]?=some d->au w.heap (fun _=>False) (cs.getD (off+i) undef) d):=by
 intro m
 induction m with
 |zero=>exact⟨fun n' t cs x ts h=>by simp[shp]at h,fun n' cs r off ts h=>by simp[Ap]at h⟩
 |succ m ih =>
   obtain⟨Mj,Mk⟩:=ih;refine⟨fun n' t cs x ts h hx=>?_,fun n' cs r off ts h hx=>?_⟩
   .unfold shp at h;split at h
    .rename_i k hk;cases h;obtain⟨n,rfl,_,jq⟩:=DataW.trod_int (ub hk) hx;simp only[Lit.wf,aia,decide_eq_true_eq]at jq;exact⟨[.int k n],⟨⟨rfl,jq⟩,trivial⟩,rfl,CD.one rfl (.int k n)⟩
    .rename_i hk;cases h;have hu:P.underlying t=some .bool:=FW (by rw[hk];rfl);obtain⟨b,rfl,_⟩:=DataW.trod_bool hu hx;exact⟨[.bool b],⟨trivial,trivial⟩,rfl,CD.one rfl (.bool b)⟩
    .rename_i hk;cases h;obtain⟨s,rfl,_,hs⟩:=DataW.trod_string (p5 hk) hx;obtain⟨l,rfl⟩:∃l:List UInt8,s=⟨l.toArray⟩:=⟨s.data.toList,by simp⟩
     refine⟨[.str l],⟨?_,trivial⟩,rfl,CD.one rfl (.str l)⟩;simpa[ByteArray.size,TS.ok]using hs
    .rename_i e hk;obtain⟨es,G3,h⟩:=ajj.1 h;split at h
     .rename_i hc;cases h;obtain⟨p9,kY,hc3⟩:=hc;rcases DataW.trod_slice (kW hk) hx with⟨rfl,_⟩|⟨a,len,cap,elems,rest,n,_,rfl,_,_,hlen,fL,Ml,eS,_,_⟩
      .exact⟨[.ai],⟨trivial,trivial⟩,rfl,CD.one rfl .ai⟩
      have each:∀i,i<len->∃x:D,(okW (P.ti e).w x∧j4 es x.cells)∧∃cs,w.cells? 0 (a.add (i*P.cellsOf e)) (P.cellsOf e)=some cs∧∀(j:Nat) d,x.cells[j]?=some d->au w.heap (fun _=>False) (cs.getD j undef) d:=by
       intro i hi;have h1:=eS i hi;have ao:i<elems.length:=by omega
       rw[aib ao,ajj]at h1;obtain⟨ci,Mm,WI⟩:=h1;obtain⟨di,aF,hdl,ez,cD⟩:=Mj n e ci _ es G3 WI;have Aq:=CU aF
       cases hw:(P.ti e).w with
       |none =>
         rw[hw]at kY
         match di,Aq,ez,cD,aF with
         |[d],_,ez,cD,aF =>
           have hs:d.ct=true:=ez d (by simp);have rk:d.cells=[d]:=by cases d<;>simp_all [D.ct,D.cells]
           exact⟨d,⟨hs,by rw[rk];exact aF⟩,ci,Mm,by rw[rk];exact cD⟩
         |[],Aq,_,_,_=>simp[wd]at kY;simp at Aq;omega
         |_::_::_,Aq,_,_,_=>simp[wd]at kY;simp at Aq;omega
       |some nn =>
         rw[hw]at kY;have kY:nn=es.length:=kY;exact⟨.agg di,⟨⟨by omega,ez⟩,aF⟩,ci,Mm,cD⟩
      obtain⟨xs,oW,qi⟩:=WD each
      have hr:=WE (w:=w) (a:=a) (cap:=cap) (wf:=(P.ti e).w) (c:=P.cellsOf e) (xs:=xs) (by omega) (by omega) (by omega)
       (fun x aV=>by obtain⟨i,hi⟩:=ajq.1 aV;exact(qi i x hi).1.1)
       (fun i hi=>by
        obtain⟨_,cs,h2,h3⟩:=qi i xs[i] (by simp[hi])
        exact⟨cs,h2,fun x aV j d hj=>by
         have aV:xs[i]=x:=by simpa[hi]using aV
         subst aV
         exact h3 j d hj⟩)
      rw[oW]at hr;refine⟨[.sl (P.ti e).w xs],⟨⟨rfl,by omega,fun x aV=>?_⟩,trivial⟩,rfl,CD.one rfl hr⟩;obtain⟨i,hi⟩:=ajq.1 aV;exact(qi i x hi).1
     .cases h
    .rename_i fs hk;obtain⟨G1,Mn,h⟩:=ajj.1 h;split at h
     .rename_i hc;cases h;obtain⟨fl,hu,rfl⟩:=zC hk;obtain⟨xs,n,_,_,ju,_,hf⟩:=DataW.trod_struct hu hx
      obtain⟨ds,h1,h2,h3⟩:=Mk n cs _ 0 ts Mn (fun f oa=>by
       obtain⟨f0,WJ,rfl⟩:=ah9.1 oa;obtain⟨i,hi⟩:=ajq.1 WJ;have ao:fl[i]?=some f0:=by simpa using hi
       have:=hf i f0 ao
       have hlt:i<xs.length:=by
        have:=(ajH.1 ao).1;omega
       exact⟨xs[i],by rw[this];simp[hlt]⟩)
      have hl:=CU h1;exact⟨ds,h1,by omega,h2,fun i d hi=>by have:=h3 i d hi;rwa [aiD]at this⟩
     .cases h
    .cases h
   .unfold Ap at h
    cases r with
    |nil =>
      cases h;exact⟨[],trivial,by simp,fun i d hi=>by simp at hi⟩
    |cons f r =>
      simp only at h;split at h
      .rename_i WK;obtain⟨Mp,h1,h⟩:=ajj.1 h;split at h
       .rename_i hc;obtain⟨WL,h2,rfl⟩:=ah4.1 h;obtain⟨x,gB⟩:=hx f ah0;obtain⟨d1,g1,g2,g3,g4⟩:=Mj n' f.2 _ x Mp h1 gB;obtain⟨d2,k1,k2,k3⟩:=Mk n' cs r _ WL h2 fun q hq=>hx q (ah8 _ hq);have oc:=CU g1;refine⟨d1++d2,Mh g1 k1,fun d hd=>?_,fun i d hi=>?_⟩
        .rcases ah1.1 hd with hd|hd
         .exact g3 d hd
         .exact k2 d hd
        .by_cases hlt:i<d1.length
         .rw[aih hlt]at hi;have:=g4 i d hi
          have e:((cs.drop f.1).take (P.cellsOf f.2)).getD i undef=cs.getD (off+i) undef:=by
           rw[ahX,ahX,ai4,if_pos (by omega),aiU,WK]
          rw[e]at this;exact this
         .rw[aim (by omega)]at hi;have:=k3 _ d hi;rw[show off+Mp.length+(i-d1.length)=off+i by omega]at this;exact this
       .cases h
      .cases h
theorem reads{m:Nat}{t:TypeId}{v:Value}{dw:DataW H}{ps:List MemPlace}{ts:List TS}(hs:shp P m t=some ts)(h:DataW.Trod enc P w 0 spare held t v dw ps):∃ds,j4 ts ds∧v.cells.size=ds.length∧CD w v.cells.toList ds:=by
 obtain⟨n,hn⟩:=h;obtain⟨ds,h1,h2,h3⟩:=(WH m).1 n t _ _ ts hs hn;exact⟨ds,h1,by simpa using h2,h3⟩
theorem Mq{m:Nat}{t:TypeId}{vs:Array Value}{dw:DataW H}{ps:List MemPlace}{ts:List TS}(hs:shp P m t=some ts)(h:DataW.Trod enc P w 0 spare held t (.agg vs) dw ps):∃ds,j4 ts ds∧au w.heap (fun _=>False) (.agg vs) (.agg ds):=by
 obtain⟨ds,h1,h2,h3,h4⟩:=reads hs h;refine⟨ds,h1,.agg vs ds h2 h3 fun i d hi=>?_⟩;have:=h4 i d hi;simpa[Value.cells,ahY,ahX]using this
end
end Go.Ab

namespace Go.Proofs.YtpmniabdmbmafaaGreatDoor
open Go.Ab Tryz
theorem Ar:prog.ti 3={ k:=.int .i64,sz:=1,by':=8,z:=some [.int .i64 0] }:=by kernel_rfl
theorem WM:prog.ti 4={ k:=.bool,sz:=1,by':=1,z:=some [.bool false] }:=by kernel_rfl
theorem qj:prog.ti 5={ k:=.int .u8,sz:=1,by':=1,z:=some [.int .u8 0] }:=by kernel_rfl
theorem CX:prog.ti 9={ k:=.str,sz:=1,by':=16,z:=some [.str []] }:=by kernel_rfl
theorem WN:prog.ti 22={ k:=.slice 45,sz:=1,by':=24,z:=some [.ai] }:=by kernel_rfl
theorem WO:prog.ti 24={ k:=.struct [(0,22),(1,3)],sz:=2,by':=32,z:=some [.ai,.int .i64 0] }:=by kernel_rfl
theorem WQ:prog.ti 27={ k:=.slice 51,sz:=1,by':=24,z:=some [.ai] }:=by kernel_rfl
theorem WR:prog.ti 29={ k:=.struct [(0,27),(1,3)],sz:=2,by':=32,z:=some [.ai,.int .i64 0] }:=by kernel_rfl
theorem WS:prog.ti 36={ k:=.slice 74,sz:=1,by':=24,z:=some [.ai] }:=by kernel_rfl
theorem WT:prog.ti 38={ k:=.struct [(0,36),(1,3)],sz:=2,by':=32,z:=some [.ai,.int .i64 0] }:=by kernel_rfl
theorem WU:prog.ti 43={ k:=.slice 98,sz:=1,by':=24,z:=some [.ai] }:=by kernel_rfl
theorem WV:prog.ti 45={ k:=.struct [(0,3),(1,3),(2,3),(3,43)],sz:=4,by':=48,z:=some [.int .i64 0,.int .i64 0,.int .i64 0,.ai] }:=by kernel_rfl
theorem kF:prog.ti 48={ k:=.slice 3,sz:=1,by':=24,z:=some [.ai] }:=by kernel_rfl
theorem WW:prog.ti 49={ k:=.slice 78,sz:=1,by':=24,z:=some [.ai] }:=by kernel_rfl
theorem WX:prog.ti 51={ k:=.struct [(0,4),(1,4),(2,4),(3,4),(4,4),(5,4),(6,4),(7,4),(8,48),(9,3),(10,3),(11,49),(12,49)],sz:=13,by':=96,z:=some [.bool false,.bool false,.bool false,.bool false,.bool false,.bool false,.bool false,.bool false,.ai,.int .i64 0,.int .i64 0,.ai,.ai] }:=by kernel_rfl
theorem WY:prog.ti 53={ k:=.ptr 57,sz:=1,by':=8,z:=some [.aY] }:=by kernel_rfl
theorem G4:prog.ti 54={ k:=.map 9 3,sz:=1,by':=8,z:=some [.jT] }:=by kernel_rfl
theorem WZ:prog.ti 55={ k:=.slice 60,sz:=1,by':=24,z:=some [.ai] }:=by kernel_rfl
theorem W5:prog.ti 57={ k:=.struct [(0,24),(2,54),(3,55),(4,4)],sz:=5,by':=72,z:=some [.ai,.int .i64 0,.jT,.ai,.bool false] }:=by kernel_rfl
theorem W6:prog.ti 60={ k:=.struct [(0,4),(1,4),(2,48)],sz:=3,by':=32,z:=some [.bool false,.bool false,.ai] }:=by kernel_rfl
theorem W7:prog.ti 69={ k:=.struct [(0,48),(1,48)],sz:=2,by':=48,z:=some [.ai,.ai] }:=by kernel_rfl
theorem W8:prog.ti 70={ k:=.slice 69,sz:=1,by':=24,z:=some [.ai] }:=by kernel_rfl
theorem W9:prog.ti 72={ k:=.slice 79,sz:=1,by':=24,z:=some [.ai] }:=by kernel_rfl
theorem Xa:prog.ti 74={ k:=.struct [(0,4),(1,4),(2,4),(3,4),(4,4),(5,4),(6,4),(7,4),(8,48),(9,3),(10,3),(11,72),(12,72)],sz:=13,by':=96,z:=some [.bool false,.bool false,.bool false,.bool false,.bool false,.bool false,.bool false,.bool false,.ai,.int .i64 0,.int .i64 0,.ai,.ai] }:=by kernel_rfl
theorem Xb:prog.ti 78={ k:=.struct [(0,9),(1,3)],sz:=2,by':=24,z:=some [.str [],.int .i64 0] }:=by kernel_rfl
theorem Xc:prog.ti 79={ k:=.struct [(0,9),(1,3)],sz:=2,by':=24,z:=some [.str [],.int .i64 0] }:=by kernel_rfl
theorem Xd:prog.ti 98={ k:=.struct [(0,9),(1,3)],sz:=2,by':=24,z:=some [.str [],.int .i64 0] }:=by kernel_rfl
theorem G5:prog.ti 99={ k:=.slice 100,sz:=1,by':=24,z:=some [.ai] }:=by kernel_rfl
theorem oX:prog.ti 100={ k:=.slice 48,sz:=1,by':=24,z:=some [.ai] }:=by kernel_rfl
theorem Xe:prog.ti 102={ k:=.struct [(0,24),(2,3),(3,70),(4,100),(5,99),(6,99),(7,4),(8,4)],sz:=9,by':=144,z:=some [.ai,.int .i64 0,.int .i64 0,.ai,.ai,.ai,.ai,.bool false,.bool false] }:=by kernel_rfl
theorem G6:prog.ti 111={ k:=.map 3 4,sz:=1,by':=8,z:=some [.jT] }:=by kernel_rfl
theorem Xf:prog.ti 115={ k:=.slice 118,sz:=1,by':=24,z:=some [.ai] }:=by kernel_rfl
theorem Mr:prog.ti 118={ k:=.struct [(0,3),(1,3)],sz:=2,by':=16,z:=some [.int .i64 0,.int .i64 0] }:=by kernel_rfl
theorem Xg:prog.ti 120={ k:=.slice 9,sz:=1,by':=24,z:=some [.ai] }:=by kernel_rfl
theorem Xh:prog.ti 123={ k:=.func,sz:=1,by':=8,z:=some [.lJ] }:=by kernel_rfl
theorem Xi:prog.ti 125={ k:=.func,sz:=1,by':=8,z:=some [.lJ] }:=by kernel_rfl
theorem uK:prog.ti 126={ k:=.map 9 48,sz:=1,by':=8,z:=some [.jT] }:=by kernel_rfl
theorem Xj:prog.ti 134={ k:=.slice 4,sz:=1,by':=24,z:=some [.ai] }:=by kernel_rfl
theorem G7:prog.ti 161={ k:=.map 118 4,sz:=1,by':=8,z:=some [.jT] }:=by kernel_rfl
theorem qk:prog.ti 164={ k:=.ptr 167,sz:=1,by':=8,z:=some [.aY] }:=by kernel_rfl
theorem vY:prog.ti 165={ k:=.slice 5,sz:=1,by':=24,z:=some [.ai] }:=by kernel_rfl
theorem Xk:prog.ti 167={ k:=.struct [(0,164),(1,165)],sz:=2,by':=32,z:=some [.aY,.ai] }:=by kernel_rfl
end Go.Proofs.YtpmniabdmbmafaaGreatDoor

namespace Go.Proofs.YtpmniabdmbmafaaGreatDoor
open Go.Ab Tryz
attribute [go_sem] Ar WM qj CX WN WO WQ WR WS WT WU WV kF WW WX WY G4 WZ W5 W6 W7 W8 W9 Xa Xb Xc Xd G5 oX Xe G6 Xf Mr Xg Xh Xi uK Xj G7 qk vY Xk
attribute [go_sem] ntmps3 results3 ntmps5 results5 ntmps6 results6 ntmps7 results7 ntmps8 results8 ntmps9 results9 ntmps10 results10 ntmps11 results11 ntmps15 results15 ntmps16 results16 ntmps17 results17 ntmps18 results18 ntmps19 results19 ntmps20 results20 ntmps21 results21 ntmps22 results22 ntmps23 results23 ntmps24 results24 ntmps25 results25 ntmps26 results26 ntmps28 results28 ntmps32 results32 ntmps33 results33 ntmps34 results34 ntmps35 results35 ntmps36 results36 ntmps37 results37 ntmps38 results38 ntmps39 results39 ntmps40 results40 ntmps41 results41 ntmps42 results42 ntmps43 results43 ntmps44 results44 ntmps45 results45 ntmps46 results46 ntmps47 results47 ntmps48 results48 ntmps49 results49 ntmps56 results56 ntmps57 results57 ntmps58 results58 ntmps59 results59 ntmps60 results60 ntmps61 results61 ntmps62 results62 ntmps63 results63 ntmps64 results64 ntmps65 results65 ntmps66 results66 ntmps67 results67 ntmps68 results68 ntmps69 results69 ntmps70 results70 ntmps71 results71 ntmps72 results72 ntmps73 results73 ntmps74 results74 ntmps75 results75 ntmps76 results76 ntmps77 results77 ntmps78 results78 ntmps79 results79 ntmps80 results80 ntmps81 results81 ntmps82 results82 ntmps83 results83 ntmps84 results84 ntmps85 results85 ntmps86 results86 ntmps98 results98 ntmps99 results99 ntmps100 results100 ntmps101 results101 ntmps102 results102 ntmps103 results103 ntmps104 results104 ntmps105 results105 ntmps106 results106 ntmps107 results107 ntmps108 results108 ntmps109 results109 ntmps110 results110 ntmps111 results111 ntmps112 results112 ntmps113 results113 ntmps114 results114 ntmps115 results115 ntmps116 results116 ntmps117 results117 ntmps118 results118 ntmps119 results119 ntmps120 results120 ntmps121 results121 ntmps122 results122 ntmps123 results123 ntmps124 results124 ntmps125 results125 ntmps126 results126 ntmps127 results127 ntmps128 results128 ntmps143 results143 ntmps144 results144 ntmps145 results145 ntmps146 results146 ntmps147 results147 ntmps148 results148 ntmps149 results149 ntmps150 results150 ntmps151 results151 ntmps152 results152 ntmps153 results153 ntmps154 results154 ntmps155 results155 ntmps156 results156 ntmps157 results157 ntmps158 results158 ntmps159 results159 ntmps160 results160 ntmps164 results164 ntmps165 results165 ntmps166 results166 ntmps167 results167 ntmps170 results170 ntmps171 results171 ntmps172 results172 ntmps173 results173 ntmps174 results174 ntmps175 results175 ntmps176 results176 ntmps177 results177 ntmps178 results178 ntmps179 results179 ntmps180 results180 ntmps181 results181 ntmps182 results182 ntmps183 results183 ntmps184 results184 ntmps185 results185 ntmps195 results195 ntmps196 results196 ntmps197 results197 ntmps198 results198 ntmps199 results199 ntmps200 results200 ntmps201 results201 ntmps202 results202 ntmps203 results203 ntmps204 results204 ntmps208 results208 ntmps209 results209 ntmps210 results210
attribute [go_sem] Nat.reduceEqDiff Nat.reduceLT Nat.reduceAdd Nat.reduceMul Nat.reduceLeDiff Nat.reduceSub Nat.reduceBEq Int.reduceEq Int.reduceLT Int.reduceLE Int.reduceToNat Int.reduceAdd Int.reduceSub Int.reduceNeg UInt8.reduceToNat
attribute [go_sem ↓] reduceIte
end Go.Proofs.YtpmniabdmbmafaaGreatDoor

namespace Go.Proofs
open Go.Shelf
def Tryz.Xl:Go.Shelf.Ren:=⟨fun|246=>144|283=>164|284=>165|285=>166|286=>167|129=>121|317=>195|318=>196|319=>197|320=>198|337=>208|338=>209|n=>n,fun|2=>2|3=>3|9=>9|4=>4|171=>218|0=>0|53=>186|37=>165|5=>5|173=>220|212=>245|51=>184|20=>20|213=>246|46=>137|232=>254|233=>255|n=>n,fun|17=>1|18=>2|19=>3|n=>n⟩
theorem Tryz.Xm:Go.Proofs.LaysM.n246 Tryz.prog Tryz.Xl:={
 mixed:=by kernel_rfl
 f129:=Tryz.func121.trans (congrArg some (by kernel_rfl))
 f246:=Tryz.func144.trans (congrArg some (by kernel_rfl))
 f283:=Tryz.func164.trans (congrArg some (by kernel_rfl))
 f284:=Tryz.func165.trans (congrArg some (by kernel_rfl))
 f285:=Tryz.func166.trans (congrArg some (by kernel_rfl))
 f286:=Tryz.func167.trans (congrArg some (by kernel_rfl))
 f317:=Tryz.func195.trans (congrArg some (by kernel_rfl))
 f318:=Tryz.func196.trans (congrArg some (by kernel_rfl))
 f319:=Tryz.func197.trans (congrArg some (by kernel_rfl))
 f320:=Tryz.func198.trans (congrArg some (by kernel_rfl))
 f337:=Tryz.func208.trans (congrArg some (by kernel_rfl))
 f338:=Tryz.func209.trans (congrArg some (by kernel_rfl))
 t0:=Tryz.underlying0
 a0:=Tryz.isAgg0
 z0:=Tryz.sizeOf0
 v0:=Tryz.zeroValue0
 t2:=Tryz.underlying2
 a2:=Tryz.isAgg2
 z2:=Tryz.sizeOf2
 v2:=Tryz.zeroValue2
 t3:=Tryz.underlying3
 a3:=Tryz.isAgg3
 z3:=Tryz.sizeOf3
 v3:=Tryz.zeroValue3
 t4:=Tryz.underlying4
 a4:=Tryz.isAgg4
 z4:=Tryz.sizeOf4
 v4:=Tryz.zeroValue4
 t5:=Tryz.underlying5
 a5:=Tryz.isAgg5
 z5:=Tryz.sizeOf5
 v5:=Tryz.zeroValue5
 t9:=Tryz.underlying9
 a9:=Tryz.isAgg9
 z9:=Tryz.sizeOf9
 v9:=Tryz.zeroValue9
 t20:=Tryz.underlying20
 a20:=Tryz.isAgg20
 z20:=Tryz.sizeOf20
 v20:=Tryz.zeroValue20
 t37:=Tryz.underlying165
 a37:=Tryz.isAgg165
 z37:=Tryz.sizeOf165
 v37:=Tryz.zeroValue165
 t46:=Tryz.underlying137
 a46:=Tryz.isAgg137
 z46:=Tryz.sizeOf137
 v46:=Tryz.zeroValue137
 t51:=Tryz.underlying184
 a51:=Tryz.isAgg184
 z51:=Tryz.sizeOf184
 v51:=Tryz.zeroValue184
 t53:=Tryz.underlying186
 a53:=Tryz.isAgg186
 z53:=Tryz.sizeOf186
 v53:=Tryz.zeroValue186
 t171:=Tryz.underlying218
 a171:=Tryz.isAgg218
 z171:=Tryz.sizeOf218
 v171:=Tryz.zeroValue218
 t173:=Tryz.underlying220
 a173:=Tryz.isAgg220
 z173:=Tryz.sizeOf220
 v173:=Tryz.zeroValue220
 t212:=Tryz.underlying245
 a212:=Tryz.isAgg245
 z212:=Tryz.sizeOf245
 v212:=Tryz.zeroValue245
 t213:=Tryz.underlying246
 a213:=Tryz.isAgg246
 z213:=Tryz.sizeOf246
 t232:=Tryz.underlying254
 a232:=Tryz.isAgg254
 z232:=Tryz.sizeOf254
 v232:=Tryz.zeroValue254
 t233:=Tryz.underlying255
 a233:=Tryz.isAgg255
 z233:=Tryz.sizeOf255
 v233:=Tryz.zeroValue255
 g17:=by kernel_rfl
 g18:=by kernel_rfl
 g19:=by kernel_rfl
 i0:=by kernel_rfl
 i2:=by kernel_rfl
 i3:=by kernel_rfl
 i4:=by kernel_rfl
 i5:=by kernel_rfl
 i9:=by kernel_rfl
 i20:=by kernel_rfl
 i37:=by kernel_rfl
 i46:=by kernel_rfl
 i51:=by kernel_rfl
 i53:=by kernel_rfl
 i171:=by kernel_rfl
 i173:=by kernel_rfl
 i212:=by kernel_rfl
 i232:=by kernel_rfl
 i233:=by kernel_rfl
 m17:=by kernel_rfl
 m18:=by kernel_rfl
 m19:=by kernel_rfl }
end Go.Proofs
namespace Go.Proofs.YtpmniabdmbmafaaGreatDoor
open Go.Ab Tryz
def zZ(n:Int):Prop:=-9223372036854775808<=n∧n<=9223372036854775807
def GT(t:TypeId)(fz:Nat×Nat):List (Nat×Obj):=[(1,.cells (Lib.pow10Tab.map fun z=>Value.int .u64 z).toArray t fz)]
theorem Xn {t:TypeId} {fz:Nat×Nat} {w:World} (h:∀q∈GT t fz,w.heap[q.1]?=some q.2):Lib.TabIs prog w "internal/strconv.uint64pow10" .u64 Lib.pow10Tab:=by
 have:=h _ ah0;unfold Lib.TabIs World.var?;rw[show prog.globalNamed "internal/strconv.uint64pow10" = some 1 by kernel_rfl];simp[this]
theorem Xo{t fz}(n:Int)(hn:zZ n):HP prog (GT t fz) 144 [i64 n,i64 10] (fun r=>r=.d (.str (Lib.itoa n))) :=
 Vh (ra func144 rfl (by decide +kernel)) rfl fun w hw =>
  (Any.internal_strconv_FormatInt_10 Tryz.Xm n hn.1 hn.2 w (Xn hw)).mono fun _ _ ⟨he,k,os,sw⟩=>⟨_,.str (Lib.itoa n),he,rfl,rfl,sw▸Ext.grow w k os⟩
end Go.Proofs.YtpmniabdmbmafaaGreatDoor

