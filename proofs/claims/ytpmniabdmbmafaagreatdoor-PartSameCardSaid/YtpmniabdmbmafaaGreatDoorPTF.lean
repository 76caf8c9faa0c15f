/-
  The generic layer, part 35: regions that draw their order and store: operations with their footprints. (with the parts that follow it) (with the parts that follow it)
-/
import Derived.Test.YtpmniabdmbmafaaGreatDoorPTE
import Derived.Laws.StructEq
set_option linter.all false
set_option maxHeartbeats 16000000
namespace Go.Ab
structure Ef where
 wr:List (Name×Option Ob):=[]
 nu:List Nat:=[]
def bT:Ef:=⟨[],[]⟩
def wl:List (Name×Option Ob)->Name->Option (Option Ob)
 |[],_=>none
 |q::r,p=>match wl r p with
   |some v=>some v
   |none=>if p=q.1 then some q.2 else none
def St.rV(s:St)(e:Ef):St:={ fr:=s.fr,hp:=fun p=>(wl e.wr p).getD (s.hp p),used:=e.nu++s.used }
def St.go(s:St)(d:Option Nat)(x:AV)(e:Ef):St:=(s.rV e).cU d x
theorem Cb{s s':St}(h1:∀p,s.hp p=s'.hp p)(h2:s.used=s'.used)(h3:∀t,s.fr t=s'.fr t):s=s':=I1 (funext h1) h2 h3
theorem aaO(s:St):s.rV ⟨[],[]⟩=s:=Cb (fun _=>rfl) rfl fun _=>rfl
theorem Jn(s:St):s.rV bT=s:=aaO s
theorem zo(s:St)(p:Name)(v:Option Ob):s.rV ⟨[(p,v)],[]⟩=s.set p v:=Cb (fun q=>by
 show(wl [(p,v)] q).getD (s.hp q)=aA s.hp p v q;simp only[wl,aA]
 split<;>rfl) rfl fun _=>rfl
theorem xI(s:St)(t:Nat)(o:Ob):s.rV ⟨[([t],some o)],[t]⟩=s.add t o:=Cb (fun q=>by
 show(wl [([t],some o)] q).getD (s.hp q)=aA s.hp [t] (some o) q;simp only[wl,aA]
 split<;>rfl) rfl fun _=>rfl
theorem Jo(s:St)(p:Name)(t:Nat)(o:Ob):s.rV ⟨[(p,none),([t],some o)],[t]⟩=(s.set p none).add t o:=Cb (fun q=>by
 show(wl [(p,none),([t],some o)] q).getD (s.hp q)=aA (aA s.hp p none) [t] (some o) q;simp only[wl,aA];by_cases h:q=[t]
 .simp[h]
 .simp only[if_neg h]
  split<;>rfl) rfl fun _=>rfl
def fS:AV->List Name
 |.vw p _ _=>[p]
 |.bx p _=>[p]
 |.el p _ _=>[p]
 |.mp p=>[p]
 |_=>[]
def qR(s:St):Op->List Name
 |.load _ x=>fS (ev s x)
 |.fieldAddr _ x _=>fS (ev s x)
 |.indexAddr _ x _=>fS (ev s x)
 |.slice _ x _ _ _=>fS (ev s x)
 |.store _ x _=>fS (ev s x)
 |.call c=>c.args.toList.flatMap fun x=>fS (ev s x)
 |_=>[]
def qS(i:TI)(s:St)(x v:AV):R (Name×Ob) :=
 match x with
 |.bx p c =>
   match s.hp p with
   |some (.bt ty cs)=>match jE v with
     |some vs=>if i.k.dM=false∧vs.length=i.sz∧c+i.sz<=cs.length then .ok (p,.bt ty (splice cs c vs))else .no
     |none=>.no
   |_=>.no
 |.el p j c =>
   match s.hp p,v with
   |some (.bB none w xs),.d y=>match yS i w xs j c y with
     |some ys=>.ok (p,.arr w ys)
     |none=>.no
   |_,_=>.no
 |_=>.no
theorem aaP(i:TI)(s:St)(x v:AV):vl i s x v=(qS i s x v).bind fun q=>.ok (s.set q.1 (some q.2)):=by
 cases x with
 |bx p c =>
   simp only[vl,qS]
   cases s.hp p with
   |none=>rfl
   |some o =>
     cases o with
     |bt ty cs =>
       simp only
       cases jE v with
       |none=>rfl
       |some vs=>simp only;split<;>rfl
     |_=>rfl
 |el p j c =>
   simp only[vl,qS]
   cases s.hp p with
   |none=>rfl
   |some o =>
     cases o with
     |bB ty w xs =>
       obtain _|ty:=ty
       rotate_left
       .cases v<;>rfl
       cases v with
       |d y =>
         simp only
         cases yS i w xs j c y with
         |none=>rfl
         |some ys=>rfl
       |_=>rfl
     |_=>rfl
 |_=>rfl
def mK(d:Option Nat)(s:St)(wr:List (Name×Option Ob))(ob:Ob)(x:Name->AV):R (AV×Ef) :=
 match d with
 |some t=>if t∉s.used then .ok (x [t],⟨wr++[([t],some ob)],[t]⟩)else .no
 |none=>.no
def sY(e:TI)(d:Option Nat)(s:St)(x y:AV):R (AV×Ef) :=
 match jl e.w s.hp y,x with
 |some ys,.d .ao=>.need (ys.length*e.iT<=140737488355328) (mK d s [] (.arr e.w ys) (.vw · 0 ys.length))
 |some ys,.vw p o l =>
   match s.hp p with
   |some (.bB none w xs)=>if w=e.w then .need ((l+ys.length)*e.iT<=140737488355328) (mK d s [(p,none)] (.arr w ((xs.drop o).take l++ys)) (.vw · 0 (l+ys.length)))else .no
   |_=>.no
 |_,_=>.no
def cZ(tf:Nat->TI)(o:Op)(d:Option Nat)(s:St):R (AV×Ef) :=
 match o with
 |.store t x v=>(qS (tf t) s (ev s x) (ev s v)).bind fun q=>.ok (.un,⟨[(q.1,some q.2)],[]⟩)
 |.alloc e=>match(tf e).z with
   |some cs=>mK d s [] (.bt (yV tf e) (cs.map .d)) (.bx · 0)
   |none=>.no
 |.buildSlice t l parts =>
   match A7 (tf t).k,uj 0 (parts.toList.map fun q=>(q.1,ev s q.2))with
   |some e,some xs=>if xs.length=l∧(tf e).z.isSome∧(tf e).gD (tf e).w∧xs.all (rF (tf e).w)∧l*(tf e).sz<=16777216 then mK d s [] (.arr (tf e).w xs) (.vw · 0 l)else .no
   |_,_=>.no
 |.call c=>match c.callee,c.args.toList,c.argTypes.toList with
   |.builtin .append,[x,y],[t,t']=>if t≠t' then .no else match(tf t).k with
     |.slice e=>if(tf e).oB∧(tf e).gD (tf e).w then sY (tf e) d s (ev s x) (ev s y)else .no
     |_=>.no
   |_,_,_=>(cM tf (.call c) s).bind fun x=>.ok (x,bT)
 |o=>(cM tf o s).bind fun x=>.ok (x,bT)
theorem aaQ(i:TI)(hp ae:Name->Option Ob)(x:AV)(h:∀p∈fS x,ae p=hp p):sK i ae x=sK i hp x:=by
 cases x with
 |bx p c=>simp only[sK,h p (by simp[fS])]
 |el p j c=>simp only[sK,h p (by simp[fS])]
 |d y=>cases y<;>rfl
 |_=>rfl
theorem aaR(i:TI)(tf:Nat->TI)(hp ae:Name->Option Ob)(x:AV)(f:Nat)(h:∀p∈fS x,ae p=hp p):vm i tf ae x f=vm i tf hp x f:=by
 unfold vm
 cases i.k with
 |struct fs =>
   simp only
   cases fs[f]? with
   |none=>rfl
   |some q =>
     simp only;split
     .rfl
     .cases x with
      |bx p c=>simp only[h p (by simp[fS])]
      |el p j c=>simp only[h p (by simp[fS])]
      |d y =>
        cases y with
        |ptr z=>cases z<;>rfl
        |_=>rfl
      |_=>rfl
 |_=>rfl
theorem aaS(i:TI)(tf:Nat->TI)(hp ae:Name->Option Ob)(x j:AV)(h:∀p∈fS x,ae p=hp p):vn i tf ae x j=vn i tf hp x j:=by
 unfold vn
 cases i.k with
 |slice e =>
   cases x with
   |vw p o l =>
     cases j with
     |d y =>
       cases y with
       |int k n=>simp only[h p (by simp[fS])]
       |_=>rfl
     |_=>rfl
   |d y =>
     cases y<;>first
      |rfl
      |(cases j<;>first
       |rfl
       |(rename_i z;cases z<;>rfl))
   |_=>rfl
 |arr l e =>
   cases x with
   |el p i c =>
     cases j with
     |d y =>
       cases y with
       |int k n=>simp only[h p (by simp[fS])]
       |_=>rfl
     |_=>rfl
   |_=>rfl
 |_=>rfl
theorem aaT(i:TI)(tf:Nat->TI)(hp ae:Name->Option Ob)(x:AV)(lo hi:Option AV)(h:∀p∈fS x,ae p=hp p):vp i tf ae x lo hi=vp i tf hp x lo hi:=by
 unfold vp
 cases i.k with
 |slice e =>
   cases x with
   |vw p o l=>simp only[h p (by simp[fS])]
   |d y=>cases y<;>rfl
   |_=>rfl
 |str =>
   cases x with
   |d y=>cases y<;>rfl
   |_=>rfl
 |arr l e =>
   cases x with
   |el p i c=>simp only[h p (by simp[fS])]
   |_=>rfl
 |_=>rfl
theorem aaU(i:TI)(hp ae:Name->Option Ob)(x:AV)(h:∀p∈fS x,ae p=hp p):vq i ae x=vq i hp x:=by
 unfold vq
 cases i.k with
 |slice e =>
   cases x with
   |vw p o l=>simp only[h p (by simp[fS])]
   |d y=>cases y<;>rfl
   |_=>rfl
 |map a b =>
   cases x with
   |mp p=>simp only[h p (by simp[fS])]
   |_=>rfl
 |str =>
   cases x with
   |d y=>cases y<;>rfl
   |_=>rfl
 |_=>rfl
theorem aaV(i:TI)(s s':St)(x v:AV)(h:∀p∈fS x,s'.hp p=s.hp p):qS i s' x v=qS i s x v:=by
 cases x with
 |vw p o l=>simp only[qS]
 |bx p c=>simp only[qS,h p (by simp[fS])]
 |el p j c=>simp only[qS,h p (by simp[fS])]
 |mp p=>simp only[qS]
 |_=>rfl
theorem O2(tf:Nat->TI)(o:Op)(s s':St)(hh:∀p∈qR s o,s'.hp p=s.hp p)(h:∀x∈o.operands,ev s' x=ev s x):cM tf o s'=cM tf o s:=by
 have e:cM tf o { s' with hp:=s.hp }=cM tf o s:=IY tf o s { s' with hp:=s.hp } rfl fun x hx=>by
  have:=h x hx;cases x<;>exact this
 have bp:∀x,ev { s' with hp:=s.hp } x=ev s' x:=fun x=>by cases x<;>rfl
 have vZ:ev { s' with hp:=s.hp }=ev s':=funext bp;rw[<-e]
 cases o with
 |load t x =>
   simp only[cM,bp];exact aaQ _ _ _ _ (by rw[h x (by simp[Op.operands])];exact hh)
 |fieldAddr t x f =>
   simp only[cM,bp];exact aaR _ _ _ _ _ _ (by rw[h x (by simp[Op.operands])];exact hh)
 |indexAddr t x j =>
   simp only[cM,bp];exact aaS _ _ _ _ _ _ (by rw[h x (by simp[Op.operands])];exact hh)
 |slice t x lo hi mx =>
   cases mx with
   |some _=>rfl
   |none =>
     simp only[cM,vZ];exact aaT _ _ _ _ _ _ _ (by rw[h x (by simp[Op.operands])];exact hh)
 |call c =>
   obtain⟨callee,args,jP⟩:=c
   cases callee with
   |value _=>rfl
   |invoke _ _=>rfl
   |builtin b =>
     obtain⟨args⟩:=args;obtain⟨jP⟩:=jP;simp only[cM,bp];split
     .rename_i x t;exact aaU _ _ _ _ (by rw[h x (by simp[Op.operands,Call.operands])];exact fun p hp=>hh p (by simp[qR,hp]))
     .rfl
     .rfl
     .rfl
 |_=>simp only[cM,bp,vZ]
def jU:R (AV×Ef)->AV×Ef->Prop
 |.ok y,x=>y=x
 |.need p r,x=>p∧jU r x
 |.no,_=>False
theorem Fc{d:Option Nat}{s s':St}{wr:List (Name×Option Ob)}{ob:Ob}{x:Name->AV}{r:AV×Ef}(h:jU (mK d s wr ob x) r)(hu:∀y∈r.2.nu,y∉s'.used):jU (mK d s' wr ob x) r:=by
 unfold mK at h ⊢
 cases d with
 |none=>exact h
 |some t =>
   simp only at h ⊢;split at h
   .have h:(x [t],(⟨wr++[([t],some ob)],[t]⟩:Ef))=r:=h;subst h;rw[if_pos (hu t (by simp))];exact rfl
   .exact h.elim
theorem Fe{d:Option Nat}{s:St}{wr:List (Name×Option Ob)}{ob:Ob}{x:Name->AV}{r:AV×Ef}(h:jU (mK d s wr ob x) r):∀y∈r.2.nu,y∉s.used:=by
 unfold mK at h
 cases d with
 |none=>exact h.elim
 |some t =>
   simp only at h;split at h
   .rename_i ht;have h:(x [t],(⟨wr++[([t],some ob)],[t]⟩:Ef))=r:=h;subst h;simpa using ht
   .exact h.elim
theorem Jp{n:Nat}{d:Option Nat}{s:St}{ob:Ob}{x:Name->AV}{r:AV×Ef}(hd:dS n d)(h:jU (mK d s [] ob x) r):(gN n d s ob x).run (fun s2=>s2=s.go d r.1 r.2) False:=by
 unfold mK at h
 cases d with
 |none=>exact h.elim
 |some t =>
   simp only at h;split at h
   .rename_i ht;have h:(x [t],(⟨[]++[([t],some ob)],[t]⟩:Ef))=r:=h;subst h;have hd:t<n:=hd;simp only[gN,hd,ht,not_false_eq_true,and_self,if_true,R.run];show _=(s.rV _).cU _ _;rw[List.nil_append,xI];rfl
   .exact h.elim
theorem aaW{n:Nat}{d:Option Nat}{s:St}{p:Name}{ob:Ob}{x:Name->AV}{r:AV×Ef}(hd:dS n d)(h:jU (mK d s [(p,none)] ob x) r):(gN n d (s.set p none) ob x).run (fun s2=>s2=s.go d r.1 r.2) False:=by
 unfold mK at h
 cases d with
 |none=>exact h.elim
 |some t =>
   simp only at h;split at h
   .rename_i ht;have h:(x [t],(⟨[(p,none)]++[([t],some ob)],[t]⟩:Ef))=r:=h;subst h;have hd:t<n:=hd;have k8:t∉(s.set p none).used:=ht;simp only[gN,hd,k8,not_false_eq_true,and_self,if_true,R.run];show _=(s.rV _).cU _ _;rw[List.cons_append,List.nil_append,Jo];rfl
   .exact h.elim
theorem aaX(w:W)(hp ae:Name->Option Ob)(x:AV)(h:∀p∈fS x,ae p=hp p):jl w ae x=jl w hp x:=by
 cases x with
 |vw p o l=>simp only[jl,h p (by simp[fS])]
 |d y=>cases y<;>rfl
 |_=>rfl
theorem aaY{e:TI}{d:Option Nat}{s s':St}{x y:AV}{r:AV×Ef}(hx:∀p∈fS x,s'.hp p=s.hp p)(hy:∀p∈fS y,s'.hp p=s.hp p)(h:jU (sY e d s x y) r)(hu:∀z∈r.2.nu,z∉s'.used):jU (sY e d s' x y) r:=by
 unfold sY at h ⊢;rw[aaX e.w s.hp s'.hp y hy]
 cases hl:jl e.w s.hp y with
 |none=>rw[hl]at h;exact h.elim
 |some ys =>
   rw[hl]at h
   cases x with
   |vw p o l =>
     simp only at h ⊢;rw[hx p (by simp[fS])]
     cases hp:s.hp p with
     |none=>rw[hp]at h;exact h.elim
     |some ob =>
       rw[hp]at h
       cases ob with
       |bB ty w xs =>
         obtain _|ty:=ty
         rotate_left
         .exact h.elim
         simp only at h ⊢;split at h
         .rename_i hw;rw[if_pos hw];exact⟨h.1,Fc h.2 hu⟩
         .exact h.elim
       |_=>exact h.elim
   |d z =>
     cases z with
     |ao=>exact⟨h.1,Fc h.2 hu⟩
     |_=>exact h.elim
   |_=>exact h.elim
theorem aaZ{e:TI}{d:Option Nat}{s:St}{x y:AV}{r:AV×Ef}(h:jU (sY e d s x y) r):∀z∈r.2.nu,z∉s.used:=by
 unfold sY at h
 cases hl:jl e.w s.hp y with
 |none=>rw[hl]at h;exact h.elim
 |some ys =>
   rw[hl]at h
   cases x with
   |vw p o l =>
     simp only at h
     cases hp:s.hp p with
     |none=>rw[hp]at h;exact h.elim
     |some ob =>
       rw[hp]at h
       cases ob with
       |bB ty w xs =>
         obtain _|ty:=ty
         rotate_left
         .exact h.elim
         simp only at h;split at h
         .exact Fe h.2
         .exact h.elim
       |_=>exact h.elim
   |d z =>
     cases z with
     |ao=>exact Fe h.2
     |_=>exact h.elim
   |_=>exact h.elim
theorem aa0{n:Nat}{e:TI}{d:Option Nat}{s:St}{x y:AV}{r:AV×Ef}(hd:dS n d)(h:jU (sY e d s x y) r):(xg n e d s x y).run (fun s2=>s2=s.go d r.1 r.2) False:=by
 unfold sY at h;unfold xg
 cases hl:jl e.w s.hp y with
 |none=>rw[hl]at h;exact h.elim
 |some ys =>
   rw[hl]at h
   cases x with
   |vw p o l =>
     simp only at h ⊢
     cases hp:s.hp p with
     |none=>rw[hp]at h;exact h.elim
     |some ob =>
       rw[hp]at h
       cases ob with
       |bB ty w xs =>
         obtain _|ty:=ty
         rotate_left
         .exact h.elim
         simp only at h ⊢;split at h
         .rename_i hw;rw[if_pos hw];exact⟨h.1,aaW hd h.2⟩
         .exact h.elim
       |_=>exact h.elim
   |d z =>
     cases z with
     |ao=>exact⟨h.1,Jp hd h.2⟩
     |_=>exact h.elim
   |_=>exact h.elim
theorem O3{α:Type}{x:AV×Ef}{g:α->AV×Ef}{f:α->R St}{k:St->Prop}{z:Prop}(hf:∀a,g a=x->(f a).run k z):∀{r:R α},jU (r.bind fun a=>.ok (g a)) x->(r.bind f).run k z
 |.ok a,h=>hf a h
 |.need _ _,h=>⟨h.1,O3 hf h.2⟩
 |.no,h=>h.elim
theorem Ff{α:Type}{x:AV×Ef}{g:α->AV×Ef}(hg:∀a,(g a).2.nu=[]):∀{r:R α},jU (r.bind fun a=>.ok (g a)) x->x.2.nu=[]
 |.ok a,h=>by have h:g a=x:=h;subst h;exact hg a
 |.need p r,h=>Ff hg h.2
 |.no,h=>h.elim
def Call.isApp(c:Call):Bool:=match c.callee,c.args.toList,c.argTypes.toList with
 |.builtin .append,[_,_],[_,_]=>true
 |_,_,_=>false
theorem Cc{tf:Nat->TI}{c:Call}{d:Option Nat}{s:St}(h:Call.isApp c=false):cZ tf (.call c) d s=(cM tf (.call c) s).bind fun x=>.ok (x,bT):=by
 obtain⟨callee,args,jP⟩:=c;obtain⟨args⟩:=args;obtain⟨jP⟩:=jP;unfold cZ;simp only;split
 .simp[Call.isApp]at h
 .rfl
theorem Jq{c:Call}(h:Call.isApp c=true):∃x y t t',c={ callee:=.builtin .append,args:=[x,y].toArray,argTypes:=[t,t'].toArray }:=by
 obtain⟨callee,args,jP⟩:=c;obtain⟨args⟩:=args;obtain⟨jP⟩:=jP;unfold Call.isApp at h;simp only at h;split at h
 .exact⟨_,_,_,_,rfl⟩
 .cases h
theorem aa1{tf:Nat->TI}{o:Op}{d:Option Nat}{s s':St}{r:AV×Ef}(hh:∀p∈qR s o,s'.hp p=s.hp p)(h:∀x∈o.operands,ev s' x=ev s x)(hy:jU (cZ tf o d s) r)(hu:∀y∈r.2.nu,y∉s'.used):jU (cZ tf o d s') r:=by
 cases o with
 |store t x v =>
   simp only[cZ]at hy ⊢;rw[h x (by simp[Op.operands]),h v (by simp[Op.operands]),aaV _ s s' _ _ hh];exact hy
 |alloc e =>
   simp only[cZ]at hy ⊢;split at hy
   .exact Fc hy hu
   .exact hy.elim
 |buildSlice t l parts =>
   have:(parts.toList.map fun q=>(q.1,ev s' q.2))=parts.toList.map fun q=>(q.1,ev s q.2) :=
    alI fun q hq=>by rw[h q.2 (by simp only[Op.operands,anZ,ak6];exact⟨q,hq,rfl⟩)]
   simp only[cZ,this]at hy ⊢;split at hy
   .split at hy
    .rename_i hc;rw[if_pos hc];exact Fc hy hu
    .exact hy.elim
   .exact hy.elim
 |call c =>
   cases hc:Call.isApp c with
   |false =>
     rw[Cc hc]at hy ⊢;rw[O2 tf _ s s' hh h];exact hy
   |true =>
     obtain⟨x,y,t,t',rfl⟩:=Jq hc;have ex:ev s' x=ev s x:=h x (by simp[Op.operands,Call.operands]);have ey:ev s' y=ev s y:=h y (by simp[Op.operands,Call.operands]);simp only[cZ]at hy ⊢;split at hy
     .exact hy.elim
     .rename_i ht;rw[if_neg ht];split at hy
      .split at hy
       .rename_i e hk hz;rw[if_pos hz,ex,ey];exact aaY (fun p hp=>hh p (by simp[qR,hp])) (fun p hp=>hh p (by simp[qR,hp])) hy hu
       .exact hy.elim
      .exact hy.elim
 |_ =>
   simp only[cZ]at hy ⊢;rw[O2 tf _ s s' hh h];exact hy
theorem aa2{tf:Nat->TI}{o:Op}{d:Option Nat}{s:St}{r:AV×Ef}(hy:jU (cZ tf o d s) r):∀y∈r.2.nu,y∉s.used:=by
 have none:r.2.nu=[]->∀y∈r.2.nu,y∉s.used:=fun h y hy=>by rw[h]at hy;cases hy
 cases o with
 |store t x v=>exact none (Ff (g:=fun q:Name×Ob=>(AV.un,(⟨[(q.1,some q.2)],[]⟩:Ef))) (fun _=>rfl) hy)
 |alloc e =>
   simp only[cZ]at hy;split at hy
   .exact Fe hy
   .exact hy.elim
 |buildSlice t l parts =>
   simp only[cZ]at hy;split at hy
   .split at hy
    .exact Fe hy
    .exact hy.elim
   .exact hy.elim
 |call c =>
   cases hc:Call.isApp c with
   |false =>
     rw[Cc hc]at hy;exact none (Ff (g:=fun a:AV=>(a,bT)) (fun _=>rfl) hy)
   |true =>
     obtain⟨x,y,t,t',rfl⟩:=Jq hc;simp only[cZ]at hy;split at hy
     .exact hy.elim
     .split at hy
      .split at hy
       .exact aaZ hy
       .exact hy.elim
      .exact hy.elim
 |_=>exact none (Ff (g:=fun a:AV=>(a,bT)) (fun _=>rfl) hy)
def zp(r:R (AV×Ef))(f:AV×Ef->Prop)(z:Prop):Prop :=
 match r with
 |.ok x=>f x
 |.need p r=>p∧zp r f z
 |.no=>z
theorem O4{f:AV×Ef->Prop}{z:Prop}:∀{r:R (AV×Ef)},zp r f z->(∃x,jU r x∧f x)∨z
 |.ok x,h=>.inl ⟨x,rfl,h⟩
 |.no,h=>.inr h
 |.need p r,h=>by
   rcases O4 (r:=r) h.2 with⟨x,h1,h2⟩|hz
   .exact .inl ⟨x,⟨h.1,h1⟩,h2⟩
   .exact .inr hz
theorem aa3{tf:Nat->TI}{n:Nat}{o:Op}{d:Option Nat}{s:St}{x:AV×Ef}(h:jU ((cM tf o s).bind fun x=>.ok (x,bT)) x):cV tf n o d s=(cM tf o s).bind (dp n d s):=by
 rcases Oq tf n o d s with e|e
 .rw[e]at h;exact h.elim
 .exact e
theorem aa4{tf:Nat->TI}{n:Nat}{o:Op}{d:Option Nat}{s:St}{x:AV×Ef}(hd:dS n d)(h:jU (cZ tf o d s) x):(cV tf n o d s).run (fun s2=>s2=s.go d x.1 x.2) False:=by
 have O5:∀(s1:St) (v:AV),(dp n d s1 v).run (fun s2=>s2=s1.cU d v) False:=fun s1 v=>by
  cases d with
  |none=>exact rfl
  |some t=>simp[dp,show t<n from hd,R.run,St.cU]
 have quiet:jU ((cM tf o s).bind fun x=>.ok (x,bT)) x->(cV tf n o d s).run (fun s2=>s2=s.go d x.1 x.2) False:=fun h=>by
  rw[aa3 h]
  exact O3 (g:=fun a=>(a,bT)) (fun a ha=>by
   subst ha;show(dp n d s a).run (fun s2=>s2=(s.rV bT).cU d a) False;rw[Jn]
   exact O5 _ _) h
 cases o with
 |store t a b =>
   simp only[cV,aaP];simp only[cZ]at h
   have key:∀r:R (Name×Ob),jU (r.bind fun q=>.ok (.un,⟨[(q.1,some q.2)],[]⟩)) x->((r.bind fun q=>.ok (s.set q.1 (some q.2))).bind fun s'=>dp n d s' .un).run (fun s2=>s2=s.go d x.1 x.2) False:=by
    intro r
    induction r with
    |ok q =>
      intro h;have h:(AV.un,(⟨[(q.1,some q.2)],[]⟩:Ef))=x:=h;subst h;show(dp n d (s.set q.1 (some q.2)) .un).run (fun s2=>s2=(s.rV ⟨[(q.1,some q.2)],[]⟩).cU d .un) False;rw[zo];exact O5 _ _
    |need p r ih=>exact fun h=>⟨h.1,ih h.2⟩
    |no=>exact fun h=>h.elim
   exact key _ h
 |alloc e =>
   simp only[cZ]at h;simp only[cV];split at h
   .rename_i cs hz;rw[hz];exact Jp hd h
   .exact h.elim
 |buildSlice t l parts =>
   simp only[cZ]at h;simp only[cV];split at h
   .rename_i e xs h1 h2;rw[h1,h2];split at h
    .rename_i hc;simp only[if_pos hc];exact Jp hd h
    .exact h.elim
   .exact h.elim
 |call c =>
   cases hc:Call.isApp c with
   |false =>
     rw[Cc hc]at h;exact quiet h
   |true =>
     obtain⟨a,b,t,t',rfl⟩:=Jq hc;simp only[cZ]at h;simp only[cV,Eo,alf,alJ];split at h
     .exact h.elim
     .rename_i ht;rw[if_neg ht];split at h
      .rename_i e hk;rw[hk];split at h
       .rename_i hz;simp only[if_pos hz];exact aa0 hd h
       .exact h.elim
      .exact h.elim
 |_=>exact quiet h
section
variable (P:Program)(cf:Cf)(ops:Array Oper)
abbrev Fp:=List Name×Ef
abbrev Ns:=List (List Name×List Name×List Nat)
def QE(o:Oper)(s:St)(x:AV)(f:Fp):Prop:=∀s',(∀y∈f.2.nu,y∉s'.used)->(∀p∈f.1,s'.hp p=s.hp p)->(∀y∈o.op.operands,ev s' y=ev s y) ->
 ∀B,cf.fits B->∀ds β a w,a.defers=ds->aj B β s' a.tmps w->∀Q',o.wpIn (Fw cf.ro) 0 P a w (fun a' w'=>a'.defers=ds∧∃β',aj B β' (s'.go o.dst x f.2) a'.tmps w') Q'
def ju(f:Fp):List Name×List Name×List Nat:=(f.1,f.2.wr.map (·.1),f.2.nu)
def ja(K:St->Ns->Prop):List Oper->St->Ns->Prop
 |[],s,ns=>K s ns
 |o::r,s,ns =>
   match o.guard with
   |none=>zp (cZ P.ti o.op o.dst s) (fun x=>dS cf.n o.dst∧ja K r (s.go o.dst x.1 x.2) (ns++[ju (qR s o.op,x.2)])) (∃x f,QE P cf o s x f∧(∀y∈f.2.nu,y∉s.used)∧dS cf.n o.dst∧ja K r (s.go o.dst x f.2) (ns++[ju f]))
   |some (j,want) =>
     match pL ops j s with
     |some (t,.d (.bool b)) =>
       (b=want->zp (cZ P.ti o.op o.dst (s.put t (.d (.bool want)))) (fun x=>dS cf.n o.dst∧ja K r ((s.put t (.d (.bool want))).go o.dst x.1 x.2) (ns++[ju (qR (s.put t (.d (.bool want))) o.op,x.2)])) (∃x f,QE P cf o (s.put t (.d (.bool want))) x f∧(∀y∈f.2.nu,y∉(s.put t (.d (.bool want))).used)∧dS cf.n o.dst∧ja K r ((s.put t (.d (.bool want))).go o.dst x f.2) (ns++[ju f]))) ∧
       (b=!want->dS cf.n o.dst∧ja K r ((s.put t (.d (.bool (!want)))).go o.dst (.az []) bT) (ns++[([],[],[])]))
     |some (_,.az [])=>dS cf.n o.dst∧ja K r (s.go o.dst (.az []) bT) (ns++[([],[],[])])
     |_=>False
def zq(l:List Nat)(f:Fp)(s s':St):Prop:=(∀y∈f.2.nu,y∉s'.used)∧(∀p∈f.1,s'.hp p=s.hp p)∧∀t∈l,s'.fr t=s.fr t
def xJ(i:Nat)(o:Oper)(s:St)(x:AV)(f:Fp):Prop:=(∀y∈f.2.nu,y∉s.used)∧∀s',zq (o.looksAt ops) f s s'->∀B,cf.fits B->∀ds β a w,a.defers=ds->aj B β s' a.tmps w->∀Q',
 wpOpIn (Fw cf.ro) 0 P ops Q' i (fun a' w'=>a'.defers=ds∧∃β',aj B β' (s'.go o.dst x f.2) a'.tmps w') a w
variable {P cf ops}
theorem aa5{o:Oper}{f:Fp}{s s':St}(h:zq (o.looksAt ops) f s s'):∀y∈o.op.operands,ev s' y=ev s y:=fun y hy =>
 Ot fun t ht=>h.2.2 t (by subst ht;exact alm _ (List.mem_filterMap.2 ⟨.tmp t,by simpa using hy,rfl⟩))
theorem aa6{o:Oper}{s:St}{x:AV×Ef}(h:jU (cZ P.ti o.op o.dst s) x)(hd:dS cf.n o.dst):QE P cf o s x.1 (qR s o.op,x.2):=by
 intro s' hu hh he B hB ds β a w ai hs Q';have e:=aa1 hh he h hu;have hr:=aa4 (n:=B.n) (d:=o.dst) (s:=s') (by rw[hB.1];exact hd) e;rcases y2 hs hr with hz|⟨nx,v,w',s2,β',aF,dy,rfl,bh⟩
 .exact hz.elim
 .have hnd:∀c,o.op≠.defer c:=by
   intro c hc;rw[hc]at h;exact h.elim
  exact fR hnd aF dy ⟨by cases o.dst<;>exact ai,β',bh⟩
theorem Jr(s:St)(d:Option Nat)(x:AV):s.go d x bT=s.cU d x:=by unfold St.go;rw[Jn]
theorem O6{i:Nat}{o:Oper}{s:St}(hi:ops[i]?=some o)(hd:dS cf.n o.dst)(hw:∀(B:Base) (β:Name->Option a8) s' tm w,zq (o.looksAt ops) ([],bT) s s'->aj B β s' tm w->Region.wanted o (yielded ops tm)=false):xJ P cf ops i o s (.az []) ([],bT):=by
 refine⟨fun y hy=>(by cases hy),fun s' gO B hB ds β a w ai hs Q'=>?_⟩;unfold wpOpIn;simp only[hi,hw B β s' a.tmps w gO hs,als,if_false];refine⟨fun _ _=>trivial,by cases o.dst<;>exact ai,β,?_⟩;rw[Jr];refine hs.cU (fun t ht=>?_) (.az #[] [] rfl (by simp));rw[ht]at hd;rw[hB.1];exact hd
theorem O7{i:Nat}{o:Oper}{s:St}{x:AV}{f:Fp}(hi:ops[i]?=some o)(hf:∀y∈f.2.nu,y∉s.used)(hw:∀(B:Base) (β:Name->Option a8) s' tm w,zq (o.looksAt ops) f s s'->aj B β s' tm w->Region.wanted o (yielded ops tm)=true)(h:QE P cf o s x f):xJ P cf ops i o s x f:=by
 refine⟨hf,fun s' gO B hB ds β a w ai hs Q'=>?_⟩;unfold wpOpIn;simp only[hi,hw B β s' a.tmps w gO hs,if_true];exact h s' gO.1 gO.2.1 (aa5 gO) B hB ds β a w ai hs Q'
theorem aa7{K:St->Ns->Prop}{i:Nat}{o:Oper}{r:List Oper}{s:St}{ns:Ns}(hi:ops[i]?=some o)(h:ja P cf ops K (o::r) s ns):∃x f,xJ P cf ops i o s x f∧ja P cf ops K r (s.go o.dst x f.2) (ns++[ju f]):=by
 unfold ja at h
 have go:∀s1,s1=s->(∀(f:Fp) (B:Base) (β:Name->Option a8) s' tm w,zq (o.looksAt ops) f s s'->aj B β s' tm w->Region.wanted o (yielded ops tm)=true) ->
   zp (cZ P.ti o.op o.dst s1) (fun x=>dS cf.n o.dst∧ja P cf ops K r (s1.go o.dst x.1 x.2) (ns++[ju (qR s1 o.op,x.2)])) (∃x f,QE P cf o s1 x f∧(∀y∈f.2.nu,y∉s1.used)∧dS cf.n o.dst∧ja P cf ops K r (s1.go o.dst x f.2) (ns++[ju f])) ->
   ∃x f,xJ P cf ops i o s x f∧ja P cf ops K r (s.go o.dst x f.2) (ns++[ju f]):=by
  rintro s1 rfl hw h;rcases O4 h with⟨x,h1,hd,h2⟩|⟨x,f,h1,hn,_,h2⟩
  .exact⟨x.1,_,O7 hi (aa2 h1) (hw _) (aa6 h1 hd),h2⟩
  .exact⟨x,f,O7 hi hn (hw _) h1,h2⟩
 cases hg:o.guard with
 |none =>
   rw[hg]at h;exact go s rfl (fun _ _ _ _ _ _ _ _=>by simp[Region.wanted,hg]) h
 |some q =>
   obtain⟨j,want⟩:=q;rw[hg]at h;simp only at h;split at h
   .rename_i t b eS;obtain⟨oj,hj,jr,jQ⟩:=EU eS;have hl:=EV hg hj jr;by_cases hb:b=want
    .have e:s.put t (.d (.bool want))=s:=BK (by rw[jQ,hb]);have h1:=h.1 hb;rw[e]at h1;refine go s rfl (fun f B β s' tm w gO hs=>?_) h1;have:=EW hs hj jr ((gO.2.2 t hl).trans jQ);simp[Region.wanted,hg,this,hb]
    .have vB:b=!want:=by cases b<;>cases want<;>simp_all
     have e:s.put t (.d (.bool (!want)))=s:=BK (by rw[jQ,vB]);obtain⟨hd,h2⟩:=h.2 vB;rw[e]at h2;refine⟨_,_,O6 hi hd (fun B β s' tm w gO hs=>?_),h2⟩;have:=EW hs hj jr ((gO.2.2 t hl).trans jQ);simp[Region.wanted,hg,this,hb]
   .rename_i t eS;obtain⟨oj,hj,jr,jQ⟩:=EU eS;have hl:=EV hg hj jr;refine⟨_,_,O6 hi h.1 (fun B β s' tm w gO hs=>?_),h.2⟩;have:=Ow hs hj jr ((gO.2.2 t hl).trans jQ);simp[Region.wanted,hg,this]
   .exact h.elim
end
end Go.Ab
namespace Go.Ab
theorem aj.reuse{B:Base}{β:Name->Option a8}{s s2:St}{tm:Array Value}{w:World}(h:aj B β s tm w)(h1:s2.hp=s.hp)(h2:s2.fr=s.fr)(h3:∀y,y∈s.used↔y∈s2.used):aj B β s2 tm w:=by
 obtain⟨fr,hp,us⟩:=s;obtain⟨Js,mD,O8⟩:=s2;simp only at h1 h2 h3;subst h1;subst h2;have ag:∀p,nm us p->iQ mD mD β β p:=fun p _ o ho=>⟨o,ho,Ob.k4 _,rfl⟩
 have hu:∀x∈us,x∈O8:=fun x hx=>(h3 x).1 hx;exact { bG:=h.bG,io:=h.io,size:=h.size,frame:=h.frame,slots:=fun t=>(h.slots t).mono (fun _ _ h=>h) hu ag,aJ:=fun p o ho=>⟨(h.aJ p o ho).1.mono hu,(h.aJ p o ho).2.mono (fun _ _ h=>h) hu ag rfl fun _ _=>rfl⟩,blocks:=h.blocks,inj:=h.inj,us:=fun x hx=>hu x (h.us x hx),stay:=h.stay }
section
variable {P:Program}{cf:Cf}{ops:Array Oper}
def jb(ops:Array Oper)(xs:Nat->AV)(fs:Nat->Fp):List Nat->St->St
 |[],s=>s
 |i::l,s=>jb ops xs fs l (s.go (eg ops i) (xs i) (fs i).2)
theorem O9(xs:Nat->AV)(fs:Nat->Fp)(i:Nat):∀(l:List Nat) (s:St),jb ops xs fs (l++[i]) s=(jb ops xs fs l s).go (eg ops i) (xs i) (fs i).2
 |[],_=>rfl
 |j::l,s=>by rw[List.cons_append,jb,O9 xs fs i l,jb]
theorem aa8(s:St)(d:Option Nat)(x:AV)(e:Ef):(s.go d x e).used=e.nu++s.used:=by
 unfold St.go;rw[Oz];rfl
theorem aa9(s:St)(d:Option Nat)(x:AV)(e:Ef)(t:Nat):(s.go d x e).fr t=if d=some t then x else s.fr t:=by
 unfold St.go
 cases d with
 |none=>simp[St.cU,St.rV]
 |some u =>
   show dV _ _ _ _=_;simp only[dV,alE];by_cases h:t=u
   .rw[if_pos h,if_pos h.symm]
   .rw[if_neg h,if_neg (fun e=>h e.symm)];rfl
theorem abb(s:St)(d:Option Nat)(x:AV)(e:Ef)(p:Name):(s.go d x e).hp p=(wl e.wr p).getD (s.hp p):=by
 unfold St.go;rw[Oy];rfl
theorem Jt:∀{wr:List (Name×Option Ob)} {p:Name} {v:Option Ob},wl wr p=some v->p∈wr.map (·.1)
 |[],_,_,h=>by cases h
 |q::r,p,v,h=>by
   unfold wl at h
   cases hr:wl r p with
   |some u=>exact ald _ (Jt hr)
   |none =>
     rw[hr]at h;simp only at h;split at h
     .rename_i e;rw[e];exact alb
     .cases h
structure rW(ops:Array Oper)(xs:Nat->AV)(fs:Nat->Fp)(s:St)(L:List Nat)(s':St):Prop where
 used:∀y,y∈s'.used↔y∈s.used∨∃k∈L,y∈(fs k).2.nu
 slot:∀t,(∃k∈L,eg ops k=some t∧s'.fr t=xs k)∨((∀k∈L,eg ops k≠some t)∧s'.fr t=s.fr t)
 heap:∀p,(∃k∈L,∃v,wl (fs k).2.wr p=some v∧(∀k'∈L,(∃v',wl (fs k').2.wr p=some v')->k'<=k)∧s'.hp p=v)∨((∀k∈L,wl (fs k).2.wr p=none)∧s'.hp p=s.hp p)
theorem rW.nil(xs:Nat->AV)(fs:Nat->Fp)(s:St):rW ops xs fs s [] s:=⟨fun _=>by simp,fun _=>.inr ⟨by simp,rfl⟩,fun _=>.inr ⟨by simp,rfl⟩⟩
theorem rW.snoc{xs:Nat->AV}{fs:Nat->Fp}{s s':St}{L:List Nat}{i:Nat}(h:rW ops xs fs s L s')(hw:∀k∈L,∀p v v',wl (fs k).2.wr p=some v->wl (fs i).2.wr p=some v'->k<=i) :
  rW ops xs fs s (L++[i]) (s'.go (eg ops i) (xs i) (fs i).2):=by
 refine⟨fun y=>?_,fun t=>?_,fun p=>?_⟩
 .rw[aa8,ak1,h.used y];constructor
  .rintro(h1|h1|⟨k,hk,h1⟩)
   .exact .inr ⟨i,by simp,h1⟩
   .exact .inl h1
   .exact .inr ⟨k,alm _ hk,h1⟩
  .rintro(h1|⟨k,hk,h1⟩)
   .exact .inr (.inl h1)
   .rcases ak1.1 hk with hk|hk
    .exact .inr (.inr ⟨k,hk,h1⟩)
    .rw[ak3.1 hk]at h1;exact .inl h1
 .rw[aa9];by_cases hd:eg ops i=some t
  .exact .inl ⟨i,by simp,hd,by rw[if_pos hd]⟩
  .rw[if_neg hd];rcases h.slot t with⟨k,hk,h1,h2⟩|⟨h1,h2⟩
   .exact .inl ⟨k,alm _ hk,h1,h2⟩
   .refine .inr ⟨fun k hk=>?_,h2⟩;rcases ak1.1 hk with hk|hk
    .exact h1 k hk
    .rw[ak3.1 hk];exact hd
 .rw[abb]
  cases he:wl (fs i).2.wr p with
  |some o =>
    refine .inl ⟨i,by simp,o,he,fun k' aC ⟨o',aV⟩=>?_,rfl⟩;rcases ak1.1 aC with aC|aC
    .exact hw k' aC p o' o aV he
    .rw[ak3.1 aC];exact ali _
  |none =>
    show _∨(_∧s'.hp p=_)
    rcases h.heap p with⟨k,hk,o,h1,h2,h3⟩|⟨h1,h2⟩
    .refine .inl ⟨k,alm _ hk,o,h1,fun k' aC aV=>?_,h3⟩;rcases ak1.1 aC with aC|aC
     .exact h2 k' aC aV
     .rw[ak3.1 aC,he]at aV;obtain⟨_,aV⟩:=aV;cases aV
    .refine .inr ⟨fun k hk=>?_,h2⟩;rcases ak1.1 hk with hk|hk
     .exact h1 k hk
     .rw[ak3.1 hk];exact he
inductive qT(ops:Array Oper):Nat->Nat->Prop
 |one {i:Nat} {o:Oper} {e:Edge} (ho:ops[i]?=some o) (he:e∈o.after) (hb:Region.binds .any e=true):qT ops i e.on
 |tr {i:Nat} {o:Oper} {e:Edge} {k:Nat} (ho:ops[i]?=some o) (he:e∈o.after) (hb:Region.binds .any e=true) (h:qT ops e.on k):qT ops i k
def zr(acc:List (List Nat))(o:Oper):List Nat:=((o.after.toList.filter (Region.binds .any)).flatMap fun e=>e.on::acc.getD e.on []).eraseDups
def zt:List (List Nat)->List Oper->List (List Nat)
 |acc,[]=>acc
 |acc,o::r=>zt (acc++[zr acc o]) r
theorem Ju:∀(r:List Oper) (acc:List (List Nat)),(∀j,r[j]?=ops[acc.length+j]?)->(∀i k,k∈acc.getD i []->qT ops i k)->∀i k,k∈(zt acc r).getD i []->qT ops i k
 |[],_,_,h=>h
 |o::r,acc,hr,h=>by
   refine Ju r (acc++[zr acc o]) (fun j=>?_) (fun i k hk=>?_)
   .have:=hr (j+1);rw[List.getElem?_cons_succ]at this;rw[this,ak4,List.length_singleton,show acc.length+(j+1)=acc.length+1+j by omega]
   .have ho:ops[acc.length]?=some o:=by simpa using(hr 0).symm
    by_cases hi:i<acc.length
    .refine h i k ?_;rw[akX,alj hi]at hk;rw[akX];exact hk
    .by_cases oM:i=acc.length
     .subst oM;have:(acc++[zr acc o]).getD acc.length []=zr acc o:=by simp
      rw[this]at hk;unfold zr at hk;rw[List.mem_eraseDups,anE]at hk;obtain⟨e,he,hk⟩:=hk;rw[aly]at he;have Pa:e∈o.after:=ank.1 he.1;rcases alc.1 hk with rfl|hk
      .exact .one ho Pa he.2
      .exact .tr ho Pa he.2 (h _ _ hk)
     .have:(acc++[zr acc o]).getD i []=[]:=by
       rw[akX,alN (by simp;omega)];rfl
      rw[this]at hk;cases hk
theorem Fg{listed:Array Bool}{L:List Nat}(hu:Up ops listed L){i k:Nat}(h:qT ops i k):i∈L->k∈L:=by
 induction h with
 |one ho he hb=>exact fun hi=>hu.closed _ hi _ ho _ he hb
 |tr ho he hb _ ih=>exact fun hi=>ih (hu.closed _ hi _ ho _ he hb)
theorem Jv{listed:Array Bool}{L:List Nat}(hu:Up ops listed L){i k:Nat}{o:Oper}(ho:ops[i]?=some o)(hw:∀e∈o.after,Region.binds .any e=true->e.on∈L)(h:qT ops i k):k∈L:=by
 cases h with
 |one aV he hb =>
   rw[ho]at aV;cases aV;exact hw _ he hb
 |tr aV he hb h2 =>
   rw[ho]at aV;cases aV;exact Fg hu h2 (hw _ he hb)
def Cd(A:List (List Nat))(i k:Nat):Bool:=(decide (k<i)&&(A.getD i []).contains k)||(decide (i<k)&&(A.getD k []).contains i)
def fc(ops:Array Oper)(ns:Ns):Bool :=
 let A:=zt [] ops.toList
 (List.range ops.size).all fun i =>
  (match ops[i]? with
   |some o=>o.after.toList.all fun e=>!Region.binds .any e||decide (e.on<i)
   |none=>true) &&
  (List.range ops.size).all fun k =>
   (match eg ops k with
    |none=>true
    |some t=>(decide (i=k)||eg ops i != some t)&&(!(vT ops i).contains t||Cd A i k)) &&
   ((ns.getD k ([],[],[])).2.1.all fun p=>decide (i=k)||(!(ns.getD i ([],[],[])).1.contains p&&!(ns.getD i ([],[],[])).2.1.contains p)||Cd A i k) &&
   ((ns.getD k ([],[],[])).2.2.all fun y=>decide (i=k)||!(ns.getD i ([],[],[])).2.2.contains y)
def Ce(ops:Array Oper)(i k:Nat):Prop:=(k<i∧qT ops i k)∨(i<k∧qT ops k i)
theorem Pb{i k:Nat}(h:Cd (zt [] ops.toList) i k=true):Ce ops i k:=by
 have hs:=Ju (ops:=ops) ops.toList [] (fun j=>by simp) (fun i k hk=>by simp at hk);simp only[Cd,alF,ak7,decide_eq_true_eq,am4]at h;obtain⟨h1,h2⟩|⟨h1,h2⟩:=h
 .exact .inl ⟨h1,hs _ _ h2⟩
 .exact .inr ⟨h1,hs _ _ h2⟩
section
variable {ns:Ns}(h:fc ops ns=true)
include h
theorem Pc{i:Nat}{o:Oper}(ho:ops[i]?=some o):∀e∈o.after,Region.binds .any e=true->e.on<i:=by
 intro e he hb
 have hi:i<ops.size:=by
  rcases alP i ops.size with hlt|cK
  .exact hlt
  .rw[alT cK]at ho;cases ho
 have h2:=alr.1 h i (alw.2 hi);simp only[ho,ak7]at h2;have h3:=alr.1 h2.1 e (ank.2 he);simpa[hb]using h3
theorem zu{i k:Nat}(hi:i<ops.size)(hk:k<ops.size):(∀t,eg ops k=some t->(i=k∨eg ops i≠some t)∧(t∈vT ops i->Ce ops i k)) ∧
  (∀p,p∈(ns.getD k ([],[],[])).2.1->i=k∨(p∉(ns.getD i ([],[],[])).1∧p∉(ns.getD i ([],[],[])).2.1)∨Ce ops i k) ∧
  ∀y,y∈(ns.getD k ([],[],[])).2.2->i=k∨y∉(ns.getD i ([],[],[])).2.2:=by
 have h2:=alr.1 h i (alw.2 hi);simp only[ak7]at h2;have h3:=alr.1 h2.2 k (alw.2 hk);simp only[ak7]at h3;refine⟨fun t ht=>?_,fun p hp=>?_,fun y hy=>?_⟩
 .have h4:=h3.1.1;rw[ht]at h4;simp only[ak7,alF,decide_eq_true_eq,bne_iff_ne,ne_eq,alH,am4,decide_eq_false_iff_not]at h4;exact⟨h4.1,fun hl=>h4.2.elim (fun h5=>absurd hl h5) Pb⟩
 .have h4:=alr.1 h3.1.2 p hp;simp only[alF,ak7,decide_eq_true_eq,alH,am4,decide_eq_false_iff_not]at h4;obtain(h4|h4)|h4:=h4
  .exact .inl h4
  .exact .inr (.inl h4)
  .exact .inr (.inr (Pb h4))
 .have h4:=alr.1 h3.2 y hy;simp only[alF,decide_eq_true_eq,alH,am4,decide_eq_false_iff_not]at h4;exact h4
end
theorem Jw{K:St->Ns->Prop}:∀(r:List Oper) (i:Nat) (s:St) (ns:Ns),(∀j,(r[j]?=ops[i+j]?))->ja P cf ops K r s ns ->
  ∃(xs:Nat->AV) (fs:Nat->Fp),K (jb ops xs fs (List.range' i r.length) s) (ns++(List.range' i r.length).map fun j=>ju (fs j))∧∀j o,i<=j->ops[j]?=some o->xJ P cf ops j o (jb ops xs fs (List.range' i (j-i)) s) (xs j) (fs j)
 |[],i,s,ns,hr,h=>⟨fun _=>.un,fun _=>([],bT),by simpa[ja,jb]using h,fun j o cx ho=>by
  have:=hr (j-i);rw[show i+(j-i)=j by omega,ho]at this
  simp at this⟩
 |o::r,i,s,ns,hr,h=>by
   have hi:ops[i]?=some o:=by simpa using(hr 0).symm
   obtain⟨x,f,hf,h2⟩:=aa7 hi h;obtain⟨xs,fs,hK,hall⟩:=Jw r (i+1) _ _ (fun j=>by have:=hr (j+1);rw[List.getElem?_cons_succ]at this;rw[this,show i+(j+1)=i+1+j by omega]) h2;obtain⟨ys,ic⟩:∃ys:Nat->AV,ys=fun j=>if j=i then x else xs j:=⟨_,rfl⟩
   obtain⟨gs,p5⟩:∃gs:Nat->Fp,gs=fun j=>if j=i then f else fs j:=⟨_,rfl⟩
   have hd:eg ops i=o.dst:=by simp[eg,hi]
   have e1:∀(n k:Nat) (s:St),i<k->jb ops ys gs (List.range' k n) s=jb ops xs fs (List.range' k n) s:=by
    intro n
    induction n with
    |zero=>intros;rfl
    |succ n ih =>
      intro k s hk;rw[List.range'_succ,jb,jb,ih (k+1) _ (by omega),ic,p5];simp only[if_neg (show¬k=i by omega)]
   have e2:∀(n k:Nat),i<k->((List.range' k n).map fun j=>ju (gs j))=(List.range' k n).map fun j=>ju (fs j):=by
    intro n k hk;refine alI fun j hj=>?_;rw[amt]at hj;rw[p5];simp only[if_neg (show¬j=i by omega)]
   have mG:ys i=x:=by rw[ic];simp
   have lh:gs i=f:=by rw[p5];simp
   refine⟨ys,gs,?_,fun j o' cx aV=>?_⟩
   .rw[List.length_cons,List.range'_succ,jb,hd,mG,lh,e1 _ _ _ (by omega),alf,lh,e2 _ _ (by omega)];simpa using hK
   .rcases alP i j with hlt|cK
    .have:=hall j o' (by omega) aV;rw[show j-i=(j-(i+1))+1 by omega,List.range'_succ,jb,hd,mG,lh,e1 _ _ _ (by omega)];rw[show ys j=xs j by rw[ic];simp only[if_neg (show¬j=i by omega)],show gs j=fs j by rw[p5];simp only[if_neg (show¬j=i by omega)]];exact this
    .have:j=i:=by omega
     subst this;rw[hi]at aV;cases aV;rw[am5,mG,lh];exact hf
section
variable {xs:Nat->AV}{fs:Nat->Fp}{s:St}{ns:Ns}(hq:fc ops ns=true)(jG:∀i,i<ops.size->ns.getD i ([],[],[])=ju (fs i))
include hq jG
theorem Jy{i k:Nat}(hi:i<ops.size)(hk:k<ops.size)(aB:i≠k){p:Name}{v:Option Ob}(hw:wl (fs k).2.wr p=some v)(hl:p∈(fs i).1∨∃v',wl (fs i).2.wr p=some v'):Ce ops i k:=by
 have h1:=(zu hq hi hk).2.1 p (by rw[jG k hk];exact Jt hw);obtain h1|⟨h1,h2⟩|h1:=h1
 .exact absurd h1 aB
 .rw[jG i hi]at h1 h2;obtain hl|⟨v',hl⟩:=hl
  .exact absurd hl h1
  .exact absurd (Jt hl) h2
 .exact h1
omit hq jG in
theorem Pd:∀n,n<=ops.size->rW ops xs fs s (List.range' 0 n) (jb ops xs fs (List.range' 0 n) s):=by
 intro n
 induction n with
 |zero=>exact fun _=>.nil _ _ _
 |succ n ih =>
   intro hn;have:=(ih (by omega)).snoc (i:=n) (fun k hk _ _ _ _ _=>by rw[amt]at hk;omega);rw[List.range'_concat,Nat.one_mul,alC,O9];exact this
theorem Pe{listed:Array Bool}{L:List Nat}(hu:Up ops listed L){s':St}(hL:rW ops xs fs s L s'){i:Nat}{o:Oper}(ho:ops[i]?=some o)(hi:i∉L)
  (hw:∀e∈o.after,Region.binds .any e=true->e.on∈L) (oD:∀y∈(fs i).2.nu,y∉(jb ops xs fs (List.range' 0 (i-0)) s).used):zq (o.looksAt ops) (fs i) (jb ops xs fs (List.range' 0 (i-0)) s) s':=by
 have hlt:i<ops.size:=by
  rcases alP i ops.size with hlt|cK
  .exact hlt
  .rw[alT cK]at ho;cases ho
 rw[Nat.sub_zero]at oD ⊢;have hT:=Pd (ops:=ops) (fs:=fs) (s:=s) (xs:=xs) i (by omega)
 have go:∀k,Ce ops i k->(k<i↔k∈L):=fun k hb=>by
  obtain⟨h1,h2⟩|⟨h1,h2⟩:=hb
  .exact⟨fun _=>Jv hu ho hw h2,fun _=>h1⟩
  .exact⟨fun h=>by omega,fun h=>absurd (Fg hu h2 h) hi⟩
 have cY:∀a b t,eg ops a=some t->eg ops b=some t->a=b:=fun a b t ha hb =>
  ((zu hq (sT ha) (sT hb)).1 t hb).1.elim id (fun h=>absurd ha h)
 refine⟨fun y hy qD=>?_,fun p hp=>?_,fun t ht=>?_⟩
 .rcases(hL.used y).1 qD with h1|⟨k,hk,h1⟩
  .exact oD y hy ((hT.used y).2 (.inl h1))
  .rcases(zu hq hlt (hu.lt k hk)).2.2 y (by rw[jG k (hu.lt k hk)];exact h1)with h2|h2
   .exact hi (h2▸hk)
   .rw[jG i hlt]at h2;exact h2 hy
 .have key:∀k,k<ops.size->∀ob,wl (fs k).2.wr p=some ob->i≠k->(k<i↔k∈L):=fun k hk ob dx aB=>go k (Jy hq jG hlt hk aB dx (.inl hp));rcases hT.heap p with⟨k,hk,ob,h1,h2,h3⟩|⟨h1,h2⟩
  .rw[amt]at hk;have vU:k∈L:=(key k (by omega) ob h1 (by omega)).1 (by omega);rcases hL.heap p with⟨k2,eZ,xK,g1,g2,g3⟩|⟨g1,_⟩
   .have abd:k2<i:=(key k2 (hu.lt k2 eZ) xK g1 (fun e=>hi (e▸eZ))).2 eZ;have a1:=h2 k2 (by rw[amt];omega) ⟨xK,g1⟩;have a2:=g2 k vU ⟨ob,h1⟩;have:k=k2:=by omega
    subst this;rw[h1]at g1;cases g1;rw[g3,h3]
   .rw[g1 k vU]at h1;cases h1
  .rcases hL.heap p with⟨k2,eZ,xK,g1,_,_⟩|⟨_,g2⟩
   .have abd:k2<i:=(key k2 (hu.lt k2 eZ) xK g1 (fun e=>hi (e▸eZ))).2 eZ;rw[h1 k2 (by rw[amt];omega)]at g1;cases g1
   .rw[g2,h2]
 .have k8:t∈vT ops i:=by unfold vT;rw[ho];exact ht
  rcases hT.slot t with⟨k,hk,h1,h2⟩|⟨h1,h2⟩
  .rw[amt]at hk;have vU:k∈L:=(go k (((zu hq hlt (sT h1)).1 t h1).2 k8)).1 (by omega);rcases hL.slot t with⟨k2,_,g1,g2⟩|⟨g1,_⟩
   .rw[h2,g2,cY k k2 t h1 g1]
   .exact absurd h1 (g1 k vU)
  .rcases hL.slot t with⟨k2,eZ,g1,_⟩|⟨_,g2⟩
   .have:=(go k2 (((zu hq hlt (sT g1)).1 t g1).2 k8)).2 eZ;exact absurd g1 (h1 k2 (by rw[amt];omega))
   .rw[g2,h2]
omit jG in
theorem Pf{L:List Nat}{s':St}(hL:rW ops xs fs s L s')(hlt:∀j∈L,j<ops.size)(hall:∀j,j<ops.size->j∈L):(s'.hp=(jb ops xs fs (List.range' 0 ops.size) s).hp∧s'.fr=(jb ops xs fs (List.range' 0 ops.size) s).fr)∧∀y,y∈s'.used↔y∈(jb ops xs fs (List.range' 0 ops.size) s).used:=by
 have hT:=Pd (ops:=ops) (fs:=fs) (s:=s) (xs:=xs) ops.size (ali _)
 have cY:∀a b t,eg ops a=some t->eg ops b=some t->a=b:=fun a b t ha hb =>
  ((zu hq (sT ha) (sT hb)).1 t hb).1.elim id (fun h=>absurd ha h)
 have hm:∀k,k∈L↔k∈List.range' 0 ops.size:=fun k=>by
  rw[amt];exact⟨fun h=>by have:=hlt k h;omega,fun h=>hall k (by omega)⟩
 refine⟨⟨funext fun p=>?_,funext fun t=>?_⟩,fun y=>?_⟩
 .rcases hT.heap p with⟨k,hk,ob,h1,h2,h3⟩|⟨h1,h2⟩
  .rcases hL.heap p with⟨k2,eZ,xK,g1,g2,g3⟩|⟨g1,_⟩
   .have a1:=h2 k2 ((hm k2).1 eZ) ⟨xK,g1⟩;have a2:=g2 k ((hm k).2 hk) ⟨ob,h1⟩;have:k=k2:=by omega
    subst this;rw[h1]at g1;cases g1;rw[g3,h3]
   .rw[g1 k ((hm k).2 hk)]at h1;cases h1
  .rcases hL.heap p with⟨k2,eZ,xK,g1,_,_⟩|⟨_,g2⟩
   .rw[h1 k2 ((hm k2).1 eZ)]at g1;cases g1
   .rw[g2,h2]
 .rcases hT.slot t with⟨k,hk,h1,h2⟩|⟨h1,h2⟩
  .rcases hL.slot t with⟨k2,_,g1,g2⟩|⟨g1,_⟩
   .rw[h2,g2,cY k k2 t h1 g1]
   .exact absurd h1 (g1 k ((hm k).2 hk))
  .rcases hL.slot t with⟨k2,eZ,g1,_⟩|⟨_,g2⟩
   .exact absurd g1 (h1 k2 ((hm k2).1 eZ))
   .rw[g2,h2]
 .rw[hL.used y,hT.used y];refine or_congr_right ⟨?_,?_⟩
  .rintro⟨k,hk,h1⟩;exact⟨k,(hm k).1 hk,h1⟩
  .rintro⟨k,hk,h1⟩;exact⟨k,(hm k).2 hk,h1⟩
omit jG in
theorem abe{listed:Array Bool}{L:List Nat}(hu:Up ops listed L)(hr:Region.ready .any ops listed=[]):∀j,j<ops.size->j∈L:=by
 intro j
 induction j using Nat.strongRecOn with
 |ind j ih =>
   intro hlt;apply amj;intro hn;obtain⟨o,ho⟩:∃o,ops[j]?=some o:=⟨ops[j],by simp⟩
   have:j∈Region.ready .any ops listed:=by
    rw[mem_ready];refine⟨?_,o,ho,fun e he hb=>?_⟩
    .have:=hu.mem j hlt;have hl:j<listed.size:=by rw[hu.size];exact hlt
     cases hv:listed[j]with
     |true=>exact absurd (this.1 (by simp[hl,hv])) hn
     |false=>simp[hl,hv]
    .have h2:=Pc hq ho e he hb;have h3:=(hu.mem e.on (by omega)).2 (ih e.on h2 (by omega));simp[h3]
   rw[hr]at this;cases this
theorem abf{B:Base}(hB:cf.fits B){ds:List Deferred}{Q:Exit->Act->World->Prop}
  (hall:∀j o,ops[j]?=some o->xJ P cf ops j o (jb ops xs fs (List.range' 0 (j-0)) s) (xs j) (fs j))
  (hK:∀β a w,a.defers=ds->aj B β (jb ops xs fs (List.range' 0 ops.size) s) a.tmps w->Q .normal a w) :
  ∀(fuel:Nat) (listed:Array Bool) (L:List Nat) (s':St) (β:Name->Option a8) (a:Act) (w:World),Up ops listed L->L.Nodup->ops.size<=fuel+L.length->a.defers=ds->rW ops xs fs s L s'->aj B β s' a.tmps w ->
   wpAnyIn (Fw cf.ro) 0 P .any ops Q fuel listed a w:=by
 have fin:∀(listed:Array Bool) (L:List Nat) (s':St) (β:Name->Option a8) (a:Act) (w:World),Up ops listed L->a.defers=ds->rW ops xs fs s L s'->aj B β s' a.tmps w->Region.ready .any ops listed=[]->Q .normal a w:=by
  intro listed L s' β a w hu ai hL hs hr;obtain⟨⟨e1,e2⟩,e3⟩:=Pf hq hL hu.lt (abe hq hu hr);exact hK β a w ai (hs.reuse e1.symm e2.symm e3)
 intro fuel
 induction fuel with
 |zero =>
   intro listed L s' β a w hu hnd hn ai hL hs
   have hr:Region.ready .any ops listed=[]:=by
    apply anb.2;intro j hj;obtain⟨h0,o,ho,_⟩:=mem_ready.1 hj
    have hlt:j<ops.size:=by
     rcases alP j ops.size with hlt|cK
     .exact hlt
     .rw[alT cK]at ho;cases ho
    have I2:j∈L:=by
     apply amj;intro iH
     have dL:(j::L).length<=ops.size:=by
      refine BO ops.size (j::L) (alW.2 ⟨iH,hnd⟩) fun x hx=>?_;rcases alc.1 hx with rfl|hx
      .exact hlt
      .exact hu.lt x hx
     simp only[List.length_cons]at dL;omega
    have h3:=(hu.mem j hlt).2 I2;simp[h3]at h0
   exact⟨hr,fin listed L s' β a w hu ai hL hs hr⟩
 |succ fuel ih =>
   intro listed L s' β a w hu hnd hn ai hL hs;refine⟨fun hr=>fin listed L s' β a w hu ai hL hs hr,fun i hi=>?_⟩;obtain⟨h0,o,ho,hw⟩:=mem_ready.1 hi
   have hlt:i<ops.size:=by
    rcases alP i ops.size with hlt|cK
    .exact hlt
    .rw[alT cK]at ho;cases ho
   have qN:i∉L:=fun h=>by
    have h3:=(hu.mem i hlt).2 h;simp[h3]at h0
   have qO:∀e∈o.after,Region.binds .any e=true->e.on∈L:=fun e he hb=>by
    have h1:=hw e he hb;have h2:=Pc hq ho e he hb;refine(hu.mem e.on (by omega)).1 ?_;have hl:e.on<listed.size:=by rw[hu.size];omega
    simp[hl]at h1;simp[hl,h1]
   have hd:eg ops i=o.dst:=by simp[eg,ho]
   refine wpOpIn_mono (fun a' w' ⟨dP,β',bm⟩=>ih (listed.setIfInBounds i true) (L++[i]) _ β' a' w' ?_ ?_ ?_ dP (hd▸hL.snoc ?_) bm) ((hall i o ho).2 _ (Pe hq jG hu hL ho qN qO (hall i o ho).1) B hB ds β a w ai hs Q)
   .refine⟨by simpa using hu.size,fun j hj=>?_,fun j hj=>?_,fun j hj o' aV e he hb=>?_⟩
    .have hl:j<listed.size:=by rw[hu.size];exact hj
     by_cases cx:i=j
     .subst cx;simp[hl]
     .rw[amG cx,hu.mem j hj];simp[Ne.symm cx]
    .rcases ak1.1 hj with hj|hj
     .exact hu.lt j hj
     .rw[ak3.1 hj];exact hlt
    .rcases ak1.1 hj with hj|hj
     .exact alm _ (hu.closed j hj o' aV e he hb)
     .rw[ak3.1 hj,ho]at aV;cases aV;exact alm _ (qO e he hb)
   .rw[alZ];exact⟨hnd,by simp,fun x hx y hy=>by rw[ak3.1 hy];rintro rfl;exact qN hx⟩
   .simp only[ak4,List.length_singleton];omega
   .intro k hk p o1 o2 h1 h2;have aB:i≠k:=fun e=>qN (e▸hk);rcases Jy hq jG hlt (hu.lt k hk) aB h1 (.inr ⟨o2,h2⟩)with⟨h3,_⟩|⟨_,h4⟩
    .omega
    .exact absurd (Fg hu h4 hk) qN
end
theorem abg{id:Nat}{l:List Oper}{s:St}{k:List It}{Q:Exit->St->Prop}(hm:P.follows .mixedOrders=true)(h:ja P cf l.toArray (fun s' ns=>fc l.toArray ns=true∧run P cf k Q s') l s []) :
  rH P cf (.region id l.toArray true) s k Q:=by
 obtain⟨xs,fs,⟨hq,hK⟩,hall⟩:=Jw (ops:=l.toArray) l 0 s [] (fun j=>by simp) h;intro B hB ds β a w ai hs;refine wpIn_region_any hm ?_
 have jG:∀i,i<l.toArray.size->(([]:Ns)++(List.range' 0 l.length).map fun j=>ju (fs j)).getD i ([],[],[])=ju (fs i):=by
  intro i hi;have hi:i<l.length:=by simpa using hi
  simp[hi]
 refine abf (ops:=l.toArray) hq jG hB (ds:=ds) (fun j o ho=>hall j o (ale _) ho) (fun β a w ai hs=>eB hK B hB ds β a w ai (by simpa using hs)) _ _ [] s β a _ ?_ anx (by simp) ai (.nil _ _ _) (hs.xe rfl rfl);refine⟨by simp,fun j hj=>?_,by simp,by simp⟩;have hj:j<l.length:=by simpa using hj
 simp[hj]
end
end Go.Ab
namespace Go.Ab
section
variable (P:Program)(cf:Cf)(ops:Array Oper)(K:St->Ns->Prop)
def Jz(x:R (AV×Ef))(o:Oper)(r:List Oper)(s:St)(ns:Ns):Prop :=
 zp x (fun x=>dS cf.n o.dst∧ja P cf ops K r (s.go o.dst x.1 x.2) (ns++[ju (qR s o.op,x.2)])) (∃x f,QE P cf o s x f∧(∀y∈f.2.nu,y∉s.used)∧dS cf.n o.dst∧ja P cf ops K r (s.go o.dst x f.2) (ns++[ju f]))
def zw(v:Option (Nat×AV))(want:Bool)(o:Oper)(r:List Oper)(s:St)(ns:Ns):Prop :=
 match v with
 |some (t,.d (.bool b)) =>
   (b=want->Jz P cf ops K (cZ P.ti o.op o.dst (s.put t (.d (.bool want)))) o r (s.put t (.d (.bool want))) ns) ∧
   (b=!want->dS cf.n o.dst∧ja P cf ops K r ((s.put t (.d (.bool (!want)))).go o.dst (.az []) bT) (ns++[([],[],[])]))
 |some (_,.az [])=>dS cf.n o.dst∧ja P cf ops K r (s.go o.dst (.az []) bT) (ns++[([],[],[])])
 |_=>False
abbrev abh(_:Oper)(_:List Oper)(_:St)(_:Ns):Type 1:=R (AV×Ef)
abbrev abj(_:Bool)(_:Oper)(_:List Oper)(_:St)(_:Ns):Type:=Option (Nat×AV)
abbrev abk(_:Option Nat)(_:AV)(_:List Oper):Type:=Ef
structure nN where
 run:(r:List Oper)->OG r->Ns->Prop
 bc:(o:Oper)->(r:List Oper)->(s:St)->(ns:Ns)->abh o r s ns->Prop
 gd:(w:Bool)->(o:Oper)->(r:List Oper)->(s:St)->(ns:Ns)->abj w o r s ns->Prop
 pt:(d:Option Nat)->(x:AV)->(r:List Oper)->abk d x r->St->Ns->Prop
 run_eq:∀r (s:St) ns,run r s ns=ja P cf ops K r s ns
 fk:∀(x:R (AV×Ef)) o r s ns,bc o r s ns x=Jz P cf ops K x o r s ns
 iG:∀(v:Option (Nat×AV)) w o r s ns,gd w o r s ns v=zw P cf ops K v w o r s ns
 nH:∀d x (e:Ef) r s ns,pt d x r e s ns=(dS cf.n d∧ja P cf ops K r (s.go d x e) ns)
theorem Pg:Nonempty (nN P cf ops K) :=
 ⟨⟨ja P cf ops K,fun o r s ns x=>Jz P cf ops K x o r s ns,fun w o r s ns v=>zw P cf ops K v w o r s ns,fun d x r e s ns=>dS cf.n d∧ja P cf ops K r (s.go d x e) ns,fun _ _ _=>rfl,fun _ _ _ _ _=>rfl,fun _ _ _ _ _ _=>rfl,fun _ _ _ _ _ _=>rfl⟩⟩
end
section
variable {P:Program}{cf:Cf}{ops:Array Oper}{K:St->Ns->Prop}(E:nN P cf ops K)(s:St)(o:Oper)(r:List Oper)(ns:Ns)
theorem abl:E.run [] s ns=K s ns:=by rw[E.run_eq];rfl
theorem abm(d:Option Nat)(op:Op)(ty:Nat)(p:String)(e:Array Edge) :
 E.run ({ dst:=d,op:=op,type:=ty,pos:=p,after:=e,guard:=none }::r) s ns=E.bc { dst:=d,op:=op,type:=ty,pos:=p,after:=e,guard:=none } r s ns (cZ P.ti op d s):=by rw[E.run_eq,E.fk];rfl
theorem abn(d:Option Nat)(op:Op)(ty:Nat)(p:String)(e:Array Edge)(j:Nat)(want:Bool) :
 E.run ({ dst:=d,op:=op,type:=ty,pos:=p,after:=e,guard:=some (j,want) }::r) s ns=E.gd want { dst:=d,op:=op,type:=ty,pos:=p,after:=e,guard:=some (j,want) } r s ns (pL ops j s):=by rw[E.run_eq,E.iG];rfl
theorem abo(x:AV)(e:Ef):E.bc o r s ns (.ok (x,e))=E.pt o.dst x r e s (ns++[ju (qR s o.op,e)]):=by rw[E.fk,E.nH];rfl
theorem abp(p:Prop)(x:R (AV×Ef)):E.bc o r s ns (.need p x)=(p∧E.bc o r s ns x):=by rw[E.fk,E.fk];rfl
theorem abq(t:Nat)(x:AV)(h:t<cf.n):E.pt (some t) x r bT s ns=E.run r (s.put t x) ns:=by rw[E.nH,E.run_eq];simp[dS,h,St.go,Jn,St.cU]
theorem abr(t:Nat)(x:AV)(p:Name)(q:Option Ob)(h:t<cf.n):E.pt (some t) x r ⟨[(p,q)],[]⟩ s ns=E.run r ((s.set p q).put t x) ns:=by rw[E.nH,E.run_eq];simp[dS,h,St.go,zo,St.cU]
theorem abt(x:AV)(p:Name)(q:Option Ob):E.pt none x r ⟨[(p,q)],[]⟩ s ns=E.run r (s.set p q) ns:=by rw[E.nH,E.run_eq];simp[dS,St.go,zo,St.cU]
theorem abu(t:Nat)(x:AV)(u:Nat)(ob:Ob)(h:t<cf.n):E.pt (some t) x r ⟨[([u],some ob)],[u]⟩ s ns=E.run r ((s.add u ob).put t x) ns:=by rw[E.nH,E.run_eq];simp[dS,h,St.go,xI,St.cU]
theorem abv(t:Nat)(x:AV)(p:Name)(u:Nat)(ob:Ob)(h:t<cf.n):E.pt (some t) x r ⟨[(p,none),([u],some ob)],[u]⟩ s ns=E.run r (((s.set p none).add u ob).put t x) ns:=by rw[E.nH,E.run_eq];simp[dS,h,St.go,Jo,St.cU]
theorem JA(t:Nat):E.gd true o r s ns (some (t,.d (.bool true)))=E.bc o r (s.put t (.d (.bool true))) ns (cZ P.ti o.op o.dst (s.put t (.d (.bool true)))):=by rw[E.iG,E.fk];simp[zw]
theorem JB(t:Nat):E.gd false o r s ns (some (t,.d (.bool false)))=E.bc o r (s.put t (.d (.bool false))) ns (cZ P.ti o.op o.dst (s.put t (.d (.bool false)))):=by rw[E.iG,E.fk];simp[zw]
theorem JC(t:Nat):E.gd false o r s ns (some (t,.d (.bool true)))=E.pt o.dst (.az []) r bT (s.put t (.d (.bool true))) (ns++[([],[],[])]):=by rw[E.iG,E.nH];simp[zw]
theorem JD(t:Nat):E.gd true o r s ns (some (t,.d (.bool false)))=E.pt o.dst (.az []) r bT (s.put t (.d (.bool false))) (ns++[([],[],[])]):=by rw[E.iG,E.nH];simp[zw]
theorem abw(t:Nat)(want:Bool):E.gd want o r s ns (some (t,.az []))=E.pt o.dst (.az []) r bT s (ns++[([],[],[])]):=by rw[E.iG,E.nH];rfl
variable {s o r ns}
theorem abx(l:List Name):ju (l,bT)=(l,[],[]):=rfl
theorem aby(l:List Name)(wr:List (Name×Option Ob))(nu:List Nat):ju (l,⟨wr,nu⟩)=(l,wr.map (·.1),nu):=rfl
attribute [go_sem] abl abm abn abo abp abq abr abt abu abv JA JB JC JD abw abx aby qR fS qS mK sY jl List.cons_append List.nil_append
section
variable (tf:Nat->TI)
theorem abz(dd:Option Nat)(s:St)(x):cZ tf (.move x) dd s=(cM tf (.move x) s).bind fun x=>.ok (x,bT):=rfl
theorem abA(dd:Option Nat)(s:St)(x):cZ tf (.assign x) dd s=(cM tf (.assign x) s).bind fun x=>.ok (x,bT):=rfl
theorem abB(dd:Option Nat)(s:St)(a b c):cZ tf (.pick a b c) dd s=(cM tf (.pick a b c) s).bind fun x=>.ok (x,bT):=rfl
theorem abD(dd:Option Nat)(s:St)(a b):cZ tf (.build a b) dd s=(cM tf (.build a b) s).bind fun x=>.ok (x,bT):=rfl
theorem abE(dd:Option Nat)(s:St)(a b):cZ tf (.load a b) dd s=(cM tf (.load a b) s).bind fun x=>.ok (x,bT):=rfl
theorem abF(dd:Option Nat)(s:St)(a b c):cZ tf (.fieldAddr a b c) dd s=(cM tf (.fieldAddr a b c) s).bind fun x=>.ok (x,bT):=rfl
theorem abG(dd:Option Nat)(s:St)(a b c):cZ tf (.field a b c) dd s=(cM tf (.field a b c) s).bind fun x=>.ok (x,bT):=rfl
theorem abH(dd:Option Nat)(s:St)(a b c):cZ tf (.indexAddr a b c) dd s=(cM tf (.indexAddr a b c) s).bind fun x=>.ok (x,bT):=rfl
theorem abI(dd:Option Nat)(s:St)(a b c):cZ tf (.index a b c) dd s=(cM tf (.index a b c) s).bind fun x=>.ok (x,bT):=rfl
theorem abJ(dd:Option Nat)(s:St)(a b c d e):cZ tf (.slice a b c d e) dd s=(cM tf (.slice a b c d e) s).bind fun x=>.ok (x,bT):=rfl
theorem abK(dd:Option Nat)(s:St)(a b c d e):cZ tf (.binOp a b c d e) dd s=(cM tf (.binOp a b c d e) s).bind fun x=>.ok (x,bT):=rfl
theorem abL(dd:Option Nat)(s:St)(a b c):cZ tf (.unOp a b c) dd s=(cM tf (.unOp a b c) s).bind fun x=>.ok (x,bT):=rfl
theorem abM(dd:Option Nat)(s:St)(a b c):cZ tf (.convert a b c) dd s=(cM tf (.convert a b c) s).bind fun x=>.ok (x,bT):=rfl
theorem abN(dd:Option Nat)(s:St)(a b):cZ tf (.extract a b) dd s=(cM tf (.extract a b) s).bind fun x=>.ok (x,bT):=rfl
theorem abO(dd:Option Nat)(s:St)(a b c):cZ tf (.makeFunc a b c) dd s=(cM tf (.makeFunc a b c) s).bind fun x=>.ok (x,bT):=rfl
theorem abP(dd:Option Nat)(s:St)(x a t):cZ tf (.call { callee:=.value x,args:=a,argTypes:=t }) dd s=.no:=rfl
theorem abQ(dd:Option Nat)(s:St)(f)(x t):cZ tf (.call { callee:=.builtin f,args:=#[x],argTypes:=#[t] }) dd s=(cM tf (.call { callee:=.builtin f,args:=#[x],argTypes:=#[t] }) s).bind fun x=>.ok (x,bT):=by
 refine Cc ?_;cases f<;>rfl
theorem abR(dd:Option Nat)(s:St)(x y t t'):cZ tf (.call { callee:=.builtin .append,args:=#[x,y],argTypes:=#[t,t'] }) dd s=if t≠t' then .no else match(tf t).k with
 |.slice e=>if(tf e).oB∧(tf e).gD (tf e).w then sY (tf e) dd s (ev s x) (ev s y)else .no
 |_=>.no:=rfl
theorem abS(dd:Option Nat)(s:St)(a b c d):cZ tf (.lookup a b c d) dd s=.no:=rfl
theorem abT(dd:Option Nat)(s:St)(t x v):cZ tf (.store t x v) dd s=(qS (tf t) s (ev s x) (ev s v)).bind fun q=>.ok (.un,⟨[(q.1,some q.2)],[]⟩):=rfl
theorem abU(dd:Option Nat)(s:St)(e):cZ tf (.alloc e) dd s=match(tf e).z with
 |some cs=>mK dd s [] (.bt (yV tf e) (cs.map .d)) (.bx · 0)
 |none=>.no:=rfl
theorem abV(dd:Option Nat)(s:St)(t l parts):cZ tf (.buildSlice t l parts) dd s=match A7 (tf t).k,uj 0 (parts.toList.map fun q=>(q.1,ev s q.2))with
 |some e,some xs=>if xs.length=l∧(tf e).z.isSome∧(tf e).gD (tf e).w∧xs.all (rF (tf e).w)∧l*(tf e).sz<=16777216 then mK dd s [] (.arr (tf e).w xs) (.vw · 0 l)else .no
 |_,_=>.no:=rfl
attribute [go_sem] abz abA abB abD abE abF abG abH abI abJ abK abL abM abN abO abP abQ abR abU abV abS abT
end
theorem JE{c:Bool}{t:Nat}{want:Bool}(h1:c=true->E.gd want o r (s.put t (.d (.bool true))) ns (some (t,.d (.bool true))))(h2:c=false->E.gd want o r (s.put t (.d (.bool false))) ns (some (t,.d (.bool false)))):E.gd want o r s ns (some (t,.d (.bool c))):=by
 cases c
 .have:=h2 rfl;cases want
  .rw[JB,vV]at this;rw[JB];exact this
  .rw[JD,vV]at this;rw[JD];exact this
 .have:=h1 rfl;cases want
  .rw[JC,vV]at this;rw[JC];exact this
  .rw[JA,vV]at this;rw[JA];exact this
theorem zx{p:Prop}[Decidable p]{t:Nat}{want:Bool}(h1:p->E.gd want o r (s.put t (.d (.bool true))) ns (some (t,.d (.bool true))))(h2:¬p->E.gd want o r (s.put t (.d (.bool false))) ns (some (t,.d (.bool false)))):E.gd want o r s ns (some (t,.d (.bool (decide p)))) :=
 JE E (fun h=>h1 (of_decide_eq_true h)) (fun h=>h2 (of_decide_eq_false h))
theorem JF(s:St)(d:Option Nat)(x:AV):s.go d x bT=s.iZ d x:=by rw[Jr];cases d<;>rfl
theorem xL{d:Option Nat}{op:Op}{ty:TypeId}{pos:String}{af:Array Edge}{g:Option (Nat×Bool)}{x:AV}(rd:List Name)(cY:∀t∈d,t<cf.n)
  (aW:∀s',(∀p∈rd,s'.hp p=s.hp p)->(∀y∈op.operands,ev s' y=ev s y)->ia P cf { dst:=d,op:=op,type:=ty,pos:=pos,after:=af,guard:=g } s' [] (fun _ s2=>s2=s'.iZ d x)) (hk:E.run r (s.iZ d x) (ns++[(rd,[],[])])) :
  E.bc { dst:=d,op:=op,type:=ty,pos:=pos,after:=af,guard:=g } r s ns .no:=by
 rw[E.fk];refine⟨x,(rd,bT),fun s' _ hh he B hB gF β a w ai hs Q'=>?_,fun y hy=>(by cases hy),?_,?_⟩
 .refine Oper.wpIn_mono ?_ (aW s' hh he B hB gF β a w ai hs Q');rintro a' w' ⟨dP,s2,β',aF,br⟩;obtain⟨_,s3,β3,rfl,iI⟩:=aF B hB gF β' a' w' dP br;exact⟨dP,β3,by rw[JF];exact iI⟩
 .cases d with
  |none=>trivial
  |some t=>exact cY t rfl
 .rw[<-E.run_eq,JF];exact hk
theorem dA{dst:Option Nat}{fv:Operand}{args:Array Operand}{at':Array TypeId}{ty:TypeId}{pos:String}{af:Array Edge}{g:Option (Nat×Bool)}
  {f:FuncId} {aG:List AV} {ds:List D} {x:AV} (hc:HP P cf.G f ds (fun r=>r=x))
  (bp:ev s fv=.aH f aG) (dE:args.toList.map (ev s)++aG=ds.map .d) (cY:∀t∈dst,t<cf.n) (hk:E.run r (s.iZ dst x) (ns++[([],[],[])])) :
  E.bc { dst:=dst,op:=.call { callee:=.value fv,args:=args,argTypes:=at' },type:=ty,pos:=pos,after:=af,guard:=g } r s ns .no:=by
 refine xL E [] cY (fun s' _ he=>?_) hk
 have hm:∀y,y=fv∨y∈args->ev s' y=ev s y:=fun y hy=>he y (by
  simp only[Op.operands,Call.operands]
  rcases hy with rfl|hy<;>simp_all)
 exact BF (k:=[]) (Q:=fun _ s2=>s2=s'.iZ dst x) hc ((hm fv (.inl rfl)).trans bp)
  (by rw[ET (s:=s) (s':=s') fun y hy=>hm y (.inr (by simpa using hy))];exact dE) cY (fun r hr=>by subst hr;rw[pM])
theorem bz{id:Nat}{l:List Oper}{s:St}{k:List It}{Q:Exit->St->Prop}(hm:P.follows .mixedOrders=true)(E0:bu P cf Q)(h:∀E:nN P cf l.toArray (fun s' ns=>fc l.toArray ns=true∧E0.run k s'),E.run l s []) :
  e8 E0 (.region id l.toArray true) s k:=by
 refine abg hm ?_;have e:(fun s' ns=>fc l.toArray ns=true∧E0.run k s')=fun s' ns=>fc l.toArray ns=true∧run P cf k Q s':=by funext s' ns;rw[E0.run_eq]
 obtain⟨E⟩:=Pg P cf l.toArray (fun s' ns=>fc l.toArray ns=true∧E0.run k s');have:=h E;rw[E.run_eq,e]at this;exact this
end
section
variable {P:Program}{cf:Cf}{Q:Exit->St->Prop}{s:St}{k:List It}{c:Code}
theorem bC(E:bu P cf Q){X:Type}(I:X->List (Nat×AV))(O:X->List (Name×Ob))(u:List Nat)(μ:X->Nat)(x0:X)(τ0:Name->Name)(h0:cw cf.U τ0 s (I x0) (O x0) u)
  (hr:∀x,∀E':bu P cf (xE E (fun s'=>∃y,μ y<μ x∧∃τ,cw cf.U τ s' (I y) (O y) u) k),E'.run [.code c] (mk (I x) (O x) u)):e8 E (.loop c) s k:=by
 have:=IW (P:=P) (cf:=cf) (c:=c) (s:=s) (k:=k) (Q:=Q) (fun x=>mk (I x) (O x) u) μ (fun x s'=>∃y,μ y<μ x∧∃τ,cw cf.U τ s' (I y) (O y) u) ⟨x0,τ0,h0.le⟩ (fun _ _ ⟨y,hy,τ,h⟩=>⟨y,hy,τ,h.le⟩) (fun x=>by rw[<-I9 E];exact aS (hr x));exact this
theorem abW(q:Name×Name)(l:List (Name×Name))(p:Name):ak (q::l) p=if p=q.1 then q.2 else ak l p:=by
 unfold ak;rw[aw]
theorem abX(p:Name):ak [] p=p:=rfl
attribute [go_sem] abW abX forall_eq forall_eq_or_imp
end
end Go.Ab

namespace Go.Ab
def Cg(f:Nat)(cs:List AV):AV :=
 match j9 cs with
 |some ds=>.d (.aH f ds)
 |none=>.aH f cs
mutual
def AV.cB(p:Name)(d:D):AV->AV
 |.un=>.un
 |.d x=>.d x
 |.vw q o l=>.vw q o l
 |.bx q c=>if q=p∧c=0 then .d (.ptr d)else .bx q c
 |.el q i c=>.el q i c
 |.mp q=>.mp q
 |.it q=>.it q
 |.agg cs=>oA (p6 p d cs)
 |.az cs=>.az (p6 p d cs)
 |.aH f cs=>Cg f (p6 p d cs)
 |.va q o l=>.va q o l
 |.ea q i=>.ea q i
 |.ma q=>.ma q
def p6(p:Name)(d:D):List AV->List AV
 |[]=>[]
 |x::r=>x.cB p d::p6 p d r
end
theorem Ch(p:Name)(d:D):∀l:List AV,(p6 p d l).length=l.length
 |[]=>rfl
 |_::r=>by simp[p6,Ch p d r]
theorem Ci(p:Name)(d:D):∀(l:List AV) (i:Nat),(p6 p d l)[i]?=(l[i]?).map (AV.cB p d)
 |[],i=>by simp[p6]
 |x::r,0=>by simp[p6]
 |x::r,i+1=>by simp[p6,Ci p d r i]
section
variable {H:Array Obj}{own own':Nat->Prop}{used:List Nat}{hp ae:Name->Option Ob}{β:Name->Option a8}
theorem Ph{f:Nat}{vs:Array Value}{cs:List AV}(hs:vs.size=cs.length)(h:∀i x,cs[i]?=some x->VR H own used hp β (vs.getD i undef) x):VR H own used hp β (.func (.func f) #[] vs) (Cg f cs):=by
 unfold Cg;split
 .rename_i ds hd;have e:=Et hd;subst e;exact .d _ _ (.aH f vs ds (by simpa using hs) fun i d hi=>(h i (.d d) (by simp[hi])).cA)
 .exact .aH f vs cs hs h
theorem VR.cB{p:Name}{d:D}(hr:∀v d,au H own v d->au H own' v d)(ag:∀q,nm used q->iQ hp ae β β q)(nB:hp p=some (.box (d.cells.map .d)))(dv:∀x∈d.cells,x.bR=true)(ho:OR H own used hp β p (.box (d.cells.map .d)))
  (bY:∀k,β p=some k->¬own' k.b) {v:Value} {x:AV} (h:VR H own used hp β v x):VR H own' used ae β v (x.cB p d):=by
 induction h with
 |un v=>exact .un v
 |d v x h=>exact .d v x (hr v x h)
 |vw v q off len hn h1 h=>exact VR.mono hr (fun _ h=>h) ag (.vw v q off len hn h1 h)
 |bx v q c hn h1 h =>
   unfold AV.cB;split
   .rename_i e;obtain⟨rfl,rfl⟩:=e;obtain⟨k,hk,k6,rfl⟩:=h _ _ nB;obtain⟨k',cc,e,aC,_,hc,_,hl,_,cd⟩:=ho;rw[hk]at aC;cases aC;refine .d _ _ (.ptr k.b 0 cc e (0,0) d hc (bY k hk) (by simp at hl;omega) dv fun j x hj=>?_);have:=(cd j (.d x) (by simp[hj])).cA;rw[alC];exact hr _ _ this
   .exact VR.mono hr (fun _ h=>h) ag (.bx v q c hn h1 h)
 |el v q i c hn h1 h=>exact VR.mono hr (fun _ h=>h) ag (.el v q i c hn h1 h)
 |mp v q hn h1 h=>exact VR.mono hr (fun _ h=>h) ag (.mp v q hn h1 h)
 |its v q hn h1 h h'=>exact VR.mono hr (fun _ h=>h) ag (.its v q hn h1 h h')
 |va v q off len hn h1 h=>exact VR.mono hr (fun _ h=>h) ag (.va v q off len hn h1 h)
 |ea v q i hn h1 h=>exact VR.mono hr (fun _ h=>h) ag (.ea v q i hn h1 h)
 |ma v q hn h1 h=>exact VR.mono hr (fun _ h=>h) ag (.ma v q hn h1 h)
 |agg vs cs hs hc _ ih =>
   have:=yX (H:=H) (own:=own') (used:=used) (hp:=ae) (β:=β) (vs:=vs.toList) (cs:=p6 p d cs) (by rw[Ch];simpa using hs) (by simpa using hc) (fun i v x hv hx=>by
    rw[Ci,ak8]at hx;obtain⟨y,hy,rfl⟩:=hx;have:=ih i y hy
    have e:vs.getD i undef=v:=by
     simp only[alM]at hv;simp[akZ,hv]
    rw[e]at this
    exact this)
   simpa[AV.cB]using this
 |az vs cs hs _ ih =>
   refine .az vs _ (by rw[Ch];exact hs) (fun i x hi=>?_);rw[Ci,ak8]at hi;obtain⟨y,hy,rfl⟩:=hi;exact ih i y hy
 |aH f vs cs hs _ ih =>
   refine Ph (by rw[Ch];exact hs) (fun i x hi=>?_);rw[Ci,ak8]at hi;obtain⟨y,hy,rfl⟩:=hi;exact ih i y hy
end
def Ob.cB(p:Name)(d:D):Ob->Ob
 |.bt ty cs=>.bt ty (p6 p d cs)
 |o=>o
theorem Ob.abY(p:Name)(d:D)(o:Ob):o.like (o.cB p d):=by
 cases o<;>simp[Ob.cB,Ob.like]
def St.cB(s:St)(p:Name)(d:D):St:={ fr:=fun t=>(s.fr t).cB p d,hp:=fun q=>(aA s.hp p none q).map (Ob.cB p d),used:=s.used }
theorem aj.cB{B:Base}{β:Name->Option a8}{s:St}{tm:Array Value}{w:World}(h:aj B β s tm w){p:Name}{d:D}(hp:s.hp p=some (.box (d.cells.map .d)))(dv:∀x∈d.cells,x.bR=true):aj B β (s.cB p d) tm w:=by
 have dL:∀q o',(s.cB p d).hp q=some o'->q≠p∧∃o,s.hp q=some o∧o'=o.cB p d:=by
  intro q o' ho;by_cases e:q=p
  .subst e;simp[St.cB,aA]at ho
  .simp only[St.cB,aA,if_neg e,ak8]at ho;obtain⟨o,h1,h2⟩:=ho;exact⟨e,o,h1,h2.symm⟩
 have aB:∀q,(s.cB p d).hp q≠none->s.hp q≠none∧q≠p:=by
  intro q hq
  cases ho:(s.cB p d).hp q with
  |none=>exact absurd ho hq
  |some o' =>
    obtain⟨e,o,h1,_⟩:=dL q o' ho;exact⟨by rw[h1];simp,e⟩
 have hr:∀v d',au w.heap (s.own B.A β) v d'->au w.heap ((s.cB p d).own B.A β) v d':=fun v d' hd=>hd.mono (fun _ _ _=>rfl) (by
  rintro b _ (hA|⟨q,k,hq,hk,e⟩)
  .exact .inl hA
  .exact .inr ⟨q,k,(aB q hq).1,hk,e⟩)
 have ag:∀q,nm s.used q->iQ s.hp (s.cB p d).hp β β q:=fun q _ o' aV=>by
  obtain⟨_,o,h1,rfl⟩:=dL q o' aV;exact⟨o,h1,Ob.abY p d o,rfl⟩
 have bY:∀k,β p=some k->¬(s.cB p d).own B.A β k.b:=by
  rintro k hk (hA|⟨q,k',hq,aC,e⟩)
  .exact(h.blocks p k (by rw[hp];simp) hk).2.1 hA
  .exact(aB q hq).2 (h.inj q p k' k (aB q hq).1 (by rw[hp];simp) aC hk e)
 have kI:∀{v:Value} {x:AV},VR w.heap (s.own B.A β) s.used s.hp β v x->VR w.heap ((s.cB p d).own B.A β) s.used (s.cB p d).hp β v (x.cB p d):=fun hv=>hv.cB hr ag hp dv (h.aJ p _ hp).2 bY;refine { bG:=h.bG,io:=h.io,size:=h.size,frame:=h.frame,slots:=fun i=>kI (h.slots i),aJ:=fun q o' aV=>?_,blocks:=fun q k hq hk=>h.blocks q k (aB q hq).1 hk,inj:=fun q q' k k' hq bX=>h.inj q q' k k' (aB q hq).1 (aB q' bX).1,us:=h.us,stay:=h.stay };obtain⟨_,o,h1,rfl⟩:=dL q o' aV;obtain⟨g1,g2⟩:=h.aJ q o h1;refine⟨g1,?_⟩
 cases o with
 |bt ty cs =>
   obtain⟨k,c,e,a1,a2,a3,a4,a5,a6,a7⟩:=g2;refine⟨k,c,e,a1,a2,a3,a4,by rw[a5,Ch],a6,fun j x hj=>?_⟩;rw[Ci,ak8]at hj;obtain⟨y,hy,rfl⟩:=hj;exact kI (a7 j y hy)
 |_=>exact g2.mono hr (fun _ h=>h) ag rfl fun _ _=>rfl
section
variable {P:Program}{cf:Cf}{Q:Exit->St->Prop}{s:St}{k:List It}
theorem JG(E:bu P cf Q){d:Option Nat}{op:Op}{ty:TypeId}{ps:String}{af:Array Edge}(p:Name)(x:D)(hp:s.hp p=some (.box (x.cells.map .d)))(dv:(x.cells.all D.bR)=true)(h:E.bc { dst:=d,op:=op,type:=ty,pos:=ps,after:=af,guard:=none } (s.cB p x) k (cV P.ti cf.n op d (s.cB p x))) :
  E.bc { dst:=d,op:=op,type:=ty,pos:=ps,after:=af,guard:=none } s k .no:=by
 rw[ie];rw[E.fk]at h;have h1:=xF (o:={ dst:=d,op:=op,type:=ty,pos:=ps,after:=af,guard:=none }) rfl h;intro B hB ds β a w' ai hs Q';exact h1 B hB ds β a w' ai (hs.cB hp (alr.1 dv)) Q'
theorem eU(E:bu P cf Q){c:Code}(p:Name)(x:D)(hp:s.hp p=some (.box (x.cells.map .d)))(dv:(x.cells.all D.bR)=true)(h:e8 E c (s.cB p x) k):e8 E c s k:=by
 intro B hB ds β a w' ai hs;exact h B hB ds β a w' ai (hs.cB hp (alr.1 dv))
theorem Pj(p:Name)(d:D)(t:Nat):∀l:List (Nat×AV),(aw .un l t).cB p d=aw .un (l.map fun q=>(q.1,q.2.cB p d)) t
 |[]=>rfl
 |q::r=>by
   simp only[aw,alf];split
   .rfl
   .exact Pj p d t r
theorem Pk(p:Name)(d:D)(q:Name):∀l:List (Name×Ob),(aw none (l.map fun x=>(x.1,some x.2)) q).map (Ob.cB p d)=aw none ((l.map fun x=>(x.1,x.2.cB p d)).map fun x=>(x.1,some x.2)) q
 |[]=>rfl
 |x::r=>by
   simp only[aw,alf];split
   .rfl
   .exact Pk p d q r
theorem Pl(fr:List (Nat×AV))(hp:List (Name×Ob))(u:List Nat)(p:Name)(d:D):(mk fr hp u).cB p d=mk (fr.map fun q=>(q.1,q.2.cB p d)) ((jR hp p).map fun q=>(q.1,q.2.cB p d)) u:=by
 unfold St.cB mk;congr 1
 .funext t;exact Pj p d t fr
 .funext q;rw[<-Pk,vL,vK];rfl
theorem abZ{α β:Type}(f:α->β)(l:List α):(l.map f).take l.length=l.map f:=ak5 (by simp)
attribute [go_sem] Pl AV.cB p6 Ob.cB Cg D.cells abZ List.take_succ_cons List.take_zero List.take_nil
theorem JH(E:bu P cf Q){dst:Option Nat}{u:Nat}{args:Array Operand}{at':Array TypeId}{ty:TypeId}{pos:String}{af:Array Edge}
  {f:FuncId} {aG ds:List D} {Q0:AV->Prop} (hc:HP P cf.G f ds Q0)
  (bp:s.fr u=.d (.aH f aG)) (dE:args.toList.map (ev (s.put u (.aH f (aG.map .d))))++aG.map .d=ds.map .d) (cY:∀t∈dst,t<cf.n) (hk:∀r,Q0 r->E.run k ((s.put u (.aH f (aG.map .d))).iZ dst r)) :
  E.bc { dst:=dst,op:=.call { callee:=.value (.tmp u),args:=args,argTypes:=at' },type:=ty,pos:=pos,after:=af,guard:=none } s k .no:=by
 rw[ie]
 have h1:ia P cf { dst:=dst,op:=.call { callee:=.value (.tmp u),args:=args,argTypes:=at' },type:=ty,pos:=pos,after:=af,guard:=none } (s.put u (.aH f (aG.map .d))) k Q :=
  BF hc (show dV _ _ _ _=_ by simp[dV]) dE cY fun r hr=>by rw[<-E.run_eq];exact hk r hr
 intro B hB gF β a w' ai hs Q';refine h1 B hB gF β a w' ai (hs.sP ?_) Q';have hv:=hs.slots u;rw[bp]at hv;have hv:=hv.cA;generalize a.tmps.getD u undef=v at hv
 cases hv with
 |aH _ vs _ bj cd =>
   refine .aH f vs _ (by simpa using bj) fun i x hi=>?_;rw[ala,ak8]at hi;obtain⟨y,hy,rfl⟩:=hi;exact .d _ _ (cd i y hy)
theorem JI{op:BinOp}{t:TypeId}{x y:Operand}{yt:TypeId}{a:Act}{w:World}{d:Option Nat}{ty:TypeId}{ps:String}{af:Array Edge}{v:Value}(hg:(eqGuard op t x y (a.eval x) (a.eval y)).run P w=.ok () w)(hb:(binOp op t (a.eval x) (a.eval y)).run P w=.ok v w) :
  (execOp a.eval { dst:=d,op:=.binOp op t x y yt,type:=ty,pos:=ps,after:=af,guard:=none }).run P w=.ok (.value v) w:=by
 simp only[execOp,Sem.run_bind,hg,Result.andThen_ok,hb];rfl
theorem Pm{t e:TypeId}(w:World)(hu:P.underlying t=some (.slice e))(d:Nat)(ad:Option Addr)(n cap:Nat):(Op.equalIn (d+1) t (.slice ad n cap) (.slice none 0 0)).run P w=.ok ad.isNone w:=by
 cases ad<;>simp[Op.equalIn,run_underlying hu]
theorem ab0{t e:TypeId}(w:World)(hu:P.underlying t=some (.slice e))(ad:Option Addr)(n cap:Nat):(binOp .eql t (.slice ad n cap) (.slice none 0 0)).run P w=.ok (.bool ad.isNone) w:=by
 have h:(binOp .eql t (.slice ad n cap) (.slice none 0 0)).run P w=((Op.equalIn (9999+1) t (.slice ad n cap) (.slice none 0 0)).run P w).andThen fun b w'=>.ok (.bool b) w':=by
  simp only[binOp];simp[Op.equal,Op.maxDepth]
 rw[h,Pm w hu];rfl
theorem ab1{t e:TypeId}(w:World)(hu:P.underlying t=some (.slice e))(ad:Option Addr)(n cap:Nat):(binOp .neq t (.slice ad n cap) (.slice none 0 0)).run P w=.ok (.bool (!ad.isNone)) w:=by
 have h:(binOp .neq t (.slice ad n cap) (.slice none 0 0)).run P w=((Op.equalIn (9999+1) t (.slice ad n cap) (.slice none 0 0)).run P w).andThen fun b w'=>.ok (.bool (!b)) w':=by
  simp only[binOp];simp[Op.equal,Op.maxDepth]
 rw[h,Pm w hu];rfl
theorem ab2(E:bu P cf Q){t e:TypeId}{x:Operand}{yt:TypeId}{dst:Nat}{ty:TypeId}{ps:String}{af:Array Edge}(neg:Bool)(hk:(P.ti t).k=.slice e)(hd:dst<cf.n){w0:W}{xs:List D}(hx:ev s x=.d (.sl w0 xs))
  (h:∀b:Bool,(b=true->xs=[])->E.run k (s.put dst (.d (.bool (if neg then !b else b))))) :
  E.bc { dst:=some dst,op:=.binOp (if neg then .neq else .eql) t x (.const (.slice none 0 0)) yt,type:=ty,pos:=ps,after:=af,guard:=none } s k .no:=by
 rw[ie];intro B hB ds β a w ai hs Q';have hv:=hs.ev x;rw[hx]at hv;have hv:=hv.cA;have hu:=k5 hk
 have aF:∃b:Bool,(b=true->xs=[])∧(execOp a.eval { dst:=some dst,op:=.binOp (if neg then .neq else .eql) t x (.const (.slice none 0 0)) yt,type:=ty,pos:=ps,after:=af,guard:=none }).run P w=.ok (.value (.bool (if neg then !b else b))) w:=by
  have key:∀ad n cap,a.eval x=.slice ad n cap->(execOp a.eval { dst:=some dst,op:=.binOp (if neg then .neq else .eql) t x (.const (.slice none 0 0)) yt,type:=ty,pos:=ps,after:=af,guard:=none }).run P w=.ok (.value (.bool (if neg then !ad.isNone else ad.isNone))) w:=by
   intro ad n cap hv;refine JI ?_ ?_
   .rw[hv];cases neg<;>rfl
   .rw[hv];show(binOp _ t (.slice ad n cap) (.slice none 0 0)).run P w=_;cases neg
    .exact ab0 w hu ad n cap
    .exact ab1 w hu ad n cap
  generalize hval:a.eval x=v at hv
  cases hv with
  |kZ ad cap w=>exact⟨ad.isNone,fun _=>rfl,key _ _ _ hval⟩
  |sl b o cap c e fz w xs=>exact⟨false,fun h=>(by cases h),key _ _ _ hval⟩
 obtain⟨b,hb,aF⟩:=aF;have h1:=h b hb;rw[E.run_eq]at h1;exact fR (by simp) aF (.inl rfl) ⟨ai,_,β,eB h1,hs.put (by rw[hB.1];exact hd) (.d _ _ (.bool _))⟩
end
end Go.Ab
namespace Go.Ab
def Fh:D->D->Option Bool
 |.int i a,.int j b=>if i=j then some (decide (a=b))else none
 |.bool a,.bool b=>some (a == b)
 |.str a,.str b=>some (decide (a=b))
 |_,_=>none
def uy:TK->D->Bool
 |.int _,.int _ _=>true
 |.bool,.bool _=>true
 |.str,.str _=>true
 |_,_=>false
def zy(tf:Nat->TI):List (Nat×Nat)->List D->List D->Option Bool
 |[],_,_=>some true
 |f::r,a0s,bs=>match a0s[f.1]?,bs[f.1]? with
   |some a,some b=>if uy (tf f.2).k a&&uy (tf f.2).k b then(Fh a b).bind fun x=>(zy tf r a0s bs).map fun y=>x&&y else none
   |_,_=>none
end Go.Ab
open Go.Ab in
def Go.Program.uz(P:Program)(t:Nat):Bool:=match P.underlying t with
 |some (.struct fs)=>(fs.toList.all fun f=>f.name != "_")&&!P.stoodInHeld t&&!P.eqGuardType P.depth t
 |_=>false
namespace Go.Ab
section
variable {P:Program}{w:World}{H:Array Obj}{own:Nat->Prop}
theorem ab3{t:TypeId}{u v:Value}{a b:D}{r:Bool}(ha:au H own u a)(hb:au H own v b)(ka:uy (P.ti t).k a=true)(he:Fh a b=some r)(d:Nat):(Op.equalIn (d+1) t u v).run P w=.ok r w:=by
 cases a<;>cases b<;>simp[Fh]at he<;>cases ha<;>cases hb
 .rename_i i x j y;obtain⟨cx,rfl⟩:=he;subst cx;cases hk:(P.ti t).k<;>rw[hk]at ka<;>simp[uy]at ka;rw[run_equalIn_int w d t _ _ _ _ (rK hk)];rfl
 .subst he;cases hk:(P.ti t).k<;>rw[hk]at ka<;>simp[uy]at ka;exact run_equalIn_bool' w d t _ _ (H6 (by rw[hk];rfl))
 .subst he;cases hk:(P.ti t).k<;>rw[hk]at ka<;>simp[uy]at ka;rw[run_equalIn_string w d t _ _ (rJ hk)];congr 1;rw[amL];simp
theorem ab4{i:TI}{a:D}(h:uy i.k a=true):i.k.dM=false∧i.k.agg=false:=by
 cases hk:i.k<;>cases a<;>simp_all [uy,TK.dM,TK.agg]
theorem Pn(d:Nat){xs ys:Array Value}{a0s bs:List D}(nM:∀(i:Nat) a,a0s[i]?=some a->i<xs.size∧au H own (xs.getD i undef) a)(ic:∀(i:Nat) a,bs[i]?=some a->i<ys.size∧au H own (ys.getD i undef) a) :
  ∀(fs:List Field) (r:Bool),(fs.all fun f=>f.name != "_")=true->zy P.ti (fs.map fun f=>(f.offset,f.type)) a0s bs=some r->(Op.eqFields (d+1) xs ys fs).run P w=.ok r w
 |[],r,_,h=>by
   simp[zy]at h;subst h;rfl
 |f::fs,r,hn,h=>by
   simp only[List.all_cons,ak7,bne_iff_ne,ne_eq]at hn;simp only[alf,zy]at h;split at h
   .rename_i a b ha hb;split at h
    .rename_i hk;simp only[ak7]at hk;obtain⟨x,hx,h⟩:=amu.1 h;obtain⟨y,hy,rfl⟩:=ak8.1 h;obtain⟨h1,h2⟩:=nM _ _ ha;obtain⟨h3,h4⟩:=ic _ _ hb;obtain⟨g1,g2⟩:=ab4 hk.1;have ih:=Pn d nM ic fs y hn.2 hy;have e1:=uk (P:=P) (w:=w) g1 g2 xs f.offset _ (vv (z:=undef) h1);have e2:=uk (P:=P) (w:=w) g1 g2 ys f.offset _ (vv (z:=undef) h3);have e3:=ab3 (P:=P) (w:=w) h2 h4 hk.1 hx d;simp only[Op.eqFields,Sem.run_ite,hn.1,ne_eq,not_false_eq_true,if_true,Sem.run_bind,e1,e2,e3,Result.andThen_ok];cases x
     .rfl
     .simp only[amA,als,if_false,ame];exact ih
    .cases h
   .cases h
theorem Po {t:TypeId} (h:P.uz t=true):∃fl:Array Field,P.underlying t=some (.struct fl)∧P.fieldsOf t=fl∧(fl.toList.all fun f=>f.name != "_")=true∧P.stoodInHeld t=false∧P.eqGuardType P.depth t=false:=by
 unfold Program.uz at h;split at h
 .rename_i fl hf;simp only[ak7,alH]at h;exact⟨fl,hf,by simp[Program.fieldsOf,hf],h.1.1,h.1.2,h.2⟩
 .cases h
theorem Pp{v:Value}{a0s:List D}(h:au H own v (.agg a0s)):∃xs,v=.agg xs∧∀(i:Nat) a,a0s[i]?=some a->i<xs.size∧au H own (xs.getD i undef) a:=by
 cases h with
 |agg xs _ hs _ hr=>exact⟨xs,rfl,fun i a hi=>⟨by rw[hs];exact(akY.1 hi).1,hr i a hi⟩⟩
theorem ab5{t:TypeId}{u v:Value}{a0s bs:List D}{r:Bool}{fs:List (Nat×Nat)}(ag:P.uz t=true)(hk:(P.ti t).k=.struct fs)(hu:au H own u (.agg a0s))(hv:au H own v (.agg bs))(h:zy P.ti fs a0s bs=some r)(d:Nat) :
  (Op.equalIn (d+2) t u v).run P w=.ok r w:=by
 obtain⟨fl,h1,h2,h3,h4,_⟩:=Po ag;obtain⟨fl',bf,rfl⟩:=Ba hk;rw[h1]at bf;cases bf;obtain⟨xs,rfl,hx⟩:=Pp hu;obtain⟨ys,rfl,hy⟩:=Pp hv;rw[run_equalIn_agg w (d+1) t xs ys (by rw[h2];exact h1) h4,h2];exact Pn d hx hy _ r h3 h
end
end Go.Ab
namespace Go.Ab
section
variable {P:Program}
theorem jc{G:List (Nat×Obj)}{f:FuncId}{fn:Func}{c:Code}{args:List AV}{hp:List (Name×Ob)}{u:List Nat}{Q:AV->List (Name×Ob)->Prop}(hf:P.funcs[f]?=some fn)(hb:fn.body=some c)
  (eO:(fn.name == "runtime.NumGoroutine")=false) (hn:args.length<=fn.ntmps) (h:run P ⟨fn.ntmps,none,G,u⟩ [.code c] (fq P fn.results.toList u Q) (mk (dQ 0 args) hp u)):bZ P G f args hp u Q :=
 NT hf hb (vH hf hb eO) hn (fun _ _ h=>h) h
theorem ab6(rs:List ResultVar)(u:List Nat)(Q:AV->List (Name×Ob)->Prop)(s:St):fq P rs u Q .ret s=RX (kG P s rs) fun l=>∃r ae u' τ,Q r ae∧cw u τ (qK s (e7 l)) [(0,r)] ae u':=rfl
theorem ab7(rs:List ResultVar)(u:List Nat)(Q:AV->List (Name×Ob)->Prop)(s:St):fq P rs u Q .normal s=RX (kG P s rs) fun l=>∃r ae u' τ,Q r ae∧cw u τ (qK s (e7 l)) [(0,r)] ae u':=rfl
theorem Pq(fr hp u)(x:AV):qK (mk fr hp u) x=mk [(0,x)] hp u:=by
 unfold qK mk;congr 1
attribute [go_sem] ab6 ab7 Pq
def oN:List (Name×Ob)->List (Name×Ob)->List (Name×Ob)
 |[],hp=>hp
 |q::r,hp=>js (oN r hp) q.1 q.2
def Cj:List Name->List (Name×Ob)->List (Name×Ob)
 |[],hp=>hp
 |p::r,hp=>jR (Cj r hp) p
theorem Pr(q:Name)(hp:List (Name×Ob)):∀l:List (Name×Ob),aw none ((oN l hp).map fun x=>(x.1,some x.2)) q=aw (aw none (hp.map fun x=>(x.1,some x.2)) q) (l.map fun x=>(x.1,some x.2)) q
 |[]=>rfl
 |x::r=>by
   rw[oN,EO,vJ,Pr q hp r,alf,kD]
theorem Ps(q:Name)(hp:List (Name×Ob)):∀l:List Name,aw none ((Cj l hp).map fun x=>(x.1,some x.2)) q=aw (aw none (hp.map fun x=>(x.1,some x.2)) q) (l.map fun x=>(x,(none:Option Ob))) q
 |[]=>rfl
 |x::r=>by
   rw[Cj,vL,vK,Ps q hp r,alf,kD]
theorem ab8(fr hp u)(σ:Name->Name)(d:Nat)(chp ae:List (Name×Ob))(r:AV):iX (mk fr hp u) σ d chp ae r=mk (js fr d (r.ren (dc σ d chp))) (oN (ae.map fun x=>(dc σ d chp x.1,x.2.ren (dc σ d chp))) (Cj (chp.map fun x=>σ x.1) hp)) (d::u):=by
 unfold iX mk;congr 1
 .funext j;rw[vJ];rfl
 .funext q;simp only;rw[Pr,Ps];simp only[alD];rfl
attribute [go_sem] ab8 oN Cj dc mB lg Ob.like List.any_cons List.any_nil
end
section
variable {P:Program}{cf:Cf}{Q:Exit->St->Prop}{s:St}{k:List It}
theorem iJ(E:bu P cf Q){d:Nat}{fv:Operand}{args:Array Operand}{at':Array TypeId}{ty:TypeId}{pos:String}{af:Array Edge}
  {f:FuncId} {aG:List AV} (cD:List AV) (chp:List (Name×Ob)) (cu:List Nat) {Q0:AV->List (Name×Ob)->Prop} (hc:bZ P cf.G f cD chp cu Q0)
  (bp:ev s fv=.aH f aG) (dE:args.toList.map (ev s)++aG=cD) (hd:d<cf.n∧d∉s.used) (oJ:dz cu cD=true) (kH:mB id cu s chp) (mC:kh id chp)
  (hk:∀r ae,Q0 r ae->lg chp ae∧E.run k (iX s id d chp ae r)) :
  E.bc { dst:=some d,op:=.call { callee:=.value fv,args:=args,argTypes:=at' },type:=ty,pos:=pos,after:=af,guard:=none } s k .no:=by
 rw[ie];refine Iy d id cD chp cu Q0 bp ?_ oJ hd.2 (fun t ht=>?_) kH mC hc fun r ae hr=>?_
 .rw[dE]
  have:∀l:List AV,cg id l=l:=fun l=>by
   induction l with
   |nil=>rfl
   |cons x r ih=>rw[cg,ih,AV.mE id (fun _=>rfl)]
  exact(this _).symm
 .obtain rfl:=alo ht;exact⟨hd.1,rfl⟩
 .obtain⟨h1,h2⟩:=hk r ae hr;exact⟨h1,by rw[<-E.run_eq];exact h2⟩
section
variable {κ:Type}[DecidableEq κ]{ke:κ->D}{kv:κ->Value}{ops:Array Oper}{K:St->Ns->Prop}{r:List Oper}{ns:Ns}
theorem ab9(E:nN P cf ops K){xt kt et:Nat}{x y:Operand}{co:Bool}{dst:Option Nat}{ty:TypeId}{pos:String}{af:Array Edge}{g:Option (Nat×Bool)}(p:Name)(ms:List (κ×D))(key:κ)(z:D)(hm:(P.ti xt).k=.map kt et)(K:jS P kt ke kv)(hz:rT P et=some z)
  (hx:ev s x=.mp p) (hp:s.hp p=some (.map (aM ke ms))) (hy:ev s y=.d (ke key)) (cY:∀t∈dst,t<cf.n) (hk:E.run r (s.iZ dst (sU z co (cJ ms key))) (ns++[([p],[],[])])) :
  E.bc { dst:=dst,op:=.lookup xt x y co,type:=ty,pos:=pos,after:=af,guard:=g } r s ns .no:=by
 refine xL E [p] cY (fun s' hh he=>?_) hk;have e1:ev s' x=ev s x:=he x (by simp[Op.operands]);have e2:ev s' y=ev s y:=he y (by simp[Op.operands]);exact OO p ms key z hm K hz (e1.trans hx) ((hh p (by simp)).trans hp) (e2.trans hy) cY (by rw[pM])
end
end
end Go.Ab

namespace Go.Proofs.YtpmniabdmbmafaaGreatDoor
open Go.Ab Tryz
variable {t:TypeId}{fz:Nat×Nat}
def xM(n:Int):Bool:=(decide (97<=n)&&decide (n<=122))||decide (n=95)
def Ck(n:Int):Bool:=decide (65<=n)&&decide (n<=90)
def v7(n:Int):Bool:=decide (48<=n)&&decide (n<=57)
def sm(c:UInt8):Bool:=xM c.toNat
def gr(c:UInt8):Bool:=Ck c.toNat
def mo(c:UInt8):Bool:=sm c||gr c||v7 c.toNat
def u8(c:UInt8):D:=.int .u8 (c.toNat:Nat)
theorem JJ{G}(c:UInt8):HP prog G 150 [u8 c] (fun r=>r=.d (.bool (sm c))):=by
 refine cj func150 rfl (by decide +kernel) (by simp[ntmps150]) (aS fun E=>?_);unfold u8;simp only[go_sem];refine bH E ?_ ?_<;>intro h1<;>simp only[go_sem]
 .refine bH E ?_ ?_<;>intro h2<;>simp only[go_sem]
  .simp[sm,xM,h1,h2]
  .simp[sm,xM,h1,h2]
 .simp[sm,xM,h1]
theorem JK{G}(c:UInt8):HP prog G 152 [u8 c] (fun r=>r=.d (.bool (gr c))):=by
 refine cj func152 rfl (by decide +kernel) (by simp[ntmps152]) (aS fun E=>?_);unfold u8;simp only[go_sem];refine bH E ?_ ?_<;>intro h1<;>simp only[go_sem]
 .simp[gr,Ck,h1]
 .simp[gr,Ck,h1]
theorem Pt{G}(c:UInt8):HP prog G 203 [u8 c] (fun r=>r=.d (.bool (mo c))):=by
 refine cj func203 rfl (by decide +kernel) (by simp[ntmps203]) (aS fun E=>?_);unfold u8;simp only[go_sem];refine bd E (JJ c) rfl rfl (by simp) ?_;rintro _ rfl;simp only[go_sem];refine vQ E ?_ ?_<;>intro h1<;>simp only[go_sem]
 .simp[mo,h1]
 refine bd E (JK c) rfl rfl (by simp) ?_;rintro _ rfl;simp only[go_sem];refine vQ E ?_ ?_<;>intro h2<;>simp only[go_sem]
 .simp[mo,h2]
 refine bH E ?_ ?_<;>intro h3<;>simp only[go_sem]
 .simp[mo,h1,h2,v7,h3]
 .simp[mo,h1,h2,v7,h3]
def nO:List UInt8->Nat
 |[]=>0
 |c::r=>if mo c then nO r+1 else 0
def zz(l:List UInt8):Nat:=match l with
 |[]=>0
 |c::r=>if sm c||gr c then nO r+1 else 0
theorem Pu{l:List UInt8}{i:Nat}(h:i<l.length):nO (l.drop i)=if mo (l.getD i 0)then nO (l.drop (i+1))+1 else 0:=by
 have e:l.getD i 0=l[i]:=by simp[h]
 rw[amo h,nO,e]
theorem Pv{l:List UInt8}:nO (l.drop l.length)=0:=by rw[List.drop_length];rfl
theorem JL{l:List UInt8}(h:1<=l.length):zz l=if sm (l.getD 0 0)||gr (l.getD 0 0)then nO (l.drop 1)+1 else 0:=by
 cases l with
 |nil=>simp at h
 |cons c r=>rfl
theorem aca{G}(l:List UInt8)(hl:l.length<=9223372036854775807):HP prog G 179 [.str l] (fun r=>r=.d (i64 (zz l))):=by
 refine cj func179 rfl (by decide +kernel) (by simp[ntmps179]) (aS fun E=>?_);simp only[go_sem];refine vQ E ?_ ?_<;>intro h0<;>simp only[go_sem]
 .have:l=[]:=by simpa using h0
  subst this;rfl
 have h0:1<=l.length:=by
  cases l with
  |nil=>simp at h0
  |cons c r=>simp
 refine⟨by omega,?_⟩;refine bd E (JJ (l.getD 0 0)) rfl rfl (by simp) ?_;rintro _ rfl;simp only[go_sem];refine vQ E ?_ ?_<;>intro h1<;>simp only[go_sem]
 .have h1:sm (l.getD 0 0)=false:=by simpa using h1
  refine⟨by omega,?_⟩;refine bd E (JK (l.getD 0 0)) rfl rfl (by simp) ?_;rintro _ rfl;simp only[go_sem];refine ck E ?_ ?_<;>intro h2<;>simp only[go_sem]
  .have h2:gr (l.getD 0 0)=false:=by simpa using h2
   rw[JL h0,h1,h2];rfl
  .have h2:gr (l.getD 0 0)=true:=by simpa using h2
   have JM:(sm (l.getD 0 0)||gr (l.getD 0 0))=true:=by rw[h2,Bool.or_true]
   refine pU E (X:={ i:Nat // i<=l.length∧i+nO (l.drop i)=nO (l.drop 1)+1 }) (fun x=>[(0,.d (.str l)),(3,.d (i64 x.1))]) (fun x=>l.length-x.1) rfl ⟨1,h0,by omega⟩ ?_ ?_
   .simp only[go_sem]
    all_goals rfl
   rintro⟨i,hi,hw⟩ E';simp only[go_sem];have hn:zz l=nO (l.drop 1)+1:=by rw[JL h0,JM,if_pos rfl]
   refine bH E' ?_ ?_<;>intro h3<;>simp only[go_sem]
   .have aq:i<l.length:=by omega
    have cW:=Pu aq;refine⟨by omega,?_⟩;refine bd E' (Pt (l.getD i 0)) rfl rfl (by simp) ?_;rintro _ rfl;simp only[go_sem];refine ck E' ?_ ?_<;>intro h4<;>simp only[go_sem]
    .rw[h4,if_pos rfl]at cW;refine⟨⟨i+1,by omega,by omega⟩,by show l.length-(i+1)<_;omega,?_⟩;rw[aD ⟨by omega,by omega⟩];rfl
    .rw[h4,if_neg (by simp)]at cW;rw[hn];exact congrArg (fun n:Nat=>AV.d (i64 (n:Int))) (by omega)
   .have bF:i=l.length:=by omega
    subst bF;rw[Pv]at hw;rw[hn];exact congrArg (fun n:Nat=>AV.d (i64 (n:Int))) (by omega)
 .have h1:sm (l.getD 0 0)=true:=by simpa using h1
  have JM:(sm (l.getD 0 0)||gr (l.getD 0 0))=true:=by rw[h1,Bool.true_or]
  refine pU E (X:={ i:Nat // i<=l.length∧i+nO (l.drop i)=nO (l.drop 1)+1 }) (fun x=>[(0,.d (.str l)),(3,.d (i64 x.1))]) (fun x=>l.length-x.1) rfl ⟨1,h0,by omega⟩ ?_ ?_
  .simp only[go_sem]
   all_goals rfl
  rintro⟨i,hi,hw⟩ E';simp only[go_sem];have hn:zz l=nO (l.drop 1)+1:=by rw[JL h0,JM,if_pos rfl]
  refine bH E' ?_ ?_<;>intro h3<;>simp only[go_sem]
  .have aq:i<l.length:=by omega
   have cW:=Pu aq;refine⟨by omega,?_⟩;refine bd E' (Pt (l.getD i 0)) rfl rfl (by simp) ?_;rintro _ rfl;simp only[go_sem];refine ck E' ?_ ?_<;>intro h4<;>simp only[go_sem]
   .rw[h4,if_pos rfl]at cW;refine⟨⟨i+1,by omega,by omega⟩,by show l.length-(i+1)<_;omega,?_⟩;rw[aD ⟨by omega,by omega⟩];rfl
   .rw[h4,if_neg (by simp)]at cW;rw[hn];exact congrArg (fun n:Nat=>AV.d (i64 (n:Int))) (by omega)
  .have bF:i=l.length:=by omega
   subst bF;rw[Pv]at hw;rw[hn];exact congrArg (fun n:Nat=>AV.d (i64 (n:Int))) (by omega)
end Go.Proofs.YtpmniabdmbmafaaGreatDoor

namespace Go.Proofs.YtpmniabdmbmafaaGreatDoor
open Go.Ab Tryz
variable {t:TypeId}{fz:Nat×Nat}
theorem mixed:prog.follows .mixedOrders=true:=by kernel_rfl
def Cl:List (List UInt8):=[[102,117,110],[108,101,116],[114,101,99],[105,110],[105,102],[116,104,101,110],[101,108,115,101],[99,97,115,101],[111,102],[101,110,100],[116,114,117,101],[102,97,108,115,101],[99,104,101,99,107],[97,115,107],[116,111,112],[98,111,116],[105,110,116],[98,111,111,108],[115,116,114,105,110,103],[109,117]]
def strs(l:List (List UInt8)):D:=.sl none (l.map .str)
theorem acb{G}:HP prog G 181 [] (fun r=>r=.d (strs Cl)):=by
 refine fK func181 rfl (by decide +kernel) (by simp[ntmps181]) (aS fun E=>?_);simp only[go_sem];refine⟨[([1],none,Cl.map .str)],?_⟩;simp only[go_sem];refine⟨rfl,?_⟩;rfl
theorem Pw{l:List (List UInt8)}{i:Nat}(h:i<l.length):(l.map D.str).getD i .aY=.str (l.getD i []):=by
 simp[h]
theorem Px{l:List (List UInt8)}{i:Nat}{s:List UInt8}(hi:i<l.length)(h:s∉l.take i)(h2:l.getD i []≠s):s∉l.take (i+1):=by
 rw[ak9 hi];simp only[ak1,ak3,not_or];refine⟨h,fun e=>h2 ?_⟩;simp[hi,e]
theorem acd{G}(s:List UInt8)(l:List (List UInt8))(hl:l.length<=9223372036854775807):HP prog G 184 [.str s,strs l] (fun r=>r=.d (.bool (decide (s∈l)))):=by
 refine cj func184 rfl (by decide +kernel) (by simp[ntmps184]) (aS fun E=>?_);unfold strs;simp only[go_sem];refine pU E (X:={ i:Nat // i<=l.length∧s∉l.take i }) (fun x=>[(0,.d (.str s)),(1,.d (.sl none (l.map .str))),(5,.d (i64 x.1))]) (fun x=>l.length-x.1) rfl ⟨0,by simp,by simp⟩ ?_ ?_
 .simp only[go_sem]
  all_goals rfl
 rintro⟨i,hi,hm⟩ E';simp only[go_sem];refine aI E' ?_ ?_<;>intro h6<;>simp only[go_sem]
 .have aq:i<l.length:=by omega
  refine⟨by omega,?_⟩;rw[Pw aq];simp only[go_sem];refine ck E' ?_ ?_<;>intro h7<;>simp only[go_sem]
  .have h7:l.getD i []=s:=by simpa using h7
   have:s∈l:=by
    rw[<-h7];simp[aq]
   rw[decide_eq_true this]
  .have h7:l.getD i []≠s:=by simpa using h7
   refine⟨⟨i+1,by omega,Px aq hm h7⟩,by show l.length-(i+1)<_;omega,?_⟩;rw[aD ⟨by omega,by omega⟩];rfl
 .have bF:i=l.length:=by omega
  subst bF;rw[alk]at hm;rw[decide_eq_false hm]
theorem ace{G}(l:List (List UInt8))(s:List UInt8)(hl:l.length<=9223372036854775807):HP prog G 204 [strs l,.str s] (fun r=>∃n,r=.d (i64 n)∧(0<=n↔s∈l)):=by
 refine cj func204 rfl (by decide +kernel) (by simp[ntmps204]) (aS fun E=>?_);unfold strs;simp only[go_sem];refine pU E (X:={ i:Nat // i<=l.length∧s∉l.take i }) (fun x=>[(0,.d (.sl none (l.map .str))),(1,.d (.str s)),(7,.d (i64 l.length)),(8,.d (i64 x.1))]) (fun x=>l.length-x.1) rfl ⟨0,by simp,by simp⟩ ?_ ?_
 .simp only[go_sem]
  all_goals rfl
 rintro⟨i,hi,hm⟩ E';simp only[go_sem];refine aI E' ?_ ?_<;>intro h6<;>simp only[go_sem]
 .have aq:i<l.length:=by omega
  refine⟨by omega,?_⟩;rw[Pw aq];simp only[go_sem];refine ck E' ?_ ?_<;>intro h7<;>simp only[go_sem]
  .have h7:s=l.getD i []:=by simpa using h7
   have:s∈l:=by
    rw[h7];simp[aq]
   exact⟨_,rfl,fun _=>this,fun _=>by omega⟩
  .have h7:l.getD i []≠s:=by
    intro e;rw[e]at h7;simp at h7
   refine⟨⟨i+1,by omega,Px aq hm h7⟩,by show l.length-(i+1)<_;omega,?_⟩;rw[aD ⟨by omega,by omega⟩];rfl
 .have bF:i=l.length:=by omega
  subst bF;rw[alk]at hm;exact⟨-1,rfl,fun h=>absurd h (by decide),fun h=>absurd h hm⟩
theorem acf{G}(l:List (List UInt8))(s:List UInt8)(hl:l.length<=9223372036854775807):HP prog G 180 [strs l,.str s] (fun r=>r=.d (.bool (decide (s∈l)))):=by
 refine cj func180 rfl (by decide +kernel) (by simp[ntmps180]) (aS fun E=>?_);simp only[go_sem];refine bd E (ace l s hl) rfl rfl (by simp) ?_;rintro _ ⟨n,rfl,hn⟩;simp only[go_sem];have:decide (0<=n)=decide (s∈l):=by rw[amL];simpa using hn
 rw[this]
def Py(s:List UInt8):Bool:=decide (s∈Cl)
theorem acg:Cl.length<=9223372036854775807:=by decide
theorem ach{G}(s:List UInt8):HP prog G 151 [.str s] (fun r=>r=.d (.bool (Py s))):=by
 refine cj func151 rfl (by decide +kernel) (by simp[ntmps151]) (aS fun E=>?_);simp only[go_sem];refine bd E acb rfl rfl (by simp) ?_;rintro _ rfl;simp only[go_sem];refine bd E (acf Cl s acg) rfl rfl (by simp) ?_;rintro _ rfl;simp only[go_sem];rfl
def lN(s:List UInt8):Bool:=!s.isEmpty&&decide (s.length<=20)&&decide (zz s=s.length)
def lO(s:List UInt8):Bool:=lN s&&sm (s.getD 0 0)&&!Py s
def mL(s:List UInt8):Bool:=lN s&&gr (s.getD 0 0)
theorem aci(a b:Nat):decide (((a:Nat):Int)=((b:Nat):Int))=decide (a=b):=by rw[amL];simp;omega
end Go.Proofs.YtpmniabdmbmafaaGreatDoor

namespace Go.Proofs.YtpmniabdmbmafaaGreatDoor
open Go.Ab Tryz
variable {t:TypeId}{fz:Nat×Nat}
theorem Pz{G}(s:List UInt8)(hl:s.length<=9223372036854775807):HP prog G 149 [.str s] (fun r=>r=.d (.bool (lN s))):=by
 refine cj func149 rfl (by decide +kernel) (by simp[ntmps149]) (aS fun E=>?_);simp only[go_sem];refine vQ E ?_ ?_<;>intro h0<;>simp only[go_sem]
 .refine bH E ?_ ?_<;>intro h1<;>simp only[go_sem]
  .refine bd E (aca s hl) rfl rfl (by simp) ?_;rintro _ rfl;simp only[go_sem];have h0:s.isEmpty=false:=by simpa using h0
   simp only[lN,h0,aci];rw[decide_eq_true (p:=s.length<=20) (by omega)];rfl
  .have:¬s.length<=20:=by omega
   simp only[lN];rw[decide_eq_false this,amC,alQ]
 .have h0:s.isEmpty=true:=by simpa using h0
  simp only[lN,h0];rfl
theorem PA{s:List UInt8}(h:lN s=true):1<=s.length:=by
 cases s with
 |nil=>simp[lN]at h
 |cons c r=>simp
theorem JN{G}(s:List UInt8)(hl:s.length<=9223372036854775807):HP prog G 109 [.str s] (fun r=>r=.d (.bool (lO s))):=by
 refine cj func109 rfl (by decide +kernel) (by simp[ntmps109]) (aS fun E=>?_);simp only[go_sem];refine bd E (Pz s hl) rfl rfl (by simp) ?_;rintro _ rfl;simp only[go_sem];refine vQ E ?_ ?_<;>intro h1<;>simp only[go_sem]
 .have:=PA h1;refine⟨by omega,?_⟩;refine bd E (JJ (s.getD 0 0)) rfl rfl (by simp) ?_;rintro _ rfl;simp only[go_sem];refine vQ E ?_ ?_<;>intro h2<;>simp only[go_sem]
  .refine bd E (ach s) rfl rfl (by simp) ?_;rintro _ rfl;simp only[go_sem];simp only[lO,h1,h2,ame]
  .simp only[lO,h1,h2,ame,alQ]
 .simp only[lO,h1,alQ]
theorem JO{G}(s:List UInt8)(hl:s.length<=9223372036854775807):HP prog G 110 [.str s] (fun r=>r=.d (.bool (mL s))):=by
 refine cj func110 rfl (by decide +kernel) (by simp[ntmps110]) (aS fun E=>?_);simp only[go_sem];refine bd E (Pz s hl) rfl rfl (by simp) ?_;rintro _ rfl;simp only[go_sem];refine vQ E ?_ ?_<;>intro h1<;>simp only[go_sem]
 .have:=PA h1;refine⟨by omega,?_⟩;refine bd E (JK (s.getD 0 0)) rfl rfl (by simp) ?_;rintro _ rfl;simp only[go_sem];simp only[mL,h1,ame]
 .simp only[mL,h1,alQ]
theorem acj{α:Type}(k:Int)(hk:0<=k)(l:List α)[Decidable (k<(l.length:Int))]:List.take ((if k<(l.length:Int)then k else(l.length:Int)).toNat-0) l=l.take k.toNat:=by
 rw[Nat.sub_zero];split
 .rfl
 .rw[Int.toNat_natCast,alk,ak5 (by omega)]
theorem Cm{α β:Type}(f:α->β)(k:Int)(hk:0<=k)(l:List α)[Decidable (k<(l.length:Int))]:List.take ((if k<(l.length:Int)then k else(l.length:Int)).toNat-0) (l.map f)=(l.take k.toNat).map f:=by
 rw[<-am0,acj k hk]
theorem Cn(k n:Int)[Decidable (k<n)](hk:0<=k)(hn:0<=n):(0<=if k<n then k else n)∧(if k<n then k else n)<=n:=by
 split<;>omega
end Go.Proofs.YtpmniabdmbmafaaGreatDoor

