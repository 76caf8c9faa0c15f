/-
  The generic layer, part 35: regions that draw their order and store: operations with their footprints. (with the parts that follow it) (with the parts that follow it)
-/
import Derived.Test.YtpmniabdmbmafaaGreatDoorSSE
import Derived.Laws.StructEq
set_option linter.all false
set_option maxHeartbeats 16000000
namespace Go.Ab
structure Ef where
 wr:List (Name×Option Ob):=[]
 nu:List Nat:=[]
def cm:Ef:=⟨[],[]⟩
def wl:List (Name×Option Ob)->Name->Option (Option Ob)
 |[],_=>none
 |q::r,p=>match wl r p with
   |some v=>some v
   |none=>if p=q.1 then some q.2 else none
def St.ql(s:St)(e:Ef):St:={ fr:=s.fr,hp:=fun p=>(wl e.wr p).getD (s.hp p),used:=e.nu++s.used }
def St.go(s:St)(d:Option Nat)(x:AV)(e:Ef):St:=(s.ql e).cV d x
theorem Au{s s':St}(h1:∀p,s.hp p=s'.hp p)(h2:s.used=s'.used)(h3:∀t,s.fr t=s'.fr t):s=s':=GD (funext h1) h2 h3
theorem X0(s:St):s.ql ⟨[],[]⟩=s:=Au (fun _=>rfl) rfl fun _=>rfl
theorem G8(s:St):s.ql cm=s:=X0 s
theorem Av(s:St)(p:Name)(v:Option Ob):s.ql ⟨[(p,v)],[]⟩=s.set p v:=Au (fun q=>by
 show(wl [(p,v)] q).getD (s.hp q)=aP s.hp p v q;simp only[wl,aP]
 split<;>rfl) rfl fun _=>rfl
theorem v7(s:St)(t:Nat)(o:Ob):s.ql ⟨[([t],some o)],[t]⟩=s.add t o:=Au (fun q=>by
 show(wl [([t],some o)] q).getD (s.hp q)=aP s.hp [t] (some o) q;simp only[wl,aP]
 split<;>rfl) rfl fun _=>rfl
theorem Mv(s:St)(p:Name)(t:Nat)(o:Ob):s.ql ⟨[(p,none),([t],some o)],[t]⟩=(s.set p none).add t o:=Au (fun q=>by
 show(wl [(p,none),([t],some o)] q).getD (s.hp q)=aP (aP s.hp p none) [t] (some o) q;simp only[wl,aP];by_cases h:q=[t]
 .simp[h]
 .simp only[if_neg h]
  split<;>rfl) rfl fun _=>rfl
def fm:AV->List Name
 |.vw p _ _=>[p]
 |.bx p _=>[p]
 |.el p _ _=>[p]
 |.mp p=>[p]
 |_=>[]
def oY(s:St):Op->List Name
 |.load _ x=>fm (ev s x)
 |.fieldAddr _ x _=>fm (ev s x)
 |.indexAddr _ x _=>fm (ev s x)
 |.slice _ x _ _ _=>fm (ev s x)
 |.store _ x _=>fm (ev s x)
 |.call c=>c.args.toList.flatMap fun x=>fm (ev s x)
 |_=>[]
def oZ(i:TI)(s:St)(x v:AV):R (Name×Ob) :=
 match x with
 |.bx p c =>
   match s.hp p with
   |some (.bz ty cs)=>match iW v with
     |some vs=>if i.k.dA=false∧vs.length=i.sz∧c+i.sz<=cs.length then .ok (p,.bz ty (splice cs c vs))else .no
     |none=>.no
   |_=>.no
 |.el p j c =>
   match s.hp p,v with
   |some (.bu none w xs),.d y=>match xA i w xs j c y with
     |some ys=>.ok (p,.arr w ys)
     |none=>.no
   |_,_=>.no
 |_=>.no
theorem X1(i:TI)(s:St)(x v:AV):tT i s x v=(oZ i s x v).bind fun q=>.ok (s.set q.1 (some q.2)):=by
 cases x with
 |bx p c =>
   simp only[tT,oZ]
   cases s.hp p with
   |none=>rfl
   |some o =>
     cases o with
     |bz ty cs =>
       simp only
       cases iW v with
       |none=>rfl
       |some vs=>simp only;split<;>rfl
     |_=>rfl
 |el p j c =>
   simp only[tT,oZ]
   cases s.hp p with
   |none=>rfl
   |some o =>
     cases o with
     |bu ty w xs =>
       obtain _|ty:=ty
       rotate_left
       .cases v<;>rfl
       cases v with
       |d y =>
         simp only
         cases xA i w xs j c y with
         |none=>rfl
         |some ys=>rfl
       |_=>rfl
     |_=>rfl
 |_=>rfl
def l5(d:Option Nat)(s:St)(wr:List (Name×Option Ob))(ob:Ob)(x:Name->AV):R (AV×Ef) :=
 match d with
 |some t=>if t∉s.used then .ok (x [t],⟨wr++[([t],some ob)],[t]⟩)else .no
 |none=>.no
def rm(e:TI)(d:Option Nat)(s:St)(x y:AV):R (AV×Ef) :=
 match kr e.w s.hp y,x with
 |some ys,.d .ai=>.need (ys.length*e.lN<=140737488355328) (l5 d s [] (.arr e.w ys) (.vw · 0 ys.length))
 |some ys,.vw p o l =>
   match s.hp p with
   |some (.bu none w xs)=>if w=e.w then .need ((l+ys.length)*e.lN<=140737488355328) (l5 d s [(p,none)] (.arr w ((xs.drop o).take l++ys)) (.vw · 0 (l+ys.length)))else .no
   |_=>.no
 |_,_=>.no
def cZ(tf:Nat->TI)(o:Op)(d:Option Nat)(s:St):R (AV×Ef) :=
 match o with
 |.store t x v=>(oZ (tf t) s (ev s x) (ev s v)).bind fun q=>.ok (.un,⟨[(q.1,some q.2)],[]⟩)
 |.alloc e=>match(tf e).z with
   |some cs=>l5 d s [] (.bz (xC tf e) (cs.map .d)) (.bx · 0)
   |none=>.no
 |.buildSlice t l parts =>
   match zz (tf t).k,sk 0 (parts.toList.map fun q=>(q.1,ev s q.2))with
   |some e,some xs=>if xs.length=l∧(tf e).z.isSome∧(tf e).fM (tf e).w∧xs.all (pZ (tf e).w)∧l*(tf e).sz<=16777216 then l5 d s [] (.arr (tf e).w xs) (.vw · 0 l)else .no
   |_,_=>.no
 |.call c=>match c.callee,c.args.toList,c.argTypes.toList with
   |.builtin .append,[x,y],[t,t']=>if t≠t' then .no else match(tf t).k with
     |.slice e=>if(tf e).nN∧(tf e).fM (tf e).w then rm (tf e) d s (ev s x) (ev s y)else .no
     |_=>.no
   |_,_,_=>(cM tf (.call c) s).bind fun x=>.ok (x,cm)
 |o=>(cM tf o s).bind fun x=>.ok (x,cm)
theorem X2(i:TI)(hp ae:Name->Option Ob)(x:AV)(h:∀p∈fm x,ae p=hp p):qV i ae x=qV i hp x:=by
 cases x with
 |bx p c=>simp only[qV,h p (by simp[fm])]
 |el p j c=>simp only[qV,h p (by simp[fm])]
 |d y=>cases y<;>rfl
 |_=>rfl
theorem X3(i:TI)(tf:Nat->TI)(hp ae:Name->Option Ob)(x:AV)(f:Nat)(h:∀p∈fm x,ae p=hp p):tU i tf ae x f=tU i tf hp x f:=by
 unfold tU
 cases i.k with
 |struct fs =>
   simp only
   cases fs[f]? with
   |none=>rfl
   |some q =>
     simp only;split
     .rfl
     .cases x with
      |bx p c=>simp only[h p (by simp[fm])]
      |el p j c=>simp only[h p (by simp[fm])]
      |d y =>
        cases y with
        |ptr z=>cases z<;>rfl
        |_=>rfl
      |_=>rfl
 |_=>rfl
theorem X4(i:TI)(tf:Nat->TI)(hp ae:Name->Option Ob)(x j:AV)(h:∀p∈fm x,ae p=hp p):tV i tf ae x j=tV i tf hp x j:=by
 unfold tV
 cases i.k with
 |slice e =>
   cases x with
   |vw p o l =>
     cases j with
     |d y =>
       cases y with
       |int k n=>simp only[h p (by simp[fm])]
       |_=>rfl
     |_=>rfl
   |d y =>
     cases y<;>first
      |rfl
      |(cases j<;>first
       |rfl
       |(rename_i z;cases z<;>rfl))
   |_=>rfl
 |arr l e =>
   cases x with
   |el p i c =>
     cases j with
     |d y =>
       cases y with
       |int k n=>simp only[h p (by simp[fm])]
       |_=>rfl
     |_=>rfl
   |_=>rfl
 |_=>rfl
theorem X5(i:TI)(tf:Nat->TI)(hp ae:Name->Option Ob)(x:AV)(lo hi:Option AV)(h:∀p∈fm x,ae p=hp p):tW i tf ae x lo hi=tW i tf hp x lo hi:=by
 unfold tW
 cases i.k with
 |slice e =>
   cases x with
   |vw p o l=>simp only[h p (by simp[fm])]
   |d y=>cases y<;>rfl
   |_=>rfl
 |str =>
   cases x with
   |d y=>cases y<;>rfl
   |_=>rfl
 |arr l e =>
   cases x with
   |el p i c=>simp only[h p (by simp[fm])]
   |_=>rfl
 |_=>rfl
theorem X6(i:TI)(hp ae:Name->Option Ob)(x:AV)(h:∀p∈fm x,ae p=hp p):tX i ae x=tX i hp x:=by
 unfold tX
 cases i.k with
 |slice e =>
   cases x with
   |vw p o l=>simp only[h p (by simp[fm])]
   |d y=>cases y<;>rfl
   |_=>rfl
 |map a b =>
   cases x with
   |mp p=>simp only[h p (by simp[fm])]
   |_=>rfl
 |str =>
   cases x with
   |d y=>cases y<;>rfl
   |_=>rfl
 |_=>rfl
theorem X7(i:TI)(s s':St)(x v:AV)(h:∀p∈fm x,s'.hp p=s.hp p):oZ i s' x v=oZ i s x v:=by
 cases x with
 |vw p o l=>simp only[oZ]
 |bx p c=>simp only[oZ,h p (by simp[fm])]
 |el p j c=>simp only[oZ,h p (by simp[fm])]
 |mp p=>simp only[oZ]
 |_=>rfl
theorem Mw(tf:Nat->TI)(o:Op)(s s':St)(hh:∀p∈oY s o,s'.hp p=s.hp p)(h:∀x∈o.operands,ev s' x=ev s x):cM tf o s'=cM tf o s:=by
 have e:cM tf o { s' with hp:=s.hp }=cM tf o s:=Gz tf o s { s' with hp:=s.hp } rfl fun x hx=>by
  have:=h x hx;cases x<;>exact this
 have bd:∀x,ev { s' with hp:=s.hp } x=ev s' x:=fun x=>by cases x<;>rfl
 have Aw:ev { s' with hp:=s.hp }=ev s':=funext bd;rw[<-e]
 cases o with
 |load t x =>
   simp only[cM,bd];exact X2 _ _ _ _ (by rw[h x (by simp[Op.operands])];exact hh)
 |fieldAddr t x f =>
   simp only[cM,bd];exact X3 _ _ _ _ _ _ (by rw[h x (by simp[Op.operands])];exact hh)
 |indexAddr t x j =>
   simp only[cM,bd];exact X4 _ _ _ _ _ _ (by rw[h x (by simp[Op.operands])];exact hh)
 |slice t x lo hi mx =>
   cases mx with
   |some _=>rfl
   |none =>
     simp only[cM,Aw];exact X5 _ _ _ _ _ _ _ (by rw[h x (by simp[Op.operands])];exact hh)
 |call c =>
   obtain⟨callee,args,jr⟩:=c
   cases callee with
   |value _=>rfl
   |invoke _ _=>rfl
   |builtin b =>
     obtain⟨args⟩:=args;obtain⟨jr⟩:=jr;simp only[cM,bd];split
     .rename_i x t;exact X6 _ _ _ _ (by rw[h x (by simp[Op.operands,Call.operands])];exact fun p hp=>hh p (by simp[oY,hp]))
     .rfl
     .rfl
     .rfl
 |_=>simp only[cM,bd,Aw]
def jw:R (AV×Ef)->AV×Ef->Prop
 |.ok y,x=>y=x
 |.need p r,x=>p∧jw r x
 |.no,_=>False
theorem CY{d:Option Nat}{s s':St}{wr:List (Name×Option Ob)}{ob:Ob}{x:Name->AV}{r:AV×Ef}(h:jw (l5 d s wr ob x) r)(hu:∀y∈r.2.nu,y∉s'.used):jw (l5 d s' wr ob x) r:=by
 unfold l5 at h ⊢
 cases d with
 |none=>exact h
 |some t =>
   simp only at h ⊢;split at h
   .have h:(x [t],(⟨wr++[([t],some ob)],[t]⟩:Ef))=r:=h;subst h;rw[if_pos (hu t (by simp))];exact rfl
   .exact h.elim
theorem CZ{d:Option Nat}{s:St}{wr:List (Name×Option Ob)}{ob:Ob}{x:Name->AV}{r:AV×Ef}(h:jw (l5 d s wr ob x) r):∀y∈r.2.nu,y∉s.used:=by
 unfold l5 at h
 cases d with
 |none=>exact h.elim
 |some t =>
   simp only at h;split at h
   .rename_i ht;have h:(x [t],(⟨wr++[([t],some ob)],[t]⟩:Ef))=r:=h;subst h;simpa using ht
   .exact h.elim
theorem G9{n:Nat}{d:Option Nat}{s:St}{ob:Ob}{x:Name->AV}{r:AV×Ef}(hd:dE n d)(h:jw (l5 d s [] ob x) r):(jI n d s ob x).run (fun s2=>s2=s.go d r.1 r.2) False:=by
 unfold l5 at h
 cases d with
 |none=>exact h.elim
 |some t =>
   simp only at h;split at h
   .rename_i ht;have h:(x [t],(⟨[]++[([t],some ob)],[t]⟩:Ef))=r:=h;subst h;have hd:t<n:=hd;simp only[jI,hd,ht,not_false_eq_true,and_self,if_true,R.run];show _=(s.ql _).cV _ _;rw[List.nil_append,v7];rfl
   .exact h.elim
theorem X8{n:Nat}{d:Option Nat}{s:St}{p:Name}{ob:Ob}{x:Name->AV}{r:AV×Ef}(hd:dE n d)(h:jw (l5 d s [(p,none)] ob x) r):(jI n d (s.set p none) ob x).run (fun s2=>s2=s.go d r.1 r.2) False:=by
 unfold l5 at h
 cases d with
 |none=>exact h.elim
 |some t =>
   simp only at h;split at h
   .rename_i ht;have h:(x [t],(⟨[(p,none)]++[([t],some ob)],[t]⟩:Ef))=r:=h;subst h;have hd:t<n:=hd;have kD:t∉(s.set p none).used:=ht;simp only[jI,hd,kD,not_false_eq_true,and_self,if_true,R.run];show _=(s.ql _).cV _ _;rw[List.cons_append,List.nil_append,Mv];rfl
   .exact h.elim
theorem X9(w:W)(hp ae:Name->Option Ob)(x:AV)(h:∀p∈fm x,ae p=hp p):kr w ae x=kr w hp x:=by
 cases x with
 |vw p o l=>simp only[kr,h p (by simp[fm])]
 |d y=>cases y<;>rfl
 |_=>rfl
theorem Ya{e:TI}{d:Option Nat}{s s':St}{x y:AV}{r:AV×Ef}(hx:∀p∈fm x,s'.hp p=s.hp p)(hy:∀p∈fm y,s'.hp p=s.hp p)(h:jw (rm e d s x y) r)(hu:∀z∈r.2.nu,z∉s'.used):jw (rm e d s' x y) r:=by
 unfold rm at h ⊢;rw[X9 e.w s.hp s'.hp y hy]
 cases hl:kr e.w s.hp y with
 |none=>rw[hl]at h;exact h.elim
 |some ys =>
   rw[hl]at h
   cases x with
   |vw p o l =>
     simp only at h ⊢;rw[hx p (by simp[fm])]
     cases hp:s.hp p with
     |none=>rw[hp]at h;exact h.elim
     |some ob =>
       rw[hp]at h
       cases ob with
       |bu ty w xs =>
         obtain _|ty:=ty
         rotate_left
         .exact h.elim
         simp only at h ⊢;split at h
         .rename_i hw;rw[if_pos hw];exact⟨h.1,CY h.2 hu⟩
         .exact h.elim
       |_=>exact h.elim
   |d z =>
     cases z with
     |ai=>exact⟨h.1,CY h.2 hu⟩
     |_=>exact h.elim
   |_=>exact h.elim
theorem Yb{e:TI}{d:Option Nat}{s:St}{x y:AV}{r:AV×Ef}(h:jw (rm e d s x y) r):∀z∈r.2.nu,z∉s.used:=by
 unfold rm at h
 cases hl:kr e.w s.hp y with
 |none=>rw[hl]at h;exact h.elim
 |some ys =>
   rw[hl]at h
   cases x with
   |vw p o l =>
     simp only at h
     cases hp:s.hp p with
     |none=>rw[hp]at h;exact h.elim
     |some ob =>
       rw[hp]at h
       cases ob with
       |bu ty w xs =>
         obtain _|ty:=ty
         rotate_left
         .exact h.elim
         simp only at h;split at h
         .exact CZ h.2
         .exact h.elim
       |_=>exact h.elim
   |d z =>
     cases z with
     |ai=>exact CZ h.2
     |_=>exact h.elim
   |_=>exact h.elim
theorem Yc{n:Nat}{e:TI}{d:Option Nat}{s:St}{x y:AV}{r:AV×Ef}(hd:dE n d)(h:jw (rm e d s x y) r):(vF n e d s x y).run (fun s2=>s2=s.go d r.1 r.2) False:=by
 unfold rm at h;unfold vF
 cases hl:kr e.w s.hp y with
 |none=>rw[hl]at h;exact h.elim
 |some ys =>
   rw[hl]at h
   cases x with
   |vw p o l =>
     simp only at h ⊢
     cases hp:s.hp p with
     |none=>rw[hp]at h;exact h.elim
     |some ob =>
       rw[hp]at h
       cases ob with
       |bu ty w xs =>
         obtain _|ty:=ty
         rotate_left
         .exact h.elim
         simp only at h ⊢;split at h
         .rename_i hw;rw[if_pos hw];exact⟨h.1,X8 hd h.2⟩
         .exact h.elim
       |_=>exact h.elim
   |d z =>
     cases z with
     |ai=>exact⟨h.1,G9 hd h.2⟩
     |_=>exact h.elim
   |_=>exact h.elim
theorem Mx{α:Type}{x:AV×Ef}{g:α->AV×Ef}{f:α->R St}{k:St->Prop}{z:Prop}(hf:∀a,g a=x->(f a).run k z):∀{r:R α},jw (r.bind fun a=>.ok (g a)) x->(r.bind f).run k z
 |.ok a,h=>hf a h
 |.need _ _,h=>⟨h.1,Mx hf h.2⟩
 |.no,h=>h.elim
theorem C3{α:Type}{x:AV×Ef}{g:α->AV×Ef}(hg:∀a,(g a).2.nu=[]):∀{r:R α},jw (r.bind fun a=>.ok (g a)) x->x.2.nu=[]
 |.ok a,h=>by have h:g a=x:=h;subst h;exact hg a
 |.need p r,h=>C3 hg h.2
 |.no,h=>h.elim
def Call.isApp(c:Call):Bool:=match c.callee,c.args.toList,c.argTypes.toList with
 |.builtin .append,[_,_],[_,_]=>true
 |_,_,_=>false
theorem C4{tf:Nat->TI}{c:Call}{d:Option Nat}{s:St}(h:Call.isApp c=false):cZ tf (.call c) d s=(cM tf (.call c) s).bind fun x=>.ok (x,cm):=by
 obtain⟨callee,args,jr⟩:=c;obtain⟨args⟩:=args;obtain⟨jr⟩:=jr;unfold cZ;simp only;split
 .simp[Call.isApp]at h
 .rfl
theorem Ha{c:Call}(h:Call.isApp c=true):∃x y t t',c={ callee:=.builtin .append,args:=[x,y].toArray,argTypes:=[t,t'].toArray }:=by
 obtain⟨callee,args,jr⟩:=c;obtain⟨args⟩:=args;obtain⟨jr⟩:=jr;unfold Call.isApp at h;simp only at h;split at h
 .exact⟨_,_,_,_,rfl⟩
 .cases h
theorem Yd{tf:Nat->TI}{o:Op}{d:Option Nat}{s s':St}{r:AV×Ef}(hh:∀p∈oY s o,s'.hp p=s.hp p)(h:∀x∈o.operands,ev s' x=ev s x)(hy:jw (cZ tf o d s) r)(hu:∀y∈r.2.nu,y∉s'.used):jw (cZ tf o d s') r:=by
 cases o with
 |store t x v =>
   simp only[cZ]at hy ⊢;rw[h x (by simp[Op.operands]),h v (by simp[Op.operands]),X7 _ s s' _ _ hh];exact hy
 |alloc e =>
   simp only[cZ]at hy ⊢;split at hy
   .exact CY hy hu
   .exact hy.elim
 |buildSlice t l parts =>
   have:(parts.toList.map fun q=>(q.1,ev s' q.2))=parts.toList.map fun q=>(q.1,ev s q.2) :=
    aiQ fun q hq=>by rw[h q.2 (by simp only[Op.operands,akM,ah9];exact⟨q,hq,rfl⟩)]
   simp only[cZ,this]at hy ⊢;split at hy
   .split at hy
    .rename_i hc;rw[if_pos hc];exact CY hy hu
    .exact hy.elim
   .exact hy.elim
 |call c =>
   cases hc:Call.isApp c with
   |false =>
     rw[C4 hc]at hy ⊢;rw[Mw tf _ s s' hh h];exact hy
   |true =>
     obtain⟨x,y,t,t',rfl⟩:=Ha hc;have ex:ev s' x=ev s x:=h x (by simp[Op.operands,Call.operands]);have ey:ev s' y=ev s y:=h y (by simp[Op.operands,Call.operands]);simp only[cZ]at hy ⊢;split at hy
     .exact hy.elim
     .rename_i ht;rw[if_neg ht];split at hy
      .split at hy
       .rename_i e hk hz;rw[if_pos hz,ex,ey];exact Ya (fun p hp=>hh p (by simp[oY,hp])) (fun p hp=>hh p (by simp[oY,hp])) hy hu
       .exact hy.elim
      .exact hy.elim
 |_ =>
   simp only[cZ]at hy ⊢;rw[Mw tf _ s s' hh h];exact hy
theorem Ye{tf:Nat->TI}{o:Op}{d:Option Nat}{s:St}{r:AV×Ef}(hy:jw (cZ tf o d s) r):∀y∈r.2.nu,y∉s.used:=by
 have none:r.2.nu=[]->∀y∈r.2.nu,y∉s.used:=fun h y hy=>by rw[h]at hy;cases hy
 cases o with
 |store t x v=>exact none (C3 (g:=fun q:Name×Ob=>(AV.un,(⟨[(q.1,some q.2)],[]⟩:Ef))) (fun _=>rfl) hy)
 |alloc e =>
   simp only[cZ]at hy;split at hy
   .exact CZ hy
   .exact hy.elim
 |buildSlice t l parts =>
   simp only[cZ]at hy;split at hy
   .split at hy
    .exact CZ hy
    .exact hy.elim
   .exact hy.elim
 |call c =>
   cases hc:Call.isApp c with
   |false =>
     rw[C4 hc]at hy;exact none (C3 (g:=fun a:AV=>(a,cm)) (fun _=>rfl) hy)
   |true =>
     obtain⟨x,y,t,t',rfl⟩:=Ha hc;simp only[cZ]at hy;split at hy
     .exact hy.elim
     .split at hy
      .split at hy
       .exact Yb hy
       .exact hy.elim
      .exact hy.elim
 |_=>exact none (C3 (g:=fun a:AV=>(a,cm)) (fun _=>rfl) hy)
def yf(r:R (AV×Ef))(f:AV×Ef->Prop)(z:Prop):Prop :=
 match r with
 |.ok x=>f x
 |.need p r=>p∧yf r f z
 |.no=>z
theorem My{f:AV×Ef->Prop}{z:Prop}:∀{r:R (AV×Ef)},yf r f z->(∃x,jw r x∧f x)∨z
 |.ok x,h=>.inl ⟨x,rfl,h⟩
 |.no,h=>.inr h
 |.need p r,h=>by
   rcases My (r:=r) h.2 with⟨x,h1,h2⟩|hz
   .exact .inl ⟨x,⟨h.1,h1⟩,h2⟩
   .exact .inr hz
theorem Yf{tf:Nat->TI}{n:Nat}{o:Op}{d:Option Nat}{s:St}{x:AV×Ef}(h:jw ((cM tf o s).bind fun x=>.ok (x,cm)) x):cR tf n o d s=(cM tf o s).bind (c9 n d s):=by
 rcases LR tf n o d s with e|e
 .rw[e]at h;exact h.elim
 .exact e
theorem Yg{tf:Nat->TI}{n:Nat}{o:Op}{d:Option Nat}{s:St}{x:AV×Ef}(hd:dE n d)(h:jw (cZ tf o d s) x):(cR tf n o d s).run (fun s2=>s2=s.go d x.1 x.2) False:=by
 have Mz:∀(s1:St) (v:AV),(c9 n d s1 v).run (fun s2=>s2=s1.cV d v) False:=fun s1 v=>by
  cases d with
  |none=>exact rfl
  |some t=>simp[c9,show t<n from hd,R.run,St.cV]
 have quiet:jw ((cM tf o s).bind fun x=>.ok (x,cm)) x->(cR tf n o d s).run (fun s2=>s2=s.go d x.1 x.2) False:=fun h=>by
  rw[Yf h]
  exact Mx (g:=fun a=>(a,cm)) (fun a ha=>by
   subst ha;show(c9 n d s a).run (fun s2=>s2=(s.ql cm).cV d a) False;rw[G8]
   exact Mz _ _) h
 cases o with
 |store t a b =>
   simp only[cR,X1];simp only[cZ]at h
   have key:∀r:R (Name×Ob),jw (r.bind fun q=>.ok (.un,⟨[(q.1,some q.2)],[]⟩)) x->((r.bind fun q=>.ok (s.set q.1 (some q.2))).bind fun s'=>c9 n d s' .un).run (fun s2=>s2=s.go d x.1 x.2) False:=by
    intro r
    induction r with
    |ok q =>
      intro h;have h:(AV.un,(⟨[(q.1,some q.2)],[]⟩:Ef))=x:=h;subst h;show(c9 n d (s.set q.1 (some q.2)) .un).run (fun s2=>s2=(s.ql ⟨[(q.1,some q.2)],[]⟩).cV d .un) False;rw[Av];exact Mz _ _
    |need p r ih=>exact fun h=>⟨h.1,ih h.2⟩
    |no=>exact fun h=>h.elim
   exact key _ h
 |alloc e =>
   simp only[cZ]at h;simp only[cR];split at h
   .rename_i cs hz;rw[hz];exact G9 hd h
   .exact h.elim
 |buildSlice t l parts =>
   simp only[cZ]at h;simp only[cR];split at h
   .rename_i e xs h1 h2;rw[h1,h2];split at h
    .rename_i hc;simp only[if_pos hc];exact G9 hd h
    .exact h.elim
   .exact h.elim
 |call c =>
   cases hc:Call.isApp c with
   |false =>
     rw[C4 hc]at h;exact quiet h
   |true =>
     obtain⟨a,b,t,t',rfl⟩:=Ha hc;simp only[cZ]at h;simp only[cR,Cj,aid,aiO];split at h
     .exact h.elim
     .rename_i ht;rw[if_neg ht];split at h
      .rename_i e hk;rw[hk];split at h
       .rename_i hz;simp only[if_pos hz];exact Yc hd h
       .exact h.elim
      .exact h.elim
 |_=>exact quiet h
section
variable (P:Program)(cf:Cf)(ops:Array Oper)
abbrev Fp:=List Name×Ef
abbrev Ns:=List (List Name×List Name×List Nat)
def QE(o:Oper)(s:St)(x:AV)(f:Fp):Prop:=∀s',(∀y∈f.2.nu,y∉s'.used)->(∀p∈f.1,s'.hp p=s.hp p)->(∀y∈o.op.operands,ev s' y=ev s y) ->
 ∀B,cf.fits B->∀ds β a w,a.defers=ds->aj B β s' a.tmps w->∀Q',o.wpIn (Fw cf.ro) 0 P a w (fun a' w'=>a'.defers=ds∧∃β',aj B β' (s'.go o.dst x f.2) a'.tmps w') Q'
def iL(f:Fp):List Name×List Name×List Nat:=(f.1,f.2.wr.map (·.1),f.2.nu)
def il(K:St->Ns->Prop):List Oper->St->Ns->Prop
 |[],s,ns=>K s ns
 |o::r,s,ns =>
   match o.guard with
   |none=>yf (cZ P.ti o.op o.dst s) (fun x=>dE cf.n o.dst∧il K r (s.go o.dst x.1 x.2) (ns++[iL (oY s o.op,x.2)])) (∃x f,QE P cf o s x f∧(∀y∈f.2.nu,y∉s.used)∧dE cf.n o.dst∧il K r (s.go o.dst x f.2) (ns++[iL f]))
   |some (j,want) =>
     match nO ops j s with
     |some (t,.d (.bool b)) =>
       (b=want->yf (cZ P.ti o.op o.dst (s.put t (.d (.bool want)))) (fun x=>dE cf.n o.dst∧il K r ((s.put t (.d (.bool want))).go o.dst x.1 x.2) (ns++[iL (oY (s.put t (.d (.bool want))) o.op,x.2)])) (∃x f,QE P cf o (s.put t (.d (.bool want))) x f∧(∀y∈f.2.nu,y∉(s.put t (.d (.bool want))).used)∧dE cf.n o.dst∧il K r ((s.put t (.d (.bool want))).go o.dst x f.2) (ns++[iL f]))) ∧
       (b=!want->dE cf.n o.dst∧il K r ((s.put t (.d (.bool (!want)))).go o.dst (.aA []) cm) (ns++[([],[],[])]))
     |some (_,.aA [])=>dE cf.n o.dst∧il K r (s.go o.dst (.aA []) cm) (ns++[([],[],[])])
     |_=>False
def yg(l:List Nat)(f:Fp)(s s':St):Prop:=(∀y∈f.2.nu,y∉s'.used)∧(∀p∈f.1,s'.hp p=s.hp p)∧∀t∈l,s'.fr t=s.fr t
def v8(i:Nat)(o:Oper)(s:St)(x:AV)(f:Fp):Prop:=(∀y∈f.2.nu,y∉s.used)∧∀s',yg (o.looksAt ops) f s s'->∀B,cf.fits B->∀ds β a w,a.defers=ds->aj B β s' a.tmps w->∀Q',
 wpOpIn (Fw cf.ro) 0 P ops Q' i (fun a' w'=>a'.defers=ds∧∃β',aj B β' (s'.go o.dst x f.2) a'.tmps w') a w
variable {P cf ops}
theorem Yh{o:Oper}{f:Fp}{s s':St}(h:yg (o.looksAt ops) f s s'):∀y∈o.op.operands,ev s' y=ev s y:=fun y hy =>
 LS fun t ht=>h.2.2 t (by subst ht;exact aif _ (List.mem_filterMap.2 ⟨.tmp t,by simpa using hy,rfl⟩))
theorem Yi{o:Oper}{s:St}{x:AV×Ef}(h:jw (cZ P.ti o.op o.dst s) x)(hd:dE cf.n o.dst):QE P cf o s x.1 (oY s o.op,x.2):=by
 intro s' hu hh he B hB ds β a w ak hs Q';have e:=Yd hh he h hu;have hr:=Yg (n:=B.n) (d:=o.dst) (s:=s') (by rw[hB.1];exact hd) e;rcases xN hs hr with hz|⟨nx,v,w',s2,β',aK,bU,rfl,bm⟩
 .exact hz.elim
 .have hnd:∀c,o.op≠.defer c:=by
   intro c hc;rw[hc]at h;exact h.elim
  exact iZ hnd aK bU ⟨by cases o.dst<;>exact ak,β',bm⟩
theorem Hb(s:St)(d:Option Nat)(x:AV):s.go d x cm=s.cV d x:=by unfold St.go;rw[G8]
theorem MA{i:Nat}{o:Oper}{s:St}(hi:ops[i]?=some o)(hd:dE cf.n o.dst)(hw:∀(B:Base) (β:Name->Option aU) s' tm w,yg (o.looksAt ops) ([],cm) s s'->aj B β s' tm w->Region.wanted o (yielded ops tm)=false):v8 P cf ops i o s (.aA []) ([],cm):=by
 refine⟨fun y hy=>(by cases hy),fun s' fT B hB ds β a w ak hs Q'=>?_⟩;unfold wpOpIn;simp only[hi,hw B β s' a.tmps w fT hs,aip,if_false];refine⟨fun _ _=>trivial,by cases o.dst<;>exact ak,β,?_⟩;rw[Hb];refine hs.cV (fun t ht=>?_) (.aA #[] [] rfl (by simp));rw[ht]at hd;rw[hB.1];exact hd
theorem MB{i:Nat}{o:Oper}{s:St}{x:AV}{f:Fp}(hi:ops[i]?=some o)(hf:∀y∈f.2.nu,y∉s.used)(hw:∀(B:Base) (β:Name->Option aU) s' tm w,yg (o.looksAt ops) f s s'->aj B β s' tm w->Region.wanted o (yielded ops tm)=true)(h:QE P cf o s x f):v8 P cf ops i o s x f:=by
 refine⟨hf,fun s' fT B hB ds β a w ak hs Q'=>?_⟩;unfold wpOpIn;simp only[hi,hw B β s' a.tmps w fT hs,if_true];exact h s' fT.1 fT.2.1 (Yh fT) B hB ds β a w ak hs Q'
theorem Yj{K:St->Ns->Prop}{i:Nat}{o:Oper}{r:List Oper}{s:St}{ns:Ns}(hi:ops[i]?=some o)(h:il P cf ops K (o::r) s ns):∃x f,v8 P cf ops i o s x f∧il P cf ops K r (s.go o.dst x f.2) (ns++[iL f]):=by
 unfold il at h
 have go:∀s1,s1=s->(∀(f:Fp) (B:Base) (β:Name->Option aU) s' tm w,yg (o.looksAt ops) f s s'->aj B β s' tm w->Region.wanted o (yielded ops tm)=true) ->
   yf (cZ P.ti o.op o.dst s1) (fun x=>dE cf.n o.dst∧il P cf ops K r (s1.go o.dst x.1 x.2) (ns++[iL (oY s1 o.op,x.2)])) (∃x f,QE P cf o s1 x f∧(∀y∈f.2.nu,y∉s1.used)∧dE cf.n o.dst∧il P cf ops K r (s1.go o.dst x f.2) (ns++[iL f])) ->
   ∃x f,v8 P cf ops i o s x f∧il P cf ops K r (s.go o.dst x f.2) (ns++[iL f]):=by
  rintro s1 rfl hw h;rcases My h with⟨x,h1,hd,h2⟩|⟨x,f,h1,hn,_,h2⟩
  .exact⟨x.1,_,MB hi (Ye h1) (hw _) (Yi h1 hd),h2⟩
  .exact⟨x,f,MB hi hn (hw _) h1,h2⟩
 cases hg:o.guard with
 |none =>
   rw[hg]at h;exact go s rfl (fun _ _ _ _ _ _ _ _=>by simp[Region.wanted,hg]) h
 |some q =>
   obtain⟨j,want⟩:=q;rw[hg]at h;simp only at h;split at h
   .rename_i t b ie;obtain⟨oj,hj,iJ,js⟩:=CM ie;have hl:=CN hg hj iJ;by_cases hb:b=want
    .have e:s.put t (.d (.bool want))=s:=Ae (by rw[js,hb]);have h1:=h.1 hb;rw[e]at h1;refine go s rfl (fun f B β s' tm w fT hs=>?_) h1;have:=CO hs hj iJ ((fT.2.2 t hl).trans js);simp[Region.wanted,hg,this,hb]
    .have uq:b=!want:=by cases b<;>cases want<;>simp_all
     have e:s.put t (.d (.bool (!want)))=s:=Ae (by rw[js,uq]);obtain⟨hd,h2⟩:=h.2 uq;rw[e]at h2;refine⟨_,_,MA hi hd (fun B β s' tm w fT hs=>?_),h2⟩;have:=CO hs hj iJ ((fT.2.2 t hl).trans js);simp[Region.wanted,hg,this,hb]
   .rename_i t ie;obtain⟨oj,hj,iJ,js⟩:=CM ie;have hl:=CN hg hj iJ;refine⟨_,_,MA hi h.1 (fun B β s' tm w fT hs=>?_),h.2⟩;have:=LX hs hj iJ ((fT.2.2 t hl).trans js);simp[Region.wanted,hg,this]
   .exact h.elim
end
end Go.Ab
namespace Go.Ab
theorem aj.reuse{B:Base}{β:Name->Option aU}{s s2:St}{tm:Array Value}{w:World}(h:aj B β s tm w)(h1:s2.hp=s.hp)(h2:s2.fr=s.fr)(h3:∀y,y∈s.used↔y∈s2.used):aj B β s2 tm w:=by
 obtain⟨fr,hp,us⟩:=s;obtain⟨Hc,qd,MC⟩:=s2;simp only at h1 h2 h3;subst h1;subst h2;have ah:∀p,nm us p->iG qd qd β β p:=fun p _ o ho=>⟨o,ho,Ob.mS _,rfl⟩
 have hu:∀x∈us,x∈MC:=fun x hx=>(h3 x).1 hx;exact { bE:=h.bE,io:=h.io,size:=h.size,frame:=h.frame,slots:=fun t=>(h.slots t).mono (fun _ _ h=>h) hu ah,aO:=fun p o ho=>⟨(h.aO p o ho).1.mono hu,(h.aO p o ho).2.mono (fun _ _ h=>h) hu ah rfl fun _ _=>rfl⟩,blocks:=h.blocks,inj:=h.inj,us:=fun x hx=>hu x (h.us x hx),stay:=h.stay }
section
variable {P:Program}{cf:Cf}{ops:Array Oper}
def iq(ops:Array Oper)(xs:Nat->AV)(fs:Nat->Fp):List Nat->St->St
 |[],s=>s
 |i::l,s=>iq ops xs fs l (s.go (dV ops i) (xs i) (fs i).2)
theorem MD(xs:Nat->AV)(fs:Nat->Fp)(i:Nat):∀(l:List Nat) (s:St),iq ops xs fs (l++[i]) s=(iq ops xs fs l s).go (dV ops i) (xs i) (fs i).2
 |[],_=>rfl
 |j::l,s=>by rw[List.cons_append,iq,MD xs fs i l,iq]
theorem Yk(s:St)(d:Option Nat)(x:AV)(e:Ef):(s.go d x e).used=e.nu++s.used:=by
 unfold St.go;rw[L0];rfl
theorem Yl(s:St)(d:Option Nat)(x:AV)(e:Ef)(t:Nat):(s.go d x e).fr t=if d=some t then x else s.fr t:=by
 unfold St.go
 cases d with
 |none=>simp[St.cV,St.ql]
 |some u =>
   show eC _ _ _ _=_;simp only[eC,aiv];by_cases h:t=u
   .rw[if_pos h,if_pos h.symm]
   .rw[if_neg h,if_neg (fun e=>h e.symm)];rfl
theorem Ym(s:St)(d:Option Nat)(x:AV)(e:Ef)(p:Name):(s.go d x e).hp p=(wl e.wr p).getD (s.hp p):=by
 unfold St.go;rw[LZ];rfl
theorem Hd:∀{wr:List (Name×Option Ob)} {p:Name} {v:Option Ob},wl wr p=some v->p∈wr.map (·.1)
 |[],_,_,h=>by cases h
 |q::r,p,v,h=>by
   unfold wl at h
   cases hr:wl r p with
   |some u=>exact ah8 _ (Hd hr)
   |none =>
     rw[hr]at h;simp only at h;split at h
     .rename_i e;rw[e];exact ah0
     .cases h
structure qm(ops:Array Oper)(xs:Nat->AV)(fs:Nat->Fp)(s:St)(L:List Nat)(s':St):Prop where
 used:∀y,y∈s'.used↔y∈s.used∨∃k∈L,y∈(fs k).2.nu
 slot:∀t,(∃k∈L,dV ops k=some t∧s'.fr t=xs k)∨((∀k∈L,dV ops k≠some t)∧s'.fr t=s.fr t)
 heap:∀p,(∃k∈L,∃v,wl (fs k).2.wr p=some v∧(∀k'∈L,(∃v',wl (fs k').2.wr p=some v')->k'<=k)∧s'.hp p=v)∨((∀k∈L,wl (fs k).2.wr p=none)∧s'.hp p=s.hp p)
theorem qm.nil(xs:Nat->AV)(fs:Nat->Fp)(s:St):qm ops xs fs s [] s:=⟨fun _=>by simp,fun _=>.inr ⟨by simp,rfl⟩,fun _=>.inr ⟨by simp,rfl⟩⟩
theorem qm.snoc{xs:Nat->AV}{fs:Nat->Fp}{s s':St}{L:List Nat}{i:Nat}(h:qm ops xs fs s L s')(hw:∀k∈L,∀p v v',wl (fs k).2.wr p=some v->wl (fs i).2.wr p=some v'->k<=i) :
  qm ops xs fs s (L++[i]) (s'.go (dV ops i) (xs i) (fs i).2):=by
 refine⟨fun y=>?_,fun t=>?_,fun p=>?_⟩
 .rw[Yk,ah1,h.used y];constructor
  .rintro(h1|h1|⟨k,hk,h1⟩)
   .exact .inr ⟨i,by simp,h1⟩
   .exact .inl h1
   .exact .inr ⟨k,aif _ hk,h1⟩
  .rintro(h1|⟨k,hk,h1⟩)
   .exact .inr (.inl h1)
   .rcases ah1.1 hk with hk|hk
    .exact .inr (.inr ⟨k,hk,h1⟩)
    .rw[ahZ.1 hk]at h1;exact .inl h1
 .rw[Yl];by_cases hd:dV ops i=some t
  .exact .inl ⟨i,by simp,hd,by rw[if_pos hd]⟩
  .rw[if_neg hd];rcases h.slot t with⟨k,hk,h1,h2⟩|⟨h1,h2⟩
   .exact .inl ⟨k,aif _ hk,h1,h2⟩
   .refine .inr ⟨fun k hk=>?_,h2⟩;rcases ah1.1 hk with hk|hk
    .exact h1 k hk
    .rw[ahZ.1 hk];exact hd
 .rw[Ym]
  cases he:wl (fs i).2.wr p with
  |some o =>
    refine .inl ⟨i,by simp,o,he,fun k' az ⟨o',aM⟩=>?_,rfl⟩;rcases ah1.1 az with az|az
    .exact hw k' az p o' o aM he
    .rw[ahZ.1 az];exact ain _
  |none =>
    show _∨(_∧s'.hp p=_)
    rcases h.heap p with⟨k,hk,o,h1,h2,h3⟩|⟨h1,h2⟩
    .refine .inl ⟨k,aif _ hk,o,h1,fun k' az aM=>?_,h3⟩;rcases ah1.1 az with az|az
     .exact h2 k' az aM
     .rw[ahZ.1 az,he]at aM;obtain⟨_,aM⟩:=aM;cases aM
    .refine .inr ⟨fun k hk=>?_,h2⟩;rcases ah1.1 hk with hk|hk
     .exact h1 k hk
     .rw[ahZ.1 hk];exact he
inductive o0(ops:Array Oper):Nat->Nat->Prop
 |one {i:Nat} {o:Oper} {e:Edge} (ho:ops[i]?=some o) (he:e∈o.after) (hb:Region.binds .any e=true):o0 ops i e.on
 |tr {i:Nat} {o:Oper} {e:Edge} {k:Nat} (ho:ops[i]?=some o) (he:e∈o.after) (hb:Region.binds .any e=true) (h:o0 ops e.on k):o0 ops i k
def yh(acc:List (List Nat))(o:Oper):List Nat:=((o.after.toList.filter (Region.binds .any)).flatMap fun e=>e.on::acc.getD e.on []).eraseDups
def yi:List (List Nat)->List Oper->List (List Nat)
 |acc,[]=>acc
 |acc,o::r=>yi (acc++[yh acc o]) r
theorem He:∀(r:List Oper) (acc:List (List Nat)),(∀j,r[j]?=ops[acc.length+j]?)->(∀i k,k∈acc.getD i []->o0 ops i k)->∀i k,k∈(yi acc r).getD i []->o0 ops i k
 |[],_,_,h=>h
 |o::r,acc,hr,h=>by
   refine He r (acc++[yh acc o]) (fun j=>?_) (fun i k hk=>?_)
   .have:=hr (j+1);rw[List.getElem?_cons_succ]at this;rw[this,ah7,List.length_singleton,show acc.length+(j+1)=acc.length+1+j by omega]
   .have ho:ops[acc.length]?=some o:=by simpa using(hr 0).symm
    by_cases hi:i<acc.length
    .refine h i k ?_;rw[ahX,aih hi]at hk;rw[ahX];exact hk
    .by_cases l6:i=acc.length
     .subst l6;have:(acc++[yh acc o]).getD acc.length []=yh acc o:=by simp
      rw[this]at hk;unfold yh at hk;rw[List.mem_eraseDups,ajP]at hk;obtain⟨e,he,hk⟩:=hk;rw[ait]at he;have ME:e∈o.after:=aj9.1 he.1;rcases ah6.1 hk with rfl|hk
      .exact .one ho ME he.2
      .exact .tr ho ME he.2 (h _ _ hk)
     .have:(acc++[yh acc o]).getD i []=[]:=by
       rw[ahX,aiE (by simp;omega)];rfl
      rw[this]at hk;cases hk
theorem C5{listed:Array Bool}{L:List Nat}(hu:Up ops listed L){i k:Nat}(h:o0 ops i k):i∈L->k∈L:=by
 induction h with
 |one ho he hb=>exact fun hi=>hu.closed _ hi _ ho _ he hb
 |tr ho he hb _ ih=>exact fun hi=>ih (hu.closed _ hi _ ho _ he hb)
theorem Hf{listed:Array Bool}{L:List Nat}(hu:Up ops listed L){i k:Nat}{o:Oper}(ho:ops[i]?=some o)(hw:∀e∈o.after,Region.binds .any e=true->e.on∈L)(h:o0 ops i k):k∈L:=by
 cases h with
 |one aM he hb =>
   rw[ho]at aM;cases aM;exact hw _ he hb
 |tr aM he hb h2 =>
   rw[ho]at aM;cases aM;exact C5 hu h2 (hw _ he hb)
def Ax(A:List (List Nat))(i k:Nat):Bool:=(decide (k<i)&&(A.getD i []).contains k)||(decide (i<k)&&(A.getD k []).contains i)
def fk(ops:Array Oper)(ns:Ns):Bool :=
 let A:=yi [] ops.toList
 (List.range ops.size).all fun i =>
  (match ops[i]? with
   |some o=>o.after.toList.all fun e=>!Region.binds .any e||decide (e.on<i)
   |none=>true) &&
  (List.range ops.size).all fun k =>
   (match dV ops k with
    |none=>true
    |some t=>(decide (i=k)||dV ops i != some t)&&(!(uH ops i).contains t||Ax A i k)) &&
   ((ns.getD k ([],[],[])).2.1.all fun p=>decide (i=k)||(!(ns.getD i ([],[],[])).1.contains p&&!(ns.getD i ([],[],[])).2.1.contains p)||Ax A i k) &&
   ((ns.getD k ([],[],[])).2.2.all fun y=>decide (i=k)||!(ns.getD i ([],[],[])).2.2.contains y)
def Ay(ops:Array Oper)(i k:Nat):Prop:=(k<i∧o0 ops i k)∨(i<k∧o0 ops k i)
theorem MF{i k:Nat}(h:Ax (yi [] ops.toList) i k=true):Ay ops i k:=by
 have hs:=He (ops:=ops) ops.toList [] (fun j=>by simp) (fun i k hk=>by simp at hk);simp only[Ax,aiL,aia,decide_eq_true_eq,ajT]at h;obtain⟨h1,h2⟩|⟨h1,h2⟩:=h
 .exact .inl ⟨h1,hs _ _ h2⟩
 .exact .inr ⟨h1,hs _ _ h2⟩
section
variable {ns:Ns}(h:fk ops ns=true)
include h
theorem MG{i:Nat}{o:Oper}(ho:ops[i]?=some o):∀e∈o.after,Region.binds .any e=true->e.on<i:=by
 intro e he hb
 have hi:i<ops.size:=by
  rcases aiG i ops.size with hlt|cy
  .exact hlt
  .rw[aiM cy]at ho;cases ho
 have h2:=aio.1 h i (aiq.2 hi);simp only[ho,aia]at h2;have h3:=aio.1 h2.1 e (aj9.2 he);simpa[hb]using h3
theorem yj{i k:Nat}(hi:i<ops.size)(hk:k<ops.size):(∀t,dV ops k=some t->(i=k∨dV ops i≠some t)∧(t∈uH ops i->Ay ops i k)) ∧
  (∀p,p∈(ns.getD k ([],[],[])).2.1->i=k∨(p∉(ns.getD i ([],[],[])).1∧p∉(ns.getD i ([],[],[])).2.1)∨Ay ops i k) ∧
  ∀y,y∈(ns.getD k ([],[],[])).2.2->i=k∨y∉(ns.getD i ([],[],[])).2.2:=by
 have h2:=aio.1 h i (aiq.2 hi);simp only[aia]at h2;have h3:=aio.1 h2.2 k (aiq.2 hk);simp only[aia]at h3;refine⟨fun t ht=>?_,fun p hp=>?_,fun y hy=>?_⟩
 .have h4:=h3.1.1;rw[ht]at h4;simp only[aia,aiL,decide_eq_true_eq,bne_iff_ne,ne_eq,aiT,ajT,decide_eq_false_iff_not]at h4;exact⟨h4.1,fun hl=>h4.2.elim (fun h5=>absurd hl h5) MF⟩
 .have h4:=aio.1 h3.1.2 p hp;simp only[aiL,aia,decide_eq_true_eq,aiT,ajT,decide_eq_false_iff_not]at h4;obtain(h4|h4)|h4:=h4
  .exact .inl h4
  .exact .inr (.inl h4)
  .exact .inr (.inr (MF h4))
 .have h4:=aio.1 h3.2 y hy;simp only[aiL,decide_eq_true_eq,aiT,ajT,decide_eq_false_iff_not]at h4;exact h4
end
theorem Hg{K:St->Ns->Prop}:∀(r:List Oper) (i:Nat) (s:St) (ns:Ns),(∀j,(r[j]?=ops[i+j]?))->il P cf ops K r s ns ->
  ∃(xs:Nat->AV) (fs:Nat->Fp),K (iq ops xs fs (List.range' i r.length) s) (ns++(List.range' i r.length).map fun j=>iL (fs j))∧∀j o,i<=j->ops[j]?=some o->v8 P cf ops j o (iq ops xs fs (List.range' i (j-i)) s) (xs j) (fs j)
 |[],i,s,ns,hr,h=>⟨fun _=>.un,fun _=>([],cm),by simpa[il,iq]using h,fun j o dW ho=>by
  have:=hr (j-i);rw[show i+(j-i)=j by omega,ho]at this
  simp at this⟩
 |o::r,i,s,ns,hr,h=>by
   have hi:ops[i]?=some o:=by simpa using(hr 0).symm
   obtain⟨x,f,hf,h2⟩:=Yj hi h;obtain⟨xs,fs,hK,hall⟩:=Hg r (i+1) _ _ (fun j=>by have:=hr (j+1);rw[List.getElem?_cons_succ]at this;rw[this,show i+(j+1)=i+1+j by omega]) h2;obtain⟨ys,gq⟩:∃ys:Nat->AV,ys=fun j=>if j=i then x else xs j:=⟨_,rfl⟩
   obtain⟨gs,C6⟩:∃gs:Nat->Fp,gs=fun j=>if j=i then f else fs j:=⟨_,rfl⟩
   have hd:dV ops i=o.dst:=by simp[dV,hi]
   have e1:∀(n k:Nat) (s:St),i<k->iq ops ys gs (List.range' k n) s=iq ops xs fs (List.range' k n) s:=by
    intro n
    induction n with
    |zero=>intros;rfl
    |succ n ih =>
      intro k s hk;rw[List.range'_succ,iq,iq,ih (k+1) _ (by omega),gq,C6];simp only[if_neg (show¬k=i by omega)]
   have e2:∀(n k:Nat),i<k->((List.range' k n).map fun j=>iL (gs j))=(List.range' k n).map fun j=>iL (fs j):=by
    intro n k hk;refine aiQ fun j hj=>?_;rw[aji]at hj;rw[C6];simp only[if_neg (show¬j=i by omega)]
   have ng:ys i=x:=by rw[gq];simp
   have uL:gs i=f:=by rw[C6];simp
   refine⟨ys,gs,?_,fun j o' dW aM=>?_⟩
   .rw[List.length_cons,List.range'_succ,iq,hd,ng,uL,e1 _ _ _ (by omega),aid,uL,e2 _ _ (by omega)];simpa using hK
   .rcases aiG i j with hlt|cy
    .have:=hall j o' (by omega) aM;rw[show j-i=(j-(i+1))+1 by omega,List.range'_succ,iq,hd,ng,uL,e1 _ _ _ (by omega)];rw[show ys j=xs j by rw[gq];simp only[if_neg (show¬j=i by omega)],show gs j=fs j by rw[C6];simp only[if_neg (show¬j=i by omega)]];exact this
    .have:j=i:=by omega
     subst this;rw[hi]at aM;cases aM;rw[aku,ng,uL];exact hf
section
variable {xs:Nat->AV}{fs:Nat->Fp}{s:St}{ns:Ns}(hq:fk ops ns=true)(iY:∀i,i<ops.size->ns.getD i ([],[],[])=iL (fs i))
include hq iY
theorem Hh{i k:Nat}(hi:i<ops.size)(hk:k<ops.size)(aJ:i≠k){p:Name}{v:Option Ob}(hw:wl (fs k).2.wr p=some v)(hl:p∈(fs i).1∨∃v',wl (fs i).2.wr p=some v'):Ay ops i k:=by
 have h1:=(yj hq hi hk).2.1 p (by rw[iY k hk];exact Hd hw);obtain h1|⟨h1,h2⟩|h1:=h1
 .exact absurd h1 aJ
 .rw[iY i hi]at h1 h2;obtain hl|⟨v',hl⟩:=hl
  .exact absurd hl h1
  .exact absurd (Hd hl) h2
 .exact h1
omit hq iY in
theorem MH:∀n,n<=ops.size->qm ops xs fs s (List.range' 0 n) (iq ops xs fs (List.range' 0 n) s):=by
 intro n
 induction n with
 |zero=>exact fun _=>.nil _ _ _
 |succ n ih =>
   intro hn;have:=(ih (by omega)).snoc (i:=n) (fun k hk _ _ _ _ _=>by rw[aji]at hk;omega);rw[List.range'_concat,Nat.one_mul,aiD,MD];exact this
theorem MI{listed:Array Bool}{L:List Nat}(hu:Up ops listed L){s':St}(hL:qm ops xs fs s L s'){i:Nat}{o:Oper}(ho:ops[i]?=some o)(hi:i∉L)
  (hw:∀e∈o.after,Region.binds .any e=true->e.on∈L) (lS:∀y∈(fs i).2.nu,y∉(iq ops xs fs (List.range' 0 (i-0)) s).used):yg (o.looksAt ops) (fs i) (iq ops xs fs (List.range' 0 (i-0)) s) s':=by
 have hlt:i<ops.size:=by
  rcases aiG i ops.size with hlt|cy
  .exact hlt
  .rw[aiM cy]at ho;cases ho
 rw[Nat.sub_zero]at lS ⊢;have hT:=MH (ops:=ops) (fs:=fs) (s:=s) (xs:=xs) i (by omega)
 have go:∀k,Ay ops i k->(k<i↔k∈L):=fun k hb=>by
  obtain⟨h1,h2⟩|⟨h1,h2⟩:=hb
  .exact⟨fun _=>Hf hu ho hw h2,fun _=>h1⟩
  .exact⟨fun h=>by omega,fun h=>absurd (C5 hu h2 h) hi⟩
 have dD:∀a b t,dV ops a=some t->dV ops b=some t->a=b:=fun a b t ha hb =>
  ((yj hq (rb ha) (rb hb)).1 t hb).1.elim id (fun h=>absurd ha h)
 refine⟨fun y hy ui=>?_,fun p hp=>?_,fun t ht=>?_⟩
 .rcases(hL.used y).1 ui with h1|⟨k,hk,h1⟩
  .exact lS y hy ((hT.used y).2 (.inl h1))
  .rcases(yj hq hlt (hu.lt k hk)).2.2 y (by rw[iY k (hu.lt k hk)];exact h1)with h2|h2
   .exact hi (h2▸hk)
   .rw[iY i hlt]at h2;exact h2 hy
 .have key:∀k,k<ops.size->∀ob,wl (fs k).2.wr p=some ob->i≠k->(k<i↔k∈L):=fun k hk ob db aJ=>go k (Hh hq iY hlt hk aJ db (.inl hp));rcases hT.heap p with⟨k,hk,ob,h1,h2,h3⟩|⟨h1,h2⟩
  .rw[aji]at hk;have uI:k∈L:=(key k (by omega) ob h1 (by omega)).1 (by omega);rcases hL.heap p with⟨k2,gp,wa,g1,g2,g3⟩|⟨g1,_⟩
   .have Yn:k2<i:=(key k2 (hu.lt k2 gp) wa g1 (fun e=>hi (e▸gp))).2 gp;have a1:=h2 k2 (by rw[aji];omega) ⟨wa,g1⟩;have a2:=g2 k uI ⟨ob,h1⟩;have:k=k2:=by omega
    subst this;rw[h1]at g1;cases g1;rw[g3,h3]
   .rw[g1 k uI]at h1;cases h1
  .rcases hL.heap p with⟨k2,gp,wa,g1,_,_⟩|⟨_,g2⟩
   .have Yn:k2<i:=(key k2 (hu.lt k2 gp) wa g1 (fun e=>hi (e▸gp))).2 gp;rw[h1 k2 (by rw[aji];omega)]at g1;cases g1
   .rw[g2,h2]
 .have kD:t∈uH ops i:=by unfold uH;rw[ho];exact ht
  rcases hT.slot t with⟨k,hk,h1,h2⟩|⟨h1,h2⟩
  .rw[aji]at hk;have uI:k∈L:=(go k (((yj hq hlt (rb h1)).1 t h1).2 kD)).1 (by omega);rcases hL.slot t with⟨k2,_,g1,g2⟩|⟨g1,_⟩
   .rw[h2,g2,dD k k2 t h1 g1]
   .exact absurd h1 (g1 k uI)
  .rcases hL.slot t with⟨k2,gp,g1,_⟩|⟨_,g2⟩
   .have:=(go k2 (((yj hq hlt (rb g1)).1 t g1).2 kD)).2 gp;exact absurd g1 (h1 k2 (by rw[aji];omega))
   .rw[g2,h2]
omit iY in
theorem MJ{L:List Nat}{s':St}(hL:qm ops xs fs s L s')(hlt:∀j∈L,j<ops.size)(hall:∀j,j<ops.size->j∈L):(s'.hp=(iq ops xs fs (List.range' 0 ops.size) s).hp∧s'.fr=(iq ops xs fs (List.range' 0 ops.size) s).fr)∧∀y,y∈s'.used↔y∈(iq ops xs fs (List.range' 0 ops.size) s).used:=by
 have hT:=MH (ops:=ops) (fs:=fs) (s:=s) (xs:=xs) ops.size (ain _)
 have dD:∀a b t,dV ops a=some t->dV ops b=some t->a=b:=fun a b t ha hb =>
  ((yj hq (rb ha) (rb hb)).1 t hb).1.elim id (fun h=>absurd ha h)
 have hm:∀k,k∈L↔k∈List.range' 0 ops.size:=fun k=>by
  rw[aji];exact⟨fun h=>by have:=hlt k h;omega,fun h=>hall k (by omega)⟩
 refine⟨⟨funext fun p=>?_,funext fun t=>?_⟩,fun y=>?_⟩
 .rcases hT.heap p with⟨k,hk,ob,h1,h2,h3⟩|⟨h1,h2⟩
  .rcases hL.heap p with⟨k2,gp,wa,g1,g2,g3⟩|⟨g1,_⟩
   .have a1:=h2 k2 ((hm k2).1 gp) ⟨wa,g1⟩;have a2:=g2 k ((hm k).2 hk) ⟨ob,h1⟩;have:k=k2:=by omega
    subst this;rw[h1]at g1;cases g1;rw[g3,h3]
   .rw[g1 k ((hm k).2 hk)]at h1;cases h1
  .rcases hL.heap p with⟨k2,gp,wa,g1,_,_⟩|⟨_,g2⟩
   .rw[h1 k2 ((hm k2).1 gp)]at g1;cases g1
   .rw[g2,h2]
 .rcases hT.slot t with⟨k,hk,h1,h2⟩|⟨h1,h2⟩
  .rcases hL.slot t with⟨k2,_,g1,g2⟩|⟨g1,_⟩
   .rw[h2,g2,dD k k2 t h1 g1]
   .exact absurd h1 (g1 k ((hm k).2 hk))
  .rcases hL.slot t with⟨k2,gp,g1,_⟩|⟨_,g2⟩
   .exact absurd g1 (h1 k2 ((hm k2).1 gp))
   .rw[g2,h2]
 .rw[hL.used y,hT.used y];refine or_congr_right ⟨?_,?_⟩
  .rintro⟨k,hk,h1⟩;exact⟨k,(hm k).1 hk,h1⟩
  .rintro⟨k,hk,h1⟩;exact⟨k,(hm k).2 hk,h1⟩
omit iY in
theorem Yo{listed:Array Bool}{L:List Nat}(hu:Up ops listed L)(hr:Region.ready .any ops listed=[]):∀j,j<ops.size->j∈L:=by
 intro j
 induction j using Nat.strongRecOn with
 |ind j ih =>
   intro hlt;apply aja;intro hn;obtain⟨o,ho⟩:∃o,ops[j]?=some o:=⟨ops[j],by simp⟩
   have:j∈Region.ready .any ops listed:=by
    rw[mem_ready];refine⟨?_,o,ho,fun e he hb=>?_⟩
    .have:=hu.mem j hlt;have hl:j<listed.size:=by rw[hu.size];exact hlt
     cases hv:listed[j]with
     |true=>exact absurd (this.1 (by simp[hl,hv])) hn
     |false=>simp[hl,hv]
    .have h2:=MG hq ho e he hb;have h3:=(hu.mem e.on (by omega)).2 (ih e.on h2 (by omega));simp[h3]
   rw[hr]at this;cases this
theorem Yp{B:Base}(hB:cf.fits B){ds:List Deferred}{Q:Exit->Act->World->Prop}
  (hall:∀j o,ops[j]?=some o->v8 P cf ops j o (iq ops xs fs (List.range' 0 (j-0)) s) (xs j) (fs j))
  (hK:∀β a w,a.defers=ds->aj B β (iq ops xs fs (List.range' 0 ops.size) s) a.tmps w->Q .normal a w) :
  ∀(fuel:Nat) (listed:Array Bool) (L:List Nat) (s':St) (β:Name->Option aU) (a:Act) (w:World),Up ops listed L->L.Nodup->ops.size<=fuel+L.length->a.defers=ds->qm ops xs fs s L s'->aj B β s' a.tmps w ->
   wpAnyIn (Fw cf.ro) 0 P .any ops Q fuel listed a w:=by
 have fin:∀(listed:Array Bool) (L:List Nat) (s':St) (β:Name->Option aU) (a:Act) (w:World),Up ops listed L->a.defers=ds->qm ops xs fs s L s'->aj B β s' a.tmps w->Region.ready .any ops listed=[]->Q .normal a w:=by
  intro listed L s' β a w hu ak hL hs hr;obtain⟨⟨e1,e2⟩,e3⟩:=MJ hq hL hu.lt (Yo hq hu hr);exact hK β a w ak (hs.reuse e1.symm e2.symm e3)
 intro fuel
 induction fuel with
 |zero =>
   intro listed L s' β a w hu hnd hn ak hL hs
   have hr:Region.ready .any ops listed=[]:=by
    apply ajZ.2;intro j hj;obtain⟨h0,o,ho,_⟩:=mem_ready.1 hj
    have hlt:j<ops.size:=by
     rcases aiG j ops.size with hlt|cy
     .exact hlt
     .rw[aiM cy]at ho;cases ho
    have GF:j∈L:=by
     apply aja;intro lf
     have dL:(j::L).length<=ops.size:=by
      refine Ai ops.size (j::L) (ai3.2 ⟨lf,hnd⟩) fun x hx=>?_;rcases ah6.1 hx with rfl|hx
      .exact hlt
      .exact hu.lt x hx
     simp only[List.length_cons]at dL;omega
    have h3:=(hu.mem j hlt).2 GF;simp[h3]at h0
   exact⟨hr,fin listed L s' β a w hu ak hL hs hr⟩
 |succ fuel ih =>
   intro listed L s' β a w hu hnd hn ak hL hs;refine⟨fun hr=>fin listed L s' β a w hu ak hL hs hr,fun i hi=>?_⟩;obtain⟨h0,o,ho,hw⟩:=mem_ready.1 hi
   have hlt:i<ops.size:=by
    rcases aiG i ops.size with hlt|cy
    .exact hlt
    .rw[aiM cy]at ho;cases ho
   have oT:i∉L:=fun h=>by
    have h3:=(hu.mem i hlt).2 h;simp[h3]at h0
   have oU:∀e∈o.after,Region.binds .any e=true->e.on∈L:=fun e he hb=>by
    have h1:=hw e he hb;have h2:=MG hq ho e he hb;refine(hu.mem e.on (by omega)).1 ?_;have hl:e.on<listed.size:=by rw[hu.size];omega
    simp[hl]at h1;simp[hl,h1]
   have hd:dV ops i=o.dst:=by simp[dV,ho]
   refine wpOpIn_mono (fun a' w' ⟨dB,β',bc⟩=>ih (listed.setIfInBounds i true) (L++[i]) _ β' a' w' ?_ ?_ ?_ dB (hd▸hL.snoc ?_) bc) ((hall i o ho).2 _ (MI hq iY hu hL ho oT oU (hall i o ho).1) B hB ds β a w ak hs Q)
   .refine⟨by simpa using hu.size,fun j hj=>?_,fun j hj=>?_,fun j hj o' aM e he hb=>?_⟩
    .have hl:j<listed.size:=by rw[hu.size];exact hj
     by_cases dW:i=j
     .subst dW;simp[hl]
     .rw[ajw dW,hu.mem j hj];simp[Ne.symm dW]
    .rcases ah1.1 hj with hj|hj
     .exact hu.lt j hj
     .rw[ahZ.1 hj];exact hlt
    .rcases ah1.1 hj with hj|hj
     .exact aif _ (hu.closed j hj o' aM e he hb)
     .rw[ahZ.1 hj,ho]at aM;cases aM;exact aif _ (oU e he hb)
   .rw[aiZ];exact⟨hnd,by simp,fun x hx y hy=>by rw[ahZ.1 hy];rintro rfl;exact oT hx⟩
   .simp only[ah7,List.length_singleton];omega
   .intro k hk p o1 o2 h1 h2;have aJ:i≠k:=fun e=>oT (e▸hk);rcases Hh hq iY hlt (hu.lt k hk) aJ h1 (.inr ⟨o2,h2⟩)with⟨h3,_⟩|⟨_,h4⟩
    .omega
    .exact absurd (C5 hu h4 hk) oT
end
theorem Yq{id:Nat}{l:List Oper}{s:St}{k:List It}{Q:Exit->St->Prop}(hm:P.follows .mixedOrders=true)(h:il P cf l.toArray (fun s' ns=>fk l.toArray ns=true∧run P cf k Q s') l s []) :
  p4 P cf (.region id l.toArray true) s k Q:=by
 obtain⟨xs,fs,⟨hq,hK⟩,hall⟩:=Hg (ops:=l.toArray) l 0 s [] (fun j=>by simp) h;intro B hB ds β a w ak hs;refine wpIn_region_any hm ?_
 have iY:∀i,i<l.toArray.size->(([]:Ns)++(List.range' 0 l.length).map fun j=>iL (fs j)).getD i ([],[],[])=iL (fs i):=by
  intro i hi;have hi:i<l.length:=by simpa using hi
  simp[hi]
 refine Yp (ops:=l.toArray) hq iY hB (ds:=ds) (fun j o ho=>hall j o (aie _) ho) (fun β a w ak hs=>eT hK B hB ds β a w ak (by simpa using hs)) _ _ [] s β a _ ?_ akk (by simp) ak (.nil _ _ _) (hs.xy rfl rfl);refine⟨by simp,fun j hj=>?_,by simp,by simp⟩;have hj:j<l.length:=by simpa using hj
 simp[hj]
end
end Go.Ab
namespace Go.Ab
section
variable (P:Program)(cf:Cf)(ops:Array Oper)(K:St->Ns->Prop)
def Hj(x:R (AV×Ef))(o:Oper)(r:List Oper)(s:St)(ns:Ns):Prop :=
 yf x (fun x=>dE cf.n o.dst∧il P cf ops K r (s.go o.dst x.1 x.2) (ns++[iL (oY s o.op,x.2)])) (∃x f,QE P cf o s x f∧(∀y∈f.2.nu,y∉s.used)∧dE cf.n o.dst∧il P cf ops K r (s.go o.dst x f.2) (ns++[iL f]))
def yk(v:Option (Nat×AV))(want:Bool)(o:Oper)(r:List Oper)(s:St)(ns:Ns):Prop :=
 match v with
 |some (t,.d (.bool b)) =>
   (b=want->Hj P cf ops K (cZ P.ti o.op o.dst (s.put t (.d (.bool want)))) o r (s.put t (.d (.bool want))) ns) ∧
   (b=!want->dE cf.n o.dst∧il P cf ops K r ((s.put t (.d (.bool (!want)))).go o.dst (.aA []) cm) (ns++[([],[],[])]))
 |some (_,.aA [])=>dE cf.n o.dst∧il P cf ops K r (s.go o.dst (.aA []) cm) (ns++[([],[],[])])
 |_=>False
abbrev Yr(_:Oper)(_:List Oper)(_:St)(_:Ns):Type 1:=R (AV×Ef)
abbrev Ys(_:Bool)(_:Oper)(_:List Oper)(_:St)(_:Ns):Type:=Option (Nat×AV)
abbrev Yt(_:Option Nat)(_:AV)(_:List Oper):Type:=Ef
structure lg where
 run:(r:List Oper)->Ma r->Ns->Prop
 aX:(o:Oper)->(r:List Oper)->(s:St)->(ns:Ns)->Yr o r s ns->Prop
 gd:(w:Bool)->(o:Oper)->(r:List Oper)->(s:St)->(ns:Ns)->Ys w o r s ns->Prop
 pt:(d:Option Nat)->(x:AV)->(r:List Oper)->Yt d x r->St->Ns->Prop
 run_eq:∀r (s:St) ns,run r s ns=il P cf ops K r s ns
 eE:∀(x:R (AV×Ef)) o r s ns,aX o r s ns x=Hj P cf ops K x o r s ns
 ik:∀(v:Option (Nat×AV)) w o r s ns,gd w o r s ns v=yk P cf ops K v w o r s ns
 n3:∀d x (e:Ef) r s ns,pt d x r e s ns=(dE cf.n d∧il P cf ops K r (s.go d x e) ns)
theorem MK:Nonempty (lg P cf ops K) :=
 ⟨⟨il P cf ops K,fun o r s ns x=>Hj P cf ops K x o r s ns,fun w o r s ns v=>yk P cf ops K v w o r s ns,fun d x r e s ns=>dE cf.n d∧il P cf ops K r (s.go d x e) ns,fun _ _ _=>rfl,fun _ _ _ _ _=>rfl,fun _ _ _ _ _ _=>rfl,fun _ _ _ _ _ _=>rfl⟩⟩
end
section
variable {P:Program}{cf:Cf}{ops:Array Oper}{K:St->Ns->Prop}(E:lg P cf ops K)(s:St)(o:Oper)(r:List Oper)(ns:Ns)
theorem Yu:E.run [] s ns=K s ns:=by rw[E.run_eq];rfl
theorem Yv(d:Option Nat)(op:Op)(ty:Nat)(p:String)(e:Array Edge) :
 E.run ({ dst:=d,op:=op,type:=ty,pos:=p,after:=e,guard:=none }::r) s ns=E.aX { dst:=d,op:=op,type:=ty,pos:=p,after:=e,guard:=none } r s ns (cZ P.ti op d s):=by rw[E.run_eq,E.eE];rfl
theorem Yw(d:Option Nat)(op:Op)(ty:Nat)(p:String)(e:Array Edge)(j:Nat)(want:Bool) :
 E.run ({ dst:=d,op:=op,type:=ty,pos:=p,after:=e,guard:=some (j,want) }::r) s ns=E.gd want { dst:=d,op:=op,type:=ty,pos:=p,after:=e,guard:=some (j,want) } r s ns (nO ops j s):=by rw[E.run_eq,E.ik];rfl
theorem Yx(x:AV)(e:Ef):E.aX o r s ns (.ok (x,e))=E.pt o.dst x r e s (ns++[iL (oY s o.op,e)]):=by rw[E.eE,E.n3];rfl
theorem Yy(p:Prop)(x:R (AV×Ef)):E.aX o r s ns (.need p x)=(p∧E.aX o r s ns x):=by rw[E.eE,E.eE];rfl
theorem Yz(t:Nat)(x:AV)(h:t<cf.n):E.pt (some t) x r cm s ns=E.run r (s.put t x) ns:=by rw[E.n3,E.run_eq];simp[dE,h,St.go,G8,St.cV]
theorem ML(x:AV)(p:Name)(q:Option Ob):E.pt none x r ⟨[(p,q)],[]⟩ s ns=E.run r (s.set p q) ns:=by rw[E.n3,E.run_eq];simp[dE,St.go,Av,St.cV]
theorem YA(t:Nat)(x:AV)(u:Nat)(ob:Ob)(h:t<cf.n):E.pt (some t) x r ⟨[([u],some ob)],[u]⟩ s ns=E.run r ((s.add u ob).put t x) ns:=by rw[E.n3,E.run_eq];simp[dE,h,St.go,v7,St.cV]
theorem YB(t:Nat)(x:AV)(p:Name)(u:Nat)(ob:Ob)(h:t<cf.n):E.pt (some t) x r ⟨[(p,none),([u],some ob)],[u]⟩ s ns=E.run r (((s.set p none).add u ob).put t x) ns:=by rw[E.n3,E.run_eq];simp[dE,h,St.go,Mv,St.cV]
theorem Hk(t:Nat):E.gd true o r s ns (some (t,.d (.bool true)))=E.aX o r (s.put t (.d (.bool true))) ns (cZ P.ti o.op o.dst (s.put t (.d (.bool true)))):=by rw[E.ik,E.eE];simp[yk]
theorem Hl(t:Nat):E.gd false o r s ns (some (t,.d (.bool false)))=E.aX o r (s.put t (.d (.bool false))) ns (cZ P.ti o.op o.dst (s.put t (.d (.bool false)))):=by rw[E.ik,E.eE];simp[yk]
theorem Hm(t:Nat):E.gd false o r s ns (some (t,.d (.bool true)))=E.pt o.dst (.aA []) r cm (s.put t (.d (.bool true))) (ns++[([],[],[])]):=by rw[E.ik,E.n3];simp[yk]
theorem Hn(t:Nat):E.gd true o r s ns (some (t,.d (.bool false)))=E.pt o.dst (.aA []) r cm (s.put t (.d (.bool false))) (ns++[([],[],[])]):=by rw[E.ik,E.n3];simp[yk]
variable {s o r ns}
theorem YC(l:List Name):iL (l,cm)=(l,[],[]):=rfl
theorem YD(l:List Name)(wr:List (Name×Option Ob))(nu:List Nat):iL (l,⟨wr,nu⟩)=(l,wr.map (·.1),nu):=rfl
attribute [go_sem] Yu Yv Yw Yx Yy Yz ML YA YB Hk Hl Hm Hn YC YD oY fm oZ l5 rm kr List.cons_append List.nil_append
section
variable (tf:Nat->TI)
theorem YE(dd:Option Nat)(s:St)(x):cZ tf (.move x) dd s=(cM tf (.move x) s).bind fun x=>.ok (x,cm):=rfl
theorem YF(dd:Option Nat)(s:St)(x):cZ tf (.assign x) dd s=(cM tf (.assign x) s).bind fun x=>.ok (x,cm):=rfl
theorem YG(dd:Option Nat)(s:St)(a b c):cZ tf (.pick a b c) dd s=(cM tf (.pick a b c) s).bind fun x=>.ok (x,cm):=rfl
theorem YH(dd:Option Nat)(s:St)(a b):cZ tf (.build a b) dd s=(cM tf (.build a b) s).bind fun x=>.ok (x,cm):=rfl
theorem YI(dd:Option Nat)(s:St)(a b):cZ tf (.load a b) dd s=(cM tf (.load a b) s).bind fun x=>.ok (x,cm):=rfl
theorem YJ(dd:Option Nat)(s:St)(a b c):cZ tf (.fieldAddr a b c) dd s=(cM tf (.fieldAddr a b c) s).bind fun x=>.ok (x,cm):=rfl
theorem YK(dd:Option Nat)(s:St)(a b c):cZ tf (.field a b c) dd s=(cM tf (.field a b c) s).bind fun x=>.ok (x,cm):=rfl
theorem YL(dd:Option Nat)(s:St)(a b c):cZ tf (.indexAddr a b c) dd s=(cM tf (.indexAddr a b c) s).bind fun x=>.ok (x,cm):=rfl
theorem YM(dd:Option Nat)(s:St)(a b c):cZ tf (.index a b c) dd s=(cM tf (.index a b c) s).bind fun x=>.ok (x,cm):=rfl
theorem YN(dd:Option Nat)(s:St)(a b c d e):cZ tf (.slice a b c d e) dd s=(cM tf (.slice a b c d e) s).bind fun x=>.ok (x,cm):=rfl
theorem YO(dd:Option Nat)(s:St)(a b c d e):cZ tf (.binOp a b c d e) dd s=(cM tf (.binOp a b c d e) s).bind fun x=>.ok (x,cm):=rfl
theorem YP(dd:Option Nat)(s:St)(a b c):cZ tf (.unOp a b c) dd s=(cM tf (.unOp a b c) s).bind fun x=>.ok (x,cm):=rfl
theorem YQ(dd:Option Nat)(s:St)(a b c):cZ tf (.convert a b c) dd s=(cM tf (.convert a b c) s).bind fun x=>.ok (x,cm):=rfl
theorem YR(dd:Option Nat)(s:St)(a b):cZ tf (.extract a b) dd s=(cM tf (.extract a b) s).bind fun x=>.ok (x,cm):=rfl
theorem YS(dd:Option Nat)(s:St)(a b c):cZ tf (.makeFunc a b c) dd s=(cM tf (.makeFunc a b c) s).bind fun x=>.ok (x,cm):=rfl
theorem YT(dd:Option Nat)(s:St)(x a t):cZ tf (.call { callee:=.value x,args:=a,argTypes:=t }) dd s=.no:=rfl
theorem YU(dd:Option Nat)(s:St)(f)(x t):cZ tf (.call { callee:=.builtin f,args:=#[x],argTypes:=#[t] }) dd s=(cM tf (.call { callee:=.builtin f,args:=#[x],argTypes:=#[t] }) s).bind fun x=>.ok (x,cm):=by
 refine C4 ?_;cases f<;>rfl
theorem YV(dd:Option Nat)(s:St)(x y t t'):cZ tf (.call { callee:=.builtin .append,args:=#[x,y],argTypes:=#[t,t'] }) dd s=if t≠t' then .no else match(tf t).k with
 |.slice e=>if(tf e).nN∧(tf e).fM (tf e).w then rm (tf e) dd s (ev s x) (ev s y)else .no
 |_=>.no:=rfl
theorem YW(dd:Option Nat)(s:St)(a b c d):cZ tf (.lookup a b c d) dd s=.no:=rfl
theorem YX(dd:Option Nat)(s:St)(t x v):cZ tf (.store t x v) dd s=(oZ (tf t) s (ev s x) (ev s v)).bind fun q=>.ok (.un,⟨[(q.1,some q.2)],[]⟩):=rfl
theorem YY(dd:Option Nat)(s:St)(e):cZ tf (.alloc e) dd s=match(tf e).z with
 |some cs=>l5 dd s [] (.bz (xC tf e) (cs.map .d)) (.bx · 0)
 |none=>.no:=rfl
theorem YZ(dd:Option Nat)(s:St)(t l parts):cZ tf (.buildSlice t l parts) dd s=match zz (tf t).k,sk 0 (parts.toList.map fun q=>(q.1,ev s q.2))with
 |some e,some xs=>if xs.length=l∧(tf e).z.isSome∧(tf e).fM (tf e).w∧xs.all (pZ (tf e).w)∧l*(tf e).sz<=16777216 then l5 dd s [] (.arr (tf e).w xs) (.vw · 0 l)else .no
 |_,_=>.no:=rfl
attribute [go_sem] YE YF YG YH YI YJ YK YL YM YN YO YP YQ YR YS YT YU YV YY YZ YW YX
end
theorem MN{c:Bool}{t:Nat}{want:Bool}(h1:c=true->E.gd want o r (s.put t (.d (.bool true))) ns (some (t,.d (.bool true))))(h2:c=false->E.gd want o r (s.put t (.d (.bool false))) ns (some (t,.d (.bool false)))):E.gd want o r s ns (some (t,.d (.bool c))):=by
 cases c
 .have:=h2 rfl;cases want
  .rw[Hl,uJ]at this;rw[Hl];exact this
  .rw[Hn,uJ]at this;rw[Hn];exact this
 .have:=h1 rfl;cases want
  .rw[Hm,uJ]at this;rw[Hm];exact this
  .rw[Hk,uJ]at this;rw[Hk];exact this
theorem C8{p:Prop}[Decidable p]{t:Nat}{want:Bool}(h1:p->E.gd want o r (s.put t (.d (.bool true))) ns (some (t,.d (.bool true))))(h2:¬p->E.gd want o r (s.put t (.d (.bool false))) ns (some (t,.d (.bool false)))):E.gd want o r s ns (some (t,.d (.bool (decide p)))) :=
 MN E (fun h=>h1 (of_decide_eq_true h)) (fun h=>h2 (of_decide_eq_false h))
theorem Ho(s:St)(d:Option Nat)(x:AV):s.go d x cm=s.jt d x:=by rw[Hb];cases d<;>rfl
theorem wb{d:Option Nat}{op:Op}{ty:TypeId}{pos:String}{af:Array Edge}{g:Option (Nat×Bool)}{x:AV}(rd:List Name)(dD:∀t∈d,t<cf.n)
  (aF:∀s',(∀p∈rd,s'.hp p=s.hp p)->(∀y∈op.operands,ev s' y=ev s y)->fS P cf { dst:=d,op:=op,type:=ty,pos:=pos,after:=af,guard:=g } s' [] (fun _ s2=>s2=s'.jt d x)) (hk:E.run r (s.jt d x) (ns++[(rd,[],[])])) :
  E.aX { dst:=d,op:=op,type:=ty,pos:=pos,after:=af,guard:=g } r s ns .no:=by
 rw[E.eE];refine⟨x,(rd,cm),fun s' _ hh he B hB gm β a w ak hs Q'=>?_,fun y hy=>(by cases hy),?_,?_⟩
 .refine Oper.wpIn_mono ?_ (aF s' hh he B hB gm β a w ak hs Q');rintro a' w' ⟨dB,s2,β',aK,br⟩;obtain⟨_,s3,β3,rfl,gQ⟩:=aK B hB gm β' a' w' dB br;exact⟨dB,β3,by rw[Ho];exact gQ⟩
 .cases d with
  |none=>trivial
  |some t=>exact dD t rfl
 .rw[<-E.run_eq,Ho];exact hk
theorem fo{dst:Option Nat}{fv:Operand}{args:Array Operand}{at':Array TypeId}{ty:TypeId}{pos:String}{af:Array Edge}{g:Option (Nat×Bool)}
  {f:FuncId} {aR:List AV} {ds:List D} {x:AV} (hc:HP P cf.G f ds (fun r=>r=x))
  (bd:ev s fv=.aW f aR) (dC:args.toList.map (ev s)++aR=ds.map .d) (dD:∀t∈dst,t<cf.n) (hk:E.run r (s.jt dst x) (ns++[([],[],[])])) :
  E.aX { dst:=dst,op:=.call { callee:=.value fv,args:=args,argTypes:=at' },type:=ty,pos:=pos,after:=af,guard:=g } r s ns .no:=by
 refine wb E [] dD (fun s' _ he=>?_) hk
 have hm:∀y,y=fv∨y∈args->ev s' y=ev s y:=fun y hy=>he y (by
  simp only[Op.operands,Call.operands]
  rcases hy with rfl|hy<;>simp_all)
 exact CG (k:=[]) (Q:=fun _ s2=>s2=s'.jt dst x) hc ((hm fv (.inl rfl)).trans bd)
  (by rw[Gy (s:=s) (s':=s') fun y hy=>hm y (.inr (by simpa using hy))];exact dC) dD (fun r hr=>by subst hr;rw[mU])
theorem bF{id:Nat}{l:List Oper}{s:St}{k:List It}{Q:Exit->St->Prop}(hm:P.follows .mixedOrders=true)(E0:bB P cf Q)(h:∀E:lg P cf l.toArray (fun s' ns=>fk l.toArray ns=true∧E0.run k s'),E.run l s []) :
  gw E0 (.region id l.toArray true) s k:=by
 refine Yq hm ?_;have e:(fun s' ns=>fk l.toArray ns=true∧E0.run k s')=fun s' ns=>fk l.toArray ns=true∧run P cf k Q s':=by funext s' ns;rw[E0.run_eq]
 obtain⟨E⟩:=MK P cf l.toArray (fun s' ns=>fk l.toArray ns=true∧E0.run k s');have:=h E;rw[E.run_eq,e]at this;exact this
end
section
variable {P:Program}{cf:Cf}{Q:Exit->St->Prop}{s:St}{k:List It}{c:Code}
theorem bK(E:bB P cf Q){X:Type}(I:X->List (Nat×AV))(O:X->List (Name×Ob))(u:List Nat)(μ:X->Nat)(x0:X)(τ0:Name->Name)(h0:cF cf.U τ0 s (I x0) (O x0) u)
  (hr:∀x,∀E':bB P cf (vV E (fun s'=>∃y,μ y<μ x∧∃τ,cF cf.U τ s' (I y) (O y) u) k),E'.run [.code c] (mk (I x) (O x) u)):gw E (.loop c) s k:=by
 have:=Gx (P:=P) (cf:=cf) (c:=c) (s:=s) (k:=k) (Q:=Q) (fun x=>mk (I x) (O x) u) μ (fun x s'=>∃y,μ y<μ x∧∃τ,cF cf.U τ s' (I y) (O y) u) ⟨x0,τ0,h0.le⟩ (fun _ _ ⟨y,hy,τ,h⟩=>⟨y,hy,τ,h.le⟩) (fun x=>by rw[<-GM E];exact aT (hr x));exact this
theorem Y0(q:Name×Name)(l:List (Name×Name))(p:Name):ar (q::l) p=if p=q.1 then q.2 else ar l p:=by
 unfold ar;rw[aE]
theorem Y1(p:Name):ar [] p=p:=rfl
attribute [go_sem] Y0 Y1 forall_eq forall_eq_or_imp
end
end Go.Ab

namespace Go.Ab
def Az(f:Nat)(cs:List AV):AV :=
 match lM cs with
 |some ds=>.d (.aW f ds)
 |none=>.aW f cs
mutual
def AV.cj(p:Name)(d:D):AV->AV
 |.un=>.un
 |.d x=>.d x
 |.vw q o l=>.vw q o l
 |.bx q c=>if q=p∧c=0 then .d (.ptr d)else .bx q c
 |.el q i c=>.el q i c
 |.mp q=>.mp q
 |.it q=>.it q
 |.agg cs=>mT (od p d cs)
 |.aA cs=>.aA (od p d cs)
 |.aW f cs=>Az f (od p d cs)
 |.va q o l=>.va q o l
 |.ea q i=>.ea q i
 |.ma q=>.ma q
def od(p:Name)(d:D):List AV->List AV
 |[]=>[]
 |x::r=>x.cj p d::od p d r
end
theorem AA(p:Name)(d:D):∀l:List AV,(od p d l).length=l.length
 |[]=>rfl
 |_::r=>by simp[od,AA p d r]
theorem AB(p:Name)(d:D):∀(l:List AV) (i:Nat),(od p d l)[i]?=(l[i]?).map (AV.cj p d)
 |[],i=>by simp[od]
 |x::r,0=>by simp[od]
 |x::r,i+1=>by simp[od,AB p d r i]
section
variable {H:Array Obj}{own own':Nat->Prop}{used:List Nat}{hp ae:Name->Option Ob}{β:Name->Option aU}
theorem MO{f:Nat}{vs:Array Value}{cs:List AV}(hs:vs.size=cs.length)(h:∀i x,cs[i]?=some x->VR H own used hp β (vs.getD i undef) x):VR H own used hp β (.func (.func f) #[] vs) (Az f cs):=by
 unfold Az;split
 .rename_i ds hd;have e:=FM hd;subst e;exact .d _ _ (.aW f vs ds (by simpa using hs) fun i d hi=>(h i (.d d) (by simp[hi])).cU)
 .exact .aW f vs cs hs h
theorem VR.cj{p:Name}{d:D}(hr:∀v d,au H own v d->au H own' v d)(ah:∀q,nm used q->iG hp ae β β q)(jW:hp p=some (.box (d.cells.map .d)))(ez:∀x∈d.cells,x.ct=true)(ho:OR H own used hp β p (.box (d.cells.map .d)))
  (bH:∀k,β p=some k->¬own' k.b) {v:Value} {x:AV} (h:VR H own used hp β v x):VR H own' used ae β v (x.cj p d):=by
 induction h with
 |un v=>exact .un v
 |d v x h=>exact .d v x (hr v x h)
 |vw v q off len hn h1 h=>exact VR.mono hr (fun _ h=>h) ah (.vw v q off len hn h1 h)
 |bx v q c hn h1 h =>
   unfold AV.cj;split
   .rename_i e;obtain⟨rfl,rfl⟩:=e;obtain⟨k,hk,nP,rfl⟩:=h _ _ jW;obtain⟨k',cc,e,az,_,hc,_,hl,_,cD⟩:=ho;rw[hk]at az;cases az;refine .d _ _ (.ptr k.b 0 cc e (0,0) d hc (bH k hk) (by simp at hl;omega) ez fun j x hj=>?_);have:=(cD j (.d x) (by simp[hj])).cU;rw[aiD];exact hr _ _ this
   .exact VR.mono hr (fun _ h=>h) ah (.bx v q c hn h1 h)
 |el v q i c hn h1 h=>exact VR.mono hr (fun _ h=>h) ah (.el v q i c hn h1 h)
 |mp v q hn h1 h=>exact VR.mono hr (fun _ h=>h) ah (.mp v q hn h1 h)
 |its v q hn h1 h h'=>exact VR.mono hr (fun _ h=>h) ah (.its v q hn h1 h h')
 |va v q off len hn h1 h=>exact VR.mono hr (fun _ h=>h) ah (.va v q off len hn h1 h)
 |ea v q i hn h1 h=>exact VR.mono hr (fun _ h=>h) ah (.ea v q i hn h1 h)
 |ma v q hn h1 h=>exact VR.mono hr (fun _ h=>h) ah (.ma v q hn h1 h)
 |agg vs cs hs hc _ ih =>
   have:=xF (H:=H) (own:=own') (used:=used) (hp:=ae) (β:=β) (vs:=vs.toList) (cs:=od p d cs) (by rw[AA];simpa using hs) (by simpa using hc) (fun i v x hv hx=>by
    rw[AB,ah4]at hx;obtain⟨y,hy,rfl⟩:=hx;have:=ih i y hy
    have e:vs.getD i undef=v:=by
     simp only[aiI]at hv;simp[ahY,hv]
    rw[e]at this
    exact this)
   simpa[AV.cj]using this
 |aA vs cs hs _ ih =>
   refine .aA vs _ (by rw[AA];exact hs) (fun i x hi=>?_);rw[AB,ah4]at hi;obtain⟨y,hy,rfl⟩:=hi;exact ih i y hy
 |aW f vs cs hs _ ih =>
   refine MO (by rw[AA];exact hs) (fun i x hi=>?_);rw[AB,ah4]at hi;obtain⟨y,hy,rfl⟩:=hi;exact ih i y hy
end
def Ob.cj(p:Name)(d:D):Ob->Ob
 |.bz ty cs=>.bz ty (od p d cs)
 |o=>o
theorem Ob.Y2(p:Name)(d:D)(o:Ob):o.like (o.cj p d):=by
 cases o<;>simp[Ob.cj,Ob.like]
def St.cj(s:St)(p:Name)(d:D):St:={ fr:=fun t=>(s.fr t).cj p d,hp:=fun q=>(aP s.hp p none q).map (Ob.cj p d),used:=s.used }
theorem aj.cj{B:Base}{β:Name->Option aU}{s:St}{tm:Array Value}{w:World}(h:aj B β s tm w){p:Name}{d:D}(hp:s.hp p=some (.box (d.cells.map .d)))(ez:∀x∈d.cells,x.ct=true):aj B β (s.cj p d) tm w:=by
 have dL:∀q o',(s.cj p d).hp q=some o'->q≠p∧∃o,s.hp q=some o∧o'=o.cj p d:=by
  intro q o' ho;by_cases e:q=p
  .subst e;simp[St.cj,aP]at ho
  .simp only[St.cj,aP,if_neg e,ah4]at ho;obtain⟨o,h1,h2⟩:=ho;exact⟨e,o,h1,h2.symm⟩
 have aJ:∀q,(s.cj p d).hp q≠none->s.hp q≠none∧q≠p:=by
  intro q hq
  cases ho:(s.cj p d).hp q with
  |none=>exact absurd ho hq
  |some o' =>
    obtain⟨e,o,h1,_⟩:=dL q o' ho;exact⟨by rw[h1];simp,e⟩
 have hr:∀v d',au w.heap (s.own B.A β) v d'->au w.heap ((s.cj p d).own B.A β) v d':=fun v d' hd=>hd.mono (fun _ _ _=>rfl) (by
  rintro b _ (hA|⟨q,k,hq,hk,e⟩)
  .exact .inl hA
  .exact .inr ⟨q,k,(aJ q hq).1,hk,e⟩)
 have ah:∀q,nm s.used q->iG s.hp (s.cj p d).hp β β q:=fun q _ o' aM=>by
  obtain⟨_,o,h1,rfl⟩:=dL q o' aM;exact⟨o,h1,Ob.Y2 p d o,rfl⟩
 have bH:∀k,β p=some k->¬(s.cj p d).own B.A β k.b:=by
  rintro k hk (hA|⟨q,k',hq,az,e⟩)
  .exact(h.blocks p k (by rw[hp];simp) hk).2.1 hA
  .exact(aJ q hq).2 (h.inj q p k' k (aJ q hq).1 (by rw[hp];simp) az hk e)
 have ni:∀{v:Value} {x:AV},VR w.heap (s.own B.A β) s.used s.hp β v x->VR w.heap ((s.cj p d).own B.A β) s.used (s.cj p d).hp β v (x.cj p d):=fun hv=>hv.cj hr ah hp ez (h.aO p _ hp).2 bH;refine { bE:=h.bE,io:=h.io,size:=h.size,frame:=h.frame,slots:=fun i=>ni (h.slots i),aO:=fun q o' aM=>?_,blocks:=fun q k hq hk=>h.blocks q k (aJ q hq).1 hk,inj:=fun q q' k k' hq cg=>h.inj q q' k k' (aJ q hq).1 (aJ q' cg).1,us:=h.us,stay:=h.stay };obtain⟨_,o,h1,rfl⟩:=dL q o' aM;obtain⟨g1,g2⟩:=h.aO q o h1;refine⟨g1,?_⟩
 cases o with
 |bz ty cs =>
   obtain⟨k,c,e,a1,a2,a3,a4,a5,a6,a7⟩:=g2;refine⟨k,c,e,a1,a2,a3,a4,by rw[a5,AA],a6,fun j x hj=>?_⟩;rw[AB,ah4]at hj;obtain⟨y,hy,rfl⟩:=hj;exact ni (a7 j y hy)
 |_=>exact g2.mono hr (fun _ h=>h) ah rfl fun _ _=>rfl
section
variable {P:Program}{cf:Cf}{Q:Exit->St->Prop}{s:St}{k:List It}
theorem C9(E:bB P cf Q){d:Option Nat}{op:Op}{ty:TypeId}{ps:String}{af:Array Edge}(p:Name)(x:D)(hp:s.hp p=some (.box (x.cells.map .d)))(ez:(x.cells.all D.ct)=true)(h:E.aX { dst:=d,op:=op,type:=ty,pos:=ps,after:=af,guard:=none } (s.cj p x) k (cR P.ti cf.n op d (s.cj p x))) :
  E.aX { dst:=d,op:=op,type:=ty,pos:=ps,after:=af,guard:=none } s k .no:=by
 rw[gx];rw[E.eE]at h;have h1:=sG (o:={ dst:=d,op:=op,type:=ty,pos:=ps,after:=af,guard:=none }) rfl h;intro B hB ds β a w' ak hs Q';exact h1 B hB ds β a w' ak (hs.cj hp (aio.1 ez)) Q'
theorem eP(E:bB P cf Q){c:Code}(p:Name)(x:D)(hp:s.hp p=some (.box (x.cells.map .d)))(ez:(x.cells.all D.ct)=true)(h:gw E c (s.cj p x) k):gw E c s k:=by
 intro B hB ds β a w' ak hs;exact h B hB ds β a w' ak (hs.cj hp (aio.1 ez))
theorem MP(p:Name)(d:D)(t:Nat):∀l:List (Nat×AV),(aE .un l t).cj p d=aE .un (l.map fun q=>(q.1,q.2.cj p d)) t
 |[]=>rfl
 |q::r=>by
   simp only[aE,aid];split
   .rfl
   .exact MP p d t r
theorem MQ(p:Name)(d:D)(q:Name):∀l:List (Name×Ob),(aE none (l.map fun x=>(x.1,some x.2)) q).map (Ob.cj p d)=aE none ((l.map fun x=>(x.1,x.2.cj p d)).map fun x=>(x.1,some x.2)) q
 |[]=>rfl
 |x::r=>by
   simp only[aE,aid];split
   .rfl
   .exact MQ p d q r
theorem MR(fr:List (Nat×AV))(hp:List (Name×Ob))(u:List Nat)(p:Name)(d:D):(mk fr hp u).cj p d=mk (fr.map fun q=>(q.1,q.2.cj p d)) ((jb hp p).map fun q=>(q.1,q.2.cj p d)) u:=by
 unfold St.cj mk;congr 1
 .funext t;exact MP p d t fr
 .funext q;rw[<-MQ,uz,uy];rfl
theorem Y3{α β:Type}(f:α->β)(l:List α):(l.map f).take l.length=l.map f:=aic (by simp)
attribute [go_sem] MR AV.cj od Ob.cj Az D.cells Y3 List.take_succ_cons List.take_zero List.take_nil
theorem Da(E:bB P cf Q){dst:Option Nat}{u:Nat}{args:Array Operand}{at':Array TypeId}{ty:TypeId}{pos:String}{af:Array Edge}
  {f:FuncId} {aR ds:List D} {Q0:AV->Prop} (hc:HP P cf.G f ds Q0)
  (bd:s.fr u=.d (.aW f aR)) (dC:args.toList.map (ev (s.put u (.aW f (aR.map .d))))++aR.map .d=ds.map .d) (dD:∀t∈dst,t<cf.n) (hk:∀r,Q0 r->E.run k ((s.put u (.aW f (aR.map .d))).jt dst r)) :
  E.aX { dst:=dst,op:=.call { callee:=.value (.tmp u),args:=args,argTypes:=at' },type:=ty,pos:=pos,after:=af,guard:=none } s k .no:=by
 rw[gx]
 have h1:fS P cf { dst:=dst,op:=.call { callee:=.value (.tmp u),args:=args,argTypes:=at' },type:=ty,pos:=pos,after:=af,guard:=none } (s.put u (.aW f (aR.map .d))) k Q :=
  CG hc (show eC _ _ _ _=_ by simp[eC]) dC dD fun r hr=>by rw[<-E.run_eq];exact hk r hr
 intro B hB gm β a w' ak hs Q';refine h1 B hB gm β a w' ak (hs.sD ?_) Q';have hv:=hs.slots u;rw[bd]at hv;have hv:=hv.cU;generalize a.tmps.getD u undef=v at hv
 cases hv with
 |aW _ vs _ bh cD =>
   refine .aW f vs _ (by simpa using bh) fun i x hi=>?_;rw[aii,ah4]at hi;obtain⟨y,hy,rfl⟩:=hi;exact .d _ _ (cD i y hy)
theorem Hp{op:BinOp}{t:TypeId}{x y:Operand}{yt:TypeId}{a:Act}{w:World}{d:Option Nat}{ty:TypeId}{ps:String}{af:Array Edge}{v:Value}(hg:(eqGuard op t x y (a.eval x) (a.eval y)).run P w=.ok () w)(hb:(binOp op t (a.eval x) (a.eval y)).run P w=.ok v w) :
  (execOp a.eval { dst:=d,op:=.binOp op t x y yt,type:=ty,pos:=ps,after:=af,guard:=none }).run P w=.ok (.value v) w:=by
 simp only[execOp,Sem.run_bind,hg,Result.andThen_ok,hb];rfl
theorem MS{t e:TypeId}(w:World)(hu:P.underlying t=some (.slice e))(d:Nat)(ad:Option Addr)(n cap:Nat):(Op.equalIn (d+1) t (.slice ad n cap) (.slice none 0 0)).run P w=.ok ad.isNone w:=by
 cases ad<;>simp[Op.equalIn,run_underlying hu]
theorem Y4{t e:TypeId}(w:World)(hu:P.underlying t=some (.slice e))(ad:Option Addr)(n cap:Nat):(binOp .eql t (.slice ad n cap) (.slice none 0 0)).run P w=.ok (.bool ad.isNone) w:=by
 have h:(binOp .eql t (.slice ad n cap) (.slice none 0 0)).run P w=((Op.equalIn (9999+1) t (.slice ad n cap) (.slice none 0 0)).run P w).andThen fun b w'=>.ok (.bool b) w':=by
  simp only[binOp];simp[Op.equal,Op.maxDepth]
 rw[h,MS w hu];rfl
theorem Y5{t e:TypeId}(w:World)(hu:P.underlying t=some (.slice e))(ad:Option Addr)(n cap:Nat):(binOp .neq t (.slice ad n cap) (.slice none 0 0)).run P w=.ok (.bool (!ad.isNone)) w:=by
 have h:(binOp .neq t (.slice ad n cap) (.slice none 0 0)).run P w=((Op.equalIn (9999+1) t (.slice ad n cap) (.slice none 0 0)).run P w).andThen fun b w'=>.ok (.bool (!b)) w':=by
  simp only[binOp];simp[Op.equal,Op.maxDepth]
 rw[h,MS w hu];rfl
theorem Y6(E:bB P cf Q){t e:TypeId}{x:Operand}{yt:TypeId}{dst:Nat}{ty:TypeId}{ps:String}{af:Array Edge}(neg:Bool)(hk:(P.ti t).k=.slice e)(hd:dst<cf.n){w0:W}{xs:List D}(hx:ev s x=.d (.sl w0 xs))
  (h:∀b:Bool,(b=true->xs=[])->E.run k (s.put dst (.d (.bool (if neg then !b else b))))) :
  E.aX { dst:=some dst,op:=.binOp (if neg then .neq else .eql) t x (.const (.slice none 0 0)) yt,type:=ty,pos:=ps,after:=af,guard:=none } s k .no:=by
 rw[gx];intro B hB ds β a w ak hs Q';have hv:=hs.ev x;rw[hx]at hv;have hv:=hv.cU;have hu:=kW hk
 have aK:∃b:Bool,(b=true->xs=[])∧(execOp a.eval { dst:=some dst,op:=.binOp (if neg then .neq else .eql) t x (.const (.slice none 0 0)) yt,type:=ty,pos:=ps,after:=af,guard:=none }).run P w=.ok (.value (.bool (if neg then !b else b))) w:=by
  have key:∀ad n cap,a.eval x=.slice ad n cap->(execOp a.eval { dst:=some dst,op:=.binOp (if neg then .neq else .eql) t x (.const (.slice none 0 0)) yt,type:=ty,pos:=ps,after:=af,guard:=none }).run P w=.ok (.value (.bool (if neg then !ad.isNone else ad.isNone))) w:=by
   intro ad n cap hv;refine Hp ?_ ?_
   .rw[hv];cases neg<;>rfl
   .rw[hv];show(binOp _ t (.slice ad n cap) (.slice none 0 0)).run P w=_;cases neg
    .exact Y4 w hu ad n cap
    .exact Y5 w hu ad n cap
  generalize hval:a.eval x=v at hv
  cases hv with
  |lL ad cap w=>exact⟨ad.isNone,fun _=>rfl,key _ _ _ hval⟩
  |sl b o cap c e fz w xs=>exact⟨false,fun h=>(by cases h),key _ _ _ hval⟩
 obtain⟨b,hb,aK⟩:=aK;have h1:=h b hb;rw[E.run_eq]at h1;exact iZ (by simp) aK (.inl rfl) ⟨ak,_,β,eT h1,hs.put (by rw[hB.1];exact hd) (.d _ _ (.bool _))⟩
end
end Go.Ab
namespace Go.Ab
def Db:D->D->Option Bool
 |.int i a,.int j b=>if i=j then some (decide (a=b))else none
 |.bool a,.bool b=>some (a == b)
 |.str a,.str b=>some (decide (a=b))
 |_,_=>none
def sI:TK->D->Bool
 |.int _,.int _ _=>true
 |.bool,.bool _=>true
 |.str,.str _=>true
 |_,_=>false
def ym(tf:Nat->TI):List (Nat×Nat)->List D->List D->Option Bool
 |[],_,_=>some true
 |f::r,a0s,bs=>match a0s[f.1]?,bs[f.1]? with
   |some a,some b=>if sI (tf f.2).k a&&sI (tf f.2).k b then(Db a b).bind fun x=>(ym tf r a0s bs).map fun y=>x&&y else none
   |_,_=>none
end Go.Ab
open Go.Ab in
def Go.Program.Dc(P:Program)(t:Nat):Bool:=match P.underlying t with
 |some (.struct fs)=>(fs.toList.all fun f=>f.name != "_")&&!P.stoodInHeld t&&!P.eqGuardType P.depth t
 |_=>false
namespace Go.Ab
section
variable {P:Program}{w:World}{H:Array Obj}{own:Nat->Prop}
theorem Y7{t:TypeId}{u v:Value}{a b:D}{r:Bool}(ha:au H own u a)(hb:au H own v b)(ka:sI (P.ti t).k a=true)(he:Db a b=some r)(d:Nat):(Op.equalIn (d+1) t u v).run P w=.ok r w:=by
 cases a<;>cases b<;>simp[Db]at he<;>cases ha<;>cases hb
 .rename_i i x j y;obtain⟨dW,rfl⟩:=he;subst dW;cases hk:(P.ti t).k<;>rw[hk]at ka<;>simp[sI]at ka;rw[run_equalIn_int w d t _ _ _ _ (ub hk)];rfl
 .subst he;cases hk:(P.ti t).k<;>rw[hk]at ka<;>simp[sI]at ka;exact run_equalIn_bool' w d t _ _ (FW (by rw[hk];rfl))
 .subst he;cases hk:(P.ti t).k<;>rw[hk]at ka<;>simp[sI]at ka;rw[run_equalIn_string w d t _ _ (p5 hk)];congr 1;rw[ajF];simp
theorem Y8{i:TI}{a:D}(h:sI i.k a=true):i.k.dA=false∧i.k.agg=false:=by
 cases hk:i.k<;>cases a<;>simp_all [sI,TK.dA,TK.agg]
theorem MT(d:Nat){xs ys:Array Value}{a0s bs:List D}(qi:∀(i:Nat) a,a0s[i]?=some a->i<xs.size∧au H own (xs.getD i undef) a)(gq:∀(i:Nat) a,bs[i]?=some a->i<ys.size∧au H own (ys.getD i undef) a) :
  ∀(fs:List Field) (r:Bool),(fs.all fun f=>f.name != "_")=true->ym P.ti (fs.map fun f=>(f.offset,f.type)) a0s bs=some r->(Op.eqFields (d+1) xs ys fs).run P w=.ok r w
 |[],r,_,h=>by
   simp[ym]at h;subst h;rfl
 |f::fs,r,hn,h=>by
   simp only[List.all_cons,aia,bne_iff_ne,ne_eq]at hn;simp only[aid,ym]at h;split at h
   .rename_i a b ha hb;split at h
    .rename_i hk;simp only[aia]at hk;obtain⟨x,hx,h⟩:=ajj.1 h;obtain⟨y,hy,rfl⟩:=ah4.1 h;obtain⟨h1,h2⟩:=qi _ _ ha;obtain⟨h3,h4⟩:=gq _ _ hb;obtain⟨g1,g2⟩:=Y8 hk.1;have ih:=MT d qi gq fs y hn.2 hy;have e1:=xJ (P:=P) (w:=w) g1 g2 xs f.offset _ (qX (z:=undef) h1);have e2:=xJ (P:=P) (w:=w) g1 g2 ys f.offset _ (qX (z:=undef) h3);have e3:=Y7 (P:=P) (w:=w) h2 h4 hk.1 hx d;simp only[Op.eqFields,Sem.run_ite,hn.1,ne_eq,not_false_eq_true,if_true,Sem.run_bind,e1,e2,e3,Result.andThen_ok];cases x
     .rfl
     .simp only[ajo,aip,if_false,ajp];exact ih
    .cases h
   .cases h
theorem Y9 {t:TypeId} (h:P.Dc t=true):∃fl:Array Field,P.underlying t=some (.struct fl)∧P.fieldsOf t=fl∧(fl.toList.all fun f=>f.name != "_")=true∧P.stoodInHeld t=false∧P.eqGuardType P.depth t=false:=by
 unfold Program.Dc at h;split at h
 .rename_i fl hf;simp only[aia,aiT]at h;exact⟨fl,hf,by simp[Program.fieldsOf,hf],h.1.1,h.1.2,h.2⟩
 .cases h
theorem MU{v:Value}{a0s:List D}(h:au H own v (.agg a0s)):∃xs,v=.agg xs∧∀(i:Nat) a,a0s[i]?=some a->i<xs.size∧au H own (xs.getD i undef) a:=by
 cases h with
 |agg xs _ hs _ hr=>exact⟨xs,rfl,fun i a hi=>⟨by rw[hs];exact(ah3.1 hi).1,hr i a hi⟩⟩
theorem Za{t:TypeId}{u v:Value}{a0s bs:List D}{r:Bool}{fs:List (Nat×Nat)}(ah:P.Dc t=true)(hk:(P.ti t).k=.struct fs)(hu:au H own u (.agg a0s))(hv:au H own v (.agg bs))(h:ym P.ti fs a0s bs=some r)(d:Nat) :
  (Op.equalIn (d+2) t u v).run P w=.ok r w:=by
 obtain⟨fl,h1,h2,h3,h4,_⟩:=Y9 ah;obtain⟨fl',cw,rfl⟩:=zC hk;rw[h1]at cw;cases cw;obtain⟨xs,rfl,hx⟩:=MU hu;obtain⟨ys,rfl,hy⟩:=MU hv;rw[run_equalIn_agg w (d+1) t xs ys (by rw[h2];exact h1) h4,h2];exact MT d hx hy _ r h3 h
end
section
variable {P:Program}{cf:Cf}{Q:Exit->St->Prop}{s:St}{k:List It}
def Dd(i j:IntKind)(q:Int×Int):D:=.agg [.int i q.1,.int j q.2]
def nj(i j:IntKind)(q:Int×Int):Value:=.agg #[.int i q.1,.int j q.2]
theorem Hq(H:Array Obj)(own:Nat->Prop)(i j:IntKind)(q:Int×Int):au H own (nj i j q) (Dd i j q):=by
 refine .agg _ _ rfl (by simp[D.ct]) fun n d hd=>?_
 match n,hd with
 |0,hd=>obtain rfl:=ais hd;exact .int _ _
 |1,hd=>obtain rfl:=ais hd;exact .int _ _
theorem Zb{H:Array Obj}{own:Nat->Prop}{i j:IntKind}{v:Value}{q:Int×Int}(h:au H own v (Dd i j q)):v=nj i j q:=by
 cases h with
 |agg xs _ hs _ hr =>
   have h0:=hr 0 (.int i q.1) rfl;have h1:=hr 1 (.int j q.2) rfl;have hs:xs.size=2:=hs;obtain⟨l⟩:=xs
   match l,hs with
   |[u,v],_ =>
     simp at h0 h1;cases h0;cases h1;rfl
theorem Zc{kt:TypeId}{i j:IntKind}{f0 f1:Field}(hu:P.underlying kt=some (.struct #[f0,f1]))(h0:f0.offset=0)(h1:f1.offset=1)(k0:(P.ti f0.type).k=.int i)(k1:(P.ti f1.type).k=.int j)(ah:P.Dc kt=true)(hk:(P.ti kt).k=.struct [(0,f0.type),(1,f1.type)]) :
  j3 P kt (Dd i j) (nj i j) where
 val:=Zb
 rep:=fun H own q=>Hq H own i j q
 fk:=fun b a w=>by
  have e1:=xJ (P:=P) (t:=f0.type) (w:=w) (by rw[k0];rfl) (by rw[k0];rfl) #[.int i a.1,.int j a.2] 0 (.int i a.1) rfl;have e2:=xJ (P:=P) (t:=f1.type) (w:=w) (by rw[k1];rfl) (by rw[k1];rfl) #[.int i a.1,.int j a.2] 1 (.int j a.2) rfl;have e3:=MapKept.run_checkKey (P:=P) (w:=w) (kt:=f0.type) (k:=.int i a.1) (ub k0) (show i=i from rfl) b 9998;have e4:=MapKept.run_checkKey (P:=P) (w:=w) (kt:=f1.type) (k:=.int j a.2) (ub k1) (show j=j from rfl) b 9998
  have:(Instr.checkKey b (9999+1) kt (nj i j a)).run P w=.ok () w:=by
   unfold Instr.checkKey nj;simp only[Sem.run_bind,run_underlying hu,Result.andThen_ok];rw[<-Array.forIn_toList];simp only[List.forIn_cons,List.forIn_nil,h0,h1];by_cases n0:f0.name = "_" <;> by_cases n1:f1.name = "_" <;> simp[n0,n1,e1,e2,e3,e4]
  exact this
 same:=fun a=>by
  have:Instr.sameBits (9998+2) (nj i j a) (nj i j a)=true:=by simp[Instr.sameBits,nj]
  exact this
 find:=fun a es ks w gS=>by
  have heq:∀x:Int×Int,(Op.equal kt (nj i j a) (nj i j x)).run P w=.ok (decide (x=a)) w:=fun x=>by
   have:=Za (w:=w) (H:=#[]) (own:=fun _=>False) (d:=9998) ah hk (Hq _ _ i j a) (Hq _ _ i j x) (r:=decide (a.1=x.1)&&(decide (a.2=x.2)&&true)) (by simp[ym,k0,k1,sI,Db])
   have e:decide (x=a)=(decide (a.1=x.1)&&(decide (a.2=x.2)&&true)):=by
    rw[ajF];simp only[aia,decide_eq_true_eq,and_true];exact⟨fun h=>by rw[h];exact⟨rfl,rfl⟩,fun h=>Prod.ext h.1.symm h.2.symm⟩
   rw[e];exact this
  have ask:∀(es:List MapEntry) (ks:List (Int×Int)) (n:Nat),es.map (·.key)=ks.map (nj i j)->(Instr.findAsking kt (nj i j a) es n).run P w=.ok ((eU ks a).bind fun m=>(es[m]?).map fun e=>(n+m,e.val)) w:=by
   intro es
   induction es with
   |nil =>
     intro ks n h
     cases ks with
     |nil=>rfl
     |cons k r=>simp at h
   |cons e es ih =>
     intro ks n h
     cases ks with
     |nil=>simp at h
     |cons k r =>
       simp only[aid,ajc]at h;simp only[Instr.findAsking,h.1,Sem.run_bind,heq,Result.andThen_ok,eU];by_cases rp:k=a
       .simp[rp]
       .simp only[rp,decide_false,aip,if_false,ih r (n+1) h.2]
        cases eU r a with
        |none=>rfl
        |some m=>simp[ajn,ak1 1 m]
  cases es with
  |nil =>
    cases ks with
    |nil=>simp[Instr.findKey,run_underlying hu,Instr.findNow,eU]
    |cons k r=>simp at gS
  |cons e es =>
    have:=ask (e::es) ks 0 gS;simp only[aiD]at this;have Zd:Instr.findNow (.struct #[f0,f1]) (nj i j a) (e::es) 0=none:=by simp[Instr.findNow,Instr.sameNow]
    simp only[Instr.findKey,Sem.run_bind,run_underlying hu,Result.andThen_ok,Zd];exact this
end
end Go.Ab
namespace Go.Ab
section
variable {P:Program}
theorem eV{G:List (Nat×Obj)}{f:FuncId}{fn:Func}{c:Code}{args:List AV}{hp:List (Name×Ob)}{u:List Nat}{Q:AV->List (Name×Ob)->Prop}(hf:P.funcs[f]?=some fn)(hb:fn.body=some c)
  (eI:(fn.name == "runtime.NumGoroutine")=false) (hn:args.length<=fn.ntmps) (h:run P ⟨fn.ntmps,none,G,u⟩ [.code c] (fq P fn.results.toList u Q) (mk (dM 0 args) hp u)):bA P G f args hp u Q :=
 Lg hf hb (ra hf hb eI) hn (fun _ _ h=>h) h
theorem Ze(rs:List ResultVar)(u:List Nat)(Q:AV->List (Name×Ob)->Prop)(s:St):fq P rs u Q .ret s=RX (jY P s rs) fun l=>∃r ae u' τ,Q r ae∧cF u τ (oR s (eK l)) [(0,r)] ae u':=rfl
theorem Zf(rs:List ResultVar)(u:List Nat)(Q:AV->List (Name×Ob)->Prop)(s:St):fq P rs u Q .normal s=RX (jY P s rs) fun l=>∃r ae u' τ,Q r ae∧cF u τ (oR s (eK l)) [(0,r)] ae u':=rfl
theorem MV(fr hp u)(x:AV):oR (mk fr hp u) x=mk [(0,x)] hp u:=by
 unfold oR mk;congr 1
attribute [go_sem] Ze Zf MV
def AE:List (Name×Ob)->List (Name×Ob)->List (Name×Ob)
 |[],hp=>hp
 |q::r,hp=>jM (AE r hp) q.1 q.2
def AF:List Name->List (Name×Ob)->List (Name×Ob)
 |[],hp=>hp
 |p::r,hp=>jb (AF r hp) p
theorem MW(q:Name)(hp:List (Name×Ob)):∀l:List (Name×Ob),aE none ((AE l hp).map fun x=>(x.1,some x.2)) q=aE (aE none (hp.map fun x=>(x.1,some x.2)) q) (l.map fun x=>(x.1,some x.2)) q
 |[]=>rfl
 |x::r=>by
   rw[AE,CH,vT,MW q hp r,aid,lP]
theorem MX(q:Name)(hp:List (Name×Ob)):∀l:List Name,aE none ((AF l hp).map fun x=>(x.1,some x.2)) q=aE (aE none (hp.map fun x=>(x.1,some x.2)) q) (l.map fun x=>(x,(none:Option Ob))) q
 |[]=>rfl
 |x::r=>by
   rw[AF,uz,uy,MX q hp r,aid,lP]
theorem Zg(fr hp u)(σ:Name->Name)(d:Nat)(chp ae:List (Name×Ob))(r:AV):ja (mk fr hp u) σ d chp ae r=mk (jM fr d (r.ren (fj σ d chp))) (AE (ae.map fun x=>(fj σ d chp x.1,x.2.ren (fj σ d chp))) (AF (chp.map fun x=>σ x.1) hp)) (d::u):=by
 unfold ja mk;congr 1
 .funext j;rw[vT];rfl
 .funext q;simp only;rw[MW,MX];simp only[aiV];rfl
attribute [go_sem] Zg AE AF fj lU nX Ob.like List.any_cons List.any_nil
end
section
variable {P:Program}{cf:Cf}{Q:Exit->St->Prop}{s:St}{k:List It}
theorem je(E:bB P cf Q){d:Nat}{fv:Operand}{args:Array Operand}{at':Array TypeId}{ty:TypeId}{pos:String}{af:Array Edge}
  {f:FuncId} {aR:List AV} (cW:List AV) (chp:List (Name×Ob)) (cu:List Nat) {Q0:AV->List (Name×Ob)->Prop} (hc:bA P cf.G f cW chp cu Q0)
  (bd:ev s fv=.aW f aR) (dC:args.toList.map (ev s)++aR=cW) (hd:d<cf.n∧d∉s.used) (oS:dU cu cW=true) (jZ:lU id cu s chp) (lV:nW id chp)
  (hk:∀r ae,Q0 r ae->nX chp ae∧E.run k (ja s id d chp ae r)) :
  E.aX { dst:=some d,op:=.call { callee:=.value fv,args:=args,argTypes:=at' },type:=ty,pos:=pos,after:=af,guard:=none } s k .no:=by
 rw[gx];refine Gi d id cW chp cu Q0 bd ?_ oS hd.2 (fun t ht=>?_) jZ lV hc fun r ae hr=>?_
 .rw[dC]
  have:∀l:List AV,bZ id l=l:=fun l=>by
   induction l with
   |nil=>rfl
   |cons x r ih=>rw[bZ,ih,AV.lX id (fun _=>rfl)]
  exact(this _).symm
 .obtain rfl:=ais ht;exact⟨hd.1,rfl⟩
 .obtain⟨h1,h2⟩:=hk r ae hr;exact⟨h1,by rw[<-E.run_eq];exact h2⟩
end
end Go.Ab

namespace Go.Proofs.YtpmniabdmbmafaaGreatDoor
open Go.Ab Tryz
variable {t:TypeId}{fz:Nat×Nat}
def De(n:Int):Bool:=(decide (97<=n)&&decide (n<=122))||decide (n=95)
def Hr(n:Int):Bool:=decide (65<=n)&&decide (n<=90)
def Hs(n:Int):Bool:=decide (48<=n)&&decide (n<=57)
def sm(c:UInt8):Bool:=De c.toNat
def gr(c:UInt8):Bool:=Hr c.toNat
def mo(c:UInt8):Bool:=sm c||gr c||Hs c.toNat
def u8(c:UInt8):D:=.int .u8 (c.toNat:Nat)
theorem Ht{G}(c:UInt8):HP prog G 150 [u8 c] (fun r=>r=.d (.bool (sm c))):=by
 refine cJ func150 rfl (by decide +kernel) (by simp[ntmps150]) (aT fun E=>?_);unfold u8;simp only[go_sem];refine bS E ?_ ?_<;>intro h1<;>simp only[go_sem]
 .refine bS E ?_ ?_<;>intro h2<;>simp only[go_sem]
  .simp[sm,De,h1,h2]
  .simp[sm,De,h1,h2]
 .simp[sm,De,h1]
theorem Hu{G}(c:UInt8):HP prog G 152 [u8 c] (fun r=>r=.d (.bool (gr c))):=by
 refine cJ func152 rfl (by decide +kernel) (by simp[ntmps152]) (aT fun E=>?_);unfold u8;simp only[go_sem];refine bS E ?_ ?_<;>intro h1<;>simp only[go_sem]
 .simp[gr,Hr,h1]
 .simp[gr,Hr,h1]
theorem MY{G}(c:UInt8):HP prog G 203 [u8 c] (fun r=>r=.d (.bool (mo c))):=by
 refine cJ func203 rfl (by decide +kernel) (by simp[ntmps203]) (aT fun E=>?_);unfold u8;simp only[go_sem];refine bj E (Ht c) rfl rfl (by simp) ?_;rintro _ rfl;simp only[go_sem];refine uE E ?_ ?_<;>intro h1<;>simp only[go_sem]
 .simp[mo,h1]
 refine bj E (Hu c) rfl rfl (by simp) ?_;rintro _ rfl;simp only[go_sem];refine uE E ?_ ?_<;>intro h2<;>simp only[go_sem]
 .simp[mo,h2]
 refine bS E ?_ ?_<;>intro h3<;>simp only[go_sem]
 .simp[mo,h1,h2,Hs,h3]
 .simp[mo,h1,h2,Hs,h3]
def oe:List UInt8->Nat
 |[]=>0
 |c::r=>if mo c then oe r+1 else 0
def AG(l:List UInt8):Nat:=match l with
 |[]=>0
 |c::r=>if sm c||gr c then oe r+1 else 0
theorem MZ{l:List UInt8}{i:Nat}(h:i<l.length):oe (l.drop i)=if mo (l.getD i 0)then oe (l.drop (i+1))+1 else 0:=by
 have e:l.getD i 0=l[i]:=by simp[h]
 rw[ajz h,oe,e]
theorem M0{l:List UInt8}:oe (l.drop l.length)=0:=by rw[List.drop_length];rfl
theorem Hv{l:List UInt8}(h:1<=l.length):AG l=if sm (l.getD 0 0)||gr (l.getD 0 0)then oe (l.drop 1)+1 else 0:=by
 cases l with
 |nil=>simp at h
 |cons c r=>rfl
theorem Zh{G}(l:List UInt8)(hl:l.length<=9223372036854775807):HP prog G 179 [.str l] (fun r=>r=.d (i64 (AG l))):=by
 refine cJ func179 rfl (by decide +kernel) (by simp[ntmps179]) (aT fun E=>?_);simp only[go_sem];refine uE E ?_ ?_<;>intro h0<;>simp only[go_sem]
 .have:l=[]:=by simpa using h0
  subst this;rfl
 have h0:1<=l.length:=by
  cases l with
  |nil=>simp at h0
  |cons c r=>simp
 refine⟨by omega,?_⟩;refine bj E (Ht (l.getD 0 0)) rfl rfl (by simp) ?_;rintro _ rfl;simp only[go_sem];refine uE E ?_ ?_<;>intro h1<;>simp only[go_sem]
 .have h1:sm (l.getD 0 0)=false:=by simpa using h1
  refine⟨by omega,?_⟩;refine bj E (Hu (l.getD 0 0)) rfl rfl (by simp) ?_;rintro _ rfl;simp only[go_sem];refine cK E ?_ ?_<;>intro h2<;>simp only[go_sem]
  .have h2:gr (l.getD 0 0)=false:=by simpa using h2
   rw[Hv h0,h1,h2];rfl
  .have h2:gr (l.getD 0 0)=true:=by simpa using h2
   have Hw:(sm (l.getD 0 0)||gr (l.getD 0 0))=true:=by rw[h2,ak2]
   refine rh E (X:={ i:Nat // i<=l.length∧i+oe (l.drop i)=oe (l.drop 1)+1 }) (fun x=>[(0,.d (.str l)),(3,.d (i64 x.1))]) (fun x=>l.length-x.1) rfl ⟨1,h0,by omega⟩ ?_ ?_
   .simp only[go_sem]
    all_goals rfl
   rintro⟨i,hi,hw⟩ E';simp only[go_sem];have hn:AG l=oe (l.drop 1)+1:=by rw[Hv h0,Hw,if_pos rfl]
   refine bS E' ?_ ?_<;>intro h3<;>simp only[go_sem]
   .have ao:i<l.length:=by omega
    have dk:=MZ ao;refine⟨by omega,?_⟩;refine bj E' (MY (l.getD i 0)) rfl rfl (by simp) ?_;rintro _ rfl;simp only[go_sem];refine cK E' ?_ ?_<;>intro h4<;>simp only[go_sem]
    .rw[h4,if_pos rfl]at dk;refine⟨⟨i+1,by omega,by omega⟩,by show l.length-(i+1)<_;omega,?_⟩;rw[aD ⟨by omega,by omega⟩];rfl
    .rw[h4,if_neg (by simp)]at dk;rw[hn];exact congrArg (fun n:Nat=>AV.d (i64 (n:Int))) (by omega)
   .have bR:i=l.length:=by omega
    subst bR;rw[M0]at hw;rw[hn];exact congrArg (fun n:Nat=>AV.d (i64 (n:Int))) (by omega)
 .have h1:sm (l.getD 0 0)=true:=by simpa using h1
  have Hw:(sm (l.getD 0 0)||gr (l.getD 0 0))=true:=by rw[h1,ak3]
  refine rh E (X:={ i:Nat // i<=l.length∧i+oe (l.drop i)=oe (l.drop 1)+1 }) (fun x=>[(0,.d (.str l)),(3,.d (i64 x.1))]) (fun x=>l.length-x.1) rfl ⟨1,h0,by omega⟩ ?_ ?_
  .simp only[go_sem]
   all_goals rfl
  rintro⟨i,hi,hw⟩ E';simp only[go_sem];have hn:AG l=oe (l.drop 1)+1:=by rw[Hv h0,Hw,if_pos rfl]
  refine bS E' ?_ ?_<;>intro h3<;>simp only[go_sem]
  .have ao:i<l.length:=by omega
   have dk:=MZ ao;refine⟨by omega,?_⟩;refine bj E' (MY (l.getD i 0)) rfl rfl (by simp) ?_;rintro _ rfl;simp only[go_sem];refine cK E' ?_ ?_<;>intro h4<;>simp only[go_sem]
   .rw[h4,if_pos rfl]at dk;refine⟨⟨i+1,by omega,by omega⟩,by show l.length-(i+1)<_;omega,?_⟩;rw[aD ⟨by omega,by omega⟩];rfl
   .rw[h4,if_neg (by simp)]at dk;rw[hn];exact congrArg (fun n:Nat=>AV.d (i64 (n:Int))) (by omega)
  .have bR:i=l.length:=by omega
   subst bR;rw[M0]at hw;rw[hn];exact congrArg (fun n:Nat=>AV.d (i64 (n:Int))) (by omega)
end Go.Proofs.YtpmniabdmbmafaaGreatDoor

namespace Go.Proofs.YtpmniabdmbmafaaGreatDoor
open Go.Ab Tryz
variable {t:TypeId}{fz:Nat×Nat}
theorem mixed:prog.follows .mixedOrders=true:=by kernel_rfl
def AH:List (List UInt8):=[[102,117,110],[108,101,116],[114,101,99],[105,110],[105,102],[116,104,101,110],[101,108,115,101],[99,97,115,101],[111,102],[101,110,100],[116,114,117,101],[102,97,108,115,101],[99,104,101,99,107],[97,115,107],[116,111,112],[98,111,116],[105,110,116],[98,111,111,108],[115,116,114,105,110,103],[109,117]]
def strs(l:List (List UInt8)):D:=.sl none (l.map .str)
theorem Zi{G}:HP prog G 181 [] (fun r=>r=.d (strs AH)):=by
 refine gy func181 rfl (by decide +kernel) (by simp[ntmps181]) (aT fun E=>?_);simp only[go_sem];refine⟨[([1],none,AH.map .str)],?_⟩;simp only[go_sem];refine⟨rfl,?_⟩;rfl
theorem AJ{l:List (List UInt8)}{i:Nat}(h:i<l.length):(l.map D.str).getD i .aY=.str (l.getD i []):=by
 simp[h]
theorem M1{l:List (List UInt8)}{i:Nat}{s:List UInt8}(hi:i<l.length)(h:s∉l.take i)(h2:l.getD i []≠s):s∉l.take (i+1):=by
 rw[ah5 hi];simp only[ah1,ahZ,not_or];refine⟨h,fun e=>h2 ?_⟩;simp[hi,e]
theorem Zj{G}(s:List UInt8)(l:List (List UInt8))(hl:l.length<=9223372036854775807):HP prog G 184 [.str s,strs l] (fun r=>r=.d (.bool (decide (s∈l)))):=by
 refine cJ func184 rfl (by decide +kernel) (by simp[ntmps184]) (aT fun E=>?_);unfold strs;simp only[go_sem];refine rh E (X:={ i:Nat // i<=l.length∧s∉l.take i }) (fun x=>[(0,.d (.str s)),(1,.d (.sl none (l.map .str))),(5,.d (i64 x.1))]) (fun x=>l.length-x.1) rfl ⟨0,by simp,by simp⟩ ?_ ?_
 .simp only[go_sem]
  all_goals rfl
 rintro⟨i,hi,hm⟩ E';simp only[go_sem];refine aH E' ?_ ?_<;>intro h6<;>simp only[go_sem]
 .have ao:i<l.length:=by omega
  refine⟨by omega,?_⟩;rw[AJ ao];simp only[go_sem];refine cK E' ?_ ?_<;>intro h7<;>simp only[go_sem]
  .have h7:l.getD i []=s:=by simpa using h7
   have:s∈l:=by
    rw[<-h7];simp[ao]
   rw[decide_eq_true this]
  .have h7:l.getD i []≠s:=by simpa using h7
   refine⟨⟨i+1,by omega,M1 ao hm h7⟩,by show l.length-(i+1)<_;omega,?_⟩;rw[aD ⟨by omega,by omega⟩];rfl
 .have bR:i=l.length:=by omega
  subst bR;rw[aij]at hm;rw[decide_eq_false hm]
theorem Zk{G}(l:List (List UInt8))(s:List UInt8)(hl:l.length<=9223372036854775807):HP prog G 204 [strs l,.str s] (fun r=>∃n,r=.d (i64 n)∧(0<=n↔s∈l)):=by
 refine cJ func204 rfl (by decide +kernel) (by simp[ntmps204]) (aT fun E=>?_);unfold strs;simp only[go_sem];refine rh E (X:={ i:Nat // i<=l.length∧s∉l.take i }) (fun x=>[(0,.d (.sl none (l.map .str))),(1,.d (.str s)),(7,.d (i64 l.length)),(8,.d (i64 x.1))]) (fun x=>l.length-x.1) rfl ⟨0,by simp,by simp⟩ ?_ ?_
 .simp only[go_sem]
  all_goals rfl
 rintro⟨i,hi,hm⟩ E';simp only[go_sem];refine aH E' ?_ ?_<;>intro h6<;>simp only[go_sem]
 .have ao:i<l.length:=by omega
  refine⟨by omega,?_⟩;rw[AJ ao];simp only[go_sem];refine cK E' ?_ ?_<;>intro h7<;>simp only[go_sem]
  .have h7:s=l.getD i []:=by simpa using h7
   have:s∈l:=by
    rw[h7];simp[ao]
   exact⟨_,rfl,fun _=>this,fun _=>by omega⟩
  .have h7:l.getD i []≠s:=by
    intro e;rw[e]at h7;simp at h7
   refine⟨⟨i+1,by omega,M1 ao hm h7⟩,by show l.length-(i+1)<_;omega,?_⟩;rw[aD ⟨by omega,by omega⟩];rfl
 .have bR:i=l.length:=by omega
  subst bR;rw[aij]at hm;exact⟨-1,rfl,fun h=>absurd h (by decide),fun h=>absurd h hm⟩
theorem Zl{G}(l:List (List UInt8))(s:List UInt8)(hl:l.length<=9223372036854775807):HP prog G 180 [strs l,.str s] (fun r=>r=.d (.bool (decide (s∈l)))):=by
 refine cJ func180 rfl (by decide +kernel) (by simp[ntmps180]) (aT fun E=>?_);simp only[go_sem];refine bj E (Zk l s hl) rfl rfl (by simp) ?_;rintro _ ⟨n,rfl,hn⟩;simp only[go_sem];have:decide (0<=n)=decide (s∈l):=by rw[ajF];simpa using hn
 rw[this]
def M3(s:List UInt8):Bool:=decide (s∈AH)
theorem Zm:AH.length<=9223372036854775807:=by decide
theorem Zn{G}(s:List UInt8):HP prog G 151 [.str s] (fun r=>r=.d (.bool (M3 s))):=by
 refine cJ func151 rfl (by decide +kernel) (by simp[ntmps151]) (aT fun E=>?_);simp only[go_sem];refine bj E Zi rfl rfl (by simp) ?_;rintro _ rfl;simp only[go_sem];refine bj E (Zl AH s Zm) rfl rfl (by simp) ?_;rintro _ rfl;simp only[go_sem];rfl
def rr(s:List UInt8):Bool:=!s.isEmpty&&decide (s.length<=20)&&decide (AG s=s.length)
def qn(s:List UInt8):Bool:=rr s&&sm (s.getD 0 0)&&!M3 s
def ru(s:List UInt8):Bool:=rr s&&gr (s.getD 0 0)
theorem Zo(a b:Nat):decide (((a:Nat):Int)=((b:Nat):Int))=decide (a=b):=by rw[ajF];simp;omega
end Go.Proofs.YtpmniabdmbmafaaGreatDoor

namespace Go.Proofs.YtpmniabdmbmafaaGreatDoor
open Go.Ab Tryz
variable {t:TypeId}{fz:Nat×Nat}
theorem M4{G}(s:List UInt8)(hl:s.length<=9223372036854775807):HP prog G 149 [.str s] (fun r=>r=.d (.bool (rr s))):=by
 refine cJ func149 rfl (by decide +kernel) (by simp[ntmps149]) (aT fun E=>?_);simp only[go_sem];refine uE E ?_ ?_<;>intro h0<;>simp only[go_sem]
 .refine bS E ?_ ?_<;>intro h1<;>simp only[go_sem]
  .refine bj E (Zh s hl) rfl rfl (by simp) ?_;rintro _ rfl;simp only[go_sem];have h0:s.isEmpty=false:=by simpa using h0
   simp only[rr,h0,Zo];rw[decide_eq_true (p:=s.length<=20) (by omega)];rfl
  .have:¬s.length<=20:=by omega
   simp only[rr];rw[decide_eq_false this,ajD,aiP]
 .have h0:s.isEmpty=true:=by simpa using h0
  simp only[rr,h0];rfl
theorem M5{s:List UInt8}(h:rr s=true):1<=s.length:=by
 cases s with
 |nil=>simp[rr]at h
 |cons c r=>simp
theorem M6{G}(s:List UInt8)(hl:s.length<=9223372036854775807):HP prog G 109 [.str s] (fun r=>r=.d (.bool (qn s))):=by
 refine cJ func109 rfl (by decide +kernel) (by simp[ntmps109]) (aT fun E=>?_);simp only[go_sem];refine bj E (M4 s hl) rfl rfl (by simp) ?_;rintro _ rfl;simp only[go_sem];refine uE E ?_ ?_<;>intro h1<;>simp only[go_sem]
 .have:=M5 h1;refine⟨by omega,?_⟩;refine bj E (Ht (s.getD 0 0)) rfl rfl (by simp) ?_;rintro _ rfl;simp only[go_sem];refine uE E ?_ ?_<;>intro h2<;>simp only[go_sem]
  .refine bj E (Zn s) rfl rfl (by simp) ?_;rintro _ rfl;simp only[go_sem];simp only[qn,h1,h2,ajp]
  .simp only[qn,h1,h2,ajp,aiP]
 .simp only[qn,h1,aiP]
theorem M7{G}(s:List UInt8)(hl:s.length<=9223372036854775807):HP prog G 110 [.str s] (fun r=>r=.d (.bool (ru s))):=by
 refine cJ func110 rfl (by decide +kernel) (by simp[ntmps110]) (aT fun E=>?_);simp only[go_sem];refine bj E (M4 s hl) rfl rfl (by simp) ?_;rintro _ rfl;simp only[go_sem];refine uE E ?_ ?_<;>intro h1<;>simp only[go_sem]
 .have:=M5 h1;refine⟨by omega,?_⟩;refine bj E (Hu (s.getD 0 0)) rfl rfl (by simp) ?_;rintro _ rfl;simp only[go_sem];simp only[ru,h1,ajp]
 .simp only[ru,h1,aiP]
theorem Zp{α:Type}(k:Int)(hk:0<=k)(l:List α)[Decidable (k<(l.length:Int))]:List.take ((if k<(l.length:Int)then k else(l.length:Int)).toNat-0) l=l.take k.toNat:=by
 rw[Nat.sub_zero];split
 .rfl
 .rw[Int.toNat_natCast,aij,aic (by omega)]
theorem Df{α β:Type}(f:α->β)(k:Int)(hk:0<=k)(l:List α)[Decidable (k<(l.length:Int))]:List.take ((if k<(l.length:Int)then k else(l.length:Int)).toNat-0) (l.map f)=(l.take k.toNat).map f:=by
 rw[<-ajN,Zp k hk]
theorem Dg(k n:Int)[Decidable (k<n)](hk:0<=k)(hn:0<=n):(0<=if k<n then k else n)∧(if k<n then k else n)<=n:=by
 split<;>omega
end Go.Proofs.YtpmniabdmbmafaaGreatDoor

