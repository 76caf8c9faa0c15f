/-
  The generic layer, part 99: a call in a region that draws its order, the objects handed in under turned names. (with the parts that follow it)
-/
import Derived.Test.YtpmniabdmbmafaaGreatDoorSSH
import Derived.Test.YtpmniabdmbmafaaGreatDoorSSG
import Derived.Laws.CopyRow
set_option linter.all false
set_option maxHeartbeats 16000000
namespace Go.Ab
def wF(σ:Name->Name)(d:Nat)(chp ae:List (Name×Ob)):List (Name×Option Ob):=((ae.map fun x:Name×Ob=>(fj σ d chp x.1,some (x.2.ren (fj σ d chp))))++chp.map fun x:Name×Ob=>(σ x.1,none)).reverse
theorem abp(σ:Name->Name)(d:Nat)(chp ae:List (Name×Ob)):(wF σ d chp ae).map (fun x=>x.1)=((ae.map fun x:Name×Ob=>fj σ d chp x.1)++chp.map fun x:Name×Ob=>σ x.1).reverse:=by
 unfold wF;rw[List.map_reverse,ail,aiV,aiV];rfl
attribute [go_sem] abp
theorem Oo(s:St)(σ:Name->Name)(d:Nat)(chp ae:List (Name×Ob))(r:AV):ja s σ d chp ae r=s.go (some d) (r.ren (fj σ d chp)) ⟨wF σ d chp ae,[d]⟩:=by
 refine GD (funext fun q=>?_) rfl fun t=>rfl;show aE (aE (s.hp q) (chp.map fun x=>(σ x.1,none)) q) _ q=(wl (wF σ d chp ae) q).getD (s.hp q);unfold wF;rw[Ol,H3]
section
variable {P:Program}{cf:Cf}{ops:Array Oper}{K:St->Ns->Prop}{r:List Oper}{s:St}{ns:Ns}
theorem H7(E:lg P cf ops K){d:Nat}{fv:Operand}{args:Array Operand}{at':Array TypeId}{ty:TypeId}{pos:String}{af:Array Edge}{g:Option (Nat×Bool)}
  {f:FuncId} {aR:List AV} (σ:Name->Name) (cW:List AV) (chp:List (Name×Ob)) (cu:List Nat) (x:AV) (ae:List (Name×Ob)) (hc:bA P cf.G f cW chp cu (fun y h=>y=x∧h=ae))
  (bd:ev s fv=.aW f aR) (dC:args.toList.map (ev s)++aR=bZ σ cW) (hd:d<cf.n∧d∉s.used) (oS:dU cu cW=true) (jZ:lU σ cu s chp) (lV:nW σ chp)
  (hl:nX chp ae) (hk:E.run r (ja s σ d chp ae x) (ns++[(chp.map (fun q=>σ q.1),(wF σ d chp ae).map (·.1),[d])])) :
  E.aX { dst:=some d,op:=.call { callee:=.value fv,args:=args,argTypes:=at' },type:=ty,pos:=pos,after:=af,guard:=g } r s ns .no:=by
 rw[E.eE];refine⟨x.ren (fj σ d chp),(chp.map (fun q=>σ q.1),⟨wF σ d chp ae,[d]⟩),fun s' hu hh he B hB gm β a w ak hs Q'=>?_,fun y hy=>?_,hd.1,?_⟩
 .have hm:∀y,y=fv∨y∈args->ev s' y=ev s y:=fun y hy=>he y (by
   simp only[Op.operands,Call.operands]
   rcases hy with rfl|hy<;>simp_all)
  have abq:lU σ cu s' chp:=by
   have:∀l:List (Name×Ob),(∀q∈l,σ q.1∈chp.map (fun q=>σ q.1))->lU σ cu s l->lU σ cu s' l:=by
    intro l
    induction l with
    |nil=>intros;trivial
    |cons q r ih =>
      intro hq h;refine⟨⟨?_,h.1.2⟩,ih (fun x hx=>hq x (ah8 _ hx)) h.2⟩;rw[show s'.hp (σ q.1)=s.hp (σ q.1)from hh _ (hq q ah0)];exact h.1.1
   exact this chp (fun q hq=>ah9.2 ⟨q,hq,rfl⟩) jZ
  have aF:fS P cf { dst:=some d,op:=.call { callee:=.value fv,args:=args,argTypes:=at' },type:=ty,pos:=pos,after:=af,guard:=g } s' [] (fun _ s2=>s2=ja s' σ d chp ae x):=by
   refine Gi d σ cW chp cu _ ((hm fv (.inl rfl)).trans bd) ?_ oS (hu d (by simp)) (fun t ht=>?_) abq lV hc fun y h hr=>?_
   .rw[Gy (s:=s) (s':=s') fun y hy=>hm y (.inr (by simpa using hy)),dC]
   .obtain rfl:=ais ht;exact⟨hd.1,rfl⟩
   .obtain⟨rfl,rfl⟩:=hr;exact⟨hl,by rw[mU];rfl⟩
  refine Oper.wpIn_mono ?_ (aF B hB gm β a w ak hs Q');rintro a' w' ⟨dB,s2,β',aK,br⟩;obtain⟨_,s3,β3,rfl,gQ⟩:=aK B hB gm β' a' w' dB br;exact⟨dB,β3,by rw[<-Oo];exact gQ⟩
 .obtain rfl:=ahZ.1 hy;exact hd.2
 .rw[<-E.run_eq,<-Oo];exact hk
end
end Go.Ab

namespace Go.Ab
section
variable {P:Program}{cf:Cf}{ops:Array Oper}{K:St->Ns->Prop}{r:List Oper}{s:St}{ns:Ns}
theorem wG(E:lg P cf ops K){d:Nat}{x:Operand}{ty:TypeId}{pos:String}{af:Array Edge}{g:Option (Nat×Bool)}{v:D}(hd:d<cf.n)(hx:ev s x=.d (.ptr v))(h:E.run r (s.put d (.d (.ptr v))) (ns++[([],[],[])])) :
  E.aX { dst:=some d,op:=.nilCheck x,type:=ty,pos:=pos,after:=af,guard:=g } r s ns .no:=by
 refine wb E (x:=.d (.ptr v)) [] (fun t ht=>by rw[Option.mem_def,aiv]at ht;rw[<-ht];exact hd) (fun s' _ he=>?_) h;have aV:ev s' x=.d (.ptr v):=(he x (by simp[Op.operands])).trans hx;refine wB rfl hd (by simp) (fun B β a w hs=>⟨a.eval x,?_,aV▸hs.ev x⟩) (by rw[mU];rfl);have hv:=hs.ev x;rw[aV]at hv;have hr:=hv.cU
 have he:∀y,a.eval x=y->(∃ad,y=.pointer (some ad))->(execOp a.eval { dst:=some d,op:=.nilCheck x,type:=ty,pos:=pos,after:=af,guard:=g }).run P w=.ok (.value y) w:=by
  rintro y hy ⟨ad,rfl⟩;simp[execOp,hy]
 refine he _ rfl ?_;generalize a.eval x=y at hr;cases hr;exact⟨_,rfl⟩
end
end Go.Ab

namespace Go.Ab
section
variable {P:Program}{B:Base}{β:Name->Option aU}{s:St}{tm:Array Value}{w:World}{t:Nat}
theorem aj.Oq(h:aj B β s tm w)(ht:t∉s.used){p:Name}{ob:Ob}{k:aU}(hp:s.hp p=some ob)(hk:β p=some k)(nb:Ob)(o':Nat){w':World}(ic:dy w'=dy w)(bh:w'.heap.size=w.heap.size)
  (hw:∀b,b≠k.b->w'.heap[b]?=w.heap[b]?)
  (hO:∀β':Name->Option aU,β' [t]=some ⟨k.b,o',k.z⟩->(∀v x,VR w.heap (s.own B.A β) s.used s.hp β v x->VR w'.heap (s.own B.A β) (t::s.used) ((s.set p none).add t nb).hp β' v x) ->
   OR w'.heap (s.own B.A β) (t::s.used) ((s.set p none).add t nb).hp β' [t] nb) :
  aj B (aP β [t] (some ⟨k.b,o',k.z⟩)) ((s.set p none).add t nb) tm w':=by
 obtain⟨β',hβ'⟩:∃β',aP β [t] (some ⟨k.b,o',k.z⟩)=β':=⟨_,rfl⟩
 obtain⟨s',bc⟩:∃s',(s.set p none).add t nb=s':=⟨_,rfl⟩
 have fR:β' [t]=some ⟨k.b,o',k.z⟩:=by rw[<-hβ'];simp[aP]
 have hold:∀q,q≠[t]->β' q=β q:=fun q hq=>by rw[<-hβ'];simp[aP,hq]
 have kx:=ku (h.aO p ob hp).1 ht;have zG:s'.hp [t]=some nb:=by rw[<-bc];simp[St.add,aP]
 have dz:s'.hp p=none:=by rw[<-bc];simp[St.add,St.set,aP,kx]
 have fy:∀q,q≠[t]->q≠p->s'.hp q=s.hp q:=fun q h1 h2=>by rw[<-bc];simp[St.add,St.set,aP,h1,h2]
 have nQ:s'.used=t::s.used:=by rw[<-bc];rfl
 have lS:s'.fr=s.fr:=by rw[<-bc];rfl
 have nR:s.hp p≠none:=by rw[hp];simp
 have dS:s'.own B.A β'=s.own B.A β:=by
  funext b;refine propext (or_congr_right ⟨?_,?_⟩)
  .rintro⟨q,l,hq,hl,rfl⟩;by_cases e1:q=[t]
   .subst e1;rw[fR]at hl;cases hl;exact⟨p,k,nR,hk,rfl⟩
   .by_cases e2:q=p
    .subst e2;exact absurd dz hq
    .rw[hold q e1]at hl;rw[fy q e1 e2]at hq;exact⟨q,l,hq,hl,rfl⟩
  .rintro⟨q,l,hq,hl,rfl⟩;by_cases e2:q=p
   .subst e2;rw[hk]at hl;cases hl;exact⟨[t],_,by rw[zG];simp,fR,rfl⟩
   .cases ho:s.hp q with
    |none=>exact absurd ho hq
    |some o =>
      have e1:=ku (h.aO q o ho).1 ht;exact⟨q,l,by rw[fy q e1 e2];exact hq,by rw[hold q e1];exact hl,rfl⟩
 have hr:∀v d,au w.heap (s.own B.A β) v d->au w'.heap (s.own B.A β) v d:=fun v d hd=>hd.mono (fun b hb _=>hw b fun e=>hb (.inr ⟨p,k,nR,hk,e.symm⟩)) (fun _ _ h=>h)
 have ah:∀q,nm s.used q->iG s.hp s'.hp β β' q:=by
  intro q hq o ho;have e1:=ku hq ht;have e2:q≠p:=by rintro rfl;rw[dz]at ho;cases ho
  exact⟨o,by rwa [fy q e1 e2]at ho,Ob.mS _,hold q e1⟩
 have hu:∀x∈s.used,x∈s'.used:=fun x hx=>by rw[nQ];exact ah8 _ hx
 have Ot:=hO β' fR (fun v x hx=>by rw[bc,<-nQ];exact hx.mono hr hu ah);rw[bc,<-nQ]at Ot;rw[hβ',bc];refine { bE:=h.bE,io:=ic.trans h.io,size:=by rw[bh];exact h.size,frame:=?_,slots:=fun i=>?_,aO:=?_,blocks:=?_,inj:=?_,us:=fun x hx=>hu x (h.us x hx), stay:=fun p hp=>(hold p (ku (hp.mono h.us) ht)).trans (h.stay p hp) }
 .intro b hb hn;rw[hw b ?_]
  .exact h.frame b hb hn
  .rintro rfl;rcases(h.blocks p k nR hk).2.2 with h3|h3
   .omega
   .exact hn h3
 .rw[dS,lS];exact(h.slots i).mono hr hu ah
 .intro q o ho;rw[dS];by_cases e1:q=[t]
  .subst e1;rw[zG]at ho;cases ho;exact⟨⟨t,[],rfl,by rw[nQ];exact ah0⟩,Ot⟩
  .have e2:q≠p:=by rintro rfl;rw[dz]at ho;cases ho
   rw[fy q e1 e2]at ho;obtain⟨h1,h2⟩:=h.aO q o ho;refine⟨h1.mono hu,h2.mono hr hu ah (hold q e1) fun l hl=>hw l.b fun e=>?_⟩;exact e2 (h.inj q p l k (by rw[ho];simp) nR hl hk e)
 .intro q l hq hl;rw[bh];by_cases e1:q=[t]
  .subst e1;rw[fR]at hl;cases hl;exact h.blocks p k nR hk
  .have e2:q≠p:=by rintro rfl;exact hq dz
   rw[hold q e1]at hl;rw[fy q e1 e2]at hq;exact h.blocks q l hq hl
 .intro q q' l l' hq cg hl gM e
  have key:∀q l,s'.hp q≠none->β' q=some l->∃r,(q=[t]∧r=p∨q≠[t]∧r=q∧q≠p)∧s.hp r≠none∧∃m,β r=some m∧m.b=l.b:=by
   intro q l hq hl;by_cases e1:q=[t]
   .subst e1;rw[fR]at hl;cases hl;exact⟨p,.inl ⟨rfl,rfl⟩,nR,k,hk,rfl⟩
   .have e2:q≠p:=by rintro rfl;exact hq dz
    rw[hold q e1]at hl;rw[fy q e1 e2]at hq;exact⟨q,.inr ⟨e1,rfl,e2⟩,hq,l,hl,rfl⟩
  obtain⟨r,h1,h2,m,h3,h4⟩:=key q l hq hl;obtain⟨r',g1,g2,m',g3,g4⟩:=key q' l' cg gM;have:r=r':=h.inj r r' m m' h2 g2 h3 g3 (by rw[h4,g4,e]);rcases h1 with⟨rfl,rfl⟩|⟨h1,rfl,h5⟩<;>obtain⟨rfl,rfl⟩|⟨g1,rfl,g5⟩:=g1
  .rfl
  .exact absurd this.symm g5
  .exact absurd this h5
  .exact this
theorem vaA{hp:Name->Option Ob}{β:Name->Option aU}{p:Name}{off len:Nat}{v:Value}{xs:List AV}
  (h:∀w xs,hp p=some (.dZ w xs)->(off+len)*w<=xs.length∧∃a cap,v=.slice a len cap∧(len=0∧cap=0∨∃k,β p=some k∧a=some ⟨k.b,k.o+off*w,none⟩∧len<=cap∧k.o+(off+cap)*w<=k.z))
  (ae:hp p=some (.xx xs)):off+len<=xs.length∧∃a cap,v=.slice a len cap∧(len=0∧cap=0∨∃k,β p=some k∧a=some ⟨k.b,k.o+off,none⟩∧len<=cap∧k.o+(off+cap)<=k.z):=by
 have:=h 1 xs ae;simpa only[akn]using this
end
section
variable {P:Program}{cf:Cf}{Q:Exit->St->Prop}{s:St}{k:List It}
theorem H8(E:bB P cf Q){d:Option Nat}{op:Op}{ty:TypeId}{ps:String}{af:Array Edge}(x:AV)(f:Fp)(hq:QE P cf { dst:=d,op:=op,type:=ty,pos:=ps,after:=af,guard:=none } s x f)(hu:∀y∈f.2.nu,y∉s.used)(hk:E.run k (s.go d x f.2)) :
  E.aX { dst:=d,op:=op,type:=ty,pos:=ps,after:=af,guard:=none } s k .no:=by
 rw[gx];rw[E.run_eq]at hk;intro B hB ds β a w ak hs Q';refine Oper.wpIn_mono ?_ (hq s hu (fun _ _=>rfl) (fun _ _=>rfl) B hB ds β a w ak hs Q');rintro a' w' ⟨dB,β',bc⟩;exact⟨dB,_,β',eT hk,bc⟩
theorem qt{ops:Array Oper}{K:St->Ns->Prop}{r:List Oper}{ns:Ns}(E:lg P cf ops K){d:Option Nat}{op:Op}{ty:TypeId}{ps:String}{af:Array Edge}(x:AV)(f:Fp)
  (hq:QE P cf { dst:=d,op:=op,type:=ty,pos:=ps,after:=af,guard:=none } s x f) (hu:∀y∈f.2.nu,y∉s.used) (hk:E.pt d x r f.2 s (ns++[iL f])) :
  E.aX { dst:=d,op:=op,type:=ty,pos:=ps,after:=af,guard:=none } r s ns .no:=by
 rw[E.eE];rw[E.n3]at hk;exact⟨x,f,hq,hu,hk.1,hk.2⟩
theorem DG{d:Option Nat}{op:Op}{ty:TypeId}{ps:String}{af:Array Edge}{x:AV}{rd:List Name}(hnd:∀c,op≠.defer c)(hd:∀t∈d,t<cf.n)
  (h:∀(B:Base) (s':St) (β:Name->Option aU) (a:Act) (w:World),(∀p∈rd,s'.hp p=s.hp p)->(∀y∈op.operands,ev s' y=ev s y)->aj B β s' a.tmps w ->
   ∃v,(execOp a.eval { dst:=d,op:=op,type:=ty,pos:=ps,after:=af,guard:=none }).run P w=.ok (.value v) w∧VR w.heap (s'.own B.A β) s'.used s'.hp β v x) :
  QE P cf { dst:=d,op:=op,type:=ty,pos:=ps,after:=af,guard:=none } s x (rd,cm):=by
 intro s' _ hh he B hB ds β a w ak hs Q';obtain⟨v,aK,hv⟩:=h B s' β a w hh he hs;refine iZ hnd aK (.inl rfl) ⟨by cases d<;>exact ak,β,?_⟩;rw[Hb];exact hs.cV (fun t ht=>by rw[hB.1];exact hd t ht) hv
theorem abr(s:St)(d:Option Nat)(x:AV):s.go d x cm=s.jt d x:=Ho s d x
theorem DH(s:St)(x:AV)(p:Name)(q:Option Ob):s.go none x ⟨[(p,q)],[]⟩=s.set p q:=by unfold St.go;rw[Av];rfl
theorem DI{t e:Nat}{x y:Operand}{d:Nat}{ty:TypeId}{ps:String}{af:Array Edge}(p:Name)(o l:Nat)(kd:IntKind)(j:Nat)(xs:List AV)(hk:(P.ti t).k=.slice e)(he:(P.ti e).sz=1)(hd:d<cf.n)(hx:ev s x=.va p o l)(hy:ev s y=.d (.int kd j))(hp:s.hp p=some (.xx xs))(hj:j<l) :
  QE P cf { dst:=some d,op:=.indexAddr t x y,type:=ty,pos:=ps,after:=af,guard:=none } s (.ea p (o+j)) ([p],cm):=by
 refine DG (by simp) (fun t' ht=>by cases ht;exact hd) fun B s' β a w hh iK hs=>?_;have hv:=hs.ev x;rw[iK x (by simp[Op.operands]),hx]at hv;have hw:=hs.ev y;rw[iK y (by simp[Op.operands]),hy]at hw;have hw:=hw.int;have ae:=(hh p (by simp)).trans hp;generalize hval:a.eval x=v at hv
 cases hv with
 |va _ _ _ _ hn h1 h =>
   obtain⟨hle,b,cap,rfl,hc⟩:=vaA h ae;obtain⟨h0,_⟩|⟨k,az,rfl,h2,h3⟩:=hc
   .omega
   .refine⟨.pointer (some ⟨k.b,k.o+(o+j),none⟩),?_,.ea _ _ _ hn rfl fun w' ys DJ=>?_⟩
    .have hr:=FV (P:=P) hk (KM (by omega)) k.b (k.o+o) l cap kd j (by omega) (by omega) w;rw[he,Int.toNat_natCast,akn,ajn]at hr;simp[execOp,hval,hw,hr]
    .rw[ae]at DJ;cases DJ;exact⟨by omega,k,az,rfl⟩
theorem H9{t:Nat}{x:Operand}{d:Nat}{ty:TypeId}{ps:String}{af:Array Edge}(p:Name)(i:Nat)(xs:List AV)(y:AV)(hg:(P.ti t).k.dA=false)(ha:(P.ti t).k.agg=false)(hd:d<cf.n)(hx:ev s x=.ea p i){m:Nat}(hp:s.hp p=some (.dZ m xs))(hy:xs[i]?=some y) :
  QE P cf { dst:=some d,op:=.load t x,type:=ty,pos:=ps,after:=af,guard:=none } s y ([p],cm):=by
 refine DG (by simp) (fun t' ht=>by cases ht;exact hd) fun B s' β a w hh iK hs=>?_;have hv:=hs.ev x;rw[iK x (by simp[Op.operands]),hx]at hv;have ae:=(hh p (by simp)).trans hp;generalize hval:a.eval x=v at hv
 cases hv with
 |ea _ _ _ hn h1 h =>
   obtain⟨hlt,k,hk,rfl⟩:=h m xs ae;rcases(hs.aO p _ ae).2 with⟨_,rfl⟩|⟨k',c,e,az,hb,hz,hl,DK,hc⟩
   .simp at hlt
   .obtain rfl:=ais (hk.symm.trans az);have hr:=FP (P:=P) hg ha hb (qX (z:=undef) (i:=k.o+i) (by omega));exact⟨_,by simp[execOp,hval,Instr.loadAt,Instr.sureAddr,hr],hc i y hy⟩
theorem Ou(c:Array Value)(o:Nat)(v:Value)(ho:o<c.size)(m:Nat):((splice c.toList o [v]).toArray).getD m undef=if m=o then v else c.getD m undef:=by
 have:=sv c.toList o [v] (by simp;omega) m;simp only[aiI,List.length_singleton]at this;simp only[ahY,ajf,this];by_cases h:m=o
 .subst h;simp
 .rw[if_neg (by omega),if_neg h]
theorem abt{t:Nat}{x y:Operand}{ty:TypeId}{ps:String}{af:Array Edge}(p:Name)(i:Nat)(xs:List AV)(z:AV)(hg:(P.ti t).k.dA=false)(bh:(P.ti t).sz=1)(hx:ev s x=.ea p i)(hy:ev s y=z)(hz:iW z=some [z]){m:Nat}(hp:s.hp p=some (.dZ m xs)) :
  QE P cf { dst:=none,op:=.store t x y,type:=ty,pos:=ps,after:=af,guard:=none } s .un ([p],⟨[(p,some (.dZ m (xs.set i z)))],[]⟩):=by
 intro s' _ hh iK B hB ds β a w ak hs Q';have hv:=hs.ev x;rw[iK x (by simp[Op.operands]),hx]at hv;have hw:=hs.ev y;rw[iK y (by simp[Op.operands]),hy]at hw;have ae:=(hh p (by simp)).trans hp;generalize hval:a.eval x=v at hv
 cases hv with
 |ea _ _ _ hn h1 h =>
   obtain⟨hlt,k,hk,rfl⟩:=h m xs ae;rcases(hs.aO p _ ae).2 with⟨_,rfl⟩|⟨k',c,e,az,hb,gO,hl,DK,hc⟩
   .simp at hlt
   .obtain rfl:=ais (hk.symm.trans az);obtain⟨g1,g2,g3⟩:=FN hz hw
    have g0:(a.eval y).cells=#[(a.eval y).cells.getD 0 undef]:=by
     generalize (a.eval y).cells=cc at g1;obtain⟨cc⟩:=cc
     match cc,g1 with
     |[u],_=>rfl
    have g3:=g3 0 z rfl;have g2:=g2 ((a.eval y).cells.getD 0 undef) (by rw[g0];simp);generalize hu:(a.eval y).cells.getD 0 undef=u at g0 g2 g3;have hr:=F3 (P:=P) (t:=t) hg hb (o:=k.o+i) (v:=a.eval y) (by rw[g0,bh];rfl) (by rw[g0];simp;omega) (by rw[g0];simpa using g2);rw[g0]at hr
    have aK:(execOp a.eval { dst:=none,op:=.store t x y,type:=ty,pos:=ps,after:=af,guard:=none }).run P w=.ok .skip (w.setRow k.b (splice c.toList (k.o+i) [u]).toArray):=by
     simp[execOp,hval,Instr.storeAt,Instr.sureAddr,hr]
    have bm:aj B β (s'.set p (some (.dZ m (xs.set i z)))) a.tmps (w.setRow k.b (splice c.toList (k.o+i) [u]).toArray):=by
     refine(hs.modify (p:=p) (ob':=.dZ m (xs.set i z)) ae (by simp[Ob.like]) (w':=w.setRow k.b (splice c.toList (k.o+i) [u]).toArray) rfl (by simp) (fun b hb=>setRow_other w k.b b _ (hb k hk)) (fun hv _=>?_)).1;refine .inr ⟨k,_,e,hk,setRow_heap w k.b c _ e (0,0) hb,?_,by simpa using hl,fun j hj=>?_,fun j x' hj=>?_⟩
     .simp;rw[uj _ _ _ (by simp;omega)];simpa using gO
     .rw[ai1]at hj;rw[Ou c (k.o+i) u (by omega)];split
      .exact g2
      .exact DK j hj
     .rw[Ou c (k.o+i) u (by omega)];by_cases e':i=j
      .subst e';rw[aiC hlt]at hj;cases hj;rw[if_pos rfl];exact hv _ _ g3
      .rw[aiy e']at hj;rw[if_neg (by omega)];exact hv _ _ (hc j x' hj)
    refine iZ (by simp) aK (.inr ⟨rfl,rfl⟩) ⟨ak,β,?_⟩;rw[DH];exact bm
variable {κ:Type}[DecidableEq κ]{ke:κ->D}{kv:κ->Value}
theorem DL{kt:TypeId}(K:j3 P kt ke kv){H:Array Obj}{own:Nat->Prop}{used:List Nat}{hp:Name->Option Ob}{β:Name->Option aU}{ks:List κ}{es:List (D×AV)}{aS:Array MapEntry}(hk:es.map (·.1)=ks.map ke)(bh:aS.size=es.length)
  (h:∀(i:Nat) (x:D×AV),es[i]?=some x->∃en:MapEntry,aS[i]?=some en∧au H own en.key x.1∧VR H own used hp β en.val x.2):aS.toList.map (·.key)=ks.map kv:=by
 have hl:es.length=ks.length:=by simpa using congrArg List.length hk
 apply ai0 (by simp[bh,hl]);intro i h1 h2;have hi:i<ks.length:=by simpa using h2
 obtain⟨en,he,hr,_⟩:=h i (es[i]'(by omega)) (aib (by omega))
 have mB:(es[i]'(by omega)).1=ke ks[i]:=by
  have:=congrArg (·[i]?) hk;simp only[aii,aib (show i<es.length by omega),aib hi,Option.map_some,aiv]at this;exact this
 rw[mB]at hr;have bJ:i<aS.size:=by omega
 simp[bJ]at he;simp[he,K.val hr]
theorem abu{aS:Array MapEntry}(i:Nat)(f:MapEntry->MapEntry)(hf:∀e,(f e).born=e.born):(aS.modify i f).toList.map (·.born)=aS.toList.map (·.born):=by
 refine aiY fun j=>?_;rw[aii,aii,aiI,aiI,ajg];split
 .cases aS[j]? with
  |none=>rfl
  |some x=>simp[hf]
 .rfl
end
end Go.Ab

namespace Go.Ab
def fX(h:Nat):Nat->List (Option (List D))->List (Name×Ob)
 |_,[]=>[]
 |i,none::r=>fX h (i+1) r
 |i,some ys::r=>([h,i],.arr none ys)::fX h (i+1) r
def fD(h:Nat)(xs:List (Option (List D)))(r:List (Name×Ob)):List (Name×Ob):=fX h 0 xs++r
def b9(h:Nat):Nat->List (Option (List D))->List AV
 |_,[]=>[]
 |i,none::r=>.un::b9 h (i+1) r
 |i,some ys::r=>.vw [h,i] 0 ys.length::b9 h (i+1) r
def abv(h:Nat)(xs:List (Option (List D))):Name->Option (List D)
 |[a,i]=>if a=h then(xs.getD i none)else none
 |_=>none
theorem abw(h:Nat)(xs:List (Option (List D)))(a:Nat):abv h xs [a]=none:=rfl
theorem qu(h:Nat):∀(xs:List (Option (List D))) (i:Nat) (q:Name×Ob),q∈fX h i xs↔∃j ys,xs[j]?=some (some ys)∧q=([h,i+j],.arr none ys)
 |[],i,q=>by simp[fX]
 |none::r,i,q=>by
   rw[fX,qu h r];constructor
   .rintro⟨j,ys,h1,rfl⟩;exact⟨j+1,ys,by simpa using h1,by rw[show i+1+j=i+(j+1) by omega]⟩
   .rintro⟨j,ys,h1,rfl⟩
    cases j with
    |zero=>simp at h1
    |succ j=>exact⟨j,ys,by simpa using h1,by rw[show i+1+j=i+(j+1) by omega]⟩
 |some zs::r,i,q=>by
   rw[fX,ah6,qu h r];constructor
   .rintro(rfl|⟨j,ys,h1,rfl⟩)
    .exact⟨0,zs,rfl,rfl⟩
    .exact⟨j+1,ys,by simpa using h1,by rw[show i+1+j=i+(j+1) by omega]⟩
   .rintro⟨j,ys,h1,rfl⟩
    cases j with
    |zero=>simp at h1;subst h1;exact .inl rfl
    |succ j=>exact .inr ⟨j,ys,by simpa using h1,by rw[show i+1+j=i+(j+1) by omega]⟩
theorem qw(h:Nat):∀(xs:List (Option (List D))) (i:Nat),(b9 h i xs).length=xs.length
 |[],_=>rfl
 |none::r,i=>by simp[b9,qw h r]
 |some _::r,i=>by simp[b9,qw h r]
theorem rC(h:Nat):∀(xs:List (Option (List D))) (i j:Nat),(b9 h i xs)[j]?=(xs[j]?).map fun o=>match o with
  |some ys=>.vw [h,i+j] 0 ys.length
  |none=>.un
 |[],i,j=>by simp[b9]
 |none::r,i,0=>by simp[b9]
 |some _::r,i,0=>by simp[b9]
 |none::r,i,j+1=>by
   rw[b9,List.getElem?_cons_succ,List.getElem?_cons_succ,rC h r,show i+1+j=i+(j+1) by omega]
 |some _::r,i,j+1=>by
   rw[b9,List.getElem?_cons_succ,List.getElem?_cons_succ,rC h r,show i+1+j=i+(j+1) by omega]
theorem Ib(h a:Nat)(t:Name)(hn:(a == h)=false):∀(xs:List (Option (List D))) (i:Nat) (r:List (Name×Ob)),aE none ((fX h i xs++r).map fun q=>(q.1,some q.2)) (a::t)=aE none (r.map fun q=>(q.1,some q.2)) (a::t)
 |[],i,r=>rfl
 |none::xs,i,r=>by rw[fX,Ib h a t hn xs]
 |some _::xs,i,r=>by
   have:a≠h:=by simpa using hn
   rw[fX,List.cons_append,aid,aE,if_neg (by simp[this]),Ib h a t hn xs]
theorem Ic(h a:Nat)(t:Name)(o:Ob)(hn:(a == h)=false):∀(xs:List (Option (List D))) (i:Nat) (r:List (Name×Ob)),jM (fX h i xs++r) (a::t) o=fX h i xs++jM r (a::t) o
 |[],i,r=>rfl
 |none::xs,i,r=>by rw[fX,Ic h a t o hn xs]
 |some _::xs,i,r=>by
   have:a≠h:=by simpa using hn
   rw[fX,List.cons_append,jM,if_neg (by simp[this]),Ic h a t o hn xs,List.cons_append]
theorem Ie(h a:Nat)(t:Name)(hn:(a == h)=false):∀(xs:List (Option (List D))) (i:Nat) (r:List (Name×Ob)),jb (fX h i xs++r) (a::t)=fX h i xs++jb r (a::t)
 |[],i,r=>rfl
 |none::xs,i,r=>by rw[fX,Ie h a t hn xs]
 |some _::xs,i,r=>by
   have:a≠h:=by simpa using hn
   rw[fX,List.cons_append,jb,if_neg (by simp[this]),Ie h a t hn xs,List.cons_append]
theorem Ov(h a:Nat)(t:Name)(xs:List (Option (List D)))(r:List (Name×Ob))(hn:(a == h)=false):aE none ((fD h xs r).map fun q=>(q.1,some q.2)) (a::t)=aE none (r.map fun q=>(q.1,some q.2)) (a::t):=Ib h a t hn xs 0 r
theorem abx(h a:Nat)(t:Name)(o:Ob)(xs:List (Option (List D)))(r:List (Name×Ob))(hn:(a == h)=false):jM (fD h xs r) (a::t) o=fD h xs (jM r (a::t) o):=Ic h a t o hn xs 0 r
theorem aby(h a:Nat)(t:Name)(xs:List (Option (List D)))(r:List (Name×Ob))(hn:(a == h)=false):jb (fD h xs r) (a::t)=fD h xs (jb r (a::t)):=Ie h a t hn xs 0 r
attribute [go_sem] Ov abx aby DH abr Nat.reduceBEq Nat.beq_eq_true_eq abw
section
variable {U:List Nat}{τ:Name->Name}{s:St}{u:List Nat}{h:Nat}{xs:List (Option (List D))}{r:List (Name×Ob)}
theorem Ig:∀{a b:List (Name×Ob)},nV τ u s a->nV τ u s b->nV τ u s (a++b)
 |[],_,_,hb=>hb
 |_::_,_,ha,hb=>⟨ha.1,Ig ha.2 hb⟩
theorem uX:∀{a:List (Name×Ob)},(∀q∈a,s.hp (τ q.1)=some (q.2.ren τ)∧q.2.bn u=true∧bX u q.1=true)->nV τ u s a
 |[],_=>trivial
 |q::_,h=>⟨h q ah0,uX fun x hx=>h x (ah8 _ hx)⟩
theorem Ih:∀{a b:List (Name×Ob)},qb U τ a->qb U τ b->qb U τ (a++b)
 |[],_,_,hb=>hb
 |_::_,_,ha,hb=>⟨ha.1,Ih ha.2 hb⟩
theorem sQ:∀{a:List (Name×Ob)},(∀q∈a,bX U q.1=true->τ q.1=q.1)->qb U τ a
 |[],_=>trivial
 |q::_,h=>⟨h q ah0,sQ fun x hx=>h x (ah8 _ hx)⟩
theorem Ow(hu:u.contains h=true)(hf:∀i ys,xs[i]?=some (some ys)->s.hp (τ [h,i])=some (.arr none ys))(hr:nV τ u s r):nV τ u s (fD h xs r):=by
 refine Ig (uX fun q hq=>?_) hr;obtain⟨j,ys,h1,rfl⟩:=(qu h xs 0 q).1 hq;rw[aiD];exact⟨hf j ys h1,rfl,hu⟩
theorem abz(hU:U.contains h=false)(hr:qb U τ r):qb U τ (fD h xs r):=by
 refine Ih (sQ fun q hq hn=>?_) hr;obtain⟨j,ys,h1,rfl⟩:=(qu h xs 0 q).1 hq;have:U.contains h=true:=hn;rw[hU]at this;cases this
theorem l9{fr:List (Nat×AV)}{i:Nat}{ys:List D}(hi:xs[i]?=some (some ys)):(mk fr (fD h xs r) u).hp [h,i]=some (.arr none ys):=by
 rw[tZ]
 have go:∀(xs:List (Option (List D))) (m i:Nat),xs[i]?=some (some ys)->aE none ((fX h m xs++r).map fun q=>(q.1,some q.2)) [h,m+i]=some (.arr none ys):=by
  intro xs
  induction xs with
  |nil=>intro m i hi;simp at hi
  |cons o xs ih =>
    intro m i hi
    cases i with
    |zero =>
      simp at hi;subst hi;rw[fX,List.cons_append,aid,aE,if_pos (by simp)]
    |succ i =>
      have ao:xs[i]?=some (some ys):=by simpa using hi
      have:=ih (m+1) i ao;rw[show m+1+i=m+(i+1) by omega]at this
      cases o with
      |none=>exact this
      |some zs =>
        rw[fX,List.cons_append,aid,aE,if_neg (by simp),this]
 have:=go xs 0 i hi
 rwa [aiD]at this
theorem abA{fr:List (Nat×AV)}{g:Nat}{ws:List (Option (List D))}{i:Nat}{ys:List D}(hg:g≠h)(hi:xs[i]?=some (some ys)):(mk fr (fD g ws (fD h xs r)) u).hp [h,i]=some (.arr none ys):=by
 rw[tZ,Ov g h [i] ws _ (by simpa using Ne.symm hg)];exact l9 (fr:=fr) (u:=u) hi
end
section
variable {P:Program}{cf:Cf}{Q:Exit->St->Prop}{s:St}{k:List It}
theorem DM(E:bB P cf Q){c:Code}{τ:Name->Name}{s2:St}(hle:Le cf.U τ s s2)(h:gw E c s2 k):gw E c s k:=by
 intro B hB ds β a w ak hs;obtain⟨β2,br,_⟩:=hs.le (τ:=τ) (by rw[hB.2.1];exact hle);exact h B hB ds β2 a w ak br
theorem abB(E:bB P cf Q){c:Code}(p:Name)(j n:Nat)(w:W){m:Nat}(xs:List AV)(hp:s.hp p=some (.dZ m xs))(hj:xs[j]?=some (.d .ai))(hn:n∉s.used)(h:gw E c ((s.add n (.arr w [])).set p (some (.dZ m (xs.set j (.vw [n] 0 0))))) k):gw E c s k:=by
 intro B hB ds β a w' ak hs;have h1:=hs.qY hn none w;have kx:p≠[n]:=ku (hs.aO p _ hp).1 hn;have Ox:(s.add n (.arr w [])).hp p=some (.dZ m xs):=by simpa[St.add,aP,kx]using hp
 refine h B hB ds _ a w' ak (h1.modify (p:=p) (ob':=.dZ m (xs.set j (.vw [n] 0 0))) Ox (by simp[Ob.like]) (w':=w') rfl rfl (fun _ _=>rfl) (fun hv _=>?_)).1;rcases(h1.aO p _ Ox).2 with⟨h2,h3⟩|⟨k,c,e,hk,hb,hz,hl,DK,hc⟩
 .rw[h3]at hj;simp at hj
 .refine .inr ⟨k,c,e,hk,hb,hz,by simpa using hl,by simpa using DK,fun i x hi=>?_⟩;by_cases e:j=i
  .subst e;rw[aiC (ah3.1 hj).1]at hi;cases hi;exact hv _ _ (wc (w:=w) ⟨n,[],rfl,ah0⟩ (by simp[St.add,aP]) (hc j _ hj))
  .rw[aiy e]at hi;exact hv _ _ (hc i x hi)
theorem abD{B:Base}{β:Name->Option aU}{s:St}{tm:Array Value}{w:World}(h:aj B β s tm w){t:Nat}(ht:t∉s.used):∃β',aj B β' (s.add t (.mapA 0 [] [])) tm (w.alloc (.map #[] 0))∧β' [t]=some ⟨w.heap.size,0,0⟩:=by
 obtain⟨bm,_⟩:=h.alloc ht (.map #[] 0) (.mapA 0 [] []) 0 (fun β' hβ _=>⟨_,#[],hβ,by show(w.heap.push _)[w.heap.size]?=_;rw[akN],⟨rfl,by simp[si],rfl⟩,fun i x hi=>by simp at hi⟩);exact⟨_,bm,by simp[aP]⟩
theorem abE{t0 d:Nat}{ty:TypeId}{ps:String}{af:Array Edge}(hd:d<cf.n∧d∉s.used) :
  QE P cf { dst:=some d,op:=.makeMap t0 none,type:=ty,pos:=ps,after:=af,guard:=none } s (.ma [d]) ([],⟨[([d],some (.mapA 0 [] []))],[d]⟩):=by
 intro s' hu _ _ B hB ds β a w ak hs Q'
 have aK:(execOp a.eval { dst:=some d,op:=.makeMap t0 none,type:=ty,pos:=ps,after:=af,guard:=none }).run P w=.ok (.value (.map (some w.heap.size))) (w.alloc (.map #[] 0)):=by
  simp only[execOp,Instr.makeMap];rfl
 obtain⟨β',bm,hb⟩:=abD hs (t:=d) (hu d (by simp));refine iZ (by simp) aK (.inl rfl) ⟨ak,β',?_⟩;have e:s'.go (some d) (.ma [d]) ⟨[([d],some (.mapA 0 [] []))],[d]⟩=(s'.add d (.mapA 0 [] [])).put d (.ma [d]):=by unfold St.go;rw[v7];rfl
 rw[e];exact bm.put (by rw[hB.1];exact hd.1) (.ma _ _ ⟨d,[],rfl,ah0⟩ rfl fun _ _ _ _=>⟨_,hb,rfl⟩)
theorem abF(s:St)(t:Nat)(x:AV)(u:Nat)(ob:Ob):s.go (some t) x ⟨[([u],some ob)],[u]⟩=(s.add u ob).put t x:=by unfold St.go;rw[v7];rfl
attribute [go_sem] abF
end
end Go.Ab

namespace Go.Ab
end Go.Ab

namespace Go.Ab
end Go.Ab

namespace Go.Ab
def AV.e8(g:Name->Option (W×List D)):AV->AV
 |.vw q o l=>match g q with
   |some x=>.d (.sl x.1 ((x.2.drop o).take l))
   |none=>.vw q o l
 |x=>x
def Ob.e8(g:Name->Option (W×List D)):Ob->Ob
 |.dZ w xs=>.dZ w (xs.map (AV.e8 g))
 |.mapA aZ bs es=>.mapA aZ bs (es.map fun x=>(x.1,x.2.e8 g))
 |o=>o
def St.e8(s:St)(g:Name->Option (W×List D)):St:={ fr:=s.fr,hp:=fun q=>match g q with | some _=>none | none=>(s.hp q).map (Ob.e8 g),used:=s.used }
theorem Ob.abG(g:Name->Option (W×List D))(o:Ob):o.like (o.e8 g):=by
 cases o<;>simp[Ob.e8,Ob.like]
section
variable {B:Base}{β:Name->Option aU}{s:St}{tm:Array Value}{w:World}
theorem aj.e8(h:aj B β s tm w)(g:Name->Option (W×List D))(hg:∀q x,g q=some x->s.hp q=some (.arr x.1 x.2)):aj B β (s.e8 g) tm w:=by
 have dL:∀q o',(s.e8 g).hp q=some o'->g q=none∧∃o,s.hp q=some o∧o'=o.e8 g:=by
  intro q o' ho;simp only[St.e8]at ho;split at ho
  .cases ho
  .rename_i e;obtain⟨o,h1,h2⟩:=ah4.1 ho;exact⟨e,o,h1,h2.symm⟩
 have aJ:∀q,(s.e8 g).hp q≠none->s.hp q≠none∧g q=none:=by
  intro q hq
  cases ho:(s.e8 g).hp q with
  |none=>exact absurd ho hq
  |some o' =>
    obtain⟨e,o,h1,_⟩:=dL q o' ho;exact⟨by rw[h1];simp,e⟩
 have hr:∀v d',au w.heap (s.own B.A β) v d'->au w.heap ((s.e8 g).own B.A β) v d':=fun v d' hd=>hd.mono (fun _ _ _=>rfl) (by
  rintro b _ (hA|⟨q,k,hq,hk,e⟩)
  .exact .inl hA
  .exact .inr ⟨q,k,(aJ q hq).1,hk,e⟩)
 have ah:∀q,nm s.used q->iG s.hp (s.e8 g).hp β β q:=fun q _ o' aM=>by
  obtain⟨_,o,h1,rfl⟩:=dL q o' aM;exact⟨o,h1,Ob.abG g o,rfl⟩
 have bH:∀p x,g p=some x->∀k,β p=some k->¬(s.e8 g).own B.A β k.b:=by
  intro p x Oy k hk dS;have hp:=hg p x Oy;obtain hA|⟨q,k',hq,az,e⟩:=dS
  .exact(h.blocks p k (by rw[hp];simp) hk).2.1 hA
  .have e2:=h.inj q p k' k (aJ q hq).1 (by rw[hp];simp) az hk e;have:=(aJ q hq).2;rw[e2,Oy]at this;cases this
 have Ii:∀{v:Value} {x:AV},VR w.heap (s.own B.A β) s.used s.hp β v x->VR w.heap ((s.e8 g).own B.A β) s.used (s.e8 g).hp β v x:=fun hv=>hv.mono hr (fun _ h=>h) ah
 have mA:∀{v:Value} {x:AV},VR w.heap (s.own B.A β) s.used s.hp β v x->VR w.heap ((s.e8 g).own B.A β) s.used (s.e8 g).hp β v (x.e8 g):=by
  intro v x hv
  cases x with
  |vw q o l =>
    cases yz:g q with
    |none=>simp only[AV.e8,yz];exact Ii hv
    |some y =>
      have:=VR.cY (p:=q) (w:=y.1) (xs:=y.2) hr ah (hg q y yz) (h.aO q _ (hg q y yz)).2 (bH q y yz) hv;simpa[AV.e8,yz,AV.cY]using this
  |_=>exact Ii hv
 refine { bE:=h.bE,io:=h.io,size:=h.size,frame:=h.frame,slots:=fun i=>Ii (h.slots i),aO:=fun q o' aM=>?_,blocks:=fun q k hq hk=>h.blocks q k (aJ q hq).1 hk,inj:=fun q q' k k' hq cg=>h.inj q q' k k' (aJ q hq).1 (aJ q' cg).1,us:=h.us,stay:=h.stay };obtain⟨_,o,h1,rfl⟩:=dL q o' aM;obtain⟨g1,g2⟩:=h.aO q o h1;refine⟨g1,?_⟩
 cases o with
 |dZ w1 xs =>
   obtain⟨a1,rfl⟩|⟨k,c,e,a1,a2,a3,a4,a5,a6⟩:=g2
   .exact .inl ⟨a1,rfl⟩
   .refine .inr ⟨k,c,e,a1,a2,a3,by simpa using a4,by simpa using a5,fun j x hj=>?_⟩;rw[aii,ah4]at hj;obtain⟨y,hy,rfl⟩:=hj;exact mA (a6 j y hy)
 |mapA aZ bs es =>
   obtain⟨k,aS,a1,a2,a3,a4⟩:=g2;refine⟨k,aS,a1,a2,by simpa using a3,fun j x hj=>?_⟩;rw[aii,ah4]at hj;obtain⟨y,hy,rfl⟩:=hj;obtain⟨en,b1,b2,b3⟩:=a4 j y hy;exact⟨en,b1,hr _ _ b2,mA b3⟩
 |_=>exact g2.mono hr (fun _ h=>h) ah rfl fun _ _=>rfl
theorem aj.abH(h:aj B β s tm w){p:Name}{ty:Option Nat}{cs cs':List AV}(hp:s.hp p=some (.bz ty cs))(hl:cs'.length=cs.length)
  (hv:∀k c e,β p=some k->w.heap[k.b]?=some (.cells c e (0,0))->∀(j:Nat) x x',cs[j]?=some x->cs'[j]?=some x'->VR w.heap (s.own B.A β) s.used s.hp β (c.getD j undef) x->VR w.heap (s.own B.A β) s.used s.hp β (c.getD j undef) x'):aj B β (s.set p (some (.bz ty cs'))) tm w:=by
 have fy:∀q,q≠p->(s.set p (some (.bz ty cs'))).hp q=s.hp q:=fun q h1=>by simp[St.set,aP,h1]
 have dz:(s.set p (some (.bz ty cs'))).hp p=some (.bz ty cs'):=by simp[St.set,aP]
 have qp:∀q,(s.set p (some (.bz ty cs'))).hp q≠none↔s.hp q≠none:=fun q=>by
  by_cases e:q=p
  .subst e;rw[dz,hp];simp
  .rw[fy q e]
 have dS:(s.set p (some (.bz ty cs'))).own B.A β=s.own B.A β:=by
  funext b;refine propext (or_congr_right ⟨?_,?_⟩)
  .rintro⟨q,l,hq,hl,rfl⟩;exact⟨q,l,(qp q).1 hq,hl,rfl⟩
  .rintro⟨q,l,hq,hl,rfl⟩;exact⟨q,l,(qp q).2 hq,hl,rfl⟩
 have ah:∀q,nm s.used q->iG s.hp (s.set p (some (.bz ty cs'))).hp β β q:=by
  intro q _ o ho;by_cases e:q=p
  .subst e;rw[dz]at ho;cases ho;exact⟨_,hp,by simp[Ob.like],rfl⟩
  .exact⟨o,by rwa [fy q e]at ho,Ob.mS _,rfl⟩
 refine { bE:=h.bE,io:=h.io,size:=h.size,frame:=h.frame,slots:=fun i=>?_,aO:=?_,blocks:=fun q l hq hl=>h.blocks q l ((qp q).1 hq) hl,inj:=fun q q' l l' hq cg=>h.inj q q' l l' ((qp q).1 hq) ((qp q').1 cg),us:=h.us,stay:=h.stay }
 .rw[dS];exact(h.slots i).mono (fun _ _ h=>h) (fun _ h=>h) ah
 .intro q o ho;rw[dS];by_cases e:q=p
  .subst e;rw[dz]at ho;cases ho;obtain⟨h1,k,c,e,g1,g2,g3,g4,g5,g6,g7⟩:=h.aO q _ hp;refine⟨h1,k,c,e,g1,g2,g3,g4,by rw[g5,hl],g6,fun j x' aV=>?_⟩;have hlt:j<cs.length:=by rw[<-hl];exact(ah3.1 aV).1
   exact(hv k c _ g1 g3 j _ x' (aib hlt) aV (g7 j _ (aib hlt))).mono (fun _ _ h=>h) (fun _ h=>h) ah
  .rw[fy q e]at ho;obtain⟨h1,h2⟩:=h.aO q o ho;exact⟨h1,h2.mono (fun _ _ h=>h) (fun _ h=>h) ah rfl fun _ _=>rfl⟩
end
end Go.Ab

namespace Go.Ab
def kI(zs:List D)(off len:Nat)(z:D):List D:=zs.take off++(List.replicate len z++zs.drop (off+len))
theorem DN{zs:List D}{off len:Nat}{z:D}(h:off+len<=zs.length):(kI zs off len z).length=zs.length:=by
 unfold kI;simp only[ah7,air,akO,ai9];omega
theorem abI{zs:List D}{off len:Nat}{z:D}(h:off+len<=zs.length)(i:Nat):(kI zs off len z)[i]?=if i<off then zs[i]? else if i<off+len then some z else zs[i]?:=by
 unfold kI;by_cases c1:i<off
 .rw[if_pos c1,aih (by simp;omega),aje c1]
 rw[if_neg c1,aim (by simp;omega),air,aj0 (by omega)];by_cases c2:i<off+len
 .rw[if_pos c2,aih (by simp;omega),ajt,if_pos (by omega)]
 .rw[if_neg c2,aim (by simp;omega),ai9,aiU];congr 1;omega
theorem abJ{c1:Array Value}{q m:Nat}{u:Value}(hq:q+m<=c1.size)(i:Nat):(c1.toList.take q++List.replicate m u++c1.toList.drop (q+m)).toArray.getD i undef=if i<q then c1.getD i undef else if i<q+m then u else c1.getD i undef:=by
 rw[ahY,ajf];by_cases h1:i<q
 .rw[if_pos h1,aiS,aih (by simp;omega),aje h1];simp[ahY]
 rw[if_neg h1];by_cases h2:i<q+m
 .rw[if_pos h2,aih (by rw[ah7,ai9,air];simp;omega),aim (by simp;omega),air,Array.length_toList,aj0 (by omega),ajt,if_pos (by omega)];rfl
 .rw[if_neg h2,aim (by rw[ah7,ai9,air];simp;omega),ah7,ai9,air,Array.length_toList,aj0 (by omega),aiU];rw[show q+m+(i-(q+m))=i by omega];simp[ahY]
section
variable {P:Program}{cf:Cf}{Q:Exit->St->Prop}{s:St}{k:List It}
theorem Oz(E:bB P cf Q){x:Operand}{t e:Nat}{ty:TypeId}{pos:String}{af:Array Edge}{p:Name}{off len:Nat}{zs:List D}(z:D)(hk:(P.ti t).k=.slice e)(hez:(P.ti e).z=some [z])
  (hx:ev s x=.vw p off len) (hp:s.hp p=some (.arr none zs)) (h:E.run k (s.set p (some (.arr none (kI zs off len z))))) :
  E.aX { dst:=none,op:=.call { callee:=.builtin .clear,args:=#[x],argTypes:=#[t] },type:=ty,pos:=pos,after:=af,guard:=none } s k .no:=by
 rw[gx];rw[E.run_eq]at h;intro B hB ds β a w ak hs Q';have OA:=kW hk;obtain⟨zv,yA,hm,it,hi,p8,kz,kA⟩:=qZ hez;have lp:=hs.ev x;rw[hx]at lp;generalize oz:a.eval x=vx at lp
 cases lp with
 |vw _ _ _ _ hn cw aV =>
 obtain⟨hle,a0,cap,rfl,OB⟩:=aV _ _ _ hp
 have OC:∀v w',(Builtin.clear_ #[t] ty #[.slice a0 len cap]).run P w=.ok v w'->(execOp a.eval { dst:=none,op:=.call { callee:=.builtin .clear,args:=#[x],argTypes:=#[t] },type:=ty,pos:=pos,after:=af,guard:=none }).run P w=.ok (.value v) w':=by
  intro v w' hr;simp[execOp,resolve,invoke,builtin,oz,hr,Result.andThen]
 by_cases ud:len=0
 .subst ud
  have hr:(Builtin.clear_ #[t] ty #[.slice a0 0 cap]).run P w=.ok (.tuple #[]) w:=by
   cases a0<;>simp[Builtin.clear_,run_underlying OA]
  have q7:kI zs off 0 z=zs:=by simp[kI]
  have abK:s.set p (some (.arr none (kI zs off 0 z)))=s:=by
   rw[q7];cases s;simp only[St.set,St.mk.injEq,true_and,and_true];funext q;by_cases e:q=p
   .subst e;simp[aP];exact hp.symm
   .simp[aP,e]
  rw[abK]at h;exact iZ (v:=.tuple #[]) (by simp) (OC _ _ hr) (.inl rfl) ⟨ak,_,β,eT h,hs⟩
 .rcases OB with⟨oc,_⟩|⟨k0,nP,rfl,fL,sR⟩
  .exact absurd oc ud
  rcases(hs.aO p _ hp).2 with⟨hq,_⟩|⟨k1,c1,e1,kX,p9,um,oc,jL,abL⟩
  .rw[nP]at hq;cases hq
  rw[nP]at kX;cases kX;simp only[wd,akn]at sR oc;obtain⟨m1,m2,m3,m4⟩:=uc (H:=w.heap) (own:=s.own B.A β) hm;have q7:zv.cells.size=1:=by simpa using m1.symm
  obtain⟨u,hu,cD⟩:=m4 0 z rfl;have oP:z.ct=true:=m2 z (by simp);have OD:zv.cells[0]?=some u:=by simpa using hu
  have xW:u.oneCell'=true:=cD.vD oP
  have hze:(Builtin.zeroCells zv.cells len).toList=List.replicate len u:=by
   have hg:zv.cells=#[u]:=by
    generalize zv.cells=cc at q7 OD;obtain⟨l⟩:=cc
    match l,q7,OD with
    |[y],_,h=>simp at h;rw[h]
   rw[hg];apply ai0
   .simp[Builtin.zeroCells]
   .intro i h1 h2;simp[Builtin.zeroCells,Nat.mod_one]
  have ah:=run_storeCells_at P k0.b (k0.o+off*wd none) e1 (List.replicate len u) 0 c1 w p9 (by simp[wd];omega) (fun v hv=>by rw[ajb hv];exact xW);simp only[Nat.add_zero,ai9]at ah
  have hr:(Builtin.clear_ #[t] ty #[.slice (some ⟨k0.b,k0.o+off*wd none,none⟩) len cap]).run P w=.ok (.tuple #[]) (w.setRow k0.b (c1.toList.take (k0.o+off*wd none)++List.replicate len u++c1.toList.drop (k0.o+off*wd none+len)).toArray):=by
   obtain⟨n,rfl⟩:∃n,len=n+1:=⟨len-1,by omega⟩
   simp[Builtin.clear_,run_underlying OA,yA,hze,ah]
  have ahG:off*wd none=off:=by simp[wd]
  obtain⟨bm,_⟩:=hs.modify (p:=p) (ob':=.arr none (kI zs off len z)) hp ⟨⟨rfl,rfl⟩,by rw[DN hle];exact ain _⟩ (w':=w.setRow k0.b (c1.toList.take (k0.o+off*wd none)++List.replicate len u++c1.toList.drop (k0.o+off*wd none+len)).toArray) rfl (by simp) (fun b hb=>setRow_other w k0.b b _ (hb k0 nP))
   (fun _ OE=>.inr ⟨k0,_,e1,nP,setRow_heap w k0.b c1 _ e1 (0,0) p9,by simp;omega,by rw[DN hle];simpa[wd]using oc,fun x hx=>(by
    unfold kI at hx;rcases ah1.1 hx with hx|hx
    .exact jL _ (aiJ hx)
    rcases ah1.1 hx with hx|hx
    .rw[ajb hx];exact oP
    .exact jL _ (aiX hx)),fun i x j d hi hj=>by
    have fC:x.ct=true:=by
     unfold kI at hi;have hx:=aiz hi;rcases ah1.1 hx with hx|hx
     .exact jL _ (aiJ hx)
     rcases ah1.1 hx with hx|hx
     .rw[ajb hx];exact oP
     .exact jL _ (aiX hx)
    have yb:j=0∧d=x:=by
     cases x<;>simp[D.ct]at fC<;>(cases j<;>simp[D.cells]at hj<;>simp[hj])
    obtain⟨rfl,rfl⟩:=yb;rw[show k0.o+i*wd none+0=k0.o+i by simp[wd],abJ (by omega)];rw[abI hle]at hi
    have old:∀x,zs[i]?=some x->x.ct=true->au _ _ (c1.getD (k0.o+i) undef) x:=fun x hz fC=>by
     have:=abL i x 0 x hz (by cases x<;>simp[D.ct]at fC<;>rfl);rw[show k0.o+i*wd none+0=k0.o+i by simp[wd]]at this;exact OE _ _ this
    by_cases g1:i<off
    .rw[if_pos g1]at hi;rw[if_pos (by omega)];exact old _ hi fC
    rw[if_neg g1]at hi;rw[if_neg (by omega)];by_cases g2:i<off+len
    .rw[if_pos g2]at hi;rw[if_pos (by omega)];cases hi;exact OE _ _ cD
    .rw[if_neg g2]at hi;rw[if_neg (by omega)]
     exact old _ hi fC⟩)
  exact iZ (v:=.tuple #[]) (by simp) (OC _ _ hr) (.inl rfl) ⟨ak,_,β,eT h,bm⟩
end
end Go.Ab

namespace Go.Ab
inductive Lz where
 |A (p:Name) (w:W) (xs:List D)
 |B (p:Name) (d:D)
 |U (p:Name) (ds:List D)
def AV.one:AV->Bool
 |.d x=>x.ct
 |.vw _ _ _=>true
 |.bx _ _=>true
 |.el _ _ _=>true
 |.mp _=>true
 |.it _=>true
 |.va _ _ _=>true
 |.ea _ _=>true
 |.ma _=>true
 |_=>false
def yB:List AV->List D->Prop
 |[],[]=>True
 |x::r,d::s=>(x=.d d∨(d=.unk∧x.one=true))∧yB r s
 |_,_=>False
theorem OG:∀{cs:List AV} {ds:List D},yB cs ds->ds.length=cs.length
 |[],[],_=>rfl
 |_::_,_::_,h=>by simp[OG h.2]
 |[],_::_,h=>h.elim
 |_::_,[],h=>h.elim
theorem OH:∀{cs:List AV} {ds:List D},yB cs ds->∀(i:Nat) x d,cs[i]?=some x->ds[i]?=some d->x=.d d∨(d=.unk∧x.one=true)
 |[],[],_,i,x,d,h,_=>by simp at h
 |_::_,_::_,h,0,x,d,h1,h2=>by simp at h1 h2;subst h1;subst h2;exact h.1
 |_::_,_::_,h,i+1,x,d,h1,h2=>OH h.2 i x d (by simpa using h1) (by simpa using h2)
 |[],_::_,h,_,_,_,_,_=>h.elim
 |_::_,[],h,_,_,_,_,_=>h.elim
def St.lz(s:St):Lz->St
 |.A p w xs=>s.fW p w xs
 |.B p d=>s.cj p d
 |.U p ds=>s.set p (some (.box (ds.map .d)))
def Lz.ok(s:St):Lz->Prop
 |.A p w xs=>s.hp p=some (.arr w xs)
 |.B p d=>s.hp p=some (.box (d.cells.map .d))∧(d.cells.all D.ct)=true
 |.U p ds=>∃cs,s.hp p=some (.box cs)∧yB cs ds
def St.mb(s:St):List Lz->St
 |[]=>s
 |q::L=>(s.lz q).mb L
def qx(s:St):List Lz->Prop
 |[]=>True
 |q::L=>q.ok s∧qx (s.lz q) L
theorem abM(s:St):s.mb []=s:=rfl
theorem abN(s:St)(p:Name)(w:W)(xs:List D)(L:List Lz):s.mb (.A p w xs::L)=(s.fW p w xs).mb L:=rfl
theorem abO(s:St)(p:Name)(d:D)(L:List Lz):s.mb (.B p d::L)=(s.cj p d).mb L:=rfl
theorem abP(s:St)(p:Name)(ds:List D)(L:List Lz):s.mb (.U p ds::L)=(s.set p (some (.box (ds.map .d)))).mb L:=rfl
theorem abQ(s:St):qx s []=True:=rfl
theorem OI(s:St)(p:Name)(w:W)(xs:List D)(L:List Lz):qx s (.A p w xs::L)=(s.hp p=some (.arr w xs)∧qx (s.fW p w xs) L):=rfl
theorem OJ(s:St)(p:Name)(d:D)(L:List Lz):qx s (.B p d::L)=((s.hp p=some (.box (d.cells.map .d))∧(d.cells.all D.ct)=true)∧qx (s.cj p d) L):=rfl
theorem OL(s:St)(p:Name)(ds:List D)(L:List Lz):qx s (.U p ds::L)=((∃cs,s.hp p=some (.box cs)∧yB cs ds)∧qx (s.set p (some (.box (ds.map .d)))) L):=rfl
theorem abR{H:Array Obj}{own:Nat->Prop}{used:List Nat}{hp:Name->Option Ob}{β:Name->Option aU}{v:Value}{x:AV}(h:VR H own used hp β v x)(h1:x.one=true):VR H own used hp β v (.d .unk):=by
 cases h with
 |d _ _ hd=>exact .d _ _ (.unk _ (hd.vD h1))
 |vw _ _ _ _ _ ho _=>exact .d _ _ (.unk _ ho)
 |bx _ _ _ _ ho _=>exact .d _ _ (.unk _ ho)
 |el _ _ _ _ _ ho _=>exact .d _ _ (.unk _ ho)
 |mp _ _ _ ho _=>exact .d _ _ (.unk _ ho)
 |its _ _ _ ho _ _=>exact .d _ _ (.unk _ ho)
 |va _ _ _ _ _ ho _=>exact .d _ _ (.unk _ ho)
 |ea _ _ _ _ ho _=>exact .d _ _ (.unk _ ho)
 |ma _ _ _ ho _=>exact .d _ _ (.unk _ ho)
 |un=>cases h1
 |agg=>cases h1
 |aA=>cases h1
 |aW=>cases h1
theorem DP{B:Base}{β:Name->Option aU}{tm:Array Value}{w:World}:∀(L:List Lz) (s:St),aj B β s tm w->qx s L->aj B β (s.mb L) tm w
 |[],_,h,_=>h
 |.A p wf xs::L,s,h,hl=>by
   rw[OI]at hl;exact DP L _ (h.fW hl.1) hl.2
 |.B p d::L,s,h,hl=>by
   rw[OJ]at hl;exact DP L _ (h.cj hl.1.1 fun x hx=>by simpa using aio.1 hl.1.2 x hx) hl.2
 |.U p ds::L,s,h,hl=>by
   rw[OL]at hl;obtain⟨⟨cs,hp,hw⟩,h2⟩:=hl;refine DP L _ (h.Dj hp (by simp[OG hw]) fun v j x x' hx aV hv=>?_) h2;rw[aii,ah4]at aV;obtain⟨d,hd,rfl⟩:=aV;rcases OH hw j x d hx hd with rfl|⟨rfl,h1⟩
   .exact hv
   .exact abR hv h1
section
variable {P:Program}{cf:Cf}{Q:Exit->St->Prop}{s:St}{k:List It}
theorem OM:∀l:List (Name×Ob),nX [] l
 |[]=>trivial
 |_::r=>⟨trivial,OM r⟩
theorem abS{dst:Option Nat}{fv:Operand}{args:Array Operand}{at':Array TypeId}{ty:TypeId}{pos:String}{af:Array Edge}{g:Option (Nat×Bool)}
  (L:List Lz) (hL:qx s L) (d:Nat) (hd:d∉s.used) {f:FuncId} {aR:List AV} {ds:List D} {Q0:AV->List (Name×Ob)->Prop} (hc:bA P cf.G f (ds.map .d) [] [] Q0) (ot:∀r ae,Q0 r ae->r.flat=true∧gX ae=true)
  (bd:ev (s.mb L) fv=.aW f aR) (dC:args.toList.map (ev (s.mb L))++aR=ds.map .d) (dD:∀t∈dst,t<cf.n∧t=d) (hk:∀r ae,Q0 r ae->run P cf k Q (Cy s id d dst [] ae r)) :
  fS P cf { dst:=dst,op:=.call { callee:=.value fv,args:=args,argTypes:=at' },type:=ty,pos:=pos,after:=af,guard:=g } s k Q:=by
 intro B hB gm β a w ak h Q';refine⟨fun _ _=>trivial,?_⟩;have h':=(DP L s h hL).rA;rw[<-DE]at bd;rw[show args.toList.map (ev (s.mb L))=args.toList.map (ev (s.mb L).rA)from aiQ fun y _=>(DE _ y).symm]at dC;obtain⟨s',bc⟩:∃s',s'=(s.mb L).rA:=⟨_,rfl⟩
 have bH:∀p,s'.hp p=none:=fun p=>by rw[bc];rfl
 rw[<-bc]at h' bd dC;have hf:=h'.ev fv;rw[bd]at hf;generalize k9:a.eval fv=xZ at hf
 cases hf with
 |aW _ cvs _ hcs jV =>
 have aK:∀vs,vs=(args.toList.map a.eval).toArray++cvs->(execOp a.eval { dst:=dst,op:=.call { callee:=.value fv,args:=args,argTypes:=at' },type:=ty,pos:=pos,after:=af,guard:=g }).run P w=.ok (.enter f vs) w:=by
  intro vs eJ
  have e:(execOp a.eval { dst:=dst,op:=.call { callee:=.value fv,args:=args,argTypes:=at' },type:=ty,pos:=pos,after:=af,guard:=g }:Sem Next)=callFunc f (#[]++args.map a.eval++cvs):=by
   show(do let d <-(Deferred.ofValue (a.eval fv) (args.map a.eval));invoke d.target d.args:Sem Next)=_;rw[k9];rfl
  rw[e,<-hc.1 vs w,eJ];congr 2;apply akj;simp
 rw[Oper.semAt_eq _ _ _ (by simp),aK _ rfl,Oper.uponIn_enter];refine⟨fun nY=>by simp[vO]at nY,?_⟩
 have hlen:(ds.map AV.d).length=args.size+aR.length:=by
  have:=congrArg List.length dC;simpa using this.symm
 have eJ:((args.toList.map a.eval).toArray++cvs).size=(ds.map AV.d).length:=by simp[hcs]at hlen ⊢;omega
 have hv:∀(i:Nat) x,(ds.map AV.d)[i]?=some x->VR w.heap (s'.own B.A β) s'.used s'.hp β (((args.toList.map a.eval).toArray++cvs).getD i undef) (x.ren id):=by
  intro i x hi;rw[AV.lX id (fun _=>rfl)];have hx:=hi;rw[<-dC]at hx;by_cases hlt:i<args.size
  .have aV:(args.toList.map (ev s'))[i]?=some x:=by rw[<-hx,aih (by simpa using hlt)]
   have:=xY h' args.toList i _ aV;rw[show((args.toList.map a.eval).toArray++cvs).getD i undef=(args.toList.map a.eval).toArray.getD i undef by simp[ahY,aiN,hlt]];exact this
  .have aV:aR[i-args.size]?=some x:=by rw[<-hx,aim (by simpa using aju hlt)];simp
   have:=jV _ _ aV;rw[show((args.toList.map a.eval).toArray++cvs).getD i undef=cvs.getD (i-args.size) undef by simp[ahY,aiN,hlt]];exact this
 have nZ:=HE (P:=P) h h' (fun p o ho=>by rw[bH p]at ho;cases ho) (σ:=id) (d:=d) hd (chp:=[]) (cu:=[]) trivial trivial (zW _ _) eJ hv (by rw[hB.2.2];exact hc) ot;have qe:CallsIn (Fw cf.ro) (0-1) P f ((args.toList.map a.eval).toArray++cvs) w _:=nZ;refine qe.mono ?_;rintro e w' ⟨v,rfl,r,ae,hQ,hl⟩;obtain⟨β2,br,mA⟩:=hl (OM ae);refine⟨by cases dst<;>exact ak,Cy s id d dst [] ae r,β2,eT (hk r ae hQ),?_⟩
 cases dst with
 |none=>exact br
 |some t =>
   obtain⟨ht,rfl⟩:=dD t rfl;exact br.put (by rw[hB.1];exact ht) mA
theorem eM(E:bB P cf Q){d:Nat}{fv:Operand}{args:Array Operand}{at':Array TypeId}{ty:TypeId}{pos:String}{af:Array Edge}
  (L:List Lz) {f:FuncId} {aR:List AV} (ds:List D) {Q0:AV->List (Name×Ob)->Prop} (hc:bA P cf.G f (ds.map .d) [] [] Q0) (ot:∀r ae,Q0 r ae->r.flat=true∧gX ae=true) (hL:qx s L)
  (bd:ev (s.mb L) fv=.aW f aR) (dC:args.toList.map (ev (s.mb L))++aR=ds.map .d) (hd:d<cf.n∧d∉s.used) (hk:∀r ae,Q0 r ae->E.run k (ja s id d [] ae r)) :
  E.aX { dst:=some d,op:=.call { callee:=.value fv,args:=args,argTypes:=at' },type:=ty,pos:=pos,after:=af,guard:=none } s k .no:=by
 rw[gx];refine abS L hL d hd.2 hc ot bd dC (fun t ht=>?_) fun r ae hr=>by rw[<-E.run_eq];exact hk r ae hr
 obtain rfl:=ais ht;exact⟨hd.1,rfl⟩
attribute [go_sem] abM abN abO abP abQ OI OJ OL yB AV.one
end
end Go.Ab

namespace Go.Proofs.YtpmniabdmbmafaaGreatDoor
open Go.Ab Tryz
theorem OO:(prog.ti 3).z=some [i64 0]:=by rw[Ar]
theorem OP{l:List Int}{p:Int->Bool}{i:Nat}(h:(l.take i).any p=false):∀x∈l.take i,p x=false:=fun x hx=>by simpa using ai6.1 h x hx
structure oA(l:List Int)(p:Int->Bool)(i j:Nat)(zs:List D):Prop where
 le:j<=l.length
 len:zs.length=l.length
 i':((l.take j).filter fun x=>!p x).length=i
 tk:zs.take i=((l.take j).filter fun x=>!p x).map i64
 dr:zs.drop j=(l.drop j).map i64
theorem oA.ij{l:List Int}{p:Int->Bool}{i j:Nat}{zs:List D}(h:oA l p i j zs):i<=j:=by
 have h1:=aiF (fun x=>!p x) (l.take j);rw[h.i',air]at h1;omega
theorem oA.get{l:List Int}{p:Int->Bool}{i j:Nat}{zs:List D}(h:oA l p i j zs)(hj:j<l.length):zs.getD j .aY=i64 l[j]:=by
 have:=congrArg (fun L:List D=>L.getD 0 .aY) h.dr;simp only[ahX,aiU,aii,Nat.add_zero,aib hj]at this ⊢;exact this
theorem oA.skip{l:List Int}{p:Int->Bool}{i j:Nat}{zs:List D}(h:oA l p i j zs)(hj:j<l.length)(hp:p l[j]=true):oA l p i (j+1) zs:=by
 have e:(l.take (j+1)).filter (fun x=>!p x)=(l.take j).filter fun x=>!p x:=by
  rw[ah5 hj,akg];simp[hp]
 refine⟨hj,h.len,by rw[e];exact h.i',by rw[e];exact h.tk,?_⟩;have:=congrArg (List.drop 1) h.dr;rw[aj7,<-ajC,aj7]at this;exact this
theorem oA.keep{l:List Int}{p:Int->Bool}{i j:Nat}{zs:List D}(h:oA l p i j zs)(hj:j<l.length)(hp:p l[j]=false):oA l p (i+1) (j+1) (zs.set i (i64 l[j])):=by
 have dW:=h.ij
 have e:(l.take (j+1)).filter (fun x=>!p x)=((l.take j).filter fun x=>!p x)++[l[j]]:=by
  rw[ah5 hj,akg];simp[hp]
 have hlen:=h.len;refine⟨hj,by simpa using h.len,by rw[e];simp[h.i'],?_,?_⟩
 .rw[e,ail,<-h.tk];apply aiY;intro n;by_cases c:n<i
  .rw[aje (by omega),aiy (by omega),aih (by rw[air];omega),aje c]
  .by_cases c2:n=i
   .subst c2;rw[aje (by omega),aiC (by omega),aim (by rw[air];omega),air,aj0 (by omega)];simp
   .rw[aiE (by rw[air];omega),aiE (by simp;omega)]
 .have:=congrArg (List.drop 1) h.dr;rw[aj7,<-ajC,aj7]at this;rw[List.drop_set_of_lt (by omega)];exact this
theorem OQ{l:List D}{i:Nat}{n:Int}(h:dG l=true):dG (l.set i (i64 n))=true:=by
 induction l generalizing i with
 |nil=>rfl
 |cons x r ih =>
   simp only[dG,aia]at h
   cases i with
   |zero=>simp[dG,D.flat,i64,h.2]
   |succ i=>simp[dG,h.1,ih h.2]
theorem rD(l:List Int):dG (l.map i64)=true:=by
 induction l with
 |nil=>rfl
 |cons x r ih=>simp[dG,D.flat,i64,ih]
theorem OT{a b:List D}(ha:dG a=true)(hb:dG b=true):dG (a++b)=true:=by
 induction a with
 |nil=>exact hb
 |cons x r ih =>
   simp only[dG,aia]at ha;simp[dG,ha.1,ih ha.2]
theorem abT{l:List D}(h:dG l=true)(n:Nat):dG (l.take n)=true:=by
 induction l generalizing n with
 |nil=>simp[dG]
 |cons x r ih =>
   simp only[dG,aia]at h
   cases n with
   |zero=>rfl
   |succ n=>simp[dG,h.1,ih h.2]
theorem abU{l:List D}(h:dG l=true)(n:Nat):dG (l.drop n)=true:=by
 induction l generalizing n with
 |nil=>simp[dG]
 |cons x r ih =>
   cases n with
   |zero=>exact h
   |succ n =>
     simp only[dG,aia]at h;simpa using ih h.2 n
theorem abV(n:Nat)(z:Int):dG (List.replicate n (i64 z))=true:=by
 induction n with
 |zero=>rfl
 |succ n ih=>simp[List.replicate_succ,dG,D.flat,i64,ih]
theorem OU{l:List D}(h:dG l=true)(o n:Nat)(z:Int):dG (kI l o n (i64 z))=true:=OT (abT h _) (OT (abV _ _) (abU h _))
theorem OV{zs:List D}{o n:Nat}{z:D}(h:o<=zs.length):(kI zs o n z).take o=zs.take o:=by
 unfold kI;rw[aj3 (by rw[air];omega),List.take_take,Nat.min_self]
theorem abW{l:List Int}{p:Int->Bool}{j:Nat}(hj:j<=l.length)(h:∀x∈l.take j,p x=false):oA l p j j (l.map i64):=by
 have e:(l.take j).filter (fun x=>!p x)=l.take j:=List.filter_eq_self.2 fun x hx=>by simp[h x hx]
 exact⟨hj,by simp,by rw[e];simp;omega,by rw[e,ajN],by rw[ajC]⟩
def Idx(l:List Int)(p:Int->Bool)(z:Int):Prop:=(z = -1∧l.any p=false)∨∃i,∃h:i<l.length,z=(i:Int)∧p l[i]=true∧(l.take i).any p=false
theorem abX{G}(l:List Int)(p:Int->Bool)(f:Nat)(aR:List D)(hl:l.length<=1000000)(hc:∀x∈l,HP prog G f (i64 x::aR) (fun r=>r=.d (.bool (p x)))) :
  HP prog G 105 [aL l,.aW f aR] (fun r=>∃z:Int,r=.d (i64 z)∧Idx l p z):=by
 unfold aL;have eS:∀{i:Nat} (h:i<l.length),(l.map i64).getD i .aY=i64 l[i]:=fun h=>dF h;refine cJ func105 rfl (by decide +kernel) (by simp[ntmps105]) (aT fun E=>?_);simp only[go_sem];refine rh E (X:={ i:Nat // i<=l.length∧(l.take i).any p=false }) (fun x=>[(0,.d (.sl none (l.map i64))),(1,.d (.aW f aR)),(6,.d (.sl none (l.map i64))),(7,.d (i64 l.length)),(8,.d (i64 x.1))]) (fun x=>l.length-x.1) rfl ⟨0,aie _,by simp⟩ ?_ ?_
 .simp only[go_sem]
  all_goals rfl
 rintro⟨i,hi,eL⟩ E';simp only[go_sem];refine aH E' ?_ ?_<;>intro h1<;>simp only[go_sem]
 .have cw:i<l.length:=by omega
  refine⟨by omega,?_⟩;rw[eS cw];simp only[go_sem];refine Da E' (hc l[i] (ah2 cw)) rfl rfl (by simp) ?_;rintro _ rfl;simp only[go_sem];refine cK E' ?_ ?_<;>intro h2<;>simp only[go_sem]
  .exact⟨_,rfl,.inr ⟨i,cw,rfl,h2,eL⟩⟩
  .refine⟨⟨i+1,by omega,HC cw eL h2⟩,by show l.length-(i+1)<_;omega,?_⟩;rw[aD ⟨by omega,by omega⟩];rfl
 .have h3:i=l.length:=by omega
  subst h3;rw[aij]at eL;exact⟨_,rfl,.inl ⟨rfl,eL⟩⟩
theorem abY{G}(l:List Int)(p:Int->Bool)(f:Nat)(aR:List D)(hl:l.length<=1000000)(hc:∀x∈l,HP prog G f (i64 x::aR) (fun r=>r=.d (.bool (p x)))) :
  bA prog G 61 [.vw [0] 0 l.length,.d (.aW f aR)] [([0],.arr none (l.map i64))] [0] (fun r ae=>∃zs,r=.vw [0] 0 (l.filter fun x=>!p x).length∧ae=[([0],.arr none zs)]∧zs.take (l.filter fun x=>!p x).length=(l.filter fun x=>!p x).map i64∧dG zs=true∧zs.length=l.length):=by
 have c1:=abX (G:=G) l p f aR hl hc;unfold aL at c1;refine eV func61 rfl (by decide +kernel) (by simp[ntmps61]) (aT fun E=>?_);simp only[go_sem];refine abl E [.A [0] none (l.map i64)] c1 (fun r ⟨z,h,_⟩=>by rw[h];rfl) (by simp only[go_sem]) rfl (by simp only[go_sem]) (by simp) ?_;rintro _ ⟨z,rfl,hz⟩;simp only[go_sem];obtain⟨rfl,bH⟩|⟨i0,q6,rfl,yC,eL⟩:=hz
 .have hf:l.filter (fun x=>!p x)=l:=List.filter_eq_self.2 fun x hx=>by
   have:=ai6.1 bH x hx;simpa using this
  simp only[go_sem];refine⟨.vw [0] 0 l.length,[([0],.arr none (l.map i64))],[0],id,⟨l.map i64,by rw[hf],rfl,by rw[hf,aic (by simp)],rD l,by simp⟩,?_⟩;simp only[go_sem]
 .have rv:oA l p i0 (i0+1) (l.map i64):=(abW (Nat.le_of_lt q6) (OP eL)).skip q6 yC;refine aH E (fun h=>absurd h (by omega)) (fun _=>?_);simp only[go_sem];rw[aD ⟨by omega,by omega⟩]
  refine bK E (X:={ x:(Nat×Nat)×List D // oA l p x.1.1 x.1.2 x.2∧dG x.2=true }) (fun x=>[(0,.vw [0] 0 l.length),(1,.d (.aW f aR)),(5,.d (i64 x.1.1.1)),(6,.d (i64 x.1.1.2))])
   (fun x=>[([0],.arr none x.1.2)]) [0] (fun x=>l.length-x.1.1.2) ⟨((i0,i0+1),l.map i64),rv,rD l⟩ id ?_ ?_
  .simp only[go_sem]
   all_goals first|rfl|(and_intros<;>first|rfl|trivial)
  rintro⟨⟨⟨i,j⟩,zs⟩,hd,cT⟩ E0;refine bW E0 fun Q' hQ E'=>?_;simp only at hd cT ⊢;have dW:=hd.ij;have fU:=hd.le;have qa:=hd.len;simp only[go_sem];refine aH E' ?_ ?_<;>intro h1<;>simp only[go_sem]
  .have hj:j<l.length:=by omega
   refine⟨by omega,?_⟩;rw[hd.get hj];simp only[go_sem];refine Da E' (hc l[j] (ah2 hj)) rfl rfl (by simp) ?_;rintro _ rfl;simp only[go_sem]
   cases OW:p l[j]with
   |true =>
     simp only[go_sem];rw[hQ];simp only[go_sem];refine⟨⟨((i,j+1),zs),hd.skip hj OW,cT⟩,by show l.length-(j+1)<l.length-j;omega,id,?_⟩;simp only[go_sem];rw[aD ⟨by omega,by omega⟩]
     and_intros<;>first|rfl|trivial
   |false =>
     simp only[go_sem];refine⟨by omega,?_⟩;rw[hQ];simp only[go_sem];refine⟨⟨((i+1,j+1),zs.set i (i64 l[j])),hd.keep hj OW,OQ cT⟩,by show l.length-(j+1)<l.length-j;omega,id,?_⟩;simp only[go_sem];rw[aD ⟨by omega,by omega⟩,aD ⟨by omega,by omega⟩]
     and_intros<;>first|rfl|trivial
  .have mF:j=l.length:=by omega
   subst mF;have hi:=hd.i';have sS:=hd.tk;rw[aij]at hi sS;rw[hQ];simp only[go_sem];refine⟨by omega,?_⟩;refine Oz E (i64 0) (by rw[kF]) OO rfl rfl ?_;simp only[go_sem];refine⟨⟨by omega,by omega⟩,.vw [0] 0 i,[([0],.arr none (kI zs i (l.length-i) (i64 0)))],[0],id,⟨kI zs i (l.length-i) (i64 0),by rw[hi],rfl,by rw[hi,OV (by omega),sS],OU cT _ _ _,by rw[DN (by omega)];exact qa⟩,?_⟩;simp only[go_sem];rfl
def eG:List Int->List Int
 |[]=>[]
 |[x]=>[x]
 |x::y::r=>if x=y then eG (y::r)else x::eG (y::r)
theorem OX:∀(a:List Int) (x y:Int),eG (a++[x,y])=if x=y then eG (a++[x])else eG (a++[x])++[y]
 |[],x,y=>by
   simp only[List.nil_append,eG];split
   .rename_i e;rw[e]
   .rfl
 |[z],x,y=>by
   simp only[List.cons_append,List.nil_append,eG];by_cases e1:z=x<;>by_cases e2:x=y<;>simp[e1,e2]
 |z::w::a,x,y=>by
   have ih:=OX (w::a) x y;simp only[List.cons_append]at ih ⊢;rw[eG,ih,eG];by_cases e:z=w
   .rw[if_pos e,if_pos e]
   .rw[if_neg e,if_neg e];split<;>rfl
theorem Ij{l:List Int}{m:Nat}(hm:m<l.length)(h0:0<m):eG (l.take (m+1))=if l[m]=l[m-1]then eG (l.take m)else eG (l.take m)++[l[m]]:=by
 obtain⟨k,rfl⟩:∃k,m=k+1:=⟨m-1,by omega⟩
 have e1:l.take (k+1+1)=l.take k++[l[k],l[k+1]]:=by
  rw[ah5 hm,ah5 (show k<l.length by omega),aiS];rfl
 have e2:l.take (k+1)=l.take k++[l[k]]:=ah5 (by omega);rw[e1,e2,OX];show(if l[k]=l[k+1]then _ else _)=if l[k+1]=l[k]then _ else _
 by_cases e:l[k]=l[k+1]
 .rw[if_pos e,if_pos e.symm]
 .rw[if_neg e,if_neg fun h=>e h.symm]
theorem DQ:∀{l:List Int},(∀m,∀h:m+1<l.length,l[m+1]≠l[m])->eG l=l
 |[],_=>rfl
 |[_],_=>rfl
 |x::y::r,h=>by
   rw[eG,if_neg (fun e=>h 0 (by simp) e.symm),DQ (l:=y::r) fun m hm=>h (m+1) (by simpa using hm)]
structure pg(l:List Int)(i m:Nat)(zs:List D):Prop where
 le:m<=l.length
 m0:0<m
 im:i<m
 len:zs.length=l.length
 i':(eG (l.take m)).length=i
 tk:zs.take i=(eG (l.take m)).map i64
 dr:zs.drop (m-1)=(l.drop (m-1)).map i64
theorem pg.get{l:List Int}{i m:Nat}{zs:List D}(h:pg l i m zs){j:Nat}(hj:j<l.length)(hm:m-1<=j):zs.getD j .aY=i64 l[j]:=by
 have:=congrArg (fun L:List D=>L.getD (j-(m-1)) .aY) h.dr;simp only[ahX,aiU,aii,show m-1+(j-(m-1))=j by omega,aib hj]at this ⊢;exact this
theorem pg.OY{l:List Int}{i m:Nat}{zs:List D}(h:pg l i m zs):zs.drop m=(l.drop m).map i64:=by
 have:=congrArg (List.drop 1) h.dr;have h0:=h.m0;rw[aj7,<-ajC,aj7,show m-1+1=m by omega]at this;exact this
theorem pg.skip{l:List Int}{i m:Nat}{zs:List D}(h:pg l i m zs)(hm:m<l.length)(he:l[m]=l[m-1]):pg l i (m+1) zs:=by
 have e:eG (l.take (m+1))=eG (l.take m):=by rw[Ij hm h.m0,if_pos he]
 exact⟨hm,by omega,by have:=h.im;omega,h.len,by rw[e];exact h.i',by rw[e];exact h.tk,h.OY⟩
theorem pg.keep{l:List Int}{i m:Nat}{zs:List D}(h:pg l i m zs)(hm:m<l.length)(he:¬l[m]=l[m-1]):pg l (i+1) (m+1) (zs.set i (i64 l[m])):=by
 have e:eG (l.take (m+1))=eG (l.take m)++[l[m]]:=by rw[Ij hm h.m0,if_neg he]
 have him:=h.im;have hlen:=h.len;refine⟨hm,by omega,by omega,by simpa using h.len,by rw[e];simp[h.i'],?_,?_⟩
 .rw[e,ail,<-h.tk];apply aiY;intro n;by_cases c:n<i
  .rw[aje (by omega),aiy (by omega),aih (by rw[air];omega),aje c]
  .by_cases c2:n=i
   .subst c2;rw[aje (by omega),aiC (by omega),aim (by rw[air];omega),air,aj0 (by omega)];simp
   .rw[aiE (by rw[air];omega),aiE (by simp;omega)]
 .rw[show m+1-1=m by omega,List.drop_set_of_lt (by omega)];exact h.OY
theorem abZ{l:List Int}{i:Nat}(hi:i<l.length)(h0:0<i)(hn:∀m,∀h:m+1<i,l[m+1]≠l[m])(he:l[i]=l[i-1]):pg l i (i+1) (l.map i64):=by
 have e1:eG (l.take i)=l.take i:=DQ fun m hm=>by
  rw[air]at hm;rw[aj4,aj4];exact hn m (by omega)
 have e:eG (l.take (i+1))=l.take i:=by rw[Ij hi h0,if_pos he,e1]
 exact⟨hi,by omega,by omega,by simp,by rw[e];simp;omega,by rw[e,ajN],by rw[ajC]⟩
theorem OZ{G}(l:List Int)(hl:l.length<=1000000) :
  bA prog G 45 [.vw [0] 0 l.length] [([0],.arr none (l.map i64))] [0] (fun r ae=>∃zs,r=.vw [0] 0 (eG l).length∧ae=[([0],.arr none zs)]∧zs.take (eG l).length=(eG l).map i64∧dG zs=true∧zs.length=l.length):=by
 have hg:∀{j:Nat} (h:j<l.length),(l.map i64).getD j .aY=i64 l[j]:=fun h=>dF h;refine eV func45 rfl (by decide +kernel) (by simp[ntmps45]) (aT fun E=>?_);simp only[go_sem];refine aH E ?_ ?_<;>intro h2<;>simp only[go_sem]
 .have hf:eG l=l:=DQ fun m hm=>by omega
  refine⟨.vw [0] 0 l.length,[([0],.arr none (l.map i64))],[0],id,⟨l.map i64,by rw[hf],rfl,by rw[hf,aic (by simp)],rD l,by simp⟩,?_⟩;simp only[go_sem]
 refine bK E (X:={ i:Nat // 1<=i∧i<=l.length∧∀m,∀h:m+1<l.length,m+1<i->l[m+1]≠l[m] }) (fun x=>[(0,.vw [0] 0 l.length),(3,.d (i64 x.1))])
  (fun x=>[([0],.arr none (l.map i64))]) [0] (fun x=>l.length-x.1) ⟨1,ain _,by omega,fun m _ h=>by omega⟩ id ?_ ?_
 .simp only[go_sem]
  all_goals first|rfl|(and_intros<;>first|rfl|trivial)
 rintro⟨i,DR,hi,bH⟩ E0;refine bW E0 fun Q' hQ E'=>?_;simp only at DR hi bH ⊢;simp only[go_sem];refine aH E' ?_ ?_<;>intro h1<;>simp only[go_sem]
 .have bR:i<l.length:=by omega
  refine bF mixed E' fun X=>?_;simp only[go_sem];refine⟨by omega,?_⟩;rw[hg bR];simp only[go_sem];rw[aD ⟨by omega,by omega⟩];refine⟨by omega,?_⟩;rw[show((i:Int)-1).toNat=i-1 by omega,hg (show i-1<l.length by omega)];simp only[go_sem];(try refine⟨by decide +kernel,?_⟩);refine aH E' ?_ ?_<;>intro h3<;>simp only[go_sem]
  .refine⟨by omega,?_⟩
   refine bK E' (X:={ x:(Nat×Nat)×List D // pg l x.1.1 x.1.2 x.2∧dG x.2=true∧i<x.1.2 }) (fun x=>[(0,.vw [0] 0 l.length),(3,.d (i64 x.1.1.1)),(4,.vw [0] i (l.length-i)),(5,.d (i64 (x.1.1.2-i:Nat)))])
    (fun x=>[([0],.arr none x.1.2)]) [0] (fun x=>l.length-x.1.1.2) ⟨((i,i+1),l.map i64),abZ bR DR (fun m hm=>bH m (Nat.lt_trans hm bR) hm) h3,rD l,akq i⟩ id ?_ ?_
   .simp only[go_sem];rw[show i+1-i=1 by omega];rfl
   rintro⟨⟨⟨q,m⟩,zs⟩,hd,cT,oB⟩ E1;refine bW E1 fun Q1 Ik E2=>?_;simp only at hd cT oB ⊢;have him:=hd.im;have hle:=hd.le;have qa:=hd.len;simp only[go_sem];refine aH E2 ?_ ?_<;>intro h4<;>simp only[go_sem]
   .have mW:m<l.length:=by omega
    refine bF mixed E2 fun X=>?_;simp only[go_sem];refine⟨by omega,?_⟩;rw[show i+(m-i)=m by omega,hd.get mW (by omega)];simp only[go_sem];rw[show((m-i:Nat):Int)-1=((m-1-i:Nat):Int) by omega,aD ⟨by omega,by omega⟩];refine⟨by omega,?_⟩;rw[Int.toNat_natCast,show i+(m-1-i)=m-1 by omega,hd.get (show m-1<l.length by omega) (by omega)];simp only[go_sem];(try refine⟨by decide +kernel,?_⟩);refine aH E2 ?_ ?_<;>intro h5<;>simp only[go_sem]
    .refine⟨by omega,?_⟩;rw[show i+(m-i)=m by omega,hd.get mW (by omega)];simp only[go_sem];refine⟨by omega,?_⟩;rw[Ik];simp only[go_sem];refine⟨⟨((q+1,m+1),zs.set q (i64 l[m])),hd.keep mW h5,OQ cT,Nat.lt_succ_of_lt oB⟩,by show l.length-(m+1)<l.length-m;omega,id,?_⟩;simp only[go_sem];rw[aD ⟨by omega,by omega⟩,aD ⟨by omega,by omega⟩,show((m-i:Nat):Int)+1=((m+1-i:Nat):Int) by omega]
     and_intros<;>first|rfl|trivial
    .rw[Ik];simp only[go_sem];refine⟨⟨((q,m+1),zs),hd.skip mW (by simpa using h5),cT,Nat.lt_succ_of_lt oB⟩,by show l.length-(m+1)<l.length-m;omega,id,?_⟩;simp only[go_sem];rw[aD ⟨by omega,by omega⟩,show((m-i:Nat):Int)+1=((m+1-i:Nat):Int) by omega]
   .have hme:m=l.length:=by omega
    subst hme;have hq:=hd.i';have sS:=hd.tk;rw[aij]at hq sS;rw[Ik];simp only[go_sem];refine⟨by omega,?_⟩;refine Oz E' (i64 0) (by rw[kF]) OO rfl rfl ?_;simp only[go_sem];refine⟨by omega,?_⟩;rw[hQ];simp only[go_sem];refine⟨.vw [0] 0 q,[([0],.arr none (kI zs q (l.length-q) (i64 0)))],[0],id,⟨kI zs q (l.length-q) (i64 0),by rw[hq],rfl,by rw[hq,OV (by omega),sS],OU cT _ _ _,by rw[DN (by omega)];exact qa⟩,?_⟩;simp only[go_sem];rfl
  .rw[hQ];simp only[go_sem];refine⟨⟨i+1,by omega,by omega,fun m hm DS=>?_⟩,by show l.length-(i+1)<l.length-i;omega,id,?_⟩
   .by_cases e:m+1=i
    .subst e;intro e2;exact h3 e2
    .exact bH m hm (by omega)
   .simp only[go_sem];rw[aD ⟨by omega,by omega⟩]
    and_intros<;>first|rfl|trivial
 .have hiN:i=l.length:=by omega
  subst hiN;rw[hQ];simp only[go_sem];have hf:eG l=l:=DQ fun m hm=>bH m hm hm;refine⟨.vw [0] 0 l.length,[([0],.arr none (l.map i64))],[0],id,⟨l.map i64,by rw[hf],rfl,by rw[hf,aic (by simp)],rD l,by simp⟩,?_⟩;simp only[go_sem]
end Go.Proofs.YtpmniabdmbmafaaGreatDoor

namespace Go.Proofs.YtpmniabdmbmafaaGreatDoor
open Go.Ab Tryz
def cO(ns:List TN)(root:Int)(C:List Int):List (Name×Ob):=[([3],.box [.vw [9] 0 ns.length]),([9],.arr none (C.map i64)),([4],.box [.aW 73 [.d (.ptr (.agg [.sl (some 4) (ns.map aw),i64 root])),.bx [3] 0,.bx [4] 0]])]
theorem O1{C:List Int}{i:Nat}(h:i<C.length):(C.map i64).getD i .aY=i64 (C.getD i 0):=by simp[h]
def DT(ns:List TN):Prop:=∀i,i<ns.length->eA (nd ns i).k=true->(0<=(nd ns i).a∧(nd ns i).a<ns.length)∧(0<=(nd ns i).b∧(nd ns i).b<ns.length)
theorem O2{k:Int}(h:eA k=true):oq k=true:=by
 simp only[eA,aiL]at h;rcases h with h|h<;>simp[oq,h]
theorem ab0{G}(ns:List TN)(root:Int)(_hN:ns.length<=2000)(cT:∀n∈ns,n.l.length<=1000000)(hk:DT ns):∀(m:Nat) (C:List Int) (i:Nat),ll C<m->sL ns C->i<ns.length->(∀j,C.getD j 0=1->lj ns j i) ->
  bA prog G 73 [.d (i64 i),.d (.ptr (.agg [.sl (some 4) (ns.map aw),i64 root])),.bx [3] 0,.bx [4] 0] (cO ns root C) [3,9,4] (fun r ae=>∃b C',r=.d (.bool b)∧ae=cO ns root C'∧ZU ns C i b C'):=by
 intro m
 induction m with
 |zero=>intro C i hw;omega
 |succ m ih =>
 intro C i hw hC hi hg;refine eV func73 rfl (by decide +kernel) (by simp[ntmps73]) (aT fun E=>?_);unfold cO;simp only[go_sem];refine⟨by omega,?_⟩;rw[uP hi];simp only[go_sem];refine bj E (ZH (nd ns i).k) rfl rfl (by simp) ?_;rintro _ rfl;simp only[go_sem]
 repeat (first
  |(apply gC E;(· simp only[go_sem]);(· intro h;(try simp only[bq]at h);simp only[↓h,go_sem];rfl);simp only[go_sem]))
 have yD:i<C.length:=by rw[hC.len];exact hi
 apply gC E
 .simp only[go_sem]
 .intro h
  (try simp only[bq]at h)
  simp only[↓h,go_sem];exact⟨⟨by omega,by omega⟩,rfl⟩
 simp only[go_sem];apply gC E
 .simp only[go_sem]
 .intro h
  (try simp only[bq]at h)
  simp only[↓h,go_sem];rw[O1 yD];simp only[↓h,go_sem];rfl
 simp only[go_sem]
 repeat (first
  |(apply gC E;(· simp only[go_sem]);(· intro h;(try simp only[bq]at h);simp only[↓h,go_sem];rfl);simp only[go_sem])
  |(apply iu E;(· decide);simp only[go_sem]))
 refine cK E ?_ ?_<;>intro h1<;>simp only[go_sem]
 .refine⟨_,cO ns root C,[3,9,4],id,⟨true,C,rfl,rfl,hC.len,fun _=>⟨hC,?_,fun _=>Iff.rfl,ain _⟩,fun h=>by cases h⟩,?_⟩
  .cases hL:eA (nd ns i).k with
   |false=>exact .flat hL
   |true =>
     rw[hL]at h1;exact hC.black i (by simpa using h1)
  .unfold cO;simp only[go_sem]
 simp only[ai5,aj1,decide_eq_false_iff_not]at h1;obtain⟨hL,h2⟩:=h1;refine⟨by omega,?_⟩;rw[O1 yD];simp only[go_sem];refine aH E ?_ ?_<;>intro h3<;>simp only[go_sem]
 .refine⟨_,cO ns root C,[3,9,4],id,⟨false,C,rfl,rfl,hC.len,fun h=>(by cases h),fun _=>⟨i,hg i h3,hi⟩⟩,?_⟩;unfold cO;simp only[go_sem]
 have h0:C.getD i 0=0:=by
  rcases hC.val i with h|h|h
  .exact h
  .exact absurd h h3
  .exact absurd h h2
 have jL:ll (C.set i 1)<ll C:=ZT (by decide) C i (by simpa[ahX,yD]using h0);have hC1:sL ns (C.set i 1):=hC.set yD (.inl rfl);refine⟨⟨by omega,by omega⟩,⟨by omega,by omega⟩,?_⟩;rw[uP hi];simp only[go_sem];have de:nd ns i∈ns:=by rw[qs hi];exact ah2 hi
 refine bj E (Dm (nd ns i) (cT _ de)) rfl rfl (by simp) ?_;rintro _ rfl;simp only[go_sem];obtain⟨K,hK⟩:∃K,K=ch (nd ns i):=⟨_,rfl⟩
 have Bb:K=[(nd ns i).a,(nd ns i).b]:=by rw[hK,ch,O2 hL,if_pos rfl]
 obtain⟨rp,qy⟩:=hk i hi hL
 have hKr:∀x∈K,(0<=x∧x<ns.length)∧AO ns i x.toNat:=by
  intro x hx;rw[Bb]at hx;rcases ah6.1 hx with rfl|hx
  .exact⟨rp,hL,.inl rfl⟩
  .rw[ahZ.1 hx];exact⟨qy,hL,.inr rfl⟩
 have hKe:(∀x∈K,Ends ns x.toNat)->Ends ns i:=fun h=>.both (h _ (by rw[Bb];simp)) (h _ (by rw[Bb];simp));have hKl:K.length<=2:=by rw[Bb];simp
 rw[<-hK];clear hK Bb;have DU:(C.map i64).set i (D.int IntKind.i64 1)=(C.set i 1).map i64:=by rw[ajv]
 rw[DU];unfold aL;simp only[go_sem]
 refine Aj E (X:={ x:Nat×List Int // x.1<=K.length∧sL ns x.2∧(∀j,x.2.getD j 0=1↔(C.set i 1).getD j 0=1)∧ll x.2<=ll (C.set i 1)∧∀k∈K.take x.1,Ends ns k.toNat })
  (fun x=>[(0,.d (i64 i)),(1,.d (.ptr (.agg [.sl (some 4) (ns.map aw),i64 root]))),(2,.bx [3] 0),(3,.bx [4] 0),(36,.d (.sl none (K.map i64))),(37,.d (i64 K.length)),(38,.d (i64 x.1.1))]) (fun x=>cO ns root x.1.2) [3,9,4] (fun x=>K.length-x.1.1) ⟨(0,C.set i 1),aie _,hC1,fun _=>Iff.rfl,ain _,by simp⟩ ?_ ?_
 .unfold cO;simp only[go_sem]
  all_goals rfl
 rintro⟨⟨q,C'⟩,hq,uV,nA,sw,iK⟩ E';simp only at hq uV nA sw iK ⊢;unfold cO;simp only[go_sem];refine aH E' ?_ ?_<;>intro h4<;>simp only[go_sem]
 .have oC:q<K.length:=by omega
  refine⟨by omega,?_⟩;rw[dF oC];simp only[go_sem];obtain⟨⟨Lp,gB⟩,zQ⟩:=hKr K[q] (ah2 oC);obtain⟨y,hy⟩:∃y:Nat,y=K[q].toNat:=⟨_,rfl⟩
  have DJ:K[q]=(y:Int):=by omega
  rw[<-hy]at zQ;rw[DJ];have DV:∀j,(C.set i 1).getD j 0=if j=i then 1 else C.getD j 0:=fun j=>AP yD
  have wH:∀j,C'.getD j 0=1->lj ns j y:=by
   intro j hj;have:=(nA j).1 hj;rw[DV]at this;split at this
   .rename_i e;subst e;exact .one zQ
   .exact(hg j this).snoc zQ
  refine je E' [.d (i64 y),.d (.ptr (.agg [.sl (some 4) (ns.map aw),i64 root])),.bx [3] 0,.bx [4] 0] (cO ns root C') [3,9,4] (ih C' y (by omega) uV (by omega) wH) rfl rfl ⟨by simp only[go_sem],by rw[ay];decide⟩ rfl (by unfold cO;simp only[go_sem]) (by unfold cO;simp only[go_sem]) ?_;rintro _ _ ⟨b,C2,rfl,rfl,oD,Ba,Il⟩;unfold cO;simp only[go_sem];refine⟨by simp[oD,uV.len],?_⟩;refine cK E' ?_ ?_<;>intro h5<;>simp only[go_sem]
  .have hb:b=false:=by simpa using h5
   obtain⟨j,iy,oh⟩:=Il hb;refine⟨_,cO ns root C2,[3,9,4],id,⟨false,C2,rfl,rfl,oD,fun h=>(by cases h),fun _=>⟨j,iy,oh⟩⟩,?_⟩;unfold cO;simp only[go_sem]
  .have hb:b=true:=by simpa using h5
   obtain⟨g1,g2,g3,g4⟩:=Ba hb;refine⟨⟨(q+1,C2),by show q+1<=_;omega,g1,fun j=>(g3 j).trans (nA j),aix g4 sw,?_⟩,by show K.length-(q+1)<_;omega,?_⟩
   .intro k hk;simp only at hk;rw[ah5 oC,ah1,ahZ]at hk;obtain hk|rfl:=hk
    .exact iK k hk
    .rw[<-hy];exact g2
   .unfold cO;simp only[go_sem];rw[aD ⟨by omega,by omega⟩];rfl
 .have cg:q=K.length:=by omega
  subst cg;rw[aij]at iK;have O3:=hKe iK;have Im:i<C'.length:=by rw[uV.len];exact hi
  have DV:∀j,(C.set i 1).getD j 0=if j=i then 1 else C.getD j 0:=fun j=>AP yD
  have hCi:C'.getD i 0=1:=(nA i).2 (by rw[DV,if_pos rfl])
  have hw3:ll (C'.set i 2)<=ll C':=Nk _ _ (by simp) (fun j hj=>by
   simp only[ahX,ajm]at hj ⊢;split at hj
   .rename_i e;subst e;simp[Im]at hj
   .exact hj)
  refine⟨⟨by omega,by omega⟩,_,cO ns root (C'.set i 2),[3,9,4],id,⟨true,C'.set i 2,rfl,rfl,by simp[uV.len],fun _=>⟨uV.set Im (.inr ⟨rfl,O3⟩),O3,fun j=>?_,by omega⟩,fun h=>by cases h⟩,?_⟩
  .rw[AP Im];split
   .rename_i e;subst e;exact⟨fun h=>(by cases h),fun h=>absurd h h3⟩
   .rename_i e;rw[nA j,DV,if_neg e]
  .unfold cO;simp only[go_sem];rw[ajv]
end Go.Proofs.YtpmniabdmbmafaaGreatDoor

namespace Go.Proofs.YtpmniabdmbmafaaGreatDoor
open Go.Ab Tryz
noncomputable def sU(ns:List TN):Bool:=@decide (∀i,i<ns.length->Ends ns i) (Classical.propDecidable _)
theorem O4{ns:List TN}(h:∀i,i<ns.length->Ends ns i):sU ns=true:=by unfold sU;simpa using h
theorem ab1{ns:List TN}(h:¬∀i,i<ns.length->Ends ns i):sU ns=false:=by unfold sU;simpa using h
theorem ab2(C:List Int):ll C<=C.length:=aks
theorem ab3(ns:List TN):sL ns (List.replicate ns.length 0):=by
 have h:∀j,(List.replicate ns.length (0:Int)).getD j 0=0:=fun j=>by
  simp only[ahX,ajt];split<;>rfl
 exact⟨by simp,fun j=>.inl (h j),fun j hj=>by rw[h j]at hj;cases hj⟩
theorem ab4{G}(ns:List TN)(root:Int)(hN:ns.length<=2000)(cT:∀n∈ns,n.l.length<=1000000)(hk:DT ns):HP prog G 42 [bp ns root] (fun r=>r=.d (.bool (sU ns))):=by
 unfold bp;refine cJ func42 rfl (by decide +kernel) (by simp[ntmps42]) (aT fun E=>?_);simp only[go_sem];refine⟨⟨by omega,by omega,by omega,by omega⟩,?_⟩;refine eP E [1] (.agg [.sl (some 4) (ns.map aw),i64 root]) rfl rfl ?_;simp only[go_sem];have cD:List.replicate ns.length (D.int IntKind.i64 0)=(List.replicate ns.length 0).map i64:=by rw[akD]
 rw[cD]
 refine Aj E (X:={ x:Nat×List Int // x.1<=ns.length∧sL ns x.2∧(∀j,x.2.getD j 0≠1)∧∀k,k<x.1->Ends ns k })
  (fun x=>[(4,.bx [4] 0),(13,.d (i64 ns.length)),(14,.d (i64 x.1.1))]) (fun x=>cO ns root x.1.2) [3,9,4] (fun x=>ns.length-x.1.1) ⟨(0,List.replicate ns.length 0),aie _,ab3 ns,fun j=>?_,fun k hk=>by omega⟩ ?_ ?_
 .simp only[ahX,ajt];split<;>decide
 .unfold cO;simp only[go_sem]
  all_goals rfl
 rintro⟨⟨q,C⟩,hq,hC,hg,he⟩ E';simp only at hq hC hg he ⊢;unfold cO;simp only[go_sem];refine aH E' ?_ ?_<;>intro h4<;>simp only[go_sem]
 .have oC:q<ns.length:=by omega
  refine je E' [.d (i64 q),.d (.ptr (.agg [.sl (some 4) (ns.map aw),i64 root])),.bx [3] 0,.bx [4] 0] (cO ns root C) [3,9,4] (ab0 ns root hN cT hk (ns.length+1) C q (by have:=ab2 C;rw[hC.len]at this;omega) hC oC (fun j hj=>absurd hj (hg j))) rfl rfl ⟨by simp only[go_sem],by rw[ay];decide⟩ rfl (by unfold cO;simp only[go_sem]) (by unfold cO;simp only[go_sem]) ?_;rintro _ _ ⟨b,C2,rfl,rfl,oD,Ba,Il⟩;unfold cO;simp only[go_sem];refine⟨by simp[oD,hC.len],?_⟩;refine cK E' ?_ ?_<;>intro h5<;>simp only[go_sem]
  .have hb:b=false:=by simpa using h5
   obtain⟨j,iy,oh⟩:=Il hb;rw[ab1 fun h=>(h j oh).no iy]
  .have hb:b=true:=by simpa using h5
   obtain⟨g1,g2,g3,g4⟩:=Ba hb;refine⟨⟨(q+1,C2),by show q+1<=_;omega,g1,fun j hj=>hg j ((g3 j).1 hj),fun k hk=>?_⟩,by show ns.length-(q+1)<_;omega,?_⟩
   .simp only at hk;by_cases e:k=q
    .rw[e];exact g2
    .exact he k (by omega)
   .unfold cO;simp only[go_sem];rw[aD ⟨by omega,by omega⟩];rfl
 .rw[O4 fun k hk=>he k (by omega)]
end Go.Proofs.YtpmniabdmbmafaaGreatDoor

namespace Go.Proofs.YtpmniabdmbmafaaGreatDoor
open Go.Ab Tryz
def rE(ns:List TN):Prop:=ns.length<=1000000∧∀n∈ns,n.l.length<=1000000∧∀f∈n.l,f.1.length<=9223372036854775807
def ph(ns:List TN):Bool:=!ns.any fun n=>!jf n ns.length
theorem uY{ns:List TN}(h:ph ns=true){i:Nat}(hi:i<ns.length):jf (nd ns i) ns.length=true:=by
 rw[qs hi];have h:(ns.any fun n=>!jf n ns.length)=false:=by simpa[ph]using h
 have:=ai6.1 h ns[i] (ah2 hi);simpa using this
theorem Bc{n:TN}{all:Int}(h:jf n all=true):∀x∈ch n,0<=x∧x<all:=by
 intro x hx
 have h:(ch n).any (AL all)=false:=by
  simp only[jf,aia,aiT]at h;exact h.2
 have:=ai6.1 h x hx;simp only[AL,aiL,decide_eq_true_eq,not_or]at this;omega
theorem O5{ns:List TN}(h:ph ns=true):DT ns:=by
 intro i hi hL;have h2:=Bc (uY h hi);rw[ch,O2 hL,if_pos rfl]at h2;exact⟨h2 _ (by simp),h2 _ (by simp)⟩
noncomputable def ek(ns:List TN)(root:Int):Int :=
 if(decide ((ns.length:Int)=0)||decide (2000<(ns.length:Int)))=true then 8
 else if(decide (root<0)||decide ((ns.length:Int)<=root))=true then 4
 else if(!ph ns||!sU ns)=true then 4 else 0
theorem ab5{G}(n:TN)(ns:List TN)(root:Int)(hl:n.l.length<=1000000)(hs:∀f∈n.l,f.1.length<=9223372036854775807):HP prog G 40 [aw n,.ptr (bp ns root)] (fun r=>r=.d (.bool (!jf n ns.length))):=by
 unfold bp;refine cJ func40 rfl (by decide +kernel) (by simp[ntmps40]) (aT fun E=>?_);unfold aw mC;simp only[go_sem];refine bj E (ZQ n ns.length hl hs) rfl rfl (by simp) ?_;rintro _ rfl;simp only[go_sem]
theorem Io{G}(ns:List TN)(root:Int)(hs:rE ns):HP prog G 20 [bp ns root] (fun r=>r=.d (i64 (ek ns root))):=by
 unfold bp;refine cJ func20 rfl (by decide +kernel) (by simp[ntmps20]) (aT fun E=>?_);obtain⟨nT,br⟩:=hs;simp only[go_sem]
 repeat (first
  |(apply gC E;(· simp only[go_sem]);(· intro h;(try simp only[bq]at h);simp only[↓h,go_sem];rfl);simp only[go_sem])
  |(apply iu E;(· decide);simp only[go_sem]))
 refine cK E ?_ ?_<;>intro h1<;>simp only[go_sem]
 .rw[ek,if_pos h1]
 repeat (first
  |(apply gC E;(· simp only[go_sem]);(· intro h;(try simp only[bq]at h);simp only[↓h,go_sem];rfl);simp only[go_sem])
  |(apply iu E;(· decide);simp only[go_sem]))
 refine cK E ?_ ?_<;>intro h2<;>simp only[go_sem]
 .rw[ek,if_neg (by rw[h1];decide),if_pos h2]
 refine C9 E [1] (.agg [.sl (some 4) (ns.map aw),i64 root]) rfl rfl ?_;simp only[go_sem];refine bj E (ZO ns (fun n=>!jf n ns.length) 40 [.ptr (bp ns root)] nT (fun x hx=>ab5 x ns root (br x hx).1 (br x hx).2)) rfl rfl (by simp) ?_;rintro _ rfl;simp only[go_sem]
 have hN:ns.length<=2000:=by
  simp only[ai5,decide_eq_false_iff_not]at h1;omega
 repeat (first
  |(apply gC E;(· simp only[go_sem]);(· intro h;(try simp only[bq]at h);simp only[↓h,go_sem];rfl);simp only[go_sem]))
 apply uM E
 .simp only[go_sem]
 .intro h hk;have hrt:ph ns=true:=by rw[ph,h];rfl
  refine bj E (ab4 ns root hN (fun n hn=>(br n hn).1) (O5 hrt)) rfl (by simp only[↓h,go_sem]<;>rfl) (by simp) ?_;rintro _ rfl;exact hk
 simp only[go_sem]
 repeat (first
  |(apply gC E;(· simp only[go_sem]);(· intro h;(try simp only[bq]at h);simp only[↓h,go_sem];rfl);simp only[go_sem])
  |(apply iu E;(· decide);simp only[go_sem]))
 have hr:(ns.any fun n=>!jf n ns.length)=!ph ns:=by rw[ph,Bool.not_not]
 rw[hr];refine cK E ?_ ?_<;>intro h3<;>simp only[go_sem]
 .rw[ek,if_neg (by rw[h1];decide),if_neg (by rw[h2];decide),if_pos h3]
 .rw[ek,if_neg (by rw[h1];decide),if_neg (by rw[h2];decide),if_neg (by rw[h3];decide)]
end Go.Proofs.YtpmniabdmbmafaaGreatDoor

namespace Go.Proofs.YtpmniabdmbmafaaGreatDoor
open Go.Ab
def cf(e:List Bool):Nat:=e.countP (! ·)
end Go.Proofs.YtpmniabdmbmafaaGreatDoor

namespace Go.Proofs.YtpmniabdmbmafaaGreatDoor
open Go.Ab
abbrev eQ(l:List Int):Prop:=l.Pairwise (· < ·)
theorem Ip:∀{a b:List Int},eQ a->eQ b->(∀x,x∈a↔x∈b)->a=b
 |[],[],_,_,_=>rfl
 |[],y::r,_,_,h=>absurd ((h y).2 ah0) (by simp)
 |x::r,[],_,_,h=>absurd ((h x).1 ah0) (by simp)
 |x::a,y::b,ha,hb,h=>by
   have ha':=ajs.1 ha;have fg:=ajs.1 hb
   have e:x=y:=by
    rcases ah6.1 ((h x).1 ah0)with e|hx
    .exact e
    .rcases ah6.1 ((h y).2 ah0)with e|hy
     .exact e.symm
     .have:=fg.1 x hx;have:=ha'.1 y hy;omega
   subst e;rw[Ip ha'.2 fg.2 fun z=>?_];constructor
   .intro hz;rcases ah6.1 ((h z).1 (ah8 _ hz))with e|gO
    .have:=ha'.1 z hz;omega
    .exact gO
   .intro hz;rcases ah6.1 ((h z).2 (ah8 _ hz))with e|gO
    .have:=fg.1 z hz;omega
    .exact gO
def lr(l:List Int):List Int:=l.mergeSort fun x y=>decide (x<=y)
theorem Iq(l:List Int):(lr l).Pairwise (·<=·):=by
 have:=akS (le:=fun x y:Int=>decide (x<=y)) (fun a b c h1 h2=>by simp at *;omega) (fun a b=>by simp;omega) l;exact this.imp fun h=>by simpa using h
theorem O6(l:List Int)(x:Int):x∈lr l↔x∈l:=akh
theorem uZ(l:List Int):(lr l).length=l.length:=ajR _
theorem Ir:∀{l:List Int},l.Pairwise (·<=·)->eQ (eG l)∧∀x,x∈eG l↔x∈l
 |[],_=>⟨.nil,fun _=>Iff.rfl⟩
 |[x],_=>⟨ajE _ _,fun _=>Iff.rfl⟩
 |x::y::r,h=>by
   have h':=ajs.1 h;obtain⟨i1,i2⟩:=Ir h'.2;rw[eG];by_cases e:x=y
   .rw[if_pos e];refine⟨i1,fun z=>?_⟩;rw[i2,e];simp
   .rw[if_neg e];refine⟨ajs.2 ⟨fun z hz=>?_,i1⟩,fun z=>?_⟩
    .rw[i2]at hz;have yb:=h'.1 y ah0;rcases ah6.1 hz with rfl|hz
     .omega
     .have:=h'.1 z (ah8 _ hz);have hy:=(ajs.1 h'.2).1 z hz;omega
    .rw[ah6,i2,ah6 (a:=z) (b:=x)]
def bw(l:List Int):List Int:=eG (lr l)
theorem yE(l:List Int):eQ (bw l):=(Ir (Iq l)).1
theorem rF(l:List Int)(x:Int):x∈bw l↔x∈l:=by rw[bw,(Ir (Iq l)).2,O6]
theorem O7:∀l:List Int,(eG l).length<=l.length
 |[]=>ain _
 |[_]=>ain _
 |x::y::r=>by
   have:=O7 (y::r);rw[eG];split
   .exact ajh this
   .simp only[List.length_cons]at this ⊢;omega
theorem Iu(l:List Int):(bw l).length<=l.length:=by
 have:=O7 (lr l);rw[uZ]at this;exact this
theorem Bd{l s:List Int}(h:eQ s)(hm:∀x,x∈s↔x∈l):bw l=s:=Ip (yE l) h fun x=>by rw[rF,hm]
theorem ab6{l:List Int}(h:l.Nodup):eQ (lr l):=by
 have hn:(lr l).Nodup:=(List.mergeSort_perm l _).nodup_iff.2 h;exact((Iq l).and hn).imp fun {a b} h=>by have:=h.1;have:=h.2;omega
section
variable (ns:List TN)
def aI(i:Int):Bool:=eA (nd ns i.toNat).k
inductive dH:Int->Int->Prop
 |flat {i:Int} (h:aI ns i=false):dH i i
 |left {i x:Int} (h:aI ns i=true) (t:dH (nd ns i.toNat).a x):dH i x
 |right {i x:Int} (h:aI ns i=true) (t:dH (nd ns i.toNat).b x):dH i x
def u7(l out:List Int):Prop:=eQ out∧∀x,x∈out↔∃i∈l,dH ns i x
open Classical in
noncomputable def j8(l:List Int):List Int:=if h:∃out,u7 ns l out then h.choose else[]
end
variable {ns:List TN}
theorem ab7{l a b:List Int}(ha:u7 ns l a)(hb:u7 ns l b):a=b:=Ip ha.1 hb.1 fun x=>by rw[ha.2,hb.2]
theorem yF{l out:List Int}(h:u7 ns l out):j8 ns l=out:=by
 have he:∃out,u7 ns l out:=⟨out,h⟩
 unfold j8;rw[dif_pos he];exact ab7 he.choose_spec h
theorem dH.sV{i x:Int}(h:dH ns i x):aI ns x=false:=by
 induction h with
 |flat h=>exact h
 |left _ _ ih=>exact ih
 |right _ _ ih=>exact ih
theorem dH.self{i x:Int}(h:dH ns i x)(hf:aI ns i=false):x=i:=by
 cases h with
 |flat=>rfl
 |left h=>rw[hf]at h;cases h
 |right h=>rw[hf]at h;cases h
structure dO(ns:List TN):Prop where
 len:ns.length<=2000
 pj:DT ns
 ends:∀i,i<ns.length->Ends ns i
def aC(ns:List TN)(i:Int):Prop:=0<=i∧i<ns.length
theorem dO.kids(h:dO ns){i:Int}(hi:aC ns i)(hl:aI ns i=true):aC ns (nd ns i.toNat).a∧aC ns (nd ns i.toNat).b:=h.pj i.toNat (by have:=hi.1;have:=hi.2;omega) hl
theorem dH.ok(h:dO ns){i x:Int}(ho:dH ns i x):aC ns i->aC ns x:=by
 induction ho with
 |flat _=>exact id
 |left hl _ ih=>exact fun hi=>ih (h.kids hi hl).1
 |right hl _ ih=>exact fun hi=>ih (h.kids hi hl).2
structure rG(ns:List TN)(S seen out:List Int):Prop where
 dn:∀x∈seen,x∈S∨∀z,dH ns x z->z∈out
 fl:∀z∈out,aI ns z=false∧z∈seen
 nd:out.Nodup
 sn:seen.Nodup
 ok:∀x∈seen,aC ns x
structure Wto(ns:List TN)(S:List Int)(i:Int)(seen out O8 out':List Int):Prop where
 w:rG ns S O8 out'
 all:∀z,dH ns i z->z∈out'
 sub:∀z∈out,z∈out'
 org:∀z∈out',z∈out∨dH ns i z
 O9:∀x∈seen,x∈O8
def mG(ns:List TN):Nat->Int->List Int×List Int->List Int×List Int
 |0,_,s=>s
 |f+1,i,s=>if i∈s.1 then s else if aI ns i then mG ns f (nd ns i.toNat).b (mG ns f (nd ns i.toNat).a (s.1++[i],s.2))else(s.1++[i],s.2++[i])
inductive u9(ns:List TN):Nat->Int->Prop
 |flat {n:Nat} {i:Int} (h:aI ns i=false):u9 ns (n+1) i
 |both {n:Nat} {i:Int} (h:aI ns i=true) (ha:u9 ns n (nd ns i.toNat).a) (hb:u9 ns n (nd ns i.toNat).b):u9 ns (n+1) i
inductive Down(ns:List TN):Int->Int->Prop
 |a {i:Int} (h:aI ns i=true):Down ns i (nd ns i.toNat).a
 |b {i:Int} (h:aI ns i=true):Down ns i (nd ns i.toNat).b
 |tr {i j k:Int} (h1:Down ns i j) (h2:Down ns j k):Down ns i k
theorem ab8{i j k:Nat}(h1:lj ns i j)(h2:lj ns j k):lj ns i k:=by
 induction h1 with
 |one e=>exact .cons e h2
 |cons e _ ih=>exact .cons e (ih h2)
theorem Down.Pa(h:dO ns){i j:Int}(hd:Down ns i j):aC ns i->aC ns j∧lj ns i.toNat j.toNat:=by
 induction hd with
 |a hl=>exact fun hi=>⟨(h.kids hi hl).1,.one ⟨hl,.inl rfl⟩⟩
 |b hl=>exact fun hi=>⟨(h.kids hi hl).2,.one ⟨hl,.inr rfl⟩⟩
 |tr _ _ qU oN =>
   intro hi;obtain⟨h1,p1⟩:=qU hi;obtain⟨h2,p2⟩:=oN h1;exact⟨h2,ab8 p1 p2⟩
theorem Down.no(h:dO ns){i:Int}(hi:aC ns i):¬Down ns i i:=fun hd=>(h.ends i.toNat (by have:=hi.1;have:=hi.2;omega)).no (hd.Pa h hi).2
theorem DW(h:dO ns):∀(f:Nat) (i:Int) (S seen out:List Int),aC ns i->u9 ns f i->(∀s∈S,Down ns s i)->rG ns S seen out->Wto ns S i seen out (mG ns f i (seen,out)).1 (mG ns f i (seen,out)).2
 |0,i,S,seen,out,_,hh,_,_=>by cases hh
 |f+1,i,S,seen,out,hi,hh,hS,hw=>by
   have hiS:i∉S:=fun hm=>Down.no h hi (hS i hm);rw[mG];by_cases hm:i∈seen
   .rw[if_pos hm];exact⟨hw,fun z hz=>((hw.dn i hm).resolve_left hiS) z hz,fun _ hz=>hz,fun _ hz=>.inl hz,fun _ hx=>hx⟩
   rw[if_neg hm]
   have Pb:(seen++[i]).Nodup:=by
    rw[aiZ];exact⟨hw.sn,by simp,fun a ha b hb e=>hm (by rw[ahZ.1 hb]at e;exact e▸ha)⟩
   have aF:∀x∈seen++[i],aC ns x:=fun x hx=>by
    rcases ah1.1 hx with hx|hx
    .exact hw.ok x hx
    .rw[ahZ.1 hx];exact hi
   cases hl:aI ns i with
   |false =>
     rw[if_neg (by simp)];refine⟨⟨fun x hx=>?_,fun z hz=>?_,?_,Pb,aF⟩,fun z hz=>?_,fun z hz=>aif _ hz,fun z hz=>?_,fun x hx=>aif _ hx⟩
     .rcases ah1.1 hx with hx|hx
      .exact(hw.dn x hx).imp id fun g z hz=>aif _ (g z hz)
      .rw[ahZ.1 hx];exact .inr fun z hz=>by rw[hz.self hl];simp
     .rcases ah1.1 hz with hz|hz
      .exact⟨(hw.fl z hz).1,aif _ (hw.fl z hz).2⟩
      .rw[ahZ.1 hz];exact⟨hl,by simp⟩
     .show(out++[i]).Nodup;rw[aiZ];exact⟨hw.nd,by simp,fun a ha b hb e=>hm (by rw[ahZ.1 hb]at e;exact e▸(hw.fl a ha).2)⟩
     .rw[hz.self hl];simp
     .rcases ah1.1 hz with hz|hz
      .exact .inl hz
      .rw[ahZ.1 hz];exact .inr (.flat hl)
   |true =>
     rw[if_pos rfl]
     cases hh with
     |flat hf=>rw[hl]at hf;cases hf
     |both _ ha hb =>
     obtain⟨ka,kb⟩:=h.kids hi hl
     have wI:rG ns (i::S) (seen++[i]) out:=⟨fun x hx=>by
      rcases ah1.1 hx with hx|hx
      .exact(hw.dn x hx).imp (ah8 _) id
      .rw[ahZ.1 hx];exact .inl ah0,fun z hz=>⟨(hw.fl z hz).1,aif _ (hw.fl z hz).2⟩,hw.nd,Pb,aF⟩
     have DX:∀s∈i::S,Down ns s (nd ns i.toNat).a:=fun s hs=>by
      rcases ah6.1 hs with rfl|hs
      .exact .a hl
      .exact .tr (hS s hs) (.a hl)
     have Iw:∀s∈i::S,Down ns s (nd ns i.toNat).b:=fun s hs=>by
      rcases ah6.1 hs with rfl|hs
      .exact .b hl
      .exact .tr (hS s hs) (.b hl)
     have t1:=DW h f _ (i::S) (seen++[i]) out ka ha DX wI;have t2:=DW h f _ (i::S) _ _ kb hb Iw t1.w;generalize mG ns f (nd ns i.toNat).a (seen++[i],out)=r1 at t1 t2 ⊢;generalize mG ns f (nd ns i.toNat).b (r1.1,r1.2)=r2 at t2 ⊢
     have hall:∀z,dH ns i z->z∈r2.2:=fun z hz=>by
      cases hz with
      |flat hf=>rw[hl]at hf;cases hf
      |left _ t=>exact t2.sub z (t1.all z t)
      |right _ t=>exact t2.all z t
     refine⟨⟨fun x hx=>?_,t2.w.fl,t2.w.nd,t2.w.sn,t2.w.ok⟩,hall,fun z hz=>t2.sub z (t1.sub z hz),fun z hz=>?_,fun x hx=>t2.O9 x (t1.O9 x (aif _ hx))⟩
     .rcases t2.w.dn x hx with g|g
      .rcases ah6.1 g with rfl|g
       .exact .inr hall
       .exact .inl g
      .exact .inr g
     .rcases t2.org z hz with g|g
      .rcases t1.org z g with g|g
       .exact .inl g
       .exact .inr (.left hl g)
      .exact .inr (.right hl g)
end Go.Proofs.YtpmniabdmbmafaaGreatDoor

namespace Go.Ab
def DY:List Nat->List Nat->List Nat
 |L,[]=>L
 |L,k::r=>DY (if k∈L then L else L++[k]) r
section
variable {nx:Nat->List Nat}
theorem Pc:∀{n:Nat} {L:List Nat},L.Nodup->(∀x∈L,x<n)->L.length<=n
 |0,L,_,hn=>by
   cases L with
   |nil=>simp
   |cons a r=>exact absurd (hn a (by simp)) (aiW _)
 |n+1,L,h,hn=>by
   have h1:=Pc (n:=n) (L:=L.erase n) (h.erase n) (fun x hx=>by
    rw[h.mem_erase_iff]at hx;have:=hn x hx.2;have:=hx.1
    omega)
   have:=List.length_erase (a:=n) (l:=L);split at this<;>omega
end
end Go.Ab

namespace Go.Proofs.YtpmniabdmbmafaaGreatDoor
open Go.Ab Tryz
theorem Pd:j3 prog 3 (fun n:Int=>i64 n) (fun n=>.int .i64 n):=Wz (by rw[Ar])
theorem ab9:qf prog 4=some (.bool false):=by kernel_rfl
def bD(ns:List TN)(root:Int):D:=.agg [.sl (some 4) (ns.map aw),i64 root,.unk,.unk,.unk]
def mH(seen:List Int):List (Int×D):=seen.map fun x=>(x,.bool true)
theorem Pe(seen:List Int)(x:Int):fP (mH seen) x=if x∈seen then some (.bool true)else none:=by
 induction seen with
 |nil=>simp[mH,fP]
 |cons y r ih =>
   simp only[mH,aid,fP]at ih ⊢;by_cases e:y=x
   .subst e;simp
   .rw[if_neg e,ih];by_cases h:x∈r
    .simp[h]
    .have:x≠y:=fun g=>e g.symm;simp[h,this]
theorem aca{seen:List Int}{x:Int}(h:x∉seen):gA (mH seen) x (.bool true)=mH (seen++[x]):=by
 have hm:gA (mH seen) x (.bool true)=mH seen++[(x,.bool true)]:=by
  induction seen with
  |nil=>rfl
  |cons y r ih =>
    simp only[ah6,not_or]at h;simp only[mH,aid,gA]at ih ⊢;rw[if_neg (fun e=>h.1 e.symm),ih h.2];rfl
 rw[hm];simp[mH]
def DZ(ns:List TN)(root:Int):List AV:=[.bx [101] 0,.d (.ptr (.ptr (bD ns root))),.bx [103] 0,.bx [104] 0]
def wJ(ns:List TN)(root:Int)(p:Name)(s:List Int×List Int):List (Name×Ob) :=
 [([101],.box [.mp [102]]),([102],.map (bT (fun n:Int=>i64 n) (mH s.1))),([103],.box [.aW 60 [.bx [101] 0,.d (.ptr (.ptr (bD ns root))),.bx [103] 0,.bx [104] 0]]),([104],.box [.vw p 0 s.2.length]),(p,.arr none (s.2.map i64))]
theorem Ix{n:Nat}{L:List Int}(hd:L.Nodup)(h:∀x∈L,0<=x∧x<n):L.length<=n:=by
 have hm:(L.map Int.toNat).Nodup:=by
  rw[List.Nodup,akm];refine List.Pairwise.imp_of_mem ?_ hd;intro a b ha hb eL e;have:=h a ha;have:=h b hb;exact eL (by omega)
 have:=Pc hm (n:=n) fun x hx=>by
  obtain⟨y,hy,rfl⟩:=ah9.1 hx;have:=h y hy;omega
 simpa using this
theorem rG.len{ns:List TN}(h:dO ns){S seen out:List Int}(hw:rG ns S seen out):out.length<=2000 :=
 aix (Ix hw.nd fun x hx=>hw.ok x (hw.fl x hx).2) h.len
open Classical in
noncomputable def Be(ns:List TN)(i:Int):Nat:=((List.range ns.length).filter fun j:Nat=>decide (Down ns i (j:Int))).length
theorem filter_le{α:Type}{p q:α->Bool}:∀{l:List α},(∀x∈l,p x=true->q x=true)->(l.filter p).length<=(l.filter q).length
 |[],_=>ain _
 |x::r,h=>by
   have ih:=filter_le (l:=r) fun y hy=>h y (ah8 _ hy);have hx:=h x ah0;rw[ajA,ajA]
   cases hp:p x with
   |false=>cases hq:q x<;>simp<;>omega
   |true=>rw[hx hp];simpa using ih
theorem filter_lt{α:Type}{p q:α->Bool}{z:α}:∀{l:List α},z∈l->(∀x∈l,p x=true->q x=true)->p z=false->q z=true->(l.filter p).length<(l.filter q).length
 |x::r,hz,h,h1,h2=>by
   rw[ajA,ajA];have hx:=h x ah0;rcases ah6.1 hz with rfl|hz
   .have:=filter_le (l:=r) (p:=p) (q:=q) fun y hy=>h y (ah8 _ hy);rw[h1,h2];simp;omega
   .have ih:=filter_lt hz (fun y hy=>h y (ah8 _ hy)) h1 h2
    cases hp:p x with
    |false=>cases hq:q x<;>simp<;>omega
    |true=>rw[hx hp];simpa using ih
theorem Pf{ns:List TN}(h:dO ns){i j:Int}(hi:aC ns i)(hd:Down ns i j):Be ns j<Be ns i:=by
 have hj:=(hd.Pa h hi).1;have e:((j.toNat:Nat):Int)=j:=by have:=hj.1;omega
 unfold Be;refine filter_lt (z:=j.toNat) (aiq.2 (by have:=hj.1;have:=hj.2;omega)) (fun x _ hx=>?_) ?_ ?_
 .simp only[decide_eq_true_eq]at hx ⊢;exact .tr hd hx
 .simp only[decide_eq_false_iff_not];rw[e];exact Down.no h hj
 .simp only[decide_eq_true_eq];rw[e];exact hd
theorem Iy{ns:List TN}(h:dO ns):∀(m:Nat) (i:Int),aC ns i->Be ns i<m->u9 ns m i
 |0,_,_,hm=>absurd hm (aiW _)
 |m+1,i,hi,hm=>by
   cases hl:aI ns i with
   |false=>exact .flat hl
   |true =>
     have k:=h.kids hi hl;have ha:=Pf h hi (.a hl);have hb:=Pf h hi (.b hl);exact .both hl (Iy h m _ k.1 (by omega)) (Iy h m _ k.2 (by omega))
theorem Pg{ns:List TN}(h:dO ns){i:Int}(hi:aC ns i):u9 ns (ns.length+1) i:=by
 refine Iy h _ i hi ?_;unfold Be;have:=aiF (fun j:Nat=>@decide (Down ns i (j:Int)) (Classical.propDecidable _)) (List.range ns.length);rw[List.length_range]at this;omega
theorem acb{ns:List TN}{S seen out:List Int}{i:Int}(hw:rG ns S seen out)(hi:aC ns i)(hm:i∉seen):rG ns (i::S) (seen++[i]) out :=
 ⟨fun x hx=>by
   rcases ah1.1 hx with hx|hx
   .exact(hw.dn x hx).imp (ah8 _) id
   .rw[ahZ.1 hx];exact .inl ah0,
  fun z hz=>⟨(hw.fl z hz).1,aif _ (hw.fl z hz).2⟩,hw.nd,by
   rw[aiZ];exact⟨hw.sn,by simp,fun a ha b hb e=>hm (by rw[ahZ.1 hb]at e;exact e▸ha)⟩,
  fun x hx=>by
   rcases ah1.1 hx with hx|hx
   .exact hw.ok x hx
   .rw[ahZ.1 hx];exact hi⟩
theorem Iz{G}(ns:List TN)(root:Int)(h:dO ns):∀(f:Nat) (i:Int) (S seen out:List Int),aC ns i->u9 ns f i->(∀s∈S,Down ns s i)->rG ns S seen out ->
  bA prog G 60 (.d (i64 i)::DZ ns root) (wJ ns root [105] (seen,out)) [101,102,103,104,105] (fun r ae=>r=.aA []∧ae=wJ ns root [106] (mG ns f i (seen,out)))
 |0,i,S,seen,out,_,hh,_,_=>by cases hh
 |f+1,i,S,seen,out,hi,hh,hS,hw=>by
   generalize hR:mG ns (f+1) i (seen,out)=R;rw[mG]at hR;unfold DZ wJ bD;refine eV func60 rfl (by decide +kernel) (by simp[ntmps60]) (aT fun E=>?_);simp only[go_sem];refine GY E [102] (mH seen) i (.bool false) (by rw[G6]) Pd ab9 rfl rfl rfl (by simp) ?_;by_cases hm:i∈seen
   .rw[show fP (mH seen) i=some (.bool true) by rw[Pe,if_pos hm]];simp only[go_sem];refine⟨.aA [],_,[101,102,103,104,105,106],ar [([106],[105])],⟨rfl,by rw[<-hR,if_pos hm]⟩,?_⟩;simp only[go_sem]
   rw[show fP (mH seen) i=none by rw[Pe,if_neg hm]];simp only[go_sem];refine GZ E [102] (mH seen) i (.bool true) (by rw[G6]) Pd rfl rfl rfl rfl rfl ?_;rw[aca hm];simp only[go_sem];refine yy E (by simp) rfl ?_;simp only[go_sem];have de:i.toNat<ns.length:=by have:=hi.1;have:=hi.2;omega
   have hti:((i.toNat:Nat):Int)=i:=by have:=hi.1;omega
   refine⟨⟨by have:=hi.1;omega,by have:=hi.2;omega⟩,?_⟩;rw[uP de];simp only[go_sem]
   repeat (first
    |(apply gC E;(· simp only[go_sem]);(· intro h;(try simp only[bq]at h);simp only[↓h,go_sem];rfl);simp only[go_sem])
    |(apply iu E;(· decide);simp only[go_sem]))
   refine cK E ?_ ?_<;>intro h1<;>simp only[go_sem]
   .have hl:aI ns i=true:=by simpa[aI,eA]using h1
    obtain⟨ka,kb⟩:=h.kids hi hl
    cases hh with
    |flat hf=>rw[hl]at hf;cases hf
    |both _ ha hb =>
    have wI:rG ns (i::S) (seen++[i]) out:=acb hw hi hm
    have DX:∀s∈i::S,Down ns s (nd ns i.toNat).a:=fun s hs=>by
     rcases ah6.1 hs with rfl|hs
     .exact .a hl
     .exact .tr (hS s hs) (.a hl)
    have Iw:∀s∈i::S,Down ns s (nd ns i.toNat).b:=fun s hs=>by
     rcases ah6.1 hs with rfl|hs
     .exact .b hl
     .exact .tr (hS s hs) (.b hl)
    have t1:=DW h f _ (i::S) (seen++[i]) out ka ha DX wI;have c1:=Iz (G:=G) ns root h f _ (i::S) (seen++[i]) out ka ha DX wI;have c2:=Iz (G:=G) ns root h f _ (i::S) _ _ kb hb Iw t1.w;rw[if_neg hm,if_pos hl]at hR;obtain⟨r1,e1⟩:∃r1,mG ns f (nd ns i.toNat).a (seen++[i],out)=r1:=⟨_,rfl⟩
    rw[e1]at hR c1 c2;change bA _ _ _ _ (wJ ns root [105] r1) _ (fun r ae=>r=.aA []∧ae=wJ ns root [106] (mG ns f (nd ns i.toNat).b r1))at c2;rw[hR]at c2;unfold DZ wJ bD at c1 c2;refine je E _ _ _ c1 rfl rfl ⟨by simp only[go_sem],by rw[ay];decide⟩ (by simp only[go_sem]) (by simp only[go_sem]) (by simp only[go_sem]) ?_;rintro _ _ ⟨rfl,rfl⟩;refine⟨by simp only[go_sem];try omega,?_⟩;simp only[go_sem];refine jh E (ar [([105],[31,106])]) _ _ _ c2 rfl rfl ⟨by simp only[go_sem],by rw[ay];decide⟩ rfl (by simp only[go_sem]) (by simp only[go_sem]) ?_;rintro _ _ ⟨rfl,rfl⟩;refine⟨by simp only[go_sem];try omega,?_⟩;simp only[go_sem];refine⟨.aA [],_,[101,102,103,104,105,106],ar [([106],[35,106])],⟨rfl,rfl⟩,?_⟩;simp only[go_sem]
   .have hl:aI ns i=false:=by simpa[aI,eA]using h1
    have hlen:=hw.len h;refine⟨by omega,?_⟩;refine⟨.aA [],_,[101,102,103,104,105,106],ar [([106],[39])],⟨rfl,by rw[<-hR,if_neg hm,if_neg (by rw[hl];simp)]⟩,?_⟩;simp only[go_sem];constructor<;>simp
end Go.Proofs.YtpmniabdmbmafaaGreatDoor

namespace Go.Ab
end Go.Ab

namespace Go.Ab
end Go.Ab

