/-
  Types as data; a type of not too many nodes. (with the parts that follow it)
-/
import Derived.Test.YtpmniabdmbmafaaGreatDoorPTF
import Derived.Test.YtpmniabdmbmafaaGreatDoorPTA
import Derived.Maps.RangeRun
set_option linter.all false
set_option maxHeartbeats 16000000
namespace Go.Proofs.YtpmniabdmbmafaaGreatDoor
open Go.Ab Tryz
abbrev da:=List UInt8×Int
structure TN where
 k:Int
 a:Int
 b:Int
 l:List da
def aP(f:da):D:=.agg [.str f.1,i64 f.2]
def eo(l:List da):D:=.sl (some 2) (l.map aP)
def aK(n:TN):D:=.agg [i64 n.k,i64 n.a,i64 n.b,eo n.l]
def JP:List TN->D
 |[]=>.ao
 |n::r=>.sl (some 4) ((n::r).map aK)
def qU(ns:List TN)(root:Int):D:=.agg [JP ns,i64 root]
def ack(F:D)(l:List da):Prop:=(F=.ao∧l=[])∨F=eo l
def Fi(x:D)(n:TN):Prop:=∃F,x=.agg [i64 n.k,i64 n.a,i64 n.b,F]∧ack F n.l
def qV:List D->List TN->Prop
 |[],[]=>True
 |x::xs,n::ns=>Fi x n∧qV xs ns
 |_,_=>False
def acm(L:D)(ns:List TN):Prop:=(L=.ao∧ns=[])∨∃xs,L=.sl (some 4) xs∧qV xs ns
theorem qV.len:∀{xs:List D} {ns:List TN},qV xs ns->xs.length=ns.length
 |[],[],_=>rfl
 |_::_,_::_,h=>by simp[qV.len h.2]
 |[],_::_,h=>h.elim
 |_::_,[],h=>h.elim
theorem qV.get:∀{xs:List D} {ns:List TN},qV xs ns->∀(i:Nat) (h:i<ns.length),Fi (xs.getD i .aY) ns[i]
 |[],[],_,i,h=>by simp at h
 |_::_,_::_,h,0,_=>h.1
 |x::xs,n::ns,h,i+1,hi=>by
   have:=qV.get h.2 i (by simpa using hi);simpa using this
 |[],_::_,h,_,_=>h.elim
 |_::_,[],h,_,_=>h.elim
def iK(n:TN):TN:={ n with l:=n.l.take 40 }
def jV(len most:Nat):Nat:=if 2000<len then min len (max most 2001)else min len most
def p7(ns:List TN)(most:Nat):List TN:=(ns.take (jV ns.length most)).map iK
def qW(ns:List TN)(root:Int):Nat->List (Name×Ob)
 |0=>[([4],.box [.d .ao,.d (i64 0)]),([5],.box [.d .ao,.d (i64 root)])]
 |i+1=>[([4],.box [.d .ao,.d (i64 0)]),([5],.box [.vw [99] 0 (i+1),.d (i64 root)]),([99],.arr (some 4) ((ns.take (i+1)).map fun n=>aK (iK n)))]
theorem acn{i len most:Nat}:i<jV len most↔i<len∧(i<most∨(2000<len∧i<=2000)):=by
 unfold jV;split<;>omega
theorem Fj{ns:List TN}{i:Nat}(h:i<ns.length):(List.map (fun n=>aK (iK n)) (List.take i ns))++[aK (iK ns[i])]=List.map (fun n=>aK (iK n)) (List.take (i+1) ns):=by
 rw[ak9 h,alh];rfl
theorem Co{ns:List TN}{i most:Nat}(h1:i<=jV ns.length most)(h2:¬i<jV ns.length most):(ns.take i).map iK=p7 ns most:=by
 unfold p7;rw[show i=jV ns.length most by omega]
theorem JQ{ns:List TN}{i:Nat}(h:i<ns.length):JP ((ns.take (i+1)).map iK)=.sl (some 4) ((ns.take (i+1)).map fun n=>aK (iK n)):=by
 cases ns with
 |nil=>simp at h
 |cons n r=>simp[JP,Function.comp_def]
theorem PB{G}(xs:List D)(ns:List TN)(root:Int)(most:Nat)(hr:qV xs ns)(hn:ns.length<=9223372036854775807)(hm:most<=1000):HP prog G 6 [.agg [.sl (some 4) xs,i64 root],i64 most] (fun r=>r=.d (qU (p7 ns most) root)):=by
 refine fK func6 rfl (by decide +kernel) (by simp[ntmps6]) (aS fun E=>?_);simp only[go_sem];refine eU E [2] (.agg [.sl (some 4) xs,i64 root]) rfl rfl ?_;simp only[go_sem];refine bC E (X:={ i:Nat // i<=jV ns.length most }) (fun x=>[(1,.d (i64 most)),(2,.d (.ptr (.agg [.sl (some 4) xs,i64 root]))),(4,.bx [4] 0),(5,.bx [5] 0),(6,.d (i64 x.1))]) (fun x=>qW ns root x.1) [4,5,99] (fun x=>jV ns.length most-x.1) ⟨0,ale _⟩ id ?_ ?_
 .simp only[qW];simp only[go_sem]
  all_goals rfl
 rintro⟨i,hi⟩ E';have hlt:=acn (i:=i) (len:=ns.length) (most:=most);have hlen:=hr.len
 cases i with
 |zero =>
   simp only[qW];simp only[go_sem];refine bH E' ?_ ?_<;>intro h1<;>simp only[go_sem]
   .refine bH E' ?_ ?_<;>intro h2<;>simp only[go_sem]
    .have bF:0<ns.length:=by omega
     refine⟨by omega,?_⟩;obtain⟨F,hx,hF⟩:=hr.get (0) bF;rw[hx];simp only[go_sem];have nP:=Fj bF;simp only[alC]at nP;obtain⟨rfl,hF⟩|rfl:=hF
     .have hc:iK ns[0]={ k:=ns[0].k,a:=ns[0].a,b:=ns[0].b,l:=[] }:=by simp[iK,hF]
      simp only[go_sem];refine qP E' [46] (some 2) [] rfl ?_;simp only[go_sem];refine⟨⟨1,by omega⟩,by show jV ns.length most-1<_;omega,ak [([99],[52])],?_⟩;simp only[qW];simp only[go_sem];refine⟨by rw[aD ⟨by omega,by omega⟩],?_⟩;rw[<-nP,hc];rfl
     .have hc:iK ns[0]={ k:=ns[0].k,a:=ns[0].a,b:=ns[0].b,l:=ns[0].l.take 40 }:=rfl;unfold eo;simp only[go_sem];rw[Cm aP 40 (by decide)];refine⟨Cn 40 _ (by decide) (by omega),by simp only[alg,alq];omega,?_⟩;refine qP E' [46] (some 2) ((ns[0].l.take 40).map aP) rfl ?_;simp only[go_sem];refine⟨⟨1,by omega⟩,by show jV ns.length most-1<_;omega,ak [([99],[52])],?_⟩;simp only[qW];simp only[go_sem];refine⟨by rw[aD ⟨by omega,by omega⟩],?_⟩;rw[<-nP,hc];rfl
    .refine bH E' ?_ ?_<;>intro h3<;>simp only[go_sem]
     .have bF:0<ns.length:=by omega
      refine⟨by omega,?_⟩;obtain⟨F,hx,hF⟩:=hr.get (0) bF;rw[hx];simp only[go_sem];have nP:=Fj bF;simp only[alC]at nP;obtain⟨rfl,hF⟩|rfl:=hF
      .have hc:iK ns[0]={ k:=ns[0].k,a:=ns[0].a,b:=ns[0].b,l:=[] }:=by simp[iK,hF]
       simp only[go_sem];refine qP E' [46] (some 2) [] rfl ?_;simp only[go_sem];refine⟨⟨1,by omega⟩,by show jV ns.length most-1<_;omega,ak [([99],[52])],?_⟩;simp only[qW];simp only[go_sem];refine⟨by rw[aD ⟨by omega,by omega⟩],?_⟩;rw[<-nP,hc];rfl
      .have hc:iK ns[0]={ k:=ns[0].k,a:=ns[0].a,b:=ns[0].b,l:=ns[0].l.take 40 }:=rfl;unfold eo;simp only[go_sem];rw[Cm aP 40 (by decide)];refine⟨Cn 40 _ (by decide) (by omega),by simp only[alg,alq];omega,?_⟩;refine qP E' [46] (some 2) ((ns[0].l.take 40).map aP) rfl ?_;simp only[go_sem];refine⟨⟨1,by omega⟩,by show jV ns.length most-1<_;omega,ak [([99],[52])],?_⟩;simp only[qW];simp only[go_sem];refine⟨by rw[aD ⟨by omega,by omega⟩],?_⟩;rw[<-nP,hc];rfl
     .refine⟨[],?_⟩;simp only[go_sem];rw[<-Co hi (by omega)];rfl
   .refine⟨[],?_⟩;simp only[go_sem];rw[<-Co hi (by omega)];rfl
 |succ i =>
   simp only[qW];simp only[go_sem];refine bH E' ?_ ?_<;>intro h1<;>simp only[go_sem]
   .refine bH E' ?_ ?_<;>intro h2<;>simp only[go_sem]
    .have bF:i+1<ns.length:=by omega
     refine⟨by omega,?_⟩;obtain⟨F,hx,hF⟩:=hr.get (i+1) bF;rw[hx];simp only[go_sem];have nP:=Fj bF;obtain⟨rfl,hF⟩|rfl:=hF
     .have hc:iK ns[i+1]={ k:=ns[i+1].k,a:=ns[i+1].a,b:=ns[i+1].b,l:=[] }:=by simp[iK,hF]
      simp only[go_sem];refine qP E' [46] (some 2) [] rfl ?_;simp only[go_sem];refine⟨by omega,⟨i+1+1,by omega⟩,by show jV ns.length most-(i+1+1)<_;omega,ak [([99],[52])],?_⟩;simp only[qW];simp only[go_sem];refine⟨by rw[aD ⟨by omega,by omega⟩];rfl,?_⟩;rw[ak5 (by simp;omega),<-nP,hc];rfl
     .have hc:iK ns[i+1]={ k:=ns[i+1].k,a:=ns[i+1].a,b:=ns[i+1].b,l:=ns[i+1].l.take 40 }:=rfl;unfold eo;simp only[go_sem];rw[Cm aP 40 (by decide)];refine⟨Cn 40 _ (by decide) (by omega),by simp only[alg,alq];omega,?_⟩;refine qP E' [46] (some 2) ((ns[i+1].l.take 40).map aP) rfl ?_;simp only[go_sem];refine⟨by omega,⟨i+1+1,by omega⟩,by show jV ns.length most-(i+1+1)<_;omega,ak [([99],[52])],?_⟩;simp only[qW];simp only[go_sem];refine⟨by rw[aD ⟨by omega,by omega⟩];rfl,?_⟩;rw[ak5 (by simp;omega),<-nP,hc];rfl
    .refine bH E' ?_ ?_<;>intro h3<;>simp only[go_sem]
     .refine aI E' ?_ ?_<;>intro h4<;>simp only[go_sem]
      .have bF:i+1<ns.length:=by omega
       refine⟨by omega,?_⟩;obtain⟨F,hx,hF⟩:=hr.get (i+1) bF;rw[hx];simp only[go_sem];have nP:=Fj bF;obtain⟨rfl,hF⟩|rfl:=hF
       .have hc:iK ns[i+1]={ k:=ns[i+1].k,a:=ns[i+1].a,b:=ns[i+1].b,l:=[] }:=by simp[iK,hF]
        simp only[go_sem];refine qP E' [46] (some 2) [] rfl ?_;simp only[go_sem];refine⟨by omega,⟨i+1+1,by omega⟩,by show jV ns.length most-(i+1+1)<_;omega,ak [([99],[52])],?_⟩;simp only[qW];simp only[go_sem];refine⟨by rw[aD ⟨by omega,by omega⟩];rfl,?_⟩;rw[ak5 (by simp;omega),<-nP,hc];rfl
       .have hc:iK ns[i+1]={ k:=ns[i+1].k,a:=ns[i+1].a,b:=ns[i+1].b,l:=ns[i+1].l.take 40 }:=rfl;unfold eo;simp only[go_sem];rw[Cm aP 40 (by decide)];refine⟨Cn 40 _ (by decide) (by omega),by simp only[alg,alq];omega,?_⟩;refine qP E' [46] (some 2) ((ns[i+1].l.take 40).map aP) rfl ?_;simp only[go_sem];refine⟨by omega,⟨i+1+1,by omega⟩,by show jV ns.length most-(i+1+1)<_;omega,ak [([99],[52])],?_⟩;simp only[qW];simp only[go_sem];refine⟨by rw[aD ⟨by omega,by omega⟩];rfl,?_⟩;rw[ak5 (by simp;omega),<-nP,hc];rfl
      .refine⟨[([99],some 4,(ns.take (i+1)).map fun n=>aK (iK n))],?_⟩;simp only[go_sem];rw[<-Co hi (by omega)];have bF:i<ns.length:=by unfold jV at hi;split at hi<;>omega
       rw[qU,JQ bF,ak5 (by simp;omega)]
     .refine⟨[([99],some 4,(ns.take (i+1)).map fun n=>aK (iK n))],?_⟩;simp only[go_sem];rw[<-Co hi (by omega)];have bF:i<ns.length:=by unfold jV at hi;split at hi<;>omega
      rw[qU,JQ bF,ak5 (by simp;omega)]
   .refine⟨[([99],some 4,(ns.take (i+1)).map fun n=>aK (iK n))],?_⟩;simp only[go_sem];rw[<-Co hi (by omega)];have bF:i<ns.length:=by unfold jV at hi;split at hi<;>omega
    rw[qU,JQ bF,ak5 (by simp;omega)]
end Go.Proofs.YtpmniabdmbmafaaGreatDoor

namespace Go.Ab
def Wk(a b:D):Prop:=∀(H:Array Obj) (own:Nat->Prop) (v:Value),au H own v a->au H own v b
theorem Wk.refl(a:D):Wk a a:=fun _ _ _ h=>h
theorem Wk.ao(w:W):Wk .ao (.sl w []):=fun _ _ _ h=>by
 cases h;exact .kZ none 0 w
theorem Wk.agg{a0s bs:List D}(hl:a0s.length=bs.length)(hs:∀b∈bs,b.bR=true)(h:∀(i:Nat) a b,a0s[i]?=some a->bs[i]?=some b->Wk a b):Wk (.agg a0s) (.agg bs):=fun H own v x=>by
 cases x with
 |agg vs _ h1 _ h3 =>
   refine .agg vs bs (h1.trans hl) hs fun i b hb=>?_;have:i<a0s.length:=by rw[hl];exact(akY.1 hb).1
   exact h i _ b (ak0 this) hb H own _ (h3 i _ (ak0 this))
theorem Wk.sl{w:W}{a0s bs:List D}(hl:a0s.length=bs.length)(hw:∀b∈bs,okW w b)(h:∀(i:Nat) a b,a0s[i]?=some a->bs[i]?=some b->a.cells.length=b.cells.length∧∀(j:Nat) c d,a.cells[j]?=some c->b.cells[j]?=some d->Wk c d):Wk (.sl w a0s) (.sl w bs):=fun H own v x=>by
 cases x with
 |kZ a cap _ =>
   have:bs=[]:=amE.1 hl.symm;subst this;exact .kZ a cap w
 |sl b o cap c e fz _ _ hb hn eY hz _ hr =>
   rw[hl];refine .sl b o cap c e fz w bs hb hn (by omega) (by rw[<-hl];exact hz) hw fun i x j d hi hj=>?_;have hlt:i<a0s.length:=by rw[hl];exact(akY.1 hi).1
   obtain⟨g1,g2⟩:=h i _ x (ak0 hlt) hi;have kJ:j<(a0s[i]).cells.length:=by rw[g1];exact(akY.1 hj).1
   exact g2 j _ d (ak0 kJ) hj H own _ (hr i _ j _ (ak0 hlt) (ak0 kJ))
def v8:List D->List D->Prop
 |[],[]=>True
 |a::a0s,b::bs=>Wk a b∧v8 a0s bs
 |_,_=>False
theorem v8.get:∀{a0s bs:List D},v8 a0s bs->a0s.length=bs.length∧∀(i:Nat) a b,a0s[i]?=some a->bs[i]?=some b->Wk a b
 |[],[],_=>⟨rfl,fun _ _ _ h=>by simp at h⟩
 |_::_,_::_,h=>by
   obtain⟨g1,g2⟩:=v8.get h.2;refine⟨by simp[g1],fun i a b ha hb=>?_⟩
   cases i with
   |zero=>simp at ha hb;subst ha;subst hb;exact h.1
   |succ i=>exact g2 i a b (by simpa using ha) (by simpa using hb)
 |[],_::_,h=>h.elim
 |_::_,[],h=>h.elim
theorem VR.wk{H:Array Obj}{own:Nat->Prop}{used:List Nat}{hp:Name->Option Ob}{β:Name->Option a8}{v:Value}{a b:D}(h:Wk a b)(hv:VR H own used hp β v (.d a)):VR H own used hp β v (.d b) :=
 .d _ _ (h _ _ _ hv.cA)
section
variable {P:Program}
theorem aj.PD{B:Base}{β:Name->Option a8}{s s':St}{tm:Array Value}{w:World}(h:aj B β s tm w)(h1:s'.hp=s.hp)(h2:s'.used=s.used)(h3:∀t,s'.fr t=s.fr t∨∃a b,s.fr t=.d a∧s'.fr t=.d b∧Wk a b):aj B β s' tm w:=by
 obtain⟨fr,hp,us⟩:=s;obtain⟨Js,mD,O8⟩:=s';simp only at h1 h2 h3;subst h1;subst h2
 exact { bG:=h.bG,io:=h.io,size:=h.size,frame:=h.frame,slots:=fun t=>(by
  have:=h.slots t;rcases h3 t with e|⟨a,b,e1,e2,hw⟩
  .show VR _ _ _ _ _ _ (Js t);rw[e];exact this
  .show VR _ _ _ _ _ _ (Js t);rw[e2];have this:VR _ _ _ _ _ _ (fr t):=this;rw[e1]at this
   exact this.wk hw),aJ:=h.aJ,blocks:=h.blocks,inj:=h.inj,us:=h.us,stay:=h.stay }
theorem HP.wk{G:List (Nat×Obj)}{f:FuncId}{a0s bs:List D}{Q:AV->Prop}(h:HP P G f bs Q)(hw:v8 a0s bs):HP P G f a0s Q:=by
 obtain⟨g1,g2⟩:=hw.get;refine⟨h.1,fun B β vs w h1 h2 h3 h4 hs=>h.2 B β vs w (by rw[h1];simp[g1]) h2 h3 h4 (hs.PD rfl rfl fun t=>?_)⟩;rw[kC,kC,qJ,qJ,if_pos (ale _),if_pos (ale _),Nat.sub_zero,ala,ala];by_cases ht:t<a0s.length
 .have k8:t<bs.length:=by omega
  rw[ak0 ht,ak0 k8];exact .inr ⟨_,_,rfl,rfl,g2 t _ _ (ak0 ht) (ak0 k8)⟩
 .rw[alN (by omega),alN (by omega)];exact .inl rfl
theorem HP.wkr{G:List (Nat×Obj)}{f:FuncId}{a0s:List D}{Q Q':AV->Prop}(h:HP P G f a0s Q)(hw:∀r,Q r->∃a b,r=.d a∧Wk a b∧Q' (.d b)):HP P G f a0s Q':=by
 refine⟨h.1,fun B β vs w h1 h2 h3 h4 hs=>(h.2 B β vs w h1 h2 h3 h4 hs).mono ?_⟩;rintro e w' ⟨v,r,ae,u',β',rfl,⟨hQ,aU,rfl⟩,bh⟩;obtain⟨a,b,rfl,hwk,hq⟩:=hw r hQ;refine⟨v,.d b,[],u',β',rfl,⟨hq,rfl,rfl⟩,bh.PD rfl rfl fun t=>?_⟩;rw[kC,kC,kD,kD,xh];by_cases ht:t=0
 .rw[if_pos ht,if_pos ht];exact .inr ⟨a,b,rfl,rfl,hwk⟩
 .rw[if_neg ht,if_neg ht];exact .inl rfl
end
theorem aj.Cp{B:Base}{β:Name->Option a8}{s:St}{tm:Array Value}{w:World}(h:aj B β s tm w){p:Name}{ty:Option Nat}{cs cs':List AV}(hp:s.hp p=some (.bt ty cs))(hl:cs'.length=cs.length)
  (hv:∀(v:Value) (j:Nat) x x',cs[j]?=some x->cs'[j]?=some x'->VR w.heap (s.own B.A β) s.used s.hp β v x->VR w.heap (s.own B.A β) s.used s.hp β v x'):aj B β (s.set p (some (.bt ty cs'))) tm w:=by
 have gl:∀q,q≠p->(s.set p (some (.bt ty cs'))).hp q=s.hp q:=fun q h1=>by simp[St.set,aA,h1]
 have dJ:(s.set p (some (.bt ty cs'))).hp p=some (.bt ty cs'):=by simp[St.set,aA]
 have rX:∀q,(s.set p (some (.bt ty cs'))).hp q≠none↔s.hp q≠none:=fun q=>by
  by_cases e:q=p
  .subst e;rw[dJ,hp];simp
  .rw[gl q e]
 have eH:(s.set p (some (.bt ty cs'))).own B.A β=s.own B.A β:=by
  funext b;refine propext (or_congr_right ⟨?_,?_⟩)
  .rintro⟨q,l,hq,hl,rfl⟩;exact⟨q,l,(rX q).1 hq,hl,rfl⟩
  .rintro⟨q,l,hq,hl,rfl⟩;exact⟨q,l,(rX q).2 hq,hl,rfl⟩
 have ag:∀q,nm s.used q->iQ s.hp (s.set p (some (.bt ty cs'))).hp β β q:=by
  intro q _ o ho;by_cases e:q=p
  .subst e;rw[dJ]at ho;cases ho;exact⟨_,hp,by simp[Ob.like,hl],rfl⟩
  .exact⟨o,by rwa [gl q e]at ho,Ob.k4 _,rfl⟩
 refine { bG:=h.bG,io:=h.io,size:=h.size,frame:=h.frame,slots:=fun i=>?_,aJ:=?_,blocks:=fun q l hq hl=>h.blocks q l ((rX q).1 hq) hl,inj:=fun q q' l l' hq bX=>h.inj q q' l l' ((rX q).1 hq) ((rX q').1 bX),us:=h.us,stay:=h.stay }
 .rw[eH];exact(h.slots i).mono (fun _ _ h=>h) (fun _ h=>h) ag
 .intro q o ho;rw[eH];by_cases e:q=p
  .subst e;rw[dJ]at ho;cases ho;obtain⟨h1,k,c,e,g1,g2,g3,g4,g5,g6,g7⟩:=h.aJ q _ hp;refine⟨h1,k,c,e,g1,g2,g3,g4,by rw[g5,hl],g6,fun j x' aR=>?_⟩;have hlt:j<cs.length:=by rw[<-hl];exact(akY.1 aR).1
   exact(hv _ j _ x' (ak0 hlt) aR (g7 j _ (ak0 hlt))).mono (fun _ _ h=>h) (fun _ h=>h) ag
  .rw[gl q e]at ho;obtain⟨h1,h2⟩:=h.aJ q o ho;exact⟨h1,h2.mono (fun _ _ h=>h) (fun _ h=>h) ag rfl fun _ _=>rfl⟩
theorem Cq{H:Array Obj}{own:Nat->Prop}{used:List Nat}{hp:Name->Option Ob}{β:Name->Option a8}{v:Value}{p:Name}{w:W}(hu:nm used p)(ho:hp p=some (.arr w []))(h:VR H own used hp β v (.d .ao)):VR H own used hp β v (.vw p 0 0):=by
 have:=h.cA;cases this
 exact .vw _ _ _ _ hu rfl fun ty' w' xs hx=>by
  rw[ho]at hx;cases hx;exact⟨ali _,none,0,rfl,.inl ⟨rfl,rfl⟩⟩
section
variable {P:Program}{cf:Cf}{Q:Exit->St->Prop}{s:St}{k:List It}
theorem wa(E:bu P cf Q){c:Code}(t n:Nat)(w:W)(ht:s.fr t=.d .ao)(hn:n∉s.used)(h:e8 E c ((s.add n (.arr w [])).put t (.vw [n] 0 0)) k):e8 E c s k:=by
 intro B hB ds β a w' ai hs;have h1:=hs.sM hn none w;have h2:=h1.slots t;rw[show(s.add n (.arr w [])).fr t=.d .ao from ht]at h2;exact h B hB ds _ a w' ai (h1.sP (Cq (w:=w) ⟨n,[],rfl,alb⟩ (by simp[St.add,aA]) h2))
theorem nQ(E:bu P cf Q){c:Code}(p:Name)(j n:Nat)(w:W)(cs:List AV)(hp:s.hp p=some (.box cs))(hj:cs[j]?=some (.d .ao))(hn:n∉s.used)(h:e8 E c ((s.add n (.arr w [])).set p (some (.box (cs.set j (.vw [n] 0 0))))) k):e8 E c s k:=by
 intro B hB ds β a w' ai hs;have h1:=hs.sM hn none w;have ib:p≠[n]:=iU (hs.aJ p _ hp).1 hn;refine h B hB ds _ a w' ai (h1.Cp (cs:=cs) (by simpa[St.add,aA,ib]using hp) (by simp) fun v i x x' hx aR hv=>?_);by_cases e:j=i
 .subst e;rw[hj]at hx;cases hx;rw[alA (akY.1 hj).1]at aR;cases aR;exact Cq (w:=w) ⟨n,[],rfl,alb⟩ (by simp[St.add,aA]) hv
 .rw[alu e,hx]at aR;cases aR;exact hv
theorem PE(E:bu P cf Q){c:Code}(t:Nat)(a b:D)(ht:s.fr t=.d a)(hw:Wk a b)(h:e8 E c (s.put t (.d b)) k):e8 E c s k:=by
 intro B hB ds β a' w' ai hs;have h2:=hs.slots t;rw[ht]at h2;exact h B hB ds _ a' w' ai (hs.sP (h2.wk hw))
attribute [go_sem] List.set_cons_zero List.set_cons_succ
end
end Go.Ab
namespace Go.Ab
def gv(c:Bool)(x:AV):AV:=if c=true then x else .az []
def cb(c w:Bool):Bool:=if w=true then c else !c
theorem aco(c:Bool):cb c true=c:=rfl
theorem acp(c:Bool):cb c false=!c:=rfl
theorem JR(x:AV):gv true x=x:=rfl
theorem Fk(x:AV):gv false x=.az []:=rfl
def pk(c:Bool)(x y:AV):AV:=if c=true then x else y
theorem acq(x y:AV):pk true x y=x:=rfl
theorem acr(x y:AV):pk false x y=y:=rfl
theorem acs(c b:Bool):pk c (.d (.bool true)) (gv (!c) (.d (.bool b)))=.d (.bool (c||b)):=by cases c<;>rfl
theorem acu(c b:Bool):pk (!c) (.d (.bool true)) (gv c (.d (.bool b)))=.d (.bool (!c||b)):=by cases c<;>rfl
theorem acv(c b:Bool):pk c (gv c (.d (.bool b))) (.d (.bool false))=.d (.bool (c&&b)):=by cases c<;>rfl
attribute [go_sem] JR Fk aco acp acq acr acs acu acv Bool.not_not Option.bind_some
theorem acw(p:Name)(d:D)(c:Bool)(x:AV):(gv c x).cB p d=gv c (x.cB p d):=by cases c<;>rfl
attribute [go_sem] acw
theorem acx{c want:Bool}(h:c=want):cb c want=true:=by subst h;cases c<;>rfl
theorem acy{c want:Bool}(h:¬c=want):cb c want=false:=by cases c<;>cases want<;>first | rfl | exact absurd rfl h
section
variable {P:Program}{cf:Cf}{Q:Exit->St->Prop}{s:St}{k:List It}
theorem oO(E:bu P cf Q){t:Nat}{c want:Bool}{all:Array Oper}{r:List Oper}{d:Nat}{op:Op}{ty:TypeId}{ps:String}{af:Array Edge}{g:Option (Nat×Bool)}{x:AV}(hd:d<cf.n)
  (hx:c=want->E.run (.ops all r::k) ((s.put t (.d (.bool want))).put d x)->E.bc { dst:=some d,op:=op,type:=ty,pos:=ps,after:=af,guard:=none } (s.put t (.d (.bool want))) (.ops all r::k) (cV P.ti cf.n op (some d) (s.put t (.d (.bool want)))))
  (h:E.run (.ops all r::k) ((s.put t (.d (.bool c))).put d (gv (cb c want) x))):E.gd want all { dst:=some d,op:=op,type:=ty,pos:=ps,after:=af,guard:=g } r s k (some (t,.d (.bool c))):=by
 by_cases hc:c=want
 .have h1:=hx hc;rw[acx hc,JR]at h;subst hc;have h2:=h1 h;cases c
  .rw[Oi];exact h2
  .rw[Oh];exact h2
 .rw[acy hc,Fk]at h
  cases c<;>cases want<;>first
   |exact absurd rfl hc
   |(rw[Oj,ES (h:=hd)];exact h)
   |(rw[Ol,ES (h:=hd)];exact h)
theorem qX(E:bu P cf Q){t:Nat}{c e want:Bool}{all:Array Oper}{r:List Oper}{d:Nat}{op:Op}{ty:TypeId}{ps:String}{af:Array Edge}{g:Option (Nat×Bool)}{x:AV}(hd:d<cf.n)(hs:s.fr t=gv c (.d (.bool e)))
  (hx:c=true->e=want->E.run (.ops all r::k) ((s.put t (.d (.bool want))).put d x)->E.bc { dst:=some d,op:=op,type:=ty,pos:=ps,after:=af,guard:=none } (s.put t (.d (.bool want))) (.ops all r::k) (cV P.ti cf.n op (some d) (s.put t (.d (.bool want)))))
  (h:E.run (.ops all r::k) (s.put d (gv (c&&cb e want) x))):E.gd want all { dst:=some d,op:=op,type:=ty,pos:=ps,after:=af,guard:=g } r s k (some (t,gv c (.d (.bool e)))):=by
 by_cases hc:c=true
 .subst hc;rw[JR]at hs ⊢;refine oO E hd (hx rfl) ?_;rw[BK hs];exact h
 .have hc:c=false:=by simpa using hc
  subst hc;rw[Fk];rw[alQ,Fk]at h;rw[Om,ES (h:=hd)];exact h
theorem PF(E:bu P cf Q){x:R St}{o:Oper}{s2:St}(h:x.run (fun s'=>s'=s2) False)(hk:E.run k s2):E.bc o s k x:=by
 induction x with
 |ok a=>rw[IU];obtain rfl:a=s2:=h;exact hk
 |need p r ih=>rw[Og];exact⟨h.1,ih h.2⟩
 |no=>exact h.elim
theorem fm(E:bu P cf Q){t:Nat}{c want:Bool}{all:Array Oper}{r:List Oper}{d:Nat}{op:Op}{ty:TypeId}{ps:String}{af:Array Edge}{g:Option (Nat×Bool)}{x:AV}(hd:d<cf.n)
  (hx:c=want->(cV P.ti cf.n op (some d) (s.put t (.d (.bool want)))).run (fun s'=>s'=(s.put t (.d (.bool want))).put d x) False)
  (h:E.run (.ops all r::k) ((s.put t (.d (.bool c))).put d (gv (cb c want) x))):E.gd want all { dst:=some d,op:=op,type:=ty,pos:=ps,after:=af,guard:=g } r s k (some (t,.d (.bool c))) :=
 oO E hd (fun hc hk=>PF E (hx hc) hk) h
theorem uA(E:bu P cf Q){t:Nat}{c e want:Bool}{all:Array Oper}{r:List Oper}{d:Nat}{op:Op}{ty:TypeId}{ps:String}{af:Array Edge}{g:Option (Nat×Bool)}{x:AV}(hd:d<cf.n)(hs:s.fr t=gv c (.d (.bool e)))
  (hx:c=true->e=want->(cV P.ti cf.n op (some d) (s.put t (.d (.bool want)))).run (fun s'=>s'=(s.put t (.d (.bool want))).put d x) False)
  (h:E.run (.ops all r::k) (s.put d (gv (c&&cb e want) x))):E.gd want all { dst:=some d,op:=op,type:=ty,pos:=ps,after:=af,guard:=g } r s k (some (t,gv c (.d (.bool e)))) :=
 qX E hd hs (fun h1 h2 hk=>PF E (hx h1 h2) hk) h
theorem gm(E:bu P cf Q){d:Nat}{n:Nat}{c:Bool}{x y:AV}{o:Oper}(hd:d<n)(h:E.run k (s.put d (pk c x y))):E.bc o s k ((ui (.d (.bool c)) x y).bind (dp n (some d) s)):=by
 cases c<;>(simp only[ui,R.bind,dp,hd,if_true,IU];exact h)
theorem xN(E:bu P cf Q){t:Nat}{c want:Bool}{all:Array Oper}{r:List Oper}{d:Nat}{a b b':Operand}{ty:TypeId}{ps:String}{af:Array Edge}{g:Option (Nat×Bool)}{c2:Bool}{z:AV}(hd:d<cf.n)
  (hx:c=want->ev (s.put t (.d (.bool want))) a=.d (.bool c2)) (hz:c=want->pk c2 (ev (s.put t (.d (.bool want))) b) (ev (s.put t (.d (.bool want))) b')=z)
  (h:E.run (.ops all r::k) ((s.put t (.d (.bool c))).put d (gv (cb c want) z))):E.gd want all { dst:=some d,op:=.pick a b b',type:=ty,pos:=ps,after:=af,guard:=g } r s k (some (t,.d (.bool c))) :=
 oO E hd (fun hc hk=>by
  have e:cV P.ti cf.n (.pick a b b') (some d) (s.put t (.d (.bool want)))=(ui (.d (.bool c2)) (ev (s.put t (.d (.bool want))) b) (ev (s.put t (.d (.bool want))) b')).bind (dp cf.n (some d) (s.put t (.d (.bool want)))):=by
   rw[<-hx hc];rfl
  rw[e];refine gm E hd ?_;rw[hz hc]
  exact hk) h
theorem acz(E:bu P cf Q){t:Nat}{c e want:Bool}{all:Array Oper}{r:List Oper}{d:Nat}{a b b':Operand}{ty:TypeId}{ps:String}{af:Array Edge}{g:Option (Nat×Bool)}{c2:Bool}{z:AV}(hd:d<cf.n)(hs:s.fr t=gv c (.d (.bool e)))
  (hx:c=true->e=want->ev (s.put t (.d (.bool want))) a=.d (.bool c2)) (hz:c=true->e=want->pk c2 (ev (s.put t (.d (.bool want))) b) (ev (s.put t (.d (.bool want))) b')=z)
  (h:E.run (.ops all r::k) (s.put d (gv (c&&cb e want) z))):E.gd want all { dst:=some d,op:=.pick a b b',type:=ty,pos:=ps,after:=af,guard:=g } r s k (some (t,gv c (.d (.bool e)))) :=
 qX E hd hs (fun h1 h2 hk=>by
  have e':cV P.ti cf.n (.pick a b b') (some d) (s.put t (.d (.bool want)))=(ui (.d (.bool c2)) (ev (s.put t (.d (.bool want))) b) (ev (s.put t (.d (.bool want))) b')).bind (dp cf.n (some d) (s.put t (.d (.bool want)))):=by
   rw[<-hx h1 h2];rfl
  rw[e'];refine gm E hd ?_;rw[hz h1 h2]
  exact hk) h
theorem bK(E:bu P cf Q)(h:∀(Q':Exit->St->Prop) (_:Q'=Q) (E':bu P cf Q'),E'.run k s):E.run k s:=h Q rfl E
theorem JS(E:bu P cf Q){t e:TypeId}{x:Operand}{yt:TypeId}{dst:Nat}{ty:TypeId}{ps:String}{af:Array Edge}{w0:W}{xs:List D}(hk:(P.ti t).k=.slice e)(hd:dst<cf.n)(hx:ev s x=.d (.sl w0 xs))
  (h:∀b:Bool,(b=true->xs=[])->E.run k (s.put dst (.d (.bool b)))) :
  E.bc { dst:=some dst,op:=.binOp .eql t x (.const (.slice none 0 0)) yt,type:=ty,pos:=ps,after:=af,guard:=none } s k .no :=
 ab2 E false hk hd hx h
end
end Go.Ab
namespace Go.Ab
section
variable {P:Program}
theorem bZ.PG{G:List (Nat×Obj)}{f:FuncId}{args:List AV}{hp:List (Name×Ob)}{u:List Nat}{Q Q':AV->List (Name×Ob)->Prop}(h:bZ P G f args hp u Q)(n:Nat)(w:W)(hn:n∉u)
  (hQ:∀r ae,Q r ae->Q' r ae∨(r=.d .ao∧ae=[]∧Q' (.vw [n] 0 0) [([n],.arr w [])])):bZ P G f args hp u Q':=by
 refine⟨h.1,fun B β vs W h1 h2 h3 h4 h5=>?_⟩;refine(h.2 B β vs W h1 h2 h3 h4 h5).mono ?_;rintro e w' ⟨v,r,ae,u',β',he,hq,hs⟩;rcases hQ r ae hq with bX|⟨rfl,rfl,bX⟩
 .exact⟨v,r,ae,u',β',he,bX,hs⟩
 .have hle:Le ({ B with n:=1 }:Base).U0 id (mk [(0,.d .ao)] [] u') (mk [(0,.d .ao)] [] u):=by
   refine cw.le ?_;refine⟨⟨⟨rfl,rfl⟩,trivial⟩,trivial,trivial,?_,trivial⟩;rw[show({ B with n:=1 }:Base).U0=u from h3];simp
  obtain⟨β2,br,_⟩:=hs.le hle;have h6:=br.sM (t:=n) (by rw[aT];exact hn) none w;have h7:=h6.slots 0;rw[show((mk [(0,AV.d .ao)] [] u).add n (.arr w [])).fr 0=.d .ao from rfl]at h7;have h8:=h6.sP (Cq (p:=[n]) (w:=w) ⟨n,[],rfl,alb⟩ (by simp[St.add,aA]) h7)
  have e2:((mk [(0,AV.d .ao)] [] u).add n (.arr w [])).put 0 (.vw [n] 0 0)=mk [(0,.vw [n] 0 0)] [([n],.arr w [])] (n::u):=by
   rw[N5,N4];rfl
  rw[e2]at h8;exact⟨v,_,_,_,_,he,bX,h8⟩
end
end Go.Ab

namespace Go.Proofs.YtpmniabdmbmafaaGreatDoor
open Go.Ab Tryz
def p8(k:Int):Bool:=(decide (k=6)||decide (k=9))||decide (k=10)
def ij(k:Int):Bool:=decide (k=7)||decide (k=8)
def fT(k:Int):Bool:=decide (k=9)||decide (k=10)
def fU(n:TN):List Int:=if p8 n.k then[n.a,n.b]else if ij n.k then n.l.map (·.2)else[]
def aL(l:List Int):D:=.sl none (l.map i64)
def bU(ns:List TN)(root:Int):D:=.agg [.sl (some 4) (ns.map aK),i64 root]
def WkR(d:D)(r:AV):Prop:=∃a,r=.d a∧Wk a d
theorem p9{P:Program}{G:List (Nat×Obj)}{f:FuncId}{ds:List D}{d:D}(h:HP P G f ds (WkR d)):HP P G f ds (fun r=>r=.d d) :=
 h.wkr fun _ ⟨a,e,hw⟩=>⟨a,d,e,hw,rfl⟩
theorem PH{G}(k:Int):HP prog G 67 [i64 k] (fun r=>r=.d (.bool (p8 k))):=by
 refine cj func67 rfl (by decide +kernel) (by simp[ntmps67]) (aS fun E=>?_);simp only[go_sem];refine bH E ?_ ?_<;>intro h1<;>simp only[go_sem]
 .simp[p8,h1]
 refine bH E ?_ ?_<;>intro h2<;>simp only[go_sem]
 .simp[p8,h1,h2]
 .simp[p8,h1,h2]
theorem PJ{G}(k:Int):HP prog G 68 [i64 k] (fun r=>r=.d (.bool (ij k))):=by
 refine cj func68 rfl (by decide +kernel) (by simp[ntmps68]) (aS fun E=>?_);simp only[go_sem];refine bH E ?_ ?_<;>intro h1<;>simp only[go_sem]
 .simp[ij,h1]
 .simp[ij,h1]
theorem acA{G}(k:Int):HP prog G 74 [i64 k] (fun r=>r=.d (.bool (fT k))):=by
 refine cj func74 rfl (by decide +kernel) (by simp[ntmps74]) (aS fun E=>?_);simp only[go_sem];refine bH E ?_ ?_<;>intro h1<;>simp only[go_sem]
 .simp[fT,h1]
 .simp[fT,h1]
theorem PL{l:List da}{i:Nat}(h:i<l.length):(l.take i).map (fun f=>i64 f.2)++[i64 l[i].2]=(l.take (i+1)).map fun f=>i64 f.2:=by
 rw[ak9 h,alh];rfl
theorem JT{G}(n:TN)(hl:n.l.length<=1000000):HP prog G 71 [aK n] (fun r=>r=.d (aL (fU n))):=by
 refine p9 ?_;unfold aK eo;refine fK func71 rfl (by decide +kernel) (by simp[ntmps71]) (aS fun E=>?_);simp only[go_sem];refine bd E (PH n.k) rfl rfl (by simp) ?_;rintro _ rfl;simp only[go_sem];refine ck E ?_ ?_<;>intro hp<;>simp only[go_sem]
 .refine⟨[([13],none,[i64 n.a,i64 n.b])],?_⟩;simp only[go_sem];refine⟨_,rfl,?_⟩;simp only[aL,fU,hp,if_true,alf,alJ];exact .refl _
 refine bd E (PJ n.k) rfl rfl (by simp) ?_;rintro _ rfl;simp only[go_sem];refine ck E ?_ ?_<;>intro hw<;>simp only[go_sem]
 .refine eU E [1] (.agg [i64 n.k,i64 n.a,i64 n.b,.sl (some 2) (n.l.map aP)]) rfl rfl ?_;simp only[go_sem];refine wa E 3 99 none rfl (by rw[aT];decide) ?_;simp only[go_sem];refine bC E (X:={ i:Nat // i<=n.l.length }) (fun x=>[(3,.vw [99] 0 x.1),(18,.d (.sl (some 2) (n.l.map aP))),(19,.d (i64 n.l.length)),(20,.d (i64 x.1))]) (fun x=>[([99],.arr none ((n.l.take x.1).map fun f=>i64 f.2))]) [99] (fun x=>n.l.length-x.1) ⟨0,ale _⟩ id ?_ ?_
  .simp only[go_sem]
   all_goals rfl
  rintro⟨i,hi⟩ E';simp only[go_sem];refine aI E' ?_ ?_<;>intro h1<;>simp only[go_sem]
  .have bf:i<n.l.length:=by omega
   have hx:(n.l.map aP).getD i .aY=.agg [.str n.l[i].1,i64 n.l[i].2]:=by simp[bf,aP]
   refine⟨by omega,?_⟩;rw[hx];simp only[go_sem];refine⟨?_,⟨i+1,by omega⟩,by show n.l.length-(i+1)<_;omega,ak [([99],[28])],?_⟩
   .omega
   simp only[go_sem];refine⟨by rw[aD ⟨by omega,by omega⟩];rfl,?_⟩;rw[ak5 (by simp;omega),<-PL bf]
  .refine⟨[([99],none,(n.l.take i).map fun f=>i64 f.2)],?_⟩;simp only[go_sem];refine⟨_,rfl,?_⟩;have:i=n.l.length:=by omega
   subst this;simp only[aL,fU,hp,hw,if_true,als,if_false,alD,alk];rw[ak5 (by simp)];exact .refl _
 .refine⟨[],?_⟩;simp only[go_sem];refine⟨_,rfl,?_⟩;simp only[aL,fU,hp,hw,als,if_false,alJ];exact .ao _
end Go.Proofs.YtpmniabdmbmafaaGreatDoor

namespace Go.Proofs.YtpmniabdmbmafaaGreatDoor
open Go.Ab Tryz
theorem fe{l:List Int}{i:Nat}(h:i<l.length):(l.map i64).getD i .aY=i64 l[i]:=by simp[h]
theorem Fl{G}(a b:List Int)(ha:a.length<=1000000):HP prog G 28 [aL a,aL b] (fun r=>r=.d (.bool (decide (a=b)))):=by
 unfold aL;refine cj func28 rfl (by decide +kernel) (by simp[ntmps28]) (aS fun E=>?_);simp only[go_sem];refine aI E ?_ ?_<;>intro h0<;>simp only[go_sem]
 .have:a≠b:=fun e=>h0 (by rw[e]);simp[this]
 have h0:a.length=b.length:=by omega
 refine pU E (X:={ i:Nat // i<=a.length∧a.take i=b.take i }) (fun x=>[(0,.d (.sl none (a.map i64))),(1,.d (.sl none (b.map i64))),(5,.d (i64 x.1))]) (fun x=>a.length-x.1) rfl ⟨0,ale _,rfl⟩ ?_ ?_
 .simp only[go_sem]
  all_goals rfl
 rintro⟨i,hi,eC⟩ E';simp only[go_sem];refine aI E' ?_ ?_<;>intro h1<;>simp only[go_sem]
 .have bf:i<a.length:=by omega
  have mM:i<b.length:=by omega
  refine OH mixed (by decide +kernel) E' fun E2=>?_;simp only[go_sem];refine⟨by omega,?_⟩;rw[fe bf];simp only[go_sem];refine⟨by omega,?_⟩;rw[fe mM];simp only[go_sem];refine aI E' ?_ ?_<;>intro h2<;>simp only[go_sem]
  .have:a≠b:=fun e=>h2 (by subst e;rfl);simp[this]
  .refine⟨⟨i+1,by omega,?_⟩,by show a.length-(i+1)<_;omega,?_⟩
   .have h2:a[i]=b[i]:=by simpa using h2
    rw[ak9 bf,ak9 mM,eC,h2]
   .rw[aD ⟨by omega,by omega⟩];rfl
 .have h3:i=a.length:=by omega
  subst h3;rw[alk,h0,alk]at eC;simp[eC]
end Go.Proofs.YtpmniabdmbmafaaGreatDoor

namespace Go.Proofs.YtpmniabdmbmafaaGreatDoor
open Go.Ab Tryz
theorem JU{α:Type}{p:α->Bool}{l:List α}{i:Nat}(h:i<l.length)(ha:(l.take i).any p=false)(hp:p l[i]=false):(l.take (i+1)).any p=false:=by
 rw[ak9 h,List.any_append,ha,anC];simp[hp]
theorem acB{G}(l:List Int)(p:Int->Bool)(f:Nat)(aG:List D)(hl:l.length<=1000000)(hc:∀x∈l,HP prog G f (i64 x::aG) (fun r=>r=.d (.bool (p x)))) :
  HP prog G 105 [aL l,.aH f aG] (fun r=>∃z:Int,r=.d (i64 z)∧decide (0<=z)=l.any p):=by
 unfold aL;have dj:∀{i:Nat} (h:i<l.length),(l.map i64).getD i .aY=i64 l[i]:=fun h=>fe h;refine cj func105 rfl (by decide +kernel) (by simp[ntmps105]) (aS fun E=>?_);simp only[go_sem];refine pU E (X:={ i:Nat // i<=l.length∧(l.take i).any p=false }) (fun x=>[(0,.d (.sl none (l.map i64))),(1,.d (.aH f aG)),(6,.d (.sl none (l.map i64))),(7,.d (i64 l.length)),(8,.d (i64 x.1))]) (fun x=>l.length-x.1) rfl ⟨0,ale _,by simp⟩ ?_ ?_
 .simp only[go_sem]
  all_goals rfl
 rintro⟨i,hi,eC⟩ E';simp only[go_sem];refine aI E' ?_ ?_<;>intro h1<;>simp only[go_sem]
 .have bf:i<l.length:=by omega
  refine⟨by omega,?_⟩;rw[dj bf];simp only[go_sem];refine JH E' (hc l[i] (ak2 bf)) rfl rfl (by simp) ?_;rintro _ rfl;simp only[go_sem];refine ck E' ?_ ?_<;>intro h2<;>simp only[go_sem]
  .refine⟨_,rfl,?_⟩;have:l.any p=true:=alG.2 ⟨l[i],ak2 bf,h2⟩;rw[this];exact decide_eq_true (anP _)
  .refine⟨⟨i+1,by omega,JU bf eC h2⟩,by show l.length-(i+1)<_;omega,?_⟩;rw[aD ⟨by omega,by omega⟩];rfl
 .have h3:i=l.length:=by omega
  subst h3;rw[alk]at eC;refine⟨_,rfl,?_⟩;rw[eC];decide
theorem PN{G}(l:List Int)(p:Int->Bool)(f:Nat)(aG:List D)(hl:l.length<=1000000)(hc:∀x∈l,HP prog G f (i64 x::aG) (fun r=>r=.d (.bool (p x)))) :
  HP prog G 70 [aL l,.aH f aG] (fun r=>r=.d (.bool (l.any p))):=by
 refine cj func70 rfl (by decide +kernel) (by simp[ntmps70]) (aS fun E=>?_);simp only[go_sem];refine bd E (acB l p f aG hl hc) rfl rfl (by simp) ?_;rintro _ ⟨z,rfl,hz⟩;simp only[go_sem];rw[hz]
theorem acC{l:List TN}{i:Nat}(h:i<l.length):(l.map aK).getD i .aY=aK l[i]:=by simp[h]
theorem JV{l:List TN}{i:Nat}(h:i<l.length):(l.map aK).getD i .aY=.agg [i64 l[i].k,i64 l[i].a,i64 l[i].b,.sl (some 2) (l[i].l.map aP)]:=acC h
theorem acD{G}(l:List TN)(p:TN->Bool)(f:Nat)(aG:List D)(hl:l.length<=1000000)(hc:∀x∈l,HP prog G f (aK x::aG) (fun r=>r=.d (.bool (p x)))) :
  HP prog G 66 [.sl (some 4) (l.map aK),.aH f aG] (fun r=>∃z:Int,r=.d (i64 z)∧decide (0<=z)=l.any p):=by
 have dj:∀{i:Nat} (h:i<l.length),(l.map aK).getD i .aY=.agg [i64 l[i].k,i64 l[i].a,i64 l[i].b,.sl (some 2) (l[i].l.map aP)]:=fun h=>JV h;refine cj func66 rfl (by decide +kernel) (by simp[ntmps66]) (aS fun E=>?_);simp only[go_sem];refine pU E (X:={ i:Nat // i<=l.length∧(l.take i).any p=false }) (fun x=>[(0,.d (.sl (some 4) (l.map aK))),(1,.d (.aH f aG)),(6,.d (.sl (some 4) (l.map aK))),(7,.d (i64 l.length)),(8,.d (i64 x.1))]) (fun x=>l.length-x.1) rfl ⟨0,ale _,by simp⟩ ?_ ?_
 .simp only[go_sem]
  all_goals rfl
 rintro⟨i,hi,eC⟩ E';simp only[go_sem];refine aI E' ?_ ?_<;>intro h1<;>simp only[go_sem]
 .have bf:i<l.length:=by omega
  refine⟨by omega,?_⟩;rw[dj bf];simp only[go_sem];refine JH E' (hc l[i] (ak2 bf)) rfl rfl (by simp) ?_;rintro _ rfl;simp only[go_sem];refine ck E' ?_ ?_<;>intro h2<;>simp only[go_sem]
  .refine⟨_,rfl,?_⟩;have:l.any p=true:=alG.2 ⟨l[i],ak2 bf,h2⟩;rw[this];exact decide_eq_true (anP _)
  .refine⟨⟨i+1,by omega,JU bf eC h2⟩,by show l.length-(i+1)<_;omega,?_⟩;rw[aD ⟨by omega,by omega⟩];rfl
 .have h3:i=l.length:=by omega
  subst h3;rw[alk]at eC;refine⟨_,rfl,?_⟩;rw[eC];decide
theorem acE{G}(l:List TN)(p:TN->Bool)(f:Nat)(aG:List D)(hl:l.length<=1000000)(hc:∀x∈l,HP prog G f (aK x::aG) (fun r=>r=.d (.bool (p x)))) :
  HP prog G 39 [.sl (some 4) (l.map aK),.aH f aG] (fun r=>r=.d (.bool (l.any p))):=by
 refine cj func39 rfl (by decide +kernel) (by simp[ntmps39]) (aS fun E=>?_);simp only[go_sem];refine bd E (acD l p f aG hl hc) rfl rfl (by simp) ?_;rintro _ ⟨z,rfl,hz⟩;simp only[go_sem];rw[hz]
def Cr(all x:Int):Bool:=decide (x<0)||decide (all<=x)
theorem acF{G}(x all:Int):HP prog G 72 [i64 x,.ptr (i64 all)] (fun r=>r=.d (.bool (Cr all x))):=by
 refine cj func72 rfl (by decide +kernel) (by simp[ntmps72]) (aS fun E=>?_);simp only[go_sem]
 repeat (first
  |(apply fm E;(· simp only[go_sem]);(· intro h;(try simp only[bq]at h);simp only[↓h,go_sem];rfl);simp only[go_sem])
  |(apply gm E;(· decide);simp only[go_sem]))
 rfl
def dF(l:List da)(i:Nat):List UInt8:=(l.getD i ([],0)).1
def uB(k:Int)(s:List UInt8):Bool:=(decide (k=7)&&!lO s)||(decide (k=8)&&!mL s)
def jI(l:List da)(i:Nat):Bool:=decide (0<i)&&!Op.bytesLess (dF l (i-1)) (dF l i)
def wb(k:Int)(l:List da):Bool:=(List.range l.length).all fun i=>!uB k (dF l i)&&!jI l i
theorem PO{k:Int}{l:List da}{i:Nat}(h:((List.range i).all fun i=>!uB k (dF l i)&&!jI l i)=true)(h1:uB k (dF l i)=false)(h2:jI l i=false):((List.range (i+1)).all fun i=>!uB k (dF l i)&&!jI l i)=true:=by
 rw[anI,anJ,h];simp[h1,h2]
theorem PQ{k:Int}{l:List da}{i:Nat}(hi:i<l.length)(h:uB k (dF l i)=true∨jI l i=true):wb k l=false:=by
 unfold wb;rw[anz];refine⟨i,alw.2 hi,?_⟩;rcases h with h|h<;>simp[h]
theorem Fo{l:List da}{i:Nat}(h:i<l.length):(l.map aP).getD i .aY=.agg [.str (dF l i),i64 l[i].2]:=by simp[h,dF,aP]
theorem PR{G}(n:TN)(hl:n.l.length<=1000000)(hs:∀f∈n.l,f.1.length<=9223372036854775807):HP prog G 69 [aK n] (fun r=>r=.d (.bool (wb n.k n.l&&decide (n.l.length<=30)))):=by
 unfold aK eo;refine cj func69 rfl (by decide +kernel) (by simp[ntmps69]) (aS fun E=>?_);simp only[go_sem];refine eU E [1] (.agg [i64 n.k,i64 n.a,i64 n.b,.sl (some 2) (n.l.map aP)]) rfl rfl ?_;simp only[go_sem];refine pU E (X:={ i:Nat // i<=n.l.length∧((List.range i).all fun i=>!uB n.k (dF n.l i)&&!jI n.l i)=true }) (fun x=>[(1,.d (.ptr (.agg [i64 n.k,i64 n.a,i64 n.b,.sl (some 2) (n.l.map aP)]))),(6,.d (.sl (some 2) (n.l.map aP))),(7,.d (i64 n.l.length)),(8,.d (i64 x.1))]) (fun x=>n.l.length-x.1) rfl ⟨0,ale _,rfl⟩ ?_ ?_
 .simp only[go_sem]
  all_goals rfl
 rintro⟨i,hi,eC⟩ E;simp only[go_sem];refine aI E ?_ ?_<;>intro h1<;>simp only[go_sem]
 .have bf:i<n.l.length:=by omega
  have hlen:(dF n.l i).length<=9223372036854775807:=by
   have:=hs n.l[i] (ak2 bf);simp only[dF,akX,ak0 bf,Option.getD_some];omega
  refine⟨by omega,?_⟩;rw[Fo bf];simp only[go_sem]
  repeat (first
   |(apply fm E;(· simp only[go_sem]);(· intro h;(try simp only[bq]at h);simp only[↓h,go_sem];rfl);simp only[go_sem]))
  (first|(apply oO E;(· simp only[go_sem]);(· intro h hk;(try simp only[bq]at h);refine bd E (JN (dF n.l i) hlen) rfl (by simp only[↓h,go_sem]<;>rfl) (by simp) ?_;rintro _ rfl;exact hk);simp only[go_sem])|(apply qX E;(· simp only[go_sem]);(· rfl);(· intro h h' hk;(try simp only[bq]at h h');refine bd E (JN (dF n.l i) hlen) rfl (by simp only[↓h,↓h',go_sem]<;>rfl) (by simp) ?_;rintro _ rfl;exact hk);simp only[go_sem]))
  repeat (first
   |(apply fm E;(· simp only[go_sem]);(· intro h;(try simp only[bq]at h);simp only[↓h,go_sem];rfl);simp only[go_sem])
   |(apply uA E;(· simp only[go_sem]);(· rfl);(· intro h h';(try simp only[bq]at h h');simp only[↓h,↓h',go_sem];rfl);simp only[go_sem])
   |(apply gm E;(· decide);simp only[go_sem]))
  (first|(apply oO E;(· simp only[go_sem]);(· intro h hk;(try simp only[bq]at h);refine bd E (JO (dF n.l i) hlen) rfl (by simp only[↓h,go_sem]<;>rfl) (by simp) ?_;rintro _ rfl;exact hk);simp only[go_sem])|(apply qX E;(· simp only[go_sem]);(· rfl);(· intro h h' hk;(try simp only[bq]at h h');refine bd E (JO (dF n.l i) hlen) rfl (by simp only[↓h,↓h',go_sem]<;>rfl) (by simp) ?_;rintro _ rfl;exact hk);simp only[go_sem]))
  repeat (first
   |(apply xN E;(· simp only[go_sem]);(· intro h;(try simp only[bq]at h);simp only[↓h,go_sem];rfl);(· intro h;(try simp only[bq]at h);simp only[↓h,go_sem];rfl);simp only[go_sem])
   |(apply uA E;(· simp only[go_sem]);(· rfl);(· intro h h';(try simp only[bq]at h h');simp only[↓h,↓h',go_sem];rfl);simp only[go_sem])
   |(apply gm E;(· decide);simp only[go_sem]))
  refine ck E ?_ ?_<;>intro h2<;>simp only[go_sem]
  .rw[PQ bf (.inl h2),alQ]
  refine OH mixed (by decide +kernel) E fun E2=>?_;simp only[go_sem];refine Zk E2 ?_ ?_<;>intro h3<;>simp only[go_sem]
  .have hw:lL ((i:Int)-1)=((i-1:Nat):Int):=by rw[aD ⟨by omega,by omega⟩];omega
   have h4:i-1<n.l.length:=by omega
   rw[hw];refine⟨by omega,?_⟩;rw[Int.toNat_natCast,Fo h4];simp only[go_sem];refine ck E ?_ ?_<;>intro h5<;>simp only[go_sem]
   .have:jI n.l i=true:=by
     have h5:Op.bytesLess (dF n.l (i-1)) (dF n.l i)=false:=by simpa using h5
     simp only[jI,h5,amV,ana,decide_eq_true_eq];omega
    rw[PQ bf (.inr this),alQ]
   .refine⟨⟨i+1,by omega,PO eC h2 ?_⟩,by show n.l.length-(i+1)<_;omega,?_⟩
    .have h5:Op.bytesLess (dF n.l (i-1)) (dF n.l i)=true:=by simpa using h5
     simp only[jI,h5,amA,amC]
    .rw[aD ⟨by omega,by omega⟩];rfl
  .refine⟨⟨i+1,by omega,PO eC h2 ?_⟩,by show n.l.length-(i+1)<_;omega,?_⟩
   .simp only[jI,amQ,decide_eq_false_iff_not];exact .inl (by omega)
   .rw[aD ⟨by omega,by omega⟩];rfl
 .have h3:i=n.l.length:=by omega
  subst h3;have:wb n.k n.l=true:=eC;rw[this,ame];exact congrArg (fun b=>AV.d (.bool b)) (by simp[decide_eq_decide];omega)
def kK(n:TN)(all:Int):Bool:=!(decide (n.k<1)||decide (11<n.k))&&!(!p8 n.k&&(decide (¬n.b=0)||decide (¬n.k=11)&&decide (¬n.a=0)))&&!(decide (n.k=11)&&(decide (n.a<0)||decide (999<n.a))) &&
 !(!ij n.k&&decide (0<(n.l.length:Int))||!(wb n.k n.l&&decide (n.l.length<=30)))&&!(fU n).any (Cr all)
theorem acG{G}(n:TN)(all:Int)(hl:n.l.length<=1000000)(hs:∀f∈n.l,f.1.length<=9223372036854775807):HP prog G 41 [aK n,i64 all] (fun r=>r=.d (.bool (kK n all))):=by
 have hk:(fU n).length<=1000000:=by
  unfold fU;split
  .simp
  .split<;>simp;omega
 refine cj func41 rfl (by decide +kernel) (by simp[ntmps41]) (aS fun E=>?_);unfold aK eo;simp only[go_sem]
 repeat (first
  |(apply fm E;(· simp only[go_sem]);(· intro h;(try simp only[bq]at h);simp only[↓h,go_sem];rfl);simp only[go_sem])
  |(apply gm E;(· decide);simp only[go_sem]))
 refine ck E ?_ ?_<;>intro h1<;>simp only[go_sem]
 .simp only[kK,h1,amA,alQ]
 refine bd E (PH n.k) rfl rfl (by simp) ?_;rintro _ rfl;simp only[go_sem]
 repeat (first
  |(apply fm E;(· simp only[go_sem]);(· intro h;(try simp only[bq]at h);simp only[↓h,go_sem];rfl);simp only[go_sem])
  |(apply xN E;(· simp only[go_sem]);(· intro h;(try simp only[bq]at h);simp only[↓h,go_sem];rfl);(· intro h;(try simp only[bq]at h);simp only[↓h,go_sem];rfl);simp only[go_sem])
  |(apply uA E;(· simp only[go_sem]);(· rfl);(· intro h h';(try simp only[bq]at h h');simp only[↓h,↓h',go_sem];rfl);simp only[go_sem])
  |(apply acz E;(· simp only[go_sem]);(· rfl);(· intro h h';(try simp only[bq]at h h');simp only[↓h,↓h',go_sem];rfl);(· intro h h';(try simp only[bq]at h h');simp only[↓h,↓h',go_sem];rfl);simp only[go_sem])
  |(apply gm E;(· decide);simp only[go_sem]))
 refine ck E ?_ ?_<;>intro h2<;>simp only[go_sem]
 .simp only[kK,h2,amA,alQ,amC]
 repeat (first
  |(apply fm E;(· simp only[go_sem]);(· intro h;(try simp only[bq]at h);simp only[↓h,go_sem];rfl);simp only[go_sem])
  |(apply xN E;(· simp only[go_sem]);(· intro h;(try simp only[bq]at h);simp only[↓h,go_sem];rfl);(· intro h;(try simp only[bq]at h);simp only[↓h,go_sem];rfl);simp only[go_sem])
  |(apply uA E;(· simp only[go_sem]);(· rfl);(· intro h h';(try simp only[bq]at h h');simp only[↓h,↓h',go_sem];rfl);simp only[go_sem])
  |(apply gm E;(· decide);simp only[go_sem]))
 refine ck E ?_ ?_<;>intro h3<;>simp only[go_sem]
 .simp only[kK,h3,amA,alQ,amC]
 refine bd E (PJ n.k) rfl rfl (by simp) ?_;rintro _ rfl;simp only[go_sem]
 repeat (first
  |(apply fm E;(· simp only[go_sem]);(· intro h;(try simp only[bq]at h);simp only[↓h,go_sem];rfl);simp only[go_sem])
  |(apply gm E;(· decide);simp only[go_sem]))
 (first|(apply oO E;(· simp only[go_sem]);(· intro h hk;(try simp only[bq]at h);refine bd E (PR n hl hs) rfl (by simp only[↓h,go_sem]<;>rfl) (by simp) ?_;rintro _ rfl;exact hk);simp only[go_sem])|(apply qX E;(· simp only[go_sem]);(· rfl);(· intro h h' hk;(try simp only[bq]at h h');refine bd E (PR n hl hs) rfl (by simp only[↓h,↓h',go_sem]<;>rfl) (by simp) ?_;rintro _ rfl;exact hk);simp only[go_sem]))
 repeat (first
  |(apply fm E;(· simp only[go_sem]);(· intro h;(try simp only[bq]at h);simp only[↓h,go_sem];rfl);simp only[go_sem])
  |(apply gm E;(· decide);simp only[go_sem]))
 refine ck E ?_ ?_<;>intro h4<;>simp only[go_sem]
 .simp only[kK,h4,amA,alQ,amC]
 refine bd E (JT n hl) rfl rfl (by simp) ?_;rintro _ rfl;simp only[go_sem];refine JG E [3] (i64 all) rfl rfl ?_;simp only[go_sem];refine bd E (PN (fU n) (Cr all) 72 [.ptr (i64 all)] hk (fun x _=>acF x all)) rfl rfl (by simp) ?_;rintro _ rfl;simp only[go_sem];simp only[kK,h1,h2,h3,h4,amV,ame]
end Go.Proofs.YtpmniabdmbmafaaGreatDoor

namespace Go.Ab
structure EA where
 plus:Bool
 al:Bool
 int:Bool
 bool:Bool
 str:Bool
 arr:Bool
 rc:Bool
 tg:Bool
 vars:List Int
 bD:Int
 bE:Int
 fl:List (List UInt8×Int)
 tl:List (List UInt8×Int)
 deriving DecidableEq,Inhabited
def EA.next(s:EA):List Int:=(if s.arr then[s.bD,s.bE]else[])++(s.fl.map (·.2)++s.tl.map (·.2))
def EA.self(s:EA):(List Bool×List Int)×List (List UInt8)×List (List UInt8) :=
 (([s.plus,s.al,s.int,s.bool,s.str,s.arr,s.rc,s.tg],s.vars),s.fl.map (·.1),s.tl.map (·.1))
def EA.mv(f:Int->Int)(s:EA):EA :=
 { s with bD:=if s.arr then f s.bD else s.bD,bE:=if s.arr then f s.bE else s.bE,fl:=s.fl.map fun q=>(q.1,f q.2),tl:=s.tl.map fun q=>(q.1,f q.2) }
theorem JW(f:Int->Int)(s:EA):(s.mv f).self=s.self:=by
 simp[EA.mv,EA.self,alD,Function.comp_def]
theorem JX(f:Int->Int)(s:EA):(s.mv f).next=s.next.map f:=by
 unfold EA.next EA.mv;cases s.arr<;>simp[alD,Function.comp_def]
theorem PT{a b:EA}(h:a.self=b.self):a.next.length=b.next.length:=by
 simp only[EA.self,amd,al3]at h;have h1:=congrArg List.length h.2.1;have h2:=congrArg List.length h.2.2;simp only[alg]at h1 h2;unfold EA.next;rw[h.1.1.2.2.2.2.2.1];split<;>simp[h1,h2]
def dB(l:List EA)(i:Nat):List Nat:=(l.getD i default).next.map Int.toNat
def jW(l:List EA)(i:Nat):=(l.getD i default).self
def PU(l:List EA)(R:Nat->Nat->Prop):Prop:=∀i j,R i j->jW l i=jW l j∧∀(k a b:Nat),(dB l i)[k]?=some a->(dB l j)[k]?=some b->R a b
def alike(l:List EA)(i j:Nat):Prop:=∃R,PU l R∧R i j
theorem acH{l:List EA}{i j:Nat}(h:jW l i=jW l j):(dB l i).length=(dB l j).length:=by
 simp only[dB,alg];exact PT h
theorem alike_refl(l:List EA)(i:Nat):alike l i i:=⟨fun a b=>a=b,fun i j h=>by subst h;exact⟨rfl,fun k a b h1 h2=>by rw[h1]at h2;exact alo h2⟩,rfl⟩
theorem acI{l:List EA}{i j:Nat}(h:alike l i j):alike l j i:=by
 obtain⟨R,hR,h⟩:=h;exact⟨fun a b=>R b a,fun a b h=>⟨(hR _ _ h).1.symm,fun k x y h1 h2=>(hR _ _ h).2 k y x h2 h1⟩,h⟩
theorem acJ{l:List EA}{i j k:Nat}(h:alike l i j)(h':alike l j k):alike l i k:=by
 obtain⟨R,hR,h⟩:=h;obtain⟨S,hS,h'⟩:=h';refine⟨fun a b=>∃c,R a c∧S c b,?_,j,h,h'⟩;rintro a b ⟨c,h1,h2⟩;refine⟨(hR _ _ h1).1.trans (hS _ _ h2).1,fun k x y hx hy=>?_⟩;have hl:=acH (hR _ _ h1).1;have hk:k<(dB l c).length:=by rw[<-hl];exact(akY.1 hx).1
 obtain⟨z,hz⟩:∃z,(dB l c)[k]?=some z:=⟨_,ak0 hk⟩
 exact⟨z,(hR _ _ h1).2 k x z hx hz,(hS _ _ h2).2 k z y hz hy⟩
theorem zA(l:List EA):PU l (alike l):=by
 rintro i j ⟨R,hR,h⟩;exact⟨(hR _ _ h).1,fun k a b h1 h2=>⟨R,hR,(hR _ _ h).2 k a b h1 h2⟩⟩
def mN(l:List EA)(out:List Nat):Prop:=out.length=l.length∧∀i<l.length,alike l i (out.getD i 0)∧∀j<out.getD i 0,¬alike l i j
theorem PV{l:List EA}{a b:List Nat}(h:mN l a)(h':mN l b):a=b:=by
 apply al9 (h.1.trans h'.1.symm);intro i h1 h2;have hi:i<l.length:=h.1▸h1;obtain⟨x,y⟩:=h.2 i hi;obtain⟨x',y'⟩:=h'.2 i hi;rw[akX,ak0 h1,Option.getD_some]at x y;rw[akX,ak0 h2,Option.getD_some]at x' y';rcases anT a[i] b[i]with h|h|h
 .exact absurd x (y' _ h)
 .exact h
 .exact absurd x' (y _ h)
theorem Ct{l:List EA}{a:List Nat}(h:mN l a){i:Nat}(hi:i<l.length):a.getD i 0<=i:=by
 rcases alP i (a.getD i 0)with h1|h1
 .exact absurd (alike_refl l i) ((h.2 i hi).2 i h1)
 .exact h1
end Go.Ab

namespace Go.Ab
def gp:List Nat->List Nat->List Nat
 |L,[]=>L
 |L,k::r=>gp (if k∈L then L else L++[k]) r
def nT(nx:Nat->List Nat):Nat->Nat->List Nat->List Nat
 |0,_,L=>L
 |f+1,i,L=>match L[i]? with
   |none=>L
   |some x=>nT nx f (i+1) (gp L (nx x))
theorem Cu:∀(ks L:List Nat),∃r,gp L ks=L++r∧∀x∈r,x∈ks
 |[],L=>⟨[],by simp[gp],by simp⟩
 |k::ks,L=>by
   unfold gp;obtain⟨r,h,hr⟩:=Cu ks (if k∈L then L else L++[k]);rw[h];split
   .exact⟨r,rfl,fun x hx=>ald _ (hr x hx)⟩
   .exact⟨k::r,by simp,fun x hx=>by
     rcases alc.1 hx with rfl|hx
     .simp
     .exact ald _ (hr x hx)⟩
theorem PW:∀(ks L:List Nat),∀x∈ks,x∈gp L ks
 |k::ks,L,x,hx=>by
   unfold gp;rcases alc.1 hx with rfl|hx
   .obtain⟨r,h,_⟩:=Cu ks (if x∈L then L else L++[x]);rw[h];split
    .rename_i h;exact alm _ h
    .simp
   .exact PW ks _ x hx
theorem Cv:∀(ks L:List Nat),L.Nodup->(gp L ks).Nodup
 |[],L,h=>h
 |k::ks,L,h=>by
   unfold gp;apply Cv;split
   .exact h
   .rename_i hk;rw[alZ];exact⟨h,by simp,fun a ha b hb e=>hk (by rw[ak3.1 hb]at e;exact e▸ha)⟩
section
variable {nx:Nat->List Nat}
theorem JY:∀(f i:Nat) (L:List Nat),∃r,nT nx f i L=L++r
 |0,_,L=>⟨[],by simp[nT]⟩
 |f+1,i,L=>by
   unfold nT;split
   .exact⟨[],by simp⟩
   .obtain⟨r,h⟩:=JY f (i+1) (gp L (nx ‹_›));obtain⟨r',h',_⟩:=Cu (nx ‹_›) L;exact⟨r'++r,by rw[h,h',alK]⟩
theorem PX:∀(f i:Nat) (L:List Nat),L.Nodup->(nT nx f i L).Nodup
 |0,_,L,h=>h
 |f+1,i,L,h=>by
   unfold nT;split
   .exact h
   .exact PX f _ _ (Cv _ _ h)
theorem JZ{S:Nat->Prop}{L ks:List Nat}(hL:∀x∈L,S x)(hk:∀x∈ks,S x):∀x∈gp L ks,S x:=by
 obtain⟨r,h,hr⟩:=Cu ks L;rw[h];intro x hx;rcases ak1.1 hx with hx|hx
 .exact hL x hx
 .exact hk x (hr x hx)
theorem PY{S:Nat->Prop}(hS:∀x,S x->∀y∈nx x,S y):∀(f i:Nat) (L:List Nat),(∀x∈L,S x)->∀x∈nT nx f i L,S x
 |0,_,L,h=>h
 |f+1,i,L,h=>by
   unfold nT;split
   .exact h
   .rename_i x hx;exact PY hS f _ _ (JZ h (hS x (h x (alp hx))))
theorem mO:∀{n:Nat} {L:List Nat},L.Nodup->(∀x∈L,x<n)->L.length<=n
 |0,L,_,hn=>by
   cases L with
   |nil=>simp
   |cons a r=>exact absurd (hn a (by simp)) (ami _)
 |n+1,L,h,hn=>by
   have h1:=mO (n:=n) (L:=L.erase n) (h.erase n) (fun x hx=>by
    rw[h.mem_erase_iff]at hx;have:=hn x hx.2;have:=hx.1
    omega)
   have:=List.length_erase (a:=n) (l:=L);split at this<;>omega
theorem PZ{n:Nat}(hS:∀x,x<n->∀y∈nx x,y<n):∀(f i:Nat) (L:List Nat),L.Nodup->(∀x∈L,x<n)->n<=f+i->(∀j<i,∀x,L[j]?=some x->∀y∈nx x,y∈L) ->
  ∀x∈nT nx f i L,∀y∈nx x,y∈nT nx f i L
 |0,i,L,hd,hn,hf,hc=>by
   intro x hx y hy;obtain⟨j,hj,rfl⟩:=alx hx;have:=mO hd hn;have aX:j<L.length:=hj;exact hc j (by omega) _ (ak0 aX) y hy
 |f+1,i,L,hd,hn,hf,hc=>by
   unfold nT;split
   .rename_i h;rw[amy]at h;intro x hx y hy;obtain⟨j,hj,rfl⟩:=alx hx;exact hc j (by omega) _ (ak0 hj) y hy
   .rename_i x hx;refine PZ hS f (i+1) _ (Cv _ _ hd) (JZ hn (hS x (hn x (alp hx)))) (by omega) ?_;intro j hj z hz y hy;obtain⟨r,h,_⟩:=Cu (nx x) L;have hi:=(akY.1 hx).1;rw[h,alj (by omega)]at hz;by_cases e:j=i
    .subst e;rw[hx]at hz;cases hz;exact PW _ _ _ hy
    .rw[h];exact alm _ (hc j (by omega) z hz y hy)
end
def er(l:List EA)(start:Nat):List Nat:=nT (dB l) l.length 0 [start]
def uC(ord:List Nat)(k:Nat):Int:=if k∈ord then(ord.idxOf k:Int)else 0
def eV(l:List EA)(start:Nat):List EA:=(er l start).map fun i=>(l.getD i default).mv fun z=>uC (er l start) z.toNat
def gq(l:List EA):Prop:=∀s∈l,∀z∈s.next,0<=z∧z<l.length
theorem rY{l:List EA}{i:Nat}(h:i<l.length):l.getD i default∈l:=by
 rw[akX,ak0 h,Option.getD_some];exact ak2 h
theorem zB{l:List EA}(h:gq l):∀x,x<l.length->∀y∈dB l x,y<l.length:=by
 intro x hx y hy;obtain⟨z,hz,rfl⟩:=ak6.1 hy;have:=h _ (rY hx) z hz;omega
section
variable {l:List EA}{start:Nat}
theorem xO(h:gq l)(hs:start<l.length):∀x∈er l start,x<l.length:=PY (zB h) _ _ _ (by simpa using hs)
theorem Fq:(er l start).Nodup:=PX _ _ _ (by simp)
theorem P0(h:gq l)(hs:start<l.length):∀x∈er l start,∀y∈dB l x,y∈er l start :=
 PZ (zB h) _ _ _ (by simp) (by simpa using hs) (by omega) (by omega)
theorem Fs:∃r,er l start=start::r:=by
 obtain⟨r,h⟩:=JY (nx:=dB l) l.length 0 [start];exact⟨r,h⟩
theorem Cw(h:gq l)(hs:start<l.length):(er l start).length<=l.length:=mO Fq (xO h hs)
theorem wc:(eV l start).length=(er l start).length:=by simp[eV]
theorem J0{ord:List Nat}(hd:ord.Nodup){j:Nat}(hj:j<ord.length):uC ord ord[j]=j:=by
 unfold uC;rw[if_pos (ak2 hj),hd.idxOf_getElem]
theorem acK(j:Nat)(hj:j<(er l start).length):dB (eV l start) j=(dB l (er l start)[j]).map fun y=>(uC (er l start) y).toNat:=by
 unfold dB eV;rw[akX,ala,ak0 hj];simp only[Option.map_some,Option.getD_some];rw[JX,alD,alD];rfl
theorem P1(j:Nat)(hj:j<(er l start).length):jW (eV l start) j=jW l (er l start)[j]:=by
 unfold jW eV;rw[akX,ala,ak0 hj];simp only[Option.map_some,Option.getD_some];rw[JW]
end
end Go.Ab

namespace Go.Ab
section
variable {l:List EA}{start:Nat}{cls:List Nat}
def gQ(cls:List Nat)(l:List EA):List EA:=l.map fun s=>s.mv fun z=>((cls.getD z.toNat 0:Nat):Int)
theorem acL(i:Nat)(hi:i<l.length):dB (gQ cls l) i=(dB l i).map fun y=>cls.getD y 0:=by
 unfold dB gQ;rw[akX,akX,ala,ak0 hi];simp only[Option.map_some,Option.getD_some];rw[JX,alD,alD];refine alI fun y _=>?_;simp
theorem P2(i:Nat)(hi:i<l.length):jW (gQ cls l) i=jW l i:=by
 unfold jW gQ;rw[akX,akX,ala,ak0 hi];simp only[Option.map_some,Option.getD_some];rw[JW]
theorem P3(h:gq l)(hc:mN l cls):gq (gQ cls l):=by
 intro s hs z hz;obtain⟨t,ht,rfl⟩:=ak6.1 hs;rw[JX]at hz;obtain⟨y,hy,rfl⟩:=ak6.1 hz;have h1:=h t ht y hy;have h2:=Ct hc (i:=y.toNat) (by omega);simp only[gQ,alg];omega
def oP(l:List EA)(cls:List Nat):List EA:=eV (gQ cls l) (cls.getD 0 0)
theorem acM(h:gq l)(hc:mN l cls)(h0:0<l.length):0<(oP l cls).length∧(oP l cls).length<=l.length:=by
 have e0:cls.getD 0 0=0:=by have:=Ct hc h0;omega
 unfold oP;rw[e0,wc];have:=Cw (P3 h hc) (start:=0) (by simpa[gQ]using h0);obtain⟨r,e⟩:=Fs (l:=gQ cls l) (start:=0);refine⟨by rw[e];simp,by simpa[gQ]using this⟩
end
end Go.Ab

namespace Go.Ab
mutual
def D.flat:D->Bool
 |.int _ _=>true
 |.bool _=>true
 |.str _=>true
 |.aY=>true
 |.ao=>true
 |.j8=>true
 |.nj=>true
 |.lF=>true
 |.unk=>true
 |.sl _ xs=>xs.isEmpty
 |.vh _ _=>false
 |.agg cs=>eK cs
 |.ptr _=>false
 |.aH _ cs=>eK cs
 |.rC _ d=>d.flat
 |.lG _ _ _ _=>false
 |.yl _=>true
def eK:List D->Bool
 |[]=>true
 |d::r=>d.flat&&eK r
end
mutual
def AV.flat:AV->Bool
 |.un=>true
 |.d x=>x.flat
 |.vw _ _ _=>true
 |.bx _ _=>true
 |.el _ _ _=>true
 |.mp _=>true
 |.it _=>true
 |.agg cs=>uD cs
 |.az cs=>uD cs
 |.aH _ cs=>uD cs
 |.va _ _ _=>true
 |.ea _ _=>true
 |.ma _=>true
def uD:List AV->Bool
 |[]=>true
 |x::r=>x.flat&&uD r
end
def Cx:List (D×D)->Bool
 |[]=>true
 |x::r=>x.1.flat&&x.2.flat&&Cx r
def Ob.flat:Ob->Bool
 |.bB _ _ xs=>eK xs
 |.bt _ cs=>uD cs
 |.map es=>Cx es
 |.rD _ _=>true
 |.kz _ _ _=>false
 |.ez _ xs=>uD xs
 |.mapA _ _ _=>false
def wh:List (Name×Ob)->Bool
 |[]=>true
 |x::r=>x.2.flat&&wh r
theorem Cy:∀{l:List D},eK l=true->∀(i:Nat) d,l[i]?=some d->d.flat=true
 |[],_,i,d,h=>by simp at h
 |x::r,hf,i,d,h=>by
   simp only[eK,ak7]at hf
   cases i with
   |zero=>cases h;exact hf.1
   |succ i=>exact Cy hf.2 i d (by simpa using h)
theorem zC:∀{l:List AV},uD l=true->∀(i:Nat) x,l[i]?=some x->x.flat=true
 |[],_,i,d,h=>by simp at h
 |x::r,hf,i,d,h=>by
   simp only[uD,ak7]at hf
   cases i with
   |zero=>cases h;exact hf.1
   |succ i=>exact zC hf.2 i d (by simpa using h)
theorem P4:∀{l:List (D×D)},Cx l=true->∀(i:Nat) x,l[i]?=some x->x.1.flat=true∧x.2.flat=true
 |[],_,i,d,h=>by simp at h
 |x::r,hf,i,d,h=>by
   simp only[Cx,ak7]at hf
   cases i with
   |zero=>cases h;exact hf.1
   |succ i=>exact P4 hf.2 i d (by simpa using h)
theorem P5:∀{l:List (Name×Ob)},wh l=true->∀q∈l,q.2.flat=true
 |[],_,q,h=>by simp at h
 |x::r,hf,q,h=>by
   simp only[wh,ak7]at hf;rcases alc.1 h with rfl|h
   .exact hf.1
   .exact P5 hf.2 q h
theorem au.qY{H H':Array Obj}{own own':Nat->Prop}{v:Value}{d:D}(h:au H own v d):d.flat=true->au H' own' v d:=by
 induction h with
 |int k n=>exact fun _=>.int k n
 |bool b=>exact fun _=>.bool b
 |str l=>exact fun _=>.str l
 |aY=>exact fun _=>.aY
 |ao=>exact fun _=>.ao
 |j8=>exact fun _=>.j8
 |nj=>exact fun _=>.nj
 |lF=>exact fun _=>.lF
 |unk v h=>exact fun _=>.unk v h
 |yl l=>exact fun _=>.yl l
 |agg vs cs hs hc _ ih=>exact fun hf=>.agg vs cs hs hc fun i d hi=>ih i d hi (Cy hf i d hi)
 |kZ a cap w=>exact fun _=>.kZ a cap w
 |sl b o cap c e fz w xs hb hn eY hz hw _ ih =>
   intro hf;have:xs=[]:=by simpa[D.flat]using hf
   subst this;exact .kZ _ _ _
 |vh v w xs _ hc ih=>intro hf;cases hf
 |ptr b o c e fz d hb hn hz dv _ ih=>intro hf;cases hf
 |aH f vs cs hs _ ih=>exact fun hf=>.aH f vs cs hs fun i d hi=>ih i d hi (Cy hf i d hi)
 |rC t v d _ ih=>exact fun hf=>.rC t v d (ih hf)
 |lG b ay aE bs ks vs hb hn hs iD _ _ vk sJ=>intro hf;cases hf
section
variable {H:Array Obj}{own own':Nat->Prop}{used:List Nat}{hp:Name->Option Ob}{β:Name->Option a8}
theorem VR.qY{v:Value}{x:AV}(h:VR H own used hp β v x):x.flat=true->VR H own' used hp β v x:=by
 induction h with
 |un v=>exact fun _=>.un v
 |d v x h=>exact fun hf=>.d v x (h.qY hf)
 |vw v p off len hu h1 h=>exact fun _=>.vw v p off len hu h1 h
 |bx v p c hu h1 h=>exact fun _=>.bx v p c hu h1 h
 |el v p i c hu h1 h=>exact fun _=>.el v p i c hu h1 h
 |mp v p hu h1 h=>exact fun _=>.mp v p hu h1 h
 |its v p hu h1 h h'=>exact fun _=>.its v p hu h1 h h'
 |va v p off len hu h1 h=>exact fun _=>.va v p off len hu h1 h
 |ea v p i hu h1 h=>exact fun _=>.ea v p i hu h1 h
 |ma v p hu h1 h=>exact fun _=>.ma v p hu h1 h
 |agg vs cs hs hc _ ih=>exact fun hf=>.agg vs cs hs hc fun i x hi=>ih i x hi (zC hf i x hi)
 |az vs cs hs _ ih=>exact fun hf=>.az vs cs hs fun i x hi=>ih i x hi (zC hf i x hi)
 |aH f vs cs hs _ ih=>exact fun hf=>.aH f vs cs hs fun i x hi=>ih i x hi (zC hf i x hi)
theorem acN{d:D}(h:d.flat=true):eK d.cells=true:=by
 cases d<;>first|exact h|(simp only[D.cells,eK,ana];exact h)
theorem OR.qY{p:Name}{o:Ob}(h:OR H own used hp β p o)(hf:o.flat=true):OR H own' used hp β p o:=by
 cases o with
 |bB ty w xs =>
   obtain h|⟨k,c,e,hk,hc,hz,hl,hw,h⟩:=h
   .exact .inl h
   .exact .inr ⟨k,c,e,hk,hc,hz,hl,hw,fun i x j d hi hj=>(h i x j d hi hj).qY (Cy (acN (Cy hf i x hi)) j d hj)⟩
 |bt ty cs =>
   obtain⟨k,c,e,hk,ho,hc,hz,hl,h1,h⟩:=h;exact⟨k,c,e,hk,ho,hc,hz,hl,h1,fun j x hj=>(h j x hj).qY (zC hf j x hj)⟩
 |map es =>
   obtain⟨k,aE,clock,hk,hc,hz,h⟩:=h;refine⟨k,aE,clock,hk,hc,hz,fun i x hi=>?_⟩;obtain⟨en,h1,h2,h3⟩:=h i x hi;obtain⟨g1,g2⟩:=P4 hf i x hi;exact⟨en,h1,h2.qY g1,h3.qY g2⟩
 |rD s pos=>exact h
 |kz _ _ _=>cases hf
 |mapA _ _ _=>cases hf
 |ez w xs =>
   obtain h|⟨k,c,e,hk,hc,hz,hl,hw,h⟩:=h
   .exact .inl h
   .exact .inr ⟨k,c,e,hk,hc,hz,hl,hw,fun i x hi=>(h i x hi).qY (zC hf i x hi)⟩
end
theorem aj.qY{n:Nat}{io:Os×Array (Nat×ByteArray)}{G:List (Nat×Obj)}{H0:Array Obj}{O0 A A2:Nat->Prop}{U0:List Nat}{β0:Name->Option a8}{hA:∀b,A b->b<H0.size}{hA2:∀b,A2 b->b<H0.size}{hG:∀q∈G,H0[q.1]?=some q.2∧¬O0 q.1}
  {β:Name->Option a8} {fr:List (Nat×AV)} {hp:List (Name×Ob)} {u:List Nat} {tm:Array Value} {w:World}
  (h:aj ⟨n,io,G,H0,O0,A,U0,β0,hA,hG⟩ β (Go.Ab.mk fr hp u) tm w) (hO:∀b,A2 b->¬O0 b) (hf:∀t,(aw AV.un fr t).flat=true) (hh:wh hp=true):aj ⟨n,io,G,H0,O0,A2,U0,β0,hA2,hG⟩ β (Go.Ab.mk fr hp u) tm w:=by
 refine { bG:=h.bG,io:=h.io,size:=h.size,frame:=h.frame,slots:=fun t=>(h.slots t).qY (hf t),aJ:=fun p o ho=>?_,blocks:=fun p k hp hk=>?_,inj:=h.inj,us:=h.us,stay:=h.stay }
 .obtain⟨h1,h2⟩:=h.aJ p o ho;exact⟨h1,h2.qY (P5 hh _ (Bx ho))⟩
 .obtain⟨h1,_,h3⟩:=h.blocks p k hp hk;refine⟨h1,fun ha=>?_,h3⟩;obtain h3|h3:=h3
  .exact absurd (hA2 _ ha) (Nat.not_lt.2 h3)
  .exact hO _ ha h3
def St.gP(s:St)(L:List (Name×W×List D)):St:=L.foldl (fun s q=>s.dq q.1 q.2.1 q.2.2) s
theorem acO(s:St):s.gP []=s:=rfl
theorem acP(s:St)(q:Name×W×List D)(L):s.gP (q::L)=(s.dq q.1 q.2.1 q.2.2).gP L:=rfl
theorem P6:∀(L:List (Name×W×List D)) (s:St) (p:Name) (o:Ob),(s.gP L).hp p=some o->s.hp p=some o
 |[],_,_,_,h=>h
 |q::L,s,p,o,h=>by
   have:=P6 L _ p o h;have h2:aA s.hp q.1 none p=some o:=this;unfold aA at h2;split at h2
   .cases h2
   .exact h2
theorem P7{B:Base}{β:Name->Option a8}{tm:Array Value}{w:World}:∀(L:List (Name×W×List D)) (s:St),aj B β s tm w->pV s L->aj B β (s.gP L) tm w
 |[],_,h,_=>h
 |_::L,_,h,hl=>P7 L _ (h.dq hl.1) hl.2
theorem P8{P:Program}{B:Base}{β:Name->Option a8}{s s':St}{tm EH:Array Value}{w:World}(h:aj B β s tm w)(h':aj B β s' EH w)(dL:∀p o,s'.hp p=some o->s.hp p=some o){f:FuncId}{cD:List AV}{chp:List (Name×Ob)}{cu:List Nat}{Q0:AV->List (Name×Ob)->Prop}{σ:Name->Name}{d:Nat}(hd:d∉s.used)
  (kH:mB σ cu s' chp) (mC:kh σ chp) (oJ:dz cu cD=true) {vs:Array Value} (eJ:vs.size=cD.length) (hv:∀(i:Nat) x,cD[i]?=some x->VR w.heap (s'.own B.A β) s'.used s'.hp β (vs.getD i undef) (x.ren σ)) (hc:bZ P B.G f cD chp cu Q0)
  (uE:∀r ae,Q0 r ae->r.flat=true∧wh ae=true) :
  CallsIn Fence.wide 0 P f vs w fun e w'=>∃v,e=.returned v∧∃r ae,Q0 r ae∧(lg chp ae->∃β2,aj B β2 { iX s σ d chp ae r with fr:=s.fr } tm w' ∧
   VR w'.heap ((iX s σ d chp ae r).own B.A β2) (d::s.used) (iX s σ d chp ae r).hp β2 v (r.ren (dc σ d chp))):=by
 obtain⟨iY,hO⟩:∃iY:Nat->Prop,∀b,iY b↔∃p k,chp.any (fun q=>q.1 == p)=true∧β (σ p)=some k∧k.b=b:=⟨_,fun _=>Iff.rfl⟩
 obtain⟨A',hA⟩:∃A':Nat->Prop,∀b,A' b↔s'.own B.A β b∧¬iY b:=⟨_,fun _=>Iff.rfl⟩
 obtain⟨A2,hA2⟩:∃A2:Nat->Prop,∀b,A2 b↔s.own B.A β b∧¬iY b:=⟨_,fun _=>Iff.rfl⟩
 have sQ:∀b,A' b->b<w.heap.size:=fun b hb=>h'.Em ((hA b).1 hb).1;have P9:∀b,A2 b->b<w.heap.size:=fun b hb=>h.Em ((hA2 b).1 hb).1
 have Qa:mB σ cu s chp:=by
  clear mC hO oJ hv hc
  induction chp with
  |nil=>trivial
  |cons q r ih=>exact⟨⟨dL _ _ kH.1.1,kH.1.2⟩,ih kH.2⟩
 have uw:∀q∈B.G,w.heap[q.1]?=some q.2∧¬iY q.1:=fun q hq=>by
  obtain⟨g1,g2⟩:=B.hG q hq;have hlt:=dI g1;refine⟨(h.frame _ hlt g2).trans g1,fun hb=>?_⟩;obtain⟨p,k,hp,hk,e⟩:=(hO _).1 hb;obtain⟨o,ho⟩:=ED hp;obtain⟨h1,_,_⟩:=xB Qa _ (oI ho);obtain⟨_,_,g3⟩:=h.blocks (σ p) k (by rw[h1];simp) hk;obtain g3|g3:=g3
  .omega
  .exact g2 (e▸g3)
 have hβc:∀p,chp.any (fun q=>q.1 == p)=true->(fun p=>β (σ p)) p=β (σ p):=fun _ _=>rfl
 have live:∀p o,aw none (chp.map fun x=>(x.1,some x.2)) p=some o->s'.hp (σ p)=some (o.ren σ)∧o.bn cu=true∧nm cu p:=fun p o ho=>by
  obtain⟨h1,h2,h3⟩:=xB kH _ (oI ho);exact⟨h1,h2,qI h3⟩
 have eH:∀b,(mk (dQ 0 cD) chp cu).own A' (fun p=>β (σ p)) b->s'.own B.A β b:=by
  intro b hb;rcases N0 hb with hb|⟨p,k,o,ho,hk,rfl⟩
  .exact((hA b).1 hb).1
  .exact .inr ⟨σ p,k,by rw[(live p o ho).1];simp,hk,rfl⟩
 have hr:∀v d,au w.heap (s'.own B.A β) v d->au w.heap ((mk (dQ 0 cD) chp cu).own A' (fun p=>β (σ p))) v d:=fun v d hd=>hd.mono (fun _ _ _=>rfl) (fun b _=>eH b);have dx:∀p o,(mk (dQ 0 cD) chp cu).hp p=some o->s'.hp (σ p)=some (o.ren σ)∧(fun p=>β (σ p)) p=β (σ p):=fun p o ho=>⟨(live p o ho).1,rfl⟩
 have bh:aj { n:=cD.length,io:=B.io,G:=B.G,H0:=w.heap,O0:=iY,A:=A',U0:=cu,β0:=fun p=>β (σ p),hA:=sQ,hG:=uw } (fun p=>β (σ p)) (mk (dQ 0 cD) chp cu) vs w:=by
  refine { bG:=eJ,io:=h.io,size:=ali _,frame:=fun _ _ _=>rfl,slots:=fun t=>?_,aJ:=fun p o ho=>⟨(live p o ho).2.2,OR.ren hr dx rfl (live p o ho).2.1 (h'.aJ _ _ (live p o ho).1).2⟩,blocks:=fun p k hp hk=>?_,inj:=fun p q k l hp hq hk hl e=>?_,us:=fun _ hx=>hx,stay:=fun _ _=>rfl }
  .rw[kC,qJ,if_pos (ale _),Nat.sub_zero]
   cases ht:cD[t]? with
   |none=>exact .un _
   |some x=>exact(hv t x ht).ren hr dx x rfl (vC oJ t x ht)
  .cases ho:(mk (dQ 0 cD) chp cu).hp p with
   |none=>exact absurd ho hp
   |some o =>
     have aU:iY k.b:=(hO _).2 ⟨p,k,alG.2 ⟨_,oI ho,by simp⟩,hk,rfl⟩;obtain⟨g1,_,_⟩:=h'.blocks (σ p) k (by rw[(live p o ho).1];simp) hk;exact⟨g1,fun ha=>((hA _).1 ha).2 aU,.inr aU⟩
  .cases ho:(mk (dQ 0 cD) chp cu).hp p with
   |none=>exact absurd ho hp
   |some o =>
     cases aV:(mk (dQ 0 cD) chp cu).hp q with
     |none=>exact absurd aV hq
     |some o' =>
       have e2:=h'.inj (σ p) (σ q) k l (by rw[(live p o ho).1];simp) (by rw[(live q o' aV).1];simp) hk hl e;exact Bw mC _ (oI ho) _ (oI aV) e2
 have gG:=fun h1 h2 h3 h4=>hc.2 _ _ vs w h1 h2 h3 h4 bh;refine(gG rfl rfl rfl rfl).mono ?_;rintro e w' ⟨v,r,ae,u',β',rfl,hQ,hs⟩;obtain⟨f1,f2⟩:=uE r ae hQ
 have br:=hs.qY (A2:=A2) (hA2:=P9) (fun b hb=>((hA2 b).1 hb).2) (fun t=>by
  simp only[aw];split
  .exact f1
  .rfl) f2
 exact⟨v,rfl,r,ae,hQ,fun hl=>NV h hd Qa mC hβc hO hA2 P9 uw hl br⟩
section
variable {P:Program}{cf:Cf}
section
variable {Q:Exit->St->Prop}{s:St}{k:List It}
theorem acQ{dst:Option Nat}{fv:Operand}{args:Array Operand}{at':Array TypeId}{ty:TypeId}{pos:String}{af:Array Edge}{g:Option (Nat×Bool)}
  (L:List (Name×W×List D)) (hL:pV s L) {f:FuncId} {aG:List AV} {ds:List D} {Q0:AV->Prop} (hc:HP P cf.G f ds Q0) (uE:∀r,Q0 r->r.flat=true)
  (bp:ev (s.gP L) fv=.aH f aG) (dE:args.toList.map (ev (s.gP L))++aG=ds.map .d) (cY:∀t∈dst,t<cf.n) (hk:∀r,Q0 r->run P cf k Q (s.iZ dst r)) :
  ia P cf { dst:=dst,op:=.call { callee:=.value fv,args:=args,argTypes:=at' },type:=ty,pos:=pos,after:=af,guard:=g } s k Q:=by
 intro B hB gF β a w ai h Q';obtain⟨d,hd⟩:=Iz s.used;refine⟨fun _ _=>trivial,?_⟩;have h':=P7 L s h hL;have hf:=h'.ev fv;rw[bp]at hf;generalize nF:a.eval fv=BB at hf
 cases hf with
 |aH _ cvs _ hcs mh =>
 have aF:∀vs,vs=(args.toList.map a.eval).toArray++cvs->(execOp a.eval { dst:=dst,op:=.call { callee:=.value fv,args:=args,argTypes:=at' },type:=ty,pos:=pos,after:=af,guard:=g }).run P w=.ok (.enter f vs) w:=by
  intro vs eJ
  have e:(execOp a.eval { dst:=dst,op:=.call { callee:=.value fv,args:=args,argTypes:=at' },type:=ty,pos:=pos,after:=af,guard:=g }:Sem Next)=callFunc f (#[]++args.map a.eval++cvs):=by
   show(do let d <-(Deferred.ofValue (a.eval fv) (args.map a.eval));invoke d.target d.args:Sem Next)=_;rw[nF];rfl
  rw[e,<-hc.1 vs w,eJ];congr 2;apply ani;simp
 rw[Oper.semAt_eq _ _ _ (by simp),aF _ rfl,Oper.uponIn_enter];refine⟨fun pQ=>by simp[xw]at pQ,?_⟩
 have hlen:(ds.map AV.d).length=args.size+aG.length:=by
  have:=congrArg List.length dE;simpa using this.symm
 have eJ:((args.toList.map a.eval).toArray++cvs).size=(ds.map AV.d).length:=by simp[hcs]at hlen ⊢;omega
 have hv:∀(i:Nat) x,(ds.map AV.d)[i]?=some x->VR w.heap ((s.gP L).own B.A β) (s.gP L).used (s.gP L).hp β (((args.toList.map a.eval).toArray++cvs).getD i undef) (x.ren id):=by
  intro i x hi;rw[AV.mE id (fun _=>rfl)];have hx:=hi;rw[<-dE]at hx;by_cases hlt:i<args.size
  .have aR:(args.toList.map (ev (s.gP L)))[i]?=some x:=by rw[<-hx,alj (by simpa using hlt)]
   have:=za h' args.toList i _ aR;rw[show((args.toList.map a.eval).toArray++cvs).getD i undef=(args.toList.map a.eval).toArray.getD i undef by simp[akZ,alO,hlt]];exact this
  .have aR:aG[i-args.size]?=some x:=by rw[<-hx,aln (by simpa using amO hlt)];simp
   have:=mh _ _ aR;rw[show((args.toList.map a.eval).toArray++cvs).getD i undef=cvs.getD (i-args.size) undef by simp[akZ,alO,hlt]];exact this
 have pR:=P8 (P:=P) h h' (fun p o ho=>P6 L s p o ho) (Q0:=fun r ae=>Q0 r∧r.bn []=true∧ae=[]) (σ:=id) (d:=d) hd (chp:=[]) (cu:=[]) trivial trivial (BD _ _) eJ hv (by rw[hB.2.2];exact hc) (fun r ae hq=>⟨uE r hq.1,by rw[hq.2.2];rfl⟩);have rS:CallsIn (Fw cf.ro) (0-1) P f ((args.toList.map a.eval).toArray++cvs) w _:=pR;refine rS.mono ?_;rintro e w' ⟨v,rfl,r,ae,⟨hQ,vG,rfl⟩,hl⟩;obtain⟨β2,br,nG⟩:=hl trivial;rw[AV.EK _ r vG]at nG;have BG:=AV.EI s.used r vG;refine⟨by cases dst<;>exact ai,s.iZ dst r,?_⟩
 cases dst with
 |none =>
   obtain⟨β3,h3⟩:=h.ze br rfl (t0:=0) (x0:=s.fr 0) (fun _=>.inr rfl) rfl (h.slots 0).bn;exact⟨β3,eB (hk r hQ),h3⟩
 |some t =>
   have h2:=br.put (t:=t) (by rw[hB.1];exact cY t rfl) nG
   obtain⟨β3,h3⟩:=h.ze h2 rfl (t0:=t) (x0:=r) (fun u=>by
    by_cases e:u=t
    .exact .inl e
    .exact .inr (by show dV _ _ _ _=_;simp[dV,e])) (by show dV _ _ _ _=_;simp[dV]) BG
   exact⟨β3,eB (hk r hQ),h3⟩
theorem acR(E:bu P cf Q){dst:Option Nat}{fv:Operand}{args:Array Operand}{at':Array TypeId}{ty:TypeId}{pos:String}{af:Array Edge}
  (L:List (Name×W×List D)) {f:FuncId} {aG:List AV} {ds:List D} {Q0:AV->Prop} (hc:HP P cf.G f ds Q0) (uE:∀r,Q0 r->r.flat=true) (hL:pV s L)
  (bp:ev (s.gP L) fv=.aH f aG) (dE:args.toList.map (ev (s.gP L))++aG=ds.map .d) (cY:∀t∈dst,t<cf.n) (hk:∀r,Q0 r->E.run k (s.iZ dst r)) :
  E.bc { dst:=dst,op:=.call { callee:=.value fv,args:=args,argTypes:=at' },type:=ty,pos:=pos,after:=af,guard:=none } s k .no:=by
 rw[ie];exact acQ L hL hc uE bp dE cY fun r hr=>by rw[<-E.run_eq];exact hk r hr
end
attribute [go_sem] acO acP D.flat eK AV.flat uD wh Cx Ob.flat List.isEmpty_nil
end
end Go.Ab
namespace Go.Ab
def Ob.dq(p:Name)(w:W)(xs:List D):Ob->Ob
 |.bt ty cs=>.bt ty (Go.Ab.gP p w xs cs)
 |o=>o
theorem Ob.acS(p:Name)(w:W)(xs:List D)(o:Ob):o.like (o.dq p w xs):=by
 cases o<;>simp[Ob.dq,Ob.like]
def St.gR(s:St)(p:Name)(w:W)(xs:List D):St:={ fr:=fun t=>(s.fr t).dq p w xs,hp:=fun q=>(aA s.hp p none q).map (Ob.dq p w xs),used:=s.used }
theorem aj.gR{B:Base}{β:Name->Option a8}{s:St}{tm:Array Value}{w:World}(h:aj B β s tm w){p:Name}{wf:W}{xs:List D}(hp:s.hp p=some (.arr wf xs)):aj B β (s.gR p wf xs) tm w:=by
 have dL:∀q o',(s.gR p wf xs).hp q=some o'->q≠p∧∃o,s.hp q=some o∧o'=o.dq p wf xs:=by
  intro q o' ho;by_cases e:q=p
  .subst e;simp[St.gR,aA]at ho
  .simp only[St.gR,aA,if_neg e,ak8]at ho;obtain⟨o,h1,h2⟩:=ho;exact⟨e,o,h1,h2.symm⟩
 have aB:∀q,(s.gR p wf xs).hp q≠none->s.hp q≠none∧q≠p:=by
  intro q hq
  cases ho:(s.gR p wf xs).hp q with
  |none=>exact absurd ho hq
  |some o' =>
    obtain⟨e,o,h1,_⟩:=dL q o' ho;exact⟨by rw[h1];simp,e⟩
 have hr:∀v d',au w.heap (s.own B.A β) v d'->au w.heap ((s.gR p wf xs).own B.A β) v d':=fun v d' hd=>hd.mono (fun _ _ _=>rfl) (by
  rintro b _ (hA|⟨q,k,hq,hk,e⟩)
  .exact .inl hA
  .exact .inr ⟨q,k,(aB q hq).1,hk,e⟩)
 have ag:∀q,nm s.used q->iQ s.hp (s.gR p wf xs).hp β β q:=fun q _ o' aV=>by
  obtain⟨_,o,h1,rfl⟩:=dL q o' aV;exact⟨o,h1,Ob.acS p wf xs o,rfl⟩
 have bY:∀k,β p=some k->¬(s.gR p wf xs).own B.A β k.b:=by
  rintro k hk (hA|⟨q,k',hq,aC,e⟩)
  .exact(h.blocks p k (by rw[hp];simp) hk).2.1 hA
  .exact(aB q hq).2 (h.inj q p k' k (aB q hq).1 (by rw[hp];simp) aC hk e)
 have kI:∀{v:Value} {x:AV},VR w.heap (s.own B.A β) s.used s.hp β v x->VR w.heap ((s.gR p wf xs).own B.A β) s.used (s.gR p wf xs).hp β v (x.dq p wf xs):=fun hv=>hv.dq hr ag hp (h.aJ p _ hp).2 bY;refine { bG:=h.bG,io:=h.io,size:=h.size,frame:=h.frame,slots:=fun i=>kI (h.slots i),aJ:=fun q o' aV=>?_,blocks:=fun q k hq hk=>h.blocks q k (aB q hq).1 hk,inj:=fun q q' k k' hq bX=>h.inj q q' k k' (aB q hq).1 (aB q' bX).1,us:=h.us,stay:=h.stay };obtain⟨_,o,h1,rfl⟩:=dL q o' aV;obtain⟨g1,g2⟩:=h.aJ q o h1;refine⟨g1,?_⟩
 cases o with
 |bt ty cs =>
   obtain⟨k,c,e,a1,a2,a3,a4,a5,a6,a7⟩:=g2;refine⟨k,c,e,a1,a2,a3,a4,by rw[a5,BQ],a6,fun j x hj=>?_⟩;rw[BR,ak8]at hj;obtain⟨y,hy,rfl⟩:=hj;exact kI (a7 j y hy)
 |_=>exact g2.mono hr (fun _ h=>h) ag rfl fun _ _=>rfl
theorem Qb(p:Name)(w:W)(xs:List D)(q:Name):∀l:List (Name×Ob),(aw none (l.map fun x=>(x.1,some x.2)) q).map (Ob.dq p w xs)=aw none ((l.map fun x=>(x.1,x.2.dq p w xs)).map fun x=>(x.1,some x.2)) q
 |[]=>rfl
 |x::r=>by
   simp only[aw,alf];split
   .rfl
   .exact Qb p w xs q r
theorem Qc(fr:List (Nat×AV))(hp:List (Name×Ob))(u:List Nat)(p:Name)(w:W)(xs:List D):(mk fr hp u).gR p w xs=mk (fr.map fun q=>(q.1,q.2.dq p w xs)) ((jR hp p).map fun q=>(q.1,q.2.dq p w xs)) u:=by
 unfold St.gR mk;congr 1
 .funext t;exact Ja p w xs t fr
 .funext q;rw[<-Qb,vL,vK];rfl
attribute [go_sem] Qc Ob.dq
section
variable {P:Program}{cf:Cf}{Q:Exit->St->Prop}{s:St}{k:List It}
theorem qZ(E:bu P cf Q){d:Option Nat}{op:Op}{ty:TypeId}{ps:String}{af:Array Edge}(p:Name)(w:W)(xs:List D)(hp:s.hp p=some (.arr w xs)){s':St}(he:s.gR p w xs=s')(h:E.bc { dst:=d,op:=op,type:=ty,pos:=ps,after:=af,guard:=none } s' k (cV P.ti cf.n op d s')) :
  E.bc { dst:=d,op:=op,type:=ty,pos:=ps,after:=af,guard:=none } s k .no:=by
 subst he;rw[ie];rw[E.fk]at h;have h1:=xF (o:={ dst:=d,op:=op,type:=ty,pos:=ps,after:=af,guard:=none }) rfl h;intro B hB ds β a w' ai hs Q';exact h1 B hB ds β a w' ai (hs.gR hp) Q'
theorem rZ(E:bu P cf Q){c:Code}(p:Name)(w:W)(xs:List D)(hp:s.hp p=some (.arr w xs))(h:e8 E c (s.gR p w xs) k):e8 E c s k:=by
 intro B hB ds β a w' ai hs;exact h B hB ds β a w' ai (hs.gR hp)
end
end Go.Ab
namespace Go.Ab
open Go.ChangeMaps (setBlock)
mutual
def AV.dN(p:Name)(d:D):AV->AV
 |.un=>.un
 |.d x=>.d x
 |.vw q o l=>.vw q o l
 |.bx q c=>.bx q c
 |.el q i c=>.el q i c
 |.mp q=>if q=p then .d d else .mp q
 |.it q=>.it q
 |.agg cs=>oA (qa p d cs)
 |.az cs=>.az (qa p d cs)
 |.aH f cs=>Cg f (qa p d cs)
 |.va q o l=>.va q o l
 |.ea q i=>.ea q i
 |.ma q=>.ma q
def qa(p:Name)(d:D):List AV->List AV
 |[]=>[]
 |x::r=>x.dN p d::qa p d r
end
theorem Cz(p:Name)(d:D):∀l:List AV,(qa p d l).length=l.length
 |[]=>rfl
 |_::r=>by simp[qa,Cz p d r]
theorem CB(p:Name)(d:D):∀(l:List AV) (i:Nat),(qa p d l)[i]?=(l[i]?).map (AV.dN p d)
 |[],i=>by simp[qa]
 |x::r,i=>by
   cases i with
   |zero=>simp[qa]
   |succ i=>simpa[qa]using CB p d r i
section
variable {H:Array Obj}{own own':Nat->Prop}{used:List Nat}{hp ae:Name->Option Ob}{β:Name->Option a8}
theorem VR.dN{p:Name}{d:D}{es:List (D×D)}(hr:∀v d,au H own v d->au H own' v d)(ag:∀q,nm used q->iQ hp ae β β q)(nB:hp p=some (.map es))(hd:∀k,β p=some k->au H own' (.map (some k.b)) d)
  {v:Value} {x:AV} (h:VR H own used hp β v x):VR H own' used ae β v (x.dN p d):=by
 induction h with
 |un v=>exact .un v
 |d v x h=>exact .d v x (hr v x h)
 |vw v q off len hn h1 h=>exact VR.mono hr (fun _ h=>h) ag (.vw v q off len hn h1 h)
 |bx v q c hn h1 h=>exact VR.mono hr (fun _ h=>h) ag (.bx v q c hn h1 h)
 |el v q i c hn h1 h=>exact VR.mono hr (fun _ h=>h) ag (.el v q i c hn h1 h)
 |mp v q hn h1 h =>
   unfold AV.dN;split
   .rename_i e;subst e;obtain⟨k,hk,rfl⟩:=h _ nB;exact .d _ _ (hd k hk)
   .exact VR.mono hr (fun _ h=>h) ag (.mp v q hn h1 h)
 |its v q hn h1 h h'=>exact VR.mono hr (fun _ h=>h) ag (.its v q hn h1 h h')
 |va v q off len hn h1 h=>exact VR.mono hr (fun _ h=>h) ag (.va v q off len hn h1 h)
 |ea v q i hn h1 h=>exact VR.mono hr (fun _ h=>h) ag (.ea v q i hn h1 h)
 |ma v q hn h1 h=>exact VR.mono hr (fun _ h=>h) ag (.ma v q hn h1 h)
 |agg vs cs hs hc _ ih =>
   have:=yX (H:=H) (own:=own') (used:=used) (hp:=ae) (β:=β) (vs:=vs.toList) (cs:=qa p d cs) (by rw[Cz];simpa using hs) (by simpa using hc) (fun i v x hv hx=>by
    rw[CB,ak8]at hx;obtain⟨y,hy,rfl⟩:=hx;have:=ih i y hy
    have e:vs.getD i undef=v:=by
     simp only[alM]at hv;simp[akZ,hv]
    rw[e]at this
    exact this)
   simpa[AV.dN]using this
 |az vs cs hs _ ih =>
   refine .az vs _ (by rw[Cz];exact hs) (fun i x hi=>?_);rw[CB,ak8]at hi;obtain⟨y,hy,rfl⟩:=hi;exact ih i y hy
 |aH f vs cs hs _ ih =>
   refine Ph (by rw[Cz];exact hs) (fun i x hi=>?_);rw[CB,ak8]at hi;obtain⟨y,hy,rfl⟩:=hi;exact ih i y hy
end
def Ob.dN(p:Name)(d:D):Ob->Ob
 |.bt ty cs=>.bt ty (qa p d cs)
 |o=>o
theorem Ob.acT(p:Name)(d:D)(o:Ob):o.like (o.dN p d):=by
 cases o<;>simp[Ob.dN,Ob.like]
def St.dN(s:St)(p:Name)(d:D):St:={ fr:=fun t=>(s.fr t).dN p d,hp:=fun q=>(aA s.hp p none q).map (Ob.dN p d),used:=s.used }
def fo(ay:Nat)(bs:List Nat)(es:List (D×D)):D:=.lG ay bs (es.map (·.1)) (es.map (·.2))
def wi(ay:Nat)(bs:List Nat)(es:List (D×D)):Prop:=bs.length=es.length∧bs.Nodup∧∀b∈bs,b<ay
theorem aj.dN{B:Base}{β:Name->Option a8}{s:St}{tm:Array Value}{w:World}(h:aj B β s tm w){p:Name}{es:List (D×D)}(hp:s.hp p=some (.map es)):∃ay bs,wi ay bs es∧aj B β (s.dN p (fo ay bs es)) tm w:=by
 obtain⟨k0,aE,ay,k6,vz,⟨bj,rR,eQ⟩,fF⟩:=(h.aJ p _ hp).2;refine⟨ay,aE.toList.map (·.born),⟨by simp[bj],rR,fun b hb=>?_⟩,?_⟩
 .obtain⟨e,he,rfl⟩:=ak6.1 hb;exact eQ e he
 obtain⟨d,wj⟩:∃d,d=fo ay (aE.toList.map (·.born)) es:=⟨_,rfl⟩
 rw[<-wj]
 have dL:∀q o',(s.dN p d).hp q=some o'->q≠p∧∃o,s.hp q=some o∧o'=o.dN p d:=by
  intro q o' ho;by_cases e:q=p
  .subst e;simp[St.dN,aA]at ho
  .simp only[St.dN,aA,if_neg e,ak8]at ho;obtain⟨o,h1,h2⟩:=ho;exact⟨e,o,h1,h2.symm⟩
 have aB:∀q,(s.dN p d).hp q≠none->s.hp q≠none∧q≠p:=by
  intro q hq
  cases ho:(s.dN p d).hp q with
  |none=>exact absurd ho hq
  |some o' =>
    obtain⟨e,o,h1,_⟩:=dL q o' ho;exact⟨by rw[h1];simp,e⟩
 have hr:∀v d',au w.heap (s.own B.A β) v d'->au w.heap ((s.dN p d).own B.A β) v d':=fun v d' hd=>hd.mono (fun _ _ _=>rfl) (by
  rintro b _ (hA|⟨q,k,hq,hk,e⟩)
  .exact .inl hA
  .exact .inr ⟨q,k,(aB q hq).1,hk,e⟩)
 have ag:∀q,nm s.used q->iQ s.hp (s.dN p d).hp β β q:=fun q _ o' aV=>by
  obtain⟨_,o,h1,rfl⟩:=dL q o' aV;exact⟨o,h1,Ob.acT p d o,rfl⟩
 have bY:∀k,β p=some k->¬(s.dN p d).own B.A β k.b:=by
  rintro k hk (hA|⟨q,k',hq,aC,e⟩)
  .exact(h.blocks p k (by rw[hp];simp) hk).2.1 hA
  .exact(aB q hq).2 (h.inj q p k' k (aB q hq).1 (by rw[hp];simp) aC hk e)
 have kj:∀(i:Nat) (en:MapEntry),aE[i]?=some en->aE.getD i default=en:=fun i en h=>by simp[akZ,h]
 have J1:∀k,β p=some k->au w.heap ((s.dN p d).own B.A β) (.map (some k.b)) d:=by
  intro k hk;obtain rfl:=alo (hk.symm.trans k6);rw[wj];refine .lG k.b ay aE _ _ _ vz (by rw[<-wj];exact bY k hk) ⟨by simp[bj],by simp⟩ rfl (fun i x hi=>?_) (fun i x hi=>?_)
  .rw[ala,ak8]at hi;obtain⟨y,hy,rfl⟩:=hi;obtain⟨en,h1,h2,_⟩:=fF i y hy;rw[kj i en h1,<-wj];exact hr _ _ h2
  .rw[ala,ak8]at hi;obtain⟨y,hy,rfl⟩:=hi;obtain⟨en,h1,_,h2⟩:=fF i y hy;rw[kj i en h1,<-wj];exact hr _ _ h2
 have kI:∀{v:Value} {x:AV},VR w.heap (s.own B.A β) s.used s.hp β v x->VR w.heap ((s.dN p d).own B.A β) s.used (s.dN p d).hp β v (x.dN p d):=fun hv=>hv.dN hr ag hp J1;refine { bG:=h.bG,io:=h.io,size:=h.size,frame:=h.frame,slots:=fun i=>kI (h.slots i),aJ:=fun q o' aV=>?_,blocks:=fun q k hq hk=>h.blocks q k (aB q hq).1 hk,inj:=fun q q' k k' hq bX=>h.inj q q' k k' (aB q hq).1 (aB q' bX).1,us:=h.us,stay:=h.stay };obtain⟨_,o,h1,rfl⟩:=dL q o' aV;obtain⟨g1,g2⟩:=h.aJ q o h1;refine⟨g1,?_⟩
 cases o with
 |bt ty cs =>
   obtain⟨k,c,e,a1,a2,a3,a4,a5,a6,a7⟩:=g2;refine⟨k,c,e,a1,a2,a3,a4,by rw[a5,Cz],a6,fun j x hj=>?_⟩;rw[CB,ak8]at hj;obtain⟨y,hy,rfl⟩:=hj;exact kI (a7 j y hy)
 |_=>exact g2.mono hr (fun _ h=>h) ag rfl fun _ _=>rfl
theorem Qd(p:Name)(d:D)(t:Nat):∀l:List (Nat×AV),(aw .un l t).dN p d=aw .un (l.map fun q=>(q.1,q.2.dN p d)) t
 |[]=>rfl
 |q::r=>by
   simp only[aw,alf];split
   .rfl
   .exact Qd p d t r
theorem Qe(p:Name)(d:D)(q:Name):∀l:List (Name×Ob),(aw none (l.map fun x=>(x.1,some x.2)) q).map (Ob.dN p d)=aw none ((l.map fun x=>(x.1,x.2.dN p d)).map fun x=>(x.1,some x.2)) q
 |[]=>rfl
 |x::r=>by
   simp only[aw,alf];split
   .rfl
   .exact Qe p d q r
theorem Qf(fr:List (Nat×AV))(hp:List (Name×Ob))(u:List Nat)(p:Name)(d:D):(mk fr hp u).dN p d=mk (fr.map fun q=>(q.1,q.2.dN p d)) ((jR hp p).map fun q=>(q.1,q.2.dN p d)) u:=by
 unfold St.dN mk;congr 1
 .funext t;exact Qd p d t fr
 .funext q;rw[<-Qe,vL,vK];rfl
attribute [go_sem] Qf AV.dN qa Ob.dN
theorem filter_push{Z:List (Nat×(D×D))}(hn:(Z.map (·.1)).Nodup)(seen:Array Nat){q:Nat×(D×D)}(hq:q∈Z)(hs:seen.contains q.1=false) :
  ∃l1 l2,Z.filter (fun q=>!seen.contains q.1)=l1++q::l2∧Z.filter (fun r=>!(seen.push q.1).contains r.1)=l1++l2:=by
 have hqf:q∈Z.filter (fun q=>!seen.contains q.1):=aly.2 ⟨hq,by rw[hs];rfl⟩;obtain⟨l1,l2,e⟩:=List.append_of_mem hqf;refine⟨l1,l2,e,?_⟩;have dL:((Z.filter (fun q=>!seen.contains q.1)).map (·.1)).Nodup:=hn.sublist (List.filter_sublist.map _);rw[e,alh,alf]at dL
 have h0:Z.filter (fun r=>!(seen.push q.1).contains r.1)=(Z.filter (fun q=>!seen.contains q.1)).filter (fun r=>!(r.1 == q.1)):=by
  rw[List.filter_filter];refine am2 fun r _=>?_;simp only[Array.contains_push,Bool.not_or];rw[Bool.and_comm]
 rw[h0,e,amx,an0];have J2:(!(q.1 == q.1))=false:=by simp
 rw[J2];simp only[als,if_false];rw[alZ]at dL;obtain⟨_,h2,h3⟩:=dL;have h2:=(alW.1 h2).1;congr 1
 .refine amU.2 fun r hr=>?_;have:=h3 r.1 (ams hr) q.1 alb;simpa using this
 .refine amU.2 fun r hr=>?_;have:r.1≠q.1:=fun e=>h2 (e▸ams hr);simpa using this
section
variable {P:Program}{cf:Cf}{Q:Exit->St->Prop}{s:St}{k:List It}
theorem acU(E:bu P cf Q){d:Option Nat}{op:Op}{ty:TypeId}{ps:String}{af:Array Edge}(p:Name)(es:List (D×D))(hp:s.hp p=some (.map es))
  (h:∀ay bs,wi ay bs es->∃s',s.dN p (fo ay bs es)=s'∧E.bc { dst:=d,op:=op,type:=ty,pos:=ps,after:=af,guard:=none } s' k (cV P.ti cf.n op d s')) :
  E.bc { dst:=d,op:=op,type:=ty,pos:=ps,after:=af,guard:=none } s k .no:=by
 rw[ie];intro B hB ds β a w' ai hs Q';obtain⟨ay,bs,ag,bm⟩:=hs.dN hp;obtain⟨_,rfl,h1⟩:=h ay bs ag;rw[E.fk]at h1;exact xF (o:={ dst:=d,op:=op,type:=ty,pos:=ps,after:=af,guard:=none }) rfl h1 B hB ds β a w' ai bm Q'
theorem acV{ay:Nat}{bs:List Nat}{es:List (D×D)}(h:wi ay bs es):M8 (fo ay bs es) ay #[] ay none es:=by
 obtain⟨h1,h2,h3⟩:=h;refine⟨ay,bs,_,_,rfl,by simpa using h1,by simp,h2,h3,⟨ali _,ali _⟩,?_,fun x hx=>by cases hx⟩
 have e:(es.map (·.1)).zip (es.map (·.2))=es:=by
  rw[List.zip_map'];simp
 rw[e];have:((bs.zip es).filter fun q=>!(#[]:Array Nat).contains q.1)=bs.zip es:=amU.2 fun x _=>by simp
 rw[this];exact(List.map_snd_zip (by omega)).symm
theorem Qg(E:bu P cf Q){xt a b:Nat}{x:Operand}{t:Nat}{ty:TypeId}{pos:String}{af:Array Edge}{ay:Nat}{bs:List Nat}{es:List (D×D)}(ag:wi ay bs es)(hs:(P.ti xt).k=.map a b)(hx:ev s x=.d (fo ay bs es))(ht:t<cf.n)(hu:t∉s.used)
  (hk:E.run k ((s.add t (.kz (fo ay bs es) none es)).put t (.it [t]))) :
  E.bc { dst:=some t,op:=.range xt x,type:=ty,pos:=pos,after:=af,guard:=none } s k .no:=by
 rw[ie];rw[E.run_eq]at hk;intro B hB ds β ac w ai h Q';have hv:=h.ev x;rw[hx]at hv;have hv:=hv.cA;generalize hval:ac.eval x=v at hv;have mI:=hv;unfold fo at hv
 cases hv with
 |lG bb _ aE _ _ _ hb hn bj iD ik wm =>
 have aF:(execOp ac.eval { dst:=some t,op:=.range xt x,type:=ty,pos:=pos,after:=af,guard:=none }).run P w=.ok (.value (.pointer (some ⟨w.heap.size,0,none⟩))) (w.alloc (.mapIter (some bb) ay #[] ay)):=by
  show(do pure (Next.value (<-Instr.range xt (ac.eval x))):Sem Next).run P w=_;rw[hval,Sem.run_bind,run_range_map w xt a b bb aE ay (mg hs) hb];rfl
 obtain⟨bh,_⟩:=h.alloc hu (.mapIter (some bb) ay #[] ay) (.kz (fo ay bs es) none es) 0 (fun β' hβ kI=>by
  have h2:=(kI _ _ (.d _ _ mI)).cA
  exact⟨_,bb,ay,#[],ay,hβ,by show(w.heap.push _)[w.heap.size]?=_;rw[am6],h2,acV ag⟩)
 refine fR (by simp) aF (.inl rfl) ⟨ai,_,_,eB hk,bh.put (by rw[hB.1];exact ht) ?_⟩;exact .its _ _ ⟨t,[],rfl,alb⟩ rfl (fun l' i hi=>⟨⟨w.heap.size,0,0⟩,by simp[aA],rfl⟩) (fun l' c i hi=>⟨⟨w.heap.size,0,0⟩,by simp[aA],rfl⟩)
theorem Qh(E:bu P cf Q){x:Operand}{t:Nat}{ty:TypeId}{ps:String}{af:Array Edge}(p:Name)(m:D)(cur:Option (D×D))(todo:List (D×D))(hx:ev s x=.it p)(hp:s.hp p=some (.kz m cur todo))(ht:t<cf.n)
  (h1:∀l1 y l2,todo=l1++y::l2->E.run k ((s.set p (some (.kz m (some y) (l1++l2)))).put t (.az [.d (.bool true),.d y.1,.d y.2])))
  (h2:todo=[]->E.run k (s.put t (.az [.d (.bool false)]))) :
  E.bc { dst:=some t,op:=.next x false,type:=ty,pos:=ps,after:=af,guard:=none } s k .no:=by
 rw[ie];intro B hB ds β ac w ai h Q';have hv:=h.ev x;rw[hx]at hv;generalize hval:ac.eval x=v at hv
 cases hv with
 |its _ _ hn ho g g' =>
 obtain⟨kk,hk,rfl⟩:=g' m cur todo hp;obtain⟨k2,bb,since,seen,last,eZ,hh,hm,hit⟩:=(h.aJ p _ hp).2;obtain rfl:=alo (hk.symm.trans eZ);have hlt:=dI hh;obtain⟨ay,bs,ks,vs,rfl,pZ,sZ,hnd,qA,⟨oQ,dv⟩,J3,Qi⟩:=hit;have hm0:=hm
 cases hm with
 |lG _ _ aE _ _ _ hb bY bj iD ik wm =>
 have dj:∀(i:Nat) (en:MapEntry),aE[i]?=some en->aE.getD i default=en:=fun i en h=>by simp[akZ,h]
 have hold:∀e∈aE.toList,e.born<since:=fun e he=>qA _ (by rw[<-iD];exact ams he);have hZ:(bs.zip (ks.zip vs)).map (·.1)=bs:=List.map_fst_zip (by rw[an4];omega)
 have zD:∀i,i<aE.size->∃en kd vd,aE[i]?=some en∧ks[i]?=some kd∧vs[i]?=some vd∧(bs.zip (ks.zip vs))[i]?=some (en.born,(kd,vd)):=by
  intro i hi;have h1:i<ks.length:=by omega
  have h2:i<vs.length:=by omega
  refine⟨aE[i],ks[i],vs[i],by simp,by simp,by simp,?_⟩;have h3:bs[i]?=some aE[i].born:=by rw[<-iD];simp[hi]
  rw[amq];exact⟨h3,by rw[amq];exact⟨by simp,by simp⟩⟩
 rcases run_next_at (P:=P) w ty kk.b bb since last seen aE ay hh hb hold oQ with⟨h0,hr⟩|⟨e,he,w1,jn,hr⟩
 .have aF:(execOp ac.eval { dst:=some t,op:=.next x false,type:=ty,pos:=ps,after:=af,guard:=none }).run P w=.ok (.value (.tuple #[.bool false])) w:=by
   show(do pure (Next.value (<-Instr.next (ac.eval x) false ty)):Sem Next).run P w=_;rw[hval,Sem.run_bind,hr];rfl
  have acW:todo=[]:=by
   rw[J3,List.map_eq_nil_iff,anc];intro q hq;obtain⟨i,hi⟩:=anj hq
   have aq:i<aE.size:=by
    have:=(akY.1 hi).1;rw[an4,an4]at this;omega
   obtain⟨en,kd,vd,g1,_,_,g4⟩:=zD i aq;rw[hi]at g4;cases g4
   have hem:en∈aE.toList:=by
    have:=Array.mem_of_getElem? g1;simpa using this
   have aB:en∉(leftOf aE seen).toList:=by
    intro hc
    have:0<(leftOf aE seen).size:=by
     have:=amW hc;simpa using this
    omega
   intro hcs;apply aB;unfold leftOf;simp only[Array.toList_filter,aly];exact⟨hem,hcs⟩
  refine fR (by simp) aF (.inl rfl) ⟨ai,_,_,eB (by rw[<-E.run_eq];exact h2 acW),h.put (by rw[hB.1];exact ht) ?_⟩;refine .az _ _ rfl fun i y hi=>?_
  match i,hi with
  |0,hi=>obtain rfl:=alo hi;exact .d _ _ (.bool _)
 .have aF:(execOp ac.eval { dst:=some t,op:=.next x false,type:=ty,pos:=ps,after:=af,guard:=none }).run P w=.ok (.value (.tuple #[.bool true,e.key,e.val])) (setBlock w1 kk.b (.mapIter (some bb) since (seen.push e.born) ay)):=by
   show(do pure (Next.value (<-Instr.next (ac.eval x) false ty)):Sem Next).run P w=_;rw[hval,Sem.run_bind,hr];rfl
  have CC:e∈aE.toList∧seen.contains e.born=false:=by
   unfold leftOf at he;simp only[Array.toList_filter,aly]at he;exact⟨he.1,by simpa using he.2⟩
  obtain⟨i,hi⟩:=anj CC.1;have aq:aE[i]?=some e:=by simpa using hi
  have bF:=dI aq;obtain⟨en,kd,vd,g1,g2,g3,g4⟩:=zD i bF;obtain rfl:=alo (aq.symm.trans g1);obtain⟨l1,l2,f1,f2⟩:=filter_push (Z:=bs.zip (ks.zip vs)) (by rw[hZ];exact hnd) seen (alp g4) CC.2;have hw:dH w1=dH w∧w1.heap=w.heap:=by rcases jn with rfl|rfl<;>exact⟨rfl,rfl⟩
  have nJ:au w.heap (s.own B.A β) e.key kd:=by have:=ik i kd g2;rwa [dj i e aq]at this
  have J4:au w.heap (s.own B.A β) e.val vd:=by have:=wm i vd g3;rwa [dj i e aq]at this
  obtain⟨bh,kI⟩:=h.modify (p:=p) (ob':=.kz (.lG ay bs ks vs) (some (kd,vd)) (l1.map (·.2)++l2.map (·.2))) hp trivial (w':=setBlock w1 kk.b (.mapIter (some bb) since (seen.push e.born) ay)) (by rw[<-hw.1];rfl) (by simp[setBlock,hw.2])
   (fun b eI=>by
    have:=eI kk hk
    simp[setBlock,hw.2,Ne.symm this]) (fun _ Ft=>⟨kk,bb,since,seen.push e.born,ay,hk,by simp[setBlock,hw.2,hlt],Ft _ _ hm0,
     ay,bs,ks,vs,rfl,pZ,sZ,hnd,qA,⟨dv,dv⟩,by rw[f2,alh],fun x hx=>⟨rfl,e.born,by simp,by cases hx;exact alp g4⟩⟩)
  refine fR (by simp) aF (.inl rfl) ⟨ai,_,_,eB (by rw[<-E.run_eq];exact h1 (l1.map (·.2)) (kd,vd) (l2.map (·.2)) (by rw[J3,f1,alh];rfl)),bh.put (by rw[hB.1];exact ht) ?_⟩;refine .az _ _ rfl fun i y hi=>?_
  match i,hi with
  |0,hi=>obtain rfl:=alo hi;exact .d _ _ (.bool _)
  |1,hi=>obtain rfl:=alo hi;exact kI _ _ (.d _ _ nJ)
  |2,hi=>obtain rfl:=alo hi;exact kI _ _ (.d _ _ J4)
theorem Qj(E:bu P cf Q){x:Operand}{t:Nat}{ty:TypeId}{ps:String}{af:Array Edge}(p:Name)(m:D)(y:D×D)(todo:List (D×D))(hx:ev s x=.it p)(hp:s.hp p=some (.kz m (some y) todo))(ht:t<cf.n)
  (h1:E.run k (s.put t (.az [.d y.1,.d y.2]))) :
  E.bc { dst:=some t,op:=.entry x,type:=ty,pos:=ps,after:=af,guard:=none } s k .no:=by
 rw[ie];intro B hB ds β ac w ai h Q';have hv:=h.ev x;rw[hx]at hv;generalize hval:ac.eval x=v at hv
 cases hv with
 |its _ _ hn ho g g' =>
 obtain⟨kk,hk,rfl⟩:=g' m (some y) todo hp;obtain⟨k2,bb,since,seen,last,eZ,hh,hm,hit⟩:=(h.aJ p _ hp).2;obtain rfl:=alo (hk.symm.trans eZ);obtain⟨ay,bs,ks,vs,rfl,pZ,sZ,hnd,qA,⟨oQ,dv⟩,J3,Qi⟩:=hit;obtain⟨rfl,st,ag,gj⟩:=Qi y rfl
 cases hm with
 |lG _ _ aE _ _ _ hb bY bj iD ik wm =>
 obtain⟨i,hi⟩:=anj gj;rw[amq]at hi;obtain⟨i1,i2⟩:=hi;obtain⟨i4,i3⟩:=amq.1 i2;clear i2;rw[<-iD,ala,ak8]at i1;obtain⟨e,he,rfl⟩:=i1;have df:aE[i]?=some e:=by simpa using he
 have dj:aE.getD i default=e:=by simp[akZ,df]
 have acX:seen=seen.pop.push e.born:=by
  refine ani ?_;have h1:seen.toList.getLast?=some e.born:=by rw[<-ag,Array.getLast?_toList]
  have h2:seen.toList≠[]:=fun h=>by rw[h]at h1;simp at h1
  rw[anS,Array.toList_pop]
  have h3:seen.toList.getLast h2=e.born:=by
   rw[List.getLast?_eq_some_getLast h2]at h1;exact alo h1
  rw[<-h3,anN]
 rw[acX]at hh;have hr:=run_entry_at (P:=P) w kk.b bb since seen.pop aE last e hh hb (alp he) (by rw[iD];exact hnd)
 have aF:(execOp ac.eval { dst:=some t,op:=.entry x,type:=ty,pos:=ps,after:=af,guard:=none }).run P w=.ok (.value (.tuple #[e.key,e.val])) w:=by
  show(do pure (Next.value (<-Instr.entry (ac.eval x))):Sem Next).run P w=_;rw[hval,Sem.run_bind,hr];rfl
 refine fR (by simp) aF (.inl rfl) ⟨ai,_,_,eB (by rw[<-E.run_eq];exact h1),h.put (by rw[hB.1];exact ht) ?_⟩;have nJ:au w.heap (s.own B.A β) e.key y.1:=by have:=ik i _ i4;rwa [dj]at this
 have J4:au w.heap (s.own B.A β) e.val y.2:=by have:=wm i _ i3;rwa [dj]at this
 refine .az _ _ rfl fun i z hi=>?_
 match i,hi with
 |0,hi=>obtain rfl:=alo hi;exact .d _ _ nJ
 |1,hi=>obtain rfl:=alo hi;exact .d _ _ J4
end
end Go.Ab

