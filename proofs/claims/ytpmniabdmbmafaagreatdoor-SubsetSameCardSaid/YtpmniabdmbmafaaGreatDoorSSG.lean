/-
  Types as data; a type of not too many nodes. (with the parts that follow it)
-/
import Derived.Test.YtpmniabdmbmafaaGreatDoorSSF
import Derived.Test.YtpmniabdmbmafaaGreatDoorSSA
import Derived.Maps.RangeRun
import Derived.RangeFuncRecord
import Derived.RangeFuncSeq
set_option linter.all false
set_option maxHeartbeats 16000000
namespace Go.Proofs.YtpmniabdmbmafaaGreatDoor
open Go.Ab Tryz
abbrev cn:=List UInt8×Int
structure TN where
 k:Int
 a:Int
 b:Int
 l:List cn
def bf(f:cn):D:=.agg [.str f.1,i64 f.2]
def mC(l:List cn):D:=.sl (some 2) (l.map bf)
def aw(n:TN):D:=.agg [i64 n.k,i64 n.a,i64 n.b,mC n.l]
def Hx:List TN->D
 |[]=>.ai
 |n::r=>.sl (some 4) ((n::r).map aw)
def j5(ns:List TN)(root:Int):D:=.agg [Hx ns,i64 root]
def Zq(F:D)(l:List cn):Prop:=(F=.ai∧l=[])∨F=mC l
def Dh(x:D)(n:TN):Prop:=∃F,x=.agg [i64 n.k,i64 n.a,i64 n.b,F]∧Zq F n.l
def o5:List D->List TN->Prop
 |[],[]=>True
 |x::xs,n::ns=>Dh x n∧o5 xs ns
 |_,_=>False
def Zr(L:D)(ns:List TN):Prop:=(L=.ai∧ns=[])∨∃xs,L=.sl (some 4) xs∧o5 xs ns
theorem o5.len:∀{xs:List D} {ns:List TN},o5 xs ns->xs.length=ns.length
 |[],[],_=>rfl
 |_::_,_::_,h=>by simp[o5.len h.2]
 |[],_::_,h=>h.elim
 |_::_,[],h=>h.elim
theorem o5.get:∀{xs:List D} {ns:List TN},o5 xs ns->∀(i:Nat) (h:i<ns.length),Dh (xs.getD i .aY) ns[i]
 |[],[],_,i,h=>by simp at h
 |_::_,_::_,h,0,_=>h.1
 |x::xs,n::ns,h,i+1,hi=>by
   have:=o5.get h.2 i (by simpa using hi);simpa using this
 |[],_::_,h,_,_=>h.elim
 |_::_,[],h,_,_=>h.elim
def gT(n:TN):TN:={ n with l:=n.l.take 40 }
def jx(len most:Nat):Nat:=if 2000<len then min len (max most 2001)else min len most
def nk(ns:List TN)(most:Nat):List TN:=(ns.take (jx ns.length most)).map gT
def o6(ns:List TN)(root:Int):Nat->List (Name×Ob)
 |0=>[([4],.box [.d .ai,.d (i64 0)]),([5],.box [.d .ai,.d (i64 root)])]
 |i+1=>[([4],.box [.d .ai,.d (i64 0)]),([5],.box [.vw [99] 0 (i+1),.d (i64 root)]),([99],.arr (some 4) ((ns.take (i+1)).map fun n=>aw (gT n)))]
theorem Zs{i len most:Nat}:i<jx len most↔i<len∧(i<most∨(2000<len∧i<=2000)):=by
 unfold jx;split<;>omega
theorem Di{ns:List TN}{i:Nat}(h:i<ns.length):(List.map (fun n=>aw (gT n)) (List.take i ns))++[aw (gT ns[i])]=List.map (fun n=>aw (gT n)) (List.take (i+1) ns):=by
 rw[ah5 h,ail];rfl
theorem AK{ns:List TN}{i most:Nat}(h1:i<=jx ns.length most)(h2:¬i<jx ns.length most):(ns.take i).map gT=nk ns most:=by
 unfold nk;rw[show i=jx ns.length most by omega]
theorem Hy{ns:List TN}{i:Nat}(h:i<ns.length):Hx ((ns.take (i+1)).map gT)=.sl (some 4) ((ns.take (i+1)).map fun n=>aw (gT n)):=by
 cases ns with
 |nil=>simp at h
 |cons n r=>simp[Hx,Function.comp_def]
theorem M8{G}(xs:List D)(ns:List TN)(root:Int)(most:Nat)(hr:o5 xs ns)(hn:ns.length<=9223372036854775807)(hm:most<=1000):HP prog G 6 [.agg [.sl (some 4) xs,i64 root],i64 most] (fun r=>r=.d (j5 (nk ns most) root)):=by
 refine gy func6 rfl (by decide +kernel) (by simp[ntmps6]) (aT fun E=>?_);simp only[go_sem];refine eP E [2] (.agg [.sl (some 4) xs,i64 root]) rfl rfl ?_;simp only[go_sem];refine bK E (X:={ i:Nat // i<=jx ns.length most }) (fun x=>[(1,.d (i64 most)),(2,.d (.ptr (.agg [.sl (some 4) xs,i64 root]))),(4,.bx [4] 0),(5,.bx [5] 0),(6,.d (i64 x.1))]) (fun x=>o6 ns root x.1) [4,5,99] (fun x=>jx ns.length most-x.1) ⟨0,aie _⟩ id ?_ ?_
 .simp only[o6];simp only[go_sem]
  all_goals rfl
 rintro⟨i,hi⟩ E';have hlt:=Zs (i:=i) (len:=ns.length) (most:=most);have hlen:=hr.len
 cases i with
 |zero =>
   simp only[o6];simp only[go_sem];refine bS E' ?_ ?_<;>intro h1<;>simp only[go_sem]
   .refine bS E' ?_ ?_<;>intro h2<;>simp only[go_sem]
    .have bR:0<ns.length:=by omega
     refine⟨by omega,?_⟩;obtain⟨F,hx,hF⟩:=hr.get (0) bR;rw[hx];simp only[go_sem];have og:=Di bR;simp only[aiD]at og;obtain⟨rfl,hF⟩|rfl:=hF
     .have hc:gT ns[0]={ k:=ns[0].k,a:=ns[0].a,b:=ns[0].b,l:=[] }:=by simp[gT,hF]
      simp only[go_sem];refine oV E' [46] (some 2) [] rfl ?_;simp only[go_sem];refine⟨⟨1,by omega⟩,by show jx ns.length most-1<_;omega,ar [([99],[52])],?_⟩;simp only[o6];simp only[go_sem];refine⟨by rw[aD ⟨by omega,by omega⟩],?_⟩;rw[<-og,hc];rfl
     .have hc:gT ns[0]={ k:=ns[0].k,a:=ns[0].a,b:=ns[0].b,l:=ns[0].l.take 40 }:=rfl;unfold mC;simp only[go_sem];rw[Df bf 40 (by decide)];refine⟨Dg 40 _ (by decide) (by omega),by simp only[aik,air];omega,?_⟩;refine oV E' [46] (some 2) ((ns[0].l.take 40).map bf) rfl ?_;simp only[go_sem];refine⟨⟨1,by omega⟩,by show jx ns.length most-1<_;omega,ar [([99],[52])],?_⟩;simp only[o6];simp only[go_sem];refine⟨by rw[aD ⟨by omega,by omega⟩],?_⟩;rw[<-og,hc];rfl
    .refine bS E' ?_ ?_<;>intro h3<;>simp only[go_sem]
     .have bR:0<ns.length:=by omega
      refine⟨by omega,?_⟩;obtain⟨F,hx,hF⟩:=hr.get (0) bR;rw[hx];simp only[go_sem];have og:=Di bR;simp only[aiD]at og;obtain⟨rfl,hF⟩|rfl:=hF
      .have hc:gT ns[0]={ k:=ns[0].k,a:=ns[0].a,b:=ns[0].b,l:=[] }:=by simp[gT,hF]
       simp only[go_sem];refine oV E' [46] (some 2) [] rfl ?_;simp only[go_sem];refine⟨⟨1,by omega⟩,by show jx ns.length most-1<_;omega,ar [([99],[52])],?_⟩;simp only[o6];simp only[go_sem];refine⟨by rw[aD ⟨by omega,by omega⟩],?_⟩;rw[<-og,hc];rfl
      .have hc:gT ns[0]={ k:=ns[0].k,a:=ns[0].a,b:=ns[0].b,l:=ns[0].l.take 40 }:=rfl;unfold mC;simp only[go_sem];rw[Df bf 40 (by decide)];refine⟨Dg 40 _ (by decide) (by omega),by simp only[aik,air];omega,?_⟩;refine oV E' [46] (some 2) ((ns[0].l.take 40).map bf) rfl ?_;simp only[go_sem];refine⟨⟨1,by omega⟩,by show jx ns.length most-1<_;omega,ar [([99],[52])],?_⟩;simp only[o6];simp only[go_sem];refine⟨by rw[aD ⟨by omega,by omega⟩],?_⟩;rw[<-og,hc];rfl
     .refine⟨[],?_⟩;simp only[go_sem];rw[<-AK hi (by omega)];rfl
   .refine⟨[],?_⟩;simp only[go_sem];rw[<-AK hi (by omega)];rfl
 |succ i =>
   simp only[o6];simp only[go_sem];refine bS E' ?_ ?_<;>intro h1<;>simp only[go_sem]
   .refine bS E' ?_ ?_<;>intro h2<;>simp only[go_sem]
    .have bR:i+1<ns.length:=by omega
     refine⟨by omega,?_⟩;obtain⟨F,hx,hF⟩:=hr.get (i+1) bR;rw[hx];simp only[go_sem];have og:=Di bR;obtain⟨rfl,hF⟩|rfl:=hF
     .have hc:gT ns[i+1]={ k:=ns[i+1].k,a:=ns[i+1].a,b:=ns[i+1].b,l:=[] }:=by simp[gT,hF]
      simp only[go_sem];refine oV E' [46] (some 2) [] rfl ?_;simp only[go_sem];refine⟨by omega,⟨i+1+1,by omega⟩,by show jx ns.length most-(i+1+1)<_;omega,ar [([99],[52])],?_⟩;simp only[o6];simp only[go_sem];refine⟨by rw[aD ⟨by omega,by omega⟩];rfl,?_⟩;rw[aic (by simp;omega),<-og,hc];rfl
     .have hc:gT ns[i+1]={ k:=ns[i+1].k,a:=ns[i+1].a,b:=ns[i+1].b,l:=ns[i+1].l.take 40 }:=rfl;unfold mC;simp only[go_sem];rw[Df bf 40 (by decide)];refine⟨Dg 40 _ (by decide) (by omega),by simp only[aik,air];omega,?_⟩;refine oV E' [46] (some 2) ((ns[i+1].l.take 40).map bf) rfl ?_;simp only[go_sem];refine⟨by omega,⟨i+1+1,by omega⟩,by show jx ns.length most-(i+1+1)<_;omega,ar [([99],[52])],?_⟩;simp only[o6];simp only[go_sem];refine⟨by rw[aD ⟨by omega,by omega⟩];rfl,?_⟩;rw[aic (by simp;omega),<-og,hc];rfl
    .refine bS E' ?_ ?_<;>intro h3<;>simp only[go_sem]
     .refine aH E' ?_ ?_<;>intro h4<;>simp only[go_sem]
      .have bR:i+1<ns.length:=by omega
       refine⟨by omega,?_⟩;obtain⟨F,hx,hF⟩:=hr.get (i+1) bR;rw[hx];simp only[go_sem];have og:=Di bR;obtain⟨rfl,hF⟩|rfl:=hF
       .have hc:gT ns[i+1]={ k:=ns[i+1].k,a:=ns[i+1].a,b:=ns[i+1].b,l:=[] }:=by simp[gT,hF]
        simp only[go_sem];refine oV E' [46] (some 2) [] rfl ?_;simp only[go_sem];refine⟨by omega,⟨i+1+1,by omega⟩,by show jx ns.length most-(i+1+1)<_;omega,ar [([99],[52])],?_⟩;simp only[o6];simp only[go_sem];refine⟨by rw[aD ⟨by omega,by omega⟩];rfl,?_⟩;rw[aic (by simp;omega),<-og,hc];rfl
       .have hc:gT ns[i+1]={ k:=ns[i+1].k,a:=ns[i+1].a,b:=ns[i+1].b,l:=ns[i+1].l.take 40 }:=rfl;unfold mC;simp only[go_sem];rw[Df bf 40 (by decide)];refine⟨Dg 40 _ (by decide) (by omega),by simp only[aik,air];omega,?_⟩;refine oV E' [46] (some 2) ((ns[i+1].l.take 40).map bf) rfl ?_;simp only[go_sem];refine⟨by omega,⟨i+1+1,by omega⟩,by show jx ns.length most-(i+1+1)<_;omega,ar [([99],[52])],?_⟩;simp only[o6];simp only[go_sem];refine⟨by rw[aD ⟨by omega,by omega⟩];rfl,?_⟩;rw[aic (by simp;omega),<-og,hc];rfl
      .refine⟨[([99],some 4,(ns.take (i+1)).map fun n=>aw (gT n))],?_⟩;simp only[go_sem];rw[<-AK hi (by omega)];have bR:i<ns.length:=by unfold jx at hi;split at hi<;>omega
       rw[j5,Hy bR,aic (by simp;omega)]
     .refine⟨[([99],some 4,(ns.take (i+1)).map fun n=>aw (gT n))],?_⟩;simp only[go_sem];rw[<-AK hi (by omega)];have bR:i<ns.length:=by unfold jx at hi;split at hi<;>omega
      rw[j5,Hy bR,aic (by simp;omega)]
   .refine⟨[([99],some 4,(ns.take (i+1)).map fun n=>aw (gT n))],?_⟩;simp only[go_sem];rw[<-AK hi (by omega)];have bR:i<ns.length:=by unfold jx at hi;split at hi<;>omega
    rw[j5,Hy bR,aic (by simp;omega)]
end Go.Proofs.YtpmniabdmbmafaaGreatDoor

namespace Go.Ab
def Wk(a b:D):Prop:=∀(H:Array Obj) (own:Nat->Prop) (v:Value),au H own v a->au H own v b
theorem Wk.refl(a:D):Wk a a:=fun _ _ _ h=>h
theorem Wk.ai(w:W):Wk .ai (.sl w []):=fun _ _ _ h=>by
 cases h;exact .lL none 0 w
theorem Wk.agg{a0s bs:List D}(hl:a0s.length=bs.length)(hs:∀b∈bs,b.ct=true)(h:∀(i:Nat) a b,a0s[i]?=some a->bs[i]?=some b->Wk a b):Wk (.agg a0s) (.agg bs):=fun H own v x=>by
 cases x with
 |agg vs _ h1 _ h3 =>
   refine .agg vs bs (h1.trans hl) hs fun i b hb=>?_;have:i<a0s.length:=by rw[hl];exact(ah3.1 hb).1
   exact h i _ b (aib this) hb H own _ (h3 i _ (aib this))
theorem Wk.sl{w:W}{a0s bs:List D}(hl:a0s.length=bs.length)(hw:∀b∈bs,okW w b)(h:∀(i:Nat) a b,a0s[i]?=some a->bs[i]?=some b->a.cells.length=b.cells.length∧∀(j:Nat) c d,a.cells[j]?=some c->b.cells[j]?=some d->Wk c d):Wk (.sl w a0s) (.sl w bs):=fun H own v x=>by
 cases x with
 |lL a cap _ =>
   have:bs=[]:=ajk.1 hl.symm;subst this;exact .lL a cap w
 |sl b o cap c e fz _ _ hb hn fL hz _ hr =>
   rw[hl];refine .sl b o cap c e fz w bs hb hn (by omega) (by rw[<-hl];exact hz) hw fun i x j d hi hj=>?_;have hlt:i<a0s.length:=by rw[hl];exact(ah3.1 hi).1
   obtain⟨g1,g2⟩:=h i _ x (aib hlt) hi;have oh:j<(a0s[i]).cells.length:=by rw[g1];exact(ah3.1 hj).1
   exact g2 j _ d (aib oh) hj H own _ (hr i _ j _ (aib hlt) (aib oh))
def qo:List D->List D->Prop
 |[],[]=>True
 |a::a0s,b::bs=>Wk a b∧qo a0s bs
 |_,_=>False
theorem qo.get:∀{a0s bs:List D},qo a0s bs->a0s.length=bs.length∧∀(i:Nat) a b,a0s[i]?=some a->bs[i]?=some b->Wk a b
 |[],[],_=>⟨rfl,fun _ _ _ h=>by simp at h⟩
 |_::_,_::_,h=>by
   obtain⟨g1,g2⟩:=qo.get h.2;refine⟨by simp[g1],fun i a b ha hb=>?_⟩
   cases i with
   |zero=>simp at ha hb;subst ha;subst hb;exact h.1
   |succ i=>exact g2 i a b (by simpa using ha) (by simpa using hb)
 |[],_::_,h=>h.elim
 |_::_,[],h=>h.elim
theorem VR.wk{H:Array Obj}{own:Nat->Prop}{used:List Nat}{hp:Name->Option Ob}{β:Name->Option aU}{v:Value}{a b:D}(h:Wk a b)(hv:VR H own used hp β v (.d a)):VR H own used hp β v (.d b) :=
 .d _ _ (h _ _ _ hv.cU)
section
variable {P:Program}
theorem aj.M9{B:Base}{β:Name->Option aU}{s s':St}{tm:Array Value}{w:World}(h:aj B β s tm w)(h1:s'.hp=s.hp)(h2:s'.used=s.used)(h3:∀t,s'.fr t=s.fr t∨∃a b,s.fr t=.d a∧s'.fr t=.d b∧Wk a b):aj B β s' tm w:=by
 obtain⟨fr,hp,us⟩:=s;obtain⟨Hc,qd,MC⟩:=s';simp only at h1 h2 h3;subst h1;subst h2
 exact { bE:=h.bE,io:=h.io,size:=h.size,frame:=h.frame,slots:=fun t=>(by
  have:=h.slots t;rcases h3 t with e|⟨a,b,e1,e2,hw⟩
  .show VR _ _ _ _ _ _ (Hc t);rw[e];exact this
  .show VR _ _ _ _ _ _ (Hc t);rw[e2];have this:VR _ _ _ _ _ _ (fr t):=this;rw[e1]at this
   exact this.wk hw),aO:=h.aO,blocks:=h.blocks,inj:=h.inj,us:=h.us,stay:=h.stay }
theorem HP.wk{G:List (Nat×Obj)}{f:FuncId}{a0s bs:List D}{Q:AV->Prop}(h:HP P G f bs Q)(hw:qo a0s bs):HP P G f a0s Q:=by
 obtain⟨g1,g2⟩:=hw.get;refine⟨h.1,fun B β vs w h1 h2 h3 h4 hs=>h.2 B β vs w (by rw[h1];simp[g1]) h2 h3 h4 (hs.M9 rfl rfl fun t=>?_)⟩;rw[kV,kV,qc,qc,if_pos (aie _),if_pos (aie _),Nat.sub_zero,aii,aii];by_cases ht:t<a0s.length
 .have kD:t<bs.length:=by omega
  rw[aib ht,aib kD];exact .inr ⟨_,_,rfl,rfl,g2 t _ _ (aib ht) (aib kD)⟩
 .rw[aiE (by omega),aiE (by omega)];exact .inl rfl
theorem HP.Zt{G:List (Nat×Obj)}{f:FuncId}{a0s:List D}{Q Q':AV->Prop}(h:HP P G f a0s Q)(hw:∀r,Q r->∃a b,r=.d a∧Wk a b∧Q' (.d b)):HP P G f a0s Q':=by
 refine⟨h.1,fun B β vs w h1 h2 h3 h4 hs=>(h.2 B β vs w h1 h2 h3 h4 hs).mono ?_⟩;rintro e w' ⟨v,r,ae,u',β',rfl,⟨hQ,de,rfl⟩,bm⟩;obtain⟨a,b,rfl,Zu,hq⟩:=hw r hQ;refine⟨v,.d b,[],u',β',rfl,⟨hq,rfl,rfl⟩,bm.M9 rfl rfl fun t=>?_⟩;rw[kV,kV,lP,lP,xE];by_cases ht:t=0
 .rw[if_pos ht,if_pos ht];exact .inr ⟨a,b,rfl,rfl,Zu⟩
 .rw[if_neg ht,if_neg ht];exact .inl rfl
end
theorem aj.Dj{B:Base}{β:Name->Option aU}{s:St}{tm:Array Value}{w:World}(h:aj B β s tm w){p:Name}{ty:Option Nat}{cs cs':List AV}(hp:s.hp p=some (.bz ty cs))(hl:cs'.length=cs.length)
  (hv:∀(v:Value) (j:Nat) x x',cs[j]?=some x->cs'[j]?=some x'->VR w.heap (s.own B.A β) s.used s.hp β v x->VR w.heap (s.own B.A β) s.used s.hp β v x'):aj B β (s.set p (some (.bz ty cs'))) tm w:=by
 have fy:∀q,q≠p->(s.set p (some (.bz ty cs'))).hp q=s.hp q:=fun q h1=>by simp[St.set,aP,h1]
 have dz:(s.set p (some (.bz ty cs'))).hp p=some (.bz ty cs'):=by simp[St.set,aP]
 have qp:∀q,(s.set p (some (.bz ty cs'))).hp q≠none↔s.hp q≠none:=fun q=>by
  by_cases e:q=p
  .subst e;rw[dz,hp];simp
  .rw[fy q e]
 have dS:(s.set p (some (.bz ty cs'))).own B.A β=s.own B.A β:=by
  funext b;refine propext (or_congr_right ⟨?_,?_⟩)
  .rintro⟨q,l,hq,hl,rfl⟩;exact⟨q,l,(qp q).1 hq,hl,rfl⟩
  .rintro⟨q,l,hq,hl,rfl⟩;exact⟨q,l,(qp q).2 hq,hl,rfl⟩
 have ah:∀q,nm s.used q->iG s.hp (s.set p (some (.bz ty cs'))).hp β β q:=by
  intro q _ o ho;by_cases e:q=p
  .subst e;rw[dz]at ho;cases ho;exact⟨_,hp,by simp[Ob.like,hl],rfl⟩
  .exact⟨o,by rwa [fy q e]at ho,Ob.mS _,rfl⟩
 refine { bE:=h.bE,io:=h.io,size:=h.size,frame:=h.frame,slots:=fun i=>?_,aO:=?_,blocks:=fun q l hq hl=>h.blocks q l ((qp q).1 hq) hl,inj:=fun q q' l l' hq cg=>h.inj q q' l l' ((qp q).1 hq) ((qp q').1 cg),us:=h.us,stay:=h.stay }
 .rw[dS];exact(h.slots i).mono (fun _ _ h=>h) (fun _ h=>h) ah
 .intro q o ho;rw[dS];by_cases e:q=p
  .subst e;rw[dz]at ho;cases ho;obtain⟨h1,k,c,e,g1,g2,g3,g4,g5,g6,g7⟩:=h.aO q _ hp;refine⟨h1,k,c,e,g1,g2,g3,g4,by rw[g5,hl],g6,fun j x' aV=>?_⟩;have hlt:j<cs.length:=by rw[<-hl];exact(ah3.1 aV).1
   exact(hv _ j _ x' (aib hlt) aV (g7 j _ (aib hlt))).mono (fun _ _ h=>h) (fun _ h=>h) ah
  .rw[fy q e]at ho;obtain⟨h1,h2⟩:=h.aO q o ho;exact⟨h1,h2.mono (fun _ _ h=>h) (fun _ h=>h) ah rfl fun _ _=>rfl⟩
theorem wc{H:Array Obj}{own:Nat->Prop}{used:List Nat}{hp:Name->Option Ob}{β:Name->Option aU}{v:Value}{p:Name}{w:W}(hu:nm used p)(ho:hp p=some (.arr w []))(h:VR H own used hp β v (.d .ai)):VR H own used hp β v (.vw p 0 0):=by
 have:=h.cU;cases this
 exact .vw _ _ _ _ hu rfl fun ty' w' xs hx=>by
  rw[ho]at hx;cases hx;exact⟨ain _,none,0,rfl,.inl ⟨rfl,rfl⟩⟩
section
variable {P:Program}{cf:Cf}{Q:Exit->St->Prop}{s:St}{k:List It}
theorem wi(E:bB P cf Q){c:Code}(t n:Nat)(w:W)(ht:s.fr t=.d .ai)(hn:n∉s.used)(h:gw E c ((s.add n (.arr w [])).put t (.vw [n] 0 0)) k):gw E c s k:=by
 intro B hB ds β a w' ak hs;have h1:=hs.qY hn none w;have h2:=h1.slots t;rw[show(s.add n (.arr w [])).fr t=.d .ai from ht]at h2;exact h B hB ds _ a w' ak (h1.sD (wc (w:=w) ⟨n,[],rfl,ah0⟩ (by simp[St.add,aP]) h2))
theorem om(E:bB P cf Q){c:Code}(p:Name)(j n:Nat)(w:W)(cs:List AV)(hp:s.hp p=some (.box cs))(hj:cs[j]?=some (.d .ai))(hn:n∉s.used)(h:gw E c ((s.add n (.arr w [])).set p (some (.box (cs.set j (.vw [n] 0 0))))) k):gw E c s k:=by
 intro B hB ds β a w' ak hs;have h1:=hs.qY hn none w;have kx:p≠[n]:=ku (hs.aO p _ hp).1 hn;refine h B hB ds _ a w' ak (h1.Dj (cs:=cs) (by simpa[St.add,aP,kx]using hp) (by simp) fun v i x x' hx aV hv=>?_);by_cases e:j=i
 .subst e;rw[hj]at hx;cases hx;rw[aiC (ah3.1 hj).1]at aV;cases aV;exact wc (w:=w) ⟨n,[],rfl,ah0⟩ (by simp[St.add,aP]) hv
 .rw[aiy e,hx]at aV;cases aV;exact hv
attribute [go_sem] List.set_cons_zero List.set_cons_succ
end
end Go.Ab
namespace Go.Ab
def gv(c:Bool)(x:AV):AV:=if c=true then x else .aA []
def cb(c w:Bool):Bool:=if w=true then c else !c
theorem Zv(c:Bool):cb c true=c:=rfl
theorem Zw(c:Bool):cb c false=!c:=rfl
theorem Hz(x:AV):gv true x=x:=rfl
theorem Dk(x:AV):gv false x=.aA []:=rfl
def pk(c:Bool)(x y:AV):AV:=if c=true then x else y
theorem Zx(x y:AV):pk true x y=x:=rfl
theorem Zy(x y:AV):pk false x y=y:=rfl
theorem Zz(c b:Bool):pk c (.d (.bool true)) (gv (!c) (.d (.bool b)))=.d (.bool (c||b)):=by cases c<;>rfl
theorem ZA(c b:Bool):pk (!c) (.d (.bool true)) (gv c (.d (.bool b)))=.d (.bool (!c||b)):=by cases c<;>rfl
theorem ZB(c b:Bool):pk c (gv c (.d (.bool b))) (.d (.bool false))=.d (.bool (c&&b)):=by cases c<;>rfl
attribute [go_sem] Hz Dk Zv Zw Zx Zy Zz ZA ZB Bool.not_not Option.bind_some
theorem ZC(p:Name)(d:D)(c:Bool)(x:AV):(gv c x).cj p d=gv c (x.cj p d):=by cases c<;>rfl
attribute [go_sem] ZC
theorem ZD{c want:Bool}(h:c=want):cb c want=true:=by subst h;cases c<;>rfl
theorem ZE{c want:Bool}(h:¬c=want):cb c want=false:=by cases c<;>cases want<;>first | rfl | exact absurd rfl h
section
variable {P:Program}{cf:Cf}{Q:Exit->St->Prop}{s:St}{k:List It}
theorem uM(E:bB P cf Q){t:Nat}{c want:Bool}{all:Array Oper}{r:List Oper}{d:Nat}{op:Op}{ty:TypeId}{ps:String}{af:Array Edge}{g:Option (Nat×Bool)}{x:AV}(hd:d<cf.n)
  (hx:c=want->E.run (.ops all r::k) ((s.put t (.d (.bool want))).put d x)->E.aX { dst:=some d,op:=op,type:=ty,pos:=ps,after:=af,guard:=none } (s.put t (.d (.bool want))) (.ops all r::k) (cR P.ti cf.n op (some d) (s.put t (.d (.bool want)))))
  (h:E.run (.ops all r::k) ((s.put t (.d (.bool c))).put d (gv (cb c want) x))):E.gd want all { dst:=some d,op:=op,type:=ty,pos:=ps,after:=af,guard:=g } r s k (some (t,.d (.bool c))):=by
 by_cases hc:c=want
 .have h1:=hx hc;rw[ZD hc,Hz]at h;subst hc;have h2:=h1 h;cases c
  .rw[LI];exact h2
  .rw[LH];exact h2
 .rw[ZE hc,Dk]at h
  cases c<;>cases want<;>first
   |exact absurd rfl hc
   |(rw[LJ,CL (h:=hd)];exact h)
   |(rw[LM,CL (h:=hd)];exact h)
theorem yn(E:bB P cf Q){t:Nat}{c e want:Bool}{all:Array Oper}{r:List Oper}{d:Nat}{op:Op}{ty:TypeId}{ps:String}{af:Array Edge}{g:Option (Nat×Bool)}{x:AV}(hd:d<cf.n)(hs:s.fr t=gv c (.d (.bool e)))
  (hx:c=true->e=want->E.run (.ops all r::k) ((s.put t (.d (.bool want))).put d x)->E.aX { dst:=some d,op:=op,type:=ty,pos:=ps,after:=af,guard:=none } (s.put t (.d (.bool want))) (.ops all r::k) (cR P.ti cf.n op (some d) (s.put t (.d (.bool want)))))
  (h:E.run (.ops all r::k) (s.put d (gv (c&&cb e want) x))):E.gd want all { dst:=some d,op:=op,type:=ty,pos:=ps,after:=af,guard:=g } r s k (some (t,gv c (.d (.bool e)))):=by
 by_cases hc:c=true
 .subst hc;rw[Hz]at hs ⊢;refine uM E hd (hx rfl) ?_;rw[Ae hs];exact h
 .have hc:c=false:=by simpa using hc
  subst hc;rw[Dk];rw[aiP,Dk]at h;rw[LN,CL (h:=hd)];exact h
theorem Na(E:bB P cf Q){x:R St}{o:Oper}{s2:St}(h:x.run (fun s'=>s'=s2) False)(hk:E.run k s2):E.aX o s k x:=by
 induction x with
 |ok a=>rw[Gw];obtain rfl:a=s2:=h;exact hk
 |need p r ih=>rw[LG];exact⟨h.1,ih h.2⟩
 |no=>exact h.elim
theorem gC(E:bB P cf Q){t:Nat}{c want:Bool}{all:Array Oper}{r:List Oper}{d:Nat}{op:Op}{ty:TypeId}{ps:String}{af:Array Edge}{g:Option (Nat×Bool)}{x:AV}(hd:d<cf.n)
  (hx:c=want->(cR P.ti cf.n op (some d) (s.put t (.d (.bool want)))).run (fun s'=>s'=(s.put t (.d (.bool want))).put d x) False)
  (h:E.run (.ops all r::k) ((s.put t (.d (.bool c))).put d (gv (cb c want) x))):E.gd want all { dst:=some d,op:=op,type:=ty,pos:=ps,after:=af,guard:=g } r s k (some (t,.d (.bool c))) :=
 uM E hd (fun hc hk=>Na E (hx hc) hk) h
theorem Dl(E:bB P cf Q){t:Nat}{c e want:Bool}{all:Array Oper}{r:List Oper}{d:Nat}{op:Op}{ty:TypeId}{ps:String}{af:Array Edge}{g:Option (Nat×Bool)}{x:AV}(hd:d<cf.n)(hs:s.fr t=gv c (.d (.bool e)))
  (hx:c=true->e=want->(cR P.ti cf.n op (some d) (s.put t (.d (.bool want)))).run (fun s'=>s'=(s.put t (.d (.bool want))).put d x) False)
  (h:E.run (.ops all r::k) (s.put d (gv (c&&cb e want) x))):E.gd want all { dst:=some d,op:=op,type:=ty,pos:=ps,after:=af,guard:=g } r s k (some (t,gv c (.d (.bool e)))) :=
 yn E hd hs (fun h1 h2 hk=>Na E (hx h1 h2) hk) h
theorem iu(E:bB P cf Q){d:Nat}{n:Nat}{c:Bool}{x y:AV}{o:Oper}(hd:d<n)(h:E.run k (s.put d (pk c x y))):E.aX o s k ((sj (.d (.bool c)) x y).bind (c9 n (some d) s)):=by
 cases c<;>(simp only[sj,R.bind,c9,hd,if_true,Gw];exact h)
theorem HA(E:bB P cf Q){t:Nat}{c want:Bool}{all:Array Oper}{r:List Oper}{d:Nat}{a b b':Operand}{ty:TypeId}{ps:String}{af:Array Edge}{g:Option (Nat×Bool)}{c2:Bool}{z:AV}(hd:d<cf.n)
  (hx:c=want->ev (s.put t (.d (.bool want))) a=.d (.bool c2)) (hz:c=want->pk c2 (ev (s.put t (.d (.bool want))) b) (ev (s.put t (.d (.bool want))) b')=z)
  (h:E.run (.ops all r::k) ((s.put t (.d (.bool c))).put d (gv (cb c want) z))):E.gd want all { dst:=some d,op:=.pick a b b',type:=ty,pos:=ps,after:=af,guard:=g } r s k (some (t,.d (.bool c))) :=
 uM E hd (fun hc hk=>by
  have e:cR P.ti cf.n (.pick a b b') (some d) (s.put t (.d (.bool want)))=(sj (.d (.bool c2)) (ev (s.put t (.d (.bool want))) b) (ev (s.put t (.d (.bool want))) b')).bind (c9 cf.n (some d) (s.put t (.d (.bool want)))):=by
   rw[<-hx hc];rfl
  rw[e];refine iu E hd ?_;rw[hz hc]
  exact hk) h
theorem ZF(E:bB P cf Q){t:Nat}{c e want:Bool}{all:Array Oper}{r:List Oper}{d:Nat}{a b b':Operand}{ty:TypeId}{ps:String}{af:Array Edge}{g:Option (Nat×Bool)}{c2:Bool}{z:AV}(hd:d<cf.n)(hs:s.fr t=gv c (.d (.bool e)))
  (hx:c=true->e=want->ev (s.put t (.d (.bool want))) a=.d (.bool c2)) (hz:c=true->e=want->pk c2 (ev (s.put t (.d (.bool want))) b) (ev (s.put t (.d (.bool want))) b')=z)
  (h:E.run (.ops all r::k) (s.put d (gv (c&&cb e want) z))):E.gd want all { dst:=some d,op:=.pick a b b',type:=ty,pos:=ps,after:=af,guard:=g } r s k (some (t,gv c (.d (.bool e)))) :=
 yn E hd hs (fun h1 h2 hk=>by
  have e':cR P.ti cf.n (.pick a b b') (some d) (s.put t (.d (.bool want)))=(sj (.d (.bool c2)) (ev (s.put t (.d (.bool want))) b) (ev (s.put t (.d (.bool want))) b')).bind (c9 cf.n (some d) (s.put t (.d (.bool want)))):=by
   rw[<-hx h1 h2];rfl
  rw[e'];refine iu E hd ?_;rw[hz h1 h2]
  exact hk) h
theorem bW(E:bB P cf Q)(h:∀(Q':Exit->St->Prop) (_:Q'=Q) (E':bB P cf Q'),E'.run k s):E.run k s:=h Q rfl E
theorem Nb(E:bB P cf Q){t e:TypeId}{x:Operand}{yt:TypeId}{dst:Nat}{ty:TypeId}{ps:String}{af:Array Edge}{w0:W}{xs:List D}(hk:(P.ti t).k=.slice e)(hd:dst<cf.n)(hx:ev s x=.d (.sl w0 xs))
  (h:∀b:Bool,(b=true->xs=[])->E.run k (s.put dst (.d (.bool b)))) :
  E.aX { dst:=some dst,op:=.binOp .eql t x (.const (.slice none 0 0)) yt,type:=ty,pos:=ps,after:=af,guard:=none } s k .no :=
 Y6 E false hk hd hx h
end
end Go.Ab
namespace Go.Ab
section
variable {P:Program}
theorem bA.Nc{G:List (Nat×Obj)}{f:FuncId}{args:List AV}{hp:List (Name×Ob)}{u:List Nat}{Q Q':AV->List (Name×Ob)->Prop}(h:bA P G f args hp u Q)(n:Nat)(w:W)(hn:n∉u)
  (hQ:∀r ae,Q r ae->Q' r ae∨(r=.d .ai∧ae=[]∧Q' (.vw [n] 0 0) [([n],.arr w [])])):bA P G f args hp u Q':=by
 refine⟨h.1,fun B β vs W h1 h2 h3 h4 h5=>?_⟩;refine(h.2 B β vs W h1 h2 h3 h4 h5).mono ?_;rintro e w' ⟨v,r,ae,u',β',he,hq,hs⟩;rcases hQ r ae hq with cg|⟨rfl,rfl,cg⟩
 .exact⟨v,r,ae,u',β',he,cg,hs⟩
 .have hle:Le ({ B with n:=1 }:Base).U0 id (mk [(0,.d .ai)] [] u') (mk [(0,.d .ai)] [] u):=by
   refine cF.le ?_;refine⟨⟨⟨rfl,rfl⟩,trivial⟩,trivial,trivial,?_,trivial⟩;rw[show({ B with n:=1 }:Base).U0=u from h3];simp
  obtain⟨β2,br,_⟩:=hs.le hle;have h6:=br.qY (t:=n) (by rw[ay];exact hn) none w;have h7:=h6.slots 0;rw[show((mk [(0,AV.d .ai)] [] u).add n (.arr w [])).fr 0=.d .ai from rfl]at h7;have h8:=h6.sD (wc (p:=[n]) (w:=w) ⟨n,[],rfl,ah0⟩ (by simp[St.add,aP]) h7)
  have e2:((mk [(0,AV.d .ai)] [] u).add n (.arr w [])).put 0 (.vw [n] 0 0)=mk [(0,.vw [n] 0 0)] [([n],.arr w [])] (n::u):=by
   rw[Gn,Gm];rfl
  rw[e2]at h8;exact⟨v,_,_,_,_,he,cg,h8⟩
end
end Go.Ab

namespace Go.Proofs.YtpmniabdmbmafaaGreatDoor
open Go.Ab Tryz
def oq(k:Int):Bool:=(decide (k=6)||decide (k=9))||decide (k=10)
def gU(k:Int):Bool:=decide (k=7)||decide (k=8)
def eA(k:Int):Bool:=decide (k=9)||decide (k=10)
def ch(n:TN):List Int:=if oq n.k then[n.a,n.b]else if gU n.k then n.l.map (·.2)else[]
def qq(s:Int):Int:=if s=1 then 2 else if s=2 then 1 else if s=3 then 3 else 0
def aL(l:List Int):D:=.sl none (l.map i64)
def bp(ns:List TN)(root:Int):D:=.agg [.sl (some 4) (ns.map aw),i64 root]
def ZG(d:D)(r:AV):Prop:=∃a,r=.d a∧Wk a d
theorem uN{P:Program}{G:List (Nat×Obj)}{f:FuncId}{ds:List D}{d:D}(h:HP P G f ds (ZG d)):HP P G f ds (fun r=>r=.d d) :=
 h.Zt fun _ ⟨a,e,hw⟩=>⟨a,d,e,hw,rfl⟩
theorem Nd{G}(k:Int):HP prog G 67 [i64 k] (fun r=>r=.d (.bool (oq k))):=by
 refine cJ func67 rfl (by decide +kernel) (by simp[ntmps67]) (aT fun E=>?_);simp only[go_sem];refine bS E ?_ ?_<;>intro h1<;>simp only[go_sem]
 .simp[oq,h1]
 refine bS E ?_ ?_<;>intro h2<;>simp only[go_sem]
 .simp[oq,h1,h2]
 .simp[oq,h1,h2]
theorem Nf{G}(k:Int):HP prog G 68 [i64 k] (fun r=>r=.d (.bool (gU k))):=by
 refine cJ func68 rfl (by decide +kernel) (by simp[ntmps68]) (aT fun E=>?_);simp only[go_sem];refine bS E ?_ ?_<;>intro h1<;>simp only[go_sem]
 .simp[gU,h1]
 .simp[gU,h1]
theorem ZH{G}(k:Int):HP prog G 74 [i64 k] (fun r=>r=.d (.bool (eA k))):=by
 refine cJ func74 rfl (by decide +kernel) (by simp[ntmps74]) (aT fun E=>?_);simp only[go_sem];refine bS E ?_ ?_<;>intro h1<;>simp only[go_sem]
 .simp[eA,h1]
 .simp[eA,h1]
theorem ZI{G}(k:Int):HP prog G 143 [i64 k] (fun r=>r=.d (i64 (qq k))):=by
 refine cJ func143 rfl (by decide +kernel) (by simp[ntmps143]) (aT fun E=>?_);simp only[go_sem];refine aH E ?_ ?_<;>intro h1<;>simp only[go_sem]
 .simp[qq,h1]
 refine aH E ?_ ?_<;>intro h2<;>simp only[go_sem]
 .simp[qq,h2]
 refine aH E ?_ ?_<;>intro h3<;>simp only[go_sem]
 .simp[qq,h3]
 .simp[qq,h1,h2,h3]
theorem ZJ{l:List cn}{i:Nat}(h:i<l.length):(l.take i).map (fun f=>i64 f.2)++[i64 l[i].2]=(l.take (i+1)).map fun f=>i64 f.2:=by
 rw[ah5 h,ail];rfl
theorem Dm{G}(n:TN)(hl:n.l.length<=1000000):HP prog G 71 [aw n] (fun r=>r=.d (aL (ch n))):=by
 refine uN ?_;unfold aw mC;refine gy func71 rfl (by decide +kernel) (by simp[ntmps71]) (aT fun E=>?_);simp only[go_sem];refine bj E (Nd n.k) rfl rfl (by simp) ?_;rintro _ rfl;simp only[go_sem];refine cK E ?_ ?_<;>intro hp<;>simp only[go_sem]
 .refine⟨[([13],none,[i64 n.a,i64 n.b])],?_⟩;simp only[go_sem];refine⟨_,rfl,?_⟩;simp only[aL,ch,hp,if_true,aid,aiO];exact .refl _
 refine bj E (Nf n.k) rfl rfl (by simp) ?_;rintro _ rfl;simp only[go_sem];refine cK E ?_ ?_<;>intro hw<;>simp only[go_sem]
 .refine eP E [1] (.agg [i64 n.k,i64 n.a,i64 n.b,.sl (some 2) (n.l.map bf)]) rfl rfl ?_;simp only[go_sem];refine wi E 3 99 none rfl (by rw[ay];decide) ?_;simp only[go_sem];refine bK E (X:={ i:Nat // i<=n.l.length }) (fun x=>[(3,.vw [99] 0 x.1),(18,.d (.sl (some 2) (n.l.map bf))),(19,.d (i64 n.l.length)),(20,.d (i64 x.1))]) (fun x=>[([99],.arr none ((n.l.take x.1).map fun f=>i64 f.2))]) [99] (fun x=>n.l.length-x.1) ⟨0,aie _⟩ id ?_ ?_
  .simp only[go_sem]
   all_goals rfl
  rintro⟨i,hi⟩ E';simp only[go_sem];refine aH E' ?_ ?_<;>intro h1<;>simp only[go_sem]
  .have cw:i<n.l.length:=by omega
   have hx:(n.l.map bf).getD i .aY=.agg [.str n.l[i].1,i64 n.l[i].2]:=by simp[cw,bf]
   refine⟨by omega,?_⟩;rw[hx];simp only[go_sem];refine⟨?_,⟨i+1,by omega⟩,by show n.l.length-(i+1)<_;omega,ar [([99],[28])],?_⟩
   .omega
   simp only[go_sem];refine⟨by rw[aD ⟨by omega,by omega⟩];rfl,?_⟩;rw[aic (by simp;omega),<-ZJ cw]
  .refine⟨[([99],none,(n.l.take i).map fun f=>i64 f.2)],?_⟩;simp only[go_sem];refine⟨_,rfl,?_⟩;have:i=n.l.length:=by omega
   subst this;simp only[aL,ch,hp,hw,if_true,aip,if_false,aiV,aij];rw[aic (by simp)];exact .refl _
 .refine⟨[],?_⟩;simp only[go_sem];refine⟨_,rfl,?_⟩;simp only[aL,ch,hp,hw,aip,if_false,aiO];exact .ai _
end Go.Proofs.YtpmniabdmbmafaaGreatDoor

namespace Go.Proofs.YtpmniabdmbmafaaGreatDoor
open Go.Ab Tryz
theorem dF{l:List Int}{i:Nat}(h:i<l.length):(l.map i64).getD i .aY=i64 l[i]:=by simp[h]
theorem HB{G}(a b:List Int)(ha:a.length<=1000000):HP prog G 28 [aL a,aL b] (fun r=>r=.d (.bool (decide (a=b)))):=by
 unfold aL;refine cJ func28 rfl (by decide +kernel) (by simp[ntmps28]) (aT fun E=>?_);simp only[go_sem];refine aH E ?_ ?_<;>intro h0<;>simp only[go_sem]
 .have:a≠b:=fun e=>h0 (by rw[e]);simp[this]
 have h0:a.length=b.length:=by omega
 refine rh E (X:={ i:Nat // i<=a.length∧a.take i=b.take i }) (fun x=>[(0,.d (.sl none (a.map i64))),(1,.d (.sl none (b.map i64))),(5,.d (i64 x.1))]) (fun x=>a.length-x.1) rfl ⟨0,aie _,rfl⟩ ?_ ?_
 .simp only[go_sem]
  all_goals rfl
 rintro⟨i,hi,eL⟩ E';simp only[go_sem];refine aH E' ?_ ?_<;>intro h1<;>simp only[go_sem]
 .have cw:i<a.length:=by omega
  have sJ:i<b.length:=by omega
  refine Mb mixed (by decide +kernel) E' fun E2=>?_;simp only[go_sem];refine⟨by omega,?_⟩;rw[dF cw];simp only[go_sem];refine⟨by omega,?_⟩;rw[dF sJ];simp only[go_sem];refine aH E' ?_ ?_<;>intro h2<;>simp only[go_sem]
  .have:a≠b:=fun e=>h2 (by subst e;rfl);simp[this]
  .refine⟨⟨i+1,by omega,?_⟩,by show a.length-(i+1)<_;omega,?_⟩
   .have h2:a[i]=b[i]:=by simpa using h2
    rw[ah5 cw,ah5 sJ,eL,h2]
   .rw[aD ⟨by omega,by omega⟩];rfl
 .have h3:i=a.length:=by omega
  subst h3;rw[aij,h0,aij]at eL;simp[eL]
end Go.Proofs.YtpmniabdmbmafaaGreatDoor

namespace Go.Proofs.YtpmniabdmbmafaaGreatDoor
open Go.Ab Tryz
theorem HC{α:Type}{p:α->Bool}{l:List α}{i:Nat}(h:i<l.length)(ha:(l.take i).any p=false)(hp:p l[i]=false):(l.take (i+1)).any p=false:=by
 rw[ah5 h,akv,ha,ajI];simp[hp]
theorem ZK{G}(l:List Int)(p:Int->Bool)(f:Nat)(aR:List D)(hl:l.length<=1000000)(hc:∀x∈l,HP prog G f (i64 x::aR) (fun r=>r=.d (.bool (p x)))) :
  HP prog G 105 [aL l,.aW f aR] (fun r=>∃z:Int,r=.d (i64 z)∧decide (0<=z)=l.any p):=by
 unfold aL;have eS:∀{i:Nat} (h:i<l.length),(l.map i64).getD i .aY=i64 l[i]:=fun h=>dF h;refine cJ func105 rfl (by decide +kernel) (by simp[ntmps105]) (aT fun E=>?_);simp only[go_sem];refine rh E (X:={ i:Nat // i<=l.length∧(l.take i).any p=false }) (fun x=>[(0,.d (.sl none (l.map i64))),(1,.d (.aW f aR)),(6,.d (.sl none (l.map i64))),(7,.d (i64 l.length)),(8,.d (i64 x.1))]) (fun x=>l.length-x.1) rfl ⟨0,aie _,by simp⟩ ?_ ?_
 .simp only[go_sem]
  all_goals rfl
 rintro⟨i,hi,eL⟩ E';simp only[go_sem];refine aH E' ?_ ?_<;>intro h1<;>simp only[go_sem]
 .have cw:i<l.length:=by omega
  refine⟨by omega,?_⟩;rw[eS cw];simp only[go_sem];refine Da E' (hc l[i] (ah2 cw)) rfl rfl (by simp) ?_;rintro _ rfl;simp only[go_sem];refine cK E' ?_ ?_<;>intro h2<;>simp only[go_sem]
  .refine⟨_,rfl,?_⟩;have:l.any p=true:=aiA.2 ⟨l[i],ah2 cw,h2⟩;rw[this];exact decide_eq_true (Int.natCast_nonneg _)
  .refine⟨⟨i+1,by omega,HC cw eL h2⟩,by show l.length-(i+1)<_;omega,?_⟩;rw[aD ⟨by omega,by omega⟩];rfl
 .have h3:i=l.length:=by omega
  subst h3;rw[aij]at eL;refine⟨_,rfl,?_⟩;rw[eL];decide
theorem ZL{G}(l:List Int)(p:Int->Bool)(f:Nat)(aR:List D)(hl:l.length<=1000000)(hc:∀x∈l,HP prog G f (i64 x::aR) (fun r=>r=.d (.bool (p x)))) :
  HP prog G 70 [aL l,.aW f aR] (fun r=>r=.d (.bool (l.any p))):=by
 refine cJ func70 rfl (by decide +kernel) (by simp[ntmps70]) (aT fun E=>?_);simp only[go_sem];refine bj E (ZK l p f aR hl hc) rfl rfl (by simp) ?_;rintro _ ⟨z,rfl,hz⟩;simp only[go_sem];rw[hz]
theorem ZM{l:List TN}{i:Nat}(h:i<l.length):(l.map aw).getD i .aY=aw l[i]:=by simp[h]
theorem HD{l:List TN}{i:Nat}(h:i<l.length):(l.map aw).getD i .aY=.agg [i64 l[i].k,i64 l[i].a,i64 l[i].b,.sl (some 2) (l[i].l.map bf)]:=ZM h
theorem ZN{G}(l:List TN)(p:TN->Bool)(f:Nat)(aR:List D)(hl:l.length<=1000000)(hc:∀x∈l,HP prog G f (aw x::aR) (fun r=>r=.d (.bool (p x)))) :
  HP prog G 66 [.sl (some 4) (l.map aw),.aW f aR] (fun r=>∃z:Int,r=.d (i64 z)∧decide (0<=z)=l.any p):=by
 have eS:∀{i:Nat} (h:i<l.length),(l.map aw).getD i .aY=.agg [i64 l[i].k,i64 l[i].a,i64 l[i].b,.sl (some 2) (l[i].l.map bf)]:=fun h=>HD h;refine cJ func66 rfl (by decide +kernel) (by simp[ntmps66]) (aT fun E=>?_);simp only[go_sem];refine rh E (X:={ i:Nat // i<=l.length∧(l.take i).any p=false }) (fun x=>[(0,.d (.sl (some 4) (l.map aw))),(1,.d (.aW f aR)),(6,.d (.sl (some 4) (l.map aw))),(7,.d (i64 l.length)),(8,.d (i64 x.1))]) (fun x=>l.length-x.1) rfl ⟨0,aie _,by simp⟩ ?_ ?_
 .simp only[go_sem]
  all_goals rfl
 rintro⟨i,hi,eL⟩ E';simp only[go_sem];refine aH E' ?_ ?_<;>intro h1<;>simp only[go_sem]
 .have cw:i<l.length:=by omega
  refine⟨by omega,?_⟩;rw[eS cw];simp only[go_sem];refine Da E' (hc l[i] (ah2 cw)) rfl rfl (by simp) ?_;rintro _ rfl;simp only[go_sem];refine cK E' ?_ ?_<;>intro h2<;>simp only[go_sem]
  .refine⟨_,rfl,?_⟩;have:l.any p=true:=aiA.2 ⟨l[i],ah2 cw,h2⟩;rw[this];exact decide_eq_true (Int.natCast_nonneg _)
  .refine⟨⟨i+1,by omega,HC cw eL h2⟩,by show l.length-(i+1)<_;omega,?_⟩;rw[aD ⟨by omega,by omega⟩];rfl
 .have h3:i=l.length:=by omega
  subst h3;rw[aij]at eL;refine⟨_,rfl,?_⟩;rw[eL];decide
theorem ZO{G}(l:List TN)(p:TN->Bool)(f:Nat)(aR:List D)(hl:l.length<=1000000)(hc:∀x∈l,HP prog G f (aw x::aR) (fun r=>r=.d (.bool (p x)))) :
  HP prog G 39 [.sl (some 4) (l.map aw),.aW f aR] (fun r=>r=.d (.bool (l.any p))):=by
 refine cJ func39 rfl (by decide +kernel) (by simp[ntmps39]) (aT fun E=>?_);simp only[go_sem];refine bj E (ZN l p f aR hl hc) rfl rfl (by simp) ?_;rintro _ ⟨z,rfl,hz⟩;simp only[go_sem];rw[hz]
def AL(all x:Int):Bool:=decide (x<0)||decide (all<=x)
theorem ZP{G}(x all:Int):HP prog G 72 [i64 x,.ptr (i64 all)] (fun r=>r=.d (.bool (AL all x))):=by
 refine cJ func72 rfl (by decide +kernel) (by simp[ntmps72]) (aT fun E=>?_);simp only[go_sem]
 repeat (first
  |(apply gC E;(· simp only[go_sem]);(· intro h;(try simp only[bq]at h);simp only[↓h,go_sem];rfl);simp only[go_sem])
  |(apply iu E;(· decide);simp only[go_sem]))
 rfl
def eW(l:List cn)(i:Nat):List UInt8:=(l.getD i ([],0)).1
def sK(k:Int)(s:List UInt8):Bool:=(decide (k=7)&&!qn s)||(decide (k=8)&&!ru s)
def lh(l:List cn)(i:Nat):Bool:=decide (0<i)&&!Op.bytesLess (eW l (i-1)) (eW l i)
def uO(k:Int)(l:List cn):Bool:=(List.range l.length).all fun i=>!sK k (eW l i)&&!lh l i
theorem Ng{k:Int}{l:List cn}{i:Nat}(h:((List.range i).all fun i=>!sK k (eW l i)&&!lh l i)=true)(h1:sK k (eW l i)=false)(h2:lh l i=false):((List.range (i+1)).all fun i=>!sK k (eW l i)&&!lh l i)=true:=by
 rw[akw,List.all_append,h];simp[h1,h2]
theorem Nh{k:Int}{l:List cn}{i:Nat}(hi:i<l.length)(h:sK k (eW l i)=true∨lh l i=true):uO k l=false:=by
 unfold uO;rw[akJ];refine⟨i,aiq.2 hi,?_⟩;rcases h with h|h<;>simp[h]
theorem Ni{l:List cn}{i:Nat}(h:i<l.length):(l.map bf).getD i .aY=.agg [.str (eW l i),i64 l[i].2]:=by simp[h,eW,bf]
theorem Nj{G}(n:TN)(hl:n.l.length<=1000000)(hs:∀f∈n.l,f.1.length<=9223372036854775807):HP prog G 69 [aw n] (fun r=>r=.d (.bool (uO n.k n.l&&decide (n.l.length<=30)))):=by
 unfold aw mC;refine cJ func69 rfl (by decide +kernel) (by simp[ntmps69]) (aT fun E=>?_);simp only[go_sem];refine eP E [1] (.agg [i64 n.k,i64 n.a,i64 n.b,.sl (some 2) (n.l.map bf)]) rfl rfl ?_;simp only[go_sem];refine rh E (X:={ i:Nat // i<=n.l.length∧((List.range i).all fun i=>!sK n.k (eW n.l i)&&!lh n.l i)=true }) (fun x=>[(1,.d (.ptr (.agg [i64 n.k,i64 n.a,i64 n.b,.sl (some 2) (n.l.map bf)]))),(6,.d (.sl (some 2) (n.l.map bf))),(7,.d (i64 n.l.length)),(8,.d (i64 x.1))]) (fun x=>n.l.length-x.1) rfl ⟨0,aie _,rfl⟩ ?_ ?_
 .simp only[go_sem]
  all_goals rfl
 rintro⟨i,hi,eL⟩ E;simp only[go_sem];refine aH E ?_ ?_<;>intro h1<;>simp only[go_sem]
 .have cw:i<n.l.length:=by omega
  have hlen:(eW n.l i).length<=9223372036854775807:=by
   have:=hs n.l[i] (ah2 cw);simp only[eW,ahX,aib cw,Option.getD_some];omega
  refine⟨by omega,?_⟩;rw[Ni cw];simp only[go_sem]
  repeat (first
   |(apply gC E;(· simp only[go_sem]);(· intro h;(try simp only[bq]at h);simp only[↓h,go_sem];rfl);simp only[go_sem]))
  (first|(apply uM E;(· simp only[go_sem]);(· intro h hk;(try simp only[bq]at h);refine bj E (M6 (eW n.l i) hlen) rfl (by simp only[↓h,go_sem]<;>rfl) (by simp) ?_;rintro _ rfl;exact hk);simp only[go_sem])|(apply yn E;(· simp only[go_sem]);(· rfl);(· intro h h' hk;(try simp only[bq]at h h');refine bj E (M6 (eW n.l i) hlen) rfl (by simp only[↓h,↓h',go_sem]<;>rfl) (by simp) ?_;rintro _ rfl;exact hk);simp only[go_sem]))
  repeat (first
   |(apply gC E;(· simp only[go_sem]);(· intro h;(try simp only[bq]at h);simp only[↓h,go_sem];rfl);simp only[go_sem])
   |(apply Dl E;(· simp only[go_sem]);(· rfl);(· intro h h';(try simp only[bq]at h h');simp only[↓h,↓h',go_sem];rfl);simp only[go_sem])
   |(apply iu E;(· decide);simp only[go_sem]))
  (first|(apply uM E;(· simp only[go_sem]);(· intro h hk;(try simp only[bq]at h);refine bj E (M7 (eW n.l i) hlen) rfl (by simp only[↓h,go_sem]<;>rfl) (by simp) ?_;rintro _ rfl;exact hk);simp only[go_sem])|(apply yn E;(· simp only[go_sem]);(· rfl);(· intro h h' hk;(try simp only[bq]at h h');refine bj E (M7 (eW n.l i) hlen) rfl (by simp only[↓h,↓h',go_sem]<;>rfl) (by simp) ?_;rintro _ rfl;exact hk);simp only[go_sem]))
  repeat (first
   |(apply HA E;(· simp only[go_sem]);(· intro h;(try simp only[bq]at h);simp only[↓h,go_sem];rfl);(· intro h;(try simp only[bq]at h);simp only[↓h,go_sem];rfl);simp only[go_sem])
   |(apply Dl E;(· simp only[go_sem]);(· rfl);(· intro h h';(try simp only[bq]at h h');simp only[↓h,↓h',go_sem];rfl);simp only[go_sem])
   |(apply iu E;(· decide);simp only[go_sem]))
  refine cK E ?_ ?_<;>intro h2<;>simp only[go_sem]
  .rw[Nh cw (.inl h2),aiP]
  refine Mb mixed (by decide +kernel) E fun E2=>?_;simp only[go_sem];refine Wm E2 ?_ ?_<;>intro h3<;>simp only[go_sem]
  .have hw:lY ((i:Int)-1)=((i-1:Nat):Int):=by rw[aD ⟨by omega,by omega⟩];omega
   have h4:i-1<n.l.length:=by omega
   rw[hw];refine⟨by omega,?_⟩;rw[Int.toNat_natCast,Ni h4];simp only[go_sem];refine cK E ?_ ?_<;>intro h5<;>simp only[go_sem]
   .have:lh n.l i=true:=by
     have h5:Op.bytesLess (eW n.l (i-1)) (eW n.l i)=false:=by simpa using h5
     simp only[lh,h5,aj6,akF,decide_eq_true_eq];omega
    rw[Nh cw (.inr this),aiP]
   .refine⟨⟨i+1,by omega,Ng eL h2 ?_⟩,by show n.l.length-(i+1)<_;omega,?_⟩
    .have h5:Op.bytesLess (eW n.l (i-1)) (eW n.l i)=true:=by simpa using h5
     simp only[lh,h5,ajo,ajD]
    .rw[aD ⟨by omega,by omega⟩];rfl
  .refine⟨⟨i+1,by omega,Ng eL h2 ?_⟩,by show n.l.length-(i+1)<_;omega,?_⟩
   .simp only[lh,akr,decide_eq_false_iff_not];exact .inl (by omega)
   .rw[aD ⟨by omega,by omega⟩];rfl
 .have h3:i=n.l.length:=by omega
  subst h3;have:uO n.k n.l=true:=eL;rw[this,ajp];exact congrArg (fun b=>AV.d (.bool b)) (by simp[decide_eq_decide];omega)
def jf(n:TN)(all:Int):Bool:=!(decide (n.k<1)||decide (11<n.k))&&!(!oq n.k&&(decide (¬n.b=0)||decide (¬n.k=11)&&decide (¬n.a=0)))&&!(decide (n.k=11)&&(decide (n.a<0)||decide (999<n.a))) &&
 !(!gU n.k&&decide (0<(n.l.length:Int))||!(uO n.k n.l&&decide (n.l.length<=30)))&&!(ch n).any (AL all)
theorem ZQ{G}(n:TN)(all:Int)(hl:n.l.length<=1000000)(hs:∀f∈n.l,f.1.length<=9223372036854775807):HP prog G 41 [aw n,i64 all] (fun r=>r=.d (.bool (jf n all))):=by
 have hk:(ch n).length<=1000000:=by
  unfold ch;split
  .simp
  .split<;>simp;omega
 refine cJ func41 rfl (by decide +kernel) (by simp[ntmps41]) (aT fun E=>?_);unfold aw mC;simp only[go_sem]
 repeat (first
  |(apply gC E;(· simp only[go_sem]);(· intro h;(try simp only[bq]at h);simp only[↓h,go_sem];rfl);simp only[go_sem])
  |(apply iu E;(· decide);simp only[go_sem]))
 refine cK E ?_ ?_<;>intro h1<;>simp only[go_sem]
 .simp only[jf,h1,ajo,aiP]
 refine bj E (Nd n.k) rfl rfl (by simp) ?_;rintro _ rfl;simp only[go_sem]
 repeat (first
  |(apply gC E;(· simp only[go_sem]);(· intro h;(try simp only[bq]at h);simp only[↓h,go_sem];rfl);simp only[go_sem])
  |(apply HA E;(· simp only[go_sem]);(· intro h;(try simp only[bq]at h);simp only[↓h,go_sem];rfl);(· intro h;(try simp only[bq]at h);simp only[↓h,go_sem];rfl);simp only[go_sem])
  |(apply Dl E;(· simp only[go_sem]);(· rfl);(· intro h h';(try simp only[bq]at h h');simp only[↓h,↓h',go_sem];rfl);simp only[go_sem])
  |(apply ZF E;(· simp only[go_sem]);(· rfl);(· intro h h';(try simp only[bq]at h h');simp only[↓h,↓h',go_sem];rfl);(· intro h h';(try simp only[bq]at h h');simp only[↓h,↓h',go_sem];rfl);simp only[go_sem])
  |(apply iu E;(· decide);simp only[go_sem]))
 refine cK E ?_ ?_<;>intro h2<;>simp only[go_sem]
 .simp only[jf,h2,ajo,aiP,ajD]
 repeat (first
  |(apply gC E;(· simp only[go_sem]);(· intro h;(try simp only[bq]at h);simp only[↓h,go_sem];rfl);simp only[go_sem])
  |(apply HA E;(· simp only[go_sem]);(· intro h;(try simp only[bq]at h);simp only[↓h,go_sem];rfl);(· intro h;(try simp only[bq]at h);simp only[↓h,go_sem];rfl);simp only[go_sem])
  |(apply Dl E;(· simp only[go_sem]);(· rfl);(· intro h h';(try simp only[bq]at h h');simp only[↓h,↓h',go_sem];rfl);simp only[go_sem])
  |(apply iu E;(· decide);simp only[go_sem]))
 refine cK E ?_ ?_<;>intro h3<;>simp only[go_sem]
 .simp only[jf,h3,ajo,aiP,ajD]
 refine bj E (Nf n.k) rfl rfl (by simp) ?_;rintro _ rfl;simp only[go_sem]
 repeat (first
  |(apply gC E;(· simp only[go_sem]);(· intro h;(try simp only[bq]at h);simp only[↓h,go_sem];rfl);simp only[go_sem])
  |(apply iu E;(· decide);simp only[go_sem]))
 (first|(apply uM E;(· simp only[go_sem]);(· intro h hk;(try simp only[bq]at h);refine bj E (Nj n hl hs) rfl (by simp only[↓h,go_sem]<;>rfl) (by simp) ?_;rintro _ rfl;exact hk);simp only[go_sem])|(apply yn E;(· simp only[go_sem]);(· rfl);(· intro h h' hk;(try simp only[bq]at h h');refine bj E (Nj n hl hs) rfl (by simp only[↓h,↓h',go_sem]<;>rfl) (by simp) ?_;rintro _ rfl;exact hk);simp only[go_sem]))
 repeat (first
  |(apply gC E;(· simp only[go_sem]);(· intro h;(try simp only[bq]at h);simp only[↓h,go_sem];rfl);simp only[go_sem])
  |(apply iu E;(· decide);simp only[go_sem]))
 refine cK E ?_ ?_<;>intro h4<;>simp only[go_sem]
 .simp only[jf,h4,ajo,aiP,ajD]
 refine bj E (Dm n hl) rfl rfl (by simp) ?_;rintro _ rfl;simp only[go_sem];refine C9 E [3] (i64 all) rfl rfl ?_;simp only[go_sem];refine bj E (ZL (ch n) (AL all) 72 [.ptr (i64 all)] hk (fun x _=>ZP x all)) rfl rfl (by simp) ?_;rintro _ rfl;simp only[go_sem];simp only[jf,h1,h2,h3,h4,aj6,ajp]
end Go.Proofs.YtpmniabdmbmafaaGreatDoor

namespace Go.Proofs.YtpmniabdmbmafaaGreatDoor
open Go.Ab
end Go.Proofs.YtpmniabdmbmafaaGreatDoor

namespace Go.Proofs.YtpmniabdmbmafaaGreatDoor
open Go.Ab
def nd(ns:List TN)(i:Nat):TN:=ns.getD i ⟨0,0,0,[]⟩
theorem qs{ns:List TN}{i:Nat}(h:i<ns.length):nd ns i=ns[i]:=by simp[nd,h]
theorem uP{ns:List TN}{i:Nat}(h:i<ns.length):(ns.map aw).getD i .aY=.agg [i64 (nd ns i).k,i64 (nd ns i).a,i64 (nd ns i).b,.sl (some 2) ((nd ns i).l.map bf)]:=by
 rw[qs h];exact HD h
def AO(ns:List TN)(i j:Nat):Prop:=eA (nd ns i).k=true∧(j=(nd ns i).a.toNat∨j=(nd ns i).b.toNat)
inductive lj(ns:List TN):Nat->Nat->Prop
 |one {i j:Nat} (h:AO ns i j):lj ns i j
 |cons {i j k:Nat} (h:AO ns i j) (t:lj ns j k):lj ns i k
theorem lj.snoc{ns:List TN}{i j k:Nat}(h:lj ns i j)(e:AO ns j k):lj ns i k:=by
 induction h with
 |one h=>exact .cons h (.one e)
 |cons h _ ih=>exact .cons h (ih e)
inductive Ends(ns:List TN):Nat->Prop
 |flat {i:Nat} (h:eA (nd ns i).k=false):Ends ns i
 |both {i:Nat} (ha:Ends ns (nd ns i).a.toNat) (hb:Ends ns (nd ns i).b.toNat):Ends ns i
theorem Ends.no{ns:List TN}{i:Nat}(h:Ends ns i):¬lj ns i i:=by
 induction h with
 |flat h =>
   intro p
   have:∀j k,lj ns j k->eA (nd ns j).k=true:=fun j k p=>by cases p with
    |one e=>exact e.1
    |cons e _=>exact e.1
   rw[this _ _ p]at h;cases h
 | @both i _ _ ZR ZS =>
   have key:∀x,AO ns i x->(x=i∨lj ns x i)->False:=by
    intro x e hx
    have hp:lj ns x x:=by
     obtain rfl|hx:=hx
     .exact .one e
     .exact hx.snoc e
    obtain rfl|rfl:=e.2
    .exact ZR hp
    .exact ZS hp
   intro p
   cases p with
   |one e=>exact key _ e (.inl rfl)
   |cons e t=>exact key _ e (.inr t)
def ll(C:List Int):Nat:=C.countP (· == 0)
structure sL(ns:List TN)(C:List Int):Prop where
 len:C.length=ns.length
 val:∀j,C.getD j 0=0∨C.getD j 0=1∨C.getD j 0=2
 black:∀j,C.getD j 0=2->Ends ns j
theorem AP{C:List Int}{i j:Nat}{x:Int}(h:i<C.length):(C.set i x).getD j 0=if j=i then x else C.getD j 0:=by
 simp only[ahX,ajm];by_cases e:i=j
 .subst e;simp[h]
 .simp[e,Ne.symm e]
theorem sL.set{ns:List TN}{C:List Int}(h:sL ns C){i:Nat}{x:Int}(hi:i<C.length)(hx:x=1∨(x=2∧Ends ns i)):sL ns (C.set i x):=by
 refine⟨by simpa using h.len,fun j=>?_,fun j=>?_⟩
 .rw[AP hi];split
  .rcases hx with rfl|⟨rfl,_⟩<;>simp
  .exact h.val j
 .rw[AP hi];split
  .rename_i e;subst e;obtain rfl|⟨rfl,he⟩:=hx
   .intro h;cases h
   .exact fun _=>he
  .exact h.black j
theorem ZT{x:Int}(hx:x≠0):∀(C:List Int) (i:Nat),C.getD i 1=0->ll (C.set i x)<ll C:=by
 intro C
 induction C with
 |nil=>intro i h;simp at h
 |cons c r ih =>
   intro i h
   cases i with
   |zero =>
     have h:c=0:=by simpa using h
     subst h;simp[ll,aka,hx]
   |succ i =>
     have:=ih i (by simpa using h);simp only[ll,List.set_cons_succ,aka]at this ⊢;omega
theorem Nk:∀(C C':List Int),C.length=C'.length->(∀j,C'.getD j 1=0->C.getD j 1=0)->ll C'<=ll C
 |[],[],_,_=>ain _
 |c::C,c'::C',hl,h=>by
   have ih:=Nk C C' (by simpa using hl) (fun j hj=>by simpa using h (j+1) (by simpa using hj));have h0:=h 0;simp only[ll,aka]at ih ⊢;by_cases e:c'=0
   .have:c=0:=by simpa using h0 (by simpa using e)
    simp[e,this,ih]
   .have:(c' == 0)=false:=by simpa using e
    rw[this];simp only[aip,if_false];split<;>omega
 |[],_::_,hl,_=>by simp at hl
 |_::_,[],hl,_=>by simp at hl
def ZU(ns:List TN)(C:List Int)(i:Nat)(b:Bool)(C':List Int):Prop :=
 C'.length=ns.length∧(b=true->sL ns C'∧Ends ns i∧(∀j,C'.getD j 0=1↔C.getD j 0=1)∧ll C'<=ll C)∧(b=false->∃j,lj ns j j∧j<ns.length)
end Go.Proofs.YtpmniabdmbmafaaGreatDoor

namespace Go.Ab
structure EA where
 plus:Bool
 al:Bool
 int:Bool
 bool:Bool
 str:Bool
 arr:Bool
 rc:Bool
 tg:Bool
 vars:List Int
 dp:Int
 dq:Int
 fl:List (List UInt8×Int)
 tl:List (List UInt8×Int)
 deriving DecidableEq,Inhabited
end Go.Ab

namespace Go.Proofs.YtpmniabdmbmafaaGreatDoor
open Go.Ab
def cz(p:Bool):Int:=if p then 1 else 2
def cx(p:Bool):Int:=if p then 2 else 1
def cA(p:Bool):Int:=if p then 9 else 10
def np(k:Int):Bool:=decide (k=6)||decide (k=9)||decide (k=10)
def iM(d:Int)(n:TN):TN:=⟨n.k,if np n.k=true then n.a+d else n.a,if np n.k=true then n.b+d else n.b,n.l.map fun q=>(q.1,q.2+d)⟩
def aq(ns gs:List TN):List TN:=ns++gs.map (iM ns.length)
def ec(s:EA)(every:Int):List TN :=
 (if s.al=true then[⟨every,0,0,[]⟩]else[])++(if s.int=true then[⟨3,0,0,[]⟩]else[])++(if s.bool=true then[⟨4,0,0,[]⟩]else[])++(if s.str=true then[⟨5,0,0,[]⟩]else[])++s.vars.map (fun v=>⟨11,v,0,[]⟩) ++
  (if s.arr=true then[⟨6,s.dp,s.dq,[]⟩]else[])++(if s.rc=true then[⟨7,0,0,s.fl⟩]else[])++(if s.tg=true then[⟨8,0,0,s.tl⟩]else[])
def gD(lk:Int)(s:List TN×Nat)(x:TN):List TN×Nat:=(s.1++[x,⟨lk,s.2,s.1.length,[]⟩],s.1.length+1)
def nq(p:Bool)(L:List TN)(P:List TN):List TN×Nat:=P.foldl (gD (cA p)) (L++[⟨cx p,0,0,[]⟩],L.length)
def j6(L:List TN)(i:Nat)(s:EA):List TN:=(nq s.plus L (ec s (cz s.plus))).1.set i ⟨cA s.plus,(nq s.plus L (ec s (cz s.plus))).2,(nq s.plus L (ec s (cz s.plus))).2,[]⟩
def gW(R:List EA):Nat->List TN
 |0=>List.replicate R.length ⟨0,0,0,[]⟩
 |i+1=>j6 (gW R i) i (R.getD i default)
def df(R:List EA):List TN:=gW R R.length
end Go.Proofs.YtpmniabdmbmafaaGreatDoor

namespace Go.Ab
mutual
def D.flat:D->Bool
 |.int _ _=>true
 |.bool _=>true
 |.str _=>true
 |.aY=>true
 |.ai=>true
 |.jT=>true
 |.lJ=>true
 |.lK=>true
 |.unk=>true
 |.sl _ xs=>xs.isEmpty
 |.tS _ _=>false
 |.agg cs=>dG cs
 |.ptr _=>false
 |.aW _ cs=>dG cs
 |.pU _ d=>d.flat
 |.nM _ _ _ _=>false
 |.yl _=>true
def dG:List D->Bool
 |[]=>true
 |d::r=>d.flat&&dG r
end
mutual
def AV.flat:AV->Bool
 |.un=>true
 |.d x=>x.flat
 |.vw _ _ _=>true
 |.bx _ _=>true
 |.el _ _ _=>true
 |.mp _=>true
 |.it _=>true
 |.agg cs=>sM cs
 |.aA cs=>sM cs
 |.aW _ cs=>sM cs
 |.va _ _ _=>true
 |.ea _ _=>true
 |.ma _=>true
def sM:List AV->Bool
 |[]=>true
 |x::r=>x.flat&&sM r
end
def AQ:List (D×D)->Bool
 |[]=>true
 |x::r=>x.1.flat&&x.2.flat&&AQ r
def Ob.flat:Ob->Bool
 |.bu _ _ xs=>dG xs
 |.bz _ cs=>sM cs
 |.map es=>AQ es
 |.pV _ _=>true
 |.pX _ _ _=>false
 |.dZ _ xs=>sM xs
 |.mapA _ _ _=>false
def gX:List (Name×Ob)->Bool
 |[]=>true
 |x::r=>x.2.flat&&gX r
theorem AR:∀{l:List D},dG l=true->∀(i:Nat) d,l[i]?=some d->d.flat=true
 |[],_,i,d,h=>by simp at h
 |x::r,hf,i,d,h=>by
   simp only[dG,aia]at hf
   cases i with
   |zero=>cases h;exact hf.1
   |succ i=>exact AR hf.2 i d (by simpa using h)
theorem yp:∀{l:List AV},sM l=true->∀(i:Nat) x,l[i]?=some x->x.flat=true
 |[],_,i,d,h=>by simp at h
 |x::r,hf,i,d,h=>by
   simp only[sM,aia]at hf
   cases i with
   |zero=>cases h;exact hf.1
   |succ i=>exact yp hf.2 i d (by simpa using h)
theorem Nl:∀{l:List (D×D)},AQ l=true->∀(i:Nat) x,l[i]?=some x->x.1.flat=true∧x.2.flat=true
 |[],_,i,d,h=>by simp at h
 |x::r,hf,i,d,h=>by
   simp only[AQ,aia]at hf
   cases i with
   |zero=>cases h;exact hf.1
   |succ i=>exact Nl hf.2 i d (by simpa using h)
theorem Nn:∀{l:List (Name×Ob)},gX l=true->∀q∈l,q.2.flat=true
 |[],_,q,h=>by simp at h
 |x::r,hf,q,h=>by
   simp only[gX,aia]at hf;rcases ah6.1 h with rfl|h
   .exact hf.1
   .exact Nn hf.2 q h
theorem au.o7{H H':Array Obj}{own own':Nat->Prop}{v:Value}{d:D}(h:au H own v d):d.flat=true->au H' own' v d:=by
 induction h with
 |int k n=>exact fun _=>.int k n
 |bool b=>exact fun _=>.bool b
 |str l=>exact fun _=>.str l
 |aY=>exact fun _=>.aY
 |ai=>exact fun _=>.ai
 |jT=>exact fun _=>.jT
 |lJ=>exact fun _=>.lJ
 |lK=>exact fun _=>.lK
 |unk v h=>exact fun _=>.unk v h
 |yl l=>exact fun _=>.yl l
 |agg vs cs hs hc _ ih=>exact fun hf=>.agg vs cs hs hc fun i d hi=>ih i d hi (AR hf i d hi)
 |lL a cap w=>exact fun _=>.lL a cap w
 |sl b o cap c e fz w xs hb hn fL hz hw _ ih =>
   intro hf;have:xs=[]:=by simpa[D.flat]using hf
   subst this;exact .lL _ _ _
 |tS v w xs _ hc ih=>intro hf;cases hf
 |ptr b o c e fz d hb hn hz ez _ ih=>intro hf;cases hf
 |aW f vs cs hs _ ih=>exact fun hf=>.aW f vs cs hs fun i d hi=>ih i d hi (AR hf i d hi)
 |pU t v d _ ih=>exact fun hf=>.pU t v d (ih hf)
 |nM b aZ aS bs ks vs hb hn hs kT _ _ qU oN=>intro hf;cases hf
section
variable {H:Array Obj}{own own':Nat->Prop}{used:List Nat}{hp:Name->Option Ob}{β:Name->Option aU}
theorem VR.o7{v:Value}{x:AV}(h:VR H own used hp β v x):x.flat=true->VR H own' used hp β v x:=by
 induction h with
 |un v=>exact fun _=>.un v
 |d v x h=>exact fun hf=>.d v x (h.o7 hf)
 |vw v p off len hu h1 h=>exact fun _=>.vw v p off len hu h1 h
 |bx v p c hu h1 h=>exact fun _=>.bx v p c hu h1 h
 |el v p i c hu h1 h=>exact fun _=>.el v p i c hu h1 h
 |mp v p hu h1 h=>exact fun _=>.mp v p hu h1 h
 |its v p hu h1 h h'=>exact fun _=>.its v p hu h1 h h'
 |va v p off len hu h1 h=>exact fun _=>.va v p off len hu h1 h
 |ea v p i hu h1 h=>exact fun _=>.ea v p i hu h1 h
 |ma v p hu h1 h=>exact fun _=>.ma v p hu h1 h
 |agg vs cs hs hc _ ih=>exact fun hf=>.agg vs cs hs hc fun i x hi=>ih i x hi (yp hf i x hi)
 |aA vs cs hs _ ih=>exact fun hf=>.aA vs cs hs fun i x hi=>ih i x hi (yp hf i x hi)
 |aW f vs cs hs _ ih=>exact fun hf=>.aW f vs cs hs fun i x hi=>ih i x hi (yp hf i x hi)
theorem ZV{d:D}(h:d.flat=true):dG d.cells=true:=by
 cases d<;>first|exact h|(simp only[D.cells,dG,akF];exact h)
theorem OR.o7{p:Name}{o:Ob}(h:OR H own used hp β p o)(hf:o.flat=true):OR H own' used hp β p o:=by
 cases o with
 |bu ty w xs =>
   obtain h|⟨k,c,e,hk,hc,hz,hl,hw,h⟩:=h
   .exact .inl h
   .exact .inr ⟨k,c,e,hk,hc,hz,hl,hw,fun i x j d hi hj=>(h i x j d hi hj).o7 (AR (ZV (AR hf i x hi)) j d hj)⟩
 |bz ty cs =>
   obtain⟨k,c,e,hk,ho,hc,hz,hl,h1,h⟩:=h;exact⟨k,c,e,hk,ho,hc,hz,hl,h1,fun j x hj=>(h j x hj).o7 (yp hf j x hj)⟩
 |map es =>
   obtain⟨k,aS,clock,hk,hc,hz,h⟩:=h;refine⟨k,aS,clock,hk,hc,hz,fun i x hi=>?_⟩;obtain⟨en,h1,h2,h3⟩:=h i x hi;obtain⟨g1,g2⟩:=Nl hf i x hi;exact⟨en,h1,h2.o7 g1,h3.o7 g2⟩
 |pV s pos=>exact h
 |pX _ _ _=>cases hf
 |mapA _ _ _=>cases hf
 |dZ w xs =>
   obtain h|⟨k,c,e,hk,hc,hz,hl,hw,h⟩:=h
   .exact .inl h
   .exact .inr ⟨k,c,e,hk,hc,hz,hl,hw,fun i x hi=>(h i x hi).o7 (yp hf i x hi)⟩
end
theorem aj.o7{n:Nat}{io:Os×Array (Nat×ByteArray)}{G:List (Nat×Obj)}{H0:Array Obj}{O0 A A2:Nat->Prop}{U0:List Nat}{β0:Name->Option aU}{hA:∀b,A b->b<H0.size}{hA2:∀b,A2 b->b<H0.size}{hG:∀q∈G,H0[q.1]?=some q.2∧¬O0 q.1}
  {β:Name->Option aU} {fr:List (Nat×AV)} {hp:List (Name×Ob)} {u:List Nat} {tm:Array Value} {w:World}
  (h:aj ⟨n,io,G,H0,O0,A,U0,β0,hA,hG⟩ β (Go.Ab.mk fr hp u) tm w) (hO:∀b,A2 b->¬O0 b) (hf:∀t,(aE AV.un fr t).flat=true) (hh:gX hp=true):aj ⟨n,io,G,H0,O0,A2,U0,β0,hA2,hG⟩ β (Go.Ab.mk fr hp u) tm w:=by
 refine { bE:=h.bE,io:=h.io,size:=h.size,frame:=h.frame,slots:=fun t=>(h.slots t).o7 (hf t),aO:=fun p o ho=>?_,blocks:=fun p k hp hk=>?_,inj:=h.inj,us:=h.us,stay:=h.stay }
 .obtain⟨h1,h2⟩:=h.aO p o ho;exact⟨h1,h2.o7 (Nn hh _ (zT ho))⟩
 .obtain⟨h1,_,h3⟩:=h.blocks p k hp hk;refine⟨h1,fun ha=>?_,h3⟩;obtain h3|h3:=h3
  .exact absurd (hA2 _ ha) (Nat.not_lt.2 h3)
  .exact hO _ ha h3
def St.fV(s:St)(L:List (Name×W×List D)):St:=L.foldl (fun s q=>s.cY q.1 q.2.1 q.2.2) s
theorem ZW(s:St):s.fV []=s:=rfl
theorem ZX(s:St)(q:Name×W×List D)(L):s.fV (q::L)=(s.cY q.1 q.2.1 q.2.2).fV L:=rfl
theorem Np:∀(L:List (Name×W×List D)) (s:St) (p:Name) (o:Ob),(s.fV L).hp p=some o->s.hp p=some o
 |[],_,_,_,h=>h
 |q::L,s,p,o,h=>by
   have:=Np L _ p o h;have h2:aP s.hp q.1 none p=some o:=this;unfold aP at h2;split at h2
   .cases h2
   .exact h2
theorem Nq{B:Base}{β:Name->Option aU}{tm:Array Value}{w:World}:∀(L:List (Name×W×List D)) (s:St),aj B β s tm w->n4 s L->aj B β (s.fV L) tm w
 |[],_,h,_=>h
 |_::L,_,h,hl=>Nq L _ (h.cY hl.1) hl.2
theorem HE{P:Program}{B:Base}{β:Name->Option aU}{s s':St}{tm Cz:Array Value}{w:World}(h:aj B β s tm w)(h':aj B β s' Cz w)(dL:∀p o,s'.hp p=some o->s.hp p=some o){f:FuncId}{cW:List AV}{chp:List (Name×Ob)}{cu:List Nat}{Q0:AV->List (Name×Ob)->Prop}{σ:Name->Name}{d:Nat}(hd:d∉s.used)
  (jZ:lU σ cu s' chp) (lV:nW σ chp) (oS:dU cu cW=true) {vs:Array Value} (eJ:vs.size=cW.length) (hv:∀(i:Nat) x,cW[i]?=some x->VR w.heap (s'.own B.A β) s'.used s'.hp β (vs.getD i undef) (x.ren σ)) (hc:bA P B.G f cW chp cu Q0)
  (ot:∀r ae,Q0 r ae->r.flat=true∧gX ae=true) :
  CallsIn Fence.wide 0 P f vs w fun e w'=>∃v,e=.returned v∧∃r ae,Q0 r ae∧(nX chp ae->∃β2,aj B β2 { ja s σ d chp ae r with fr:=s.fr } tm w' ∧
   VR w'.heap ((ja s σ d chp ae r).own B.A β2) (d::s.used) (ja s σ d chp ae r).hp β2 v (r.ren (fj σ d chp))):=by
 obtain⟨ig,hO⟩:∃ig:Nat->Prop,∀b,ig b↔∃p k,chp.any (fun q=>q.1 == p)=true∧β (σ p)=some k∧k.b=b:=⟨_,fun _=>Iff.rfl⟩
 obtain⟨A',hA⟩:∃A':Nat->Prop,∀b,A' b↔s'.own B.A β b∧¬ig b:=⟨_,fun _=>Iff.rfl⟩
 obtain⟨A2,hA2⟩:∃A2:Nat->Prop,∀b,A2 b↔s.own B.A β b∧¬ig b:=⟨_,fun _=>Iff.rfl⟩
 have xS:∀b,A' b->b<w.heap.size:=fun b hb=>h'.Cg ((hA b).1 hb).1;have Nr:∀b,A2 b->b<w.heap.size:=fun b hb=>h.Cg ((hA2 b).1 hb).1
 have Nt:lU σ cu s chp:=by
  clear lV hO oS hv hc
  induction chp with
  |nil=>trivial
  |cons q r ih=>exact⟨⟨dL _ _ jZ.1.1,jZ.1.2⟩,ih jZ.2⟩
 have sE:∀q∈B.G,w.heap[q.1]?=some q.2∧¬ig q.1:=fun q hq=>by
  obtain⟨g1,g2⟩:=B.hG q hq;have hlt:=dK g1;refine⟨(h.frame _ hlt g2).trans g1,fun hb=>?_⟩;obtain⟨p,k,hp,hk,e⟩:=(hO _).1 hb;obtain⟨o,ho⟩:=Cv hp;obtain⟨h1,_,_⟩:=vQ Nt _ (nf ho);obtain⟨_,_,g3⟩:=h.blocks (σ p) k (by rw[h1];simp) hk;obtain g3|g3:=g3
  .omega
  .exact g2 (e▸g3)
 have hβc:∀p,chp.any (fun q=>q.1 == p)=true->(fun p=>β (σ p)) p=β (σ p):=fun _ _=>rfl
 have live:∀p o,aE none (chp.map fun x=>(x.1,some x.2)) p=some o->s'.hp (σ p)=some (o.ren σ)∧o.bn cu=true∧nm cu p:=fun p o ho=>by
  obtain⟨h1,h2,h3⟩:=vQ jZ _ (nf ho);exact⟨h1,h2,oQ h3⟩
 have dS:∀b,(mk (dM 0 cW) chp cu).own A' (fun p=>β (σ p)) b->s'.own B.A β b:=by
  intro b hb;rcases Lm hb with hb|⟨p,k,o,ho,hk,rfl⟩
  .exact((hA b).1 hb).1
  .exact .inr ⟨σ p,k,by rw[(live p o ho).1];simp,hk,rfl⟩
 have hr:∀v d,au w.heap (s'.own B.A β) v d->au w.heap ((mk (dM 0 cW) chp cu).own A' (fun p=>β (σ p))) v d:=fun v d hd=>hd.mono (fun _ _ _=>rfl) (fun b _=>dS b);have db:∀p o,(mk (dM 0 cW) chp cu).hp p=some o->s'.hp (σ p)=some (o.ren σ)∧(fun p=>β (σ p)) p=β (σ p):=fun p o ho=>⟨(live p o ho).1,rfl⟩
 have bm:aj { n:=cW.length,io:=B.io,G:=B.G,H0:=w.heap,O0:=ig,A:=A',U0:=cu,β0:=fun p=>β (σ p),hA:=xS,hG:=sE } (fun p=>β (σ p)) (mk (dM 0 cW) chp cu) vs w:=by
  refine { bE:=eJ,io:=h.io,size:=ain _,frame:=fun _ _ _=>rfl,slots:=fun t=>?_,aO:=fun p o ho=>⟨(live p o ho).2.2,OR.ren hr db rfl (live p o ho).2.1 (h'.aO _ _ (live p o ho).1).2⟩,blocks:=fun p k hp hk=>?_,inj:=fun p q k l hp hq hk hl e=>?_,us:=fun _ hx=>hx,stay:=fun _ _=>rfl }
  .rw[kV,qc,if_pos (aie _),Nat.sub_zero]
   cases ht:cW[t]? with
   |none=>exact .un _
   |some x=>exact(hv t x ht).ren hr db x rfl (ur oS t x ht)
  .cases ho:(mk (dM 0 cW) chp cu).hp p with
   |none=>exact absurd ho hp
   |some o =>
     have de:ig k.b:=(hO _).2 ⟨p,k,aiA.2 ⟨_,nf ho,by simp⟩,hk,rfl⟩;obtain⟨g1,_,_⟩:=h'.blocks (σ p) k (by rw[(live p o ho).1];simp) hk;exact⟨g1,fun ha=>((hA _).1 ha).2 de,.inr de⟩
  .cases ho:(mk (dM 0 cW) chp cu).hp p with
   |none=>exact absurd ho hp
   |some o =>
     cases aM:(mk (dM 0 cW) chp cu).hp q with
     |none=>exact absurd aM hq
     |some o' =>
       have e2:=h'.inj (σ p) (σ q) k l (by rw[(live p o ho).1];simp) (by rw[(live q o' aM).1];simp) hk hl e;exact zS lV _ (nf ho) _ (nf aM) e2
 have eD:=fun h1 h2 h3 h4=>hc.2 _ _ vs w h1 h2 h3 h4 bm;refine(eD rfl rfl rfl rfl).mono ?_;rintro e w' ⟨v,r,ae,u',β',rfl,hQ,hs⟩;obtain⟨f1,f2⟩:=ot r ae hQ
 have br:=hs.o7 (A2:=A2) (hA2:=Nr) (fun b hb=>((hA2 b).1 hb).2) (fun t=>by
  simp only[aE];split
  .exact f1
  .rfl) f2
 exact⟨v,rfl,r,ae,hQ,fun hl=>Lj h hd Nt lV hβc hO hA2 Nr sE hl br⟩
section
variable {P:Program}{cf:Cf}
section
variable {Q:Exit->St->Prop}{s:St}{k:List It}
theorem ZY{dst:Option Nat}{fv:Operand}{args:Array Operand}{at':Array TypeId}{ty:TypeId}{pos:String}{af:Array Edge}{g:Option (Nat×Bool)}
  (L:List (Name×W×List D)) (hL:n4 s L) {f:FuncId} {aR:List AV} {ds:List D} {Q0:AV->Prop} (hc:HP P cf.G f ds Q0) (ot:∀r,Q0 r->r.flat=true)
  (bd:ev (s.fV L) fv=.aW f aR) (dC:args.toList.map (ev (s.fV L))++aR=ds.map .d) (dD:∀t∈dst,t<cf.n) (hk:∀r,Q0 r->run P cf k Q (s.jt dst r)) :
  fS P cf { dst:=dst,op:=.call { callee:=.value fv,args:=args,argTypes:=at' },type:=ty,pos:=pos,after:=af,guard:=g } s k Q:=by
 intro B hB gm β a w ak h Q';obtain⟨d,hd⟩:=Gj s.used;refine⟨fun _ _=>trivial,?_⟩;have h':=Nq L s h hL;have hf:=h'.ev fv;rw[bd]at hf;generalize k9:a.eval fv=xZ at hf
 cases hf with
 |aW _ cvs _ hcs jV =>
 have aK:∀vs,vs=(args.toList.map a.eval).toArray++cvs->(execOp a.eval { dst:=dst,op:=.call { callee:=.value fv,args:=args,argTypes:=at' },type:=ty,pos:=pos,after:=af,guard:=g }).run P w=.ok (.enter f vs) w:=by
  intro vs eJ
  have e:(execOp a.eval { dst:=dst,op:=.call { callee:=.value fv,args:=args,argTypes:=at' },type:=ty,pos:=pos,after:=af,guard:=g }:Sem Next)=callFunc f (#[]++args.map a.eval++cvs):=by
   show(do let d <-(Deferred.ofValue (a.eval fv) (args.map a.eval));invoke d.target d.args:Sem Next)=_;rw[k9];rfl
  rw[e,<-hc.1 vs w,eJ];congr 2;apply akj;simp
 rw[Oper.semAt_eq _ _ _ (by simp),aK _ rfl,Oper.uponIn_enter];refine⟨fun nY=>by simp[vO]at nY,?_⟩
 have hlen:(ds.map AV.d).length=args.size+aR.length:=by
  have:=congrArg List.length dC;simpa using this.symm
 have eJ:((args.toList.map a.eval).toArray++cvs).size=(ds.map AV.d).length:=by simp[hcs]at hlen ⊢;omega
 have hv:∀(i:Nat) x,(ds.map AV.d)[i]?=some x->VR w.heap ((s.fV L).own B.A β) (s.fV L).used (s.fV L).hp β (((args.toList.map a.eval).toArray++cvs).getD i undef) (x.ren id):=by
  intro i x hi;rw[AV.lX id (fun _=>rfl)];have hx:=hi;rw[<-dC]at hx;by_cases hlt:i<args.size
  .have aV:(args.toList.map (ev (s.fV L)))[i]?=some x:=by rw[<-hx,aih (by simpa using hlt)]
   have:=xY h' args.toList i _ aV;rw[show((args.toList.map a.eval).toArray++cvs).getD i undef=(args.toList.map a.eval).toArray.getD i undef by simp[ahY,aiN,hlt]];exact this
  .have aV:aR[i-args.size]?=some x:=by rw[<-hx,aim (by simpa using aju hlt)];simp
   have:=jV _ _ aV;rw[show((args.toList.map a.eval).toArray++cvs).getD i undef=cvs.getD (i-args.size) undef by simp[ahY,aiN,hlt]];exact this
 have nZ:=HE (P:=P) h h' (fun p o ho=>Np L s p o ho) (Q0:=fun r ae=>Q0 r∧r.bn []=true∧ae=[]) (σ:=id) (d:=d) hd (chp:=[]) (cu:=[]) trivial trivial (zW _ _) eJ hv (by rw[hB.2.2];exact hc) (fun r ae hq=>⟨ot r hq.1,by rw[hq.2.2];rfl⟩);have qe:CallsIn (Fw cf.ro) (0-1) P f ((args.toList.map a.eval).toArray++cvs) w _:=nZ;refine qe.mono ?_;rintro e w' ⟨v,rfl,r,ae,⟨hQ,ux,rfl⟩,hl⟩;obtain⟨β2,br,mA⟩:=hl trivial;rw[AV.CC _ r ux]at mA;have zX:=AV.CA s.used r ux;refine⟨by cases dst<;>exact ak,s.jt dst r,?_⟩
 cases dst with
 |none =>
   obtain⟨β3,h3⟩:=h.x5 br rfl (t0:=0) (x0:=s.fr 0) (fun _=>.inr rfl) rfl (h.slots 0).bn;exact⟨β3,eT (hk r hQ),h3⟩
 |some t =>
   have h2:=br.put (t:=t) (by rw[hB.1];exact dD t rfl) mA
   obtain⟨β3,h3⟩:=h.x5 h2 rfl (t0:=t) (x0:=r) (fun u=>by
    by_cases e:u=t
    .exact .inl e
    .exact .inr (by show eC _ _ _ _=_;simp[eC,e])) (by show eC _ _ _ _=_;simp[eC]) zX
   exact⟨β3,eT (hk r hQ),h3⟩
theorem ZZ(E:bB P cf Q){dst:Option Nat}{fv:Operand}{args:Array Operand}{at':Array TypeId}{ty:TypeId}{pos:String}{af:Array Edge}
  (L:List (Name×W×List D)) {f:FuncId} {aR:List AV} {ds:List D} {Q0:AV->Prop} (hc:HP P cf.G f ds Q0) (ot:∀r,Q0 r->r.flat=true) (hL:n4 s L)
  (bd:ev (s.fV L) fv=.aW f aR) (dC:args.toList.map (ev (s.fV L))++aR=ds.map .d) (dD:∀t∈dst,t<cf.n) (hk:∀r,Q0 r->E.run k (s.jt dst r)) :
  E.aX { dst:=dst,op:=.call { callee:=.value fv,args:=args,argTypes:=at' },type:=ty,pos:=pos,after:=af,guard:=none } s k .no:=by
 rw[gx];exact ZY L hL hc ot bd dC dD fun r hr=>by rw[<-E.run_eq];exact hk r hr
end
attribute [go_sem] ZW ZX D.flat dG AV.flat sM gX AQ Ob.flat List.isEmpty_nil
end
end Go.Ab
namespace Go.Ab
def Ob.cY(p:Name)(w:W)(xs:List D):Ob->Ob
 |.bz ty cs=>.bz ty (Go.Ab.fV p w xs cs)
 |o=>o
theorem Ob.Z0(p:Name)(w:W)(xs:List D)(o:Ob):o.like (o.cY p w xs):=by
 cases o<;>simp[Ob.cY,Ob.like]
def St.fW(s:St)(p:Name)(w:W)(xs:List D):St:={ fr:=fun t=>(s.fr t).cY p w xs,hp:=fun q=>(aP s.hp p none q).map (Ob.cY p w xs),used:=s.used }
theorem aj.fW{B:Base}{β:Name->Option aU}{s:St}{tm:Array Value}{w:World}(h:aj B β s tm w){p:Name}{wf:W}{xs:List D}(hp:s.hp p=some (.arr wf xs)):aj B β (s.fW p wf xs) tm w:=by
 have dL:∀q o',(s.fW p wf xs).hp q=some o'->q≠p∧∃o,s.hp q=some o∧o'=o.cY p wf xs:=by
  intro q o' ho;by_cases e:q=p
  .subst e;simp[St.fW,aP]at ho
  .simp only[St.fW,aP,if_neg e,ah4]at ho;obtain⟨o,h1,h2⟩:=ho;exact⟨e,o,h1,h2.symm⟩
 have aJ:∀q,(s.fW p wf xs).hp q≠none->s.hp q≠none∧q≠p:=by
  intro q hq
  cases ho:(s.fW p wf xs).hp q with
  |none=>exact absurd ho hq
  |some o' =>
    obtain⟨e,o,h1,_⟩:=dL q o' ho;exact⟨by rw[h1];simp,e⟩
 have hr:∀v d',au w.heap (s.own B.A β) v d'->au w.heap ((s.fW p wf xs).own B.A β) v d':=fun v d' hd=>hd.mono (fun _ _ _=>rfl) (by
  rintro b _ (hA|⟨q,k,hq,hk,e⟩)
  .exact .inl hA
  .exact .inr ⟨q,k,(aJ q hq).1,hk,e⟩)
 have ah:∀q,nm s.used q->iG s.hp (s.fW p wf xs).hp β β q:=fun q _ o' aM=>by
  obtain⟨_,o,h1,rfl⟩:=dL q o' aM;exact⟨o,h1,Ob.Z0 p wf xs o,rfl⟩
 have bH:∀k,β p=some k->¬(s.fW p wf xs).own B.A β k.b:=by
  rintro k hk (hA|⟨q,k',hq,az,e⟩)
  .exact(h.blocks p k (by rw[hp];simp) hk).2.1 hA
  .exact(aJ q hq).2 (h.inj q p k' k (aJ q hq).1 (by rw[hp];simp) az hk e)
 have ni:∀{v:Value} {x:AV},VR w.heap (s.own B.A β) s.used s.hp β v x->VR w.heap ((s.fW p wf xs).own B.A β) s.used (s.fW p wf xs).hp β v (x.cY p wf xs):=fun hv=>hv.cY hr ah hp (h.aO p _ hp).2 bH;refine { bE:=h.bE,io:=h.io,size:=h.size,frame:=h.frame,slots:=fun i=>ni (h.slots i),aO:=fun q o' aM=>?_,blocks:=fun q k hq hk=>h.blocks q k (aJ q hq).1 hk,inj:=fun q q' k k' hq cg=>h.inj q q' k k' (aJ q hq).1 (aJ q' cg).1,us:=h.us,stay:=h.stay };obtain⟨_,o,h1,rfl⟩:=dL q o' aM;obtain⟨g1,g2⟩:=h.aO q o h1;refine⟨g1,?_⟩
 cases o with
 |bz ty cs =>
   obtain⟨k,c,e,a1,a2,a3,a4,a5,a6,a7⟩:=g2;refine⟨k,c,e,a1,a2,a3,a4,by rw[a5,Ak],a6,fun j x hj=>?_⟩;rw[Al,ah4]at hj;obtain⟨y,hy,rfl⟩:=hj;exact ni (a7 j y hy)
 |_=>exact g2.mono hr (fun _ h=>h) ah rfl fun _ _=>rfl
theorem Nu(p:Name)(w:W)(xs:List D)(q:Name):∀l:List (Name×Ob),(aE none (l.map fun x=>(x.1,some x.2)) q).map (Ob.cY p w xs)=aE none ((l.map fun x=>(x.1,x.2.cY p w xs)).map fun x=>(x.1,some x.2)) q
 |[]=>rfl
 |x::r=>by
   simp only[aE,aid];split
   .rfl
   .exact Nu p w xs q r
theorem Nv(fr:List (Nat×AV))(hp:List (Name×Ob))(u:List Nat)(p:Name)(w:W)(xs:List D):(mk fr hp u).fW p w xs=mk (fr.map fun q=>(q.1,q.2.cY p w xs)) ((jb hp p).map fun q=>(q.1,q.2.cY p w xs)) u:=by
 unfold St.fW mk;congr 1
 .funext t;exact GN p w xs t fr
 .funext q;rw[<-Nu,uz,uy];rfl
attribute [go_sem] Nv Ob.cY
section
variable {P:Program}{cf:Cf}{Q:Exit->St->Prop}{s:St}{k:List It}
theorem jg(E:bB P cf Q){d:Option Nat}{op:Op}{ty:TypeId}{ps:String}{af:Array Edge}(p:Name)(w:W)(xs:List D)(hp:s.hp p=some (.arr w xs)){s':St}(he:s.fW p w xs=s')(h:E.aX { dst:=d,op:=op,type:=ty,pos:=ps,after:=af,guard:=none } s' k (cR P.ti cf.n op d s')) :
  E.aX { dst:=d,op:=op,type:=ty,pos:=ps,after:=af,guard:=none } s k .no:=by
 subst he;rw[gx];rw[E.eE]at h;have h1:=sG (o:={ dst:=d,op:=op,type:=ty,pos:=ps,after:=af,guard:=none }) rfl h;intro B hB ds β a w' ak hs Q';exact h1 B hB ds β a w' ak (hs.fW hp) Q'
theorem uQ(E:bB P cf Q){c:Code}(p:Name)(w:W)(xs:List D)(hp:s.hp p=some (.arr w xs))(h:gw E c (s.fW p w xs) k):gw E c s k:=by
 intro B hB ds β a w' ak hs;exact h B hB ds β a w' ak (hs.fW hp)
end
end Go.Ab
namespace Go.Ab
open Go.ChangeMaps (setBlock)
mutual
def AV.dN(p:Name)(d:D):AV->AV
 |.un=>.un
 |.d x=>.d x
 |.vw q o l=>.vw q o l
 |.bx q c=>.bx q c
 |.el q i c=>.el q i c
 |.mp q=>if q=p then .d d else .mp q
 |.it q=>.it q
 |.agg cs=>mT (ou p d cs)
 |.aA cs=>.aA (ou p d cs)
 |.aW f cs=>Az f (ou p d cs)
 |.va q o l=>.va q o l
 |.ea q i=>.ea q i
 |.ma q=>.ma q
def ou(p:Name)(d:D):List AV->List AV
 |[]=>[]
 |x::r=>x.dN p d::ou p d r
end
theorem AU(p:Name)(d:D):∀l:List AV,(ou p d l).length=l.length
 |[]=>rfl
 |_::r=>by simp[ou,AU p d r]
theorem AW(p:Name)(d:D):∀(l:List AV) (i:Nat),(ou p d l)[i]?=(l[i]?).map (AV.dN p d)
 |[],i=>by simp[ou]
 |x::r,i=>by
   cases i with
   |zero=>simp[ou]
   |succ i=>simpa[ou]using AW p d r i
section
variable {H:Array Obj}{own own':Nat->Prop}{used:List Nat}{hp ae:Name->Option Ob}{β:Name->Option aU}
theorem VR.dN{p:Name}{d:D}{es:List (D×D)}(hr:∀v d,au H own v d->au H own' v d)(ah:∀q,nm used q->iG hp ae β β q)(jW:hp p=some (.map es))(hd:∀k,β p=some k->au H own' (.map (some k.b)) d)
  {v:Value} {x:AV} (h:VR H own used hp β v x):VR H own' used ae β v (x.dN p d):=by
 induction h with
 |un v=>exact .un v
 |d v x h=>exact .d v x (hr v x h)
 |vw v q off len hn h1 h=>exact VR.mono hr (fun _ h=>h) ah (.vw v q off len hn h1 h)
 |bx v q c hn h1 h=>exact VR.mono hr (fun _ h=>h) ah (.bx v q c hn h1 h)
 |el v q i c hn h1 h=>exact VR.mono hr (fun _ h=>h) ah (.el v q i c hn h1 h)
 |mp v q hn h1 h =>
   unfold AV.dN;split
   .rename_i e;subst e;obtain⟨k,hk,rfl⟩:=h _ jW;exact .d _ _ (hd k hk)
   .exact VR.mono hr (fun _ h=>h) ah (.mp v q hn h1 h)
 |its v q hn h1 h h'=>exact VR.mono hr (fun _ h=>h) ah (.its v q hn h1 h h')
 |va v q off len hn h1 h=>exact VR.mono hr (fun _ h=>h) ah (.va v q off len hn h1 h)
 |ea v q i hn h1 h=>exact VR.mono hr (fun _ h=>h) ah (.ea v q i hn h1 h)
 |ma v q hn h1 h=>exact VR.mono hr (fun _ h=>h) ah (.ma v q hn h1 h)
 |agg vs cs hs hc _ ih =>
   have:=xF (H:=H) (own:=own') (used:=used) (hp:=ae) (β:=β) (vs:=vs.toList) (cs:=ou p d cs) (by rw[AU];simpa using hs) (by simpa using hc) (fun i v x hv hx=>by
    rw[AW,ah4]at hx;obtain⟨y,hy,rfl⟩:=hx;have:=ih i y hy
    have e:vs.getD i undef=v:=by
     simp only[aiI]at hv;simp[ahY,hv]
    rw[e]at this
    exact this)
   simpa[AV.dN]using this
 |aA vs cs hs _ ih =>
   refine .aA vs _ (by rw[AU];exact hs) (fun i x hi=>?_);rw[AW,ah4]at hi;obtain⟨y,hy,rfl⟩:=hi;exact ih i y hy
 |aW f vs cs hs _ ih =>
   refine MO (by rw[AU];exact hs) (fun i x hi=>?_);rw[AW,ah4]at hi;obtain⟨y,hy,rfl⟩:=hi;exact ih i y hy
end
def Ob.dN(p:Name)(d:D):Ob->Ob
 |.bz ty cs=>.bz ty (ou p d cs)
 |o=>o
theorem Ob.Z1(p:Name)(d:D)(o:Ob):o.like (o.dN p d):=by
 cases o<;>simp[Ob.dN,Ob.like]
def St.dN(s:St)(p:Name)(d:D):St:={ fr:=fun t=>(s.fr t).dN p d,hp:=fun q=>(aP s.hp p none q).map (Ob.dN p d),used:=s.used }
def wj(aZ:Nat)(bs:List Nat)(es:List (D×D)):D:=.nM aZ bs (es.map (·.1)) (es.map (·.2))
def AX(aZ:Nat)(bs:List Nat)(es:List (D×D)):Prop:=bs.length=es.length∧bs.Nodup∧∀b∈bs,b<aZ
theorem aj.dN{B:Base}{β:Name->Option aU}{s:St}{tm:Array Value}{w:World}(h:aj B β s tm w){p:Name}{es:List (D×D)}(hp:s.hp p=some (.map es)):∃aZ bs,AX aZ bs es∧aj B β (s.dN p (wj aZ bs es)) tm w:=by
 obtain⟨k0,aS,aZ,nP,mV,⟨bh,sB,mY⟩,gR⟩:=(h.aO p _ hp).2;refine⟨aZ,aS.toList.map (·.born),⟨by simp[bh],sB,fun b hb=>?_⟩,?_⟩
 .obtain⟨e,he,rfl⟩:=ah9.1 hb;exact mY e he
 obtain⟨d,rv⟩:∃d,d=wj aZ (aS.toList.map (·.born)) es:=⟨_,rfl⟩
 rw[<-rv]
 have dL:∀q o',(s.dN p d).hp q=some o'->q≠p∧∃o,s.hp q=some o∧o'=o.dN p d:=by
  intro q o' ho;by_cases e:q=p
  .subst e;simp[St.dN,aP]at ho
  .simp only[St.dN,aP,if_neg e,ah4]at ho;obtain⟨o,h1,h2⟩:=ho;exact⟨e,o,h1,h2.symm⟩
 have aJ:∀q,(s.dN p d).hp q≠none->s.hp q≠none∧q≠p:=by
  intro q hq
  cases ho:(s.dN p d).hp q with
  |none=>exact absurd ho hq
  |some o' =>
    obtain⟨e,o,h1,_⟩:=dL q o' ho;exact⟨by rw[h1];simp,e⟩
 have hr:∀v d',au w.heap (s.own B.A β) v d'->au w.heap ((s.dN p d).own B.A β) v d':=fun v d' hd=>hd.mono (fun _ _ _=>rfl) (by
  rintro b _ (hA|⟨q,k,hq,hk,e⟩)
  .exact .inl hA
  .exact .inr ⟨q,k,(aJ q hq).1,hk,e⟩)
 have ah:∀q,nm s.used q->iG s.hp (s.dN p d).hp β β q:=fun q _ o' aM=>by
  obtain⟨_,o,h1,rfl⟩:=dL q o' aM;exact⟨o,h1,Ob.Z1 p d o,rfl⟩
 have bH:∀k,β p=some k->¬(s.dN p d).own B.A β k.b:=by
  rintro k hk (hA|⟨q,k',hq,az,e⟩)
  .exact(h.blocks p k (by rw[hp];simp) hk).2.1 hA
  .exact(aJ q hq).2 (h.inj q p k' k (aJ q hq).1 (by rw[hp];simp) az hk e)
 have o8:∀(i:Nat) (en:MapEntry),aS[i]?=some en->aS.getD i default=en:=fun i en h=>by simp[ahY,h]
 have Z2:∀k,β p=some k->au w.heap ((s.dN p d).own B.A β) (.map (some k.b)) d:=by
  intro k hk;obtain rfl:=ais (hk.symm.trans nP);rw[rv];refine .nM k.b aZ aS _ _ _ mV (by rw[<-rv];exact bH k hk) ⟨by simp[bh],by simp⟩ rfl (fun i x hi=>?_) (fun i x hi=>?_)
  .rw[aii,ah4]at hi;obtain⟨y,hy,rfl⟩:=hi;obtain⟨en,h1,h2,_⟩:=gR i y hy;rw[o8 i en h1,<-rv];exact hr _ _ h2
  .rw[aii,ah4]at hi;obtain⟨y,hy,rfl⟩:=hi;obtain⟨en,h1,_,h2⟩:=gR i y hy;rw[o8 i en h1,<-rv];exact hr _ _ h2
 have ni:∀{v:Value} {x:AV},VR w.heap (s.own B.A β) s.used s.hp β v x->VR w.heap ((s.dN p d).own B.A β) s.used (s.dN p d).hp β v (x.dN p d):=fun hv=>hv.dN hr ah hp Z2;refine { bE:=h.bE,io:=h.io,size:=h.size,frame:=h.frame,slots:=fun i=>ni (h.slots i),aO:=fun q o' aM=>?_,blocks:=fun q k hq hk=>h.blocks q k (aJ q hq).1 hk,inj:=fun q q' k k' hq cg=>h.inj q q' k k' (aJ q hq).1 (aJ q' cg).1,us:=h.us,stay:=h.stay };obtain⟨_,o,h1,rfl⟩:=dL q o' aM;obtain⟨g1,g2⟩:=h.aO q o h1;refine⟨g1,?_⟩
 cases o with
 |bz ty cs =>
   obtain⟨k,c,e,a1,a2,a3,a4,a5,a6,a7⟩:=g2;refine⟨k,c,e,a1,a2,a3,a4,by rw[a5,AU],a6,fun j x hj=>?_⟩;rw[AW,ah4]at hj;obtain⟨y,hy,rfl⟩:=hj;exact ni (a7 j y hy)
 |_=>exact g2.mono hr (fun _ h=>h) ah rfl fun _ _=>rfl
theorem Nw(p:Name)(d:D)(t:Nat):∀l:List (Nat×AV),(aE .un l t).dN p d=aE .un (l.map fun q=>(q.1,q.2.dN p d)) t
 |[]=>rfl
 |q::r=>by
   simp only[aE,aid];split
   .rfl
   .exact Nw p d t r
theorem Nx(p:Name)(d:D)(q:Name):∀l:List (Name×Ob),(aE none (l.map fun x=>(x.1,some x.2)) q).map (Ob.dN p d)=aE none ((l.map fun x=>(x.1,x.2.dN p d)).map fun x=>(x.1,some x.2)) q
 |[]=>rfl
 |x::r=>by
   simp only[aE,aid];split
   .rfl
   .exact Nx p d q r
theorem Ny(fr:List (Nat×AV))(hp:List (Name×Ob))(u:List Nat)(p:Name)(d:D):(mk fr hp u).dN p d=mk (fr.map fun q=>(q.1,q.2.dN p d)) ((jb hp p).map fun q=>(q.1,q.2.dN p d)) u:=by
 unfold St.dN mk;congr 1
 .funext t;exact Nw p d t fr
 .funext q;rw[<-Nx,uz,uy];rfl
attribute [go_sem] Ny AV.dN ou Ob.dN
end Go.Ab

namespace Go.Ab
section
variable {P:Program}{cf:Cf}
theorem aj.mv{B B':Base}{β:Name->Option aU}{s:St}{tm:Array Value}{w w':World}(h:aj B β s tm w)(hn:B'.n=B.n)(ic:dy w'=B'.io)(bh:B'.H0.size<=w'.heap.size)
  (lS:∀b,b<B'.H0.size->¬B'.O0 b->w'.heap[b]?=B'.H0[b]?) (hw:w.heap.size<=w'.heap.size) (hk:∀b,b<w.heap.size->¬B.A b->w'.heap[b]?=w.heap[b]?)
  (hA:∀b,b<w.heap.size->B'.A b->B.A b) (Nz:∀p k,s.hp p≠none->β p=some k->B'.H0.size<=k.b∨B'.O0 k.b)
  (nQ:∀x∈B'.U0,x∈s.used) (ah:∀p,nm B'.U0 p->β p=B'.β0 p):aj B' β s tm w':=by
 have dS:∀b,b<w.heap.size->s.own B'.A β b->s.own B.A β b:=by
  rintro b hb (h1|h1)
  .exact .inl (hA b hb h1)
  .exact .inr h1
 have hr:∀v d,au w.heap (s.own B.A β) v d->au w'.heap (s.own B'.A β) v d:=fun v d hd=>hd.mono (fun b hb hlt=>hk b hlt (fun ha=>hb (.inl ha))) dS;have AY:∀p,nm s.used p->iG s.hp s.hp β β p:=fun p _ o' ho=>⟨o',ho,Ob.mS _,rfl⟩
 refine { bE:=h.bE.trans hn.symm,io:=ic,size:=bh,frame:=lS,slots:=fun t=>(h.slots t).mono hr (fun _ h=>h) AY,aO:=fun p o ho=>⟨(h.aO p o ho).1,(h.aO p o ho).2.mono hr (fun _ h=>h) AY rfl (fun k az=>?_)⟩,blocks:=fun p k hp az=>?_,inj:=h.inj,us:=nQ,stay:=ah }
 .obtain⟨b1,b2,_⟩:=h.blocks p k (by rw[ho];simp) az;exact hk k.b b1 b2
 .obtain⟨b1,b2,_⟩:=h.blocks p k hp az;exact⟨aiK b1 hw,fun ha=>b2 (hA _ b1 ha),Nz p k hp az⟩
def dh(s:St)(β:Name->Option aU)(b:Nat):Prop:=∃p k,s.hp p≠none∧β p=some k∧k.b=b
theorem aj.nr{B:Base}{β:Name->Option aU}{s:St}{tm:Array Value}{w:World}(h:aj B β s tm w){b:Nat}(hb:dh s β b):b<w.heap.size∧¬B.A b∧(B.H0.size<=b∨B.O0 b):=by
 obtain⟨p,k,hp,hk,rfl⟩:=hb;exact h.blocks p k hp hk
def ef(P:Program)(cf:Cf)(Φ:Exit->Act->World->Prop)(I:Base->List Deferred->Prop)(k:List It)(s:St):Prop :=
 ∀B,cf.fits B->∀ds β a w,a.defers=ds->I B ds->aj B β s a.tmps w->hold P cf Φ k .normal a w
def o9(cf:Cf)(Φ:Exit->Act->World->Prop)(I:Base->List Deferred->Prop)(e:Exit)(s:St):Prop :=
 ∀B,cf.fits B->∀ds β a w,a.defers=ds->I B ds->aj B β s a.tmps w->Φ e a w
def yq(P:Program)(cf:Cf)(Φ:Exit->Act->World->Prop)(I:Base->List Deferred->Prop)(k:List It)(e:Exit)(s:St):Prop :=
 match e with
 |.normal=>ef P cf Φ I k s
 |.exit i=>(match ml i k with
   |some k'=>ef P cf Φ I k' s
   |none=>o9 cf Φ I (.exit i) s)
 |.ret=>o9 cf Φ I .ret s
 |_=>False
variable {Φ:Exit->Act->World->Prop}{I:Base->List Deferred->Prop}{k:List It}{s:St}{B:Base}{ds:List Deferred}{e:Exit}{a:Act}{w:World}
theorem Z3:yq P cf Φ I k .normal s=ef P cf Φ I k s:=rfl
theorem Z4:yq P cf Φ I k .ret s=o9 cf Φ I .ret s:=rfl
theorem Z5(i:Nat):yq P cf Φ I [] (.exit i) s=o9 cf Φ I (.exit i) s:=rfl
theorem Z6(i:Nat)(c:Code):yq P cf Φ I (.code c::k) (.exit i) s=yq P cf Φ I k (.exit i) s:=rfl
theorem Z7(i:Nat)(all:Array Oper)(r:List Oper):yq P cf Φ I (.ops all r::k) (.exit i) s=yq P cf Φ I k (.exit i) s:=rfl
theorem Z8(i:Nat):yq P cf Φ I (.ff i::k) (.exit i) s=ef P cf Φ I k s:=by simp[yq,ml]
theorem wm{β:Name->Option aU}(hB:cf.fits B)(hI:I B ds)(hd:a.defers=ds)(hq:yq P cf Φ I k e s)(hs:aj B β s a.tmps w):hold P cf Φ k e a w:=by
 cases e with
 |normal=>exact hq B hB ds β a w hd hI hs
 |exit i =>
   simp only[yq]at hq;split at hq
   .rename_i k' az;exact xP _ i k k' a w az (hq B hB ds β a w hd hI hs)
   .rename_i az;exact xO _ i k a w az (hq B hB ds β a w hd hI hs)
 |ret=>exact vP _ k a w (hq B hB ds β a w hd hI hs)
 |goto l=>exact hq.elim
 |panic c=>exact hq.elim
 |outgrown=>exact hq.elim
theorem Z9(hB:cf.fits B)(hI:I B ds)(h:lift B ds (yq P cf Φ I k) e a w):hold P cf Φ k e a w:=by
 obtain⟨hd,s',β',hq,hs⟩:=h;exact wm hB hI hd hq hs
theorem aac{c:Code}(h:run P cf [.code c] (yq P cf Φ I k) s):ef P cf Φ I (.code c::k) s :=
 fun B hB ds β a w ak hI hs=>wpIn_mono (eT h B hB ds β a w ak hs) fun _ _ _ hq=>Z9 hB hI hq
theorem j7{c:Code}(h:∀E:bB P cf (yq P cf Φ I k),E.run [.code c] s):ef P cf Φ I (.code c::k) s:=aac (aT h)
theorem iw{x y:Code}(h:ef P cf Φ I (.code x::.code y::k) s):ef P cf Φ I (.code (.seq x y)::k) s :=
 fun B hB ds β a w ak hI hs=>wpIn_seq (wpIn_mono (h B hB ds β a w ak hI hs) (K7 _ y k))
theorem HF{i:Nat}{x:Code}(h:ef P cf Φ I (.code x::.ff i::k) s):ef P cf Φ I (.code (.block i x)::k) s :=
 fun B hB ds β a w ak hI hs=>wpIn_block (wpIn_mono (h B hB ds β a w ak hI hs) (K8 _ i k))
theorem NA{i:Nat}(h:ef P cf Φ I k s):ef P cf Φ I (.ff i::k) s:=fun B hB ds β a w ak hI hs=>h B hB ds β a w ak hI hs
theorem aad(h:o9 cf Φ I .normal s):ef P cf Φ I [] s:=fun B hB ds β a w ak hI hs=>h B hB ds β a w ak hI hs
theorem aae{i:Nat}{ops:List Oper}(h:ef P cf Φ I (.ops ops.toArray ops::k) s):ef P cf Φ I (.code (.region i ops.toArray false)::k) s:=by
 intro B hB ds β a w ak hI hs;refine wpIn_region ?_;refine h B hB ds β a w ak hI hs _ ?_;apply aiY;intro j;simp only[aii,ajK,ajf];by_cases hj:j<ops.length
 .simp[hj]
 .simp[hj]
theorem NB{all:Array Oper}(h:ef P cf Φ I k s):ef P cf Φ I (.ops all []::k) s:=by
 intro B hB ds β a w ak hI hs l hl
 cases l with
 |nil=>exact h B hB ds β a w ak hI hs
 |cons i l=>simp at hl
theorem Dn{all:Array Oper}{o:Oper}{r:List Oper}(hg:o.guard=none)(h:(cR P.ti cf.n o.op o.dst s).run (fun s'=>ef P cf Φ I (.ops all r::k) s') False):ef P cf Φ I (.ops all (o::r)::k) s:=by
 intro B hB ds β a w ak hI hs l hl
 cases l with
 |nil=>simp at hl
 |cons i l =>
   simp only[aid,ajc]at hl;obtain⟨hi,hl⟩:=hl;have hw:Region.wanted o (yielded all a.tmps)=true:=by simp[Region.wanted,hg]
   simp only[wpOpsIn,hi,hw,if_true];rw[<-hB.1]at h;rcases xN hs h with hz|⟨nx,v,w',s',β',aK,bU,hf,bc⟩
   .exact hz.elim
   .have hnd:∀c,o.op≠.defer c:=by
     intro c hc
     have:∃d w2,(execOp a.eval o).run P w=.ok (.defer d) w2∨∃h w2,(execOp a.eval o).run P w=.halt h w2:=by
      simp only[execOp,hc,Sem.run_bind]
      cases (resolve a.eval c o.type).run P w with
      |ok d w2=>exact⟨d,w2,.inl rfl⟩
      |halt hh w2=>exact⟨default,w2,.inr ⟨hh,w2,rfl⟩⟩
     obtain⟨d,w2,h1|⟨hh,w3,h1⟩⟩:=this
     .rw[aK]at h1;cases h1;rcases bU with h2|⟨h2,_⟩<;>cases h2
     .rw[aK]at h1;cases h1
    refine iZ hnd aK bU (hf B hB ds β' _ w' ?_ hI bc l hl);cases o.dst<;>exact ak
theorem aaf(s':St)(f:St->Prop)(z:Prop):(R.ok s').run f z=f s':=rfl
theorem aag(p:Prop)(x:R St)(f:St->Prop)(z:Prop):(R.need p x).run f z=(p∧x.run f z):=rfl
def AZ(P:Program)(cf:Cf)(Φ:Exit->Act->World->Prop){X:Type}(S:X->St)(J:X->Base->List Deferred->Prop)(μ:X->Nat)(x:X)(k:List It)(e:Exit)(a:Act)(w:World):Prop :=
 match e with
 |.normal=>∃y,μ y<μ x∧∃B,cf.fits B∧J y B a.defers∧∃β,aj B β (S y) a.tmps w
 |e=>hold P cf Φ k e a w
theorem aah{X:Type}(S:X->St)(J:X->Base->List Deferred->Prop)(μ:X->Nat){c:Code}(x0:X)(h0:∃τ,Le cf.U τ s (S x0))(hI:∀B ds,I B ds->J x0 B ds)
  (hr:∀x,ef P cf (AZ P cf Φ S J μ x k) (J x) [.code c] (S x)):ef P cf Φ I (.code (.loop c)::k) s:=by
 have key:∀N x,μ x<N->∀(B:Base),cf.fits B->∀ds β a w,a.defers=ds->J x B ds->aj B β (S x) a.tmps w->Code.roundsIn (Fw cf.ro) 0 P c (hold P cf Φ k) N a w:=by
  intro N
  induction N with
  |zero=>intro x hx;omega
  |succ N ih =>
    intro x hx B hB ds β a w ak hJ h;rw[roundsIn_succ];refine wpIn_mono (hr x B hB ds β a w ak hJ h) fun e a' w' hq=>?_
    cases e with
    |normal =>
      obtain⟨y,hy,B',hB',HG,β',bc⟩:=hq;exact ih y (by omega) B' hB' _ β' a' w' rfl HG bc
    |exit i=>exact hq
    |ret=>exact hq
    |goto l=>exact hq
    |panic c=>exact hq
    |outgrown=>exact hq
 obtain⟨τ,hle⟩:=h0;intro B hB ds β a w ak hi h;obtain⟨β2,br,_⟩:=h.le (τ:=τ) (by rw[hB.2.1];exact hle);exact wpIn_loop_rounds (μ x0+1) (key _ x0 (akq _) B hB ds β2 a w ak (hI _ _ hi) br)
theorem NC{X:Type}{S:X->St}{J:X->Base->List Deferred->Prop}{μ:X->Nat}{x:X}(y:X)(hy:μ y<μ x)(τ:Name->Name)(hle:Le cf.U τ s (S y))(hI:∀B ds,I B ds->J y B ds):ef P cf (AZ P cf Φ S J μ x k) I [] s:=by
 intro B hB ds β a w ak hi h;obtain⟨β2,br,_⟩:=h.le (τ:=τ) (by rw[hB.2.1];exact hle);exact⟨y,hy,B,hB,by rw[ak];exact hI _ _ hi,β2,br⟩
theorem aai{X:Type}{S:X->St}{J:X->Base->List Deferred->Prop}{μ:X->Nat}{x:X}{i:Nat}(h:yq P cf Φ I k (.exit i) s):o9 cf (AZ P cf Φ S J μ x k) I (.exit i) s :=
 fun _ hB _ _ _ _ ak hi hs=>wm hB hi ak h hs
theorem aaj{X:Type}{S:X->St}{J:X->Base->List Deferred->Prop}{μ:X->Nat}{x:X}(h:o9 cf Φ I .ret s):o9 cf (AZ P cf Φ S J μ x k) I .ret s :=
 fun B hB ds β a w ak hi hs=>vP _ k a w (h B hB ds β a w ak hi hs)
end
end Go.Ab
namespace Go.Ab
structure A1(W:World)(X:Nat->Prop)(W':World)(X':Nat->Prop):Prop where
 size:W.heap.size<=W'.heap.size
 io:dy W'=dy W
 same:∀b,b<W.heap.size->¬X b->W'.heap[b]?=W.heap[b]?
 new:∀b,X' b->(X b∨W.heap.size<=b)∧b<W'.heap.size
structure pb where
 l:Nat
 w:World
 C0:Nat->Prop
 J:Nat->(Nat->Prop)->(Nat->Prop)->World->Prop
 Jx:Nat->(Nat->Prop)->(Nat->Prop)->World->Prop
structure pb.Ok(P:Program)(G:List (Nat×Obj))(N:Nat)(xs:Nat->List D)(z:pb):Prop where
 lt:∀b,z.C0 b->b<z.w.heap.size
 ND:∀n C X W X' W',z.J n C X W->A1 W X W' X'->z.J n C X' W'
 aak:∀n C X W X' W',z.Jx n C X W->A1 W X W' X'->z.Jx n C X' W'
 round:∀n C X W vs,n<N->z.J n C X W->vs.size=(xs n).length->(∀i d,(xs n)[i]?=some d->au W.heap (fun b=>C b∨X b) (vs.getD i undef) d) ->
  YieldAt Fence.wide 0 P z.l vs W fun e W'=>∃C',(dy W'=dy W∧W.heap.size<=W'.heap.size∧(∀b,b<W.heap.size->¬C b->W'.heap[b]?=W.heap[b]?)∧(∀q∈G,W'.heap[q.1]?=W.heap[q.1]?)∧∀b,C' b->(C b∨W.heap.size<=b)∧b<W'.heap.size) ∧
   ((e=.returned (.bool true)∧z.J (n+1) C' X W')∨(e=.returned (.bool false)∧z.Jx (n+1) C' X W'))
def HI(P:Program)(G:List (Nat×Obj))(f:FuncId)(aR:List D)(N:Nat)(xs:Nat->List D):Prop :=
 (∀vs w,(callFunc f vs).run P w=.ok (.enter f vs) w) ∧
 ∀z:pb,z.Ok P G N xs->∀cvs:Array Value,cvs.size=aR.length->(∀i d,aR[i]?=some d->au z.w.heap z.C0 (cvs.getD i undef) d)->z.J 0 z.C0 (fun _=>False) z.w->(∀q∈G,z.w.heap[q.1]?=some q.2) ->
  CallsIn Fence.wide 0 P f (#[.func (.yield z.l) #[] #[]]++cvs) z.w fun e W'=>(∃v,e=.returned v)∧∃C X,z.J N C X W'∨∃n,z.Jx n C X W'
def IJ(z:pb)(J:(Nat->Prop)->(Nat->Prop)->World->Prop)(B:Base)(ds:List Deferred):Prop :=
 ds=[]∧∃C X W0,W0.heap=B.H0∧dy W0=B.io∧J C X W0∧(∀b,B.A b↔C b)∧(∀b,B.O0 b↔X b)∧(∀b,X b->z.w.heap.size<=b)∧z.w.heap.size<=W0.heap.size
def II(z:pb)(n:Nat):Base->List Deferred->Prop:=IJ z (z.J n)
def IX(z:pb):Base->List Deferred->Prop:=IJ z fun C X W=>∃n,z.Jx n C X W
def ΦI(z:pb)(N:Nat)(e:Exit)(a:Act)(w:World):Prop:=(e=.normal∨e=.ret)∧a.defers=[]∧∃C X,z.J N C X w∨∃n,z.Jx n C X w
section
variable {P:Program}{cf:Cf}{G:List (Nat×Obj)}{N:Nat}{xs:Nat->List D}{z:pb}{k:List It}{s:St}
theorem IJ.aX{J:(Nat->Prop)->(Nat->Prop)->World->Prop}{B:Base}{ds:List Deferred}{β:Name->Option aU}{tm:Array Value}{w:World}(h:IJ z J B ds)(hs:aj B β s tm w) :
  ∃C X W0,W0.heap=B.H0∧J C X W0∧A1 W0 X w (dh s β)∧(∀b,B.A b↔C b)∧(∀b,dh s β b->z.w.heap.size<=b)∧z.w.heap.size<=w.heap.size:=by
 obtain⟨_,C,X,W0,h1,h2,hJ,hA,hO,hX,hz⟩:=h;have bh:W0.heap.size=B.H0.size:=by rw[h1]
 refine⟨C,X,W0,h1,hJ,⟨by rw[bh];exact hs.size,by rw[h2];exact hs.io,fun b hb hx=>?_,fun b hb=>?_⟩,hA,fun b hb=>?_,?_⟩
 .rw[h1];exact hs.frame b (by rw[<-bh];exact hb) (fun ho=>hx ((hO b).1 ho))
 .obtain⟨b1,_,b3⟩:=hs.nr hb;refine⟨?_,b1⟩;obtain b3|b3:=b3
  .exact .inr (by rw[bh];exact b3)
  .exact .inl ((hO b).1 b3)
 .rcases(hs.nr hb).2.2 with b3|b3
  .have:=hs.size;omega
  .exact hX b ((hO b).1 b3)
 .have:=hs.size;omega
theorem aal{z:pb}(hz:z.Ok P G N xs){e:Exit}(he:e=.normal∨e=.ret):o9 cf (ΦI z N) (II z N) e s:=by
 intro B hB ds β a w ak hi hs;obtain⟨C,X,W0,_,hJ,ah,_⟩:=IJ.aX hi hs;exact⟨he,ak.trans hi.1,C,_,.inl (hz.ND _ _ _ _ _ _ hJ ah)⟩
theorem aam{z:pb}(hz:z.Ok P G N xs){e:Exit}(he:e=.normal∨e=.ret):o9 cf (ΦI z N) (IX z) e s:=by
 intro B hB ds β a w ak hi hs;obtain⟨C,X,W0,_,⟨n,hJ⟩,ah,_⟩:=IJ.aX hi hs;exact⟨he,ak.trans hi.1,C,_,.inr ⟨n,hz.aak _ _ _ _ _ _ hJ ah⟩⟩
theorem aan(hz:z.Ok P cf.G N xs){Φ:Exit->Act->World->Prop}{n t:Nat}{all:Array Oper}{fv:Operand}{args:Array Operand}{at':Array TypeId}{ty:TypeId}{pos:String}{af:Array Edge}{r:List Oper}
  (hn:n<N) (ht:t<cf.n) (bd:ev s fv=.d (.yl z.l)) (dC:args.toList.map (ev s)=(xs n).map .d)
  (h1:ef P cf Φ (II z (n+1)) (.ops all r::k) (s.put t (.d (.bool true)))) (h2:ef P cf Φ (IX z) (.ops all r::k) (s.put t (.d (.bool false)))) :
  ef P cf Φ (II z n) (.ops all ({ dst:=some t,op:=.call { callee:=.value fv,args:=args,argTypes:=at' },type:=ty,pos:=pos,after:=af,guard:=none }::r)::k) s:=by
 intro B hB ds β a w ak hI hs l hl
 cases l with
 |nil=>simp at hl
 |cons i l =>
   simp only[aid,ajc]at hl;obtain⟨hi,hl⟩:=hl;simp only[wpOpsIn,hi,Region.wanted,if_true];obtain⟨C,X,W0,hW0,hJ,ah,hA,hX,wq⟩:=IJ.aX hI hs;have HG:=hz.ND _ _ _ _ _ _ hJ ah;have hf:=hs.ev fv;rw[bd]at hf
   have k9:a.eval fv=.func (.yield z.l) #[] #[]:=by
    have:=hf.cU;generalize a.eval fv=v at this;cases this;rfl
   have hlen:args.size=(xs n).length:=by simpa using congrArg List.length dC
   have uR:=hz.round n C (dh s β) w (args.map a.eval) hn HG (by simpa using hlen) (fun j d hj=>by
    have hx:(args.toList.map (ev s))[j]?=some (.d d):=by rw[dC,aii,hj];rfl
    have:=(xY hs args.toList j _ hx).cU;rw[show(args.map a.eval).getD j undef=(args.toList.map a.eval).toArray.getD j undef by simp[ahY]];refine this.mono (fun _ _ _=>rfl) (fun b _ hb=>?_);obtain hb|hb:=hb
    .exact .inl ((hA b).2 hb)
    .exact .inr hb)
   obtain⟨fn,tmps,assign,body,hy,uR⟩:=uR;refine⟨fun _ _=>trivial,?_⟩
   have aK:(execOp a.eval { dst:=some t,op:=.call { callee:=.value fv,args:=args,argTypes:=at' },type:=ty,pos:=pos,after:=af,guard:=none }:Sem Next).run P w=.ok (.round z.l fn tmps assign body) w:=by
    have e:(execOp a.eval { dst:=some t,op:=.call { callee:=.value fv,args:=args,argTypes:=at' },type:=ty,pos:=pos,after:=af,guard:=none }:Sem Next)=Instr.yield z.l (#[]++args.map a.eval++#[]):=by
     show(do let d <-(Deferred.ofValue (a.eval fv) (args.map a.eval));invoke d.target d.args:Sem Next)=_;rw[k9];rfl
    rw[e];simpa using hy
   rw[Oper.semAt_eq _ _ _ (by simp),aK,Oper.uponIn_round];refine⟨fun nY=>by simp[vO]at nY,?_⟩;have aao:RoundIn (Fw cf.ro) (0-1) P z.l fn tmps assign body w _:=uR;refine aao.mono ?_;rintro e W' ⟨C',⟨c1,c2,c3,c4,c5⟩,hq⟩
   have sE:∀q∈B.G,W'.heap[q.1]?=some q.2∧¬dh s β q.1:=fun q hq=>by
    obtain⟨g1,g2⟩:=B.hG q hq;have hlt:=dK g1;refine⟨(c4 q (by rw[<-hB.2.2];exact hq)).trans ((hs.frame _ hlt g2).trans g1),fun hb=>?_⟩;rcases(hs.nr hb).2.2 with g3|g3
    .omega
    .exact g2 g3
   let B':Base:={ n:=B.n,io:=B.io,G:=B.G,H0:=W'.heap,O0:=dh s β,A:=C',U0:=B.U0,β0:=B.β0,hA:=fun b hb=>(c5 b hb).2,hG:=sE }
   have bc:aj B' β s a.tmps W':=by
    refine hs.mv rfl (c1.trans hs.io) (ain _) (fun _ _ _=>rfl) c2 (fun b hb hn=>c3 b hb (fun hc=>hn ((hA b).2 hc))) (fun b hb hc=>?_) (fun p k hp hk=>.inr ⟨p,k,hp,hk,rfl⟩) hs.us hs.stay;rcases(c5 b hc).1 with h|h
    .exact(hA b).2 h
    .omega
   have NF:∀J:(Nat->Prop)->(Nat->Prop)->World->Prop,J C' (dh s β) W'->IJ z J B' ds:=fun J hj=>⟨hI.1,C',_,W',rfl,c1.trans hs.io,hj,fun _=>Iff.rfl,fun _=>Iff.rfl,hX,aix wq c2⟩
   obtain⟨rfl,hj⟩|⟨rfl,hj⟩:=hq
   .exact h1 B' ⟨hB.1,hB.2.1,hB.2.2⟩ ds β (a.put (some t) (.bool true)) W' ak (NF _ hj) (bc.put (by show t<B.n;rw[hB.1];exact ht) (.d _ _ (.bool _))) l hl
   .exact h2 B' ⟨hB.1,hB.2.1,hB.2.2⟩ ds β (a.put (some t) (.bool false)) W' ak (NF _ ⟨_,hj⟩) (bc.put (by show t<B.n;rw[hB.1];exact ht) (.d _ _ (.bool _))) l hl
theorem aap {G:List (Nat×Obj)} {f:FuncId} {fn:Func} {c:Code} {aR:List D} (hf:P.funcs[f]?=some fn) (hb:fn.body=some c) (eI:(fn.name == "runtime.NumGoroutine")=false) (hn:aR.length+1<=fn.ntmps) (aaq:fn.results=#[])
  (h:∀z:pb,z.Ok P G N xs->ef P ⟨fn.ntmps,none,G,[]⟩ (ΦI z N) (II z 0) [.code c] (mk (dM 0 (.d (.yl z.l)::aR.map .d)) [] [])):HI P G f aR N xs:=by
 refine⟨ra hf hb eI,fun z hz cvs bh jV hJ hG=>?_⟩
 let B:Base:={ n:=fn.ntmps,io:=dy z.w,G:=G,H0:=z.w.heap,O0:=fun _=>False,A:=z.C0,U0:=[],β0:=fun _=>none,hA:=hz.lt,hG:=fun q hq=>⟨hG q hq,fun h=>h⟩ }
 have bm:aj B (fun _=>none) (mk (dM 0 (.d (.yl z.l)::aR.map .d)) [] []) ((#[Value.func (.yield z.l) #[] #[]]++cvs)++Array.replicate (fn.ntmps-(#[Value.func (.yield z.l) #[] #[]]++cvs).size) undef) z.w:=by
  have dS:∀b,(mk (dM 0 (.d (.yl z.l)::aR.map .d)) [] []).own z.C0 (fun _=>none) b->z.C0 b:=by
   rintro b (hb|⟨p,k,hp,_⟩)
   .exact hb
   .exact absurd rfl hp
  refine { bE:=by show(_:Array Value).size=fn.ntmps;simp;omega,io:=rfl,size:=ain _,frame:=fun _ _ _=>rfl,slots:=fun t=>?_,aO:=fun p o ho=>(by cases ho),blocks:=fun p k hp=>absurd rfl hp,inj:=fun p q k l hp=>absurd rfl hp,us:=fun _ hx=>hx,stay:=fun p hp=>(by obtain⟨_,_,_,hx⟩:=hp;cases hx) };rw[kV,qc,if_pos (aie _),Nat.sub_zero]
  cases t with
  |zero =>
    have e:((#[Value.func (.yield z.l) #[] #[]]++cvs)++Array.replicate (fn.ntmps-(#[Value.func (.yield z.l) #[] #[]]++cvs).size) undef).getD 0 undef=.func (.yield z.l) #[] #[]:=by
     simp[ahY,aiN]
    rw[e];exact .d _ _ (.yl _)
  |succ t =>
    cases ht:(aR.map AV.d)[t]? with
    |none=>rw[List.getElem?_cons_succ,ht];exact .un _
    |some x =>
      rw[List.getElem?_cons_succ,ht];rw[aii,ah4]at ht;obtain⟨d,hd,rfl⟩:=ht;have hlt:t<cvs.size:=by rw[bh];exact(ah3.1 hd).1
      have e:((#[Value.func (.yield z.l) #[] #[]]++cvs)++Array.replicate (fn.ntmps-(#[Value.func (.yield z.l) #[] #[]]++cvs).size) undef).getD (t+1) undef=cvs.getD t undef:=by
       have h1:t+1<1+cvs.size:=by omega
       simp[ahY,aiN,h1,hlt]
      rw[e];exact .d _ _ ((jV t d hd).mono (fun _ _ _=>rfl) (fun b _=>dS b))
 have aK:=h z hz B ⟨rfl,rfl,rfl⟩ [] (fun _=>none) { tmps:=(#[Value.func (.yield z.l) #[] #[]]++cvs)++Array.replicate (fn.ntmps-(#[Value.func (.yield z.l) #[] #[]]++cvs).size) undef,defers:=[] } z.w rfl
  ⟨rfl,z.C0,fun _=>False,z.w,rfl,rfl,hJ,fun _=>Iff.rfl,fun _=>Iff.rfl,fun b hb=>hb.elim,ain _⟩ bm
 refine callsIn_of_wp hf hb trivial (wpIn_mono (F:=Fence.wide) aK fun e a' w' hq=>?_);obtain⟨he,hd,hq⟩:=hq
 have hr:(results fn a'.tmps).run P w'=.ok (.tuple #[]) w':=by
  simp[results,aaq]
 obtain rfl|rfl:=he
 .exact⟨hd,_,hr,⟨_,rfl⟩,hq⟩
 .exact⟨hd,_,hr,⟨_,rfl⟩,hq⟩
end
attribute [go_sem] Z3 Z4 Z5 Z6 Z7 Z8 aaf aag
end Go.Ab

