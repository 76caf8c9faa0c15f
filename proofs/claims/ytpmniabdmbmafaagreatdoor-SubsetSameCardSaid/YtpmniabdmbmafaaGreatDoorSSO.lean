/-
  What a state has, as nodes: the document's parts. (with the parts that follow it)
-/
import Derived.Test.YtpmniabdmbmafaaGreatDoorSSN
import Derived.Test.YtpmniabdmbmafaaGreatDoorSSJ
import Derived.Test.YtpmniabdmbmafaaGreatDoorSSM
import Derived.Test.YtpmniabdmbmafaaGreatDoorSSI
set_option linter.all false
set_option maxHeartbeats 16000000
namespace Go.Proofs.YtpmniabdmbmafaaGreatDoor
open Go.Ab Tryz
theorem RI{G}(l:List cn)(hl:l.length<=1000000):HP prog G 49 [.sl (some 2) (l.map bf)] (fun r=>r=.d (.sl (some 2) (l.map bf))):=by
 refine gy func49 rfl (by decide +kernel) (by simp[ntmps49]) (aT fun E=>?_);simp only[go_sem]
 refine bK E (X:={ j:Nat // j<=l.length }) (fun x=>[(0,.d (.sl (some 2) (l.map bf))),(3,.vw [98] 0 x.1),(4,.d (i64 x.1))])
  (fun x=>[([98],.arr (some 2) ((l.take x.1).map bf))]) [98] (fun x=>l.length-x.1) ⟨0,aie _⟩ (ar [([98],[5])]) ?_ ?_
 .simp only[go_sem]
 rintro⟨j,hj⟩ E1;refine bW E1 fun Q2 dv E2=>?_;simp only at hj ⊢;simp only[go_sem];refine aH E2 ?_ ?_<;>intro h2<;>simp only[go_sem]
 .have bG:j<l.length:=by omega
  refine bF mixed E2 fun X=>?_;simp only[go_sem];refine⟨by omega,?_⟩;rw[EZ bG];simp only[go_sem];refine⟨by omega,?_⟩;rw[EZ bG];simp only[go_sem];refine⟨by omega,?_⟩;(try refine⟨by decide +kernel,?_⟩);rw[dv];simp only[go_sem];refine⟨⟨j+1,by omega⟩,by show l.length-(j+1)<_;omega,ar [([98],[25])],?_⟩;simp only[go_sem];rw[aic (by simp;omega),aD ⟨by omega,by omega⟩,<-RG bG]
  and_intros<;>first|rfl|trivial
 have h5:j=l.length:=by omega
 subst h5;rw[dv,aij];simp only[go_sem];refine⟨[([98],some 2,l.map bf)],?_⟩;simp only[go_sem]
def pA(s:EA)(ev:Int):List TN:=if s.al=true then[⟨ev,0,0,[]⟩]else[]
def pB(s:EA)(ev:Int):List TN:=pA s ev++if s.int=true then[⟨3,0,0,[]⟩]else[]
def pC(s:EA)(ev:Int):List TN:=pB s ev++if s.bool=true then[⟨4,0,0,[]⟩]else[]
def pD(s:EA)(ev:Int):List TN:=pC s ev++if s.str=true then[⟨5,0,0,[]⟩]else[]
def pE(s:EA)(ev:Int)(i:Nat):List TN:=pD s ev++(s.vars.take i).map fun v=>⟨11,v,0,[]⟩
def pF(s:EA)(ev:Int):List TN:=pE s ev s.vars.length++if s.arr=true then[⟨6,s.dp,s.dq,[]⟩]else[]
def pG(s:EA)(ev:Int):List TN:=pF s ev++if s.rc=true then[⟨7,0,0,s.fl⟩]else[]
def pH(s:EA)(ev:Int):List TN:=pG s ev++if s.tg=true then[⟨8,0,0,s.tl⟩]else[]
def lR(n:TN):D:=if gU n.k=true then .sl (some 2) (n.l.map bf)else .ai
def dQ(n:TN):D:=.agg [i64 n.k,i64 n.a,i64 n.b,lR n]
theorem JO(s:EA)(ev:Int):pH s ev=ec s ev:=by
 unfold pH pG pF pE pD pC pB pA ec;rw[aij]
theorem afE{s:EA}{ev:Int}{i:Nat}(h:i<s.vars.length):pE s ev (i+1)=pE s ev i++[⟨11,s.vars[i],0,[]⟩]:=by
 unfold pE;rw[ah5 h];simp only[ail,aiS,aid,aiO]
theorem xm{c:Prop}[Decidable c]{x:TN}:(if c then[x]else[]).length<=1:=by split<;>simp
theorem JP(s:EA)(ev:Int):(pA s ev).length<=1∧(pB s ev).length<=2∧(pC s ev).length<=3∧(pD s ev).length<=4∧(∀i,(pE s ev i).length<=4+s.vars.length)∧(pF s ev).length<=5+s.vars.length∧(pG s ev).length<=6+s.vars.length∧(pH s ev).length<=7+s.vars.length:=by
 have hA:(pA s ev).length<=1:=xm;have hB:(pB s ev).length<=2:=by unfold pB;rw[ah7];have:=@xm (s.int=true) _ ⟨3,0,0,[]⟩;omega
 have hC:(pC s ev).length<=3:=by unfold pC;rw[ah7];have:=@xm (s.bool=true) _ ⟨4,0,0,[]⟩;omega
 have hD:(pD s ev).length<=4:=by unfold pD;rw[ah7];have:=@xm (s.str=true) _ ⟨5,0,0,[]⟩;omega
 have hE:∀i,(pE s ev i).length<=4+s.vars.length:=fun i=>by unfold pE;rw[ah7,aik,air];omega
 have hF:(pF s ev).length<=5+s.vars.length:=by unfold pF;rw[ah7];have:=@xm (s.arr=true) _ ⟨6,s.dp,s.dq,[]⟩;have:=hE s.vars.length;omega
 have hG:(pG s ev).length<=6+s.vars.length:=by unfold pG;rw[ah7];have:=@xm (s.rc=true) _ ⟨7,0,0,s.fl⟩;omega
 have hH:(pH s ev).length<=7+s.vars.length:=by unfold pH;rw[ah7];have:=@xm (s.tg=true) _ ⟨8,0,0,s.tl⟩;omega
 exact⟨hA,hB,hC,hD,hE,hF,hG,hH⟩
theorem afF{G}(s:EA)(ev:Int)(hv:s.vars.length<=2000)(hf:s.fl.length<=1000000)(ht:s.tl.length<=1000000)(bd:gU ev=false):HP prog G 25 [gE s,i64 ev] (fun r=>r=.d (.sl (some 4) ((ec s ev).map dQ))):=by
 rw[<-JO];have hp:=JP s ev;have c1:=RI (G:=G) s.fl hf;have c2:=RI (G:=G) s.tl ht;refine N1 func25 rfl (by decide +kernel) (by simp[ntmps25]) fun B0 JQ=>?_;simp only[sY];refine iw (j7 fun E=>?_);simp only[go_sem];refine N2 [2] (.agg [.bool s.plus,.bool s.al,.bool s.int,.bool s.bool,.bool s.str,.bool s.arr,.bool s.rc,.bool s.tg,.sl none (s.vars.map i64),i64 s.dp,i64 s.dq,.sl (some 2) (s.fl.map bf),.sl (some 2) (s.tl.map bf)]) rfl rfl ?_;simp only[go_sem];refine iw (j7 fun E=>?_);simp only[go_sem];refine iw (wE [(1,.d (i64 ev)),(2,.d (.ptr (.agg [.bool s.plus,.bool s.al,.bool s.int,.bool s.bool,.bool s.str,.bool s.arr,.bool s.rc,.bool s.tg,.sl none (s.vars.map i64),i64 s.dp,i64 s.dq,.sl (some 2) (s.fl.map bf),.sl (some 2) (s.tl.map bf)]))),(5,.vw [99] 0 (pA s ev).length)] [([99],.arr (some 4) ((pA s ev).map dQ))] [99] (fun E=>?_) ?_)
 .simp only[go_sem];refine cK E ?_ ?_<;>intro g<;>simp only[go_sem]
  .skip
   refine ny (ar [([99],[14])]) ?_;simp only[pA];rw[if_pos g];simp only[go_sem];rw[dQ,lR,bd];rfl
  .refine ny (ar [([99],[7])]) ?_;simp only[pA];rw[if_neg (by rw[g];decide)];simp only[go_sem]
   skip
 refine iw (wE [(1,.d (i64 ev)),(2,.d (.ptr (.agg [.bool s.plus,.bool s.al,.bool s.int,.bool s.bool,.bool s.str,.bool s.arr,.bool s.rc,.bool s.tg,.sl none (s.vars.map i64),i64 s.dp,i64 s.dq,.sl (some 2) (s.fl.map bf),.sl (some 2) (s.tl.map bf)]))),(5,.vw [99] 0 (pB s ev).length)] [([99],.arr (some 4) ((pB s ev).map dQ))] [99] (fun E=>?_) ?_)
 .simp only[go_sem];refine cK E ?_ ?_<;>intro g<;>simp only[go_sem]
  .refine⟨by omega,?_⟩;refine ny (ar [([99],[20])]) ?_;simp only[pB];rw[if_pos g];simp only[go_sem];simp[dQ,lR,gU]
  .refine ny (ar [([99],[99])]) ?_;simp only[pB];rw[if_neg (by rw[g];decide)];simp only[go_sem];rw[aiR];exact⟨rfl,rfl⟩
 refine iw (wE [(1,.d (i64 ev)),(2,.d (.ptr (.agg [.bool s.plus,.bool s.al,.bool s.int,.bool s.bool,.bool s.str,.bool s.arr,.bool s.rc,.bool s.tg,.sl none (s.vars.map i64),i64 s.dp,i64 s.dq,.sl (some 2) (s.fl.map bf),.sl (some 2) (s.tl.map bf)]))),(5,.vw [99] 0 (pC s ev).length)] [([99],.arr (some 4) ((pC s ev).map dQ))] [99] (fun E=>?_) ?_)
 .simp only[go_sem];refine cK E ?_ ?_<;>intro g<;>simp only[go_sem]
  .refine⟨by omega,?_⟩;refine ny (ar [([99],[26])]) ?_;simp only[pC];rw[if_pos g];simp only[go_sem];simp[dQ,lR,gU]
  .refine ny (ar [([99],[99])]) ?_;simp only[pC];rw[if_neg (by rw[g];decide)];simp only[go_sem];rw[aiR];exact⟨rfl,rfl⟩
 refine iw (wE [(1,.d (i64 ev)),(2,.d (.ptr (.agg [.bool s.plus,.bool s.al,.bool s.int,.bool s.bool,.bool s.str,.bool s.arr,.bool s.rc,.bool s.tg,.sl none (s.vars.map i64),i64 s.dp,i64 s.dq,.sl (some 2) (s.fl.map bf),.sl (some 2) (s.tl.map bf)]))),(5,.vw [99] 0 (pD s ev).length)] [([99],.arr (some 4) ((pD s ev).map dQ))] [99] (fun E=>?_) ?_)
 .simp only[go_sem];refine cK E ?_ ?_<;>intro g<;>simp only[go_sem]
  .refine⟨by omega,?_⟩;refine ny (ar [([99],[32])]) ?_;simp only[pD];rw[if_pos g];simp only[go_sem];simp[dQ,lR,gU]
  .refine ny (ar [([99],[99])]) ?_;simp only[pD];rw[if_neg (by rw[g];decide)];simp only[go_sem];rw[aiR];exact⟨rfl,rfl⟩
 refine iw (j7 fun E=>?_);simp only[go_sem]
 refine bK E (X:={ i:Nat // i<=s.vars.length }) (fun x=>[(1,.d (i64 ev)),(2,.d (.ptr (.agg [.bool s.plus,.bool s.al,.bool s.int,.bool s.bool,.bool s.str,.bool s.arr,.bool s.rc,.bool s.tg,.sl none (s.vars.map i64),i64 s.dp,i64 s.dq,.sl (some 2) (s.fl.map bf),.sl (some 2) (s.tl.map bf)]))),(5,.vw [99] 0 (pE s ev x.1).length),(6,.d (i64 x.1))])
  (fun x=>[([99],.arr (some 4) ((pE s ev x.1).map dQ))]) [99] (fun x=>s.vars.length-x.1) ⟨0,aie _⟩ id ?_ ?_
 .simp only[go_sem];simp[pE]
 rintro⟨i,hi⟩ E0;refine bW E0 fun Q' hQ E'=>?_;simp only at hi ⊢;have yC:=hp.2.2.2.2.1 i;simp only[go_sem];refine aH E' ?_ ?_<;>intro h1<;>simp only[go_sem]
 .have ao:i<s.vars.length:=by omega
  refine⟨by omega,?_⟩;rw[dF ao];simp only[go_sem];refine⟨by omega,?_⟩;rw[hQ];refine⟨⟨i+1,by omega⟩,by show s.vars.length-(i+1)<s.vars.length-i;omega,ar [([99],[48])],?_⟩;rw[afE ao,aD ⟨by omega,by omega⟩];simp only[go_sem];simp[dQ,lR,gU]
 have h5:i=s.vars.length:=by omega
 subst h5;rw[hQ];simp only[go_sem];refine iw (wE [(1,.d (i64 ev)),(2,.d (.ptr (.agg [.bool s.plus,.bool s.al,.bool s.int,.bool s.bool,.bool s.str,.bool s.arr,.bool s.rc,.bool s.tg,.sl none (s.vars.map i64),i64 s.dp,i64 s.dq,.sl (some 2) (s.fl.map bf),.sl (some 2) (s.tl.map bf)]))),(5,.vw [99] 0 (pF s ev).length)] [([99],.arr (some 4) ((pF s ev).map dQ))] [99] (fun E=>?_) ?_)
 .simp only[go_sem];refine cK E ?_ ?_<;>intro g<;>simp only[go_sem]
  .refine⟨by have:=hp.2.2.2.2.1 s.vars.length;omega,?_⟩;refine ny (ar [([99],[58])]) ?_;simp only[pF];rw[if_pos g];simp only[go_sem];simp[dQ,lR,gU]
  .refine ny (ar [([99],[99])]) ?_;simp only[pF];rw[if_neg (by rw[g];decide)];simp only[go_sem];rw[aiR];exact⟨rfl,rfl⟩
 refine iw (wE [(1,.d (i64 ev)),(2,.d (.ptr (.agg [.bool s.plus,.bool s.al,.bool s.int,.bool s.bool,.bool s.str,.bool s.arr,.bool s.rc,.bool s.tg,.sl none (s.vars.map i64),i64 s.dp,i64 s.dq,.sl (some 2) (s.fl.map bf),.sl (some 2) (s.tl.map bf)]))),(5,.vw [99] 0 (pG s ev).length)] [([99],.arr (some 4) ((pG s ev).map dQ))] [99] (fun E=>?_) ?_)
 .simp only[go_sem];refine cK E ?_ ?_<;>intro g<;>simp only[go_sem]
  .refine bj E c1 rfl rfl (by simp) ?_;rintro _ rfl;simp only[go_sem];refine⟨by omega,?_⟩;refine ny (ar [([99],[67])]) ?_;simp only[pG];rw[if_pos g];simp only[go_sem];simp[dQ,lR,gU]
  .refine ny (ar [([99],[99])]) ?_;simp only[pG];rw[if_neg (by rw[g];decide)];simp only[go_sem];rw[aiR];exact⟨rfl,rfl⟩
 refine iw (wE [(1,.d (i64 ev)),(2,.d (.ptr (.agg [.bool s.plus,.bool s.al,.bool s.int,.bool s.bool,.bool s.str,.bool s.arr,.bool s.rc,.bool s.tg,.sl none (s.vars.map i64),i64 s.dp,i64 s.dq,.sl (some 2) (s.fl.map bf),.sl (some 2) (s.tl.map bf)]))),(5,.vw [99] 0 (pH s ev).length)] [([99],.arr (some 4) ((pH s ev).map dQ))] [99] (fun E=>?_) ?_)
 .simp only[go_sem];refine cK E ?_ ?_<;>intro g<;>simp only[go_sem]
  .refine bj E c2 rfl rfl (by simp) ?_;rintro _ rfl;simp only[go_sem];refine⟨by omega,?_⟩;refine ny (ar [([99],[76])]) ?_;simp only[pH];rw[if_pos g];simp only[go_sem];simp[dQ,lR,gU]
  .refine ny (ar [([99],[99])]) ?_;simp only[pH];rw[if_neg (by rw[g];decide)];simp only[go_sem];rw[aiR];exact⟨rfl,rfl⟩
 refine j7 fun E=>?_;simp only[go_sem];refine N0 (.inl rfl) JQ ?_;simp only[go_sem];refine⟨[([99],some 4,(pH s ev).map dQ)],?_⟩;simp only[go_sem]
end Go.Proofs.YtpmniabdmbmafaaGreatDoor

namespace Go.Proofs.YtpmniabdmbmafaaGreatDoor
open Go.Ab Tryz
theorem afG(n:TN):okW (some 4) (aw n):=⟨rfl,by simp[mC,D.ct]⟩
theorem RJ{xs:List D}{ns:List TN}{root:Int}(h:o5 xs ns):Wk (.agg [.sl (some 4) xs,i64 root]) (bp ns root):=by
 refine Wk.agg rfl (by simp[D.ct]) fun i a b ha hb=>?_
 match i,ha,hb with
 |1,ha,hb=>cases ha;cases hb;exact .refl _
 |0,ha,hb =>
   cases ha;cases hb;refine Wk.sl (by simp[h.len]) (fun b hb=>by obtain⟨n,_,rfl⟩:=ah9.1 hb;exact afG n) fun i a b ha hb=>?_;rw[aii,ah4]at hb;obtain⟨n,hn,rfl⟩:=hb;have hi:=(ah3.1 hn).1;have hg:=h.get i hi;have l6:i<xs.length:=by rw[h.len];exact hi
   have e1:xs.getD i .aY=a:=by simp[ha]
   have e2:ns[i]=n:=by
    have:=aib hi;rw[this]at hn;exact ais hn
   rw[e1,e2]at hg;obtain⟨F,rfl,hF⟩:=hg;refine⟨rfl,fun j c d hc hd=>?_⟩
   match j,hc,hd with
   |0,hc,hd=>cases hc;cases hd;exact .refl _
   |1,hc,hd=>cases hc;cases hd;exact .refl _
   |2,hc,hd=>cases hc;cases hd;exact .refl _
   |3,hc,hd =>
     cases hc;cases hd;obtain⟨rfl,hF⟩|rfl:=hF
     .rw[hF];exact .ai _
     .exact .refl _
def tsT:List TS:=[.sl (some 4) [.int .i64,.int .i64,.int .i64,.sl (some 2) [.str,.int .i64]],.int .i64]
def In(L:D)(ns:List TN):Prop:=Zr L ns∧ns.length<=maxLen∧∀n∈ns,n.l.length<=maxLen∧∀f∈n.l,f.1.length<=maxLen
theorem RL:∀{xs:List D},(∀x∈xs,okW (some 2) x∧j4 [.str,.int .i64] x.cells)->∃l:List cn,xs=l.map bf∧∀f∈l,f.1.length<=maxLen
 |[],_=>⟨[],rfl,by simp⟩
 |x::xs,h=>by
   obtain⟨l,hl,hf⟩:=RL fun y hy=>h y (ah8 _ hy);obtain⟨h1,h2⟩:=h x ah0
   cases x with
   |agg cs =>
     have h2:j4 [.str,.int .i64] cs:=h2
     match cs,h2 with
     |[.str s,.int k n],h2 =>
       obtain⟨g1,g2,_⟩:=h2;obtain rfl:k=.i64:=g2.1
       exact⟨(s,n)::l,by rw[hl];rfl,fun f oa=>by
        rcases ah6.1 oa with rfl|oa
        .exact g1
        .exact hf f oa⟩
   |_=>simp[okW]at h1
theorem afH{x:D}(h1:okW (some 4) x)(h2:j4 [.int .i64,.int .i64,.int .i64,.sl (some 2) [.str,.int .i64]] x.cells):∃n,Dh x n∧n.l.length<=maxLen∧∀f∈n.l,f.1.length<=maxLen:=by
 cases x with
 |agg cs =>
   have h2:j4 [.int .i64,.int .i64,.int .i64,.sl (some 2) [.str,.int .i64]] cs:=h2
   match cs,h2 with
   |[.int k1 a,.int k2 b,.int k3 c,F],h2 =>
     obtain⟨g1,g2,g3,g4,_⟩:=h2;obtain rfl:k1=.i64:=g1.1;obtain rfl:k2=.i64:=g2.1;obtain rfl:k3=.i64:=g3.1
     cases F with
     |ai=>exact⟨⟨a,b,c,[]⟩,⟨.ai,rfl,.inl ⟨rfl,rfl⟩⟩,by simp,by simp⟩
     |sl w xs =>
       obtain⟨rfl,g5,g6⟩:=g4;obtain⟨l,rfl,hl⟩:=RL g6;exact⟨⟨a,b,c,l⟩,⟨_,rfl,.inr rfl⟩,by simpa using g5,hl⟩
     |_=>exact g4.elim
 |_=>simp[okW]at h1
theorem RM:∀{xs:List D},(∀x∈xs,okW (some 4) x∧j4 [.int .i64,.int .i64,.int .i64,.sl (some 2) [.str,.int .i64]] x.cells)->∃ns,o5 xs ns∧∀n∈ns,n.l.length<=maxLen∧∀f∈n.l,f.1.length<=maxLen
 |[],_=>⟨[],trivial,by simp⟩
 |x::xs,h=>by
   obtain⟨ns,h1,h2⟩:=RM fun y hy=>h y (ah8 _ hy);obtain⟨g1,g2⟩:=h x ah0;obtain⟨n,k1,k2⟩:=afH g1 g2
   exact⟨n::ns,⟨k1,h1⟩,fun m hm=>by
    rcases ah6.1 hm with rfl|hm
    .exact k2
    .exact h2 m hm⟩
theorem RN{ds:List D}(h:j4 tsT ds):∃L root ns,ds=[L,i64 root]∧In L ns:=by
 match ds,h with
 |[L,.int k n],h =>
   obtain⟨h1,h2,_⟩:=h;obtain rfl:k=.i64:=h2.1
   cases L with
   |ai=>exact⟨.ai,n,[],rfl,.inl ⟨rfl,rfl⟩,by simp,by simp⟩
   |sl w xs =>
     obtain⟨rfl,g1,g2⟩:=h1;obtain⟨ns,k1,k2⟩:=RM g2;exact⟨_,n,ns,rfl,.inr ⟨xs,rfl,k1⟩,by rw[<-k1.len];exact g1,k2⟩
   |_=>exact h1.elim
theorem RO:maxLen<=9223372036854775807:=by unfold maxLen;omega
theorem RP(ns:List TN)(root:Int):Wk (j5 ns root) (bp ns root):=by
 refine Wk.agg rfl (by simp[D.ct]) fun i a b ha hb=>?_
 match i,ha,hb with
 |1,ha,hb=>cases ha;cases hb;exact .refl _
 |0,ha,hb =>
   cases ha;cases hb
   cases ns with
   |nil=>exact .ai _
   |cons n r=>exact .refl _
theorem afI(ns:List TN)(most:Nat)(hm:most<=1000):(nk ns most).length<=2001∧(nk ns most).length<=ns.length:=by
 simp only[nk,aik,air,jx];split<;>omega
theorem RQ{L:D}{ns:List TN}(h:In L ns)(most:Nat)(hm:most<=1000):rE (nk ns most):=by
 have hx:=RO;refine⟨by have:=(afI ns most hm).1;omega,fun n hn=>?_⟩;obtain⟨m,iI,rfl⟩:=ah9.1 hn;have sq:=aiJ iI;obtain⟨h1,h2⟩:=h.2.2 m sq;refine⟨?_,fun f hf=>?_⟩
 .simp only[gT,air];omega
 .have:=h2 f (aiJ hf);omega
theorem RS{G}{L:D}{ns:List TN}(root:Int)(most:Nat)(h:In L ns)(hm:most<=1000):HP prog G 6 [.agg [L,i64 root],i64 most] (fun r=>r=.d (j5 (nk ns most) root)):=by
 have hx:=RO;obtain⟨rfl,rfl⟩|⟨xs,rfl,hr⟩:=h.1
 .refine(M8 [] [] root most trivial (by simp) hm).wk ⟨Wk.agg rfl (by simp[D.ct]) fun i a b ha hb=>?_,.refl _,trivial⟩
  match i,ha,hb with
  |0,ha,hb=>cases ha;cases hb;exact .ai _
  |1,ha,hb=>cases ha;cases hb;exact .refl _
 .exact M8 xs ns root most hr (by have:=h.2.1;omega) hm
end Go.Proofs.YtpmniabdmbmafaaGreatDoor

namespace Go.Proofs.YtpmniabdmbmafaaGreatDoor
open Go.Ab Tryz
theorem Fa(lk:Int):∀(P:List TN) (S:List TN×Nat),(P.foldl (gD lk) S).1.length=S.1.length+2*P.length
 |[],S=>by simp
 |x::P,S=>by
   rw[List.foldl_cons,Fa lk P,List.length_cons];simp[gD];omega
theorem RT(s:EA)(ev:Int)(h:s.vars.length<=2000):(ec s ev).length<=2007:=by
 rw[<-JO];have:=(JP s ev).2.2.2.2.2.2.2;omega
theorem RU{R:List EA}(h:∀s∈R,s.vars.length<=2000):∀i,i<=R.length->(gW R i).length<=R.length+i*4015
 |0,_=>by simp[gW]
 |i+1,hi=>by
   have h1:=RU h i (by omega)
   have h2:R.getD i default∈R:=by
    rw[ahX,aib (by omega)];exact ah2 _
   have h3:=RT (R.getD i default) (cz (R.getD i default).plus) (h _ h2);show(j6 _ _ _).length<=_;unfold j6 nq;rw[ai1,Fa,ah7,List.length_singleton];omega
theorem RW(R:List EA):∀i,R.length<=(gW R i).length
 |0=>by simp[gW]
 |i+1=>by
   have h1:=RW R i;show _<=(j6 _ _ _).length;unfold j6 nq;rw[ai1,Fa,ah7,List.length_singleton];omega
theorem afJ{L:List TN}{n:Nat}(h:n=L.length):List.take n (L.map dQ)=L.map dQ:=aic (by simp;omega)
theorem afK(lk:Int){P:List TN}{S:List TN×Nat}{k:Nat}(h:k<P.length):(P.take (k+1)).foldl (gD lk) S=gD lk ((P.take k).foldl (gD lk) S) P[k]:=by
 rw[ah5 h,ajL];rfl
def fI(p:Bool)(L P:List TN)(k:Nat):List TN×Nat:=(P.take k).foldl (gD (cA p)) (L++[⟨cx p,0,0,[]⟩],L.length)
theorem Fb{p:Bool}{L P:List TN}{k:Nat}(h:k<P.length):fI p L P (k+1)=gD (cA p) (fI p L P k) P[k]:=afK _ h
theorem BR(p:Bool)(L P:List TN)(k:Nat)(h:k<=P.length):(fI p L P k).1.length=L.length+1+2*k:=by
 unfold fI;rw[Fa,ah7,List.length_singleton,air];omega
theorem Fc(p:Bool)(L P:List TN)(k:Nat)(h:k<=P.length):(fI p L P k).2=L.length+2*k:=by
 cases k with
 |zero=>rfl
 |succ k =>
   rw[Fb h];have:=BR p L P k (by omega);simp only[gD];omega
theorem RY{P:List TN}{k:Nat}(h:k<P.length):(P.map dQ).getD k .aY=.agg [i64 P[k].k,i64 P[k].a,i64 P[k].b,lR P[k]]:=by simp[h,dQ]
theorem JR(p:Bool)(a b:Int):dQ ⟨cA p,a,b,[]⟩=.agg [i64 (cA p),i64 a,i64 b,.ai]:=by cases p<;>rfl
theorem RZ(n:TN):lR n=.ai∨lR n=.sl (some 2) (n.l.map bf):=by
 unfold lR;split
 .exact .inr rfl
 .exact .inl rfl
theorem R0{p:Bool}{L P:List TN}{k:Nat}{F:D}(h:k<P.length)(hF:lR P[k]=F):(fI p L P k).1.map dQ++[.agg [i64 P[k].k,i64 P[k].a,i64 P[k].b,F],.agg [i64 (cA p),i64 ((fI p L P k).2:Nat),i64 ((fI p L P k).1.length:Nat),.ai]]=(fI p L P (k+1)).1.map dQ:=by
 rw[Fb h];simp only[gD,ail,aid,aiO,JR];rw[dQ,hF]
theorem afL{G}(R:List EA)(st:Int)(hR:R.length<=2000)(hs:∀s∈R,s.vars.length<=2000∧s.fl.length<=1000000∧s.tl.length<=1000000):HP prog G 10 [rI R st] (fun r=>r=.d (.agg [.sl (some 4) ((df R).map dQ),i64 st])):=by
 unfold rI;refine gy func10 rfl (by decide +kernel) (by simp[ntmps10]) (aT fun E=>?_);simp only[go_sem];refine eP E [1] (.agg [.sl (some 13) (R.map gE),i64 st]) rfl rfl ?_;simp only[go_sem];refine om E [3] 0 99 (some 4) [.d .ai,.d (i64 st)] rfl rfl (by rw[ay];decide) ?_;simp only[go_sem]
 refine bK E (X:={ i:Nat // i<=R.length }) (fun x=>[(1,.d (.ptr (.agg [.sl (some 13) (R.map gE),i64 st]))),(2,.bx [2] 0),(3,.bx [3] 0),(4,.d (i64 x.1))])
  (fun x=>[([2],.box [.d .ai,.d (i64 0)]),([3],.box [.vw [99] 0 x.1,.d (i64 st)]),([99],.arr (some 4) ((List.replicate x.1 (⟨0,0,0,[]⟩:TN)).map dQ))]) [99,3,2] (fun x=>R.length-x.1) ⟨0,aie _⟩ id ?_ ?_
 .simp only[go_sem]
  all_goals (and_intros<;>first|rfl|trivial)
 rintro⟨i,hi⟩ E0;refine bW E0 fun Q' hQ E'=>?_;simp only at hi ⊢;simp only[go_sem];refine aH E' ?_ ?_<;>intro h1<;>simp only[go_sem]
 .refine⟨by omega,?_⟩;rw[hQ];refine⟨⟨i+1,by omega⟩,by show R.length-(i+1)<R.length-i;omega,ar [([99],[27])],?_⟩;rw[aD ⟨by omega,by omega⟩,afJ (by simp),List.replicate_succ',ail];simp only[go_sem];exact⟨rfl,rfl⟩
 have h5:i=R.length:=by omega
 subst h5;rw[hQ];simp only[go_sem]
 refine bK E (X:={ i:Nat // i<=R.length }) (fun x=>[(1,.d (.ptr (.agg [.sl (some 13) (R.map gE),i64 st]))),(2,.bx [2] 0),(3,.bx [3] 0),(5,.d (i64 x.1))])
  (fun x=>[([2],.box [.d .ai,.d (i64 0)]),([3],.box [.vw [99] 0 (gW R x.1).length,.d (i64 st)]),([99],.arr (some 4) ((gW R x.1).map dQ))]) [99,3,2] (fun x=>R.length-x.1) ⟨0,aie _⟩ id ?_ ?_
 .simp only[go_sem];simp[gW]
 rintro⟨i,hi⟩ E0;refine bW E0 fun Q' hQ E'=>?_;simp only at hi ⊢;simp only[go_sem];refine aH E' ?_ ?_<;>intro h1<;>simp only[go_sem]
 .have cw:i<R.length:=by omega
  have sZ:=hs _ (ah2 cw);have cy:R.getD i default=R[i]:=by simp[cw]
  refine⟨by omega,?_⟩;rw[Po cw];generalize hS:R[i]=s at *
  simp only[sY];simp only[go_sem];have hUl:=RU (fun s bc=>(hs s bc).1) i hi;have hUg:=RW R i;have hSl:=RT s (cz s.plus) sZ.1;have bU:gW R (i+1)=j6 (gW R i) i s:=by rw[gW,cy]
  have cP:=afF (G:=G) s (cz s.plus) sZ.1 sZ.2.1 sZ.2.2 (by cases s.plus<;>rfl);simp only[sY]at cP;rw[j6]at bU;generalize gW R i=L at hUl hUg bU ⊢;generalize hPl:s.plus=p at *
  refine cK E' ?_ ?_<;>intro g<;>simp only[go_sem]
  .subst g;refine⟨by omega,?_⟩;refine bj E' cP rfl rfl (by simp) ?_;rintro _ rfl;simp only[go_sem];rw[aD ⟨by omega,by omega⟩,show((L.length+1:Nat):Int)-1=((L.length:Nat):Int) by omega];generalize ec s (cz true)=P at *
   refine bK E' (X:={ k:Nat // k<=P.length }) (fun x=>[(1,.d (.ptr (.agg [.sl (some 13) (R.map gE),i64 st]))),(2,.bx [2] 0),(3,.bx [3] 0),(5,.d (i64 i)),(7,.d (i64 (cA true))),(10,.d (i64 ((fI true L P x.1).2:Nat))),(11,.d (.sl (some 4) (P.map dQ))),(12,.d (i64 x.1))])
    (fun x=>[([2],.box [.d .ai,.d (i64 0)]),([3],.box [.vw [99] 0 (fI true L P x.1).1.length,.d (i64 st)]),([99],.arr (some 4) ((fI true L P x.1).1.map dQ))]) [99,3,2] (fun x=>P.length-x.1) ⟨0,aie _⟩ (ar [([99],[48])]) ?_ ?_
   .simp only[go_sem];simp[fI,dQ,lR,cA,cx,gU]
   rintro⟨k,hk⟩ E1;refine bW E1 fun Q2 dv E2=>?_;simp only at hk ⊢;have ju:=BR true L P k hk;have kY:=Fc true L P k hk;simp only[go_sem];refine aH E2 ?_ ?_<;>intro h2<;>simp only[go_sem]
   .have az:k<P.length:=by omega
    have hnk:=Fb (p:=true) (L:=L) az;refine bF mixed E2 fun X=>?_;simp only[go_sem];refine⟨by omega,?_⟩;rw[RY az];have afM:=BR true L P (k+1) (by omega);have afN:=Fc true L P (k+1) (by omega);rcases RZ P[k]with hF|hF
    all_goals
     have nU:=R0 (p:=true) (L:=L) az hF;rw[hF];simp only[go_sem];refine⟨by omega,?_⟩;(try refine⟨by decide +kernel,?_⟩);rw[dv];simp only[go_sem];refine⟨⟨k+1,by omega⟩,by show P.length-(k+1)<P.length-k;omega,ar [([99],[76])],?_⟩;rw[<-nU];simp only[go_sem];have e1:(((fI true L P k).1.length+2:Nat):Int)-1=((fI true L P (k+1)).2:Nat):=by omega
     have e2:(fI true L P k).1.length+2=(fI true L P (k+1)).1.length:=by omega
     rw[aD ⟨by omega,by omega⟩,aD ⟨by omega,by omega⟩,e1,e2];exact⟨⟨rfl,rfl⟩,rfl⟩
   have h5:k=P.length:=by omega
   subst h5;rw[dv];simp only[go_sem];refine⟨by omega,?_⟩;rw[hQ];refine⟨⟨i+1,by omega⟩,by show R.length-(i+1)<R.length-i;omega,id,?_⟩;rw[bU,aD ⟨by omega,by omega⟩];simp only[go_sem];rw[show nq true L P=fI true L P P.length from by rw[fI,aij];rfl,ajv,JR,ai1];exact⟨rfl,rfl,rfl⟩
  .subst g;refine⟨by omega,?_⟩;refine bj E' cP rfl rfl (by simp) ?_;rintro _ rfl;simp only[go_sem];rw[aD ⟨by omega,by omega⟩,show((L.length+1:Nat):Int)-1=((L.length:Nat):Int) by omega];generalize ec s (cz false)=P at *
   refine bK E' (X:={ k:Nat // k<=P.length }) (fun x=>[(1,.d (.ptr (.agg [.sl (some 13) (R.map gE),i64 st]))),(2,.bx [2] 0),(3,.bx [3] 0),(5,.d (i64 i)),(7,.d (i64 (cA false))),(10,.d (i64 ((fI false L P x.1).2:Nat))),(11,.d (.sl (some 4) (P.map dQ))),(12,.d (i64 x.1))])
    (fun x=>[([2],.box [.d .ai,.d (i64 0)]),([3],.box [.vw [99] 0 (fI false L P x.1).1.length,.d (i64 st)]),([99],.arr (some 4) ((fI false L P x.1).1.map dQ))]) [99,3,2] (fun x=>P.length-x.1) ⟨0,aie _⟩ (ar [([99],[48])]) ?_ ?_
   .simp only[go_sem];simp[fI,dQ,lR,cA,cx,gU]
   rintro⟨k,hk⟩ E1;refine bW E1 fun Q2 dv E2=>?_;simp only at hk ⊢;have ju:=BR false L P k hk;have kY:=Fc false L P k hk;simp only[go_sem];refine aH E2 ?_ ?_<;>intro h2<;>simp only[go_sem]
   .have az:k<P.length:=by omega
    have hnk:=Fb (p:=false) (L:=L) az;refine bF mixed E2 fun X=>?_;simp only[go_sem];refine⟨by omega,?_⟩;rw[RY az];have afM:=BR false L P (k+1) (by omega);have afN:=Fc false L P (k+1) (by omega);rcases RZ P[k]with hF|hF
    all_goals
     have nU:=R0 (p:=false) (L:=L) az hF;rw[hF];simp only[go_sem];refine⟨by omega,?_⟩;(try refine⟨by decide +kernel,?_⟩);rw[dv];simp only[go_sem];refine⟨⟨k+1,by omega⟩,by show P.length-(k+1)<P.length-k;omega,ar [([99],[76])],?_⟩;rw[<-nU];simp only[go_sem];have e1:(((fI false L P k).1.length+2:Nat):Int)-1=((fI false L P (k+1)).2:Nat):=by omega
     have e2:(fI false L P k).1.length+2=(fI false L P (k+1)).1.length:=by omega
     rw[aD ⟨by omega,by omega⟩,aD ⟨by omega,by omega⟩,e1,e2];exact⟨⟨rfl,rfl⟩,rfl⟩
   have h5:k=P.length:=by omega
   subst h5;rw[dv];simp only[go_sem];refine⟨by omega,?_⟩;rw[hQ];refine⟨⟨i+1,by omega⟩,by show R.length-(i+1)<R.length-i;omega,id,?_⟩;rw[bU,aD ⟨by omega,by omega⟩];simp only[go_sem];rw[show nq false L P=fI false L P P.length from by rw[fI,aij];rfl,ajv,JR,ai1];exact⟨rfl,rfl,rfl⟩
 have h5:i=R.length:=by omega
 subst h5;rw[hQ];simp only[go_sem];refine⟨[([99],some 4,(gW R R.length).map dQ)],?_⟩;simp only[go_sem];rfl
theorem afO(n:TN)(h:gU n.k=true∨n.l=[]):Dh (dQ n) n:=by
 unfold dQ lR;split
 .exact⟨_,rfl,.inr rfl⟩
 .rename_i hw;exact⟨_,rfl,.inl ⟨rfl,h.resolve_left hw⟩⟩
theorem R1:∀{l:List TN},(∀n∈l,gU n.k=true∨n.l=[])->o5 (l.map dQ) l
 |[],_=>trivial
 |n::r,h=>⟨afO n (h n ah0),R1 fun m hm=>h m (ah8 _ hm)⟩
theorem afP{G}(R:List EA)(st:Int)(hR:R.length<=2000)(hs:∀s∈R,s.vars.length<=2000∧s.fl.length<=1000000∧s.tl.length<=1000000)(hw:∀n∈df R,gU n.k=true∨n.l=[]):HP prog G 10 [rI R st] (fun r=>r=.d (bp (df R) st)) :=
 uN (bA.mono (afL (G:=G) R st hR hs) fun r _ hr=>⟨⟨_,hr.1,RJ (R1 hw)⟩,hr.2⟩)
end Go.Proofs.YtpmniabdmbmafaaGreatDoor

namespace Go.Proofs.YtpmniabdmbmafaaGreatDoor
open Go.Ab
def eu(x:Int):List Int->Nat
 |[]=>0
 |y::r=>if y<x then eu x r+1 else 0
theorem R2(x:Int):∀l:List Int,eu x l<=l.length
 |[]=>ain _
 |y::r=>by
   rw[eu];split
   .exact Nat.succ_le_succ (R2 x r)
   .exact aie _
theorem Fe{x:Int}:∀{l:List Int} {i:Nat} (h:i<l.length),i<eu x l->l[i]<x
 |[],i,h,_=>absurd h (aiW _)
 |y::r,i,h,hi=>by
   rw[eu]at hi;split at hi
   .rename_i hy
    cases i with
    |zero=>exact hy
    |succ i=>exact Fe (l:=r) (by simpa using h) (by omega)
   .exact absurd hi (aiW _)
theorem Ff{x:Int}:∀{l:List Int} (h:eu x l<l.length),x<=l[eu x l]
 |[],h=>absurd h (aiW _)
 |y::r,h=>by
   by_cases hy:y<x
   .have e:eu x (y::r)=eu x r+1:=by rw[eu,if_pos hy]
    have h':eu x r<r.length:=by rw[e]at h;simpa using h
    have:=Ff h';simp only[e,List.getElem_cons_succ];exact this
   .have e:eu x (y::r)=0:=by rw[eu,if_neg hy]
    simp only[e,List.getElem_cons_zero];omega
def jm(l:List Int)(x:Int):List Int:=if x∈l then l else l.take (eu x l)++x::l.drop (eu x l)
theorem afQ(l:List Int)(x z:Int):z∈jm l x↔z∈l∨z=x:=by
 unfold jm;split
 .rename_i h;exact⟨.inl,fun g=>g.elim id fun e=>e▸h⟩
 .rw[ah1,ah6];have:=ajJ (eu x l) l;have hm:z∈l↔z∈l.take (eu x l)∨z∈l.drop (eu x l):=by rw[<-ah1,this]
  rw[hm];constructor
  .rintro(h|rfl|h)
   .exact .inl (.inl h)
   .exact .inr rfl
   .exact .inl (.inr h)
  .rintro((h|h)|rfl)
   .exact .inl h
   .exact .inr (.inr h)
   .exact .inr (.inl rfl)
theorem afR{l:List Int}(h:eQ l)(x:Int):eQ (jm l x):=by
 unfold jm;split
 .exact h
 .rename_i hx
  have h1:∀z∈l.take (eu x l),z<x:=fun z hz=>by
   obtain⟨i,hi,rfl⟩:=aiB hz;rw[air]at hi;rw[aj4];exact Fe (by omega) (by omega)
  have h2:∀z∈l.drop (eu x l),x<z:=fun z hz=>by
   obtain⟨i,hi,rfl⟩:=aiB hz;rw[akO]at hi;have h3:=Ff (x:=x) (l:=l) (by omega);have aJ:l[eu x l]'(by omega)≠x:=fun e=>hx (e▸ah2 _);rw[List.getElem_drop]
   cases i with
   |zero=>simp only[Nat.add_zero];omega
   |succ i =>
     have:=ajl.1 h (eu x l) (eu x l+(i+1)) (by omega) (by omega) (by omega);omega
  rw[eQ,aky];refine⟨h.sublist (List.take_sublist _ _),ajs.2 ⟨h2,h.sublist (List.drop_sublist _ _)⟩,fun a ha b hb=>?_⟩;have:=h1 a ha;rcases ah6.1 hb with rfl|hb
  .exact this
  .have:=h2 b hb;omega
theorem R3(l:List Int):l.foldl jm []=bw l:=by
 have key:∀(r a:List Int),eQ a->eQ (r.foldl jm a)∧∀z,z∈r.foldl jm a↔z∈a∨z∈r:=by
  intro r
  induction r with
  |nil=>intro a ha;exact⟨ha,by simp⟩
  |cons x r ih =>
    intro a ha;obtain⟨i1,i2⟩:=ih (jm a x) (afR ha x);refine⟨i1,fun z=>?_⟩;rw[List.foldl_cons,i2,afQ,ah6];constructor
    .rintro((h|h)|h)
     .exact .inl h
     .exact .inr (.inl h)
     .exact .inr (.inr h)
    .rintro(h|h|h)
     .exact .inl (.inl h)
     .exact .inl (.inr h)
     .exact .inr h
 obtain⟨k1,k2⟩:=key l [] .nil;exact(Bd k1 fun x=>by rw[k2];simp).symm
end Go.Proofs.YtpmniabdmbmafaaGreatDoor

namespace Go.Proofs.YtpmniabdmbmafaaGreatDoor
open Go.Ab Tryz
theorem R4{l:List Int}(h:eQ l){x:Int}(hn:∀hi:eu x l<l.length,l[eu x l]≠x):x∉l:=fun hm=>by
 obtain⟨k,hk,hkx⟩:=aiB hm;have h1:¬k<eu x l:=fun g=>by have:=Fe hk g;omega
 have hp:eu x l<l.length:=by omega
 have h2:=Ff hp;have h3:=hn hp;rcases aiG (eu x l) k with g|g
 .have:=ajl.1 h (eu x l) k hp hk g;omega
 .have e:k=eu x l:=by omega
  subst e;exact h3 hkx
theorem vv{G}(l:List Int)(hl:l.length<=1000000000):HP prog G 47 [aL l] (fun r=>r=.d (aL (bw l))):=by
 refine uN ?_;unfold aL;refine gy func47 rfl (by decide +kernel) (by simp[ntmps47]) (aT fun E=>?_);simp only[go_sem]
 refine bK E (X:={ x:Nat×List Int // x.1<=l.length∧x.2=(l.take x.1).foldl jm []∧x.2.length<=x.1 }) (fun x=>[(0,.d (.sl none (l.map i64))),(3,.vw [98] 0 x.1.2.length),(4,.d (i64 x.1.1))])
  (fun x=>[([98],.arr none (x.1.2.map i64))]) [98] (fun x=>l.length-x.1.1) ⟨(0,[]),aie _,rfl,ain _⟩ (ar [([98],[6])]) ?_ ?_
 .simp only[go_sem]
  all_goals first|rfl|(and_intros<;>first|rfl|trivial)
 rintro⟨⟨j,out⟩,hj,ho,vb⟩ E0;refine bW E0 fun Q' hQ E'=>?_;simp only at hj ho vb ⊢;simp only[go_sem];refine aH E' ?_ ?_<;>intro h1<;>simp only[go_sem]
 .have bG:j<l.length:=by omega
  have dt:(l.map i64).getD j .aY=i64 l[j]:=dF bG;generalize hx:l[j]=x at dt;have nS:=R2 x out;have R5:eQ out:=by rw[ho,R3];exact yE _
  have bU:(l.take (j+1)).foldl jm []=jm out x:=by rw[ah5 bG,ajL,<-ho,hx];rfl
  refine bK E' (X:={ i:Nat // i<=eu x out }) (fun y=>[(0,.d (.sl none (l.map i64))),(3,.vw [98] 0 out.length),(4,.d (i64 j)),(5,.d (i64 y.1))])
   (fun _=>[([98],.arr none (out.map i64))]) [98] (fun y=>out.length-y.1) ⟨0,aie _⟩ id ?_ ?_
  .simp only[go_sem]
   all_goals first|rfl|(and_intros<;>first|rfl|trivial)
  rintro⟨i,hi⟩ E1;refine bW E1 fun Q2 dv E2=>?_;simp only at hi ⊢;simp only[go_sem];refine bF mixed E2 fun X=>?_;simp only[go_sem];refine C8 X ?_ ?_<;>intro h2<;>simp only[go_sem]
  .have ic:i<out.length:=by omega
   refine⟨by omega,?_⟩;rw[dF ic];simp only[go_sem];refine⟨by omega,?_⟩;rw[dt];simp only[go_sem];(try refine⟨by decide +kernel,?_⟩);refine aH E2 ?_ ?_<;>intro h3<;>simp only[go_sem]
   .have pR:i<eu x out:=by
     rcases aiG i (eu x out)with g|g
     .exact g
     .have e:i=eu x out:=by omega
      subst e;have:=Ff ic;omega
    rw[dv];simp only[go_sem];refine⟨⟨i+1,pR⟩,by show out.length-(i+1)<out.length-i;omega,id,?_⟩;simp only[go_sem];rw[aD ⟨by omega,by omega⟩]
    and_intros<;>first|rfl|trivial
   .have pR:i=eu x out:=by
     rcases aiG i (eu x out)with g|g
     .exact absurd (Fe ic g) h3
     .omega
    rw[dv];simp only[go_sem];refine bF mixed E' fun X=>?_;simp only[go_sem];refine C8 X (fun h4=>?_) (fun h4=>absurd (by omega) h4)<;>simp only[go_sem];refine⟨by omega,?_⟩;rw[dF ic];simp only[go_sem];refine⟨by omega,?_⟩;rw[dt];simp only[go_sem];(try refine⟨by decide +kernel,?_⟩);refine aH E' ?_ ?_<;>intro h5<;>simp only[go_sem]
    .rw[hQ];simp only[go_sem];refine⟨⟨(j+1,out),bG,by rw[bU,jm,if_pos (h5▸ah2 ic)],by show out.length<=j+1;omega⟩,by show l.length-(j+1)<l.length-j;omega,id,?_⟩;simp only[go_sem];rw[aD ⟨by omega,by omega⟩]
     and_intros<;>first|rfl|trivial
    .refine bF mixed E' fun X=>?_;simp only[go_sem];refine⟨⟨by omega,by omega⟩,by simp;omega,⟨by omega,by omega⟩,?_⟩;rw[dt];simp only[go_sem];refine⟨by simp;omega,⟨by omega,by omega,by omega⟩,by simp;omega,by decide +kernel,?_⟩;have bH:x∉out:=R4 R5 (fun hi=>by subst pR;exact h5);have de:jm out x=out.take i++x::out.drop i:=by rw[jm,if_neg bH,<-pR]
     have bR:(jm out x).length=out.length+1:=by rw[de];simp;omega
     rw[hQ];refine⟨⟨(j+1,jm out x),bG,bU.symm,by show(jm out x).length<=j+1;omega⟩,by show l.length-(j+1)<l.length-j;omega,ar [([98],[59])],?_⟩;simp only[go_sem];rw[aD ⟨by omega,by omega⟩,bR,de];have e1:(List.take (i-0) (out.map i64)).length=i:=by simp;omega
     have e2:(List.take (out.length-i) (List.drop i (out.map i64)))=(out.drop i).map i64:=by rw[aic (by simp),ajC]
     have e3:List.take (i-0) (out.map i64)=(out.take i).map i64:=by rw[Nat.sub_zero,ajN]
     rw[e1,e2,e3,aic (by simp;omega)]
     and_intros<;>first|rfl|trivial|(simp;omega)|simp
  .have ic:i=out.length:=by omega
   have pR:i=eu x out:=by omega
   (try refine⟨by decide +kernel,?_⟩);rw[dv];simp only[go_sem];refine bF mixed E' fun X=>?_;simp only[go_sem];refine C8 X (fun h4=>absurd h4 (by omega)) (fun h4=>?_);simp only[go_sem];(try refine⟨by decide +kernel,?_⟩);refine bF mixed E' fun X=>?_;simp only[go_sem];refine⟨⟨by omega,by omega⟩,by simp;omega,⟨by omega,by omega⟩,?_⟩;rw[dt];simp only[go_sem];refine⟨by simp;omega,⟨by omega,by omega,by omega⟩,by simp;omega,by decide +kernel,?_⟩;have bH:x∉out:=R4 R5 (fun hi=>absurd hi (by omega));have de:jm out x=out.take i++x::out.drop i:=by rw[jm,if_neg bH,<-pR]
   have bR:(jm out x).length=out.length+1:=by rw[de];simp;omega
   rw[hQ];refine⟨⟨(j+1,jm out x),bG,bU.symm,by show(jm out x).length<=j+1;omega⟩,by show l.length-(j+1)<l.length-j;omega,ar [([98],[59])],?_⟩;simp only[go_sem];rw[aD ⟨by omega,by omega⟩,bR,de];have e1:(List.take (i-0) (out.map i64)).length=i:=by simp;omega
   have e2:(List.take (out.length-i) (List.drop i (out.map i64)))=(out.drop i).map i64:=by rw[aic (by simp),ajC]
   have e3:List.take (i-0) (out.map i64)=(out.take i).map i64:=by rw[Nat.sub_zero,ajN]
   rw[e1,e2,e3,aic (by simp;omega)]
   and_intros<;>first|rfl|trivial|(simp;omega)|simp
 .have mF:j=l.length:=by omega
  subst mF;rw[aij,R3]at ho;subst ho;rw[hQ];simp only[go_sem];refine⟨[([98],none,(bw l).map i64)],?_⟩;simp only[go_sem];exact⟨_,rfl,.refl _⟩
end Go.Proofs.YtpmniabdmbmafaaGreatDoor

namespace Go.Proofs.YtpmniabdmbmafaaGreatDoor
open Go.Ab Tryz
theorem pS{l:List Int}{p:Int->Bool}{i:Nat}(h:i<l.length)(ha:(l.take i).any p=false)(hp:p l[i]=false):(l.take (i+1)).any p=false:=by
 rw[ah5 h,akv,ha];simp[hp]
theorem R6{l:List Int}{p:Int->Bool}{i:Nat}(h:i<l.length)(ha:(l.take i).any p=false)(hp:p l[i]=true):pJ p l=(i:Int):=by
 have h1:l.any p=true:=aiA.2 ⟨_,ah2 h,hp⟩
 have h2:l.findIdx p=i:=(List.findIdx_eq h).2 ⟨hp,fun j hj=>by
  have:=OP ha (l[j]) (by
   have:j<(l.take i).length:=by rw[air];omega
   have h3:=ah2 this
   rwa [aj4]at h3)
  exact this⟩
 rw[pJ,if_pos h1,h2]
theorem R9{l:List Int}{p:Int->Bool}(ha:l.any p=false):pJ p l = -1:=by
 rw[pJ,ha,if_neg (by simp)]
theorem Sb{G}(ns:List TN)(root:Int)(l:List Int)(k:Int)(hn:ns.length<=1000000)(hl:l.length<=1000000)(hk:∀x∈l,aC ns x) :
  HP prog G 124 [bp ns root,aL l,i64 k] (fun r=>r=.d (i64 (pJ (fun x=>decide (ag ns x=k)) l))):=by
 unfold aL bp;refine cJ func124 rfl (by decide +kernel) (by simp[ntmps124]) (aT fun E=>?_);simp only[go_sem];refine eP E [3] (.agg [.sl (some 4) (ns.map aw),i64 root]) rfl rfl ?_;simp only[go_sem]
 refine bK E (X:={ i:Nat // i<=l.length∧(l.take i).any (fun x=>decide (ag ns x=k))=false }) (fun x=>[(1,.d (.sl none (l.map i64))),(2,.d (i64 k)),(3,.d (.ptr (.agg [.sl (some 4) (ns.map aw),i64 root]))),(7,.d (i64 x.1))])
  (fun _=>[]) [] (fun x=>l.length-x.1) ⟨0,aie _,by simp⟩ id ?_ ?_
 .simp only[go_sem]
  all_goals first|rfl|(and_intros<;>first|rfl|trivial)
 rintro⟨i,hi,ha⟩ E0;refine bW E0 fun Q' hQ E'=>?_;simp only at hi ⊢;simp only[go_sem];refine aH E' ?_ ?_<;>intro h1<;>simp only[go_sem]
 .have ao:i<l.length:=by omega
  have hx:=hk _ (ah2 ao);have gB:=hx.1;have iO:=hx.2;have dt:(l.map i64).getD i .aY=i64 l[i]:=dF ao;have hnd:=fZ hx;refine bF mixed E' fun X=>?_;simp only[go_sem];refine⟨by omega,?_⟩;rw[dt];simp only[go_sem];refine⟨by omega,?_⟩;rw[hnd];simp only[go_sem];(try refine⟨by decide +kernel,?_⟩);refine aH E' ?_ ?_<;>intro h2<;>simp only[go_sem]
  .rw[hQ];simp only[go_sem];rw[R6 ao ha (decide_eq_true h2)]
  .rw[hQ];refine⟨⟨i+1,ao,pS ao ha (decide_eq_false h2)⟩,by show l.length-(i+1)<l.length-i;omega,id,?_⟩;simp only[go_sem];rw[aD ⟨by omega,by omega⟩]
   and_intros<;>first|rfl|trivial
 .have bJ:i=l.length:=by omega
  subst bJ;rw[aij]at ha;rw[hQ];simp only[go_sem];rw[R9 ha]
theorem Sc{G}(ns:List TN)(root:Int)(l:List Int)(hn:ns.length<=1000000)(hl:l.length<=1000000)(hk:∀x∈l,aC ns x) :
  HP prog G 125 [bp ns root,aL l,i64 9,i64 10] (fun r=>r=.d (i64 (pJ (aI ns) l))):=by
 unfold aL bp;refine cJ func125 rfl (by decide +kernel) (by simp[ntmps125]) (aT fun E=>?_);simp only[go_sem];refine eP E [4] (.agg [.sl (some 4) (ns.map aw),i64 root]) rfl rfl ?_;simp only[go_sem]
 refine bK E (X:={ i:Nat // i<=l.length∧(l.take i).any (aI ns)=false }) (fun x=>[(1,.d (.sl none (l.map i64))),(2,.d (i64 9)),(3,.d (i64 10)),(4,.d (.ptr (.agg [.sl (some 4) (ns.map aw),i64 root]))),(9,.d (i64 x.1))])
  (fun _=>[]) [] (fun x=>l.length-x.1) ⟨0,aie _,by simp⟩ id ?_ ?_
 .simp only[go_sem]
  all_goals first|rfl|(and_intros<;>first|rfl|trivial)
 rintro⟨i,hi,ha⟩ E0;refine bW E0 fun Q' hQ E'=>?_;simp only at hi ⊢;simp only[go_sem];refine aH E' ?_ ?_<;>intro h1<;>simp only[go_sem]
 .have ao:i<l.length:=by omega
  have hx:=hk _ (ah2 ao);have gB:=hx.1;have iO:=hx.2;have dt:(l.map i64).getD i .aY=i64 l[i]:=dF ao;have hnd:=fZ hx;refine bF mixed E' fun X=>?_;simp only[go_sem];refine⟨by omega,?_⟩;rw[dt];simp only[go_sem];refine⟨by omega,?_⟩;rw[hnd];simp only[go_sem];(try refine⟨by decide +kernel,?_⟩)
  repeat (first
   |(apply gC E';(· simp only[go_sem]);(· intro h;(try simp only[bq]at h);simp only[↓h,go_sem];rfl);simp only[go_sem])
   |(apply iu E';(· decide);simp only[go_sem]))
  refine cK E' ?_ ?_<;>intro h2<;>simp only[go_sem]
  .have h3:aI ns l[i]=true:=by simpa[aI,eA,ag]using h2
   rw[hQ];simp only[go_sem];rw[R6 ao ha h3]
  .have h3:aI ns l[i]=false:=by simpa[aI,eA,ag]using h2
   rw[hQ];refine⟨⟨i+1,ao,pS ao ha h3⟩,by show l.length-(i+1)<l.length-i;omega,id,?_⟩;simp only[go_sem];rw[aD ⟨by omega,by omega⟩]
   and_intros<;>first|rfl|trivial
 .have bJ:i=l.length:=by omega
  subst bJ;rw[aij]at ha;rw[hQ];simp only[go_sem];rw[R9 ha]
theorem Sd{G}(ns:List TN)(root:Int)(l:List Int)(k:Int)(hn:ns.length<=1000000)(hl:l.length<=1000000)(hk:∀x∈l,aC ns x) :
  HP prog G 128 [bp ns root,aL l,i64 k] (fun r=>r=.d (aL (aG ns k l))):=by
 unfold aL bp aG;refine gy func128 rfl (by decide +kernel) (by simp[ntmps128]) (aT fun E=>?_);simp only[go_sem];refine eP E [3] (.agg [.sl (some 4) (ns.map aw),i64 root]) rfl rfl ?_;simp only[go_sem]
 refine bK E (X:={ i:Nat // i<=l.length }) (fun x=>[(1,.d (.sl none (l.map i64))),(2,.d (i64 k)),(3,.d (.ptr (.agg [.sl (some 4) (ns.map aw),i64 root]))),(7,.vw [98] 0 ((l.take x.1).filter fun x=>decide (ag ns x=k)).length),(8,.d (i64 x.1))])
  (fun x=>[([98],.arr none (((l.take x.1).filter fun x=>decide (ag ns x=k)).map i64))]) [98] (fun x=>l.length-x.1) ⟨0,aie _⟩ (ar [([98],[9])]) ?_ ?_
 .simp only[go_sem]
  all_goals first|rfl|(and_intros<;>first|rfl|trivial)
 rintro⟨i,hi⟩ E0;refine bW E0 fun Q' hQ E'=>?_;simp only at hi ⊢;simp only[go_sem];refine aH E' ?_ ?_<;>intro h1<;>simp only[go_sem]
 .have ao:i<l.length:=by omega
  have hx:=hk _ (ah2 ao);have gB:=hx.1;have iO:=hx.2;have dt:(l.map i64).getD i .aY=i64 l[i]:=dF ao;have hnd:=fZ hx;have hfn:=wN (p:=(fun x=>decide (ag ns x=k))) ao;have cT:((l.take i).filter (fun x=>decide (ag ns x=k))).length<=1000000:=aix (aiF _ _) (by rw[air];omega);generalize (l.take i).filter (fun x=>decide (ag ns x=k))=A at hfn cT ⊢;refine bF mixed E' fun X=>?_;simp only[go_sem];refine⟨by omega,?_⟩;rw[dt];simp only[go_sem];refine⟨by omega,?_⟩;rw[hnd];simp only[go_sem];(try refine⟨by decide +kernel,?_⟩);refine aH E' ?_ ?_<;>intro h2<;>simp only[go_sem]
  .rw[if_pos (show decide (ag ns l[i]=k)=true from decide_eq_true h2)]at hfn;refine⟨by omega,?_⟩;rw[dt];simp only[go_sem];refine⟨by omega,?_⟩;rw[hQ];refine⟨⟨i+1,ao⟩,by show l.length-(i+1)<l.length-i;omega,ar [([98],[33])],?_⟩;simp only[go_sem];rw[hfn,ail,ah7];rw[aD ⟨by omega,by omega⟩]
   and_intros<;>first|rfl|trivial
  .rw[if_neg (by rw[show decide (ag ns l[i]=k)=false from decide_eq_false h2];simp),aiR]at hfn;rw[hQ];refine⟨⟨i+1,ao⟩,by show l.length-(i+1)<l.length-i;omega,id,?_⟩;simp only[go_sem];rw[hfn];rw[aD ⟨by omega,by omega⟩]
   and_intros<;>first|rfl|trivial
 .have bJ:i=l.length:=by omega
  subst bJ;rw[aij];rw[hQ];simp only[go_sem];refine⟨[([98],none,(l.filter fun x=>decide (ag ns x=k)).map i64)],?_⟩;simp only[go_sem]
theorem Se{G}(ns:List TN)(root:Int)(l:List Int)(k:Int)(hn:ns.length<=1000000)(hl:l.length<=1000000)(hk:∀x∈l,aC ns x) :
  HP prog G 82 [bp ns root,aL l,i64 k] (fun r=>r=.d (aL (bM ns k l))):=by
 unfold aL bp bM;refine gy func82 rfl (by decide +kernel) (by simp[ntmps82]) (aT fun E=>?_);simp only[go_sem];refine eP E [3] (.agg [.sl (some 4) (ns.map aw),i64 root]) rfl rfl ?_;simp only[go_sem]
 refine bK E (X:={ i:Nat // i<=l.length }) (fun x=>[(1,.d (.sl none (l.map i64))),(2,.d (i64 k)),(3,.d (.ptr (.agg [.sl (some 4) (ns.map aw),i64 root]))),(7,.vw [98] 0 ((l.take x.1).filter fun x=>!decide (ag ns x=k)).length),(8,.d (i64 x.1))])
  (fun x=>[([98],.arr none (((l.take x.1).filter fun x=>!decide (ag ns x=k)).map i64))]) [98] (fun x=>l.length-x.1) ⟨0,aie _⟩ (ar [([98],[9])]) ?_ ?_
 .simp only[go_sem]
  all_goals first|rfl|(and_intros<;>first|rfl|trivial)
 rintro⟨i,hi⟩ E0;refine bW E0 fun Q' hQ E'=>?_;simp only at hi ⊢;simp only[go_sem];refine aH E' ?_ ?_<;>intro h1<;>simp only[go_sem]
 .have ao:i<l.length:=by omega
  have hx:=hk _ (ah2 ao);have gB:=hx.1;have iO:=hx.2;have dt:(l.map i64).getD i .aY=i64 l[i]:=dF ao;have hnd:=fZ hx;have hfn:=wN (p:=(fun x=>!decide (ag ns x=k))) ao;have cT:((l.take i).filter (fun x=>!decide (ag ns x=k))).length<=1000000:=aix (aiF _ _) (by rw[air];omega);generalize (l.take i).filter (fun x=>!decide (ag ns x=k))=A at hfn cT ⊢;refine bF mixed E' fun X=>?_;simp only[go_sem];refine⟨by omega,?_⟩;rw[dt];simp only[go_sem];refine⟨by omega,?_⟩;rw[hnd];simp only[go_sem];(try refine⟨by decide +kernel,?_⟩);refine aH E' ?_ ?_<;>intro h2<;>simp only[go_sem]
  .rw[if_pos (by rw[show decide (ag ns l[i]=k)=false from decide_eq_false (by simpa[ag]using h2)];rfl)]at hfn;refine⟨by omega,?_⟩;rw[dt];simp only[go_sem];refine⟨by omega,?_⟩;rw[hQ];refine⟨⟨i+1,ao⟩,by show l.length-(i+1)<l.length-i;omega,ar [([98],[33])],?_⟩;simp only[go_sem];rw[hfn,ail,ah7];rw[aD ⟨by omega,by omega⟩]
   and_intros<;>first|rfl|trivial
  .rw[if_neg (by rw[show decide (ag ns l[i]=k)=true from decide_eq_true (by simpa[ag]using h2)];simp),aiR]at hfn;rw[hQ];refine⟨⟨i+1,ao⟩,by show l.length-(i+1)<l.length-i;omega,id,?_⟩;simp only[go_sem];rw[hfn];rw[aD ⟨by omega,by omega⟩]
   and_intros<;>first|rfl|trivial
 .have bJ:i=l.length:=by omega
  subst bJ;rw[aij];rw[hQ];simp only[go_sem];refine⟨[([98],none,(l.filter fun x=>!decide (ag ns x=k)).map i64)],?_⟩;simp only[go_sem]
end Go.Proofs.YtpmniabdmbmafaaGreatDoor

namespace Go.Proofs.YtpmniabdmbmafaaGreatDoor
open Go.Ab Tryz
theorem afS{n:TN}{s:List UInt8}{i:Nat}(h:i<n.l.length)(ha:∀q∈n.l.take i,(q.1 == s)=false)(hp:(n.l[i].1 == s)=true):gF n s=n.l[i].2:=by
 unfold gF
 have e:n.l.find? (fun q=>q.1 == s)=some n.l[i]:=by
  conv=>lhs;rw[<-ajJ i n.l]
  rw[List.find?_append,aj2.2 (fun q hq=>by rw[ha q hq];simp),ajz h,List.find?_cons,hp];rfl
 rw[e]
theorem afT{n:TN}{s:List UInt8}(ha:∀q∈n.l,(q.1 == s)=false):gF n s = -1:=by
 unfold gF;rw[aj2.2 (fun q hq=>by rw[ha q hq];simp)]
theorem JS{fs:List cn}{j:Nat}(h:j<fs.length):(fs.map bf).getD j .aY=.agg [.str fs[j].1,i64 fs[j].2]:=by simp[h,bf]
theorem Sf{G}(n:TN)(s:List UInt8)(hl:n.l.length<=1000000):HP prog G 185 [.agg [i64 n.k,i64 n.a,i64 n.b,.sl (some 2) (n.l.map bf)],.str s] (fun r=>r=.d (i64 (gF n s))):=by
 refine cJ func185 rfl (by decide +kernel) (by simp[ntmps185]) (aT fun E=>?_);simp only[go_sem];refine eP E [2] (.agg [i64 n.k,i64 n.a,i64 n.b,.sl (some 2) (n.l.map bf)]) rfl rfl ?_;simp only[go_sem]
 refine bK E (X:={ i:Nat // i<=n.l.length∧∀q∈n.l.take i,(q.1 == s)=false }) (fun x=>[(1,.d (.str s)),(2,.d (.ptr (.agg [i64 n.k,i64 n.a,i64 n.b,.sl (some 2) (n.l.map bf)]))),(5,.d (i64 x.1))])
  (fun _=>[]) [] (fun x=>n.l.length-x.1) ⟨0,aie _,by simp⟩ id ?_ ?_
 .simp only[go_sem]
  all_goals first|rfl|(and_intros<;>first|rfl|trivial)
 rintro⟨i,hi,ha⟩ E0;refine bW E0 fun Q' hQ E'=>?_;simp only at hi ⊢;simp only[go_sem];refine aH E' ?_ ?_<;>intro h1<;>simp only[go_sem]
 .have ao:i<n.l.length:=by omega
  refine⟨by omega,?_⟩;rw[JS ao];simp only[go_sem];refine cK E' ?_ ?_<;>intro h2<;>simp only[go_sem]
  .refine⟨by omega,?_⟩;rw[JS ao];simp only[go_sem];rw[hQ];simp only[go_sem];rw[afS ao ha h2]
  .rw[hQ];refine⟨⟨i+1,ao,fun q hq=>?_⟩,by show n.l.length-(i+1)<n.l.length-i;omega,id,?_⟩
   .rw[ah5 ao,ah1,ahZ]at hq;obtain hq|rfl:=hq
    .exact ha q hq
    .exact h2
   .simp only[go_sem];rw[aD ⟨by omega,by omega⟩]
    and_intros<;>first|rfl|trivial
 .have bJ:i=n.l.length:=by omega
  subst bJ;rw[aij]at ha;rw[hQ];simp only[go_sem];rw[afT ha]
def tK(ns:List TN):Prop:=∀i,aC ns i->(nd ns i.toNat).l.length<=1000000
theorem afU{ns:List TN}{l:List Int}{s:List UInt8}{i:Nat}(h:i<l.length):mK ns (l.take (i+1)) s=mK ns (l.take i) s++(if gh ns s l[i]then[gF (nd ns l[i].toNat) s]else[]):=by
 unfold mK;rw[wN h,ail];cases gh ns s l[i]<;>rfl
theorem Sg(ns:List TN)(l:List Int)(s:List UInt8):(mK ns l s).length<=l.length:=by
 unfold mK;rw[aik];exact aiF _ _
theorem Sh{G}(ns:List TN)(root:Int)(l:List Int)(s:List UInt8)(hn:ns.length<=1000000)(hl:l.length<=1000000)(hk:∀x∈l,aC ns x)(hf:tK ns) :
  HP prog G 160 [bp ns root,aL l,.str s] (fun r=>r=.d (aL (dP ns l s))):=by
 have cS:=vv (G:=G) (mK ns l s) (by have:=Sg ns l s;omega);unfold aL at cS;unfold aL bp dP;refine cJ func160 rfl (by decide +kernel) (by simp[ntmps160]) (aT fun E=>?_);simp only[go_sem];refine eP E [3] (.agg [.sl (some 4) (ns.map aw),i64 root]) rfl rfl ?_;simp only[go_sem]
 refine bK E (X:={ i:Nat // i<=l.length }) (fun x=>[(1,.d (.sl none (l.map i64))),(2,.d (.str s)),(3,.d (.ptr (.agg [.sl (some 4) (ns.map aw),i64 root]))),(7,.vw [98] 0 (mK ns (l.take x.1) s).length),(8,.d (i64 x.1))])
  (fun x=>[([98],.arr none ((mK ns (l.take x.1) s).map i64))]) [98] (fun x=>l.length-x.1) ⟨0,aie _⟩ (ar [([98],[10])]) ?_ ?_
 .simp only[go_sem]
  all_goals first|rfl|(and_intros<;>first|rfl|trivial)
 rintro⟨i,hi⟩ E0;refine bW E0 fun Q' hQ E'=>?_;simp only at hi ⊢;simp only[go_sem];refine aH E' ?_ ?_<;>intro h1<;>simp only[go_sem]
 .have ao:i<l.length:=by omega
  have hx:=hk _ (ah2 ao);have gB:=hx.1;have iO:=hx.2;have dt:(l.map i64).getD i .aY=i64 l[i]:=dF ao;have hnd:=fZ hx;have hfn:=afU (ns:=ns) (s:=s) ao;have cT:=Sg ns (l.take i) s;rw[air]at cT;have cp:=Sf (G:=G) (nd ns l[i].toNat) s (hf _ hx);rw[gh]at hfn;generalize mK ns (l.take i) s=A at hfn cT ⊢;generalize gF (nd ns l[i].toNat) s=v at hfn cp;refine bF mixed E' fun X=>?_;simp only[go_sem];refine⟨by omega,?_⟩;rw[dt];simp only[go_sem];refine⟨by omega,?_⟩;rw[hnd];simp only[go_sem];refine fo X cp rfl rfl (by simp) ?_;simp only[go_sem];(try refine⟨by decide +kernel,?_⟩);refine aH E' ?_ ?_<;>intro h2<;>simp only[go_sem]
  .rw[if_pos (show decide (0<=v)=true from decide_eq_true h2)]at hfn;refine⟨by omega,?_⟩;rw[hQ];refine⟨⟨i+1,ao⟩,by show l.length-(i+1)<l.length-i;omega,ar [([98],[32])],?_⟩;simp only[go_sem];rw[hfn,ail,ah7];rw[aD ⟨by omega,by omega⟩]
   and_intros<;>first|rfl|trivial
  .rw[if_neg (by rw[decide_eq_false h2];simp),aiR]at hfn;rw[hQ];refine⟨⟨i+1,ao⟩,by show l.length-(i+1)<l.length-i;omega,id,?_⟩;simp only[go_sem];rw[hfn];rw[aD ⟨by omega,by omega⟩]
   and_intros<;>first|rfl|trivial
 .have bJ:i=l.length:=by omega
  subst bJ;rw[aij];rw[hQ];simp only[go_sem];refine jg E [98] none ((mK ns l s).map i64) rfl (by simp only[go_sem];rfl) ?_;refine bj E cS rfl rfl (by simp) ?_;rintro _ rfl;simp only[go_sem]
theorem afV{G}(ns:List TN)(root:Int)(l:List Int)(s:List UInt8)(hn:ns.length<=1000000)(hl:l.length<=1000000)(hk:∀x∈l,aC ns x)(hf:tK ns) :
  HP prog G 183 [bp ns root,aL l,.str s] (fun r=>r=.d (i64 ((l.filter (gh ns s)).length:Nat))):=by
 unfold aL bp;refine cJ func183 rfl (by decide +kernel) (by simp[ntmps183]) (aT fun E=>?_);simp only[go_sem];refine eP E [3] (.agg [.sl (some 4) (ns.map aw),i64 root]) rfl rfl ?_;simp only[go_sem]
 refine bK E (X:={ i:Nat // i<=l.length }) (fun x=>[(1,.d (.sl none (l.map i64))),(2,.d (.str s)),(3,.d (.ptr (.agg [.sl (some 4) (ns.map aw),i64 root]))),(7,.d (i64 (((l.take x.1).filter (gh ns s)).length:Nat))),(8,.d (i64 x.1))])
  (fun _=>[]) [] (fun x=>l.length-x.1) ⟨0,aie _⟩ id ?_ ?_
 .simp only[go_sem]
  all_goals first|rfl|(and_intros<;>first|rfl|trivial)
 rintro⟨i,hi⟩ E0;refine bW E0 fun Q' hQ E'=>?_;simp only at hi ⊢;simp only[go_sem];refine aH E' ?_ ?_<;>intro h1<;>simp only[go_sem]
 .have ao:i<l.length:=by omega
  have hx:=hk _ (ah2 ao);have gB:=hx.1;have iO:=hx.2;have dt:(l.map i64).getD i .aY=i64 l[i]:=dF ao;have hnd:=fZ hx;have hfn:=congrArg List.length (wN (p:=gh ns s) ao);have cT:((l.take i).filter (gh ns s)).length<=1000000:=aix (aiF _ _) (by rw[air];omega);have cp:=Sf (G:=G) (nd ns l[i].toNat) s (hf _ hx);rw[gh,ah7]at hfn;generalize ((l.take i).filter (gh ns s)).length=A at hfn cT ⊢;generalize gF (nd ns l[i].toNat) s=v at hfn cp;refine bF mixed E' fun X=>?_;simp only[go_sem];refine⟨by omega,?_⟩;rw[dt];simp only[go_sem];refine⟨by omega,?_⟩;rw[hnd];simp only[go_sem];refine fo X cp rfl rfl (by simp) ?_;simp only[go_sem];(try refine⟨by decide +kernel,?_⟩);refine aH E' ?_ ?_<;>intro h2<;>simp only[go_sem]
  .rw[if_pos (show decide (0<=v)=true from decide_eq_true h2),List.length_singleton]at hfn;rw[hQ];refine⟨⟨i+1,ao⟩,by show l.length-(i+1)<l.length-i;omega,id,?_⟩;simp only[go_sem];rw[hfn,aD (n:=(A:Int)+1) ⟨by omega,by omega⟩];rw[aD ⟨by omega,by omega⟩]
   and_intros<;>first|rfl|trivial
  .rw[if_neg (by rw[decide_eq_false h2];simp),List.length_nil,Nat.add_zero]at hfn;rw[hQ];refine⟨⟨i+1,ao⟩,by show l.length-(i+1)<l.length-i;omega,id,?_⟩;simp only[go_sem];rw[hfn];rw[aD ⟨by omega,by omega⟩]
   and_intros<;>first|rfl|trivial
 .have bJ:i=l.length:=by omega
  subst bJ;rw[aij];rw[hQ];simp only[go_sem]
end Go.Proofs.YtpmniabdmbmafaaGreatDoor

namespace Go.Proofs.YtpmniabdmbmafaaGreatDoor
open Go.Ab Tryz
theorem Si{G}(l:List Int)(i:Nat)(ins:List Int)(hi:i<l.length)(hl:l.length<=1000000)(hs:ins.length<=1000000):HP prog G 126 [aL l,i64 (i:Int),aL ins] (fun r=>r=.d (aL (fF l i ins))):=by
 have cS:=vv (G:=G) (l.take i++l.drop (i+1)++ins) (by simp;omega);unfold aL at *
 unfold fF;refine cJ func126 rfl (by decide +kernel) (by simp[ntmps126]) (aT fun E=>?_);simp only[go_sem];rw[show lY ((i:Int)+1)=((i+1:Nat):Int) by rw[aD ⟨by omega,by omega⟩];omega];have e1:List.take (i-0) (l.map i64)=(l.take i).map i64:=by rw[Nat.sub_zero,ajN]
 have e2:List.take (l.length-(((i+1:Nat):Int)).toNat) (List.drop (((i+1:Nat):Int)).toNat (l.map i64))=(l.drop (i+1)).map i64:=by
  rw[Int.toNat_natCast,<-ajC,aic (by simp)]
 rw[e1,e2,<-ah7,<-ail,aij,<-ail];have h1:(l.take i++l.drop (i+1)).length<=1000000:=by simp;omega
 have b1:(List.map i64 (l.take i)).length<=1000000:=by simp;omega
 have b2:(List.map i64 (l.take i++l.drop (i+1))).length<=1000000:=by rw[aik];exact h1
 refine⟨by omega,by omega,by omega,by omega,by omega,?_⟩;rw[show(List.map i64 (l.take i++l.drop (i+1))).length+ins.length=(l.take i++l.drop (i+1)++ins).length by rw[aik,ah7 (bs:=ins)]];refine jg E [21] none ((l.take i++l.drop (i+1)++ins).map i64) rfl (by simp only[go_sem];rfl) ?_;refine bj E cS rfl rfl (by simp) ?_;rintro _ rfl;simp only[go_sem]
theorem afW{ns:List TN}{l:List Int}{L:List cn}{i:Nat}(h:i<L.length):((L.take (i+1)).map (·.1)).foldl (kj ns l) []=kj ns l (((L.take i).map (·.1)).foldl (kj ns l) []) L[i].1:=by
 rw[ah5 h,ail,ajL];rfl
theorem afX(ns:List TN)(l:List Int)(out:List (List UInt8))(s:List UInt8):(kj ns l out s).length<=out.length+1:=by
 unfold kj;split
 .simp
 .omega
theorem JT(ns:List TN)(l:List Int):∀(L:List (List UInt8)) (out:List (List UInt8)),(L.foldl (kj ns l) out).length<=out.length+L.length
 |[],out=>by simp
 |s::L,out=>by
   have h1:=JT ns l L (kj ns l out s);have h2:=afX ns l out s;rw[List.foldl_cons,List.length_cons];omega
theorem afY{G}(ns:List TN)(root:Int)(l:List Int)(hn:ns.length<=1000000)(hl:l.length<=1000000)(hk:∀x∈l,aC ns x)(hf:tK ns)(hp:0<l.length) :
  HP prog G 159 [bp ns root,aL l] (fun r=>r=.d (.sl none ((er ns l).map D.str))):=by
 have cP:=fun s=>Sh (G:=G) ns root l s hn hl hk hf;have cC:=fun s=>afV (G:=G) ns root l s hn hl hk hf;have hx:=hk _ (ah2 hp);have gB:=hx.1;have iO:=hx.2;have dt:(l.map i64).getD 0 .aY=i64 l[0]:=dF hp;have hnd:=fZ hx;have Sj:=hf _ hx;have h0:l.getD 0 0=l[0]:=by simp[hp]
 unfold aL bp at *
 unfold er;rw[h0];generalize l[0]=x at hx gB iO dt hnd Sj ⊢;generalize hN:nd ns x.toNat=N at hnd Sj ⊢;refine gy func159 rfl (by decide +kernel) (by simp[ntmps159]) (aT fun E=>?_);simp only[go_sem];refine eP E [2] (.agg [.sl (some 4) (ns.map aw),i64 root]) rfl rfl ?_;simp only[go_sem]
 refine bK E (X:={ i:Nat // i<=N.l.length }) (fun y=>[(1,.d (.sl none (l.map i64))),(2,.d (.ptr (.agg [.sl (some 4) (ns.map aw),i64 root]))),(5,.vw [98] 0 (((N.l.take y.1).map (·.1)).foldl (kj ns l) []).length),(6,.d (i64 y.1))])
  (fun y=>[([98],.arr none ((((N.l.take y.1).map (·.1)).foldl (kj ns l) []).map D.str))]) [98] (fun y=>N.l.length-y.1) ⟨0,aie _⟩ (ar [([98],[8])]) ?_ ?_
 .simp only[go_sem]
  all_goals first|rfl|(and_intros<;>first|rfl|trivial)
 rintro⟨i,hi⟩ E0;refine bW E0 fun Q' hQ E'=>?_;simp only at hi ⊢;simp only[go_sem];refine bF mixed E' fun X=>?_;simp only[go_sem];refine⟨by omega,?_⟩;rw[dt];simp only[go_sem];refine⟨by omega,?_⟩;rw[hnd];simp only[go_sem];(try refine⟨by decide +kernel,?_⟩);refine aH E' ?_ ?_<;>intro h1<;>simp only[go_sem]
 .have ao:i<N.l.length:=by omega
  have ah:=afW (ns:=ns) (l:=l) ao;have vb:=JT ns l ((N.l.take i).map (·.1)) [];rw[List.length_nil,aik,air]at vb;generalize ((N.l.take i).map (·.1)).foldl (kj ns l) []=out at ah vb ⊢;refine bF mixed E' fun X=>?_;simp only[go_sem];refine⟨by omega,?_⟩;rw[dt];simp only[go_sem];refine⟨by omega,?_⟩;rw[hnd];simp only[go_sem];refine⟨by omega,?_⟩;rw[JS ao];simp only[go_sem];(try refine⟨by decide +kernel,?_⟩);have cI:=Zj (G:=G) N.l[i].1 out (by omega);unfold strs at cI;rw[kj]at ah;generalize N.l[i].1=s at ah cI ⊢;refine bj E' (cP s) rfl rfl (by simp) ?_;rintro _ rfl;simp only[go_sem];refine bS E' ?_ ?_<;>intro g2<;>simp only[go_sem]
  .rw[decide_eq_true (by omega:0<(dP ns l s).length),ajp]at ah;refine bj E' (cC s) rfl rfl (by simp) ?_;rintro _ rfl;simp only[go_sem];refine bS E' ?_ ?_<;>intro g3<;>simp only[go_sem]
   .rw[decide_eq_true (by omega:(l.filter (gh ns s)).length=l.length),ajp]at ah;refine ZZ E' [([98],none,out.map D.str)] cI (by rintro _ rfl;rfl) (by simp only[go_sem]) rfl (by simp only[go_sem]) (by simp) ?_;rintro _ rfl;simp only[go_sem];refine cK E' ?_ ?_<;>intro g4<;>simp only[go_sem]
    .rw[if_pos (by simpa using g4)]at ah;refine⟨by omega,?_⟩;rw[hQ];refine⟨⟨i+1,ao⟩,by show N.l.length-(i+1)<N.l.length-i;omega,ar [([98],[58])],?_⟩;simp only[go_sem];rw[ah,ail,ah7];rw[aD ⟨by omega,by omega⟩]
     and_intros<;>first|rfl|trivial
    .rw[if_neg (by simpa using g4)]at ah;rw[hQ];refine⟨⟨i+1,ao⟩,by show N.l.length-(i+1)<N.l.length-i;omega,id,?_⟩;simp only[go_sem];rw[ah];rw[aD ⟨by omega,by omega⟩]
     and_intros<;>first|rfl|trivial
   .rw[decide_eq_false (by omega:¬(l.filter (gh ns s)).length=l.length),aiP,if_neg (by simp)]at ah;rw[hQ];refine⟨⟨i+1,ao⟩,by show N.l.length-(i+1)<N.l.length-i;omega,id,?_⟩;simp only[go_sem];rw[ah];rw[aD ⟨by omega,by omega⟩]
    and_intros<;>first|rfl|trivial
  .rw[decide_eq_false (by omega:¬0<(dP ns l s).length),aiP,aiP,if_neg (by simp)]at ah;rw[hQ];refine⟨⟨i+1,ao⟩,by show N.l.length-(i+1)<N.l.length-i;omega,id,?_⟩;simp only[go_sem];rw[ah];rw[aD ⟨by omega,by omega⟩]
   and_intros<;>first|rfl|trivial
 .have bJ:i=N.l.length:=by omega
  subst bJ;rw[aij];rw[hQ];simp only[go_sem];refine⟨[([98],none,(((N.l).map (·.1)).foldl (kj ns l) []).map D.str)],?_⟩;simp only[go_sem]
end Go.Proofs.YtpmniabdmbmafaaGreatDoor

namespace Go.Proofs.YtpmniabdmbmafaaGreatDoor
open Go.Ab Tryz
theorem Fg{l:List Int}{i:Nat}{f:Int->Int}(h:i<l.length):((l.take (i+1)).map f)=(l.take i).map f++[f l[i]]:=by
 rw[ah5 h,ail];rfl
abbrev aN(ns:List TN)(x:Int):Int:=(nd ns x.toNat).a
theorem Fh{l:List Int}{i:Nat}(f:Int->Int):List.take i (((l.take i).map f).map i64)=((l.take i).map f).map i64:=aic (by rw[aik,aik,air];omega)
theorem Fi{l:List Int}(f:Int->Int):List.take l.length ((l.map f).map i64)=(l.map f).map i64:=aic (by simp)
abbrev bN(ns:List TN)(x:Int):Int:=(nd ns x.toNat).b
theorem afZ{G}(ns:List TN)(root:Int)(l r:List Int)(hn:ns.length<=1000000)(hl:l.length<=1000000)(hr:r.length<=1000000)(hk:∀x∈l,aC ns x)(ri:∀x∈r,aC ns x)(h0:0<r.length) :
  HP prog G 127 [bp ns root,i64 6,aL l,aL r] (fun v=>v=.aA [.d (.sl (some 2) [fc (bw (r.map (aN ns)),bw (l.map (aN ns))),fc (bw (l.map (bN ns)),bw (r.map (bN ns)))]),.d (.bool true)]):=by
 have s1:=vv (G:=G) (r.map (aN ns)) (by simp;omega);have s2:=vv (G:=G) (l.map (aN ns)) (by simp;omega);have s3:=vv (G:=G) (l.map (bN ns)) (by simp;omega);have s4:=vv (G:=G) (r.map (bN ns)) (by simp;omega);unfold fc aL bp at *
 refine gy func127 rfl (by decide +kernel) (by simp[ntmps127]) (aT fun E=>?_);simp only[go_sem];refine aH E (fun g=>absurd g (by omega)) (fun _=>?_);simp only[go_sem];refine om E [11] 1 201 none [.d .ai,.d .ai] rfl rfl (by rw[ay];decide) ?_;refine om E [12] 0 202 none [.d .ai,.d .ai] rfl rfl (by show¬_∈[201,12,11,26,4];decide) ?_;refine eP E [4] (.agg [.sl (some 4) (ns.map aw),i64 root]) rfl rfl ?_
 refine bK E (X:={ i:Nat // i<=l.length }) (fun x=>[(2,.d (.sl none (l.map i64))),(3,.d (.sl none (r.map i64))),(4,.d (.ptr (.agg [.sl (some 4) (ns.map aw),i64 root]))),(11,.bx [11] 0),(12,.bx [12] 0),(13,.d (i64 x.1))])
  (fun x=>[([11],.box [.d .ai,.vw [201] 0 x.1]),([12],.box [.vw [202] 0 x.1,.d .ai]),([201],.arr none (((l.take x.1).map (aN ns)).map i64)),([202],.arr none (((l.take x.1).map (bN ns)).map i64))]) [201,202,11,12] (fun x=>l.length-x.1) ⟨0,aie _⟩ id ?_ ?_
 .simp only[go_sem]
  all_goals first|rfl|(and_intros<;>first|rfl|trivial)
 rintro⟨i,hi⟩ E0;refine bW E0 fun Q' hQ E'=>?_;simp only at hi ⊢;simp only[go_sem];refine aH E' ?_ ?_<;>intro h1<;>simp only[go_sem]
 .have ao:i<l.length:=by omega
  have hx:=hk _ (ah2 ao);have gB:=hx.1;have iO:=hx.2;have dt:(l.map i64).getD i .aY=i64 l[i]:=dF ao;have hnd:=fZ hx;have ha:=Fg (f:=aN ns) ao;have hb:=Fg (f:=bN ns) ao;refine bF mixed E' fun X=>?_;simp only[go_sem];refine⟨by omega,?_⟩;rw[dt];simp only[go_sem];refine⟨by omega,?_⟩;rw[hnd];simp only[go_sem];refine⟨by omega,?_⟩;refine⟨by omega,?_⟩;rw[dt];simp only[go_sem];refine⟨by omega,?_⟩;rw[hnd];simp only[go_sem];refine⟨by omega,by decide +kernel,?_⟩;rw[hQ];refine⟨⟨i+1,ao⟩,by show l.length-(i+1)<l.length-i;omega,ar [([201],[49]),([202],[62])],?_⟩;simp only[go_sem];rw[ha,hb,ail,ail,Fh,Fh];rw[aD ⟨by omega,by omega⟩]
  and_intros<;>first|rfl|trivial
 have bJ:i=l.length:=by omega
 subst bJ;rw[aij]at *
 rw[hQ];simp only[go_sem];refine om E [11] 0 203 none [.d .ai,.vw [201] 0 l.length] rfl rfl (by rw[ay];decide) ?_;refine om E [12] 1 204 none [.vw [202] 0 l.length,.d .ai] rfl rfl (by show¬_∈[203,201,202,11,12];decide) ?_
 refine bK E (X:={ i:Nat // i<=r.length }) (fun x=>[(3,.d (.sl none (r.map i64))),(4,.d (.ptr (.agg [.sl (some 4) (ns.map aw),i64 root]))),(11,.bx [11] 0),(12,.bx [12] 0),(14,.d (i64 x.1))])
  (fun x=>[([11],.box [.vw [203] 0 x.1,.vw [201] 0 l.length]),([12],.box [.vw [202] 0 l.length,.vw [204] 0 x.1]),([201],.arr none ((l.map (aN ns)).map i64)),([202],.arr none ((l.map (bN ns)).map i64)),([203],.arr none (((r.take x.1).map (aN ns)).map i64)),([204],.arr none (((r.take x.1).map (bN ns)).map i64))]) [203,204,201,202,11,12] (fun x=>r.length-x.1) ⟨0,aie _⟩ id ?_ ?_
 .simp only[go_sem]
  all_goals first|rfl|(and_intros<;>first|rfl|trivial)
 rintro⟨j,hj⟩ E1;refine bW E1 fun Q2 dv E2=>?_;simp only at hj ⊢;simp only[go_sem];refine aH E2 ?_ ?_<;>intro h1<;>simp only[go_sem]
 .have ao:j<r.length:=by omega
  have hx:=ri _ (ah2 ao);have gB:=hx.1;have iO:=hx.2;have dt:(r.map i64).getD j .aY=i64 r[j]:=dF ao;have hnd:=fZ hx;have ha:=Fg (f:=aN ns) ao;have hb:=Fg (f:=bN ns) ao;refine bF mixed E2 fun X=>?_;simp only[go_sem];refine⟨by omega,?_⟩;rw[dt];simp only[go_sem];refine⟨by omega,?_⟩;rw[hnd];simp only[go_sem];refine⟨by omega,?_⟩;refine⟨by omega,?_⟩;rw[dt];simp only[go_sem];refine⟨by omega,?_⟩;rw[hnd];simp only[go_sem];refine⟨by omega,by decide +kernel,?_⟩;rw[dv];refine⟨⟨j+1,ao⟩,by show r.length-(j+1)<r.length-j;omega,ar [([203],[83]),([204],[96])],?_⟩;simp only[go_sem];rw[ha,hb,ail,ail,Fh,Fh];rw[aD ⟨by omega,by omega⟩]
  and_intros<;>first|rfl|trivial
 have mF:j=r.length:=by omega
 subst mF;rw[aij]at *
 rw[dv];simp only[go_sem];refine uQ E [201] none ((l.map (aN ns)).map i64) rfl ?_;simp only[go_sem];refine uQ E [202] none ((l.map (bN ns)).map i64) rfl ?_;simp only[go_sem];refine uQ E [203] none ((r.map (aN ns)).map i64) rfl ?_;simp only[go_sem];refine uQ E [204] none ((r.map (bN ns)).map i64) rfl ?_;simp only[go_sem];rw[Fi,Fi,Fi,Fi];refine bF mixed E fun X=>?_;simp only[go_sem];refine fo X s1 rfl rfl (by simp) ?_;simp only[go_sem];refine fo X s2 rfl rfl (by simp) ?_;simp only[go_sem];refine fo X s3 rfl rfl (by simp) ?_;simp only[go_sem];refine fo X s4 rfl rfl (by simp) ?_;simp only[go_sem];(try refine⟨by decide +kernel,?_⟩);refine⟨[([113],some 2,[.agg [.sl none ((bw (r.map (aN ns))).map i64),.sl none ((bw (l.map (aN ns))).map i64)],.agg [.sl none ((bw (l.map (bN ns))).map i64),.sl none ((bw (r.map (bN ns))).map i64)]])],?_⟩;simp only[go_sem]
end Go.Proofs.YtpmniabdmbmafaaGreatDoor

namespace Go.Proofs.YtpmniabdmbmafaaGreatDoor
open Go.Ab Tryz
theorem Sk{α:Type}{A:List α}{p:α->Bool}{i:Nat}(h:i<A.length)(ha:(A.take i).all p=true)(hp:p A[i]=true):(A.take (i+1)).all p=true:=by
 rw[ah5 h,List.all_append,ha];simp[hp]
theorem af0{α β:Type}{l:List α}{i:Nat}{f:α->β}(h:i<l.length):((l.take (i+1)).map f)=(l.take i).map f++[f l[i]]:=by
 rw[ah5 h,ail];rfl
theorem af1{ns:List TN}{l:List Int}(hf:tK ns)(hk:∀x∈l,aC ns x)(h0:0<l.length):(er ns l).length<=1000000:=by
 have h1:=JT ns l ((nd ns (l.getD 0 0).toNat).l.map (·.1)) [];have h2:=hf _ (hk _ (ah2 h0));rw[show l.getD 0 0=l[0] by simp[h0],List.length_nil,aik]at h1;unfold er;rw[show l.getD 0 0=l[0] by simp[h0]];omega
theorem Sl{G}(ns:List TN)(root k:Int)(l r m:List Int)(hc:k=7∧r=m∨k=8∧l=m)(hn:ns.length<=1000000)(hl:l.length<=1000000)(hr:r.length<=1000000)(hk:∀x∈l,aC ns x)(ri:∀x∈r,aC ns x)(hf:tK ns)(h0:0<m.length) :
  HP prog G 127 [bp ns root,i64 k,aL l,aL r] (fun v=>v=.aA [.d (BD (if(er ns m).all (fH ns l r)=true then some ((er ns m).map (nG ns l r))else none)),.d (.bool ((er ns m).all (fH ns l r)))]):=by
 have yO:∀x∈m,aC ns x:=by
  rcases hc with h|h<;>rw[<-h.2]
  .exact ri
  .exact hk
 have oB:m.length<=1000000:=by
  rcases hc with h|h<;>rw[<-h.2]
  .exact hr
  .exact hl
 have cN:=afY (G:=G) ns root m hn oB yO hf h0;have hAl:=af1 hf yO h0;generalize er ns m=A at cN hAl;obtain⟨rfl,rfl⟩|⟨rfl,rfl⟩:=hc
 all_goals
  have cP:=fun l hl hk s=>Sh (G:=G) ns root l s hn hl hk hf;unfold aL bp at *
  refine gy func127 rfl (by decide +kernel) (by simp[ntmps127]) (aT fun E=>?_);simp only[go_sem]
 refine aH E (fun g=>absurd g (by omega)) (fun _=>?_)<;>simp only[go_sem]
 all_goals
  refine bj E cN rfl rfl (by simp) ?_;rintro _ rfl;simp only[go_sem];refine eP E [4] (.agg [.sl (some 4) (ns.map aw),i64 root]) rfl rfl ?_;simp only[go_sem]
  refine bK E (X:={ i:Nat // i<=A.length∧(A.take i).all (fH ns l r)=true }) (fun x=>[(2,.d (.sl none (l.map i64))),(3,.d (.sl none (r.map i64))),(4,.d (.ptr (.agg [.sl (some 4) (ns.map aw),i64 root]))),(10,.vw [201] 0 x.1),(15,.d (.sl none (A.map D.str))),(16,.d (i64 x.1))])
   (fun x=>[([201],.arr (some 2) (((A.take x.1).map (nG ns l r)).map fc))]) [201] (fun x=>A.length-x.1) ⟨0,aie _,by simp⟩ (ar [([201],[26])]) ?_ ?_
  .simp only[go_sem]
   all_goals first|rfl|(and_intros<;>first|rfl|trivial)
  rintro⟨i,hi,ha⟩ E0;refine bW E0 fun Q' hQ E'=>?_;simp only at hi ⊢;simp only[go_sem];refine aH E' ?_ ?_<;>intro h1<;>simp only[go_sem]
  .have ao:i<A.length:=by omega
   have hs:=Sk (p:=fH ns l r) ao ha;have hm:=af0 (f:=nG ns l r) ao;have tL:(A.map D.str).getD i .aY=.str A[i]:=by simp[ao]
   have bH:fH ns l r A[i]=false->A.all (fH ns l r)=false:=fun g=>akJ.2 ⟨_,ah2 ao,by rw[g];simp⟩;generalize A[i]=s at hs hm tL bH;refine bF mixed E' fun X=>?_;simp only[go_sem];refine⟨by omega,?_⟩;rw[tL];simp only[go_sem];refine fo X (cP l hl hk s) rfl rfl (by simp) ?_;simp only[go_sem];refine⟨by omega,?_⟩;rw[tL];simp only[go_sem];refine fo X (cP r hr ri s) rfl rfl (by simp) ?_;simp only[go_sem];(try refine⟨by decide +kernel,?_⟩)
   repeat (first
    |(apply gC E';(· simp only[go_sem]);(· intro h;(try simp only[bq]at h);simp only[↓h,go_sem];rfl);simp only[go_sem])
    |(apply iu E';(· decide);simp only[go_sem]))
   refine cK E' ?_ ?_<;>intro g<;>simp only[go_sem]
   .have hb:fH ns l r s=false:=by
     simp only[aiL,decide_eq_true_eq]at g;unfold fH;obtain g|g:=g
     .rw[decide_eq_false (by omega:¬0<(dP ns l s).length),aiP]
     .rw[decide_eq_false (by omega:¬0<(dP ns r s).length),ajD]
    rw[hQ];simp only[go_sem];rw[bH hb];simp only[go_sem];refine⟨[],?_⟩;simp only[go_sem];rfl
   .have hb:fH ns l r s=true:=by
     have g':=g;simp only[ai5,decide_eq_false_iff_not]at g';rw[fH,decide_eq_true (by omega:0<(dP ns l s).length),decide_eq_true (by omega:0<(dP ns r s).length)];rfl
    refine⟨by omega,?_⟩;rw[hQ];refine⟨⟨i+1,ao,hs hb⟩,by show A.length-(i+1)<A.length-i;omega,ar [([201],[158])],?_⟩;simp only[go_sem];rw[hm,ail,aic (by simp;omega)];rw[aD ⟨by omega,by omega⟩]
    and_intros<;>first|rfl|trivial
  .have bJ:i=A.length:=by omega
   subst bJ;rw[aij]at *
   rw[hQ];simp only[go_sem];rw[ha];simp only[go_sem];refine⟨[([201],some 2,(A.map (nG ns l r)).map fc)],?_⟩;simp only[go_sem];rw[aic (by simp)];rfl
theorem af2{G}(ns:List TN)(root k:Int)(l r:List Int)(h8:k≠8)(h0:r=[]) :
  HP prog G 127 [bp ns root,i64 k,aL l,aL r] (fun v=>v=.aA [.d .ai,.d (.bool false)]):=by
 subst h0;unfold aL bp at *
 refine cJ func127 rfl (by decide +kernel) (by simp[ntmps127]) (aT fun E=>?_);simp only[go_sem];refine bS E (fun g=>?_) (fun g=>absurd h8 (by simpa using g))<;>simp only[go_sem]
theorem af3{G}(ns:List TN)(root k:Int)(l r:List Int)(h3:k=3∨k=4∨k=5)(hr:0<r.length) :
  HP prog G 127 [bp ns root,i64 k,aL l,aL r] (fun v=>v=.aA [.d (.sl (some 2) []),.d (.bool true)]):=by
 unfold aL bp at *
 obtain rfl|rfl|rfl:=h3
 all_goals
  refine gy func127 rfl (by decide +kernel) (by simp[ntmps127]) (aT fun E=>?_);simp only[go_sem];refine aH E (fun g=>absurd g (by omega)) (fun _=>?_);simp only[go_sem];refine bK E (X:=Unit) (fun _=>[(10,.vw [26] 0 0),(15,.vw [114] 0 0),(16,.d (i64 0))]) (fun _=>[([26],.arr (some 2) []),([114],.arr none [])]) [26,114] (fun _=>0) () id ?_ ?_
  .simp only[go_sem]
   all_goals first|rfl|(and_intros<;>first|rfl|trivial)
  rintro _ E0;simp only[go_sem];refine⟨[([26],some 2,[])],?_⟩;simp only[go_sem]
theorem af4{G}(ns:List TN)(root k:Int)(l r:List Int)(hn:ns.length<=1000000)(hl:l.length<=1000000)(hr:r.length<=1000000)(hk:∀x∈l,aC ns x)(ri:∀x∈r,aC ns x)(hf:tK ns)(ud:0<l.length)(nt:3<=k∧k<=8) :
  HP prog G 127 [bp ns root,i64 k,aL l,aL r] (fun v=>v=.aA [.d (BD (eY ns k l r).1),.d (.bool (eY ns k l r).2)]):=by
 by_cases h8:k=8
 .subst h8
  have e:eY ns 8 l r=(if(er ns l).all (fH ns l r)=true then some ((er ns l).map (nG ns l r))else none,(er ns l).all (fH ns l r)):=by
   unfold eY;rw[if_neg (by simp),if_neg (by decide),show kO ns 8 l r=er ns l from rfl];generalize (er ns l).all (fH ns l r)=B;cases B<;>rfl
  rw[e];exact Sl ns root 8 l r l (.inr ⟨rfl,rfl⟩) hn hl hr hk ri hf ud
 by_cases yA:r=[]
 .have e:eY ns k l r=(none,false):=by unfold eY;rw[if_pos (by simp[h8,yA])]
  rw[e];exact af2 ns root k l r h8 yA
 have rL:0<r.length:=ajO.2 yA;have hc:¬(!decide (k=8)&&decide (r.length=0))=true:=by simp[yA]
 by_cases h6:k=6
 .subst h6;have e:eY ns 6 l r=(some [(bw (r.map (aN ns)),bw (l.map (aN ns))),(bw (l.map (bN ns)),bw (r.map (bN ns)))],true):=by unfold eY;rw[if_neg hc,if_pos rfl]
  rw[e];exact afZ ns root l r hn hl hr hk ri rL
 by_cases h7:k=7
 .subst h7
  have e:eY ns 7 l r=(if(er ns r).all (fH ns l r)=true then some ((er ns r).map (nG ns l r))else none,(er ns r).all (fH ns l r)):=by
   unfold eY;rw[if_neg hc,if_neg (by decide),show kO ns 7 l r=er ns r from rfl];generalize (er ns r).all (fH ns l r)=B;cases B<;>rfl
  rw[e];exact Sl ns root 7 l r r (.inl ⟨rfl,rfl⟩) hn hl hr hk ri hf rL
 have e:eY ns k l r=(some [],true):=by
  unfold eY kO;rw[if_neg hc,if_neg h6,if_neg h7,if_neg h8];simp
 rw[e];exact af3 ns root k l r (by omega) rL
end Go.Proofs.YtpmniabdmbmafaaGreatDoor

namespace Go.Proofs.YtpmniabdmbmafaaGreatDoor
open Go.Ab Tryz
theorem Sm{l:List Int}{p:Int->Bool}(h:l.any p=true):l.findIdx p<l.length:=by
 obtain⟨x,hx,hp⟩:=aiA.1 h;exact List.findIdx_lt_length.2 ⟨x,hx,hp⟩
theorem sc{l:List Int}{p:Int->Bool}:(0<=pJ p l)↔l.any p=true:=by
 unfold pJ;split
 .rename_i h;exact⟨fun _=>h,fun _=>by omega⟩
 .rename_i h;exact⟨fun g=>absurd g (by decide),fun g=>absurd g h⟩
def se(ns:List TN)(l:List Int)(k:Nat):List Int:=([3,4,5,6,7,8].take k).filter fun k=>l.any fun x=>decide (ag ns x=k)
theorem af5(ns:List TN)(l:List Int):se ns l 6=fG ns l:=rfl
theorem af6(ns:List TN)(l:List Int):∀k,k<6->se ns l (k+1)=se ns l k++(if l.any (fun x=>decide (ag ns x=(k:Int)+3))=true then[(k:Int)+3]else[]):=by
 intro k hk;have hl:k<([3,4,5,6,7,8]:List Int).length:=hk
 have e:([3,4,5,6,7,8]:List Int)[k]=(k:Int)+3:=by
  match k,hk with
  |0,_|1,_|2,_|3,_|4,_|5,_=>rfl
 unfold se;rw[wN (p:=fun k=>l.any fun x=>decide (ag ns x=k)) hl,e]
theorem af7{ns:List TN}{l:List Int}{k:Nat}{x:Int}(h:x∈se ns l k):3<=x∧x<=8∧l.any (fun y=>decide (ag ns y=x))=true:=by
 have h1:=ait.1 h;have h2:=aiJ h1.1;refine⟨?_,?_,h1.2⟩<;>simp at h2<;>omega
theorem af8(ns:List TN)(l:List Int)(k:Nat):(se ns l k).length<=6:=aix (aiF _ _) (by rw[air];simp;omega)
theorem Sn{ns:List TN}{k:Int}{l:List Int}{x:Int}(h:x∈aG ns k l):x∈l∧ag ns x=k:=by
 have:=ait.1 h;exact⟨this.1,by simpa using this.2⟩
theorem Sq(ns:List TN)(k:Int)(l:List Int):(aG ns k l).length<=l.length:=aiF _ _
structure BS(ns:List TN)(q:SQ):Prop where
 l1:q.1.length<=4000
 l2:q.2.length<=4000
 k1:∀x∈q.1,aC ns x
 k2:∀x∈q.2,aC ns x
theorem af9{G}(ns:List TN)(root:Int)(q:SQ)(hn:ns.length<=4000)(hq:BS ns q)(hf:tK ns) :
  HP prog G 86 [bp ns root,fc q] (fun v=>v=.aA [.d (BD (c6 ns q).1),.d (.bool (c6 ns q).2)]):=by
 obtain⟨a,b⟩:=q;obtain⟨l1,l2,k1,k2⟩:=hq;simp only at l1 l2 k1 k2;have Sr:=fun k=>Sb (G:=G) ns root a k (by omega) (by omega) k1;have cF2:=fun k=>Sb (G:=G) ns root b k (by omega) (by omega) k2;have cG1:=Sc (G:=G) ns root a (by omega) (by omega) k1;have cG2:=Sc (G:=G) ns root b (by omega) (by omega) k2;have JU:=fun i ins hi hs=>Si (G:=G) a i ins hi (by omega) hs;have JV:=fun i ins hi hs=>Si (G:=G) b i ins hi (by omega) hs;generalize hv:c6 ns (a,b)=v;unfold c6 at hv;unfold fc aL bp at *
 refine gy func86 rfl (by decide +kernel) (by simp[ntmps86]) (aT fun E=>?_);simp only[go_sem];refine bj E (Sr 2) rfl rfl (by simp) ?_;rintro _ rfl;simp only[go_sem];refine bS E ?_ ?_<;>intro g1<;>simp only[go_sem]
 .rw[if_pos (by rw[sc.1 g1];rfl)]at hv;subst hv;refine⟨[],?_⟩;simp only[go_sem];rfl
 refine bj E (cF2 1) rfl rfl (by simp) ?_;rintro _ rfl;simp only[go_sem];refine aH E ?_ ?_<;>intro g2<;>simp only[go_sem]
 .rw[if_pos (by rw[sc.1 g2,ak2])]at hv;subst hv;refine⟨[],?_⟩;simp only[go_sem];rfl
 rw[if_neg (by rw[Bool.eq_false_iff.2 fun h=>g1 (sc.2 h),Bool.eq_false_iff.2 fun h=>g2 (sc.2 h)];simp)]at hv;refine bj E cG1 rfl rfl (by simp) ?_;rintro _ rfl;simp only[go_sem];refine aH E ?_ ?_<;>intro g3<;>simp only[go_sem]
 .have ha:=sc.1 g3;have hi:=Sm ha;rw[if_pos ha]at hv;unfold bI gj at hv;rw[show pJ (aI ns) a=((a.findIdx (aI ns):Nat):Int) by rw[pJ,if_pos ha]];generalize a.findIdx (aI ns)=i at hi hv ⊢;have hx:=k1 _ (ah2 hi);have gB:=hx.1;have iO:=hx.2;have dt:(a.map i64).getD i .aY=i64 a[i]:=dF hi;have hnd:=fZ hx;rw[show a.getD i 0=a[i] by simp[hi]]at hv;generalize nd ns a[i].toNat=N at hnd hv;refine bF mixed E fun X=>?_;simp only[go_sem];refine⟨by omega,?_⟩;rw[dt];simp only[go_sem];refine⟨by omega,?_⟩;rw[hnd];simp only[go_sem];(try refine⟨by decide +kernel,?_⟩);refine aH E ?_ ?_<;>intro g4<;>simp only[go_sem]
  .rw[if_pos g4]at hv;refine bF mixed E fun X=>?_;simp only[go_sem];refine yx X 53 [53] none [i64 N.a,i64 N.b] (JU i [N.a,N.b] hi (by simp)) (fun _=>rfl) rfl rfl rfl (by simp) (by simp only[go_sem]) (by simp only[go_sem]) ?_;simp only[go_sem];(try refine⟨by decide +kernel,?_⟩);subst hv;refine⟨[([58],some 2,[.agg [.sl none ((fF a i [N.a,N.b]).map i64),.sl none (b.map i64)]])],?_⟩;simp only[go_sem];rfl
  .rw[if_neg g4]at hv;refine bF mixed E fun X=>?_;simp only[go_sem];refine yx X 64 [64] none [i64 N.a] (JU i [N.a] hi (by simp)) (fun _=>rfl) rfl rfl rfl (by simp) (by simp only[go_sem]) (by simp only[go_sem]) ?_;simp only[go_sem];refine yx X 74 [74] none [i64 N.b] (JU i [N.b] hi (by simp)) (fun _=>rfl) rfl rfl rfl (by simp) (by simp only[go_sem]) (by simp only[go_sem]) ?_;simp only[go_sem];(try refine⟨by decide +kernel,?_⟩);subst hv;refine⟨[([79],some 2,[.agg [.sl none ((fF a i [N.a]).map i64),.sl none (b.map i64)],.agg [.sl none ((fF a i [N.b]).map i64),.sl none (b.map i64)]])],?_⟩;simp only[go_sem];rfl
 rw[if_neg (fun h=>g3 (sc.2 h))]at hv;refine bj E cG2 rfl rfl (by simp) ?_;rintro _ rfl;simp only[go_sem];refine aH E ?_ ?_<;>intro g5<;>simp only[go_sem]
 .have ha:=sc.1 g5;have hi:=Sm ha;rw[if_pos ha]at hv;unfold bI gj at hv;rw[show pJ (aI ns) b=((b.findIdx (aI ns):Nat):Int) by rw[pJ,if_pos ha]];generalize b.findIdx (aI ns)=i at hi hv ⊢;have hx:=k2 _ (ah2 hi);have gB:=hx.1;have iO:=hx.2;have dt:(b.map i64).getD i .aY=i64 b[i]:=dF hi;have hnd:=fZ hx;rw[show b.getD i 0=b[i] by simp[hi]]at hv;generalize nd ns b[i].toNat=N at hnd hv;refine bF mixed E fun X=>?_;simp only[go_sem];refine⟨by omega,?_⟩;rw[dt];simp only[go_sem];refine⟨by omega,?_⟩;rw[hnd];simp only[go_sem];(try refine⟨by decide +kernel,?_⟩);refine aH E ?_ ?_<;>intro g4<;>simp only[go_sem]
  .rw[if_pos g4]at hv;refine bF mixed E fun X=>?_;simp only[go_sem];refine yx X 107 [107] none [i64 N.a,i64 N.b] (JV i [N.a,N.b] hi (by simp)) (fun _=>rfl) rfl rfl rfl (by simp) (by simp only[go_sem]) (by simp only[go_sem]) ?_;simp only[go_sem];(try refine⟨by decide +kernel,?_⟩);subst hv;refine⟨[([110],some 2,[.agg [.sl none (a.map i64),.sl none ((fF b i [N.a,N.b]).map i64)]])],?_⟩;simp only[go_sem];rfl
  .rw[if_neg g4]at hv;refine bF mixed E fun X=>?_;simp only[go_sem];refine yx X 118 [118] none [i64 N.a] (JV i [N.a] hi (by simp)) (fun _=>rfl) rfl rfl rfl (by simp) (by simp only[go_sem]) (by simp only[go_sem]) ?_;simp only[go_sem];refine yx X 128 [128] none [i64 N.b] (JV i [N.b] hi (by simp)) (fun _=>rfl) rfl rfl rfl (by simp) (by simp only[go_sem]) (by simp only[go_sem]) ?_;simp only[go_sem];(try refine⟨by decide +kernel,?_⟩);subst hv;refine⟨[([131],some 2,[.agg [.sl none (a.map i64),.sl none ((fF b i [N.a]).map i64)],.agg [.sl none (a.map i64),.sl none ((fF b i [N.b]).map i64)]])],?_⟩;simp only[go_sem];rfl
 rw[if_neg (fun h=>g5 (sc.2 h))]at hv;refine eP E [2] (.agg [.sl (some 4) (ns.map aw),i64 root]) rfl rfl ?_;refine eP E [3] (.agg [.sl none (a.map i64),.sl none (b.map i64)]) rfl rfl ?_
 refine bK E (X:={ i:Nat // i<=a.length∧(a.take i).any (fun x=>b.any fun y=>gi ns x y)=false }) (fun x=>[(2,.d (.ptr (.agg [.sl (some 4) (ns.map aw),i64 root]))),(3,.d (.ptr (.agg [.sl none (a.map i64),.sl none (b.map i64)]))),(10,.d (i64 x.1))])
  (fun _=>[]) [] (fun x=>a.length-x.1) ⟨0,aie _,by simp⟩ id ?_ ?_
 .simp only[go_sem]
  all_goals first|rfl|(and_intros<;>first|rfl|trivial)
 rintro⟨i,hi,xn⟩ E0;refine bW E0 fun Q' hQ E'=>?_;simp only at hi ⊢;simp only[go_sem];refine aH E' ?_ ?_<;>intro h1<;>simp only[go_sem]
 .have ao:i<a.length:=by omega
  have hx:=k1 _ (ah2 ao);have gB:=hx.1;have iO:=hx.2;have dt:(a.map i64).getD i .aY=i64 a[i]:=dF ao;have hnd:=fZ hx
  refine bK E' (X:={ j:Nat // j<=b.length∧(b.take j).any (fun y=>gi ns a[i] y)=false }) (fun y=>[(2,.d (.ptr (.agg [.sl (some 4) (ns.map aw),i64 root]))),(3,.d (.ptr (.agg [.sl none (a.map i64),.sl none (b.map i64)]))),(10,.d (i64 i)),(11,.d (i64 y.1))])
   (fun _=>[]) [] (fun y=>b.length-y.1) ⟨0,aie _,by simp⟩ id ?_ ?_
  .simp only[go_sem]
   all_goals first|rfl|(and_intros<;>first|rfl|trivial)
  rintro⟨j,hj,mN⟩ E1;refine bW E1 fun Q2 dv E2=>?_;simp only at hj ⊢;simp only[go_sem];refine aH E2 ?_ ?_<;>intro h2<;>simp only[go_sem]
  .have bG:j<b.length:=by omega
   have hy:=k2 _ (ah2 bG);have Ss:=hy.1;have Sv:=hy.2;have wH:(b.map i64).getD j .aY=i64 b[j]:=dF bG;have BT:=fZ hy;refine bF mixed E2 fun X=>?_;simp only[go_sem];refine⟨by omega,?_⟩;rw[dt];simp only[go_sem];refine⟨by omega,?_⟩;rw[hnd];simp only[go_sem];refine⟨by omega,?_⟩;rw[wH];simp only[go_sem];refine⟨by omega,?_⟩;rw[BT];simp only[go_sem];(try refine⟨by decide +kernel,?_⟩);refine bS E2 ?_ ?_<;>intro g7<;>simp only[go_sem]
   .refine bS E2 ?_ ?_<;>intro g8<;>simp only[go_sem]
    .refine aH E2 ?_ ?_<;>intro g9<;>simp only[go_sem]
     .have ni:gi ns a[i] b[j]=true:=by
       rw[gi,show decide (ag ns a[i]=11)=true from decide_eq_true g7,show decide (ag ns b[j]=11)=true from decide_eq_true g8,decide_eq_true g9];rfl
      rw[if_pos (aiA.2 ⟨_,ah2 ao,aiA.2 ⟨_,ah2 bG,ni⟩⟩)]at hv;rw[dv];simp only[go_sem];rw[hQ];simp only[go_sem];subst hv;refine⟨[],?_⟩;simp only[go_sem];rfl
     .rw[dv];refine⟨⟨j+1,bG,pS bG mN (by rw[gi,decide_eq_false g9,ajD])⟩,by show b.length-(j+1)<b.length-j;omega,id,?_⟩;simp only[go_sem];rw[aD ⟨by omega,by omega⟩]
      and_intros<;>first|rfl|trivial
    .rw[dv];refine⟨⟨j+1,bG,pS bG mN (by rw[gi,show decide (ag ns b[j]=11)=false from decide_eq_false g8,ajD,aiP])⟩,by show b.length-(j+1)<b.length-j;omega,id,?_⟩;simp only[go_sem];rw[aD ⟨by omega,by omega⟩]
     and_intros<;>first|rfl|trivial
   .rw[dv];refine⟨⟨j+1,bG,pS bG mN (by rw[gi,show decide (ag ns a[i]=11)=false from decide_eq_false g7,aiP,aiP])⟩,by show b.length-(j+1)<b.length-j;omega,id,?_⟩;simp only[go_sem];rw[aD ⟨by omega,by omega⟩]
    and_intros<;>first|rfl|trivial
  .have mF:j=b.length:=by omega
   subst mF;rw[aij]at mN;rw[dv];simp only[go_sem];rw[hQ];refine⟨⟨i+1,ao,pS ao xn mN⟩,by show a.length-(i+1)<a.length-i;omega,id,?_⟩;simp only[go_sem];rw[aD ⟨by omega,by omega⟩]
   and_intros<;>first|rfl|trivial
 have bJ:i=a.length:=by omega
 subst bJ;rw[aij]at xn;rw[if_neg (by rw[xn];simp)]at hv;rw[hQ];simp only[go_sem]
 refine bK E (X:={ k:Nat // k<=6 }) (fun x=>[(2,.d (.ptr (.agg [.sl (some 4) (ns.map aw),i64 root]))),(3,.d (.ptr (.agg [.sl none (a.map i64),.sl none (b.map i64)]))),(14,.vw [201] 0 (se ns a x.1).length),(15,.d (i64 ((x.1:Int)+3)))])
  (fun x=>[([201],.arr none ((se ns a x.1).map i64))]) [201] (fun x=>6-x.1) ⟨0,aie _⟩ (ar [([201],[179])]) ?_ ?_
 .simp only[go_sem]
  all_goals first|rfl|(and_intros<;>first|rfl|trivial)
 rintro⟨k,hk⟩ E0;refine bW E0 fun Q3 po E3=>?_;simp only at hk ⊢;simp only[go_sem];refine aH E3 ?_ ?_<;>intro h1<;>simp only[go_sem]
 .have az:k<6:=by omega
  have gS:=af6 ns a k az;have jd:=af8 ns a k;refine bj E3 (Sr ((k:Int)+3)) rfl rfl (by simp) ?_;rintro _ rfl;simp only[go_sem];refine aH E3 ?_ ?_<;>intro h2<;>simp only[go_sem]
  .rw[if_pos (sc.1 h2)]at gS;refine⟨by omega,?_⟩;rw[po];refine⟨⟨k+1,az⟩,by show 6-(k+1)<6-k;omega,ar [([201],[193])],?_⟩;simp only[go_sem];rw[gS,ail,ah7];rw[aD ⟨by omega,by omega⟩]
   and_intros<;>first|rfl|trivial
  .rw[if_neg (fun h=>h2 (sc.2 h)),aiR]at gS;rw[po];refine⟨⟨k+1,az⟩,by show 6-(k+1)<6-k;omega,id,?_⟩;simp only[go_sem];rw[gS];rw[aD ⟨by omega,by omega⟩]
   and_intros<;>first|rfl|trivial
 have mB:k=6:=by omega
 subst mB;rw[po];simp only[go_sem];have hK:∀x∈se ns a 6,3<=x∧x<=8∧a.any (fun y=>decide (ag ns y=x))=true:=fun x hx=>af7 hx;rw[<-af5]at hv;generalize se ns a 6=K at hv hK ⊢;refine aH E ?_ ?_<;>intro h1<;>simp only[go_sem]
 .rw[if_pos (by omega)]at hv;subst hv;refine⟨[],?_⟩;simp only[go_sem];rfl
 rw[if_neg (by omega)]at hv;refine aH E ?_ ?_<;>intro h2<;>simp only[go_sem]
 .rw[if_pos (by omega)]at hv;subst hv;refine⟨[],?_⟩;simp only[go_sem];rfl
 rw[if_neg (by omega)]at hv;obtain⟨k,rfl⟩:∃k,K=[k]:=akX.1 (by omega);obtain⟨Jz,hk8,rp⟩:=hK k (by simp);have cO1:=Sd (G:=G) ns root a k (by omega) (by omega) k1;have cO2:=Sd (G:=G) ns root b k (by omega) (by omega) k2;have hO1:=Sq ns k a;have HK:=Sq ns k b
 have cH:=af4 (G:=G) ns root k (aG ns k a) (aG ns k b) (by omega) (by omega) (by omega) (fun x hx=>k1 x (Sn hx).1) (fun x hx=>k2 x (Sn hx).1) hf (by
  obtain⟨y,hy,hp⟩:=aiA.1 rp
  exact ajQ (ait.2 ⟨hy,hp⟩)) ⟨Jz,hk8⟩
 have q8:eY ns k (aG ns k a) (aG ns k b)=v:=hv;rw[q8]at cH;unfold aL bp at *
 refine uQ E [201] none ([k].map i64) rfl ?_;simp only[go_sem];refine bF mixed E fun X=>?_;simp only[go_sem];refine fo X cO1 rfl rfl (by simp) ?_;simp only[go_sem];refine fo X cO2 rfl rfl (by simp) ?_;simp only[go_sem];refine fo X cH rfl rfl (by simp) ?_;simp only[go_sem];(try refine⟨by decide +kernel,?_⟩);refine⟨[],?_⟩;simp only[go_sem]
end Go.Proofs.YtpmniabdmbmafaaGreatDoor

namespace Go.Proofs.YtpmniabdmbmafaaGreatDoor
open Go.Ab Tryz
theorem aga(a b:SQ):(decide (a.1=b.1)&&decide (a.2=b.2))=decide (a=b):=by
 obtain⟨a1,a2⟩:=a;obtain⟨b1,b2⟩:=b;by_cases h1:a1=b1<;>by_cases h2:a2=b2<;>simp[h1,h2]
theorem agb{G}(a b:SQ)(h1:a.1.length<=1000000)(h2:a.2.length<=1000000):HP prog G 80 [fc a,fc b] (fun r=>r=.d (.bool (decide (a=b)))):=by
 have c1:=HB (G:=G) a.1 b.1 h1;have c2:=HB (G:=G) a.2 b.2 h2;rw[<-aga];unfold fc;refine cJ func80 rfl (by decide +kernel) (by simp[ntmps80]) (aT fun E=>?_);simp only[go_sem];refine bj E c1 rfl rfl (by simp) ?_;rintro _ rfl;simp only[go_sem];generalize hd:decide (a.1=b.1)=B at *
 repeat (first
  |(apply gC E;(· simp only[go_sem]);(· intro h;(try simp only[bq]at h);simp only[↓h,go_sem];rfl);simp only[go_sem]))
 (first|(apply uM E;(· simp only[go_sem]);(· intro h hk;(try simp only[bq]at h);refine bj E (c2) rfl (by simp only[↓h,go_sem]<;>rfl) (by simp) ?_;rintro _ rfl;exact hk);simp only[go_sem])|(apply yn E;(· simp only[go_sem]);(· rfl);(· intro h h' hk;(try simp only[bq]at h h');refine bj E (c2) rfl (by simp only[↓h,↓h',go_sem]<;>rfl) (by simp) ?_;rintro _ rfl;exact hk);simp only[go_sem]))
 repeat (first
  |(apply iu E;(· decide);simp only[go_sem]))
 all_goals (cases B<;>rfl)
theorem Sw:∀{l:List Int} {n:Nat},(∀x∈l,0<=x∧x<(n:Int))->0<=l.sum∧l.sum<=(n:Int)*(l.length:Int)
 |[],_,_=>by simp
 |x::r,n,h=>by
   have h1:=Sw (l:=r) (n:=n) fun y hy=>h y (ah8 _ hy);have h2:=h x ah0;have h3:(n:Int)*((x::r).length:Int)=(n:Int)*(r.length:Int)+n:=by rw[List.length_cons];push_cast;rw[Int.mul_add];omega
   rw[List.sum_cons,h3];omega
def jG(q:SQ):Prop:=q.1.length<=4000∧q.2.length<=4000∧(∀x∈q.1,0<=x∧x<4000)∧∀x∈q.2,0<=x∧x<4000
theorem Sx{l:List Int}{i:Nat}(h:i<l.length):(l.take (i+1)).sum=(l.take i).sum+l[i]:=by
 rw[ah5 h,akV,List.sum_cons,List.sum_nil,Int.add_zero]
theorem Fj{l:List Int}{i:Nat}(hl:l.length<=4000)(h:∀x∈l,0<=x∧x<4000):0<=(l.take i).sum∧(l.take i).sum<=16000000:=by
 have h1:=Sw (l:=l.take i) (n:=4000) fun x hx=>h x (aiJ hx);have h2:(l.take i).length<=4000:=by rw[air];omega
 refine⟨h1.1,Int.le_trans h1.2 ?_⟩;omega
theorem xp{q:SQ}(h:jG q):0<=jQ q∧jQ q<997:=by
 obtain⟨h1,h2,h3,h4⟩:=h;have a:=Fj (i:=q.1.length) h1 h3;have b:=Fj (i:=q.2.length) h2 h4;rw[aij]at a b;unfold jQ;have:=Int.tmod_lt_of_pos (7*(q.1.length:Int)+11*(q.2.length:Int)+31*q.1.sum+17*q.2.sum) (show(0:Int)<997 by decide);exact⟨Int.tmod_nonneg _ (by omega),this⟩
theorem agc{G}(q:SQ)(h:jG q):HP prog G 79 [fc q] (fun r=>r=.d (i64 (jQ q))):=by
 have hb:=xp h;obtain⟨a,b⟩:=q;obtain⟨h1,h2,h3,h4⟩:=h;unfold fc aL jQ at *
 simp only at h1 h2 h3 h4 hb ⊢;refine cJ func79 rfl (by decide +kernel) (by simp[ntmps79]) (aT fun E=>?_);simp only[go_sem];refine eP E [1] (.agg [.sl none (a.map i64),.sl none (b.map i64)]) rfl rfl ?_;simp only[go_sem];rw[aD (n:=7*(a.length:Int)) ⟨by omega,by omega⟩,aD (n:=11*(b.length:Int)) ⟨by omega,by omega⟩,aD (n:=7*(a.length:Int)+11*(b.length:Int)) ⟨by omega,by omega⟩]
 refine bK E (X:={ i:Nat // i<=a.length }) (fun x=>[(1,.d (.ptr (.agg [.sl none (a.map i64),.sl none (b.map i64)]))),(3,.d (i64 (7*(a.length:Int)+11*(b.length:Int)+31*(a.take x.1).sum))),(4,.d (i64 x.1))])
  (fun _=>[]) [] (fun x=>a.length-x.1) ⟨0,aie _⟩ id ?_ ?_
 .simp only[go_sem]
  all_goals first|rfl|(and_intros<;>first|rfl|trivial|simp)
 rintro⟨i,hi⟩ E0;refine bW E0 fun Q' hQ E'=>?_;simp only at hi ⊢;have st:=Fj (i:=i) h1 h3;simp only[go_sem];refine aH E' ?_ ?_<;>intro g1<;>simp only[go_sem]
 .have ao:i<a.length:=by omega
  have hx:=h3 _ (ah2 ao);have hs:=Sx ao;refine⟨by omega,?_⟩;rw[dF ao];generalize a[i]=x at hx hs ⊢;simp only[go_sem];rw[hQ];refine⟨⟨i+1,ao⟩,by show a.length-(i+1)<a.length-i;omega,id,?_⟩;simp only[go_sem];rw[hs,aD (n:=31*x) ⟨by omega,by omega⟩,aD (n:=7*(a.length:Int)+11*(b.length:Int)+31*(a.take i).sum+31*x) ⟨by omega,by omega⟩,aD (n:=(i:Int)+1) ⟨by omega,by omega⟩]
  and_intros<;>first|rfl|trivial|exact congrArg (fun z:Int=>AV.d (i64 z)) (by omega)
 have bJ:i=a.length:=by omega
 subst bJ;rw[aij]at *
 rw[hQ];simp only[go_sem]
 refine bK E (X:={ i:Nat // i<=b.length }) (fun x=>[(1,.d (.ptr (.agg [.sl none (a.map i64),.sl none (b.map i64)]))),(3,.d (i64 (7*(a.length:Int)+11*(b.length:Int)+31*a.sum+17*(b.take x.1).sum))),(5,.d (i64 x.1))])
  (fun _=>[]) [] (fun x=>b.length-x.1) ⟨0,aie _⟩ id ?_ ?_
 .simp only[go_sem]
  all_goals first|rfl|(and_intros<;>first|rfl|trivial|simp)
 rintro⟨j,hj⟩ E1;refine bW E1 fun Q2 dv E2=>?_;simp only at hj ⊢;have su:=Fj (i:=j) h2 h4;simp only[go_sem];refine aH E2 ?_ ?_<;>intro g2<;>simp only[go_sem]
 .have bG:j<b.length:=by omega
  have hx:=h4 _ (ah2 bG);have hs:=Sx bG;refine⟨by omega,?_⟩;rw[dF bG];generalize b[j]=x at hx hs ⊢;simp only[go_sem];rw[dv];refine⟨⟨j+1,bG⟩,by show b.length-(j+1)<b.length-j;omega,id,?_⟩;simp only[go_sem];rw[hs,aD (n:=17*x) ⟨by omega,by omega⟩,aD (n:=7*(a.length:Int)+11*(b.length:Int)+31*a.sum+17*(b.take j).sum+17*x) ⟨by omega,by omega⟩,aD (n:=(j:Int)+1) ⟨by omega,by omega⟩]
  and_intros<;>first|rfl|trivial|exact congrArg (fun z:Int=>AV.d (i64 z)) (by omega)
 .have mF:j=b.length:=by omega
  subst mF;rw[aij]at *
  rw[dv];simp only[go_sem]
def za(a b:List Int)(i:Nat):Bool:=pK (a.drop i) (b.drop i)
theorem agd{a b:List Int}{i:Nat}(hi:i<=a.length)(hj:i<=b.length)(h:¬(i<a.length∧i<b.length)):za a b i=decide (a.length<b.length):=by
 unfold za;by_cases ha:i<a.length
 .have hb:b.drop i=[]:=ako (by omega);rw[hb,ajz ha,pK];exact(decide_eq_false (by omega)).symm
 .rw[ako (by omega:a.length<=i)];by_cases hb:i<b.length
  .rw[ajz hb,pK];exact(decide_eq_true (by omega)).symm
  .rw[ako (by omega:b.length<=i),pK];exact(decide_eq_false (by omega)).symm
theorem age{a b:List Int}{i:Nat}(hi:i<a.length)(hj:i<b.length):za a b i=if a[i]=b[i]then za a b (i+1)else decide (a[i]<b[i]):=by
 unfold za;rw[ajz hi,ajz hj,pK]
theorem agf{G}(a b:List Int)(h1:a.length<=1000000)(h2:b.length<=1000000):HP prog G 123 [aL a,aL b] (fun r=>r=.d (.bool (pK a b))):=by
 unfold aL;refine cJ func123 rfl (by decide +kernel) (by simp[ntmps123]) (aT fun E=>?_);simp only[go_sem]
 refine bK E (X:={ i:Nat // i<=a.length∧i<=b.length∧za a b i=pK a b }) (fun x=>[(0,.d (.sl none (a.map i64))),(1,.d (.sl none (b.map i64))),(5,.d (i64 x.1))])
  (fun _=>[]) [] (fun x=>a.length-x.1) ⟨0,aie _,aie _,rfl⟩ id ?_ ?_
 .simp only[go_sem]
  all_goals first|rfl|(and_intros<;>first|rfl|trivial)
 rintro⟨i,hi,hj,hf⟩ E0;refine bW E0 fun Q' hQ E'=>?_;simp only at hi hj ⊢;simp only[go_sem]
 repeat (first
  |(apply gC E';(· simp only[go_sem]);(· intro h;(try simp only[bq]at h);simp only[↓h,go_sem];rfl);simp only[go_sem])
  |(apply iu E';(· decide);simp only[go_sem]))
 refine cK E' ?_ ?_<;>intro g1<;>simp only[go_sem]
 .have ao:i<a.length∧i<b.length:=by simpa using g1
  have hs:=age ao.1 ao.2;have Sy:=dF ao.1;have Ex:=dF ao.2;refine bF mixed E' fun X=>?_;simp only[go_sem];refine⟨by omega,?_⟩;rw[Sy];simp only[go_sem];refine⟨by omega,?_⟩;rw[Ex];simp only[go_sem];(try refine⟨by decide +kernel,?_⟩);refine aH E' ?_ ?_<;>intro g2<;>simp only[go_sem]
  .rw[if_neg (by simpa using g2)]at hs;refine bF mixed E' fun X=>?_;simp only[go_sem];refine⟨by omega,?_⟩;rw[Sy];simp only[go_sem];refine⟨by omega,?_⟩;rw[Ex];simp only[go_sem];(try refine⟨by decide +kernel,?_⟩);rw[hQ];simp only[go_sem];rw[<-hf,hs]
  .rw[if_pos (by simpa using g2)]at hs;rw[hQ];refine⟨⟨i+1,ao.1,ao.2,by rw[<-hs,hf]⟩,by show a.length-(i+1)<a.length-i;omega,id,?_⟩;simp only[go_sem];rw[aD ⟨by omega,by omega⟩]
   and_intros<;>first|rfl|trivial
 .have bJ:¬(i<a.length∧i<b.length):=by simpa using g1
  rw[hQ];simp only[go_sem];rw[<-hf,agd hi hj bJ];rw[show decide ((a.length:Int)<(b.length:Int))=decide (a.length<b.length)from decide_eq_decide.2 (by omega)]
end Go.Proofs.YtpmniabdmbmafaaGreatDoor

