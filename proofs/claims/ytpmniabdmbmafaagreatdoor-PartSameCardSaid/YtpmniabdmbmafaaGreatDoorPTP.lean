/-
  What a state has, as nodes: the document's parts. (with the parts that follow it)
-/
import Derived.Test.YtpmniabdmbmafaaGreatDoorPTO
import Derived.Test.YtpmniabdmbmafaaGreatDoorPTJ
import Derived.Test.YtpmniabdmbmafaaGreatDoorPTM
import Derived.Test.YtpmniabdmbmafaaGreatDoorPTK
import Derived.Test.YtpmniabdmbmafaaGreatDoorPTN
import Derived.Test.YtpmniabdmbmafaaGreatDoorPTL
set_option linter.all false
set_option maxHeartbeats 16000000
namespace Go.Proofs.YtpmniabdmbmafaaGreatDoor
open Go.Ab Tryz
theorem Vh{G}(l:List da)(hl:l.length<=1000000):HP prog G 49 [.sl (some 2) (l.map aP)] (fun r=>r=.d (.sl (some 2) (l.map aP))):=by
 refine fK func49 rfl (by decide +kernel) (by simp[ntmps49]) (aS fun E=>?_);simp only[go_sem]
 refine bC E (X:={ j:Nat // j<=l.length }) (fun x=>[(0,.d (.sl (some 2) (l.map aP))),(3,.vw [98] 0 x.1),(4,.d (i64 x.1))])
  (fun x=>[([98],.arr (some 2) ((l.take x.1).map aP))]) [98] (fun x=>l.length-x.1) ⟨0,ale _⟩ (ak [([98],[5])]) ?_ ?_
 .simp only[go_sem]
 rintro⟨j,hj⟩ E1;refine bK E1 fun Q2 cz E2=>?_;simp only at hj ⊢;simp only[go_sem];refine aI E2 ?_ ?_<;>intro h2<;>simp only[go_sem]
 .have aX:j<l.length:=by omega
  refine bz mixed E2 fun X=>?_;simp only[go_sem];refine⟨by omega,?_⟩;rw[Hp aX];simp only[go_sem];refine⟨by omega,?_⟩;rw[Hp aX];simp only[go_sem];refine⟨by omega,?_⟩;(try refine⟨by decide +kernel,?_⟩);rw[cz];simp only[go_sem];refine⟨⟨j+1,by omega⟩,by show l.length-(j+1)<_;omega,ak [([98],[25])],?_⟩;simp only[go_sem];rw[ak5 (by simp;omega),aD ⟨by omega,by omega⟩,<-Vg aX]
  and_intros<;>first|rfl|trivial
 have h5:j=l.length:=by omega
 subst h5;rw[cz,alk];simp only[go_sem];refine⟨[([98],some 2,l.map aP)],?_⟩;simp only[go_sem]
def pA(s:EA)(ev:Int):List TN:=if s.al=true then[⟨ev,0,0,[]⟩]else[]
def pB(s:EA)(ev:Int):List TN:=pA s ev++if s.int=true then[⟨3,0,0,[]⟩]else[]
def pC(s:EA)(ev:Int):List TN:=pB s ev++if s.bool=true then[⟨4,0,0,[]⟩]else[]
def pD(s:EA)(ev:Int):List TN:=pC s ev++if s.str=true then[⟨5,0,0,[]⟩]else[]
def pE(s:EA)(ev:Int)(i:Nat):List TN:=pD s ev++(s.vars.take i).map fun v=>⟨11,v,0,[]⟩
def pF(s:EA)(ev:Int):List TN:=pE s ev s.vars.length++if s.arr=true then[⟨6,s.bD,s.bE,[]⟩]else[]
def pG(s:EA)(ev:Int):List TN:=pF s ev++if s.rc=true then[⟨7,0,0,s.fl⟩]else[]
def pH(s:EA)(ev:Int):List TN:=pG s ev++if s.tg=true then[⟨8,0,0,s.tl⟩]else[]
def lR(n:TN):D:=if ij n.k=true then .sl (some 2) (n.l.map aP)else .ao
def dZ(n:TN):D:=.agg [i64 n.k,i64 n.a,i64 n.b,lR n]
theorem Mw(s:EA)(ev:Int):pH s ev=dO s ev:=by
 unfold pH pG pF pE pD pC pB pA dO;rw[alk]
theorem aiM{s:EA}{ev:Int}{i:Nat}(h:i<s.vars.length):pE s ev (i+1)=pE s ev i++[⟨11,s.vars[i],0,[]⟩]:=by
 unfold pE;rw[ak9 h];simp only[alh,alK,alf,alJ]
theorem yK{c:Prop}[Decidable c]{x:TN}:(if c then[x]else[]).length<=1:=by split<;>simp
theorem Mx(s:EA)(ev:Int):(pA s ev).length<=1∧(pB s ev).length<=2∧(pC s ev).length<=3∧(pD s ev).length<=4∧(∀i,(pE s ev i).length<=4+s.vars.length)∧(pF s ev).length<=5+s.vars.length∧(pG s ev).length<=6+s.vars.length∧(pH s ev).length<=7+s.vars.length:=by
 have hA:(pA s ev).length<=1:=yK;have hB:(pB s ev).length<=2:=by unfold pB;rw[ak4];have:=@yK (s.int=true) _ ⟨3,0,0,[]⟩;omega
 have hC:(pC s ev).length<=3:=by unfold pC;rw[ak4];have:=@yK (s.bool=true) _ ⟨4,0,0,[]⟩;omega
 have hD:(pD s ev).length<=4:=by unfold pD;rw[ak4];have:=@yK (s.str=true) _ ⟨5,0,0,[]⟩;omega
 have hE:∀i,(pE s ev i).length<=4+s.vars.length:=fun i=>by unfold pE;rw[ak4,alg,alq];omega
 have hF:(pF s ev).length<=5+s.vars.length:=by unfold pF;rw[ak4];have:=@yK (s.arr=true) _ ⟨6,s.bD,s.bE,[]⟩;have:=hE s.vars.length;omega
 have hG:(pG s ev).length<=6+s.vars.length:=by unfold pG;rw[ak4];have:=@yK (s.rc=true) _ ⟨7,0,0,s.fl⟩;omega
 have hH:(pH s ev).length<=7+s.vars.length:=by unfold pH;rw[ak4];have:=@yK (s.tg=true) _ ⟨8,0,0,s.tl⟩;omega
 exact⟨hA,hB,hC,hD,hE,hF,hG,hH⟩
theorem aiN{G}(s:EA)(ev:Int)(hv:s.vars.length<=2000)(hf:s.fl.length<=1000000)(ht:s.tl.length<=1000000)(bp:ij ev=false):HP prog G 25 [aO s,i64 ev] (fun r=>r=.d (.sl (some 4) ((dO s ev).map dZ))):=by
 rw[<-Mw];have hp:=Mx s ev;have c1:=Vh (G:=G) s.fl hf;have c2:=Vh (G:=G) s.tl ht;refine Km func25 rfl (by decide +kernel) (by simp[ntmps25]) fun B0 Dq=>?_;simp only[dK];refine eD (fp fun E=>?_);simp only[go_sem];refine CQ [2] (.agg [.bool s.plus,.bool s.al,.bool s.int,.bool s.bool,.bool s.str,.bool s.arr,.bool s.rc,.bool s.tg,.sl none (s.vars.map i64),i64 s.bD,i64 s.bE,.sl (some 2) (s.fl.map aP),.sl (some 2) (s.tl.map aP)]) rfl rfl ?_;simp only[go_sem];refine eD (fp fun E=>?_);simp only[go_sem];refine eD (xY [(1,.d (i64 ev)),(2,.d (.ptr (.agg [.bool s.plus,.bool s.al,.bool s.int,.bool s.bool,.bool s.str,.bool s.arr,.bool s.rc,.bool s.tg,.sl none (s.vars.map i64),i64 s.bD,i64 s.bE,.sl (some 2) (s.fl.map aP),.sl (some 2) (s.tl.map aP)]))),(5,.vw [99] 0 (pA s ev).length)] [([99],.arr (some 4) ((pA s ev).map dZ))] [99] (fun E=>?_) ?_)
 .simp only[go_sem];refine ck E ?_ ?_<;>intro g<;>simp only[go_sem]
  .skip
   refine oU (ak [([99],[14])]) ?_;simp only[pA];rw[if_pos g];simp only[go_sem];rw[dZ,lR,bp];rfl
  .refine oU (ak [([99],[7])]) ?_;simp only[pA];rw[if_neg (by rw[g];decide)];simp only[go_sem]
   skip
 refine eD (xY [(1,.d (i64 ev)),(2,.d (.ptr (.agg [.bool s.plus,.bool s.al,.bool s.int,.bool s.bool,.bool s.str,.bool s.arr,.bool s.rc,.bool s.tg,.sl none (s.vars.map i64),i64 s.bD,i64 s.bE,.sl (some 2) (s.fl.map aP),.sl (some 2) (s.tl.map aP)]))),(5,.vw [99] 0 (pB s ev).length)] [([99],.arr (some 4) ((pB s ev).map dZ))] [99] (fun E=>?_) ?_)
 .simp only[go_sem];refine ck E ?_ ?_<;>intro g<;>simp only[go_sem]
  .refine⟨by omega,?_⟩;refine oU (ak [([99],[20])]) ?_;simp only[pB];rw[if_pos g];simp only[go_sem];simp[dZ,lR,ij]
  .refine oU (ak [([99],[99])]) ?_;simp only[pB];rw[if_neg (by rw[g];decide)];simp only[go_sem];rw[alS];exact⟨rfl,rfl⟩
 refine eD (xY [(1,.d (i64 ev)),(2,.d (.ptr (.agg [.bool s.plus,.bool s.al,.bool s.int,.bool s.bool,.bool s.str,.bool s.arr,.bool s.rc,.bool s.tg,.sl none (s.vars.map i64),i64 s.bD,i64 s.bE,.sl (some 2) (s.fl.map aP),.sl (some 2) (s.tl.map aP)]))),(5,.vw [99] 0 (pC s ev).length)] [([99],.arr (some 4) ((pC s ev).map dZ))] [99] (fun E=>?_) ?_)
 .simp only[go_sem];refine ck E ?_ ?_<;>intro g<;>simp only[go_sem]
  .refine⟨by omega,?_⟩;refine oU (ak [([99],[26])]) ?_;simp only[pC];rw[if_pos g];simp only[go_sem];simp[dZ,lR,ij]
  .refine oU (ak [([99],[99])]) ?_;simp only[pC];rw[if_neg (by rw[g];decide)];simp only[go_sem];rw[alS];exact⟨rfl,rfl⟩
 refine eD (xY [(1,.d (i64 ev)),(2,.d (.ptr (.agg [.bool s.plus,.bool s.al,.bool s.int,.bool s.bool,.bool s.str,.bool s.arr,.bool s.rc,.bool s.tg,.sl none (s.vars.map i64),i64 s.bD,i64 s.bE,.sl (some 2) (s.fl.map aP),.sl (some 2) (s.tl.map aP)]))),(5,.vw [99] 0 (pD s ev).length)] [([99],.arr (some 4) ((pD s ev).map dZ))] [99] (fun E=>?_) ?_)
 .simp only[go_sem];refine ck E ?_ ?_<;>intro g<;>simp only[go_sem]
  .refine⟨by omega,?_⟩;refine oU (ak [([99],[32])]) ?_;simp only[pD];rw[if_pos g];simp only[go_sem];simp[dZ,lR,ij]
  .refine oU (ak [([99],[99])]) ?_;simp only[pD];rw[if_neg (by rw[g];decide)];simp only[go_sem];rw[alS];exact⟨rfl,rfl⟩
 refine eD (fp fun E=>?_);simp only[go_sem]
 refine bC E (X:={ i:Nat // i<=s.vars.length }) (fun x=>[(1,.d (i64 ev)),(2,.d (.ptr (.agg [.bool s.plus,.bool s.al,.bool s.int,.bool s.bool,.bool s.str,.bool s.arr,.bool s.rc,.bool s.tg,.sl none (s.vars.map i64),i64 s.bD,i64 s.bE,.sl (some 2) (s.fl.map aP),.sl (some 2) (s.tl.map aP)]))),(5,.vw [99] 0 (pE s ev x.1).length),(6,.d (i64 x.1))])
  (fun x=>[([99],.arr (some 4) ((pE s ev x.1).map dZ))]) [99] (fun x=>s.vars.length-x.1) ⟨0,ale _⟩ id ?_ ?_
 .simp only[go_sem];simp[pE]
 rintro⟨i,hi⟩ E0;refine bK E0 fun Q' hQ E'=>?_;simp only at hi ⊢;have Hq:=hp.2.2.2.2.1 i;simp only[go_sem];refine aI E' ?_ ?_<;>intro h1<;>simp only[go_sem]
 .have aq:i<s.vars.length:=by omega
  refine⟨by omega,?_⟩;rw[fe aq];simp only[go_sem];refine⟨by omega,?_⟩;rw[hQ];refine⟨⟨i+1,by omega⟩,by show s.vars.length-(i+1)<s.vars.length-i;omega,ak [([99],[48])],?_⟩;rw[aiM aq,aD ⟨by omega,by omega⟩];simp only[go_sem];simp[dZ,lR,ij]
 have h5:i=s.vars.length:=by omega
 subst h5;rw[hQ];simp only[go_sem];refine eD (xY [(1,.d (i64 ev)),(2,.d (.ptr (.agg [.bool s.plus,.bool s.al,.bool s.int,.bool s.bool,.bool s.str,.bool s.arr,.bool s.rc,.bool s.tg,.sl none (s.vars.map i64),i64 s.bD,i64 s.bE,.sl (some 2) (s.fl.map aP),.sl (some 2) (s.tl.map aP)]))),(5,.vw [99] 0 (pF s ev).length)] [([99],.arr (some 4) ((pF s ev).map dZ))] [99] (fun E=>?_) ?_)
 .simp only[go_sem];refine ck E ?_ ?_<;>intro g<;>simp only[go_sem]
  .refine⟨by have:=hp.2.2.2.2.1 s.vars.length;omega,?_⟩;refine oU (ak [([99],[58])]) ?_;simp only[pF];rw[if_pos g];simp only[go_sem];simp[dZ,lR,ij]
  .refine oU (ak [([99],[99])]) ?_;simp only[pF];rw[if_neg (by rw[g];decide)];simp only[go_sem];rw[alS];exact⟨rfl,rfl⟩
 refine eD (xY [(1,.d (i64 ev)),(2,.d (.ptr (.agg [.bool s.plus,.bool s.al,.bool s.int,.bool s.bool,.bool s.str,.bool s.arr,.bool s.rc,.bool s.tg,.sl none (s.vars.map i64),i64 s.bD,i64 s.bE,.sl (some 2) (s.fl.map aP),.sl (some 2) (s.tl.map aP)]))),(5,.vw [99] 0 (pG s ev).length)] [([99],.arr (some 4) ((pG s ev).map dZ))] [99] (fun E=>?_) ?_)
 .simp only[go_sem];refine ck E ?_ ?_<;>intro g<;>simp only[go_sem]
  .refine bd E c1 rfl rfl (by simp) ?_;rintro _ rfl;simp only[go_sem];refine⟨by omega,?_⟩;refine oU (ak [([99],[67])]) ?_;simp only[pG];rw[if_pos g];simp only[go_sem];simp[dZ,lR,ij]
  .refine oU (ak [([99],[99])]) ?_;simp only[pG];rw[if_neg (by rw[g];decide)];simp only[go_sem];rw[alS];exact⟨rfl,rfl⟩
 refine eD (xY [(1,.d (i64 ev)),(2,.d (.ptr (.agg [.bool s.plus,.bool s.al,.bool s.int,.bool s.bool,.bool s.str,.bool s.arr,.bool s.rc,.bool s.tg,.sl none (s.vars.map i64),i64 s.bD,i64 s.bE,.sl (some 2) (s.fl.map aP),.sl (some 2) (s.tl.map aP)]))),(5,.vw [99] 0 (pH s ev).length)] [([99],.arr (some 4) ((pH s ev).map dZ))] [99] (fun E=>?_) ?_)
 .simp only[go_sem];refine ck E ?_ ?_<;>intro g<;>simp only[go_sem]
  .refine bd E c2 rfl rfl (by simp) ?_;rintro _ rfl;simp only[go_sem];refine⟨by omega,?_⟩;refine oU (ak [([99],[76])]) ?_;simp only[pH];rw[if_pos g];simp only[go_sem];simp[dZ,lR,ij]
  .refine oU (ak [([99],[99])]) ?_;simp only[pH];rw[if_neg (by rw[g];decide)];simp only[go_sem];rw[alS];exact⟨rfl,rfl⟩
 refine fp fun E=>?_;simp only[go_sem];refine Kl (.inl rfl) Dq ?_;simp only[go_sem];refine⟨[([99],some 4,(pH s ev).map dZ)],?_⟩;simp only[go_sem]
end Go.Proofs.YtpmniabdmbmafaaGreatDoor

namespace Go.Proofs.YtpmniabdmbmafaaGreatDoor
open Go.Ab Tryz
theorem aiO(n:TN):okW (some 4) (aK n):=⟨rfl,by simp[eo,D.bR]⟩
theorem aiP{xs:List D}{ns:List TN}{root:Int}(h:qV xs ns):Wk (.agg [.sl (some 4) xs,i64 root]) (bU ns root):=by
 refine Wk.agg rfl (by simp[D.bR]) fun i a b ha hb=>?_
 match i,ha,hb with
 |1,ha,hb=>cases ha;cases hb;exact .refl _
 |0,ha,hb =>
   cases ha;cases hb;refine Wk.sl (by simp[h.len]) (fun b hb=>by obtain⟨n,_,rfl⟩:=ak6.1 hb;exact aiO n) fun i a b ha hb=>?_;rw[ala,ak8]at hb;obtain⟨n,hn,rfl⟩:=hb;have hi:=(akY.1 hn).1;have hg:=h.get i hi;have oM:i<xs.length:=by rw[h.len];exact hi
   have e1:xs.getD i .aY=a:=by simp[ha]
   have e2:ns[i]=n:=by
    have:=ak0 hi;rw[this]at hn;exact alo hn
   rw[e1,e2]at hg;obtain⟨F,rfl,hF⟩:=hg;refine⟨rfl,fun j c d hc hd=>?_⟩
   match j,hc,hd with
   |0,hc,hd=>cases hc;cases hd;exact .refl _
   |1,hc,hd=>cases hc;cases hd;exact .refl _
   |2,hc,hd=>cases hc;cases hd;exact .refl _
   |3,hc,hd =>
     cases hc;cases hd;obtain⟨rfl,hF⟩|rfl:=hF
     .rw[hF];exact .ao _
     .exact .refl _
def tsT:List TS:=[.sl (some 4) [.int .i64,.int .i64,.int .i64,.sl (some 2) [.str,.int .i64]],.int .i64]
def In(L:D)(ns:List TN):Prop:=acm L ns∧ns.length<=maxLen∧∀n∈ns,n.l.length<=maxLen∧∀f∈n.l,f.1.length<=maxLen
theorem Vi:∀{xs:List D},(∀x∈xs,okW (some 2) x∧ig [.str,.int .i64] x.cells)->∃l:List da,xs=l.map aP∧∀f∈l,f.1.length<=maxLen
 |[],_=>⟨[],rfl,by simp⟩
 |x::xs,h=>by
   obtain⟨l,hl,hf⟩:=Vi fun y hy=>h y (ald _ hy);obtain⟨h1,h2⟩:=h x alb
   cases x with
   |agg cs =>
     have h2:ig [.str,.int .i64] cs:=h2
     match cs,h2 with
     |[.str s,.int k n],h2 =>
       obtain⟨g1,g2,_⟩:=h2;obtain rfl:k=.i64:=g2.1
       exact⟨(s,n)::l,by rw[hl];rfl,fun f pY=>by
        rcases alc.1 pY with rfl|pY
        .exact g1
        .exact hf f pY⟩
   |_=>simp[okW]at h1
theorem aiQ{x:D}(h1:okW (some 4) x)(h2:ig [.int .i64,.int .i64,.int .i64,.sl (some 2) [.str,.int .i64]] x.cells):∃n,Fi x n∧n.l.length<=maxLen∧∀f∈n.l,f.1.length<=maxLen:=by
 cases x with
 |agg cs =>
   have h2:ig [.int .i64,.int .i64,.int .i64,.sl (some 2) [.str,.int .i64]] cs:=h2
   match cs,h2 with
   |[.int k1 a,.int k2 b,.int k3 c,F],h2 =>
     obtain⟨g1,g2,g3,g4,_⟩:=h2;obtain rfl:k1=.i64:=g1.1;obtain rfl:k2=.i64:=g2.1;obtain rfl:k3=.i64:=g3.1
     cases F with
     |ao=>exact⟨⟨a,b,c,[]⟩,⟨.ao,rfl,.inl ⟨rfl,rfl⟩⟩,by simp,by simp⟩
     |sl w xs =>
       obtain⟨rfl,g5,g6⟩:=g4;obtain⟨l,rfl,hl⟩:=Vi g6;exact⟨⟨a,b,c,l⟩,⟨_,rfl,.inr rfl⟩,by simpa using g5,hl⟩
     |_=>exact g4.elim
 |_=>simp[okW]at h1
theorem Vj:∀{xs:List D},(∀x∈xs,okW (some 4) x∧ig [.int .i64,.int .i64,.int .i64,.sl (some 2) [.str,.int .i64]] x.cells)->∃ns,qV xs ns∧∀n∈ns,n.l.length<=maxLen∧∀f∈n.l,f.1.length<=maxLen
 |[],_=>⟨[],trivial,by simp⟩
 |x::xs,h=>by
   obtain⟨ns,h1,h2⟩:=Vj fun y hy=>h y (ald _ hy);obtain⟨g1,g2⟩:=h x alb;obtain⟨n,k1,k2⟩:=aiQ g1 g2
   exact⟨n::ns,⟨k1,h1⟩,fun m hm=>by
    rcases alc.1 hm with rfl|hm
    .exact k2
    .exact h2 m hm⟩
theorem aiR{ds:List D}(h:ig tsT ds):∃L root ns,ds=[L,i64 root]∧In L ns:=by
 match ds,h with
 |[L,.int k n],h =>
   obtain⟨h1,h2,_⟩:=h;obtain rfl:k=.i64:=h2.1
   cases L with
   |ao=>exact⟨.ao,n,[],rfl,.inl ⟨rfl,rfl⟩,by simp,by simp⟩
   |sl w xs =>
     obtain⟨rfl,g1,g2⟩:=h1;obtain⟨ns,k1,k2⟩:=Vj g2;exact⟨_,n,ns,rfl,.inr ⟨xs,rfl,k1⟩,by rw[<-k1.len];exact g1,k2⟩
   |_=>exact h1.elim
theorem Vk:maxLen<=9223372036854775807:=by unfold maxLen;omega
theorem aiS(ns:List TN)(root:Int):Wk (qU ns root) (bU ns root):=by
 refine Wk.agg rfl (by simp[D.bR]) fun i a b ha hb=>?_
 match i,ha,hb with
 |1,ha,hb=>cases ha;cases hb;exact .refl _
 |0,ha,hb =>
   cases ha;cases hb
   cases ns with
   |nil=>exact .ao _
   |cons n r=>exact .refl _
theorem aiT(ns:List TN)(most:Nat)(hm:most<=1000):(p7 ns most).length<=2001∧(p7 ns most).length<=ns.length:=by
 simp only[p7,alg,alq,jV];split<;>omega
theorem aiU{L:D}{ns:List TN}(h:In L ns)(most:Nat)(hm:most<=1000):Gc (p7 ns most):=by
 have hx:=Vk;refine⟨by have:=(aiT ns most hm).1;omega,fun n hn=>?_⟩;obtain⟨m,kF,rfl⟩:=ak6.1 hn;have gj:=alL kF;obtain⟨h1,h2⟩:=h.2.2 m gj;refine⟨?_,fun f hf=>?_⟩
 .simp only[iK,alq];omega
 .have:=h2 f (alL hf);omega
theorem aiV{G}{L:D}{ns:List TN}(root:Int)(most:Nat)(h:In L ns)(hm:most<=1000):HP prog G 6 [.agg [L,i64 root],i64 most] (fun r=>r=.d (qU (p7 ns most) root)):=by
 have hx:=Vk;obtain⟨rfl,rfl⟩|⟨xs,rfl,hr⟩:=h.1
 .refine(PB [] [] root most trivial (by simp) hm).wk ⟨Wk.agg rfl (by simp[D.bR]) fun i a b ha hb=>?_,.refl _,trivial⟩
  match i,ha,hb with
  |0,ha,hb=>cases ha;cases hb;exact .ao _
  |1,ha,hb=>cases ha;cases hb;exact .refl _
 .exact PB xs ns root most hr (by have:=h.2.1;omega) hm
end Go.Proofs.YtpmniabdmbmafaaGreatDoor

namespace Go.Proofs.YtpmniabdmbmafaaGreatDoor
open Go.Ab Tryz
theorem Hr(lk:Int):∀(P:List TN) (S:List TN×Nat),(P.foldl (il lk) S).1.length=S.1.length+2*P.length
 |[],S=>by simp
 |x::P,S=>by
   rw[List.foldl_cons,Hr lk P,List.length_cons];simp[il];omega
theorem Vl(s:EA)(ev:Int)(h:s.vars.length<=2000):(dO s ev).length<=2007:=by
 rw[<-Mw];have:=(Mx s ev).2.2.2.2.2.2.2;omega
theorem Vm{R:List EA}(h:∀s∈R,s.vars.length<=2000):∀i,i<=R.length->(iM R i).length<=R.length+i*4015
 |0,_=>by simp[iM]
 |i+1,hi=>by
   have h1:=Vm h i (by omega)
   have h2:R.getD i default∈R:=by
    rw[akX,ak0 (by omega)];exact ak2 _
   have h3:=Vl (R.getD i default) (cR (R.getD i default).plus) (h _ h2);show(kM _ _ _).length<=_;unfold kM o5;rw[alX,Hr,ak4,List.length_singleton];omega
theorem Vn(R:List EA):∀i,R.length<=(iM R i).length
 |0=>by simp[iM]
 |i+1=>by
   have h1:=Vn R i;show _<=(kM _ _ _).length;unfold kM o5;rw[alX,Hr,ak4,List.length_singleton];omega
theorem aiW{L:List TN}{n:Nat}(h:n=L.length):List.take n (L.map dZ)=L.map dZ:=ak5 (by simp;omega)
theorem aiX(lk:Int){P:List TN}{S:List TN×Nat}{k:Nat}(h:k<P.length):(P.take (k+1)).foldl (il lk) S=il lk ((P.take k).foldl (il lk) S) P[k]:=by
 rw[ak9 h,amN];rfl
def gB(p:Bool)(L P:List TN)(k:Nat):List TN×Nat:=(P.take k).foldl (il (cy p)) (L++[⟨cQ p,0,0,[]⟩],L.length)
theorem Hs{p:Bool}{L P:List TN}{k:Nat}(h:k<P.length):gB p L P (k+1)=il (cy p) (gB p L P k) P[k]:=aiX _ h
theorem D5(p:Bool)(L P:List TN)(k:Nat)(h:k<=P.length):(gB p L P k).1.length=L.length+1+2*k:=by
 unfold gB;rw[Hr,ak4,List.length_singleton,alq];omega
theorem Ht(p:Bool)(L P:List TN)(k:Nat)(h:k<=P.length):(gB p L P k).2=L.length+2*k:=by
 cases k with
 |zero=>rfl
 |succ k =>
   rw[Hs h];have:=D5 p L P k (by omega);simp only[il];omega
theorem Vo{P:List TN}{k:Nat}(h:k<P.length):(P.map dZ).getD k .aY=.agg [i64 P[k].k,i64 P[k].a,i64 P[k].b,lR P[k]]:=by simp[h,dZ]
theorem My(p:Bool)(a b:Int):dZ ⟨cy p,a,b,[]⟩=.agg [i64 (cy p),i64 a,i64 b,.ao]:=by cases p<;>rfl
theorem Vp(n:TN):lR n=.ao∨lR n=.sl (some 2) (n.l.map aP):=by
 unfold lR;split
 .exact .inr rfl
 .exact .inl rfl
theorem Vq{p:Bool}{L P:List TN}{k:Nat}{F:D}(h:k<P.length)(hF:lR P[k]=F):(gB p L P k).1.map dZ++[.agg [i64 P[k].k,i64 P[k].a,i64 P[k].b,F],.agg [i64 (cy p),i64 ((gB p L P k).2:Nat),i64 ((gB p L P k).1.length:Nat),.ao]]=(gB p L P (k+1)).1.map dZ:=by
 rw[Hs h];simp only[il,alh,alf,alJ,My];rw[dZ,hF]
theorem aiY{G}(R:List EA)(st:Int)(hR:R.length<=2000)(hs:∀s∈R,s.vars.length<=2000∧s.fl.length<=1000000∧s.tl.length<=1000000):HP prog G 10 [ct R st] (fun r=>r=.d (.agg [.sl (some 4) ((bw R).map dZ),i64 st])):=by
 unfold ct;refine fK func10 rfl (by decide +kernel) (by simp[ntmps10]) (aS fun E=>?_);simp only[go_sem];refine eU E [1] (.agg [.sl (some 13) (R.map aO),i64 st]) rfl rfl ?_;simp only[go_sem];refine nQ E [3] 0 99 (some 4) [.d .ao,.d (i64 st)] rfl rfl (by rw[aT];decide) ?_;simp only[go_sem]
 refine bC E (X:={ i:Nat // i<=R.length }) (fun x=>[(1,.d (.ptr (.agg [.sl (some 13) (R.map aO),i64 st]))),(2,.bx [2] 0),(3,.bx [3] 0),(4,.d (i64 x.1))])
  (fun x=>[([2],.box [.d .ao,.d (i64 0)]),([3],.box [.vw [99] 0 x.1,.d (i64 st)]),([99],.arr (some 4) ((List.replicate x.1 (⟨0,0,0,[]⟩:TN)).map dZ))]) [99,3,2] (fun x=>R.length-x.1) ⟨0,ale _⟩ id ?_ ?_
 .simp only[go_sem]
  all_goals (and_intros<;>first|rfl|trivial)
 rintro⟨i,hi⟩ E0;refine bK E0 fun Q' hQ E'=>?_;simp only at hi ⊢;simp only[go_sem];refine aI E' ?_ ?_<;>intro h1<;>simp only[go_sem]
 .refine⟨by omega,?_⟩;rw[hQ];refine⟨⟨i+1,by omega⟩,by show R.length-(i+1)<R.length-i;omega,ak [([99],[27])],?_⟩;rw[aD ⟨by omega,by omega⟩,aiW (by simp),List.replicate_succ',alh];simp only[go_sem];exact⟨rfl,rfl⟩
 have h5:i=R.length:=by omega
 subst h5;rw[hQ];simp only[go_sem]
 refine bC E (X:={ i:Nat // i<=R.length }) (fun x=>[(1,.d (.ptr (.agg [.sl (some 13) (R.map aO),i64 st]))),(2,.bx [2] 0),(3,.bx [3] 0),(5,.d (i64 x.1))])
  (fun x=>[([2],.box [.d .ao,.d (i64 0)]),([3],.box [.vw [99] 0 (iM R x.1).length,.d (i64 st)]),([99],.arr (some 4) ((iM R x.1).map dZ))]) [99,3,2] (fun x=>R.length-x.1) ⟨0,ale _⟩ id ?_ ?_
 .simp only[go_sem];simp[iM]
 rintro⟨i,hi⟩ E0;refine bK E0 fun Q' hQ E'=>?_;simp only at hi ⊢;simp only[go_sem];refine aI E' ?_ ?_<;>intro h1<;>simp only[go_sem]
 .have bf:i<R.length:=by omega
  have oY:=hs _ (ak2 bf);have cK:R.getD i default=R[i]:=by simp[bf]
  refine⟨by omega,?_⟩;rw[tw bf];generalize hS:R[i]=s at *
  simp only[dK];simp only[go_sem];have hUl:=Vm (fun s bm=>(hs s bm).1) i hi;have hUg:=Vn R i;have LA:=Vl s (cR s.plus) oY.1;have dy:iM R (i+1)=kM (iM R i) i s:=by rw[iM,cK]
  have cP:=aiN (G:=G) s (cR s.plus) oY.1 oY.2.1 oY.2.2 (by cases s.plus<;>rfl);simp only[dK]at cP;rw[kM]at dy;generalize iM R i=L at hUl hUg dy ⊢;generalize hPl:s.plus=p at *
  refine ck E' ?_ ?_<;>intro g<;>simp only[go_sem]
  .subst g;refine⟨by omega,?_⟩;refine bd E' cP rfl rfl (by simp) ?_;rintro _ rfl;simp only[go_sem];rw[aD ⟨by omega,by omega⟩,show((L.length+1:Nat):Int)-1=((L.length:Nat):Int) by omega];generalize dO s (cR true)=P at *
   refine bC E' (X:={ k:Nat // k<=P.length }) (fun x=>[(1,.d (.ptr (.agg [.sl (some 13) (R.map aO),i64 st]))),(2,.bx [2] 0),(3,.bx [3] 0),(5,.d (i64 i)),(7,.d (i64 (cy true))),(10,.d (i64 ((gB true L P x.1).2:Nat))),(11,.d (.sl (some 4) (P.map dZ))),(12,.d (i64 x.1))])
    (fun x=>[([2],.box [.d .ao,.d (i64 0)]),([3],.box [.vw [99] 0 (gB true L P x.1).1.length,.d (i64 st)]),([99],.arr (some 4) ((gB true L P x.1).1.map dZ))]) [99,3,2] (fun x=>P.length-x.1) ⟨0,ale _⟩ (ak [([99],[48])]) ?_ ?_
   .simp only[go_sem];simp[gB,dZ,lR,cy,cQ,ij]
   rintro⟨k,hk⟩ E1;refine bK E1 fun Q2 cz E2=>?_;simp only at hk ⊢;have cF:=D5 true L P k hk;have fD:=Ht true L P k hk;simp only[go_sem];refine aI E2 ?_ ?_<;>intro h2<;>simp only[go_sem]
   .have aC:k<P.length:=by omega
    have yI:=Hs (p:=true) (L:=L) aC;refine bz mixed E2 fun X=>?_;simp only[go_sem];refine⟨by omega,?_⟩;rw[Vo aC];have TC:=D5 true L P (k+1) (by omega);have aiZ:=Ht true L P (k+1) (by omega);rcases Vp P[k]with hF|hF
    all_goals
     have yZ:=Vq (p:=true) (L:=L) aC hF;rw[hF];simp only[go_sem];refine⟨by omega,?_⟩;(try refine⟨by decide +kernel,?_⟩);rw[cz];simp only[go_sem];refine⟨⟨k+1,by omega⟩,by show P.length-(k+1)<P.length-k;omega,ak [([99],[76])],?_⟩;rw[<-yZ];simp only[go_sem];have e1:(((gB true L P k).1.length+2:Nat):Int)-1=((gB true L P (k+1)).2:Nat):=by omega
     have e2:(gB true L P k).1.length+2=(gB true L P (k+1)).1.length:=by omega
     rw[aD ⟨by omega,by omega⟩,aD ⟨by omega,by omega⟩,e1,e2];exact⟨⟨rfl,rfl⟩,rfl⟩
   have h5:k=P.length:=by omega
   subst h5;rw[cz];simp only[go_sem];refine⟨by omega,?_⟩;rw[hQ];refine⟨⟨i+1,by omega⟩,by show R.length-(i+1)<R.length-i;omega,id,?_⟩;rw[dy,aD ⟨by omega,by omega⟩];simp only[go_sem];rw[show o5 true L P=gB true L P P.length from by rw[gB,alk];rfl,amr,My,alX];exact⟨rfl,rfl,rfl⟩
  .subst g;refine⟨by omega,?_⟩;refine bd E' cP rfl rfl (by simp) ?_;rintro _ rfl;simp only[go_sem];rw[aD ⟨by omega,by omega⟩,show((L.length+1:Nat):Int)-1=((L.length:Nat):Int) by omega];generalize dO s (cR false)=P at *
   refine bC E' (X:={ k:Nat // k<=P.length }) (fun x=>[(1,.d (.ptr (.agg [.sl (some 13) (R.map aO),i64 st]))),(2,.bx [2] 0),(3,.bx [3] 0),(5,.d (i64 i)),(7,.d (i64 (cy false))),(10,.d (i64 ((gB false L P x.1).2:Nat))),(11,.d (.sl (some 4) (P.map dZ))),(12,.d (i64 x.1))])
    (fun x=>[([2],.box [.d .ao,.d (i64 0)]),([3],.box [.vw [99] 0 (gB false L P x.1).1.length,.d (i64 st)]),([99],.arr (some 4) ((gB false L P x.1).1.map dZ))]) [99,3,2] (fun x=>P.length-x.1) ⟨0,ale _⟩ (ak [([99],[48])]) ?_ ?_
   .simp only[go_sem];simp[gB,dZ,lR,cy,cQ,ij]
   rintro⟨k,hk⟩ E1;refine bK E1 fun Q2 cz E2=>?_;simp only at hk ⊢;have cF:=D5 false L P k hk;have fD:=Ht false L P k hk;simp only[go_sem];refine aI E2 ?_ ?_<;>intro h2<;>simp only[go_sem]
   .have aC:k<P.length:=by omega
    have yI:=Hs (p:=false) (L:=L) aC;refine bz mixed E2 fun X=>?_;simp only[go_sem];refine⟨by omega,?_⟩;rw[Vo aC];have TC:=D5 false L P (k+1) (by omega);have aiZ:=Ht false L P (k+1) (by omega);rcases Vp P[k]with hF|hF
    all_goals
     have yZ:=Vq (p:=false) (L:=L) aC hF;rw[hF];simp only[go_sem];refine⟨by omega,?_⟩;(try refine⟨by decide +kernel,?_⟩);rw[cz];simp only[go_sem];refine⟨⟨k+1,by omega⟩,by show P.length-(k+1)<P.length-k;omega,ak [([99],[76])],?_⟩;rw[<-yZ];simp only[go_sem];have e1:(((gB false L P k).1.length+2:Nat):Int)-1=((gB false L P (k+1)).2:Nat):=by omega
     have e2:(gB false L P k).1.length+2=(gB false L P (k+1)).1.length:=by omega
     rw[aD ⟨by omega,by omega⟩,aD ⟨by omega,by omega⟩,e1,e2];exact⟨⟨rfl,rfl⟩,rfl⟩
   have h5:k=P.length:=by omega
   subst h5;rw[cz];simp only[go_sem];refine⟨by omega,?_⟩;rw[hQ];refine⟨⟨i+1,by omega⟩,by show R.length-(i+1)<R.length-i;omega,id,?_⟩;rw[dy,aD ⟨by omega,by omega⟩];simp only[go_sem];rw[show o5 false L P=gB false L P P.length from by rw[gB,alk];rfl,amr,My,alX];exact⟨rfl,rfl,rfl⟩
 have h5:i=R.length:=by omega
 subst h5;rw[hQ];simp only[go_sem];refine⟨[([99],some 4,(iM R R.length).map dZ)],?_⟩;simp only[go_sem];rfl
theorem ai0(n:TN)(h:ij n.k=true∨n.l=[]):Fi (dZ n) n:=by
 unfold dZ lR;split
 .exact⟨_,rfl,.inr rfl⟩
 .rename_i hw;exact⟨_,rfl,.inl ⟨rfl,h.resolve_left hw⟩⟩
theorem Vr:∀{l:List TN},(∀n∈l,ij n.k=true∨n.l=[])->qV (l.map dZ) l
 |[],_=>trivial
 |n::r,h=>⟨ai0 n (h n alb),Vr fun m hm=>h m (ald _ hm)⟩
theorem Vs{G}(R:List EA)(st:Int)(hR:R.length<=2000)(hs:∀s∈R,s.vars.length<=2000∧s.fl.length<=1000000∧s.tl.length<=1000000)(hw:∀n∈bw R,ij n.k=true∨n.l=[]):HP prog G 10 [ct R st] (fun r=>r=.d (bU (bw R) st)) :=
 p9 (bZ.mono (aiY (G:=G) R st hR hs) fun r _ hr=>⟨⟨_,hr.1,aiP (Vr hw)⟩,hr.2⟩)
end Go.Proofs.YtpmniabdmbmafaaGreatDoor

namespace Go.Proofs.YtpmniabdmbmafaaGreatDoor
open Go.Ab
def eG(x:Int):List Int->Nat
 |[]=>0
 |y::r=>if y<x then eG x r+1 else 0
theorem Vt(x:Int):∀l:List Int,eG x l<=l.length
 |[]=>ali _
 |y::r=>by
   rw[eG];split
   .exact Nat.succ_le_succ (Vt x r)
   .exact ale _
theorem Hu{x:Int}:∀{l:List Int} {i:Nat} (h:i<l.length),i<eG x l->l[i]<x
 |[],i,h,_=>absurd h (ami _)
 |y::r,i,h,hi=>by
   rw[eG]at hi;split at hi
   .rename_i hy
    cases i with
    |zero=>exact hy
    |succ i=>exact Hu (l:=r) (by simpa using h) (by omega)
   .exact absurd hi (ami _)
theorem Hv{x:Int}:∀{l:List Int} (h:eG x l<l.length),x<=l[eG x l]
 |[],h=>absurd h (ami _)
 |y::r,h=>by
   by_cases hy:y<x
   .have e:eG x (y::r)=eG x r+1:=by rw[eG,if_pos hy]
    have h':eG x r<r.length:=by rw[e]at h;simpa using h
    have:=Hv h';simp only[e,List.getElem_cons_succ];exact this
   .have e:eG x (y::r)=0:=by rw[eG,if_neg hy]
    simp only[e,List.getElem_cons_zero];omega
def jL(l:List Int)(x:Int):List Int:=if x∈l then l else l.take (eG x l)++x::l.drop (eG x l)
theorem ai1(l:List Int)(x z:Int):z∈jL l x↔z∈l∨z=x:=by
 unfold jL;split
 .rename_i h;exact⟨.inl,fun g=>g.elim id fun e=>e▸h⟩
 .rw[ak1,alc];have:=amY (eG x l) l;have hm:z∈l↔z∈l.take (eG x l)∨z∈l.drop (eG x l):=by rw[<-ak1,this]
  rw[hm];constructor
  .rintro(h|rfl|h)
   .exact .inl (.inl h)
   .exact .inr rfl
   .exact .inl (.inr h)
  .rintro((h|h)|rfl)
   .exact .inl h
   .exact .inr (.inr h)
   .exact .inr (.inl rfl)
theorem ai2{l:List Int}(h:gJ l)(x:Int):gJ (jL l x):=by
 unfold jL;split
 .exact h
 .rename_i hx
  have h1:∀z∈l.take (eG x l),z<x:=fun z hz=>by
   obtain⟨i,hi,rfl⟩:=alx hz;rw[alq]at hi;rw[am3];exact Hu (by omega) (by omega)
  have h2:∀z∈l.drop (eG x l),x<z:=fun z hz=>by
   obtain⟨i,hi,rfl⟩:=alx hz;rw[List.length_drop]at hi;have h3:=Hv (x:=x) (l:=l) (by omega);have aB:l[eG x l]'(by omega)≠x:=fun e=>hx (e▸ak2 _);rw[List.getElem_drop]
   cases i with
   |zero=>simp only[Nat.add_zero];omega
   |succ i =>
     have:=amk.1 h (eG x l) (eG x l+(i+1)) (by omega) (by omega) (by omega);omega
  rw[gJ,List.pairwise_append];refine⟨h.sublist (anU _ _),amX.2 ⟨h2,h.sublist (List.drop_sublist _ _)⟩,fun a ha b hb=>?_⟩;have:=h1 a ha;rcases alc.1 hb with rfl|hb
  .exact this
  .have:=h2 b hb;omega
theorem Vu(l:List Int):l.foldl jL []=bL l:=by
 have key:∀(r a:List Int),gJ a->gJ (r.foldl jL a)∧∀z,z∈r.foldl jL a↔z∈a∨z∈r:=by
  intro r
  induction r with
  |nil=>intro a ha;exact⟨ha,by simp⟩
  |cons x r ih =>
    intro a ha;obtain⟨i1,i2⟩:=ih (jL a x) (ai2 ha x);refine⟨i1,fun z=>?_⟩;rw[List.foldl_cons,i2,ai1,alc];constructor
    .rintro((h|h)|h)
     .exact .inl h
     .exact .inr (.inl h)
     .exact .inr (.inr h)
    .rintro(h|h|h)
     .exact .inl (.inl h)
     .exact .inl (.inr h)
     .exact .inr h
 obtain⟨k1,k2⟩:=key l [] .nil;exact(Gg k1 fun x=>by rw[k2];simp).symm
end Go.Proofs.YtpmniabdmbmafaaGreatDoor

namespace Go.Proofs.YtpmniabdmbmafaaGreatDoor
open Go.Ab Tryz
theorem Vv{l:List Int}(h:gJ l){x:Int}(hn:∀hi:eG x l<l.length,l[eG x l]≠x):x∉l:=fun hm=>by
 obtain⟨k,hk,hkx⟩:=alx hm;have h1:¬k<eG x l:=fun g=>by have:=Hu hk g;omega
 have hp:eG x l<l.length:=by omega
 have h2:=Hv hp;have h3:=hn hp;rcases alP (eG x l) k with g|g
 .have:=amk.1 h (eG x l) k hp hk g;omega
 .have e:k=eG x l:=by omega
  subst e;exact h3 hkx
theorem w8{G}(l:List Int)(hl:l.length<=1000000000):HP prog G 47 [aL l] (fun r=>r=.d (aL (bL l))):=by
 refine p9 ?_;unfold aL;refine fK func47 rfl (by decide +kernel) (by simp[ntmps47]) (aS fun E=>?_);simp only[go_sem]
 refine bC E (X:={ x:Nat×List Int // x.1<=l.length∧x.2=(l.take x.1).foldl jL []∧x.2.length<=x.1 }) (fun x=>[(0,.d (.sl none (l.map i64))),(3,.vw [98] 0 x.1.2.length),(4,.d (i64 x.1.1))])
  (fun x=>[([98],.arr none (x.1.2.map i64))]) [98] (fun x=>l.length-x.1.1) ⟨(0,[]),ale _,rfl,ali _⟩ (ak [([98],[6])]) ?_ ?_
 .simp only[go_sem]
  all_goals first|rfl|(and_intros<;>first|rfl|trivial)
 rintro⟨⟨j,out⟩,hj,ho,qg⟩ E0;refine bK E0 fun Q' hQ E'=>?_;simp only at hj ho qg ⊢;simp only[go_sem];refine aI E' ?_ ?_<;>intro h1<;>simp only[go_sem]
 .have aX:j<l.length:=by omega
  have bS:(l.map i64).getD j .aY=i64 l[j]:=fe aX;generalize hx:l[j]=x at bS;have oE:=Vt x out;have Vw:gJ out:=by rw[ho,Vu];exact Gf _
  have dy:(l.take (j+1)).foldl jL []=jL out x:=by rw[ak9 aX,amN,<-ho,hx];rfl
  refine bC E' (X:={ i:Nat // i<=eG x out }) (fun y=>[(0,.d (.sl none (l.map i64))),(3,.vw [98] 0 out.length),(4,.d (i64 j)),(5,.d (i64 y.1))])
   (fun _=>[([98],.arr none (out.map i64))]) [98] (fun y=>out.length-y.1) ⟨0,ale _⟩ id ?_ ?_
  .simp only[go_sem]
   all_goals first|rfl|(and_intros<;>first|rfl|trivial)
  rintro⟨i,hi⟩ E1;refine bK E1 fun Q2 cz E2=>?_;simp only at hi ⊢;simp only[go_sem];refine bz mixed E2 fun X=>?_;simp only[go_sem];refine zx X ?_ ?_<;>intro h2<;>simp only[go_sem]
  .have eP:i<out.length:=by omega
   refine⟨by omega,?_⟩;rw[fe eP];simp only[go_sem];refine⟨by omega,?_⟩;rw[bS];simp only[go_sem];(try refine⟨by decide +kernel,?_⟩);refine aI E2 ?_ ?_<;>intro h3<;>simp only[go_sem]
   .have rz:i<eG x out:=by
     rcases alP i (eG x out)with g|g
     .exact g
     .have e:i=eG x out:=by omega
      subst e;have:=Hv eP;omega
    rw[cz];simp only[go_sem];refine⟨⟨i+1,rz⟩,by show out.length-(i+1)<out.length-i;omega,id,?_⟩;simp only[go_sem];rw[aD ⟨by omega,by omega⟩]
    and_intros<;>first|rfl|trivial
   .have rz:i=eG x out:=by
     rcases alP i (eG x out)with g|g
     .exact absurd (Hu eP g) h3
     .omega
    rw[cz];simp only[go_sem];refine bz mixed E' fun X=>?_;simp only[go_sem];refine zx X (fun h4=>?_) (fun h4=>absurd (by omega) h4)<;>simp only[go_sem];refine⟨by omega,?_⟩;rw[fe eP];simp only[go_sem];refine⟨by omega,?_⟩;rw[bS];simp only[go_sem];(try refine⟨by decide +kernel,?_⟩);refine aI E' ?_ ?_<;>intro h5<;>simp only[go_sem]
    .rw[hQ];simp only[go_sem];refine⟨⟨(j+1,out),aX,by rw[dy,jL,if_pos (h5▸ak2 eP)],by show out.length<=j+1;omega⟩,by show l.length-(j+1)<l.length-j;omega,id,?_⟩;simp only[go_sem];rw[aD ⟨by omega,by omega⟩]
     and_intros<;>first|rfl|trivial
    .refine bz mixed E' fun X=>?_;simp only[go_sem];refine⟨⟨by omega,by omega⟩,by simp;omega,⟨by omega,by omega⟩,?_⟩;rw[bS];simp only[go_sem];refine⟨by simp;omega,⟨by omega,by omega,by omega⟩,by simp;omega,by decide +kernel,?_⟩;have bY:x∉out:=Vv Vw (fun hi=>by subst rz;exact h5);have aU:jL out x=out.take i++x::out.drop i:=by rw[jL,if_neg bY,<-rz]
     have bF:(jL out x).length=out.length+1:=by rw[aU];simp;omega
     rw[hQ];refine⟨⟨(j+1,jL out x),aX,dy.symm,by show(jL out x).length<=j+1;omega⟩,by show l.length-(j+1)<l.length-j;omega,ak [([98],[59])],?_⟩;simp only[go_sem];rw[aD ⟨by omega,by omega⟩,bF,aU];have e1:(List.take (i-0) (out.map i64)).length=i:=by simp;omega
     have e2:(List.take (out.length-i) (List.drop i (out.map i64)))=(out.drop i).map i64:=by rw[ak5 (by simp),amT]
     have e3:List.take (i-0) (out.map i64)=(out.take i).map i64:=by rw[Nat.sub_zero,am0]
     rw[e1,e2,e3,ak5 (by simp;omega)]
     and_intros<;>first|rfl|trivial|(simp;omega)|simp
  .have eP:i=out.length:=by omega
   have rz:i=eG x out:=by omega
   (try refine⟨by decide +kernel,?_⟩);rw[cz];simp only[go_sem];refine bz mixed E' fun X=>?_;simp only[go_sem];refine zx X (fun h4=>absurd h4 (by omega)) (fun h4=>?_);simp only[go_sem];(try refine⟨by decide +kernel,?_⟩);refine bz mixed E' fun X=>?_;simp only[go_sem];refine⟨⟨by omega,by omega⟩,by simp;omega,⟨by omega,by omega⟩,?_⟩;rw[bS];simp only[go_sem];refine⟨by simp;omega,⟨by omega,by omega,by omega⟩,by simp;omega,by decide +kernel,?_⟩;have bY:x∉out:=Vv Vw (fun hi=>absurd hi (by omega));have aU:jL out x=out.take i++x::out.drop i:=by rw[jL,if_neg bY,<-rz]
   have bF:(jL out x).length=out.length+1:=by rw[aU];simp;omega
   rw[hQ];refine⟨⟨(j+1,jL out x),aX,dy.symm,by show(jL out x).length<=j+1;omega⟩,by show l.length-(j+1)<l.length-j;omega,ak [([98],[59])],?_⟩;simp only[go_sem];rw[aD ⟨by omega,by omega⟩,bF,aU];have e1:(List.take (i-0) (out.map i64)).length=i:=by simp;omega
   have e2:(List.take (out.length-i) (List.drop i (out.map i64)))=(out.drop i).map i64:=by rw[ak5 (by simp),amT]
   have e3:List.take (i-0) (out.map i64)=(out.take i).map i64:=by rw[Nat.sub_zero,am0]
   rw[e1,e2,e3,ak5 (by simp;omega)]
   and_intros<;>first|rfl|trivial|(simp;omega)|simp
 .have gT:j=l.length:=by omega
  subst gT;rw[alk,Vu]at ho;subst ho;rw[hQ];simp only[go_sem];refine⟨[([98],none,(bL l).map i64)],?_⟩;simp only[go_sem];exact⟨_,rfl,.refl _⟩
end Go.Proofs.YtpmniabdmbmafaaGreatDoor

namespace Go.Proofs.YtpmniabdmbmafaaGreatDoor
open Go.Ab Tryz
theorem rA{l:List Int}{p:Int->Bool}{i:Nat}(h:i<l.length)(ha:(l.take i).any p=false)(hp:p l[i]=false):(l.take (i+1)).any p=false:=by
 rw[ak9 h,List.any_append,ha];simp[hp]
theorem Vx{l:List Int}{p:Int->Bool}{i:Nat}(h:i<l.length)(ha:(l.take i).any p=false)(hp:p l[i]=true):rm p l=(i:Int):=by
 have h1:l.any p=true:=alG.2 ⟨_,ak2 h,hp⟩
 have h2:l.findIdx p=i:=(List.findIdx_eq h).2 ⟨hp,fun j hj=>by
  have:=afs ha (l[j]) (by
   have:j<(l.take i).length:=by rw[alq];omega
   have h3:=ak2 this
   rwa [am3]at h3)
  exact this⟩
 rw[rm,if_pos h1,h2]
theorem Vy{l:List Int}{p:Int->Bool}(ha:l.any p=false):rm p l = -1:=by
 rw[rm,ha,if_neg (by simp)]
theorem Vz{G}(ns:List TN)(root:Int)(l:List Int)(k:Int)(hn:ns.length<=1000000)(hl:l.length<=1000000)(hk:∀x∈l,bI ns x) :
  HP prog G 124 [bU ns root,aL l,i64 k] (fun r=>r=.d (i64 (rm (fun x=>decide (ah ns x=k)) l))):=by
 unfold aL bU;refine cj func124 rfl (by decide +kernel) (by simp[ntmps124]) (aS fun E=>?_);simp only[go_sem];refine eU E [3] (.agg [.sl (some 4) (ns.map aK),i64 root]) rfl rfl ?_;simp only[go_sem]
 refine bC E (X:={ i:Nat // i<=l.length∧(l.take i).any (fun x=>decide (ah ns x=k))=false }) (fun x=>[(1,.d (.sl none (l.map i64))),(2,.d (i64 k)),(3,.d (.ptr (.agg [.sl (some 4) (ns.map aK),i64 root]))),(7,.d (i64 x.1))])
  (fun _=>[]) [] (fun x=>l.length-x.1) ⟨0,ale _,by simp⟩ id ?_ ?_
 .simp only[go_sem]
  all_goals first|rfl|(and_intros<;>first|rfl|trivial)
 rintro⟨i,hi,ha⟩ E0;refine bK E0 fun Q' hQ E'=>?_;simp only at hi ⊢;simp only[go_sem];refine aI E' ?_ ?_<;>intro h1<;>simp only[go_sem]
 .have aq:i<l.length:=by omega
  have hx:=hk _ (ak2 aq);have ki:=hx.1;have jK:=hx.2;have bS:(l.map i64).getD i .aY=i64 l[i]:=fe aq;have hnd:=kp hx;refine bz mixed E' fun X=>?_;simp only[go_sem];refine⟨by omega,?_⟩;rw[bS];simp only[go_sem];refine⟨by omega,?_⟩;rw[hnd];simp only[go_sem];(try refine⟨by decide +kernel,?_⟩);refine aI E' ?_ ?_<;>intro h2<;>simp only[go_sem]
  .rw[hQ];simp only[go_sem];rw[Vx aq ha (decide_eq_true h2)]
  .rw[hQ];refine⟨⟨i+1,aq,rA aq ha (decide_eq_false h2)⟩,by show l.length-(i+1)<l.length-i;omega,id,?_⟩;simp only[go_sem];rw[aD ⟨by omega,by omega⟩]
   and_intros<;>first|rfl|trivial
 .have de:i=l.length:=by omega
  subst de;rw[alk]at ha;rw[hQ];simp only[go_sem];rw[Vy ha]
theorem VA{G}(ns:List TN)(root:Int)(l:List Int)(hn:ns.length<=1000000)(hl:l.length<=1000000)(hk:∀x∈l,bI ns x) :
  HP prog G 125 [bU ns root,aL l,i64 9,i64 10] (fun r=>r=.d (i64 (rm (aZ ns) l))):=by
 unfold aL bU;refine cj func125 rfl (by decide +kernel) (by simp[ntmps125]) (aS fun E=>?_);simp only[go_sem];refine eU E [4] (.agg [.sl (some 4) (ns.map aK),i64 root]) rfl rfl ?_;simp only[go_sem]
 refine bC E (X:={ i:Nat // i<=l.length∧(l.take i).any (aZ ns)=false }) (fun x=>[(1,.d (.sl none (l.map i64))),(2,.d (i64 9)),(3,.d (i64 10)),(4,.d (.ptr (.agg [.sl (some 4) (ns.map aK),i64 root]))),(9,.d (i64 x.1))])
  (fun _=>[]) [] (fun x=>l.length-x.1) ⟨0,ale _,by simp⟩ id ?_ ?_
 .simp only[go_sem]
  all_goals first|rfl|(and_intros<;>first|rfl|trivial)
 rintro⟨i,hi,ha⟩ E0;refine bK E0 fun Q' hQ E'=>?_;simp only at hi ⊢;simp only[go_sem];refine aI E' ?_ ?_<;>intro h1<;>simp only[go_sem]
 .have aq:i<l.length:=by omega
  have hx:=hk _ (ak2 aq);have ki:=hx.1;have jK:=hx.2;have bS:(l.map i64).getD i .aY=i64 l[i]:=fe aq;have hnd:=kp hx;refine bz mixed E' fun X=>?_;simp only[go_sem];refine⟨by omega,?_⟩;rw[bS];simp only[go_sem];refine⟨by omega,?_⟩;rw[hnd];simp only[go_sem];(try refine⟨by decide +kernel,?_⟩)
  repeat (first
   |(apply fm E';(· simp only[go_sem]);(· intro h;(try simp only[bq]at h);simp only[↓h,go_sem];rfl);simp only[go_sem])
   |(apply gm E';(· decide);simp only[go_sem]))
  refine ck E' ?_ ?_<;>intro h2<;>simp only[go_sem]
  .have h3:aZ ns l[i]=true:=by simpa[aZ,fT,ah]using h2
   rw[hQ];simp only[go_sem];rw[Vx aq ha h3]
  .have h3:aZ ns l[i]=false:=by simpa[aZ,fT,ah]using h2
   rw[hQ];refine⟨⟨i+1,aq,rA aq ha h3⟩,by show l.length-(i+1)<l.length-i;omega,id,?_⟩;simp only[go_sem];rw[aD ⟨by omega,by omega⟩]
   and_intros<;>first|rfl|trivial
 .have de:i=l.length:=by omega
  subst de;rw[alk]at ha;rw[hQ];simp only[go_sem];rw[Vy ha]
theorem VB{G}(ns:List TN)(root:Int)(l:List Int)(k:Int)(hn:ns.length<=1000000)(hl:l.length<=1000000)(hk:∀x∈l,bI ns x) :
  HP prog G 128 [bU ns root,aL l,i64 k] (fun r=>r=.d (aL (bP ns k l))):=by
 unfold aL bU bP;refine fK func128 rfl (by decide +kernel) (by simp[ntmps128]) (aS fun E=>?_);simp only[go_sem];refine eU E [3] (.agg [.sl (some 4) (ns.map aK),i64 root]) rfl rfl ?_;simp only[go_sem]
 refine bC E (X:={ i:Nat // i<=l.length }) (fun x=>[(1,.d (.sl none (l.map i64))),(2,.d (i64 k)),(3,.d (.ptr (.agg [.sl (some 4) (ns.map aK),i64 root]))),(7,.vw [98] 0 ((l.take x.1).filter fun x=>decide (ah ns x=k)).length),(8,.d (i64 x.1))])
  (fun x=>[([98],.arr none (((l.take x.1).filter fun x=>decide (ah ns x=k)).map i64))]) [98] (fun x=>l.length-x.1) ⟨0,ale _⟩ (ak [([98],[9])]) ?_ ?_
 .simp only[go_sem]
  all_goals first|rfl|(and_intros<;>first|rfl|trivial)
 rintro⟨i,hi⟩ E0;refine bK E0 fun Q' hQ E'=>?_;simp only at hi ⊢;simp only[go_sem];refine aI E' ?_ ?_<;>intro h1<;>simp only[go_sem]
 .have aq:i<l.length:=by omega
  have hx:=hk _ (ak2 aq);have ki:=hx.1;have jK:=hx.2;have bS:(l.map i64).getD i .aY=i64 l[i]:=fe aq;have hnd:=kp hx;have hfn:=DE (p:=(fun x=>decide (ah ns x=k))) aq;have fW:((l.take i).filter (fun x=>decide (ah ns x=k))).length<=1000000:=alU (al4 _ _) (by rw[alq];omega);generalize (l.take i).filter (fun x=>decide (ah ns x=k))=A at hfn fW ⊢;refine bz mixed E' fun X=>?_;simp only[go_sem];refine⟨by omega,?_⟩;rw[bS];simp only[go_sem];refine⟨by omega,?_⟩;rw[hnd];simp only[go_sem];(try refine⟨by decide +kernel,?_⟩);refine aI E' ?_ ?_<;>intro h2<;>simp only[go_sem]
  .rw[if_pos (show decide (ah ns l[i]=k)=true from decide_eq_true h2)]at hfn;refine⟨by omega,?_⟩;rw[bS];simp only[go_sem];refine⟨by omega,?_⟩;rw[hQ];refine⟨⟨i+1,aq⟩,by show l.length-(i+1)<l.length-i;omega,ak [([98],[33])],?_⟩;simp only[go_sem];rw[hfn,alh,ak4];rw[aD ⟨by omega,by omega⟩]
   and_intros<;>first|rfl|trivial
  .rw[if_neg (by rw[show decide (ah ns l[i]=k)=false from decide_eq_false h2];simp),alS]at hfn;rw[hQ];refine⟨⟨i+1,aq⟩,by show l.length-(i+1)<l.length-i;omega,id,?_⟩;simp only[go_sem];rw[hfn];rw[aD ⟨by omega,by omega⟩]
   and_intros<;>first|rfl|trivial
 .have de:i=l.length:=by omega
  subst de;rw[alk];rw[hQ];simp only[go_sem];refine⟨[([98],none,(l.filter fun x=>decide (ah ns x=k)).map i64)],?_⟩;simp only[go_sem]
theorem VC{G}(ns:List TN)(root:Int)(l:List Int)(k:Int)(hn:ns.length<=1000000)(hl:l.length<=1000000)(hk:∀x∈l,bI ns x) :
  HP prog G 82 [bU ns root,aL l,i64 k] (fun r=>r=.d (aL (bV ns k l))):=by
 unfold aL bU bV;refine fK func82 rfl (by decide +kernel) (by simp[ntmps82]) (aS fun E=>?_);simp only[go_sem];refine eU E [3] (.agg [.sl (some 4) (ns.map aK),i64 root]) rfl rfl ?_;simp only[go_sem]
 refine bC E (X:={ i:Nat // i<=l.length }) (fun x=>[(1,.d (.sl none (l.map i64))),(2,.d (i64 k)),(3,.d (.ptr (.agg [.sl (some 4) (ns.map aK),i64 root]))),(7,.vw [98] 0 ((l.take x.1).filter fun x=>!decide (ah ns x=k)).length),(8,.d (i64 x.1))])
  (fun x=>[([98],.arr none (((l.take x.1).filter fun x=>!decide (ah ns x=k)).map i64))]) [98] (fun x=>l.length-x.1) ⟨0,ale _⟩ (ak [([98],[9])]) ?_ ?_
 .simp only[go_sem]
  all_goals first|rfl|(and_intros<;>first|rfl|trivial)
 rintro⟨i,hi⟩ E0;refine bK E0 fun Q' hQ E'=>?_;simp only at hi ⊢;simp only[go_sem];refine aI E' ?_ ?_<;>intro h1<;>simp only[go_sem]
 .have aq:i<l.length:=by omega
  have hx:=hk _ (ak2 aq);have ki:=hx.1;have jK:=hx.2;have bS:(l.map i64).getD i .aY=i64 l[i]:=fe aq;have hnd:=kp hx;have hfn:=DE (p:=(fun x=>!decide (ah ns x=k))) aq;have fW:((l.take i).filter (fun x=>!decide (ah ns x=k))).length<=1000000:=alU (al4 _ _) (by rw[alq];omega);generalize (l.take i).filter (fun x=>!decide (ah ns x=k))=A at hfn fW ⊢;refine bz mixed E' fun X=>?_;simp only[go_sem];refine⟨by omega,?_⟩;rw[bS];simp only[go_sem];refine⟨by omega,?_⟩;rw[hnd];simp only[go_sem];(try refine⟨by decide +kernel,?_⟩);refine aI E' ?_ ?_<;>intro h2<;>simp only[go_sem]
  .rw[if_pos (by rw[show decide (ah ns l[i]=k)=false from decide_eq_false (by simpa[ah]using h2)];rfl)]at hfn;refine⟨by omega,?_⟩;rw[bS];simp only[go_sem];refine⟨by omega,?_⟩;rw[hQ];refine⟨⟨i+1,aq⟩,by show l.length-(i+1)<l.length-i;omega,ak [([98],[33])],?_⟩;simp only[go_sem];rw[hfn,alh,ak4];rw[aD ⟨by omega,by omega⟩]
   and_intros<;>first|rfl|trivial
  .rw[if_neg (by rw[show decide (ah ns l[i]=k)=true from decide_eq_true (by simpa[ah]using h2)];simp),alS]at hfn;rw[hQ];refine⟨⟨i+1,aq⟩,by show l.length-(i+1)<l.length-i;omega,id,?_⟩;simp only[go_sem];rw[hfn];rw[aD ⟨by omega,by omega⟩]
   and_intros<;>first|rfl|trivial
 .have de:i=l.length:=by omega
  subst de;rw[alk];rw[hQ];simp only[go_sem];refine⟨[([98],none,(l.filter fun x=>!decide (ah ns x=k)).map i64)],?_⟩;simp only[go_sem]
end Go.Proofs.YtpmniabdmbmafaaGreatDoor

namespace Go.Proofs.YtpmniabdmbmafaaGreatDoor
open Go.Ab Tryz
theorem ai3{n:TN}{s:List UInt8}{i:Nat}(h:i<n.l.length)(ha:∀q∈n.l.take i,(q.1 == s)=false)(hp:(n.l[i].1 == s)=true):gW n s=n.l[i].2:=by
 unfold gW
 have e:n.l.find? (fun q=>q.1 == s)=some n.l[i]:=by
  conv=>lhs;rw[<-amY i n.l]
  rw[List.find?_append,anw.2 (fun q hq=>by rw[ha q hq];simp),amo h,List.find?_cons,hp];rfl
 rw[e]
theorem ai4{n:TN}{s:List UInt8}(ha:∀q∈n.l,(q.1 == s)=false):gW n s = -1:=by
 unfold gW;rw[anw.2 (fun q hq=>by rw[ha q hq];simp)]
theorem Mz{fs:List da}{j:Nat}(h:j<fs.length):(fs.map aP).getD j .aY=.agg [.str fs[j].1,i64 fs[j].2]:=by simp[h,aP]
theorem VD{G}(n:TN)(s:List UInt8)(hl:n.l.length<=1000000):HP prog G 185 [.agg [i64 n.k,i64 n.a,i64 n.b,.sl (some 2) (n.l.map aP)],.str s] (fun r=>r=.d (i64 (gW n s))):=by
 refine cj func185 rfl (by decide +kernel) (by simp[ntmps185]) (aS fun E=>?_);simp only[go_sem];refine eU E [2] (.agg [i64 n.k,i64 n.a,i64 n.b,.sl (some 2) (n.l.map aP)]) rfl rfl ?_;simp only[go_sem]
 refine bC E (X:={ i:Nat // i<=n.l.length∧∀q∈n.l.take i,(q.1 == s)=false }) (fun x=>[(1,.d (.str s)),(2,.d (.ptr (.agg [i64 n.k,i64 n.a,i64 n.b,.sl (some 2) (n.l.map aP)]))),(5,.d (i64 x.1))])
  (fun _=>[]) [] (fun x=>n.l.length-x.1) ⟨0,ale _,by simp⟩ id ?_ ?_
 .simp only[go_sem]
  all_goals first|rfl|(and_intros<;>first|rfl|trivial)
 rintro⟨i,hi,ha⟩ E0;refine bK E0 fun Q' hQ E'=>?_;simp only at hi ⊢;simp only[go_sem];refine aI E' ?_ ?_<;>intro h1<;>simp only[go_sem]
 .have aq:i<n.l.length:=by omega
  refine⟨by omega,?_⟩;rw[Mz aq];simp only[go_sem];refine ck E' ?_ ?_<;>intro h2<;>simp only[go_sem]
  .refine⟨by omega,?_⟩;rw[Mz aq];simp only[go_sem];rw[hQ];simp only[go_sem];rw[ai3 aq ha h2]
  .rw[hQ];refine⟨⟨i+1,aq,fun q hq=>?_⟩,by show n.l.length-(i+1)<n.l.length-i;omega,id,?_⟩
   .rw[ak9 aq,ak1,ak3]at hq;obtain hq|rfl:=hq
    .exact ha q hq
    .exact h2
   .simp only[go_sem];rw[aD ⟨by omega,by omega⟩]
    and_intros<;>first|rfl|trivial
 .have de:i=n.l.length:=by omega
  subst de;rw[alk]at ha;rw[hQ];simp only[go_sem];rw[ai4 ha]
def uY(ns:List TN):Prop:=∀i,bI ns i->(nd ns i.toNat).l.length<=1000000
theorem ai5{ns:List TN}{l:List Int}{s:List UInt8}{i:Nat}(h:i<l.length):om ns (l.take (i+1)) s=om ns (l.take i) s++(if gX ns s l[i]then[gW (nd ns l[i].toNat) s]else[]):=by
 unfold om;rw[DE h,alh];cases gX ns s l[i]<;>rfl
theorem VE(ns:List TN)(l:List Int)(s:List UInt8):(om ns l s).length<=l.length:=by
 unfold om;rw[alg];exact al4 _ _
theorem VF{G}(ns:List TN)(root:Int)(l:List Int)(s:List UInt8)(hn:ns.length<=1000000)(hl:l.length<=1000000)(hk:∀x∈l,bI ns x)(hf:uY ns) :
  HP prog G 160 [bU ns root,aL l,.str s] (fun r=>r=.d (aL (dY ns l s))):=by
 have cS:=w8 (G:=G) (om ns l s) (by have:=VE ns l s;omega);unfold aL at cS;unfold aL bU dY;refine cj func160 rfl (by decide +kernel) (by simp[ntmps160]) (aS fun E=>?_);simp only[go_sem];refine eU E [3] (.agg [.sl (some 4) (ns.map aK),i64 root]) rfl rfl ?_;simp only[go_sem]
 refine bC E (X:={ i:Nat // i<=l.length }) (fun x=>[(1,.d (.sl none (l.map i64))),(2,.d (.str s)),(3,.d (.ptr (.agg [.sl (some 4) (ns.map aK),i64 root]))),(7,.vw [98] 0 (om ns (l.take x.1) s).length),(8,.d (i64 x.1))])
  (fun x=>[([98],.arr none ((om ns (l.take x.1) s).map i64))]) [98] (fun x=>l.length-x.1) ⟨0,ale _⟩ (ak [([98],[10])]) ?_ ?_
 .simp only[go_sem]
  all_goals first|rfl|(and_intros<;>first|rfl|trivial)
 rintro⟨i,hi⟩ E0;refine bK E0 fun Q' hQ E'=>?_;simp only at hi ⊢;simp only[go_sem];refine aI E' ?_ ?_<;>intro h1<;>simp only[go_sem]
 .have aq:i<l.length:=by omega
  have hx:=hk _ (ak2 aq);have ki:=hx.1;have jK:=hx.2;have bS:(l.map i64).getD i .aY=i64 l[i]:=fe aq;have hnd:=kp hx;have hfn:=ai5 (ns:=ns) (s:=s) aq;have fW:=VE ns (l.take i) s;rw[alq]at fW;have cp:=VD (G:=G) (nd ns l[i].toNat) s (hf _ hx);rw[gX]at hfn;generalize om ns (l.take i) s=A at hfn fW ⊢;generalize gW (nd ns l[i].toNat) s=v at hfn cp;refine bz mixed E' fun X=>?_;simp only[go_sem];refine⟨by omega,?_⟩;rw[bS];simp only[go_sem];refine⟨by omega,?_⟩;rw[hnd];simp only[go_sem];refine dA X cp rfl rfl (by simp) ?_;simp only[go_sem];(try refine⟨by decide +kernel,?_⟩);refine aI E' ?_ ?_<;>intro h2<;>simp only[go_sem]
  .rw[if_pos (show decide (0<=v)=true from decide_eq_true h2)]at hfn;refine⟨by omega,?_⟩;rw[hQ];refine⟨⟨i+1,aq⟩,by show l.length-(i+1)<l.length-i;omega,ak [([98],[32])],?_⟩;simp only[go_sem];rw[hfn,alh,ak4];rw[aD ⟨by omega,by omega⟩]
   and_intros<;>first|rfl|trivial
  .rw[if_neg (by rw[decide_eq_false h2];simp),alS]at hfn;rw[hQ];refine⟨⟨i+1,aq⟩,by show l.length-(i+1)<l.length-i;omega,id,?_⟩;simp only[go_sem];rw[hfn];rw[aD ⟨by omega,by omega⟩]
   and_intros<;>first|rfl|trivial
 .have de:i=l.length:=by omega
  subst de;rw[alk];rw[hQ];simp only[go_sem];refine qZ E [98] none ((om ns l s).map i64) rfl (by simp only[go_sem];rfl) ?_;refine bd E cS rfl rfl (by simp) ?_;rintro _ rfl;simp only[go_sem]
theorem ai6{G}(ns:List TN)(root:Int)(l:List Int)(s:List UInt8)(hn:ns.length<=1000000)(hl:l.length<=1000000)(hk:∀x∈l,bI ns x)(hf:uY ns) :
  HP prog G 183 [bU ns root,aL l,.str s] (fun r=>r=.d (i64 ((l.filter (gX ns s)).length:Nat))):=by
 unfold aL bU;refine cj func183 rfl (by decide +kernel) (by simp[ntmps183]) (aS fun E=>?_);simp only[go_sem];refine eU E [3] (.agg [.sl (some 4) (ns.map aK),i64 root]) rfl rfl ?_;simp only[go_sem]
 refine bC E (X:={ i:Nat // i<=l.length }) (fun x=>[(1,.d (.sl none (l.map i64))),(2,.d (.str s)),(3,.d (.ptr (.agg [.sl (some 4) (ns.map aK),i64 root]))),(7,.d (i64 (((l.take x.1).filter (gX ns s)).length:Nat))),(8,.d (i64 x.1))])
  (fun _=>[]) [] (fun x=>l.length-x.1) ⟨0,ale _⟩ id ?_ ?_
 .simp only[go_sem]
  all_goals first|rfl|(and_intros<;>first|rfl|trivial)
 rintro⟨i,hi⟩ E0;refine bK E0 fun Q' hQ E'=>?_;simp only at hi ⊢;simp only[go_sem];refine aI E' ?_ ?_<;>intro h1<;>simp only[go_sem]
 .have aq:i<l.length:=by omega
  have hx:=hk _ (ak2 aq);have ki:=hx.1;have jK:=hx.2;have bS:(l.map i64).getD i .aY=i64 l[i]:=fe aq;have hnd:=kp hx;have hfn:=congrArg List.length (DE (p:=gX ns s) aq);have fW:((l.take i).filter (gX ns s)).length<=1000000:=alU (al4 _ _) (by rw[alq];omega);have cp:=VD (G:=G) (nd ns l[i].toNat) s (hf _ hx);rw[gX,ak4]at hfn;generalize ((l.take i).filter (gX ns s)).length=A at hfn fW ⊢;generalize gW (nd ns l[i].toNat) s=v at hfn cp;refine bz mixed E' fun X=>?_;simp only[go_sem];refine⟨by omega,?_⟩;rw[bS];simp only[go_sem];refine⟨by omega,?_⟩;rw[hnd];simp only[go_sem];refine dA X cp rfl rfl (by simp) ?_;simp only[go_sem];(try refine⟨by decide +kernel,?_⟩);refine aI E' ?_ ?_<;>intro h2<;>simp only[go_sem]
  .rw[if_pos (show decide (0<=v)=true from decide_eq_true h2),List.length_singleton]at hfn;rw[hQ];refine⟨⟨i+1,aq⟩,by show l.length-(i+1)<l.length-i;omega,id,?_⟩;simp only[go_sem];rw[hfn,aD (n:=(A:Int)+1) ⟨by omega,by omega⟩];rw[aD ⟨by omega,by omega⟩]
   and_intros<;>first|rfl|trivial
  .rw[if_neg (by rw[decide_eq_false h2];simp),List.length_nil,Nat.add_zero]at hfn;rw[hQ];refine⟨⟨i+1,aq⟩,by show l.length-(i+1)<l.length-i;omega,id,?_⟩;simp only[go_sem];rw[hfn];rw[aD ⟨by omega,by omega⟩]
   and_intros<;>first|rfl|trivial
 .have de:i=l.length:=by omega
  subst de;rw[alk];rw[hQ];simp only[go_sem]
end Go.Proofs.YtpmniabdmbmafaaGreatDoor

namespace Go.Proofs.YtpmniabdmbmafaaGreatDoor
open Go.Ab Tryz
theorem VG{G}(l:List Int)(i:Nat)(ins:List Int)(hi:i<l.length)(hl:l.length<=1000000)(hs:ins.length<=1000000):HP prog G 126 [aL l,i64 (i:Int),aL ins] (fun r=>r=.d (aL (gx l i ins))):=by
 have cS:=w8 (G:=G) (l.take i++l.drop (i+1)++ins) (by simp;omega);unfold aL at *
 unfold gx;refine cj func126 rfl (by decide +kernel) (by simp[ntmps126]) (aS fun E=>?_);simp only[go_sem];rw[show lL ((i:Int)+1)=((i+1:Nat):Int) by rw[aD ⟨by omega,by omega⟩];omega];have e1:List.take (i-0) (l.map i64)=(l.take i).map i64:=by rw[Nat.sub_zero,am0]
 have e2:List.take (l.length-(((i+1:Nat):Int)).toNat) (List.drop (((i+1:Nat):Int)).toNat (l.map i64))=(l.drop (i+1)).map i64:=by
  rw[Int.toNat_natCast,<-amT,ak5 (by simp)]
 rw[e1,e2,<-ak4,<-alh,alk,<-alh];have h1:(l.take i++l.drop (i+1)).length<=1000000:=by simp;omega
 have b1:(List.map i64 (l.take i)).length<=1000000:=by simp;omega
 have b2:(List.map i64 (l.take i++l.drop (i+1))).length<=1000000:=by rw[alg];exact h1
 refine⟨by omega,by omega,by omega,by omega,by omega,?_⟩;rw[show(List.map i64 (l.take i++l.drop (i+1))).length+ins.length=(l.take i++l.drop (i+1)++ins).length by rw[alg,ak4 (bs:=ins)]];refine qZ E [21] none ((l.take i++l.drop (i+1)++ins).map i64) rfl (by simp only[go_sem];rfl) ?_;refine bd E cS rfl rfl (by simp) ?_;rintro _ rfl;simp only[go_sem]
theorem ai7{ns:List TN}{l:List Int}{L:List da}{i:Nat}(h:i<L.length):((L.take (i+1)).map (·.1)).foldl (kS ns l) []=kS ns l (((L.take i).map (·.1)).foldl (kS ns l) []) L[i].1:=by
 rw[ak9 h,alh,amN];rfl
theorem ai8(ns:List TN)(l:List Int)(out:List (List UInt8))(s:List UInt8):(kS ns l out s).length<=out.length+1:=by
 unfold kS;split
 .simp
 .omega
theorem MA(ns:List TN)(l:List Int):∀(L:List (List UInt8)) (out:List (List UInt8)),(L.foldl (kS ns l) out).length<=out.length+L.length
 |[],out=>by simp
 |s::L,out=>by
   have h1:=MA ns l L (kS ns l out s);have h2:=ai8 ns l out s;rw[List.foldl_cons,List.length_cons];omega
theorem ai9{G}(ns:List TN)(root:Int)(l:List Int)(hn:ns.length<=1000000)(hl:l.length<=1000000)(hk:∀x∈l,bI ns x)(hf:uY ns)(hp:0<l.length) :
  HP prog G 159 [bU ns root,aL l] (fun r=>r=.d (.sl none ((eE ns l).map D.str))):=by
 have cP:=fun s=>VF (G:=G) ns root l s hn hl hk hf;have cC:=fun s=>ai6 (G:=G) ns root l s hn hl hk hf;have hx:=hk _ (ak2 hp);have ki:=hx.1;have jK:=hx.2;have bS:(l.map i64).getD 0 .aY=i64 l[0]:=fe hp;have hnd:=kp hx;have VH:=hf _ hx;have h0:l.getD 0 0=l[0]:=by simp[hp]
 unfold aL bU at *
 unfold eE;rw[h0];generalize l[0]=x at hx ki jK bS hnd VH ⊢;generalize hN:nd ns x.toNat=N at hnd VH ⊢;refine fK func159 rfl (by decide +kernel) (by simp[ntmps159]) (aS fun E=>?_);simp only[go_sem];refine eU E [2] (.agg [.sl (some 4) (ns.map aK),i64 root]) rfl rfl ?_;simp only[go_sem]
 refine bC E (X:={ i:Nat // i<=N.l.length }) (fun y=>[(1,.d (.sl none (l.map i64))),(2,.d (.ptr (.agg [.sl (some 4) (ns.map aK),i64 root]))),(5,.vw [98] 0 (((N.l.take y.1).map (·.1)).foldl (kS ns l) []).length),(6,.d (i64 y.1))])
  (fun y=>[([98],.arr none ((((N.l.take y.1).map (·.1)).foldl (kS ns l) []).map D.str))]) [98] (fun y=>N.l.length-y.1) ⟨0,ale _⟩ (ak [([98],[8])]) ?_ ?_
 .simp only[go_sem]
  all_goals first|rfl|(and_intros<;>first|rfl|trivial)
 rintro⟨i,hi⟩ E0;refine bK E0 fun Q' hQ E'=>?_;simp only at hi ⊢;simp only[go_sem];refine bz mixed E' fun X=>?_;simp only[go_sem];refine⟨by omega,?_⟩;rw[bS];simp only[go_sem];refine⟨by omega,?_⟩;rw[hnd];simp only[go_sem];(try refine⟨by decide +kernel,?_⟩);refine aI E' ?_ ?_<;>intro h1<;>simp only[go_sem]
 .have aq:i<N.l.length:=by omega
  have ag:=ai7 (ns:=ns) (l:=l) aq;have qg:=MA ns l ((N.l.take i).map (·.1)) [];rw[List.length_nil,alg,alq]at qg;generalize ((N.l.take i).map (·.1)).foldl (kS ns l) []=out at ag qg ⊢;refine bz mixed E' fun X=>?_;simp only[go_sem];refine⟨by omega,?_⟩;rw[bS];simp only[go_sem];refine⟨by omega,?_⟩;rw[hnd];simp only[go_sem];refine⟨by omega,?_⟩;rw[Mz aq];simp only[go_sem];(try refine⟨by decide +kernel,?_⟩);have cI:=acd (G:=G) N.l[i].1 out (by omega);unfold strs at cI;rw[kS]at ag;generalize N.l[i].1=s at ag cI ⊢;refine bd E' (cP s) rfl rfl (by simp) ?_;rintro _ rfl;simp only[go_sem];refine bH E' ?_ ?_<;>intro g2<;>simp only[go_sem]
  .rw[decide_eq_true (by omega:0<(dY ns l s).length),ame]at ag;refine bd E' (cC s) rfl rfl (by simp) ?_;rintro _ rfl;simp only[go_sem];refine bH E' ?_ ?_<;>intro g3<;>simp only[go_sem]
   .rw[decide_eq_true (by omega:(l.filter (gX ns s)).length=l.length),ame]at ag;refine acR E' [([98],none,out.map D.str)] cI (by rintro _ rfl;rfl) (by simp only[go_sem]) rfl (by simp only[go_sem]) (by simp) ?_;rintro _ rfl;simp only[go_sem];refine ck E' ?_ ?_<;>intro g4<;>simp only[go_sem]
    .rw[if_pos (by simpa using g4)]at ag;refine⟨by omega,?_⟩;rw[hQ];refine⟨⟨i+1,aq⟩,by show N.l.length-(i+1)<N.l.length-i;omega,ak [([98],[58])],?_⟩;simp only[go_sem];rw[ag,alh,ak4];rw[aD ⟨by omega,by omega⟩]
     and_intros<;>first|rfl|trivial
    .rw[if_neg (by simpa using g4)]at ag;rw[hQ];refine⟨⟨i+1,aq⟩,by show N.l.length-(i+1)<N.l.length-i;omega,id,?_⟩;simp only[go_sem];rw[ag];rw[aD ⟨by omega,by omega⟩]
     and_intros<;>first|rfl|trivial
   .rw[decide_eq_false (by omega:¬(l.filter (gX ns s)).length=l.length),alQ,if_neg (by simp)]at ag;rw[hQ];refine⟨⟨i+1,aq⟩,by show N.l.length-(i+1)<N.l.length-i;omega,id,?_⟩;simp only[go_sem];rw[ag];rw[aD ⟨by omega,by omega⟩]
    and_intros<;>first|rfl|trivial
  .rw[decide_eq_false (by omega:¬0<(dY ns l s).length),alQ,alQ,if_neg (by simp)]at ag;rw[hQ];refine⟨⟨i+1,aq⟩,by show N.l.length-(i+1)<N.l.length-i;omega,id,?_⟩;simp only[go_sem];rw[ag];rw[aD ⟨by omega,by omega⟩]
   and_intros<;>first|rfl|trivial
 .have de:i=N.l.length:=by omega
  subst de;rw[alk];rw[hQ];simp only[go_sem];refine⟨[([98],none,(((N.l).map (·.1)).foldl (kS ns l) []).map D.str)],?_⟩;simp only[go_sem]
end Go.Proofs.YtpmniabdmbmafaaGreatDoor

namespace Go.Proofs.YtpmniabdmbmafaaGreatDoor
open Go.Ab Tryz
theorem Hw{l:List Int}{i:Nat}{f:Int->Int}(h:i<l.length):((l.take (i+1)).map f)=(l.take i).map f++[f l[i]]:=by
 rw[ak9 h,alh];rfl
abbrev aN(ns:List TN)(x:Int):Int:=(nd ns x.toNat).a
theorem Hx{l:List Int}{i:Nat}(f:Int->Int):List.take i (((l.take i).map f).map i64)=((l.take i).map f).map i64:=ak5 (by rw[alg,alg,alq];omega)
theorem Hy{l:List Int}(f:Int->Int):List.take l.length ((l.map f).map i64)=(l.map f).map i64:=ak5 (by simp)
abbrev bN(ns:List TN)(x:Int):Int:=(nd ns x.toNat).b
theorem aja{G}(ns:List TN)(root:Int)(l r:List Int)(hn:ns.length<=1000000)(hl:l.length<=1000000)(hr:r.length<=1000000)(hk:∀x∈l,bI ns x)(nJ:∀x∈r,bI ns x)(h0:0<r.length) :
  HP prog G 127 [bU ns root,i64 6,aL l,aL r] (fun v=>v=.az [.d (.sl (some 2) [fQ (bL (r.map (aN ns)),bL (l.map (aN ns))),fQ (bL (l.map (bN ns)),bL (r.map (bN ns)))]),.d (.bool true)]):=by
 have s1:=w8 (G:=G) (r.map (aN ns)) (by simp;omega);have s2:=w8 (G:=G) (l.map (aN ns)) (by simp;omega);have s3:=w8 (G:=G) (l.map (bN ns)) (by simp;omega);have s4:=w8 (G:=G) (r.map (bN ns)) (by simp;omega);unfold fQ aL bU at *
 refine fK func127 rfl (by decide +kernel) (by simp[ntmps127]) (aS fun E=>?_);simp only[go_sem];refine aI E (fun g=>absurd g (by omega)) (fun _=>?_);simp only[go_sem];refine nQ E [11] 1 201 none [.d .ao,.d .ao] rfl rfl (by rw[aT];decide) ?_;refine nQ E [12] 0 202 none [.d .ao,.d .ao] rfl rfl (by show¬_∈[201,12,11,26,4];decide) ?_;refine eU E [4] (.agg [.sl (some 4) (ns.map aK),i64 root]) rfl rfl ?_
 refine bC E (X:={ i:Nat // i<=l.length }) (fun x=>[(2,.d (.sl none (l.map i64))),(3,.d (.sl none (r.map i64))),(4,.d (.ptr (.agg [.sl (some 4) (ns.map aK),i64 root]))),(11,.bx [11] 0),(12,.bx [12] 0),(13,.d (i64 x.1))])
  (fun x=>[([11],.box [.d .ao,.vw [201] 0 x.1]),([12],.box [.vw [202] 0 x.1,.d .ao]),([201],.arr none (((l.take x.1).map (aN ns)).map i64)),([202],.arr none (((l.take x.1).map (bN ns)).map i64))]) [201,202,11,12] (fun x=>l.length-x.1) ⟨0,ale _⟩ id ?_ ?_
 .simp only[go_sem]
  all_goals first|rfl|(and_intros<;>first|rfl|trivial)
 rintro⟨i,hi⟩ E0;refine bK E0 fun Q' hQ E'=>?_;simp only at hi ⊢;simp only[go_sem];refine aI E' ?_ ?_<;>intro h1<;>simp only[go_sem]
 .have aq:i<l.length:=by omega
  have hx:=hk _ (ak2 aq);have ki:=hx.1;have jK:=hx.2;have bS:(l.map i64).getD i .aY=i64 l[i]:=fe aq;have hnd:=kp hx;have ha:=Hw (f:=aN ns) aq;have hb:=Hw (f:=bN ns) aq;refine bz mixed E' fun X=>?_;simp only[go_sem];refine⟨by omega,?_⟩;rw[bS];simp only[go_sem];refine⟨by omega,?_⟩;rw[hnd];simp only[go_sem];refine⟨by omega,?_⟩;refine⟨by omega,?_⟩;rw[bS];simp only[go_sem];refine⟨by omega,?_⟩;rw[hnd];simp only[go_sem];refine⟨by omega,by decide +kernel,?_⟩;rw[hQ];refine⟨⟨i+1,aq⟩,by show l.length-(i+1)<l.length-i;omega,ak [([201],[49]),([202],[62])],?_⟩;simp only[go_sem];rw[ha,hb,alh,alh,Hx,Hx];rw[aD ⟨by omega,by omega⟩]
  and_intros<;>first|rfl|trivial
 have de:i=l.length:=by omega
 subst de;rw[alk]at *
 rw[hQ];simp only[go_sem];refine nQ E [11] 0 203 none [.d .ao,.vw [201] 0 l.length] rfl rfl (by rw[aT];decide) ?_;refine nQ E [12] 1 204 none [.vw [202] 0 l.length,.d .ao] rfl rfl (by show¬_∈[203,201,202,11,12];decide) ?_
 refine bC E (X:={ i:Nat // i<=r.length }) (fun x=>[(3,.d (.sl none (r.map i64))),(4,.d (.ptr (.agg [.sl (some 4) (ns.map aK),i64 root]))),(11,.bx [11] 0),(12,.bx [12] 0),(14,.d (i64 x.1))])
  (fun x=>[([11],.box [.vw [203] 0 x.1,.vw [201] 0 l.length]),([12],.box [.vw [202] 0 l.length,.vw [204] 0 x.1]),([201],.arr none ((l.map (aN ns)).map i64)),([202],.arr none ((l.map (bN ns)).map i64)),([203],.arr none (((r.take x.1).map (aN ns)).map i64)),([204],.arr none (((r.take x.1).map (bN ns)).map i64))]) [203,204,201,202,11,12] (fun x=>r.length-x.1) ⟨0,ale _⟩ id ?_ ?_
 .simp only[go_sem]
  all_goals first|rfl|(and_intros<;>first|rfl|trivial)
 rintro⟨j,hj⟩ E1;refine bK E1 fun Q2 cz E2=>?_;simp only at hj ⊢;simp only[go_sem];refine aI E2 ?_ ?_<;>intro h1<;>simp only[go_sem]
 .have aq:j<r.length:=by omega
  have hx:=nJ _ (ak2 aq);have ki:=hx.1;have jK:=hx.2;have bS:(r.map i64).getD j .aY=i64 r[j]:=fe aq;have hnd:=kp hx;have ha:=Hw (f:=aN ns) aq;have hb:=Hw (f:=bN ns) aq;refine bz mixed E2 fun X=>?_;simp only[go_sem];refine⟨by omega,?_⟩;rw[bS];simp only[go_sem];refine⟨by omega,?_⟩;rw[hnd];simp only[go_sem];refine⟨by omega,?_⟩;refine⟨by omega,?_⟩;rw[bS];simp only[go_sem];refine⟨by omega,?_⟩;rw[hnd];simp only[go_sem];refine⟨by omega,by decide +kernel,?_⟩;rw[cz];refine⟨⟨j+1,aq⟩,by show r.length-(j+1)<r.length-j;omega,ak [([203],[83]),([204],[96])],?_⟩;simp only[go_sem];rw[ha,hb,alh,alh,Hx,Hx];rw[aD ⟨by omega,by omega⟩]
  and_intros<;>first|rfl|trivial
 have gT:j=r.length:=by omega
 subst gT;rw[alk]at *
 rw[cz];simp only[go_sem];refine rZ E [201] none ((l.map (aN ns)).map i64) rfl ?_;simp only[go_sem];refine rZ E [202] none ((l.map (bN ns)).map i64) rfl ?_;simp only[go_sem];refine rZ E [203] none ((r.map (aN ns)).map i64) rfl ?_;simp only[go_sem];refine rZ E [204] none ((r.map (bN ns)).map i64) rfl ?_;simp only[go_sem];rw[Hy,Hy,Hy,Hy];refine bz mixed E fun X=>?_;simp only[go_sem];refine dA X s1 rfl rfl (by simp) ?_;simp only[go_sem];refine dA X s2 rfl rfl (by simp) ?_;simp only[go_sem];refine dA X s3 rfl rfl (by simp) ?_;simp only[go_sem];refine dA X s4 rfl rfl (by simp) ?_;simp only[go_sem];(try refine⟨by decide +kernel,?_⟩);refine⟨[([113],some 2,[.agg [.sl none ((bL (r.map (aN ns))).map i64),.sl none ((bL (l.map (aN ns))).map i64)],.agg [.sl none ((bL (l.map (bN ns))).map i64),.sl none ((bL (r.map (bN ns))).map i64)]])],?_⟩;simp only[go_sem]
end Go.Proofs.YtpmniabdmbmafaaGreatDoor

namespace Go.Proofs.YtpmniabdmbmafaaGreatDoor
open Go.Ab Tryz
theorem VI{α:Type}{A:List α}{p:α->Bool}{i:Nat}(h:i<A.length)(ha:(A.take i).all p=true)(hp:p A[i]=true):(A.take (i+1)).all p=true:=by
 rw[ak9 h,anJ,ha];simp[hp]
theorem ajb{α β:Type}{l:List α}{i:Nat}{f:α->β}(h:i<l.length):((l.take (i+1)).map f)=(l.take i).map f++[f l[i]]:=by
 rw[ak9 h,alh];rfl
theorem ajc{ns:List TN}{l:List Int}(hf:uY ns)(hk:∀x∈l,bI ns x)(h0:0<l.length):(eE ns l).length<=1000000:=by
 have h1:=MA ns l ((nd ns (l.getD 0 0).toNat).l.map (·.1)) [];have h2:=hf _ (hk _ (ak2 h0));rw[show l.getD 0 0=l[0] by simp[h0],List.length_nil,alg]at h1;unfold eE;rw[show l.getD 0 0=l[0] by simp[h0]];omega
theorem VJ{G}(ns:List TN)(root k:Int)(l r m:List Int)(hc:k=7∧r=m∨k=8∧l=m)(hn:ns.length<=1000000)(hl:l.length<=1000000)(hr:r.length<=1000000)(hk:∀x∈l,bI ns x)(nJ:∀x∈r,bI ns x)(hf:uY ns)(h0:0<m.length) :
  HP prog G 127 [bU ns root,i64 k,aL l,aL r] (fun v=>v=.az [.d (DS (if(eE ns m).all (gA ns l r)=true then some ((eE ns m).map (po ns l r))else none)),.d (.bool ((eE ns m).all (gA ns l r)))]):=by
 have VK:∀x∈m,bI ns x:=by
  rcases hc with h|h<;>rw[<-h.2]
  .exact nJ
  .exact hk
 have lW:m.length<=1000000:=by
  rcases hc with h|h<;>rw[<-h.2]
  .exact hr
  .exact hl
 have cN:=ai9 (G:=G) ns root m hn lW VK hf h0;have Ly:=ajc hf VK h0;generalize eE ns m=A at cN Ly;obtain⟨rfl,rfl⟩|⟨rfl,rfl⟩:=hc
 all_goals
  have cP:=fun l hl hk s=>VF (G:=G) ns root l s hn hl hk hf;unfold aL bU at *
  refine fK func127 rfl (by decide +kernel) (by simp[ntmps127]) (aS fun E=>?_);simp only[go_sem]
 refine aI E (fun g=>absurd g (by omega)) (fun _=>?_)<;>simp only[go_sem]
 all_goals
  refine bd E cN rfl rfl (by simp) ?_;rintro _ rfl;simp only[go_sem];refine eU E [4] (.agg [.sl (some 4) (ns.map aK),i64 root]) rfl rfl ?_;simp only[go_sem]
  refine bC E (X:={ i:Nat // i<=A.length∧(A.take i).all (gA ns l r)=true }) (fun x=>[(2,.d (.sl none (l.map i64))),(3,.d (.sl none (r.map i64))),(4,.d (.ptr (.agg [.sl (some 4) (ns.map aK),i64 root]))),(10,.vw [201] 0 x.1),(15,.d (.sl none (A.map D.str))),(16,.d (i64 x.1))])
   (fun x=>[([201],.arr (some 2) (((A.take x.1).map (po ns l r)).map fQ))]) [201] (fun x=>A.length-x.1) ⟨0,ale _,by simp⟩ (ak [([201],[26])]) ?_ ?_
  .simp only[go_sem]
   all_goals first|rfl|(and_intros<;>first|rfl|trivial)
  rintro⟨i,hi,ha⟩ E0;refine bK E0 fun Q' hQ E'=>?_;simp only at hi ⊢;simp only[go_sem];refine aI E' ?_ ?_<;>intro h1<;>simp only[go_sem]
  .have aq:i<A.length:=by omega
   have hs:=VI (p:=gA ns l r) aq ha;have hm:=ajb (f:=po ns l r) aq;have uZ:(A.map D.str).getD i .aY=.str A[i]:=by simp[aq]
   have bY:gA ns l r A[i]=false->A.all (gA ns l r)=false:=fun g=>anz.2 ⟨_,ak2 aq,by rw[g];simp⟩;generalize A[i]=s at hs hm uZ bY;refine bz mixed E' fun X=>?_;simp only[go_sem];refine⟨by omega,?_⟩;rw[uZ];simp only[go_sem];refine dA X (cP l hl hk s) rfl rfl (by simp) ?_;simp only[go_sem];refine⟨by omega,?_⟩;rw[uZ];simp only[go_sem];refine dA X (cP r hr nJ s) rfl rfl (by simp) ?_;simp only[go_sem];(try refine⟨by decide +kernel,?_⟩)
   repeat (first
    |(apply fm E';(· simp only[go_sem]);(· intro h;(try simp only[bq]at h);simp only[↓h,go_sem];rfl);simp only[go_sem])
    |(apply gm E';(· decide);simp only[go_sem]))
   refine ck E' ?_ ?_<;>intro g<;>simp only[go_sem]
   .have hb:gA ns l r s=false:=by
     simp only[alF,decide_eq_true_eq]at g;unfold gA;obtain g|g:=g
     .rw[decide_eq_false (by omega:¬0<(dY ns l s).length),alQ]
     .rw[decide_eq_false (by omega:¬0<(dY ns r s).length),amC]
    rw[hQ];simp only[go_sem];rw[bY hb];simp only[go_sem];refine⟨[],?_⟩;simp only[go_sem];rfl
   .have hb:gA ns l r s=true:=by
     have g':=g;simp only[al0,decide_eq_false_iff_not]at g';rw[gA,decide_eq_true (by omega:0<(dY ns l s).length),decide_eq_true (by omega:0<(dY ns r s).length)];rfl
    refine⟨by omega,?_⟩;rw[hQ];refine⟨⟨i+1,aq,hs hb⟩,by show A.length-(i+1)<A.length-i;omega,ak [([201],[158])],?_⟩;simp only[go_sem];rw[hm,alh,ak5 (by simp;omega)];rw[aD ⟨by omega,by omega⟩]
    and_intros<;>first|rfl|trivial
  .have de:i=A.length:=by omega
   subst de;rw[alk]at *
   rw[hQ];simp only[go_sem];rw[ha];simp only[go_sem];refine⟨[([201],some 2,(A.map (po ns l r)).map fQ)],?_⟩;simp only[go_sem];rw[ak5 (by simp)];rfl
theorem ajd{G}(ns:List TN)(root k:Int)(l r:List Int)(h8:k≠8)(h0:r=[]) :
  HP prog G 127 [bU ns root,i64 k,aL l,aL r] (fun v=>v=.az [.d .ao,.d (.bool false)]):=by
 subst h0;unfold aL bU at *
 refine cj func127 rfl (by decide +kernel) (by simp[ntmps127]) (aS fun E=>?_);simp only[go_sem];refine bH E (fun g=>?_) (fun g=>absurd h8 (by simpa using g))<;>simp only[go_sem]
theorem aje{G}(ns:List TN)(root k:Int)(l r:List Int)(h3:k=3∨k=4∨k=5)(hr:0<r.length) :
  HP prog G 127 [bU ns root,i64 k,aL l,aL r] (fun v=>v=.az [.d (.sl (some 2) []),.d (.bool true)]):=by
 unfold aL bU at *
 obtain rfl|rfl|rfl:=h3
 all_goals
  refine fK func127 rfl (by decide +kernel) (by simp[ntmps127]) (aS fun E=>?_);simp only[go_sem];refine aI E (fun g=>absurd g (by omega)) (fun _=>?_);simp only[go_sem];refine bC E (X:=Unit) (fun _=>[(10,.vw [26] 0 0),(15,.vw [114] 0 0),(16,.d (i64 0))]) (fun _=>[([26],.arr (some 2) []),([114],.arr none [])]) [26,114] (fun _=>0) () id ?_ ?_
  .simp only[go_sem]
   all_goals first|rfl|(and_intros<;>first|rfl|trivial)
  rintro _ E0;simp only[go_sem];refine⟨[([26],some 2,[])],?_⟩;simp only[go_sem]
theorem ajf{G}(ns:List TN)(root k:Int)(l r:List Int)(hn:ns.length<=1000000)(hl:l.length<=1000000)(hr:r.length<=1000000)(hk:∀x∈l,bI ns x)(nJ:∀x∈r,bI ns x)(hf:uY ns)(rN:0<l.length)(ik:3<=k∧k<=8) :
  HP prog G 127 [bU ns root,i64 k,aL l,aL r] (fun v=>v=.az [.d (DS (fJ ns k l r).1),.d (.bool (fJ ns k l r).2)]):=by
 by_cases h8:k=8
 .subst h8
  have e:fJ ns 8 l r=(if(eE ns l).all (gA ns l r)=true then some ((eE ns l).map (po ns l r))else none,(eE ns l).all (gA ns l r)):=by
   unfold fJ;rw[if_neg (by simp),if_neg (by decide),show lA ns 8 l r=eE ns l from rfl];generalize (eE ns l).all (gA ns l r)=B;cases B<;>rfl
  rw[e];exact VJ ns root 8 l r l (.inr ⟨rfl,rfl⟩) hn hl hr hk nJ hf rN
 by_cases wE:r=[]
 .have e:fJ ns k l r=(none,false):=by unfold fJ;rw[if_pos (by simp[h8,wE])]
  rw[e];exact ajd ns root k l r h8 wE
 have D6:0<r.length:=amJ.2 wE;have hc:¬(!decide (k=8)&&decide (r.length=0))=true:=by simp[wE]
 by_cases h6:k=6
 .subst h6;have e:fJ ns 6 l r=(some [(bL (r.map (aN ns)),bL (l.map (aN ns))),(bL (l.map (bN ns)),bL (r.map (bN ns)))],true):=by unfold fJ;rw[if_neg hc,if_pos rfl]
  rw[e];exact aja ns root l r hn hl hr hk nJ D6
 by_cases h7:k=7
 .subst h7
  have e:fJ ns 7 l r=(if(eE ns r).all (gA ns l r)=true then some ((eE ns r).map (po ns l r))else none,(eE ns r).all (gA ns l r)):=by
   unfold fJ;rw[if_neg hc,if_neg (by decide),show lA ns 7 l r=eE ns r from rfl];generalize (eE ns r).all (gA ns l r)=B;cases B<;>rfl
  rw[e];exact VJ ns root 7 l r r (.inl ⟨rfl,rfl⟩) hn hl hr hk nJ hf D6
 have e:fJ ns k l r=(some [],true):=by
  unfold fJ lA;rw[if_neg hc,if_neg h6,if_neg h7,if_neg h8];simp
 rw[e];exact aje ns root k l r (by omega) D6
end Go.Proofs.YtpmniabdmbmafaaGreatDoor

namespace Go.Proofs.YtpmniabdmbmafaaGreatDoor
open Go.Ab Tryz
theorem VL{l:List Int}{p:Int->Bool}(h:l.any p=true):l.findIdx p<l.length:=by
 obtain⟨x,hx,hp⟩:=alG.1 h;exact List.findIdx_lt_length.2 ⟨x,hx,hp⟩
theorem uc{l:List Int}{p:Int->Bool}:(0<=rm p l)↔l.any p=true:=by
 unfold rm;split
 .rename_i h;exact⟨fun _=>h,fun _=>by omega⟩
 .rename_i h;exact⟨fun g=>absurd g (by decide),fun g=>absurd g h⟩
def ud(ns:List TN)(l:List Int)(k:Nat):List Int:=([3,4,5,6,7,8].take k).filter fun k=>l.any fun x=>decide (ah ns x=k)
theorem ajg(ns:List TN)(l:List Int):ud ns l 6=gy ns l:=rfl
theorem ajh(ns:List TN)(l:List Int):∀k,k<6->ud ns l (k+1)=ud ns l k++(if l.any (fun x=>decide (ah ns x=(k:Int)+3))=true then[(k:Int)+3]else[]):=by
 intro k hk;have hl:k<([3,4,5,6,7,8]:List Int).length:=hk
 have e:([3,4,5,6,7,8]:List Int)[k]=(k:Int)+3:=by
  match k,hk with
  |0,_|1,_|2,_|3,_|4,_|5,_=>rfl
 unfold ud;rw[DE (p:=fun k=>l.any fun x=>decide (ah ns x=k)) hl,e]
theorem aji{ns:List TN}{l:List Int}{k:Nat}{x:Int}(h:x∈ud ns l k):3<=x∧x<=8∧l.any (fun y=>decide (ah ns y=x))=true:=by
 have h1:=aly.1 h;have h2:=alL h1.1;refine⟨?_,?_,h1.2⟩<;>simp at h2<;>omega
theorem ajj(ns:List TN)(l:List Int)(k:Nat):(ud ns l k).length<=6:=alU (al4 _ _) (by rw[alq];simp;omega)
theorem VM{ns:List TN}{k:Int}{l:List Int}{x:Int}(h:x∈bP ns k l):x∈l∧ah ns x=k:=by
 have:=aly.1 h;exact⟨this.1,by simpa using this.2⟩
theorem VN(ns:List TN)(k:Int)(l:List Int):(bP ns k l).length<=l.length:=al4 _ _
structure D7(ns:List TN)(q:SQ):Prop where
 l1:q.1.length<=4000
 l2:q.2.length<=4000
 k1:∀x∈q.1,bI ns x
 k2:∀x∈q.2,bI ns x
theorem ajk{G}(ns:List TN)(root:Int)(q:SQ)(hn:ns.length<=4000)(hq:D7 ns q)(hf:uY ns) :
  HP prog G 86 [bU ns root,fQ q] (fun v=>v=.az [.d (DS (dh ns q).1),.d (.bool (dh ns q).2)]):=by
 obtain⟨a,b⟩:=q;obtain⟨l1,l2,k1,k2⟩:=hq;simp only at l1 l2 k1 k2;have VO:=fun k=>Vz (G:=G) ns root a k (by omega) (by omega) k1;have cF2:=fun k=>Vz (G:=G) ns root b k (by omega) (by omega) k2;have cG1:=VA (G:=G) ns root a (by omega) (by omega) k1;have cG2:=VA (G:=G) ns root b (by omega) (by omega) k2;have MB:=fun i ins hi hs=>VG (G:=G) a i ins hi (by omega) hs;have MC:=fun i ins hi hs=>VG (G:=G) b i ins hi (by omega) hs;generalize hv:dh ns (a,b)=v;unfold dh at hv;unfold fQ aL bU at *
 refine fK func86 rfl (by decide +kernel) (by simp[ntmps86]) (aS fun E=>?_);simp only[go_sem];refine bd E (VO 2) rfl rfl (by simp) ?_;rintro _ rfl;simp only[go_sem];refine bH E ?_ ?_<;>intro g1<;>simp only[go_sem]
 .rw[if_pos (by rw[uc.1 g1];rfl)]at hv;subst hv;refine⟨[],?_⟩;simp only[go_sem];rfl
 refine bd E (cF2 1) rfl rfl (by simp) ?_;rintro _ rfl;simp only[go_sem];refine aI E ?_ ?_<;>intro g2<;>simp only[go_sem]
 .rw[if_pos (by rw[uc.1 g2,Bool.or_true])]at hv;subst hv;refine⟨[],?_⟩;simp only[go_sem];rfl
 rw[if_neg (by rw[Bool.eq_false_iff.2 fun h=>g1 (uc.2 h),Bool.eq_false_iff.2 fun h=>g2 (uc.2 h)];simp)]at hv;refine bd E cG1 rfl rfl (by simp) ?_;rintro _ rfl;simp only[go_sem];refine aI E ?_ ?_<;>intro g3<;>simp only[go_sem]
 .have ha:=uc.1 g3;have hi:=VL ha;rw[if_pos ha]at hv;unfold bO gZ at hv;rw[show rm (aZ ns) a=((a.findIdx (aZ ns):Nat):Int) by rw[rm,if_pos ha]];generalize a.findIdx (aZ ns)=i at hi hv ⊢;have hx:=k1 _ (ak2 hi);have ki:=hx.1;have jK:=hx.2;have bS:(a.map i64).getD i .aY=i64 a[i]:=fe hi;have hnd:=kp hx;rw[show a.getD i 0=a[i] by simp[hi]]at hv;generalize nd ns a[i].toNat=N at hnd hv;refine bz mixed E fun X=>?_;simp only[go_sem];refine⟨by omega,?_⟩;rw[bS];simp only[go_sem];refine⟨by omega,?_⟩;rw[hnd];simp only[go_sem];(try refine⟨by decide +kernel,?_⟩);refine aI E ?_ ?_<;>intro g4<;>simp only[go_sem]
  .rw[if_pos g4]at hv;refine bz mixed E fun X=>?_;simp only[go_sem];refine uI X 53 [53] none [i64 N.a,i64 N.b] (MB i [N.a,N.b] hi (by simp)) (fun _=>rfl) rfl rfl rfl (by simp) (by simp only[go_sem]) (by simp only[go_sem]) ?_;simp only[go_sem];(try refine⟨by decide +kernel,?_⟩);subst hv;refine⟨[([58],some 2,[.agg [.sl none ((gx a i [N.a,N.b]).map i64),.sl none (b.map i64)]])],?_⟩;simp only[go_sem];rfl
  .rw[if_neg g4]at hv;refine bz mixed E fun X=>?_;simp only[go_sem];refine uI X 64 [64] none [i64 N.a] (MB i [N.a] hi (by simp)) (fun _=>rfl) rfl rfl rfl (by simp) (by simp only[go_sem]) (by simp only[go_sem]) ?_;simp only[go_sem];refine uI X 74 [74] none [i64 N.b] (MB i [N.b] hi (by simp)) (fun _=>rfl) rfl rfl rfl (by simp) (by simp only[go_sem]) (by simp only[go_sem]) ?_;simp only[go_sem];(try refine⟨by decide +kernel,?_⟩);subst hv;refine⟨[([79],some 2,[.agg [.sl none ((gx a i [N.a]).map i64),.sl none (b.map i64)],.agg [.sl none ((gx a i [N.b]).map i64),.sl none (b.map i64)]])],?_⟩;simp only[go_sem];rfl
 rw[if_neg (fun h=>g3 (uc.2 h))]at hv;refine bd E cG2 rfl rfl (by simp) ?_;rintro _ rfl;simp only[go_sem];refine aI E ?_ ?_<;>intro g5<;>simp only[go_sem]
 .have ha:=uc.1 g5;have hi:=VL ha;rw[if_pos ha]at hv;unfold bO gZ at hv;rw[show rm (aZ ns) b=((b.findIdx (aZ ns):Nat):Int) by rw[rm,if_pos ha]];generalize b.findIdx (aZ ns)=i at hi hv ⊢;have hx:=k2 _ (ak2 hi);have ki:=hx.1;have jK:=hx.2;have bS:(b.map i64).getD i .aY=i64 b[i]:=fe hi;have hnd:=kp hx;rw[show b.getD i 0=b[i] by simp[hi]]at hv;generalize nd ns b[i].toNat=N at hnd hv;refine bz mixed E fun X=>?_;simp only[go_sem];refine⟨by omega,?_⟩;rw[bS];simp only[go_sem];refine⟨by omega,?_⟩;rw[hnd];simp only[go_sem];(try refine⟨by decide +kernel,?_⟩);refine aI E ?_ ?_<;>intro g4<;>simp only[go_sem]
  .rw[if_pos g4]at hv;refine bz mixed E fun X=>?_;simp only[go_sem];refine uI X 107 [107] none [i64 N.a,i64 N.b] (MC i [N.a,N.b] hi (by simp)) (fun _=>rfl) rfl rfl rfl (by simp) (by simp only[go_sem]) (by simp only[go_sem]) ?_;simp only[go_sem];(try refine⟨by decide +kernel,?_⟩);subst hv;refine⟨[([110],some 2,[.agg [.sl none (a.map i64),.sl none ((gx b i [N.a,N.b]).map i64)]])],?_⟩;simp only[go_sem];rfl
  .rw[if_neg g4]at hv;refine bz mixed E fun X=>?_;simp only[go_sem];refine uI X 118 [118] none [i64 N.a] (MC i [N.a] hi (by simp)) (fun _=>rfl) rfl rfl rfl (by simp) (by simp only[go_sem]) (by simp only[go_sem]) ?_;simp only[go_sem];refine uI X 128 [128] none [i64 N.b] (MC i [N.b] hi (by simp)) (fun _=>rfl) rfl rfl rfl (by simp) (by simp only[go_sem]) (by simp only[go_sem]) ?_;simp only[go_sem];(try refine⟨by decide +kernel,?_⟩);subst hv;refine⟨[([131],some 2,[.agg [.sl none (a.map i64),.sl none ((gx b i [N.a]).map i64)],.agg [.sl none (a.map i64),.sl none ((gx b i [N.b]).map i64)]])],?_⟩;simp only[go_sem];rfl
 rw[if_neg (fun h=>g5 (uc.2 h))]at hv;refine eU E [2] (.agg [.sl (some 4) (ns.map aK),i64 root]) rfl rfl ?_;refine eU E [3] (.agg [.sl none (a.map i64),.sl none (b.map i64)]) rfl rfl ?_
 refine bC E (X:={ i:Nat // i<=a.length∧(a.take i).any (fun x=>b.any fun y=>gY ns x y)=false }) (fun x=>[(2,.d (.ptr (.agg [.sl (some 4) (ns.map aK),i64 root]))),(3,.d (.ptr (.agg [.sl none (a.map i64),.sl none (b.map i64)]))),(10,.d (i64 x.1))])
  (fun _=>[]) [] (fun x=>a.length-x.1) ⟨0,ale _,by simp⟩ id ?_ ?_
 .simp only[go_sem]
  all_goals first|rfl|(and_intros<;>first|rfl|trivial)
 rintro⟨i,hi,yL⟩ E0;refine bK E0 fun Q' hQ E'=>?_;simp only at hi ⊢;simp only[go_sem];refine aI E' ?_ ?_<;>intro h1<;>simp only[go_sem]
 .have aq:i<a.length:=by omega
  have hx:=k1 _ (ak2 aq);have ki:=hx.1;have jK:=hx.2;have bS:(a.map i64).getD i .aY=i64 a[i]:=fe aq;have hnd:=kp hx
  refine bC E' (X:={ j:Nat // j<=b.length∧(b.take j).any (fun y=>gY ns a[i] y)=false }) (fun y=>[(2,.d (.ptr (.agg [.sl (some 4) (ns.map aK),i64 root]))),(3,.d (.ptr (.agg [.sl none (a.map i64),.sl none (b.map i64)]))),(10,.d (i64 i)),(11,.d (i64 y.1))])
   (fun _=>[]) [] (fun y=>b.length-y.1) ⟨0,ale _,by simp⟩ id ?_ ?_
  .simp only[go_sem]
   all_goals first|rfl|(and_intros<;>first|rfl|trivial)
  rintro⟨j,hj,ov⟩ E1;refine bK E1 fun Q2 cz E2=>?_;simp only at hj ⊢;simp only[go_sem];refine aI E2 ?_ ?_<;>intro h2<;>simp only[go_sem]
  .have aX:j<b.length:=by omega
   have hy:=k2 _ (ak2 aX);have VP:=hy.1;have VQ:=hy.2;have se:(b.map i64).getD j .aY=i64 b[j]:=fe aX;have D8:=kp hy;refine bz mixed E2 fun X=>?_;simp only[go_sem];refine⟨by omega,?_⟩;rw[bS];simp only[go_sem];refine⟨by omega,?_⟩;rw[hnd];simp only[go_sem];refine⟨by omega,?_⟩;rw[se];simp only[go_sem];refine⟨by omega,?_⟩;rw[D8];simp only[go_sem];(try refine⟨by decide +kernel,?_⟩);refine bH E2 ?_ ?_<;>intro g7<;>simp only[go_sem]
   .refine bH E2 ?_ ?_<;>intro g8<;>simp only[go_sem]
    .refine aI E2 ?_ ?_<;>intro g9<;>simp only[go_sem]
     .have kI:gY ns a[i] b[j]=true:=by
       rw[gY,show decide (ah ns a[i]=11)=true from decide_eq_true g7,show decide (ah ns b[j]=11)=true from decide_eq_true g8,decide_eq_true g9];rfl
      rw[if_pos (alG.2 ⟨_,ak2 aq,alG.2 ⟨_,ak2 aX,kI⟩⟩)]at hv;rw[cz];simp only[go_sem];rw[hQ];simp only[go_sem];subst hv;refine⟨[],?_⟩;simp only[go_sem];rfl
     .rw[cz];refine⟨⟨j+1,aX,rA aX ov (by rw[gY,decide_eq_false g9,amC])⟩,by show b.length-(j+1)<b.length-j;omega,id,?_⟩;simp only[go_sem];rw[aD ⟨by omega,by omega⟩]
      and_intros<;>first|rfl|trivial
    .rw[cz];refine⟨⟨j+1,aX,rA aX ov (by rw[gY,show decide (ah ns b[j]=11)=false from decide_eq_false g8,amC,alQ])⟩,by show b.length-(j+1)<b.length-j;omega,id,?_⟩;simp only[go_sem];rw[aD ⟨by omega,by omega⟩]
     and_intros<;>first|rfl|trivial
   .rw[cz];refine⟨⟨j+1,aX,rA aX ov (by rw[gY,show decide (ah ns a[i]=11)=false from decide_eq_false g7,alQ,alQ])⟩,by show b.length-(j+1)<b.length-j;omega,id,?_⟩;simp only[go_sem];rw[aD ⟨by omega,by omega⟩]
    and_intros<;>first|rfl|trivial
  .have gT:j=b.length:=by omega
   subst gT;rw[alk]at ov;rw[cz];simp only[go_sem];rw[hQ];refine⟨⟨i+1,aq,rA aq yL ov⟩,by show a.length-(i+1)<a.length-i;omega,id,?_⟩;simp only[go_sem];rw[aD ⟨by omega,by omega⟩]
   and_intros<;>first|rfl|trivial
 have de:i=a.length:=by omega
 subst de;rw[alk]at yL;rw[if_neg (by rw[yL];simp)]at hv;rw[hQ];simp only[go_sem]
 refine bC E (X:={ k:Nat // k<=6 }) (fun x=>[(2,.d (.ptr (.agg [.sl (some 4) (ns.map aK),i64 root]))),(3,.d (.ptr (.agg [.sl none (a.map i64),.sl none (b.map i64)]))),(14,.vw [201] 0 (ud ns a x.1).length),(15,.d (i64 ((x.1:Int)+3)))])
  (fun x=>[([201],.arr none ((ud ns a x.1).map i64))]) [201] (fun x=>6-x.1) ⟨0,ale _⟩ (ak [([201],[179])]) ?_ ?_
 .simp only[go_sem]
  all_goals first|rfl|(and_intros<;>first|rfl|trivial)
 rintro⟨k,hk⟩ E0;refine bK E0 fun Q3 lp E3=>?_;simp only at hk ⊢;simp only[go_sem];refine aI E3 ?_ ?_<;>intro h1<;>simp only[go_sem]
 .have aC:k<6:=by omega
  have jT:=ajh ns a k aC;have fb:=ajj ns a k;refine bd E3 (VO ((k:Int)+3)) rfl rfl (by simp) ?_;rintro _ rfl;simp only[go_sem];refine aI E3 ?_ ?_<;>intro h2<;>simp only[go_sem]
  .rw[if_pos (uc.1 h2)]at jT;refine⟨by omega,?_⟩;rw[lp];refine⟨⟨k+1,aC⟩,by show 6-(k+1)<6-k;omega,ak [([201],[193])],?_⟩;simp only[go_sem];rw[jT,alh,ak4];rw[aD ⟨by omega,by omega⟩]
   and_intros<;>first|rfl|trivial
  .rw[if_neg (fun h=>h2 (uc.2 h)),alS]at jT;rw[lp];refine⟨⟨k+1,aC⟩,by show 6-(k+1)<6-k;omega,id,?_⟩;simp only[go_sem];rw[jT];rw[aD ⟨by omega,by omega⟩]
   and_intros<;>first|rfl|trivial
 have nK:k=6:=by omega
 subst nK;rw[lp];simp only[go_sem];have hK:∀x∈ud ns a 6,3<=x∧x<=8∧a.any (fun y=>decide (ah ns y=x))=true:=fun x hx=>aji hx;rw[<-ajg]at hv;generalize ud ns a 6=K at hv hK ⊢;refine aI E ?_ ?_<;>intro h1<;>simp only[go_sem]
 .rw[if_pos (by omega)]at hv;subst hv;refine⟨[],?_⟩;simp only[go_sem];rfl
 rw[if_neg (by omega)]at hv;refine aI E ?_ ?_<;>intro h2<;>simp only[go_sem]
 .rw[if_pos (by omega)]at hv;subst hv;refine⟨[],?_⟩;simp only[go_sem];rfl
 rw[if_neg (by omega)]at hv;obtain⟨k,rfl⟩:∃k,K=[k]:=List.length_eq_one_iff.1 (by omega);obtain⟨Md,hk8,zT⟩:=hK k (by simp);have cO1:=VB (G:=G) ns root a k (by omega) (by omega) k1;have cO2:=VB (G:=G) ns root b k (by omega) (by omega) k2;have hO1:=VN ns k a;have J8:=VN ns k b
 have cH:=ajf (G:=G) ns root k (bP ns k a) (bP ns k b) (by omega) (by omega) (by omega) (fun x hx=>k1 x (VM hx).1) (fun x hx=>k2 x (VM hx).1) hf (by
  obtain⟨y,hy,hp⟩:=alG.1 zT
  exact amW (aly.2 ⟨hy,hp⟩)) ⟨Md,hk8⟩
 have qE:fJ ns k (bP ns k a) (bP ns k b)=v:=hv;rw[qE]at cH;unfold aL bU at *
 refine rZ E [201] none ([k].map i64) rfl ?_;simp only[go_sem];refine bz mixed E fun X=>?_;simp only[go_sem];refine dA X cO1 rfl rfl (by simp) ?_;simp only[go_sem];refine dA X cO2 rfl rfl (by simp) ?_;simp only[go_sem];refine dA X cH rfl rfl (by simp) ?_;simp only[go_sem];(try refine⟨by decide +kernel,?_⟩);refine⟨[],?_⟩;simp only[go_sem]
end Go.Proofs.YtpmniabdmbmafaaGreatDoor

namespace Go.Proofs.YtpmniabdmbmafaaGreatDoor
open Go.Ab Tryz
theorem ajl(a b:SQ):(decide (a.1=b.1)&&decide (a.2=b.2))=decide (a=b):=by
 obtain⟨a1,a2⟩:=a;obtain⟨b1,b2⟩:=b;by_cases h1:a1=b1<;>by_cases h2:a2=b2<;>simp[h1,h2]
theorem ajm{G}(a b:SQ)(h1:a.1.length<=1000000)(h2:a.2.length<=1000000):HP prog G 80 [fQ a,fQ b] (fun r=>r=.d (.bool (decide (a=b)))):=by
 have c1:=Fl (G:=G) a.1 b.1 h1;have c2:=Fl (G:=G) a.2 b.2 h2;rw[<-ajl];unfold fQ;refine cj func80 rfl (by decide +kernel) (by simp[ntmps80]) (aS fun E=>?_);simp only[go_sem];refine bd E c1 rfl rfl (by simp) ?_;rintro _ rfl;simp only[go_sem];generalize hd:decide (a.1=b.1)=B at *
 repeat (first
  |(apply fm E;(· simp only[go_sem]);(· intro h;(try simp only[bq]at h);simp only[↓h,go_sem];rfl);simp only[go_sem]))
 (first|(apply oO E;(· simp only[go_sem]);(· intro h hk;(try simp only[bq]at h);refine bd E (c2) rfl (by simp only[↓h,go_sem]<;>rfl) (by simp) ?_;rintro _ rfl;exact hk);simp only[go_sem])|(apply qX E;(· simp only[go_sem]);(· rfl);(· intro h h' hk;(try simp only[bq]at h h');refine bd E (c2) rfl (by simp only[↓h,↓h',go_sem]<;>rfl) (by simp) ?_;rintro _ rfl;exact hk);simp only[go_sem]))
 repeat (first
  |(apply gm E;(· decide);simp only[go_sem]))
 all_goals (cases B<;>rfl)
theorem VS:∀{l:List Int} {n:Nat},(∀x∈l,0<=x∧x<(n:Int))->0<=l.sum∧l.sum<=(n:Int)*(l.length:Int)
 |[],_,_=>by simp
 |x::r,n,h=>by
   have h1:=VS (l:=r) (n:=n) fun y hy=>h y (ald _ hy);have h2:=h x alb;have h3:(n:Int)*((x::r).length:Int)=(n:Int)*(r.length:Int)+n:=by rw[List.length_cons];push_cast;rw[Int.mul_add];omega
   rw[List.sum_cons,h3];omega
def j6(q:SQ):Prop:=q.1.length<=4000∧q.2.length<=4000∧(∀x∈q.1,0<=x∧x<4000)∧∀x∈q.2,0<=x∧x<4000
theorem VT{l:List Int}{i:Nat}(h:i<l.length):(l.take (i+1)).sum=(l.take i).sum+l[i]:=by
 rw[ak9 h,List.sum_append,List.sum_cons,List.sum_nil,Int.add_zero]
theorem Hz{l:List Int}{i:Nat}(hl:l.length<=4000)(h:∀x∈l,0<=x∧x<4000):0<=(l.take i).sum∧(l.take i).sum<=16000000:=by
 have h1:=VS (l:=l.take i) (n:=4000) fun x hx=>h x (alL hx);have h2:(l.take i).length<=4000:=by rw[alq];omega
 refine⟨h1.1,Int.le_trans h1.2 ?_⟩;omega
theorem yM{q:SQ}(h:j6 q):0<=kr q∧kr q<997:=by
 obtain⟨h1,h2,h3,h4⟩:=h;have a:=Hz (i:=q.1.length) h1 h3;have b:=Hz (i:=q.2.length) h2 h4;rw[alk]at a b;unfold kr;have:=Int.tmod_lt_of_pos (7*(q.1.length:Int)+11*(q.2.length:Int)+31*q.1.sum+17*q.2.sum) (show(0:Int)<997 by decide);exact⟨Int.tmod_nonneg _ (by omega),this⟩
theorem ajn{G}(q:SQ)(h:j6 q):HP prog G 79 [fQ q] (fun r=>r=.d (i64 (kr q))):=by
 have hb:=yM h;obtain⟨a,b⟩:=q;obtain⟨h1,h2,h3,h4⟩:=h;unfold fQ aL kr at *
 simp only at h1 h2 h3 h4 hb ⊢;refine cj func79 rfl (by decide +kernel) (by simp[ntmps79]) (aS fun E=>?_);simp only[go_sem];refine eU E [1] (.agg [.sl none (a.map i64),.sl none (b.map i64)]) rfl rfl ?_;simp only[go_sem];rw[aD (n:=7*(a.length:Int)) ⟨by omega,by omega⟩,aD (n:=11*(b.length:Int)) ⟨by omega,by omega⟩,aD (n:=7*(a.length:Int)+11*(b.length:Int)) ⟨by omega,by omega⟩]
 refine bC E (X:={ i:Nat // i<=a.length }) (fun x=>[(1,.d (.ptr (.agg [.sl none (a.map i64),.sl none (b.map i64)]))),(3,.d (i64 (7*(a.length:Int)+11*(b.length:Int)+31*(a.take x.1).sum))),(4,.d (i64 x.1))])
  (fun _=>[]) [] (fun x=>a.length-x.1) ⟨0,ale _⟩ id ?_ ?_
 .simp only[go_sem]
  all_goals first|rfl|(and_intros<;>first|rfl|trivial|simp)
 rintro⟨i,hi⟩ E0;refine bK E0 fun Q' hQ E'=>?_;simp only at hi ⊢;have st:=Hz (i:=i) h1 h3;simp only[go_sem];refine aI E' ?_ ?_<;>intro g1<;>simp only[go_sem]
 .have aq:i<a.length:=by omega
  have hx:=h3 _ (ak2 aq);have hs:=VT aq;refine⟨by omega,?_⟩;rw[fe aq];generalize a[i]=x at hx hs ⊢;simp only[go_sem];rw[hQ];refine⟨⟨i+1,aq⟩,by show a.length-(i+1)<a.length-i;omega,id,?_⟩;simp only[go_sem];rw[hs,aD (n:=31*x) ⟨by omega,by omega⟩,aD (n:=7*(a.length:Int)+11*(b.length:Int)+31*(a.take i).sum+31*x) ⟨by omega,by omega⟩,aD (n:=(i:Int)+1) ⟨by omega,by omega⟩]
  and_intros<;>first|rfl|trivial|exact congrArg (fun z:Int=>AV.d (i64 z)) (by omega)
 have de:i=a.length:=by omega
 subst de;rw[alk]at *
 rw[hQ];simp only[go_sem]
 refine bC E (X:={ i:Nat // i<=b.length }) (fun x=>[(1,.d (.ptr (.agg [.sl none (a.map i64),.sl none (b.map i64)]))),(3,.d (i64 (7*(a.length:Int)+11*(b.length:Int)+31*a.sum+17*(b.take x.1).sum))),(5,.d (i64 x.1))])
  (fun _=>[]) [] (fun x=>b.length-x.1) ⟨0,ale _⟩ id ?_ ?_
 .simp only[go_sem]
  all_goals first|rfl|(and_intros<;>first|rfl|trivial|simp)
 rintro⟨j,hj⟩ E1;refine bK E1 fun Q2 cz E2=>?_;simp only at hj ⊢;have su:=Hz (i:=j) h2 h4;simp only[go_sem];refine aI E2 ?_ ?_<;>intro g2<;>simp only[go_sem]
 .have aX:j<b.length:=by omega
  have hx:=h4 _ (ak2 aX);have hs:=VT aX;refine⟨by omega,?_⟩;rw[fe aX];generalize b[j]=x at hx hs ⊢;simp only[go_sem];rw[cz];refine⟨⟨j+1,aX⟩,by show b.length-(j+1)<b.length-j;omega,id,?_⟩;simp only[go_sem];rw[hs,aD (n:=17*x) ⟨by omega,by omega⟩,aD (n:=7*(a.length:Int)+11*(b.length:Int)+31*a.sum+17*(b.take j).sum+17*x) ⟨by omega,by omega⟩,aD (n:=(j:Int)+1) ⟨by omega,by omega⟩]
  and_intros<;>first|rfl|trivial|exact congrArg (fun z:Int=>AV.d (i64 z)) (by omega)
 .have gT:j=b.length:=by omega
  subst gT;rw[alk]at *
  rw[cz];simp only[go_sem]
def AB(a b:List Int)(i:Nat):Bool:=rp (a.drop i) (b.drop i)
theorem ajo{a b:List Int}{i:Nat}(hi:i<=a.length)(hj:i<=b.length)(h:¬(i<a.length∧i<b.length)):AB a b i=decide (a.length<b.length):=by
 unfold AB;by_cases ha:i<a.length
 .have hb:b.drop i=[]:=anA (by omega);rw[hb,amo ha,rp];exact(decide_eq_false (by omega)).symm
 .rw[anA (by omega:a.length<=i)];by_cases hb:i<b.length
  .rw[amo hb,rp];exact(decide_eq_true (by omega)).symm
  .rw[anA (by omega:b.length<=i),rp];exact(decide_eq_false (by omega)).symm
theorem ajp{a b:List Int}{i:Nat}(hi:i<a.length)(hj:i<b.length):AB a b i=if a[i]=b[i]then AB a b (i+1)else decide (a[i]<b[i]):=by
 unfold AB;rw[amo hi,amo hj,rp]
theorem ajq{G}(a b:List Int)(h1:a.length<=1000000)(h2:b.length<=1000000):HP prog G 123 [aL a,aL b] (fun r=>r=.d (.bool (rp a b))):=by
 unfold aL;refine cj func123 rfl (by decide +kernel) (by simp[ntmps123]) (aS fun E=>?_);simp only[go_sem]
 refine bC E (X:={ i:Nat // i<=a.length∧i<=b.length∧AB a b i=rp a b }) (fun x=>[(0,.d (.sl none (a.map i64))),(1,.d (.sl none (b.map i64))),(5,.d (i64 x.1))])
  (fun _=>[]) [] (fun x=>a.length-x.1) ⟨0,ale _,ale _,rfl⟩ id ?_ ?_
 .simp only[go_sem]
  all_goals first|rfl|(and_intros<;>first|rfl|trivial)
 rintro⟨i,hi,hj,hf⟩ E0;refine bK E0 fun Q' hQ E'=>?_;simp only at hi hj ⊢;simp only[go_sem]
 repeat (first
  |(apply fm E';(· simp only[go_sem]);(· intro h;(try simp only[bq]at h);simp only[↓h,go_sem];rfl);simp only[go_sem])
  |(apply gm E';(· decide);simp only[go_sem]))
 refine ck E' ?_ ?_<;>intro g1<;>simp only[go_sem]
 .have aq:i<a.length∧i<b.length:=by simpa using g1
  have hs:=ajp aq.1 aq.2;have VU:=fe aq.1;have VW:=fe aq.2;refine bz mixed E' fun X=>?_;simp only[go_sem];refine⟨by omega,?_⟩;rw[VU];simp only[go_sem];refine⟨by omega,?_⟩;rw[VW];simp only[go_sem];(try refine⟨by decide +kernel,?_⟩);refine aI E' ?_ ?_<;>intro g2<;>simp only[go_sem]
  .rw[if_neg (by simpa using g2)]at hs;refine bz mixed E' fun X=>?_;simp only[go_sem];refine⟨by omega,?_⟩;rw[VU];simp only[go_sem];refine⟨by omega,?_⟩;rw[VW];simp only[go_sem];(try refine⟨by decide +kernel,?_⟩);rw[hQ];simp only[go_sem];rw[<-hf,hs]
  .rw[if_pos (by simpa using g2)]at hs;rw[hQ];refine⟨⟨i+1,aq.1,aq.2,by rw[<-hs,hf]⟩,by show a.length-(i+1)<a.length-i;omega,id,?_⟩;simp only[go_sem];rw[aD ⟨by omega,by omega⟩]
   and_intros<;>first|rfl|trivial
 .have de:¬(i<a.length∧i<b.length):=by simpa using g1
  rw[hQ];simp only[go_sem];rw[<-hf,ajo hi hj de];rw[show decide ((a.length:Int)<(b.length:Int))=decide (a.length<b.length)from decide_eq_decide.2 (by omega)]
end Go.Proofs.YtpmniabdmbmafaaGreatDoor

