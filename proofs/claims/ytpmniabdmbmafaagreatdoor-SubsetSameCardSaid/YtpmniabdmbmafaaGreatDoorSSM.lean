/-
  Each node's sides; whether a type is polar: the program's answers. (with the parts that follow it)
-/
import Derived.Test.YtpmniabdmbmafaaGreatDoorSSL
import Derived.Test.YtpmniabdmbmafaaGreatDoorSSJ
import Derived.Test.YtpmniabdmbmafaaGreatDoorSSG
set_option linter.all false
set_option maxHeartbeats 16000000
namespace Go.Proofs.YtpmniabdmbmafaaGreatDoor
open Go.Ab Tryz
def sd(l:List bL)(i:Nat):Int:=(if((i:Int),(1:Int))∈l then 1 else 0)+(if((i:Int),(2:Int))∈l then 2 else 0)
def ki(N:Nat)(l:List bL):List Int:=(List.range N).map (sd l)
theorem Jg(N:Nat)(l:List bL):(ki N l).length=N:=by simp[ki]
theorem Qz{N:Nat}{l:List bL}{i:Nat}(h:i<N):((ki N l).map i64).getD i .aY=i64 (sd l i):=by simp[ki,h]
theorem aez:∀(p q r:Bool),qW .or .i64 ((if p then 1 else 0)+(if q then 2 else 0)) (if r then 1 else 2)=(if p||r then 1 else 0)+(if q||!r then 2 else 0):=by decide
theorem aeA{l:List bL}{k:Nat}(h:k<l.length){i:Nat}{side:Int}(hk:l[k]=((i:Int),side))(hs:side=1∨side=2):qW .or .i64 (sd (l.take k) i) side=sd (l.take (k+1)) i:=by
 have e:∀x:bL,x∈l.take (k+1)↔x∈l.take k∨x=((i:Int),side):=fun x=>by rw[ah5 h,ah1,ahZ,hk]
 have h1:=aez (decide (((i:Int),(1:Int))∈l.take k)) (decide (((i:Int),(2:Int))∈l.take k)) (decide (side=1));simp only[sd,e];obtain rfl|rfl:=hs
 .simpa using h1
 .simpa using h1
theorem aeB{l:List bL}{k:Nat}(h:k<l.length){i:Nat}(hk:l[k].1≠(i:Int)):sd (l.take k) i=sd (l.take (k+1)) i:=by
 have e:∀s:Int,((i:Int),s)∈l.take (k+1)↔((i:Int),s)∈l.take k:=fun s=>by
  rw[ah5 h,ah1,ahZ];refine⟨fun h=>h.resolve_right fun e=>hk (by rw[<-e]),.inl⟩
 simp only[sd,e]
theorem aeC{N:Nat}{l:List bL}{k:Nat}(h:k<l.length){i:Nat}{side:Int}(hk:l[k]=((i:Int),side))(hs:side=1∨side=2)(_hi:i<N) :
  (ki N (l.take k)).set i (qW .or .i64 (sd (l.take k) i) side)=ki N (l.take (k+1)):=by
 rw[aeA h hk hs];refine ai0 (by simp[ki]) fun q h1 h2=>?_;have hq:q<N:=by simpa[ki]using h2
 simp only[ajW];by_cases e:i=q
 .subst e;simp[ki]
 .rw[if_neg e];have:=aeB h (i:=q) (by rw[hk];intro h;simp only at h;omega);simpa[ki]using this
theorem aeD(N:Nat)(l:List bL):ki N (l.take 0)=List.replicate N 0:=by
 refine ai0 (by simp[ki]) fun q h1 h2=>?_;simp[ki,sd]
def lx(ns:List TN)(root:Int)(l:List bL):Prop:=cB (jj ns) [] [(root,1)] l∧(∀s∈l,rS ns s)∧l.length<=2*ns.length
theorem aeE{G}(ns:List TN)(root:Int)(hN:ns.length<=2000)(cT:∀n∈ns,n.l.length<=1000000)(hk:yS ns)(hr:0<=root∧root<ns.length) :
  HP prog G 32 [bp ns root] (fun r=>∃l,r=.d (aL (ki ns.length l))∧lx ns root l):=by
 refine gy func32 rfl (by decide +kernel) (by simp[ntmps32]) (aT fun E=>?_);unfold bp;simp only[go_sem];refine⟨⟨by omega,by omega,by omega,by omega⟩,?_⟩;refine bj E (aey ns root hN cT hk hr) rfl rfl (by simp) ?_;rintro _ ⟨l,rfl,hl⟩;simp only[go_sem];have cD:List.replicate ns.length (D.int IntKind.i64 0)=(ki ns.length (l.take 0)).map i64:=by rw[aeD,akD]
 rw[cD];have hlen:=hl.2.2;refine Aj E (X:={ k:Nat // k<=l.length }) (fun x=>[(3,.vw [9] 0 ns.length),(11,.d (.sl (some 2) (l.map fb))),(12,.d (i64 l.length)),(13,.d (i64 x.1))]) (fun x=>[([9],.arr none ((ki ns.length (l.take x.1)).map i64))]) [9] (fun x=>l.length-x.1) ⟨0,aie _⟩ ?_ ?_
 .simp only[go_sem]
  all_goals rfl
 rintro⟨k,jd⟩ E0;refine bW E0 fun Q' hQ E'=>?_;simp only at jd ⊢;simp only[go_sem];refine aH E' ?_ ?_<;>intro h1<;>simp only[go_sem]
 .have cw:k<l.length:=by omega
  obtain⟨⟨i,side⟩,hs⟩:∃s,s=l[k]:=⟨_,rfl⟩
  have aF:=hl.2.1 l[k] (ah2 cw);rw[<-hs]at aF;obtain⟨⟨uv,rK⟩,QA⟩:=aF;simp only at uv rK QA;obtain⟨x,rfl⟩:∃x:Nat,i=(x:Int):=⟨i.toNat,by omega⟩
  have hx:(l.map fb).getD k .aY=.agg [i64 x,i64 side]:=by simp[cw,fb,<-hs]
  refine⟨by omega,?_⟩;rw[hx];simp only[go_sem];refine bF mixed E' fun X=>?_;simp only[go_sem];refine⟨by omega,?_⟩;rw[Qz (by omega)];simp only[go_sem];refine⟨⟨by omega,by omega⟩,by decide +kernel,?_⟩;rw[hQ];simp only[go_sem];refine⟨⟨k+1,by omega⟩,by show l.length-(k+1)<_;omega,by rw[aD ⟨by omega,by omega⟩];rfl,?_⟩;have:=aeC cw hs.symm QA (show x<ns.length by omega);rw[<-this,ajv]
 .rw[hQ];simp only[go_sem];have:k=l.length:=by omega
  subst this;refine⟨[([9],none,(ki ns.length (l.take l.length)).map i64)],?_⟩;simp only[go_sem];refine⟨l,?_,hl⟩;rw[aL,aic (by simp[Jg])]
theorem vn{ns:List TN}{root:Int}(h:ek ns root=0):(0<ns.length∧ns.length<=2000)∧(0<=root∧root<ns.length)∧ph ns=true∧sU ns=true:=by
 unfold ek at h;split at h
 .cases h
 .rename_i h1;split at h
  .cases h
  .rename_i h2;split at h
   .cases h
   .rename_i h3;simp only[aiL,decide_eq_true_eq,not_or,aiT,Bool.not_eq_false]at h1 h2 h3;exact⟨⟨by omega,by omega⟩,⟨by omega,by omega⟩,h3.1,h3.2⟩
theorem aeF{n:TN}{all:Int}(h:jf n all=true):n.l.length<=30:=by
 simp only[jf,aia,aiT,ai5,aj1,decide_eq_true_eq]at h;exact h.1.2.2.2
theorem aeG{ns:List TN}(h:ph ns=true):yS ns:=by
 intro i hi;have h1:=uY h hi;refine⟨Bc h1,?_⟩;have h2:=aeF h1;unfold ch;split
 .simp
 .split<;>simp;omega
def tA(ns:List TN)(l:List bL)(i:Nat):Bool:=(decide ((nd ns i).k=9)&&decide (((i:Int),(2:Int))∈l))||(decide ((nd ns i).k=10)&&decide (((i:Int),(1:Int))∈l))
def ly(ns:List TN)(l:List bL):Bool:=!(List.range ns.length).any (tA ns l)
theorem aeH(l:List bL)(i:Nat):decide (¬qW .and .i64 (sd l i) 1=0)=decide (((i:Int),(1:Int))∈l):=by
 unfold sd;by_cases h1:((i:Int),(1:Int))∈l<;>by_cases h2:((i:Int),(2:Int))∈l<;>simp only[h1,h2,if_true,if_false]<;>decide
theorem aeI(l:List bL)(i:Nat):decide (¬qW .and .i64 (sd l i) 2=0)=decide (((i:Int),(2:Int))∈l):=by
 unfold sd;by_cases h1:((i:Int),(1:Int))∈l<;>by_cases h2:((i:Int),(2:Int))∈l<;>simp only[h1,h2,if_true,if_false]<;>decide
theorem aeJ{p:Nat->Bool}{k:Nat}(h:(List.range k).any p=false)(hp:p k=false):(List.range (k+1)).any p=false:=by
 rw[akw,akv,h,ajI];simp[hp]
theorem aeK{p:Nat->Bool}{N k:Nat}(h:k<N)(hp:p k=true):(List.range N).any p=true:=aiA.2 ⟨k,aiq.2 h,hp⟩
theorem QB{G}(ns:List TN)(root:Int)(hs:rE ns):HP prog G 16 [bp ns root] (fun r=>(ek ns root≠0∧r=.d (i64 (ek ns root)))∨(ek ns root=0∧∃l,r=.d (i64 (if ly ns l then 0 else 12))∧lx ns root l)):=by
 refine cJ func16 rfl (by decide +kernel) (by simp[ntmps16]) (aT fun E=>?_);unfold bp;simp only[go_sem];refine bj E (Io ns root hs) rfl rfl (by simp) ?_;rintro _ rfl;simp only[go_sem];refine aH E ?_ ?_<;>intro h1<;>simp only[go_sem]
 .exact .inl h1
 have h1:ek ns root=0:=by simpa using h1
 obtain⟨⟨h2,h3⟩,h4,h5,h6⟩:=vn h1;refine bj E (aeE ns root h3 (fun n hn=>(hs.2 n hn).1) (aeG h5) h4) rfl rfl (by simp) ?_;rintro _ ⟨l,rfl,hl⟩;unfold aL;simp only[go_sem];refine eP E [1] (.agg [.sl (some 4) (ns.map aw),i64 root]) rfl rfl ?_;simp only[go_sem];rw[Jg];refine rh E (X:={ k:Nat // k<=ns.length∧(List.range k).any (tA ns l)=false }) (fun x=>[(1,.d (.ptr (.agg [.sl (some 4) (ns.map aw),i64 root]))),(13,.d (.sl none ((ki ns.length l).map i64))),(14,.d (i64 ns.length)),(15,.d (i64 x.1))]) (fun x=>ns.length-x.1) rfl ⟨0,aie _,rfl⟩ ?_ ?_
 .simp only[go_sem]
  all_goals rfl
 rintro⟨k,jd,hb⟩ E';simp only[go_sem];refine aH E' ?_ ?_<;>intro h7<;>simp only[go_sem]
 .have Jh:k<ns.length:=by omega
  have hsl:(ki ns.length l).length=ns.length:=Jg _ _;refine⟨by omega,?_⟩;rw[Qz Jh];simp only[go_sem];refine⟨by omega,?_⟩;rw[uP Jh];simp only[go_sem]
  repeat (first
   |(apply gC E';(· simp only[go_sem]);(· intro h;(try simp only[bq]at h);simp only[↓h,go_sem];rfl);simp only[go_sem])
   |(apply iu E';(· decide);simp only[go_sem]))
  rw[aeI];have bad:tA ns l k=true->ly ns l=false:=fun h=>by rw[ly,aeK Jh h];rfl
  refine cK E' ?_ ?_<;>intro h8<;>simp only[go_sem]
  .rw[h8];simp only[go_sem];refine .inr ⟨h1,l,?_,hl⟩;rw[bad (by rw[tA,h8,ak3])];rfl
  .repeat (first
    |(apply gC E';(· simp only[go_sem]);(· intro h;(try simp only[bq]at h);simp only[↓h,go_sem];rfl);simp only[go_sem])
    |(apply iu E';(· decide);simp only[go_sem]))
   rw[aeH];refine cK E' ?_ ?_<;>intro h9<;>simp only[go_sem]
   .refine .inr ⟨h1,l,?_,hl⟩;rw[bad (by rw[tA,h9,ak2])];rfl
   .refine⟨⟨k+1,by omega,aeJ hb (by rw[tA,h8,h9];rfl)⟩,by show ns.length-(k+1)<_;omega,?_⟩;rw[aD ⟨by omega,by omega⟩];rfl
 .have:k=ns.length:=by omega
  subst this;refine .inr ⟨h1,l,?_,hl⟩;rw[ly,hb];rfl
end Go.Proofs.YtpmniabdmbmafaaGreatDoor

namespace Go.Proofs.YtpmniabdmbmafaaGreatDoor
open Go.Ab
theorem aeL{l:List cn}(h:∀i,i<l.length->lh l i=false):kg (l.map (·.1)):=by
 have hs:∀i,i+1<l.length->eW l i<eW l (i+1):=by
  intro i hi;have h2:=h (i+1) hi;simpa only[lh,Nat.zero_lt_succ,decide_true,ajp,aj1,aki,bytesLess_eq,decide_eq_true_eq]using h2
 have hlt:∀(d i:Nat),i+d+1<l.length->eW l i<eW l (i+d+1):=by
  intro d
  induction d with
  |zero=>exact fun i hi=>hs i hi
  |succ d ih=>exact fun i hi=>ak0 (ih i (by omega)) (hs (i+d+1) hi)
 rw[kg,ajl];intro i j hi hj dW;rw[aik]at hi hj;have:=hlt (j-i-1) i (by omega);rw[show i+(j-i-1)+1=j by omega,rR hi,rR hj]at this;rw[ajB,ajB];exact this
theorem aeM{l:List cn}(h:kg (l.map (·.1))):∀i,i<l.length->lh l i=false:=by
 intro i hi;unfold lh
 cases i with
 |zero=>simp
 |succ i =>
   have:=ajl.1 h i (i+1) (by rw[aik];omega) (by rw[aik];exact hi) (by omega);rw[ajB,ajB]at this;rw[aki,rR hi,rR (show i<l.length by omega),bytesLess_eq,decide_eq_true this];simp
theorem aeN{is:List UInt8->Bool}{l:List cn}(h:kg (l.map (·.1)))(hi:∀q∈l,is q.1=true):sX is l=true:=by
 unfold sX;rw[aio];intro i hm;have bR:=aiq.1 hm;rw[rR bR,hi _ (ah2 bR),aeM h i bR];rfl
theorem QC{l:List (List UInt8)}(h:kg l):l.Nodup:=h.imp fun {a b} eL e=>by rw[e]at eL;exact Et eL
theorem Ev{s:List UInt8}(h:rr s=true):s.length<=20:=by
 simp only[rr,aia,decide_eq_true_eq]at h;exact h.1.2
structure Ty(ns:List TN)(root:Int):Prop where
 lB:dO ns
 oI:rP ns
 rt:aC ns root
 nm:∀i,aC ns i->kg ((nd ns i.toNat).l.map (·.1))
 rc:∀i,aC ns i->ag ns i=7->∀q∈(nd ns i.toNat).l,qn q.1=true
 tg:∀i,aC ns i->ag ns i=8->∀q∈(nd ns i.toNat).l,ru q.1=true
 vr:∀i,aC ns i->ag ns i=11->0<=(nd ns i.toNat).a∧(nd ns i.toNat).a<=999
 fw:∀n∈ns,n.l.length<=30
theorem wZ{n:TN}{all:Int}(h:jf n all=true):n.l.length<=30∧uO n.k n.l=true∧(n.k=11->0<=n.a∧n.a<=999)∧(gU n.k=true∨n.l=[]):=by
 simp only[jf,aia,aiT,ai5,aj1,decide_eq_true_eq]at h;obtain⟨⟨⟨_,hv⟩,hw,hn⟩,_⟩:=h;refine⟨hn.2,hn.1,fun hk=>?_,?_⟩
 .rw[hk]at hv;simp only[decide_true,ajp,ai5,decide_eq_false_iff_not]at hv;omega
 .cases hz:gU n.k with
  |true=>exact .inl rfl
  |false =>
    rw[hz]at hw;simp only[aj6,ajp,decide_eq_false_iff_not]at hw;exact .inr (ai7 (by omega))
theorem BA{k:Int}{l:List cn}(h:uO k l=true):kg (l.map (·.1))∧(k=7->∀q∈l,qn q.1=true)∧(k=8->∀q∈l,ru q.1=true):=by
 unfold uO at h
 have h1:∀i,i<l.length->sK k (eW l i)=false∧lh l i=false:=fun i hi=>by
  have:=Jd h hi;simpa only[aia,aiT]using this
 refine⟨aeL fun i hi=>(h1 i hi).2,fun hk q hq=>?_,fun hk q hq=>?_⟩
 .obtain⟨i,hi,rfl⟩:=aiB hq;have:=(h1 i hi).1;rw[rR hi,sK,hk]at this;simpa using this
 .obtain⟨i,hi,rfl⟩:=aiB hq;have:=(h1 i hi).1;rw[rR hi,sK,hk]at this;simpa using this
theorem yT{ns:List TN}{root:Int}(h:ek ns root=0):Ty ns root:=by
 obtain⟨⟨_,h2⟩,h4,h5,h6⟩:=vn h;have hr:∀i,aC ns i->jf (nd ns i.toNat) ns.length=true:=fun i hi=>uY h5 (by have:=hi.1;have:=hi.2;omega);have hk:∀i,aC ns i->∀x∈ch (nd ns i.toNat),aC ns x:=fun i hi x hx=>Bc (hr i hi) x hx
 refine⟨⟨h2,O5 h5,by unfold sU at h6;simpa using h6⟩,⟨fun i hi tC=>?_,fun i hi=>?_⟩,h4,fun i hi=>(BA (wZ (hr i hi)).2.1).1,
  fun i hi tC=>(BA (wZ (hr i hi)).2.1).2.1 tC,fun i hi tC=>(BA (wZ (hr i hi)).2.1).2.2 tC,fun i hi tC=>(wZ (hr i hi)).2.2.1 tC,fun n hn=>?_⟩
 .have tC:(nd ns i.toNat).k=6:=tC;have h1:=hk i hi;rw[ch,tC,if_pos (by decide)]at h1;exact⟨h1 _ (by simp),h1 _ (by simp)⟩
 .obtain⟨g1,g2,_,g4⟩:=wZ (hr i hi);refine⟨by omega,fun q hq=>?_⟩;obtain g4|g4:=g4
  .have hnp:oq (nd ns i.toNat).k=false:=by
    simp only[gU,aiL,decide_eq_true_eq]at g4;rcases g4 with g4|g4<;>rw[g4]<;>decide
   have h1:=hk i hi;rw[ch,hnp,if_neg (by simp),if_pos g4]at h1;refine⟨?_,h1 _ (ah9.2 ⟨q,hq,rfl⟩)⟩;simp only[gU,aiL,decide_eq_true_eq]at g4;obtain g4|g4:=g4
   .have:=(BA g2).2.1 g4 q hq;rw[qn,aia,aia]at this;have:=Ev this.1.1;omega
   .have:=(BA g2).2.2 g4 q hq;rw[ru,aia]at this;have:=Ev this.1;omega
  .rw[g4]at hq;cases hq
 .obtain⟨i,hi,rfl⟩:=aiB hn;have:=(wZ (uY h5 hi)).1;rw[qs hi]at this;exact this
theorem Ty.Ji{ns:List TN}{root:Int}(h:Ty ns root){l:List Int}(hl:∀x∈l,aC ns x):By ns l:=fun x hx=>QC (h.nm x (hl x hx))
end Go.Proofs.YtpmniabdmbmafaaGreatDoor

namespace Go.Proofs.YtpmniabdmbmafaaGreatDoor
open Go.Ab Tryz
variable {t:TypeId}{fz:Nat×Nat}
noncomputable def vp(n:Int):Int:=if 2000<n then 2000 else n
noncomputable def nF(ns:List TN)(root n:Int):Option (List EA):=kM ns (vp n) 2001 [] (bV [] (a8 ns true [root])).2
def yU:Option (List EA)->AV
 |some L=>.aA [.d (rI L 0),.d (i64 0)]
 |none=>.aA [.d (.agg [.ai,i64 0]),.d (i64 8)]
theorem Jj(ns:List TN)(root n:Int)(hs:rE ns)(h:dO ns)(ha:rP ns)(hr:aC ns root)(hm:ek ns root=0)(hp:∀l,lx ns root l->ly ns l=true) :
  HP prog (GT t fz) 7 [bp ns root,i64 n] (fun r=>r=yU (nF ns root n)):=by
 have c0:=QB (G:=GT t fz) ns root hs;have kX:∀x∈[root],aC ns x:=fun x hx=>by rw[ahZ.1 hx];exact hr
 have c1:=Ec (G:=GT t fz) ns root h true [root] (by simp) kX;have o1:=Ed h (p:=true) kX;have m1:=yP h (p:=true) kX;generalize hR:nF ns root n=R;unfold nF at hR;generalize a8 ns true [root]=C at c1 o1 m1 hR;have c2:=Eb (t:=t) (fz:=fz) ns root [] false C o1 (by simp);have w1:=Eo (ns:=ns) (W:=[]) (c:=C) (fun _ h=>by cases h) m1;have l1:=yI [] C;generalize bV [] C=P at c2 w1 l1 hR;unfold bp at c0 ⊢;refine gy func7 rfl (by decide +kernel) (by simp[ntmps7]) (aT fun E=>?_);simp only[go_sem];refine bj E c0 rfl rfl (by simp) ?_;rintro _ (⟨h1,_⟩|⟨_,l,rfl,hl⟩)
 .exact absurd hm h1
 rw[hp l hl];simp only[go_sem];generalize hN:(if 2000<n then(2000:Int)else n)=N;have hNl:N<=2000:=by rw[<-hN];split<;>omega
 rw[show vp n=N from hN]at hR;refine GU E (by simp only[go_sem]) (by rw[ay];decide) ?_;simp only[go_sem];rw[show fY C=.agg [.bool C.1,.bool C.2.1,.sl none (C.2.2.map i64)]from rfl]at c2;unfold bO at c2;refine eM E [.A [25] none [i64 root],.U [20] [.sl (some 4) (ns.map aw),i64 root,.unk,.unk,.unk],.B [20] (bD ns root)] [.ptr (bD ns root),.bool true,.sl none [i64 root]] c1 ?_ ?_ rfl ?_ ⟨by simp only[go_sem],by first|(rw[ay];decide)|(simp only[go_sem]<;>(try rw[ay])<;>decide)⟩ ?_
 .rintro r ae ⟨rfl,rfl⟩;exact⟨rfl,by simp[gX,Ob.flat,rD]⟩
 .unfold bD;simp only[go_sem];refine⟨_,rfl,?_⟩;simp only[go_sem];exact⟨.inr trivial,.inr trivial⟩
 .unfold bD;simp only[go_sem]
 rintro _ _ ⟨rfl,rfl⟩;simp only[go_sem];refine jg E [26,0] none (C.2.2.map i64) rfl rfl ?_;refine Dy E [20] 3 97 (some 3) [.d (.sl (some 4) (ns.map aw)),.d (i64 root),.mp [18],.d .ai,.d (.bool false)] rfl rfl (by show¬_∈[26,25,20,18,4,2];decide) rfl ?_;refine jh E (ar [([0],[20]),([1],[18]),([2],[97])]) _ _ _ c2 rfl (by simp only[go_sem]) ⟨by simp only[go_sem],by first|(rw[ay];decide)|(simp only[go_sem]<;>(try rw[ay])<;>decide)⟩ rfl (by simp only[go_sem];rfl) (by simp only[go_sem]) ?_;rintro _ _ ⟨rfl,rfl⟩;refine⟨by simp only[go_sem];try simp,?_⟩;simp only[go_sem];refine om E [8] 0 96 (some 13) [.d .ai,.d (i64 0)] rfl rfl (by rw[ay];decide) ?_;simp only[go_sem]
 refine bK E (X:={ x:List EA×List aB // lu ns x.2∧x.2.length<=2000∧x.1.length<=2000∧kM ns N (2001-x.1.length) x.1 x.2=R }) (fun x=>[(1,.d (i64 N)),(4,.bx [4] 0),(7,.bx [20] 0),(8,.bx [8] 0)])
  (fun x=>[([4],.box [.d .ai,.d (i64 0)]),([8],.box [.vw [96] 0 x.1.1.length,.d (i64 0)]),([96],.arr (some 13) (x.1.1.map gE)),([20],.box [.d (.sl (some 4) (ns.map aw)),.d (i64 root),.mp [18],.vw [95] 0 x.1.2.length,.d (.bool false)]),([18],.map (bT (fun l:List UInt8=>D.str l) (jP 0 x.1.2))),([95],.arr (some 3) (x.1.2.map fY))])
  [95,96,8,20,18,4] (fun x=>2001-x.1.1.length) ⟨([],P.2),w1,by show P.2.length<=2000;simp only[List.length_nil]at l1;omega,aie _,hR⟩ (ar [([95],[27,6])]) ?_ ?_
 .simp only[go_sem]
  all_goals first|rfl|(and_intros<;>first|rfl|trivial)
 rintro⟨⟨L,W⟩,hw,Ew,hlw,hb⟩ E0;refine bW E0 fun Q' hQ E'=>?_;simp only at hw Ew hlw hb ⊢;simp only[go_sem];refine bF mixed E' fun X=>?_;simp only[go_sem];refine eg X [20] 0 none [.d (.sl (some 4) (ns.map aw)),.d (i64 root),.mp [18],.vw [95] 0 W.length,.d (.bool false)] (by simp only[go_sem]) rfl rfl ?_;simp only[go_sem];(try refine⟨by decide +kernel,?_⟩);refine aH E' ?_ ?_<;>intro h1<;>simp only[go_sem]
 .have hl:L.length<W.length:=by omega
  obtain⟨f,hf⟩:∃f,2001-L.length=f+1:=⟨2000-L.length,by omega⟩
  rw[hf,kM,dif_pos hl]at hb;refine bF mixed E' fun X=>?_;simp only[go_sem];refine eg X [20] 0 none [.d (.sl (some 4) (ns.map aw)),.d (i64 root),.mp [18],.vw [95] 0 W.length,.d (.bool false)] (by simp only[go_sem]) rfl rfl ?_;simp only[go_sem];refine⟨by omega,?_⟩;rw[show(W.map fY).getD L.length .aY=.agg [.bool W[L.length].1,.bool W[L.length].2.1,.sl none (W[L.length].2.2.map i64)] by simp[hl,fY]];simp only[go_sem];have Jk:=hw _ (ah2 hl);have ws:=I9 h ha hw Jk
  have c3:=ad3 (t:=t) (fz:=fz) ns root W false W[L.length] h (fun x hx=>by
   obtain⟨i,hi,rfl⟩:=aiB hx;have:=(ha.fd (i:Int) ⟨by omega,by omega⟩).1
   rwa [Int.toNat_natCast,qs hi]at this) (Jk.kids ha) (by omega)
  rw[show fY W[L.length]=.agg [.bool W[L.length].1,.bool W[L.length].2.1,.sl none (W[L.length].2.2.map i64)]from rfl]at c3;generalize W[L.length]=c at c3 ws hb Jk;generalize eO ns c W=Y at c3 ws hb;unfold bO at c3;rw[sY,ajI]at c3;refine H7 X (ar [([0],[20]),([1],[18]),([2],[95])]) _ _ _ _ _ c3 rfl (by simp only[go_sem];try rfl) ⟨by simp only[go_sem],by first|(rw[ay];decide)|(simp only[go_sem]<;>(try rw[ay])<;>decide)⟩ (by simp only[go_sem]) (by simp only[go_sem]) (by simp only[go_sem];try decide) (by simp only[go_sem];try omega) ?_;simp only[go_sem];refine⟨by omega,?_⟩;(try refine⟨by decide +kernel,?_⟩);generalize (decide (30<Y.1.fl.length)||decide (30<Y.1.tl.length))=B at hb ⊢
  cases B with
  |true =>
    rw[ak3,if_pos rfl]at hb;subst hb;simp only[go_sem];rw[hQ];simp only[go_sem];refine⟨[],?_⟩;simp only[go_sem];rfl
  |false =>
    rw[ajI]at hb;simp only[go_sem];refine aH E' ?_ ?_<;>intro h2<;>simp only[go_sem]
    .rw[if_pos (decide_eq_true h2)]at hb;subst hb;rw[hQ];simp only[go_sem];refine⟨[],?_⟩;simp only[go_sem];rfl
    .rw[if_neg (by rw[decide_eq_false h2];simp)]at hb;rw[hQ];refine⟨⟨(L++[Y.1],Y.2),ws,by show Y.2.length<=2000;omega,?_,?_⟩,?_,ar [([96],[51]),([95],[49,6])],?_⟩
     .show(L++[Y.1]).length<=2000;simp;omega
     .show kM ns N (2001-(L++[Y.1]).length) (L++[Y.1]) Y.2=R;rw[show 2001-(L++[Y.1]).length=f by simp;omega];exact hb
     .show 2001-(L++[Y.1]).length<2001-L.length;simp;omega
     .simp only[go_sem];rw[ail,ah7];exact⟨rfl,rfl⟩
 .have hle:¬L.length<W.length:=by omega
  obtain⟨f,hf⟩:∃f,2001-L.length=f+1:=⟨2000-L.length,by omega⟩
  rw[hf,kM,dif_neg hle]at hb;subst hb;rw[hQ];simp only[go_sem];refine⟨[([96],some 13,L.map gE)],?_⟩;simp only[go_sem];rfl
end Go.Proofs.YtpmniabdmbmafaaGreatDoor

namespace Go.Proofs.YtpmniabdmbmafaaGreatDoor
open Go.Ab
def fE(W:List aB):Prop:=∀d∈W,nE d
def fp(W V:List aB):Prop:=∃t,V=W++t
theorem fp.rf(W:List aB):fp W W:=⟨[],by simp⟩
theorem fp.tr{U V W:List aB}(h1:fp U V)(h2:fp V W):fp U W:=by
 obtain⟨a,rfl⟩:=h1;obtain⟨b,rfl⟩:=h2;exact⟨a++b,by rw[aiS]⟩
theorem fp.len{U V:List aB}(h:fp U V):U.length<=V.length:=by
 obtain⟨a,rfl⟩:=h;rw[ah7];omega
theorem fp.get{U V:List aB}(h:fp U V){i:Nat}(hi:i<U.length):V.getD i default=U.getD i default:=by
 obtain⟨a,rfl⟩:=h;rw[ahX,ahX,aih hi]
def kN(W:List aB)(k:Int)(p:Bool):Prop:=0<=k∧k.toNat<W.length∧(W.getD k.toNat default).1=p
theorem kN.up{W V:List aB}{k:Int}{p:Bool}(h:kN W k p)(hp:fp W V):kN V k p:=⟨h.1,aiK h.2.1 hp.len,by rw[hp.get h.2.1];exact h.2.2⟩
theorem Jl{c:aB}:∀{W:List aB} {n i:Nat},wX c n W=some i->∃j,i=n+j∧j<W.length∧W.getD j default=c
 |[],_,_,h=>by cases h
 |d::r,n,i,h=>by
   rw[wX]at h;by_cases e:d=c
   .rw[if_pos e]at h;exact⟨0,by simpa using h.symm,by simp,by simpa using e⟩
   .rw[if_neg e]at h;obtain⟨j,h1,h2,h3⟩:=Jl h;exact⟨j+1,by omega,by simpa using h2,by simpa using h3⟩
theorem QD{W:List aB}{c:aB}(hc:nE c)(hW:fE W):kN (bV W c).2 ((bV W c).1:Nat) c.1∧fp W (bV W c).2∧fE (bV W c).2:=by
 unfold bV
 cases hp:qE (jO c) 0 W with
 |some i =>
   rw[Es hc 0 hW]at hp;obtain⟨j,h1,h2,h3⟩:=Jl hp;have e:i=j:=by omega
   subst e;exact⟨⟨by simp only;omega,by simpa using h2,by simpa using congrArg Prod.fst h3⟩,.rf _,hW⟩
 |none =>
   refine⟨⟨by simp only;omega,by simp,by simp⟩,⟨[c],rfl⟩,fun d hd=>?_⟩;rcases ah1.1 hd with hd|hd
   .exact hW d hd
   .rw[ahZ.1 hd];exact hc
theorem Jm{ns:List TN}(h:dO ns){W:List aB}(hW:fE W){p:Bool}{l:List Int}(hk:∀x∈l,aC ns x):kN (bV W (a8 ns p l)).2 ((bV W (a8 ns p l)).1:Nat) p∧fp W (bV W (a8 ns p l)).2∧fE (bV W (a8 ns p l)).2:=by
 have:=QD (Bu h hk (p:=p)) hW
 rwa [oE]at this
theorem aeO{ns:List TN}(h:dO ns){W:List aB}(hW:fE W){p:Bool}{l:List Int}(rp:∀x∈l,aC ns (nd ns x.toNat).a)(qy:∀x∈l,aC ns (nd ns x.toNat).b) :
  (kN (j9 ns p l W).2 ((j9 ns p l W).1.1:Nat) (!p)∧kN (j9 ns p l W).2 ((j9 ns p l W).1.2:Nat) p)∧fp W (j9 ns p l W).2∧fE (j9 ns p l W).2:=by
 have h1:∀x∈l.map (fun x=>(nd ns x.toNat).a),aC ns x:=fun x hx=>by
  obtain⟨y,hy,rfl⟩:=ah9.1 hx;exact rp y hy
 have h2:∀x∈l.map (fun x=>(nd ns x.toNat).b),aC ns x:=fun x hx=>by
  obtain⟨y,hy,rfl⟩:=ah9.1 hx;exact qy y hy
 obtain⟨a1,a2,a3⟩:=Jm h hW (p:=!p) h1;obtain⟨b1,b2,b3⟩:=Jm h a3 (p:=p) h2;exact⟨⟨a1.up b2,b1⟩,a2.tr b2,b3⟩
theorem QF{ns:List TN}(h:rP ns){l:List Int}(hl:∀x∈l,aC ns x)(s:List UInt8):∀x∈dX ns l s,aC ns x:=fun x hx=>by
 obtain⟨y,hy,yb⟩:=ajP.1 hx;obtain⟨q,hq,rfl⟩:=ah9.1 yb;exact((h.fd y (hl y hy)).2 q (ait.1 hq).1).2
theorem QG{ns:List TN}(h:dO ns)(ha:rP ns){p:Bool}{l:List Int}(hl:∀x∈l,aC ns x){W:List aB}(hW:fE W)(S:List (List UInt8)) :
  (∀q∈(pI ns p l S W).1,kN (pI ns p l S W).2 q.2 p)∧fp W (pI ns p l S W).2∧fE (pI ns p l S W).2∧(pI ns p l S W).1.map (·.1)=S:=by
 have key:∀(S:List (List UInt8)) (s:List cn×List aB),(∀q∈s.1,kN s.2 q.2 p)->fE s.2 ->
   (∀q∈(S.foldl (fun s k=>(s.1++[(k,((bV s.2 (a8 ns p (dX ns l k))).1:Int))],(bV s.2 (a8 ns p (dX ns l k))).2)) s).1,kN (S.foldl (fun s k=>(s.1++[(k,((bV s.2 (a8 ns p (dX ns l k))).1:Int))],(bV s.2 (a8 ns p (dX ns l k))).2)) s).2 q.2 p) ∧
   fp s.2 (S.foldl (fun s k=>(s.1++[(k,((bV s.2 (a8 ns p (dX ns l k))).1:Int))],(bV s.2 (a8 ns p (dX ns l k))).2)) s).2 ∧
   fE (S.foldl (fun s k=>(s.1++[(k,((bV s.2 (a8 ns p (dX ns l k))).1:Int))],(bV s.2 (a8 ns p (dX ns l k))).2)) s).2 ∧
   (S.foldl (fun s k=>(s.1++[(k,((bV s.2 (a8 ns p (dX ns l k))).1:Int))],(bV s.2 (a8 ns p (dX ns l k))).2)) s).1.map (·.1)=s.1.map (·.1)++S:=by
  intro S
  induction S with
  |nil=>intro s h1 h2;exact⟨h1,.rf _,h2,by simp⟩
  |cons k r ih =>
    intro s h1 h2;obtain⟨a1,a2,a3⟩:=Jm h h2 (p:=p) (QF ha hl k)
    obtain⟨i1,i2,i3,i4⟩:=ih (s.1++[(k,((bV s.2 (a8 ns p (dX ns l k))).1:Int))],(bV s.2 (a8 ns p (dX ns l k))).2) (fun q hq=>by
     rcases ah1.1 hq with hq|hq
     .exact(h1 q hq).up a2
     .rw[ahZ.1 hq];exact a1) a3
    exact⟨i1,a2.tr i2,i3,by rw[List.foldl_cons,i4];simp⟩
 obtain⟨k1,k2,k3,k4⟩:=key S ([],W) (by simp) hW;exact⟨k1,k2,k3,k4.trans (by simp)⟩
structure BB(W:List aB)(s:EA):Prop where
 dc:s.arr=true->kN W s.dp (!s.plus)∧kN W s.dq s.plus
 to:∀k∈IC s,kN W k s.plus
 ba:IB s=true
 nu:D2 s.vars=true
 fl:sX qn s.fl=true
 tl:sX ru s.tl=true
 vl:s.vars.length<=2000
theorem BB.up{W V:List aB}{s:EA}(h:BB W s)(hp:fp W V):BB V s:=⟨fun ha=>⟨(h.dc ha).1.up hp,(h.dc ha).2.up hp⟩,fun k hk=>(h.to k hk).up hp,h.ba,h.nu,h.fl,h.tl,h.vl⟩
theorem aeP{l:List Int}(h:eQ l)(hb:∀x∈l,0<=x∧x<=999):D2 l=true:=by
 unfold D2;rw[aio];intro i hm;have hi:=aiq.1 hm;have h1:=hb _ (ah2 hi);have hg:l.getD i 0=l[i]:=by simp[hi]
 unfold Pp;rw[hg,decide_eq_true h1.1,decide_eq_true h1.2]
 cases i with
 |zero=>simp
 |succ i =>
   have h2:=ajl.1 h i (i+1) (by omega) hi (by omega);have Ex:l.getD (i+1-1) 0=l[i]:=by rw[aki];simp[show i<l.length by omega]
   rw[Ex,decide_eq_true h2];simp
theorem QH{ns:List TN}{root:Int}(h:Ty ns root){W:List aB}(hW:fE W){c:aB}(hc:nC ns c) :
  (bt ns 6 c=true->kN (eB ns c W).2 ((eB ns c W).1.1:Nat) (!c.1)∧kN (eB ns c W).2 ((eB ns c W).1.2:Nat) c.1)∧fp W (eB ns c W).2∧fE (eB ns c W).2∧(bt ns 6 c=false->(eB ns c W).1=(0,0)):=by
 unfold eB
 cases hk:bt ns 6 c with
 |false=>exact⟨fun h=>(by cases h),.rf _,hW,fun _=>rfl⟩
 |true =>
   obtain⟨h1,h2,h3⟩:=aeO h.lB hW (p:=c.1) (l:=aG ns 6 c.2.2) (fun x hx=>(h.oI.fn x (hc.2 x (eo hx).1) (eo hx).2).1) (fun x hx=>(h.oI.fn x (hc.2 x (eo hx).1) (eo hx).2).2);exact⟨fun _=>h1,h2,h3,fun h=>(by cases h)⟩
theorem QI{ns:List TN}{root:Int}(h:Ty ns root){W:List aB}(hW:fE W){c:aB}(hc:nC ns c)(k:Int)(wh:Bool){is:List UInt8->Bool}(kz:∀i,aC ns i->ag ns i=k->∀q∈(nd ns i.toNat).l,is q.1=true) :
  (∀q∈(dx ns c k wh W).1,kN (dx ns c k wh W).2 q.2 c.1)∧fp W (dx ns c k wh W).2∧fE (dx ns c k wh W).2∧sX is (dx ns c k wh W).1=true∧(bt ns k c=false->(dx ns c k wh W).1=[]):=by
 unfold dx
 cases hk:bt ns k c with
 |false=>exact⟨fun q hq=>(by cases hq),.rf _,hW,rfl,fun _=>rfl⟩
 |true =>
   have hl:∀x∈aG ns k c.2.2,aC ns x:=fun x hx=>hc.2 x (eo hx).1;rw[if_pos rfl,Qn (h.Ji hl)];obtain⟨h1,h2,h3,h4⟩:=QG h.lB h.oI (p:=c.1) hl hW (rQ ns (aG ns k c.2.2) wh);obtain⟨n1,n2⟩:=Eu ns (aG ns k c.2.2) wh;refine⟨h1,h2,h3,aeN (by rw[h4];exact n1) fun q hq=>?_,fun h=>(by cases h)⟩;have hm:q.1∈rQ ns (aG ns k c.2.2) wh:=by rw[<-h4];exact ah9.2 ⟨q,hq,rfl⟩
   obtain⟨_,x,hx,hz⟩:=(n2 q.1).1 hm;obtain⟨f,hf,e⟩:=ah9.1 hz;rw[<-e];exact kz x (hl x hx) (eo hx).2 f hf
theorem QJ:bw []=[]:=by
 have:=Iu [];exact ai7 (by simpa using this)
theorem aeQ{ns:List TN}{root:Int}(h:Ty ns root){W:List aB}(hW:fE W){c:aB}(hc:nC ns c)(hn:nE c):BB (eO ns c W).2 (eO ns c W).1∧fp W (eO ns c W).2∧fE (eO ns c W).2:=by
 obtain⟨a1,a2,a3,a4⟩:=QH h hW hc;obtain⟨b1,b2,b3,b4,b5⟩:=QI h a3 hc 7 c.1 h.rc;obtain⟨c1,c2,c3,c4,c5⟩:=QI h b3 hc 8 (!c.1) h.tg;refine⟨⟨fun ha=>⟨((a1 ha).1.up b2).up c2,((a1 ha).2.up b2).up c2⟩,fun k hk=>?_,?_,?_,b4,c4,?_⟩,(a2.tr b2).tr c2,c3⟩
 .rcases ah1.1 hk with hk|hk
  .obtain⟨q,hq,rfl⟩:=ah9.1 hk;exact(b1 q hq).up c2
  .obtain⟨q,hq,rfl⟩:=ah9.1 hk;exact c1 q hq
 .unfold IB eO;simp only
  have e1:c.2.1=true->∀k,bt ns k c=false:=fun he k=>by
   unfold bt;rw[hn.2 he];rfl
  have e2:c.2.1=true->(qC ns (aG ns 11 c.2.2)).isEmpty=true:=fun he=>by
   rw[hn.2 he];show(bw []).isEmpty=true;rw[QJ];rfl
  have e3:bt ns 6 c=false->(((eB ns c W).1.1:Nat):Int)=0∧(((eB ns c W).1.2:Nat):Int)=0:=fun he=>by rw[a4 he];exact⟨rfl,rfl⟩
  have e5:(bt ns 7 c||(dx ns c 7 c.1 (eB ns c W).2).1.isEmpty)=true:=by
   cases hk:bt ns 7 c with
   |true=>rfl
   |false=>rw[b5 hk];rfl
  have e6:(bt ns 8 c||(dx ns c 8 (!c.1) (dx ns c 7 c.1 (eB ns c W).2).2).1.isEmpty)=true:=by
   cases hk:bt ns 8 c with
   |true=>rfl
   |false=>rw[c5 hk];rfl
  rw[e5,e6]
  have e7:(!bt ns 6 c&&(!decide ((((eB ns c W).1.1:Nat):Int)=0)||!decide ((((eB ns c W).1.2:Nat):Int)=0)))=false:=by
   cases hk:bt ns 6 c with
   |true=>rfl
   |false=>rw[decide_eq_true (e3 hk).1,decide_eq_true (e3 hk).2];rfl
  rw[e7]
  cases he:c.2.1 with
  |false=>rfl
  |true=>rw[e1 he,e1 he,e1 he,e1 he,e1 he,e1 he,e2 he];rfl
 .refine aeP (yE _) fun x hx=>?_;have hx:=(rF _ x).1 hx;obtain⟨y,hy,rfl⟩:=ah9.1 hx;exact h.vr y (hc.2 y (eo hy).1) (eo hy).2
 .have h1:=Iu ((aG ns 11 c.2.2).map fun x=>(nd ns x.toNat).a);have h2:=tv ns 11 c.2.2;have h3:=hc.1;rw[aik]at h1;show(bw _).length<=2000;omega
structure Jn(ns:List TN)(L:List EA)(W:List aB):Prop where
 st:∀s∈L,BB W s∧s.fl.length<=30∧s.tl.length<=30
 pl:∀i,i<L.length->(L.getD i default).plus=(W.getD i default).1
 le:L.length<=W.length
 an:fE W
 wo:lu ns W
theorem Ey{ns:List TN}{root:Int}(h:Ty ns root){n:Int}:∀(f:Nat) {L:List EA} {W:List aB} {R:List EA},Jn ns L W->(W.length:Int)<=n∨(L=[]∧0<W.length)->kM ns n f L W=some R->∃V,Jn ns R V∧R.length=V.length∧fp W V∧(V.length:Int)<=n
 |0,L,W,R,_,_,hb=>by cases hb
 |f+1,L,W,R,hB,hn,hb=>by
   rw[kM]at hb;by_cases hl:L.length<W.length
   .rw[dif_pos hl]at hb;have nU:=ah2 hl;obtain⟨s1,s2,s3⟩:=aeQ h hB.an (hB.wo _ nU) (hB.an _ nU);have s4:=I9 h.lB h.oI hB.wo (hB.wo _ nU);generalize hS:eO ns W[L.length] W=S at hb s1 s2 s3 s4;have nS:S.1.plus=W[L.length].1:=by rw[<-hS];rfl
    split at hb
    .cases hb
    .rename_i hc;simp only[aiL,decide_eq_true_eq,not_or]at hc
     obtain⟨V,v1,v2,v3,v4⟩:=Ey h f (L:=L++[S.1]) (W:=S.2) ⟨fun s hs=>by
      rcases ah1.1 hs with hs|hs
      .exact⟨(hB.st s hs).1.up s2,(hB.st s hs).2⟩
      .rw[ahZ.1 hs];exact⟨s1,by omega,by omega⟩,fun i hi=>by
      rw[ah7,List.length_singleton]at hi;rw[s2.get (by omega)];rcases aiG i L.length with g|g
      .rw[<-hB.pl i g,ahX,aih g,ahX]
      .have e:i=L.length:=by omega
       subst e;rw[ahX,akE,ahX,aib hl]
       exact nS,by have:=s2.len;rw[ah7,List.length_singleton];omega,s3,s4⟩ (.inl (by omega)) hb
     exact⟨V,v1,v2,s2.tr v3,v4⟩
   .rw[dif_neg hl]at hb;obtain rfl:=ais hb;have:=hB.le;refine⟨W,hB,by omega,.rf _,?_⟩;obtain hn|⟨rfl,hn⟩:=hn
    .exact hn
    .exact absurd hn (by simpa using hl)
theorem QK{ns:List TN}{n m:Int}(eI:n<=m):∀(f:Nat) {L:List EA} {W:List aB} {R:List EA},kM ns n f L W=some R->kM ns m f L W=some R
 |0,L,W,R,hb=>by cases hb
 |f+1,L,W,R,hb=>by
   rw[kM]at hb ⊢;by_cases hl:L.length<W.length
   .rw[dif_pos hl]at hb ⊢;split at hb
    .cases hb
    .rename_i hc;simp only[aiL,decide_eq_true_eq,not_or]at hc;rw[if_neg (by simp only[aiL,decide_eq_true_eq,not_or];omega)];exact QK eI f hb
   .rw[dif_neg hl]at hb ⊢;exact hb
theorem Jo{ns:List TN}{root:Int}(h:Ty ns root):Jn ns [] (bV [] (a8 ns true [root])).2∧(bV [] (a8 ns true [root])).2=[a8 ns true [root]]:=by
 have hk:∀x∈[root],aC ns x:=fun x hx=>by rw[ahZ.1 hx];exact h.rt
 have e:(bV [] (a8 ns true [root])).2=[a8 ns true [root]]:=rfl;refine⟨⟨by simp,by simp,aie _,?_,?_⟩,e⟩
 .rw[e];intro d hd;rw[ahZ.1 hd];exact Bu h.lB hk
 .rw[e];intro d hd;rw[ahZ.1 hd];exact yP h.lB hk
theorem aeR{L:List EA}{W:List aB}{k:Int}{p:Bool}(hl:L.length=W.length)(hp:∀i,i<L.length->(L.getD i default).plus=(W.getD i default).1)(h:kN W k p):mc L k p=true:=by
 have h0:=h.1;have h1:=h.2.1;have h2:=h.2.2;rw[show k=((k.toNat:Nat):Int) by omega];exact aeg (by omega) (by rw[hp _ (by omega)];exact h2)
theorem aeS{ns:List TN}{root n:Int}(h:Ty ns root)(hn:n<=2000){f:Nat}{R:List EA}(hb:kM ns n f [] (bV [] (a8 ns true [root])).2=some R):IG R 0=0∧(∀s∈R,Pq s)∧R.length<=2000:=by
 obtain⟨g1,g2⟩:=Jo h;obtain⟨V,v1,v2,v3,v4⟩:=Ey h f g1 (.inr ⟨rfl,by rw[g2];simp⟩) hb;have hlen:0<V.length:=by have:=v3.len;rw[g2]at this;exact this
 have Jp:(V.getD 0 default).1=true:=by rw[v3.get (by rw[g2];simp),g2];exact oE ns true [root]
 have Ez:∀{k:Int} {p:Bool},kN V k p->mc R k p=true:=fun hi=>aeR v2 v1.pl hi;refine⟨aeh (st:=0) (by omega) (by omega) (Ez ⟨Int.le_refl _,hlen,Jp⟩) fun s hs=>?_,fun s hs=>?_,by omega⟩
 .obtain⟨s1,s2,s3⟩:=v1.st s hs;unfold IE;rw[s1.ba,s1.nu,s1.fl,s1.tl,decide_eq_true s2,decide_eq_true s3]
  have e1:(s.arr&&(!mc R s.dp (!s.plus)||!mc R s.dq s.plus))=false:=by
   cases ha:s.arr with
   |false=>rfl
   |true=>rw[Ez (s1.dc ha).1,Ez (s1.dc ha).2];rfl
  have e2:(IC s).any (fun k=>!mc R k s.plus)=false:=by
   rw[ai6];intro k hk;rw[Ez (s1.to k hk)];simp
  rw[e1,e2];rfl
 .obtain⟨s1,s2,s3⟩:=v1.st s hs;refine⟨by have:=s1.vl;omega,by omega,by omega,fun x hx=>?_,fun x hx=>?_⟩
  .have:=(Qo s1.fl).1 x hx;rw[qn,aia,aia]at this;have:=Ev this.1.1;omega
  .have:=(Qo s1.tl).1 x hx;rw[ru,aia]at this;have:=Ev this.1;omega
end Go.Proofs.YtpmniabdmbmafaaGreatDoor

namespace Go.Proofs.YtpmniabdmbmafaaGreatDoor
open Go.Ab
abbrev SQ:=List Int×List Int
def fc(q:SQ):D:=.agg [aL q.1,aL q.2]
def fF(l:List Int)(i:Nat)(ins:List Int):List Int:=bw (l.take i++l.drop (i+1)++ins)
def pJ(p:Int->Bool)(l:List Int):Int:=if l.any p=true then(l.findIdx p:Int)else -1
def gF(n:TN)(s:List UInt8):Int:=match n.l.find? fun q=>q.1 == s with
 |some q=>q.2
 |none=>-1
def gh(ns:List TN)(s:List UInt8)(x:Int):Bool:=decide (0<=gF (nd ns x.toNat) s)
def mK(ns:List TN)(l:List Int)(s:List UInt8):List Int:=(l.filter (gh ns s)).map fun x=>gF (nd ns x.toNat) s
def dP(ns:List TN)(l:List Int)(s:List UInt8):List Int:=bw (mK ns l s)
def kj(ns:List TN)(l:List Int)(out:List (List UInt8))(s:List UInt8):List (List UInt8) :=
 if(decide (0<(dP ns l s).length)&&decide ((l.filter (gh ns s)).length=l.length)&&!decide (s∈out))=true then out++[s]else out
def er(ns:List TN)(l:List Int):List (List UInt8):=((nd ns (l.getD 0 0).toNat).l.map (·.1)).foldl (kj ns l) []
def gi(ns:List TN)(x y:Int):Bool:=decide (ag ns x=11)&&decide (ag ns y=11)&&decide ((nd ns x.toNat).a=(nd ns y.toNat).a)
def fG(ns:List TN)(l:List Int):List Int:=[3,4,5,6,7,8].filter fun k=>l.any fun x=>decide (ag ns x=k)
def nG(ns:List TN)(l r:List Int)(s:List UInt8):SQ:=(dP ns l s,dP ns r s)
def fH(ns:List TN)(l r:List Int)(s:List UInt8):Bool:=decide (0<(dP ns l s).length)&&decide (0<(dP ns r s).length)
def kO(ns:List TN)(k:Int)(l r:List Int):List (List UInt8):=if k=7 then er ns r else if k=8 then er ns l else[]
def eY(ns:List TN)(k:Int)(l r:List Int):Option (List SQ)×Bool :=
 if(!decide (k=8)&&decide (r.length=0))=true then(none,false)
 else if k=6 then(some [(bw (r.map fun x=>(nd ns x.toNat).a),bw (l.map fun x=>(nd ns x.toNat).a)),(bw (l.map fun x=>(nd ns x.toNat).b),bw (r.map fun x=>(nd ns x.toNat).b))],true)
 else if(kO ns k l r).all (fH ns l r)=true then(some ((kO ns k l r).map (nG ns l r)),true)else(none,false)
def gj(ns:List TN)(l:List Int):Nat:=l.findIdx (aI ns)
def bI(ns:List TN)(l:List Int):TN:=nd ns (l.getD (gj ns l) 0).toNat
def c6(ns:List TN)(q:SQ):Option (List SQ)×Bool :=
 if(q.1.any (fun x=>decide (ag ns x=2))||q.2.any fun x=>decide (ag ns x=1))=true then(none,true)
 else if q.1.any (aI ns)=true then
  if(bI ns q.1).k=10 then(some [(fF q.1 (gj ns q.1) [(bI ns q.1).a,(bI ns q.1).b],q.2)],true)
  else(some [(fF q.1 (gj ns q.1) [(bI ns q.1).a],q.2),(fF q.1 (gj ns q.1) [(bI ns q.1).b],q.2)],true)
 else if q.2.any (aI ns)=true then
  if(bI ns q.2).k=9 then(some [(q.1,fF q.2 (gj ns q.2) [(bI ns q.2).a,(bI ns q.2).b])],true)
  else(some [(q.1,fF q.2 (gj ns q.2) [(bI ns q.2).a]),(q.1,fF q.2 (gj ns q.2) [(bI ns q.2).b])],true)
 else if(q.1.any fun x=>q.2.any fun y=>gi ns x y)=true then(none,true)
 else if(fG ns q.1).length=0 then(none,false)
 else if 1<(fG ns q.1).length then(none,true)
 else eY ns ((fG ns q.1).getD 0 0) (aG ns ((fG ns q.1).getD 0 0) q.1) (aG ns ((fG ns q.1).getD 0 0) q.2)
def iT(ns:List TN)(q:SQ):List SQ×Bool:=((c6 ns q).1.getD [],(c6 ns q).2)
def BD:Option (List SQ)->D
 |none=>.ai
 |some L=>.sl (some 2) (L.map fc)
def kl(fx:Int)(ns:List TN)(x:Int):Bool:=decide (ag ns x=11)&&decide ((nd ns x.toNat).a<fx)
def lC(fx:Int)(ns:List TN)(l:List Int):Bool:=l.any (kl fx ns)
def da(fx:Int)(ns:List TN)(l:List Int):Int :=
 if l.length=0 then -1
 else if(l.all fun x=>kl fx ns x&&decide ((nd ns x.toNat).a=(nd ns (l.getD 0 0).toNat).a))=true then(nd ns (l.getD 0 0).toNat).a else -1
def bM(ns:List TN)(k:Int)(l:List Int):List Int:=l.filter fun x=>!decide (ag ns x=k)
def qK(ns:List TN)(r:List Int)(x:Int):Bool:=(decide (ag ns x=2)||decide (ag ns x=9)||decide (ag ns x=10))||r.any fun y=>gi ns x y
def tD(ns:List TN)(y:Int):Bool:=decide (ag ns y=1)||decide (ag ns y=9)||decide (ag ns y=10)
def oJ(ns:List TN)(q:SQ):Bool:=q.1.any (qK ns q.2)||q.2.any (tD ns)
def aQ(fx:Int)(ns:List TN)(q:SQ):Int:=da fx ns (bM ns 1 q.1)
def bQ(fx:Int)(ns:List TN)(q:SQ):Int:=da fx ns (bM ns 2 q.2)
def rU(fx:Int)(ns:List TN)(q:SQ):Bool:=lC fx ns (bM ns 1 q.1)
def rV(fx:Int)(ns:List TN)(q:SQ):Bool:=lC fx ns (bM ns 2 q.2)
def gG(fx:Int)(ns:List TN)(q:SQ):Bool:=!oJ ns q&&(decide (0<=aQ fx ns q)&&(decide (0<=bQ fx ns q)||!rV fx ns q))
def gH(fx:Int)(ns:List TN)(q:SQ):Bool:=!oJ ns q&&(decide (0<=bQ fx ns q)&&(decide (0<=aQ fx ns q)||!rU fx ns q))
def km(fx:Int)(ns:List TN)(q:SQ):Bool:=!oJ ns q&&((decide (0<=aQ fx ns q)&&(decide (0<=bQ fx ns q)||!rV fx ns q))||(decide (0<=bQ fx ns q)&&!rU fx ns q))
def gl(fx:Int)(ns:List TN)(q:SQ):Bool:=!oJ ns q&&!((decide (0<=aQ fx ns q)&&(decide (0<=bQ fx ns q)||!rV fx ns q))||(decide (0<=bQ fx ns q)&&!rU fx ns q))&&(rU fx ns q||rV fx ns q)
def ft(fx:Int)(ns:List TN)(q:SQ):Bool:=!km fx ns q&&!gl fx ns q
def kn(fx:Int)(ns:List TN)(q:SQ):Bool:=ft fx ns q&&!(iT ns q).2
def jQ(q:SQ):Int:=((7*(q.1.length:Int)+11*(q.2.length:Int)+31*q.1.sum)+17*q.2.sum).tmod 997
structure SW where
 al:List SQ
 bk:List (List Nat)
 be:List (List (List Int))
 ab:List (List (List Int))
 mx:Bool
 fl:Bool
def bY(w:SW)(q:SQ):SW:=if q∈w.al then w else { w with al:=w.al++[q],bk:=w.bk.set (jQ q).toNat (w.bk.getD (jQ q).toNat []++[w.al.length]) }
def pK:List Int->List Int->Bool
 |[],[]=>false
 |[],_::_=>true
 |_::_,[]=>false
 |x::a,y::b=>if x=y then pK a b else decide (x<y)
def bC(s:List Int):List (List Int)->Nat
 |[]=>0
 |y::r=>if pK y s=true then bC s r+1 else 0
def mg(l:List (List Int))(s:List Int):List (List Int):=if bC s l<l.length∧l.getD (bC s l) []=s then l else l.take (bC s l)++s::l.drop (bC s l)
def ia(L:List (List (List Int)))(v:Int)(s:List Int):List (List (List Int)):=L.set v.toNat (mg (L.getD v.toNat []) s)
def mL(fx:Int)(ns:List TN)(w:SW)(q:SQ):SW :=
 (if ft fx ns q=true then(iT ns q).1 else[]).foldl bY
  { w with
    be:=if gH fx ns q=true then ia w.be (bQ fx ns q) (bM ns 1 q.1)else w.be
    ab:=if gG fx ns q=true then ia w.ab (aQ fx ns q) (bM ns 2 q.2)else w.ab
    mx:=w.mx||gl fx ns q
    fl:=w.fl||kn fx ns q }
inductive fu(fx:Int)(ns:List TN)(q0:SQ):SQ->Prop
 |root:fu fx ns q0 q0
 |to {q q':SQ} (h:fu fx ns q0 q) (hl:ft fx ns q=true) (hq:q'∈(iT ns q).1):fu fx ns q0 q'
 |pair {q1 q2:SQ} (h1:fu fx ns q0 q1) (h2:fu fx ns q0 q2) (ha:gG fx ns q1=true) (hb:gH fx ns q2=true) (hv:aQ fx ns q1=bQ fx ns q2):fu fx ns q0 (bM ns 1 q2.1,bM ns 2 q1.2)
def nH(fx:Int)(ns:List TN)(q0:SQ):Prop:=∀q,fu fx ns q0 q->gl fx ns q=false∧kn fx ns q=false
end Go.Proofs.YtpmniabdmbmafaaGreatDoor

namespace Go.Proofs.YtpmniabdmbmafaaGreatDoor
open Go.Ab
inductive Fm where
 |F (p:Bool) (x:Int) (r:List Int)
 |G (l r:List Int)
def iU(gs:List TN)(p:Bool)(r:List Int):Bool:=r.any fun y=>decide (ag gs y=cz p)
def lD(ns gs:List TN)(p:Bool)(x:Int)(r:List Int):Bool:=decide (ag ns x=cx p)||iU gs p r
inductive tE(gs:List TN)(p:Bool)(r:List Int):List Int->Prop
 |both (h:(bI gs r).k=cA p):tE gs p r (fF r (gj gs r) [(bI gs r).a,(bI gs r).b])
 |left (h:(bI gs r).k≠cA p):tE gs p r (fF r (gj gs r) [(bI gs r).a])
 |right (h:(bI gs r).k≠cA p):tE gs p r (fF r (gj gs r) [(bI gs r).b])
inductive FO(gs:List TN)(p:Bool):List Int->List Int->Prop
 |done {r:List Int} (h:iU gs p r=false) (hl:r.any (aI gs)=false):FO gs p r r
 |step {r r1 r':List Int} (h:iU gs p r=false) (hl:r.any (aI gs)=true) (ho:tE gs p r r1) (t:FO gs p r1 r'):FO gs p r r'
inductive Jq where
 |fail
 |done
 |go
deriving DecidableEq
def eH(gs:List TN)(p:Bool)(r:List Int)(k:Int):Jq :=
 if p=true then(if 3<=k∧k<=8 then(if k≠8∧aG gs k r=[]then .fail else .go)else .fail)
 else match fG gs r with
  |[]=>.fail
  |[k']=>if k'=k then .go else if k'=8∧er gs (aG gs 8 r)=[]then .done else .fail
  |_::_::_=>.done
def jD(p:Bool)(n:TN)(gs:List TN)(r:List Int)(s:List UInt8):Prop:=if(decide (n.k=7))=p then s∈er gs (aG gs n.k r)else s∈n.l.map (·.1)
def pL(k:Int):Prop:=k=7∨k=8
def qL(gs:List TN)(p:Bool)(n:TN)(r:List Int):Prop :=
 eH gs p r n.k=.done∨eH gs p r n.k=.go∧(pL n.k->∀s,jD p n gs r s->s∈n.l.map (·.1)∧dP gs (aG gs n.k r) s≠[])
inductive pM(gs:List TN)(p:Bool)(n:TN)(r:List Int):Fm->Prop
 |dp (hs:eH gs p r n.k=.go) (hk:n.k=6):pM gs p n r (.F (!p) n.a (bw ((aG gs 6 r).map fun x=>(nd gs x.toNat).a)))
 |dq (hs:eH gs p r n.k=.go) (hk:n.k=6):pM gs p n r (.F p n.b (bw ((aG gs 6 r).map fun x=>(nd gs x.toNat).b)))
 |jl (hs:eH gs p r n.k=.go) (hk:pL n.k) (s:List UInt8) (hd:jD p n gs r s):pM gs p n r (.F p (gF n s) (dP gs (aG gs n.k r) s))
section
variable (ns gs:List TN)
def eR(p:Bool)(x:Int)(r:List Int):Bool:=aI ns x&&(p||!r.any (aI gs))
def kP:Fm->Prop
 |.F p x r=>lD ns gs p x r=true∨aI ns x=true∨r.any (aI gs)=true∨ag ns x=11∨qL gs p (nd ns x.toNat) r
 |.G l r=>(c6 gs (l,r)).2=true
inductive jE:Fm->Fm->Prop
 |a {p:Bool} {x:Int} {r:List Int} (h:lD ns gs p x r=false) (hf:eR ns gs p x r=true):jE (.F p x r) (.F p (nd ns x.toNat).a r)
 |b {p:Bool} {x:Int} {r:List Int} (h:lD ns gs p x r=false) (hf:eR ns gs p x r=true):jE (.F p x r) (.F p (nd ns x.toNat).b r)
 |r {p:Bool} {x:Int} {r r1:List Int} (h:lD ns gs p x r=false) (hf:eR ns gs p x r=false) (hl:r.any (aI gs)=true) (ho:tE gs p r r1):jE (.F p x r) (.F p x r1)
 |hd {p:Bool} {x:Int} {r:List Int} {g:Fm} (h:lD ns gs p x r=false) (hx:aI ns x=false) (hl:r.any (aI gs)=false) (hk:ag ns x≠11) (hg:pM gs p (nd ns x.toNat) r g):jE (.F p x r) g
 |g {l r:List Int} {q:SQ} (hq:q∈(c6 gs (l,r)).1.getD []):jE (.G l r) (.G q.1 q.2)
def lE(p:Bool)(x:Int)(r:List Int):Prop:=ag ns x=11∧iU gs p r=false∧r.any (aI gs)=false
structure w5(I:Fm->Prop):Prop where
 ok:∀f,I f->kP ns gs f
 to:∀f g,I f->jE ns gs f g->I g
 pair:∀x r y l,I (.F true x r)->I (.F false y l)->lE ns gs true x r->lE ns gs false y l->(nd ns x.toNat).a=(nd ns y.toNat).a->I (.G (bM gs 1 l) (bM gs 2 r))
end
theorem FO.alive{gs:List TN}{p:Bool}{r r':List Int}(h:FO gs p r r'):iU gs p r=false:=by cases h<;>assumption
theorem FO.end_{gs:List TN}{p:Bool}{r r':List Int}(h:FO gs p r r'):iU gs p r'=false∧r'.any (aI gs)=false:=by
 induction h with
 |done h hl=>exact⟨h,hl⟩
 |step _ _ _ _ ih=>exact ih
theorem BF{ns:List TN}{p:Bool}{x:Int}(h:aI ns x=true):ag ns x≠cx p:=fun e=>by
 have h':eA (ag ns x)=true:=h;rw[e]at h';cases p<;>cases h'
theorem qM{ns gs:List TN}{p:Bool}{x:Int}{r:List Int}(h1:ag ns x≠cx p)(h2:iU gs p r=false):lD ns gs p x r=false:=by simp[lD,h1,h2]
theorem vq{ns gs:List TN}{p:Bool}{x:Int}{r:List Int}(h:lD ns gs p x r=false):ag ns x≠cx p∧iU gs p r=false:=by simpa[lD]using h
theorem w5.open_{ns gs:List TN}{I:Fm->Prop}(h:w5 ns gs I){p:Bool}{x j:Int}{r r':List Int}(hi:I (.F p x r))(ho:dH ns x j)(hj:ag ns j≠cx p)(hr:FO gs p r r'):I (.F p j r'):=by
 have e2:=ho.sV
 cases p with
 |true =>
   have h1:I (.F true j r):=by
    clear hj e2
    induction ho with
    |flat _=>exact hi
    |left hl _ ih=>exact ih (h.to _ _ hi (.a (qM (BF hl) hr.alive) (by simp[eR,hl])))
    |right hl _ ih=>exact ih (h.to _ _ hi (.b (qM (BF hl) hr.alive) (by simp[eR,hl])))
   clear hi
   induction hr with
   |done _ _=>exact h1
   |step ha hl aM _ ih=>exact ih (h.to _ _ h1 (.r (qM hj ha) (by simp[eR,e2]) hl aM))
 |false =>
   have h1:I (.F false x r'):=by
    by_cases hx:ag ns x=cx false
    .exfalso
     have:aI ns x=false:=by
      cases hl:aI ns x with
      |false=>rfl
      |true=>exact absurd hx (BF hl)
     rw[ho.self this]at hj;exact hj hx
    .clear hj e2 ho
     induction hr with
     |done _ _=>exact hi
     |step ha hl aM _ ih=>exact ih (h.to _ _ hi (.r (qM hx ha) (by simp[eR,hl]) hl aM))
   have he:=hr.end_;clear hi hr
   induction ho with
   |flat _=>exact h1
   |left hl _ ih=>exact ih e2 hj (h.to _ _ h1 (.a (qM (BF hl) he.1) (by simp[eR,hl,he.2])))
   |right hl _ ih=>exact ih e2 hj (h.to _ _ h1 (.b (qM (BF hl) he.1) (by simp[eR,hl,he.2])))
def Lf(ts:List TN)(l:List Int)(j:Int):Prop:=∃i∈l,dH ts i j
inductive EB(ts:List TN)(C:Int->Bool->List Int->Prop)(p:Bool)(l:List Int)(n:TN):Prop
 |flat {j:Int} (hj:Lf ts l j) (hk:n.k=ag ts j) (hn:n.k≠6∧¬pL n.k) (hv:n.k=11->n.a=(nd ts j.toNat).a)
 |arr {j:Int} {A B:List Int} (hj:Lf ts l j) (hk:n.k=6) (fe:ag ts j=6) (ha:C n.a (!p) A) (hb:C n.b p B) (hA:∀x,x∈A↔∃j,Lf ts l j∧ag ts j=6∧x=(nd ts j.toNat).a) (hB:∀x,x∈B↔∃j,Lf ts l j∧ag ts j=6∧x=(nd ts j.toNat).b)
 |wide {j:Int} (hj:Lf ts l j) (hk:pL n.k) (fe:ag ts j=n.k) (hs:∀s,s∈n.l.map (·.1)↔if(decide (n.k=7))=p then ∀j,Lf ts l j->ag ts j=n.k->s∈(nd ts j.toNat).l.map (·.1)else ∃j,Lf ts l j∧ag ts j=n.k∧s∈(nd ts j.toNat).l.map (·.1))
  (ht:∀s,s∈n.l.map (·.1)->∃A,C (gF n s) p A∧∀x,x∈A↔∃j,Lf ts l j∧ag ts j=n.k∧s∈(nd ts j.toNat).l.map (·.1)∧x=gF (nd ts j.toNat) s)
structure EC(ts T:List TN)(pt pT:Bool->Int->Prop)(C:Int->Bool->List Int->Prop):Prop where
 ko:∀k p l,C k p l->pT p k∧∀i∈l,pt p i
 part:∀k p l x,C k p l->dH T k x->ag T x≠cx p->EB ts C p l (nd T x.toNat)
 leaf:∀k p l j,C k p l->Lf ts l j->ag ts j≠cx p->∃x,dH T k x∧ag T x≠cx p∧(ag T x=ag ts j∧(ag ts j=11->(nd T x.toNat).a=(nd ts j.toNat).a)∨ag T x=cz p)
structure ED(ns:List TN)(pos:Bool->Int->Prop):Prop where
 pj:∀p x,pos p x->aI ns x=true->ag ns x=cA p∧pos p (nd ns x.toNat).a∧pos p (nd ns x.toNat).b
 arr:∀p x,pos p x->ag ns x=6->pos (!p) (nd ns x.toNat).a∧pos p (nd ns x.toNat).b
 jl:∀p x,pos p x->pL (ag ns x)->∀s∈(nd ns x.toNat).l.map (·.1),pos p (gF (nd ns x.toNat) s)
theorem Jr{gs:List TN}{p:Bool}{n m:TN}{r:List Int}(hk:n.k=m.k)(hw:¬pL n.k)(h:qL gs p n r):qL gs p m r:=by
 obtain h|⟨h,_⟩:=h
 .exact .inl (hk▸h)
 .exact .inr ⟨hk▸h,fun g=>absurd (hk▸g) hw⟩
theorem Js{gs:List TN}{p:Bool}{n:TN}{r:List Int}{g:Fm}(h6:n.k≠6)(hw:¬pL n.k):¬pM gs p n r g:=fun h=>by
 cases h with
 |dp _ hk=>exact h6 hk
 |dq _ hk=>exact h6 hk
 |jl _ hk=>exact hw hk
theorem aeT{gs:List TN}{p:Bool}{r:List Int}{k:Int}(h:eH gs p r k=.go):3<=k∧k<=8:=by
 unfold eH at h;split at h
 .split at h
  .assumption
  .cases h
 .have hm:∀k'∈fG gs r,3<=k'∧k'<=8:=fun k' az=>by
   have:=(ait.1 az).1;simp at this;omega
  split at h
  .cases h
  .rename_i k' e;rw[e]at hm;split at h
   .rename_i e';rw[<-e'];exact hm k' (by simp)
   .split at h<;>cases h
  .cases h
theorem EE{gs:List TN}{p:Bool}{n:TN}{r:List Int}(h:qL gs p n r)(hk:n.k=cz p):p=false∧(∀m,qL gs p m r∧∀g,¬pM gs p m r g)∧(1<(fG gs r).length∨fG gs r=[8]∧er gs (aG gs 8 r)=[]):=by
 have hd:eH gs p r n.k=.done:=by
  obtain h|⟨h,_⟩:=h
  .exact h
  .have:=aeT h;rw[hk]at this;exfalso;cases p<;>simp[cz]at this
 clear h;unfold eH at hd;split at hd
 .split at hd
  .split at hd<;>cases hd
  .cases hd
 .rename_i hp;have hp:p=false:=by simpa using hp
  subst hp;split at hd
  .cases hd
  .rename_i k' e;split at hd
   .cases hd
   .split at hd
    .rename_i h8;obtain⟨h8,hn⟩:=h8;subst h8
     have hs:∀k,eH gs false r k=if 8=k then .go else .done:=fun k=>by
      simp only[eH,e];split
      .rename_i hq;cases hq
      .simp[hn]
     refine⟨rfl,fun m=>?_,.inr ⟨e,hn⟩⟩
     have w6:∀s,m.k=8->¬jD false m gs r s:=fun s hm hd=>by
      unfold jD at hd;rw[hm,if_pos (by decide),hn]at hd;cases hd
     by_cases hm:m.k=8
     .refine⟨.inr ⟨by rw[hs,hm];rfl,fun _ s hd=>absurd hd (w6 s hm)⟩,fun g hg=>?_⟩
      cases hg with
      |dp _ hk=>omega
      |dq _ hk=>omega
      |jl _ _ s hd=>exact w6 s hm hd
     .have sr:eH gs false r m.k=.done:=by rw[hs,if_neg (fun g=>hm g.symm)]
      refine⟨.inl sr,fun g hg=>?_⟩
      cases hg with
      |dp h _=>rw[sr]at h;cases h
      |dq h _=>rw[sr]at h;cases h
      |jl h _=>rw[sr]at h;cases h
    .cases hd
  .rename_i a b c e;have hs:∀k,eH gs false r k=.done:=fun k=>by simp[eH,e]
   refine⟨rfl,fun m=>⟨.inl (hs _),fun g hg=>?_⟩,.inl (by rw[e];simp)⟩
   cases hg with
   |dp h _=>rw[hs]at h;cases h
   |dq h _=>rw[hs]at h;cases h
   |jl h _=>rw[hs]at h;cases h
end Go.Proofs.YtpmniabdmbmafaaGreatDoor

namespace Go.Proofs.YtpmniabdmbmafaaGreatDoor
open Go.Ab
section
variable {ts T gs:List TN}{pt pT:Bool->Int->Prop}{C:Int->Bool->List Int->Prop}
inductive Ia(ts T gs:List TN)(pT:Bool->Int->Prop)(C:Int->Bool->List Int->Prop)(I:Fm->Prop):Fm->Prop
 |F {p:Bool} {x k:Int} {r l:List Int} (hp:pT p x) (hc:C k p l) (hx:∀q,dH T x q->dH T k q) (hj:∀j,Lf ts l j->ag ts j≠cx p->∀r',FO gs p r r'->I (.F p j r')):Ia ts T gs pT C I (.F p x r)
 |G {l r:List Int} (h:I (.G l r)):Ia ts T gs pT C I (.G l r)
theorem EF{p:Bool}{k:Int}(h:pL k):k≠cx p:=by rcases h with h | h<;>cases p<;>simp[cx,h]
theorem BG{p:Bool}:(6:Int)≠cx p:=by cases p<;>simp[cx]
theorem QL{p:Bool}{n:TN}{l r:List Int}{s:List UInt8}{j0:Int}(l0:Lf ts l j0)(QM:ag ts j0=n.k)
  (hs:∀s,s∈n.l.map (·.1)↔if(decide (n.k=7))=p then ∀j,Lf ts l j->ag ts j=n.k->s∈(nd ts j.toNat).l.map (·.1)else ∃j,Lf ts l j∧ag ts j=n.k∧s∈(nd ts j.toNat).l.map (·.1)) (hd:jD p n gs r s) :
  (∃j,Lf ts l j∧ag ts j=n.k∧jD p (nd ts j.toNat) gs r s)∧∀j,Lf ts l j->ag ts j=n.k->((decide (n.k=7))=p∨s∈(nd ts j.toNat).l.map (·.1))->jD p (nd ts j.toNat) gs r s:=by
 have h2:∀j,Lf ts l j->ag ts j=n.k->((decide (n.k=7))=p∨s∈(nd ts j.toNat).l.map (·.1))->jD p (nd ts j.toNat) gs r s:=fun j _ fe ho=>by
  have e:(nd ts j.toNat).k=n.k:=fe;unfold jD at hd ⊢;rw[e];by_cases hp:decide (n.k=7)=p
  .rw[if_pos hp]at hd ⊢;exact hd
  .rw[if_neg hp];exact ho.resolve_left hp
 refine⟨?_,h2⟩;by_cases hp:decide (n.k=7)=p
 .exact⟨j0,l0,QM,h2 j0 l0 QM (.inl hp)⟩
 .have h3:s∈n.l.map (·.1):=by
   unfold jD at hd
   rwa [if_neg hp]at hd
  have h4:=(hs s).1 h3;rw[if_neg hp]at h4;obtain⟨j,hj,fe,hm⟩:=h4;exact⟨j,hj,fe,h2 j hj fe (.inr hm)⟩
theorem aeU(hb:EC ts T pt pT C)(hT:ED T pT){I:Fm->Prop}(h:w5 ts gs I):w5 T gs (Ia ts T gs pT C I):=by
 have QN:∀{p:Bool} {x k:Int} {r l:List Int},(∀j,Lf ts l j->ag ts j≠cx p->∀r',FO gs p r r'->I (.F p j r'))->iU gs p r=false->r.any (aI gs)=false->∀j,Lf ts l j->ag ts j≠cx p->I (.F p j r):=fun hj he hl j h1 h2=>hj j h1 h2 _ (.done he hl)
 have iz:∀{p:Bool} {j:Int} {r:List Int},I (.F p j r)->ag ts j≠cx p->aI ts j=false->ag ts j≠11->iU gs p r=false->r.any (aI gs)=false->qL gs p (nd ts j.toNat) r:=fun hi hk hlt cQ he hl=>by
  rcases h.ok _ hi with g|g|g|g|g
  .rw[qM hk he]at g;cases g
  .rw[hlt]at g;cases g
  .rw[hl]at g;cases g
  .exact absurd g cQ
  .exact g
 refine⟨fun f hf=>?_,fun f g hf hg=>?_,fun x r y l hx hy sx sy ha=>?_⟩
 .cases hf with
  |G hi=>exact h.ok _ hi
  | @F p x k r l hp hc hx hj =>
    unfold kP
    cases hd:lD T gs p x r with
    |true=>exact .inl hd
    |false =>
    cases hlt:aI T x with
    |true=>exact .inr (.inl hlt)
    |false =>
    cases dj:r.any (aI gs)with
    |true=>exact .inr (.inr (.inl dj))
    |false =>
    refine .inr (.inr (.inr ?_));by_cases cQ:ag T x=11
    .exact .inl cQ
    refine .inr ?_;obtain⟨d1,d2⟩:=vq hd;have hL:∀j,Lf ts l j->ag ts j≠cx p->I (.F p j r):=QN (x:=x) (k:=k) hj d2 dj;rcases hb.part k p l x hc (hx x (.flat hlt)) d1 with⟨iy,hk,hn,hv⟩|⟨iy,hk,fe,ha,qN,hA,hB⟩|⟨iy,hk,fe,hs,ht⟩
    .rename_i j;have az:ag T x=ag ts j:=hk;obtain⟨i,hi,ho⟩:=iy;exact Jr hk.symm (fun g=>hn.2 (hk▸g)) (iz (hL j ⟨i,hi,ho⟩ (az▸d1)) (az▸d1) ho.sV (az▸cQ) d2 dj)
    .rename_i j A B;obtain⟨i,hi,ho⟩:=iy;have az:(nd ts j.toNat).k=(nd T x.toNat).k:=by rw[hk];exact fe
     refine Jr az (fun g=>?_) (iz (hL j ⟨i,hi,ho⟩ (fe▸BG)) (fe▸BG) ho.sV (by rw[fe];decide) d2 dj);rw[show(nd ts j.toNat).k=6 from fe]at g;rcases g with g|g<;>cases g
    .rename_i j
     have ok:∀j,Lf ts l j->ag ts j=(nd T x.toNat).k->qL gs p (nd ts j.toNat) r:=fun j bG rW=>by
      obtain⟨i,hi,ho⟩:=bG;have hn:ag ts j≠cx p:=by rw[rW];exact EF hk
      exact iz (hL j ⟨i,hi,ho⟩ hn) hn ho.sV (by rw[rW];rcases hk with g|g<;>rw[g]<;>decide) d2 dj
     have e:(nd ts j.toNat).k=(nd T x.toNat).k:=fe;rcases ok j iy fe with g|⟨g,_⟩
     .exact .inl (e▸g)
     .refine .inr ⟨e▸g,fun _ s hd=>?_⟩;obtain⟨⟨j',bG,rW,dB⟩,hall⟩:=QL iy fe hs hd;have e':(nd ts j'.toNat).k=(nd T x.toNat).k:=rW
      have eD:∀j,Lf ts l j->ag ts j=(nd T x.toNat).k->jD p (nd ts j.toNat) gs r s->s∈(nd ts j.toNat).l.map (·.1)∧dP gs (aG gs (nd T x.toNat).k r) s≠[]:=fun j2 oh BH Er=>by
       have e2:(nd ts j2.toNat).k=(nd T x.toNat).k:=BH;rcases ok j2 oh BH with q|⟨_,q⟩
       .rw[e2,<-e,g]at q;cases q
       .have:=q (e2▸hk) s Er
        rwa [e2]at this
      have g2:=eD j' bG rW dB;refine⟨?_,g2.2⟩;rw[hs];by_cases iV:decide ((nd T x.toNat).k=7)=p
      .rw[if_pos iV];exact fun j2 oh BH=>(eD j2 oh BH (hall j2 oh BH (.inl iV))).1
      .rw[if_neg iV];exact⟨j',bG,rW,g2.1⟩
 .cases hf with
  |G hi =>
    cases hg with
    |g hq=>exact .G (h.to _ _ hi (.g hq))
  | @F p x k r l hp hc hx hj =>
    cases hg with
    |a hd hf =>
      have hl:aI T x=true:=by
       unfold eR at hf
       cases hl:aI T x with
       |true=>rfl
       |false=>rw[hl]at hf;cases hf
      exact .F (hT.pj p x hp hl).2.1 hc (fun q hq=>hx q (.left hl hq)) hj
    |b hd hf =>
      have hl:aI T x=true:=by
       unfold eR at hf
       cases hl:aI T x with
       |true=>rfl
       |false=>rw[hl]at hf;cases hf
      exact .F (hT.pj p x hp hl).2.2 hc (fun q hq=>hx q (.right hl hq)) hj
    |r hd hf hl ho=>exact .F hp hc hx fun j h1 h2 r' hr=>hj j h1 h2 r' (.step (vq hd).2 hl ho hr)
    |hd hd iX dj cQ hg =>
      obtain⟨d1,d2⟩:=vq hd;have hL:∀j,Lf ts l j->ag ts j≠cx p->I (.F p j r):=QN (x:=x) (k:=k) hj d2 dj;rcases hb.part k p l x hc (hx x (.flat iX)) d1 with⟨iy,hk,hn,hv⟩|⟨iy,hk,fe,ha,qN,hA,hB⟩|⟨iy,hk,fe,hs,ht⟩
      .exact absurd hg (Js hn.1 hn.2)
      .have ld:∀j,Lf ts l j->ag ts j=6->∀g,pM gs p (nd ts j.toNat) r g->I g:=fun j bG rW g nA=>by
        obtain⟨i,hi,ho⟩:=bG;exact h.to _ _ (hL j ⟨i,hi,ho⟩ (rW▸BG)) (.hd (qM (rW▸BG) d2) ho.sV dj (by rw[rW];decide) nA)
       cases hg with
       |dp hs _ =>
         refine .F (hb.ko _ _ _ ha).1 ha (fun q hq=>hq) fun j' ⟨i,hi,ho⟩ hn r' hr=>?_;obtain⟨j,h1,h2,rfl⟩:=(hA i).1 hi;exact h.open_ (ld j h1 h2 _ (.dp (by rw[show(nd ts j.toNat).k=6 from h2,<-hk];exact hs) h2)) ho hn hr
       |dq hs _ =>
         refine .F (hb.ko _ _ _ qN).1 qN (fun q hq=>hq) fun j' ⟨i,hi,ho⟩ hn r' hr=>?_;obtain⟨j,h1,h2,rfl⟩:=(hB i).1 hi;exact h.open_ (ld j h1 h2 _ (.dq (by rw[show(nd ts j.toNat).k=6 from h2,<-hk];exact hs) h2)) ho hn hr
       |jl _ hw=>rw[hk]at hw;rcases hw with g|g<;>cases g
      .cases hg with
       |dp _ h6=>rw[h6]at hk;rcases hk with g|g<;>cases g
       |dq _ h6=>rw[h6]at hk;rcases hk with g|g<;>cases g
       |jl ah _ s w6 =>
         obtain⟨_,hall⟩:=QL iy fe hs w6;by_cases hm:s∈(nd T x.toNat).l.map (·.1)
         .obtain⟨A,hA,hA2⟩:=ht s hm;refine .F (hb.ko _ _ _ hA).1 hA (fun q hq=>hq) fun j' ⟨i,hi,ho⟩ hn r' hr=>?_;obtain⟨j,h1,h2,h3,rfl⟩:=(hA2 i).1 hi;have e:(nd ts j.toNat).k=(nd T x.toNat).k:=h2;have aJ:ag ts j≠cx p:=by rw[h2];exact EF hk
          refine h.open_ (r:=dP gs (aG gs (nd T x.toNat).k r) s) ?_ ho hn hr;obtain⟨i2,l6,rK⟩:=h1;refine h.to _ _ (hL j ⟨i2,l6,rK⟩ aJ) (.hd (qM aJ d2) rK.sV dj (by rw[h2];rcases hk with g|g<;>rw[g]<;>decide) ?_);rw[<-e];exact .jl (e▸ah) (e▸hk) s (hall j ⟨i2,l6,rK⟩ h2 (.inr h3))
         .exfalso;rename_i j0
          have iV:decide ((nd T x.toNat).k=7)=p:=by
           by_cases iV:decide ((nd T x.toNat).k=7)=p
           .exact iV
           .unfold jD at w6;rw[if_neg iV]at w6;exact absurd w6 hm
          refine hm ((hs s).2 ?_);rw[if_pos iV];intro j h1 h2;have e:(nd ts j.toNat).k=(nd T x.toNat).k:=h2;have aJ:ag ts j≠cx p:=by rw[h2];exact EF hk
          have hdj:=hall j h1 h2 (.inl iV);obtain⟨i2,l6,rK⟩:=h1;rcases iz (hL j ⟨i2,l6,rK⟩ aJ) aJ rK.sV (by rw[h2];rcases hk with g|g<;>rw[g]<;>decide) d2 dj with q|⟨_,q⟩
          .rw[e,ah]at q;cases q
          .exact(q (e▸hk) s hdj).1
 .obtain⟨yV,w7,w8⟩:=sx;obtain⟨yW,w9,xa⟩:=sy
  cases hx with
  | @F _ _ k r l2 hp hc hx hj =>
  cases hy with
  | @F _ _ k' _ l3 ae xK aV bG =>
  have key:∀{p:Bool} {x k:Int} {r l:List Int},C k p l->(∀q,dH T x q->dH T k q)->(∀j,Lf ts l j->ag ts j≠cx p->∀r',FO gs p r r'->I (.F p j r'))->ag T x=11->iU gs p r=false->r.any (aI gs)=false->∃j,I (.F p j r)∧ag ts j=11∧(nd T x.toNat).a=(nd ts j.toNat).a:=by
   intro p x k r l hc hx hj cQ he hl
   have iX:aI T x=false:=by
    have:(nd T x.toNat).k=11:=cQ;unfold aI eA;rw[this];rfl
   have aJ:ag T x≠cx p:=by rw[cQ];cases p<;>decide
   rcases hb.part k p l x hc (hx x (.flat iX)) aJ with⟨iy,hk,hn,hv⟩|⟨iy,hk,fe,ha,qN,hA,hB⟩|⟨iy,hk,fe,hs,ht⟩
   .rename_i j;have az:ag T x=ag ts j:=hk;exact⟨j,hj j iy (az▸aJ) _ (.done he hl),az▸cQ,hv cQ⟩
   .rw[show(nd T x.toNat).k=11 from cQ]at hk;cases hk
   .rw[show(nd T x.toNat).k=11 from cQ]at hk;rcases hk with g|g<;>cases g
  obtain⟨j,i1,k1,a1⟩:=key hc hx hj yV w7 w8;obtain⟨j',i2,k2,a2⟩:=key xK aV bG yW w9 xa;exact .G (h.pair _ _ _ _ i1 i2 ⟨k1,w7,w8⟩ ⟨k2,w9,xa⟩ (by rw[<-a1,<-a2];exact ha))
def QO(gs:List TN)(l r:List Int):Prop:=(c6 gs (l,r)).2=true∧(c6 gs (l,r)).1.getD []=[]
inductive ItX(ts T gs:List TN)(pt:Bool->Int->Prop)(C:Int->Bool->List Int->Prop)(I:Fm->Prop):Fm->Prop
 |F {p:Bool} {i k:Int} {r l:List Int} (hp:pt p i) (hc:C k p l) (hx:∀j,dH ts i j->Lf ts l j) (hj:∀x,dH T k x->ag T x≠cx p->∀r',FO gs p r r'->I (.F p x r')):ItX ts T gs pt C I (.F p i r)
 |G {l r:List Int} (h:I (.G l r)):ItX ts T gs pt C I (.G l r)
 |D {l r:List Int} (h:QO gs l r):ItX ts T gs pt C I (.G l r)
theorem aeV(gs:List TN)(l r:List Int)(h1:iU gs false l=false)(h2:l.any (aI gs)=false)(h3:iU gs true r=false)(h4:r.any (aI gs)=false)(h5:1<(fG gs l).length∨fG gs l=[8]∧er gs (aG gs 8 l)=[]):QO gs (bM gs 1 l) (bM gs 2 r):=by
 have hf:∀{l:List Int} {f:Int->Bool} (k:Int),l.any f=false->(bM gs k l).any f=false:=fun {l f} k h=>ai6.2 fun x hx=>ai6.1 h x (ait.1 hx).1
 have hk:fG gs (bM gs 1 l)=fG gs l:=by
  unfold fG;refine aj5 fun k hk=>?_;rw[ajF,aiA,aiA];constructor
  .rintro⟨x,hx,e⟩;exact⟨x,(ait.1 hx).1,e⟩
  .rintro⟨x,hx,e⟩;have:ag gs x=k:=by simpa using e
   refine⟨x,ait.2 ⟨hx,?_⟩,e⟩
   have:ag gs x≠1:=by
    rw[this];simp at hk;omega
   simpa using this
 have ho:aG gs 8 (bM gs 1 l)=aG gs 8 l:=by
  unfold aG bM;rw[List.filter_filter];refine aj5 fun x _=>?_;by_cases e:ag gs x=8
  .rw[e];decide
  .simp[e]
 have c1:(bM gs 1 l).any (fun x=>decide (ag gs x=2))=false:=hf 1 h1;have c2:(bM gs 2 r).any (fun x=>decide (ag gs x=1))=false:=hf 2 h3
 have key:c6 gs (bM gs 1 l,bM gs 2 r)=(none,true)∨c6 gs (bM gs 1 l,bM gs 2 r)=(some [],true):=by
  unfold c6;simp only[c1,c2,hf 1 h2,hf 2 h4,hk,Bool.or_self,aip,if_false];by_cases hv:((bM gs 1 l).any fun x=>(bM gs 2 r).any fun y=>gi gs x y)=true
  .rw[if_pos hv];exact .inl rfl
  rw[if_neg hv];obtain h5|⟨h5,h6⟩:=h5
  .rw[if_neg (by omega),if_pos h5];exact .inl rfl
  .rw[h5];refine .inr ?_;show eY gs 8 (aG gs 8 (bM gs 1 l)) _=_;rw[ho];simp[eY,kO,h6]
 rcases key with e|e<;>exact⟨by rw[e],by rw[e];rfl⟩
theorem aeW(hb:EC ts T pt pT C)(ht:ED ts pt)   {I:Fm->Prop}(h:w5 T gs I):w5 ts gs (ItX ts T gs pt C I):=by
 have iz:∀{p:Bool} {j:Int} {r:List Int},I (.F p j r)->ag T j≠cx p->aI T j=false->ag T j≠11->iU gs p r=false->r.any (aI gs)=false->qL gs p (nd T j.toNat) r:=fun hi hk hlt cQ he hl=>by
  rcases h.ok _ hi with g|g|g|g|g
  .rw[qM hk he]at g;cases g
  .rw[hlt]at g;cases g
  .rw[hl]at g;cases g
  .exact absurd g cQ
  .exact g
 have QP:∀p,cz p≠11:=fun p=>by cases p<;>decide
 have EG:∀{p:Bool} {i k:Int} {r l:List Int},C k p l->(∀j,dH ts i j->Lf ts l j)->(∀x,dH T k x->ag T x≠cx p->∀r',FO gs p r r'->I (.F p x r'))->iU gs p r=false->r.any (aI gs)=false->aI ts i=false->ag ts i≠cx p ->
   ∃x,I (.F p x r)∧dH T k x∧aI T x=false∧ag T x≠cx p∧(ag T x=ag ts i∧(ag ts i=11->(nd T x.toNat).a=(nd ts i.toNat).a)∨ag T x=cz p):=by
  intro p i k r l hc hx hj he hl hli IZ;obtain⟨x,h1,h2,h3⟩:=hb.leaf k p l i hc (hx i (.flat hli)) IZ;exact⟨x,hj x h1 h2 _ (.done he hl),h1,h1.sV,h2,h3⟩
 refine⟨fun f hf=>?_,fun f g hf hg=>?_,fun x r y l hx hy sx sy ha=>?_⟩
 .cases hf with
  |G hi=>exact h.ok _ hi
  |D hd=>exact hd.1
  | @F p i k r l hp hc hx hj =>
    unfold kP
    cases hd:lD ts gs p i r with
    |true=>exact .inl hd
    |false =>
    cases hlt:aI ts i with
    |true=>exact .inr (.inl hlt)
    |false =>
    cases dj:r.any (aI gs)with
    |true=>exact .inr (.inr (.inl dj))
    |false =>
    refine .inr (.inr (.inr ?_));by_cases cQ:ag ts i=11
    .exact .inl cQ
    refine .inr ?_;obtain⟨d1,d2⟩:=vq hd;obtain⟨x,i1,i2,i3,i4,i5⟩:=EG hc hx hj d2 dj hlt d1;obtain⟨i5,_⟩|i5:=i5
    .have EH:ag T x≠11:=by rw[i5];exact cQ
     have ok:=iz i1 i4 i3 EH d2 dj;have e:(nd T x.toNat).k=(nd ts i.toNat).k:=i5;by_cases hw:pL (nd T x.toNat).k
     .rcases hb.part k p l x hc i2 i4 with⟨iy,hk,hn,hv⟩|⟨iy,hk,fe,ha,qN,hA,hB⟩|⟨iy,hk,fe,hs,ht⟩
      .exact absurd hw hn.2
      .rw[hk]at hw;rcases hw with g|g<;>cases g
      .rcases ok with q|⟨q,q2⟩
       .exact .inl (e▸q)
       .refine .inr ⟨e▸q,fun _ s ak=>?_⟩
        have EI:jD p (nd T x.toNat) gs r s:=by
         unfold jD at ak ⊢;rw[e];by_cases iV:decide ((nd ts i.toNat).k=7)=p
         .rw[if_pos iV]at ak ⊢;exact ak
         .rw[if_neg iV]at ak ⊢;rw[hs,e,if_neg iV];exact⟨i,hx i (.flat hlt),rfl,ak⟩
        obtain⟨q3,q4⟩:=q2 hw s EI;rw[e]at q4;refine⟨?_,q4⟩;by_cases iV:decide ((nd ts i.toNat).k=7)=p
        .rw[hs,e,if_pos iV]at q3;exact q3 i (hx i (.flat hlt)) rfl
        .unfold jD at ak
         rwa [if_neg iV]at ak
     .exact Jr e hw ok
    .exact((EE (iz i1 i4 i3 (by rw[i5];exact QP p) d2 dj) i5).2.1 _).1
 .cases hf with
  |G hi =>
    cases hg with
    |g hq=>exact .G (h.to _ _ hi (.g hq))
  |D hd =>
    cases hg with
    |g hq=>rw[hd.2]at hq;cases hq
  | @F p i k r l hp hc hx hj =>
    cases hg with
    |a hd hf =>
      have hl:aI ts i=true:=by
       unfold eR at hf
       cases hl:aI ts i with
       |true=>rfl
       |false=>rw[hl]at hf;cases hf
      exact .F (ht.pj p i hp hl).2.1 hc (fun q hq=>hx q (.left hl hq)) hj
    |b hd hf =>
      have hl:aI ts i=true:=by
       unfold eR at hf
       cases hl:aI ts i with
       |true=>rfl
       |false=>rw[hl]at hf;cases hf
      exact .F (ht.pj p i hp hl).2.2 hc (fun q hq=>hx q (.right hl hq)) hj
    |r hd hf hl ho=>exact .F hp hc hx fun x h1 h2 r' hr=>hj x h1 h2 r' (.step (vq hd).2 hl ho hr)
    |hd hd hlt dj cQ hg =>
      obtain⟨d1,d2⟩:=vq hd;obtain⟨x,i1,i2,i3,i4,i5⟩:=EG hc hx hj d2 dj hlt d1;obtain⟨i5,_⟩|i5:=i5
      .have EH:ag T x≠11:=by rw[i5];exact cQ
       have e:(nd T x.toNat).k=(nd ts i.toNat).k:=i5;have ld:∀g,pM gs p (nd T x.toNat) r g->I g:=fun g hg=>h.to _ _ i1 (.hd (qM i4 d2) i3 dj EH hg);rcases hb.part k p l x hc i2 i4 with⟨iy,hk,hn,hv⟩|⟨iy,hk,fe,ha,qN,hA,hB⟩|⟨iy,hk,fe,hs,zR⟩
       .exact absurd hg (Js (e▸hn.1) (e▸hn.2))
       .have az:ag ts i=6:=by rw[<-i5];exact hk
        cases hg with
        |dp ah _=>exact .F (ht.arr p i hp az).1 ha (fun q hq=>⟨_,(hA _).2 ⟨i,hx i (.flat hlt),az,rfl⟩,hq⟩) fun x' aV lf r' hr=>h.open_ (ld _ (.dp (e▸ah) hk)) aV lf hr
        |dq ah _=>exact .F (ht.arr p i hp az).2 qN (fun q hq=>⟨_,(hB _).2 ⟨i,hx i (.flat hlt),az,rfl⟩,hq⟩) fun x' aV lf r' hr=>h.open_ (ld _ (.dq (e▸ah) hk)) aV lf hr
        |jl _ hw=>rw[show(nd ts i.toNat).k=6 from az]at hw;rcases hw with g|g<;>cases g
       .cases hg with
        |dp _ h6=>rw[<-e]at h6;rw[h6]at hk;rcases hk with g|g<;>cases g
        |dq _ h6=>rw[<-e]at h6;rw[h6]at hk;rcases hk with g|g<;>cases g
        |jl ah hw s ak =>
          have EI:jD p (nd T x.toNat) gs r s:=by
           unfold jD at ak ⊢;rw[e];by_cases iV:decide ((nd ts i.toNat).k=7)=p
           .rw[if_pos iV]at ak ⊢;exact ak
           .rw[if_neg iV]at ak ⊢;rw[hs,e,if_neg iV];exact⟨i,hx i (.flat hlt),rfl,ak⟩
          have ok:=iz i1 i4 i3 EH d2 dj;have AY:eH gs p r (nd T x.toNat).k=.go:=e▸ah;obtain q|⟨_,q⟩:=ok
          .rw[AY]at q;cases q
          obtain⟨q3,_⟩:=q hk s EI
          have sZ:s∈(nd ts i.toNat).l.map (·.1):=by
           by_cases iV:decide ((nd ts i.toNat).k=7)=p
           .rw[hs,e,if_pos iV]at q3;exact q3 i (hx i (.flat hlt)) rfl
           .unfold jD at ak
            rwa [if_neg iV]at ak
          obtain⟨A,hA,hA2⟩:=zR s q3;refine .F (ht.jl p i hp (show pL (ag ts i)from hw) s sZ) hA (fun q hq=>⟨_,(hA2 _).2 ⟨i,hx i (.flat hlt),i5.symm,sZ,rfl⟩,hq⟩) fun x' aV lf r' hr=>?_;have:=ld _ (.jl AY hk s EI);rw[e]at this;exact h.open_ this aV lf hr
      .exact absurd hg (((EE (iz i1 i4 i3 (by rw[i5];exact QP p) d2 dj) i5).2.1 _).2 _)
 .obtain⟨yV,w7,w8⟩:=sx;obtain⟨yW,w9,xa⟩:=sy
  cases hx with
  | @F _ _ k r l2 hp hc hx hj =>
  cases hy with
  | @F _ _ k' _ l3 ae xK aV bG =>
  have QQ:∀{x:Int},ag ts x=11->aI ts x=false:=fun {x} cQ=>by
   have:(nd ts x.toNat).k=11:=cQ;unfold aI eA;rw[this];rfl
  have n11:∀{p:Bool} {x:Int},ag ts x=11->ag ts x≠cx p:=fun {p x} cQ=>by rw[cQ];cases p<;>decide
  obtain⟨u,u1,u2,u3,u4,u5⟩:=EG hc hx hj w7 w8 (QQ yV) (n11 yV);obtain⟨v,v1,v2,v3,v4,v5⟩:=EG xK aV bG w9 xa (QQ yW) (n11 yW);obtain⟨u5,u6⟩|u5:=u5
  .rcases v5 with⟨v5,v6⟩|v5
   .exact .G (h.pair _ _ _ _ u1 v1 ⟨by rw[u5];exact yV,w7,w8⟩ ⟨by rw[v5];exact yW,w9,xa⟩ (by rw[u6 yV,v6 yW];exact ha))
   .exact .D (aeV gs l r w9 xa w7 w8 (EE (iz v1 v4 v3 (by rw[v5];decide) w9 xa) v5).2.2)
  .have:=(EE (iz u1 u4 u3 (by rw[u5];decide) w7 w8) u5).1;cases this
end
end Go.Proofs.YtpmniabdmbmafaaGreatDoor

namespace Go.Proofs.YtpmniabdmbmafaaGreatDoor
open Go.Ab
def sh(d:Int)(l:List Int):List Int:=l.map fun y=>y+d
structure dJ(gs:List TN)(gr:Int->Prop):Prop where
 ok:∀y,gr y->aC gs y
 nv:∀y,gr y->ag gs y≠11
 QR:∀y,gr y->np (ag gs y)=true->gr (nd gs y.toNat).a∧gr (nd gs y.toNat).b
 jl:∀y,gr y->∀q∈(nd gs y.toNat).l,gr q.2
theorem aeX{d:Int}{l:List Int}(h:eQ l):eQ (sh d l):=akm.2 (h.imp fun h=>by omega)
theorem BI{d:Int}{l:List Int}{x:Int}:x∈sh d l↔∃y∈l,x=y+d:=by
 unfold sh;rw[ah9];exact⟨fun⟨y,h,e⟩=>⟨y,h,e.symm⟩,fun⟨y,h,e⟩=>⟨y,h,e.symm⟩⟩
theorem pN(d:Int)(l:List Int):bw (sh d l)=sh d (bw l):=Bd (aeX (yE l)) fun x=>by
 rw[BI,BI];exact⟨fun⟨y,h,e⟩=>⟨y,(rF l y).1 h,e⟩,fun⟨y,h,e⟩=>⟨y,(rF l y).2 h,e⟩⟩
theorem rX(x:Int):bw [x]=[x]:=Bd (ajE _ _) fun _=>Iff.rfl
theorem QS:bw []=[]:=Bd (by simp) fun _=>Iff.rfl
theorem pO{d:Int}{f g:Int->Bool}{r:List Int}(h:∀y∈r,f (y+d)=g y):(sh d r).any f=r.any g:=by
 unfold sh;rw[List.any_map]
 induction r with
 |nil=>rfl
 |cons x t ih =>
   rw[List.any_cons,List.any_cons,ih fun y hy=>h y (ah8 _ hy)];simp only[Function.comp_def];rw[h x ah0]
theorem EJ{d:Int}{f g:Int->Bool}{r:List Int}(h:∀y∈r,f (y+d)=g y):(sh d r).filter f=sh d (r.filter g):=by
 unfold sh;rw[List.filter_map];congr 1;refine aj5 fun x hx=>?_;exact h x hx
theorem aeY{d:Int}{f g:Int->Bool}{r:List Int}(h:∀y∈r,f (y+d)=g y):(sh d r).findIdx f=r.findIdx g:=by
 unfold sh
 induction r with
 |nil=>rfl
 |cons x t ih =>
   rw[aid,akK,akK,ih fun y hy=>h y (ah8 _ hy),h x ah0]
section
variable {ns gs:List TN}
theorem lF{x:Int}(h:aC ns x):nd (aq ns gs) x.toNat=nd ns x.toNat:=by
 have:=h.1;have:=h.2;unfold nd aq;rw[ahX,aih (by omega),<-ahX]
theorem rY{y:Int}(h:aC gs y):nd (aq ns gs) (y+(ns.length:Int)).toNat=iM ns.length (nd gs y.toNat):=by
 have h1:=h.1;have h2:=h.2;have e:(y+(ns.length:Int)).toNat=ns.length+y.toNat:=by omega
 unfold nd aq;rw[e,ahX,aim (by omega),show ns.length+y.toNat-ns.length=y.toNat by omega];have h3:y.toNat<gs.length:=by omega
 simp[h3]
theorem nI{x:Int}(h:aC ns x):ag (aq ns gs) x=ag ns x:=by unfold ag;rw[lF h]
theorem oK{y:Int}(h:aC gs y):ag (aq ns gs) (y+(ns.length:Int))=ag gs y:=by unfold ag;rw[rY h];rfl
theorem yX{x:Int}(h:aC ns x):aI (aq ns gs) x=aI ns x:=congrArg eA (nI h)
theorem BJ{y:Int}(h:aC gs y):aI (aq ns gs) (y+(ns.length:Int))=aI gs y:=congrArg eA (oK h)
theorem QT(d:Int)(s:List UInt8):∀(l:List cn),(l.map fun q=>(q.1,q.2+d)).find? (fun q=>q.1 == s)=(l.find? fun q=>q.1 == s).map fun q=>(q.1,q.2+d)
 |[]=>rfl
 |q::r=>by
   rw[aid,List.find?_cons,List.find?_cons,QT d s r];cases q.1 == s<;>rfl
theorem aeZ{d:Int}{n:TN}{s:List UInt8}(hs:s∈n.l.map (·.1)):gF (iM d n) s=gF n s+d:=by
 unfold gF iM;rw[QT]
 cases hf:n.l.find? (fun q=>q.1 == s)with
 |none =>
   obtain⟨q,hq,e⟩:=ah9.1 hs;have:=aj2.1 hf q hq;simp[e]at this
 |some q=>rfl
theorem ae0{n:TN}{s:List UInt8}(hs:s∉n.l.map (·.1)):gF n s = -1:=by
 unfold gF
 cases hf:n.l.find? (fun q=>q.1 == s)with
 |none=>rfl
 |some q =>
   have h1:=ajV hf;have h2:=akx hf;exact absurd (ah9.2 ⟨q,h1,by simpa using h2⟩) hs
theorem BK{n:TN}{s:List UInt8}(hs:s∈n.l.map (·.1)):∃q∈n.l,q.1=s∧gF n s=q.2:=by
 unfold gF
 cases hf:n.l.find? (fun q=>q.1 == s)with
 |none =>
   obtain⟨q,hq,e⟩:=ah9.1 hs;have:=aj2.1 hf q hq;simp[e]at this
 |some q=>exact⟨q,ajV hf,by simpa using akx hf,rfl⟩
theorem QU(d:Int)(n:TN):(iM d n).l.map (·.1)=n.l.map (·.1):=by simp[iM,Function.comp_def]
theorem xb{s:List UInt8}{x:Int}(h:∀q∈(nd ns x.toNat).l,0<=q.2):gh ns s x=true↔s∈(nd ns x.toNat).l.map (·.1):=by
 unfold gh;rw[decide_eq_true_iff];constructor
 .intro hp;by_cases hs:s∈(nd ns x.toNat).l.map (·.1)
  .exact hs
  .rw[ae0 hs]at hp;omega
 .intro hs;obtain⟨q,hq,_,e⟩:=BK hs;rw[e];exact h q hq
variable {gr:Int->Prop}
theorem dJ.yY(hg:dJ gs gr){y:Int}(h:gr y):∀q∈(nd gs y.toNat).l,0<=q.2:=fun q hq=>(hg.ok _ (hg.jl y h q hq)).1
theorem QV(hg:dJ gs gr){y:Int}(h:gr y)(s:List UInt8):gh (aq ns gs) s (y+(ns.length:Int))=gh gs s y:=by
 rw[ajF,xb (hg.yY h),xb,rY (hg.ok y h),QU];intro q hq;rw[rY (hg.ok y h)]at hq;obtain⟨q',cg,rfl⟩:=ah9.1 hq;have:=hg.yY h q' cg;show 0<=q'.2+(ns.length:Int)
 omega
theorem xc(hg:dJ gs gr){r:List Int}(h:∀y∈r,gr y)(s:List UInt8):dP (aq ns gs) (sh ns.length r) s=sh ns.length (dP gs r s):=by
 unfold dP;rw[<-pN];congr 1;unfold mK;rw[EJ (g:=gh gs s) fun y hy=>QV hg (h y hy) s];unfold sh;rw[aiV,aiV];refine aiQ fun y hy=>?_;obtain⟨hy,hs⟩:=ait.1 hy;have hs:=(xb (hg.yY (h y hy))).1 hs;simp only[Function.comp_def];rw[rY (hg.ok y (h y hy)),aeZ hs]
theorem EK{ns:List TN}{l:List Int}{P:List UInt8->Bool}(hP:∀s,(decide (0<(dP ns l s).length)&&decide ((l.filter (gh ns s)).length=l.length))=P s):∀(L out:List (List UInt8)),L.foldl (kj ns l) out=L.foldl (fun o s=>if(P s&&!decide (s∈o))=true then o++[s]else o) out
 |[],_=>rfl
 |s::L,out=>by
   rw[List.foldl_cons,List.foldl_cons,EK hP L];congr 1;unfold kj;rw[hP]
theorem QW{P:List UInt8->Bool}(s:List UInt8):∀(L out:List (List UInt8)),s∈L.foldl (fun o s=>if(P s&&!decide (s∈o))=true then o++[s]else o) out↔s∈out∨s∈L∧P s=true
 |[],out=>by simp
 |t::L,out=>by
   rw[List.foldl_cons,QW s L];by_cases ht:(P t&&!decide (t∈out))=true
   .rw[if_pos ht];simp only[aia,aiT,decide_eq_false_iff_not]at ht;rw[ah1,ahZ,ah6];constructor
    .rintro((h|h)|h)
     .exact .inl h
     .exact .inr ⟨.inl h,h▸ht.1⟩
     .exact .inr ⟨.inr h.1,h.2⟩
    .rintro(h|⟨h|h,hp⟩)
     .exact .inl (.inl h)
     .exact .inl (.inr h)
     .exact .inr ⟨h,hp⟩
   .rw[if_neg ht];simp only[ah6];constructor
    .rintro(h|h)
     .exact .inl h
     .exact .inr ⟨.inr h.1,h.2⟩
    .rintro(h|⟨h|h,hp⟩)
     .exact .inl h
     .subst h;rw[hp]at ht;simp at ht;exact .inl ht
     .exact .inr ⟨h,hp⟩
theorem ae1{ns:List TN}{l:List Int}{s:List UInt8}:s∈er ns l↔s∈(nd ns (l.getD 0 0).toNat).l.map (·.1)∧0<(dP ns l s).length∧(l.filter (gh ns s)).length=l.length:=by
 unfold er;rw[EK (P:=fun s=>decide (0<(dP ns l s).length)&&decide ((l.filter (gh ns s)).length=l.length)) fun _=>rfl,QW];simp
theorem BL(hg:dJ gs gr){r:List Int}(h:∀y∈r,gr y)(hr:r≠[]):er (aq ns gs) (sh ns.length r)=er gs r:=by
 unfold er
 rw[EK (P:=fun s=>decide (0<(dP gs r s).length)&&decide ((r.filter (gh gs s)).length=r.length)) fun s=>by
  rw[xc hg h,EJ (g:=gh gs s) fun y hy=>QV hg (h y hy) s]
  simp[sh],EK (ns:=gs) (P:=fun s=>decide (0<(dP gs r s).length)&&decide ((r.filter (gh gs s)).length=r.length)) fun _=>rfl]
 congr 1
 cases r with
 |nil=>exact absurd rfl hr
 |cons y t =>
   show(nd (aq ns gs) (y+(ns.length:Int)).toNat).l.map (·.1)=(nd gs y.toNat).l.map (·.1);rw[rY (hg.ok y (h y ah0)),QU]
theorem EL(hg:dJ gs gr){r:List Int}(h:∀y∈r,gr y)(k:Int):aG (aq ns gs) k (sh ns.length r)=sh ns.length (aG gs k r):=EJ fun y hy=>by rw[oK (hg.ok y (h y hy))]
theorem QX(hg:dJ gs gr){r:List Int}(h:∀y∈r,gr y):fG (aq ns gs) (sh ns.length r)=fG gs r:=aj5 fun k _=>pO fun y hy=>by rw[oK (hg.ok y (h y hy))]
theorem rZ(hg:dJ gs gr){r:List Int}(h:∀y∈r,gr y)(k:Int):bM (aq ns gs) k (sh ns.length r)=sh ns.length (bM gs k r):=EJ fun y hy=>by rw[oK (hg.ok y (h y hy))]
theorem at_mem{r:List Int}(h:r.any (aI gs)=true):gj gs r<r.length∧r.getD (gj gs r) 0∈r∧aI gs (r.getD (gj gs r) 0)=true:=by
 obtain⟨x,hx,hl⟩:=aiA.1 h;have h1:gj gs r<r.length:=List.findIdx_lt_length_of_exists ⟨x,hx,hl⟩;have e:r.getD (gj gs r) 0=r[gj gs r]:=by simp[h1]
 refine⟨h1,by rw[e];exact ah2 h1,?_⟩;rw[e];exact List.findIdx_getElem (w:=h1)
theorem QZ(hg:dJ gs gr){r:List Int}(h:∀y∈r,gr y):gj (aq ns gs) (sh ns.length r)=gj gs r:=aeY fun y hy=>BJ (hg.ok y (h y hy))
theorem ae2(hg:dJ gs gr){r:List Int}(h:∀y∈r,gr y)(hl:r.any (aI gs)=true):bI (aq ns gs) (sh ns.length r)=iM ns.length (bI gs r):=by
 obtain⟨h1,h2,_⟩:=at_mem hl;unfold bI;rw[QZ hg h,<-rY (hg.ok _ (h _ h2))];congr 2;unfold sh;simp[h1]
theorem ae3(d:Int)(r:List Int)(i:Nat)(ins:List Int):fF (sh d r) i (sh d ins)=sh d (fF r i ins):=by
 unfold fF;rw[<-pN];congr 1;simp[sh,ajN,ajC]
end
end Go.Proofs.YtpmniabdmbmafaaGreatDoor

namespace Go.Proofs.YtpmniabdmbmafaaGreatDoor
open Go.Ab
def bP(d:Int):Fm->SQ
 |.F true x r=>([x],sh d r)
 |.F false x r=>(sh d r,[x])
 |.G l r=>(sh d l,sh d r)
def mM(pos:Bool->Int->Prop)(gr:Int->Prop):Fm->Prop
 |.F p x r=>pos p x∧eQ r∧∀y∈r,gr y
 |.G l r=>(eQ l∧∀y∈l,gr y)∧eQ r∧∀y∈r,gr y
section
variable {ns gs:List TN}{pos:Bool->Int->Prop}{gr:Int->Prop}
theorem Q7{k:Int}(h:eA k=true):np k=true:=by
 unfold eA at h;unfold np;simp only[aiL,decide_eq_true_iff]at h ⊢;omega
theorem vt{l:List Int}(h:∀y∈l,gr y):eQ (bw l)∧∀y∈bw l,gr y:=⟨yE l,fun y hy=>h y ((rF l y).1 hy)⟩
theorem tF{r ins:List Int}{i:Nat}(h:∀y∈r,gr y)(hi:∀y∈ins,gr y):eQ (fF r i ins)∧∀y∈fF r i ins,gr y:=vt fun y hy=>by
 simp only[ah1]at hy;obtain(hy|hy)|hy:=hy
 .exact h y (aiJ hy)
 .exact h y (aiX hy)
 .exact hi y hy
theorem Jt(hg:dJ gs gr){r:List Int}(h:∀y∈r,gr y)(s:List UInt8):eQ (dP gs r s)∧∀y∈dP gs r s,gr y:=vt fun y hy=>by
 obtain⟨x,hx,rfl⟩:=ah9.1 hy;obtain⟨hx,hs⟩:=ait.1 hx;obtain⟨q,hq,_,e⟩:=BK ((xb (hg.yY (h x hx))).1 hs);rw[e];exact hg.jl x (h x hx) q hq
theorem xd{r:List Int}(h:∀y∈r,gr y)(k:Int):∀y∈aG gs k r,gr y:=fun y hy=>h y (ait.1 hy).1
theorem Ju(hg:dJ gs gr){r:List Int}(h:∀y∈r,gr y)(hl:r.any (aI gs)=true):gr (bI gs r).a∧gr (bI gs r).b:=by
 obtain⟨_,h2,h3⟩:=at_mem hl;exact hg.QR _ (h _ h2) (Q7 h3)
theorem ae4(hg:dJ gs gr){p:Bool}{r r1:List Int}(h:∀y∈r,gr y)(hl:r.any (aI gs)=true)(ho:tE gs p r r1):eQ r1∧∀y∈r1,gr y:=by
 obtain⟨ha,hb⟩:=Ju hg h hl
 cases ho with
 |both _=>exact tF h (by simp[ha,hb])
 |left _=>exact tF h (by simp[ha])
 |right _=>exact tF h (by simp[hb])
theorem yZ(hg:dJ gs gr){r:List Int}(h:∀y∈r,gr y):(∀y∈(aG gs 6 r).map (fun x=>(nd gs x.toNat).a),gr y)∧∀y∈(aG gs 6 r).map (fun x=>(nd gs x.toNat).b),gr y:=by
 have key:∀x∈aG gs 6 r,gr (nd gs x.toNat).a∧gr (nd gs x.toNat).b:=fun x hx=>by
  obtain⟨h1,h2⟩:=ait.1 hx;have h2:ag gs x=6:=by simpa using h2
  exact hg.QR x (h x h1) (by rw[h2];rfl)
 constructor
 .intro y hy;obtain⟨x,hx,rfl⟩:=ah9.1 hy;exact(key x hx).1
 .intro y hy;obtain⟨x,hx,rfl⟩:=ah9.1 hy;exact(key x hx).2
theorem Q8{x a:Int}:fF [x] 0 [a]=[a]:=by
 unfold fF;simp[rX]
theorem Jv(x:Int)(s:List UInt8)(h:∀q∈(nd ns x.toNat).l,0<=q.2)(hs:s∈(nd ns x.toNat).l.map (·.1)):dP ns [x] s=[gF (nd ns x.toNat) s]:=by
 have h1:gh ns s x=true:=(xb h).2 hs;unfold dP mK;rw[ajY h1];exact rX _
theorem ae5(x:Int)(s:List UInt8)(h:∀q∈(nd ns x.toNat).l,0<=q.2)(hs:s∉(nd ns x.toNat).l.map (·.1)):dP ns [x] s=[]:=by
 have h1:¬gh ns s x=true:=fun g=>hs ((xb h).1 g);unfold dP mK;rw[akT h1];exact QS
theorem ae6(x:Int)(s:List UInt8)(h:∀q∈(nd ns x.toNat).l,0<=q.2):s∈er ns [x]↔s∈(nd ns x.toNat).l.map (·.1):=by
 rw[ae1];constructor
 .exact fun g=>g.1
 .intro g;have h1:gh ns s x=true:=(xb h).2 g;refine⟨g,?_,?_⟩
  .rw[Jv x s h g];exact Nat.one_pos
  .rw[ajY h1];rfl
structure jF(ns:List TN)(pos:Bool->Int->Prop):Prop where
 ko:ED ns pos
 ok:∀p x,pos p x->aC ns x
 yY:∀p x,pos p x->∀q∈(nd ns x.toNat).l,0<=q.2
 v:∀p x,pos p x->ag ns x=11->0<=(nd ns x.toNat).a∧(nd ns x.toNat).a<1000
theorem Jw(hs:jF ns pos)(hg:dJ gs gr){f g:Fm}(hf:mM pos gr f)(hd:jE ns gs f g)(aF:kP ns gs f):mM pos gr g:=by
 cases hd with
 |a h h1 =>
   obtain⟨h2,h3⟩:=hf;exact⟨(hs.ko.pj _ _ h2 (by unfold eR at h1;simp at h1;exact h1.1)).2.1,h3⟩
 |b h h1 =>
   obtain⟨h2,h3⟩:=hf;exact⟨(hs.ko.pj _ _ h2 (by unfold eR at h1;simp at h1;exact h1.1)).2.2,h3⟩
 |r h h1 hl ho=>exact⟨hf.1,ae4 hg hf.2.2 hl ho⟩
 | @hd p x r g h hx hl hk nA =>
   obtain⟨h2,h3,h4⟩:=hf
   cases nA with
   |dp _ h6=>exact⟨(hs.ko.arr _ _ h2 h6).1,vt (yZ hg h4).1⟩
   |dq _ h6=>exact⟨(hs.ko.arr _ _ h2 h6).2,vt (yZ hg h4).2⟩
   |jl ah hw s hd =>
     have hm:s∈(nd ns x.toNat).l.map (·.1):=by
      obtain q|q|q|q|q:=aF
      .rw[h]at q;cases q
      .rw[hx]at q;cases q
      .rw[hl]at q;cases q
      .exact absurd q hk
      .rcases q with q|⟨_,q⟩
       .rw[ah]at q;cases q
       .exact(q hw s hd).1
     exact⟨hs.ko.jl _ _ h2 hw s hm,Jt hg (xd h4 _) s⟩
 | @g l r q hq =>
   obtain⟨⟨h1,h2⟩,h3,h4⟩:=hf;unfold c6 at hq;simp only at hq;split at hq
   .cases hq
   split at hq
   .rename_i hl;obtain⟨ha,hb⟩:=Ju hg h2 hl;split at hq
    .simp at hq;subst hq;exact⟨tF h2 (by simp[ha,hb]),h3,h4⟩
    .simp at hq;obtain rfl|rfl:=hq
     .exact⟨tF h2 (by simp[ha]),h3,h4⟩
     .exact⟨tF h2 (by simp[hb]),h3,h4⟩
   split at hq
   .rename_i hl;obtain⟨ha,hb⟩:=Ju hg h4 hl;split at hq
    .simp at hq;subst hq;exact⟨⟨h1,h2⟩,tF h4 (by simp[ha,hb])⟩
    .simp at hq;obtain rfl|rfl:=hq
     .exact⟨⟨h1,h2⟩,tF h4 (by simp[ha])⟩
     .exact⟨⟨h1,h2⟩,tF h4 (by simp[hb])⟩
   split at hq
   .cases hq
   split at hq
   .cases hq
   split at hq
   .cases hq
   unfold eY at hq;split at hq
   .cases hq
   split at hq
   .rename_i h6;rw[h6]at hq;simp at hq;obtain rfl|rfl:=hq
    .exact⟨vt (yZ hg h4).1,vt (yZ hg h2).1⟩
    .exact⟨vt (yZ hg h2).2,vt (yZ hg h4).2⟩
   .split at hq
    .obtain⟨s,_,rfl⟩:=ah9.1 (show q∈List.map _ _ from hq);exact⟨Jt hg (xd h2 _) s,Jt hg (xd h4 _) s⟩
    .cases hq
theorem Q9(hs:jF ns pos)(hg:dJ gs gr){p:Bool}{x:Int}{r:List Int}(hx:pos p x)(hr:∀y∈r,gr y){k:Int}(hk:ag ns x=k)(aJ:aG gs k r≠[]∨p=true∧k=8)(ah:eH gs p r k=.go)(L R:List Int)(nJ:(L,R)=bP ns.length (.F p x (aG gs k r))) :
  ((eY (aq ns gs) k L R).2=true↔qL gs p (nd ns x.toNat) r)∧((eY (aq ns gs) k L R).2=true->∀q,q∈(eY (aq ns gs) k L R).1.getD []↔∃g,pM gs p (nd ns x.toNat) r g∧q=bP ns.length g):=by
 have aF:=hs.ok p x hx;have ho:∀y∈aG gs k r,gr y:=xd hr k;have gI:(nd ns x.toNat).k=k:=hk;have hX:∀q∈(nd (aq ns gs) x.toNat).l,0<=q.2:=by rw[lF aF];exact hs.yY p x hx
 have c0:(!decide (k=8)&&decide (R.length=0))=false:=by
  cases p with
  |true =>
    obtain⟨rfl,rfl⟩:=ajr nJ;obtain h|⟨_,h⟩:=aJ
    .simp[sh,h]
    .simp[h]
  |false =>
    obtain⟨rfl,rfl⟩:=ajr nJ;simp
 unfold eY;rw[c0];simp only[aip,if_false];by_cases h6:k=6
 .rw[if_pos h6];subst h6
  have xe:(sh ns.length (aG gs 6 r)).map (fun x=>(nd (aq ns gs) x.toNat).a)=sh ns.length ((aG gs 6 r).map fun x=>(nd gs x.toNat).a):=by
   unfold sh;rw[aiV,aiV];refine aiQ fun y hy=>?_;simp only[Function.comp_def];rw[rY (hg.ok y (ho y hy))];have:ag gs y=6:=by simpa using(ait.1 hy).2
   unfold iM;rw[show(nd gs y.toNat).k=6 from this];rfl
  have y0:(sh ns.length (aG gs 6 r)).map (fun x=>(nd (aq ns gs) x.toNat).b)=sh ns.length ((aG gs 6 r).map fun x=>(nd gs x.toNat).b):=by
   unfold sh;rw[aiV,aiV];refine aiQ fun y hy=>?_;simp only[Function.comp_def];rw[rY (hg.ok y (ho y hy))];have:ag gs y=6:=by simpa using(ait.1 hy).2
   unfold iM;rw[show(nd gs y.toNat).k=6 from this];rfl
  refine⟨⟨fun _=>.inr ⟨by rw[gI];exact ah,fun g=>by rw[gI]at g;rcases g with g|g<;>cases g⟩,fun _=>rfl⟩,fun _ q=>?_⟩;constructor
  .intro hq
   cases p with
   |true =>
     obtain⟨rfl,rfl⟩:=ajr nJ;simp only[Option.getD_some,ah6,aiw,or_false,aid,aiO,xe,y0,pN,rX,lF aF]at hq;obtain rfl|rfl:=hq
     .exact⟨_,.dp (by rw[gI];exact ah) gI,rfl⟩
     .exact⟨_,.dq (by rw[gI];exact ah) gI,rfl⟩
   |false =>
     obtain⟨rfl,rfl⟩:=ajr nJ;simp only[Option.getD_some,ah6,aiw,or_false,aid,aiO,xe,y0,pN,rX,lF aF]at hq;obtain rfl|rfl:=hq
     .exact⟨_,.dp (by rw[gI];exact ah) gI,rfl⟩
     .exact⟨_,.dq (by rw[gI];exact ah) gI,rfl⟩
  .rintro⟨g,iA,rfl⟩
   cases iA with
   |jl _ hw=>rw[gI]at hw;rcases hw with g|g<;>cases g
   |dp _ _ =>
     cases p with
     |true =>
       obtain⟨rfl,rfl⟩:=ajr nJ;simp only[Option.getD_some,ah6,aiw,or_false,aid,aiO,xe,y0,pN,rX,lF aF];exact .inl rfl
     |false =>
       obtain⟨rfl,rfl⟩:=ajr nJ;simp only[Option.getD_some,ah6,aiw,or_false,aid,aiO,xe,y0,pN,rX,lF aF];exact .inl rfl
   |dq _ _ =>
     cases p with
     |true =>
       obtain⟨rfl,rfl⟩:=ajr nJ;simp only[Option.getD_some,ah6,aiw,or_false,aid,aiO,xe,y0,pN,rX,lF aF];exact .inr rfl
     |false =>
       obtain⟨rfl,rfl⟩:=ajr nJ;simp only[Option.getD_some,ah6,aiw,or_false,aid,aiO,xe,y0,pN,rX,lF aF];exact .inr rfl
 rw[if_neg h6]
 have hb:∀s,fH (aq ns gs) L R s=true↔s∈(nd ns x.toNat).l.map (·.1)∧dP gs (aG gs k r) s≠[]:=fun s=>by
  have e1:0<(dP (aq ns gs) [x] s).length↔s∈(nd ns x.toNat).l.map (·.1):=by
   by_cases h:s∈(nd ns x.toNat).l.map (·.1)
   .rw[Jv x s hX (by rw[lF aF];exact h)];exact⟨fun _=>h,fun _=>Nat.one_pos⟩
   .rw[ae5 x s hX (by rw[lF aF];exact h)];exact⟨fun g=>absurd g (by simp),fun g=>absurd g h⟩
  have e2:0<(dP (aq ns gs) (sh ns.length (aG gs k r)) s).length↔dP gs (aG gs k r) s≠[]:=by
   rw[xc hg ho,<-ajO];simp[sh]
  unfold fH;rw[aia,decide_eq_true_iff,decide_eq_true_iff]
  cases p with
  |true =>
    obtain⟨rfl,rfl⟩:=ajr nJ;rw[e1,e2]
  |false =>
    obtain⟨rfl,rfl⟩:=ajr nJ;rw[e1,e2,and_comm]
 have hh:∀s,s∈(nd ns x.toNat).l.map (·.1)->nG (aq ns gs) L R s=bP ns.length (.F p (gF (nd ns x.toNat) s) (dP gs (aG gs k r) s)):=fun s h=>by
  have e1:dP (aq ns gs) [x] s=[gF (nd ns x.toNat) s]:=by
   rw[Jv x s hX (by rw[lF aF];exact h),lF aF]
  have e2:=xc (ns:=ns) hg ho s;unfold nG
  cases p with
  |true =>
    obtain⟨rfl,rfl⟩:=ajr nJ;rw[e1,e2];rfl
  |false =>
    obtain⟨rfl,rfl⟩:=ajr nJ;rw[e1,e2];rfl
 by_cases hw:pL k
 .have ha:∀s,s∈kO (aq ns gs) k L R↔jD p (nd ns x.toNat) gs r s:=fun s=>by
   unfold kO jD;rw[gI];have n1:s∈er (aq ns gs) [x]↔s∈(nd ns x.toNat).l.map (·.1):=by rw[ae6 x s hX,lF aF]
   cases p with
   |true =>
     obtain⟨rfl,rfl⟩:=ajr nJ;obtain rfl|rfl:=hw
     .have aJ:aG gs 7 r≠[]:=by
       obtain h|⟨_,h⟩:=aJ
       .exact h
       .cases h
      simp only[if_true,decide_true,BL hg ho aJ]
     .simp only[show((8:Int)=7)=False from by simp,if_false,decide_false,if_true,aip];exact n1
   |false =>
     obtain⟨rfl,rfl⟩:=ajr nJ;obtain rfl|rfl:=hw
     .simp only[if_true,decide_true,Bool.true_eq_false,if_false];exact n1
     .have aJ:aG gs 8 r≠[]:=by
       obtain h|⟨h,_⟩:=aJ
       .exact h
       .cases h
      simp only[show((8:Int)=7)=False from by simp,if_false,decide_false,if_true,BL hg ho aJ]
  by_cases hall:(kO (aq ns gs) k L R).all (fH (aq ns gs) L R)=true
  .rw[if_pos hall];have Jy:∀s,jD p (nd ns x.toNat) gs r s->s∈(nd ns x.toNat).l.map (·.1)∧dP gs (aG gs k r) s≠[]:=fun s hd=>(hb s).1 (aio.1 hall s ((ha s).2 hd));refine⟨⟨fun _=>.inr ⟨by rw[gI];exact ah,fun _ s hd=>by rw[gI];exact Jy s hd⟩,fun _=>rfl⟩,fun _ q=>?_⟩;constructor
   .intro hq;obtain⟨s,bc,rfl⟩:=ah9.1 (show q∈List.map _ _ from hq);have hd:=(ha s).1 bc;refine⟨_,.jl (by rw[gI];exact ah) (by rw[gI];exact hw) s hd,?_⟩;rw[hh s (Jy s hd).1,gI]
   .rintro⟨g,iA,rfl⟩
    cases iA with
    |dp _ h=>rw[gI]at h;exact absurd h h6
    |dq _ h=>rw[gI]at h;exact absurd h h6
    |jl _ _ s hd =>
      rw[gI,<-hh s (Jy s hd).1];exact ah9.2 ⟨s,(ha s).2 hd,rfl⟩
  .rw[if_neg hall];refine⟨⟨fun h=>(by cases h),fun h=>absurd (aio.2 fun s bc=>(hb s).2 ?_) hall⟩,fun h=>(by cases h)⟩;obtain h|⟨_,h⟩:=h
   .rw[gI,ah]at h;cases h
   .rw[gI]at h;exact h hw s ((ha s).1 bc)
 .have sw:k≠7∧k≠8:=⟨fun h=>hw (.inl h),fun h=>hw (.inr h)⟩
  have e:kO (aq ns gs) k L R=[]:=by
   unfold kO;rw[if_neg sw.1,if_neg sw.2]
  rw[e];refine⟨⟨fun _=>.inr ⟨by rw[gI];exact ah,fun g=>absurd (gI▸g) hw⟩,fun _=>rfl⟩,fun _ q=>⟨fun h=>(by cases h),?_⟩⟩;rintro⟨g,iA,_⟩;exact absurd iA (Js (by rw[gI];exact h6) (by rw[gI];exact hw))
end
end Go.Proofs.YtpmniabdmbmafaaGreatDoor

