/-
  What becomes of a sequent: the document's one. (with the parts that follow it)
-/
import Derived.Test.YtpmniabdmbmafaaGreatDoorPTQ
import Derived.Test.YtpmniabdmbmafaaGreatDoorPTP
import Derived.Test.YtpmniabdmbmafaaGreatDoorPTO
import Derived.Test.YtpmniabdmbmafaaGreatDoorPTN
import Derived.Test.YtpmniabdmbmafaaGreatDoorPTM
import Derived.Test.YtpmniabdmbmafaaGreatDoorPTH
import Derived.Test.YtpmniabdmbmafaaGreatDoorPTK
import Derived.Test.YtpmniabdmbmafaaGreatDoorPTL
import Derived.Test.YtpmniabdmbmafaaGreatDoorPTJ
set_option linter.all false
set_option maxHeartbeats 16000000
namespace Go.Proofs.YtpmniabdmbmafaaGreatDoor
open Go.Ab Tryz
theorem vb{U:List Nat}{h h' x x':Nat}{s:St}{fr:List (Nat×AV)}{u:List Nat}{ns:List TN}{root fx:Int}{w:SW}(hn:u7 h [x])(iH:u7 h' [x'])(hs:∀q∈wO h [x] ns root fx w,s.hp q.1=some q.2)(hf:oG (dG [x'] [x] h' fun j=>[h,j]) u s fr)
  (hu:([0,2,4,5,h'].all fun y=>u.contains y)=true) (ha:b9 u [x']=true) (hU:(U.all fun y=>u.contains y)=true) (lj:(U.contains h'||U.contains x')=false):cw U (dG [x'] [x] h' fun j=>[h,j]) s fr (wO h' [x'] ns root fx w) u:=by
 have t0:∀y,y=0∨y=2∨y=4∨y=5->dG [x'] [x] h' (fun j=>[h,j]) [y]=[y]:=fun y hy=>by
  unfold dG;rw[if_neg];intro e;rw[al3]at e;obtain⟨z,hz,h0⟩:=iH.a;rw[al3]at hz;omega
 have tx:dG [x'] [x] h' (fun j=>[h,j]) [x']=[x]:=by unfold dG;rw[if_pos rfl]
 have th:∀j,dG [x'] [x] h' (fun j=>[h,j]) [h',j]=[h,j]:=fun j=>by simp[dG]
 refine D9 (ρ:=dG [x] [x'] h fun j=>[h',j]) iH hf (fun q hq=>hs _ (AE (t0 0 (by simp)) (t0 2 (by simp)) (t0 4 (by simp)) (t0 5 (by simp)) tx th hq)) (fun q hq=>?_) hu ha hU fun q hq hm=>?_
 .have r0:∀y,y=0∨y=2∨y=4∨y=5->dG [x] [x'] h (fun j=>[h',j]) [y]=[y]:=fun y hy=>by
   unfold dG;rw[if_neg];intro e;rw[al3]at e;obtain⟨z,hz,h0⟩:=hn.a;rw[al3]at hz;omega
  rcases l9 (o:=q.2) hq with e|e|e|e|e|⟨j,e⟩<;>rw[e]
  .rw[t0 0 (by simp),r0 0 (by simp)]
  .rw[tx];simp[dG]
  .rw[t0 2 (by simp),r0 2 (by simp)]
  .rw[t0 4 (by simp),r0 4 (by simp)]
  .rw[t0 5 (by simp),r0 5 (by simp)]
  .rw[th];simp[dG]
 .rw[al0]at lj;rcases l9 (o:=q.2) hq with e|e|e|e|e|⟨j,e⟩<;>rw[e]at hm ⊢
  .exact t0 0 (by simp)
  .have:U.contains x'=true:=hm;rw[lj.2]at this;cases this
  .exact t0 2 (by simp)
  .exact t0 4 (by simp)
  .exact t0 5 (by simp)
  .have:U.contains h'=true:=hm;rw[lj.1]at this;cases this
theorem Ww{fx:Int}{ns:List TN}{l:List Int}(h:0<=du fx ns l):du fx ns l<fx∧lZ fx ns l=true:=by
 unfold du at h ⊢;by_cases h0:l.length=0
 .rw[if_pos h0]at h;omega
 rw[if_neg h0]at h ⊢;by_cases ha:(l.all fun x=>kT fx ns x&&decide ((nd ns x.toNat).a=(nd ns (l.getD 0 0).toNat).a))=true
 .rw[if_pos ha]
  cases l with
  |nil=>exact absurd rfl h0
  |cons x t =>
    have h1:=alr.1 ha x alb;rw[ak7]at h1;refine⟨?_,alG.2 ⟨x,alb,h1.1⟩⟩;have h2:=h1.1;unfold kT at h2;rw[ak7,decide_eq_true_iff,decide_eq_true_iff]at h2;exact h2.2
 .rw[if_neg ha]at h;omega
theorem xb{L:List (List (List Int))}{i:Nat}(h:i<L.length):(L.map ew).getD i .aY=ew L[i]:=by simp[h]
theorem HJ(L:List (List Int)):ew L=.ao∨ew L=.sl none (L.map aL):=by
 unfold ew;split
 .exact .inl rfl
 .exact .inr rfl
theorem Ed(L:List (List Int))(s:List Int):ew (mY L s)=.sl none ((mY L s).map aL):=by rw[ew,if_neg (V3 L s)]
theorem HK{L:List (List (List Int))}{v:Int}{s:List Int}(h:v.toNat<L.length):(L.map ew).set v.toNat (.sl none ((mY L[v.toNat] s).map aL))=(iO L v s).map ew:=by
 unfold iO;rw[amr,<-Ed];simp[h]
theorem Wx{U:List Nat}{jY fr:List (Nat×AV)}{u0 u:List Nat}{hp ae:List (Name×Ob)}(he:ae=hp)(hf:oG id u (mk jY ae u0) fr)(hn:(hp.map (·.1)).Nodup)(hi:∀q∈hp,q.2.bn u=true∧b9 u q.1=true)(hU:(U.all fun x=>u.contains x)=true):cw U id (mk jY ae u0) fr hp u:=by
 subst he;exact⟨hf,uK fun q hq=>⟨by rw[Ob.mE id fun _=>rfl];exact uf hn hq,hi q hq⟩,sw (ρ:=id) hn fun _ _=>rfl,hU,tv fun _ _ _=>rfl⟩
set_option maxRecDepth 100000 in
theorem ajJ{G}(ns:List TN)(root fx:Int)(w:SW)(q:SQ)(hn:ns.length<=4000)(hq:D7 ns q)(hf:uY ns)(h4:j6 q)(km:∀q'∈w.al,j6 q')(hb:u9 w)(hbe:(w.be.length:Int)=fx∧(w.ab.length:Int)=fx)(hfx:fx<=1000)(hlen:fZ fx ns q=true->w.al.length+(jB ns q).1.length<=1000000)
  (hL:fZ fx ns q=true->∀q'∈(jB ns q).1,j6 q') (Wy:∀L∈w.be,L.length<=1000000∧∀s∈L,s.length<=4000) (DB:∀L∈w.ab,L.length<=1000000∧∀s∈L,s.length<=4000) :
  bZ prog G 48 [.bx [0] 0,.d (fQ q)] (wO 202 [1] ns root fx w) [0,1,2,4,5,202] (fun r ae=>r=.az []∧ae=wO 302 [6] ns root fx (oq fx ns w q)):=by
 generalize hW:oq fx ns w q=w';have c1:=ajI (G:=G) ns root q hn hq;have MR:=ajk (G:=G) ns root q hn hq hf;have c2:=VC (G:=G) ns root q.1 1 (by omega) (by have:=hq.l1;omega) hq.k1;have c3:=VC (G:=G) ns root q.2 2 (by omega) (by have:=hq.l2;omega) hq.k2;have gH:fQ q=.agg [.sl none (q.1.map i64),.sl none (q.2.map i64)]:=rfl;rw[gH]at c1 MR ⊢;unfold bU at c1 c2 c3 MR;unfold aL at c2 c3;unfold wO wP gC;simp only[List.cons_append,List.nil_append];refine jc func48 rfl (by decide +kernel) (by simp[ntmps48]) (aS fun E=>?_);simp only[go_sem];refine eU E [3] (.agg [.sl none (q.1.map i64),.sl none (q.2.map i64)]) (by simp only[go_sem]) rfl ?_;simp only[go_sem]
 rw[alI (l:=cm 202 (iz w.bk) []) (g:=id) (fun x hx=>by
  obtain⟨j,zs,_,rfl⟩:=jh.1 hx
  rfl),List.map_id]
 refine bz mixed E fun X=>?_;simp only[go_sem];refine fO X [0] 0 none [.d (.sl (some 4) (ns.map aK)),.d (i64 root),.d (i64 fx),.vw [1] 0 w.al.length,.va [2] 0 997,.vw [4] 0 w.be.length,.vw [5] 0 w.ab.length,.d (.bool w.mx),.d (.bool w.fl)] (by simp only[go_sem]) rfl rfl ?_;simp only[go_sem];refine dA X c1 rfl rfl (by simp) ?_;simp only[go_sem];(try refine⟨by decide +kernel,?_⟩);refine ck E ?_ ?_<;>intro he<;>simp only[go_sem];have he:qu ns q=false:=by simpa using he
 obtain⟨l,hl⟩:∃l,l=bV ns 1 q.1:=⟨_,rfl⟩
 obtain⟨r,hr⟩:∃r,r=bV ns 2 q.2:=⟨_,rfl⟩
 have pZ:l.length<=4000:=by have:=hq.l1;have:=al4 (fun x=>!decide (ah ns x=1)) q.1;rw[hl];unfold bV;omega
 have ux:r.length<=4000:=by have:=hq.l2;have:=al4 (fun x=>!decide (ah ns x=2)) q.2;rw[hr];unfold bV;omega
 have qL:∀x∈l,bI ns x:=fun x hx=>hq.k1 x (by rw[hl]at hx;exact(aly.1 hx).1);have Wz:∀x∈r,bI ns x:=fun x hx=>hq.k2 x (by rw[hr]at hx;exact(aly.1 hx).1);have d1:=VZ (G:=G) ns root fx l hn pZ qL;have d2:=VZ (G:=G) ns root fx r hn ux Wz;have d3:=VY (G:=G) ns root fx l hn pZ qL;have d4:=VY (G:=G) ns root fx r hn ux Wz;unfold aL at d1 d2 d3 d4;rw[<-hl]at c2;rw[<-hr]at c3;refine bz mixed E fun X=>?_;simp only[go_sem];refine fO X [0] 0 none [.d (.sl (some 4) (ns.map aK)),.d (i64 root),.d (i64 fx),.vw [1] 0 w.al.length,.va [2] 0 997,.vw [4] 0 w.be.length,.vw [5] 0 w.ab.length,.d (.bool w.mx),.d (.bool w.fl)] (by simp only[go_sem]) rfl rfl ?_;simp only[go_sem];refine dA X c2 rfl rfl (by simp) ?_;simp only[go_sem];refine fO X [0] 0 none [.d (.sl (some 4) (ns.map aK)),.d (i64 root),.d (i64 fx),.vw [1] 0 w.al.length,.va [2] 0 997,.vw [4] 0 w.be.length,.vw [5] 0 w.ab.length,.d (.bool w.mx),.d (.bool w.fl)] (by simp only[go_sem]) rfl rfl ?_;simp only[go_sem];refine dA X c3 rfl rfl (by simp) ?_;simp only[go_sem];(try refine⟨by decide +kernel,?_⟩);refine Tr E (τ:=id) (s2:=mk [(0,.bx [0] 0),(3,.d (.ptr (.agg [.sl none (q.1.map i64),.sl none (q.2.map i64)]))),(4,.d (.sl none (l.map i64))),(5,.d (.sl none (r.map i64))),(32,.bx [0] 0),(33,.d (.sl none (l.map i64)))] (wO 202 [1] ns root fx w) [0,1,2,4,5,202]) (cw.le (Wx (hp:=wO 202 [1] ns root fx w) rfl ?_ (jM ng) (fun x hx=>ow rfl rfl hx) rfl)) ?_
 .simp only[go_sem]
 unfold wO wP gC;simp only[List.cons_append,List.nil_append];refine lV E [.U [0] [.sl (some 4) (ns.map aK),i64 root,i64 fx,.unk,.unk,.unk,.unk,.unk,.unk],.B [0] (wD ns root fx)] [.ptr (wD ns root fx),.sl none ((l).map i64)] (d1) ?_ ?_ rfl ?_ ⟨by simp only[go_sem],by first|(rw[aT];decide)|(simp only[go_sem]<;>(try rw[aT])<;>decide)⟩ ?_
 .rintro r ae ⟨rfl,_,rfl⟩;exact⟨rfl,rfl⟩
 .unfold wD;simp only[go_sem];refine⟨_,rfl,?_⟩;simp only[go_sem];exact⟨.inr trivial,.inr trivial⟩
 .unfold wD;simp only[go_sem]
 rintro _ _ ⟨rfl,_,rfl⟩;simp only[go_sem];refine lV E [.U [0] [.sl (some 4) (ns.map aK),i64 root,i64 fx,.unk,.unk,.unk,.unk,.unk,.unk],.B [0] (wD ns root fx)] [.ptr (wD ns root fx),.sl none ((r).map i64)] (d2) ?_ ?_ rfl ?_ ⟨by simp only[go_sem],by first|(rw[aT];decide)|(simp only[go_sem]<;>(try rw[aT])<;>decide)⟩ ?_
 .rintro r ae ⟨rfl,_,rfl⟩;exact⟨rfl,rfl⟩
 .unfold wD;simp only[go_sem];refine⟨_,rfl,?_⟩;simp only[go_sem];exact⟨.inr trivial,.inr trivial⟩
 .unfold wD;simp only[go_sem]
 rintro _ _ ⟨rfl,_,rfl⟩;simp only[go_sem];have WA:=fun h=>Ww (fx:=fx) (ns:=ns) (l:=l) h;have WB:=fun h=>Ww (fx:=fx) (ns:=ns) (l:=r) h;have ea:aQ fx ns q=du fx ns l:=by rw[hl];rfl
 have eb:bQ fx ns q=du fx ns r:=by rw[hr];rfl
 have ve:tR fx ns q=lZ fx ns l:=by rw[hl];rfl
 have vf:tS fx ns q=lZ fx ns r:=by rw[hr];rfl
 have mkA:0<=du fx ns l->(du fx ns l).toNat<w.ab.length:=fun ga=>by have:=(WA ga).1;omega
 have WC:0<=du fx ns r->(du fx ns r).toNat<w.be.length:=fun gb=>by have:=(WB gb).1;omega
 by_cases ga:0<=du fx ns l
 .have AH:=mkA ga;have uZ:w.ab.getD (du fx ns l).toNat []=w.ab[(du fx ns l).toNat]:=by simp[AH]
  have ka:=DB _ (ak2 AH);have ca:=ME (G:=G) w.ab[(du fx ns l).toNat] r ka.1 (by omega) fun x hx=>by have:=ka.2 x hx;omega
  have gS:=(WA ga).2;rw[gS]at d3;by_cases gb:0<=du fx ns r
  .have jo:=WC gb;have xc:w.be.getD (du fx ns r).toNat []=w.be[(du fx ns r).toNat]:=by simp[jo]
   have kb:=Wy _ (ak2 jo);have cb:=ME (G:=G) w.be[(du fx ns r).toNat] l kb.1 (by omega) fun x hx=>by have:=kb.2 x hx;omega
   refine bH E (fun _=>?_) (fun h=>absurd ga h)<;>simp only[go_sem];refine bH E (fun _=>?_) (fun h=>absurd gb h)<;>simp only[go_sem];rcases HJ w.ab[(du fx ns l).toNat]with hz|hz
   all_goals
    rw[hz,Ed]at ca;refine bz mixed E fun X=>?_;simp only[go_sem];refine fO X [0] 0 none [.d (.sl (some 4) (ns.map aK)),.d (i64 root),.d (i64 fx),.vw [1] 0 w.al.length,.va [2] 0 997,.vw [4] 0 w.be.length,.vw [5] 0 w.ab.length,.d (.bool w.mx),.d (.bool w.fl)] (by simp only[go_sem]) rfl rfl ?_;simp only[go_sem];refine fO X [0] 0 none [.d (.sl (some 4) (ns.map aK)),.d (i64 root),.d (i64 fx),.vw [1] 0 w.al.length,.va [2] 0 997,.vw [4] 0 w.be.length,.vw [5] 0 w.ab.length,.d (.bool w.mx),.d (.bool w.fl)] (by simp only[go_sem]) rfl rfl ?_;simp only[go_sem];refine⟨by omega,?_⟩;rw[xb AH,hz];simp only[go_sem];refine dA X ca rfl rfl (by simp) ?_;simp only[go_sem];refine⟨by omega,?_⟩;(try refine⟨by decide +kernel,?_⟩);refine bH E (fun _=>?_) (fun h=>absurd gb h)<;>simp only[go_sem];refine bH E (fun _=>?_) (fun h=>absurd ga h)<;>simp only[go_sem];rcases HJ w.be[(du fx ns r).toNat]with nY|nY
    all_goals
     rw[nY,Ed]at cb;refine bz mixed E fun X=>?_;simp only[go_sem];refine fO X [0] 0 none [.d (.sl (some 4) (ns.map aK)),.d (i64 root),.d (i64 fx),.vw [1] 0 w.al.length,.va [2] 0 997,.vw [4] 0 w.be.length,.vw [5] 0 w.ab.length,.d (.bool w.mx),.d (.bool w.fl)] (by simp only[go_sem]) rfl rfl ?_;simp only[go_sem];refine fO X [0] 0 none [.d (.sl (some 4) (ns.map aK)),.d (i64 root),.d (i64 fx),.vw [1] 0 w.al.length,.va [2] 0 997,.vw [4] 0 w.be.length,.vw [5] 0 w.ab.length,.d (.bool w.mx),.d (.bool w.fl)] (by simp only[go_sem]) rfl rfl ?_;simp only[go_sem];refine⟨by omega,?_⟩;rw[xb jo,nY];simp only[go_sem];refine dA X cb rfl rfl (by simp) ?_;simp only[go_sem];refine⟨by omega,?_⟩;(try refine⟨by decide +kernel,?_⟩);refine bH E (fun _=>?_) (fun h=>absurd ga h)<;>simp only[go_sem];refine bH E (fun _=>?_) (fun h=>absurd gb h)<;>simp only[go_sem]
     have lD:w'={ w with be:=iO w.be (du fx ns r) l,ab:=iO w.ab (du fx ns l) r }:=by
      rw[<-hW,oq];simp[fZ,kU,hY,kV,iu,iw,ea,eb,ve,vf,he,ga,gb,<-hl,<-hr]
     generalize hS:mk _ _ _=S;have L:=vb (U:=[0,1,2,4,5,202]) (h:=202) (x:=1) (h':=302) (x':=6) (s:=S) (fr:=[(0,.az [])]) (u:=[0,1,2,4,5,202,302,6]) (ns:=ns) (root:=root) (fx:=fx) (w:={ w with be:=iO w.be (du fx ns r) l,ab:=iO w.ab (du fx ns l) r }) ng sF (fun x hx=>?_) ?_ rfl rfl rfl rfl
     .rw[lD];exact⟨.az [],_,_,_,⟨rfl,rfl⟩,⟨rfl,rfl⟩,L.2.1,L.2.2.1,rfl,L.2.2.2.2⟩
     .rw[<-hS];rcases ak1.1 hx with hx|hx
      .unfold wP gC at hx;simp only[alc,alv,or_false]at hx;obtain rfl|rfl|rfl|rfl|rfl:=hx
       all_goals
        simp only[go_sem]
        first|rw[HK AH]|rw[HK jo]|(simp only[iO,alX];done)|skip
      .obtain⟨j,zs,h1,rfl⟩:=jh.1 hx;simp only[go_sem];exact fH (fr:=[]) (u:=[]) h1
     .rw[<-hS];exact⟨⟨rfl,rfl⟩,trivial⟩
  .cases cX:lZ fx ns r with
   |false =>
     rw[cX]at d4;refine bH E (fun _=>?_) (fun h=>absurd ga h)<;>simp only[go_sem];refine bH E (fun h=>absurd h gb) (fun _=>?_)<;>simp only[go_sem];refine lV E [.U [0] [.sl (some 4) (ns.map aK),i64 root,i64 fx,.unk,.unk,.unk,.unk,.unk,.unk],.B [0] (wD ns root fx)] [.ptr (wD ns root fx),.sl none ((r).map i64)] (d4) ?_ ?_ rfl ?_ ⟨by simp only[go_sem],by first|(rw[aT];decide)|(simp only[go_sem]<;>(try rw[aT])<;>decide)⟩ ?_
     .rintro r ae ⟨rfl,_,rfl⟩;exact⟨rfl,rfl⟩
     .unfold wD;simp only[go_sem];refine⟨_,rfl,?_⟩;simp only[go_sem];exact⟨.inr trivial,.inr trivial⟩
     .unfold wD;simp only[go_sem]
     rintro _ _ ⟨rfl,_,rfl⟩;simp only[go_sem];rcases HJ w.ab[(du fx ns l).toNat]with hz|hz
     all_goals
      rw[hz,Ed]at ca;refine bz mixed E fun X=>?_;simp only[go_sem];refine fO X [0] 0 none [.d (.sl (some 4) (ns.map aK)),.d (i64 root),.d (i64 fx),.vw [1] 0 w.al.length,.va [2] 0 997,.vw [4] 0 w.be.length,.vw [5] 0 w.ab.length,.d (.bool w.mx),.d (.bool w.fl)] (by simp only[go_sem]) rfl rfl ?_;simp only[go_sem];refine fO X [0] 0 none [.d (.sl (some 4) (ns.map aK)),.d (i64 root),.d (i64 fx),.vw [1] 0 w.al.length,.va [2] 0 997,.vw [4] 0 w.be.length,.vw [5] 0 w.ab.length,.d (.bool w.mx),.d (.bool w.fl)] (by simp only[go_sem]) rfl rfl ?_;simp only[go_sem];refine⟨by omega,?_⟩;rw[xb AH,hz];simp only[go_sem];refine dA X ca rfl rfl (by simp) ?_;simp only[go_sem];refine⟨by omega,?_⟩;(try refine⟨by decide +kernel,?_⟩);refine bH E (fun h=>absurd h gb) (fun _=>?_)<;>simp only[go_sem];refine bH E (fun _=>?_) (fun h=>absurd ga h)<;>simp only[go_sem];refine bH E (fun h=>absurd h gb) (fun _=>?_)<;>simp only[go_sem];refine lV E [.U [0] [.sl (some 4) (ns.map aK),i64 root,i64 fx,.unk,.unk,.unk,.unk,.unk,.unk],.B [0] (wD ns root fx)] [.ptr (wD ns root fx),.sl none ((r).map i64)] (d4) ?_ ?_ rfl ?_ ⟨by simp only[go_sem],by first|(rw[aT];decide)|(simp only[go_sem]<;>(try rw[aT])<;>decide)⟩ ?_
      .rintro r ae ⟨rfl,_,rfl⟩;exact⟨rfl,rfl⟩
      .unfold wD;simp only[go_sem];refine⟨_,rfl,?_⟩;simp only[go_sem];exact⟨.inr trivial,.inr trivial⟩
      .unfold wD;simp only[go_sem]
      rintro _ _ ⟨rfl,_,rfl⟩;simp only[go_sem]
      have lD:w'={ w with ab:=iO w.ab (du fx ns l) r }:=by
       rw[<-hW,oq];simp[fZ,kU,hY,kV,iu,iw,ea,eb,ve,vf,he,ga,gb,cX,<-hl,<-hr]
      generalize hS:mk _ _ _=S;have L:=vb (U:=[0,1,2,4,5,202]) (h:=202) (x:=1) (h':=302) (x':=6) (s:=S) (fr:=[(0,.az [])]) (u:=[0,1,2,4,5,202,302,6]) (ns:=ns) (root:=root) (fx:=fx) (w:={ w with ab:=iO w.ab (du fx ns l) r }) ng sF (fun x hx=>?_) ?_ rfl rfl rfl rfl
      .rw[lD];exact⟨.az [],_,_,_,⟨rfl,rfl⟩,⟨rfl,rfl⟩,L.2.1,L.2.2.1,rfl,L.2.2.2.2⟩
      .rw[<-hS];rcases ak1.1 hx with hx|hx
       .unfold wP gC at hx;simp only[alc,alv,or_false]at hx;obtain rfl|rfl|rfl|rfl|rfl:=hx
        all_goals
         simp only[go_sem]
         first|rw[HK AH]|(simp only[iO,alX];done)|skip
       .obtain⟨j,zs,h1,rfl⟩:=jh.1 hx;simp only[go_sem];exact fH (fr:=[]) (u:=[]) h1
      .rw[<-hS];exact⟨⟨rfl,rfl⟩,trivial⟩
   |true =>
     rw[cX]at d4;refine bH E (fun _=>?_) (fun h=>absurd ga h)<;>simp only[go_sem];refine bH E (fun h=>absurd h gb) (fun _=>?_)<;>simp only[go_sem];refine lV E [.U [0] [.sl (some 4) (ns.map aK),i64 root,i64 fx,.unk,.unk,.unk,.unk,.unk,.unk],.B [0] (wD ns root fx)] [.ptr (wD ns root fx),.sl none ((r).map i64)] (d4) ?_ ?_ rfl ?_ ⟨by simp only[go_sem],by first|(rw[aT];decide)|(simp only[go_sem]<;>(try rw[aT])<;>decide)⟩ ?_
     .rintro r ae ⟨rfl,_,rfl⟩;exact⟨rfl,rfl⟩
     .unfold wD;simp only[go_sem];refine⟨_,rfl,?_⟩;simp only[go_sem];exact⟨.inr trivial,.inr trivial⟩
     .unfold wD;simp only[go_sem]
     rintro _ _ ⟨rfl,_,rfl⟩;simp only[go_sem];refine bH E (fun h=>absurd h gb) (fun _=>?_)<;>simp only[go_sem];refine bH E (fun _=>?_) (fun h=>absurd ga h)<;>simp only[go_sem];refine bH E (fun h=>absurd h gb) (fun _=>?_)<;>simp only[go_sem];refine lV E [.U [0] [.sl (some 4) (ns.map aK),i64 root,i64 fx,.unk,.unk,.unk,.unk,.unk,.unk],.B [0] (wD ns root fx)] [.ptr (wD ns root fx),.sl none ((r).map i64)] (d4) ?_ ?_ rfl ?_ ⟨by simp only[go_sem],by first|(rw[aT];decide)|(simp only[go_sem]<;>(try rw[aT])<;>decide)⟩ ?_
     .rintro r ae ⟨rfl,_,rfl⟩;exact⟨rfl,rfl⟩
     .unfold wD;simp only[go_sem];refine⟨_,rfl,?_⟩;simp only[go_sem];exact⟨.inr trivial,.inr trivial⟩
     .unfold wD;simp only[go_sem]
     rintro _ _ ⟨rfl,_,rfl⟩;simp only[go_sem];refine bH E (fun h=>absurd h gb) (fun _=>?_)<;>simp only[go_sem];refine lV E [.U [0] [.sl (some 4) (ns.map aK),i64 root,i64 fx,.unk,.unk,.unk,.unk,.unk,.unk],.B [0] (wD ns root fx)] [.ptr (wD ns root fx),.sl none ((l).map i64)] (d3) ?_ ?_ rfl ?_ ⟨by simp only[go_sem],by first|(rw[aT];decide)|(simp only[go_sem]<;>(try rw[aT])<;>decide)⟩ ?_
     .rintro r ae ⟨rfl,_,rfl⟩;exact⟨rfl,rfl⟩
     .unfold wD;simp only[go_sem];refine⟨_,rfl,?_⟩;simp only[go_sem];exact⟨.inr trivial,.inr trivial⟩
     .unfold wD;simp only[go_sem]
     rintro _ _ ⟨rfl,_,rfl⟩;simp only[go_sem]
     have lD:w'={ w with mx:=true }:=by
      rw[<-hW,oq];simp[fZ,kU,hY,kV,iu,iw,ea,eb,ve,vf,he,ga,gb,gS,cX,<-hl,<-hr]
     generalize hS:mk _ _ _=S;have L:=vb (U:=[0,1,2,4,5,202]) (h:=202) (x:=1) (h':=302) (x':=6) (s:=S) (fr:=[(0,.az [])]) (u:=[0,1,2,4,5,202,302,6]) (ns:=ns) (root:=root) (fx:=fx) (w:={ w with mx:=true }) ng sF (fun x hx=>?_) ?_ rfl rfl rfl rfl
     .rw[lD];exact⟨.az [],_,_,_,⟨rfl,rfl⟩,⟨rfl,rfl⟩,L.2.1,L.2.2.1,rfl,L.2.2.2.2⟩
     .rw[<-hS];rcases ak1.1 hx with hx|hx
      .unfold wP gC at hx;simp only[alc,alv,or_false]at hx;obtain rfl|rfl|rfl|rfl|rfl:=hx
       all_goals
        simp only[go_sem]
        skip
      .obtain⟨j,zs,h1,rfl⟩:=jh.1 hx;simp only[go_sem];exact fH (fr:=[]) (u:=[]) h1
     .rw[<-hS];exact⟨⟨rfl,rfl⟩,trivial⟩
 by_cases gb:0<=du fx ns r
 .have jo:=WC gb;have xc:w.be.getD (du fx ns r).toNat []=w.be[(du fx ns r).toNat]:=by simp[jo]
  have kb:=Wy _ (ak2 jo);have cb:=ME (G:=G) w.be[(du fx ns r).toNat] l kb.1 (by omega) fun x hx=>by have:=kb.2 x hx;omega
  have cX:=(WB gb).2
  cases gS:lZ fx ns l with
  |false =>
    rw[gS]at d3;refine bH E (fun h=>absurd h ga) (fun _=>?_)<;>simp only[go_sem];refine bH E (fun _=>?_) (fun h=>absurd gb h)<;>simp only[go_sem];refine bH E (fun h=>absurd h ga) (fun _=>?_)<;>simp only[go_sem];refine lV E [.U [0] [.sl (some 4) (ns.map aK),i64 root,i64 fx,.unk,.unk,.unk,.unk,.unk,.unk],.B [0] (wD ns root fx)] [.ptr (wD ns root fx),.sl none ((l).map i64)] (d3) ?_ ?_ rfl ?_ ⟨by simp only[go_sem],by first|(rw[aT];decide)|(simp only[go_sem]<;>(try rw[aT])<;>decide)⟩ ?_
    .rintro r ae ⟨rfl,_,rfl⟩;exact⟨rfl,rfl⟩
    .unfold wD;simp only[go_sem];refine⟨_,rfl,?_⟩;simp only[go_sem];exact⟨.inr trivial,.inr trivial⟩
    .unfold wD;simp only[go_sem]
    rintro _ _ ⟨rfl,_,rfl⟩;simp only[go_sem];rcases HJ w.be[(du fx ns r).toNat]with nY|nY
    all_goals
     rw[nY,Ed]at cb;refine bz mixed E fun X=>?_;simp only[go_sem];refine fO X [0] 0 none [.d (.sl (some 4) (ns.map aK)),.d (i64 root),.d (i64 fx),.vw [1] 0 w.al.length,.va [2] 0 997,.vw [4] 0 w.be.length,.vw [5] 0 w.ab.length,.d (.bool w.mx),.d (.bool w.fl)] (by simp only[go_sem]) rfl rfl ?_;simp only[go_sem];refine fO X [0] 0 none [.d (.sl (some 4) (ns.map aK)),.d (i64 root),.d (i64 fx),.vw [1] 0 w.al.length,.va [2] 0 997,.vw [4] 0 w.be.length,.vw [5] 0 w.ab.length,.d (.bool w.mx),.d (.bool w.fl)] (by simp only[go_sem]) rfl rfl ?_;simp only[go_sem];refine⟨by omega,?_⟩;rw[xb jo,nY];simp only[go_sem];refine dA X cb rfl rfl (by simp) ?_;simp only[go_sem];refine⟨by omega,?_⟩;(try refine⟨by decide +kernel,?_⟩);refine bH E (fun h=>absurd h ga) (fun _=>?_)<;>simp only[go_sem];refine bH E (fun _=>?_) (fun h=>absurd gb h)<;>simp only[go_sem];refine lV E [.U [0] [.sl (some 4) (ns.map aK),i64 root,i64 fx,.unk,.unk,.unk,.unk,.unk,.unk],.B [0] (wD ns root fx)] [.ptr (wD ns root fx),.sl none ((l).map i64)] (d3) ?_ ?_ rfl ?_ ⟨by simp only[go_sem],by first|(rw[aT];decide)|(simp only[go_sem]<;>(try rw[aT])<;>decide)⟩ ?_
     .rintro r ae ⟨rfl,_,rfl⟩;exact⟨rfl,rfl⟩
     .unfold wD;simp only[go_sem];refine⟨_,rfl,?_⟩;simp only[go_sem];exact⟨.inr trivial,.inr trivial⟩
     .unfold wD;simp only[go_sem]
     rintro _ _ ⟨rfl,_,rfl⟩;simp only[go_sem]
     have lD:w'={ w with be:=iO w.be (du fx ns r) l }:=by
      rw[<-hW,oq];simp[fZ,kU,hY,kV,iu,iw,ea,eb,ve,vf,he,ga,gb,gS,<-hl,<-hr]
     generalize hS:mk _ _ _=S;have L:=vb (U:=[0,1,2,4,5,202]) (h:=202) (x:=1) (h':=302) (x':=6) (s:=S) (fr:=[(0,.az [])]) (u:=[0,1,2,4,5,202,302,6]) (ns:=ns) (root:=root) (fx:=fx) (w:={ w with be:=iO w.be (du fx ns r) l }) ng sF (fun x hx=>?_) ?_ rfl rfl rfl rfl
     .rw[lD];exact⟨.az [],_,_,_,⟨rfl,rfl⟩,⟨rfl,rfl⟩,L.2.1,L.2.2.1,rfl,L.2.2.2.2⟩
     .rw[<-hS];rcases ak1.1 hx with hx|hx
      .unfold wP gC at hx;simp only[alc,alv,or_false]at hx;obtain rfl|rfl|rfl|rfl|rfl:=hx
       all_goals
        simp only[go_sem]
        first|rw[HK jo]|(simp only[iO,alX];done)|skip
      .obtain⟨j,zs,h1,rfl⟩:=jh.1 hx;simp only[go_sem];exact fH (fr:=[]) (u:=[]) h1
     .rw[<-hS];exact⟨⟨rfl,rfl⟩,trivial⟩
  |true =>
    rw[gS]at d3;refine bH E (fun h=>absurd h ga) (fun _=>?_)<;>simp only[go_sem];refine bH E (fun _=>?_) (fun h=>absurd gb h)<;>simp only[go_sem];refine bH E (fun h=>absurd h ga) (fun _=>?_)<;>simp only[go_sem];refine lV E [.U [0] [.sl (some 4) (ns.map aK),i64 root,i64 fx,.unk,.unk,.unk,.unk,.unk,.unk],.B [0] (wD ns root fx)] [.ptr (wD ns root fx),.sl none ((l).map i64)] (d3) ?_ ?_ rfl ?_ ⟨by simp only[go_sem],by first|(rw[aT];decide)|(simp only[go_sem]<;>(try rw[aT])<;>decide)⟩ ?_
    .rintro r ae ⟨rfl,_,rfl⟩;exact⟨rfl,rfl⟩
    .unfold wD;simp only[go_sem];refine⟨_,rfl,?_⟩;simp only[go_sem];exact⟨.inr trivial,.inr trivial⟩
    .unfold wD;simp only[go_sem]
    rintro _ _ ⟨rfl,_,rfl⟩;simp only[go_sem];refine bH E (fun h=>absurd h ga) (fun _=>?_)<;>simp only[go_sem];refine bH E (fun _=>?_) (fun h=>absurd gb h)<;>simp only[go_sem];refine lV E [.U [0] [.sl (some 4) (ns.map aK),i64 root,i64 fx,.unk,.unk,.unk,.unk,.unk,.unk],.B [0] (wD ns root fx)] [.ptr (wD ns root fx),.sl none ((l).map i64)] (d3) ?_ ?_ rfl ?_ ⟨by simp only[go_sem],by first|(rw[aT];decide)|(simp only[go_sem]<;>(try rw[aT])<;>decide)⟩ ?_
    .rintro r ae ⟨rfl,_,rfl⟩;exact⟨rfl,rfl⟩
    .unfold wD;simp only[go_sem];refine⟨_,rfl,?_⟩;simp only[go_sem];exact⟨.inr trivial,.inr trivial⟩
    .unfold wD;simp only[go_sem]
    rintro _ _ ⟨rfl,_,rfl⟩;simp only[go_sem];refine lV E [.U [0] [.sl (some 4) (ns.map aK),i64 root,i64 fx,.unk,.unk,.unk,.unk,.unk,.unk],.B [0] (wD ns root fx)] [.ptr (wD ns root fx),.sl none ((l).map i64)] (d3) ?_ ?_ rfl ?_ ⟨by simp only[go_sem],by first|(rw[aT];decide)|(simp only[go_sem]<;>(try rw[aT])<;>decide)⟩ ?_
    .rintro r ae ⟨rfl,_,rfl⟩;exact⟨rfl,rfl⟩
    .unfold wD;simp only[go_sem];refine⟨_,rfl,?_⟩;simp only[go_sem];exact⟨.inr trivial,.inr trivial⟩
    .unfold wD;simp only[go_sem]
    rintro _ _ ⟨rfl,_,rfl⟩;simp only[go_sem]
    have lD:w'={ w with mx:=true }:=by
     rw[<-hW,oq];simp[fZ,kU,hY,kV,iu,iw,ea,eb,ve,vf,he,ga,gb,gS,cX,<-hl,<-hr]
    generalize hS:mk _ _ _=S;have L:=vb (U:=[0,1,2,4,5,202]) (h:=202) (x:=1) (h':=302) (x':=6) (s:=S) (fr:=[(0,.az [])]) (u:=[0,1,2,4,5,202,302,6]) (ns:=ns) (root:=root) (fx:=fx) (w:={ w with mx:=true }) ng sF (fun x hx=>?_) ?_ rfl rfl rfl rfl
    .rw[lD];exact⟨.az [],_,_,_,⟨rfl,rfl⟩,⟨rfl,rfl⟩,L.2.1,L.2.2.1,rfl,L.2.2.2.2⟩
    .rw[<-hS];rcases ak1.1 hx with hx|hx
     .unfold wP gC at hx;simp only[alc,alv,or_false]at hx;obtain rfl|rfl|rfl|rfl|rfl:=hx
      all_goals
       simp only[go_sem]
       skip
     .obtain⟨j,zs,h1,rfl⟩:=jh.1 hx;simp only[go_sem];exact fH (fr:=[]) (u:=[]) h1
    .rw[<-hS];exact⟨⟨rfl,rfl⟩,trivial⟩
 refine bH E (fun h=>absurd h ga) (fun _=>?_)<;>simp only[go_sem];refine bH E (fun h=>absurd h gb) (fun _=>?_)<;>simp only[go_sem];refine bH E (fun h=>absurd h ga) (fun _=>?_)<;>simp only[go_sem];refine bH E (fun h=>absurd h gb) (fun _=>?_)<;>simp only[go_sem];cases gS:lZ fx ns l
 case true =>
  rw[gS]at d3;refine lV E [.U [0] [.sl (some 4) (ns.map aK),i64 root,i64 fx,.unk,.unk,.unk,.unk,.unk,.unk],.B [0] (wD ns root fx)] [.ptr (wD ns root fx),.sl none ((l).map i64)] (d3) ?_ ?_ rfl ?_ ⟨by simp only[go_sem],by first|(rw[aT];decide)|(simp only[go_sem]<;>(try rw[aT])<;>decide)⟩ ?_
  .rintro r ae ⟨rfl,_,rfl⟩;exact⟨rfl,rfl⟩
  .unfold wD;simp only[go_sem];refine⟨_,rfl,?_⟩;simp only[go_sem];exact⟨.inr trivial,.inr trivial⟩
  .unfold wD;simp only[go_sem]
  rintro _ _ ⟨rfl,_,rfl⟩;simp only[go_sem]
  have lD:w'={ w with mx:=true }:=by
   rw[<-hW,oq];simp[fZ,kU,hY,kV,iu,iw,ea,eb,ve,vf,he,ga,gb,gS,<-hl,<-hr]
  generalize hS:mk _ _ _=S;have L:=vb (U:=[0,1,2,4,5,202]) (h:=202) (x:=1) (h':=302) (x':=6) (s:=S) (fr:=[(0,.az [])]) (u:=[0,1,2,4,5,202,302,6]) (ns:=ns) (root:=root) (fx:=fx) (w:={ w with mx:=true }) ng sF (fun x hx=>?_) ?_ rfl rfl rfl rfl
  .rw[lD];exact⟨.az [],_,_,_,⟨rfl,rfl⟩,⟨rfl,rfl⟩,L.2.1,L.2.2.1,rfl,L.2.2.2.2⟩
  .rw[<-hS];rcases ak1.1 hx with hx|hx
   .unfold wP gC at hx;simp only[alc,alv,or_false]at hx;obtain rfl|rfl|rfl|rfl|rfl:=hx
    all_goals
     simp only[go_sem]
     skip
   .obtain⟨j,zs,h1,rfl⟩:=jh.1 hx;simp only[go_sem];exact fH (fr:=[]) (u:=[]) h1
  .rw[<-hS];exact⟨⟨rfl,rfl⟩,trivial⟩
 rw[gS]at d3;refine lV E [.U [0] [.sl (some 4) (ns.map aK),i64 root,i64 fx,.unk,.unk,.unk,.unk,.unk,.unk],.B [0] (wD ns root fx)] [.ptr (wD ns root fx),.sl none ((l).map i64)] (d3) ?_ ?_ rfl ?_ ⟨by simp only[go_sem],by first|(rw[aT];decide)|(simp only[go_sem]<;>(try rw[aT])<;>decide)⟩ ?_
 .rintro r ae ⟨rfl,_,rfl⟩;exact⟨rfl,rfl⟩
 .unfold wD;simp only[go_sem];refine⟨_,rfl,?_⟩;simp only[go_sem];exact⟨.inr trivial,.inr trivial⟩
 .unfold wD;simp only[go_sem]
 rintro _ _ ⟨rfl,_,rfl⟩;simp only[go_sem];cases cX:lZ fx ns r
 case true =>
  rw[cX]at d4;refine lV E [.U [0] [.sl (some 4) (ns.map aK),i64 root,i64 fx,.unk,.unk,.unk,.unk,.unk,.unk],.B [0] (wD ns root fx)] [.ptr (wD ns root fx),.sl none ((r).map i64)] (d4) ?_ ?_ rfl ?_ ⟨by simp only[go_sem],by first|(rw[aT];decide)|(simp only[go_sem]<;>(try rw[aT])<;>decide)⟩ ?_
  .rintro r ae ⟨rfl,_,rfl⟩;exact⟨rfl,rfl⟩
  .unfold wD;simp only[go_sem];refine⟨_,rfl,?_⟩;simp only[go_sem];exact⟨.inr trivial,.inr trivial⟩
  .unfold wD;simp only[go_sem]
  rintro _ _ ⟨rfl,_,rfl⟩;simp only[go_sem]
  have lD:w'={ w with mx:=true }:=by
   rw[<-hW,oq];simp[fZ,kU,hY,kV,iu,iw,ea,eb,ve,vf,he,ga,gb,gS,cX,<-hl,<-hr]
  generalize hS:mk _ _ _=S;have L:=vb (U:=[0,1,2,4,5,202]) (h:=202) (x:=1) (h':=302) (x':=6) (s:=S) (fr:=[(0,.az [])]) (u:=[0,1,2,4,5,202,302,6]) (ns:=ns) (root:=root) (fx:=fx) (w:={ w with mx:=true }) ng sF (fun x hx=>?_) ?_ rfl rfl rfl rfl
  .rw[lD];exact⟨.az [],_,_,_,⟨rfl,rfl⟩,⟨rfl,rfl⟩,L.2.1,L.2.2.1,rfl,L.2.2.2.2⟩
  .rw[<-hS];rcases ak1.1 hx with hx|hx
   .unfold wP gC at hx;simp only[alc,alv,or_false]at hx;obtain rfl|rfl|rfl|rfl|rfl:=hx
    all_goals
     simp only[go_sem]
     skip
   .obtain⟨j,zs,h1,rfl⟩:=jh.1 hx;simp only[go_sem];exact fH (fr:=[]) (u:=[]) h1
  .rw[<-hS];exact⟨⟨rfl,rfl⟩,trivial⟩
 rw[cX]at d4;refine lV E [.U [0] [.sl (some 4) (ns.map aK),i64 root,i64 fx,.unk,.unk,.unk,.unk,.unk,.unk],.B [0] (wD ns root fx)] [.ptr (wD ns root fx),.sl none ((r).map i64)] (d4) ?_ ?_ rfl ?_ ⟨by simp only[go_sem],by first|(rw[aT];decide)|(simp only[go_sem]<;>(try rw[aT])<;>decide)⟩ ?_
 .rintro r ae ⟨rfl,_,rfl⟩;exact⟨rfl,rfl⟩
 .unfold wD;simp only[go_sem];refine⟨_,rfl,?_⟩;simp only[go_sem];exact⟨.inr trivial,.inr trivial⟩
 .unfold wD;simp only[go_sem]
 rintro _ _ ⟨rfl,_,rfl⟩;simp only[go_sem]
 have lD:w'=(jB ns q).1.foldl cn { w with fl:=w.fl||!(dh ns q).2 }:=by
  rw[<-hW,oq];simp[fZ,kU,hY,kV,iu,iw,he,ea,eb,ve,vf,ga,gb,gS,cX,jB]
 have Ee:fZ fx ns q=true:=by simp[fZ,kU,hY,he,ea,eb,ve,vf,ga,gb,gS,cX]
 rotate_left
 have he:qu ns q=true:=by simpa using he
 have lD:w'=(jB ns q).1.foldl cn { w with fl:=w.fl||!(dh ns q).2 }:=by
  rw[<-hW,oq];simp[fZ,kU,hY,kV,iu,iw,he,jB]
 have Ee:fZ fx ns q=true:=by simp[fZ,kU,hY,he]
 all_goals
  refine wG E (τ:=id) (s2:=mk [(0,.bx [0] 0),(3,.d (.ptr (.agg [.sl none (q.1.map i64),.sl none (q.2.map i64)])))] (wO 202 [1] ns root fx w) [0,1,2,4,5,202]) (cw.le (Wx (hp:=wO 202 [1] ns root fx w) ?_ ?_ (jM ng) (fun x hx=>ow rfl rfl hx) rfl)) ?_
  .rfl
  .simp only[go_sem]
  unfold wO wP gC;simp only[List.cons_append,List.nil_append];refine bz mixed E fun X=>?_;simp only[go_sem];refine fO X [0] 0 none [.d (.sl (some 4) (ns.map aK)),.d (i64 root),.d (i64 fx),.vw [1] 0 w.al.length,.va [2] 0 997,.vw [4] 0 w.be.length,.vw [5] 0 w.ab.length,.d (.bool w.mx),.d (.bool w.fl)] (by simp only[go_sem]) rfl rfl ?_;simp only[go_sem];refine dA X MR rfl rfl (by simp) ?_;simp only[go_sem];(try refine⟨by decide +kernel,?_⟩);refine ck E ?_ ?_<;>intro ho<;>simp only[go_sem];have aW:(dh ns q).2=false:=by simpa using ho
  obtain⟨W1,qd⟩:∃x:SW,x={ w with fl:=true }:=⟨_,rfl⟩
  rotate_left
  have aW:(dh ns q).2=true:=by simpa using ho
  obtain⟨W1,qd⟩:∃x:SW,x=w:=⟨_,rfl⟩
  all_goals
   have K3:W1.al=w.al:=by rw[qd]
   have rR:u9 W1:=by rw[qd];exact⟨hb.len,hb.le,hb.mem⟩
   have ye:w'=(jB ns q).1.foldl cn W1:=by rw[lD,aW,qd];simp
   cases nE:(dh ns q).1 with
   |none =>
     have jn:w'=W1:=by rw[ye,jB,nE];rfl
     simp only[DS,go_sem]
     refine bC E (X:=Unit) (fun _=>[(0,.bx [0] 0),(8,.d .ao),(10,.d (i64 0))])
      (fun _=>wO 402 [11] ns root fx W1) [0,1,2,4,5,11,202,402] (fun _=>0) () (dG [11] [1] 402 fun j=>[202,j]) ?_ ?_
     .rw[qd]
      first | exact HG (w:=w) ng jN (.inl rfl) (.inr rfl) ⟨⟨rfl,rfl⟩,⟨rfl,rfl⟩,⟨rfl,rfl⟩,trivial⟩ rfl rfl rfl rfl | exact HG (w:={ w with fl:=true }) ng jN (.inl rfl) (.inr rfl) ⟨⟨rfl,rfl⟩,⟨rfl,rfl⟩,⟨rfl,rfl⟩,trivial⟩ rfl rfl rfl rfl
     rintro⟨⟩ E0;refine bK E0 fun Q' hQ E'=>?_;simp only[go_sem];rw[hQ];simp only[go_sem];generalize hS:mk _ _ _=S;have L:=vb (U:=[0,1,2,4,5,202]) (h:=402) (x:=11) (h':=302) (x':=6) (s:=S) (fr:=[(0,.az [])]) (u:=[0,1,2,4,5,202,302,6]) (ns:=ns) (root:=root) (fx:=fx) (w:=W1) jN sF (fun x hx=>by rw[<-hS];exact uf (jM jN) hx) (by rw[<-hS];exact⟨⟨rfl,rfl⟩,trivial⟩) rfl rfl rfl rfl;exact⟨.az [],_,_,_,⟨rfl,by rw[jn];rfl⟩,⟨rfl,rfl⟩,L.2.1,L.2.2.1,rfl,L.2.2.2.2⟩
   |some Ls =>
     have jn:w'=Ls.foldl cn W1:=by rw[ye,jB,nE];rfl
     have WD:∀q'∈Ls,j6 q':=fun q' h=>hL Ee q' (by rw[jB,nE];exact h);have akP:w.al.length+Ls.length<=1000000:=by have:=hlen Ee;rw[jB,nE]at this;exact this
     simp only[DS,go_sem]
     refine bC E (X:={ i:Nat // i<=Ls.length }) (fun x=>[(0,.bx [0] 0),(8,.d (.sl (some 2) (Ls.map fQ))),(10,.d (i64 x.1))])
      (fun x=>wO 402 [11] ns root fx ((Ls.take x.1).foldl cn W1)) [0,1,2,4,5,11,202,402] (fun x=>Ls.length-x.1) ⟨0,ale _⟩ (dG [11] [1] 402 fun j=>[202,j]) ?_ ?_
     .rw[List.take_zero,List.foldl_nil,qd]
      first | exact HG (w:=w) ng jN (.inl rfl) (.inr rfl) ⟨⟨rfl,rfl⟩,⟨rfl,rfl⟩,⟨rfl,rfl⟩,trivial⟩ rfl rfl rfl rfl | exact HG (w:={ w with fl:=true }) ng jN (.inl rfl) (.inr rfl) ⟨⟨rfl,rfl⟩,⟨rfl,rfl⟩,⟨rfl,rfl⟩,trivial⟩ rfl rfl rfl rfl
     rintro⟨i,hi⟩ E0;refine bK E0 fun Q' hQ E'=>?_;simp only at hi ⊢;have hA:=V9 (Ls.take i) W1 (fun x hx=>WD x (alL hx));have hlt:(Ls.take i).length=i:=by rw[alq];omega
     simp only[go_sem];refine aI E' ?_ ?_<;>intro h2<;>simp only[go_sem]
     .have aq:i<Ls.length:=by omega
      have Ea:=WD _ (ak2 aq);have dy:(Ls.take (i+1)).foldl cn W1=cn ((Ls.take i).foldl cn W1) Ls[i]:=by rw[ak9 aq,amN];rfl
      generalize (Ls.take i).foldl cn W1=v at hA dy ⊢;refine⟨by omega,?_⟩;rw[MI aq];simp only[go_sem];refine uG E' sW [.bx [0] 0,.d (fQ Ls[i])] (wO 202 [1] ns root fx v) [0,1,2,4,5,202] (MJ ns root fx v Ls[i] Ea (hA.few (by rw[K3];exact km)) (hA.ok rR) (by have:=hA.len;rw[K3]at this;omega) (yM Ea)) rfl rfl ⟨by first|decide|simp only[go_sem],by rw[aT];decide⟩ rfl (HA rfl rfl) HC ?_;rintro _ _ ⟨rfl,rfl⟩;refine⟨HD (by rw[(lE v Ls[i]).2.1]) (by rw[(lE v Ls[i]).2.2.1]) (MN v Ls[i]).symm,?_⟩;rw[HE _ _ _ rfl];simp only[go_sem];rw[hQ,oL];refine⟨⟨i+1,by omega⟩,by show Ls.length-(i+1)<Ls.length-i;omega,tB 150,?_⟩;rw[dy,aD ⟨by omega,by omega⟩];exact HF ⟨⟨rfl,rfl⟩,⟨rfl,rfl⟩,⟨rfl,rfl⟩,trivial⟩ rfl rfl rfl rfl
     have h5:i=Ls.length:=by omega
     subst h5;rw[hQ,alk];simp only[go_sem];generalize hS:mk _ _ _=S;have L:=vb (U:=[0,1,2,4,5,202]) (h:=402) (x:=11) (h':=302) (x':=6) (s:=S) (fr:=[(0,.az [])]) (u:=[0,1,2,4,5,202,302,6]) (ns:=ns) (root:=root) (fx:=fx) (w:=Ls.foldl cn W1) jN sF (fun x hx=>by rw[<-hS];exact uf (jM jN) hx) (by rw[<-hS];exact⟨⟨rfl,rfl⟩,trivial⟩) rfl rfl rfl rfl;exact⟨.az [],_,_,_,⟨rfl,by rw[jn];rfl⟩,⟨rfl,rfl⟩,L.2.1,L.2.2.1,rfl,L.2.2.2.2⟩
end Go.Proofs.YtpmniabdmbmafaaGreatDoor

namespace Go.Proofs.YtpmniabdmbmafaaGreatDoor
open Go.Ab Tryz
theorem ajK{G}(mx fl:Bool):HP prog G 24 [.ptr (.agg [.unk,.unk,.unk,.unk,.unk,.unk,.unk,.bool mx,.bool fl])] (fun r=>r=.d (i64 (if mx=true then 14 else if fl=true then 11 else 0))):=by
 refine cj func24 rfl (by decide +kernel) (by simp[ntmps24]) (aS fun E=>?_);simp only[go_sem];refine Rc E (by simp) rfl ?_;simp only[go_sem];refine ck E ?_ ?_<;>intro h1<;>simp only[go_sem]
 .rw[if_pos h1]
 .refine Rc E (by simp) rfl ?_;simp only[go_sem];refine ck E ?_ ?_<;>intro h2<;>simp only[go_sem]
  .rw[if_neg (by rw[h1];decide),if_pos h2]
  .rw[if_neg (by rw[h1];decide),if_neg (by rw[h2];decide)]
theorem WE:u9 ox:=by
 have hg:∀b,(List.replicate 997 ([]:List Nat)).getD b []=[]:=fun b=>by
  rw[akX,amv];split<;>rfl
 refine⟨amc,fun b _=>?_,fun b _ i=>?_⟩
 .show((List.replicate 997 ([]:List Nat)).getD b []).length<=_;rw[hg];exact ale _
 .show i∈(List.replicate 997 ([]:List Nat)).getD b []↔_;rw[hg];exact⟨fun h=>(by cases h),fun h=>absurd h.1 (ami _)⟩
section
variable {ns:List TN}{root:Int}{w:SW}
theorem iC:aw none (List.map (fun q=>(q.fst,some q.snd)) (wO 402 [11] ns root 1000 w)) [0]=some (.bt none [.d (.sl (some 4) (ns.map aK)),.d (i64 root),.d (i64 1000),.vw [11] 0 w.al.length,.va [2] 0 997,.vw [4] 0 w.be.length,.vw [5] 0 w.ab.length,.d (.bool w.mx),.d (.bool w.fl)]):=rfl
theorem ji:aw none (List.map (fun q=>(q.fst,some q.snd)) (wO 402 [11] ns root 1000 w)) [11]=some (.bB none (some 2) (w.al.map fQ)):=rfl
theorem jj:aw none (List.map (fun q=>(q.fst,some q.snd)) (wO 402 [11] ns root 1000 w)) [4]=some (.bB none none (w.be.map ew)):=rfl
theorem jk:aw none (List.map (fun q=>(q.fst,some q.snd)) (wO 402 [11] ns root 1000 w)) [5]=some (.bB none none (w.ab.map ew)):=rfl
end
def PC(w:SW)(v:Nat):Prop:=∀u,u<v->∀s∈w.be.getD u [],∀s'∈w.ab.getD u [],(s,s')∈w.al
def PI(w:SW)(v i:Nat):Prop:=∀j,j<i->∀s'∈w.ab.getD v [],((w.be.getD v []).getD j [],s')∈w.al
def PK(w:SW)(v i k:Nat):Prop:=∀j,j<k->((w.be.getD v []).getD i [],(w.ab.getD v []).getD j [])∈w.al
theorem ajL{w:SW}{q:SQ}{v:Nat}(h:PC w v):PC (cn w q) v:=fun u hu s hs s' bm=>by
 rw[(lE w q).2.1]at hs;rw[(lE w q).2.2.1]at bm;exact ug.2 (.inl (h u hu s hs s' bm))
theorem ajM{w:SW}{q:SQ}{v i:Nat}(h:PI w v i):PI (cn w q) v i:=fun j hj s' bm=>by
 rw[(lE w q).2.2.1]at bm;rw[(lE w q).2.1];exact ug.2 (.inl (h j hj s' bm))
theorem ajN{w:SW}{v i k:Nat}(h:PK w v i k):PK (cn w ((w.be.getD v []).getD i [],(w.ab.getD v []).getD k [])) v i (k+1):=fun j hj=>by
 rw[(lE w _).2.1,(lE w _).2.2.1];by_cases e:j<k
 .exact ug.2 (.inl (h j e))
 .obtain rfl:j=k:=by omega
  exact ug.2 (.inr rfl)
theorem WG{L:List (List Int)}{i:Nat}(h:i<L.length):(L.map aL).getD i .aY=.sl none (L[i].map i64):=by simp[h,aL]
theorem yP{α:Type}{L:List α}{i:Nat}{d:α}(h:i<L.length):L.getD i d=L[i]:=by simp[h]
theorem iA.ajO{fx:Int}{ns:List TN}{q0:SQ}{w:SW}{d:Nat}(h:iA fx ns q0 w d){v:Nat}(hv:(v:Int)<fx){s s':List Int}(hs:s∈w.be.getD v [])(bm:s'∈w.ab.getD v []):gf fx ns q0 (s,s'):=by
 obtain⟨i,hi,h1,h2,rfl⟩:=(h.be v hv s).1 hs;obtain⟨j,hj,h3,h4,rfl⟩:=(h.ab v hv s').1 bm;have:=h.dl;exact .pair (h.sG _ (get_mem (by omega))) (h.sG _ (get_mem (by omega))) h3 h1 (by rw[h4,h2])
theorem iA.WH{fx:Int}{ns:List TN}{q0:SQ}{w:SW}{d:Nat}(h:iA fx ns q0 w d):(∀L∈w.be,∀s∈L,s.length<=4000)∧∀L∈w.ab,∀s∈L,s.length<=4000:=by
 have hd:=h.dl;constructor
 .intro L hL s hs;obtain⟨v,hv,rfl⟩:=alx hL;have hg:w.be.getD v []=w.be[v]:=by simp[hv]
  obtain⟨i,hi,_,_,rfl⟩:=(h.be v (by have:=h.lb;omega) s).1 (by rw[hg];exact hs);have:=(h.few _ (get_mem (show i<w.al.length by omega))).1;exact alU (al4 _ _) this
 .intro L hL s hs;obtain⟨v,hv,rfl⟩:=alx hL;have hg:w.ab.getD v []=w.ab[v]:=by simp[hv]
  obtain⟨i,hi,_,_,rfl⟩:=(h.ab v (by have:=h.la;omega) s).1 (by rw[hg];exact hs);have:=(h.few _ (get_mem (show i<w.al.length by omega))).2.1;exact alU (al4 _ _) this
theorem WI(ns:List TN)(l:List Int):∀(L out:List (List UInt8)),(L.foldl (kS ns l) out).length<=out.length+L.length
 |[],out=>by simp
 |s::L,out=>by
   have h1:=WI ns l L (kS ns l out s)
   have h2:(kS ns l out s).length<=out.length+1:=by
    unfold kS;split
    .simp
    .omega
   rw[List.foldl_cons,List.length_cons];omega
theorem ajP{ns:List TN}(h:∀i:Nat,(nd ns i).l.length<=1000)(q:SQ):(jB ns q).1.length<=1002:=by
 have nz:∀l,(eE ns l).length<=1000:=fun l=>by
  have h3:(eE ns l).length<=([]:List (List UInt8)).length+((nd ns (l.getD 0 0).toNat).l.map (·.1)).length:=WI ns l _ _;have h2:=h (l.getD 0 0).toNat;rw[alg,List.length_nil]at h3;omega
 show((dh ns q).1.getD []).length<=1002;unfold dh;split
 .simp
 split
 .split<;>simp
 split
 .split<;>simp
 split
 .simp
 split
 .simp
 split
 .simp
 unfold fJ;split
 .simp
 split
 .simp
 split
 .rw[Option.getD_some,alg];unfold lA;split
  .have:=nz (bP ns ((gy ns q.1).getD 0 0) q.2);omega
  .split
   .have:=nz (bP ns ((gy ns q.1).getD 0 0) q.1);omega
   .simp
 .simp
theorem ajQ{ns:List TN}{q0:SQ}(hq:j6 q0):iA 1000 ns q0 (cn ox q0) 0:=by
 obtain⟨_,a2,a3,a4,a5⟩:=lE ox q0
 have km:(cn ox q0).al=[q0]:=by
  unfold cn;rw[if_neg (show¬q0∈ox.al from fun h=>by cases h)];rfl
 have cd:∀v,(List.replicate 1000 ([]:List (List Int))).getD v []=[]:=fun v=>by
  rw[akX,amv];split<;>rfl
 have bY:∀P:Nat->Prop,¬∃i,i<0∧P i:=fun P ⟨i,h,_⟩=>ami i h;have hl:∀L∈List.replicate 1000 ([]:List (List Int)),L.length<=0:=fun L hL=>by rw[aml hL];exact ali _
 refine⟨by rw[km];simp,fun q h=>?_,by rw[km];simp,ML WE (yM hq),fun q h=>?_,ale _,?_,?_,fun v _ s=>?_,fun v _ s=>?_,?_,?_,fun i hi=>absurd hi (ami _),?_,?_⟩
 .rw[km]at h;rw[ak3.1 h];exact .root
 .rw[km]at h;rw[ak3.1 h];exact hq
 .rw[a2];show((List.replicate 1000 ([]:List (List Int))).length:Int)=1000;rw[amc];rfl
 .rw[a3];show((List.replicate 1000 ([]:List (List Int))).length:Int)=1000;rw[amc];rfl
 .rw[a2];show s∈(List.replicate 1000 ([]:List (List Int))).getD v []↔_;rw[cd];exact⟨fun h=>(by cases h),fun h=>absurd h (bY _)⟩
 .rw[a3];show s∈(List.replicate 1000 ([]:List (List Int))).getD v []↔_;rw[cd];exact⟨fun h=>(by cases h),fun h=>absurd h (bY _)⟩
 .rw[a4];exact⟨fun h=>(by cases h),fun h=>absurd h (bY _)⟩
 .rw[a5];exact⟨fun h=>(by cases h),fun h=>absurd h (bY _)⟩
 .rw[a2];exact hl
 .rw[a3];exact hl
set_option maxRecDepth 100000 in
theorem ajR{G}(ns:List TN)(root:Int)(a b:List Int)(hn:ns.length<=4000)(G9:a.length<=1000)(CW:b.length<=1000)(mb:∀q,gf 1000 ns (bL a,bL b) q->j6 q)(gH:∀q,gf 1000 ns (bL a,bL b) q->D7 ns q)(hF:uY ns)(tQ:∀i:Nat,(nd ns i).l.length<=1000)(hB:∀al:List SQ,al.Nodup->(∀q∈al,gf 1000 ns (bL a,bL b) q)->al.length<=300000) :
  bZ prog G 23 [.d (bU ns root),.d (.sl (some 2) [.agg [.sl none (a.map i64),.sl none (b.map i64)]]),.d (i64 1000)] [] [] (fun r ae=>∃w,(w.mx=false∧w.fl=false↔pw 1000 ns (bL a,bL b))∧r=.bx [0] 0∧ae=[([0],gC [6] ns root 1000 w)]):=by
 unfold bU;refine jc func23 rfl (by decide +kernel) (by simp[ntmps23]) (aS fun E=>?_);simp only[go_sem];refine bz mixed E fun X=>?_;simp only[go_sem];refine FN X (d:=16) (t:=99) (e:=100) (n:=1000) (z:=.ao) (by rw[Jl]) (by rw[mJ];rfl) (by rw[mJ];rfl) rfl rfl (by rw[mJ];decide) ⟨by simp only[go_sem],by rw[aT];decide⟩ ?_;simp only[go_sem];refine FN X (d:=18) (t:=99) (e:=100) (n:=1000) (z:=.ao) (by rw[Jl]) (by rw[mJ];rfl) (by rw[mJ];rfl) rfl rfl (by rw[mJ];decide) ⟨by simp only[go_sem],by rw[aT];decide⟩ ?_;simp only[go_sem];refine FN X (d:=19) (t:=100) (e:=48) (n:=997) (z:=.ao) (by rw[mJ]) (by rw[fM];rfl) (by rw[fM];rfl) rfl rfl (by rw[fM];decide) ⟨by simp only[go_sem],by rw[aT];decide⟩ ?_;simp only[go_sem];refine Rf X (d:=21) (cs:=[.d (.sl (some 4) (ns.map aK)),.d (i64 root),.d (i64 1000),.d .ao,.vw [19] 0 997,.vw [16] 0 1000,.vw [18] 0 1000,.d (.bool false),.d (.bool false)]) rfl ⟨by simp only[go_sem],by rw[aT];decide⟩ ?_;simp only[go_sem];(try refine⟨by decide +kernel,?_⟩);refine ajH E (ns:=ns) (root:=root) (g:=.sl (some 2) [.agg [.sl none (a.map i64),.sl none (b.map i64)]]) (N:=997) (M:=1000) rfl rfl rfl rfl rfl rfl (by rw[aT];decide) rfl rfl rfl rfl ?_
 refine bC E (X:={ i:Nat // i<=1 }) (fun x=>[(1,.d (.sl (some 2) [.agg [.sl none (a.map i64),.sl none (b.map i64)]])),(2,.d (i64 1000)),(7,.bx [0] 0),(8,.d (i64 x.1))])
  (fun x=>wO 402 [11] ns root 1000 (if x.1=0 then ox else cn ox (bL a,bL b))) [0,2,4,5,11,402] (fun x=>1-x.1) ⟨0,by decide⟩ id ?_ ?_
 .exact qy ⟨⟨rfl,rfl⟩,⟨rfl,rfl⟩,⟨rfl,rfl⟩,⟨rfl,rfl⟩,trivial⟩ (jM jN) (fun x hx=>ow rfl rfl hx) rfl
 rintro⟨i,hi⟩ E0;refine bK E0 fun Q' hQ E'=>?_;simp only;simp only[go_sem];refine aI E' ?_ ?_<;>intro h1<;>simp only[go_sem]
 .obtain rfl:i=0:=by omega
  rw[if_pos rfl];refine bz mixed E' fun X=>?_;simp only[go_sem];have ca:=w8 (G:=G) a (by omega);have cb:=w8 (G:=G) b (by omega);unfold aL at ca cb;have q8:=mb _ .root;refine dA X ca rfl rfl (by simp) ?_;simp only[go_sem];refine dA X cb rfl rfl (by simp) ?_;simp only[go_sem];refine Rh X sW [.bx [0] 0,.d (fQ (bL a,bL b))] (wO 202 [1] ns root 1000 ox) [0,1,2,4,5,202] (.az []) _ (MJ ns root 1000 ox _ q8 (by simp[ox,sH]) WE (by simp[ox,sH]) (yM q8)) rfl rfl ⟨by simp only[go_sem],by rw[aT];decide⟩ rfl (HA rfl rfl) HC (HD (by rw[(lE ox _).2.1]) (by rw[(lE ox _).2.2.1]) (MN ox _).symm) ?_;rw[HE _ _ _ rfl];simp only[go_sem];refine⟨Wu (l:=List.replicate 14 ([],[],[])) 14 rfl rfl (by decide +kernel) (by decide +kernel),?_⟩;rw[hQ,oL];refine⟨⟨1,by omega⟩,by show 1-1<1-0;decide,tB 42,?_⟩;exact HF ⟨⟨rfl,rfl⟩,⟨rfl,rfl⟩,⟨rfl,rfl⟩,⟨rfl,rfl⟩,trivial⟩ rfl rfl rfl rfl
 .obtain rfl:i=1:=by omega
  rw[hQ,if_neg (by decide)];simp only[go_sem];have q8:=mb _ .root;have DI:iA 1000 ns (bL a,bL b) (cn ox (bL a,bL b)) 0:=ajQ q8
  refine bC E (X:={ x:SW×Nat // iA 1000 ns (bL a,bL b) x.1 x.2∧(x.2=0∨PC x.1 1000) }) (fun x=>[(2,.d (i64 1000)),(7,.bx [0] 0),(9,.d (i64 x.1.2))])
   (fun x=>wO 402 [11] ns root 1000 x.1.1) [0,2,4,5,11,402] (fun x=>300001-x.1.2) ⟨(_,0),DI,.inl rfl⟩ id ?_ ?_
  .exact qy ⟨⟨rfl,rfl⟩,⟨rfl,rfl⟩,⟨rfl,rfl⟩,trivial⟩ (jM jN) (fun x hx=>ow rfl rfl hx) rfl
  rintro⟨⟨w,d⟩,hS,hp⟩ E1;refine bK E1 fun Q2 cz E2=>?_;simp only at hS hp ⊢;simp only[go_sem,iC,ji,jj,jk];refine aI E2 ?_ ?_<;>intro h2<;>simp only[go_sem,iC,ji,jj,jk]
  .have wj:d<w.al.length:=by omega
   refine bC E2 (X:={ x:SW×Nat // iA 1000 ns (bL a,bL b) x.1 x.2∧w.al.length<=x.1.al.length }) (fun x=>[(2,.d (i64 1000)),(7,.bx [0] 0),(9,.d (i64 x.1.2))])
    (fun x=>wO 402 [11] ns root 1000 x.1.1) [0,2,4,5,11,402] (fun x=>300001-x.1.2) ⟨(w,d),hS,ali _⟩ id ?_ ?_
   .exact qy ⟨⟨rfl,rfl⟩,⟨rfl,rfl⟩,⟨rfl,rfl⟩,trivial⟩ (jM jN) (fun x hx=>ow rfl rfl hx) rfl
   rintro⟨⟨w1,d1⟩,ky,jn⟩ E3;refine bK E3 fun Q3 lp E4=>?_;simp only at ky jn ⊢;have akQ:=hB w1.al ky.nd ky.sG;simp only[go_sem,iC,ji,jj,jk];refine aI E4 ?_ ?_<;>intro h3<;>simp only[go_sem,iC,ji,jj,jk]
   .have nV:d1<w1.al.length:=by omega
    have kj:w1.al.getD d1 default=w1.al[d1]:=by simp[nV]
    have MS:gf 1000 ns (bL a,bL b) w1.al[d1]:=ky.sG _ (ak2 nV);obtain⟨qq,xq⟩:=ky.one nV mb;rw[kj]at qq xq;refine⟨by omega,?_⟩;rw[MI nV];simp only[go_sem,iC,ji,jj,jk];have Ee:fZ 1000 ns w1.al[d1]=true->∀q'∈(jB ns w1.al[d1]).1,gf 1000 ns (bL a,bL b) q':=fun hl q' bX=>.to MS hl bX;refine uG E4 sW [.bx [0] 0,.d (fQ w1.al[d1])] (wO 202 [1] ns root 1000 w1) [0,1,2,4,5,202] (ajJ ns root 1000 w1 w1.al[d1] hn (gH _ MS) hF (mb _ MS) ky.few ky.bk ⟨ky.lb,ky.la⟩ (by decide) (fun hl=>?_) (fun hl q' bX=>mb _ (Ee hl q' bX)) (fun L hL=>⟨by have:=ky.sb L hL;have:=ky.dl;omega,fun s hs=>?_⟩) (fun L hL=>⟨by have:=ky.sa L hL;have:=ky.dl;omega,fun s hs=>?_⟩)) rfl rfl ⟨by first|decide|simp only[go_sem],by rw[aT];decide⟩ rfl (HA rfl rfl) HC ?_
    .have:=ajP tQ w1.al[d1];omega
    .exact ky.WH.1 L hL s hs
    .exact ky.WH.2 L hL s hs
    rintro _ _ ⟨rfl,rfl⟩;refine⟨HD (by have:=ky.lb;have:=qq.lb;omega) (by have:=ky.la;have:=qq.la;omega) (by rw[ky.bk.len,qq.bk.len]),?_⟩;rw[HE _ _ _ rfl];simp only[go_sem];rw[lp,oL];refine⟨⟨(oq 1000 ns w1 w1.al[d1],d1+1),qq,by simp only;omega⟩,by show 300001-(d1+1)<300001-d1;omega,tB 67,?_⟩;rw[aD ⟨by omega,by omega⟩];exact HF ⟨⟨rfl,rfl⟩,⟨rfl,rfl⟩,⟨rfl,rfl⟩,trivial⟩ rfl rfl rfl rfl
   .have lJ:d1=w1.al.length:=by have:=ky.dl;omega
    rw[lp];simp only[go_sem,iC,ji,jj,jk]
    refine bC E2 (X:={ x:SW×Nat // (iA 1000 ns (bL a,bL b) x.1 d1∧PC x.1 x.2)∧x.2<=1000 }) (fun x=>[(2,.d (i64 1000)),(7,.bx [0] 0),(9,.d (i64 d1)),(10,.d (i64 x.1.2))])
     (fun x=>wO 402 [11] ns root 1000 x.1.1) [0,2,4,5,11,402] (fun x=>1000-x.1.2) ⟨(w1,0),⟨ky,fun u hu=>absurd hu (ami _)⟩,ale _⟩ id ?_ ?_
    .exact qy ⟨⟨rfl,rfl⟩,⟨rfl,rfl⟩,⟨rfl,rfl⟩,⟨rfl,rfl⟩,trivial⟩ (jM jN) (fun x hx=>ow rfl rfl hx) rfl
    rintro⟨⟨w2,v⟩,⟨MT,Eg⟩,hv⟩ E5;refine bK E5 fun Q4 MU E6=>?_;simp only at MT Eg hv ⊢;simp only[go_sem,iC,ji,jj,jk];refine aI E6 ?_ ?_<;>intro h4<;>simp only[go_sem,iC,ji,jj,jk]
    .have qE:v<1000:=by omega
     refine bC E6 (X:={ x:SW×Nat // ((iA 1000 ns (bL a,bL b) x.1 d1∧PC x.1 v)∧PI x.1 v x.2)∧x.2<=(x.1.be.getD v []).length∧(x.1.be=w2.be∧x.1.ab=w2.ab) }) (fun x=>[(2,.d (i64 1000)),(7,.bx [0] 0),(9,.d (i64 d1)),(10,.d (i64 v)),(11,.d (i64 x.1.2))])
      (fun x=>wO 402 [11] ns root 1000 x.1.1) [0,2,4,5,11,402] (fun x=>(w2.be.getD v []).length-x.1.2) ⟨(w2,0),⟨⟨MT,Eg⟩,fun u hu=>absurd hu (ami _)⟩,ale _,rfl,rfl⟩ id ?_ ?_
     .exact qy ⟨⟨rfl,rfl⟩,⟨rfl,rfl⟩,⟨rfl,rfl⟩,⟨rfl,rfl⟩,⟨rfl,rfl⟩,trivial⟩ (jM jN) (fun x hx=>ow rfl rfl hx) rfl
     rintro⟨⟨w3,i⟩,⟨⟨sI,MV⟩,Hq⟩,HM,Eh,MW⟩ E7;refine bK E7 fun Q5 HN E8=>?_;simp only at sI MV Hq HM Eh MW ⊢;simp only[go_sem,iC,ji,jj,jk];have HO:v<w3.be.length:=by have:=sI.lb;omega
     have MX:v<w3.ab.length:=by have:=sI.la;omega
     have xc:w3.be.getD v []=w3.be[v]:=by simp[HO]
     have uZ:w3.ab.getD v []=w3.ab[v]:=by simp[MX]
     have akR:=hB w3.al sI.nd sI.sG;have akS:=sI.sb _ (ak2 HO);have akT:=sI.sa _ (ak2 MX);have akU:=sI.dl
     have Dp:i=(w3.be.getD v []).length->PC w3 (v+1):=fun e u hu s hs s' bm=>by
      by_cases g:u<v
      .exact MV u g s hs s' bm
      .obtain rfl:u=v:=by omega
       obtain⟨j,hj,rfl⟩:=alx hs;have Ec:(w3.be.getD u []).getD j []=(w3.be.getD u [])[j]:=by rw[akX,ak0 hj];rfl
       rw[<-Ec];exact Hq j (by omega) s' bm
     refine⟨by omega,?_⟩;rw[xb HO];by_cases hL:w3.be[v]=[]
     .rw[show ew w3.be[v]=.ao from by rw[ew,if_pos hL]];simp only[go_sem,iC,ji,jj,jk];refine aI E8 (fun h5=>?_) (fun h5=>?_)
      .exact absurd h5 (by omega)
      simp only[go_sem];rw[HN];simp only[go_sem];rw[MU,oL];refine⟨⟨(w3,v+1),⟨sI,Dp (by rw[xc,hL]at HM ⊢;simpa using HM)⟩,by simp only;omega⟩,by show 1000-(v+1)<1000-v;omega,id,?_⟩;rw[aD ⟨by omega,by omega⟩];exact qy ⟨⟨rfl,rfl⟩,⟨rfl,rfl⟩,⟨rfl,rfl⟩,⟨rfl,rfl⟩,trivial⟩ (jM jN) (fun x hx=>ow rfl rfl hx) rfl
     rw[show ew w3.be[v]=.sl none (w3.be[v].map aL)from by rw[ew,if_neg hL]];simp only[go_sem,iC,ji,jj,jk];refine aI E8 ?_ ?_<;>intro h5<;>simp only[go_sem,iC,ji,jj,jk]
     .have jo:i<w3.be[v].length:=by omega
      refine bC E8 (X:={ x:SW×Nat // (((iA 1000 ns (bL a,bL b) x.1 d1∧PC x.1 v)∧PI x.1 v i)∧PK x.1 v i x.2)∧x.2<=(w3.ab.getD v []).length∧(x.1.be=w3.be∧x.1.ab=w3.ab) }) (fun x=>[(2,.d (i64 1000)),(7,.bx [0] 0),(9,.d (i64 d1)),(10,.d (i64 v)),(11,.d (i64 i)),(12,.d (i64 x.1.2))])
       (fun x=>wO 402 [11] ns root 1000 x.1.1) [0,2,4,5,11,402] (fun x=>(w3.ab.getD v []).length-x.1.2) ⟨(w3,0),⟨⟨⟨sI,MV⟩,Hq⟩,fun u hu=>absurd hu (ami _)⟩,ale _,rfl,rfl⟩ id ?_ ?_
      .exact qy ⟨⟨rfl,rfl⟩,⟨rfl,rfl⟩,⟨rfl,rfl⟩,⟨rfl,rfl⟩,⟨rfl,rfl⟩,⟨rfl,rfl⟩,trivial⟩ (jM jN) (fun x hx=>ow rfl rfl hx) rfl
      rintro⟨⟨w4,k⟩,⟨⟨⟨vg,HQ⟩,MY⟩,MZ⟩,HR,xd,yQ⟩ E9;refine bK E9 fun Q6 M0 EA=>?_;simp only at vg HQ MY MZ HR xd yQ ⊢;have M1:v<w4.be.length:=by rw[xd];exact HO
      have HS:v<w4.ab.length:=by rw[yQ];exact MX
      have WJ:w4.be[v]=w3.be[v]:=by simp only[xd]
      have WK:w4.ab[v]=w3.ab[v]:=by simp only[yQ]
      have akV:=hB w4.al vg.nd vg.sG;have hl5:w4.ab[v].length=w3.ab[v].length:=by rw[WK]
      have hL5:w4.be[v]≠[]:=by rw[WJ];exact hL
      have M3:i<w4.be[v].length:=by rw[WJ];exact jo
      rw[uZ]at HR
      have HT:k=w3.ab[v].length->PI w4 v (i+1):=fun e j hj s' bm=>by
       by_cases g:j<i
       .exact MY j g s' bm
       .obtain rfl:j=i:=by omega
        obtain⟨m,hm,rfl⟩:=alx bm;have kF:m<w3.ab[v].length:=by rw[yQ,uZ]at hm;exact hm
        have:=MZ m (by omega)
        rwa [yP hm]at this
      simp only[go_sem,iC,ji,jj,jk];refine⟨by omega,?_⟩;rw[xb HS];by_cases hM:w4.ab[v]=[]
      .rw[show ew w4.ab[v]=.ao from by rw[ew,if_pos hM]];simp only[go_sem,iC,ji,jj,jk];refine aI EA (fun h6=>?_) (fun h6=>?_)
       .exact absurd h6 (by omega)
       simp only[go_sem];rw[M0];simp only[go_sem];rw[HN,oL];refine⟨⟨(w4,i+1),⟨⟨vg,HQ⟩,HT (by rw[<-WK,hM]at HR ⊢;simpa using HR)⟩,by simp only;rw[xd,xc];omega,by simp only;rw[xd,Eh],by simp only;rw[yQ,MW]⟩,by show(w2.be.getD v []).length-(i+1)<(w2.be.getD v []).length-i;rw[<-Eh,xc];omega,id,?_⟩;rw[aD ⟨by omega,by omega⟩];exact qy ⟨⟨rfl,rfl⟩,⟨rfl,rfl⟩,⟨rfl,rfl⟩,⟨rfl,rfl⟩,⟨rfl,rfl⟩,trivial⟩ (jM jN) (fun x hx=>ow rfl rfl hx) rfl
      rw[show ew w4.ab[v]=.sl none (w4.ab[v].map aL)from by rw[ew,if_neg hM]];simp only[go_sem,iC,ji,jj,jk];refine aI EA ?_ ?_<;>intro h6<;>simp only[go_sem,iC,ji,jj,jk]
      .have Dl:k<w4.ab[v].length:=by omega
       refine bz mixed EA fun X=>?_;simp only[go_sem,iC,ji,jj,jk];refine fO X [0] 0 none [.d (.sl (some 4) (ns.map aK)),.d (i64 root),.d (i64 1000),.vw [11] 0 w4.al.length,.va [2] 0 997,.vw [4] 0 w4.be.length,.vw [5] 0 w4.ab.length,.d (.bool w4.mx),.d (.bool w4.fl)] (by simp only[go_sem,iC]) rfl rfl ?_;simp only[go_sem,iC,ji,jj,jk];refine⟨by omega,?_⟩;rw[xb M1,show ew w4.be[v]=.sl none (w4.be[v].map aL)from by rw[ew,if_neg hL5]];simp only[go_sem,iC,ji,jj,jk];refine⟨by omega,?_⟩;rw[WG M3];simp only[go_sem,iC,ji,jj,jk];refine fO X [0] 0 none [.d (.sl (some 4) (ns.map aK)),.d (i64 root),.d (i64 1000),.vw [11] 0 w4.al.length,.va [2] 0 997,.vw [4] 0 w4.be.length,.vw [5] 0 w4.ab.length,.d (.bool w4.mx),.d (.bool w4.fl)] (by simp only[go_sem,iC]) rfl rfl ?_;simp only[go_sem,iC,ji,jj,jk];refine⟨by omega,?_⟩;rw[xb HS,show ew w4.ab[v]=.sl none (w4.ab[v].map aL)from by rw[ew,if_neg hM]];simp only[go_sem,iC,ji,jj,jk];refine⟨by omega,?_⟩;rw[WG Dl];simp only[go_sem,iC,ji,jj,jk];have yO:((w4.be.getD v []).getD i [],(w4.ab.getD v []).getD k [])=(w4.be[v][i],w4.ab[v][k]):=by rw[yP M1,yP HS,yP M3,yP Dl]
       have hR:gf 1000 ns (bL a,bL b) (w4.be[v][i],w4.ab[v][k]):=vg.ajO (v:=v) (by omega) (by rw[yP M1];exact ak2 M3) (by rw[yP HS];exact ak2 Dl);have WL:=ajN MZ;rw[yO]at WL;refine Rh X sW [.bx [0] 0,.d (fQ (w4.be[v][i],w4.ab[v][k]))] (wO 202 [1] ns root 1000 w4) [0,1,2,4,5,202] (.az []) _ (MJ ns root 1000 w4 (w4.be[v][i],w4.ab[v][k]) (mb _ hR) vg.few vg.bk (by omega) (yM (mb _ hR))) rfl rfl ⟨by first|decide|simp only[go_sem],by rw[aT];decide⟩ rfl (HA rfl rfl) HC (HD (by rw[(lE w4 _).2.1]) (by rw[(lE w4 _).2.2.1]) (MN w4 _).symm) ?_;rw[HE _ _ _ rfl];simp only[go_sem];refine⟨Wu (l:=[([],[],[]),([],[],[]),([[0]],[],[]),([[0]],[],[]),([[0]],[],[]),([],[],[]),([[4]],[],[]),([[4]],[],[]),([],[],[]),([],[],[]),([],[],[]),([],[],[]),([[0]],[],[]),([[0]],[],[]),([[0]],[],[]),([],[],[]),([[5]],[],[]),([[5]],[],[]),([],[],[]),([],[],[]),([],[],[]),([],[],[])]) 22 rfl rfl (by decide +kernel) (by decide +kernel),?_⟩;rw[M0,oL];refine⟨⟨(cn w4 (w4.be[v][i],w4.ab[v][k]),k+1),⟨⟨⟨vg.add hR (mb _ hR),ajL HQ⟩,ajM MY⟩,WL⟩,by simp only;rw[uZ];omega,by simp only;rw[(lE w4 _).2.1,xd],by simp only;rw[(lE w4 _).2.2.1,yQ]⟩,by show(w3.ab.getD v []).length-(k+1)<(w3.ab.getD v []).length-k;rw[uZ];omega,tB 119,?_⟩;rw[aD ⟨by omega,by omega⟩];exact HF ⟨⟨rfl,rfl⟩,⟨rfl,rfl⟩,⟨rfl,rfl⟩,⟨rfl,rfl⟩,⟨rfl,rfl⟩,⟨rfl,rfl⟩,trivial⟩ rfl rfl rfl rfl
      .have nK:k=w3.ab[v].length:=by omega
       rw[M0];simp only[go_sem];rw[HN,oL];refine⟨⟨(w4,i+1),⟨⟨vg,HQ⟩,HT nK⟩,by simp only;rw[xd,xc];omega,by simp only;rw[xd,Eh],by simp only;rw[yQ,MW]⟩,by show(w2.be.getD v []).length-(i+1)<(w2.be.getD v []).length-i;rw[<-Eh,xc];omega,id,?_⟩;rw[aD ⟨by omega,by omega⟩];exact qy ⟨⟨rfl,rfl⟩,⟨rfl,rfl⟩,⟨rfl,rfl⟩,⟨rfl,rfl⟩,⟨rfl,rfl⟩,trivial⟩ (jM jN) (fun x hx=>ow rfl rfl hx) rfl
     .rw[HN];simp only[go_sem];rw[MU,oL];refine⟨⟨(w3,v+1),⟨sI,Dp (by rw[xc]at HM ⊢;omega)⟩,by simp only;omega⟩,by show 1000-(v+1)<1000-v;omega,id,?_⟩;rw[aD ⟨by omega,by omega⟩];exact qy ⟨⟨rfl,rfl⟩,⟨rfl,rfl⟩,⟨rfl,rfl⟩,⟨rfl,rfl⟩,trivial⟩ (jM jN) (fun x hx=>ow rfl rfl hx) rfl
    .obtain rfl:v=1000:=by omega
     rw[MU];simp only[go_sem];rw[cz,oL];refine⟨⟨(w2,d1),MT,.inr Eg⟩,by show 300001-d1<300001-d;omega,id,?_⟩;exact qy ⟨⟨rfl,rfl⟩,⟨rfl,rfl⟩,⟨rfl,rfl⟩,trivial⟩ (jM jN) (fun x hx=>ow rfl rfl hx) rfl
  .have wj:d=w.al.length:=by have:=hS.dl;omega
   have xA:0<w.al.length:=amW hS.root;have Eg:PC w 1000:=hp.resolve_left (by omega);have HT:=iA.end_ (wj▸hS) (fun v hv s hs s' bm=>Eg v (by omega) s hs s' bm);rw[cz];simp only[go_sem,iC,ji,jj,jk];refine⟨.bx [0] 0,[([0],gC [6] ns root 1000 w)],[0,2,4,5,6],ak [([6],[11])],⟨w,HT,rfl,rfl⟩,?_⟩;refine⟨⟨rfl,rfl⟩,uK fun q hq=>?_,sw (ρ:=id) (by simp) fun q hq=>?_,tv fun q hq _=>?_⟩
   .obtain rfl:=ak3.1 hq;exact⟨rfl,rfl,rfl⟩
   .obtain rfl:=ak3.1 hq;rfl
   .obtain rfl:=ak3.1 hq;rfl
end Go.Proofs.YtpmniabdmbmafaaGreatDoor

namespace Go.Proofs.YtpmniabdmbmafaaGreatDoor
open Go.Ab Tryz
theorem ajS{G}(ns gs:List TN)(root g:Int)(hn:ns.length+gs.length<=4000)(hm:∀n∈gs,Ho n)(OQ:0<=g∧g<=4000)
  (mb:∀q,gf 1000 (ar ns gs) ([root],[g+ns.length]) q->j6 q) (gH:∀q,gf 1000 (ar ns gs) ([root],[g+ns.length]) q->D7 (ar ns gs) q) (tQ:∀i:Nat,(nd (ar ns gs) i).l.length<=1000) (hB:∀al:List SQ,al.Nodup->(∀q∈al,gf 1000 (ar ns gs) ([root],[g+ns.length]) q)->al.length<=300000) :
  HP prog G 9 [bU ns root,bU gs g] (fun r=>∃b:Bool,r=.d (.bool b)∧(b=true↔pw 1000 (ar ns gs) ([root],[g+ns.length]))):=by
 have c1:=aiL (G:=G) ns gs root g (by omega) (by omega) hm;have hX:(ar ns gs).length=ns.length+gs.length:=by simp[ar]
 have e1:bL [root]=[root]:=tU _;have e2:bL [g+(ns.length:Int)]=[g+(ns.length:Int)]:=tU _;have c2:=ajR (G:=G) (ar ns gs) root [root] [g+(ns.length:Int)] (by omega) (by simp) (by simp) (by rw[e1,e2];exact mb) (by rw[e1,e2];exact gH) (fun i _=>by have:=tQ i.toNat;omega) tQ (by rw[e1,e2];exact hB);rw[e1,e2]at c2;unfold bU at c1 c2 ⊢;refine cj func9 rfl (by decide +kernel) (by simp[ntmps9]) (aS fun E=>?_);simp only[go_sem];refine bd E c1 rfl rfl (by simp) ?_;rintro _ rfl;simp only[go_sem];rw[aD ⟨by omega,by omega⟩,Int.add_comm (ns.length:Int) g];refine qP E [17] none [i64 root] rfl ?_;simp only[go_sem];refine qP E [22] none [i64 (g+(ns.length:Int))] rfl ?_;simp only[go_sem];refine qP E [24] (some 2) [.agg [.sl none [i64 root],.sl none [i64 (g+(ns.length:Int))]]] rfl ?_;simp only[go_sem];unfold gC at c2;refine iJ E _ _ _ c2 rfl rfl ⟨by simp only[go_sem],by first|(rw[aT];decide)|(simp only[go_sem]<;>(try rw[aT])<;>decide)⟩ (by simp only[go_sem]) (by simp only[go_sem]) (by simp only[go_sem]) ?_;rintro _ _ ⟨w,hw,rfl,rfl⟩;refine⟨by simp only[go_sem],?_⟩;simp only[go_sem];refine lV E [.U [25,0] [.unk,.unk,.unk,.unk,.unk,.unk,.unk,.bool w.mx,.bool w.fl],.B [25,0] (.agg [.unk,.unk,.unk,.unk,.unk,.unk,.unk,.bool w.mx,.bool w.fl])] [.ptr (.agg [.unk,.unk,.unk,.unk,.unk,.unk,.unk,.bool w.mx,.bool w.fl])] (ajK w.mx w.fl) ?_ ?_ rfl ?_ ⟨by simp only[go_sem],by first|(rw[aT];decide)|(simp only[go_sem]<;>(try rw[aT])<;>decide)⟩ ?_
 .rintro r ae ⟨rfl,_,rfl⟩;exact⟨rfl,rfl⟩
 .simp only[go_sem];refine⟨_,rfl,?_⟩;simp only[go_sem];exact⟨.inr trivial,.inr trivial,.inr trivial⟩
 .simp only[go_sem]
 rintro _ _ ⟨rfl,_,rfl⟩;simp only[go_sem];refine⟨_,rfl,?_⟩;rw[<-hw,decide_eq_true_iff];cases w.mx<;>cases w.fl<;>simp
end Go.Proofs.YtpmniabdmbmafaaGreatDoor

namespace Go.Proofs.YtpmniabdmbmafaaGreatDoor
open Go.Ab Tryz
def iP(l:List Int)(i:Nat):List Int:=(List.range l.length).map fun q=>l.getD (if q<i∨l.length<=q+i then l.length-1-q else q) 0
theorem WM(l:List Int)(i:Nat):(iP l i).length=l.length:=by simp[iP]
theorem WN{l:List Int}{i q:Nat}(h:q<l.length):(iP l i).getD q 0=l.getD (if q<i∨l.length<=q+i then l.length-1-q else q) 0:=by
 simp[iP,h]
theorem ajT(l:List Int):iP l 0=l:=by
 refine al9 (by simp[iP]) fun q h1 h2=>?_;have:¬l.length<=q:=by omega
 simp[iP,h2,this]
theorem ajU{l:List Int}{i:Nat}(h:l.length<=2*i+1):iP l i=l.reverse:=by
 refine al9 (by simp[iP]) fun q h1 h2=>?_;have mM:q<l.length:=by simpa using h2
 have h3:l.length-1-q<l.length:=by omega
 by_cases e:q<i∨l.length<=q+i
 .simp[iP,e,h3]
 .have:l.length-1-q=q:=by omega
  simp[iP,e,mM,this]
theorem ajV{l:List Int}{i:Nat}(h:2*i+1<l.length):((iP l i).set i (l.getD (l.length-1-i) 0)).set (l.length-1-i) (l.getD i 0)=iP l (i+1):=by
 refine al9 (by simp[iP]) fun q h1 h2=>?_;have mM:q<l.length:=by simpa[iP]using h2
 simp only[amP];by_cases e1:l.length-1-i=q
 .subst e1;have:l.length-1-i<i+1∨l.length<=l.length-1-i+(i+1):=by omega
  have e2:l.length-1-(l.length-1-i)=i:=by omega
  simp[iP,this,e2]
 .rw[if_neg e1];by_cases e2:i=q
  .subst e2;have:i<i+1∨l.length<=i+(i+1):=by omega
   simp[iP,this]
  .rw[if_neg e2];have:(q<i+1∨l.length<=q+(i+1))↔(q<i∨l.length<=q+i):=by omega
   simp[iP,this]
def Ei(ns:List TN):Prop:=∀i,i<ns.length->(∀x∈fU (nd ns i),0<=x∧x<ns.length)∧(fU (nd ns i)).length<=30
theorem WO{α:Type}{l:List α}(h:0<l.length):∃l' x,l=l'++[x]:=by
 refine⟨l.dropLast,l.getLast (fun e=>by subst e;simp at h),?_⟩;exact(anN _).symm
theorem ajW{n:TN}{all:Int}(h:kK n all=true):n.l.length<=30:=by
 simp only[kK,ak7,alH,al0,amD,decide_eq_true_eq]at h;exact h.1.2.2.2
theorem WQ{ns:List TN}(h:tH ns=true):Ei ns:=by
 intro i hi;have h1:=zZ h hi;refine⟨Gd h1,?_⟩;have h2:=ajW h1;unfold fU;split
 .simp
 .split<;>simp;omega
theorem fy.ajX{α:Type}{kids:α->List α}{out todo r:List α}(h:fy kids out todo r):(∀a∈out,a∈r)∧∀a∈todo,a∈r:=by
 induction h with
 |done out=>exact⟨fun a h=>h,by simp⟩
 |skip h _ ih =>
   refine⟨ih.1,fun a ha=>?_⟩;rcases ak1.1 ha with ha|ha
   .exact ih.2 a ha
   .rw[ak3.1 ha];exact ih.1 _ h
 |take h _ ih =>
   refine⟨fun a ha=>ih.1 a (alm _ ha),fun a ha=>?_⟩;rcases ak1.1 ha with ha|ha
   .exact ih.2 a (alm _ ha)
   .rw[ak3.1 ha];exact ih.1 _ (by simp)
theorem fy.ajY{α:Type}{kids:α->List α}{out todo r:List α}(h:fy kids out todo r):(∀a∈out,∀b∈kids a,b∈out∨b∈todo)->∀a∈r,∀b∈kids a,b∈r:=by
 induction h with
 |done out=>exact fun h a ha b hb=>(h a ha b hb).resolve_right (by simp)
 | @skip out todo r s h _ ih =>
   refine fun h2=>ih fun a ha b hb=>?_;rcases h2 a ha b hb with g|g
   .exact .inl g
   .rcases ak1.1 g with g|g
    .exact .inr g
    .rw[ak3.1 g];exact .inl h
 | @take out todo r s h _ ih =>
   refine fun h2=>ih fun a ha b hb=>?_;rcases ak1.1 ha with ha|ha
   .rcases h2 a ha b hb with g|g
    .exact .inl (alm _ g)
    .rcases ak1.1 g with g|g
     .exact .inr (alm _ g)
     .rw[ak3.1 g];exact .inl (by simp)
   .rw[ak3.1 ha]at hb;exact .inr (alB _ (List.mem_reverse.2 hb))
def oy(ns:List TN)(x:Int):List Int:=fU (nd ns x.toNat)
def jg(ns:List TN)(x:Int):Prop:=0<=x∧x<ns.length
def oz(N:Nat):List Int:=(List.range N).map fun(i:Nat)=>(i:Int)
theorem ajZ(N:Nat):(oz N).length=N:=by simp[oz]
theorem aj0{ns:List TN}{x:Int}(h:jg ns x):x∈oz ns.length:=ak6.2 ⟨x.toNat,alw.2 (by have:=h.1;have:=h.2;omega),by have:=h.1;omega⟩
structure Bl(ns:List TN)(root:Int)(out td:List Int):Prop where
 wy:∀s∈td,jg ns s
 w7:∀s∈out,jg ns s
 gG:∀r,fy (oy ns) out td r->fy (oy ns) [] [root] r
 hlen:ly (oz ns.length) out+out.length<=ns.length
 mb:td.length+40*ly (oz ns.length) out<=40*ns.length+1
theorem Bl.init{ns:List TN}{root:Int}(h:jg ns root):Bl ns root [] [root]:=by
 have hu:ly (oz ns.length) ([]:List Int)<=ns.length:=by
  have:=an7 (p:=fun x:Int=>!decide (x∈([]:List Int))) (l:=oz ns.length);rw[ajZ]at this;exact this
 refine⟨fun s hs=>?_,by simp,fun _ h=>h,by simpa using hu,by simp;omega⟩;rw[ak3.1 hs];exact h
theorem Bl.skip{ns:List TN}{root:Int}{out td:List Int}{s:Int}(h:Bl ns root out (td++[s]))(hs:s∈out):Bl ns root out td:=by
 refine⟨fun a ha=>h.wy a (alm _ ha),h.w7,fun r hr=>h.gG r (.skip hs hr),h.hlen,?_⟩;have:=h.mb;rw[ak4]at this;simp only[List.length_cons,List.length_nil]at this;omega
theorem Bl.lt{ns:List TN}{root:Int}{out td:List Int}{s:Int}(h:Bl ns root out (td++[s]))(hs:s∉out):ly (oz ns.length) (out++[s])<ly (oz ns.length) out :=
 T6 hs (aj0 (h.wy s (by simp)))
theorem Bl.take{ns:List TN}{root:Int}{out td:List Int}{s:Int}(hk:Ei ns)(h:Bl ns root out (td++[s]))(hs:s∉out):Bl ns root (out++[s]) (td++(oy ns s).reverse):=by
 have aW:jg ns s:=h.wy s (by simp);have hlt:=h.lt hs;obtain⟨nw,fb⟩:=hk s.toNat (by have:=aW.1;have:=aW.2;omega);refine⟨fun a ha=>?_,fun a ha=>?_,fun r hr=>h.gG r (.take hs hr),?_,?_⟩
 .rcases ak1.1 ha with ha|ha
  .exact h.wy a (alm _ ha)
  .exact nw a (List.mem_reverse.1 ha)
 .rcases ak1.1 ha with ha|ha
  .exact h.w7 a ha
  .rw[ak3.1 ha];exact aW
 .have:=h.hlen;rw[ak4];simp only[List.length_cons,List.length_nil];omega
 .have:=h.mb;rw[ak4]at this;rw[ak4,anr];simp only[List.length_cons,List.length_nil]at this;show td.length+(fU (nd ns s.toNat)).length+_<=_;omega
def AJ(ns:List TN)(root:Int)(l:List Int):Prop:=fy (oy ns) [] [root] l∧(∀s∈l,jg ns s)∧l.length<=ns.length
theorem WR{l:List Int}{i:Nat}(h:i<l.length):(l.map i64).getD i .aY=i64 (l.getD i 0):=by simp[h]
theorem aj1{G}(l:List Int)(hl:l.length<=1000000):bZ prog G 76 [.vw [45,0] 0 l.length] [([45,0],.arr none (l.map i64))] [45] (fun r ae=>r=.az []∧ae=[([45,0],.arr none (l.reverse.map i64))]):=by
 refine jc func76 rfl (by decide +kernel) (by simp[ntmps76]) (aS fun E=>?_);simp only[go_sem];refine BP E (X:={ i:Nat // i<=l.length }) (fun x=>[(0,.vw [45,0] 0 l.length),(2,.d (i64 x.1)),(3,.d (i64 ((l.length:Int)-1-x.1)))]) (fun x=>[([45,0],.arr none ((iP l x.1).map i64))]) [45] (fun x=>l.length-x.1) ⟨0,ale _⟩ ?_ ?_
 .simp only[go_sem];rw[aD ⟨by omega,by omega⟩,ajT];exact⟨congrArg (fun z=>AV.d (i64 z)) (by omega),rfl⟩
 rintro⟨i,hi⟩ E';simp only[go_sem];refine aI E' ?_ ?_<;>intro h1<;>simp only[go_sem]
 .obtain⟨j,hj⟩:∃j:Nat,j=l.length-1-i:=⟨_,rfl⟩
  have aX:(l.length:Int)-1-i=(j:Int):=by omega
  rw[aX];refine bz mixed E' fun X=>?_;simp only[go_sem];have e6:j<(iP l i).length:=by rw[WM];omega
  have bF:i<(iP l i).length:=by rw[WM];omega
  refine⟨by omega,?_⟩;rw[WR e6];simp only[go_sem];refine⟨by omega,?_⟩;rw[WR bF];simp only[go_sem]
  have uq:(iP l i).getD j 0=l.getD j 0:=by
   rw[WN (by omega)];rw[if_neg (by omega)]
  have hii:(iP l i).getD i 0=l.getD i 0:=by
   rw[WN (by omega)];rw[if_neg (by omega)]
  have ag:=ajV (l:=l) (i:=i) (by omega);rw[<-hj]at ag;refine⟨⟨by omega,by omega⟩,⟨by omega,by omega⟩,by decide +kernel,⟨i+1,by omega⟩,by show l.length-(i+1)<_;omega,⟨by rw[aD ⟨by omega,by omega⟩];rfl,?_⟩,?_⟩
  .rw[aD ⟨by omega,by omega⟩];exact congrArg (fun z=>AV.d (i64 z)) (by show(j:Int)-1=(l.length:Int)-1-((i+1:Nat):Int);omega)
  .rw[uq,hii];show some (Ob.arr none (((List.map i64 (iP l i)).set i (i64 (l.getD j 0))).set j (i64 (l.getD i 0))))=some (Ob.arr none (List.map i64 (iP l (i+1))));rw[<-ag,amr,amr]
 .refine⟨_,_,[45],id,⟨rfl,rfl⟩,?_⟩;simp only[go_sem];rw[ajU (by omega)]
theorem aj2{G}(l:List Int)(hl:l.length<=1000000):bZ prog G 62 [.d (aL l)] [] [] (fun r ae=>r=.vw [0] 0 l.length∧ae=[([0],.arr none (l.map i64))]):=by
 refine bZ.PG (Q:=fun r ae=>(r=.d .ao∧ae=[]∧l=[])∨(r=.vw [0] 0 l.length∧ae=[([0],.arr none (l.map i64))])) ?_ 0 none (by simp) ?_
 .unfold aL;refine jc func62 rfl (by decide +kernel) (by simp[ntmps62]) (aS fun E=>?_);simp only[go_sem];refine JS E (e:=3) (by simp only[go_sem]) (by simp only[go_sem]) rfl fun b hb=>?_;simp only[go_sem];refine ck E ?_ ?_<;>intro h<;>simp only[go_sem]
  .have:l=[]:=by simpa using hb h
   subst this;refine⟨_,[],[],id,.inl ⟨rfl,rfl,rfl⟩,?_⟩;simp only[go_sem]
  .refine⟨by omega,_,_,[0],ak [([0],[7])],.inr ⟨rfl,rfl⟩,?_⟩;simp only[go_sem]
 .rintro r ae (⟨rfl,rfl,rfl⟩|h)
  .exact .inr ⟨rfl,rfl,rfl,rfl⟩
  .exact .inl h
theorem fy.ex{ns:List TN}{root:Int}(hk:Ei ns):∀(m:Nat) (out td:List Int),td.length+40*ly (oz ns.length) out<=m->Bl ns root out td->∃r,fy (oy ns) out td r:=by
 intro m
 induction m with
 |zero =>
   intro out td h hb;have:td=[]:=amh (by omega);subst this;exact⟨_,.done _⟩
 |succ m ih =>
   intro out td h hb;by_cases h0:td=[]
   .subst h0;exact⟨_,.done _⟩
   obtain⟨td,x,rfl⟩:=WO (l:=td) (amJ.2 h0);rw[ak4]at h;simp only[List.length_cons,List.length_nil]at h;by_cases hx:x∈out
   .obtain⟨r,hr⟩:=ih out td (by omega) (hb.skip hx);exact⟨r,.skip hx hr⟩
   .have h1:=hb.lt hx;have aW:=hb.wy x (by simp);have h2:(oy ns x).length<=30:=(hk x.toNat (by have:=aW.1;have:=aW.2;omega)).2;obtain⟨r,hr⟩:=ih (out++[x]) (td++(oy ns x).reverse) (by rw[ak4,anr];omega) (hb.take hk hx);exact⟨r,.take hx hr⟩
theorem AJ.ex{ns:List TN}{root:Int}(hk:Ei ns)(hr:jg ns root):∃l,AJ ns root l:=by
 obtain⟨r,h⟩:=fy.ex hk _ [] [root] (ali _) (.init hr);refine⟨r,h,?_⟩
 have:∀{out td r:List Int},fy (oy ns) out td r->Bl ns root out td->(∀s∈r,jg ns s)∧r.length<=ns.length:=by
  intro out td r h
  induction h with
  |done out=>exact fun hb=>⟨hb.w7,by have:=hb.hlen;omega⟩
  |skip hs _ ih=>exact fun hb=>ih (hb.skip hs)
  |take hs _ ih=>exact fun hb=>ih (hb.take hk hs)
 exact this h (.init hr)
theorem fy.aj3{α:Type}{kids:α->List α}{out td r:List α}{s:α}(h:fy kids out (td++[s]) r)(hs:s∈out):fy kids out td r:=by
 generalize ht:td++[s]=t at h
 cases h with
 |done=>simp at ht
 |skip h1 t1=>obtain⟨rfl,rfl⟩:=wW ht;exact t1
 |take h1 t1=>obtain⟨rfl,rfl⟩:=wW ht;exact absurd hs h1
theorem fy.aj4{α:Type}{kids:α->List α}{out td r:List α}{s:α}(h:fy kids out (td++[s]) r)(hs:s∉out):fy kids (out++[s]) (td++(kids s).reverse) r:=by
 generalize ht:td++[s]=t at h
 cases h with
 |done=>simp at ht
 |skip h1 t1=>obtain⟨rfl,rfl⟩:=wW ht;exact absurd h1 hs
 |take h1 t1=>obtain⟨rfl,rfl⟩:=wW ht;exact t1
theorem fy.aj5{α:Type}{kids:α->List α}{out r:List α}(h:fy kids out [] r):r=out:=(fy.done out).fn h |>.symm
theorem fy.aj6{α:Type}{kids:α->List α}{out td r:List α}(h:fy kids out td r):∃z,r=out++z:=by
 induction h with
 |done out=>exact⟨[],by simp⟩
 |skip _ _ ih=>exact ih
 | @take out td r s _ _ ih=>obtain⟨z,rfl⟩:=ih;exact⟨s::z,by simp⟩
end Go.Proofs.YtpmniabdmbmafaaGreatDoor

namespace Go.Proofs.YtpmniabdmbmafaaGreatDoor
open Go.Ab Tryz
def qz(N:Nat)(out:List Int):List D:=(List.range N).map fun(j:Nat)=>D.bool (decide ((j:Int)∈out))
theorem aj7(N:Nat):List.replicate N (D.bool false)=qz N []:=by
 refine al9 (by simp[qz]) fun q h1 h2=>?_;simp[qz]
theorem aj8{N:Nat}{out:List Int}{x:Nat}(hx:x<N):(qz N out).getD x .aY=.bool (decide ((x:Int)∈out)):=by simp[qz,hx]
theorem aj9{N:Nat}{out:List Int}{x:Nat}(_hx:x<N):(qz N out).set x (.bool true)=qz N (out++[(x:Int)]):=by
 refine al9 (by simp[qz]) fun q h1 h2=>?_;have hq:q<N:=by simpa[qz]using h2
 simp only[amP];by_cases e:x=q
 .subst e;simp[qz]
 .rw[if_neg e];have:¬((q:Int)=(x:Int)):=by omega
  simp[qz,this]
def Ej(ns:List TN)(r0 root:Int):List D:=[.ptr (.agg [.sl (some 4) (ns.map aK),i64 r0]),.ptr (i64 root)]
theorem aka{G}(ns:List TN)(r0 root:Int)(l:List Int)(hN:ns.length<=4000)(fW:∀n∈ns,n.l.length<=1000000)(hk:Ei ns)(hr:jg ns root)(hl:AJ ns root l) :
  Fx prog G 75 (Ej ns r0 root) l.length (fun n=>[i64 (l.getD n 0)]):=by
 refine Qu func75 rfl (by decide +kernel) (by simp[ntmps75,Ej]) rfl fun z hz=>?_;unfold Ej;refine eD (fp fun E=>?_);simp only[go_sem];refine⟨⟨by omega,by omega,by omega,by omega⟩,?_⟩;rw[show List.replicate ns.length (D.bool false)=qz ns.length []from aj7 _];refine eD (fp fun E=>?_);simp only[go_sem]
 refine zE (Qm (X:={ x:List Int×List Int×List Int // Bl ns root x.1 x.2.1∧fy (oy ns) x.1 x.2.1 l }) (fun x=>mk [(0,.d (.yl z.l)),(1,.d (.ptr (.agg [.sl (some 4) (ns.map aK),i64 r0]))),(4,.vw [98] 0 ns.length),(5,.vw [99] 0 x.1.2.1.length)]
  [([98],.arr none (qz ns.length x.1.1)),([99],.arr none ((x.1.2.1++x.1.2.2).map i64))] [98,99]) (fun x=>II z x.1.1.length) (fun x=>x.1.2.1.length+40*ly (oz ns.length) x.1.1) ⟨([],[root],[]),.init hr,hl.1⟩ ⟨ak [([98],[11]),([99],[13])],cw.le ?_⟩ (fun _ _ h=>h) ?_)
 .simp only[go_sem]
  all_goals rfl
 rintro⟨⟨out,td,rest⟩,iF,HU⟩;simp only at iF HU ⊢;generalize hΦ:zF _ _ _ _ _ _ _ _=Φ';refine eD (fp fun E=>?_);simp only[go_sem];refine aI E ?_ ?_<;>intro h1<;>simp only[go_sem]
 .obtain⟨td,x,rfl⟩:=WO (l:=td) (by omega);have aW:jg ns x:=iF.wy _ (by simp);obtain⟨x,rfl⟩:∃y:Nat,x=(y:Int):=⟨x.toNat,by have:=aW.1;omega⟩
  have jt:x<ns.length:=by have:=aW.2;omega
  have aU:nd ns x∈ns:=by rw[x9 jt];exact ak2 jt
  obtain⟨nw,fb⟩:=hk x jt;have mb:=iF.mb;have hle:=iF.hlen;have hlt:(td++[(x:Int)]).length=td.length+1:=by simp
  have hw:lL (((td++[(x:Int)]).length:Int)-1)=(td.length:Int):=by rw[aD ⟨by omega,by omega⟩];omega
  refine zE (eD (fp fun E=>?_));simp only[go_sem];rw[hw];refine⟨by omega,?_⟩;have hx:(List.map i64 (td++[(x:Int)]++rest)).getD (td.length:Int).toNat .aY=i64 x:=by simp
  rw[hx];simp only[go_sem];refine eD (fp fun E=>?_);simp only[go_sem];rw[hw];refine⟨by omega,?_⟩;refine eD (fp fun E=>?_);simp only[go_sem];refine⟨by omega,?_⟩;rw[aj8 jt];simp only[go_sem];refine aI E ?_ ?_<;>intro hm<;>simp only[go_sem]
  .subst hΦ;refine J6 (show { x:List Int×List Int×List Int // Bl ns root x.1 x.2.1∧fy (oy ns) x.1 x.2.1 l } from⟨(out,td,(x:Int)::rest),iF.skip hm,HU.aj3 hm⟩) ?_ id (cw.le ?_) (fun _ _ h=>h)
   .show td.length+40*ly (oz ns.length) out<(td++[(x:Int)]).length+40*ly (oz ns.length) out;omega
   .simp only[go_sem];simp
  .have WS:=HU.aj4 hm;have akb:=iF.take hk hm;have Eu:=iF.lt hm;obtain⟨z2,nY⟩:=WS.aj6;have qg:out.length<l.length:=by rw[nY];simp
   have gS:l.getD out.length 0=(x:Int):=by rw[nY];simp
   refine eD (fp fun E=>?_);simp only[go_sem];refine⟨by omega,?_⟩;rw[aj9 jt];refine eD (eD (Ql (wo rfl ?_)));simp only[go_sem];refine wo rfl ?_;simp only[go_sem];refine Qs hz qg (by simp) rfl (by simp only[go_sem];rw[gS]) ?_ ?_
   .refine wo rfl ?_;simp only[go_sem];refine Fv (fp fun E=>?_);simp only[go_sem];refine fp fun E=>?_;simp only[go_sem];refine⟨by omega,?_⟩;rw[C9 jt];simp only[go_sem];refine bd E (JT (nd ns x) (fW _ aU)) rfl rfl (by simp) ?_;rintro _ rfl;obtain⟨K,hK⟩:∃K,K=fU (nd ns x):=⟨_,rfl⟩
    rw[<-hK]at fb nw ⊢;simp only[go_sem];refine iJ E [.d (aL K)] [] [] (aj2 K (by omega)) rfl rfl ⟨by simp only[go_sem],by rw[aT];decide⟩ rfl (by simp only[go_sem]) (by simp only[go_sem]) ?_;rintro _ _ ⟨rfl,rfl⟩;simp only[go_sem];refine iJ E [.vw [45,0] 0 K.length] [([45,0],.arr none (K.map i64))] [45] (aj1 K (by omega)) rfl rfl ⟨by simp only[go_sem],by rw[aT];decide⟩ rfl (by simp only[go_sem]) (by simp only[go_sem]) ?_;rintro _ _ ⟨rfl,rfl⟩;simp only[go_sem];have D6:List.take K.length (List.map i64 K.reverse)=List.map i64 K.reverse:=ak5 (by simp)
    have q7:List.take (td.length-0) (List.map i64 (td++[(x:Int)]++rest))=List.map i64 td:=by
     rw[Nat.sub_zero,alK,alh,anL (by simp),ak5 (by simp)]
    rw[D6,q7];simp only[go_sem];refine⟨by simp,by simp only[anr];omega,Fu ?_⟩;subst hΦ;refine J6 (show { x:List Int×List Int×List Int // Bl ns root x.1 x.2.1∧fy (oy ns) x.1 x.2.1 l } from⟨(out++[(x:Int)],td++(oy ns (x:Int)).reverse,[]),akb,WS⟩) ?_ (ak [([99],[50])]) (cw.le ?_) (fun _ _ h=>by rw[show(out++[(x:Int)]).length=out.length+1 by simp];exact h)
    .have nK:(oy ns (x:Int))=K:=by rw[hK];rfl
     show(td++(oy ns (x:Int)).reverse).length+40*ly (oz ns.length) (out++[(x:Int)])<(td++[(x:Int)]).length+40*ly (oz ns.length) out;rw[nK,ak4,anr];omega
    .have nK:(oy ns (x:Int))=K:=by rw[hK];rfl
     simp only[go_sem];rw[nK];simp
   .refine wo rfl ?_;simp only[go_sem];refine Fv (fp fun E=>?_);simp only[go_sem];subst hΦ;exact Qo (Qr hz (.inr rfl))
 .subst hΦ;refine Qn ?_;simp only[go_sem];refine Qk ?_;have:td=[]:=amh (by omega);subst this;have:=HU.aj5;subst this;exact Qq hz (.inl rfl)
end Go.Proofs.YtpmniabdmbmafaaGreatDoor

namespace Go.Proofs.YtpmniabdmbmafaaGreatDoor
open Go.Ab Tryz
theorem akc{G}(ns:List TN)(r0 root:Int):HP prog G 43 [bU ns r0,i64 root] (fun r=>r=.d (.aH 75 (Ej ns r0 root))):=by
 unfold bU Ej
 have h:bZ prog G 43 [.d (.agg [.sl (some 4) (ns.map aK),i64 r0]),.d (i64 root)] [] [] (fun r ae=>r=.aH 75 [.bx [2] 0,.bx [3] 0]∧ae=[([2],.box [.d (.sl (some 4) (ns.map aK)),.d (i64 r0)]),([3],.box [.d (i64 root)])]):=by
  refine jc func43 rfl (by decide +kernel) (by simp[ntmps43]) (aS fun E=>?_);simp only[go_sem];refine⟨_,_,[2,3],id,⟨rfl,rfl⟩,?_⟩;simp only[go_sem]
 have h2:=bZ.fB (Q':=fun r ae=>r=.aH 75 [.d (.ptr (.agg [.sl (some 4) (ns.map aK),i64 r0])),.bx [3] 0]∧ae=[([3],.box [.d (i64 root)])]) h [2] (.agg [.sl (some 4) (ns.map aK),i64 r0]) (by
  rintro r ae ⟨rfl,rfl⟩;refine⟨rfl,rfl,?_,?_⟩
  .simp only[go_sem]
  .simp only[go_sem])
 have h3:=bZ.fB (Q':=fun r ae=>r=.d (.aH 75 [.ptr (.agg [.sl (some 4) (ns.map aK),i64 r0]),.ptr (i64 root)])∧ae=[]) h2 [3] (i64 root) (by
  rintro r ae ⟨rfl,rfl⟩;refine⟨rfl,rfl,?_,?_⟩
  .simp only[go_sem]
  .simp only[go_sem])
 exact h3.QO (ds:=[_,_]) fun r ae ⟨h1,h2⟩=>⟨⟨h1,by rw[h1];rfl⟩,h2⟩
end Go.Proofs.YtpmniabdmbmafaaGreatDoor

namespace Go.Proofs.YtpmniabdmbmafaaGreatDoor
open Go.Ab Tryz
def mc(ns:List TN)(l:List Int):List Int:=(l.filter fun x=>decide (ah ns x=11)).map fun x=>(nd ns x.toNat).a
theorem akd{ns:List TN}{l:List Int}{n:Nat}(h:n<l.length):mc ns (l.take (n+1))=mc ns (l.take n)++if ah ns (l.getD n 0)=11 then[(nd ns (l.getD n 0).toNat).a]else[]:=by
 have e:l.getD n 0=l[n]:=by simp[h]
 rw[e];unfold mc;rw[ak9 h,amx,alh];congr 1;by_cases hk:ah ns l[n]=11<;>simp[hk]
theorem M4(ns:List TN)(l:List Int):(mc ns l).length<=l.length:=by
 unfold mc;rw[alg];exact al4 _ _
theorem ake{G}(ns:List TN)(root:Int)(l:List Int)(hs:Gc ns)(hm:o8 ns root=0)(hN:ns.length<=2000)(hl:AJ ns root l):HP prog G 21 [bU ns root] (fun r=>r=.d (aL (bL (mc ns l)))):=by
 have c0:=R6 (G:=G) ns root hs;have c1:=akc (G:=G) ns root root;have AL:=DQ hm;have fW:∀n∈ns,n.l.length<=1000000:=fun n hn=>(hs.2 n hn).1;refine p9 ?_;refine Km func21 rfl (by decide +kernel) (by simp[ntmps21]) fun B0 Dq=>?_;unfold bU at *
 refine eD (fp fun E=>?_);simp only[go_sem];refine eD (fp fun E=>?_);simp only[go_sem];refine bd E c0 rfl rfl (by simp) ?_;rintro _ rfl;rw[hm];simp only[go_sem];refine eD (fp fun E=>?_);simp only[go_sem];refine eD (eD (fp fun E=>?_));simp only[go_sem];refine bd E c1 rfl rfl (by simp) ?_;rintro _ rfl;simp only[go_sem];refine CQ [1] (.agg [.sl (some 4) (ns.map aK),i64 root]) rfl rfl ?_;simp only[go_sem];refine QQ [3] 0 99 none [.d .ao] rfl rfl (by rw[aT];decide) ?_;simp only[go_sem];have akf:=WQ AL.2.2.1;have FF:jg ns root:=AL.2.1;refine zE (QK rfl (aka ns root root l (by omega) fW akf FF hl) rfl (X:=Unit) (fun n _=>mk [(1,.d (.ptr (.agg [.sl (some 4) (ns.map aK),i64 root]))),(3,.bx [3] 0)] [([3],.box [.vw [99] 0 (mc ns (l.take n)).length]),([99],.arr none ((mc ns (l.take n)).map i64))] [3,99]) (by simp) (fun n hn=>rfl) ⟨(),id,cw.le ?_⟩ ?_ ?_)
 .simp only[go_sem];exact⟨rfl,rfl⟩
 .rintro n ⟨⟩ hn lb;have hx:=hl.2.1 _ (show l.getD n 0∈l by rw[getD_eq hn];exact ak2 hn);have ki:=hx.1;have jK:=hx.2;have dy:=akd (ns:=ns) hn;have Ac:=M4 ns (l.take n);have q7:(l.take n).length<=n:=by simp;omega
  have wF:=hl.2.2;refine aS fun E=>?_;simp only[go_sem];refine QJ fun E=>?_;simp only[go_sem];refine⟨by omega,?_⟩;rw[C9 (by omega)];simp only[go_sem];refine aI E ?_ ?_<;>intro h1<;>simp only[go_sem]
  .rw[if_pos (show ah ns (l.getD n 0)=11 from h1)]at dy;refine⟨by omega,?_⟩;refine Ko ?_ () (ak [([99],[26])]) rfl ?_
   .simp only[go_sem]
   .simp only[go_sem];rw[dy];simp
  .rw[if_neg (show¬ah ns (l.getD n 0)=11 from h1),alS]at dy;refine Ko ?_ () id rfl ?_
   .simp only[go_sem];exact ali _
   .rw[dy];simp only[go_sem]
 .rintro⟨⟩;refine Fu ?_;rw[alk];simp only[go_sem];refine fp fun E=>?_;simp only[go_sem];have Ac:=M4 ns l;have wF:=hl.2.2;have d1:=S8 (G:=G) 99 (mc ns l) (by omega);have d2:=afB (G:=G) (wL (mc ns l)) (by rw[Ge];omega);rw[show fg (wL (mc ns l))=bL (mc ns l)from rfl,Ge]at d2;refine iJ E _ _ _ d1 rfl rfl ⟨by simp only[go_sem],by rw[aT];decide⟩ (by simp only[go_sem]) (by simp only[go_sem]) (by simp only[go_sem]) ?_;rintro _ _ ⟨rfl,rfl⟩;refine⟨by simp only[go_sem];try simp,?_⟩;simp only[go_sem];rw[show(mc ns l).mergeSort (fun x y=>decide (x<=y))=wL (mc ns l)from rfl];refine uG E (ak [([0],[99])]) _ _ _ d2 rfl rfl ⟨by simp only[go_sem],by rw[aT];decide⟩ rfl (by simp only[go_sem]) (by simp only[go_sem]) ?_;rintro _ _ ⟨zs,rfl,rfl,hz,hf,uu⟩;refine⟨by simp only[go_sem];rw[Ge];omega,?_⟩;simp only[go_sem];refine Kl (.inl rfl) Dq ?_;simp only[go_sem];refine⟨[([99],none,zs)],?_⟩;simp only[go_sem];rw[hz];exact⟨_,rfl,.refl _⟩
theorem akg{G}(ns:List TN)(root:Int)(hs:Gc ns):HP prog G 8 [bU ns root] (fun r=>∃b:Bool,r=.d (.bool b)∧(b=true->o8 ns root=0∧∃l,AJ ns root l∧∀x∈l,ah ns x≠11)):=by
 have c0:=R6 (G:=G) ns root hs;by_cases hm:o8 ns root=0
 .have AL:=DQ hm;obtain⟨l,hl⟩:=AJ.ex (WQ AL.2.2.1) (show jg ns root from AL.2.1);have c1:=ake (G:=G) ns root l hs hm AL.1.2 hl;have hz:=afK (mc ns l);have Ac:=M4 ns l;have wF:=hl.2.2
  have akh:((bL (mc ns l)).length=0)->∀x∈l,ah ns x≠11:=fun h x hx hk=>by
   have h1:(nd ns x.toNat).a∈bL (mc ns l):=(Dm _ _).2 (ak6.2 ⟨x,aly.2 ⟨hx,by simpa using hk⟩,rfl⟩);rw[amh h]at h1;cases h1
  rw[hm]at c0;unfold bU at *
  unfold aL at c1;refine cj func8 rfl (by decide +kernel) (by simp[ntmps8]) (aS fun E=>?_);simp only[go_sem];refine bd E c0 rfl rfl (by simp) ?_;rintro _ rfl;simp only[go_sem];refine bd E c1 rfl rfl (by simp) ?_;rintro _ rfl;simp only[go_sem];exact⟨_,rfl,fun h=>⟨hm,l,hl,akh (by have h:=of_decide_eq_true h;omega)⟩⟩
 .unfold bU at *
  refine cj func8 rfl (by decide +kernel) (by simp[ntmps8]) (aS fun E=>?_);simp only[go_sem];refine bd E c0 rfl rfl (by simp) ?_;rintro _ rfl;simp only[go_sem];refine bH E ?_ ?_<;>intro g<;>simp only[go_sem]
  .exact absurd g hm
  .exact⟨_,rfl,fun h=>by cases h⟩
end Go.Proofs.YtpmniabdmbmafaaGreatDoor

namespace Go.Proofs.YtpmniabdmbmafaaGreatDoor
open Go.Ab Tryz
def Ek(n:TN):Prop:=n.l=[]∨(ij n.k=true∧n.l.length<=30)
theorem WT{R:List EA}(h:∀s∈R,s.fl.length<=30∧s.tl.length<=30):∀i,i<=R.length->∀n∈iM R i,Ek n
 |0,_,n,hn=>by rw[aml hn];exact .inl rfl
 |i+1,hi,n,hn=>by
   have ih:=WT h i (by omega)
   have hs:R.getD i default∈R:=by
    rw[akX,ak0 (by omega)];exact ak2 _
   have bm:=h _ hs;rw[iM]at hn;generalize R.getD i default=s at bm hn
   have aki:∀x∈dO s (cR s.plus),Ek x:=fun x hx=>by
    rcases Ha hx with⟨_,rfl⟩|⟨_,rfl⟩|⟨_,rfl⟩|⟨_,rfl⟩|⟨v,_,rfl⟩|⟨_,rfl⟩|⟨_,rfl⟩|⟨_,rfl⟩
    .exact .inl rfl
    .exact .inl rfl
    .exact .inl rfl
    .exact .inl rfl
    .exact .inl rfl
    .exact .inl rfl
    .exact .inr ⟨rfl,bm.1⟩
    .exact .inr ⟨rfl,bm.2⟩
   have hall:∀(P:List TN) (S:List TN×Nat),(∀x∈P,Ek x)->(∀x∈S.1,Ek x)->∀x∈(P.foldl (il (cy s.plus)) S).1,Ek x:=by
    intro P
    induction P with
    |nil=>intro S _ h2;exact h2
    |cons y P ihP =>
      intro S h1 h2;rw[List.foldl_cons];refine ihP _ (fun x hx=>h1 x (ald _ hx)) fun x hx=>?_;simp only[il,ak1,alc,alv,or_false]at hx;obtain hx|rfl|rfl:=hx
      .exact h2 x hx
      .exact h1 _ alb
      .exact .inl rfl
   unfold kM at hn;rcases ans hn with hn|rfl
   .refine hall _ _ ?_ ?_ n hn
    .exact aki
    .intro x hx;rcases ak1.1 hx with hx|hx
     .exact ih x hx
     .rw[ak3.1 hx];exact .inl rfl
   .exact .inl rfl
theorem akj{ns:List TN}{most:Nat}(h:(p7 ns most).length<=2000):(p7 ns most).length<=most:=by
 simp only[p7,alg,alq,jV]at h ⊢;split at h<;>rename_i hc
 .omega
 .rw[if_neg hc];omega
theorem akk{ns:List TN}{most:Nat}:∀n∈p7 ns most,n.l.length<=40:=fun n hn=>by
 obtain⟨m,_,rfl⟩:=ak6.1 hn;simp only[iK,alq];omega
theorem akl{gs:List TN}{g:Int}(hm:o8 gs g=0)(hl:gs.length<=4000):∀n∈gs,Ho n:=fun n hn=>by
 obtain⟨i,hi,rfl⟩:=alx hn;have ht:=T8 hm;have ho:bI gs (i:Int):=⟨by omega,by omega⟩
 have e:(i:Int).toNat=i:=Int.toNat_natCast i;have hnd:nd gs i=gs[i]:=x9 hi;have hf:=ht.ahB.fd i ho;rw[e,hnd]at hf;refine⟨⟨hf.1,fun q hq=>?_⟩,fun h2=>?_⟩
 .have:=(hf.2 q hq).2;have h1:=this.1;have h3:=this.2;omega
 .have hk:=ahY hm ho;rw[e,hnd]at hk
  have fb:fU gs[i]=[gs[i].a,gs[i].b]:=by
   unfold fU;rw[UH h2];rfl
  rw[fb]at hk;have h1:=hk gs[i].a (by simp);have h3:=hk gs[i].b (by simp);have a1:=h1.1;have a2:=h1.2;have b1:=h3.1;have b2:=h3.2;exact⟨⟨a1,by omega⟩,b1,by omega⟩
theorem akm{ns gs:List TN}{m:Nat}(h1:∀n∈ns,n.l.length<=m)(h2:∀n∈gs,n.l.length<=m)(i:Nat):(nd (ar ns gs) i).l.length<=m:=by
 by_cases hi:i<(ar ns gs).length
 .rw[x9 hi];have hm:=ak2 hi;generalize (ar ns gs)[i]=x at hm;rcases ak1.1 hm with hm|hm
  .exact h1 _ hm
  .obtain⟨n,hn,rfl⟩:=ak6.1 hm;simp only[jx,alg];exact h2 n hn
 .unfold nd;rw[akX,alN (by omega)];simp
open Classical in
theorem WU{G}{ns gs:List TN}{root g:Int}{pos:Bool->Int->Prop}{gr:Int->Prop}(hs:kW ns pos)(hg:dU gs gr)(hr:pos true root)(cX:gr g)(hl:ns.length<=1800)(gS:gs.length<=6)(hm:∀n∈gs,Ho n)(h1:∀n∈ns,n.l.length<=1000)(h2:∀n∈gs,n.l.length<=1000) :
  HP prog G 9 [bU ns root,bU gs g] (fun r=>r=.d (.bool (decide (pw 1000 (ar ns gs) ([root],[g+ns.length]))))):=by
 have g1:gJ [g]∧∀y∈[g],gr y:=⟨am8 _ _,fun y hy=>by rw[ak3.1 hy];exact cX⟩
 have h0:ou pos gr (.F true root [g]):=⟨hr,g1⟩
 have hX:(ar ns gs).length=ns.length+gs.length:=by simp[ar]
 have gH:∀q,gf 1000 (ar ns gs) ([root],[g+(ns.length:Int)]) q->(q.1.length<=gs.length+1∧q.2.length<=gs.length+1)∧(∀x∈q.1,bI (ar ns gs) x)∧∀x∈q.2,bI (ar ns gs) x:=fun q hq=>ah3 hs hg h0 hq;have gG:=hg.ok g cX;refine ahX (ajS (G:=G) ns gs root g (by omega) hm ⟨gG.1,by have:=gG.2;omega⟩ (fun q hq=>?_) (fun q hq=>?_) (akm h1 h2) fun al hn ha=>?_) fun r ⟨b,hb,hi⟩=>?_
 .obtain⟨⟨a1,a2⟩,a3,a4⟩:=gH q hq;exact⟨by omega,by omega,fun x hx=>⟨(a3 x hx).1,by have:=(a3 x hx).2;omega⟩,fun x hx=>⟨(a4 x hx).1,by have:=(a4 x hx).2;omega⟩⟩
 .obtain⟨⟨a1,a2⟩,a3,a4⟩:=gH q hq;exact⟨by omega,by omega,a3,a4⟩
 .have h3:=ah2 hs hg h0 hn ha;have h4:2 ^ gs.length<=64:=Nat.pow_le_pow_right (n:=2) (by omega) gS;have h5:ns.length*(2 ^ gs.length+2 ^ gs.length)<=1800*128:=aoa hl (by omega);have h6:2 ^ gs.length*2 ^ gs.length<=64*64:=aoa h4 h4;omega
 .rw[hb];congr 2
  cases b with
  |true=>exact(decide_eq_true (hi.1 rfl)).symm
  |false=>exact(decide_eq_false fun h=>by have:=hi.2 h;cases this).symm
end Go.Proofs.YtpmniabdmbmafaaGreatDoor

namespace Go.Proofs.YtpmniabdmbmafaaGreatDoor
open Go.Ab
end Go.Proofs.YtpmniabdmbmafaaGreatDoor

namespace Go.Proofs.YtpmniabdmbmafaaGreatDoor
open Go.Ab
end Go.Proofs.YtpmniabdmbmafaaGreatDoor

namespace Go.Proofs.YtpmniabdmbmafaaGreatDoor
open Go.Ab
variable {t:TypeId}{fz:Nat×Nat}
theorem akn(l:List EA):(lS l).length<=2001:=by
 have hl:(lS l).length=min (ra l.length) l.length:=by simp[lS]
 unfold ra at hl;split at hl<;>omega
theorem ako{l:List EA}{st:Int}(h:ff (lS l) st=0):(lS l).length<=10:=by
 have g:=(pb h).n1;have hl:(lS l).length=min (ra l.length) l.length:=by simp[lS]
 unfold ra at hl;split at hl<;>omega
theorem akp{l:List EA}(hs:∀s∈l,x8 s):∀s∈lS l,iL s:=by
 intro s hm;obtain⟨u,hu,rfl⟩:=ak6.1 hm;have h:=hs u (alL hu);exact⟨by simp[q9];have:=h.v;omega,by simp[q9];omega,by simp[q9];omega,fun x hx=>h.fs x (alL hx),fun x hx=>h.ts x (alL hx)⟩
def ni(s:EA):Prop:=s.vars.length<=40
theorem akq(l:List EA):∀s∈lS l,ni s:=by
 intro s hm;obtain⟨u,hu,rfl⟩:=ak6.1 hm;simp[ni,q9];omega
theorem ni.mv{s:EA}(h:ni s)(f:Int->Int):ni (s.mv f):=by
 unfold ni EA.mv at *
 exact h
theorem WV{l:List EA}{st:Nat}(hp:∀s∈l,ni s)(aU:gq l)(ag:st<l.length):∀s∈eV l st,ni s:=by
 intro s h;obtain⟨i,hi,rfl⟩:=ak6.1 h;exact(hp _ (rY (xO aU ag i hi))).mv _
theorem akr{l:List EA}{cls:List Nat}(hp:∀s∈l,ni s):∀s∈gQ cls l,ni s:=by
 intro s h;obtain⟨u,hu,rfl⟩:=ak6.1 h;exact(hp _ hu).mv _
theorem aks{X:List EA}{st:Int}(h:ff X st=0)(hs:∀s∈X,iL s)(hm:∀s∈X,ni s){out:List Nat}(hc:mN (eV X st.toNat) out) :
  ff (oP (eV X st.toNat) out) 0=0∧(oP (eV X st.toNat) out).length<=X.length∧(∀s∈oP (eV X st.toNat) out,iL s)∧∀s∈oP (eV X st.toNat) out,ni s:=by
 have g:=pb h;have ag:st.toNat<X.length:=by have:=g.s0;have:=g.s1;omega
 have en:ff (eV X st.toNat) 0=0:=GN (by rw[anq g.s0];exact h);have gn:=pb en;have ll:=(acM gn.lX hc gn.n0).2;rw[wc]at ll;have l2:=Cw g.lX ag;have ec:=LV en hc;have gc:=pb ec;have dv:out.getD 0 0<(gQ out (eV X st.toNat)).length:=by have:=gc.s1;omega
 refine⟨ahz en hc,by omega,fun s bm=>?_,?_⟩
 .exact(LX (T5 (LX (LW hs h) g.lX ag)) gc.lX dv s bm).ins
 .exact WV (akr (WV hm g.lX ag)) gc.lX dv
theorem WW{R:List EA}(hM:yG R)(hm:∀s∈R,ni s)(hl:R.length<=10):(bw R).length<=1800∧(∀n∈bw R,ij n.k=true∨n.l=[])∧∀n∈bw R,n.l.length<=1000:=by
 have h1:=UE R (b:=47) (fun s hs=>by
  rw[<-Mw];have h1:=(Mx s (cR s.plus)).2.2.2.2.2.2.2;have h3:=hm s hs;unfold ni at h3
  omega) R.length (ali _)
 have h2:R.length*(1+2*47)<=10*95:=aoa hl (by decide)
 have hn:=WT (R:=R) (fun s hs=>by
  obtain⟨i,hi,rfl⟩:=alx hs;have:=hM i hi;rw[akX,ak0 hi,Option.getD_some]at this
  exact⟨this.lf,this.lt⟩) R.length (ali _)
 refine⟨by unfold bw;omega,fun n iH=>(hn n iH).symm.imp (fun h=>h.1) id,fun n iH=>?_⟩;rcases hn n iH with h|h
 .rw[h];simp
 .omega
end Go.Proofs.YtpmniabdmbmafaaGreatDoor

namespace Go.Proofs.YtpmniabdmbmafaaGreatDoor
open Go.Ab Tryz
variable {t:TypeId}{fz:Nat×Nat}
open Classical in
theorem akt{l:List EA}{st:Int}(M5:l.length<=9223372036854775807)(aU:∀s∈l,x8 s){L':D}{g:Int}{gs:List TN}(wU:In L' gs):HP prog (GT t fz) 4 [ct l st,.agg [L',i64 g]] (fun r=>r=.d (.bool true)):=by
 have bm:=aiU wU 6 (by decide);have h6:=akj (ns:=gs) (most:=6);have aku:=akk (ns:=gs) (most:=6);have cb:=aiV (G:=GT t fz) g 6 wU (by decide);generalize hU:p7 gs 6=U at *
 have xq:=aiS U g;have ca:=aeX (G:=GT t fz) l st M5 aU;have lh:=akp aU;have p5:=akq l;have akv:=fun st=>ako (l:=l) (st:=st);have gS:=akn l;generalize hX:lS l=X at *
 have c8:=(akg (G:=GT t fz) U g bm).wk (show v8 [qU U g] [bU U g]from⟨xq,trivial⟩);unfold ct at ca ⊢;refine cj func4 rfl (by decide +kernel) (by simp[ntmps4]) (aS fun E=>?_);simp only[go_sem];refine bd E aiD rfl rfl (by simp) ?_;rintro _ rfl;simp only[go_sem];refine bd E ca rfl rfl (by simp) ?_;rintro _ rfl;simp only[go_sem];refine bd E cb rfl rfl (by simp) ?_;rintro _ rfl;unfold qU;simp only[go_sem];by_cases he:ff X st=0
 .have Mm:=akv st he;have El:=U3 (t:=t) (fz:=fz) X st (by omega) lh he;unfold ct at El;refine bd E El rfl rfl (by simp) ?_;rintro _ ⟨out,AA,rfl⟩;simp only[go_sem];unfold qU at c8;refine bd E c8 rfl rfl (by simp) ?_;rintro _ ⟨bg,rfl,hbg⟩;simp only[go_sem];refine ck E ?_ ?_<;>intro h2<;>simp only[go_sem];obtain⟨M6,B,hB,hBv⟩:=hbg (by simpa using h2);have WX:U.length<=6:=h6 (T8 M6).inn.len;obtain⟨eR,lR,iR,sR⟩:=aks he lh p5 AA;obtain⟨ρ,hρ,hρ0⟩:=ah6 he AA;generalize oP (eV X st.toNat) out=R at *
  obtain⟨mX,oX⟩:=UK he;obtain⟨mR,oR⟩:=UK eR;obtain⟨zX,wX,nX⟩:=WW mX p5 Mm;obtain⟨zR,wR,nR⟩:=WW mR sR (by omega);have hg:dU U (·∈B):=ahZ M6 hB.2.1 (fun y hy z hz=>hB.1.ajY (by simp) y hy z hz) hBv;have M7:g∈B:=hB.1.ajX.2 g (by simp);have WY:=akl M6 (by omega);have WZ:∀n∈U,n.l.length<=1000:=fun n hn=>by have:=aku n hn;omega
  have a1:=RE (G:=GT t fz) R 0 (by omega) iR;have a2:=Vs (G:=GT t fz) R 0 (by omega) (fun s hs=>by have:=iR s hs;have h3:=sR s hs;unfold ni at h3;exact⟨by omega,by have:=this.f;omega,by have:=this.t;omega⟩) wR;have b1:=RE (G:=GT t fz) X st (by omega) lh;have b2:=Vs (G:=GT t fz) X st (by omega) (fun s hs=>by have:=lh s hs;have h3:=p5 s hs;unfold ni at h3;exact⟨by omega,by have:=this.f;omega,by have:=this.t;omega⟩) wX;have d1:=(WU (G:=GT t fz) (ns:=bw R) (gs:=U) (Hg mR) hg (yH oR) M7 zR WX WY nR WZ).wk (show v8 [bU (bw R) 0,qU U g] [bU (bw R) 0,bU U g]from⟨.refl _,xq,trivial⟩);have d2:=(WU (G:=GT t fz) (ns:=bw X) (gs:=U) (Hg mX) hg (yH oX) M7 zX WX WY nX WZ).wk (show v8 [bU (bw X) st,qU U g] [bU (bw X) st,bU U g]from⟨.refl _,xq,trivial⟩);have nU:=aia hρ mX mR oX hρ0 hg M7;rw[show decide (pw 1000 (ar (bw R) U) ([0],[g+(bw R).length]))=decide (pw 1000 (ar (bw X) U) ([st],[g+(bw X).length]))from decide_eq_decide.2 nU.symm]at d1;generalize decide (pw 1000 (ar (bw X) U) ([st],[g+(bw X).length]))=bb at d1 d2;unfold ct at a1 a2 b1 b2;unfold bU at a2 b2 d1 d2;unfold qU at d1 d2;refine bz mixed E fun X=>?_;simp only[go_sem];refine dA X a1 rfl rfl (by simp) ?_;simp only[go_sem];refine dA X a2 rfl rfl (by simp) ?_;simp only[go_sem];refine dA X d1 rfl rfl (by simp) ?_;simp only[go_sem];refine dA X b1 rfl rfl (by simp) ?_;simp only[go_sem];refine dA X b2 rfl rfl (by simp) ?_;simp only[go_sem];refine dA X d2 rfl rfl (by simp) ?_;simp only[go_sem];decide +kernel
 .have El:=aiz (t:=t) (fz:=fz) X st (by omega) lh he;unfold ct at El;refine bd E El rfl rfl (by simp) ?_;rintro _ rfl;simp only[go_sem];refine bH E (fun _=>?_) (fun h=>absurd he h)<;>simp only[go_sem];refine bH E (fun h=>absurd h he) (fun _=>?_)<;>simp only[go_sem]
theorem akw{ds es:List D}{l:List EA}{st:Int}(BZ:DL (.agg ds) (ct l st))(M5:l.length<=9223372036854775807)(aU:∀s∈l,x8 s)(h':ig tsT es):HP prog (GT t fz) 4 [.agg ds,.agg es] (fun r=>r=.d (.bool true)):=by
 obtain⟨L',g,gs,rfl,wU⟩:=aiR h'
 exact HP.dl (args:=[.agg ds,.agg [L',i64 g]]) (args':=[ct l st,.agg [L',i64 g]]) rfl (fun i x y hx hy=>by
  obtain _|_|i:=i
  .cases hx;cases hy;exact BZ
  .cases hx;cases hy;exact .refl _
  .simp at hx) (akt M5 aU wU)
end Go.Proofs.YtpmniabdmbmafaaGreatDoor

