/-
  What becomes of a sequent: the document's one. (with the parts that follow it)
-/
import Derived.Test.YtpmniabdmbmafaaGreatDoorSSP
import Derived.Test.YtpmniabdmbmafaaGreatDoorSSO
import Derived.Test.YtpmniabdmbmafaaGreatDoorSSN
import Derived.Test.YtpmniabdmbmafaaGreatDoorSSM
import Derived.Test.YtpmniabdmbmafaaGreatDoorSSL
import Derived.Test.YtpmniabdmbmafaaGreatDoorSSH
import Derived.Test.YtpmniabdmbmafaaGreatDoorSSI
import Derived.Test.YtpmniabdmbmafaaGreatDoorSSJ
set_option linter.all false
set_option maxHeartbeats 16000000
namespace Go.Proofs.YtpmniabdmbmafaaGreatDoor
open Go.Ab Tryz
theorem tO{U:List Nat}{h h' x x':Nat}{s:St}{fr:List (Nat×AV)}{u:List Nat}{ns:List TN}{root fx:Int}{w:SW}(hn:tM h [x])(lf:tM h' [x'])(hs:∀q∈wO h [x] ns root fx w,s.hp q.1=some q.2)(hf:my (du [x'] [x] h' fun j=>[h,j]) u s fr)
  (hu:([0,2,4,5,h'].all fun y=>u.contains y)=true) (ha:bX u [x']=true) (hU:(U.all fun y=>u.contains y)=true) (kG:(U.contains h'||U.contains x')=false):cF U (du [x'] [x] h' fun j=>[h,j]) s fr (wO h' [x'] ns root fx w) u:=by
 have t0:∀y,y=0∨y=2∨y=4∨y=5->du [x'] [x] h' (fun j=>[h,j]) [y]=[y]:=fun y hy=>by
  unfold du;rw[if_neg];intro e;rw[ajc]at e;obtain⟨z,hz,h0⟩:=lf.a;rw[ajc]at hz;omega
 have tx:du [x'] [x] h' (fun j=>[h,j]) [x']=[x]:=by unfold du;rw[if_pos rfl]
 have th:∀j,du [x'] [x] h' (fun j=>[h,j]) [h',j]=[h,j]:=fun j=>by simp[du]
 refine BU (ρ:=du [x] [x'] h fun j=>[h',j]) lf hf (fun q hq=>hs _ (zb (t0 0 (by simp)) (t0 2 (by simp)) (t0 4 (by simp)) (t0 5 (by simp)) tx th hq)) (fun q hq=>?_) hu ha hU fun q hq hm=>?_
 .have r0:∀y,y=0∨y=2∨y=4∨y=5->du [x] [x'] h (fun j=>[h',j]) [y]=[y]:=fun y hy=>by
   unfold du;rw[if_neg];intro e;rw[ajc]at e;obtain⟨z,hz,h0⟩:=hn.a;rw[ajc]at hz;omega
  rcases lH (o:=q.2) hq with e|e|e|e|e|⟨j,e⟩<;>rw[e]
  .rw[t0 0 (by simp),r0 0 (by simp)]
  .rw[tx];simp[du]
  .rw[t0 2 (by simp),r0 2 (by simp)]
  .rw[t0 4 (by simp),r0 4 (by simp)]
  .rw[t0 5 (by simp),r0 5 (by simp)]
  .rw[th];simp[du]
 .rw[ai5]at kG;rcases lH (o:=q.2) hq with e|e|e|e|e|⟨j,e⟩<;>rw[e]at hm ⊢
  .exact t0 0 (by simp)
  .have:U.contains x'=true:=hm;rw[kG.2]at this;cases this
  .exact t0 2 (by simp)
  .exact t0 4 (by simp)
  .exact t0 5 (by simp)
  .have:U.contains h'=true:=hm;rw[kG.1]at this;cases this
theorem Tc{fx:Int}{ns:List TN}{l:List Int}(h:0<=da fx ns l):da fx ns l<fx∧lC fx ns l=true:=by
 unfold da at h ⊢;by_cases h0:l.length=0
 .rw[if_pos h0]at h;omega
 rw[if_neg h0]at h ⊢;by_cases ha:(l.all fun x=>kl fx ns x&&decide ((nd ns x.toNat).a=(nd ns (l.getD 0 0).toNat).a))=true
 .rw[if_pos ha]
  cases l with
  |nil=>exact absurd rfl h0
  |cons x t =>
    have h1:=aio.1 ha x ah0;rw[aia]at h1;refine⟨?_,aiA.2 ⟨x,ah0,h1.1⟩⟩;have h2:=h1.1;unfold kl at h2;rw[aia,decide_eq_true_iff,decide_eq_true_iff]at h2;exact h2.2
 .rw[if_neg ha]at h;omega
theorem vA{L:List (List (List Int))}{i:Nat}(h:i<L.length):(L.map dY).getD i .aY=dY L[i]:=by simp[h]
theorem Fv(L:List (List Int)):dY L=.ai∨dY L=.sl none (L.map aL):=by
 unfold dY;split
 .exact .inl rfl
 .exact .inr rfl
theorem BX(L:List (List Int))(s:List Int):dY (mg L s)=.sl none ((mg L s).map aL):=by rw[dY,if_neg (SF L s)]
theorem Fx{L:List (List (List Int))}{v:Int}{s:List Int}(h:v.toNat<L.length):(L.map dY).set v.toNat (.sl none ((mg L[v.toNat] s).map aL))=(ia L v s).map dY:=by
 unfold ia;rw[ajv,<-BX];simp[h]
theorem Td{U:List Nat}{jy fr:List (Nat×AV)}{u0 u:List Nat}{hp ae:List (Name×Ob)}(he:ae=hp)(hf:my id u (mk jy ae u0) fr)(hn:(hp.map (·.1)).Nodup)(hi:∀q∈hp,q.2.bn u=true∧bX u q.1=true)(hU:(U.all fun x=>u.contains x)=true):cF U id (mk jy ae u0) fr hp u:=by
 subst he;exact⟨hf,uX fun q hq=>⟨by rw[Ob.lX id fun _=>rfl];exact sf hn hq,hi q hq⟩,s8 (ρ:=id) hn fun _ _=>rfl,hU,sQ fun _ _ _=>rfl⟩
set_option maxRecDepth 100000 in
theorem agC{G}(ns:List TN)(root fx:Int)(w:SW)(q:SQ)(hn:ns.length<=4000)(hq:BS ns q)(hf:tK ns)(h4:jG q)(pw:∀q'∈w.al,jG q')(hb:tN w)(yJ:(w.be.length:Int)=fx∧(w.ab.length:Int)=fx)(hfx:fx<=1000)(hlen:ft fx ns q=true->w.al.length+(iT ns q).1.length<=1000000)
  (hL:ft fx ns q=true->∀q'∈(iT ns q).1,jG q') (Te:∀L∈w.be,L.length<=1000000∧∀s∈L,s.length<=4000) (Py:∀L∈w.ab,L.length<=1000000∧∀s∈L,s.length<=4000) :
  bA prog G 48 [.bx [0] 0,.d (fc q)] (wO 202 [1] ns root fx w) [0,1,2,4,5,202] (fun r ae=>r=.aA []∧ae=wO 302 [6] ns root fx (mL fx ns w q)):=by
 generalize hW:mL fx ns w q=w';have c1:=agB (G:=G) ns root q hn hq;have Ka:=af9 (G:=G) ns root q hn hq hf;have c2:=Se (G:=G) ns root q.1 1 (by omega) (by have:=hq.l1;omega) hq.k1;have c3:=Se (G:=G) ns root q.2 2 (by omega) (by have:=hq.l2;omega) hq.k2;have fO:fc q=.agg [.sl none (q.1.map i64),.sl none (q.2.map i64)]:=rfl;rw[fO]at c1 Ka ⊢;unfold bp at c1 c2 c3 Ka;unfold aL at c2 c3;unfold wO wP fJ;simp only[List.cons_append,List.nil_append];refine eV func48 rfl (by decide +kernel) (by simp[ntmps48]) (aT fun E=>?_);simp only[go_sem];refine eP E [3] (.agg [.sl none (q.1.map i64),.sl none (q.2.map i64)]) (by simp only[go_sem]) rfl ?_;simp only[go_sem]
 rw[aiQ (l:=fD 202 (gJ w.bk) []) (g:=id) (fun x hx=>by
  obtain⟨j,zs,_,rfl⟩:=iC.1 hx
  rfl),List.map_id]
 refine bF mixed E fun X=>?_;simp only[go_sem];refine eg X [0] 0 none [.d (.sl (some 4) (ns.map aw)),.d (i64 root),.d (i64 fx),.vw [1] 0 w.al.length,.va [2] 0 997,.vw [4] 0 w.be.length,.vw [5] 0 w.ab.length,.d (.bool w.mx),.d (.bool w.fl)] (by simp only[go_sem]) rfl rfl ?_;simp only[go_sem];refine fo X c1 rfl rfl (by simp) ?_;simp only[go_sem];(try refine⟨by decide +kernel,?_⟩);refine cK E ?_ ?_<;>intro he<;>simp only[go_sem];have he:oJ ns q=false:=by simpa using he
 obtain⟨l,hl⟩:∃l,l=bM ns 1 q.1:=⟨_,rfl⟩
 obtain⟨r,hr⟩:∃r,r=bM ns 2 q.2:=⟨_,rfl⟩
 have oc:l.length<=4000:=by have:=hq.l1;have:=aiF (fun x=>!decide (ag ns x=1)) q.1;rw[hl];unfold bM;omega
 have sF:r.length<=4000:=by have:=hq.l2;have:=aiF (fun x=>!decide (ag ns x=2)) q.2;rw[hr];unfold bM;omega
 have lW:∀x∈l,aC ns x:=fun x hx=>hq.k1 x (by rw[hl]at hx;exact(ait.1 hx).1);have Tf:∀x∈r,aC ns x:=fun x hx=>hq.k2 x (by rw[hr]at hx;exact(ait.1 hx).1);have d1:=SB (G:=G) ns root fx l hn oc lW;have d2:=SB (G:=G) ns root fx r hn sF Tf;have d3:=SA (G:=G) ns root fx l hn oc lW;have d4:=SA (G:=G) ns root fx r hn sF Tf;unfold aL at d1 d2 d3 d4;rw[<-hl]at c2;rw[<-hr]at c3;refine bF mixed E fun X=>?_;simp only[go_sem];refine eg X [0] 0 none [.d (.sl (some 4) (ns.map aw)),.d (i64 root),.d (i64 fx),.vw [1] 0 w.al.length,.va [2] 0 997,.vw [4] 0 w.be.length,.vw [5] 0 w.ab.length,.d (.bool w.mx),.d (.bool w.fl)] (by simp only[go_sem]) rfl rfl ?_;simp only[go_sem];refine fo X c2 rfl rfl (by simp) ?_;simp only[go_sem];refine eg X [0] 0 none [.d (.sl (some 4) (ns.map aw)),.d (i64 root),.d (i64 fx),.vw [1] 0 w.al.length,.va [2] 0 997,.vw [4] 0 w.be.length,.vw [5] 0 w.ab.length,.d (.bool w.mx),.d (.bool w.fl)] (by simp only[go_sem]) rfl rfl ?_;simp only[go_sem];refine fo X c3 rfl rfl (by simp) ?_;simp only[go_sem];(try refine⟨by decide +kernel,?_⟩);refine tc E (τ:=id) (s2:=mk [(0,.bx [0] 0),(3,.d (.ptr (.agg [.sl none (q.1.map i64),.sl none (q.2.map i64)]))),(4,.d (.sl none (l.map i64))),(5,.d (.sl none (r.map i64))),(32,.bx [0] 0),(33,.d (.sl none (l.map i64)))] (wO 202 [1] ns root fx w) [0,1,2,4,5,202]) (cF.le (Td (hp:=wO 202 [1] ns root fx w) rfl ?_ (jn mh) (fun x hx=>mO rfl rfl hx) rfl)) ?_
 .simp only[go_sem]
 unfold wO wP fJ;simp only[List.cons_append,List.nil_append];refine eM E [.U [0] [.sl (some 4) (ns.map aw),i64 root,i64 fx,.unk,.unk,.unk,.unk,.unk,.unk],.B [0] (wD ns root fx)] [.ptr (wD ns root fx),.sl none ((l).map i64)] (d1) ?_ ?_ rfl ?_ ⟨by simp only[go_sem],by first|(rw[ay];decide)|(simp only[go_sem]<;>(try rw[ay])<;>decide)⟩ ?_
 .rintro r ae ⟨rfl,_,rfl⟩;exact⟨rfl,rfl⟩
 .unfold wD;simp only[go_sem];refine⟨_,rfl,?_⟩;simp only[go_sem];exact⟨.inr trivial,.inr trivial⟩
 .unfold wD;simp only[go_sem]
 rintro _ _ ⟨rfl,_,rfl⟩;simp only[go_sem];refine eM E [.U [0] [.sl (some 4) (ns.map aw),i64 root,i64 fx,.unk,.unk,.unk,.unk,.unk,.unk],.B [0] (wD ns root fx)] [.ptr (wD ns root fx),.sl none ((r).map i64)] (d2) ?_ ?_ rfl ?_ ⟨by simp only[go_sem],by first|(rw[ay];decide)|(simp only[go_sem]<;>(try rw[ay])<;>decide)⟩ ?_
 .rintro r ae ⟨rfl,_,rfl⟩;exact⟨rfl,rfl⟩
 .unfold wD;simp only[go_sem];refine⟨_,rfl,?_⟩;simp only[go_sem];exact⟨.inr trivial,.inr trivial⟩
 .unfold wD;simp only[go_sem]
 rintro _ _ ⟨rfl,_,rfl⟩;simp only[go_sem];have Tg:=fun h=>Tc (fx:=fx) (ns:=ns) (l:=l) h;have Ti:=fun h=>Tc (fx:=fx) (ns:=ns) (l:=r) h;have ea:aQ fx ns q=da fx ns l:=by rw[hl];rfl
 have eb:bQ fx ns q=da fx ns r:=by rw[hr];rfl
 have tP:rU fx ns q=lC fx ns l:=by rw[hl];rfl
 have tQ:rV fx ns q=lC fx ns r:=by rw[hr];rfl
 have mkA:0<=da fx ns l->(da fx ns l).toNat<w.ab.length:=fun ga=>by have:=(Tg ga).1;omega
 have Tj:0<=da fx ns r->(da fx ns r).toNat<w.be.length:=fun gb=>by have:=(Ti gb).1;omega
 by_cases ga:0<=da fx ns l
 .have zg:=mkA ga;have tL:w.ab.getD (da fx ns l).toNat []=w.ab[(da fx ns l).toNat]:=by simp[zg]
  have ka:=Py _ (ah2 zg);have ca:=JY (G:=G) w.ab[(da fx ns l).toNat] r ka.1 (by omega) fun x hx=>by have:=ka.2 x hx;omega
  have iA:=(Tg ga).2;rw[iA]at d3;by_cases gb:0<=da fx ns r
  .have kA:=Tj gb;have vB:w.be.getD (da fx ns r).toNat []=w.be[(da fx ns r).toNat]:=by simp[kA]
   have kb:=Te _ (ah2 kA);have cb:=JY (G:=G) w.be[(da fx ns r).toNat] l kb.1 (by omega) fun x hx=>by have:=kb.2 x hx;omega
   refine bS E (fun _=>?_) (fun h=>absurd ga h)<;>simp only[go_sem];refine bS E (fun _=>?_) (fun h=>absurd gb h)<;>simp only[go_sem];rcases Fv w.ab[(da fx ns l).toNat]with hz|hz
   all_goals
    rw[hz,BX]at ca;refine bF mixed E fun X=>?_;simp only[go_sem];refine eg X [0] 0 none [.d (.sl (some 4) (ns.map aw)),.d (i64 root),.d (i64 fx),.vw [1] 0 w.al.length,.va [2] 0 997,.vw [4] 0 w.be.length,.vw [5] 0 w.ab.length,.d (.bool w.mx),.d (.bool w.fl)] (by simp only[go_sem]) rfl rfl ?_;simp only[go_sem];refine eg X [0] 0 none [.d (.sl (some 4) (ns.map aw)),.d (i64 root),.d (i64 fx),.vw [1] 0 w.al.length,.va [2] 0 997,.vw [4] 0 w.be.length,.vw [5] 0 w.ab.length,.d (.bool w.mx),.d (.bool w.fl)] (by simp only[go_sem]) rfl rfl ?_;simp only[go_sem];refine⟨by omega,?_⟩;rw[vA zg,hz];simp only[go_sem];refine fo X ca rfl rfl (by simp) ?_;simp only[go_sem];refine⟨by omega,?_⟩;(try refine⟨by decide +kernel,?_⟩);refine bS E (fun _=>?_) (fun h=>absurd gb h)<;>simp only[go_sem];refine bS E (fun _=>?_) (fun h=>absurd ga h)<;>simp only[go_sem];rcases Fv w.be[(da fx ns r).toNat]with pd|pd
    all_goals
     rw[pd,BX]at cb;refine bF mixed E fun X=>?_;simp only[go_sem];refine eg X [0] 0 none [.d (.sl (some 4) (ns.map aw)),.d (i64 root),.d (i64 fx),.vw [1] 0 w.al.length,.va [2] 0 997,.vw [4] 0 w.be.length,.vw [5] 0 w.ab.length,.d (.bool w.mx),.d (.bool w.fl)] (by simp only[go_sem]) rfl rfl ?_;simp only[go_sem];refine eg X [0] 0 none [.d (.sl (some 4) (ns.map aw)),.d (i64 root),.d (i64 fx),.vw [1] 0 w.al.length,.va [2] 0 997,.vw [4] 0 w.be.length,.vw [5] 0 w.ab.length,.d (.bool w.mx),.d (.bool w.fl)] (by simp only[go_sem]) rfl rfl ?_;simp only[go_sem];refine⟨by omega,?_⟩;rw[vA kA,pd];simp only[go_sem];refine fo X cb rfl rfl (by simp) ?_;simp only[go_sem];refine⟨by omega,?_⟩;(try refine⟨by decide +kernel,?_⟩);refine bS E (fun _=>?_) (fun h=>absurd ga h)<;>simp only[go_sem];refine bS E (fun _=>?_) (fun h=>absurd gb h)<;>simp only[go_sem]
     have kR:w'={ w with be:=ia w.be (da fx ns r) l,ab:=ia w.ab (da fx ns l) r }:=by
      rw[<-hW,mL];simp[ft,km,gl,kn,gG,gH,ea,eb,tP,tQ,he,ga,gb,<-hl,<-hr]
     generalize hS:mk _ _ _=S;have L:=tO (U:=[0,1,2,4,5,202]) (h:=202) (x:=1) (h':=302) (x':=6) (s:=S) (fr:=[(0,.aA [])]) (u:=[0,1,2,4,5,202,302,6]) (ns:=ns) (root:=root) (fx:=fx) (w:={ w with be:=ia w.be (da fx ns r) l,ab:=ia w.ab (da fx ns l) r }) mh qP (fun x hx=>?_) ?_ rfl rfl rfl rfl
     .rw[kR];exact⟨.aA [],_,_,_,⟨rfl,rfl⟩,⟨rfl,rfl⟩,L.2.1,L.2.2.1,rfl,L.2.2.2.2⟩
     .rw[<-hS];rcases ah1.1 hx with hx|hx
      .unfold wP fJ at hx;simp only[ah6,aiw,or_false]at hx;obtain rfl|rfl|rfl|rfl|rfl:=hx
       all_goals
        simp only[go_sem]
        first|rw[Fx zg]|rw[Fx kA]|(simp only[ia,ai1];done)|skip
      .obtain⟨j,zs,h1,rfl⟩:=iC.1 hx;simp only[go_sem];exact l9 (fr:=[]) (u:=[]) h1
     .rw[<-hS];exact⟨⟨rfl,rfl⟩,trivial⟩
  .cases cX:lC fx ns r with
   |false =>
     rw[cX]at d4;refine bS E (fun _=>?_) (fun h=>absurd ga h)<;>simp only[go_sem];refine bS E (fun h=>absurd h gb) (fun _=>?_)<;>simp only[go_sem];refine eM E [.U [0] [.sl (some 4) (ns.map aw),i64 root,i64 fx,.unk,.unk,.unk,.unk,.unk,.unk],.B [0] (wD ns root fx)] [.ptr (wD ns root fx),.sl none ((r).map i64)] (d4) ?_ ?_ rfl ?_ ⟨by simp only[go_sem],by first|(rw[ay];decide)|(simp only[go_sem]<;>(try rw[ay])<;>decide)⟩ ?_
     .rintro r ae ⟨rfl,_,rfl⟩;exact⟨rfl,rfl⟩
     .unfold wD;simp only[go_sem];refine⟨_,rfl,?_⟩;simp only[go_sem];exact⟨.inr trivial,.inr trivial⟩
     .unfold wD;simp only[go_sem]
     rintro _ _ ⟨rfl,_,rfl⟩;simp only[go_sem];rcases Fv w.ab[(da fx ns l).toNat]with hz|hz
     all_goals
      rw[hz,BX]at ca;refine bF mixed E fun X=>?_;simp only[go_sem];refine eg X [0] 0 none [.d (.sl (some 4) (ns.map aw)),.d (i64 root),.d (i64 fx),.vw [1] 0 w.al.length,.va [2] 0 997,.vw [4] 0 w.be.length,.vw [5] 0 w.ab.length,.d (.bool w.mx),.d (.bool w.fl)] (by simp only[go_sem]) rfl rfl ?_;simp only[go_sem];refine eg X [0] 0 none [.d (.sl (some 4) (ns.map aw)),.d (i64 root),.d (i64 fx),.vw [1] 0 w.al.length,.va [2] 0 997,.vw [4] 0 w.be.length,.vw [5] 0 w.ab.length,.d (.bool w.mx),.d (.bool w.fl)] (by simp only[go_sem]) rfl rfl ?_;simp only[go_sem];refine⟨by omega,?_⟩;rw[vA zg,hz];simp only[go_sem];refine fo X ca rfl rfl (by simp) ?_;simp only[go_sem];refine⟨by omega,?_⟩;(try refine⟨by decide +kernel,?_⟩);refine bS E (fun h=>absurd h gb) (fun _=>?_)<;>simp only[go_sem];refine bS E (fun _=>?_) (fun h=>absurd ga h)<;>simp only[go_sem];refine bS E (fun h=>absurd h gb) (fun _=>?_)<;>simp only[go_sem];refine eM E [.U [0] [.sl (some 4) (ns.map aw),i64 root,i64 fx,.unk,.unk,.unk,.unk,.unk,.unk],.B [0] (wD ns root fx)] [.ptr (wD ns root fx),.sl none ((r).map i64)] (d4) ?_ ?_ rfl ?_ ⟨by simp only[go_sem],by first|(rw[ay];decide)|(simp only[go_sem]<;>(try rw[ay])<;>decide)⟩ ?_
      .rintro r ae ⟨rfl,_,rfl⟩;exact⟨rfl,rfl⟩
      .unfold wD;simp only[go_sem];refine⟨_,rfl,?_⟩;simp only[go_sem];exact⟨.inr trivial,.inr trivial⟩
      .unfold wD;simp only[go_sem]
      rintro _ _ ⟨rfl,_,rfl⟩;simp only[go_sem]
      have kR:w'={ w with ab:=ia w.ab (da fx ns l) r }:=by
       rw[<-hW,mL];simp[ft,km,gl,kn,gG,gH,ea,eb,tP,tQ,he,ga,gb,cX,<-hl,<-hr]
      generalize hS:mk _ _ _=S;have L:=tO (U:=[0,1,2,4,5,202]) (h:=202) (x:=1) (h':=302) (x':=6) (s:=S) (fr:=[(0,.aA [])]) (u:=[0,1,2,4,5,202,302,6]) (ns:=ns) (root:=root) (fx:=fx) (w:={ w with ab:=ia w.ab (da fx ns l) r }) mh qP (fun x hx=>?_) ?_ rfl rfl rfl rfl
      .rw[kR];exact⟨.aA [],_,_,_,⟨rfl,rfl⟩,⟨rfl,rfl⟩,L.2.1,L.2.2.1,rfl,L.2.2.2.2⟩
      .rw[<-hS];rcases ah1.1 hx with hx|hx
       .unfold wP fJ at hx;simp only[ah6,aiw,or_false]at hx;obtain rfl|rfl|rfl|rfl|rfl:=hx
        all_goals
         simp only[go_sem]
         first|rw[Fx zg]|(simp only[ia,ai1];done)|skip
       .obtain⟨j,zs,h1,rfl⟩:=iC.1 hx;simp only[go_sem];exact l9 (fr:=[]) (u:=[]) h1
      .rw[<-hS];exact⟨⟨rfl,rfl⟩,trivial⟩
   |true =>
     rw[cX]at d4;refine bS E (fun _=>?_) (fun h=>absurd ga h)<;>simp only[go_sem];refine bS E (fun h=>absurd h gb) (fun _=>?_)<;>simp only[go_sem];refine eM E [.U [0] [.sl (some 4) (ns.map aw),i64 root,i64 fx,.unk,.unk,.unk,.unk,.unk,.unk],.B [0] (wD ns root fx)] [.ptr (wD ns root fx),.sl none ((r).map i64)] (d4) ?_ ?_ rfl ?_ ⟨by simp only[go_sem],by first|(rw[ay];decide)|(simp only[go_sem]<;>(try rw[ay])<;>decide)⟩ ?_
     .rintro r ae ⟨rfl,_,rfl⟩;exact⟨rfl,rfl⟩
     .unfold wD;simp only[go_sem];refine⟨_,rfl,?_⟩;simp only[go_sem];exact⟨.inr trivial,.inr trivial⟩
     .unfold wD;simp only[go_sem]
     rintro _ _ ⟨rfl,_,rfl⟩;simp only[go_sem];refine bS E (fun h=>absurd h gb) (fun _=>?_)<;>simp only[go_sem];refine bS E (fun _=>?_) (fun h=>absurd ga h)<;>simp only[go_sem];refine bS E (fun h=>absurd h gb) (fun _=>?_)<;>simp only[go_sem];refine eM E [.U [0] [.sl (some 4) (ns.map aw),i64 root,i64 fx,.unk,.unk,.unk,.unk,.unk,.unk],.B [0] (wD ns root fx)] [.ptr (wD ns root fx),.sl none ((r).map i64)] (d4) ?_ ?_ rfl ?_ ⟨by simp only[go_sem],by first|(rw[ay];decide)|(simp only[go_sem]<;>(try rw[ay])<;>decide)⟩ ?_
     .rintro r ae ⟨rfl,_,rfl⟩;exact⟨rfl,rfl⟩
     .unfold wD;simp only[go_sem];refine⟨_,rfl,?_⟩;simp only[go_sem];exact⟨.inr trivial,.inr trivial⟩
     .unfold wD;simp only[go_sem]
     rintro _ _ ⟨rfl,_,rfl⟩;simp only[go_sem];refine bS E (fun h=>absurd h gb) (fun _=>?_)<;>simp only[go_sem];refine eM E [.U [0] [.sl (some 4) (ns.map aw),i64 root,i64 fx,.unk,.unk,.unk,.unk,.unk,.unk],.B [0] (wD ns root fx)] [.ptr (wD ns root fx),.sl none ((l).map i64)] (d3) ?_ ?_ rfl ?_ ⟨by simp only[go_sem],by first|(rw[ay];decide)|(simp only[go_sem]<;>(try rw[ay])<;>decide)⟩ ?_
     .rintro r ae ⟨rfl,_,rfl⟩;exact⟨rfl,rfl⟩
     .unfold wD;simp only[go_sem];refine⟨_,rfl,?_⟩;simp only[go_sem];exact⟨.inr trivial,.inr trivial⟩
     .unfold wD;simp only[go_sem]
     rintro _ _ ⟨rfl,_,rfl⟩;simp only[go_sem]
     have kR:w'={ w with mx:=true }:=by
      rw[<-hW,mL];simp[ft,km,gl,kn,gG,gH,ea,eb,tP,tQ,he,ga,gb,iA,cX,<-hl,<-hr]
     generalize hS:mk _ _ _=S;have L:=tO (U:=[0,1,2,4,5,202]) (h:=202) (x:=1) (h':=302) (x':=6) (s:=S) (fr:=[(0,.aA [])]) (u:=[0,1,2,4,5,202,302,6]) (ns:=ns) (root:=root) (fx:=fx) (w:={ w with mx:=true }) mh qP (fun x hx=>?_) ?_ rfl rfl rfl rfl
     .rw[kR];exact⟨.aA [],_,_,_,⟨rfl,rfl⟩,⟨rfl,rfl⟩,L.2.1,L.2.2.1,rfl,L.2.2.2.2⟩
     .rw[<-hS];rcases ah1.1 hx with hx|hx
      .unfold wP fJ at hx;simp only[ah6,aiw,or_false]at hx;obtain rfl|rfl|rfl|rfl|rfl:=hx
       all_goals
        simp only[go_sem]
        skip
      .obtain⟨j,zs,h1,rfl⟩:=iC.1 hx;simp only[go_sem];exact l9 (fr:=[]) (u:=[]) h1
     .rw[<-hS];exact⟨⟨rfl,rfl⟩,trivial⟩
 by_cases gb:0<=da fx ns r
 .have kA:=Tj gb;have vB:w.be.getD (da fx ns r).toNat []=w.be[(da fx ns r).toNat]:=by simp[kA]
  have kb:=Te _ (ah2 kA);have cb:=JY (G:=G) w.be[(da fx ns r).toNat] l kb.1 (by omega) fun x hx=>by have:=kb.2 x hx;omega
  have cX:=(Ti gb).2
  cases iA:lC fx ns l with
  |false =>
    rw[iA]at d3;refine bS E (fun h=>absurd h ga) (fun _=>?_)<;>simp only[go_sem];refine bS E (fun _=>?_) (fun h=>absurd gb h)<;>simp only[go_sem];refine bS E (fun h=>absurd h ga) (fun _=>?_)<;>simp only[go_sem];refine eM E [.U [0] [.sl (some 4) (ns.map aw),i64 root,i64 fx,.unk,.unk,.unk,.unk,.unk,.unk],.B [0] (wD ns root fx)] [.ptr (wD ns root fx),.sl none ((l).map i64)] (d3) ?_ ?_ rfl ?_ ⟨by simp only[go_sem],by first|(rw[ay];decide)|(simp only[go_sem]<;>(try rw[ay])<;>decide)⟩ ?_
    .rintro r ae ⟨rfl,_,rfl⟩;exact⟨rfl,rfl⟩
    .unfold wD;simp only[go_sem];refine⟨_,rfl,?_⟩;simp only[go_sem];exact⟨.inr trivial,.inr trivial⟩
    .unfold wD;simp only[go_sem]
    rintro _ _ ⟨rfl,_,rfl⟩;simp only[go_sem];rcases Fv w.be[(da fx ns r).toNat]with pd|pd
    all_goals
     rw[pd,BX]at cb;refine bF mixed E fun X=>?_;simp only[go_sem];refine eg X [0] 0 none [.d (.sl (some 4) (ns.map aw)),.d (i64 root),.d (i64 fx),.vw [1] 0 w.al.length,.va [2] 0 997,.vw [4] 0 w.be.length,.vw [5] 0 w.ab.length,.d (.bool w.mx),.d (.bool w.fl)] (by simp only[go_sem]) rfl rfl ?_;simp only[go_sem];refine eg X [0] 0 none [.d (.sl (some 4) (ns.map aw)),.d (i64 root),.d (i64 fx),.vw [1] 0 w.al.length,.va [2] 0 997,.vw [4] 0 w.be.length,.vw [5] 0 w.ab.length,.d (.bool w.mx),.d (.bool w.fl)] (by simp only[go_sem]) rfl rfl ?_;simp only[go_sem];refine⟨by omega,?_⟩;rw[vA kA,pd];simp only[go_sem];refine fo X cb rfl rfl (by simp) ?_;simp only[go_sem];refine⟨by omega,?_⟩;(try refine⟨by decide +kernel,?_⟩);refine bS E (fun h=>absurd h ga) (fun _=>?_)<;>simp only[go_sem];refine bS E (fun _=>?_) (fun h=>absurd gb h)<;>simp only[go_sem];refine eM E [.U [0] [.sl (some 4) (ns.map aw),i64 root,i64 fx,.unk,.unk,.unk,.unk,.unk,.unk],.B [0] (wD ns root fx)] [.ptr (wD ns root fx),.sl none ((l).map i64)] (d3) ?_ ?_ rfl ?_ ⟨by simp only[go_sem],by first|(rw[ay];decide)|(simp only[go_sem]<;>(try rw[ay])<;>decide)⟩ ?_
     .rintro r ae ⟨rfl,_,rfl⟩;exact⟨rfl,rfl⟩
     .unfold wD;simp only[go_sem];refine⟨_,rfl,?_⟩;simp only[go_sem];exact⟨.inr trivial,.inr trivial⟩
     .unfold wD;simp only[go_sem]
     rintro _ _ ⟨rfl,_,rfl⟩;simp only[go_sem]
     have kR:w'={ w with be:=ia w.be (da fx ns r) l }:=by
      rw[<-hW,mL];simp[ft,km,gl,kn,gG,gH,ea,eb,tP,tQ,he,ga,gb,iA,<-hl,<-hr]
     generalize hS:mk _ _ _=S;have L:=tO (U:=[0,1,2,4,5,202]) (h:=202) (x:=1) (h':=302) (x':=6) (s:=S) (fr:=[(0,.aA [])]) (u:=[0,1,2,4,5,202,302,6]) (ns:=ns) (root:=root) (fx:=fx) (w:={ w with be:=ia w.be (da fx ns r) l }) mh qP (fun x hx=>?_) ?_ rfl rfl rfl rfl
     .rw[kR];exact⟨.aA [],_,_,_,⟨rfl,rfl⟩,⟨rfl,rfl⟩,L.2.1,L.2.2.1,rfl,L.2.2.2.2⟩
     .rw[<-hS];rcases ah1.1 hx with hx|hx
      .unfold wP fJ at hx;simp only[ah6,aiw,or_false]at hx;obtain rfl|rfl|rfl|rfl|rfl:=hx
       all_goals
        simp only[go_sem]
        first|rw[Fx kA]|(simp only[ia,ai1];done)|skip
      .obtain⟨j,zs,h1,rfl⟩:=iC.1 hx;simp only[go_sem];exact l9 (fr:=[]) (u:=[]) h1
     .rw[<-hS];exact⟨⟨rfl,rfl⟩,trivial⟩
  |true =>
    rw[iA]at d3;refine bS E (fun h=>absurd h ga) (fun _=>?_)<;>simp only[go_sem];refine bS E (fun _=>?_) (fun h=>absurd gb h)<;>simp only[go_sem];refine bS E (fun h=>absurd h ga) (fun _=>?_)<;>simp only[go_sem];refine eM E [.U [0] [.sl (some 4) (ns.map aw),i64 root,i64 fx,.unk,.unk,.unk,.unk,.unk,.unk],.B [0] (wD ns root fx)] [.ptr (wD ns root fx),.sl none ((l).map i64)] (d3) ?_ ?_ rfl ?_ ⟨by simp only[go_sem],by first|(rw[ay];decide)|(simp only[go_sem]<;>(try rw[ay])<;>decide)⟩ ?_
    .rintro r ae ⟨rfl,_,rfl⟩;exact⟨rfl,rfl⟩
    .unfold wD;simp only[go_sem];refine⟨_,rfl,?_⟩;simp only[go_sem];exact⟨.inr trivial,.inr trivial⟩
    .unfold wD;simp only[go_sem]
    rintro _ _ ⟨rfl,_,rfl⟩;simp only[go_sem];refine bS E (fun h=>absurd h ga) (fun _=>?_)<;>simp only[go_sem];refine bS E (fun _=>?_) (fun h=>absurd gb h)<;>simp only[go_sem];refine eM E [.U [0] [.sl (some 4) (ns.map aw),i64 root,i64 fx,.unk,.unk,.unk,.unk,.unk,.unk],.B [0] (wD ns root fx)] [.ptr (wD ns root fx),.sl none ((l).map i64)] (d3) ?_ ?_ rfl ?_ ⟨by simp only[go_sem],by first|(rw[ay];decide)|(simp only[go_sem]<;>(try rw[ay])<;>decide)⟩ ?_
    .rintro r ae ⟨rfl,_,rfl⟩;exact⟨rfl,rfl⟩
    .unfold wD;simp only[go_sem];refine⟨_,rfl,?_⟩;simp only[go_sem];exact⟨.inr trivial,.inr trivial⟩
    .unfold wD;simp only[go_sem]
    rintro _ _ ⟨rfl,_,rfl⟩;simp only[go_sem];refine eM E [.U [0] [.sl (some 4) (ns.map aw),i64 root,i64 fx,.unk,.unk,.unk,.unk,.unk,.unk],.B [0] (wD ns root fx)] [.ptr (wD ns root fx),.sl none ((l).map i64)] (d3) ?_ ?_ rfl ?_ ⟨by simp only[go_sem],by first|(rw[ay];decide)|(simp only[go_sem]<;>(try rw[ay])<;>decide)⟩ ?_
    .rintro r ae ⟨rfl,_,rfl⟩;exact⟨rfl,rfl⟩
    .unfold wD;simp only[go_sem];refine⟨_,rfl,?_⟩;simp only[go_sem];exact⟨.inr trivial,.inr trivial⟩
    .unfold wD;simp only[go_sem]
    rintro _ _ ⟨rfl,_,rfl⟩;simp only[go_sem]
    have kR:w'={ w with mx:=true }:=by
     rw[<-hW,mL];simp[ft,km,gl,kn,gG,gH,ea,eb,tP,tQ,he,ga,gb,iA,cX,<-hl,<-hr]
    generalize hS:mk _ _ _=S;have L:=tO (U:=[0,1,2,4,5,202]) (h:=202) (x:=1) (h':=302) (x':=6) (s:=S) (fr:=[(0,.aA [])]) (u:=[0,1,2,4,5,202,302,6]) (ns:=ns) (root:=root) (fx:=fx) (w:={ w with mx:=true }) mh qP (fun x hx=>?_) ?_ rfl rfl rfl rfl
    .rw[kR];exact⟨.aA [],_,_,_,⟨rfl,rfl⟩,⟨rfl,rfl⟩,L.2.1,L.2.2.1,rfl,L.2.2.2.2⟩
    .rw[<-hS];rcases ah1.1 hx with hx|hx
     .unfold wP fJ at hx;simp only[ah6,aiw,or_false]at hx;obtain rfl|rfl|rfl|rfl|rfl:=hx
      all_goals
       simp only[go_sem]
       skip
     .obtain⟨j,zs,h1,rfl⟩:=iC.1 hx;simp only[go_sem];exact l9 (fr:=[]) (u:=[]) h1
    .rw[<-hS];exact⟨⟨rfl,rfl⟩,trivial⟩
 refine bS E (fun h=>absurd h ga) (fun _=>?_)<;>simp only[go_sem];refine bS E (fun h=>absurd h gb) (fun _=>?_)<;>simp only[go_sem];refine bS E (fun h=>absurd h ga) (fun _=>?_)<;>simp only[go_sem];refine bS E (fun h=>absurd h gb) (fun _=>?_)<;>simp only[go_sem];cases iA:lC fx ns l
 case true =>
  rw[iA]at d3;refine eM E [.U [0] [.sl (some 4) (ns.map aw),i64 root,i64 fx,.unk,.unk,.unk,.unk,.unk,.unk],.B [0] (wD ns root fx)] [.ptr (wD ns root fx),.sl none ((l).map i64)] (d3) ?_ ?_ rfl ?_ ⟨by simp only[go_sem],by first|(rw[ay];decide)|(simp only[go_sem]<;>(try rw[ay])<;>decide)⟩ ?_
  .rintro r ae ⟨rfl,_,rfl⟩;exact⟨rfl,rfl⟩
  .unfold wD;simp only[go_sem];refine⟨_,rfl,?_⟩;simp only[go_sem];exact⟨.inr trivial,.inr trivial⟩
  .unfold wD;simp only[go_sem]
  rintro _ _ ⟨rfl,_,rfl⟩;simp only[go_sem]
  have kR:w'={ w with mx:=true }:=by
   rw[<-hW,mL];simp[ft,km,gl,kn,gG,gH,ea,eb,tP,tQ,he,ga,gb,iA,<-hl,<-hr]
  generalize hS:mk _ _ _=S;have L:=tO (U:=[0,1,2,4,5,202]) (h:=202) (x:=1) (h':=302) (x':=6) (s:=S) (fr:=[(0,.aA [])]) (u:=[0,1,2,4,5,202,302,6]) (ns:=ns) (root:=root) (fx:=fx) (w:={ w with mx:=true }) mh qP (fun x hx=>?_) ?_ rfl rfl rfl rfl
  .rw[kR];exact⟨.aA [],_,_,_,⟨rfl,rfl⟩,⟨rfl,rfl⟩,L.2.1,L.2.2.1,rfl,L.2.2.2.2⟩
  .rw[<-hS];rcases ah1.1 hx with hx|hx
   .unfold wP fJ at hx;simp only[ah6,aiw,or_false]at hx;obtain rfl|rfl|rfl|rfl|rfl:=hx
    all_goals
     simp only[go_sem]
     skip
   .obtain⟨j,zs,h1,rfl⟩:=iC.1 hx;simp only[go_sem];exact l9 (fr:=[]) (u:=[]) h1
  .rw[<-hS];exact⟨⟨rfl,rfl⟩,trivial⟩
 rw[iA]at d3;refine eM E [.U [0] [.sl (some 4) (ns.map aw),i64 root,i64 fx,.unk,.unk,.unk,.unk,.unk,.unk],.B [0] (wD ns root fx)] [.ptr (wD ns root fx),.sl none ((l).map i64)] (d3) ?_ ?_ rfl ?_ ⟨by simp only[go_sem],by first|(rw[ay];decide)|(simp only[go_sem]<;>(try rw[ay])<;>decide)⟩ ?_
 .rintro r ae ⟨rfl,_,rfl⟩;exact⟨rfl,rfl⟩
 .unfold wD;simp only[go_sem];refine⟨_,rfl,?_⟩;simp only[go_sem];exact⟨.inr trivial,.inr trivial⟩
 .unfold wD;simp only[go_sem]
 rintro _ _ ⟨rfl,_,rfl⟩;simp only[go_sem];cases cX:lC fx ns r
 case true =>
  rw[cX]at d4;refine eM E [.U [0] [.sl (some 4) (ns.map aw),i64 root,i64 fx,.unk,.unk,.unk,.unk,.unk,.unk],.B [0] (wD ns root fx)] [.ptr (wD ns root fx),.sl none ((r).map i64)] (d4) ?_ ?_ rfl ?_ ⟨by simp only[go_sem],by first|(rw[ay];decide)|(simp only[go_sem]<;>(try rw[ay])<;>decide)⟩ ?_
  .rintro r ae ⟨rfl,_,rfl⟩;exact⟨rfl,rfl⟩
  .unfold wD;simp only[go_sem];refine⟨_,rfl,?_⟩;simp only[go_sem];exact⟨.inr trivial,.inr trivial⟩
  .unfold wD;simp only[go_sem]
  rintro _ _ ⟨rfl,_,rfl⟩;simp only[go_sem]
  have kR:w'={ w with mx:=true }:=by
   rw[<-hW,mL];simp[ft,km,gl,kn,gG,gH,ea,eb,tP,tQ,he,ga,gb,iA,cX,<-hl,<-hr]
  generalize hS:mk _ _ _=S;have L:=tO (U:=[0,1,2,4,5,202]) (h:=202) (x:=1) (h':=302) (x':=6) (s:=S) (fr:=[(0,.aA [])]) (u:=[0,1,2,4,5,202,302,6]) (ns:=ns) (root:=root) (fx:=fx) (w:={ w with mx:=true }) mh qP (fun x hx=>?_) ?_ rfl rfl rfl rfl
  .rw[kR];exact⟨.aA [],_,_,_,⟨rfl,rfl⟩,⟨rfl,rfl⟩,L.2.1,L.2.2.1,rfl,L.2.2.2.2⟩
  .rw[<-hS];rcases ah1.1 hx with hx|hx
   .unfold wP fJ at hx;simp only[ah6,aiw,or_false]at hx;obtain rfl|rfl|rfl|rfl|rfl:=hx
    all_goals
     simp only[go_sem]
     skip
   .obtain⟨j,zs,h1,rfl⟩:=iC.1 hx;simp only[go_sem];exact l9 (fr:=[]) (u:=[]) h1
  .rw[<-hS];exact⟨⟨rfl,rfl⟩,trivial⟩
 rw[cX]at d4;refine eM E [.U [0] [.sl (some 4) (ns.map aw),i64 root,i64 fx,.unk,.unk,.unk,.unk,.unk,.unk],.B [0] (wD ns root fx)] [.ptr (wD ns root fx),.sl none ((r).map i64)] (d4) ?_ ?_ rfl ?_ ⟨by simp only[go_sem],by first|(rw[ay];decide)|(simp only[go_sem]<;>(try rw[ay])<;>decide)⟩ ?_
 .rintro r ae ⟨rfl,_,rfl⟩;exact⟨rfl,rfl⟩
 .unfold wD;simp only[go_sem];refine⟨_,rfl,?_⟩;simp only[go_sem];exact⟨.inr trivial,.inr trivial⟩
 .unfold wD;simp only[go_sem]
 rintro _ _ ⟨rfl,_,rfl⟩;simp only[go_sem]
 have kR:w'=(iT ns q).1.foldl bY { w with fl:=w.fl||!(c6 ns q).2 }:=by
  rw[<-hW,mL];simp[ft,km,gl,kn,gG,gH,he,ea,eb,tP,tQ,ga,gb,iA,cX,iT]
 have BZ:ft fx ns q=true:=by simp[ft,km,gl,he,ea,eb,tP,tQ,ga,gb,iA,cX]
 rotate_left
 have he:oJ ns q=true:=by simpa using he
 have kR:w'=(iT ns q).1.foldl bY { w with fl:=w.fl||!(c6 ns q).2 }:=by
  rw[<-hW,mL];simp[ft,km,gl,kn,gG,gH,he,iT]
 have BZ:ft fx ns q=true:=by simp[ft,km,gl,he]
 all_goals
  refine DM E (τ:=id) (s2:=mk [(0,.bx [0] 0),(3,.d (.ptr (.agg [.sl none (q.1.map i64),.sl none (q.2.map i64)])))] (wO 202 [1] ns root fx w) [0,1,2,4,5,202]) (cF.le (Td (hp:=wO 202 [1] ns root fx w) ?_ ?_ (jn mh) (fun x hx=>mO rfl rfl hx) rfl)) ?_
  .rfl
  .simp only[go_sem]
  unfold wO wP fJ;simp only[List.cons_append,List.nil_append];refine bF mixed E fun X=>?_;simp only[go_sem];refine eg X [0] 0 none [.d (.sl (some 4) (ns.map aw)),.d (i64 root),.d (i64 fx),.vw [1] 0 w.al.length,.va [2] 0 997,.vw [4] 0 w.be.length,.vw [5] 0 w.ab.length,.d (.bool w.mx),.d (.bool w.fl)] (by simp only[go_sem]) rfl rfl ?_;simp only[go_sem];refine fo X Ka rfl rfl (by simp) ?_;simp only[go_sem];(try refine⟨by decide +kernel,?_⟩);refine cK E ?_ ?_<;>intro ho<;>simp only[go_sem];have aF:(c6 ns q).2=false:=by simpa using ho
  obtain⟨W1,ox⟩:∃x:SW,x={ w with fl:=true }:=⟨_,rfl⟩
  rotate_left
  have aF:(c6 ns q).2=true:=by simpa using ho
  obtain⟨W1,ox⟩:∃x:SW,x=w:=⟨_,rfl⟩
  all_goals
   have Ew:W1.al=w.al:=by rw[ox]
   have sB:tN W1:=by rw[ox];exact⟨hb.len,hb.le,hb.mem⟩
   have wI:w'=(iT ns q).1.foldl bY W1:=by rw[kR,aF,ox];simp
   cases iX:(c6 ns q).1 with
   |none =>
     have jL:w'=W1:=by rw[wI,iT,iX];rfl
     simp only[BD,go_sem]
     refine bK E (X:=Unit) (fun _=>[(0,.bx [0] 0),(8,.d .ai),(10,.d (i64 0))])
      (fun _=>wO 402 [11] ns root fx W1) [0,1,2,4,5,11,202,402] (fun _=>0) () (du [11] [1] 402 fun j=>[202,j]) ?_ ?_
     .rw[ox]
      first | exact Ft (w:=w) mh jo (.inl rfl) (.inr rfl) ⟨⟨rfl,rfl⟩,⟨rfl,rfl⟩,⟨rfl,rfl⟩,trivial⟩ rfl rfl rfl rfl | exact Ft (w:={ w with fl:=true }) mh jo (.inl rfl) (.inr rfl) ⟨⟨rfl,rfl⟩,⟨rfl,rfl⟩,⟨rfl,rfl⟩,trivial⟩ rfl rfl rfl rfl
     rintro⟨⟩ E0;refine bW E0 fun Q' hQ E'=>?_;simp only[go_sem];rw[hQ];simp only[go_sem];generalize hS:mk _ _ _=S;have L:=tO (U:=[0,1,2,4,5,202]) (h:=402) (x:=11) (h':=302) (x':=6) (s:=S) (fr:=[(0,.aA [])]) (u:=[0,1,2,4,5,202,302,6]) (ns:=ns) (root:=root) (fx:=fx) (w:=W1) jo qP (fun x hx=>by rw[<-hS];exact sf (jn jo) hx) (by rw[<-hS];exact⟨⟨rfl,rfl⟩,trivial⟩) rfl rfl rfl rfl;exact⟨.aA [],_,_,_,⟨rfl,by rw[jL];rfl⟩,⟨rfl,rfl⟩,L.2.1,L.2.2.1,rfl,L.2.2.2.2⟩
   |some Ls =>
     have jL:w'=Ls.foldl bY W1:=by rw[wI,iT,iX];rfl
     have Tk:∀q'∈Ls,jG q':=fun q' h=>hL BZ q' (by rw[iT,iX];exact h);have ahO:w.al.length+Ls.length<=1000000:=by have:=hlen BZ;rw[iT,iX]at this;exact this
     simp only[BD,go_sem]
     refine bK E (X:={ i:Nat // i<=Ls.length }) (fun x=>[(0,.bx [0] 0),(8,.d (.sl (some 2) (Ls.map fc))),(10,.d (i64 x.1))])
      (fun x=>wO 402 [11] ns root fx ((Ls.take x.1).foldl bY W1)) [0,1,2,4,5,11,202,402] (fun x=>Ls.length-x.1) ⟨0,aie _⟩ (du [11] [1] 402 fun j=>[202,j]) ?_ ?_
     .rw[List.take_zero,List.foldl_nil,ox]
      first | exact Ft (w:=w) mh jo (.inl rfl) (.inr rfl) ⟨⟨rfl,rfl⟩,⟨rfl,rfl⟩,⟨rfl,rfl⟩,trivial⟩ rfl rfl rfl rfl | exact Ft (w:={ w with fl:=true }) mh jo (.inl rfl) (.inr rfl) ⟨⟨rfl,rfl⟩,⟨rfl,rfl⟩,⟨rfl,rfl⟩,trivial⟩ rfl rfl rfl rfl
     rintro⟨i,hi⟩ E0;refine bW E0 fun Q' hQ E'=>?_;simp only at hi ⊢;have hA:=SL (Ls.take i) W1 (fun x hx=>Tk x (aiJ hx));have hlt:(Ls.take i).length=i:=by rw[air];omega
     simp only[go_sem];refine aH E' ?_ ?_<;>intro h2<;>simp only[go_sem]
     .have ao:i<Ls.length:=by omega
      have BV:=Tk _ (ah2 ao);have bU:(Ls.take (i+1)).foldl bY W1=bY ((Ls.take i).foldl bY W1) Ls[i]:=by rw[ah5 ao,ajL];rfl
      generalize (Ls.take i).foldl bY W1=v at hA bU ⊢;refine⟨by omega,?_⟩;rw[J2 ao];simp only[go_sem];refine jh E' sW [.bx [0] 0,.d (fc Ls[i])] (wO 202 [1] ns root fx v) [0,1,2,4,5,202] (J3 ns root fx v Ls[i] BV (hA.few (by rw[Ew];exact pw)) (hA.ok sB) (by have:=hA.len;rw[Ew]at this;omega) (xp BV)) rfl rfl ⟨by first|decide|simp only[go_sem],by rw[ay];decide⟩ rfl (Fk rfl rfl) Fl ?_;rintro _ _ ⟨rfl,rfl⟩;refine⟨Fo (by rw[(kS v Ls[i]).2.1]) (by rw[(kS v Ls[i]).2.2.1]) (J6 v Ls[i]).symm,?_⟩;rw[Fq _ _ _ rfl];simp only[go_sem];rw[hQ,nh];refine⟨⟨i+1,by omega⟩,by show Ls.length-(i+1)<Ls.length-i;omega,tB 150,?_⟩;rw[bU,aD ⟨by omega,by omega⟩];exact Fs ⟨⟨rfl,rfl⟩,⟨rfl,rfl⟩,⟨rfl,rfl⟩,trivial⟩ rfl rfl rfl rfl
     have h5:i=Ls.length:=by omega
     subst h5;rw[hQ,aij];simp only[go_sem];generalize hS:mk _ _ _=S;have L:=tO (U:=[0,1,2,4,5,202]) (h:=402) (x:=11) (h':=302) (x':=6) (s:=S) (fr:=[(0,.aA [])]) (u:=[0,1,2,4,5,202,302,6]) (ns:=ns) (root:=root) (fx:=fx) (w:=Ls.foldl bY W1) jo qP (fun x hx=>by rw[<-hS];exact sf (jn jo) hx) (by rw[<-hS];exact⟨⟨rfl,rfl⟩,trivial⟩) rfl rfl rfl rfl;exact⟨.aA [],_,_,_,⟨rfl,by rw[jL];rfl⟩,⟨rfl,rfl⟩,L.2.1,L.2.2.1,rfl,L.2.2.2.2⟩
end Go.Proofs.YtpmniabdmbmafaaGreatDoor

namespace Go.Proofs.YtpmniabdmbmafaaGreatDoor
open Go.Ab Tryz
theorem agD{G}(mx fl:Bool):HP prog G 24 [.ptr (.agg [.unk,.unk,.unk,.unk,.unk,.unk,.unk,.bool mx,.bool fl])] (fun r=>r=.d (i64 (if mx=true then 14 else if fl=true then 11 else 0))):=by
 refine cJ func24 rfl (by decide +kernel) (by simp[ntmps24]) (aT fun E=>?_);simp only[go_sem];refine yy E (by simp) rfl ?_;simp only[go_sem];refine cK E ?_ ?_<;>intro h1<;>simp only[go_sem]
 .rw[if_pos h1]
 .refine yy E (by simp) rfl ?_;simp only[go_sem];refine cK E ?_ ?_<;>intro h2<;>simp only[go_sem]
  .rw[if_neg (by rw[h1];decide),if_pos h2]
  .rw[if_neg (by rw[h1];decide),if_neg (by rw[h2];decide)]
theorem Tl:tN mP:=by
 have hg:∀b,(List.replicate 997 ([]:List Nat)).getD b []=[]:=fun b=>by
  rw[ahX,ajt];split<;>rfl
 refine⟨ai9,fun b _=>?_,fun b _ i=>?_⟩
 .show((List.replicate 997 ([]:List Nat)).getD b []).length<=_;rw[hg];exact aie _
 .show i∈(List.replicate 997 ([]:List Nat)).getD b []↔_;rw[hg];exact⟨fun h=>(by cases h),fun h=>absurd h.1 (aiW _)⟩
section
variable {ns:List TN}{root:Int}{w:SW}
theorem gL:aE none (List.map (fun q=>(q.fst,some q.snd)) (wO 402 [11] ns root 1000 w)) [0]=some (.bz none [.d (.sl (some 4) (ns.map aw)),.d (i64 root),.d (i64 1000),.vw [11] 0 w.al.length,.va [2] 0 997,.vw [4] 0 w.be.length,.vw [5] 0 w.ab.length,.d (.bool w.mx),.d (.bool w.fl)]):=rfl
theorem iD:aE none (List.map (fun q=>(q.fst,some q.snd)) (wO 402 [11] ns root 1000 w)) [11]=some (.bu none (some 2) (w.al.map fc)):=rfl
theorem iE:aE none (List.map (fun q=>(q.fst,some q.snd)) (wO 402 [11] ns root 1000 w)) [4]=some (.bu none none (w.be.map dY)):=rfl
theorem iF:aE none (List.map (fun q=>(q.fst,some q.snd)) (wO 402 [11] ns root 1000 w)) [5]=some (.bu none none (w.ab.map dY)):=rfl
end
def PC(w:SW)(v:Nat):Prop:=∀u,u<v->∀s∈w.be.getD u [],∀s'∈w.ab.getD u [],(s,s')∈w.al
def PI(w:SW)(v i:Nat):Prop:=∀j,j<i->∀s'∈w.ab.getD v [],((w.be.getD v []).getD j [],s')∈w.al
def PK(w:SW)(v i k:Nat):Prop:=∀j,j<k->((w.be.getD v []).getD i [],(w.ab.getD v []).getD j [])∈w.al
theorem agF{w:SW}{q:SQ}{v:Nat}(h:PC w v):PC (bY w q) v:=fun u hu s hs s' bc=>by
 rw[(kS w q).2.1]at hs;rw[(kS w q).2.2.1]at bc;exact sg.2 (.inl (h u hu s hs s' bc))
theorem agG{w:SW}{q:SQ}{v i:Nat}(h:PI w v i):PI (bY w q) v i:=fun j hj s' bc=>by
 rw[(kS w q).2.2.1]at bc;rw[(kS w q).2.1];exact sg.2 (.inl (h j hj s' bc))
theorem agH{w:SW}{v i k:Nat}(h:PK w v i k):PK (bY w ((w.be.getD v []).getD i [],(w.ab.getD v []).getD k [])) v i (k+1):=fun j hj=>by
 rw[(kS w _).2.1,(kS w _).2.2.1];by_cases e:j<k
 .exact sg.2 (.inl (h j e))
 .obtain rfl:j=k:=by omega
  exact sg.2 (.inr rfl)
theorem Tm{L:List (List Int)}{i:Nat}(h:i<L.length):(L.map aL).getD i .aY=.sl none (L[i].map i64):=by simp[h,aL]
theorem xu{α:Type}{L:List α}{i:Nat}{d:α}(h:i<L.length):L.getD i d=L[i]:=by simp[h]
theorem gK.agI{fx:Int}{ns:List TN}{q0:SQ}{w:SW}{d:Nat}(h:gK fx ns q0 w d){v:Nat}(hv:(v:Int)<fx){s s':List Int}(hs:s∈w.be.getD v [])(bc:s'∈w.ab.getD v []):fu fx ns q0 (s,s'):=by
 obtain⟨i,hi,h1,h2,rfl⟩:=(h.be v hv s).1 hs;obtain⟨j,hj,h3,h4,rfl⟩:=(h.ab v hv s').1 bc;have:=h.dl;exact .pair (h.qQ _ (get_mem (by omega))) (h.qQ _ (get_mem (by omega))) h3 h1 (by rw[h4,h2])
theorem gK.Tn{fx:Int}{ns:List TN}{q0:SQ}{w:SW}{d:Nat}(h:gK fx ns q0 w d):(∀L∈w.be,∀s∈L,s.length<=4000)∧∀L∈w.ab,∀s∈L,s.length<=4000:=by
 have hd:=h.dl;constructor
 .intro L hL s hs;obtain⟨v,hv,rfl⟩:=aiB hL;have hg:w.be.getD v []=w.be[v]:=by simp[hv]
  obtain⟨i,hi,_,_,rfl⟩:=(h.be v (by have:=h.lb;omega) s).1 (by rw[hg];exact hs);have:=(h.few _ (get_mem (show i<w.al.length by omega))).1;exact aix (aiF _ _) this
 .intro L hL s hs;obtain⟨v,hv,rfl⟩:=aiB hL;have hg:w.ab.getD v []=w.ab[v]:=by simp[hv]
  obtain⟨i,hi,_,_,rfl⟩:=(h.ab v (by have:=h.la;omega) s).1 (by rw[hg];exact hs);have:=(h.few _ (get_mem (show i<w.al.length by omega))).2.1;exact aix (aiF _ _) this
theorem Tp(ns:List TN)(l:List Int):∀(L out:List (List UInt8)),(L.foldl (kj ns l) out).length<=out.length+L.length
 |[],out=>by simp
 |s::L,out=>by
   have h1:=Tp ns l L (kj ns l out s)
   have h2:(kj ns l out s).length<=out.length+1:=by
    unfold kj;split
    .simp
    .omega
   rw[List.foldl_cons,List.length_cons];omega
theorem agJ{ns:List TN}(h:∀i:Nat,(nd ns i).l.length<=1000)(q:SQ):(iT ns q).1.length<=1002:=by
 have nz:∀l,(er ns l).length<=1000:=fun l=>by
  have h3:(er ns l).length<=([]:List (List UInt8)).length+((nd ns (l.getD 0 0).toNat).l.map (·.1)).length:=Tp ns l _ _;have h2:=h (l.getD 0 0).toNat;rw[aik,List.length_nil]at h3;omega
 show((c6 ns q).1.getD []).length<=1002;unfold c6;split
 .simp
 split
 .split<;>simp
 split
 .split<;>simp
 split
 .simp
 split
 .simp
 split
 .simp
 unfold eY;split
 .simp
 split
 .simp
 split
 .rw[Option.getD_some,aik];unfold kO;split
  .have:=nz (aG ns ((fG ns q.1).getD 0 0) q.2);omega
  .split
   .have:=nz (aG ns ((fG ns q.1).getD 0 0) q.1);omega
   .simp
 .simp
theorem agK{ns:List TN}{q0:SQ}(hq:jG q0):gK 1000 ns q0 (bY mP q0) 0:=by
 obtain⟨_,a2,a3,a4,a5⟩:=kS mP q0
 have pw:(bY mP q0).al=[q0]:=by
  unfold bY;rw[if_neg (show¬q0∈mP.al from fun h=>by cases h)];rfl
 have cD:∀v,(List.replicate 1000 ([]:List (List Int))).getD v []=[]:=fun v=>by
  rw[ahX,ajt];split<;>rfl
 have bH:∀P:Nat->Prop,¬∃i,i<0∧P i:=fun P ⟨i,h,_⟩=>aiW i h;have hl:∀L∈List.replicate 1000 ([]:List (List Int)),L.length<=0:=fun L hL=>by rw[ajb hL];exact ain _
 refine⟨by rw[pw];simp,fun q h=>?_,by rw[pw];simp,J5 Tl (xp hq),fun q h=>?_,aie _,?_,?_,fun v _ s=>?_,fun v _ s=>?_,?_,?_,fun i hi=>absurd hi (aiW _),?_,?_⟩
 .rw[pw]at h;rw[ahZ.1 h];exact .root
 .rw[pw]at h;rw[ahZ.1 h];exact hq
 .rw[a2];show((List.replicate 1000 ([]:List (List Int))).length:Int)=1000;rw[ai9];rfl
 .rw[a3];show((List.replicate 1000 ([]:List (List Int))).length:Int)=1000;rw[ai9];rfl
 .rw[a2];show s∈(List.replicate 1000 ([]:List (List Int))).getD v []↔_;rw[cD];exact⟨fun h=>(by cases h),fun h=>absurd h (bH _)⟩
 .rw[a3];show s∈(List.replicate 1000 ([]:List (List Int))).getD v []↔_;rw[cD];exact⟨fun h=>(by cases h),fun h=>absurd h (bH _)⟩
 .rw[a4];exact⟨fun h=>(by cases h),fun h=>absurd h (bH _)⟩
 .rw[a5];exact⟨fun h=>(by cases h),fun h=>absurd h (bH _)⟩
 .rw[a2];exact hl
 .rw[a3];exact hl
set_option maxRecDepth 100000 in
theorem agL{G}(ns:List TN)(root:Int)(a b:List Int)(hn:ns.length<=4000)(tJ:a.length<=1000)(A9:b.length<=1000)(jk:∀q,fu 1000 ns (bw a,bw b) q->jG q)(fO:∀q,fu 1000 ns (bw a,bw b) q->BS ns q)(hF:tK ns)(vf:∀i:Nat,(nd ns i).l.length<=1000)(hB:∀al:List SQ,al.Nodup->(∀q∈al,fu 1000 ns (bw a,bw b) q)->al.length<=300000) :
  bA prog G 23 [.d (bp ns root),.d (.sl (some 2) [.agg [.sl none (a.map i64),.sl none (b.map i64)]]),.d (i64 1000)] [] [] (fun r ae=>∃w,(w.mx=false∧w.fl=false↔nH 1000 ns (bw a,bw b))∧r=.bx [0] 0∧ae=[([0],fJ [6] ns root 1000 w)]):=by
 unfold bp;refine eV func23 rfl (by decide +kernel) (by simp[ntmps23]) (aT fun E=>?_);simp only[go_sem];refine bF mixed E fun X=>?_;simp only[go_sem];refine H5 X (d:=16) (t:=99) (e:=100) (n:=1000) (z:=.ai) (by rw[G5]) (by rw[oX];rfl) (by rw[oX];rfl) rfl rfl (by rw[oX];decide) ⟨by simp only[go_sem],by rw[ay];decide⟩ ?_;simp only[go_sem];refine H5 X (d:=18) (t:=99) (e:=100) (n:=1000) (z:=.ai) (by rw[G5]) (by rw[oX];rfl) (by rw[oX];rfl) rfl rfl (by rw[oX];decide) ⟨by simp only[go_sem],by rw[ay];decide⟩ ?_;simp only[go_sem];refine H5 X (d:=19) (t:=100) (e:=48) (n:=997) (z:=.ai) (by rw[oX]) (by rw[kF];rfl) (by rw[kF];rfl) rfl rfl (by rw[kF];decide) ⟨by simp only[go_sem],by rw[ay];decide⟩ ?_;simp only[go_sem];refine abo X (d:=21) (cs:=[.d (.sl (some 4) (ns.map aw)),.d (i64 root),.d (i64 1000),.d .ai,.vw [19] 0 997,.vw [16] 0 1000,.vw [18] 0 1000,.d (.bool false),.d (.bool false)]) rfl ⟨by simp only[go_sem],by rw[ay];decide⟩ ?_;simp only[go_sem];(try refine⟨by decide +kernel,?_⟩);refine agA E (ns:=ns) (root:=root) (g:=.sl (some 2) [.agg [.sl none (a.map i64),.sl none (b.map i64)]]) (N:=997) (M:=1000) rfl rfl rfl rfl rfl rfl (by rw[ay];decide) rfl rfl rfl rfl ?_
 refine bK E (X:={ i:Nat // i<=1 }) (fun x=>[(1,.d (.sl (some 2) [.agg [.sl none (a.map i64),.sl none (b.map i64)]])),(2,.d (i64 1000)),(7,.bx [0] 0),(8,.d (i64 x.1))])
  (fun x=>wO 402 [11] ns root 1000 (if x.1=0 then mP else bY mP (bw a,bw b))) [0,2,4,5,11,402] (fun x=>1-x.1) ⟨0,by decide⟩ id ?_ ?_
 .exact oL ⟨⟨rfl,rfl⟩,⟨rfl,rfl⟩,⟨rfl,rfl⟩,⟨rfl,rfl⟩,trivial⟩ (jn jo) (fun x hx=>mO rfl rfl hx) rfl
 rintro⟨i,hi⟩ E0;refine bW E0 fun Q' hQ E'=>?_;simp only;simp only[go_sem];refine aH E' ?_ ?_<;>intro h1<;>simp only[go_sem]
 .obtain rfl:i=0:=by omega
  rw[if_pos rfl];refine bF mixed E' fun X=>?_;simp only[go_sem];have ca:=vv (G:=G) a (by omega);have cb:=vv (G:=G) b (by omega);unfold aL at ca cb;have sO:=jk _ .root;refine fo X ca rfl rfl (by simp) ?_;simp only[go_sem];refine fo X cb rfl rfl (by simp) ?_;simp only[go_sem];refine H7 X sW [.bx [0] 0,.d (fc (bw a,bw b))] (wO 202 [1] ns root 1000 mP) [0,1,2,4,5,202] (.aA []) _ (J3 ns root 1000 mP _ sO (by simp[mP,qR]) Tl (by simp[mP,qR]) (xp sO)) rfl rfl ⟨by simp only[go_sem],by rw[ay];decide⟩ rfl (Fk rfl rfl) Fl (Fo (by rw[(kS mP _).2.1]) (by rw[(kS mP _).2.2.1]) (J6 mP _).symm) ?_;rw[Fq _ _ _ rfl];simp only[go_sem];refine⟨Ta (l:=List.replicate 14 ([],[],[])) 14 rfl rfl (by decide +kernel) (by decide +kernel),?_⟩;rw[hQ,nh];refine⟨⟨1,by omega⟩,by show 1-1<1-0;decide,tB 42,?_⟩;exact Fs ⟨⟨rfl,rfl⟩,⟨rfl,rfl⟩,⟨rfl,rfl⟩,⟨rfl,rfl⟩,trivial⟩ rfl rfl rfl rfl
 .obtain rfl:i=1:=by omega
  rw[hQ,if_neg (by decide)];simp only[go_sem];have sO:=jk _ .root;have hS0:gK 1000 ns (bw a,bw b) (bY mP (bw a,bw b)) 0:=agK sO
  refine bK E (X:={ x:SW×Nat // gK 1000 ns (bw a,bw b) x.1 x.2∧(x.2=0∨PC x.1 1000) }) (fun x=>[(2,.d (i64 1000)),(7,.bx [0] 0),(9,.d (i64 x.1.2))])
   (fun x=>wO 402 [11] ns root 1000 x.1.1) [0,2,4,5,11,402] (fun x=>300001-x.1.2) ⟨(_,0),hS0,.inl rfl⟩ id ?_ ?_
  .exact oL ⟨⟨rfl,rfl⟩,⟨rfl,rfl⟩,⟨rfl,rfl⟩,trivial⟩ (jn jo) (fun x hx=>mO rfl rfl hx) rfl
  rintro⟨⟨w,d⟩,hS,hp⟩ E1;refine bW E1 fun Q2 dv E2=>?_;simp only at hS hp ⊢;simp only[go_sem,gL,iD,iE,iF];refine aH E2 ?_ ?_<;>intro h2<;>simp only[go_sem,gL,iD,iE,iF]
  .have rv:d<w.al.length:=by omega
   refine bK E2 (X:={ x:SW×Nat // gK 1000 ns (bw a,bw b) x.1 x.2∧w.al.length<=x.1.al.length }) (fun x=>[(2,.d (i64 1000)),(7,.bx [0] 0),(9,.d (i64 x.1.2))])
    (fun x=>wO 402 [11] ns root 1000 x.1.1) [0,2,4,5,11,402] (fun x=>300001-x.1.2) ⟨(w,d),hS,ain _⟩ id ?_ ?_
   .exact oL ⟨⟨rfl,rfl⟩,⟨rfl,rfl⟩,⟨rfl,rfl⟩,trivial⟩ (jn jo) (fun x hx=>mO rfl rfl hx) rfl
   rintro⟨⟨w1,d1⟩,jS,jL⟩ E3;refine bW E3 fun Q3 po E4=>?_;simp only at jS jL ⊢;have ahP:=hB w1.al jS.nd jS.qQ;simp only[go_sem,gL,iD,iE,iF];refine aH E4 ?_ ?_<;>intro h3<;>simp only[go_sem,gL,iD,iE,iF]
   .have rz:d1<w1.al.length:=by omega
    have o8:w1.al.getD d1 default=w1.al[d1]:=by simp[rz]
    have Kb:fu 1000 ns (bw a,bw b) w1.al[d1]:=jS.qQ _ (ah2 rz);obtain⟨B3,vJ⟩:=jS.one rz jk;rw[o8]at B3 vJ;refine⟨by omega,?_⟩;rw[J2 rz];simp only[go_sem,gL,iD,iE,iF];have BZ:ft 1000 ns w1.al[d1]=true->∀q'∈(iT ns w1.al[d1]).1,fu 1000 ns (bw a,bw b) q':=fun hl q' cg=>.to Kb hl cg;refine jh E4 sW [.bx [0] 0,.d (fc w1.al[d1])] (wO 202 [1] ns root 1000 w1) [0,1,2,4,5,202] (agC ns root 1000 w1 w1.al[d1] hn (fO _ Kb) hF (jk _ Kb) jS.few jS.bk ⟨jS.lb,jS.la⟩ (by decide) (fun hl=>?_) (fun hl q' cg=>jk _ (BZ hl q' cg)) (fun L hL=>⟨by have:=jS.sb L hL;have:=jS.dl;omega,fun s hs=>?_⟩) (fun L hL=>⟨by have:=jS.sa L hL;have:=jS.dl;omega,fun s hs=>?_⟩)) rfl rfl ⟨by first|decide|simp only[go_sem],by rw[ay];decide⟩ rfl (Fk rfl rfl) Fl ?_
    .have:=agJ vf w1.al[d1];omega
    .exact jS.Tn.1 L hL s hs
    .exact jS.Tn.2 L hL s hs
    rintro _ _ ⟨rfl,rfl⟩;refine⟨Fo (by have:=jS.lb;have:=B3.lb;omega) (by have:=jS.la;have:=B3.la;omega) (by rw[jS.bk.len,B3.bk.len]),?_⟩;rw[Fq _ _ _ rfl];simp only[go_sem];rw[po,nh];refine⟨⟨(mL 1000 ns w1 w1.al[d1],d1+1),B3,by simp only;omega⟩,by show 300001-(d1+1)<300001-d1;omega,tB 67,?_⟩;rw[aD ⟨by omega,by omega⟩];exact Fs ⟨⟨rfl,rfl⟩,⟨rfl,rfl⟩,⟨rfl,rfl⟩,trivial⟩ rfl rfl rfl rfl
   .have mr:d1=w1.al.length:=by have:=jS.dl;omega
    rw[po];simp only[go_sem,gL,iD,iE,iF]
    refine bK E2 (X:={ x:SW×Nat // (gK 1000 ns (bw a,bw b) x.1 d1∧PC x.1 x.2)∧x.2<=1000 }) (fun x=>[(2,.d (i64 1000)),(7,.bx [0] 0),(9,.d (i64 d1)),(10,.d (i64 x.1.2))])
     (fun x=>wO 402 [11] ns root 1000 x.1.1) [0,2,4,5,11,402] (fun x=>1000-x.1.2) ⟨(w1,0),⟨jS,fun u hu=>absurd hu (aiW _)⟩,aie _⟩ id ?_ ?_
    .exact oL ⟨⟨rfl,rfl⟩,⟨rfl,rfl⟩,⟨rfl,rfl⟩,⟨rfl,rfl⟩,trivial⟩ (jn jo) (fun x hx=>mO rfl rfl hx) rfl
    rintro⟨⟨w2,v⟩,⟨Kc,B6⟩,hv⟩ E5;refine bW E5 fun Q4 Kd E6=>?_;simp only at Kc B6 hv ⊢;simp only[go_sem,gL,iD,iE,iF];refine aH E6 ?_ ?_<;>intro h4<;>simp only[go_sem,gL,iD,iE,iF]
    .have q8:v<1000:=by omega
     refine bK E6 (X:={ x:SW×Nat // ((gK 1000 ns (bw a,bw b) x.1 d1∧PC x.1 v)∧PI x.1 v x.2)∧x.2<=(x.1.be.getD v []).length∧(x.1.be=w2.be∧x.1.ab=w2.ab) }) (fun x=>[(2,.d (i64 1000)),(7,.bx [0] 0),(9,.d (i64 d1)),(10,.d (i64 v)),(11,.d (i64 x.1.2))])
      (fun x=>wO 402 [11] ns root 1000 x.1.1) [0,2,4,5,11,402] (fun x=>(w2.be.getD v []).length-x.1.2) ⟨(w2,0),⟨⟨Kc,B6⟩,fun u hu=>absurd hu (aiW _)⟩,aie _,rfl,rfl⟩ id ?_ ?_
     .exact oL ⟨⟨rfl,rfl⟩,⟨rfl,rfl⟩,⟨rfl,rfl⟩,⟨rfl,rfl⟩,⟨rfl,rfl⟩,trivial⟩ (jn jo) (fun x hx=>mO rfl rfl hx) rfl
     rintro⟨⟨w3,i⟩,⟨⟨qS,Ke⟩,yC⟩,Fy,Ca,Kf⟩ E7;refine bW E7 fun Q5 FA E8=>?_;simp only at qS Ke yC Fy Ca Kf ⊢;simp only[go_sem,gL,iD,iE,iF];have FB:v<w3.be.length:=by have:=qS.lb;omega
     have Kg:v<w3.ab.length:=by have:=qS.la;omega
     have vB:w3.be.getD v []=w3.be[v]:=by simp[FB]
     have tL:w3.ab.getD v []=w3.ab[v]:=by simp[Kg]
     have ahQ:=hB w3.al qS.nd qS.qQ;have ahR:=qS.sb _ (ah2 FB);have ahS:=qS.sa _ (ah2 Kg);have ahT:=qS.dl
     have Tq:i=(w3.be.getD v []).length->PC w3 (v+1):=fun e u hu s hs s' bc=>by
      by_cases g:u<v
      .exact Ke u g s hs s' bc
      .obtain rfl:u=v:=by omega
       obtain⟨j,hj,rfl⟩:=aiB hs;have BW:(w3.be.getD u []).getD j []=(w3.be.getD u [])[j]:=by rw[ahX,aib hj];rfl
       rw[<-BW];exact yC j (by omega) s' bc
     refine⟨by omega,?_⟩;rw[vA FB];by_cases hL:w3.be[v]=[]
     .rw[show dY w3.be[v]=.ai from by rw[dY,if_pos hL]];simp only[go_sem,gL,iD,iE,iF];refine aH E8 (fun h5=>?_) (fun h5=>?_)
      .exact absurd h5 (by omega)
      simp only[go_sem];rw[FA];simp only[go_sem];rw[Kd,nh];refine⟨⟨(w3,v+1),⟨qS,Tq (by rw[vB,hL]at Fy ⊢;simpa using Fy)⟩,by simp only;omega⟩,by show 1000-(v+1)<1000-v;omega,id,?_⟩;rw[aD ⟨by omega,by omega⟩];exact oL ⟨⟨rfl,rfl⟩,⟨rfl,rfl⟩,⟨rfl,rfl⟩,⟨rfl,rfl⟩,trivial⟩ (jn jo) (fun x hx=>mO rfl rfl hx) rfl
     rw[show dY w3.be[v]=.sl none (w3.be[v].map aL)from by rw[dY,if_neg hL]];simp only[go_sem,gL,iD,iE,iF];refine aH E8 ?_ ?_<;>intro h5<;>simp only[go_sem,gL,iD,iE,iF]
     .have kA:i<w3.be[v].length:=by omega
      refine bK E8 (X:={ x:SW×Nat // (((gK 1000 ns (bw a,bw b) x.1 d1∧PC x.1 v)∧PI x.1 v i)∧PK x.1 v i x.2)∧x.2<=(w3.ab.getD v []).length∧(x.1.be=w3.be∧x.1.ab=w3.ab) }) (fun x=>[(2,.d (i64 1000)),(7,.bx [0] 0),(9,.d (i64 d1)),(10,.d (i64 v)),(11,.d (i64 i)),(12,.d (i64 x.1.2))])
       (fun x=>wO 402 [11] ns root 1000 x.1.1) [0,2,4,5,11,402] (fun x=>(w3.ab.getD v []).length-x.1.2) ⟨(w3,0),⟨⟨⟨qS,Ke⟩,yC⟩,fun u hu=>absurd hu (aiW _)⟩,aie _,rfl,rfl⟩ id ?_ ?_
      .exact oL ⟨⟨rfl,rfl⟩,⟨rfl,rfl⟩,⟨rfl,rfl⟩,⟨rfl,rfl⟩,⟨rfl,rfl⟩,⟨rfl,rfl⟩,trivial⟩ (jn jo) (fun x hx=>mO rfl rfl hx) rfl
      rintro⟨⟨w4,k⟩,⟨⟨⟨tR,FC⟩,Kh⟩,Ki⟩,FD,vC,xw⟩ E9;refine bW E9 fun Q6 Kj EA=>?_;simp only at tR FC Kh Ki FD vC xw ⊢;have Kk:v<w4.be.length:=by rw[vC];exact FB
      have FE:v<w4.ab.length:=by rw[xw];exact Kg
      have wU:w4.be[v]=w3.be[v]:=by simp only[vC]
      have Tr:w4.ab[v]=w3.ab[v]:=by simp only[xw]
      have ahU:=hB w4.al tR.nd tR.qQ;have hl5:w4.ab[v].length=w3.ab[v].length:=by rw[Tr]
      have hL5:w4.be[v]≠[]:=by rw[wU];exact hL
      have Kl:i<w4.be[v].length:=by rw[wU];exact kA
      rw[tL]at FD
      have FF:k=w3.ab[v].length->PI w4 v (i+1):=fun e j hj s' bc=>by
       by_cases g:j<i
       .exact Kh j g s' bc
       .obtain rfl:j=i:=by omega
        obtain⟨m,hm,rfl⟩:=aiB bc;have iI:m<w3.ab[v].length:=by rw[xw,tL]at hm;exact hm
        have:=Ki m (by omega)
        rwa [xu hm]at this
      simp only[go_sem,gL,iD,iE,iF];refine⟨by omega,?_⟩;rw[vA FE];by_cases hM:w4.ab[v]=[]
      .rw[show dY w4.ab[v]=.ai from by rw[dY,if_pos hM]];simp only[go_sem,gL,iD,iE,iF];refine aH EA (fun h6=>?_) (fun h6=>?_)
       .exact absurd h6 (by omega)
       simp only[go_sem];rw[Kj];simp only[go_sem];rw[FA,nh];refine⟨⟨(w4,i+1),⟨⟨tR,FC⟩,FF (by rw[<-Tr,hM]at FD ⊢;simpa using FD)⟩,by simp only;rw[vC,vB];omega,by simp only;rw[vC,Ca],by simp only;rw[xw,Kf]⟩,by show(w2.be.getD v []).length-(i+1)<(w2.be.getD v []).length-i;rw[<-Ca,vB];omega,id,?_⟩;rw[aD ⟨by omega,by omega⟩];exact oL ⟨⟨rfl,rfl⟩,⟨rfl,rfl⟩,⟨rfl,rfl⟩,⟨rfl,rfl⟩,⟨rfl,rfl⟩,trivial⟩ (jn jo) (fun x hx=>mO rfl rfl hx) rfl
      rw[show dY w4.ab[v]=.sl none (w4.ab[v].map aL)from by rw[dY,if_neg hM]];simp only[go_sem,gL,iD,iE,iF];refine aH EA ?_ ?_<;>intro h6<;>simp only[go_sem,gL,iD,iE,iF]
      .have qy:k<w4.ab[v].length:=by omega
       refine bF mixed EA fun X=>?_;simp only[go_sem,gL,iD,iE,iF];refine eg X [0] 0 none [.d (.sl (some 4) (ns.map aw)),.d (i64 root),.d (i64 1000),.vw [11] 0 w4.al.length,.va [2] 0 997,.vw [4] 0 w4.be.length,.vw [5] 0 w4.ab.length,.d (.bool w4.mx),.d (.bool w4.fl)] (by simp only[go_sem,gL]) rfl rfl ?_;simp only[go_sem,gL,iD,iE,iF];refine⟨by omega,?_⟩;rw[vA Kk,show dY w4.be[v]=.sl none (w4.be[v].map aL)from by rw[dY,if_neg hL5]];simp only[go_sem,gL,iD,iE,iF];refine⟨by omega,?_⟩;rw[Tm Kl];simp only[go_sem,gL,iD,iE,iF];refine eg X [0] 0 none [.d (.sl (some 4) (ns.map aw)),.d (i64 root),.d (i64 1000),.vw [11] 0 w4.al.length,.va [2] 0 997,.vw [4] 0 w4.be.length,.vw [5] 0 w4.ab.length,.d (.bool w4.mx),.d (.bool w4.fl)] (by simp only[go_sem,gL]) rfl rfl ?_;simp only[go_sem,gL,iD,iE,iF];refine⟨by omega,?_⟩;rw[vA FE,show dY w4.ab[v]=.sl none (w4.ab[v].map aL)from by rw[dY,if_neg hM]];simp only[go_sem,gL,iD,iE,iF];refine⟨by omega,?_⟩;rw[Tm qy];simp only[go_sem,gL,iD,iE,iF];have xr:((w4.be.getD v []).getD i [],(w4.ab.getD v []).getD k [])=(w4.be[v][i],w4.ab[v][k]):=by rw[xu Kk,xu FE,xu Kl,xu qy]
       have hR:fu 1000 ns (bw a,bw b) (w4.be[v][i],w4.ab[v][k]):=tR.agI (v:=v) (by omega) (by rw[xu Kk];exact ah2 Kl) (by rw[xu FE];exact ah2 qy);have Ts:=agH Ki;rw[xr]at Ts;refine H7 X sW [.bx [0] 0,.d (fc (w4.be[v][i],w4.ab[v][k]))] (wO 202 [1] ns root 1000 w4) [0,1,2,4,5,202] (.aA []) _ (J3 ns root 1000 w4 (w4.be[v][i],w4.ab[v][k]) (jk _ hR) tR.few tR.bk (by omega) (xp (jk _ hR))) rfl rfl ⟨by first|decide|simp only[go_sem],by rw[ay];decide⟩ rfl (Fk rfl rfl) Fl (Fo (by rw[(kS w4 _).2.1]) (by rw[(kS w4 _).2.2.1]) (J6 w4 _).symm) ?_;rw[Fq _ _ _ rfl];simp only[go_sem];refine⟨Ta (l:=[([],[],[]),([],[],[]),([[0]],[],[]),([[0]],[],[]),([[0]],[],[]),([],[],[]),([[4]],[],[]),([[4]],[],[]),([],[],[]),([],[],[]),([],[],[]),([],[],[]),([[0]],[],[]),([[0]],[],[]),([[0]],[],[]),([],[],[]),([[5]],[],[]),([[5]],[],[]),([],[],[]),([],[],[]),([],[],[]),([],[],[])]) 22 rfl rfl (by decide +kernel) (by decide +kernel),?_⟩;rw[Kj,nh];refine⟨⟨(bY w4 (w4.be[v][i],w4.ab[v][k]),k+1),⟨⟨⟨tR.add hR (jk _ hR),agF FC⟩,agG Kh⟩,Ts⟩,by simp only;rw[tL];omega,by simp only;rw[(kS w4 _).2.1,vC],by simp only;rw[(kS w4 _).2.2.1,xw]⟩,by show(w3.ab.getD v []).length-(k+1)<(w3.ab.getD v []).length-k;rw[tL];omega,tB 119,?_⟩;rw[aD ⟨by omega,by omega⟩];exact Fs ⟨⟨rfl,rfl⟩,⟨rfl,rfl⟩,⟨rfl,rfl⟩,⟨rfl,rfl⟩,⟨rfl,rfl⟩,⟨rfl,rfl⟩,trivial⟩ rfl rfl rfl rfl
      .have mB:k=w3.ab[v].length:=by omega
       rw[Kj];simp only[go_sem];rw[FA,nh];refine⟨⟨(w4,i+1),⟨⟨tR,FC⟩,FF mB⟩,by simp only;rw[vC,vB];omega,by simp only;rw[vC,Ca],by simp only;rw[xw,Kf]⟩,by show(w2.be.getD v []).length-(i+1)<(w2.be.getD v []).length-i;rw[<-Ca,vB];omega,id,?_⟩;rw[aD ⟨by omega,by omega⟩];exact oL ⟨⟨rfl,rfl⟩,⟨rfl,rfl⟩,⟨rfl,rfl⟩,⟨rfl,rfl⟩,⟨rfl,rfl⟩,trivial⟩ (jn jo) (fun x hx=>mO rfl rfl hx) rfl
     .rw[FA];simp only[go_sem];rw[Kd,nh];refine⟨⟨(w3,v+1),⟨qS,Tq (by rw[vB]at Fy ⊢;omega)⟩,by simp only;omega⟩,by show 1000-(v+1)<1000-v;omega,id,?_⟩;rw[aD ⟨by omega,by omega⟩];exact oL ⟨⟨rfl,rfl⟩,⟨rfl,rfl⟩,⟨rfl,rfl⟩,⟨rfl,rfl⟩,trivial⟩ (jn jo) (fun x hx=>mO rfl rfl hx) rfl
    .obtain rfl:v=1000:=by omega
     rw[Kd];simp only[go_sem];rw[dv,nh];refine⟨⟨(w2,d1),Kc,.inr B6⟩,by show 300001-d1<300001-d;omega,id,?_⟩;exact oL ⟨⟨rfl,rfl⟩,⟨rfl,rfl⟩,⟨rfl,rfl⟩,trivial⟩ (jn jo) (fun x hx=>mO rfl rfl hx) rfl
  .have rv:d=w.al.length:=by have:=hS.dl;omega
   have La:0<w.al.length:=ajQ hS.root;have B6:PC w 1000:=hp.resolve_left (by omega);have FF:=gK.end_ (rv▸hS) (fun v hv s hs s' bc=>B6 v (by omega) s hs s' bc);rw[dv];simp only[go_sem,gL,iD,iE,iF];refine⟨.bx [0] 0,[([0],fJ [6] ns root 1000 w)],[0,2,4,5,6],ar [([6],[11])],⟨w,FF,rfl,rfl⟩,?_⟩;refine⟨⟨rfl,rfl⟩,uX fun q hq=>?_,s8 (ρ:=id) (by simp) fun q hq=>?_,sQ fun q hq _=>?_⟩
   .obtain rfl:=ahZ.1 hq;exact⟨rfl,rfl,rfl⟩
   .obtain rfl:=ahZ.1 hq;rfl
   .obtain rfl:=ahZ.1 hq;rfl
end Go.Proofs.YtpmniabdmbmafaaGreatDoor

namespace Go.Proofs.YtpmniabdmbmafaaGreatDoor
open Go.Ab Tryz
theorem agM{G}(ns gs:List TN)(root g:Int)(hn:ns.length+gs.length<=4000)(hm:∀n∈gs,EY n)(Mi:0<=g∧g<=4000)
  (jk:∀q,fu 1000 (aq ns gs) ([root],[g+ns.length]) q->jG q) (fO:∀q,fu 1000 (aq ns gs) ([root],[g+ns.length]) q->BS (aq ns gs) q) (vf:∀i:Nat,(nd (aq ns gs) i).l.length<=1000) (hB:∀al:List SQ,al.Nodup->(∀q∈al,fu 1000 (aq ns gs) ([root],[g+ns.length]) q)->al.length<=300000) :
  HP prog G 9 [bp ns root,bp gs g] (fun r=>∃b:Bool,r=.d (.bool b)∧(b=true↔nH 1000 (aq ns gs) ([root],[g+ns.length]))):=by
 have c1:=afD (G:=G) ns gs root g (by omega) (by omega) hm;have hX:(aq ns gs).length=ns.length+gs.length:=by simp[aq]
 have e1:bw [root]=[root]:=rX _;have e2:bw [g+(ns.length:Int)]=[g+(ns.length:Int)]:=rX _;have c2:=agL (G:=G) (aq ns gs) root [root] [g+(ns.length:Int)] (by omega) (by simp) (by simp) (by rw[e1,e2];exact jk) (by rw[e1,e2];exact fO) (fun i _=>by have:=vf i.toNat;omega) vf (by rw[e1,e2];exact hB);rw[e1,e2]at c2;unfold bp at c1 c2 ⊢;refine cJ func9 rfl (by decide +kernel) (by simp[ntmps9]) (aT fun E=>?_);simp only[go_sem];refine bj E c1 rfl rfl (by simp) ?_;rintro _ rfl;simp only[go_sem];rw[aD ⟨by omega,by omega⟩,Int.add_comm (ns.length:Int) g];refine oV E [17] none [i64 root] rfl ?_;simp only[go_sem];refine oV E [22] none [i64 (g+(ns.length:Int))] rfl ?_;simp only[go_sem];refine oV E [24] (some 2) [.agg [.sl none [i64 root],.sl none [i64 (g+(ns.length:Int))]]] rfl ?_;simp only[go_sem];unfold fJ at c2;refine je E _ _ _ c2 rfl rfl ⟨by simp only[go_sem],by first|(rw[ay];decide)|(simp only[go_sem]<;>(try rw[ay])<;>decide)⟩ (by simp only[go_sem]) (by simp only[go_sem]) (by simp only[go_sem]) ?_;rintro _ _ ⟨w,hw,rfl,rfl⟩;refine⟨by simp only[go_sem],?_⟩;simp only[go_sem];refine eM E [.U [25,0] [.unk,.unk,.unk,.unk,.unk,.unk,.unk,.bool w.mx,.bool w.fl],.B [25,0] (.agg [.unk,.unk,.unk,.unk,.unk,.unk,.unk,.bool w.mx,.bool w.fl])] [.ptr (.agg [.unk,.unk,.unk,.unk,.unk,.unk,.unk,.bool w.mx,.bool w.fl])] (agD w.mx w.fl) ?_ ?_ rfl ?_ ⟨by simp only[go_sem],by first|(rw[ay];decide)|(simp only[go_sem]<;>(try rw[ay])<;>decide)⟩ ?_
 .rintro r ae ⟨rfl,_,rfl⟩;exact⟨rfl,rfl⟩
 .simp only[go_sem];refine⟨_,rfl,?_⟩;simp only[go_sem];exact⟨.inr trivial,.inr trivial,.inr trivial⟩
 .simp only[go_sem]
 rintro _ _ ⟨rfl,_,rfl⟩;simp only[go_sem];refine⟨_,rfl,?_⟩;rw[<-hw,decide_eq_true_iff];cases w.mx<;>cases w.fl<;>simp
end Go.Proofs.YtpmniabdmbmafaaGreatDoor

namespace Go.Proofs.YtpmniabdmbmafaaGreatDoor
open Go.Ab Tryz
def ib(l:List Int)(i:Nat):List Int:=(List.range l.length).map fun q=>l.getD (if q<i∨l.length<=q+i then l.length-1-q else q) 0
theorem Tt(l:List Int)(i:Nat):(ib l i).length=l.length:=by simp[ib]
theorem Tv{l:List Int}{i q:Nat}(h:q<l.length):(ib l i).getD q 0=l.getD (if q<i∨l.length<=q+i then l.length-1-q else q) 0:=by
 simp[ib,h]
theorem agN(l:List Int):ib l 0=l:=by
 refine ai0 (by simp[ib]) fun q h1 h2=>?_;have:¬l.length<=q:=by omega
 simp[ib,h2,this]
theorem agO{l:List Int}{i:Nat}(h:l.length<=2*i+1):ib l i=l.reverse:=by
 refine ai0 (by simp[ib]) fun q h1 h2=>?_;have sJ:q<l.length:=by simpa using h2
 have h3:l.length-1-q<l.length:=by omega
 by_cases e:q<i∨l.length<=q+i
 .simp[ib,e,h3]
 .have:l.length-1-q=q:=by omega
  simp[ib,e,sJ,this]
theorem agP{l:List Int}{i:Nat}(h:2*i+1<l.length):((ib l i).set i (l.getD (l.length-1-i) 0)).set (l.length-1-i) (l.getD i 0)=ib l (i+1):=by
 refine ai0 (by simp[ib]) fun q h1 h2=>?_;have sJ:q<l.length:=by simpa[ib]using h2
 simp only[ajW];by_cases e1:l.length-1-i=q
 .subst e1;have:l.length-1-i<i+1∨l.length<=l.length-1-i+(i+1):=by omega
  have e2:l.length-1-(l.length-1-i)=i:=by omega
  simp[ib,this,e2]
 .rw[if_neg e1];by_cases e2:i=q
  .subst e2;have:i<i+1∨l.length<=i+(i+1):=by omega
   simp[ib,this]
  .rw[if_neg e2];have:(q<i+1∨l.length<=q+(i+1))↔(q<i∨l.length<=q+i):=by omega
   simp[ib,this]
def Cb(ns:List TN):Prop:=∀i,i<ns.length->(∀x∈ch (nd ns i),0<=x∧x<ns.length)∧(ch (nd ns i)).length<=30
theorem Tw{α:Type}{l:List α}(h:0<l.length):∃l' x,l=l'++[x]:=by
 refine⟨l.dropLast,l.getLast (fun e=>by subst e;simp at h),?_⟩;exact(akC _).symm
theorem agQ{n:TN}{all:Int}(h:jf n all=true):n.l.length<=30:=by
 simp only[jf,aia,aiT,ai5,aj1,decide_eq_true_eq]at h;exact h.1.2.2.2
theorem Tx{ns:List TN}(h:ph ns=true):Cb ns:=by
 intro i hi;have h1:=uY h hi;refine⟨Bc h1,?_⟩;have h2:=agQ h1;unfold ch;split
 .simp
 .split<;>simp;omega
theorem cB.agR{α:Type}{kids:α->List α}{out todo r:List α}(h:cB kids out todo r):(∀a∈out,a∈r)∧∀a∈todo,a∈r:=by
 induction h with
 |done out=>exact⟨fun a h=>h,by simp⟩
 |skip h _ ih =>
   refine⟨ih.1,fun a ha=>?_⟩;rcases ah1.1 ha with ha|ha
   .exact ih.2 a ha
   .rw[ahZ.1 ha];exact ih.1 _ h
 |take h _ ih =>
   refine⟨fun a ha=>ih.1 a (aif _ ha),fun a ha=>?_⟩;rcases ah1.1 ha with ha|ha
   .exact ih.2 a (aif _ ha)
   .rw[ahZ.1 ha];exact ih.1 _ (by simp)
theorem cB.agS{α:Type}{kids:α->List α}{out todo r:List α}(h:cB kids out todo r):(∀a∈out,∀b∈kids a,b∈out∨b∈todo)->∀a∈r,∀b∈kids a,b∈r:=by
 induction h with
 |done out=>exact fun h a ha b hb=>(h a ha b hb).resolve_right (by simp)
 | @skip out todo r s h _ ih =>
   refine fun h2=>ih fun a ha b hb=>?_;rcases h2 a ha b hb with g|g
   .exact .inl g
   .rcases ah1.1 g with g|g
    .exact .inr g
    .rw[ahZ.1 g];exact .inl h
 | @take out todo r s h _ ih =>
   refine fun h2=>ih fun a ha b hb=>?_;rcases ah1.1 ha with ha|ha
   .rcases h2 a ha b hb with g|g
    .exact .inl (aif _ g)
    .rcases ah1.1 g with g|g
     .exact .inr (aif _ g)
     .rw[ahZ.1 g];exact .inl (by simp)
   .rw[ahZ.1 ha]at hb;exact .inr (ajd _ (ajX.2 hb))
def mQ(ns:List TN)(x:Int):List Int:=ch (nd ns x.toNat)
def iz(ns:List TN)(x:Int):Prop:=0<=x∧x<ns.length
def mR(N:Nat):List Int:=(List.range N).map fun(i:Nat)=>(i:Int)
theorem agT(N:Nat):(mR N).length=N:=by simp[mR]
theorem agU{ns:List TN}{x:Int}(h:iz ns x):x∈mR ns.length:=ah9.2 ⟨x.toNat,aiq.2 (by have:=h.1;have:=h.2;omega),by have:=h.1;omega⟩
structure Bl(ns:List TN)(root:Int)(out td:List Int):Prop where
 mD:∀s∈td,iz ns s
 rT:∀s∈out,iz ns s
 eD:∀r,cB (mQ ns) out td r->cB (mQ ns) [] [root] r
 hlen:fQ (mR ns.length) out+out.length<=ns.length
 jk:td.length+40*fQ (mR ns.length) out<=40*ns.length+1
theorem Bl.init{ns:List TN}{root:Int}(h:iz ns root):Bl ns root [] [root]:=by
 have hu:fQ (mR ns.length) ([]:List Int)<=ns.length:=by
  have:=aks (p:=fun x:Int=>!decide (x∈([]:List Int))) (l:=mR ns.length);rw[agT]at this;exact this
 refine⟨fun s hs=>?_,by simp,fun _ h=>h,by simpa using hu,by simp;omega⟩;rw[ahZ.1 hs];exact h
theorem Bl.skip{ns:List TN}{root:Int}{out td:List Int}{s:Int}(h:Bl ns root out (td++[s]))(hs:s∈out):Bl ns root out td:=by
 refine⟨fun a ha=>h.mD a (aif _ ha),h.rT,fun r hr=>h.eD r (.skip hs hr),h.hlen,?_⟩;have:=h.jk;rw[ah7]at this;simp only[List.length_cons,List.length_nil]at this;omega
theorem Bl.lt{ns:List TN}{root:Int}{out td:List Int}{s:Int}(h:Bl ns root out (td++[s]))(hs:s∉out):fQ (mR ns.length) (out++[s])<fQ (mR ns.length) out :=
 Bz hs (agU (h.mD s (by simp)))
theorem Bl.take{ns:List TN}{root:Int}{out td:List Int}{s:Int}(hk:Cb ns)(h:Bl ns root out (td++[s]))(hs:s∉out):Bl ns root (out++[s]) (td++(mQ ns s).reverse):=by
 have aF:iz ns s:=h.mD s (by simp);have hlt:=h.lt hs;obtain⟨kX,jd⟩:=hk s.toNat (by have:=aF.1;have:=aF.2;omega);refine⟨fun a ha=>?_,fun a ha=>?_,fun r hr=>h.eD r (.take hs hr),?_,?_⟩
 .rcases ah1.1 ha with ha|ha
  .exact h.mD a (aif _ ha)
  .exact kX a (ajX.1 ha)
 .rcases ah1.1 ha with ha|ha
  .exact h.rT a ha
  .rw[ahZ.1 ha];exact aF
 .have:=h.hlen;rw[ah7];simp only[List.length_cons,List.length_nil];omega
 .have:=h.jk;rw[ah7]at this;rw[ah7,ajG];simp only[List.length_cons,List.length_nil]at this;show td.length+(ch (nd ns s.toNat)).length+_<=_;omega
def zh(ns:List TN)(root:Int)(l:List Int):Prop:=cB (mQ ns) [] [root] l∧(∀s∈l,iz ns s)∧l.length<=ns.length
theorem Tz{l:List Int}{i:Nat}(h:i<l.length):(l.map i64).getD i .aY=i64 (l.getD i 0):=by simp[h]
theorem agV{G}(l:List Int)(hl:l.length<=1000000):bA prog G 76 [.vw [45,0] 0 l.length] [([45,0],.arr none (l.map i64))] [45] (fun r ae=>r=.aA []∧ae=[([45,0],.arr none (l.reverse.map i64))]):=by
 refine eV func76 rfl (by decide +kernel) (by simp[ntmps76]) (aT fun E=>?_);simp only[go_sem];refine Aj E (X:={ i:Nat // i<=l.length }) (fun x=>[(0,.vw [45,0] 0 l.length),(2,.d (i64 x.1)),(3,.d (i64 ((l.length:Int)-1-x.1)))]) (fun x=>[([45,0],.arr none ((ib l x.1).map i64))]) [45] (fun x=>l.length-x.1) ⟨0,aie _⟩ ?_ ?_
 .simp only[go_sem];rw[aD ⟨by omega,by omega⟩,agN];exact⟨congrArg (fun z=>AV.d (i64 z)) (by omega),rfl⟩
 rintro⟨i,hi⟩ E';simp only[go_sem];refine aH E' ?_ ?_<;>intro h1<;>simp only[go_sem]
 .obtain⟨j,hj⟩:∃j:Nat,j=l.length-1-i:=⟨_,rfl⟩
  have bG:(l.length:Int)-1-i=(j:Int):=by omega
  rw[bG];refine bF mixed E' fun X=>?_;simp only[go_sem];have fU:j<(ib l i).length:=by rw[Tt];omega
  have bR:i<(ib l i).length:=by rw[Tt];omega
  refine⟨by omega,?_⟩;rw[Tz fU];simp only[go_sem];refine⟨by omega,?_⟩;rw[Tz bR];simp only[go_sem]
  have uo:(ib l i).getD j 0=l.getD j 0:=by
   rw[Tv (by omega)];rw[if_neg (by omega)]
  have Je:(ib l i).getD i 0=l.getD i 0:=by
   rw[Tv (by omega)];rw[if_neg (by omega)]
  have ah:=agP (l:=l) (i:=i) (by omega);rw[<-hj]at ah;refine⟨⟨by omega,by omega⟩,⟨by omega,by omega⟩,by decide +kernel,⟨i+1,by omega⟩,by show l.length-(i+1)<_;omega,⟨by rw[aD ⟨by omega,by omega⟩];rfl,?_⟩,?_⟩
  .rw[aD ⟨by omega,by omega⟩];exact congrArg (fun z=>AV.d (i64 z)) (by show(j:Int)-1=(l.length:Int)-1-((i+1:Nat):Int);omega)
  .rw[uo,Je];show some (Ob.arr none (((List.map i64 (ib l i)).set i (i64 (l.getD j 0))).set j (i64 (l.getD i 0))))=some (Ob.arr none (List.map i64 (ib l (i+1))));rw[<-ah,ajv,ajv]
 .refine⟨_,_,[45],id,⟨rfl,rfl⟩,?_⟩;simp only[go_sem];rw[agO (by omega)]
theorem agW{G}(l:List Int)(hl:l.length<=1000000):bA prog G 62 [.d (aL l)] [] [] (fun r ae=>r=.vw [0] 0 l.length∧ae=[([0],.arr none (l.map i64))]):=by
 refine bA.Nc (Q:=fun r ae=>(r=.d .ai∧ae=[]∧l=[])∨(r=.vw [0] 0 l.length∧ae=[([0],.arr none (l.map i64))])) ?_ 0 none (by simp) ?_
 .unfold aL;refine eV func62 rfl (by decide +kernel) (by simp[ntmps62]) (aT fun E=>?_);simp only[go_sem];refine Nb E (e:=3) (by simp only[go_sem]) (by simp only[go_sem]) rfl fun b hb=>?_;simp only[go_sem];refine cK E ?_ ?_<;>intro h<;>simp only[go_sem]
  .have:l=[]:=by simpa using hb h
   subst this;refine⟨_,[],[],id,.inl ⟨rfl,rfl,rfl⟩,?_⟩;simp only[go_sem]
  .refine⟨by omega,_,_,[0],ar [([0],[7])],.inr ⟨rfl,rfl⟩,?_⟩;simp only[go_sem]
 .rintro r ae (⟨rfl,rfl,rfl⟩|h)
  .exact .inr ⟨rfl,rfl,rfl,rfl⟩
  .exact .inl h
theorem cB.ex{ns:List TN}{root:Int}(hk:Cb ns):∀(m:Nat) (out td:List Int),td.length+40*fQ (mR ns.length) out<=m->Bl ns root out td->∃r,cB (mQ ns) out td r:=by
 intro m
 induction m with
 |zero =>
   intro out td h hb;have:td=[]:=ai7 (by omega);subst this;exact⟨_,.done _⟩
 |succ m ih =>
   intro out td h hb;by_cases h0:td=[]
   .subst h0;exact⟨_,.done _⟩
   obtain⟨td,x,rfl⟩:=Tw (l:=td) (ajO.2 h0);rw[ah7]at h;simp only[List.length_cons,List.length_nil]at h;by_cases hx:x∈out
   .obtain⟨r,hr⟩:=ih out td (by omega) (hb.skip hx);exact⟨r,.skip hx hr⟩
   .have h1:=hb.lt hx;have aF:=hb.mD x (by simp);have h2:(mQ ns x).length<=30:=(hk x.toNat (by have:=aF.1;have:=aF.2;omega)).2;obtain⟨r,hr⟩:=ih (out++[x]) (td++(mQ ns x).reverse) (by rw[ah7,ajG];omega) (hb.take hk hx);exact⟨r,.take hx hr⟩
theorem zh.ex{ns:List TN}{root:Int}(hk:Cb ns)(hr:iz ns root):∃l,zh ns root l:=by
 obtain⟨r,h⟩:=cB.ex hk _ [] [root] (ain _) (.init hr);refine⟨r,h,?_⟩
 have:∀{out td r:List Int},cB (mQ ns) out td r->Bl ns root out td->(∀s∈r,iz ns s)∧r.length<=ns.length:=by
  intro out td r h
  induction h with
  |done out=>exact fun hb=>⟨hb.rT,by have:=hb.hlen;omega⟩
  |skip hs _ ih=>exact fun hb=>ih (hb.skip hs)
  |take hs _ ih=>exact fun hb=>ih (hb.take hk hs)
 exact this h (.init hr)
theorem cB.agX{α:Type}{kids:α->List α}{out td r:List α}{s:α}(h:cB kids out (td++[s]) r)(hs:s∈out):cB kids out td r:=by
 generalize ht:td++[s]=t at h
 cases h with
 |done=>simp at ht
 |skip h1 t1=>obtain⟨rfl,rfl⟩:=vm ht;exact t1
 |take h1 t1=>obtain⟨rfl,rfl⟩:=vm ht;exact absurd hs h1
theorem cB.agY{α:Type}{kids:α->List α}{out td r:List α}{s:α}(h:cB kids out (td++[s]) r)(hs:s∉out):cB kids (out++[s]) (td++(kids s).reverse) r:=by
 generalize ht:td++[s]=t at h
 cases h with
 |done=>simp at ht
 |skip h1 t1=>obtain⟨rfl,rfl⟩:=vm ht;exact absurd h1 hs
 |take h1 t1=>obtain⟨rfl,rfl⟩:=vm ht;exact t1
theorem cB.agZ{α:Type}{kids:α->List α}{out r:List α}(h:cB kids out [] r):r=out:=(cB.done out).fn h |>.symm
theorem cB.ag0{α:Type}{kids:α->List α}{out td r:List α}(h:cB kids out td r):∃z,r=out++z:=by
 induction h with
 |done out=>exact⟨[],by simp⟩
 |skip _ _ ih=>exact ih
 | @take out td r s _ _ ih=>obtain⟨z,rfl⟩:=ih;exact⟨s::z,by simp⟩
end Go.Proofs.YtpmniabdmbmafaaGreatDoor

namespace Go.Proofs.YtpmniabdmbmafaaGreatDoor
open Go.Ab Tryz
def oM(N:Nat)(out:List Int):List D:=(List.range N).map fun(j:Nat)=>D.bool (decide ((j:Int)∈out))
theorem ag1(N:Nat):List.replicate N (D.bool false)=oM N []:=by
 refine ai0 (by simp[oM]) fun q h1 h2=>?_;simp[oM]
theorem ag2{N:Nat}{out:List Int}{x:Nat}(hx:x<N):(oM N out).getD x .aY=.bool (decide ((x:Int)∈out)):=by simp[oM,hx]
theorem ag3{N:Nat}{out:List Int}{x:Nat}(_hx:x<N):(oM N out).set x (.bool true)=oM N (out++[(x:Int)]):=by
 refine ai0 (by simp[oM]) fun q h1 h2=>?_;have hq:q<N:=by simpa[oM]using h2
 simp only[ajW];by_cases e:x=q
 .subst e;simp[oM]
 .rw[if_neg e];have:¬((q:Int)=(x:Int)):=by omega
  simp[oM,this]
def Cc(ns:List TN)(r0 root:Int):List D:=[.ptr (.agg [.sl (some 4) (ns.map aw),i64 r0]),.ptr (i64 root)]
theorem ag4{G}(ns:List TN)(r0 root:Int)(l:List Int)(hN:ns.length<=4000)(cT:∀n∈ns,n.l.length<=1000000)(hk:Cb ns)(hr:iz ns root)(hl:zh ns root l) :
  HI prog G 75 (Cc ns r0 root) l.length (fun n=>[i64 (l.getD n 0)]):=by
 refine aap func75 rfl (by decide +kernel) (by simp[ntmps75,Cc]) rfl fun z hz=>?_;unfold Cc;refine iw (j7 fun E=>?_);simp only[go_sem];refine⟨⟨by omega,by omega,by omega,by omega⟩,?_⟩;rw[show List.replicate ns.length (D.bool false)=oM ns.length []from ag1 _];refine iw (j7 fun E=>?_);simp only[go_sem]
 refine HF (aah (X:={ x:List Int×List Int×List Int // Bl ns root x.1 x.2.1∧cB (mQ ns) x.1 x.2.1 l }) (fun x=>mk [(0,.d (.yl z.l)),(1,.d (.ptr (.agg [.sl (some 4) (ns.map aw),i64 r0]))),(4,.vw [98] 0 ns.length),(5,.vw [99] 0 x.1.2.1.length)]
  [([98],.arr none (oM ns.length x.1.1)),([99],.arr none ((x.1.2.1++x.1.2.2).map i64))] [98,99]) (fun x=>II z x.1.1.length) (fun x=>x.1.2.1.length+40*fQ (mR ns.length) x.1.1) ⟨([],[root],[]),.init hr,hl.1⟩ ⟨ar [([98],[11]),([99],[13])],cF.le ?_⟩ (fun _ _ h=>h) ?_)
 .simp only[go_sem]
  all_goals rfl
 rintro⟨⟨out,td,rest⟩,gu,FG⟩;simp only at gu FG ⊢;generalize hΦ:AZ _ _ _ _ _ _ _ _=Φ';refine iw (j7 fun E=>?_);simp only[go_sem];refine aH E ?_ ?_<;>intro h1<;>simp only[go_sem]
 .obtain⟨td,x,rfl⟩:=Tw (l:=td) (by omega);have aF:iz ns x:=gu.mD _ (by simp);obtain⟨x,rfl⟩:∃y:Nat,x=(y:Int):=⟨x.toNat,by have:=aF.1;omega⟩
  have oW:x<ns.length:=by have:=aF.2;omega
  have de:nd ns x∈ns:=by rw[qs oW];exact ah2 oW
  obtain⟨kX,jd⟩:=hk x oW;have jk:=gu.jk;have hle:=gu.hlen;have hlt:(td++[(x:Int)]).length=td.length+1:=by simp
  have hw:lY (((td++[(x:Int)]).length:Int)-1)=(td.length:Int):=by rw[aD ⟨by omega,by omega⟩];omega
  refine HF (iw (j7 fun E=>?_));simp only[go_sem];rw[hw];refine⟨by omega,?_⟩;have hx:(List.map i64 (td++[(x:Int)]++rest)).getD (td.length:Int).toNat .aY=i64 x:=by simp
  rw[hx];simp only[go_sem];refine iw (j7 fun E=>?_);simp only[go_sem];rw[hw];refine⟨by omega,?_⟩;refine iw (j7 fun E=>?_);simp only[go_sem];refine⟨by omega,?_⟩;rw[ag2 oW];simp only[go_sem];refine aH E ?_ ?_<;>intro hm<;>simp only[go_sem]
  .subst hΦ;refine NC (show { x:List Int×List Int×List Int // Bl ns root x.1 x.2.1∧cB (mQ ns) x.1 x.2.1 l } from⟨(out,td,(x:Int)::rest),gu.skip hm,FG.agX hm⟩) ?_ id (cF.le ?_) (fun _ _ h=>h)
   .show td.length+40*fQ (mR ns.length) out<(td++[(x:Int)]).length+40*fQ (mR ns.length) out;omega
   .simp only[go_sem];simp
  .have TA:=FG.agY hm;have ag5:=gu.take hk hm;have KK:=gu.lt hm;obtain⟨z2,pd⟩:=TA.ag0;have vb:out.length<l.length:=by rw[pd];simp
   have iA:l.getD out.length 0=(x:Int):=by rw[pd];simp
   refine iw (j7 fun E=>?_);simp only[go_sem];refine⟨by omega,?_⟩;rw[ag3 oW];refine iw (iw (aae (Dn rfl ?_)));simp only[go_sem];refine Dn rfl ?_;simp only[go_sem];refine aan hz vb (by simp) rfl (by simp only[go_sem];rw[iA]) ?_ ?_
   .refine Dn rfl ?_;simp only[go_sem];refine NB (j7 fun E=>?_);simp only[go_sem];refine j7 fun E=>?_;simp only[go_sem];refine⟨by omega,?_⟩;rw[uP oW];simp only[go_sem];refine bj E (Dm (nd ns x) (cT _ de)) rfl rfl (by simp) ?_;rintro _ rfl;obtain⟨K,hK⟩:∃K,K=ch (nd ns x):=⟨_,rfl⟩
    rw[<-hK]at jd kX ⊢;simp only[go_sem];refine je E [.d (aL K)] [] [] (agW K (by omega)) rfl rfl ⟨by simp only[go_sem],by rw[ay];decide⟩ rfl (by simp only[go_sem]) (by simp only[go_sem]) ?_;rintro _ _ ⟨rfl,rfl⟩;simp only[go_sem];refine je E [.vw [45,0] 0 K.length] [([45,0],.arr none (K.map i64))] [45] (agV K (by omega)) rfl rfl ⟨by simp only[go_sem],by rw[ay];decide⟩ rfl (by simp only[go_sem]) (by simp only[go_sem]) ?_;rintro _ _ ⟨rfl,rfl⟩;simp only[go_sem];have rL:List.take K.length (List.map i64 K.reverse)=List.map i64 K.reverse:=aic (by simp)
    have sN:List.take (td.length-0) (List.map i64 (td++[(x:Int)]++rest))=List.map i64 td:=by
     rw[Nat.sub_zero,aiS,ail,aj3 (by simp),aic (by simp)]
    rw[rL,sN];simp only[go_sem];refine⟨by simp,by simp only[ajG];omega,NA ?_⟩;subst hΦ;refine NC (show { x:List Int×List Int×List Int // Bl ns root x.1 x.2.1∧cB (mQ ns) x.1 x.2.1 l } from⟨(out++[(x:Int)],td++(mQ ns (x:Int)).reverse,[]),ag5,TA⟩) ?_ (ar [([99],[50])]) (cF.le ?_) (fun _ _ h=>by rw[show(out++[(x:Int)]).length=out.length+1 by simp];exact h)
    .have mB:(mQ ns (x:Int))=K:=by rw[hK];rfl
     show(td++(mQ ns (x:Int)).reverse).length+40*fQ (mR ns.length) (out++[(x:Int)])<(td++[(x:Int)]).length+40*fQ (mR ns.length) out;rw[mB,ah7,ajG];omega
    .have mB:(mQ ns (x:Int))=K:=by rw[hK];rfl
     simp only[go_sem];rw[mB];simp
   .refine Dn rfl ?_;simp only[go_sem];refine NB (j7 fun E=>?_);simp only[go_sem];subst hΦ;exact aaj (aam hz (.inr rfl))
 .subst hΦ;refine aai ?_;simp only[go_sem];refine aad ?_;have:td=[]:=ai7 (by omega);subst this;have:=FG.agZ;subst this;exact aal hz (.inl rfl)
end Go.Proofs.YtpmniabdmbmafaaGreatDoor

namespace Go.Proofs.YtpmniabdmbmafaaGreatDoor
open Go.Ab Tryz
theorem ag6{G}(ns:List TN)(r0 root:Int):HP prog G 43 [bp ns r0,i64 root] (fun r=>r=.d (.aW 75 (Cc ns r0 root))):=by
 unfold bp Cc
 have h:bA prog G 43 [.d (.agg [.sl (some 4) (ns.map aw),i64 r0]),.d (i64 root)] [] [] (fun r ae=>r=.aW 75 [.bx [2] 0,.bx [3] 0]∧ae=[([2],.box [.d (.sl (some 4) (ns.map aw)),.d (i64 r0)]),([3],.box [.d (i64 root)])]):=by
  refine eV func43 rfl (by decide +kernel) (by simp[ntmps43]) (aT fun E=>?_);simp only[go_sem];refine⟨_,_,[2,3],id,⟨rfl,rfl⟩,?_⟩;simp only[go_sem]
 have h2:=bA.fB (Q':=fun r ae=>r=.aW 75 [.d (.ptr (.agg [.sl (some 4) (ns.map aw),i64 r0])),.bx [3] 0]∧ae=[([3],.box [.d (i64 root)])]) h [2] (.agg [.sl (some 4) (ns.map aw),i64 r0]) (by
  rintro r ae ⟨rfl,rfl⟩;refine⟨rfl,rfl,?_,?_⟩
  .simp only[go_sem]
  .simp only[go_sem])
 have h3:=bA.fB (Q':=fun r ae=>r=.d (.aW 75 [.ptr (.agg [.sl (some 4) (ns.map aw),i64 r0]),.ptr (i64 root)])∧ae=[]) h2 [3] (i64 root) (by
  rintro r ae ⟨rfl,rfl⟩;refine⟨rfl,rfl,?_,?_⟩
  .simp only[go_sem]
  .simp only[go_sem])
 exact h3.aaF (ds:=[_,_]) fun r ae ⟨h1,h2⟩=>⟨⟨h1,by rw[h1];rfl⟩,h2⟩
end Go.Proofs.YtpmniabdmbmafaaGreatDoor

namespace Go.Proofs.YtpmniabdmbmafaaGreatDoor
open Go.Ab Tryz
def lI(ns:List TN)(l:List Int):List Int:=(l.filter fun x=>decide (ag ns x=11)).map fun x=>(nd ns x.toNat).a
theorem ag7{ns:List TN}{l:List Int}{n:Nat}(h:n<l.length):lI ns (l.take (n+1))=lI ns (l.take n)++if ag ns (l.getD n 0)=11 then[(nd ns (l.getD n 0).toNat).a]else[]:=by
 have e:l.getD n 0=l[n]:=by simp[h]
 rw[e];unfold lI;rw[ah5 h,akg,ail];congr 1;by_cases hk:ag ns l[n]=11<;>simp[hk]
theorem Km(ns:List TN)(l:List Int):(lI ns l).length<=l.length:=by
 unfold lI;rw[aik];exact aiF _ _
theorem ag8{G}(ns:List TN)(root:Int)(l:List Int)(hs:rE ns)(hm:ek ns root=0)(hN:ns.length<=2000)(hl:zh ns root l):HP prog G 21 [bp ns root] (fun r=>r=.d (aL (bw (lI ns l)))):=by
 have c0:=Io (G:=G) ns root hs;have c1:=ag6 (G:=G) ns root root;have zi:=vn hm;have cT:∀n∈ns,n.l.length<=1000000:=fun n hn=>(hs.2 n hn).1;refine uN ?_;refine N1 func21 rfl (by decide +kernel) (by simp[ntmps21]) fun B0 JQ=>?_;unfold bp at *
 refine iw (j7 fun E=>?_);simp only[go_sem];refine iw (j7 fun E=>?_);simp only[go_sem];refine bj E c0 rfl rfl (by simp) ?_;rintro _ rfl;rw[hm];simp only[go_sem];refine iw (j7 fun E=>?_);simp only[go_sem];refine iw (iw (j7 fun E=>?_));simp only[go_sem];refine bj E c1 rfl rfl (by simp) ?_;rintro _ rfl;simp only[go_sem];refine N2 [1] (.agg [.sl (some 4) (ns.map aw),i64 root]) rfl rfl ?_;simp only[go_sem];refine aaH [3] 0 99 none [.d .ai] rfl rfl (by rw[ay];decide) ?_;simp only[go_sem];have ag9:=Tx zi.2.2.1;have Dv:iz ns root:=zi.2.1;refine HF (aaA rfl (ag4 ns root root l (by omega) cT ag9 Dv hl) rfl (X:=Unit) (fun n _=>mk [(1,.d (.ptr (.agg [.sl (some 4) (ns.map aw),i64 root]))),(3,.bx [3] 0)] [([3],.box [.vw [99] 0 (lI ns (l.take n)).length]),([99],.arr none ((lI ns (l.take n)).map i64))] [3,99]) (by simp) (fun n hn=>rfl) ⟨(),id,cF.le ?_⟩ ?_ ?_)
 .simp only[go_sem];exact⟨rfl,rfl⟩
 .rintro n ⟨⟩ hn lb;have hx:=hl.2.1 _ (show l.getD n 0∈l by rw[getD_eq hn];exact ah2 hn);have gB:=hx.1;have iO:=hx.2;have bU:=ag7 (ns:=ns) hn;have TB:=Km ns (l.take n);have sN:(l.take n).length<=n:=by simp;omega
  have TC:=hl.2.2;refine aT fun E=>?_;simp only[go_sem];refine aaz fun E=>?_;simp only[go_sem];refine⟨by omega,?_⟩;rw[uP (by omega)];simp only[go_sem];refine aH E ?_ ?_<;>intro h1<;>simp only[go_sem]
  .rw[if_pos (show ag ns (l.getD n 0)=11 from h1)]at bU;refine⟨by omega,?_⟩;refine N5 ?_ () (ar [([99],[26])]) rfl ?_
   .simp only[go_sem]
   .simp only[go_sem];rw[bU];simp
  .rw[if_neg (show¬ag ns (l.getD n 0)=11 from h1),aiR]at bU;refine N5 ?_ () id rfl ?_
   .simp only[go_sem];exact ain _
   .rw[bU];simp only[go_sem]
 .rintro⟨⟩;refine NA ?_;rw[aij];simp only[go_sem];refine j7 fun E=>?_;simp only[go_sem];have TB:=Km ns l;have TC:=hl.2.2;have d1:=IL (G:=G) 99 (lI ns l) (by omega);have d2:=OZ (G:=G) (lr (lI ns l)) (by rw[uZ];omega);rw[show eG (lr (lI ns l))=bw (lI ns l)from rfl,uZ]at d2;refine je E _ _ _ d1 rfl rfl ⟨by simp only[go_sem],by rw[ay];decide⟩ (by simp only[go_sem]) (by simp only[go_sem]) (by simp only[go_sem]) ?_;rintro _ _ ⟨rfl,rfl⟩;refine⟨by simp only[go_sem];try simp,?_⟩;simp only[go_sem];rw[show(lI ns l).mergeSort (fun x y=>decide (x<=y))=lr (lI ns l)from rfl];refine jh E (ar [([0],[99])]) _ _ _ d2 rfl rfl ⟨by simp only[go_sem],by rw[ay];decide⟩ rfl (by simp only[go_sem]) (by simp only[go_sem]) ?_;rintro _ _ ⟨zs,rfl,rfl,hz,hf,qa⟩;refine⟨by simp only[go_sem];rw[uZ];omega,?_⟩;simp only[go_sem];refine N0 (.inl rfl) JQ ?_;simp only[go_sem];refine⟨[([99],none,zs)],?_⟩;simp only[go_sem];rw[hz];exact⟨_,rfl,.refl _⟩
theorem aha{G}(ns:List TN)(root:Int)(hs:rE ns):HP prog G 8 [bp ns root] (fun r=>∃b:Bool,r=.d (.bool b)∧(b=true->ek ns root=0∧∃l,zh ns root l∧∀x∈l,ag ns x≠11)):=by
 have c0:=Io (G:=G) ns root hs;by_cases hm:ek ns root=0
 .have zi:=vn hm;obtain⟨l,hl⟩:=zh.ex (Tx zi.2.2.1) (show iz ns root from zi.2.1);have c1:=ag8 (G:=G) ns root l hs hm zi.1.2 hl;have hz:=Iu (lI ns l);have TB:=Km ns l;have TC:=hl.2.2
  have ahb:((bw (lI ns l)).length=0)->∀x∈l,ag ns x≠11:=fun h x hx hk=>by
   have h1:(nd ns x.toNat).a∈bw (lI ns l):=(rF _ _).2 (ah9.2 ⟨x,ait.2 ⟨hx,by simpa using hk⟩,rfl⟩);rw[ai7 h]at h1;cases h1
  rw[hm]at c0;unfold bp at *
  unfold aL at c1;refine cJ func8 rfl (by decide +kernel) (by simp[ntmps8]) (aT fun E=>?_);simp only[go_sem];refine bj E c0 rfl rfl (by simp) ?_;rintro _ rfl;simp only[go_sem];refine bj E c1 rfl rfl (by simp) ?_;rintro _ rfl;simp only[go_sem];exact⟨_,rfl,fun h=>⟨hm,l,hl,ahb (by have h:=of_decide_eq_true h;omega)⟩⟩
 .unfold bp at *
  refine cJ func8 rfl (by decide +kernel) (by simp[ntmps8]) (aT fun E=>?_);simp only[go_sem];refine bj E c0 rfl rfl (by simp) ?_;rintro _ rfl;simp only[go_sem];refine bS E ?_ ?_<;>intro g<;>simp only[go_sem]
  .exact absurd g hm
  .exact⟨_,rfl,fun h=>by cases h⟩
end Go.Proofs.YtpmniabdmbmafaaGreatDoor

namespace Go.Proofs.YtpmniabdmbmafaaGreatDoor
open Go.Ab Tryz
theorem ahc{ts:List TN}{root n:Int}(ht:Ty ts root){R:List EA}(hR:nF ts root n=some R):(R.length:Int)<=vp n∧∀s∈R,s.vars.length<=ts.length∧s.fl.length<=30∧s.tl.length<=30:=by
 obtain⟨hb,he⟩:=Jo ht;unfold nF at hR;rw[he]at hR hb;by_cases hn:0<vp n
 .obtain⟨V,v1,v2,_,v4⟩:=Ey ht 2001 hb (.inr ⟨rfl,by simp⟩) hR;obtain⟨V',w1,_,w3,w4⟩:=JE ht 2001 (by simp) hb.an hb.wo (fun i hi=>absurd hi (by simp)) hR;refine⟨by omega,fun s hs=>⟨?_,(v1.st s hs).2⟩⟩;obtain⟨i,hi,rfl⟩:=aiB hs;have hg:R.getD i default=R[i]:=by simp[hi]
  have hv:=(w4 i hi).vars;rw[hg]at hv
  have hc:nC ts (V'.getD i default):=by
   rw[ahX,aib (by omega)];exact w3 _ (ah2 _)
  have:=ES (l:=R[i].vars) (u:=ts.map (·.a)) (by rw[hv];exact(yE _).imp fun h=>by omega) fun v hm=>by
   rw[hv]at hm;obtain⟨y,hy,rfl⟩:=ah9.1 ((rF _ v).1 hm);have ho:=hc.2 y (eo hy).1;rw[qs (by have h1:=ho.1;have h2:=ho.2;omega)];exact ah9.2 ⟨_,ah2 _,rfl⟩
  rwa [aik]at this
 .obtain⟨V,v1,v2,v3,v4⟩:=Ey ht 2001 hb (.inr ⟨rfl,by simp⟩) hR;have:=v3.len;simp at this;omega
def Cd(n:TN):Prop:=n.l=[]∨(gU n.k=true∧n.l.length<=30)
theorem TD{R:List EA}(h:∀s∈R,s.fl.length<=30∧s.tl.length<=30):∀i,i<=R.length->∀n∈gW R i,Cd n
 |0,_,n,hn=>by rw[ajb hn];exact .inl rfl
 |i+1,hi,n,hn=>by
   have ih:=TD h i (by omega)
   have hs:R.getD i default∈R:=by
    rw[ahX,aib (by omega)];exact ah2 _
   have bc:=h _ hs;rw[gW]at hn;generalize R.getD i default=s at bc hn
   have ahd:∀x∈ec s (cz s.plus),Cd x:=fun x hx=>by
    rcases y6 hx with⟨_,rfl⟩|⟨_,rfl⟩|⟨_,rfl⟩|⟨_,rfl⟩|⟨v,_,rfl⟩|⟨_,rfl⟩|⟨_,rfl⟩|⟨_,rfl⟩
    .exact .inl rfl
    .exact .inl rfl
    .exact .inl rfl
    .exact .inl rfl
    .exact .inl rfl
    .exact .inl rfl
    .exact .inr ⟨rfl,bc.1⟩
    .exact .inr ⟨rfl,bc.2⟩
   have hall:∀(P:List TN) (S:List TN×Nat),(∀x∈P,Cd x)->(∀x∈S.1,Cd x)->∀x∈(P.foldl (gD (cA s.plus)) S).1,Cd x:=by
    intro P
    induction P with
    |nil=>intro S _ h2;exact h2
    |cons y P ihP =>
      intro S h1 h2;rw[List.foldl_cons];refine ihP _ (fun x hx=>h1 x (ah8 _ hx)) fun x hx=>?_;simp only[gD,ah1,ah6,aiw,or_false]at hx;obtain hx|rfl|rfl:=hx
      .exact h2 x hx
      .exact h1 _ ah0
      .exact .inl rfl
   unfold j6 at hn;rcases ajy hn with hn|rfl
   .refine hall _ _ ?_ ?_ n hn
    .exact ahd
    .intro x hx;rcases ah1.1 hx with hx|hx
     .exact ih x hx
     .rw[ahZ.1 hx];exact .inl rfl
   .exact .inl rfl
theorem TE{ns:List TN}{most:Nat}(h:(nk ns most).length<=2000):(nk ns most).length<=most:=by
 simp only[nk,aik,air,jx]at h ⊢;split at h<;>rename_i hc
 .omega
 .rw[if_neg hc];omega
theorem TF{ns:List TN}{most:Nat}:∀n∈nk ns most,n.l.length<=40:=fun n hn=>by
 obtain⟨m,_,rfl⟩:=ah9.1 hn;simp only[gT,air];omega
theorem ahe{gs:List TN}{g:Int}(hm:ek gs g=0)(hl:gs.length<=4000):∀n∈gs,EY n:=fun n hn=>by
 obtain⟨i,hi,rfl⟩:=aiB hn;have ht:=yT hm;have ho:aC gs (i:Int):=⟨by omega,by omega⟩
 have e:(i:Int).toNat=i:=Int.toNat_natCast i;have hnd:nd gs i=gs[i]:=qs hi;have hf:=ht.oI.fd i ho;rw[e,hnd]at hf;refine⟨⟨hf.1,fun q hq=>?_⟩,fun h2=>?_⟩
 .have:=(hf.2 q hq).2;have h1:=this.1;have h3:=this.2;omega
 .have hk:=Rz hm ho;rw[e,hnd]at hk
  have jd:ch gs[i]=[gs[i].a,gs[i].b]:=by
   unfold ch;rw[RD h2];rfl
  rw[jd]at hk;have h1:=hk gs[i].a (by simp);have h3:=hk gs[i].b (by simp);have a1:=h1.1;have a2:=h1.2;have b1:=h3.1;have b2:=h3.2;exact⟨⟨a1,by omega⟩,b1,by omega⟩
theorem ahf{ns gs:List TN}{m:Nat}(h1:∀n∈ns,n.l.length<=m)(h2:∀n∈gs,n.l.length<=m)(i:Nat):(nd (aq ns gs) i).l.length<=m:=by
 by_cases hi:i<(aq ns gs).length
 .rw[qs hi];have hm:=ah2 hi;generalize (aq ns gs)[i]=x at hm;rcases ah1.1 hm with hm|hm
  .exact h1 _ hm
  .obtain⟨n,hn,rfl⟩:=ah9.1 hm;simp only[iM,aik];exact h2 n hn
 .unfold nd;rw[ahX,aiE (by omega)];simp
open Classical in
theorem TG{G}{ns gs:List TN}{root g:Int}{pos:Bool->Int->Prop}{gr:Int->Prop}(hs:jF ns pos)(hg:dJ gs gr)(hr:pos true root)(cX:gr g)(hl:ns.length<=1800)(iA:gs.length<=6)(hm:∀n∈gs,EY n)(h1:∀n∈ns,n.l.length<=1000)(h2:∀n∈gs,n.l.length<=1000) :
  HP prog G 9 [bp ns root,bp gs g] (fun r=>r=.d (.bool (decide (nH 1000 (aq ns gs) ([root],[g+ns.length]))))):=by
 have g1:eQ [g]∧∀y∈[g],gr y:=⟨ajE _ _,fun y hy=>by rw[ahZ.1 hy];exact cX⟩
 have h0:mM pos gr (.F true root [g]):=⟨hr,g1⟩
 have hX:(aq ns gs).length=ns.length+gs.length:=by simp[aq]
 have fO:∀q,fu 1000 (aq ns gs) ([root],[g+(ns.length:Int)]) q->(q.1.length<=gs.length+1∧q.2.length<=gs.length+1)∧(∀x∈q.1,aC (aq ns gs) x)∧∀x∈q.2,aC (aq ns gs) x:=fun q hq=>afz hs hg h0 hq;have eD:=hg.ok g cX;refine JM (agM (G:=G) ns gs root g (by omega) hm ⟨eD.1,by have:=eD.2;omega⟩ (fun q hq=>?_) (fun q hq=>?_) (ahf h1 h2) fun al hn ha=>?_) fun r ⟨b,hb,hi⟩=>?_
 .obtain⟨⟨a1,a2⟩,a3,a4⟩:=fO q hq;exact⟨by omega,by omega,fun x hx=>⟨(a3 x hx).1,by have:=(a3 x hx).2;omega⟩,fun x hx=>⟨(a4 x hx).1,by have:=(a4 x hx).2;omega⟩⟩
 .obtain⟨⟨a1,a2⟩,a3,a4⟩:=fO q hq;exact⟨by omega,by omega,a3,a4⟩
 .have h3:=afy hs hg h0 hn ha;have h4:2 ^ gs.length<=64:=Nat.pow_le_pow_right (n:=2) (by omega) iA;have h5:ns.length*(2 ^ gs.length+2 ^ gs.length)<=1800*128:=akY hl (by omega);have h6:2 ^ gs.length*2 ^ gs.length<=64*64:=akY h4 h4;omega
 .rw[hb];congr 2
  cases b with
  |true=>exact(decide_eq_true (hi.1 rfl)).symm
  |false=>exact(decide_eq_false fun h=>by have:=hi.2 h;cases this).symm
end Go.Proofs.YtpmniabdmbmafaaGreatDoor

namespace Go.Proofs.YtpmniabdmbmafaaGreatDoor
open Go.Ab Tryz
variable {t:TypeId}{fz:Nat×Nat}
def Ce(ns:List TN)(root:Int)(e:Int):Prop:=e≠0∧(e=ek ns root∨(ek ns root=0∧e=12∧∃l,lx ns root l∧ly ns l=false))
theorem Kn{G}(ns:List TN)(root n:Int)(hs:rE ns)(h:ek ns root≠0∨∀l,lx ns root l->ly ns l=false) :
  HP prog G 7 [bp ns root,i64 n] (fun r=>∃e,Ce ns root e∧r=.aA [.d (.agg [.ai,i64 0]),.d (i64 e)]):=by
 have c0:=QB (G:=G) ns root hs;unfold bp at c0 ⊢;refine gy func7 rfl (by decide +kernel) (by simp[ntmps7]) (aT fun E=>?_);simp only[go_sem];refine bj E c0 rfl rfl (by simp) ?_;rintro r hr
 obtain⟨e,he,rfl⟩:∃e,Ce ns root e∧r=.d (i64 e):=by
  obtain⟨h1,rfl⟩|⟨h0,l,rfl,hl⟩:=hr
  .exact⟨_,⟨h1,.inl rfl⟩,rfl⟩
  .have hp:=(h.resolve_left (fun g=>g h0)) l hl;rw[hp];exact⟨12,⟨by decide,.inr ⟨h0,rfl,l,hl,hp⟩⟩,rfl⟩
 simp only[go_sem];refine aH E ?_ ?_<;>intro g<;>simp only[go_sem]
 .refine⟨[],?_⟩;simp only[go_sem];exact⟨e,he,rfl⟩
 .exact absurd (by simpa using g) he.1
theorem ahV{G}(ns:List TN)(root:Int)(hs:rE ns)(h:ek ns root≠0∨∀l,lx ns root l->ly ns l=false) :
  HP prog G 15 [bp ns root] (fun r=>∃e,Ce ns root e∧r=.aA [.d (i64 0),.d (i64 e)]):=by
 have c:=Kn (G:=G) ns root 2000 hs h;unfold bp at c ⊢;refine gy func15 rfl (by decide +kernel) (by simp[ntmps15]) (aT fun E=>?_);simp only[go_sem];refine bj E c rfl rfl (by simp) ?_;rintro _ ⟨e,he,rfl⟩;simp only[go_sem];refine⟨[],?_⟩;simp only[go_sem];exact⟨e,he,rfl⟩
theorem ahg(ns:List TN)(root:Int)(hs:rE ns)(h:dO ns)(ha:rP ns)(hr:aC ns root)(hm:ek ns root=0)(hp:∀l,lx ns root l->ly ns l=true) :
  HP prog (GT t fz) 15 [bp ns root] (fun r=>r=match nF ns root 2000 with|some L=>.aA [.d (i64 L.length),.d (i64 0)]|none=>.aA [.d (i64 0),.d (i64 8)]):=by
 have c:=Jj (t:=t) (fz:=fz) ns root 2000 hs h ha hr hm hp;generalize nF ns root 2000=R at c ⊢;unfold bp at c ⊢
 cases R with
 |some L =>
   unfold yU rI at c;refine gy func15 rfl (by decide +kernel) (by simp[ntmps15]) (aT fun E=>?_);simp only[go_sem];refine bj E c rfl rfl (by simp) ?_;rintro _ rfl;simp only[go_sem];refine⟨[],?_⟩;simp only[go_sem]
 |none =>
   unfold yU at c;refine gy func15 rfl (by decide +kernel) (by simp[ntmps15]) (aT fun E=>?_);simp only[go_sem];refine bj E c rfl rfl (by simp) ?_;rintro _ rfl;simp only[go_sem];refine⟨[],?_⟩;simp only[go_sem]
end Go.Proofs.YtpmniabdmbmafaaGreatDoor

