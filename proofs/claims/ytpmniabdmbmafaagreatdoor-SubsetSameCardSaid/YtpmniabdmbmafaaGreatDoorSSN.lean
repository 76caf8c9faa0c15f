/-
  What a sequent leads to, by its form: the whole; plain. (with the parts that follow it)
-/
import Derived.Test.YtpmniabdmbmafaaGreatDoorSSM
import Derived.Test.YtpmniabdmbmafaaGreatDoorSSJ
import Derived.Test.YtpmniabdmbmafaaGreatDoorSSG
import Derived.Test.YtpmniabdmbmafaaGreatDoorSSI
set_option linter.all false
set_option maxHeartbeats 16000000
namespace Go.Proofs.YtpmniabdmbmafaaGreatDoor
open Go.Ab
section
variable {ns gs:List TN}{pos:Bool->Int->Prop}{gr:Int->Prop}
theorem ae7(X:List TN)(x:Int):fG X [x]=if 3<=ag X x∧ag X x<=8 then[ag X x]else[]:=by
 have e:fG X [x]=[3,4,5,6,7,8].filter fun k=>decide (ag X x=k):=aj5 fun k _=>by simp
 rw[e];generalize ag X x=k;by_cases h3:k=3
 .subst h3;rfl
 by_cases h4:k=4
 .subst h4;rfl
 by_cases h5:k=5
 .subst h5;rfl
 by_cases h6:k=6
 .subst h6;rfl
 by_cases h7:k=7
 .subst h7;rfl
 by_cases h8:k=8
 .subst h8;rfl
 rw[if_neg (by omega)];simp[h3,h4,h5,h6,h7,h8]
theorem Ra{X:List TN}{l:List Int}{k:Int}(h:k∈fG X l):aG X k l≠[]∧3<=k∧k<=8:=by
 obtain⟨h1,h2⟩:=ait.1 h;obtain⟨x,hx,e⟩:=aiA.1 h2;refine⟨fun g=>?_,?_⟩
 .have:x∈aG X k l:=ait.2 ⟨hx,e⟩;rw[g]at this;cases this
 .simp at h1;omega
theorem Rb(hg:dJ gs gr){r:List Int}(h:∀y∈r,gr y)(x:Int):((sh ns.length r).any fun y=>gi (aq ns gs) x y)=false:=ai6.2 fun y hy=>by
 obtain⟨z,hz,rfl⟩:=BI.1 hy;have:=hg.nv z (h z hz);unfold gi;rw[oK (hg.ok z (h z hz))];simp[this]
theorem Rc(hg:dJ gs gr){r:List Int}(h:∀y∈r,gr y)(R:List Int):((sh ns.length r).any fun x=>R.any fun y=>gi (aq ns gs) x y)=false:=ai6.2 fun y hy=>by
 obtain⟨z,hz,rfl⟩:=BI.1 hy;have:=hg.nv z (h z hz);simp only[Bool.not_eq_true];refine ai6.2 fun x _=>?_;unfold gi;rw[oK (hg.ok z (h z hz))];simp[this]
theorem at_one{X:List TN}{x:Int}(h:aI X x=true):gj X [x]=0:=by
 unfold gj;rw[akK,h];rfl
theorem EM(hg:dJ gs gr){p:Bool}{r:List Int}(hr:∀y∈r,gr y)(hl:r.any (aI gs)=true):(bI (aq ns gs) (sh ns.length r)).k=(bI gs r).k∧(∀ins,fF (sh ns.length r) (gj (aq ns gs) (sh ns.length r)) (ins.map fun y=>y+(ns.length:Int))=sh ns.length (fF r (gj gs r) ins)) ∧
  (bI (aq ns gs) (sh ns.length r)).a=(bI gs r).a+ns.length∧(bI (aq ns gs) (sh ns.length r)).b=(bI gs r).b+ns.length:=by
 obtain⟨_,_,h3⟩:=at_mem hl;have h4:np (bI gs r).k=true:=Q7 h3;rw[ae2 hg hr hl,QZ hg hr];unfold iM;rw[h4];exact⟨rfl,fun ins=>ae3 _ _ _ ins,rfl,rfl⟩
theorem r8{p:Bool}{r r1:List Int}(hk:(bI gs r).k=cA p∨(bI gs r).k=cA (!p)):tE gs p r r1↔if(bI gs r).k=cA p then r1=fF r (gj gs r) [(bI gs r).a,(bI gs r).b]else r1=fF r (gj gs r) [(bI gs r).a]∨r1=fF r (gj gs r) [(bI gs r).b]:=by
 constructor
 .intro h
  cases h with
  |both h=>rw[if_pos h]
  |left h=>rw[if_neg h];exact .inl rfl
  |right h=>rw[if_neg h];exact .inr rfl
 .intro h;by_cases e:(bI gs r).k=cA p
  .rw[if_pos e]at h;subst h;exact .both e
  .rw[if_neg e]at h;obtain rfl|rfl:=h
   .exact .left e
   .exact .right e
theorem ae8(hs:jF ns pos)(hg:dJ gs gr){x:Int}{r:List Int}(hx:pos true x)(hr:∀y∈r,gr y)(hn:¬lE ns gs true x r) :
  ((c6 (aq ns gs) ([x],sh ns.length r)).2=true↔kP ns gs (.F true x r))∧((c6 (aq ns gs) ([x],sh ns.length r)).2=true->∀q,q∈(c6 (aq ns gs) ([x],sh ns.length r)).1.getD []↔∃g,jE ns gs (.F true x r) g∧q=bP ns.length g):=by
 have aF:=hs.ok _ x hx
 have c1:([x].any (fun x=>decide (ag (aq ns gs) x=2))||(sh ns.length r).any fun x=>decide (ag (aq ns gs) x=1))=lD ns gs true x r:=by
  unfold lD iU;rw[pO (g:=fun y=>decide (ag gs y=1)) fun y hy=>by rw[oK (hg.ok y (hr y hy))]];simp[nI aF,cx,cz]
 have c2:[x].any (aI (aq ns gs))=aI ns x:=by simp[yX aF]
 have c3:(sh ns.length r).any (aI (aq ns gs))=r.any (aI gs):=pO fun y hy=>BJ (hg.ok y (hr y hy));have c4:([x].any fun x=>(sh ns.length r).any fun y=>gi (aq ns gs) x y)=false:=by simp[Rb hg hr]
 unfold c6;simp only[c1,c2,c3,c4]
 cases hd:lD ns gs true x r with
 |true =>
   simp only[if_true];refine⟨⟨fun _=>.inl hd,fun _=>by trivial⟩,fun _ q=>⟨fun h=>(by cases h),?_⟩⟩;rintro⟨g,h,_⟩
   cases h with
   |a h _=>rw[hd]at h;cases h
   |b h _=>rw[hd]at h;cases h
   |r h _ _ _=>rw[hd]at h;cases h
   |hd h _ _ _ _=>rw[hd]at h;cases h
 |false =>
 simp only[aip,if_false]
 cases hl:aI ns x with
 |true =>
   have hk:=(hs.ko.pj _ x hx hl).1
   have eN:bI (aq ns gs) [x]=nd ns x.toNat:=by
    unfold bI;rw[at_one (by rw[yX aF];exact hl)];exact lF aF
   have e9:(nd ns x.toNat).k=9:=hk;rw[eN,e9,at_one (by rw[yX aF];exact hl)];simp only[if_true,show((9:Int)=10)=False from by simp,if_false,Q8];refine⟨⟨fun _=>.inr (.inl hl),fun _=>by trivial⟩,fun _ q=>?_⟩;simp only[Option.getD_some,ah6,aiw,or_false];constructor
   .rintro(rfl|rfl)
    .exact⟨_,.a hd (by simp[eR,hl]),rfl⟩
    .exact⟨_,.b hd (by simp[eR,hl]),rfl⟩
   .rintro⟨g,h,rfl⟩
    cases h with
    |a _ _=>exact .inl rfl
    |b _ _=>exact .inr rfl
    |r _ h _ _=>simp[eR,hl]at h
    |hd _ h _ _ _=>rw[hl]at h;cases h
 |false =>
 simp only[aip,if_false]
 cases dj:r.any (aI gs)with
 |true =>
   obtain⟨o1,o2,o3,o4⟩:=EM (ns:=ns) (p:=true) hg hr dj;obtain⟨_,_,Bk⟩:=at_mem dj
   have hk:(bI gs r).k=cA true∨(bI gs r).k=cA (!true):=by
    have:eA (bI gs r).k=true:=Bk;unfold eA at this;simpa[cA]using this
   simp only[if_true,o1,o3,o4];refine⟨⟨fun _=>.inr (.inr (.inl dj)),fun _=>by split<;>rfl⟩,fun _ q=>?_⟩
   have key:(∃g,jE ns gs (.F true x r) g∧q=bP ns.length g)↔∃r1,tE gs true r r1∧q=([x],sh ns.length r1):=by
    constructor
    .rintro⟨g,h,rfl⟩
     cases h with
     |a _ h=>simp[eR,hl]at h
     |b _ h=>simp[eR,hl]at h
     |r _ _ _ ho=>exact⟨_,ho,rfl⟩
     |hd _ _ h _ _=>rw[dj]at h;cases h
    .rintro⟨r1,ho,rfl⟩;exact⟨_,.r hd (by simp[eR,hl]) dj ho,rfl⟩
   rw[key];have t1:=o2 [(bI gs r).a,(bI gs r).b];have t2:=o2 [(bI gs r).a];have t3:=o2 [(bI gs r).b];simp only[aid,aiO]at t1 t2 t3;by_cases e:(bI gs r).k=9
   .rw[if_pos e,t1];simp only[Option.getD_some,ah6,aiw,or_false];constructor
    .rintro rfl;exact⟨_,(r8 hk).2 (by rw[if_pos (show _=cA true from e)]),rfl⟩
    .rintro⟨r1,ho,rfl⟩;have:=(r8 hk).1 ho;rw[if_pos (show _=cA true from e)]at this;rw[this]
   .rw[if_neg e,t2,t3];simp only[Option.getD_some,ah6,aiw,or_false];constructor
    .rintro(rfl|rfl)
     .exact⟨_,(r8 hk).2 (by rw[if_neg (show¬_=cA true from e)];exact .inl rfl),rfl⟩
     .exact⟨_,(r8 hk).2 (by rw[if_neg (show¬_=cA true from e)];exact .inr rfl),rfl⟩
    .rintro⟨r1,ho,rfl⟩;have:=(r8 hk).1 ho;rw[if_neg (show¬_=cA true from e)]at this;rcases this with h|h<;>rw[h]<;>simp
 |false =>
 simp only[aip,if_false];have cQ:ag ns x≠11:=fun h=>hn ⟨h,(vq hd).2,dj⟩;have kf:(∃g,jE ns gs (.F true x r) g∧True)->True:=fun _=>trivial
 have ld:∀q,(∃g,jE ns gs (.F true x r) g∧q=bP ns.length g)↔∃g,pM gs true (nd ns x.toNat) r g∧q=bP ns.length g:=fun q=>by
  constructor
  .rintro⟨g,h,rfl⟩
   cases h with
   |a _ h=>simp[eR,hl]at h
   |b _ h=>simp[eR,hl]at h
   |r _ _ h _=>rw[dj]at h;cases h
   |hd _ _ _ _ h=>exact⟨_,h,rfl⟩
  .rintro⟨g,h,rfl⟩;exact⟨_,.hd hd hl dj cQ h,rfl⟩
 have r9:kP ns gs (.F true x r)↔qL gs true (nd ns x.toNat) r:=by
  constructor
  .rintro(q|q|q|q|q)
   .rw[hd]at q;cases q
   .rw[hl]at q;cases q
   .rw[dj]at q;cases q
   .exact absurd q cQ
   .exact q
  .exact fun h=>.inr (.inr (.inr (.inr h)))
 rw[ae7,nI aF];by_cases BM:3<=ag ns x∧ag ns x<=8
 .rw[if_pos BM];simp only[List.length_cons,List.length_nil,aiD,akW,if_false,akp,akd];rw[show aG (aq ns gs) (ag ns x) [x]=[x]from by simp[aG,nI aF],EL hg hr];by_cases aJ:ag ns x≠8∧aG gs (ag ns x) r=[]
  .have ah:eH gs true r (ag ns x)=.fail:=by
    unfold eH;rw[if_pos rfl,if_pos BM,if_pos aJ]
   rw[aJ.2,show eY (aq ns gs) (ag ns x) [x] (sh ns.length [])=(none,false)from by simp[eY,sh,aJ.1]];refine⟨⟨fun h=>(by cases h),fun h=>?_⟩,fun h=>by cases h⟩;rcases r9.1 h with q|⟨q,_⟩<;>(rw[show(nd ns x.toNat).k=ag ns x from rfl,ah]at q;cases q)
  .have ah:eH gs true r (ag ns x)=.go:=by
    unfold eH;rw[if_pos rfl,if_pos BM,if_neg aJ]
   have:=Q9 hs hg hx hr (k:=ag ns x) rfl (by
    by_cases h:aG gs (ag ns x) r=[]
    .exact .inr ⟨rfl,by by_cases h8:ag ns x=8;exact h8;exact absurd ⟨h8,h⟩ aJ⟩
    .exact .inl h) ah [x] (sh ns.length (aG gs (ag ns x) r)) rfl
   exact⟨this.1.trans r9.symm,fun h q=>(this.2 h q).trans (ld q).symm⟩
 .rw[if_neg BM]
  have ah:eH gs true r (ag ns x)=.fail:=by
   unfold eH;rw[if_pos rfl,if_neg BM]
  simp only[List.length_nil,if_true];refine⟨⟨fun h=>(by cases h),fun h=>?_⟩,fun h=>by cases h⟩;rcases r9.1 h with q|⟨q,_⟩<;>(rw[show(nd ns x.toNat).k=ag ns x from rfl,ah]at q;cases q)
theorem ae9(hs:jF ns pos)(hg:dJ gs gr){x:Int}{r:List Int}(hx:pos false x)(hr:∀y∈r,gr y)(hn:¬lE ns gs false x r) :
  ((c6 (aq ns gs) (sh ns.length r,[x])).2=true↔kP ns gs (.F false x r))∧((c6 (aq ns gs) (sh ns.length r,[x])).2=true->∀q,q∈(c6 (aq ns gs) (sh ns.length r,[x])).1.getD []↔∃g,jE ns gs (.F false x r) g∧q=bP ns.length g):=by
 have aF:=hs.ok _ x hx
 have c1:((sh ns.length r).any (fun x=>decide (ag (aq ns gs) x=2))||[x].any fun x=>decide (ag (aq ns gs) x=1))=lD ns gs false x r:=by
  unfold lD iU;rw[pO (g:=fun y=>decide (ag gs y=2)) fun y hy=>by rw[oK (hg.ok y (hr y hy))]];simp[nI aF,cx,cz,Bool.or_comm]
 have c2:[x].any (aI (aq ns gs))=aI ns x:=by simp[yX aF]
 have c3:(sh ns.length r).any (aI (aq ns gs))=r.any (aI gs):=pO fun y hy=>BJ (hg.ok y (hr y hy));have c4:((sh ns.length r).any fun x'=>[x].any fun y=>gi (aq ns gs) x' y)=false:=Rc hg hr [x];unfold c6;simp only[c1,c2,c3,c4]
 cases hd:lD ns gs false x r with
 |true =>
   simp only[if_true];refine⟨⟨fun _=>.inl hd,fun _=>by trivial⟩,fun _ q=>⟨fun h=>(by cases h),?_⟩⟩;rintro⟨g,h,_⟩
   cases h with
   |a h _=>rw[hd]at h;cases h
   |b h _=>rw[hd]at h;cases h
   |r h _ _ _=>rw[hd]at h;cases h
   |hd h _ _ _ _=>rw[hd]at h;cases h
 |false =>
 simp only[aip,if_false]
 cases dj:r.any (aI gs)with
 |true =>
   obtain⟨o1,o2,o3,o4⟩:=EM (ns:=ns) (p:=false) hg hr dj;obtain⟨_,_,Bk⟩:=at_mem dj
   have hk:(bI gs r).k=cA false∨(bI gs r).k=cA (!false):=by
    have:eA (bI gs r).k=true:=Bk;unfold eA at this;simp at this;simp[cA];omega
   simp only[if_true,o1,o3,o4];refine⟨⟨fun _=>.inr (.inr (.inl dj)),fun _=>by split<;>rfl⟩,fun _ q=>?_⟩
   have key:(∃g,jE ns gs (.F false x r) g∧q=bP ns.length g)↔∃r1,tE gs false r r1∧q=(sh ns.length r1,[x]):=by
    constructor
    .rintro⟨g,h,rfl⟩
     cases h with
     |a _ h=>simp[eR,dj]at h
     |b _ h=>simp[eR,dj]at h
     |r _ _ _ ho=>exact⟨_,ho,rfl⟩
     |hd _ _ h _ _=>rw[dj]at h;cases h
    .rintro⟨r1,ho,rfl⟩;exact⟨_,.r hd (by simp[eR,dj]) dj ho,rfl⟩
   rw[key];have t1:=o2 [(bI gs r).a,(bI gs r).b];have t2:=o2 [(bI gs r).a];have t3:=o2 [(bI gs r).b];simp only[aid,aiO]at t1 t2 t3;by_cases e:(bI gs r).k=10
   .rw[if_pos e,t1];simp only[Option.getD_some,ah6,aiw,or_false];constructor
    .rintro rfl;exact⟨_,(r8 hk).2 (by rw[if_pos (show _=cA false from e)]),rfl⟩
    .rintro⟨r1,ho,rfl⟩;have:=(r8 hk).1 ho;rw[if_pos (show _=cA false from e)]at this;rw[this]
   .rw[if_neg e,t2,t3];simp only[Option.getD_some,ah6,aiw,or_false];constructor
    .rintro(rfl|rfl)
     .exact⟨_,(r8 hk).2 (by rw[if_neg (show¬_=cA false from e)];exact .inl rfl),rfl⟩
     .exact⟨_,(r8 hk).2 (by rw[if_neg (show¬_=cA false from e)];exact .inr rfl),rfl⟩
    .rintro⟨r1,ho,rfl⟩;have:=(r8 hk).1 ho;rw[if_neg (show¬_=cA false from e)]at this;rcases this with h|h<;>rw[h]<;>simp
 |false =>
 simp only[aip,if_false]
 cases hl:aI ns x with
 |true =>
   have hk:=(hs.ko.pj _ x hx hl).1
   have eN:bI (aq ns gs) [x]=nd ns x.toNat:=by
    unfold bI;rw[at_one (by rw[yX aF];exact hl)];exact lF aF
   have e9:(nd ns x.toNat).k=10:=hk;rw[eN,e9,at_one (by rw[yX aF];exact hl)];simp only[if_true,show((10:Int)=9)=False from by simp,if_false,Q8];refine⟨⟨fun _=>.inr (.inl hl),fun _=>by trivial⟩,fun _ q=>?_⟩;simp only[Option.getD_some,ah6,aiw,or_false];constructor
   .rintro(rfl|rfl)
    .exact⟨_,.a hd (by simp[eR,hl,dj]),rfl⟩
    .exact⟨_,.b hd (by simp[eR,hl,dj]),rfl⟩
   .rintro⟨g,h,rfl⟩
    cases h with
    |a _ _=>exact .inl rfl
    |b _ _=>exact .inr rfl
    |r _ h _ _=>simp[eR,hl,dj]at h
    |hd _ h _ _ _=>rw[hl]at h;cases h
 |false =>
 simp only[aip,if_false];have cQ:ag ns x≠11:=fun h=>hn ⟨h,(vq hd).2,dj⟩
 have ld:∀q,(∃g,jE ns gs (.F false x r) g∧q=bP ns.length g)↔∃g,pM gs false (nd ns x.toNat) r g∧q=bP ns.length g:=fun q=>by
  constructor
  .rintro⟨g,h,rfl⟩
   cases h with
   |a _ h=>simp[eR,hl]at h
   |b _ h=>simp[eR,hl]at h
   |r _ _ h _=>rw[dj]at h;cases h
   |hd _ _ _ _ h=>exact⟨_,h,rfl⟩
  .rintro⟨g,h,rfl⟩;exact⟨_,.hd hd hl dj cQ h,rfl⟩
 have r9:kP ns gs (.F false x r)↔qL gs false (nd ns x.toNat) r:=by
  constructor
  .rintro(q|q|q|q|q)
   .rw[hd]at q;cases q
   .rw[hl]at q;cases q
   .rw[dj]at q;cases q
   .exact absurd q cQ
   .exact q
  .exact fun h=>.inr (.inr (.inr (.inr h)))
 rw[QX hg hr]
 have Re:∀g,eH gs false r (nd ns x.toNat).k≠.go->¬pM gs false (nd ns x.toNat) r g:=fun g h hh=>by
  cases hh with
  |dp h' _=>exact h h'
  |dq h' _=>exact h h'
  |jl h' _=>exact h h'
 cases sR:fG gs r with
 |nil =>
   have ah:eH gs false r (nd ns x.toNat).k=.fail:=by simp[eH,sR]
   simp only[List.length_nil,if_true];refine⟨⟨fun h=>(by cases h),fun h=>?_⟩,fun h=>by cases h⟩;rcases r9.1 h with q|⟨q,_⟩<;>(rw[ah]at q;cases q)
 |cons k' t =>
 cases t with
 |nil =>
   have hm:=Ra (X:=gs) (l:=r) (k:=k') (by rw[sR];simp);simp only[List.length_cons,List.length_nil,aiD,akW,if_false,akp,akd];rw[EL hg hr];by_cases az:k'=ag ns x
   .subst az;rw[show aG (aq ns gs) (ag ns x) [x]=[x]from by simp[aG,nI aF]];have ah:eH gs false r (ag ns x)=.go:=by simp[eH,sR]
    have:=Q9 hs hg hx hr (k:=ag ns x) rfl (.inl hm.1) ah (sh ns.length (aG gs (ag ns x) r)) [x] rfl;exact⟨this.1.trans r9.symm,fun h q=>(this.2 h q).trans (ld q).symm⟩
   .have gp:¬k'=(nd ns x.toNat).k:=az;have Jz:¬ag ns x=k':=fun h=>az h.symm;rw[show aG (aq ns gs) k' [x]=[]from by simp[aG,nI aF,Jz]];by_cases h8:k'=8
    .subst h8
     have ea:kO (aq ns gs) 8 (sh ns.length (aG gs 8 r)) []=er gs (aG gs 8 r):=by
      unfold kO;simp only[show((8:Int)=7)=False from by simp,if_false,if_true];exact BL hg (xd hr 8) hm.1
     have eb:∀s,fH (aq ns gs) (sh ns.length (aG gs 8 r)) [] s=false:=fun s=>by
      unfold fH dP mK;simp[QS]
     unfold eY;simp only[decide_true,ajo,aiP,aip,if_false,show((8:Int)=6)=False from by simp,ea];by_cases eI:er gs (aG gs 8 r)=[]
     .have ah:eH gs false r (nd ns x.toNat).k=.done:=by
       unfold eH;rw[if_neg (by simp),sR];simp only;rw[if_neg gp,if_pos ⟨trivial,eI⟩]
      rw[eI];simp only[List.all_nil,if_true,aiO,Option.getD_some];refine⟨⟨fun _=>r9.2 (.inl ah),fun _=>trivial⟩,fun _ q=>⟨fun h=>(by cases h),fun h=>?_⟩⟩;obtain⟨g,h,_⟩:=(ld q).1 h;exact absurd h (Re g (by rw[ah];exact Jq.noConfusion))
     .have ah:eH gs false r (nd ns x.toNat).k=.fail:=by
       unfold eH;rw[if_neg (by simp),sR];simp only;rw[if_neg gp,if_neg (fun h=>eI h.2)]
      have:(er gs (aG gs 8 r)).all (fH (aq ns gs) (sh ns.length (aG gs 8 r)) [])=false:=by
       cases hz:er gs (aG gs 8 r)with
       |nil=>exact absurd hz eI
       |cons s t=>rw[List.all_cons,eb];rfl
      rw[this];simp only[aip,if_false];refine⟨⟨fun h=>(by cases h),fun h=>?_⟩,fun h=>by cases h⟩;rcases r9.1 h with q|⟨q,_⟩<;>(rw[ah]at q;cases q)
    .have ah:eH gs false r (nd ns x.toNat).k=.fail:=by
      unfold eH;rw[if_neg (by simp),sR];simp only;rw[if_neg gp,if_neg (fun h=>h8 h.1)]
     rw[show eY (aq ns gs) k' (sh ns.length (aG gs k' r)) []=(none,false)from by simp[eY,h8]];refine⟨⟨fun h=>(by cases h),fun h=>?_⟩,fun h=>by cases h⟩;rcases r9.1 h with q|⟨q,_⟩<;>(rw[ah]at q;cases q)
 |cons k2 t =>
   have ah:eH gs false r (nd ns x.toNat).k=.done:=by simp[eH,sR]
   simp only[List.length_cons];rw[if_neg (by omega),if_pos (by omega)];refine⟨⟨fun _=>r9.2 (.inl ah),fun _=>by trivial⟩,fun _ q=>⟨fun h=>(by cases h),fun h=>?_⟩⟩;obtain⟨g,h,_⟩:=(ld q).1 h;exact absurd h (Re g (by rw[ah];exact Jq.noConfusion))
end
end Go.Proofs.YtpmniabdmbmafaaGreatDoor

namespace Go.Proofs.YtpmniabdmbmafaaGreatDoor
open Go.Ab
def xf(d:Int)(q:SQ):SQ:=(sh d q.1,sh d q.2)
section
variable {ns gs:List TN}{pos:Bool->Int->Prop}{gr:Int->Prop}
theorem afa(hg:dJ gs gr){k:Int}{l r:List Int}(hl:∀y∈l,gr y)(hr:∀y∈r,gr y)(hk:∀y∈l,ag gs y=k)(az:∀y∈r,ag gs y=k)(aJ:l≠[]) :
  eY (aq ns gs) k (sh ns.length l) (sh ns.length r)=((eY gs k l r).1.map (List.map (xf ns.length)),(eY gs k l r).2):=by
 have eL:k=6->∀{l:List Int},(∀y∈l,gr y)->(∀y∈l,ag gs y=k)->(sh ns.length l).map (fun x=>(nd (aq ns gs) x.toNat).a)=sh ns.length (l.map fun x=>(nd gs x.toNat).a)∧(sh ns.length l).map (fun x=>(nd (aq ns gs) x.toNat).b)=sh ns.length (l.map fun x=>(nd gs x.toNat).b):=fun h6 l hl hk=>by
  unfold sh;rw[aiV,aiV,aiV,aiV];constructor
  .refine aiQ fun y hy=>?_;have:(nd gs y.toNat).k=6:=by rw[<-h6];exact hk y hy
   simp only[Function.comp_def];rw[rY (hg.ok y (hl y hy))];unfold iM;rw[this];rfl
  .refine aiQ fun y hy=>?_;have:(nd gs y.toNat).k=6:=by rw[<-h6];exact hk y hy
   simp only[Function.comp_def];rw[rY (hg.ok y (hl y hy))];unfold iM;rw[this];rfl
 have c0:(sh (ns.length:Int) r).length=r.length:=by simp[sh]
 unfold eY;rw[c0];by_cases h0:(!decide (k=8)&&decide (r.length=0))=true
 .rw[if_pos h0,if_pos h0];rfl
 rw[if_neg h0,if_neg h0];by_cases h6:k=6
 .rw[if_pos h6,if_pos h6];obtain⟨l1,l2⟩:=eL h6 hl hk;obtain⟨r1,r2⟩:=eL h6 hr az;rw[l1,l2,r1,r2,pN,pN,pN,pN];rfl
 rw[if_neg h6,if_neg h6]
 have ea:kO (aq ns gs) k (sh ns.length l) (sh ns.length r)=kO gs k l r:=by
  unfold kO;by_cases h7:k=7
  .rw[if_pos h7,if_pos h7];refine BL hg hr fun h=>h0 ?_;subst h7;rw[h];rfl
  .rw[if_neg h7,if_neg h7];by_cases h8:k=8
   .rw[if_pos h8,if_pos h8];exact BL hg hl aJ
   .rw[if_neg h8,if_neg h8]
 have eb:∀s,fH (aq ns gs) (sh ns.length l) (sh ns.length r) s=fH gs l r s:=fun s=>by
  unfold fH;rw[xc hg hl,xc hg hr];simp[sh]
 have eh:∀s,nG (aq ns gs) (sh ns.length l) (sh ns.length r) s=xf ns.length (nG gs l r s):=fun s=>by
  unfold nG;rw[xc hg hl,xc hg hr];rfl
 rw[ea,show fH (aq ns gs) (sh ns.length l) (sh ns.length r)=fH gs l r from funext eb];by_cases ha:(kO gs k l r).all (fH gs l r)=true
 .rw[if_pos ha,if_pos ha,show nG (aq ns gs) (sh ns.length l) (sh ns.length r)=xf ns.length ∘ nG gs l r from funext eh];simp
 .rw[if_neg ha,if_neg ha];rfl
theorem afb(hg:dJ gs gr){l r:List Int}(hl:∀y∈l,gr y)(hr:∀y∈r,gr y):c6 (aq ns gs) (sh ns.length l,sh ns.length r)=((c6 gs (l,r)).1.map (List.map (xf ns.length)),(c6 gs (l,r)).2):=by
 have c1:((sh ns.length l).any (fun x=>decide (ag (aq ns gs) x=2))||(sh ns.length r).any fun x=>decide (ag (aq ns gs) x=1))=(l.any (fun x=>decide (ag gs x=2))||r.any fun x=>decide (ag gs x=1)):=by
  rw[pO (g:=fun y=>decide (ag gs y=2)) fun y hy=>by rw[oK (hg.ok y (hl y hy))],pO (g:=fun y=>decide (ag gs y=1)) fun y hy=>by rw[oK (hg.ok y (hr y hy))]]
 have c2:(sh ns.length l).any (aI (aq ns gs))=l.any (aI gs):=pO fun y hy=>BJ (hg.ok y (hl y hy));have c3:(sh ns.length r).any (aI (aq ns gs))=r.any (aI gs):=pO fun y hy=>BJ (hg.ok y (hr y hy));have c4:((sh ns.length l).any fun x=>(sh ns.length r).any fun y=>gi (aq ns gs) x y)=false:=Rc hg hl _
 have c5:(l.any fun x=>r.any fun y=>gi gs x y)=false:=ai6.2 fun x hx=>by
  simp only[Bool.not_eq_true];refine ai6.2 fun y _=>?_;have:=hg.nv x (hl x hx);unfold gi;simp[this]
 unfold c6;simp only[c1,c2,c3,c4,c5,QX hg hl];by_cases h1:(l.any (fun x=>decide (ag gs x=2))||r.any fun x=>decide (ag gs x=1))=true
 .rw[if_pos h1,if_pos h1];rfl
 rw[if_neg h1,if_neg h1];by_cases h2:l.any (aI gs)=true
 .rw[if_pos h2,if_pos h2];obtain⟨o1,o2,o3,o4⟩:=EM (ns:=ns) (p:=true) hg hl h2;have t1:=o2 [(bI gs l).a,(bI gs l).b];have t2:=o2 [(bI gs l).a];have t3:=o2 [(bI gs l).b];simp only[aid,aiO]at t1 t2 t3;rw[o1,o3,o4,t1,t2,t3];by_cases e:(bI gs l).k=10
  .rw[if_pos e,if_pos e];rfl
  .rw[if_neg e,if_neg e];rfl
 rw[if_neg h2,if_neg h2];by_cases h3:r.any (aI gs)=true
 .rw[if_pos h3,if_pos h3];obtain⟨o1,o2,o3,o4⟩:=EM (ns:=ns) (p:=true) hg hr h3;have t1:=o2 [(bI gs r).a,(bI gs r).b];have t2:=o2 [(bI gs r).a];have t3:=o2 [(bI gs r).b];simp only[aid,aiO]at t1 t2 t3;rw[o1,o3,o4,t1,t2,t3];by_cases e:(bI gs r).k=9
  .rw[if_pos e,if_pos e];rfl
  .rw[if_neg e,if_neg e];rfl
 rw[if_neg h3,if_neg h3];simp only[aip,if_false]
 cases hk:fG gs l with
 |nil=>rfl
 |cons k t =>
 cases t with
 |nil =>
   simp only[List.length_cons,List.length_nil,aiD,akW,if_false,akp,akd];rw[EL hg hl,EL hg hr];refine afa hg (xd hl k) (xd hr k) (fun y hy=>by simpa using(ait.1 hy).2) (fun y hy=>by simpa using(ait.1 hy).2) (Ra (X:=gs) (l:=l) (k:=k) (by rw[hk];simp)).1
 |cons k2 t =>
   simp only[List.length_cons];rw[if_neg (by omega),if_pos (by omega),if_neg (by omega),if_pos (by omega)];rfl
theorem EN(hg:dJ gs gr){r:List Int}(h:∀y∈r,gr y)(fx:Int):da fx (aq ns gs) (sh ns.length r) = -1∧lC fx (aq ns gs) (sh ns.length r)=false:=by
 have hv:∀y∈r,kl fx (aq ns gs) (y+(ns.length:Int))=false:=fun y hy=>by
  unfold kl;rw[oK (hg.ok y (h y hy))];simp[hg.nv y (h y hy)]
 constructor
 .unfold da
  cases r with
  |nil=>rfl
  |cons y t =>
    rw[if_neg (by simp[sh]),if_neg];intro hall;have:=aio.1 hall (y+(ns.length:Int)) (by simp[sh]);rw[hv y ah0]at this;cases this
 .unfold lC;rw[pO (g:=fun _=>false) hv];simp
theorem Rf(hs:jF ns pos){p:Bool}{x:Int}(hx:pos p x)(k:Int)(hk:k=1∨k=2):da 1000 (aq ns gs) (bM (aq ns gs) k [x])=(if ag ns x=11 then(nd ns x.toNat).a else -1)∧lC 1000 (aq ns gs) (bM (aq ns gs) k [x])=decide (ag ns x=11):=by
 have aF:=hs.ok p x hx;by_cases cQ:ag ns x=11
 .have hv:=hs.v p x hx cQ
  have e:bM (aq ns gs) k [x]=[x]:=by
   unfold bM;rw[ajY (by rw[nI aF,cQ];simp;omega)];rfl
  have ie:kl 1000 (aq ns gs) x=true:=by
   unfold kl;rw[nI aF,lF aF,cQ];simp[hv.2]
  rw[e,if_pos cQ,cQ];constructor
  .unfold da;rw[if_neg (by simp),if_pos]
   .simp[lF aF]
   .simp[ie]
  .simp[lC,ie]
 .have ie:kl 1000 (aq ns gs) x=false:=by
   unfold kl;rw[nI aF];simp[cQ]
  rw[if_neg cQ];by_cases e:ag ns x=k
  .have e2:bM (aq ns gs) k [x]=[]:=by
    unfold bM;rw[akT (by rw[nI aF,e];simp)];rfl
   rw[e2];simp[da,lC,cQ]
  .have e2:bM (aq ns gs) k [x]=[x]:=by
    unfold bM;rw[ajY (by rw[nI aF];simp[e])];rfl
   rw[e2];simp[da,lC,ie,cQ]
structure Cs(ns gs:List TN)(f:Fm)(st ab be:Prop):Prop where
 st:km 1000 (aq ns gs) (bP ns.length f)=true↔st
 ab:gG 1000 (aq ns gs) (bP ns.length f)=true↔ab
 be:gH 1000 (aq ns gs) (bP ns.length f)=true↔be
 mx:gl 1000 (aq ns gs) (bP ns.length f)=false
theorem EO(hs:jF ns pos)(hg:dJ gs gr){x:Int}{r:List Int}(hx:pos true x)(hr:∀y∈r,gr y):Cs ns gs (.F true x r) (lE ns gs true x r) (lE ns gs true x r) False∧(lE ns gs true x r->aQ 1000 (aq ns gs) (bP ns.length (.F true x r))=(nd ns x.toNat).a):=by
 have aF:=hs.ok _ x hx;have a1:=Rf (gs:=gs) hs hx 1 (.inl rfl)
 have b1:bQ 1000 (aq ns gs) ([x],sh ns.length r) = -1∧rV 1000 (aq ns gs) ([x],sh ns.length r)=false:=by
  unfold bQ rV;simp only[rZ hg hr];exact EN hg (fun y hy=>hr y (ait.1 hy).1) _
 have a2:aQ 1000 (aq ns gs) ([x],sh ns.length r)=if ag ns x=11 then(nd ns x.toNat).a else -1:=a1.1
 have a3:rU 1000 (aq ns gs) ([x],sh ns.length r)=decide (ag ns x=11):=a1.2
 have he:oJ (aq ns gs) ([x],sh ns.length r)=(decide (ag ns x=2)||aI ns x||iU gs true r||r.any (aI gs)):=by
  unfold oJ
  have e1:[x].any (qK (aq ns gs) (sh ns.length r))=(decide (ag ns x=2)||aI ns x):=by
   simp only[List.any_cons,List.any_nil,akH];unfold qK;rw[Rb hg hr,nI aF];show _=(decide (ag ns x=2)||(decide (ag ns x=9)||decide (ag ns x=10)))
   rw[akH,akb]
  have e2:(sh ns.length r).any (tD (aq ns gs))=(iU gs true r||r.any (aI gs)):=by
   rw[pO (g:=fun y=>decide (ag gs y=1)||aI gs y) fun y hy=>by
    unfold tD;rw[oK (hg.ok y (hr y hy)),akb]
    rfl]
   unfold iU;simp only[cz,if_true];rw[ajF];simp only[aiL,aiA];constructor
   .rintro⟨y,h,h1|h1⟩
    .exact .inl ⟨y,h,h1⟩
    .exact .inr ⟨y,h,h1⟩
   .rintro(⟨y,h,h1⟩|⟨y,h,h1⟩)
    .exact⟨y,h,.inl h1⟩
    .exact⟨y,h,.inr h1⟩
  simp only[e1,e2,akb]
 have cQ:ag ns x=11->(0:Int)<=(nd ns x.toNat).a:=fun h=>(hs.v _ x hx h).1
 have wT:ag ns x=11->aI ns x=false:=fun h=>by
  have:(nd ns x.toNat).k=11:=h;unfold aI eA;rw[this];rfl
 refine⟨⟨?_,?_,?_,?_⟩,fun h=>?_⟩
 .show km 1000 (aq ns gs) ([x],sh ns.length r)=true↔_;unfold km lE;rw[he,a2,b1.1,b1.2,a3];by_cases h:ag ns x=11
  .simp[h,cQ h,wT h]
  .simp[h]
 .show gG 1000 (aq ns gs) ([x],sh ns.length r)=true↔_;unfold gG lE;rw[he,a2,b1.1,b1.2];by_cases h:ag ns x=11
  .simp[h,cQ h,wT h]
  .simp[h]
 .show gH 1000 (aq ns gs) ([x],sh ns.length r)=true↔_;unfold gH;rw[b1.1];simp
 .show gl 1000 (aq ns gs) ([x],sh ns.length r)=false;unfold gl;rw[a2,b1.1,b1.2,a3];by_cases h:ag ns x=11
  .simp[h,cQ h]
  .simp[h]
 .show aQ 1000 (aq ns gs) ([x],sh ns.length r)=_;rw[a2,if_pos h.1]
theorem EP(hs:jF ns pos)(hg:dJ gs gr){x:Int}{r:List Int}(hx:pos false x)(hr:∀y∈r,gr y):Cs ns gs (.F false x r) (lE ns gs false x r) False (lE ns gs false x r)∧(lE ns gs false x r->bQ 1000 (aq ns gs) (bP ns.length (.F false x r))=(nd ns x.toNat).a):=by
 have aF:=hs.ok _ x hx;have a1:=Rf (gs:=gs) hs hx 2 (.inr rfl)
 have b1:aQ 1000 (aq ns gs) (sh ns.length r,[x]) = -1∧rU 1000 (aq ns gs) (sh ns.length r,[x])=false:=by
  unfold aQ rU;simp only[rZ hg hr];exact EN hg (fun y hy=>hr y (ait.1 hy).1) _
 have a2:bQ 1000 (aq ns gs) (sh ns.length r,[x])=if ag ns x=11 then(nd ns x.toNat).a else -1:=a1.1
 have a3:rV 1000 (aq ns gs) (sh ns.length r,[x])=decide (ag ns x=11):=a1.2
 have he:oJ (aq ns gs) (sh ns.length r,[x])=(iU gs false r||r.any (aI gs)||decide (ag ns x=1)||aI ns x):=by
  unfold oJ
  have e1:[x].any (tD (aq ns gs))=(decide (ag ns x=1)||aI ns x):=by
   simp only[List.any_cons,List.any_nil,akH];unfold tD;rw[nI aF,akb];rfl
  have e2:(sh ns.length r).any (qK (aq ns gs) [x])=(iU gs false r||r.any (aI gs)):=by
   rw[pO (g:=fun y=>decide (ag gs y=2)||aI gs y) fun y hy=>by
    unfold qK gi;rw[oK (hg.ok y (hr y hy))];have:=hg.nv y (hr y hy);simp only[this,decide_false,aiP,List.any_cons,List.any_nil,akH];rw[akb]
    rfl]
   unfold iU;simp only[cz,if_true];rw[ajF];simp only[aiL,aiA];constructor
   .rintro⟨y,h,h1|h1⟩
    .exact .inl ⟨y,h,h1⟩
    .exact .inr ⟨y,h,h1⟩
   .rintro(⟨y,h,h1⟩|⟨y,h,h1⟩)
    .exact⟨y,h,.inl h1⟩
    .exact⟨y,h,.inr h1⟩
  simp only[e1,e2,akb]
 have cQ:ag ns x=11->(0:Int)<=(nd ns x.toNat).a:=fun h=>(hs.v _ x hx h).1
 have wT:ag ns x=11->aI ns x=false:=fun h=>by
  have:(nd ns x.toNat).k=11:=h;unfold aI eA;rw[this];rfl
 refine⟨⟨?_,?_,?_,?_⟩,fun h=>?_⟩
 .show km 1000 (aq ns gs) (sh ns.length r,[x])=true↔_;unfold km lE;rw[he,a2,b1.1,b1.2];by_cases h:ag ns x=11
  .simp[h,cQ h,wT h]
  .simp[h]
 .show gG 1000 (aq ns gs) (sh ns.length r,[x])=true↔_;unfold gG;rw[b1.1];simp
 .show gH 1000 (aq ns gs) (sh ns.length r,[x])=true↔_;unfold gH lE;rw[he,a2,b1.1,b1.2];by_cases h:ag ns x=11
  .simp[h,cQ h,wT h]
  .simp[h]
 .show gl 1000 (aq ns gs) (sh ns.length r,[x])=false;unfold gl;rw[a2,b1.1,b1.2,a3];by_cases h:ag ns x=11
  .simp[h,cQ h]
  .simp[h]
 .show bQ 1000 (aq ns gs) (sh ns.length r,[x])=_;rw[a2,if_pos h.1]
theorem JA(hg:dJ gs gr){l r:List Int}(hl:∀y∈l,gr y)(hr:∀y∈r,gr y):Cs ns gs (.G l r) False False False:=by
 have b1:aQ 1000 (aq ns gs) (sh ns.length l,sh ns.length r) = -1∧rU 1000 (aq ns gs) (sh ns.length l,sh ns.length r)=false:=by
  unfold aQ rU;simp only[rZ hg hl];exact EN hg (fun y hy=>hl y (ait.1 hy).1) _
 have b2:bQ 1000 (aq ns gs) (sh ns.length l,sh ns.length r) = -1∧rV 1000 (aq ns gs) (sh ns.length l,sh ns.length r)=false:=by
  unfold bQ rV;simp only[rZ hg hr];exact EN hg (fun y hy=>hr y (ait.1 hy).1) _
 refine⟨?_,?_,?_,?_⟩
 .show km 1000 (aq ns gs) (sh ns.length l,sh ns.length r)=true↔_;unfold km;rw[b1.1,b2.1];simp
 .show gG 1000 (aq ns gs) (sh ns.length l,sh ns.length r)=true↔_;unfold gG;rw[b1.1];simp
 .show gH 1000 (aq ns gs) (sh ns.length l,sh ns.length r)=true↔_;unfold gH;rw[b2.1];simp
 .show gl 1000 (aq ns gs) (sh ns.length l,sh ns.length r)=false;unfold gl;rw[b1.2,b2.2];simp
end
end Go.Proofs.YtpmniabdmbmafaaGreatDoor

namespace Go.Proofs.YtpmniabdmbmafaaGreatDoor
open Go.Ab
theorem afc{X:List TN}{q:SQ}(h:(c6 X q).2=false):(c6 X q).1=none:=by
 unfold c6 at h ⊢;by_cases h1:(q.1.any (fun x=>decide (ag X x=2))||q.2.any fun x=>decide (ag X x=1))=true
 .rw[if_pos h1]at h;cases h
 rw[if_neg h1]at h ⊢;by_cases h2:q.1.any (aI X)=true
 .rw[if_pos h2]at h;split at h<;>cases h
 rw[if_neg h2]at h ⊢;by_cases h3:q.2.any (aI X)=true
 .rw[if_pos h3]at h;split at h<;>cases h
 rw[if_neg h3]at h ⊢;by_cases h4:(q.1.any fun x=>q.2.any fun y=>gi X x y)=true
 .rw[if_pos h4]at h;cases h
 rw[if_neg h4]at h ⊢;by_cases h5:(fG X q.1).length=0
 .rw[if_pos h5]
 rw[if_neg h5]at h ⊢;by_cases h6:1<(fG X q.1).length
 .rw[if_pos h6]at h;cases h
 rw[if_neg h6]at h ⊢;unfold eY at h ⊢;by_cases h7:(!decide ((fG X q.1).getD 0 0=8)&&decide ((aG X ((fG X q.1).getD 0 0) q.2).length=0))=true
 .rw[if_pos h7]
 rw[if_neg h7]at h ⊢;by_cases h8:(fG X q.1).getD 0 0=6
 .rw[if_pos h8]at h;cases h
 rw[if_neg h8]at h ⊢;split at h
 .cases h
 .rename_i h9;rw[if_neg h9]
section
variable {ns gs:List TN}{pos:Bool->Int->Prop}{gr:Int->Prop}
theorem BN(hs:jF ns pos)(hg:dJ gs gr){f:Fm}(hf:mM pos gr f):gl 1000 (aq ns gs) (bP ns.length f)=false∧(kn 1000 (aq ns gs) (bP ns.length f)=false↔kP ns gs f) ∧
  (∀q,ft 1000 (aq ns gs) (bP ns.length f)=true->q∈(iT (aq ns gs) (bP ns.length f)).1->kP ns gs f∧∃g,jE ns gs f g∧q=bP ns.length g) ∧
  (∀g,kP ns gs f->jE ns gs f g->ft 1000 (aq ns gs) (bP ns.length f)=true∧bP ns.length g∈(iT (aq ns gs) (bP ns.length f)).1):=by
 have key:∀(st ab be:Prop),Cs ns gs f st ab be->(st->kP ns gs f∧∀g,¬jE ns gs f g)->(¬st->((c6 (aq ns gs) (bP ns.length f)).2=true↔kP ns gs f)∧((c6 (aq ns gs) (bP ns.length f)).2=true->∀q,q∈(c6 (aq ns gs) (bP ns.length f)).1.getD []↔∃g,jE ns gs f g∧q=bP ns.length g)) ->
   gl 1000 (aq ns gs) (bP ns.length f)=false∧(kn 1000 (aq ns gs) (bP ns.length f)=false↔kP ns gs f) ∧
  (∀q,ft 1000 (aq ns gs) (bP ns.length f)=true->q∈(iT (aq ns gs) (bP ns.length f)).1->kP ns gs f∧∃g,jE ns gs f g∧q=bP ns.length g) ∧
  (∀g,kP ns gs f->jE ns gs f g->ft 1000 (aq ns gs) (bP ns.length f)=true∧bP ns.length g∈(iT (aq ns gs) (bP ns.length f)).1):=by
  intro st ab be hc h1 h2
  have hl:ft 1000 (aq ns gs) (bP ns.length f)=true↔¬st:=by
   unfold ft;rw[hc.mx,<-hc.st];simp
  by_cases ah:st
  .have gM:ft 1000 (aq ns gs) (bP ns.length f)=false:=by
    cases e:ft 1000 (aq ns gs) (bP ns.length f)with
    |false=>rfl
    |true=>exact absurd ah (hl.1 e)
   refine⟨hc.mx,⟨fun _=>(h1 ah).1,fun _=>by unfold kn;rw[gM];rfl⟩,fun q h=>(by rw[gM]at h;cases h),fun g _ h=>absurd h ((h1 ah).2 g)⟩
  .obtain⟨h3,h4⟩:=h2 ah;have gM:=hl.2 ah;refine⟨hc.mx,?_,fun q _ hq=>?_,fun g ho h=>⟨gM,(h4 (h3.2 ho) _).2 ⟨g,h,rfl⟩⟩⟩
   .unfold kn;rw[gM,<-h3];show(true&&!(c6 (aq ns gs) (bP ns.length f)).2)=false↔_;cases (c6 (aq ns gs) (bP ns.length f)).2<;>simp
   .have cg:q∈(c6 (aq ns gs) (bP ns.length f)).1.getD []:=hq
    cases e:(c6 (aq ns gs) (bP ns.length f)).2 with
    |false=>rw[afc e]at cg;cases cg
    |true=>exact⟨h3.1 e,(h4 e q).1 cg⟩
 have Rg:∀{p:Bool} {x:Int} {r:List Int},pos p x->lE ns gs p x r->kP ns gs (.F p x r)∧∀g,¬jE ns gs (.F p x r) g:=fun {p x r} hx ⟨cQ,he,hl⟩=>by
  have iX:aI ns x=false:=by
   have:(nd ns x.toNat).k=11:=cQ;unfold aI eA;rw[this];rfl
  refine⟨.inr (.inr (.inr (.inl cQ))),fun g h=>?_⟩
  cases h with
  |a _ h=>simp[eR,iX]at h
  |b _ h=>simp[eR,iX]at h
  |r _ _ h _=>rw[hl]at h;cases h
  |hd _ _ _ h _=>exact h cQ
 cases f with
 |G l r =>
   obtain⟨⟨_,h2⟩,_,h4⟩:=hf;refine key _ _ _ (JA hg h2 h4) (fun h=>h.elim) fun _=>?_;have e:c6 (aq ns gs) (bP ns.length (.G l r))=((c6 gs (l,r)).1.map (List.map (xf ns.length)),(c6 gs (l,r)).2):=afb hg h2 h4;rw[e];refine⟨Iff.rfl,fun _ q=>?_⟩
   have e2:((c6 gs (l,r)).1.map (List.map (xf ns.length))).getD []=((c6 gs (l,r)).1.getD []).map (xf ns.length):=by
    cases (c6 gs (l,r)).1<;>rfl
   rw[e2,ah9];constructor
   .rintro⟨q',cg,rfl⟩;exact⟨_,.g cg,rfl⟩
   .rintro⟨g,h,rfl⟩
    cases h with
    |g hq=>exact⟨_,hq,rfl⟩
 |F p x r =>
   obtain⟨h1,_,h3⟩:=hf
   cases p with
   |true=>exact key _ _ _ (EO hs hg h1 h3).1 (Rg h1) fun h=>ae8 hs hg h1 h3 h
   |false=>exact key _ _ _ (EP hs hg h1 h3).1 (Rg h1) fun h=>ae9 hs hg h1 h3 h
theorem y3{l:List Int}{k:Int}(h:eQ l∧∀y∈l,gr y):eQ (bM gs k l)∧∀y∈bM gs k l,gr y:=⟨List.Pairwise.filter _ h.1,fun y hy=>h.2 y (ait.1 hy).1⟩
theorem Rh(hs:jF ns pos)(hg:dJ gs gr){f:Fm}(hf:mM pos gr f)(h:gG 1000 (aq ns gs) (bP ns.length f)=true):∃x r,f=.F true x r∧lE ns gs true x r∧aQ 1000 (aq ns gs) (bP ns.length f)=(nd ns x.toNat).a:=by
 cases f with
 |G l r=>exact((JA hg hf.1.2 hf.2.2).ab.1 h).elim
 |F p x r =>
   cases p with
   |true =>
     have hc:=EO hs hg hf.1 hf.2.2;have:=hc.1.ab.1 h;exact⟨x,r,rfl,this,hc.2 this⟩
   |false=>exact((EP hs hg hf.1 hf.2.2).1.ab.1 h).elim
theorem Ri(hs:jF ns pos)(hg:dJ gs gr){f:Fm}(hf:mM pos gr f)(h:gH 1000 (aq ns gs) (bP ns.length f)=true):∃x r,f=.F false x r∧lE ns gs false x r∧bQ 1000 (aq ns gs) (bP ns.length f)=(nd ns x.toNat).a:=by
 cases f with
 |G l r=>exact((JA hg hf.1.2 hf.2.2).be.1 h).elim
 |F p x r =>
   cases p with
   |true=>exact((EO hs hg hf.1 hf.2.2).1.be.1 h).elim
   |false =>
     have hc:=EP hs hg hf.1 hf.2.2;have:=hc.1.be.1 h;exact⟨x,r,rfl,this,hc.2 this⟩
theorem Rj(hs:jF ns pos)(hg:dJ gs gr){f0:Fm}(h0:mM pos gr f0){q:SQ}(h:fu 1000 (aq ns gs) (bP ns.length f0) q):∃f,mM pos gr f∧q=bP ns.length f:=by
 induction h with
 |root=>exact⟨f0,h0,rfl⟩
 |to _ hl hq ih =>
   obtain⟨f,hf,rfl⟩:=ih;obtain⟨ho,g,nA,e⟩:=(BN hs hg hf).2.2.1 _ hl hq;exact⟨g,Jw hs hg hf nA ho,e⟩
 |pair _ _ ha hb hv qU oN =>
   obtain⟨f1,tG,rfl⟩:=qU;obtain⟨f2,tH,rfl⟩:=oN;obtain⟨x,r,rfl,_,_⟩:=Rh hs hg tG ha;obtain⟨y,l,rfl,_,_⟩:=Ri hs hg tH hb;refine⟨.G (bM gs 1 l) (bM gs 2 r),⟨y3 tH.2,y3 tG.2⟩,?_⟩;show(bM (aq ns gs) 1 (sh ns.length l),bM (aq ns gs) 2 (sh ns.length r))=_;rw[rZ hg tH.2.2,rZ hg tG.2.2];rfl
theorem Rk(hs:jF ns pos)(hg:dJ gs gr){f0:Fm}(h0:mM pos gr f0):nH 1000 (aq ns gs) (bP ns.length f0)↔∃I,w5 ns gs I∧I f0:=by
 constructor
 .intro aF;have ok:∀f,mM pos gr f->fu 1000 (aq ns gs) (bP ns.length f0) (bP ns.length f)->kP ns gs f:=fun f hf hr=>((BN hs hg hf).2.1).1 (aF _ hr).2;refine⟨fun f=>mM pos gr f∧fu 1000 (aq ns gs) (bP ns.length f0) (bP ns.length f),⟨fun f hf=>ok f hf.1 hf.2,fun f g hf hl=>?_,fun x r y l hx hy sx sy ha=>?_⟩,h0,.root⟩
  .have ho:=ok f hf.1 hf.2;obtain⟨h1,h2⟩:=(BN hs hg hf.1).2.2.2 g ho hl;exact⟨Jw hs hg hf.1 hl ho,.to hf.2 h1 h2⟩
  .have c1:=EO hs hg hx.1.1 hx.1.2.2;have c2:=EP hs hg hy.1.1 hy.1.2.2;refine⟨⟨y3 hy.1.2,y3 hx.1.2⟩,?_⟩;have:=fu.pair hx.2 hy.2 (c1.1.ab.2 sx) (c2.1.be.2 sy) (by rw[c1.2 sx,c2.2 sy];exact ha)
   have e:(bM (aq ns gs) 1 (bP ns.length (.F false y l)).1,bM (aq ns gs) 2 (bP ns.length (.F true x r)).2)=bP ns.length (.G (bM gs 1 l) (bM gs 2 r)):=by
    show(bM (aq ns gs) 1 (sh ns.length l),bM (aq ns gs) 2 (sh ns.length r))=_;rw[rZ hg hy.1.2.2,rZ hg hx.1.2.2];rfl
   rwa [e]at this
 .rintro⟨I,hI,q6⟩ q hq
  have key:∃f,mM pos gr f∧I f∧q=bP ns.length f:=by
   induction hq with
   |root=>exact⟨f0,h0,q6,rfl⟩
   |to _ hl hq ih =>
     obtain⟨f,hf,JB,rfl⟩:=ih;obtain⟨ho,g,nA,e⟩:=(BN hs hg hf).2.2.1 _ hl hq;exact⟨g,Jw hs hg hf nA ho,hI.to _ _ JB nA,e⟩
   |pair _ _ ha hb hv qU oN =>
     obtain⟨f1,tG,DR,rfl⟩:=qU;obtain⟨f2,tH,l6,rfl⟩:=oN;obtain⟨x,r,rfl,s1,a1⟩:=Rh hs hg tG ha;obtain⟨y,l,rfl,s2,a2⟩:=Ri hs hg tH hb;refine⟨.G (bM gs 1 l) (bM gs 2 r),⟨y3 tH.2,y3 tG.2⟩,hI.pair x r y l DR l6 s1 s2 (by rw[<-a1,<-a2];exact hv),?_⟩;show(bM (aq ns gs) 1 (sh ns.length l),bM (aq ns gs) 2 (sh ns.length r))=_;rw[rZ hg tH.2.2,rZ hg tG.2.2];rfl
  obtain⟨f,hf,JB,rfl⟩:=key;have:=BN hs hg hf;exact⟨this.1,this.2.1.2 (hI.ok _ JB)⟩
theorem afd{ts T:List TN}{pt pT:Bool->Int->Prop}{C:Int->Bool->List Int->Prop}(hb:EC ts T pt pT C)(h1:jF ts pt)(h2:jF T pT)(hg:dJ gs gr){i k g:Int}(hi:pt true i)(hc:C k true [i])(cX:gr g) :
  nH 1000 (aq ts gs) ([i],[g+ts.length])↔nH 1000 (aq T gs) ([k],[g+T.length]):=by
 have g1:eQ [g]∧∀y∈[g],gr y:=⟨ajE _ _,fun y hy=>by rw[ahZ.1 hy];exact cX⟩
 have e1:=Rk h1 hg (f0:=.F true i [g]) ⟨hi,g1⟩;have e2:=Rk h2 hg (f0:=.F true k [g]) ⟨(hb.ko _ _ _ hc).1,g1⟩;refine(show nH 1000 (aq ts gs) ([i],[g+ts.length])↔_ from e1).trans (Iff.trans ?_ (show nH 1000 (aq T gs) ([k],[g+T.length])↔_ from e2).symm);constructor
 .rintro⟨I,hI,h⟩
  exact⟨_,aeU hb h2.ko hI,.F (hb.ko _ _ _ hc).1 hc (fun _ hq=>hq) fun j ⟨i',ao,ho⟩ hn r' hr=>by
   rw[ahZ.1 ao]at ho
   exact hI.open_ h ho hn hr⟩
 .rintro⟨I,hI,h⟩;exact⟨_,aeW hb h1.ko hI,.F hi hc (fun j hj=>⟨i,ahZ.2 rfl,hj⟩) fun x hx hn r' hr=>hI.open_ h hx hn hr⟩
end
end Go.Proofs.YtpmniabdmbmafaaGreatDoor

namespace Go.Proofs.YtpmniabdmbmafaaGreatDoor
open Go.Ab
open Classical in
theorem JC{ns:List TN}(h:dO ns){l:List Int}(hk:∀x∈l,aC ns x)(z:Int):z∈j8 ns l↔Lf ns l z:=by
 have:u7 ns l (((List.range ns.length).map fun n:Nat=>(n:Int)).filter fun x=>decide (∃i∈l,dH ns i x)):=by
  refine⟨List.Pairwise.filter _ (akm.2 ((List.pairwise_lt_range (n:=ns.length)).imp fun h=>by omega)),fun x=>?_⟩;rw[ait,decide_eq_true_iff,ah9];constructor
  .exact fun h=>h.2
  .rintro⟨i,hi,ho⟩;have:=ho.ok h (hk i hi);obtain⟨t1,t2⟩:=this;exact⟨⟨x.toNat,aiq.2 (by omega),by omega⟩,i,hi,ho⟩
 rw[yF this];exact this.2 z
def kQ(W:List aB)(k:Int)(c:aB):Prop:=0<=k∧k.toNat<W.length∧W.getD k.toNat default=c
theorem kQ.up{W V:List aB}{k:Int}{c:aB}(h:kQ W k c)(hp:fp W V):kQ V k c:=⟨h.1,aiK h.2.1 hp.len,by rw[hp.get h.2.1];exact h.2.2⟩
theorem JD{W:List aB}{c:aB}(hc:nE c)(hW:fE W):kQ (bV W c).2 ((bV W c).1:Nat) c∧fp W (bV W c).2∧fE (bV W c).2:=by
 refine⟨?_,(QD hc hW).2⟩;unfold bV
 cases hp:qE (jO c) 0 W with
 |some i =>
   rw[Es hc 0 hW]at hp;obtain⟨j,h1,h2,h3⟩:=Jl hp;have e:i=j:=by omega
   subst e;exact⟨by simp only;omega,by simpa using h2,by simpa using h3⟩
 |none=>exact⟨by simp only;omega,by simp,by simp⟩
def xg(ns:List TN)(W:List aB)(p:Bool)(l:List Int)(wh:Bool)(fs:List cn):Prop:=fs.map (·.1)=rQ ns l wh∧∀q∈fs,kQ W q.2 (a8 ns p (dX ns l q.1))
theorem xg.up{ns:List TN}{W V:List aB}{p:Bool}{l:List Int}{wh:Bool}{fs:List cn}(h:xg ns W p l wh fs)(hp:fp W V):xg ns V p l wh fs:=⟨h.1,fun q hq=>(h.2 q hq).up hp⟩
theorem afe{ns:List TN}(h:dO ns)(ha:rP ns){p:Bool}{l:List Int}(hl:∀x∈l,aC ns x){W:List aB}(hW:fE W)(S:List (List UInt8)) :
  (∀q∈(pI ns p l S W).1,kQ (pI ns p l S W).2 q.2 (a8 ns p (dX ns l q.1)))∧fp W (pI ns p l S W).2∧fE (pI ns p l S W).2∧(pI ns p l S W).1.map (·.1)=S:=by
 refine⟨?_,(QG h ha hl hW S).2⟩
 have key:∀(S:List (List UInt8)) (s:List cn×List aB),(∀q∈s.1,kQ s.2 q.2 (a8 ns p (dX ns l q.1)))->fE s.2 ->
   ∀q∈(S.foldl (fun s k=>(s.1++[(k,((bV s.2 (a8 ns p (dX ns l k))).1:Int))],(bV s.2 (a8 ns p (dX ns l k))).2)) s).1,kQ (S.foldl (fun s k=>(s.1++[(k,((bV s.2 (a8 ns p (dX ns l k))).1:Int))],(bV s.2 (a8 ns p (dX ns l k))).2)) s).2 q.2 (a8 ns p (dX ns l q.1)):=by
  intro S
  induction S with
  |nil=>intro s h1 _;exact h1
  |cons k r ih =>
    intro s h1 h2;obtain⟨a1,a2,a3⟩:=JD (Bu h (QF ha hl k) (p:=p)) h2
    exact ih (s.1++[(k,((bV s.2 (a8 ns p (dX ns l k))).1:Int))],(bV s.2 (a8 ns p (dX ns l k))).2) (fun q hq=>by
     rcases ah1.1 hq with hq|hq
     .exact(h1 q hq).up a2
     .rw[ahZ.1 hq];exact a1) a3
 exact key S ([],W) (by simp) hW
structure tI(ns:List TN)(W:List aB)(c:aB)(s:EA):Prop where
 plus:s.plus=c.1
 al:s.al=c.2.1
 int:s.int=bt ns 3 c
 bool:s.bool=bt ns 4 c
 str:s.str=bt ns 5 c
 arr:s.arr=bt ns 6 c
 rc:s.rc=bt ns 7 c
 tg:s.tg=bt ns 8 c
 vars:s.vars=qC ns (aG ns 11 c.2.2)
 dp:s.arr=true->kQ W s.dp (a8 ns (!c.1) ((aG ns 6 c.2.2).map fun x=>(nd ns x.toNat).a))
 dq:s.arr=true->kQ W s.dq (a8 ns c.1 ((aG ns 6 c.2.2).map fun x=>(nd ns x.toNat).b))
 fl:s.rc=true->xg ns W c.1 (aG ns 7 c.2.2) c.1 s.fl
 tl:s.tg=true->xg ns W c.1 (aG ns 8 c.2.2) (!c.1) s.tl
theorem tI.up{ns:List TN}{W V:List aB}{c:aB}{s:EA}(h:tI ns W c s)(hp:fp W V):tI ns V c s :=
 ⟨h.plus,h.al,h.int,h.bool,h.str,h.arr,h.rc,h.tg,h.vars,fun g=>(h.dp g).up hp,fun g=>(h.dq g).up hp,fun g=>(h.fl g).up hp,fun g=>(h.tl g).up hp⟩
theorem aff{ns:List TN}{root:Int}(h:Ty ns root){W:List aB}(hW:fE W){c:aB}(hc:nC ns c) :
  (bt ns 6 c=true->kQ (eB ns c W).2 ((eB ns c W).1.1:Nat) (a8 ns (!c.1) ((aG ns 6 c.2.2).map fun x=>(nd ns x.toNat).a))∧kQ (eB ns c W).2 ((eB ns c W).1.2:Nat) (a8 ns c.1 ((aG ns 6 c.2.2).map fun x=>(nd ns x.toNat).b)))∧fp W (eB ns c W).2∧fE (eB ns c W).2:=by
 have h0:=QH h hW hc;refine⟨fun hk=>?_,h0.2.1,h0.2.2.1⟩;unfold eB;rw[hk,if_pos rfl];unfold j9
 have k1:∀x∈(aG ns 6 c.2.2).map (fun x=>(nd ns x.toNat).a),aC ns x:=fun x hx=>by
  obtain⟨y,hy,rfl⟩:=ah9.1 hx;exact(h.oI.fn y (hc.2 y (eo hy).1) (eo hy).2).1
 have k2:∀x∈(aG ns 6 c.2.2).map (fun x=>(nd ns x.toNat).b),aC ns x:=fun x hx=>by
  obtain⟨y,hy,rfl⟩:=ah9.1 hx;exact(h.oI.fn y (hc.2 y (eo hy).1) (eo hy).2).2
 obtain⟨a1,a2,a3⟩:=JD (Bu h.lB k1 (p:=!c.1)) hW;obtain⟨b1,b2,b3⟩:=JD (Bu h.lB k2 (p:=c.1)) a3;exact⟨a1.up b2,b1⟩
theorem Rl{ns:List TN}{root:Int}(h:Ty ns root){W:List aB}(hW:fE W){c:aB}(hc:nC ns c)(k:Int)(wh:Bool) :
  (bt ns k c=true->xg ns (dx ns c k wh W).2 c.1 (aG ns k c.2.2) wh (dx ns c k wh W).1)∧fp W (dx ns c k wh W).2∧fE (dx ns c k wh W).2:=by
 have hl:∀x∈aG ns k c.2.2,aC ns x:=fun x hx=>hc.2 x (eo hx).1;unfold dx
 cases hk:bt ns k c with
 |false=>exact⟨fun h=>(by cases h),.rf _,hW⟩
 |true =>
   rw[if_pos rfl,Qn (h.Ji hl)];obtain⟨h1,h2,h3,h4⟩:=afe h.lB h.oI (p:=c.1) hl hW (rQ ns (aG ns k c.2.2) wh);exact⟨fun _=>⟨h4,h1⟩,h2,h3⟩
theorem afg{ns:List TN}{root:Int}(h:Ty ns root){W:List aB}(hW:fE W){c:aB}(hc:nC ns c):tI ns (eO ns c W).2 c (eO ns c W).1∧fp W (eO ns c W).2∧fE (eO ns c W).2:=by
 obtain⟨a1,a2,a3⟩:=aff h hW hc;obtain⟨b1,b2,b3⟩:=Rl h a3 hc 7 c.1;obtain⟨c1,c2,c3⟩:=Rl h b3 hc 8 (!c.1);exact⟨⟨rfl,rfl,rfl,rfl,rfl,rfl,rfl,rfl,rfl,fun g=>((a1 g).1.up b2).up c2,fun g=>((a1 g).2.up b2).up c2,fun g=>(b1 g).up c2,fun g=>c1 g⟩,(a2.tr b2).tr c2,c3⟩
theorem JE{ns:List TN}{root:Int}(h:Ty ns root){n:Int}:∀(f:Nat) {L:List EA} {W:List aB} {R:List EA},L.length<=W.length->fE W->lu ns W->(∀i,i<L.length->tI ns W (W.getD i default) (L.getD i default))->kM ns n f L W=some R ->
  ∃V,R.length=V.length∧fp W V∧lu ns V∧∀i,i<R.length->tI ns V (V.getD i default) (R.getD i default)
 |0,L,W,R,_,_,_,_,hb=>by cases hb
 |f+1,L,W,R,hlen,hW,hO,ah,hb=>by
   rw[kM]at hb;by_cases hl:L.length<W.length
   .rw[dif_pos hl]at hb;have nU:=ah2 hl;obtain⟨s1,s2,s3⟩:=afg h hW (hO _ nU);have s4:=I9 h.lB h.oI hO (hO _ nU);generalize hS:eO ns W[L.length] W=S at hb s1 s2 s3 s4;split at hb
    .cases hb
    .obtain⟨V,v1,v2,v3,v4⟩:=JE h f (L:=L++[S.1]) (W:=S.2) (by have:=s2.len;rw[ah7,List.length_singleton];omega) s3 s4 (fun i hi=>by
      rw[ah7,List.length_singleton]at hi;rw[s2.get (by omega)];rcases aiG i L.length with g|g
      .have:=(ah i g).up s2;rw[ahX (l:=L)]at this;rw[ahX (l:=L++[S.1]),aih g];exact this
      .have e:i=L.length:=by omega
       subst e;rw[ahX (l:=L++[S.1]),akE,ahX,aib hl]
       exact s1) hb
     exact⟨V,v1,s2.tr v2,v3,v4⟩
   .rw[dif_neg hl]at hb;obtain rfl:=ais hb;exact⟨W,by omega,.rf _,hO,ah⟩
theorem JF{ns:List TN}(h:dO ns){p:Bool}{l:List Int}(hk:∀x∈l,aC ns x) :
  ((a8 ns p l).2.1=true∧(∃j,Lf ns l j∧ag ns j=cz p)∧(a8 ns p l).2.2=[])∨((a8 ns p l).2.1=false∧(∀j,Lf ns l j->ag ns j≠cz p)∧∀j,j∈(a8 ns p l).2.2↔Lf ns l j∧ag ns j≠cx p):=by
 unfold a8;by_cases ha:(j8 ns l).any (rJ ns p)=true
 .rw[if_pos ha];obtain⟨j,hj,e⟩:=aiA.1 ha;exact .inl ⟨rfl,⟨j,(JC h hk j).1 hj,by simpa[rJ]using e⟩,rfl⟩
 .rw[if_neg ha];refine .inr ⟨rfl,fun j hj e=>ha (aiA.2 ⟨j,(JC h hk j).2 hj,by simpa[rJ]using e⟩),fun j=>?_⟩;rw[ait,JC h hk];simp[mf]
end Go.Proofs.YtpmniabdmbmafaaGreatDoor

namespace Go.Proofs.YtpmniabdmbmafaaGreatDoor
open Go.Ab
inductive lG(T:List TN)(p:Bool)(m:Int):Int->List TN->Prop
 |nil {a:Int} (hm:m<=a) (h:aC T a) (hn:nd T a.toNat=⟨cx p,0,0,[]⟩):lG T p m a []
 |snoc {a c b:Int} {l:List TN} {x:TN} (h:lG T p m c l) (hm:m<=a) (ha:aC T a) (iI:m<=b) (hb:aC T b) (hn:nd T a.toNat=⟨cA p,c,b,[]⟩) (hx:nd T b.toNat=x):lG T p m a (l++[x])
theorem lG.keep{T T':List TN}{p:Bool}{m a:Int}{l:List TN}(hm:0<=m)(hl:T.length<=T'.length)(hk:∀j:Int,m<=j->aC T j->nd T' j.toNat=nd T j.toNat)(h:lG T p m a l):lG T' p m a l:=by
 have up:∀{j:Int},aC T j->aC T' j:=fun {j} h=>⟨h.1,by have:=h.2;omega⟩
 induction h with
 |nil h1 h hn=>exact .nil h1 (up h) (by rw[hk _ h1 h];exact hn)
 |snoc _ h1 ha h2 hb hn hx ih=>exact .snoc ih h1 (up ha) h2 (up hb) (by rw[hk _ h1 ha];exact hn) (by rw[hk _ h2 hb];exact hx)
theorem lG.at{T:List TN}{p:Bool}{m a:Int}{l:List TN}(h:lG T p m a l):m<=a∧aC T a:=by cases h<;>exact⟨by assumption,by assumption⟩
theorem Rm{L M:List TN}{j:Int}(h:aC L j):nd (L++M) j.toNat=nd L j.toNat:=by
 have:=h.1;have:=h.2;unfold nd;rw[ahX,aih (by omega),<-ahX]
theorem JG{L M:List TN}{x:TN}(j:Int)(h:j=(L.length:Int)):nd (L++x::M) j.toNat=x:=by
 subst h;unfold nd;rw[ahX,aim (by omega)];simp
theorem Rn{p:Bool}{m:Int}(h0:0<=m):∀(P:List TN) (S:List TN×Nat) (l:List TN),m<=S.1.length->lG S.1 p m S.2 l ->
  lG (P.foldl (gD (cA p)) S).1 p m (P.foldl (gD (cA p)) S).2 (l++P)∧(P.foldl (gD (cA p)) S).1.length=S.1.length+2*P.length∧∀j:Int,aC S.1 j->nd (P.foldl (gD (cA p)) S).1 j.toNat=nd S.1 j.toNat
 |[],S,l,_,h=>⟨by simpa using h,by simp,fun _ _=>rfl⟩
 |x::P,S,l,hm,h=>by
   have hl:(gD (cA p) S x).1.length=S.1.length+2:=by simp[gD]
   have hk:∀j:Int,aC S.1 j->nd (gD (cA p) S x).1 j.toNat=nd S.1 j.toNat:=fun j hj=>Rm hj
   have h1:lG (gD (cA p) S x).1 p m ((gD (cA p) S x).2:Nat) (l++[x]):=by
    refine .snoc (c:=S.2) (b:=S.1.length) (h.keep h0 (by omega) fun j _ hj=>hk j hj) (by simp only[gD];omega) ⟨by simp only[gD];omega,by rw[hl];simp only[gD];omega⟩ hm ⟨by omega,by rw[hl];omega⟩ ?_ (JG _ rfl);show nd (S.1++[x,_]) _=_;rw[show S.1++[x,(⟨cA p,S.2,S.1.length,[]⟩:TN)]=(S.1++[x])++[⟨cA p,S.2,S.1.length,[]⟩]from by simp];exact JG _ (by simp[gD])
   obtain⟨i1,i2,i3⟩:=Rn h0 P (gD (cA p) S x) (l++[x]) (by omega) h1;refine⟨?_,by rw[List.foldl_cons,i2,hl,List.length_cons];omega,fun j hj=>?_⟩
   .rw[aiS]at i1;exact i1
   .rw[List.foldl_cons,i3 j ⟨hj.1,by have:=hj.2;omega⟩,hk j hj]
theorem Ro(L:List TN)(i:Nat)(s:EA)(n:Nat)(hi:i<n)(hn:n<=L.length) :
  (j6 L i s).length=L.length+1+2*(ec s (cz s.plus)).length∧(∀j:Int,aC L j->j≠i->nd (j6 L i s) j.toNat=nd L j.toNat)∧∃a,nd (j6 L i s) i=⟨cA s.plus,a,a,[]⟩∧lG (j6 L i s) s.plus n a (ec s (cz s.plus)):=by
 have hL:(L++[(⟨cx s.plus,0,0,[]⟩:TN)]).length=L.length+1:=by simp
 obtain⟨c1,c2,c3⟩:=Rn (p:=s.plus) (m:=n) (by omega) (ec s (cz s.plus)) (L++[⟨cx s.plus,0,0,[]⟩],L.length) [] (by rw[hL];omega) (.nil (by omega) ⟨by omega,by rw[hL];simp only;omega⟩ (JG _ rfl))
 have c1:lG (nq s.plus L (ec s (cz s.plus))).1 s.plus n (nq s.plus L (ec s (cz s.plus))).2 (ec s (cz s.plus)):=by
  rw[List.nil_append]at c1;exact c1
 have c2:(nq s.plus L (ec s (cz s.plus))).1.length=L.length+1+2*(ec s (cz s.plus)).length:=by rw[<-hL];exact c2
 have c3:∀j:Int,aC L j->nd (nq s.plus L (ec s (cz s.plus))).1 j.toNat=nd L j.toNat:=fun j hj=>by
  have:=c3 j ⟨hj.1,by have:=hj.2;rw[hL];omega⟩;refine this.trans (Rm hj)
 have hs:∀(j:Int),0<=j->j≠i->nd (j6 L i s) j.toNat=nd (nq s.plus L (ec s (cz s.plus))).1 j.toNat:=fun j h0 hj=>by
  unfold nd j6;rw[ahX,aiy (by omega),<-ahX]
 have hlen:(j6 L i s).length=(nq s.plus L (ec s (cz s.plus))).1.length:=by unfold j6;rw[ai1]
 refine⟨by rw[hlen,c2],fun j hj aJ=>by rw[hs j hj.1 aJ,c3 j hj],(nq s.plus L (ec s (cz s.plus))).2,?_,?_⟩
 .unfold nd j6;rw[ahX,aiC (by rw[c2];omega)];rfl
 .exact c1.keep (by omega) (by rw[hlen];exact ain _) fun j hj _=>hs j (by omega) (by omega)
def BO(T:List TN)(n:Int)(k:Int)(s:EA):Prop:=∃a,nd T k.toNat=⟨cA s.plus,a,a,[]⟩∧lG T s.plus n a (ec s (cz s.plus))
theorem JH(R:List EA):∀i,i<=R.length->R.length<=(gW R i).length∧∀k:Nat,k<i->BO (gW R i) R.length k (R.getD k default)
 |0,_=>⟨by simp[gW],fun k hk=>by omega⟩
 |i+1,hi=>by
   obtain⟨h1,h2⟩:=JH R i (by omega);obtain⟨t1,t2,a,t3,t4⟩:=Ro (gW R i) i (R.getD i default) R.length (by omega) h1;have hlen:(gW R i).length<=(gW R (i+1)).length:=by show _<=(j6 _ _ _).length;rw[t1];omega
   refine⟨by omega,fun k hk=>?_⟩;by_cases e:k=i
   .subst e;exact⟨a,by rw[Int.toNat_natCast];exact t3,t4⟩
   .obtain⟨b,k1,k2⟩:=h2 k (by omega)
    exact⟨b,by
     have:=t2 (k:Int) ⟨by omega,by omega⟩ (by omega)
     exact this.trans k1,k2.keep (by omega) hlen fun j hj aF=>t2 j aF (by omega)⟩
theorem JI(R:List EA):R.length<=(df R).length∧∀k:Nat,k<R.length->BO (df R) R.length k (R.getD k default):=JH R R.length (ain _)
theorem Rp(R:List EA){b:Nat}(h:∀s∈R,(ec s (cz s.plus)).length<=b):∀i,i<=R.length->(gW R i).length<=R.length+i*(1+2*b)
 |0,_=>by simp[gW]
 |i+1,hi=>by
   have h1:=Rp R h i (by omega);obtain⟨t1,_⟩:=Ro (gW R i) i (R.getD i default) R.length (by omega) (JH R i (by omega)).1
   have h2:R.getD i default∈R:=by
    rw[ahX,aib (by omega)];exact ah2 _
   have h3:=h _ h2;have h4:(i+1)*(1+2*b)=i*(1+2*b)+(1+2*b):=ai2 _ _;show(j6 _ _ _).length<=_;rw[t1,h4];omega
theorem y4{T:List TN}{x:Int}{n:TN}(h:nd T x.toNat=n):aI T x=eA n.k:=by unfold aI;rw[h]
theorem Rq{s:EA}{p:Bool}{x:TN}(h:x∈ec s (cz p)):eA x.k=false:=by
 unfold ec at h;simp only[ah1,ah9]at h;obtain((((((h|h)|h)|h)|h)|h)|h)|h:=h
 .split at h<;>simp at h;subst h;cases p<;>rfl
 .split at h<;>simp at h;subst h;rfl
 .split at h<;>simp at h;subst h;rfl
 .split at h<;>simp at h;subst h;rfl
 .obtain⟨v,_,rfl⟩:=h;rfl
 .split at h<;>simp at h;subst h;rfl
 .split at h<;>simp at h;subst h;rfl
 .split at h<;>simp at h;subst h;rfl
theorem lG.opn{T:List TN}{p:Bool}{m a:Int}{l:List TN}(h:lG T p m a l):(∀y∈l,eA y.k=false)->(∀x,dH T a x->nd T x.toNat=⟨cx p,0,0,[]⟩∨nd T x.toNat∈l)∧∀y∈l,∃x,dH T a x∧aC T x∧nd T x.toNat=y:=by
 induction h with
 | @nil a hm h hn =>
   intro _;refine⟨fun x hx=>.inl ?_,fun y hy=>by cases hy⟩;rw[hx.self (by rw[y4 hn];cases p<;>rfl)];exact hn
 | @snoc a c b l x h hm ha iI hb hn hx ih =>
   intro hl;obtain⟨i1,i2⟩:=ih fun y hy=>hl y (aif _ hy);have tJ:aI T a=true:=by rw[y4 hn];cases p<;>rfl
   have A9:aI T b=false:=by rw[y4 hx];exact hl x (by simp)
   refine⟨fun z hz=>?_,fun y hy=>?_⟩
   .cases hz with
    |flat g=>rw[tJ]at g;cases g
    |left _ t =>
      rw[hn]at t;rcases i1 z t with g|g
      .exact .inl g
      .exact .inr (aif _ g)
    |right _ t =>
      rw[hn]at t;rw[t.self A9,hx];exact .inr (by simp)
   .rcases ah1.1 hy with hy|hy
    .obtain⟨z,z1,z2,z3⟩:=i2 y hy;exact⟨z,.left tJ (by rw[hn];exact z1),z2,z3⟩
    .rw[ahZ.1 hy];exact⟨b,.right tJ (by rw[hn];exact .flat A9),hb,hx⟩
theorem BO.opn{T:List TN}{n k:Int}{s:EA}(h:BO T n k s):(∀x,dH T k x->nd T x.toNat=⟨cx s.plus,0,0,[]⟩∨nd T x.toNat∈ec s (cz s.plus))∧∀y∈ec s (cz s.plus),∃x,dH T k x∧aC T x∧nd T x.toNat=y:=by
 obtain⟨a,h1,h2⟩:=h;obtain⟨i1,i2⟩:=h2.opn fun y hy=>Rq hy;have hl:aI T k=true:=by rw[y4 h1];cases s.plus<;>rfl
 refine⟨fun x hx=>?_,fun y hy=>?_⟩
 .cases hx with
  |flat g=>rw[hl]at g;cases g
  |left _ t=>rw[h1]at t;exact i1 x t
  |right _ t=>rw[h1]at t;exact i1 x t
 .obtain⟨x,x1,x2,x3⟩:=i2 y hy;exact⟨x,.left hl (by rw[h1];exact x1),x2,x3⟩
end Go.Proofs.YtpmniabdmbmafaaGreatDoor

namespace Go.Proofs.YtpmniabdmbmafaaGreatDoor
open Go.Ab
theorem JJ{n:TN}(h:(n.l.map (·.1)).Nodup){q:cn}(hq:q∈n.l):gF n q.1=q.2:=by
 obtain⟨q',cg,e1,e2⟩:=BK (n:=n) (s:=q.1) (ah9.2 ⟨q,hq,rfl⟩);rw[e2]
 have key:∀{l:List cn},(l.map (·.1)).Nodup->∀a∈l,∀b∈l,a.1=b.1->a.2=b.2:=by
  intro l
  induction l with
  |nil=>intro _ a ha;cases ha
  |cons z r ih =>
    intro hn a ha b hb e;rw[aid,ai3]at hn;rcases ah6.1 ha with ea|ha
    .rcases ah6.1 hb with eb|hb
     .rw[ea,eb]
     .exact absurd (ah9.2 ⟨b,hb,by rw[<-e,ea]⟩) hn.1
    .rcases ah6.1 hb with eb|hb
     .exact absurd (ah9.2 ⟨a,ha,by rw[e,eb]⟩) hn.1
     .exact ih hn.2 a ha b hb e
 exact key h q' cg q hq e1
theorem Rr{ns:List TN}{l:List Int}(h:By ns l){s:List UInt8}{x:Int}:x∈dX ns l s↔∃j∈l,s∈(nd ns j.toNat).l.map (·.1)∧x=gF (nd ns j.toNat) s:=by
 unfold dX;rw[ajP];constructor
 .rintro⟨j,hj,hx⟩;obtain⟨q,hq,rfl⟩:=ah9.1 hx;obtain⟨Rs,e⟩:=ait.1 hq;have e:q.1=s:=by simpa using e
  exact⟨j,hj,ah9.2 ⟨q,Rs,e⟩,by rw[<-e];exact(JJ (h j hj) Rs).symm⟩
 .rintro⟨j,hj,hs,rfl⟩;obtain⟨q,hq,rfl⟩:=ah9.1 hs;exact⟨j,hj,ah9.2 ⟨q,ait.2 ⟨hq,by simp⟩,(JJ (h j hj) hq).symm⟩⟩
theorem Rt{ns:List TN}{s:List UInt8}{x:Int}:hasB ns s x=true↔s∈(nd ns x.toNat).l.map (·.1):=by
 rw[Qj,aiA,ah9];exact⟨fun⟨q,h,e⟩=>⟨q,h,by simpa using e⟩,fun⟨q,h,e⟩=>⟨q,h,by simpa using e⟩⟩
theorem Ru{α:Type}{p:α->Bool}:∀{l:List α},(l.filter p).length=l.length↔∀x∈l,p x=true
 |[]=>by simp
 |x::r=>by
   rw[ajA];by_cases h:p x=true
   .rw[if_pos h,List.length_cons,List.length_cons,Nat.add_right_cancel_iff,Ru]
    exact⟨fun g y hy=>by
     rcases ah6.1 hy with rfl|hy
     .exact h
     .exact g y hy,fun g y hy=>g y (ah8 _ hy)⟩
   .rw[if_neg h];have:=aiF p r;exact⟨fun g=>by rw[List.length_cons]at g;omega,fun g=>absurd (g x ah0) h⟩
theorem afh{ns:List TN}{l:List Int}{wh:Bool}(aJ:l≠[]){z:List UInt8}:z∈rQ ns l wh↔if wh=true then ∀j∈l,z∈(nd ns j.toNat).l.map (·.1)else ∃j∈l,z∈(nd ns j.toNat).l.map (·.1):=by
 rw[(Eu ns l wh).2]
 cases wh with
 |false=>simp
 |true =>
   rw[if_pos rfl]
   have e:tw ns l z=l.length↔∀j∈l,z∈(nd ns j.toNat).l.map (·.1):=by
    unfold tw;rw[Ru];exact⟨fun h j hj=>Rt.1 (h j hj),fun h j hj=>Rt.2 (h j hj)⟩
   rw[<-e];constructor
   .rintro⟨h,_⟩;simpa using h
   .intro h;refine⟨by simp[h],?_⟩
    cases l with
    |nil=>exact absurd rfl aJ
    |cons j r=>exact⟨j,ah0,e.1 h j ah0⟩
structure pP(ts:List TN)(root:Int)(pt:Bool->Int->Prop)(V:List aB)(R:List EA):Prop where
 ty:Ty ts root
 qO:jF ts pt
 kd:∀i,aC ts i->1<=ag ts i∧ag ts i<=11
 len:R.length=V.length
 st:∀i,i<R.length->tI ts V (V.getD i default) (R.getD i default)
 vr:∀i,i<R.length->∀v∈(R.getD i default).vars,0<=v∧v<1000
def CW(ts:List TN)(pt:Bool->Int->Prop)(V:List aB)(k:Int)(p:Bool)(l:List Int):Prop:=kQ V k (a8 ts p l)∧∀i∈l,pt p i
def pW(R:List EA)(p:Bool)(x:Int):Prop:=∃k:Nat,k<R.length∧(R.getD k default).plus=p ∧
 (x=k∨(∃l,lG (df R) p R.length x l∧∀y∈l,y∈ec (R.getD k default) (cz p))∨(aC (df R) x∧nd (df R) x.toNat∈ec (R.getD k default) (cz p)))
section
variable {ts:List TN}{root:Int}{pt:Bool->Int->Prop}{V:List aB}{R:List EA}
theorem pP.at(h:pP ts root pt V R){k:Int}{c:aB}(hk:kQ V k c):k.toNat<R.length∧tI ts V c (R.getD k.toNat default)∧BO (df R) R.length k (R.getD k.toNat default):=by
 obtain⟨h1,h2,h3⟩:=hk;have hl:k.toNat<R.length:=by rw[h.len];exact h2
 have:=(JI R).2 k.toNat hl;rw[Int.toNat_of_nonneg h1]at this;exact⟨hl,h3▸h.st k.toNat hl,this⟩
theorem y5{k:Int}{c:aB}(h:bt ts k c=true):∃y,y∈aG ts k c.2.2:=by
 unfold bt at h;rw[decide_eq_true_iff]at h;exact List.exists_mem_of_length_pos (by omega)
theorem ER(h:pP ts root pt V R){p:Bool}{l:List Int}(hl:∀i∈l,pt p i){k:Int}(hk:∃y,y∈aG ts k (a8 ts p l).2.2)(hn:k≠cx p):(a8 ts p l).2.1=false∧∀y,y∈aG ts k (a8 ts p l).2.2↔Lf ts l y∧ag ts y=k:=by
 rcases JF h.ty.lB (p:=p) (l:=l) (fun x hx=>h.qO.ok _ _ (hl x hx))with⟨_,_,h3⟩|⟨h1,_,h3⟩
 .obtain⟨y,hy⟩:=hk;rw[h3]at hy;cases hy
 .refine⟨h1,fun y=>?_⟩;unfold aG;rw[ait,h3,decide_eq_true_iff];exact⟨fun⟨⟨a,_⟩,b⟩=>⟨a,b⟩,fun⟨a,b⟩=>⟨⟨a,by rw[b];exact hn⟩,b⟩⟩
theorem afi{pos:Bool->Int->Prop}(hp:ED ts pos){p:Bool}{x j:Int}(ho:dH ts x j):pos p x->pos p j:=by
 induction ho with
 |flat _=>exact id
 |left hl _ ih=>exact fun h=>ih (hp.pj _ _ h hl).2.1
 |right hl _ ih=>exact fun h=>ih (hp.pj _ _ h hl).2.2
theorem BP(h:pP ts root pt V R){p:Bool}{l:List Int}(hl:∀i∈l,pt p i){j:Int}(hj:Lf ts l j):pt p j:=by
 obtain⟨i,hi,ho⟩:=hj;exact afi h.qO.ko ho (hl i hi)
theorem Rv(h:pP ts root pt V R){p:Bool}{l:List Int}(hl:∀i∈l,pt p i){k:Int}(hw:pL k)(hk:∃y,y∈aG ts k (a8 ts p l).2.2){wh:Bool}(Rw:wh=true↔decide (k=7)=p){fs:List cn}(he:xg ts V p (aG ts k (a8 ts p l).2.2) wh fs):EB ts (CW ts pt V) p l ⟨k,0,0,fs⟩:=by
 obtain⟨_,hm⟩:=ER h hl hk (EF hw);obtain⟨y,hy⟩:=hk;have eI:By ts (aG ts k (a8 ts p l).2.2):=h.ty.Ji fun x hx=>h.qO.ok _ _ (BP h hl ((hm x).1 hx).1);have hnd:(fs.map (·.1)).Nodup:=by rw[he.1];exact QC (Eu _ _ _).1
 refine .wide (j:=y) ((hm y).1 hy).1 hw ((hm y).1 hy).2 (fun s=>?_) fun s hs=>?_
 .show s∈fs.map (·.1)↔_;rw[he.1,afh (fun g=>by rw[g]at hy;cases hy)];by_cases hp:decide (k=7)=p
  .rw[if_pos (Rw.2 hp),if_pos hp];exact⟨fun g j hj fe=>g j ((hm j).2 ⟨hj,fe⟩),fun g j hj=>g j ((hm j).1 hj).1 ((hm j).1 hj).2⟩
  .rw[if_neg (fun g=>hp (Rw.1 g)),if_neg hp];exact⟨fun⟨j,hj,hs⟩=>⟨j,((hm j).1 hj).1,((hm j).1 hj).2,hs⟩,fun⟨j,hj,fe,hs⟩=>⟨j,(hm j).2 ⟨hj,fe⟩,hs⟩⟩
 .obtain⟨q,hq,rfl⟩:=ah9.1 (show s∈fs.map (·.1)from hs);refine⟨dX ts (aG ts k (a8 ts p l).2.2) q.1,⟨?_,fun i hi=>?_⟩,fun x=>?_⟩
  .rw[JJ (n:=⟨k,0,0,fs⟩) hnd hq];exact he.2 q hq
  .obtain⟨j,hj,hs,rfl⟩:=(Rr eI).1 hi;obtain⟨j1,j2⟩:=(hm j).1 hj;exact h.qO.ko.jl _ _ (BP h hl j1) (by rw[j2];exact hw) _ hs
  .rw[Rr eI];exact⟨fun⟨j,hj,h1,h2⟩=>⟨j,((hm j).1 hj).1,((hm j).1 hj).2,h1,h2⟩,fun⟨j,hj,fe,h1,h2⟩=>⟨j,(hm j).2 ⟨hj,fe⟩,h1,h2⟩⟩
theorem y6{s:EA}{e:Int}{n:TN}(h:n∈ec s e):(s.al=true∧n=⟨e,0,0,[]⟩)∨(s.int=true∧n=⟨3,0,0,[]⟩)∨(s.bool=true∧n=⟨4,0,0,[]⟩)∨(s.str=true∧n=⟨5,0,0,[]⟩)∨(∃v∈s.vars,n=⟨11,v,0,[]⟩)∨(s.arr=true∧n=⟨6,s.dp,s.dq,[]⟩)∨(s.rc=true∧n=⟨7,0,0,s.fl⟩)∨(s.tg=true∧n=⟨8,0,0,s.tl⟩):=by
 unfold ec at h;simp only[ah1,ah9]at h
 have key:∀{b:Bool} {m:TN},n∈(if b=true then[m]else[])->b=true∧n=m:=fun {b m} h=>by
  cases b with
  |true=>exact⟨rfl,ahZ.1 h⟩
  |false=>cases h
 obtain((((((h|h)|h)|h)|h)|h)|h)|h:=h
 .exact .inl (key h)
 .exact .inr (.inl (key h))
 .exact .inr (.inr (.inl (key h)))
 .exact .inr (.inr (.inr (.inl (key h))))
 .obtain⟨v,hv,rfl⟩:=h;exact .inr (.inr (.inr (.inr (.inl ⟨v,hv,rfl⟩))))
 .exact .inr (.inr (.inr (.inr (.inr (.inl (key h))))))
 .exact .inr (.inr (.inr (.inr (.inr (.inr (.inl (key h)))))))
 .exact .inr (.inr (.inr (.inr (.inr (.inr (.inr (key h)))))))
theorem vu{s:EA}{e:Int}{n:TN}(h:(s.al=true∧n=⟨e,0,0,[]⟩)∨(s.int=true∧n=⟨3,0,0,[]⟩)∨(s.bool=true∧n=⟨4,0,0,[]⟩)∨(s.str=true∧n=⟨5,0,0,[]⟩)∨(∃v∈s.vars,n=⟨11,v,0,[]⟩)∨(s.arr=true∧n=⟨6,s.dp,s.dq,[]⟩)∨(s.rc=true∧n=⟨7,0,0,s.fl⟩)∨(s.tg=true∧n=⟨8,0,0,s.tl⟩)):n∈ec s e:=by
 unfold ec;simp only[ah1,ah9];obtain⟨h,rfl⟩|⟨h,rfl⟩|⟨h,rfl⟩|⟨h,rfl⟩|⟨v,hv,rfl⟩|⟨h,rfl⟩|⟨h,rfl⟩|⟨h,rfl⟩:=h
 .exact .inl (.inl (.inl (.inl (.inl (.inl (.inl (by rw[if_pos h];exact ahZ.2 rfl)))))))
 .exact .inl (.inl (.inl (.inl (.inl (.inl (.inr (by rw[if_pos h];exact ahZ.2 rfl)))))))
 .exact .inl (.inl (.inl (.inl (.inl (.inr (by rw[if_pos h];exact ahZ.2 rfl))))))
 .exact .inl (.inl (.inl (.inl (.inr (by rw[if_pos h];exact ahZ.2 rfl)))))
 .exact .inl (.inl (.inl (.inr ⟨v,hv,rfl⟩)))
 .exact .inl (.inl (.inr (by rw[if_pos h];exact ahZ.2 rfl)))
 .exact .inl (.inr (by rw[if_pos h];exact ahZ.2 rfl))
 .exact .inr (by rw[if_pos h];exact ahZ.2 rfl)
theorem afj(h:pP ts root pt V R){k:Int}{p:Bool}{l:List Int}{x:Int}(hc:CW ts pt V k p l)(ho:dH (df R) k x)(hx:ag (df R) x≠cx p):EB ts (CW ts pt V) p l (nd (df R) x.toNat):=by
 obtain⟨JK,hl⟩:=hc;obtain⟨_,hs,hT⟩:=h.at JK;have nS:(R.getD k.toNat default).plus=p:=by rw[hs.plus,oE]
 rcases hT.opn.1 x ho with e|hm
 .exact absurd (by unfold ag;rw[e,nS]) hx
 rw[nS]at hm;generalize nd (df R) x.toNat=n at hm
 have JL:∀k:Int,k=3∨k=4∨k=5->bt ts k (a8 ts p l)=true->EB ts (CW ts pt V) p l ⟨k,0,0,[]⟩:=fun k hk hh=>by
  have hn:k≠cx p:=by rcases hk with rfl|rfl|rfl<;>cases p<;>decide
  obtain⟨_,hm⟩:=ER h hl (y5 hh) hn;obtain⟨y,hy⟩:=y5 hh;obtain⟨y1,y2⟩:=(hm y).1 hy;exact .flat y1 y2.symm ⟨by rcases hk with rfl|rfl|rfl<;>decide,by rcases hk with rfl|rfl|rfl<;>(intro g;rcases g with g|g<;>cases g)⟩ fun g=>by rcases hk with rfl|rfl|rfl<;>cases g
 have xe:=hs.al;rcases y6 hm with⟨g,rfl⟩|⟨g,rfl⟩|⟨g,rfl⟩|⟨g,rfl⟩|⟨v,hv,rfl⟩|⟨g,rfl⟩|⟨g,rfl⟩|⟨g,rfl⟩
 .rw[hs.al]at g;rcases JF h.ty.lB (p:=p) (l:=l) (fun x hx=>h.qO.ok _ _ (hl x hx))with⟨_,⟨j,h2,h3⟩,_⟩|⟨h1,_,_⟩
  .exact .flat h2 h3.symm ⟨by cases p<;>decide,by intro q;cases p<;>(rcases q with q|q<;>cases q)⟩ fun q=>by cases p<;>cases q
  .rw[h1]at g;cases g
 .exact JL 3 (.inl rfl) (hs.int▸g)
 .exact JL 4 (.inr (.inl rfl)) (hs.bool▸g)
 .exact JL 5 (.inr (.inr rfl)) (hs.str▸g)
 .rw[hs.vars]at hv;have hv:=(rF _ v).1 hv;obtain⟨y,hy,rfl⟩:=ah9.1 hv;obtain⟨_,hm⟩:=ER h hl ⟨y,hy⟩ (by cases p<;>decide);obtain⟨y1,y2⟩:=(hm y).1 hy;exact .flat y1 y2.symm ⟨by simp,by intro q;rcases q with q|q<;>cases q⟩ fun _=>rfl
 .have hh:bt ts 6 (a8 ts p l)=true:=hs.arr▸g;obtain⟨_,hm⟩:=ER h hl (y5 hh) BG;obtain⟨y,hy⟩:=y5 hh;obtain⟨y1,y2⟩:=(hm y).1 hy;have hd:=hs.dp g;have rk:=hs.dq g;rw[oE]at hd rk;refine .arr (A:=(aG ts 6 (a8 ts p l).2.2).map fun x=>(nd ts x.toNat).a) (B:=(aG ts 6 (a8 ts p l).2.2).map fun x=>(nd ts x.toNat).b) y1 rfl y2 ⟨hd,fun i hi=>?_⟩ ⟨rk,fun i hi=>?_⟩ (fun x=>?_) fun x=>?_
  .obtain⟨z,hz,rfl⟩:=ah9.1 hi;obtain⟨z1,z2⟩:=(hm z).1 hz;exact(h.qO.ko.arr _ _ (BP h hl z1) z2).1
  .obtain⟨z,hz,rfl⟩:=ah9.1 hi;obtain⟨z1,z2⟩:=(hm z).1 hz;exact(h.qO.ko.arr _ _ (BP h hl z1) z2).2
  .rw[ah9];exact⟨fun⟨z,hz,e⟩=>⟨z,((hm z).1 hz).1,((hm z).1 hz).2,e.symm⟩,fun⟨z,z1,z2,e⟩=>⟨z,(hm z).2 ⟨z1,z2⟩,e.symm⟩⟩
  .rw[ah9];exact⟨fun⟨z,hz,e⟩=>⟨z,((hm z).1 hz).1,((hm z).1 hz).2,e.symm⟩,fun⟨z,z1,z2,e⟩=>⟨z,(hm z).2 ⟨z1,z2⟩,e.symm⟩⟩
 .have:=hs.fl g;rw[oE]at this;exact Rv h hl (.inl rfl) (y5 (hs.rc▸g)) (by simp[eq_comm]) this
 .have:=hs.tl g;rw[oE]at this;exact Rv h hl (.inr rfl) (y5 (hs.tg▸g)) (by cases p<;>decide) this
theorem y7{k:Int}{c:aB}{y:Int}(h:y∈aG ts k c.2.2):bt ts k c=true:=by
 unfold bt;rw[decide_eq_true_iff];have:=ajQ h;omega
theorem afk(h:pP ts root pt V R){k:Int}{p:Bool}{l:List Int}{j:Int}(hc:CW ts pt V k p l)(hj:Lf ts l j)(hk:ag ts j≠cx p):∃x,dH (df R) k x∧ag (df R) x≠cx p∧(ag (df R) x=ag ts j∧(ag ts j=11->(nd (df R) x.toNat).a=(nd ts j.toNat).a)∨ag (df R) x=cz p):=by
 obtain⟨JK,hl⟩:=hc;obtain⟨_,hs,hT⟩:=h.at JK;have nS:(R.getD k.toNat default).plus=p:=by rw[hs.plus,oE]
 have get:∀n,n∈ec (R.getD k.toNat default) (cz p)->∃x,dH (df R) k x∧nd (df R) x.toNat=n:=fun n hn=>by
  obtain⟨x,h1,_,h2⟩:=hT.opn.2 n (by rw[nS];exact hn);exact⟨x,h1,h2⟩
 rcases JF h.ty.lB (p:=p) (l:=l) (fun x hx=>h.qO.ok _ _ (hl x hx))with⟨h1,_,_⟩|⟨h1,h2,h3⟩
 .obtain⟨x,x1,x2⟩:=get ⟨cz p,0,0,[]⟩ (vu (.inl ⟨hs.al.trans h1,rfl⟩));have e:ag (df R) x=cz p:=by unfold ag;rw[x2]
  exact⟨x,x1,by rw[e];cases p<;>decide,.inr e⟩
 .have xh:∀k:Int,ag ts j=k->j∈aG ts k (a8 ts p l).2.2:=fun k e=>ait.2 ⟨(h3 j).2 ⟨hj,hk⟩,by simpa using e⟩;have hjp:pt p j:=BP h hl hj;have cT:aI ts j=false:=by obtain⟨i,_,ho⟩:=hj;exact ho.sV
  have hr:=h.kd j (h.qO.ok _ _ hjp)
  have h9:ag ts j≠9∧ag ts j≠10:=by
   have:eA (ag ts j)=false:=cT;unfold eA at this;simpa using this
  have bd:=h2 j hj
  have wv:ag ts j≠1∧ag ts j≠2:=by
   cases p
   .exact⟨hk,bd⟩
   .exact⟨bd,hk⟩
  have fin:∀n,n∈ec (R.getD k.toNat default) (cz p)->n.k=ag ts j->(ag ts j=11->n.a=(nd ts j.toNat).a)->∃x,dH (df R) k x∧ag (df R) x≠cx p∧(ag (df R) x=ag ts j∧(ag ts j=11->(nd (df R) x.toNat).a=(nd ts j.toNat).a)∨ag (df R) x=cz p):=fun n hn e1 e2=>by
   obtain⟨x,x1,x2⟩:=get n hn;have e:ag (df R) x=ag ts j:=by unfold ag;rw[x2];exact e1
   exact⟨x,x1,by rw[e];exact hk,.inl ⟨e,fun g=>by rw[x2];exact e2 g⟩⟩
  by_cases k3:ag ts j=3
  .exact fin ⟨3,0,0,[]⟩ (vu (.inr (.inl ⟨hs.int.trans (y7 (xh 3 k3)),rfl⟩))) k3.symm fun g=>by omega
  by_cases k4:ag ts j=4
  .exact fin ⟨4,0,0,[]⟩ (vu (.inr (.inr (.inl ⟨hs.bool.trans (y7 (xh 4 k4)),rfl⟩)))) k4.symm fun g=>by omega
  by_cases k5:ag ts j=5
  .exact fin ⟨5,0,0,[]⟩ (vu (.inr (.inr (.inr (.inl ⟨hs.str.trans (y7 (xh 5 k5)),rfl⟩))))) k5.symm fun g=>by omega
  by_cases k6:ag ts j=6
  .exact fin ⟨6,_,_,[]⟩ (vu (.inr (.inr (.inr (.inr (.inr (.inl ⟨hs.arr.trans (y7 (xh 6 k6)),rfl⟩))))))) k6.symm fun g=>by omega
  by_cases k7:ag ts j=7
  .exact fin ⟨7,0,0,_⟩ (vu (.inr (.inr (.inr (.inr (.inr (.inr (.inl ⟨hs.rc.trans (y7 (xh 7 k7)),rfl⟩)))))))) k7.symm fun g=>by omega
  by_cases k8:ag ts j=8
  .exact fin ⟨8,0,0,_⟩ (vu (.inr (.inr (.inr (.inr (.inr (.inr (.inr ⟨hs.tg.trans (y7 (xh 8 k8)),rfl⟩)))))))) k8.symm fun g=>by omega
  have Rx:ag ts j=11:=by omega
  refine fin ⟨11,(nd ts j.toNat).a,0,[]⟩ (vu (.inr (.inr (.inr (.inr (.inl ⟨_,?_,rfl⟩)))))) Rx.symm fun _=>rfl;rw[hs.vars];exact(rF _ _).2 (ah9.2 ⟨j,xh 11 Rx,rfl⟩)
theorem y8(h:pP ts root pt V R){k:Int}{p:Bool}{c:aB}(hc:kQ V k c)(hp:c.1=p):pW R p k:=by
 obtain⟨h1,h2,_⟩:=h.at hc;exact⟨k.toNat,h1,by rw[h2.plus,hp],.inl (by have:=hc.1;omega)⟩
theorem afl(h:pP ts root pt V R):EC ts (df R) pt (pW R) (CW ts pt V) :=
 ⟨fun k p l hc=>⟨y8 h hc.1 (oE _ _ _),hc.2⟩,fun k p l x hc ho hx=>afj h hc ho hx,fun k p l j hc hj hk=>afk h hc hj hk⟩
theorem y9(h:pP ts root pt V R){p:Bool}{x:Int}(hx:pW R p x):aC (df R) x∧∃k:Nat,k<R.length∧(R.getD k default).plus=p∧tI ts V (V.getD k default) (R.getD k default) ∧
  ((∃a,nd (df R) x.toNat=⟨cA p,a,a,[]⟩∧pW R p a)∨nd (df R) x.toNat=⟨cx p,0,0,[]⟩∨(∃c b,nd (df R) x.toNat=⟨cA p,c,b,[]⟩∧pW R p c∧pW R p b)∨nd (df R) x.toNat∈ec (R.getD k default) (cz p)):=by
 obtain⟨k,h1,h2,h3⟩:=hx;have ah:=h.st k h1;obtain rfl|⟨l,hc,hl⟩|⟨h3,h4⟩:=h3
 .obtain⟨a,a1,a2⟩:=(JI R).2 k h1;rw[h2]at a1 a2;have:=(JI R).1;exact⟨⟨by omega,by omega⟩,k,h1,h2,ah,.inl ⟨a,a1,k,h1,h2,.inr (.inl ⟨_,a2,fun y hy=>hy⟩)⟩⟩
 .refine⟨hc.at.2,k,h1,h2,ah,?_⟩
  cases hc with
  |nil hm ho hn=>exact .inr (.inl hn)
  | @snoc _ c b l x hc hm ha iI hb hn hx =>
    exact .inr (.inr (.inl ⟨c,b,hn,⟨k,h1,h2,.inr (.inl ⟨l,hc,fun y hy=>hl y (aif _ hy)⟩)⟩,⟨k,h1,h2,.inr (.inr ⟨hb,by rw[hx];exact hl x (by simp)⟩)⟩⟩))
 .exact⟨h3,k,h1,h2,ah,.inr (.inr (.inr h4))⟩
theorem Ry(h:pP ts root pt V R):jF (df R) (pW R):=by
 refine⟨⟨fun p x hx hl=>?_,fun p x hx hk=>?_,fun p x hx hk s hs=>?_⟩,fun p x hx=>(y9 h hx).1,fun p x hx q hq=>?_,fun p x hx hk=>?_⟩
 .obtain⟨_,k,_,_,_,⟨a,e,ha⟩|e|⟨c,b,e,hc,hb⟩|hm⟩:=y9 h hx
  .unfold ag;rw[e];exact⟨rfl,ha,ha⟩
  .rw[y4 e]at hl;cases p<;>cases hl
  .unfold ag;rw[e];exact⟨rfl,hc,hb⟩
  .rw[y4 rfl,Rq hm]at hl;cases hl
 .have hk:(nd (df R) x.toNat).k=6:=hk;obtain⟨_,k,_,hp,ah,⟨a,e,ha⟩|e|⟨c,b,e,hc,hb⟩|hm⟩:=y9 h hx
  .rw[e]at hk;cases p<;>cases hk
  .rw[e]at hk;cases p<;>cases hk
  .rw[e]at hk;cases p<;>cases hk
  .rcases y6 hm with⟨g,e⟩|⟨g,e⟩|⟨g,e⟩|⟨g,e⟩|⟨v,hv,e⟩|⟨g,e⟩|⟨g,e⟩|⟨g,e⟩
   .rw[e]at hk;cases p<;>cases hk
   .rw[e]at hk;cases hk
   .rw[e]at hk;cases hk
   .rw[e]at hk;cases hk
   .rw[e]at hk;cases hk
   .rw[e];have e1:(V.getD k default).1=p:=by rw[<-ah.plus,hp]
    exact⟨y8 h (ah.dp g) (by rw[oE,e1]),y8 h (ah.dq g) (by rw[oE,e1])⟩
   .rw[e]at hk;cases hk
   .rw[e]at hk;cases hk
 .obtain⟨_,k,_,hp,ah,⟨a,e,ha⟩|e|⟨c,b,e,hc,hb⟩|hm⟩:=y9 h hx
  .rw[e]at hs;cases hs
  .rw[e]at hs;cases hs
  .rw[e]at hs;cases hs
  .have e1:(V.getD k default).1=p:=by rw[<-ah.plus,hp]
   obtain⟨q,hq,_,eq⟩:=BK hs;rw[eq];rcases y6 hm with⟨g,e⟩|⟨g,e⟩|⟨g,e⟩|⟨g,e⟩|⟨v,hv,e⟩|⟨g,e⟩|⟨g,e⟩|⟨g,e⟩
   .rw[e]at hq;cases hq
   .rw[e]at hq;cases hq
   .rw[e]at hq;cases hq
   .rw[e]at hq;cases hq
   .rw[e]at hq;cases hq
   .rw[e]at hq;cases hq
   .rw[e]at hq;exact y8 h ((ah.fl g).2 q hq) (by rw[oE,e1])
   .rw[e]at hq;exact y8 h ((ah.tl g).2 q hq) (by rw[oE,e1])
 .obtain⟨_,k,_,hp,ah,⟨a,e,ha⟩|e|⟨c,b,e,hc,hb⟩|hm⟩:=y9 h hx
  .rw[e]at hq;cases hq
  .rw[e]at hq;cases hq
  .rw[e]at hq;cases hq
  .rcases y6 hm with⟨g,e⟩|⟨g,e⟩|⟨g,e⟩|⟨g,e⟩|⟨v,hv,e⟩|⟨g,e⟩|⟨g,e⟩|⟨g,e⟩
   .rw[e]at hq;cases hq
   .rw[e]at hq;cases hq
   .rw[e]at hq;cases hq
   .rw[e]at hq;cases hq
   .rw[e]at hq;cases hq
   .rw[e]at hq;cases hq
   .rw[e]at hq;exact((ah.fl g).2 q hq).1
   .rw[e]at hq;exact((ah.tl g).2 q hq).1
 .have hk:(nd (df R) x.toNat).k=11:=hk;obtain⟨_,k,jd,hp,ah,⟨a,e,ha⟩|e|⟨c,b,e,hc,hb⟩|hm⟩:=y9 h hx
  .rw[e]at hk;cases p<;>cases hk
  .rw[e]at hk;cases p<;>cases hk
  .rw[e]at hk;cases p<;>cases hk
  .rcases y6 hm with⟨g,e⟩|⟨g,e⟩|⟨g,e⟩|⟨g,e⟩|⟨v,hv,e⟩|⟨g,e⟩|⟨g,e⟩|⟨g,e⟩
   .rw[e]at hk;cases p<;>cases hk
   .rw[e]at hk;cases hk
   .rw[e]at hk;cases hk
   .rw[e]at hk;cases hk
   .rw[e];exact h.vr k jd v hv
   .rw[e]at hk;cases hk
   .rw[e]at hk;cases hk
   .rw[e]at hk;cases hk
end
end Go.Proofs.YtpmniabdmbmafaaGreatDoor

namespace Go.Proofs.YtpmniabdmbmafaaGreatDoor
open Go.Ab
theorem getD_eq{α:Type}{l:List α}{i:Nat}{d:α}(h:i<l.length):l.getD i d=l[i]:=by simp[h]
theorem JM{P:Program}{G:List (Nat×Obj)}{f:FuncId}{ds:List D}{Q Q':AV->Prop}(h:HP P G f ds Q)(hq:∀r,Q r->Q' r):HP P G f ds Q':=bA.mono h fun r _ hr=>⟨hq r hr.1,hr.2⟩
theorem cB.nodup{α:Type}{kids:α->List α}{out todo r:List α}(h:cB kids out todo r):out.Nodup->r.Nodup:=by
 induction h with
 |done out=>exact fun h=>h
 |skip _ _ ih=>exact ih
 |take h _ ih =>
   refine fun ho=>ih ?_;rw[aiZ];exact⟨ho,by simp,fun a ha b hb=>by rw[ahZ.1 hb];exact fun e=>h (e▸ha)⟩
theorem cB.sub{α:Type}{kids:α->List α}{out todo r:List α}(h:cB kids out todo r):(∀a∈out,a∈r)∧∀a∈todo,a∈r:=by
 induction h with
 |done out=>exact⟨fun a h=>h,by simp⟩
 |skip h _ ih =>
   refine⟨ih.1,fun a ha=>?_⟩;rcases ah1.1 ha with ha|ha
   .exact ih.2 a ha
   .rw[ahZ.1 ha];exact ih.1 _ h
 |take h _ ih =>
   refine⟨fun a ha=>ih.1 a (aif _ ha),fun a ha=>?_⟩;rcases ah1.1 ha with ha|ha
   .exact ih.2 a (aif _ ha)
   .rw[ahZ.1 ha];exact ih.1 _ (by simp)
theorem cB.closed{α:Type}{kids:α->List α}{out todo r:List α}(h:cB kids out todo r):(∀a∈out,∀b∈kids a,b∈out∨b∈todo)->∀a∈r,∀b∈kids a,b∈r:=by
 induction h with
 |done out=>exact fun h a ha b hb=>(h a ha b hb).resolve_right (by simp)
 | @skip out todo r s h _ ih =>
   refine fun h2=>ih fun a ha b hb=>?_;rcases h2 a ha b hb with g|g
   .exact .inl g
   .rcases ah1.1 g with g|g
    .exact .inr g
    .rw[ahZ.1 g];exact .inl h
 | @take out todo r s h _ ih =>
   refine fun h2=>ih fun a ha b hb=>?_;rcases ah1.1 ha with ha|ha
   .rcases h2 a ha b hb with g|g
    .exact .inl (aif _ g)
    .rcases ah1.1 g with g|g
     .exact .inr (aif _ g)
     .rw[ahZ.1 g];exact .inl (by simp)
   .rw[ahZ.1 ha]at hb;exact .inr (ajd _ (ajX.2 hb))
theorem lx.kids{ns:List TN}{root:Int}{l:List bL}(h:lx ns root l):∀a∈l,∀b∈jj ns a,b∈l:=h.1.closed (by simp)
end Go.Proofs.YtpmniabdmbmafaaGreatDoor

namespace Go.Proofs.YtpmniabdmbmafaaGreatDoor
open Go.Ab
theorem afm{α:Type}[DecidableEq α]{kids:α->List α}{U:List α}(hU:∀a∈U,∀b∈kids a,b∈U):∀(n m:Nat) (out todo:List α),fQ U out<=n->todo.length<=m->(∀a∈todo,a∈U)->∃r,cB kids out todo r:=by
 intro n
 induction n with
 |zero =>
   intro m
   induction m with
   |zero =>
     intro out todo _ hm _;rw[ai7 (by omega:todo.length=0)];exact⟨out,.done out⟩
   |succ m ih =>
     intro out todo hn hm ht;rcases akt todo with rfl|⟨t,s,rfl⟩
     .exact⟨out,.done out⟩
     .by_cases hs:s∈out
      .obtain⟨r,hr⟩:=ih out t hn (by simp at hm;omega) fun a ha=>ht a (by simp[ha]);exact⟨r,by rw[aj8];exact .skip hs hr⟩
      .have:=Bz hs (ht s (by simp));omega
 |succ n ihn =>
   intro m
   induction m with
   |zero =>
     intro out todo _ hm _;rw[ai7 (by omega:todo.length=0)];exact⟨out,.done out⟩
   |succ m ih =>
     intro out todo hn hm ht;rcases akt todo with rfl|⟨t,s,rfl⟩
     .exact⟨out,.done out⟩
     .by_cases hs:s∈out
      .obtain⟨r,hr⟩:=ih out t hn (by simp at hm;omega) fun a ha=>ht a (by simp[ha]);exact⟨r,by rw[aj8];exact .skip hs hr⟩
      .have:=Bz hs (ht s (by simp))
       obtain⟨r,hr⟩:=ihn _ (out++[s]) (t++(kids s).reverse) (by omega) (ain _) fun a ha=>by
        rcases ah1.1 ha with ha|ha
        .exact ht a (by simp[ha])
        .exact hU s (ht s (by simp)) a (ajX.1 ha)
       exact⟨r,by rw[aj8];exact .take hs hr⟩
theorem cB.in_{α:Type}{kids:α->List α}{U:List α}(hU:∀a∈U,∀b∈kids a,b∈U){out todo r:List α}(h:cB kids out todo r):(∀a∈out,a∈U)->(∀a∈todo,a∈U)->∀a∈r,a∈U:=by
 induction h with
 |done out=>exact fun h _=>h
 |skip _ _ ih=>exact fun h1 h2=>ih h1 fun a ha=>h2 a (aif _ ha)
 | @take out todo r s _ _ ih =>
   intro h1 h2;have hs:=h2 s (by simp);refine ih (fun a ha=>?_) fun a ha=>?_
   .rcases ah1.1 ha with ha|ha
    .exact h1 a ha
    .rw[ahZ.1 ha];exact hs
   .rcases ah1.1 ha with ha|ha
    .exact h2 a (aif _ ha)
    .exact hU s hs a (ajX.1 ha)
theorem ES{α:Type}[DecidableEq α]:∀{l u:List α},l.Nodup->(∀a∈l,a∈u)->l.length<=u.length
 |[],_,_,_=>aie _
 |x::l,u,hn,hs=>by
   rw[ai3]at hn;have hx:=hs x ah0
   have h1:=ES (l:=l) (u:=u.erase x) hn.2 fun a ha=>by
    rw[List.mem_erase_of_ne (fun e=>by subst e;exact hn.1 ha)];exact hs a (ah8 _ ha)
   rw[akf hx]at h1;have:=ajQ hx;rw[List.length_cons];omega
theorem afn(N:Nat):(univ N).length=2*N:=by
 induction N with
 |zero=>rfl
 |succ n ih =>
   unfold univ at ih ⊢;rw[akw,akz,ah7,ih];simp;omega
theorem ET{N:Nat}{s:bL}:s∈univ N↔(0<=s.1∧s.1<N)∧(s.2=1∨s.2=2):=by
 unfold univ;rw[ajP];constructor
 .rintro⟨i,hi,hs⟩;have hi:=aiq.1 hi;simp only[ah6,aiw,or_false]at hs;obtain rfl|rfl:=hs
  .exact⟨⟨by simp,by simpa using hi⟩,.inl rfl⟩
  .exact⟨⟨by simp,by simpa using hi⟩,.inr rfl⟩
 .rintro⟨h1,h2⟩;refine⟨s.1.toNat,aiq.2 (by omega),?_⟩;have e:((s.1.toNat:Nat):Int)=s.1:=by omega
  rw[e];rcases h2 with h|h<;>simp[<-h]
theorem Rz{ns:List TN}{root:Int}(h:ek ns root=0){i:Int}(hi:aC ns i):∀x∈ch (nd ns i.toNat),aC ns x:=Bc (uY (vn h).2.2.1 (by have h1:=hi.1;have h2:=hi.2;omega))
theorem afo{ns:List TN}{root:Int}(h:ek ns root=0){i:Int}(hi:aC ns i):1<=ag ns i∧ag ns i<=11:=by
 have h1:=uY (vn h).2.2.1 (i:=i.toNat) (by have h1:=hi.1;have h2:=hi.2;omega);simp only[jf,aia,aiT,ai5,decide_eq_false_iff_not]at h1;have h2:=h1.1.1.1.1;unfold ag;omega
theorem afp{s:Int}(h:s=1∨s=2):qq s=1∨qq s=2:=by rcases h with rfl | rfl<;>simp[qq]
theorem RA{ns:List TN}{root:Int}(h:ek ns root=0):∀a∈univ ns.length,∀b∈jj ns a,b∈univ ns.length:=fun a ha b hb=>by
 obtain⟨h1,h2⟩:=ET.1 ha;obtain⟨j,hj,rfl⟩:=ah9.1 hb;have hj:=aiq.1 hj;have hk:=Rz h (i:=a.1) h1
 have hm:(ch (nd ns a.1.toNat)).getD j 0∈ch (nd ns a.1.toNat):=by
  rw[getD_eq hj];exact ah2 hj
 refine ET.2 ⟨hk _ hm,?_⟩;unfold qJ;simp only;split
 .exact afp h2
 .exact h2
theorem afq{ns:List TN}{root:Int}(h:ek ns root=0):∃l,lx ns root l:=by
 have hr:(root,(1:Int))∈univ ns.length:=ET.2 ⟨(vn h).2.1,.inl rfl⟩;obtain⟨l,hl⟩:=afm (RA h) _ _ [] [(root,1)] (ain _) (ain _) (by simpa using hr);have de:=hl.in_ (RA h) (by simp) (by simpa using hr);refine⟨l,hl,fun s hs=>ET.1 (de s hs),?_⟩;have:=ES (hl.nodup (by simp)) de
 rwa [afn]at this
def xj(l:List bL)(p:Bool)(x:Int):Prop:=(x,if p=true then(1:Int)else 2)∈l
theorem afr{n:TN}{s:Int}{j:Nat}(h:j<(ch n).length):qJ n s j∈kh n s:=ah9.2 ⟨j,aiq.2 h,rfl⟩
theorem afs{ns:List TN}{root:Int}(hm:ek ns root=0){l:List bL}(hl:lx ns root l)(hp:ly ns l=true):jF ns (xj l):=by
 have ht:=yT hm;have aF:∀p x,xj l p x->aC ns x:=fun p x hx=>(hl.2.1 _ hx).1
 have RC:∀p x,xj l p x->aI ns x=true->ag ns x=cA p:=fun p x hx tJ=>by
  have ho:=aF p x hx;have e:((x.toNat:Nat):Int)=x:=by have:=ho.1;omega
  have hlt:x.toNat<ns.length:=by have h1:=ho.1;have h2:=ho.2;omega
  unfold ly at hp
  have hb:tA ns l x.toNat=false:=by
   have hp:(List.range ns.length).any (tA ns l)=false:=by simpa using hp
   have:=ai6.1 hp x.toNat (aiq.2 hlt);simpa using this
  unfold tA at hb;rw[e]at hb
  have h9:ag ns x=9∨ag ns x=10:=by
   have:eA (ag ns x)=true:=tJ;unfold eA at this;simpa using this
  cases p with
  |true =>
    have aV:(x,(1:Int))∈l:=hx;obtain h|h:=h9
    .exact h
    .simp[show(nd ns x.toNat).k=10 from h,aV]at hb
  |false =>
    have aV:(x,(2:Int))∈l:=hx;obtain h|h:=h9
    .simp[show(nd ns x.toNat).k=9 from h,aV]at hb
    .exact h
 have BQ:∀p x,xj l p x->∀j,j<(ch (nd ns x.toNat)).length->qJ (nd ns x.toNat) (if p=true then(1:Int)else 2) j∈l:=fun p x hx j hj=>hl.kids _ hx _ (afr (n:=nd ns x.toNat) hj);refine⟨⟨fun p x hx tJ=>⟨RC p x hx tJ,?_⟩,fun p x hx hk=>?_,fun p x hx hk s hs=>?_⟩,aF,fun p x hx q hq=>?_,fun p x hx hk=>?_⟩
 .have hk:=RC p x hx tJ;have hk:(nd ns x.toNat).k=cA p:=hk
  have e:ch (nd ns x.toNat)=[(nd ns x.toNat).a,(nd ns x.toNat).b]:=by
   unfold ch;rw[hk];cases p<;>rfl
  have h0:=BQ p x hx 0 (by rw[e];simp);have h1:=BQ p x hx 1 (by rw[e];simp);unfold qJ at h0 h1;rw[e,hk]at h0 h1;cases p<;>exact⟨h0,h1⟩
 .have hk:(nd ns x.toNat).k=6:=hk
  have e:ch (nd ns x.toNat)=[(nd ns x.toNat).a,(nd ns x.toNat).b]:=by
   unfold ch;rw[hk];rfl
  have h0:=BQ p x hx 0 (by rw[e];simp);have h1:=BQ p x hx 1 (by rw[e];simp);unfold qJ at h0 h1;rw[e,hk]at h0 h1;cases p<;>exact⟨h0,h1⟩
 .obtain⟨q,hq,_,eq⟩:=BK hs;rw[eq];have hk:(nd ns x.toNat).k=7∨(nd ns x.toNat).k=8:=hk
  have e:ch (nd ns x.toNat)=(nd ns x.toNat).l.map (·.2):=by
   unfold ch;rcases hk with h|h<;>rw[h]<;>rfl
  obtain⟨j,hj,ej⟩:=aiB hq;have h0:=BQ p x hx j (by rw[e];simpa using hj);unfold qJ at h0;rw[e]at h0;have e2:((nd ns x.toNat).l.map (·.2)).getD j 0=q.2:=by simp[hj,ej]
  rw[e2,show(decide ((nd ns x.toNat).k=6)&&decide (j=0))=false from by rcases hk with h|h<;>rw[h]<;>simp]at h0;exact h0
 .exact((ht.oI.fd x (aF p x hx)).2 q hq).2.1
 .have:=ht.vr x (aF p x hx) hk;omega
theorem RD{k:Int}(h:np k=true):oq k=true:=by
 unfold np at h;unfold oq;simpa using h
theorem afu{gs:List TN}{g:Int}(hm:ek gs g=0){B:List Int}(hB:∀y∈B,aC gs y)(hk:∀y∈B,∀z∈ch (nd gs y.toNat),z∈B)(hv:∀y∈B,ag gs y≠11):dJ gs (·∈B):=by
 refine⟨hB,hv,fun y hy h2=>?_,fun y hy q hq=>?_⟩
 .have e:ch (nd gs y.toNat)=[(nd gs y.toNat).a,(nd gs y.toNat).b]:=by
   unfold ch;rw[show oq (nd gs y.toNat).k=true from RD h2];rfl
  have:=hk y hy;rw[e]at this;exact⟨this _ (by simp),this _ (by simp)⟩
 .have hr:=uY (vn hm).2.2.1 (i:=y.toNat) (by have h1:=(hB y hy).1;have h2:=(hB y hy).2;omega);rcases(wZ hr).2.2.2 with hw|hl
  .have e:ch (nd gs y.toNat)=(nd gs y.toNat).l.map (·.2):=by
    unfold ch
    rw[show oq (nd gs y.toNat).k=false from by
     simp only[gU,aiL,decide_eq_true_eq]at hw
     rcases hw with h|h<;>rw[h]<;>decide,if_neg (by simp),if_pos hw]
   exact hk y hy q.2 (by rw[e];exact ah9.2 ⟨q,hq,rfl⟩)
  .rw[hl]at hq;cases hq
theorem RE{ts:List TN}{root n:Int}(hm:ek ts root=0){l:List bL}(hl:lx ts root l)(hp:ly ts l=true){R:List EA}(hR:nF ts root n=some R):∃V,pP ts root (xj l) V R∧kQ V 0 (a8 ts true [root])∧0<R.length:=by
 have ht:=yT hm;obtain⟨hb,he⟩:=Jo ht;unfold nF at hR;rw[he]at hR hb;obtain⟨V,v1,v2,v3,v4⟩:=JE ht 2001 (by simp) hb.an hb.wo (fun i hi=>absurd hi (by simp)) hR;have h0:kQ V 0 (a8 ts true [root]):=kQ.up (W:=[a8 ts true [root]]) ⟨by decide,by simp,rfl⟩ v2;refine⟨V,⟨ht,afs hm hl hp,fun i hi=>afo hm hi,v1,v4,fun i hi v hv=>?_⟩,h0,by rw[v1];exact h0.2.1⟩;rw[(v4 i hi).vars]at hv;obtain⟨y,hy,rfl⟩:=ah9.1 ((rF _ v).1 hv)
 have hc:nC ts (V.getD i default):=by
  rw[ahX,aib (by omega)];exact v3 _ (ah2 _)
 have:=ht.vr y (hc.2 y (eo hy).1) (eo hy).2;omega
theorem afv{ts gs:List TN}{root n g:Int}(hm:ek ts root=0){l:List bL}(hl:lx ts root l)(hp:ly ts l=true){R:List EA}(hR:nF ts root n=some R){gr:Int->Prop}(hg:dJ gs gr)(cX:gr g) :
  nH 1000 (aq ts gs) ([root],[g+ts.length])↔nH 1000 (aq (df R) gs) ([0],[g+(df R).length]):=by
 obtain⟨V,h1,h2,_⟩:=RE hm hl hp hR;have RF:xj l true root:=hl.1.sub.2 _ (by simp);exact afd (afl h1) h1.qO (Ry h1) hg RF ⟨h2,fun i hi=>by rw[ahZ.1 hi];exact RF⟩ cX
def pQ:Nat->List (List Int)
 |0=>[[]]
 |n+1=>pQ n++(pQ n).map fun r=>r++[(n:Int)]
theorem EU:∀n,(pQ n).length=2 ^ n
 |0=>rfl
 |n+1=>by
   rw[pQ,ah7,aik,EU n,Nat.pow_succ];omega
theorem EV:∀(n:Nat) (r:List Int),eQ r->(∀y∈r,0<=y∧y<n)->r∈pQ n
 |0,r,_,h=>by
   cases r with
   |nil=>simp[pQ]
   |cons x t=>have:=h x ah0;omega
 |n+1,r,hr,h=>by
   rw[pQ,ah1];rcases akt r with rfl|⟨t,s,rfl⟩
   .exact .inl (EV n [] hr (by simp))
   .rw[aj8]at hr h ⊢;have hp:=aky.1 hr
    have ht:∀y∈t,0<=y∧y<n:=fun y hy=>by
     have h1:=h y (by simp[hy]);have h2:=hp.2.2 y hy s (by simp);have h3:=h s (by simp);omega
    by_cases e:s=n
    .subst e;exact .inr (ah9.2 ⟨t,EV n t hp.1 ht,rfl⟩)
    .have hs:=h s (by simp);refine .inl (EV n _ hr fun y hy=>?_);rcases ah1.1 hy with hy|hy
     .exact ht y hy
     .rw[ahZ.1 hy];omega
def EW(N G:Nat):List SQ :=
 ((List.range N).flatMap fun(x:Nat)=>((pQ G).map fun r=>([(x:Int)],sh N r))++(pQ G).map fun r=>(sh N r,[(x:Int)]))++(pQ G).flatMap fun l=>(pQ G).map fun r=>(sh N l,sh N r)
theorem JN{α β:Type}{f:α->List β}{c:Nat}:∀{l:List α},(∀x∈l,(f x).length=c)->(l.flatMap f).length=l.length*c
 |[],_=>by simp
 |x::r,h=>by
   rw[ajS,ah7,h x ah0,JN fun y hy=>h y (ah8 _ hy),List.length_cons,ai2,ak1]
theorem afw(N G:Nat):(EW N G).length=N*(2 ^ G+2 ^ G)+2 ^ G*2 ^ G:=by
 unfold EW;rw[ah7,JN (c:=2 ^ G+2 ^ G) fun x _=>by simp[EU],JN (c:=2 ^ G) fun x _=>by simp[EU],EU,List.length_range]
theorem afx{ns gs:List TN}{pos:Bool->Int->Prop}{gr:Int->Prop}(hs:jF ns pos)(hg:dJ gs gr){f:Fm}(hf:mM pos gr f):bP ns.length f∈EW ns.length gs.length:=by
 have sub:∀{r:List Int},eQ r->(∀y∈r,gr y)->r∈pQ gs.length:=fun {r} h1 h2=>EV _ r h1 fun y hy=>hg.ok y (h2 y hy);unfold EW;rw[ah1]
 cases f with
 |G l r=>exact .inr (ajP.2 ⟨l,sub hf.1.1 hf.1.2,ah9.2 ⟨r,sub hf.2.1 hf.2.2,rfl⟩⟩)
 |F p x r =>
   have ho:=hs.ok p x hf.1;have e:((x.toNat:Nat):Int)=x:=by have:=ho.1;omega
   refine .inl (ajP.2 ⟨x.toNat,aiq.2 (by have h1:=ho.1;have h2:=ho.2;omega),?_⟩);rw[ah1,e]
   cases p with
   |true=>exact .inl (ah9.2 ⟨r,sub hf.2.1 hf.2.2,rfl⟩)
   |false=>exact .inr (ah9.2 ⟨r,sub hf.2.1 hf.2.2,rfl⟩)
theorem afy{ns gs:List TN}{pos:Bool->Int->Prop}{gr:Int->Prop}(hs:jF ns pos)(hg:dJ gs gr){f0:Fm}(h0:mM pos gr f0){al:List SQ}(hn:al.Nodup)(ha:∀q∈al,fu 1000 (aq ns gs) (bP ns.length f0) q):al.length<=ns.length*(2 ^ gs.length+2 ^ gs.length)+2 ^ gs.length*2 ^ gs.length:=by
 rw[<-afw];refine ES hn fun q hq=>?_;obtain⟨f,hf,rfl⟩:=Rj hs hg h0 (ha q hq);exact afx hs hg hf
theorem EX{ns gs:List TN}{r:List Int}(h:∀y∈r,aC gs y):∀y∈sh ns.length r,aC (aq ns gs) y:=fun y hy=>by
 obtain⟨z,hz,rfl⟩:=BI.1 hy;obtain⟨h1,h2⟩:=h z hz;have:(aq ns gs).length=ns.length+gs.length:=by simp[aq]
 exact⟨by omega,by omega⟩
theorem afz{ns gs:List TN}{pos:Bool->Int->Prop}{gr:Int->Prop}(hs:jF ns pos)(hg:dJ gs gr){f0:Fm}(h0:mM pos gr f0){q:SQ}(ha:fu 1000 (aq ns gs) (bP ns.length f0) q):(q.1.length<=gs.length+1∧q.2.length<=gs.length+1)∧(∀x∈q.1,aC (aq ns gs) x)∧∀x∈q.2,aC (aq ns gs) x:=by
 obtain⟨f,hf,rfl⟩:=Rj hs hg h0 ha
 have len:∀{r:List Int},eQ r->(∀y∈r,gr y)->(sh ns.length r).length<=gs.length:=fun {r} h1 h2=>by
  have:=Ix (n:=gs.length) (L:=r) (h1.imp fun h=>by omega) fun y hy=>hg.ok y (h2 y hy);simpa[sh]using this
 have lft:∀{x:Int},aC ns x->aC (aq ns gs) x:=fun {x} h=>⟨h.1,by have:=h.2;simp[aq];omega⟩
 cases f with
 |G l r =>
   obtain⟨⟨h1,h2⟩,h3,h4⟩:=hf;exact⟨⟨ajh (len h1 h2),ajh (len h3 h4)⟩,EX fun y hy=>hg.ok y (h2 y hy),EX fun y hy=>hg.ok y (h4 y hy)⟩
 |F p x r =>
   obtain⟨h1,h2,h3⟩:=hf;have hx:∀y∈[x],aC (aq ns gs) y:=fun y hy=>by rw[ahZ.1 hy];exact lft (hs.ok p x h1)
   cases p with
   |true=>exact⟨⟨by simp[bP],ajh (len h2 h3)⟩,hx,EX fun y hy=>hg.ok y (h3 y hy)⟩
   |false=>exact⟨⟨ajh (len h2 h3),by simp[bP]⟩,EX fun y hy=>hg.ok y (h3 y hy),hx⟩
end Go.Proofs.YtpmniabdmbmafaaGreatDoor

namespace Go.Proofs.YtpmniabdmbmafaaGreatDoor
open Go.Ab Tryz
def EY(n:TN):Prop:=(n.l.length<=1000∧∀q∈n.l,0<=q.2∧q.2<=4000)∧(np n.k=true->(0<=n.a∧n.a<=4000)∧0<=n.b∧n.b<=4000)
theorem EZ{l:List cn}{i:Nat}(h:i<l.length):(l.map bf).getD i .aY=.agg [.str l[i].1,i64 l[i].2]:=by simp[h,bf]
theorem RG{α β:Type}{f:α->β}{l:List α}{i:Nat}(h:i<l.length):(l.take i).map f++[f l[i]]=(l.take (i+1)).map f:=by
 rw[ah5 h,ail];rfl
theorem afA{n:TN}{d:Int}(h:np n.k=true):aw (iM d n)=.agg [i64 n.k,i64 (n.a+d),i64 (n.b+d),.sl (some 2) (n.l.map fun q=>bf (q.1,q.2+d))]:=by
 unfold iM;rw[h];simp[aw,mC,Function.comp_def]
theorem afB{n:TN}{d:Int}(h:np n.k=false):aw (iM d n)=.agg [i64 n.k,i64 n.a,i64 n.b,.sl (some 2) (n.l.map fun q=>bf (q.1,q.2+d))]:=by
 unfold iM;rw[h];simp[aw,mC,Function.comp_def]
theorem afC{ns gs:List TN}{d:Int}{i:Nat}(h:i<gs.length):List.map aw (ns++(gs.take i).map (iM d))++[aw (iM d gs[i])]=List.map aw (ns++(gs.take (i+1)).map (iM d)):=by
 rw[ah5 h];simp only[ail,aiS,aid,aiO]
theorem afD{G}(ns gs:List TN)(root g:Int)(hn:ns.length<=4000)(hg:gs.length<=4000)(hm:∀n∈gs,EY n):HP prog G 22 [bp ns root,bp gs g] (fun r=>r=.aA [.d (bp (aq ns gs) root),.d (i64 ns.length)]):=by
 unfold bp;refine gy func22 rfl (by decide +kernel) (by simp[ntmps22]) (aT fun E=>?_);simp only[go_sem];refine bF mixed E fun X=>?_;simp only[go_sem];refine⟨by omega,by decide +kernel,?_⟩;refine eP E [2] (.agg [.sl (some 4) (ns.map aw),i64 root]) rfl rfl ?_;simp only[go_sem];refine eP E [3] (.agg [.sl (some 4) (gs.map aw),i64 g]) rfl rfl ?_;simp only[go_sem]
 refine bK E (X:={ i:Nat // i<=gs.length }) (fun x=>[(2,.d (.ptr (.agg [.sl (some 4) (ns.map aw),i64 root]))),(3,.d (.ptr (.agg [.sl (some 4) (gs.map aw),i64 g]))),(4,.bx [4] 0),(6,.bx [6] 0),(7,.d (i64 ns.length)),(8,.d (i64 x.1))])
  (fun x=>[([4],.box [.d .ai,.d (i64 0)]),([6],.box [.vw [99] 0 (ns.length+x.1),.d (i64 root)]),([99],.arr (some 4) ((ns++(gs.take x.1).map (iM ns.length)).map aw))]) [4,6,99] (fun x=>gs.length-x.1) ⟨0,aie _⟩ (ar [([99],[15])]) ?_ ?_
 .simp only[go_sem];simp
 rintro⟨i,hi⟩ E0;refine bW E0 fun Q' hQ E'=>?_;simp only at hi ⊢;simp only[go_sem];refine aH E' ?_ ?_<;>intro h1<;>simp only[go_sem]
 .have ao:i<gs.length:=by omega
  have DS:=hm _ (ah2 ao);have cT:=DS.1.1;refine⟨by omega,?_⟩;rw[HD ao];simp only[go_sem];refine bS E' (fun gk=>?_) (fun g1=>?_)<;>simp only[go_sem]
  rotate_left
  refine bS E' (fun gk=>?_) (fun g2=>?_)<;>simp only[go_sem]
  rotate_left
  refine aH E' (fun gk=>?_) (fun g3=>?_)<;>simp only[go_sem]
  rotate_left
  have hk:np gs[i].k=false:=by simp[np,g1,g2,g3]
  have mE:=afB (d:=(ns.length:Int)) hk;generalize gs[i].a=na at mE ⊢;generalize gs[i].b=nb at mE ⊢
  rotate_left
  iterate 3
   have hk:np gs[i].k=true:=by rw[gk];rfl
   have h2k:=DS.2 hk;rw[aD ⟨by omega,by omega⟩,aD ⟨by omega,by omega⟩];have mE:=afA (d:=(ns.length:Int)) hk;generalize gs[i].a+(ns.length:Int)=na at mE ⊢;generalize gs[i].b+(ns.length:Int)=nb at mE ⊢
   rotate_left
  all_goals
   refine bK E' (X:={ j:Nat // j<=gs[i].l.length }) (fun x=>[(2,.d (.ptr (.agg [.sl (some 4) (ns.map aw),i64 root]))),(3,.d (.ptr (.agg [.sl (some 4) (gs.map aw),i64 g]))),(4,.bx [4] 0),(6,.bx [6] 0),(7,.d (i64 ns.length)),(8,.d (i64 i)),(9,.bx [9] 0),(10,.vw [98] 0 x.1),(11,.d (i64 x.1))])
    (fun x=>[([4],.box [.d .ai,.d (i64 0)]),([6],.box [.vw [99] 0 (ns.length+i),.d (i64 root)]),([99],.arr (some 4) ((ns++(gs.take i).map (iM ns.length)).map aw)),([9],.box [.d (i64 gs[i].k),.d (i64 na),.d (i64 nb),.d (.sl (some 2) (gs[i].l.map bf))]),([98],.arr (some 2) ((gs[i].l.take x.1).map fun q=>bf (q.1,q.2+ns.length)))]) [4,6,99,9,98] (fun x=>gs[i].l.length-x.1) ⟨0,aie _⟩ (ar [([98],[57])]) ?_ ?_
   .simp only[go_sem]
    all_goals rfl
   rintro⟨j,hj⟩ E1;refine bW E1 fun Q2 dv E2=>?_;simp only at hj ⊢;simp only[go_sem];refine aH E2 ?_ ?_<;>intro h2<;>simp only[go_sem]
   .have bG:j<gs[i].l.length:=by omega
    have hq:=DS.1.2 _ (ah2 bG);refine bF mixed E2 fun X=>?_;simp only[go_sem];refine⟨by omega,?_⟩;rw[EZ bG];simp only[go_sem];refine⟨by omega,?_⟩;rw[EZ bG];simp only[go_sem];refine⟨by omega,?_⟩;(try refine⟨by decide +kernel,?_⟩);rw[dv];simp only[go_sem];refine⟨⟨j+1,by omega⟩,by show gs[i].l.length-(j+1)<_;omega,ar [([98],[82])],?_⟩;simp only[go_sem];rw[aic (by simp;omega),aD ⟨by omega,by omega⟩,aD ⟨by omega,by omega⟩,<-RG bG]
    and_intros<;>first|rfl|trivial
   have h5:j=gs[i].l.length:=by omega
   subst h5;rw[dv,aij];simp only[go_sem];refine oV E' [98] (some 2) (gs[i].l.map fun q=>bf (q.1,q.2+ns.length)) rfl ?_;simp only[go_sem];refine⟨by omega,?_⟩;rw[hQ];simp only[go_sem];refine⟨⟨i+1,by omega⟩,by show gs.length-(i+1)<_;omega,ar [([99],[89])],?_⟩;simp only[go_sem];rw[aic (by simp;omega),aD ⟨by omega,by omega⟩,<-afC ao,mE]
   and_intros<;>first|rfl|trivial
 .have bJ:i=gs.length:=by omega
  subst bJ;rw[hQ];simp only[go_sem];refine⟨[([99],some 4,(ns++gs.map (iM ns.length)).map aw)],?_⟩;simp only[go_sem];rw[aic (by simp)];rfl
end Go.Proofs.YtpmniabdmbmafaaGreatDoor

