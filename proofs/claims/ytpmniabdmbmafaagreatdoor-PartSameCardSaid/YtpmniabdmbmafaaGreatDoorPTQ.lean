/-
  The document's solver: which gives way, which stand alone; sets put in place. (with the parts that follow it)
-/
import Derived.Test.YtpmniabdmbmafaaGreatDoorPTP
import Derived.Test.YtpmniabdmbmafaaGreatDoorPTM
import Derived.Test.YtpmniabdmbmafaaGreatDoorPTJ
set_option linter.all false
set_option maxHeartbeats 16000000
namespace Go.Proofs.YtpmniabdmbmafaaGreatDoor
open Go.Ab Tryz
def wD(ns:List TN)(root fx:Int):D:=.agg [.sl (some 4) (ns.map aK),i64 root,i64 fx,.unk,.unk,.unk,.unk,.unk,.unk]
theorem VX{G}(ns:List TN)(root fx x:Int)(hn:ns.length<=4000)(hx:bI ns x):HP prog G 122 [.ptr (wD ns root fx),i64 x] (fun r=>r=.d (.bool (kT fx ns x))):=by
 have ki:=hx.1;have jK:=hx.2;have hnd:=kp hx;unfold wD;refine cj func122 rfl (by decide +kernel) (by simp[ntmps122]) (aS fun E=>?_);simp only[go_sem];refine bz mixed E fun X=>?_;simp only[go_sem];refine zN X (by simp) rfl ?_;simp only[go_sem];refine⟨by omega,?_⟩;rw[hnd];simp only[go_sem];refine zx X ?_ ?_<;>intro h2<;>simp only[go_sem]
 .refine zN X (by simp) rfl ?_;simp only[go_sem];refine⟨by omega,?_⟩;rw[hnd];simp only[go_sem];refine zN X (by simp) rfl ?_;simp only[go_sem];(try refine⟨by decide +kernel,?_⟩);rw[kT,show decide (ah ns x=11)=true from decide_eq_true h2,ame]
 ·(try refine⟨by decide +kernel,?_⟩);rw[kT,show decide (ah ns x=11)=false from decide_eq_false h2,alQ]
theorem VY{G}(ns:List TN)(root fx:Int)(l:List Int)(hn:ns.length<=4000)(hl:l.length<=4000)(hk:∀x∈l,bI ns x):HP prog G 84 [.ptr (wD ns root fx),aL l] (fun r=>r=.d (.bool (lZ fx ns l))):=by
 have cG:=fun x hx=>VX (G:=G) ns root fx x hn hx;unfold aL lZ;refine cj func84 rfl (by decide +kernel) (by simp[ntmps84]) (aS fun E=>?_);simp only[go_sem]
 refine bC E (X:={ i:Nat // i<=l.length∧(l.take i).any (kT fx ns)=false }) (fun x=>[(0,.d (.ptr (wD ns root fx))),(1,.d (.sl none (l.map i64))),(5,.d (i64 x.1))])
  (fun _=>[]) [] (fun x=>l.length-x.1) ⟨0,ale _,by simp⟩ id ?_ ?_
 .simp only[go_sem]
  all_goals first|rfl|(and_intros<;>first|rfl|trivial)
 rintro⟨i,hi,ha⟩ E0;refine bK E0 fun Q' hQ E'=>?_;simp only at hi ⊢;simp only[go_sem];refine aI E' ?_ ?_<;>intro h1<;>simp only[go_sem]
 .have aq:i<l.length:=by omega
  have hx:=hk _ (ak2 aq);have ki:=hx.1;have jK:=hx.2;have bS:(l.map i64).getD i .aY=i64 l[i]:=fe aq;have hnd:=kp hx;refine⟨by omega,?_⟩;rw[bS];simp only[go_sem];refine bd E' (cG _ hx) rfl rfl (by simp) ?_;rintro _ rfl;simp only[go_sem];refine ck E' ?_ ?_<;>intro h2<;>simp only[go_sem]
  .rw[hQ];simp only[go_sem];rw[alG.2 ⟨_,ak2 aq,h2⟩]
  .rw[hQ];refine⟨⟨i+1,aq,rA aq ha h2⟩,by show l.length-(i+1)<l.length-i;omega,id,?_⟩;simp only[go_sem];rw[aD ⟨by omega,by omega⟩]
   and_intros<;>first|rfl|trivial
 .have de:i=l.length:=by omega
  subst de;rw[alk]at ha;rw[hQ];simp only[go_sem];rw[ha]
theorem VZ{G}(ns:List TN)(root fx:Int)(l:List Int)(hn:ns.length<=4000)(hl:l.length<=4000)(hk:∀x∈l,bI ns x):HP prog G 83 [.ptr (wD ns root fx),aL l] (fun r=>r=.d (i64 (du fx ns l))):=by
 have cG:=fun x hx=>VX (G:=G) ns root fx x hn hx;generalize hv:du fx ns l=v;unfold du at hv;unfold aL;refine cj func83 rfl (by decide +kernel) (by simp[ntmps83]) (aS fun E=>?_);simp only[go_sem];refine aI E ?_ ?_<;>intro h0<;>simp only[go_sem]
 .rw[if_pos (by omega)]at hv;rw[<-hv]
 rw[if_neg (by omega)]at hv;have D3:0<l.length:=by omega
 have hz:=hk _ (ak2 D3);have qF:=hz.1;have nY:=hz.2;have V0:(l.map i64).getD 0 .aY=i64 l[0]:=fe D3;have qH:=kp hz;rw[show l.getD 0 0=l[0] by simp[D3]]at hv;generalize hZ:(nd ns l[0].toNat).a=Z at hv
 refine bC E (X:={ i:Nat // i<=l.length∧(l.take i).all (fun x=>kT fx ns x&&decide ((nd ns x.toNat).a=Z))=true }) (fun x=>[(0,.d (.ptr (wD ns root fx))),(1,.d (.sl none (l.map i64))),(5,.d (i64 x.1))])
  (fun _=>[]) [] (fun x=>l.length-x.1) ⟨0,ale _,by simp⟩ id ?_ ?_
 .simp only[go_sem]
  all_goals first|rfl|(and_intros<;>first|rfl|trivial)
 rintro⟨i,hi,ha⟩ E0;refine bK E0 fun Q' hQ E'=>?_;simp only at hi ⊢;simp only[go_sem];refine aI E' ?_ ?_<;>intro h1<;>simp only[go_sem]
 .have aq:i<l.length:=by omega
  have hx:=hk _ (ak2 aq);have ki:=hx.1;have jK:=hx.2;have bS:(l.map i64).getD i .aY=i64 l[i]:=fe aq;have hnd:=kp hx;have bY:(kT fx ns l[i]&&decide ((nd ns l[i].toNat).a=Z))=false->l.all (fun x=>kT fx ns x&&decide ((nd ns x.toNat).a=Z))=false:=fun g=>anz.2 ⟨_,ak2 aq,by rw[g];simp⟩;refine bz mixed E' fun X=>?_;simp only[go_sem];refine⟨by omega,?_⟩;rw[bS];simp only[go_sem];refine dA X (cG _ hx) rfl rfl (by simp) ?_;simp only[go_sem];refine JE X ?_ ?_<;>intro h2<;>simp only[go_sem]
  ·(try refine⟨by decide +kernel,?_⟩);rw[bY (by rw[amQ];exact .inl (by simpa using h2)),if_neg (by simp)]at hv;rw[hQ];simp only[go_sem];rw[<-hv]
  .unfold wD;refine zN X (by simp) rfl ?_;simp only[go_sem];refine⟨by omega,?_⟩;rw[bS];simp only[go_sem];refine⟨by omega,?_⟩;rw[hnd];simp only[go_sem];refine zN X (by simp) rfl ?_;simp only[go_sem];refine⟨by omega,?_⟩;rw[V0];simp only[go_sem];refine⟨by omega,?_⟩;rw[qH];simp only[go_sem];(try refine⟨by decide +kernel,?_⟩);rw[hZ];refine aI E' ?_ ?_<;>intro h3<;>simp only[go_sem]
   .rw[bY (by rw[amQ];exact .inr (decide_eq_false (by simpa using h3))),if_neg (by simp)]at hv;rw[hQ];simp only[go_sem];rw[<-hv]
   .rw[hQ];refine⟨⟨i+1,aq,VI aq ha (by rw[ak7];exact⟨by simpa using h2,decide_eq_true (by simpa using h3)⟩)⟩,by show l.length-(i+1)<l.length-i;omega,id,?_⟩;simp only[go_sem];unfold wD;rw[aD ⟨by omega,by omega⟩]
    and_intros<;>first|rfl|trivial
 .have de:i=l.length:=by omega
  subst de;rw[alk]at ha;rw[if_pos ha]at hv;rw[hQ];simp only[go_sem];unfold wD;refine bz mixed E fun X=>?_;simp only[go_sem];refine zN X (by simp) rfl ?_;simp only[go_sem];refine⟨by omega,?_⟩;rw[V0];simp only[go_sem];refine⟨by omega,?_⟩;rw[qH];simp only[go_sem];(try refine⟨by decide +kernel,?_⟩);rw[hZ,<-hv]
def ew(L:List (List Int)):D:=if L=[]then .ao else .sl none (L.map aL)
theorem MD(s:List Int):∀L:List (List Int),bJ s L<=L.length
 |[]=>ali _
 |y::r=>by
   have:=MD s r;rw[bJ,List.length_cons];split<;>omega
theorem V1{s:List Int}:∀{L:List (List Int)} {i:Nat} (h:i<L.length),i<bJ s L->rp L[i] s=true
 |[],i,h,_=>absurd h (ami _)
 |y::r,i,h,hi=>by
   rw[bJ]at hi;split at hi
   .rename_i hy
    cases i with
    |zero=>exact hy
    |succ i=>exact V1 (L:=r) (by simpa using h) (by omega)
   .exact absurd hi (ami _)
theorem V2{s:List Int}:∀{L:List (List Int)} (h:bJ s L<L.length),¬rp L[bJ s L] s=true
 |[],h=>absurd h (ami _)
 |y::r,h=>by
   by_cases hy:rp y s=true
   .have e:bJ s (y::r)=bJ s r+1:=by rw[bJ,if_pos hy]
    have h':bJ s r<r.length:=by rw[e]at h;simpa using h
    have:=V2 h';simp only[e,List.getElem_cons_succ];exact this
   .have e:bJ s (y::r)=0:=by rw[bJ,if_neg hy]
    simp only[e,List.getElem_cons_zero];exact hy
theorem V3(L:List (List Int))(s:List Int):mY L s≠[]:=by
 unfold mY;split
 .rename_i h;intro e;rw[e]at h;exact absurd h.1 (ami _)
 .simp
theorem ajr(L:List (List Int))(s z:List Int):z∈mY L s↔z∈L∨z=s:=by
 unfold mY;split
 .rename_i h;refine⟨.inl,fun g=>g.elim id fun e=>?_⟩;rw[e,<-h.2,show L.getD (bJ s L) []=L[bJ s L]'h.1 by simp[h.1]];exact ak2 h.1
 .rw[ak1,alc];have hm:z∈L↔z∈L.take (bJ s L)∨z∈L.drop (bJ s L):=by rw[<-ak1,amY]
  rw[hm];constructor
  .rintro(h|rfl|h)
   .exact .inl (.inl h)
   .exact .inr rfl
   .exact .inl (.inr h)
  .rintro((h|h)|rfl)
   .exact .inl h
   .exact .inr (.inr h)
   .exact .inr (.inl rfl)
theorem ajs(L:List (List Int))(s:List Int):(mY L s).length<=L.length+1:=by
 have:=MD s L;unfold mY;split
 .omega
 .simp;omega
theorem ajt{G}(L:List (List Int))(s:List Int)(hl:L.length<=1000000)(hs:s.length<=1000000)(hk:∀x∈L,x.length<=1000000):HP prog G 85 [.sl none (L.map aL),aL s] (fun r=>r=.d (.sl none ((mY L s).map aL))):=by
 have cL:=fun x hx=>ajq (G:=G) x s hx hs;have cE:=fun x hx=>Fl (G:=G) x s hx;have oE:=MD s L;generalize hv:mY L s=v;unfold mY at hv;unfold aL at *
 refine fK func85 rfl (by decide +kernel) (by simp[ntmps85]) (aS fun E=>?_);simp only[go_sem]
 refine bC E (X:={ i:Nat // i<=bJ s L }) (fun x=>[(0,.d (.sl none (L.map fun l=>.sl none (l.map i64)))),(1,.d (.sl none (s.map i64))),(5,.d (i64 x.1))])
  (fun _=>[]) [] (fun x=>L.length-x.1) ⟨0,ale _⟩ id ?_ ?_
 .simp only[go_sem]
  all_goals first|rfl|(and_intros<;>first|rfl|trivial)
 rintro⟨i,hi⟩ E0;refine bK E0 fun Q' hQ E'=>?_;simp only at hi ⊢;simp only[go_sem];refine bH E' ?_ ?_<;>intro h1<;>simp only[go_sem]
 .have aq:i<L.length:=by omega
  have bS:(L.map fun l:List Int=>D.sl none (l.map i64)).getD i .aY=.sl none (L[i].map i64):=by simp[aq]
  refine⟨by omega,?_⟩;rw[bS];simp only[go_sem];refine bd E' (cL _ (hk _ (ak2 aq))) rfl rfl (by simp) ?_;rintro _ rfl;simp only[go_sem];refine ck E' ?_ ?_<;>intro h2<;>simp only[go_sem]
  .have rz:i<bJ s L:=by
    rcases alP i (bJ s L)with g|g
    .exact g
    .have e:i=bJ s L:=by omega
     subst e;exact absurd h2 (V2 aq)
   rw[hQ];refine⟨⟨i+1,rz⟩,by show L.length-(i+1)<L.length-i;omega,id,?_⟩;simp only[go_sem];rw[aD ⟨by omega,by omega⟩]
   and_intros<;>first|rfl|trivial
  .have rz:i=bJ s L:=by
    rcases alP i (bJ s L)with g|g
    .rw[V1 aq g]at h2;cases h2
    .omega
   subst rz;rw[hQ];simp only[go_sem];refine bH E (fun _=>?_) (fun g=>absurd (by omega) g);simp only[go_sem];refine⟨by omega,?_⟩;rw[bS];simp only[go_sem];have kj:L.getD (bJ s L) []=L[bJ s L]:=by simp[aq]
   refine bd E (cE _ (hk _ (ak2 aq))) rfl rfl (by simp) ?_;rintro _ rfl;simp only[go_sem];refine aI E ?_ ?_<;>intro h3<;>simp only[go_sem]
   .rw[if_pos ⟨aq,by rw[kj,h3]⟩]at hv;subst hv;refine⟨[],?_⟩;simp only[go_sem]
   .rw[if_neg (fun g=>h3 (by rw[<-kj];exact g.2))]at hv;subst hv;refine bz mixed E fun X=>?_;simp only[go_sem];obtain⟨F,hF⟩:∃F:List Int->D,F=fun l=>.sl none (l.map i64):=⟨_,rfl⟩
    rw[<-hF,show D.sl none (s.map i64)=F s by rw[hF]];have e1:List.take ((bJ s L)-0) (L.map F)=(L.take (bJ s L)).map F:=by rw[Nat.sub_zero,am0]
    have e2:List.take (L.length-(bJ s L)) (List.drop (bJ s L) (L.map F))=(L.drop (bJ s L)).map F:=by rw[ak5 (by simp),amT]
    have f1:((L.take (bJ s L)).map F).length=(bJ s L):=by simp;omega
    have f2:((L.drop (bJ s L)).map F).length=L.length-(bJ s L):=by simp
    have e3:List.take ((bJ s L)+1) ((L.take (bJ s L)).map F++[F s])=(L.take (bJ s L)).map F++[F s]:=ak5 (by rw[ak4,f1];simp);have e4:(L.take (bJ s L)).map F++[F s]++(L.drop (bJ s L)).map F=(L.take (bJ s L)++s::L.drop (bJ s L)).map F:=by simp
    have e5:(bJ s L)+1+(L.length-(bJ s L))=(L.take (bJ s L)++s::L.drop (bJ s L)).length:=by simp;omega
    rw[e1,e2,f1,f2,e3,e4];refine⟨⟨by omega,by omega⟩,by omega,by omega,⟨by omega,by omega,by omega⟩,by omega,by decide +kernel,?_⟩;rw[e5];refine⟨[([44],none,(L.take (bJ s L)++s::L.drop (bJ s L)).map F)],?_⟩;simp only[go_sem]
 .have rz:bJ s L=L.length:=by omega
  have de:i=L.length:=by omega
  subst de;rw[if_neg (by omega)]at hv;subst hv;rw[hQ];simp only[go_sem];refine bH E (fun g=>absurd g (by omega)) (fun _=>?_);simp only[go_sem];rw[<-rz];refine bz mixed E fun X=>?_;simp only[go_sem];obtain⟨F,hF⟩:∃F:List Int->D,F=fun l=>.sl none (l.map i64):=⟨_,rfl⟩
  rw[<-hF,show D.sl none (s.map i64)=F s by rw[hF]];have e1:List.take ((bJ s L)-0) (L.map F)=(L.take (bJ s L)).map F:=by rw[Nat.sub_zero,am0]
  have e2:List.take (L.length-(bJ s L)) (List.drop (bJ s L) (L.map F))=(L.drop (bJ s L)).map F:=by rw[ak5 (by simp),amT]
  have f1:((L.take (bJ s L)).map F).length=(bJ s L):=by simp;omega
  have f2:((L.drop (bJ s L)).map F).length=L.length-(bJ s L):=by simp
  have e3:List.take ((bJ s L)+1) ((L.take (bJ s L)).map F++[F s])=(L.take (bJ s L)).map F++[F s]:=ak5 (by rw[ak4,f1];simp);have e4:(L.take (bJ s L)).map F++[F s]++(L.drop (bJ s L)).map F=(L.take (bJ s L)++s::L.drop (bJ s L)).map F:=by simp
  have e5:(bJ s L)+1+(L.length-(bJ s L))=(L.take (bJ s L)++s::L.drop (bJ s L)).length:=by simp;omega
  rw[e1,e2,f1,f2,e3,e4];refine⟨⟨by omega,by omega⟩,by omega,by omega,⟨by omega,by omega,by omega⟩,by omega,by decide +kernel,?_⟩;rw[e5];refine⟨[([44],none,(L.take (bJ s L)++s::L.drop (bJ s L)).map F)],?_⟩;simp only[go_sem]
theorem ME{G}(L:List (List Int))(s:List Int)(hl:L.length<=1000000)(hs:s.length<=1000000)(hk:∀x∈L,x.length<=1000000):HP prog G 85 [ew L,aL s] (fun r=>r=.d (ew (mY L s))):=by
 have h:=ajt (G:=G) L s hl hs hk;have e:ew (mY L s)=.sl none ((mY L s).map aL):=by rw[ew,if_neg (V3 L s)]
 rw[e];by_cases hL:L=[]
 .subst hL;exact h.wk ⟨.ao _,.refl _,trivial⟩
 .rw[ew,if_neg hL];exact h
end Go.Proofs.YtpmniabdmbmafaaGreatDoor

namespace Go.Proofs.YtpmniabdmbmafaaGreatDoor
open Go.Ab
def MF(l:List Nat):Option (List D):=some (l.map nD)
def iz(bk:List (List Nat)):List (Option (List D)):=bk.map MF
def gC(a:Name)(ns:List TN)(root fx:Int)(w:SW):Ob:=.box [.d (.sl (some 4) (ns.map aK)),.d (i64 root),.d (i64 fx),.vw a 0 w.al.length,.va [2] 0 997,.vw [4] 0 w.be.length,.vw [5] 0 w.ab.length,.d (.bool w.mx),.d (.bool w.fl)]
def wP(h:Nat)(a:Name)(ns:List TN)(root fx:Int)(w:SW):List (Name×Ob) :=
 [([0],gC a ns root fx w),(a,.arr (some 2) (w.al.map fQ)),([2],.eA (bA h 0 (iz w.bk))),([4],.arr none (w.be.map ew)),([5],.arr none (w.ab.map ew))]
def wO(h:Nat)(a:Name)(ns:List TN)(root fx:Int)(w:SW):List (Name×Ob):=wP h a ns root fx w++cm h (iz w.bk) []
def dG(a a':Name)(h:Nat)(f:Nat->Name)(p:Name):Name:=if p=a then a' else match p with
 |[x,j]=>if x=h then f j else p
 |_=>p
theorem MG{h h':Nat}{f:Name->Name}(hf:∀j,f [h,j]=[h',j]):∀(xs:List (Option (List D))) (i:Nat),cg f (bA h i xs)=bA h' i xs
 |[],_=>rfl
 |none::r,i=>by rw[bA,cg,MG hf r (i+1)];rfl
 |some zs::r,i=>by
   rw[bA,cg,MG hf r (i+1)];simp only[AV.ren,hf];rfl
theorem jh{h:Nat}{xs:List (Option (List D))}{q:Name×Ob}:q∈cm h xs []↔∃j zs,xs[j]?=some (some zs)∧q=([h,j],.arr none zs):=by
 unfold cm;rw[alS,n3];simp only[alC]
structure u7(h:Nat)(a:Name):Prop where
 h:h≠0∧h≠2∧h≠4∧h≠5
 a:∃x,a=[x]∧x≠0∧x≠2∧x≠4∧x≠5
section
variable {h:Nat}{a:Name}{ns:List TN}{root fx:Int}{w:SW}
theorem jM(hn:u7 h a):((wO h a ns root fx w).map (·.1)).Nodup:=by
 obtain⟨x,rfl,h0,h2,h4,h5⟩:=hn.a;obtain⟨a1,a2⟩:=Gz h (iz w.bk) 0;unfold wO cm;rw[alS,alh,alZ];refine⟨?_,a1,fun p hp q hq e=>?_⟩
 .unfold wP;simp;omega
 .obtain⟨j,_,rfl⟩:=a2 _ hq;rw[e]at hp;simp[wP]at hp
theorem V4{α β:Type}[DecidableEq α]{z:β}:∀{l:List (α×β)},(l.map (·.1)).Nodup->∀q∈l,aw z l q.1=q.2
 |[],_,q,h=>by cases h
 |x::r,hn,q,h=>by
   rw[alf,alW]at hn;rw[kD];rcases alc.1 h with rfl|h
   .rw[if_pos rfl]
   .rw[if_neg (fun e=>hn.1 (by rw[<-e];exact ak6.2 ⟨q,h,rfl⟩))];exact V4 hn.2 q h
theorem uf{fr:List (Nat×AV)}{hp:List (Name×Ob)}{u:List Nat}(hn:(hp.map (·.1)).Nodup){q:Name×Ob}(h:q∈hp):(mk fr hp u).hp q.1=some q.2:=by
 rw[vu];exact V4 (l:=hp.map fun x=>(x.1,some x.2)) (by rw[sv];exact hn) (q.1,some q.2) (ak6.2 ⟨q,h,rfl⟩)
theorem AE{h':Nat}{a':Name}{f:Name->Name}(f0:f [0]=[0])(f2:f [2]=[2])(f4:f [4]=[4])(f5:f [5]=[5])(fa:f a=a')(fh:∀j,f [h,j]=[h',j]){q:Name×Ob}(hq:q∈wO h a ns root fx w) :
  (f q.1,q.2.ren f)∈wO h' a' ns root fx w:=by
 rcases ak1.1 hq with hq|hq
 .refine alm _ ?_;simp only[wP,alc,alv,or_false]at hq ⊢;obtain rfl|rfl|rfl|rfl|rfl:=hq
  .refine .inl ?_;rw[f0];simp[gC,Ob.ren,cg,AV.ren,fa,f2,f4,f5]
  .refine .inr (.inl ?_);rw[fa];rfl
  .refine .inr (.inr (.inl ?_));simp only[f2,Ob.ren,MG fh]
  .refine .inr (.inr (.inr (.inl ?_)));rw[f4];rfl
  .refine .inr (.inr (.inr (.inr ?_)));rw[f5];rfl
 .obtain⟨j,zs,h1,rfl⟩:=jh.1 hq;refine alB _ (jh.2 ⟨j,zs,h1,?_⟩);rw[fh];rfl
theorem ow{u:List Nat}(hu:([0,2,4,5,h].all fun x=>u.contains x)=true)(ha:b9 u a=true){q:Name×Ob}(hq:q∈wO h a ns root fx w):q.2.bn u=true∧b9 u q.1=true:=by
 simp only[List.all_cons,List.all_nil,ana,ak7]at hu;obtain⟨u0,u2,u4,u5,uh⟩:=hu;rcases ak1.1 hq with hq|hq
 .simp only[wP,alc,alv,or_false]at hq;obtain rfl|rfl|rfl|rfl|rfl:=hq
  .refine⟨?_,u0⟩;simp only[gC,Ob.bn,dz,AV.bn,ha];simp[b9,-List.contains_eq_mem,u2,u4,u5]
  .exact⟨rfl,ha⟩
  .exact⟨iq uh _ _,u2⟩
  .exact⟨rfl,u4⟩
  .exact⟨rfl,u5⟩
 .obtain⟨j,zs,_,rfl⟩:=jh.1 hq;exact⟨rfl,uh⟩
theorem D9{U:List Nat}{τ ρ:Name->Name}{s:St}{fr:List (Nat×AV)}{u:List Nat}(hn:u7 h a)(hf:oG τ u s fr)(hs:∀q∈wO h a ns root fx w,s.hp (τ q.1)=some (q.2.ren τ))(hρ:∀q∈wO h a ns root fx w,ρ (τ q.1)=q.1)
  (hu:([0,2,4,5,h].all fun x=>u.contains x)=true) (ha:b9 u a=true) (hU:(U.all fun x=>u.contains x)=true) (ag:∀q∈wO h a ns root fx w,b9 U q.1=true->τ q.1=q.1):cw U τ s fr (wO h a ns root fx w) u :=
 ⟨hf,uK fun q hq=>⟨hs q hq,ow hu ha hq⟩,sw (jM hn) hρ,hU,tv ag⟩
theorem l9{p:Name}{o:Ob}(hq:(p,o)∈wO h a ns root fx w):p=[0]∨p=a∨p=[2]∨p=[4]∨p=[5]∨∃j,p=[h,j]:=by
 rcases ak1.1 hq with hq|hq
 .simp only[wP,alc,alv,or_false,amd]at hq;rcases hq with⟨rfl,_⟩|⟨rfl,_⟩|⟨rfl,_⟩|⟨rfl,_⟩|⟨rfl,_⟩<;>simp
 .obtain⟨j,zs,_,e⟩:=jh.1 hq;simp only[amd]at e;exact .inr (.inr (.inr (.inr (.inr ⟨j,e.1⟩))))
end
def sW:Name->Name:=dG [1] [11] 202 fun j=>[402,j]
def tB(d:Nat):Name->Name:=dG [11] [d,6] 402 fun j=>[d,302,j]
def rB(d:Nat):Name->Name
 |[x,6]=>if x=d then[11]else[x,6]
 |[x,302,j]=>if x=d then[402,j]else[x,302,j]
 |p=>p
section
variable {ns:List TN}{root fx:Int}{w w2:SW}
theorem ng:u7 202 [1]:=⟨by decide,1,rfl,by decide⟩
theorem sF:u7 302 [6]:=⟨by decide,6,rfl,by decide⟩
theorem jN:u7 402 [11]:=⟨by decide,11,rfl,by decide⟩
theorem HA{fr:List (Nat×AV)}{u cu:List Nat}(hu:([0,2,4,5,202].all fun x=>cu.contains x)=true)(ha:b9 cu [1]=true):mB sW cu (mk fr (wO 402 [11] ns root fx w) u) (wO 202 [1] ns root fx w) :=
 Lg (uK fun q hq=>⟨uf (jM jN) (AE (f:=sW) (h':=402) (a':=[11]) rfl rfl rfl rfl rfl (fun _=>rfl) hq),ow hu ha hq⟩)
theorem HC:kh sW (wO 202 [1] ns root fx w):=sw (ρ:=dG [11] [1] 402 fun j=>[202,j]) (jM ng) fun q hq=>by
 rcases l9 (o:=q.2) hq with e|e|e|e|e|⟨j,e⟩<;>rw[e]<;>rfl
theorem HD(h1:w.be.length=w2.be.length)(h2:w.ab.length=w2.ab.length)(h3:w.bk.length=w2.bk.length):lg (wO 202 [1] ns root fx w) (wO 302 [6] ns root fx w2):=by
 refine Gv fun q hq o ho=>?_;have ho:(mk [] (wO 202 [1] ns root fx w) []).hp q.1=some o:=by rw[vu];exact ho
 rcases ak1.1 hq with hq|hq
 .have hk:∀p o',(p,o')∈wP 202 [1] ns root fx w->(mk [] (wO 202 [1] ns root fx w) []).hp p=some o':=fun p o' hm=>uf (q:=(p,o')) (jM ng) (alm _ hm);simp only[wP,alc,alv,or_false]at hq;obtain rfl|rfl|rfl|rfl|rfl:=hq
  .show Ob.like o (gC [6] ns root fx w2);rw[hk [0] (gC [1] ns root fx w) (by simp[wP])]at ho;cases ho;exact rfl
  .exfalso
   have:(mk [] (wO 202 [1] ns root fx w) []).hp [6]=none:=by
    rw[vu];refine qs ?_;rw[sv];intro hm;obtain⟨x,hx,e⟩:=ak6.1 hm;rcases l9 (o:=x.2) hx with g|g|g|g|g|⟨j,g⟩<;>rw[g]at e<;>simp at e
   rw[this]at ho;cases ho
  .show Ob.like o (.eA (bA 302 0 (iz w2.bk)));rw[hk [2] (.eA (bA 202 0 (iz w.bk))) (by simp[wP])]at ho;cases ho;exact⟨rfl,by simp[oV,iz,h3]⟩
  .show Ob.like o (.arr none (w2.be.map ew));rw[hk [4] (.arr none (w.be.map ew)) (by simp[wP])]at ho;cases ho;exact⟨⟨rfl,rfl⟩,by simp[h1]⟩
  .show Ob.like o (.arr none (w2.ab.map ew));rw[hk [5] (.arr none (w.ab.map ew)) (by simp[wP])]at ho;cases ho;exact⟨⟨rfl,rfl⟩,by simp[h2]⟩
 .exfalso;obtain⟨j,zs,_,rfl⟩:=jh.1 hq
  have:(mk [] (wO 202 [1] ns root fx w) []).hp [302,j]=none:=by
   rw[vu];refine qs ?_;rw[sv];intro hm;obtain⟨x,hx,e⟩:=ak6.1 hm;rcases l9 (o:=x.2) hx with g|g|g|g|g|⟨k,g⟩<;>rw[g]at e<;>simp at e
  rw[this]at ho;cases ho
theorem AF{d:Nat}{p:Name}(h:p=[0]∨p=[6]∨p=[2]∨p=[4]∨p=[5]∨∃j,p=[302,j]):dc sW d (wO 202 [1] ns root fx w) p=dG [6] [d,6] 302 (fun j=>[d,302,j]) p:=by
 unfold dc;have aU:∀p,(∃o,(p,o)∈wP 202 [1] ns root fx w)->((wO 202 [1] ns root fx w).any fun q=>q.1 == p)=true:=fun p ⟨o,ho⟩=>alG.2 ⟨(p,o),alm _ ho,by simp⟩;have w7:∀p,(∀o,(p,o)∉wO 202 [1] ns root fx w)->((wO 202 [1] ns root fx w).any fun q=>q.1 == p)=false:=fun p hp=>ama.2 fun x hx e=>hp x.2 (by rw[beq_iff_eq]at e;rw[<-e];exact hx);obtain rfl|rfl|rfl|rfl|rfl|⟨j,rfl⟩:=h
 .rw[aU [0] ⟨_,by simp[wP];rfl⟩];rfl
 .rw[w7 [6] fun o ho=>by rcases l9 ho with g|g|g|g|g|⟨k,g⟩<;>simp at g];rfl
 .rw[aU [2] ⟨_,by simp[wP];rfl⟩];rfl
 .rw[aU [4] ⟨_,by simp[wP];rfl⟩];rfl
 .rw[aU [5] ⟨_,by simp[wP];rfl⟩];rfl
 .rw[w7 [302,j] fun o ho=>by rcases l9 ho with g|g|g|g|g|⟨k,g⟩<;>simp at g];rfl
end
end Go.Proofs.YtpmniabdmbmafaaGreatDoor

namespace Go.Proofs.YtpmniabdmbmafaaGreatDoor
open Go.Ab
def kB(d:Nat):Name->Name:=dG [6] [d,6] 302 fun j=>[d,302,j]
def wA(d:Nat)(ns:List TN)(root fx:Int)(w:SW):List (Name×Ob):=(wO 302 [6] ns root fx w).map fun x=>(kB d x.1,x.2.ren (kB d))
def iB:Name->Name
 |[_,6]=>[6]
 |[_,302,j]=>[302,j]
 |p=>p
theorem V5{f g:Name->Name}:∀{l:List Name},l.Nodup->(∀p∈l,g (f p)=p)->(l.map f).Nodup
 |[],_,_=>by simp
 |p::r,hn,hg=>by
   rw[alW]at hn;rw[alf,alW];refine⟨fun hm=>?_,V5 hn.2 fun x hx=>hg x (ald _ hx)⟩;obtain⟨x,hx,e⟩:=ak6.1 hm;have h1:=hg x (ald _ hx);rw[e,hg p alb]at h1;exact hn.1 (h1▸hx)
section
variable {ns:List TN}{root fx:Int}{w w2:SW}{d:Nat}
theorem aju:((wA d ns root fx w).map (·.1)).Nodup:=by
 unfold wA;rw[alD,show((fun x:Name×Ob=>x.1) ∘ fun x=>(kB d x.1,x.2.ren (kB d)))=(kB d) ∘ (fun x:Name×Ob=>x.1)from rfl,<-alD];refine V5 (g:=iB) (jM sF) fun p hp=>?_;obtain⟨x,hx,rfl⟩:=ak6.1 hp;rcases l9 (o:=x.2) hx with e|e|e|e|e|⟨j,e⟩<;>rw[e]<;>rfl
theorem ajv{f g:Name->Name}{h:Nat}{a:Name}(f2:f [2]=g [2])(f4:f [4]=g [4])(f5:f [5]=g [5])(fa:f a=g a)(fh:∀j,f [h,j]=g [h,j]){q:Name×Ob}(hq:q∈wO h a ns root fx w):q.2.ren f=q.2.ren g:=by
 have hv:∀(xs:List (Option (List D))) (i:Nat),cg f (bA h i xs)=cg g (bA h i xs):=by
  intro xs
  induction xs with
  |nil=>intro i;rfl
  |cons o r ih=>intro i;cases o<;>simp only[bA,cg,ih,AV.ren,fh]
 rcases ak1.1 hq with hq|hq
 .simp only[wP,alc,alv,or_false]at hq;obtain rfl|rfl|rfl|rfl|rfl:=hq
  .simp[gC,Ob.ren,cg,AV.ren,f2,f4,f5,fa]
  .rfl
  .simp only[Ob.ren,hv]
  .rfl
  .rfl
 .obtain⟨j,zs,_,rfl⟩:=jh.1 hq;rfl
theorem HE(fr:List (Nat×AV))(u:List Nat)(r:AV)(hr:r.ren (dc sW d (wO 202 [1] ns root fx w))=r):iX (mk fr (wO 402 [11] ns root fx w) u) sW d (wO 202 [1] ns root fx w) (wO 302 [6] ns root fx w2) r=mk (js fr d r) (wA d ns root fx w2) (d::u):=by
 have hk:∀x∈wO 302 [6] ns root fx w2,dc sW d (wO 202 [1] ns root fx w) x.1=kB d x.1:=fun x hx=>AF (l9 (o:=x.2) hx)
 have hm:((wO 302 [6] ns root fx w2).map fun x=>(dc sW d (wO 202 [1] ns root fx w) x.1,some (x.2.ren (dc sW d (wO 202 [1] ns root fx w)))))=(wA d ns root fx w2).map fun x=>(x.1,some x.2):=by
  unfold wA;rw[alD];refine alI fun x hx=>?_;rw[hk x hx,ajv (g:=kB d) (AF (.inr (.inr (.inl rfl)))) (AF (.inr (.inr (.inr (.inl rfl))))) (AF (.inr (.inr (.inr (.inr (.inl rfl)))))) (AF (.inr (.inl rfl))) (fun j=>AF (.inr (.inr (.inr (.inr (.inr ⟨j,rfl⟩)))))) hx];rfl
 have hn:∀q:Name,aw ((mk fr (wO 402 [11] ns root fx w) u).hp q) ((wO 202 [1] ns root fx w).map fun x=>(sW x.1,(none:Option Ob))) q=none:=fun q=>by
  by_cases hq:q∈(wO 402 [11] ns root fx w).map (·.1)
  .have jJ:q∈((wO 202 [1] ns root fx w).map fun x=>(sW x.1,x.2)).map (·.1):=by
    obtain⟨x,hx,rfl⟩:=ak6.1 hq;have:=AE (f:=dG [11] [1] 402 fun j=>[202,j]) (h':=202) (a':=[1]) rfl rfl rfl rfl rfl (fun _=>rfl) hx;rw[alD];refine ak6.2 ⟨_,this,?_⟩;show sW (dG [11] [1] 402 (fun j=>[202,j]) x.1)=x.1;rcases l9 (o:=x.2) hx with e|e|e|e|e|⟨j,e⟩<;>rw[e]<;>rfl
   have:=Lc (z:=(mk fr (wO 402 [11] ns root fx w) u).hp q) jJ;rw[alD]at this;exact this
  .have h1:(mk fr (wO 402 [11] ns root fx w) u).hp q=none:=by rw[vu];exact qs (by rw[sv];exact hq)
   rw[h1];refine qs fun g=>hq ?_;rw[alD]at g;obtain⟨x,hx,rfl⟩:=ak6.1 g;have:=AE (f:=sW) (h':=402) (a':=[11]) rfl rfl rfl rfl rfl (fun _=>rfl) hx;exact ak6.2 ⟨_,this,rfl⟩
 unfold iX;rw[hr,hm];unfold mk;congr 1
 .funext j;rw[vJ];rfl
 .funext q;have:=hn q;unfold mk at this;simp only at this ⊢;rw[this]
theorem HF{U:List Nat}{jY fr:List (Nat×AV)}{u0 u:List Nat}(hf:oG (tB d) u (mk jY (wA d ns root fx w) u0) fr)(hu:([0,2,4,5,402].all fun x=>u.contains x)=true)(ha:b9 u [11]=true)(hU:(U.all fun x=>u.contains x)=true)
  (lj:(U.contains 402||U.contains 11)=false):cw U (tB d) (mk jY (wA d ns root fx w) u0) fr (wO 402 [11] ns root fx w) u:=by
 have hk:∀q∈wO 402 [11] ns root fx w,(tB d q.1,q.2.ren (tB d))∈wA d ns root fx w:=fun q hq=>by
  have h1:=AE (f:=dG [11] [6] 402 fun j=>[302,j]) (h':=302) (a':=[6]) rfl rfl rfl rfl rfl (fun _=>rfl) hq;refine ak6.2 ⟨_,h1,?_⟩
  have hv:∀(xs:List (Option (List D))) (i:Nat),cg (kB d) (cg (dG [11] [6] 402 fun j=>[302,j]) (bA 402 i xs))=cg (tB d) (bA 402 i xs):=by
   intro xs
   induction xs with
   |nil=>intro i;rfl
   |cons o r ih=>intro i;cases o<;>(simp only[bA,cg,ih];rfl)
  rcases ak1.1 hq with hq|hq
  .simp only[wP,alc,alv,or_false]at hq;obtain rfl|rfl|rfl|rfl|rfl:=hq
   .rfl
   .rfl
   .simp only[Ob.ren,hv];rfl
   .rfl
   .rfl
  .obtain⟨j,zs,_,rfl⟩:=jh.1 hq;rfl
 refine D9 (ρ:=rB d) jN hf (fun q hq=>uf aju (hk q hq)) (fun q hq=>?_) hu ha hU fun q hq hn=>?_
 .rcases l9 (o:=q.2) hq with e|e|e|e|e|⟨j,e⟩<;>rw[e]
  .rfl
  .show rB d [d,6]=[11]
   simp[rB]
  .rfl
  .rfl
  .rfl
  .show rB d [d,302,j]=[402,j]
   simp[rB]
 .rw[al0]at lj;rcases l9 (o:=q.2) hq with e|e|e|e|e|⟨j,e⟩<;>rw[e]at hn ⊢
  .rfl
  .have:U.contains 11=true:=hn;rw[lj.2]at this;cases this
  .rfl
  .rfl
  .rfl
  .have:U.contains 402=true:=hn;rw[lj.1]at this;cases this
theorem HG{U:List Nat}{h h' x x':Nat}{jY fr:List (Nat×AV)}{u0 u:List Nat}(hn:u7 h [x])(iH:u7 h' [x'])(hxh:(h,x)=(202,1)∨(h,x)=(402,11))(akO:(h',x')=(302,6)∨(h',x')=(402,11))(hf:oG (dG [x'] [x] h' fun j=>[h,j]) u (mk jY (wO h [x] ns root fx w) u0) fr)
  (hu:([0,2,4,5,h'].all fun y=>u.contains y)=true) (ha:b9 u [x']=true) (hU:(U.all fun y=>u.contains y)=true) (lj:(U.contains h'||U.contains x')=false):cw U (dG [x'] [x] h' fun j=>[h,j]) (mk jY (wO h [x] ns root fx w) u0) fr (wO h' [x'] ns root fx w) u:=by
 have t0:∀y,y=0∨y=2∨y=4∨y=5->dG [x'] [x] h' (fun j=>[h,j]) [y]=[y]:=fun y hy=>by
  unfold dG;rw[if_neg];intro e;rw[al3]at e;obtain⟨z,hz,h0⟩:=iH.a;rw[al3]at hz;omega
 have tx:dG [x'] [x] h' (fun j=>[h,j]) [x']=[x]:=by unfold dG;rw[if_pos rfl]
 have th:∀j,dG [x'] [x] h' (fun j=>[h,j]) [h',j]=[h,j]:=fun j=>by simp[dG]
 refine D9 (ρ:=dG [x] [x'] h fun j=>[h',j]) iH hf (fun q hq=>uf (jM hn) (AE (t0 0 (by simp)) (t0 2 (by simp)) (t0 4 (by simp)) (t0 5 (by simp)) tx th hq)) (fun q hq=>?_) hu ha hU fun q hq hm=>?_
 .have r0:∀y,y=0∨y=2∨y=4∨y=5->dG [x] [x'] h (fun j=>[h',j]) [y]=[y]:=fun y hy=>by
   unfold dG;rw[if_neg];intro e;rw[al3]at e;obtain⟨z,hz,h0⟩:=hn.a;rw[al3]at hz;omega
  rcases l9 (o:=q.2) hq with e|e|e|e|e|⟨j,e⟩<;>rw[e]
  .rw[t0 0 (by simp),r0 0 (by simp)]
  .rw[tx];simp[dG]
  .rw[t0 2 (by simp),r0 2 (by simp)]
  .rw[t0 4 (by simp),r0 4 (by simp)]
  .rw[t0 5 (by simp),r0 5 (by simp)]
  .rw[th];simp[dG]
 .rw[al0]at lj;rcases l9 (o:=q.2) hq with e|e|e|e|e|⟨j,e⟩<;>rw[e]at hm ⊢
  .exact t0 0 (by simp)
  .have:U.contains x'=true:=hm;rw[lj.2]at this;cases this
  .exact t0 2 (by simp)
  .exact t0 4 (by simp)
  .exact t0 5 (by simp)
  .have:U.contains h'=true:=hm;rw[lj.1]at this;cases this
end
end Go.Proofs.YtpmniabdmbmafaaGreatDoor

namespace Go.Proofs.YtpmniabdmbmafaaGreatDoor
open Go.Ab
def pJ(k ax px:Nat)(ns:List TN)(root fx:Int)(w:SW)(ys:List D):List (Name×Ob) :=
 [([0],gC [ax] ns root fx w),([ax],.arr (some 2) (w.al.map fQ)),([2],.eA ((bA 202 0 ((iz w.bk).set k none)).set k (.vw [px] 0 ys.length))),([4],.arr none (w.be.map ew)),([5],.arr none (w.ab.map ew)),([px],.arr none ys)]
def wQ(k ax px:Nat)(ns:List TN)(root fx:Int)(w:SW)(ys:List D):List (Name×Ob):=pJ k ax px ns root fx w ys++cm 202 ((iz w.bk).set k none) []
theorem V6{α β:Type}{f:α->β}(hf:∀a b,f a=f b->a=b):∀{l:List α},l.Nodup->(l.map f).Nodup
 |[],_=>by simp
 |x::r,h=>by
   rw[alW]at h;rw[alf,alW];refine⟨fun hm=>?_,V6 hf h.2⟩;obtain⟨y,hy,e⟩:=ak6.1 hm;exact h.1 (hf _ _ e▸hy)
section
variable {k ax px:Nat}{ns:List TN}{root fx:Int}{w:SW}{ys:List D}
theorem HI(hd:[0,ax,2,4,5,px].Nodup):((wQ k ax px ns root fx w ys).map (·.1)).Nodup:=by
 obtain⟨a1,a2⟩:=Gz 202 ((iz w.bk).set k none) 0;unfold wQ cm;rw[alS,alh,alZ];refine⟨?_,a1,fun p hp q hq e=>?_⟩
 .have:=V6 (f:=fun x:Nat=>[x]) (fun a b e=>by simpa using e) hd;exact this
 .obtain⟨j,_,rfl⟩:=a2 _ hq;rw[e]at hp;simp[pJ]at hp
theorem MH{u:List Nat}(hu:([0,2,4,5,202,ax,px].all fun x=>u.contains x)=true){q:Name×Ob}(hq:q∈wQ k ax px ns root fx w ys):q.2.bn u=true∧b9 u q.1=true:=by
 simp only[List.all_cons,List.all_nil,ana,ak7]at hu;obtain⟨u0,u2,u4,u5,uh,ua,up⟩:=hu;rcases ak1.1 hq with hq|hq
 .simp only[pJ,alc,alv,or_false]at hq;obtain rfl|rfl|rfl|rfl|rfl|rfl:=hq
  .refine⟨?_,u0⟩;simp[gC,Ob.bn,dz,AV.bn,b9,-List.contains_eq_mem,u2,u4,u5,ua]
  .exact⟨rfl,ua⟩
  .exact⟨Lh (iq uh _ _) up,u2⟩
  .exact⟨rfl,u4⟩
  .exact⟨rfl,u5⟩
  .exact⟨rfl,up⟩
 .obtain⟨j,zs,_,rfl⟩:=jh.1 hq;exact⟨rfl,uh⟩
theorem qy{U:List Nat}{jY fr:List (Nat×AV)}{u:List Nat}{hp:List (Name×Ob)}(hf:oG id u (mk jY hp u) fr)(hn:(hp.map (·.1)).Nodup)(hi:∀q∈hp,q.2.bn u=true∧b9 u q.1=true)(hU:(U.all fun x=>u.contains x)=true):cw U id (mk jY hp u) fr hp u :=
 ⟨hf,uK fun q hq=>⟨by rw[Ob.mE id fun _=>rfl];exact uf hn hq,hi q hq⟩,sw (ρ:=id) hn fun _ _=>rfl,hU,tv fun _ _ _=>rfl⟩
theorem ajw{jY fr:List (Nat×AV)}{u0 u U:List Nat}(hk:(iz w.bk)[k]?=some (some ys))(hf:oG (ak [([99],[202,k])]) u (mk jY (wO 202 [1] ns root fx w) u0) fr)(hu:([0,2,4,5,202,1,99].all fun x=>u.contains x)=true)(hU:(U.all fun x=>u.contains x)=true)(hU9:U.contains 99=false) :
  cw U (ak [([99],[202,k])]) (mk jY (wO 202 [1] ns root fx w) u0) fr (wQ k 1 99 ns root fx w ys) u:=by
 have ht:∀p:Name,p≠[99]->ak [([99],[202,k])] p=p:=fun p hp=>by simp[ak,aw,hp]
 have ho:=Li (h:=202) (p:=[99]) (τ:=ak [([99],[202,k])]) hk (by simp[ak,aw]) (fun j=>by simp[ak,aw])
 have hm:∀q∈wQ k 1 99 ns root fx w ys,(ak [([99],[202,k])] q.1,q.2.ren (ak [([99],[202,k])]))∈wO 202 [1] ns root fx w∧(q.1=[99]∨q.1≠[99]∧q.1≠[202,k]):=fun q hq=>by
  rcases ak1.1 hq with hq|hq
  .simp only[pJ,alc,alv,or_false]at hq;obtain rfl|rfl|rfl|rfl|rfl|rfl:=hq
   .refine⟨alm _ ?_,by simp⟩;simp[wP,gC,Ob.ren,cg,AV.ren,ak,aw]
   .refine⟨alm _ ?_,by simp⟩;simp[wP,Ob.ren,ak,aw]
   .refine⟨alm _ ?_,by simp⟩;simp only[Ob.ren,ho];simp[wP,ak,aw]
   .refine⟨alm _ ?_,by simp⟩;simp[wP,Ob.ren,ak,aw]
   .refine⟨alm _ ?_,by simp⟩;simp[wP,Ob.ren,ak,aw]
   .refine⟨alB _ (jh.2 ⟨k,ys,hk,?_⟩),.inl rfl⟩;simp[Ob.ren,ak,aw]
  .obtain⟨j,zs,h1,rfl⟩:=jh.1 hq;obtain⟨aB,h1⟩:=Lj h1;refine⟨alB _ (jh.2 ⟨j,zs,h1,?_⟩),.inr ⟨by simp,by simp[aB]⟩⟩;simp[Ob.ren,ak,aw]
 refine⟨hf,uK fun q hq=>⟨uf (jM ng) (hm q hq).1,MH hu hq⟩,sw (ρ:=ak [([202,k],[99])]) (HI (by decide)) fun q hq=>?_,hU,tv fun q hq hn=>?_⟩
 .rcases(hm q hq).2 with e|⟨e1,e2⟩
  .rw[e];simp[ak,aw]
  .rw[ht _ e1];simp[ak,aw,e2]
 .rcases(hm q hq).2 with e|⟨e1,e2⟩
  .rw[e]at hn;have:U.contains 99=true:=hn;rw[hU9]at this;cases this
  .exact ht _ e1
def nh(k ax px:Nat)(p:Name):Name:=if p=[302,k]then[px]else dG [6] [ax] 302 (fun j=>[202,j]) p
def AG(k ax px:Nat)(p:Name):Name:=if p=[px]then[302,k]else dG [ax] [6] 202 (fun j=>[302,j]) p
theorem V7{s:St}{fr:List (Nat×AV)}{u U:List Nat}(hd:[0,ax,2,4,5,px].Nodup)(hk:(iz w.bk)[k]?=some (some ys))(hs:∀q∈wQ k ax px ns root fx w ys,s.hp q.1=some q.2)(hf:oG (nh k ax px) u s fr)(hu:([0,2,4,5,302].all fun x=>u.contains x)=true)(ha:b9 u [6]=true)(hU:(U.all fun x=>u.contains x)=true)(lj:(U.contains 302||U.contains 6)=false) :
  cw U (nh k ax px) s fr (wO 302 [6] ns root fx w) u:=by
 have t1:∀y,y≠6->nh k ax px [y]=[y]:=fun y hy=>by simp[nh,dG,hy]
 have t6:nh k ax px [6]=[ax]:=by simp[nh,dG]
 have tk:nh k ax px [302,k]=[px]:=by simp[nh]
 have tj:∀j,j≠k->nh k ax px [302,j]=[202,j]:=fun j hj=>by simp[nh,dG,hj]
 have hp:cg (nh k ax px) (bA 302 0 (iz w.bk))=(bA 202 0 ((iz w.bk).set k none)).set k (.vw [px] 0 ys.length):=by
  apply amg;intro i;rw[oF,r9,alC];have hlt:k<(iz w.bk).length:=(akY.1 hk).1;by_cases e:i=k
  .subst e;rw[alA (by rw[oV,alX];exact hlt),hk];simp[AV.ren,tk]
  .rw[alu (fun g=>e g.symm),r9,alu (fun g=>e g.symm),alC]
   cases (iz w.bk)[i]? with
   |none=>rfl
   |some o=>cases o<;>simp[AV.ren,tj i e]
 have dP:=hd;simp only[alW,alc,not_or,alv,not_false_eq_true,anx,and_true]at dP;refine D9 (ρ:=AG k ax px) sF hf (fun q hq=>hs (nh k ax px q.1,q.2.ren (nh k ax px)) ?_) (fun q hq=>?_) hu ha hU fun q hq hn=>?_
 .show(nh k ax px q.1,q.2.ren (nh k ax px))∈wQ k ax px ns root fx w ys;rcases ak1.1 hq with hq|hq
  .refine alm _ ?_;simp only[wP,alc,alv,or_false]at hq;obtain rfl|rfl|rfl|rfl|rfl:=hq
   .rw[t1 0 (by decide)];simp[pJ,gC,Ob.ren,cg,AV.ren,t6,t1]
   .rw[t6];simp[pJ,Ob.ren]
   .rw[t1 2 (by decide)];simp only[Ob.ren,hp];simp[pJ]
   .rw[t1 4 (by decide)];simp[pJ,Ob.ren]
   .rw[t1 5 (by decide)];simp[pJ,Ob.ren]
  .obtain⟨j,zs,h1,rfl⟩:=jh.1 hq;by_cases e:j=k
   .subst e;rw[hk]at h1;cases h1;rw[tk];exact alm _ (by simp[pJ,Ob.ren])
   .rw[tj j e];exact alB _ (jh.2 ⟨j,zs,by rw[alu fun g=>e g.symm];exact h1,rfl⟩)
 .have i1:∀y,y≠ax->y≠px->AG k ax px [y]=[y]:=fun y h1 h2=>by simp[AG,dG,h1,h2]
  rcases l9 (o:=q.2) hq with e|e|e|e|e|⟨j,e⟩<;>rw[e]
  .rw[t1 0 (by decide),i1 0 (by omega) (by omega)]
  .rw[t6];simp only[AG,dG,al3,and_true,if_true];rw[if_neg (by omega)]
  .rw[t1 2 (by decide),i1 2 (by omega) (by omega)]
  .rw[t1 4 (by decide),i1 4 (by omega) (by omega)]
  .rw[t1 5 (by decide),i1 5 (by omega) (by omega)]
  .by_cases ej:j=k
   .rw[ej,tk];simp[AG]
   .rw[tj j ej];simp[AG,dG]
 .rw[al0]at lj;rcases l9 (o:=q.2) hq with e|e|e|e|e|⟨j,e⟩<;>rw[e]at hn ⊢
  .exact t1 0 (by decide)
  .have:U.contains 6=true:=hn;rw[lj.2]at this;cases this
  .exact t1 2 (by decide)
  .exact t1 4 (by decide)
  .exact t1 5 (by decide)
  .have:U.contains 302=true:=hn;rw[lj.1]at this;cases this
end
end Go.Proofs.YtpmniabdmbmafaaGreatDoor

namespace Go.Proofs.YtpmniabdmbmafaaGreatDoor
open Go.Ab Tryz
structure u9(w:SW):Prop where
 len:w.bk.length=997
 le:∀b,b<997->(w.bk.getD b []).length<=w.al.length
 mem:∀b,b<997->∀i,i∈w.bk.getD b []↔i<w.al.length∧kr (w.al.getD i default)=b
theorem MI{l:List SQ}{i:Nat}(h:i<l.length):(l.map fQ).getD i .aY=.agg [aL l[i].1,aL l[i].2]:=by simp[h,fQ]
theorem V8{w:SW}{b:Nat}(h:b<w.bk.length):(iz w.bk)[b]?=some (some ((w.bk.getD b []).map nD)):=by
 unfold iz;simp[h,MF]
theorem ajx{U:List Nat}{jY fr:List (Nat×AV)}{u:List Nat}{hp ae:List (Name×Ob)}(he:ae=hp)(hf:oG id u (mk jY ae u) fr)(hn:(hp.map (·.1)).Nodup)(hi:∀q∈hp,q.2.bn u=true∧b9 u q.1=true)(hU:(U.all fun x=>u.contains x)=true):cw U id (mk jY ae u) fr hp u:=by
 subst he;exact qy hf hn hi hU
theorem ajy{l:List Nat}{i:Nat}(h:i<l.length):(l.map nD).getD i .aY=i64 (l[i]:Nat):=by simp[h,nD]
theorem MJ{G}(ns:List TN)(root fx:Int)(w:SW)(q:SQ)(hq:j6 q)(km:∀q'∈w.al,j6 q')(hb:u9 w)(hlen:w.al.length<=1000000)(hB:0<=kr q∧kr q<997) :
  bZ prog G 46 [.bx [0] 0,.d (fQ q)] (wO 202 [1] ns root fx w) [0,1,2,4,5,202] (fun r ae=>r=.az []∧ae=wO 302 [6] ns root fx (cn w q)):=by
 generalize hW:cn w q=w';have c1:=ajn (G:=G) q hq;have gH:fQ q=.agg [(.sl none (q.1.map i64)),(.sl none (q.2.map i64))]:=rfl;rw[gH]at c1 ⊢;unfold wO wP gC;simp only[List.cons_append,List.nil_append];refine jc func46 rfl (by decide +kernel) (by simp[ntmps46]) (aS fun E=>?_);simp only[go_sem];refine bd E c1 rfl rfl (by simp) ?_;rintro _ rfl;simp only[go_sem];refine eU E [3] (.agg [(.sl none (q.1.map i64)),(.sl none (q.2.map i64))]) (by simp only[go_sem]) rfl ?_;simp only[go_sem]
 rw[alI (l:=cm 202 (iz w.bk) []) (g:=id) (fun x hx=>by
  obtain⟨j,zs,_,rfl⟩:=jh.1 hx
  rfl),List.map_id]
 obtain⟨b,kl⟩:∃b:Nat,kr q=(b:Int):=⟨(kr q).toNat,by omega⟩
 have yN:b<997:=by omega
 have CF:=hb.len;have hle:=hb.le b yN;have hk:=V8 (w:=w) (b:=b) (by omega);rw[kl];generalize MK:w.bk.getD b []=ys at *
 refine wG E (τ:=ak [([99],[202,b])]) (s2:=mk [(0,.bx [0] 0),(3,.d (.ptr (.agg [(.sl none (q.1.map i64)),(.sl none (q.2.map i64))]))),(4,.d (i64 b)),(5,.d (i64 0))] (wQ b 1 99 ns root fx w (ys.map nD)) [0,1,2,4,5,99,202]) (cw.le (ajw hk ?_ rfl rfl rfl)) ?_
 .simp only[go_sem]
 unfold wQ pJ gC;simp only[List.cons_append,List.nil_append]
 refine bC E (X:={ i:Nat // i<=ys.length∧∀j∈ys.take i,w.al.getD j default≠q }) (fun x=>[(0,.bx [0] 0),(3,.d (.ptr (.agg [(.sl none (q.1.map i64)),(.sl none (q.2.map i64))]))),(4,.d (i64 b)),(5,.d (i64 x.1))])
  (fun _=>wQ b 1 99 ns root fx w (ys.map nD)) [0,1,2,4,5,99,202] (fun x=>ys.length-x.1) ⟨0,ale _,by simp⟩ id ?_ ?_
 .refine qy ?_ (HI (by decide)) (fun q hq=>MH rfl hq) rfl;simp only[go_sem]
 rintro⟨i,hi,bY⟩ E0;refine bK E0 fun Q' hQ E'=>?_;simp only;unfold wQ pJ gC;simp only[List.cons_append,List.nil_append];simp only[go_sem];have eJ:((bA 202 0 ((iz w.bk).set b none)).set b (.vw [99] 0 ys.length))[b]?=some (.vw [99] 0 ys.length):=alA (by rw[oV,alX];simp[iz];omega);refine wz E' _ _ (zO [2] 0 997 .i64 b _ (by rw[mJ]) (by rw[fM]) (by simp only[go_sem]) rfl rfl rfl yN) (by simp[bT]) ?_;rw[alC];simp only[go_sem];refine wz E' _ _ (FT [2] b _ _ (by rw[fM];rfl) (by rw[fM];rfl) (by simp only[go_sem]) rfl rfl eJ) (by simp[bT]) ?_;simp only[go_sem];refine aI E' ?_ ?_<;>intro h1<;>simp only[go_sem]
 .have aq:i<ys.length:=by omega
  refine bz mixed E' fun X=>?_;simp only[go_sem];refine fO X [0] 0 none [.d (.sl (some 4) (ns.map aK)),.d (i64 root),.d (i64 fx),.vw [1] 0 w.al.length,.va [2] 0 997,.vw [4] 0 w.be.length,.vw [5] 0 w.ab.length,.d (.bool w.mx),.d (.bool w.fl)] (by simp only[go_sem]) rfl rfl ?_;simp only[go_sem];refine fO X [0] 0 none [.d (.sl (some 4) (ns.map aK)),.d (i64 root),.d (i64 fx),.vw [1] 0 w.al.length,.va [2] 0 997,.vw [4] 0 w.be.length,.vw [5] 0 w.ab.length,.d (.bool w.mx),.d (.bool w.fl)] (by simp only[go_sem]) rfl rfl ?_;simp only[go_sem];refine lP X _ _ (zO [2] 0 997 .i64 b _ (by rw[mJ]) (by rw[fM]) (by simp only[go_sem]) rfl rfl rfl yN) (by simp[bT]) ?_;rw[alC];simp only[go_sem];refine lP X _ _ (FT [2] b _ _ (by rw[fM];rfl) (by rw[fM];rfl) (by simp only[go_sem]) rfl rfl eJ) (by simp[bT]) ?_;simp only[go_sem];refine⟨by omega,?_⟩;rw[ajy aq];have mG:=(hb.mem b yN ys[i]).1 (by rw[MK];exact ak2 aq);have hg:w.al.getD ys[i] default=w.al[ys[i]]'mG.1:=by simp[mG.1]
  have Ea:=km _ (ak2 mG.1);simp only[go_sem];refine⟨by omega,?_⟩;rw[MI mG.1];have c2:=ajm (G:=G) (w.al[ys[i]]'mG.1) q (by have:=Ea.1;omega) (by have:=Ea.2.1;omega);unfold fQ at c2;simp only[go_sem];refine dA X c2 rfl rfl (by simp) ?_;simp only[go_sem];(try refine⟨by decide +kernel,?_⟩);refine aI E' ?_ ?_<;>intro h2<;>simp only[go_sem]
  .have aU:q∈w.al:=by rw[<-h2];exact ak2 mG.1
   have lD:w'=w:=by rw[<-hW,cn,if_pos aU]
   rw[hQ];show ∃r ae u' τ,(r=.az []∧ae=wO 302 [6] ns root fx w')∧cw [0,1,2,4,5,202] τ (qK _ (.az [])) [(0,r)] ae u';rw[Pq];refine⟨.az [],wO 302 [6] ns root fx w,[0,1,2,4,5,202,302,6],nh b 1 99,⟨rfl,by rw[lD]⟩,?_⟩;rw[show ys.length=(ys.map nD).length from(alg _).symm];exact V7 (ax:=1) (px:=99) (by decide) hk (fun x hx=>uf (HI (by decide)) hx) ⟨⟨rfl,rfl⟩,trivial⟩ rfl rfl rfl rfl
  .rw[hQ,oL];refine⟨⟨i+1,by omega,fun j hj=>?_⟩,by show ys.length-(i+1)<ys.length-i;omega,id,?_⟩
   .rw[ak9 aq]at hj;rcases ak1.1 hj with hj|hj
    .exact bY j hj
    .rw[ak3.1 hj,hg];exact h2
   .refine ajx (hp:=wQ b 1 99 ns root fx w (ys.map nD)) ?_ ?_ (HI (by decide)) (fun x hx=>MH (ax:=1) (px:=99) rfl hx) rfl
    .unfold wQ pJ gC;rw[alg];rfl
    .simp only[go_sem];rw[aD ⟨by omega,by omega⟩];rfl
 .have de:i=ys.length:=by omega
  subst de;rw[hQ];simp only[go_sem]
  have ajz:q∉w.al:=fun hm=>by
   obtain⟨j,hj,rfl⟩:=alx hm;have hg:w.al.getD j default=w.al[j]:=by simp[hj]
   refine bY j ?_ hg;rw[alk,<-MK];exact(hb.mem b yN j).2 ⟨hj,by rw[hg];exact kl⟩
  refine bz mixed E fun X=>?_;simp only[go_sem];refine fO X [0] 0 none [.d (.sl (some 4) (ns.map aK)),.d (i64 root),.d (i64 fx),.vw [1] 0 w.al.length,.va [2] 0 997,.vw [4] 0 w.be.length,.vw [5] 0 w.ab.length,.d (.bool w.mx),.d (.bool w.fl)] (by simp only[go_sem]) rfl rfl ?_;simp only[go_sem];refine fO X [0] 0 none [.d (.sl (some 4) (ns.map aK)),.d (i64 root),.d (i64 fx),.vw [1] 0 w.al.length,.va [2] 0 997,.vw [4] 0 w.be.length,.vw [5] 0 w.ab.length,.d (.bool w.mx),.d (.bool w.fl)] (by simp only[go_sem]) rfl rfl ?_;simp only[go_sem];refine lP X _ _ (zO [2] 0 997 .i64 b _ (by rw[mJ]) (by rw[fM]) (by simp only[go_sem]) rfl rfl rfl yN) (by simp[bT]) ?_;rw[alC];simp only[go_sem];refine lP X _ _ (FT [2] b _ _ (by rw[fM];rfl) (by rw[fM];rfl) (by simp only[go_sem]) rfl rfl eJ) (by simp[bT]) ?_;simp only[go_sem];refine fO X [0] 0 none [.d (.sl (some 4) (ns.map aK)),.d (i64 root),.d (i64 fx),.vw [1] 0 w.al.length,.va [2] 0 997,.vw [4] 0 w.be.length,.vw [5] 0 w.ab.length,.d (.bool w.mx),.d (.bool w.fl)] (by simp only[go_sem]) rfl rfl ?_;simp only[go_sem];refine⟨by omega,?_⟩;refine lP X _ _ (zO [2] 0 997 .i64 b _ (by rw[mJ]) (by rw[fM]) (by simp only[go_sem]) rfl rfl rfl yN) (by simp[bT]) ?_;rw[alC];simp only[go_sem];refine lP X _ _ (Rk [2] b _ (.vw [56] 0 (ys.length+1)) (by rw[fM];rfl) (by rw[fM]) rfl rfl rfl rfl) (by simp[bT]) ?_;simp only[go_sem];(try refine⟨by decide +kernel,?_⟩);refine bz mixed E fun X=>?_;simp only[go_sem];refine fO X [0] 0 none [.d (.sl (some 4) (ns.map aK)),.d (i64 root),.d (i64 fx),.vw [1] 0 w.al.length,.va [2] 0 997,.vw [4] 0 w.be.length,.vw [5] 0 w.ab.length,.d (.bool w.mx),.d (.bool w.fl)] (by simp only[go_sem]) rfl rfl ?_;simp only[go_sem];refine⟨by omega,?_⟩;refine fO X [0] 0 none [.d (.sl (some 4) (ns.map aK)),.d (i64 root),.d (i64 fx),.vw [1] 0 w.al.length,.va [2] 0 997,.vw [4] 0 w.be.length,.vw [5] 0 w.ab.length,.d (.bool w.mx),.d (.bool w.fl)] (by simp only[go_sem]) rfl rfl ?_;simp only[go_sem];(try refine⟨by decide +kernel,?_⟩);rw[cn,if_neg ajz,kl,Int.toNat_natCast,MK]at hW;subst hW
  have Eb:((iz (w.bk.set b (ys++[w.al.length]))).set b none)=(iz w.bk).set b none:=by
   unfold iz;rw[amr,anv]
  generalize hS:mk _ _ _=S;have L:=V7 (U:=[0,1,2,4,5,202]) (k:=b) (s:=S) (fr:=[(0,.az [])]) (u:=[0,1,2,4,5,202,302,6]) (ns:=ns) (root:=root) (fx:=fx) (w:={ w with al:=w.al++[q],bk:=w.bk.set b (ys++[w.al.length]) }) (ax:=65) (px:=56) (ys:=(ys++[w.al.length]).map nD) (by decide) ?_ (fun x hx=>?_) ?_ rfl rfl rfl rfl
  .exact⟨.az [],_,_,_,⟨rfl,rfl⟩,⟨rfl,rfl⟩,L.2.1,L.2.2.1,rfl,L.2.2.2.2⟩
  .rw[V8 (by simp;omega)];simp[show b<w.bk.length by omega]
  .rw[<-hS];rcases ak1.1 hx with hx|hx
   .unfold pJ gC at hx;rw[Eb]at hx;simp only[alc,alv,or_false]at hx;obtain rfl|rfl|rfl|rfl|rfl|rfl:=hx
    all_goals
     simp only[go_sem]
     try (simp[nD,fQ,aL,anv];done)
   .rw[Eb]at hx;obtain⟨j,zs,h1,rfl⟩:=jh.1 hx;simp only[go_sem];exact fH (fr:=[]) (u:=[]) h1
  .rw[<-hS];exact⟨⟨rfl,rfl⟩,trivial⟩
end Go.Proofs.YtpmniabdmbmafaaGreatDoor

namespace Go.Proofs.YtpmniabdmbmafaaGreatDoor
open Go.Ab
theorem lE(w:SW)(q:SQ):(cn w q).al.length<=w.al.length+1∧(cn w q).be=w.be∧(cn w q).ab=w.ab∧(cn w q).mx=w.mx∧(cn w q).fl=w.fl:=by
 unfold cn;split
 .exact⟨by omega,rfl,rfl,rfl,rfl⟩
 .exact⟨by simp,rfl,rfl,rfl,rfl⟩
theorem ajA{w:SW}{q:SQ}(km:∀q'∈w.al,j6 q')(hq:j6 q):∀q'∈(cn w q).al,j6 q':=by
 unfold cn;split
 .exact km
 .intro q' h;rcases ak1.1 h with h|h
  .exact km q' h
  .rw[ak3.1 h];exact hq
theorem ML{w:SW}{q:SQ}(hb:u9 w)(hq:0<=kr q∧kr q<997):u9 (cn w q):=by
 unfold cn;split
 .exact hb
 .rename_i hn;have hk:(kr q).toNat<w.bk.length:=by rw[hb.len];omega
  have kj:∀b,b<997->(w.bk.set (kr q).toNat (w.bk.getD (kr q).toNat []++[w.al.length])).getD b []=if b=(kr q).toNat then w.bk.getD b []++[w.al.length]else w.bk.getD b []:=fun b eI=>by
   by_cases e:b=(kr q).toNat
   .subst e;rw[if_pos rfl,akX,alA hk];rfl
   .rw[if_neg e,akX,alu (fun g=>e g.symm),<-akX]
  refine⟨by simp[hb.len],fun b eI=>?_,fun b eI i=>?_⟩
  .simp only;rw[kj b eI,ak4,List.length_singleton];have:=hb.le b eI;split
   .rw[ak4,List.length_singleton];omega
   .omega
  .simp only;rw[kj b eI,ak4,List.length_singleton];have hm:=hb.mem b eI i;by_cases e:b=(kr q).toNat
   .rw[if_pos e,ak1,ak3,hm];constructor
    .rintro(⟨h1,h2⟩|h)
     .refine⟨by omega,?_⟩;rw[akX,alj h1,<-akX];exact h2
     .subst h;refine⟨by omega,?_⟩;rw[akX,aln (by omega)];simp;omega
    .rintro⟨h1,h2⟩;by_cases h:i<w.al.length
     .rw[akX,alj h,<-akX]at h2;exact .inl ⟨h,h2⟩
     .exact .inr (by omega)
   .rw[if_neg e,hm];constructor
    .rintro⟨h1,h2⟩;refine⟨by omega,?_⟩;rw[akX,alj h1,<-akX];exact h2
    .rintro⟨h1,h2⟩;by_cases h:i<w.al.length
     .rw[akX,alj h,<-akX]at h2;exact⟨h,h2⟩
     .rw[akX,aln (by omega),show i-w.al.length=0 by omega]at h2;simp at h2;omega
theorem MN(w:SW)(q:SQ):(cn w q).bk.length=w.bk.length:=by
 unfold cn;split
 .rfl
 .simp
structure ajB(w:SW)(L:List SQ)(v:SW):Prop where
 len:v.al.length<=w.al.length+L.length
 be:v.be=w.be
 ab:v.ab=w.ab
 mx:v.mx=w.mx
 fl:v.fl=w.fl
 few:(∀q∈w.al,j6 q)->∀q∈v.al,j6 q
 ok:u9 w->u9 v
theorem V9:∀(L:List SQ) (w:SW),(∀q∈L,j6 q)->ajB w L (L.foldl cn w)
 |[],w,_=>⟨by simp,rfl,rfl,rfl,rfl,id,id⟩
 |q::L,w,h=>by
   have hq:=h q alb;have hb:=yM hq;obtain⟨i1,i2,i3,i4,i5,i6,i7⟩:=V9 L (cn w q) fun x hx=>h x (ald _ hx);obtain⟨a1,a2,a3,a4,a5⟩:=lE w q;rw[List.foldl_cons];refine⟨by rw[List.length_cons];omega,i2.trans a2,i3.trans a3,i4.trans a4,i5.trans a5,fun g=>i6 (ajA g hq),fun g=>i7 (ML g hb)⟩
theorem Wa{α:Type}[DecidableEq α]:∀{l u:List α},l.Nodup->(∀a∈l,a∈u)->l.length<=u.length
 |[],_,_,_=>ale _
 |x::l,u,hn,hs=>by
   rw[alW]at hn;have hx:=hs x alb
   have h1:=Wa (l:=l) (u:=u.erase x) hn.2 fun a ha=>by
    rw[List.mem_erase_of_ne (fun e=>by subst e;exact hn.1 ha)];exact hs a (ald _ ha)
   rw[anu hx]at h1;have:=amW hx;rw[List.length_cons];omega
theorem Wb{w:SW}{q:SQ}{i:Nat}(h:i<w.al.length):(cn w q).al.getD i default=w.al.getD i default:=by
 unfold cn;split
 .rfl
 .simp only;rw[akX,alj h,<-akX]
theorem ug{w:SW}{q x:SQ}:x∈(cn w q).al↔x∈w.al∨x=q:=by
 unfold cn;split
 .rename_i h;exact⟨.inl,fun g=>g.elim id fun e=>e▸h⟩
 .simp
theorem Wc(w:SW)(q:SQ):w.al.length<=(cn w q).al.length:=by
 unfold cn;split
 .exact ali _
 .simp
theorem ajC{w:SW}{q:SQ}(h:w.al.Nodup):(cn w q).al.Nodup:=by
 unfold cn;split
 .exact h
 .rename_i hn;rw[alZ];exact⟨h,by simp,fun a ha b hb=>by rw[ak3.1 hb];exact fun e=>hn (e▸ha)⟩
structure iA(fx:Int)(ns:List TN)(q0:SQ)(w:SW)(d:Nat):Prop where
 nd:w.al.Nodup
 sG:∀q∈w.al,gf fx ns q0 q
 root:q0∈w.al
 bk:u9 w
 few:∀q∈w.al,j6 q
 dl:d<=w.al.length
 lb:(w.be.length:Int)=fx
 la:(w.ab.length:Int)=fx
 be:∀v:Nat,(v:Int)<fx->∀s,s∈w.be.getD v []↔∃i,i<d∧iw fx ns (w.al.getD i default)=true∧bQ fx ns (w.al.getD i default)=v∧s=bV ns 1 (w.al.getD i default).1
 ab:∀v:Nat,(v:Int)<fx->∀s,s∈w.ab.getD v []↔∃i,i<d∧iu fx ns (w.al.getD i default)=true∧aQ fx ns (w.al.getD i default)=v∧s=bV ns 2 (w.al.getD i default).2
 mx:w.mx=true↔∃i,i<d∧hY fx ns (w.al.getD i default)=true
 fl:w.fl=true↔∃i,i<d∧kV fx ns (w.al.getD i default)=true
 cl:∀i,i<d->fZ fx ns (w.al.getD i default)=true->∀q∈(jB ns (w.al.getD i default)).1,q∈w.al
 sb:∀L∈w.be,L.length<=d
 sa:∀L∈w.ab,L.length<=d
section
variable {fx:Int}{ns:List TN}{q0:SQ}
theorem get_mem{w:SW}{i:Nat}(h:i<w.al.length):w.al.getD i default∈w.al:=by
 rw[akX,ak0 h];exact ak2 h
theorem iA.add{w:SW}{d:Nat}(h:iA fx ns q0 w d){q:SQ}(hr:gf fx ns q0 q)(hf:j6 q):iA fx ns q0 (cn w q) d:=by
 obtain⟨_,a2,a3,a4,a5⟩:=lE w q;have hg:∀i,i<d->(cn w q).al.getD i default=w.al.getD i default:=fun i hi=>Wb (by have:=h.dl;omega);refine⟨ajC h.nd,fun x hx=>?_,ug.2 (.inl h.root),ML h.bk (yM hf),fun x hx=>?_,alU h.dl (Wc _ _),by rw[a2];exact h.lb,by rw[a3];exact h.la,fun v hv s=>?_,fun v hv s=>?_,?_,?_,fun i hi hl x hx=>?_,by rw[a2];exact h.sb,by rw[a3];exact h.sa⟩
 .rcases ug.1 hx with hx|rfl
  .exact h.sG x hx
  .exact hr
 .rcases ug.1 hx with hx|rfl
  .exact h.few x hx
  .exact hf
 .rw[a2,h.be v hv s];exact exists_congr fun i=>and_congr_right fun hi=>by rw[hg i hi]
 .rw[a3,h.ab v hv s];exact exists_congr fun i=>and_congr_right fun hi=>by rw[hg i hi]
 .rw[a4,h.mx];exact exists_congr fun i=>and_congr_right fun hi=>by rw[hg i hi]
 .rw[a5,h.fl];exact exists_congr fun i=>and_congr_right fun hi=>by rw[hg i hi]
 .rw[hg i hi]at hl hx;exact ug.2 (.inl (h.cl i hi hl x hx))
theorem iA.fold{d:Nat}:∀(L:List SQ) {w:SW},iA fx ns q0 w d->(∀q∈L,gf fx ns q0 q∧j6 q)->iA fx ns q0 (L.foldl cn w) d∧(∀q∈L,q∈(L.foldl cn w).al)∧(∀q∈w.al,q∈(L.foldl cn w).al)∧∀i,i<w.al.length->(L.foldl cn w).al.getD i default=w.al.getD i default
 |[],w,h,_=>⟨h,by simp,fun q hq=>hq,fun _ _=>rfl⟩
 |q::L,w,h,hL=>by
   have hq:=hL q alb;obtain⟨i1,i2,i3,i4⟩:=iA.fold L (h.add hq.1 hq.2) fun x hx=>hL x (ald _ hx);refine⟨i1,fun x hx=>?_,fun x hx=>i3 x (ug.2 (.inl hx)),fun i hi=>?_⟩
   .rcases alc.1 hx with rfl|hx
    .exact i3 _ (ug.2 (.inr rfl))
    .exact i2 x hx
   .rw[List.foldl_cons,i4 i (alV hi (Wc _ _)),Wb hi]
theorem Wd{L:List (List (List Int))}{v:Int}{s:List Int}(h0:0<=v)(hv:v.toNat<L.length)(u:Nat)(z:List Int):z∈(iO L v s).getD u []↔z∈L.getD u []∨(u:Int)=v∧z=s:=by
 unfold iO;by_cases e:u=v.toNat
 .subst e;rw[akX,alA hv,Option.getD_some,ajr];have:((v.toNat:Nat):Int)=v:=by omega
  simp[this]
 .rw[akX,alu (fun g=>e g.symm),<-akX];constructor
  .exact .inl
  .rintro(h|⟨h,_⟩)
   .exact h
   .omega
theorem Wg{L:List (List (List Int))}{v:Int}{s:List Int}{d:Nat}(h:∀x∈L,x.length<=d):∀x∈iO L v s,x.length<=d+1:=by
 intro x hx;unfold iO at hx;obtain⟨i,hi,rfl⟩:=alx hx;rw[amP];split
 .refine alU (ajs _ _) ?_;by_cases hv:v.toNat<L.length
  .have:L.getD v.toNat []∈L:=by
    rw[akX,ak0 hv];exact ak2 hv
   have:=h _ this;omega
  .rw[akX,alN (by omega)];simp
 .have aq:i<L.length:=by simpa using hi
  have:=h _ (ak2 aq);omega
theorem Wh{l:List Int}(h:0<=du fx ns l):du fx ns l<fx:=by
 unfold du at h ⊢;by_cases h0:l.length=0
 .rw[if_pos h0]at h;omega
 rw[if_neg h0]at h ⊢;by_cases ha:(l.all fun x=>kT fx ns x&&decide ((nd ns x.toNat).a=(nd ns (l.getD 0 0).toNat).a))=true
 .rw[if_pos ha]
  cases l with
  |nil=>exact absurd rfl h0
  |cons x t =>
    have h1:=alr.1 ha x alb;rw[ak7]at h1;have h2:=h1.1;unfold kT at h2;rw[ak7,decide_eq_true_iff,decide_eq_true_iff]at h2;exact h2.2
 .rw[if_neg ha]at h;omega
theorem Wi{q:SQ}(h:iu fx ns q=true):0<=aQ fx ns q∧aQ fx ns q<fx:=by
 unfold iu at h;simp only[ak7,decide_eq_true_iff]at h;exact⟨h.2.1,Wh h.2.1⟩
theorem ajD{q:SQ}(h:iw fx ns q=true):0<=bQ fx ns q∧bQ fx ns q<fx:=by
 unfold iw at h;simp only[ak7,decide_eq_true_iff]at h;exact⟨h.2.1,Wh h.2.1⟩
theorem iA.one{w:SW}{d:Nat}(h:iA fx ns q0 w d)(hd:d<w.al.length)(mb:∀q,gf fx ns q0 q->j6 q):iA fx ns q0 (oq fx ns w (w.al.getD d default)) (d+1)∧w.al.length<=(oq fx ns w (w.al.getD d default)).al.length:=by
 have hq:=h.sG _ (get_mem hd);generalize yO:w.al.getD d default=q at *
 unfold oq
 have h0:∀i,i<d+1->∀P:Nat->Prop,((∃i,i<d+1∧P i)↔(∃i,i<d∧P i)∨P d):=fun _ _ P=>by
  constructor
  .rintro⟨i,hi,hp⟩;by_cases e:i=d
   .subst e;exact .inr hp
   .exact .inl ⟨i,by omega,hp⟩
  .rintro(⟨i,hi,hp⟩|hp)
   .exact⟨i,by omega,hp⟩
   .exact⟨d,by omega,hp⟩
 have ex:∀P:Nat->Prop,(∃i,i<d+1∧P i)↔(∃i,i<d∧P i)∨P d:=fun P=>h0 d (by omega) P
 have base:∀(w9 xa:List (List (List Int))),w9=(if iw fx ns q=true then iO w.be (bQ fx ns q) (bV ns 1 q.1)else w.be)->xa=(if iu fx ns q=true then iO w.ab (aQ fx ns q) (bV ns 2 q.2)else w.ab) ->
   (w9.length=w.be.length∧xa.length=w.ab.length)∧(∀v:Nat,(v:Int)<fx->∀s,s∈w9.getD v []↔∃i,i<d+1∧iw fx ns (w.al.getD i default)=true∧bQ fx ns (w.al.getD i default)=v∧s=bV ns 1 (w.al.getD i default).1) ∧
   (∀v:Nat,(v:Int)<fx->∀s,s∈xa.getD v []↔∃i,i<d+1∧iu fx ns (w.al.getD i default)=true∧aQ fx ns (w.al.getD i default)=v∧s=bV ns 2 (w.al.getD i default).2)∧(∀L∈w9,L.length<=d+1)∧∀L∈xa,L.length<=d+1:=by
  rintro w9 xa rfl rfl;refine⟨⟨by split<;>simp[iO],by split<;>simp[iO]⟩,fun v hv s=>?_,fun v hv s=>?_,fun L hL=>?_,fun L hL=>?_⟩
  .rw[ex,yO,<-h.be v hv s];by_cases hb:iw fx ns q=true
   .have MO:=ajD hb;rw[if_pos hb,Wd MO.1 (by have:=h.lb;omega)];constructor
    .rintro(g|⟨g1,g2⟩)
     .exact .inl g
     .exact .inr ⟨hb,g1.symm,g2⟩
    .rintro(g|⟨_,g1,g2⟩)
     .exact .inl g
     .exact .inr ⟨g1.symm,g2⟩
   .rw[if_neg hb];exact⟨.inl,fun g=>g.elim id fun g=>absurd g.1 hb⟩
  .rw[ex,yO,<-h.ab v hv s];by_cases hb:iu fx ns q=true
   .have MO:=Wi hb;rw[if_pos hb,Wd MO.1 (by have:=h.la;omega)];constructor
    .rintro(g|⟨g1,g2⟩)
     .exact .inl g
     .exact .inr ⟨hb,g1.symm,g2⟩
    .rintro(g|⟨_,g1,g2⟩)
     .exact .inl g
     .exact .inr ⟨g1.symm,g2⟩
   .rw[if_neg hb];exact⟨.inl,fun g=>g.elim id fun g=>absurd g.1 hb⟩
  .split at hL
   .exact Wg h.sb L hL
   .exact amz (h.sb L hL)
  .split at hL
   .exact Wg h.sa L hL
   .exact amz (h.sa L hL)
 obtain⟨⟨b1,b2⟩,b3,b4,b5,b6⟩:=base _ _ rfl rfl;generalize hbe:(if iw fx ns q=true then iO w.be (bQ fx ns q) (bV ns 1 q.1)else w.be)=w9 at *
 generalize eC:(if iu fx ns q=true then iO w.ab (aQ fx ns q) (bV ns 2 q.2)else w.ab)=xa at *
 have hS:iA fx ns q0 { w with mx:=w.mx,fl:=w.fl } d:=h
 obtain⟨f1,f2,f3,f4⟩:=iA.fold (if fZ fx ns q=true then(jB ns q).1 else[]) h fun x hx=>by
  split at hx
  .rename_i hl;have:=gf.to hq hl hx;exact⟨this,mb _ this⟩
  .cases hx
 generalize hLL:(if fZ fx ns q=true then(jB ns q).1 else[])=LL at *
 have uv:∀(L:List SQ) (w1:SW),(L.foldl cn { w1 with be:=w9,ab:=xa,mx:=w1.mx||hY fx ns q,fl:=w1.fl||kV fx ns q })={ L.foldl cn w1 with be:=w9,ab:=xa,mx:=(L.foldl cn w1).mx||hY fx ns q,fl:=(L.foldl cn w1).fl||kV fx ns q }:=by
  intro L
  induction L with
  |nil=>intro w1;rfl
  |cons x L ih =>
    intro w1;rw[List.foldl_cons,List.foldl_cons,<-ih];congr 1;unfold cn;by_cases hx:x∈w1.al
    .rw[if_pos hx,if_pos hx]
    .rw[if_neg hx,if_neg hx]
 rw[uv];generalize hV:LL.foldl cn w=v at *
 have hlen:w.al.length<=v.al.length:=by
  have:=f4;by_cases g:w.al.length<=v.al.length
  .exact g
  .exfalso;have dL:=Wa h.nd f3;omega
 have hg:∀i,i<d+1->v.al.getD i default=w.al.getD i default:=fun i hi=>f4 i (by omega)
 have hve:v.be=w.be∧v.ab=w.ab:=by
  rw[<-hV]
  have:∀(L:List SQ) (w1:SW),(L.foldl cn w1).be=w1.be∧(L.foldl cn w1).ab=w1.ab:=by
   intro L
   induction L with
   |nil=>intro w1;exact⟨rfl,rfl⟩
   |cons x L ih =>
     intro w1;rw[List.foldl_cons];obtain⟨_,a2,a3,_⟩:=lE w1 x;exact⟨(ih _).1.trans a2,(ih _).2.trans a3⟩
  exact this LL w
 refine⟨⟨f1.nd,f1.sG,f1.root,⟨f1.bk.len,f1.bk.le,f1.bk.mem⟩,f1.few,by simp only;omega,by simp only;rw[b1];exact h.lb,by simp only;rw[b2];exact h.la,fun u hu s=>?_,fun u hu s=>?_,?_,?_,fun i hi hl x hx=>?_,b5,b6⟩,hlen⟩
 .simp only;rw[b3 u hu s];exact exists_congr fun i=>and_congr_right fun hi=>by rw[hg i hi]
 .simp only;rw[b4 u hu s];exact exists_congr fun i=>and_congr_right fun hi=>by rw[hg i hi]
 .simp only;rw[ex,hg d (by omega),yO,alF,f1.mx]
 .simp only;rw[ex,hg d (by omega),yO,alF,f1.fl]
 .simp only at hl hx ⊢;by_cases e:i=d
  .subst e;rw[hg i hi,yO]at hl hx;rw[<-hLL,if_pos hl]at f2;exact f2 x hx
  .exact f1.cl i (by omega) hl x hx
theorem iA.end_{w:SW}(h:iA fx ns q0 w w.al.length)(hp:∀v:Nat,(v:Int)<fx->∀s∈w.be.getD v [],∀s'∈w.ab.getD v [],(s,s')∈w.al):(w.mx=false∧w.fl=false)↔pw fx ns q0:=by
 have all:∀q,gf fx ns q0 q->q∈w.al:=by
  intro q hq
  induction hq with
  |root=>exact h.root
  |to hr hl hx ih =>
    obtain⟨i,hi,rfl⟩:=alx ih;have hg:w.al.getD i default=w.al[i]:=by simp[hi]
    exact h.cl i hi (by rw[hg];exact hl) _ (by rw[hg];exact hx)
  |pair h1 h2 ha hb hv vk sJ =>
    obtain⟨i,hi,rfl⟩:=alx vk;obtain⟨j,hj,rfl⟩:=alx sJ;have lh:w.al.getD i default=w.al[i]:=by simp[hi]
    have Ec:w.al.getD j default=w.al[j]:=by simp[hj]
    have a1:=Wi ha;have e:(((aQ fx ns w.al[i]).toNat:Nat):Int)=aQ fx ns w.al[i]:=by omega
    refine hp (aQ fx ns w.al[i]).toNat (by omega) _ ((h.be _ (by omega) _).2 ⟨j,hj,by rw[Ec];exact hb,by rw[Ec,e,hv],by rw[Ec]⟩) _ ((h.ab _ (by omega) _).2 ⟨i,hi,by rw[lh];exact ha,by rw[lh,e],by rw[lh]⟩)
 constructor
 .rintro⟨h1,h2⟩ q hq;obtain⟨i,hi,rfl⟩:=alx (all q hq);have hg:w.al.getD i default=w.al[i]:=by simp[hi]
  constructor
  .cases e:hY fx ns w.al[i]with
   |false=>rfl
   |true=>rw[h.mx.2 ⟨i,hi,by rw[hg];exact e⟩]at h1;cases h1
  .cases e:kV fx ns w.al[i]with
   |false=>rfl
   |true=>rw[h.fl.2 ⟨i,hi,by rw[hg];exact e⟩]at h2;cases h2
 .intro aW;constructor
  .cases e:w.mx with
   |false=>rfl
   |true =>
     obtain⟨i,hi,g⟩:=h.mx.1 e;rw[(aW _ (h.sG _ (get_mem hi))).1]at g;cases g
  .cases e:w.fl with
   |false=>rfl
   |true =>
     obtain⟨i,hi,g⟩:=h.fl.1 e;rw[(aW _ (h.sG _ (get_mem hi))).2]at g;cases g
end
end Go.Proofs.YtpmniabdmbmafaaGreatDoor

namespace Go.Ab
def kY(xs:List D):List D:=xs.flatMap D.cells
section
variable {P:Program}{cf:Cf}{Q:Exit->St->Prop}{s:St}{k:List It}
def g1(p:Name)(w:W)(xs:List D)(q:Name):Option (W×List D):=if q=p then some (w,xs)else none
end
end Go.Ab

namespace Go.Ab
theorem MP{w:W}:∀{xs:List D},(∀x∈xs,okW w x)->(kY xs).length=xs.length*wd w
 |[],_=>by simp[kY]
 |x::r,h=>by
   have h1:=MP (w:=w) (xs:=r) fun y hy=>h y (ald _ hy);have h2:=iE (h x alb);have e:kY (x::r)=x.cells++kY r:=by simp[kY]
   rw[e,ak4,h1,h2,List.length_cons,al8];omega
theorem Wj{w:W}:∀{xs:List D},(∀x∈xs,okW w x)->∀{i:Nat} {d:D},(kY xs)[i]?=some d->∃a x b,i=a*wd w+b∧xs[a]?=some x∧x.cells[b]?=some d
 |[],_,i,d,h=>by simp[kY]at h
 |x::r,hx,i,d,h=>by
   have h2:x.cells.length=wd w:=iE (hx x alb);have e:kY (x::r)=x.cells++kY r:=by simp[kY]
   rw[e]at h;rcases alP i (wd w)with g|g
   .rw[alj (by omega)]at h;exact⟨0,x,i,by omega,rfl,h⟩
   .rw[aln (by omega),h2]at h;obtain⟨a,y,b,h3,h4,h5⟩:=Wj (fun y hy=>hx y (ald _ hy)) h;exact⟨a+1,y,b,by rw[al8];omega,h4,h5⟩
section
variable {B:Base}{β:Name->Option a8}{s:St}{tm:Array Value}{w:World}
theorem aj.ajE(h:aj B β s tm w){t:Nat}(ht:t∉s.used){q p:Name}{ty ta:Option Nat}{cs:List AV}{j n:Nat}{wf0:W}{xs:List D}(hq:s.hp q=some (.bt ty cs))(hj:cs[j]?=some (.vw p 0 n))(hp:s.hp p=some (.bB ta wf0 xs))
  (hn:n=xs.length) (h0:0<n):∃β',aj B β' (((s.set p none).add t (.ez (wd wf0) ((kY xs).map .d))).set q (some (.bt ty (cs.set j (.va [t] 0 n))))) tm w:=by
 obtain⟨Dd,kq,cq,eq,De,RM,kn,RN,RO,RP,Df⟩:=h.aJ q _ hq;have sX:=Df j _ hj;obtain⟨vj,wI⟩:∃vj,cq.getD j undef=vj:=⟨_,rfl⟩
 rw[wI]at sX
 obtain⟨k,cap,hk,hval,eY,hz⟩:∃k cap,β p=some k∧vj=.slice (some ⟨k.b,k.o,none⟩) n cap∧n<=cap∧k.o+cap*wd wf0<=k.z:=by
  cases sX with
  |vw _ _ _ _ _ _ hx =>
    obtain⟨hle,a,cap,rfl,KI⟩:=hx _ _ _ hp;obtain⟨h1,_⟩|⟨k,hk,rfl,eY,hz⟩:=KI
    .omega
    .rw[aoc,Nat.add_zero];rw[alC]at hz;exact⟨k,cap,hk,rfl,eY,hz⟩
 have Dg:q≠p:=by
  rintro rfl;rw[hq]at hp;cases hp
 have wJ:q≠[t]:=iU Dd ht
 have h1:=h.FQ ht hp hk (.ez (wd wf0) ((kY xs).map .d)) k.o (w':=w) rfl rfl (fun _ _=>rfl) (fun β' hβ hv=>by
  rcases(h.aJ p _ hp).2 with⟨a1,_⟩|⟨k',c,e,a1,a2,a3,a4,a5,a6⟩
  .rw[hk]at a1;cases a1
  .rw[hk]at a1;cases a1;have hlen:=MP a5
   have cd:∀i d,(kY xs)[i]?=some d->au w.heap (s.own B.A β) (c.getD (k.o+i) undef) d∧d.bR=true:=fun i d hd=>by
    obtain⟨a,x,b,rfl,hx,hb⟩:=Wj a5 hd;refine⟨?_,Ev (a5 x (alp hx)) d (alp hb)⟩;have:=a6 a x b d hx hb
    rwa [amF]at this
   refine .inr ⟨_,c,_,hβ,a2,a3,by rw[alg,hlen];exact a4,fun i hi=>?_,fun i x hi=>?_⟩
   .rw[alg]at hi;obtain⟨g1,g2⟩:=cd i _ (ak0 hi);exact g1.yR g2
   .rw[ala,ak8]at hi;obtain⟨d,hd,rfl⟩:=hi
    exact hv _ _ (.d _ _ (cd i d hd).1))
 refine⟨_,h1.KH (p:=q) (cs:=cs) (by simpa[St.add,St.set,aA,wJ,Dg]using hq) (by simp) fun k2 c2 e2 eZ fD i x x' hx aR hv=>?_⟩;have eQ:β q=some k2:=by simpa[aA,wJ]using eZ
 rw[De]at eQ;cases eQ;rw[kn]at fD;cases fD;by_cases e:j=i
 .subst e;rw[alA (akY.1 hj).1]at aR;cases aR;rw[wI,hval]
  have hlen:(kY xs).length=n*wd wf0:=by
   rcases(h.aJ p _ hp).2 with⟨a1,_⟩|⟨k',c,e,a1,a2,a3,a4,a5,a6⟩
   .rw[hk]at a1;cases a1
   .rw[MP a5,hn]
  refine .va _ _ _ _ ⟨t,[],rfl,alb⟩ rfl fun wf ys nM=>?_;have e3:(some (Ob.ez (wd wf0) ((kY xs).map AV.d)))=some (.ez wf ys):=by rw[<-nM];simp[St.add,St.set,aA]
  cases e3;refine⟨by rw[alg,hlen,alC];exact ali _,_,cap,rfl,.inr ⟨_,by simp[aA];rfl,by simp,eY,by simpa using hz⟩⟩
 .rw[alu e,hx]at aR;cases aR;exact hv
end
section
variable {P:Program}{cf:Cf}{Q:Exit->St->Prop}{s:St}{k:List It}
theorem ajF(E:bu P cf Q){c:Code}(q p:Name)(t j n:Nat){ty ta:Option Nat}{cs:List AV}{wf0:W}(xs:List D)(hq:s.hp q=some (.bt ty cs))(hj:cs[j]?=some (.vw p 0 n))(hp:s.hp p=some (.bB ta wf0 xs))(hn:n=xs.length)(h0:0<n)(ht:t∉s.used)
  (h:e8 E c (((s.set p none).add t (.ez (wd wf0) ((kY xs).map .d))).set q (some (.bt ty (cs.set j (.va [t] 0 n))))) k):e8 E c s k:=by
 intro B hB ds β a w' ai hs;obtain⟨β',bm⟩:=hs.ajE ht hq hj hp hn h0;exact h B hB ds β' a w' ai bm
def j7(p:Name)(m N:Nat)(nm:Nat->Nat)(s:St):Nat->St
 |0=>s
 |j+1=>((j7 p m N nm s j).add (nm j) (.arr none [])).set p (some (.ez m ((List.range N).map fun i=>if i<j+1 then .vw [nm i] 0 0 else .d .ao)))
theorem Wl{p:Name}{m N:Nat}{nm:Nat->Nat}(nB:s.hp p=some (.ez m ((List.range N).map fun _=>.d .ao))):∀j,(j7 p m N nm s j).hp p=some (.ez m ((List.range N).map fun i=>if i<j then .vw [nm i] 0 0 else .d .ao))
 |0=>by simpa[j7]using nB
 |j+1=>by simp[j7,St.set,aA]
theorem Wm{p:Name}{m N:Nat}{nm:Nat->Nat}(eO:∀i j,nm i=nm j->i=j):∀j i,j<=i->nm i∉s.used->nm i∉(j7 p m N nm s j).used
 |0,i,_,h=>h
 |j+1,i,uq,h=>by
   have:=Wm (p:=p) (m:=m) (N:=N) eO j i (by omega) h;simp only[j7,St.set,St.add,alc,not_or];exact⟨fun e=>by have:=eO _ _ e;omega,this⟩
theorem Wn{p:Name}{m N:Nat}{nm:Nat->Nat}(hp:∀i,p≠[nm i])(eO:∀i j,nm i=nm j->i=j):∀j i,i<j->(j7 p m N nm s j).hp [nm i]=some (.arr none [])
 |0,i,h=>by omega
 |j+1,i,h=>by
   by_cases e:i=j
   .subst e;simp[j7,St.set,St.add,aA,(hp i).symm]
   .have:=Wn (m:=m) (N:=N) hp eO j i (by omega);have h1:nm i≠nm j:=fun g=>e (eO _ _ g);simp[j7,St.set,St.add,aA,(hp i).symm,h1,this]
theorem Wo{p:Name}{m N:Nat}{nm:Nat->Nat}{q:Name}(hq:q≠p)(jJ:∀i,q≠[nm i]):∀j,(j7 p m N nm s j).hp q=s.hp q
 |0=>rfl
 |j+1=>by
   have:=Wo (m:=m) (N:=N) hq jJ j;simp[j7,St.set,St.add,aA,hq,jJ j,this]
theorem Wp{p:Name}{m N:Nat}{nm:Nat->Nat}:∀j,(j7 p m N nm s j).fr=s.fr
 |0=>rfl
 |j+1=>Wp (p:=p) (m:=m) (N:=N) (nm:=nm) j
theorem Wq(E:bu P cf Q){c:Code}(p:Name)(N:Nat){m:Nat}(nm:Nat->Nat)(hp:∀i,p≠[nm i])(eO:∀i j,nm i=nm j->i=j)(hu:∀i,nm i∉s.used)(nB:s.hp p=some (.ez m ((List.range N).map fun _=>.d .ao))):∀j,j<=N->e8 E c (j7 p m N nm s j) k->e8 E c s k
 |0,_,h=>h
 |j+1,hj,h=>by
   refine Wq E p N nm hp eO hu nB j (by omega) ?_;refine Rt E p j (nm j) none ((List.range N).map fun i=>if i<j then .vw [nm i] 0 0 else .d .ao) (Wl nB j) (by simp[show j<N by omega]) (Wm eO j j (ali _) (hu j)) ?_
   have e:((List.range N).map fun i=>if i<j then AV.vw [nm i] 0 0 else .d .ao).set j (.vw [nm j] 0 0)=(List.range N).map fun i=>if i<j+1 then .vw [nm i] 0 0 else .d .ao:=by
    refine al9 (by simp) fun q h1 h2=>?_;rw[amP];have hq:q<N:=by simpa using h2
    by_cases g:j=q
    .subst g;simp
    .rw[if_neg g];simp only[amn,List.getElem_range];by_cases g2:q<j
     .rw[if_pos g2,if_pos (by omega)]
     .rw[if_neg g2,if_neg (by omega)]
   rw[e];exact h
end
end Go.Ab

namespace Go.Proofs.YtpmniabdmbmafaaGreatDoor
open Go.Ab
def sH(N M:Nat):SW:=⟨[],List.replicate N [],List.replicate M [],List.replicate M [],false,false⟩
def ox:SW:=sH 997 1000
def kx(i:Nat):Nat:=3000+i
def Wr:Name->Name
 |[0]=>[21]
 |[11]=>[2001]
 |[2]=>[2000]
 |[4]=>[16]
 |[5]=>[18]
 |[402,j]=>[3000+j]
 |p=>p
def MQ:Name->Name
 |[x]=>if x=21 then[0]else if x=2001 then[11]else if x=2000 then[2]else if x=16 then[4]else if x=18 then[5]else[402,x-3000]
 |p=>p
theorem ajG(n:Nat):(kY (List.replicate n D.ao)).map AV.d=(List.range n).map fun _=>AV.d D.ao:=by
 have:kY (List.replicate n D.ao)=List.replicate n D.ao:=by
  induction n with
  |zero=>rfl
  |succ n ih =>
    rw[List.replicate_succ];show D.ao.cells++kY (List.replicate n D.ao)=_;rw[ih];rfl
 rw[this,List.map_replicate];refine al9 (by simp) fun i h1 h2=>by simp
theorem Ws:∀(n i:Nat),cg Wr (bA 402 i (List.replicate n (some [])))=(List.range n).map fun j=>AV.vw [3000+(i+j)] 0 0
 |0,i=>rfl
 |n+1,i=>by
   rw[List.replicate_succ,bA,cg,Ws n (i+1),List.range_succ_eq_map,alf,alD];congr 1;refine alI fun j _=>?_;simp only[Function.comp_def];rw[show i+1+j=i+(j+1) by omega]
theorem ajH{P:Program}{cf:Cf}{Q:Exit->St->Prop}{k:List It}(E:bu P cf Q){c:Code}{s:St}{ns:List TN}{root:Int}{g:D}{N M:Nat}(hN:N=997)(hU:cf.U=[])(Mv:s.hp [21]=some (.box [.d (.sl (some 4) (ns.map aK)),.d (i64 root),.d (i64 1000),.d .ao,.vw [19] 0 N,.vw [16] 0 M,.vw [18] 0 M,.d (.bool false),.d (.bool false)]))
  (h16:s.hp [16]=some (.arr none (List.replicate M .ao))) (h18:s.hp [18]=some (.arr none (List.replicate M .ao))) (h19:s.hp [19]=some (.arr none (List.replicate N .ao))) (hu:∀x∈s.used,x<2000)
  (ph:s.fr 1=.d g) (pj:s.fr 2=.d (i64 1000)) (hf7:s.fr 7=.bx [21] 0) (hf8:s.fr 8=.d (i64 0)) (h:e8 E c (mk [(1,.d g),(2,.d (i64 1000)),(7,.bx [0] 0),(8,.d (i64 0))] (wO 402 [11] ns root 1000 (sH N M)) [0,2,4,5,11,402]) k):e8 E c s k:=by
 have nu:∀x,2000<=x->x∉s.used:=fun x hx hm=>by have:=hu x hm;omega
 refine nQ E [21] 3 2001 (some 2) _ Mv rfl (nu 2001 (by omega)) ?_;refine ajF E [21] [19] 2000 4 N (wf0:=none) (List.replicate N .ao) (ty:=none) (cs:=[.d (.sl (some 4) (ns.map aK)),.d (i64 root),.d (i64 1000),.vw [2001] 0 0,.vw [19] 0 N,.vw [16] 0 M,.vw [18] 0 M,.d (.bool false),.d (.bool false)]) (by simp[St.set,aA]) rfl (by simp[St.set,St.add,aA];exact h19) (by simp) (by omega) (by simp[St.add,St.set];exact nu 2000 (by omega)) ?_;rw[ajG];refine Wq E [2000] N kx (fun i=>by simp[kx];omega) (fun i j e=>by simp[kx]at e;exact e) (fun i=>?_) (by simp[St.set,St.add,aA];rfl) N (ali _) ?_
 .simp only[St.add,St.set,alc,not_or,kx];exact⟨by omega,by omega,nu _ (by omega)⟩
 generalize hS:(((((s.add 2001 (.arr (some 2) [])).set [21] _).set [19] none).add 2000 _).set [21] _)=S;have o:∀q,q≠[2000]->(∀i,q≠[kx i])->(j7 [2000] (wd none) N kx S N).hp q=S.hp q:=fun q h1 h2=>Wo h1 h2 N;have Eb:iz (sH N M).bk=List.replicate N (some []):=by simp[sH,iz,MF]
 refine wG E (τ:=Wr) (s2:=mk [(1,.d g),(2,.d (i64 1000)),(7,.bx [0] 0),(8,.d (i64 0))] (wO 402 [11] ns root 1000 (sH N M)) [0,2,4,5,11,402]) (cw.le (D9 (ρ:=MQ) jN ?_ (fun q hq=>?_) (fun q hq=>?_) rfl rfl (by rw[hU];rfl) fun q _ hn=>by
  rw[hU]at hn;exfalso
  revert hn
  cases q.1<;>simp[b9])) h
 .have e:∀i,(j7 [2000] (wd none) N kx S N).fr i=s.fr i:=fun i=>by rw[Wp,<-hS];rfl
  exact⟨⟨by rw[e,ph];rfl,rfl⟩,⟨by rw[e,pj];rfl,rfl⟩,⟨by rw[e,hf7];rfl,rfl⟩,⟨by rw[e,hf8];rfl,rfl⟩,trivial⟩
 .rcases ak1.1 hq with hq|hq
  .unfold wP gC at hq;simp only[alc,alv,or_false]at hq;obtain rfl|rfl|rfl|rfl|rfl:=hq
   .show(j7 [2000] (wd none) N kx S N).hp [21]=_;rw[o [21] (by simp) (fun i=>by simp[kx];omega),<-hS];simp only[St.set,aA,if_true,Ob.ren,cg,AV.ren,sH,amc,List.length_nil,hN];rfl
   .show(j7 [2000] (wd none) N kx S N).hp [2001]=_;rw[o [2001] (by simp) (fun i=>by simp[kx];omega),<-hS];simp[St.set,St.add,aA,Ob.ren,sH]
   .show(j7 [2000] (wd none) N kx S N).hp [2000]=_;rw[Wl (by rw[<-hS];simp[St.set,St.add,aA]) N,Eb];simp only[Ob.ren,Ws];congr 2;refine alI fun j hj=>?_;rw[if_pos (alw.1 hj),alC];rfl
   .show(j7 [2000] (wd none) N kx S N).hp [16]=_;rw[o [16] (by simp) (fun i=>by simp[kx];omega),<-hS];simp[St.set,St.add,aA,Ob.ren,sH,h16,ew]
   .show(j7 [2000] (wd none) N kx S N).hp [18]=_;rw[o [18] (by simp) (fun i=>by simp[kx];omega),<-hS];simp[St.set,St.add,aA,Ob.ren,sH,h18,ew]
  .rw[Eb]at hq;obtain⟨j,zs,h1,rfl⟩:=jh.1 hq;rw[amv]at h1;split at h1
   .rename_i hj;cases h1;show(j7 [2000] (wd none) N kx S N).hp [kx j]=_;rw[Wn (fun i=>by simp[kx];omega) (fun i j e=>by simp[kx]at e;exact e) N j hj];rfl
   .cases h1
 .rcases l9 (o:=q.2) hq with e|e|e|e|e|⟨j,e⟩<;>rw[e]
  .rfl
  .rfl
  .rfl
  .rfl
  .rfl
  .show MQ [3000+j]=_;simp only[MQ];rw[if_neg (by omega),if_neg (by omega),if_neg (by omega),if_neg (by omega),if_neg (by omega),Nat.add_sub_cancel_left]
end Go.Proofs.YtpmniabdmbmafaaGreatDoor

namespace Go.Proofs.YtpmniabdmbmafaaGreatDoor
open Go.Ab
def Wt(ops:Array Oper)(l:Ns)(n:Nat):Bool:=(List.range n).all fun i=>(l.getD i ([],[],[])).2.1.isEmpty&&((l.getD i ([],[],[])).1.isEmpty||Cd (zt [] ops.toList) i n)
theorem Wu{ops:Array Oper}{l:Ns}{R W:List Name}{N:List Nat}(n:Nat)(hl:l.length=n)(hs:ops.size=n+1)(h1:fc ops (l++[([],[],N)])=true)(h2:Wt ops l n=true):fc ops (l++[(R,W,N)])=true:=by
 have g:∀(x:List Name×List Name×List Nat) (k:Nat),k<n->(l++[x]).getD k ([],[],[])=l.getD k ([],[],[]):=fun x k hk=>by
  rw[akX,alj (by omega),<-akX]
 have gn:∀(x:List Name×List Name×List Nat),(l++[x]).getD n ([],[],[])=x:=fun x=>by
  rw[akX,aln (by omega),hl,am5];rfl
 unfold fc at h1 ⊢;simp only at h1 ⊢;rw[alr]at h1 ⊢;intro i hi;have aq:i<n+1:=by rw[<-hs];exact alw.1 hi
 have a1:=h1 i hi;rw[ak7,alr]at a1 ⊢;refine⟨a1.1,fun k hk=>?_⟩;have aC:k<n+1:=by rw[<-hs];exact alw.1 hk
 have a2:=a1.2 k hk;rw[ak7,ak7]at a2 ⊢;obtain⟨⟨b1,_⟩,b3⟩:=a2
 have nn:∀k,k<n+1->((l++[(R,W,N)]).getD k ([],[],[])).2.2=((l++[([],[],N)]).getD k ([],[],[])).2.2:=fun k hk=>by
  by_cases e:k<n
  .rw[g _ k e,g _ k e]
  .obtain rfl:k=n:=by omega
   rw[gn,gn]
 refine⟨⟨b1,?_⟩,by rw[nn k aC,nn i aq];exact b3⟩;unfold Wt at h2;rw[alr]at h2;by_cases e:k<n
 .have:=h2 k (alw.2 e);rw[ak7,an1]at this;rw[g _ k e,this.1];rfl
 .obtain rfl:k=n:=by omega
  rw[gn];by_cases ei:i=k
  .rw[alr];intro p _;simp[ei]
  .have aU:i<k:=by omega
   have:=h2 i (alw.2 aU);rw[ak7,an1,alF,an1]at this;rw[alr];intro p _;rw[g _ i aU,this.1];obtain h|h:=this.2
   .rw[h];simp
   .rw[h];simp
end Go.Proofs.YtpmniabdmbmafaaGreatDoor

namespace Go.Proofs.YtpmniabdmbmafaaGreatDoor
open Go.Ab Tryz
theorem ajI{G}(ns:List TN)(root:Int)(q:SQ)(hn:ns.length<=4000)(hq:D7 ns q) :
  HP prog G 81 [bU ns root,fQ q] (fun v=>v=.d (.bool (qu ns q))):=by
 obtain⟨a,b⟩:=q;obtain⟨l1,l2,k1,k2⟩:=hq;simp only at l1 l2 k1 k2;generalize hv:qu ns (a,b)=v;unfold qu at hv;simp only at hv;unfold fQ aL bU at *
 refine cj func81 rfl (by decide +kernel) (by simp[ntmps81]) (aS fun E=>?_);simp only[go_sem];refine eU E [2] (.agg [.sl (some 4) (ns.map aK),i64 root]) rfl rfl ?_;refine eU E [3] (.agg [.sl none (a.map i64),.sl none (b.map i64)]) rfl rfl ?_
 refine bC E (X:={ i:Nat // i<=a.length∧(a.take i).any (sC ns b)=false }) (fun x=>[(2,.d (.ptr (.agg [.sl (some 4) (ns.map aK),i64 root]))),(3,.d (.ptr (.agg [.sl none (a.map i64),.sl none (b.map i64)]))),(5,.d (i64 x.1))])
  (fun _=>[]) [] (fun x=>a.length-x.1) ⟨0,ale _,by simp⟩ id ?_ ?_
 .simp only[go_sem]
  all_goals first|rfl|(and_intros<;>first|rfl|trivial)
 rintro⟨i,hi,yL⟩ E0;refine bK E0 fun Q' hQ E'=>?_;simp only at hi ⊢;simp only[go_sem];refine aI E' ?_ ?_<;>intro h1<;>simp only[go_sem]
 .have aq:i<a.length:=by omega
  have hx:=k1 _ (ak2 aq);have ki:=hx.1;have jK:=hx.2;have bS:(a.map i64).getD i .aY=i64 a[i]:=fe aq;have hnd:=kp hx;have Wv:sC ns b a[i]=true->(a.any (sC ns b)||b.any (uV ns))=true:=fun g=>by rw[alG.2 ⟨_,ak2 aq,g⟩];rfl
  refine bz mixed E' fun X=>?_;simp only[go_sem];refine⟨by omega,?_⟩;rw[bS];simp only[go_sem];refine⟨by omega,?_⟩;rw[hnd];simp only[go_sem];(try refine⟨by decide +kernel,?_⟩)
  repeat (first
   |(apply fm E';(· simp only[go_sem]);(· intro h;(try simp only[bq]at h);simp only[↓h,go_sem];rfl);simp only[go_sem])
   |(apply gm E';(· decide);simp only[go_sem]))
  refine ck E' ?_ ?_<;>intro h2<;>simp only[go_sem]
  .have h3:(decide (ah ns a[i]=2)||decide (ah ns a[i]=9)||decide (ah ns a[i]=10))=true:=h2;rw[Wv (by rw[sC,h3];rfl)]at hv;rw[hQ];simp only[go_sem];rw[<-hv]
  have h3:(decide (ah ns a[i]=2)||decide (ah ns a[i]=9)||decide (ah ns a[i]=10))=false:=h2;refine eU E' [6] (.agg [i64 (nd ns a[i].toNat).k,i64 (nd ns a[i].toNat).a,i64 (nd ns a[i].toNat).b,.sl (some 2) ((nd ns a[i].toNat).l.map aP)]) rfl rfl ?_
  refine bC E' (X:={ j:Nat // j<=b.length∧(b.take j).any (fun y=>gY ns a[i] y)=false }) (fun y=>[(2,.d (.ptr (.agg [.sl (some 4) (ns.map aK),i64 root]))),(3,.d (.ptr (.agg [.sl none (a.map i64),.sl none (b.map i64)]))),(5,.d (i64 i)),(6,.d (.ptr (.agg [i64 (nd ns a[i].toNat).k,i64 (nd ns a[i].toNat).a,i64 (nd ns a[i].toNat).b,.sl (some 2) ((nd ns a[i].toNat).l.map aP)]))),(7,.d (i64 y.1))])
   (fun _=>[]) [] (fun y=>b.length-y.1) ⟨0,ale _,by simp⟩ id ?_ ?_
  .simp only[go_sem]
   all_goals first|rfl|(and_intros<;>first|rfl|trivial)
  rintro⟨j,hj,ov⟩ E1;refine bK E1 fun Q2 cz E2=>?_;simp only at hj ⊢;simp only[go_sem];refine aI E2 ?_ ?_<;>intro h2<;>simp only[go_sem]
  .have aX:j<b.length:=by omega
   have hy:=k2 _ (ak2 aX);have VP:=hy.1;have VQ:=hy.2;have se:(b.map i64).getD j .aY=i64 b[j]:=fe aX;have D8:=kp hy;refine bz mixed E2 fun X=>?_;simp only[go_sem];refine⟨by omega,?_⟩;rw[se];simp only[go_sem];refine⟨by omega,?_⟩;rw[D8];simp only[go_sem];(try refine⟨by decide +kernel,?_⟩);refine bH E2 ?_ ?_<;>intro g7<;>simp only[go_sem]
   .refine bH E2 ?_ ?_<;>intro g8<;>simp only[go_sem]
    .refine aI E2 ?_ ?_<;>intro g9<;>simp only[go_sem]
     .have kI:gY ns a[i] b[j]=true:=by
       rw[gY,show decide (ah ns a[i]=11)=true from decide_eq_true g7,show decide (ah ns b[j]=11)=true from decide_eq_true g8,decide_eq_true g9];rfl
      rw[Wv (by rw[sC,h3,anC];exact alG.2 ⟨_,ak2 aX,kI⟩)]at hv;rw[cz];simp only[go_sem];rw[hQ];simp only[go_sem];rw[<-hv]
     .rw[cz];refine⟨⟨j+1,aX,rA aX ov (by rw[gY,decide_eq_false g9,amC])⟩,by show b.length-(j+1)<b.length-j;omega,id,?_⟩;simp only[go_sem];rw[aD ⟨by omega,by omega⟩]
      and_intros<;>first|rfl|trivial
    .rw[cz];refine⟨⟨j+1,aX,rA aX ov (by rw[gY,show decide (ah ns b[j]=11)=false from decide_eq_false g8,amC,alQ])⟩,by show b.length-(j+1)<b.length-j;omega,id,?_⟩;simp only[go_sem];rw[aD ⟨by omega,by omega⟩]
     and_intros<;>first|rfl|trivial
   .rw[cz];refine⟨⟨j+1,aX,rA aX ov (by rw[gY,show decide (ah ns a[i]=11)=false from decide_eq_false g7,alQ,alQ])⟩,by show b.length-(j+1)<b.length-j;omega,id,?_⟩;simp only[go_sem];rw[aD ⟨by omega,by omega⟩]
    and_intros<;>first|rfl|trivial
  .have gT:j=b.length:=by omega
   subst gT;rw[alk]at ov;rw[cz];simp only[go_sem];rw[hQ];refine⟨⟨i+1,aq,rA aq yL (by rw[sC,h3,ov];rfl)⟩,by show a.length-(i+1)<a.length-i;omega,id,?_⟩;simp only[go_sem];rw[aD ⟨by omega,by omega⟩]
   and_intros<;>first|rfl|trivial
 have de:i=a.length:=by omega
 subst de;rw[alk]at yL;rw[yL,anC]at hv;rw[hQ];simp only[go_sem]
 refine bC E (X:={ i:Nat // i<=b.length∧(b.take i).any (uV ns)=false }) (fun x=>[(2,.d (.ptr (.agg [.sl (some 4) (ns.map aK),i64 root]))),(3,.d (.ptr (.agg [.sl none (a.map i64),.sl none (b.map i64)]))),(9,.d (i64 x.1))])
  (fun _=>[]) [] (fun x=>b.length-x.1) ⟨0,ale _,by simp⟩ id ?_ ?_
 .simp only[go_sem]
  all_goals first|rfl|(and_intros<;>first|rfl|trivial)
 rintro⟨j,hj,ov⟩ E0;refine bK E0 fun Q2 cz E2=>?_;simp only at hj ⊢;simp only[go_sem];refine aI E2 ?_ ?_<;>intro h1<;>simp only[go_sem]
 .have aX:j<b.length:=by omega
  have hy:=k2 _ (ak2 aX);have VP:=hy.1;have VQ:=hy.2;have se:(b.map i64).getD j .aY=i64 b[j]:=fe aX;have D8:=kp hy;refine bz mixed E2 fun X=>?_;simp only[go_sem];refine⟨by omega,?_⟩;rw[se];simp only[go_sem];refine⟨by omega,?_⟩;rw[D8];simp only[go_sem];(try refine⟨by decide +kernel,?_⟩)
  repeat (first
   |(apply fm E2;(· simp only[go_sem]);(· intro h;(try simp only[bq]at h);simp only[↓h,go_sem];rfl);simp only[go_sem])
   |(apply gm E2;(· decide);simp only[go_sem]))
  refine ck E2 ?_ ?_<;>intro h2<;>simp only[go_sem]
  .have h3:uV ns b[j]=true:=h2;rw[alG.2 ⟨_,ak2 aX,h3⟩]at hv;rw[cz];simp only[go_sem];rw[<-hv]
  .have h3:uV ns b[j]=false:=h2;rw[cz];refine⟨⟨j+1,aX,rA aX ov h3⟩,by show b.length-(j+1)<b.length-j;omega,id,?_⟩;simp only[go_sem];rw[aD ⟨by omega,by omega⟩]
   and_intros<;>first|rfl|trivial
 .have gT:j=b.length:=by omega
  subst gT;rw[alk]at ov;rw[ov]at hv;rw[cz];simp only[go_sem];rw[<-hv]
end Go.Proofs.YtpmniabdmbmafaaGreatDoor

