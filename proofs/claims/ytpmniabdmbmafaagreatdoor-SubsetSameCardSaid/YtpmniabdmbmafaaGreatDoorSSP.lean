/-
  The document's solver: which gives way, which stand alone; sets put in place. (with the parts that follow it)
-/
import Derived.Test.YtpmniabdmbmafaaGreatDoorSSO
import Derived.Test.YtpmniabdmbmafaaGreatDoorSSK
import Derived.Test.YtpmniabdmbmafaaGreatDoorSSI
set_option linter.all false
set_option maxHeartbeats 16000000
namespace Go.Proofs.YtpmniabdmbmafaaGreatDoor
open Go.Ab Tryz
def wD(ns:List TN)(root fx:Int):D:=.agg [.sl (some 4) (ns.map aw),i64 root,i64 fx,.unk,.unk,.unk,.unk,.unk,.unk]
theorem Sz{G}(ns:List TN)(root fx x:Int)(hn:ns.length<=4000)(hx:aC ns x):HP prog G 122 [.ptr (wD ns root fx),i64 x] (fun r=>r=.d (.bool (kl fx ns x))):=by
 have gB:=hx.1;have iO:=hx.2;have hnd:=fZ hx;unfold wD;refine cJ func122 rfl (by decide +kernel) (by simp[ntmps122]) (aT fun E=>?_);simp only[go_sem];refine bF mixed E fun X=>?_;simp only[go_sem];refine wG X (by simp) rfl ?_;simp only[go_sem];refine⟨by omega,?_⟩;rw[hnd];simp only[go_sem];refine C8 X ?_ ?_<;>intro h2<;>simp only[go_sem]
 .refine wG X (by simp) rfl ?_;simp only[go_sem];refine⟨by omega,?_⟩;rw[hnd];simp only[go_sem];refine wG X (by simp) rfl ?_;simp only[go_sem];(try refine⟨by decide +kernel,?_⟩);rw[kl,show decide (ag ns x=11)=true from decide_eq_true h2,ajp]
 ·(try refine⟨by decide +kernel,?_⟩);rw[kl,show decide (ag ns x=11)=false from decide_eq_false h2,aiP]
theorem SA{G}(ns:List TN)(root fx:Int)(l:List Int)(hn:ns.length<=4000)(hl:l.length<=4000)(hk:∀x∈l,aC ns x):HP prog G 84 [.ptr (wD ns root fx),aL l] (fun r=>r=.d (.bool (lC fx ns l))):=by
 have cG:=fun x hx=>Sz (G:=G) ns root fx x hn hx;unfold aL lC;refine cJ func84 rfl (by decide +kernel) (by simp[ntmps84]) (aT fun E=>?_);simp only[go_sem]
 refine bK E (X:={ i:Nat // i<=l.length∧(l.take i).any (kl fx ns)=false }) (fun x=>[(0,.d (.ptr (wD ns root fx))),(1,.d (.sl none (l.map i64))),(5,.d (i64 x.1))])
  (fun _=>[]) [] (fun x=>l.length-x.1) ⟨0,aie _,by simp⟩ id ?_ ?_
 .simp only[go_sem]
  all_goals first|rfl|(and_intros<;>first|rfl|trivial)
 rintro⟨i,hi,ha⟩ E0;refine bW E0 fun Q' hQ E'=>?_;simp only at hi ⊢;simp only[go_sem];refine aH E' ?_ ?_<;>intro h1<;>simp only[go_sem]
 .have ao:i<l.length:=by omega
  have hx:=hk _ (ah2 ao);have gB:=hx.1;have iO:=hx.2;have dt:(l.map i64).getD i .aY=i64 l[i]:=dF ao;have hnd:=fZ hx;refine⟨by omega,?_⟩;rw[dt];simp only[go_sem];refine bj E' (cG _ hx) rfl rfl (by simp) ?_;rintro _ rfl;simp only[go_sem];refine cK E' ?_ ?_<;>intro h2<;>simp only[go_sem]
  .rw[hQ];simp only[go_sem];rw[aiA.2 ⟨_,ah2 ao,h2⟩]
  .rw[hQ];refine⟨⟨i+1,ao,pS ao ha h2⟩,by show l.length-(i+1)<l.length-i;omega,id,?_⟩;simp only[go_sem];rw[aD ⟨by omega,by omega⟩]
   and_intros<;>first|rfl|trivial
 .have bJ:i=l.length:=by omega
  subst bJ;rw[aij]at ha;rw[hQ];simp only[go_sem];rw[ha]
theorem SB{G}(ns:List TN)(root fx:Int)(l:List Int)(hn:ns.length<=4000)(hl:l.length<=4000)(hk:∀x∈l,aC ns x):HP prog G 83 [.ptr (wD ns root fx),aL l] (fun r=>r=.d (i64 (da fx ns l))):=by
 have cG:=fun x hx=>Sz (G:=G) ns root fx x hn hx;generalize hv:da fx ns l=v;unfold da at hv;unfold aL;refine cJ func83 rfl (by decide +kernel) (by simp[ntmps83]) (aT fun E=>?_);simp only[go_sem];refine aH E ?_ ?_<;>intro h0<;>simp only[go_sem]
 .rw[if_pos (by omega)]at hv;rw[<-hv]
 rw[if_neg (by omega)]at hv;have JW:0<l.length:=by omega
 have hz:=hk _ (ah2 JW);have um:=hz.1;have pd:=hz.2;have SC:(l.map i64).getD 0 .aY=i64 l[0]:=dF JW;have q9:=fZ hz;rw[show l.getD 0 0=l[0] by simp[JW]]at hv;generalize hZ:(nd ns l[0].toNat).a=Z at hv
 refine bK E (X:={ i:Nat // i<=l.length∧(l.take i).all (fun x=>kl fx ns x&&decide ((nd ns x.toNat).a=Z))=true }) (fun x=>[(0,.d (.ptr (wD ns root fx))),(1,.d (.sl none (l.map i64))),(5,.d (i64 x.1))])
  (fun _=>[]) [] (fun x=>l.length-x.1) ⟨0,aie _,by simp⟩ id ?_ ?_
 .simp only[go_sem]
  all_goals first|rfl|(and_intros<;>first|rfl|trivial)
 rintro⟨i,hi,ha⟩ E0;refine bW E0 fun Q' hQ E'=>?_;simp only at hi ⊢;simp only[go_sem];refine aH E' ?_ ?_<;>intro h1<;>simp only[go_sem]
 .have ao:i<l.length:=by omega
  have hx:=hk _ (ah2 ao);have gB:=hx.1;have iO:=hx.2;have dt:(l.map i64).getD i .aY=i64 l[i]:=dF ao;have hnd:=fZ hx;have bH:(kl fx ns l[i]&&decide ((nd ns l[i].toNat).a=Z))=false->l.all (fun x=>kl fx ns x&&decide ((nd ns x.toNat).a=Z))=false:=fun g=>akJ.2 ⟨_,ah2 ao,by rw[g];simp⟩;refine bF mixed E' fun X=>?_;simp only[go_sem];refine⟨by omega,?_⟩;rw[dt];simp only[go_sem];refine fo X (cG _ hx) rfl rfl (by simp) ?_;simp only[go_sem];refine MN X ?_ ?_<;>intro h2<;>simp only[go_sem]
  ·(try refine⟨by decide +kernel,?_⟩);rw[bH (by rw[akr];exact .inl (by simpa using h2)),if_neg (by simp)]at hv;rw[hQ];simp only[go_sem];rw[<-hv]
  .unfold wD;refine wG X (by simp) rfl ?_;simp only[go_sem];refine⟨by omega,?_⟩;rw[dt];simp only[go_sem];refine⟨by omega,?_⟩;rw[hnd];simp only[go_sem];refine wG X (by simp) rfl ?_;simp only[go_sem];refine⟨by omega,?_⟩;rw[SC];simp only[go_sem];refine⟨by omega,?_⟩;rw[q9];simp only[go_sem];(try refine⟨by decide +kernel,?_⟩);rw[hZ];refine aH E' ?_ ?_<;>intro h3<;>simp only[go_sem]
   .rw[bH (by rw[akr];exact .inr (decide_eq_false (by simpa using h3))),if_neg (by simp)]at hv;rw[hQ];simp only[go_sem];rw[<-hv]
   .rw[hQ];refine⟨⟨i+1,ao,Sk ao ha (by rw[aia];exact⟨by simpa using h2,decide_eq_true (by simpa using h3)⟩)⟩,by show l.length-(i+1)<l.length-i;omega,id,?_⟩;simp only[go_sem];unfold wD;rw[aD ⟨by omega,by omega⟩]
    and_intros<;>first|rfl|trivial
 .have bJ:i=l.length:=by omega
  subst bJ;rw[aij]at ha;rw[if_pos ha]at hv;rw[hQ];simp only[go_sem];unfold wD;refine bF mixed E fun X=>?_;simp only[go_sem];refine wG X (by simp) rfl ?_;simp only[go_sem];refine⟨by omega,?_⟩;rw[SC];simp only[go_sem];refine⟨by omega,?_⟩;rw[q9];simp only[go_sem];(try refine⟨by decide +kernel,?_⟩);rw[hZ,<-hv]
def dY(L:List (List Int)):D:=if L=[]then .ai else .sl none (L.map aL)
theorem JX(s:List Int):∀L:List (List Int),bC s L<=L.length
 |[]=>ain _
 |y::r=>by
   have:=JX s r;rw[bC,List.length_cons];split<;>omega
theorem SD{s:List Int}:∀{L:List (List Int)} {i:Nat} (h:i<L.length),i<bC s L->pK L[i] s=true
 |[],i,h,_=>absurd h (aiW _)
 |y::r,i,h,hi=>by
   rw[bC]at hi;split at hi
   .rename_i hy
    cases i with
    |zero=>exact hy
    |succ i=>exact SD (L:=r) (by simpa using h) (by omega)
   .exact absurd hi (aiW _)
theorem SE{s:List Int}:∀{L:List (List Int)} (h:bC s L<L.length),¬pK L[bC s L] s=true
 |[],h=>absurd h (aiW _)
 |y::r,h=>by
   by_cases hy:pK y s=true
   .have e:bC s (y::r)=bC s r+1:=by rw[bC,if_pos hy]
    have h':bC s r<r.length:=by rw[e]at h;simpa using h
    have:=SE h';simp only[e,List.getElem_cons_succ];exact this
   .have e:bC s (y::r)=0:=by rw[bC,if_neg hy]
    simp only[e,List.getElem_cons_zero];exact hy
theorem SF(L:List (List Int))(s:List Int):mg L s≠[]:=by
 unfold mg;split
 .rename_i h;intro e;rw[e]at h;exact absurd h.1 (aiW _)
 .simp
theorem agh(L:List (List Int))(s z:List Int):z∈mg L s↔z∈L∨z=s:=by
 unfold mg;split
 .rename_i h;refine⟨.inl,fun g=>g.elim id fun e=>?_⟩;rw[e,<-h.2,show L.getD (bC s L) []=L[bC s L]'h.1 by simp[h.1]];exact ah2 h.1
 .rw[ah1,ah6];have hm:z∈L↔z∈L.take (bC s L)∨z∈L.drop (bC s L):=by rw[<-ah1,ajJ]
  rw[hm];constructor
  .rintro(h|rfl|h)
   .exact .inl (.inl h)
   .exact .inr rfl
   .exact .inl (.inr h)
  .rintro((h|h)|rfl)
   .exact .inl h
   .exact .inr (.inr h)
   .exact .inr (.inl rfl)
theorem agi(L:List (List Int))(s:List Int):(mg L s).length<=L.length+1:=by
 have:=JX s L;unfold mg;split
 .omega
 .simp;omega
theorem agj{G}(L:List (List Int))(s:List Int)(hl:L.length<=1000000)(hs:s.length<=1000000)(hk:∀x∈L,x.length<=1000000):HP prog G 85 [.sl none (L.map aL),aL s] (fun r=>r=.d (.sl none ((mg L s).map aL))):=by
 have cL:=fun x hx=>agf (G:=G) x s hx hs;have cE:=fun x hx=>HB (G:=G) x s hx;have nS:=JX s L;generalize hv:mg L s=v;unfold mg at hv;unfold aL at *
 refine gy func85 rfl (by decide +kernel) (by simp[ntmps85]) (aT fun E=>?_);simp only[go_sem]
 refine bK E (X:={ i:Nat // i<=bC s L }) (fun x=>[(0,.d (.sl none (L.map fun l=>.sl none (l.map i64)))),(1,.d (.sl none (s.map i64))),(5,.d (i64 x.1))])
  (fun _=>[]) [] (fun x=>L.length-x.1) ⟨0,aie _⟩ id ?_ ?_
 .simp only[go_sem]
  all_goals first|rfl|(and_intros<;>first|rfl|trivial)
 rintro⟨i,hi⟩ E0;refine bW E0 fun Q' hQ E'=>?_;simp only at hi ⊢;simp only[go_sem];refine bS E' ?_ ?_<;>intro h1<;>simp only[go_sem]
 .have ao:i<L.length:=by omega
  have dt:(L.map fun l:List Int=>D.sl none (l.map i64)).getD i .aY=.sl none (L[i].map i64):=by simp[ao]
  refine⟨by omega,?_⟩;rw[dt];simp only[go_sem];refine bj E' (cL _ (hk _ (ah2 ao))) rfl rfl (by simp) ?_;rintro _ rfl;simp only[go_sem];refine cK E' ?_ ?_<;>intro h2<;>simp only[go_sem]
  .have pR:i<bC s L:=by
    rcases aiG i (bC s L)with g|g
    .exact g
    .have e:i=bC s L:=by omega
     subst e;exact absurd h2 (SE ao)
   rw[hQ];refine⟨⟨i+1,pR⟩,by show L.length-(i+1)<L.length-i;omega,id,?_⟩;simp only[go_sem];rw[aD ⟨by omega,by omega⟩]
   and_intros<;>first|rfl|trivial
  .have pR:i=bC s L:=by
    rcases aiG i (bC s L)with g|g
    .rw[SD ao g]at h2;cases h2
    .omega
   subst pR;rw[hQ];simp only[go_sem];refine bS E (fun _=>?_) (fun g=>absurd (by omega) g);simp only[go_sem];refine⟨by omega,?_⟩;rw[dt];simp only[go_sem];have o8:L.getD (bC s L) []=L[bC s L]:=by simp[ao]
   refine bj E (cE _ (hk _ (ah2 ao))) rfl rfl (by simp) ?_;rintro _ rfl;simp only[go_sem];refine aH E ?_ ?_<;>intro h3<;>simp only[go_sem]
   .rw[if_pos ⟨ao,by rw[o8,h3]⟩]at hv;subst hv;refine⟨[],?_⟩;simp only[go_sem]
   .rw[if_neg (fun g=>h3 (by rw[<-o8];exact g.2))]at hv;subst hv;refine bF mixed E fun X=>?_;simp only[go_sem];obtain⟨F,hF⟩:∃F:List Int->D,F=fun l=>.sl none (l.map i64):=⟨_,rfl⟩
    rw[<-hF,show D.sl none (s.map i64)=F s by rw[hF]];have e1:List.take ((bC s L)-0) (L.map F)=(L.take (bC s L)).map F:=by rw[Nat.sub_zero,ajN]
    have e2:List.take (L.length-(bC s L)) (List.drop (bC s L) (L.map F))=(L.drop (bC s L)).map F:=by rw[aic (by simp),ajC]
    have f1:((L.take (bC s L)).map F).length=(bC s L):=by simp;omega
    have f2:((L.drop (bC s L)).map F).length=L.length-(bC s L):=by simp
    have e3:List.take ((bC s L)+1) ((L.take (bC s L)).map F++[F s])=(L.take (bC s L)).map F++[F s]:=aic (by rw[ah7,f1];simp);have e4:(L.take (bC s L)).map F++[F s]++(L.drop (bC s L)).map F=(L.take (bC s L)++s::L.drop (bC s L)).map F:=by simp
    have e5:(bC s L)+1+(L.length-(bC s L))=(L.take (bC s L)++s::L.drop (bC s L)).length:=by simp;omega
    rw[e1,e2,f1,f2,e3,e4];refine⟨⟨by omega,by omega⟩,by omega,by omega,⟨by omega,by omega,by omega⟩,by omega,by decide +kernel,?_⟩;rw[e5];refine⟨[([44],none,(L.take (bC s L)++s::L.drop (bC s L)).map F)],?_⟩;simp only[go_sem]
 .have pR:bC s L=L.length:=by omega
  have bJ:i=L.length:=by omega
  subst bJ;rw[if_neg (by omega)]at hv;subst hv;rw[hQ];simp only[go_sem];refine bS E (fun g=>absurd g (by omega)) (fun _=>?_);simp only[go_sem];rw[<-pR];refine bF mixed E fun X=>?_;simp only[go_sem];obtain⟨F,hF⟩:∃F:List Int->D,F=fun l=>.sl none (l.map i64):=⟨_,rfl⟩
  rw[<-hF,show D.sl none (s.map i64)=F s by rw[hF]];have e1:List.take ((bC s L)-0) (L.map F)=(L.take (bC s L)).map F:=by rw[Nat.sub_zero,ajN]
  have e2:List.take (L.length-(bC s L)) (List.drop (bC s L) (L.map F))=(L.drop (bC s L)).map F:=by rw[aic (by simp),ajC]
  have f1:((L.take (bC s L)).map F).length=(bC s L):=by simp;omega
  have f2:((L.drop (bC s L)).map F).length=L.length-(bC s L):=by simp
  have e3:List.take ((bC s L)+1) ((L.take (bC s L)).map F++[F s])=(L.take (bC s L)).map F++[F s]:=aic (by rw[ah7,f1];simp);have e4:(L.take (bC s L)).map F++[F s]++(L.drop (bC s L)).map F=(L.take (bC s L)++s::L.drop (bC s L)).map F:=by simp
  have e5:(bC s L)+1+(L.length-(bC s L))=(L.take (bC s L)++s::L.drop (bC s L)).length:=by simp;omega
  rw[e1,e2,f1,f2,e3,e4];refine⟨⟨by omega,by omega⟩,by omega,by omega,⟨by omega,by omega,by omega⟩,by omega,by decide +kernel,?_⟩;rw[e5];refine⟨[([44],none,(L.take (bC s L)++s::L.drop (bC s L)).map F)],?_⟩;simp only[go_sem]
theorem JY{G}(L:List (List Int))(s:List Int)(hl:L.length<=1000000)(hs:s.length<=1000000)(hk:∀x∈L,x.length<=1000000):HP prog G 85 [dY L,aL s] (fun r=>r=.d (dY (mg L s))):=by
 have h:=agj (G:=G) L s hl hs hk;have e:dY (mg L s)=.sl none ((mg L s).map aL):=by rw[dY,if_neg (SF L s)]
 rw[e];by_cases hL:L=[]
 .subst hL;exact h.wk ⟨.ai _,.refl _,trivial⟩
 .rw[dY,if_neg hL];exact h
end Go.Proofs.YtpmniabdmbmafaaGreatDoor

namespace Go.Proofs.YtpmniabdmbmafaaGreatDoor
open Go.Ab
def JZ(l:List Nat):Option (List D):=some (l.map nD)
def gJ(bk:List (List Nat)):List (Option (List D)):=bk.map JZ
def fJ(a:Name)(ns:List TN)(root fx:Int)(w:SW):Ob:=.box [.d (.sl (some 4) (ns.map aw)),.d (i64 root),.d (i64 fx),.vw a 0 w.al.length,.va [2] 0 997,.vw [4] 0 w.be.length,.vw [5] 0 w.ab.length,.d (.bool w.mx),.d (.bool w.fl)]
def wP(h:Nat)(a:Name)(ns:List TN)(root fx:Int)(w:SW):List (Name×Ob) :=
 [([0],fJ a ns root fx w),(a,.arr (some 2) (w.al.map fc)),([2],.xx (b9 h 0 (gJ w.bk))),([4],.arr none (w.be.map dY)),([5],.arr none (w.ab.map dY))]
def wO(h:Nat)(a:Name)(ns:List TN)(root fx:Int)(w:SW):List (Name×Ob):=wP h a ns root fx w++fD h (gJ w.bk) []
def du(a a':Name)(h:Nat)(f:Nat->Name)(p:Name):Name:=if p=a then a' else match p with
 |[x,j]=>if x=h then f j else p
 |_=>p
theorem J0{h h':Nat}{f:Name->Name}(hf:∀j,f [h,j]=[h',j]):∀(xs:List (Option (List D))) (i:Nat),bZ f (b9 h i xs)=b9 h' i xs
 |[],_=>rfl
 |none::r,i=>by rw[b9,bZ,J0 hf r (i+1)];rfl
 |some zs::r,i=>by
   rw[b9,bZ,J0 hf r (i+1)];simp only[AV.ren,hf];rfl
theorem iC{h:Nat}{xs:List (Option (List D))}{q:Name×Ob}:q∈fD h xs []↔∃j zs,xs[j]?=some (some zs)∧q=([h,j],.arr none zs):=by
 unfold fD;rw[aiR,qu];simp only[aiD]
structure tM(h:Nat)(a:Name):Prop where
 h:h≠0∧h≠2∧h≠4∧h≠5
 a:∃x,a=[x]∧x≠0∧x≠2∧x≠4∧x≠5
section
variable {h:Nat}{a:Name}{ns:List TN}{root fx:Int}{w:SW}
theorem jn(hn:tM h a):((wO h a ns root fx w).map (·.1)).Nodup:=by
 obtain⟨x,rfl,h0,h2,h4,h5⟩:=hn.a;obtain⟨a1,a2⟩:=Ea h (gJ w.bk) 0;unfold wO fD;rw[aiR,ail,aiZ];refine⟨?_,a1,fun p hp q hq e=>?_⟩
 .unfold wP;simp;omega
 .obtain⟨j,_,rfl⟩:=a2 _ hq;rw[e]at hp;simp[wP]at hp
theorem SG{α β:Type}[DecidableEq α]{z:β}:∀{l:List (α×β)},(l.map (·.1)).Nodup->∀q∈l,aE z l q.1=q.2
 |[],_,q,h=>by cases h
 |x::r,hn,q,h=>by
   rw[aid,ai3]at hn;rw[lP];rcases ah6.1 h with rfl|h
   .rw[if_pos rfl]
   .rw[if_neg (fun e=>hn.1 (by rw[<-e];exact ah9.2 ⟨q,h,rfl⟩))];exact SG hn.2 q h
theorem sf{fr:List (Nat×AV)}{hp:List (Name×Ob)}{u:List Nat}(hn:(hp.map (·.1)).Nodup){q:Name×Ob}(h:q∈hp):(mk fr hp u).hp q.1=some q.2:=by
 rw[tZ];exact SG (l:=hp.map fun x=>(x.1,some x.2)) (by rw[Bj];exact hn) (q.1,some q.2) (ah9.2 ⟨q,h,rfl⟩)
theorem zb{h':Nat}{a':Name}{f:Name->Name}(f0:f [0]=[0])(f2:f [2]=[2])(f4:f [4]=[4])(f5:f [5]=[5])(fa:f a=a')(fh:∀j,f [h,j]=[h',j]){q:Name×Ob}(hq:q∈wO h a ns root fx w) :
  (f q.1,q.2.ren f)∈wO h' a' ns root fx w:=by
 rcases ah1.1 hq with hq|hq
 .refine aif _ ?_;simp only[wP,ah6,aiw,or_false]at hq ⊢;obtain rfl|rfl|rfl|rfl|rfl:=hq
  .refine .inl ?_;rw[f0];simp[fJ,Ob.ren,bZ,AV.ren,fa,f2,f4,f5]
  .refine .inr (.inl ?_);rw[fa];rfl
  .refine .inr (.inr (.inl ?_));simp only[f2,Ob.ren,J0 fh]
  .refine .inr (.inr (.inr (.inl ?_)));rw[f4];rfl
  .refine .inr (.inr (.inr (.inr ?_)));rw[f5];rfl
 .obtain⟨j,zs,h1,rfl⟩:=iC.1 hq;refine ajd _ (iC.2 ⟨j,zs,h1,?_⟩);rw[fh];rfl
theorem mO{u:List Nat}(hu:([0,2,4,5,h].all fun x=>u.contains x)=true)(ha:bX u a=true){q:Name×Ob}(hq:q∈wO h a ns root fx w):q.2.bn u=true∧bX u q.1=true:=by
 simp only[List.all_cons,List.all_nil,akF,aia]at hu;obtain⟨u0,u2,u4,u5,uh⟩:=hu;rcases ah1.1 hq with hq|hq
 .simp only[wP,ah6,aiw,or_false]at hq;obtain rfl|rfl|rfl|rfl|rfl:=hq
  .refine⟨?_,u0⟩;simp only[fJ,Ob.bn,dU,AV.bn,ha];simp[bX,-List.contains_eq_mem,u2,u4,u5]
  .exact⟨rfl,ha⟩
  .exact⟨s7 uh _ _,u2⟩
  .exact⟨rfl,u4⟩
  .exact⟨rfl,u5⟩
 .obtain⟨j,zs,_,rfl⟩:=iC.1 hq;exact⟨rfl,uh⟩
theorem BU{U:List Nat}{τ ρ:Name->Name}{s:St}{fr:List (Nat×AV)}{u:List Nat}(hn:tM h a)(hf:my τ u s fr)(hs:∀q∈wO h a ns root fx w,s.hp (τ q.1)=some (q.2.ren τ))(hρ:∀q∈wO h a ns root fx w,ρ (τ q.1)=q.1)
  (hu:([0,2,4,5,h].all fun x=>u.contains x)=true) (ha:bX u a=true) (hU:(U.all fun x=>u.contains x)=true) (ah:∀q∈wO h a ns root fx w,bX U q.1=true->τ q.1=q.1):cF U τ s fr (wO h a ns root fx w) u :=
 ⟨hf,uX fun q hq=>⟨hs q hq,mO hu ha hq⟩,s8 (jn hn) hρ,hU,sQ ah⟩
theorem lH{p:Name}{o:Ob}(hq:(p,o)∈wO h a ns root fx w):p=[0]∨p=a∨p=[2]∨p=[4]∨p=[5]∨∃j,p=[h,j]:=by
 rcases ah1.1 hq with hq|hq
 .simp only[wP,ah6,aiw,or_false,ajM]at hq;rcases hq with⟨rfl,_⟩|⟨rfl,_⟩|⟨rfl,_⟩|⟨rfl,_⟩|⟨rfl,_⟩<;>simp
 .obtain⟨j,zs,_,e⟩:=iC.1 hq;simp only[ajM]at e;exact .inr (.inr (.inr (.inr (.inr ⟨j,e.1⟩))))
end
def sW:Name->Name:=du [1] [11] 202 fun j=>[402,j]
def tB(d:Nat):Name->Name:=du [11] [d,6] 402 fun j=>[d,302,j]
def rB(d:Nat):Name->Name
 |[x,6]=>if x=d then[11]else[x,6]
 |[x,302,j]=>if x=d then[402,j]else[x,302,j]
 |p=>p
section
variable {ns:List TN}{root fx:Int}{w w2:SW}
theorem mh:tM 202 [1]:=⟨by decide,1,rfl,by decide⟩
theorem qP:tM 302 [6]:=⟨by decide,6,rfl,by decide⟩
theorem jo:tM 402 [11]:=⟨by decide,11,rfl,by decide⟩
theorem Fk{fr:List (Nat×AV)}{u cu:List Nat}(hu:([0,2,4,5,202].all fun x=>cu.contains x)=true)(ha:bX cu [1]=true):lU sW cu (mk fr (wO 402 [11] ns root fx w) u) (wO 202 [1] ns root fx w) :=
 PB (uX fun q hq=>⟨sf (jn jo) (zb (f:=sW) (h':=402) (a':=[11]) rfl rfl rfl rfl rfl (fun _=>rfl) hq),mO hu ha hq⟩)
theorem Fl:nW sW (wO 202 [1] ns root fx w):=s8 (ρ:=du [11] [1] 402 fun j=>[202,j]) (jn mh) fun q hq=>by
 rcases lH (o:=q.2) hq with e|e|e|e|e|⟨j,e⟩<;>rw[e]<;>rfl
theorem Fo(h1:w.be.length=w2.be.length)(h2:w.ab.length=w2.ab.length)(h3:w.bk.length=w2.bk.length):nX (wO 202 [1] ns root fx w) (wO 302 [6] ns root fx w2):=by
 refine PD fun q hq o ho=>?_;have ho:(mk [] (wO 202 [1] ns root fx w) []).hp q.1=some o:=by rw[tZ];exact ho
 rcases ah1.1 hq with hq|hq
 .have hk:∀p o',(p,o')∈wP 202 [1] ns root fx w->(mk [] (wO 202 [1] ns root fx w) []).hp p=some o':=fun p o' hm=>sf (q:=(p,o')) (jn mh) (aif _ hm);simp only[wP,ah6,aiw,or_false]at hq;obtain rfl|rfl|rfl|rfl|rfl:=hq
  .show Ob.like o (fJ [6] ns root fx w2);rw[hk [0] (fJ [1] ns root fx w) (by simp[wP])]at ho;cases ho;exact rfl
  .exfalso
   have:(mk [] (wO 202 [1] ns root fx w) []).hp [6]=none:=by
    rw[tZ];refine yH ?_;rw[Bj];intro hm;obtain⟨x,hx,e⟩:=ah9.1 hm;rcases lH (o:=x.2) hx with g|g|g|g|g|⟨j,g⟩<;>rw[g]at e<;>simp at e
   rw[this]at ho;cases ho
  .show Ob.like o (.xx (b9 302 0 (gJ w2.bk)));rw[hk [2] (.xx (b9 202 0 (gJ w.bk))) (by simp[wP])]at ho;cases ho;exact⟨rfl,by simp[qw,gJ,h3]⟩
  .show Ob.like o (.arr none (w2.be.map dY));rw[hk [4] (.arr none (w.be.map dY)) (by simp[wP])]at ho;cases ho;exact⟨⟨rfl,rfl⟩,by simp[h1]⟩
  .show Ob.like o (.arr none (w2.ab.map dY));rw[hk [5] (.arr none (w.ab.map dY)) (by simp[wP])]at ho;cases ho;exact⟨⟨rfl,rfl⟩,by simp[h2]⟩
 .exfalso;obtain⟨j,zs,_,rfl⟩:=iC.1 hq
  have:(mk [] (wO 202 [1] ns root fx w) []).hp [302,j]=none:=by
   rw[tZ];refine yH ?_;rw[Bj];intro hm;obtain⟨x,hx,e⟩:=ah9.1 hm;rcases lH (o:=x.2) hx with g|g|g|g|g|⟨k,g⟩<;>rw[g]at e<;>simp at e
  rw[this]at ho;cases ho
theorem ze{d:Nat}{p:Name}(h:p=[0]∨p=[6]∨p=[2]∨p=[4]∨p=[5]∨∃j,p=[302,j]):fj sW d (wO 202 [1] ns root fx w) p=du [6] [d,6] 302 (fun j=>[d,302,j]) p:=by
 unfold fj;have de:∀p,(∃o,(p,o)∈wP 202 [1] ns root fx w)->((wO 202 [1] ns root fx w).any fun q=>q.1 == p)=true:=fun p ⟨o,ho⟩=>aiA.2 ⟨(p,o),aif _ ho,by simp⟩;have rT:∀p,(∀o,(p,o)∉wO 202 [1] ns root fx w)->((wO 202 [1] ns root fx w).any fun q=>q.1 == p)=false:=fun p hp=>ai6.2 fun x hx e=>hp x.2 (by rw[beq_iff_eq]at e;rw[<-e];exact hx);obtain rfl|rfl|rfl|rfl|rfl|⟨j,rfl⟩:=h
 .rw[de [0] ⟨_,by simp[wP];rfl⟩];rfl
 .rw[rT [6] fun o ho=>by rcases lH ho with g|g|g|g|g|⟨k,g⟩<;>simp at g];rfl
 .rw[de [2] ⟨_,by simp[wP];rfl⟩];rfl
 .rw[de [4] ⟨_,by simp[wP];rfl⟩];rfl
 .rw[de [5] ⟨_,by simp[wP];rfl⟩];rfl
 .rw[rT [302,j] fun o ho=>by rcases lH ho with g|g|g|g|g|⟨k,g⟩<;>simp at g];rfl
end
end Go.Proofs.YtpmniabdmbmafaaGreatDoor

namespace Go.Proofs.YtpmniabdmbmafaaGreatDoor
open Go.Ab
def kB(d:Nat):Name->Name:=du [6] [d,6] 302 fun j=>[d,302,j]
def wA(d:Nat)(ns:List TN)(root fx:Int)(w:SW):List (Name×Ob):=(wO 302 [6] ns root fx w).map fun x=>(kB d x.1,x.2.ren (kB d))
def iB:Name->Name
 |[_,6]=>[6]
 |[_,302,j]=>[302,j]
 |p=>p
theorem SH{f g:Name->Name}:∀{l:List Name},l.Nodup->(∀p∈l,g (f p)=p)->(l.map f).Nodup
 |[],_,_=>by simp
 |p::r,hn,hg=>by
   rw[ai3]at hn;rw[aid,ai3];refine⟨fun hm=>?_,SH hn.2 fun x hx=>hg x (ah8 _ hx)⟩;obtain⟨x,hx,e⟩:=ah9.1 hm;have h1:=hg x (ah8 _ hx);rw[e,hg p ah0]at h1;exact hn.1 (h1▸hx)
section
variable {ns:List TN}{root fx:Int}{w w2:SW}{d:Nat}
theorem agk:((wA d ns root fx w).map (·.1)).Nodup:=by
 unfold wA;rw[aiV,show((fun x:Name×Ob=>x.1) ∘ fun x=>(kB d x.1,x.2.ren (kB d)))=(kB d) ∘ (fun x:Name×Ob=>x.1)from rfl,<-aiV];refine SH (g:=iB) (jn qP) fun p hp=>?_;obtain⟨x,hx,rfl⟩:=ah9.1 hp;rcases lH (o:=x.2) hx with e|e|e|e|e|⟨j,e⟩<;>rw[e]<;>rfl
theorem agl{f g:Name->Name}{h:Nat}{a:Name}(f2:f [2]=g [2])(f4:f [4]=g [4])(f5:f [5]=g [5])(fa:f a=g a)(fh:∀j,f [h,j]=g [h,j]){q:Name×Ob}(hq:q∈wO h a ns root fx w):q.2.ren f=q.2.ren g:=by
 have hv:∀(xs:List (Option (List D))) (i:Nat),bZ f (b9 h i xs)=bZ g (b9 h i xs):=by
  intro xs
  induction xs with
  |nil=>intro i;rfl
  |cons o r ih=>intro i;cases o<;>simp only[b9,bZ,ih,AV.ren,fh]
 rcases ah1.1 hq with hq|hq
 .simp only[wP,ah6,aiw,or_false]at hq;obtain rfl|rfl|rfl|rfl|rfl:=hq
  .simp[fJ,Ob.ren,bZ,AV.ren,f2,f4,f5,fa]
  .rfl
  .simp only[Ob.ren,hv]
  .rfl
  .rfl
 .obtain⟨j,zs,_,rfl⟩:=iC.1 hq;rfl
theorem Fq(fr:List (Nat×AV))(u:List Nat)(r:AV)(hr:r.ren (fj sW d (wO 202 [1] ns root fx w))=r):ja (mk fr (wO 402 [11] ns root fx w) u) sW d (wO 202 [1] ns root fx w) (wO 302 [6] ns root fx w2) r=mk (jM fr d r) (wA d ns root fx w2) (d::u):=by
 have hk:∀x∈wO 302 [6] ns root fx w2,fj sW d (wO 202 [1] ns root fx w) x.1=kB d x.1:=fun x hx=>ze (lH (o:=x.2) hx)
 have hm:((wO 302 [6] ns root fx w2).map fun x=>(fj sW d (wO 202 [1] ns root fx w) x.1,some (x.2.ren (fj sW d (wO 202 [1] ns root fx w)))))=(wA d ns root fx w2).map fun x=>(x.1,some x.2):=by
  unfold wA;rw[aiV];refine aiQ fun x hx=>?_;rw[hk x hx,agl (g:=kB d) (ze (.inr (.inr (.inl rfl)))) (ze (.inr (.inr (.inr (.inl rfl))))) (ze (.inr (.inr (.inr (.inr (.inl rfl)))))) (ze (.inr (.inl rfl))) (fun j=>ze (.inr (.inr (.inr (.inr (.inr ⟨j,rfl⟩)))))) hx];rfl
 have hn:∀q:Name,aE ((mk fr (wO 402 [11] ns root fx w) u).hp q) ((wO 202 [1] ns root fx w).map fun x=>(sW x.1,(none:Option Ob))) q=none:=fun q=>by
  by_cases hq:q∈(wO 402 [11] ns root fx w).map (·.1)
  .have uU:q∈((wO 202 [1] ns root fx w).map fun x=>(sW x.1,x.2)).map (·.1):=by
    obtain⟨x,hx,rfl⟩:=ah9.1 hq;have:=zb (f:=du [11] [1] 402 fun j=>[202,j]) (h':=202) (a':=[1]) rfl rfl rfl rfl rfl (fun _=>rfl) hx;rw[aiV];refine ah9.2 ⟨_,this,?_⟩;show sW (du [11] [1] 402 (fun j=>[202,j]) x.1)=x.1;rcases lH (o:=x.2) hx with e|e|e|e|e|⟨j,e⟩<;>rw[e]<;>rfl
   have:=PA (z:=(mk fr (wO 402 [11] ns root fx w) u).hp q) uU;rw[aiV]at this;exact this
  .have h1:(mk fr (wO 402 [11] ns root fx w) u).hp q=none:=by rw[tZ];exact yH (by rw[Bj];exact hq)
   rw[h1];refine yH fun g=>hq ?_;rw[aiV]at g;obtain⟨x,hx,rfl⟩:=ah9.1 g;have:=zb (f:=sW) (h':=402) (a':=[11]) rfl rfl rfl rfl rfl (fun _=>rfl) hx;exact ah9.2 ⟨_,this,rfl⟩
 unfold ja;rw[hr,hm];unfold mk;congr 1
 .funext j;rw[vT];rfl
 .funext q;have:=hn q;unfold mk at this;simp only at this ⊢;rw[this]
theorem Fs{U:List Nat}{jy fr:List (Nat×AV)}{u0 u:List Nat}(hf:my (tB d) u (mk jy (wA d ns root fx w) u0) fr)(hu:([0,2,4,5,402].all fun x=>u.contains x)=true)(ha:bX u [11]=true)(hU:(U.all fun x=>u.contains x)=true)
  (kG:(U.contains 402||U.contains 11)=false):cF U (tB d) (mk jy (wA d ns root fx w) u0) fr (wO 402 [11] ns root fx w) u:=by
 have hk:∀q∈wO 402 [11] ns root fx w,(tB d q.1,q.2.ren (tB d))∈wA d ns root fx w:=fun q hq=>by
  have h1:=zb (f:=du [11] [6] 402 fun j=>[302,j]) (h':=302) (a':=[6]) rfl rfl rfl rfl rfl (fun _=>rfl) hq;refine ah9.2 ⟨_,h1,?_⟩
  have hv:∀(xs:List (Option (List D))) (i:Nat),bZ (kB d) (bZ (du [11] [6] 402 fun j=>[302,j]) (b9 402 i xs))=bZ (tB d) (b9 402 i xs):=by
   intro xs
   induction xs with
   |nil=>intro i;rfl
   |cons o r ih=>intro i;cases o<;>(simp only[b9,bZ,ih];rfl)
  rcases ah1.1 hq with hq|hq
  .simp only[wP,ah6,aiw,or_false]at hq;obtain rfl|rfl|rfl|rfl|rfl:=hq
   .rfl
   .rfl
   .simp only[Ob.ren,hv];rfl
   .rfl
   .rfl
  .obtain⟨j,zs,_,rfl⟩:=iC.1 hq;rfl
 refine BU (ρ:=rB d) jo hf (fun q hq=>sf agk (hk q hq)) (fun q hq=>?_) hu ha hU fun q hq hn=>?_
 .rcases lH (o:=q.2) hq with e|e|e|e|e|⟨j,e⟩<;>rw[e]
  .rfl
  .show rB d [d,6]=[11]
   simp[rB]
  .rfl
  .rfl
  .rfl
  .show rB d [d,302,j]=[402,j]
   simp[rB]
 .rw[ai5]at kG;rcases lH (o:=q.2) hq with e|e|e|e|e|⟨j,e⟩<;>rw[e]at hn ⊢
  .rfl
  .have:U.contains 11=true:=hn;rw[kG.2]at this;cases this
  .rfl
  .rfl
  .rfl
  .have:U.contains 402=true:=hn;rw[kG.1]at this;cases this
theorem Ft{U:List Nat}{h h' x x':Nat}{jy fr:List (Nat×AV)}{u0 u:List Nat}(hn:tM h [x])(lf:tM h' [x'])(hxh:(h,x)=(202,1)∨(h,x)=(402,11))(ahM:(h',x')=(302,6)∨(h',x')=(402,11))(hf:my (du [x'] [x] h' fun j=>[h,j]) u (mk jy (wO h [x] ns root fx w) u0) fr)
  (hu:([0,2,4,5,h'].all fun y=>u.contains y)=true) (ha:bX u [x']=true) (hU:(U.all fun y=>u.contains y)=true) (kG:(U.contains h'||U.contains x')=false):cF U (du [x'] [x] h' fun j=>[h,j]) (mk jy (wO h [x] ns root fx w) u0) fr (wO h' [x'] ns root fx w) u:=by
 have t0:∀y,y=0∨y=2∨y=4∨y=5->du [x'] [x] h' (fun j=>[h,j]) [y]=[y]:=fun y hy=>by
  unfold du;rw[if_neg];intro e;rw[ajc]at e;obtain⟨z,hz,h0⟩:=lf.a;rw[ajc]at hz;omega
 have tx:du [x'] [x] h' (fun j=>[h,j]) [x']=[x]:=by unfold du;rw[if_pos rfl]
 have th:∀j,du [x'] [x] h' (fun j=>[h,j]) [h',j]=[h,j]:=fun j=>by simp[du]
 refine BU (ρ:=du [x] [x'] h fun j=>[h',j]) lf hf (fun q hq=>sf (jn hn) (zb (t0 0 (by simp)) (t0 2 (by simp)) (t0 4 (by simp)) (t0 5 (by simp)) tx th hq)) (fun q hq=>?_) hu ha hU fun q hq hm=>?_
 .have r0:∀y,y=0∨y=2∨y=4∨y=5->du [x] [x'] h (fun j=>[h',j]) [y]=[y]:=fun y hy=>by
   unfold du;rw[if_neg];intro e;rw[ajc]at e;obtain⟨z,hz,h0⟩:=hn.a;rw[ajc]at hz;omega
  rcases lH (o:=q.2) hq with e|e|e|e|e|⟨j,e⟩<;>rw[e]
  .rw[t0 0 (by simp),r0 0 (by simp)]
  .rw[tx];simp[du]
  .rw[t0 2 (by simp),r0 2 (by simp)]
  .rw[t0 4 (by simp),r0 4 (by simp)]
  .rw[t0 5 (by simp),r0 5 (by simp)]
  .rw[th];simp[du]
 .rw[ai5]at kG;rcases lH (o:=q.2) hq with e|e|e|e|e|⟨j,e⟩<;>rw[e]at hm ⊢
  .exact t0 0 (by simp)
  .have:U.contains x'=true:=hm;rw[kG.2]at this;cases this
  .exact t0 2 (by simp)
  .exact t0 4 (by simp)
  .exact t0 5 (by simp)
  .have:U.contains h'=true:=hm;rw[kG.1]at this;cases this
end
end Go.Proofs.YtpmniabdmbmafaaGreatDoor

namespace Go.Proofs.YtpmniabdmbmafaaGreatDoor
open Go.Ab
def nK(k ax px:Nat)(ns:List TN)(root fx:Int)(w:SW)(ys:List D):List (Name×Ob) :=
 [([0],fJ [ax] ns root fx w),([ax],.arr (some 2) (w.al.map fc)),([2],.xx ((b9 202 0 ((gJ w.bk).set k none)).set k (.vw [px] 0 ys.length))),([4],.arr none (w.be.map dY)),([5],.arr none (w.ab.map dY)),([px],.arr none ys)]
def wQ(k ax px:Nat)(ns:List TN)(root fx:Int)(w:SW)(ys:List D):List (Name×Ob):=nK k ax px ns root fx w ys++fD 202 ((gJ w.bk).set k none) []
theorem SI{α β:Type}{f:α->β}(hf:∀a b,f a=f b->a=b):∀{l:List α},l.Nodup->(l.map f).Nodup
 |[],_=>by simp
 |x::r,h=>by
   rw[ai3]at h;rw[aid,ai3];refine⟨fun hm=>?_,SI hf h.2⟩;obtain⟨y,hy,e⟩:=ah9.1 hm;exact h.1 (hf _ _ e▸hy)
section
variable {k ax px:Nat}{ns:List TN}{root fx:Int}{w:SW}{ys:List D}
theorem Fu(hd:[0,ax,2,4,5,px].Nodup):((wQ k ax px ns root fx w ys).map (·.1)).Nodup:=by
 obtain⟨a1,a2⟩:=Ea 202 ((gJ w.bk).set k none) 0;unfold wQ fD;rw[aiR,ail,aiZ];refine⟨?_,a1,fun p hp q hq e=>?_⟩
 .have:=SI (f:=fun x:Nat=>[x]) (fun a b e=>by simpa using e) hd;exact this
 .obtain⟨j,_,rfl⟩:=a2 _ hq;rw[e]at hp;simp[nK]at hp
theorem J1{u:List Nat}(hu:([0,2,4,5,202,ax,px].all fun x=>u.contains x)=true){q:Name×Ob}(hq:q∈wQ k ax px ns root fx w ys):q.2.bn u=true∧bX u q.1=true:=by
 simp only[List.all_cons,List.all_nil,akF,aia]at hu;obtain⟨u0,u2,u4,u5,uh,ua,up⟩:=hu;rcases ah1.1 hq with hq|hq
 .simp only[nK,ah6,aiw,or_false]at hq;obtain rfl|rfl|rfl|rfl|rfl|rfl:=hq
  .refine⟨?_,u0⟩;simp[fJ,Ob.bn,dU,AV.bn,bX,-List.contains_eq_mem,u2,u4,u5,ua]
  .exact⟨rfl,ua⟩
  .exact⟨PE (s7 uh _ _) up,u2⟩
  .exact⟨rfl,u4⟩
  .exact⟨rfl,u5⟩
  .exact⟨rfl,up⟩
 .obtain⟨j,zs,_,rfl⟩:=iC.1 hq;exact⟨rfl,uh⟩
theorem oL{U:List Nat}{jy fr:List (Nat×AV)}{u:List Nat}{hp:List (Name×Ob)}(hf:my id u (mk jy hp u) fr)(hn:(hp.map (·.1)).Nodup)(hi:∀q∈hp,q.2.bn u=true∧bX u q.1=true)(hU:(U.all fun x=>u.contains x)=true):cF U id (mk jy hp u) fr hp u :=
 ⟨hf,uX fun q hq=>⟨by rw[Ob.lX id fun _=>rfl];exact sf hn hq,hi q hq⟩,s8 (ρ:=id) hn fun _ _=>rfl,hU,sQ fun _ _ _=>rfl⟩
theorem agm{jy fr:List (Nat×AV)}{u0 u U:List Nat}(hk:(gJ w.bk)[k]?=some (some ys))(hf:my (ar [([99],[202,k])]) u (mk jy (wO 202 [1] ns root fx w) u0) fr)(hu:([0,2,4,5,202,1,99].all fun x=>u.contains x)=true)(hU:(U.all fun x=>u.contains x)=true)(hU9:U.contains 99=false) :
  cF U (ar [([99],[202,k])]) (mk jy (wO 202 [1] ns root fx w) u0) fr (wQ k 1 99 ns root fx w ys) u:=by
 have ht:∀p:Name,p≠[99]->ar [([99],[202,k])] p=p:=fun p hp=>by simp[ar,aE,hp]
 have ho:=PF (h:=202) (p:=[99]) (τ:=ar [([99],[202,k])]) hk (by simp[ar,aE]) (fun j=>by simp[ar,aE])
 have hm:∀q∈wQ k 1 99 ns root fx w ys,(ar [([99],[202,k])] q.1,q.2.ren (ar [([99],[202,k])]))∈wO 202 [1] ns root fx w∧(q.1=[99]∨q.1≠[99]∧q.1≠[202,k]):=fun q hq=>by
  rcases ah1.1 hq with hq|hq
  .simp only[nK,ah6,aiw,or_false]at hq;obtain rfl|rfl|rfl|rfl|rfl|rfl:=hq
   .refine⟨aif _ ?_,by simp⟩;simp[wP,fJ,Ob.ren,bZ,AV.ren,ar,aE]
   .refine⟨aif _ ?_,by simp⟩;simp[wP,Ob.ren,ar,aE]
   .refine⟨aif _ ?_,by simp⟩;simp only[Ob.ren,ho];simp[wP,ar,aE]
   .refine⟨aif _ ?_,by simp⟩;simp[wP,Ob.ren,ar,aE]
   .refine⟨aif _ ?_,by simp⟩;simp[wP,Ob.ren,ar,aE]
   .refine⟨ajd _ (iC.2 ⟨k,ys,hk,?_⟩),.inl rfl⟩;simp[Ob.ren,ar,aE]
  .obtain⟨j,zs,h1,rfl⟩:=iC.1 hq;obtain⟨aJ,h1⟩:=PG h1;refine⟨ajd _ (iC.2 ⟨j,zs,h1,?_⟩),.inr ⟨by simp,by simp[aJ]⟩⟩;simp[Ob.ren,ar,aE]
 refine⟨hf,uX fun q hq=>⟨sf (jn mh) (hm q hq).1,J1 hu hq⟩,s8 (ρ:=ar [([202,k],[99])]) (Fu (by decide)) fun q hq=>?_,hU,sQ fun q hq hn=>?_⟩
 .rcases(hm q hq).2 with e|⟨e1,e2⟩
  .rw[e];simp[ar,aE]
  .rw[ht _ e1];simp[ar,aE,e2]
 .rcases(hm q hq).2 with e|⟨e1,e2⟩
  .rw[e]at hn;have:U.contains 99=true:=hn;rw[hU9]at this;cases this
  .exact ht _ e1
def mj(k ax px:Nat)(p:Name):Name:=if p=[302,k]then[px]else du [6] [ax] 302 (fun j=>[202,j]) p
def zf(k ax px:Nat)(p:Name):Name:=if p=[px]then[302,k]else du [ax] [6] 202 (fun j=>[302,j]) p
theorem SJ{s:St}{fr:List (Nat×AV)}{u U:List Nat}(hd:[0,ax,2,4,5,px].Nodup)(hk:(gJ w.bk)[k]?=some (some ys))(hs:∀q∈wQ k ax px ns root fx w ys,s.hp q.1=some q.2)(hf:my (mj k ax px) u s fr)(hu:([0,2,4,5,302].all fun x=>u.contains x)=true)(ha:bX u [6]=true)(hU:(U.all fun x=>u.contains x)=true)(kG:(U.contains 302||U.contains 6)=false) :
  cF U (mj k ax px) s fr (wO 302 [6] ns root fx w) u:=by
 have t1:∀y,y≠6->mj k ax px [y]=[y]:=fun y hy=>by simp[mj,du,hy]
 have t6:mj k ax px [6]=[ax]:=by simp[mj,du]
 have tk:mj k ax px [302,k]=[px]:=by simp[mj]
 have tj:∀j,j≠k->mj k ax px [302,j]=[202,j]:=fun j hj=>by simp[mj,du,hj]
 have hp:bZ (mj k ax px) (b9 302 0 (gJ w.bk))=(b9 202 0 ((gJ w.bk).set k none)).set k (.vw [px] 0 ys.length):=by
  apply aiY;intro i;rw[mZ,rC,aiD];have hlt:k<(gJ w.bk).length:=(ah3.1 hk).1;by_cases e:i=k
  .subst e;rw[aiC (by rw[qw,ai1];exact hlt),hk];simp[AV.ren,tk]
  .rw[aiy (fun g=>e g.symm),rC,aiy (fun g=>e g.symm),aiD]
   cases (gJ w.bk)[i]? with
   |none=>rfl
   |some o=>cases o<;>simp[AV.ren,tj i e]
 have dB:=hd;simp only[ai3,ah6,not_or,aiw,not_false_eq_true,akk,and_true]at dB;refine BU (ρ:=zf k ax px) qP hf (fun q hq=>hs (mj k ax px q.1,q.2.ren (mj k ax px)) ?_) (fun q hq=>?_) hu ha hU fun q hq hn=>?_
 .show(mj k ax px q.1,q.2.ren (mj k ax px))∈wQ k ax px ns root fx w ys;rcases ah1.1 hq with hq|hq
  .refine aif _ ?_;simp only[wP,ah6,aiw,or_false]at hq;obtain rfl|rfl|rfl|rfl|rfl:=hq
   .rw[t1 0 (by decide)];simp[nK,fJ,Ob.ren,bZ,AV.ren,t6,t1]
   .rw[t6];simp[nK,Ob.ren]
   .rw[t1 2 (by decide)];simp only[Ob.ren,hp];simp[nK]
   .rw[t1 4 (by decide)];simp[nK,Ob.ren]
   .rw[t1 5 (by decide)];simp[nK,Ob.ren]
  .obtain⟨j,zs,h1,rfl⟩:=iC.1 hq;by_cases e:j=k
   .subst e;rw[hk]at h1;cases h1;rw[tk];exact aif _ (by simp[nK,Ob.ren])
   .rw[tj j e];exact ajd _ (iC.2 ⟨j,zs,by rw[aiy fun g=>e g.symm];exact h1,rfl⟩)
 .have i1:∀y,y≠ax->y≠px->zf k ax px [y]=[y]:=fun y h1 h2=>by simp[zf,du,h1,h2]
  rcases lH (o:=q.2) hq with e|e|e|e|e|⟨j,e⟩<;>rw[e]
  .rw[t1 0 (by decide),i1 0 (by omega) (by omega)]
  .rw[t6];simp only[zf,du,ajc,and_true,if_true];rw[if_neg (by omega)]
  .rw[t1 2 (by decide),i1 2 (by omega) (by omega)]
  .rw[t1 4 (by decide),i1 4 (by omega) (by omega)]
  .rw[t1 5 (by decide),i1 5 (by omega) (by omega)]
  .by_cases ej:j=k
   .rw[ej,tk];simp[zf]
   .rw[tj j ej];simp[zf,du]
 .rw[ai5]at kG;rcases lH (o:=q.2) hq with e|e|e|e|e|⟨j,e⟩<;>rw[e]at hn ⊢
  .exact t1 0 (by decide)
  .have:U.contains 6=true:=hn;rw[kG.2]at this;cases this
  .exact t1 2 (by decide)
  .exact t1 4 (by decide)
  .exact t1 5 (by decide)
  .have:U.contains 302=true:=hn;rw[kG.1]at this;cases this
end
end Go.Proofs.YtpmniabdmbmafaaGreatDoor

namespace Go.Proofs.YtpmniabdmbmafaaGreatDoor
open Go.Ab Tryz
structure tN(w:SW):Prop where
 len:w.bk.length=997
 le:∀b,b<997->(w.bk.getD b []).length<=w.al.length
 mem:∀b,b<997->∀i,i∈w.bk.getD b []↔i<w.al.length∧jQ (w.al.getD i default)=b
theorem J2{l:List SQ}{i:Nat}(h:i<l.length):(l.map fc).getD i .aY=.agg [aL l[i].1,aL l[i].2]:=by simp[h,fc]
theorem SK{w:SW}{b:Nat}(h:b<w.bk.length):(gJ w.bk)[b]?=some (some ((w.bk.getD b []).map nD)):=by
 unfold gJ;simp[h,JZ]
theorem agn{U:List Nat}{jy fr:List (Nat×AV)}{u:List Nat}{hp ae:List (Name×Ob)}(he:ae=hp)(hf:my id u (mk jy ae u) fr)(hn:(hp.map (·.1)).Nodup)(hi:∀q∈hp,q.2.bn u=true∧bX u q.1=true)(hU:(U.all fun x=>u.contains x)=true):cF U id (mk jy ae u) fr hp u:=by
 subst he;exact oL hf hn hi hU
theorem agp{l:List Nat}{i:Nat}(h:i<l.length):(l.map nD).getD i .aY=i64 (l[i]:Nat):=by simp[h,nD]
theorem J3{G}(ns:List TN)(root fx:Int)(w:SW)(q:SQ)(hq:jG q)(pw:∀q'∈w.al,jG q')(hb:tN w)(hlen:w.al.length<=1000000)(hB:0<=jQ q∧jQ q<997) :
  bA prog G 46 [.bx [0] 0,.d (fc q)] (wO 202 [1] ns root fx w) [0,1,2,4,5,202] (fun r ae=>r=.aA []∧ae=wO 302 [6] ns root fx (bY w q)):=by
 generalize hW:bY w q=w';have c1:=agc (G:=G) q hq;have fO:fc q=.agg [(.sl none (q.1.map i64)),(.sl none (q.2.map i64))]:=rfl;rw[fO]at c1 ⊢;unfold wO wP fJ;simp only[List.cons_append,List.nil_append];refine eV func46 rfl (by decide +kernel) (by simp[ntmps46]) (aT fun E=>?_);simp only[go_sem];refine bj E c1 rfl rfl (by simp) ?_;rintro _ rfl;simp only[go_sem];refine eP E [3] (.agg [(.sl none (q.1.map i64)),(.sl none (q.2.map i64))]) (by simp only[go_sem]) rfl ?_;simp only[go_sem]
 rw[aiQ (l:=fD 202 (gJ w.bk) []) (g:=id) (fun x hx=>by
  obtain⟨j,zs,_,rfl⟩:=iC.1 hx
  rfl),List.map_id]
 obtain⟨b,qN⟩:∃b:Nat,jQ q=(b:Int):=⟨(jQ q).toNat,by omega⟩
 have xq:b<997:=by omega
 have Nz:=hb.len;have hle:=hb.le b xq;have hk:=SK (w:=w) (b:=b) (by omega);rw[qN];generalize J4:w.bk.getD b []=ys at *
 refine DM E (τ:=ar [([99],[202,b])]) (s2:=mk [(0,.bx [0] 0),(3,.d (.ptr (.agg [(.sl none (q.1.map i64)),(.sl none (q.2.map i64))]))),(4,.d (i64 b)),(5,.d (i64 0))] (wQ b 1 99 ns root fx w (ys.map nD)) [0,1,2,4,5,99,202]) (cF.le (agm hk ?_ rfl rfl rfl)) ?_
 .simp only[go_sem]
 unfold wQ nK fJ;simp only[List.cons_append,List.nil_append]
 refine bK E (X:={ i:Nat // i<=ys.length∧∀j∈ys.take i,w.al.getD j default≠q }) (fun x=>[(0,.bx [0] 0),(3,.d (.ptr (.agg [(.sl none (q.1.map i64)),(.sl none (q.2.map i64))]))),(4,.d (i64 b)),(5,.d (i64 x.1))])
  (fun _=>wQ b 1 99 ns root fx w (ys.map nD)) [0,1,2,4,5,99,202] (fun x=>ys.length-x.1) ⟨0,aie _,by simp⟩ id ?_ ?_
 .refine oL ?_ (Fu (by decide)) (fun q hq=>J1 rfl hq) rfl;simp only[go_sem]
 rintro⟨i,hi,bH⟩ E0;refine bW E0 fun Q' hQ E'=>?_;simp only;unfold wQ nK fJ;simp only[List.cons_append,List.nil_append];simp only[go_sem];have eJ:((b9 202 0 ((gJ w.bk).set b none)).set b (.vw [99] 0 ys.length))[b]?=some (.vw [99] 0 ys.length):=aiC (by rw[qw,ai1];simp[gJ];omega);refine H8 E' _ _ (DI [2] 0 997 .i64 b _ (by rw[oX]) (by rw[kF]) (by simp only[go_sem]) rfl rfl rfl xq) (by simp[cm]) ?_;rw[aiD];simp only[go_sem];refine H8 E' _ _ (H9 [2] b _ _ (by rw[kF];rfl) (by rw[kF];rfl) (by simp only[go_sem]) rfl rfl eJ) (by simp[cm]) ?_;simp only[go_sem];refine aH E' ?_ ?_<;>intro h1<;>simp only[go_sem]
 .have ao:i<ys.length:=by omega
  refine bF mixed E' fun X=>?_;simp only[go_sem];refine eg X [0] 0 none [.d (.sl (some 4) (ns.map aw)),.d (i64 root),.d (i64 fx),.vw [1] 0 w.al.length,.va [2] 0 997,.vw [4] 0 w.be.length,.vw [5] 0 w.ab.length,.d (.bool w.mx),.d (.bool w.fl)] (by simp only[go_sem]) rfl rfl ?_;simp only[go_sem];refine eg X [0] 0 none [.d (.sl (some 4) (ns.map aw)),.d (i64 root),.d (i64 fx),.vw [1] 0 w.al.length,.va [2] 0 997,.vw [4] 0 w.be.length,.vw [5] 0 w.ab.length,.d (.bool w.mx),.d (.bool w.fl)] (by simp only[go_sem]) rfl rfl ?_;simp only[go_sem];refine qt X _ _ (DI [2] 0 997 .i64 b _ (by rw[oX]) (by rw[kF]) (by simp only[go_sem]) rfl rfl rfl xq) (by simp[cm]) ?_;rw[aiD];simp only[go_sem];refine qt X _ _ (H9 [2] b _ _ (by rw[kF];rfl) (by rw[kF];rfl) (by simp only[go_sem]) rfl rfl eJ) (by simp[cm]) ?_;simp only[go_sem];refine⟨by omega,?_⟩;rw[agp ao];have ng:=(hb.mem b xq ys[i]).1 (by rw[J4];exact ah2 ao);have hg:w.al.getD ys[i] default=w.al[ys[i]]'ng.1:=by simp[ng.1]
  have BV:=pw _ (ah2 ng.1);simp only[go_sem];refine⟨by omega,?_⟩;rw[J2 ng.1];have c2:=agb (G:=G) (w.al[ys[i]]'ng.1) q (by have:=BV.1;omega) (by have:=BV.2.1;omega);unfold fc at c2;simp only[go_sem];refine fo X c2 rfl rfl (by simp) ?_;simp only[go_sem];(try refine⟨by decide +kernel,?_⟩);refine aH E' ?_ ?_<;>intro h2<;>simp only[go_sem]
  .have de:q∈w.al:=by rw[<-h2];exact ah2 ng.1
   have kR:w'=w:=by rw[<-hW,bY,if_pos de]
   rw[hQ];show ∃r ae u' τ,(r=.aA []∧ae=wO 302 [6] ns root fx w')∧cF [0,1,2,4,5,202] τ (oR _ (.aA [])) [(0,r)] ae u';rw[MV];refine⟨.aA [],wO 302 [6] ns root fx w,[0,1,2,4,5,202,302,6],mj b 1 99,⟨rfl,by rw[kR]⟩,?_⟩;rw[show ys.length=(ys.map nD).length from(aik _).symm];exact SJ (ax:=1) (px:=99) (by decide) hk (fun x hx=>sf (Fu (by decide)) hx) ⟨⟨rfl,rfl⟩,trivial⟩ rfl rfl rfl rfl
  .rw[hQ,nh];refine⟨⟨i+1,by omega,fun j hj=>?_⟩,by show ys.length-(i+1)<ys.length-i;omega,id,?_⟩
   .rw[ah5 ao]at hj;rcases ah1.1 hj with hj|hj
    .exact bH j hj
    .rw[ahZ.1 hj,hg];exact h2
   .refine agn (hp:=wQ b 1 99 ns root fx w (ys.map nD)) ?_ ?_ (Fu (by decide)) (fun x hx=>J1 (ax:=1) (px:=99) rfl hx) rfl
    .unfold wQ nK fJ;rw[aik];rfl
    .simp only[go_sem];rw[aD ⟨by omega,by omega⟩];rfl
 .have bJ:i=ys.length:=by omega
  subst bJ;rw[hQ];simp only[go_sem]
  have agq:q∉w.al:=fun hm=>by
   obtain⟨j,hj,rfl⟩:=aiB hm;have hg:w.al.getD j default=w.al[j]:=by simp[hj]
   refine bH j ?_ hg;rw[aij,<-J4];exact(hb.mem b xq j).2 ⟨hj,by rw[hg];exact qN⟩
  refine bF mixed E fun X=>?_;simp only[go_sem];refine eg X [0] 0 none [.d (.sl (some 4) (ns.map aw)),.d (i64 root),.d (i64 fx),.vw [1] 0 w.al.length,.va [2] 0 997,.vw [4] 0 w.be.length,.vw [5] 0 w.ab.length,.d (.bool w.mx),.d (.bool w.fl)] (by simp only[go_sem]) rfl rfl ?_;simp only[go_sem];refine eg X [0] 0 none [.d (.sl (some 4) (ns.map aw)),.d (i64 root),.d (i64 fx),.vw [1] 0 w.al.length,.va [2] 0 997,.vw [4] 0 w.be.length,.vw [5] 0 w.ab.length,.d (.bool w.mx),.d (.bool w.fl)] (by simp only[go_sem]) rfl rfl ?_;simp only[go_sem];refine qt X _ _ (DI [2] 0 997 .i64 b _ (by rw[oX]) (by rw[kF]) (by simp only[go_sem]) rfl rfl rfl xq) (by simp[cm]) ?_;rw[aiD];simp only[go_sem];refine qt X _ _ (H9 [2] b _ _ (by rw[kF];rfl) (by rw[kF];rfl) (by simp only[go_sem]) rfl rfl eJ) (by simp[cm]) ?_;simp only[go_sem];refine eg X [0] 0 none [.d (.sl (some 4) (ns.map aw)),.d (i64 root),.d (i64 fx),.vw [1] 0 w.al.length,.va [2] 0 997,.vw [4] 0 w.be.length,.vw [5] 0 w.ab.length,.d (.bool w.mx),.d (.bool w.fl)] (by simp only[go_sem]) rfl rfl ?_;simp only[go_sem];refine⟨by omega,?_⟩;refine qt X _ _ (DI [2] 0 997 .i64 b _ (by rw[oX]) (by rw[kF]) (by simp only[go_sem]) rfl rfl rfl xq) (by simp[cm]) ?_;rw[aiD];simp only[go_sem];refine qt X _ _ (abt [2] b _ (.vw [56] 0 (ys.length+1)) (by rw[kF];rfl) (by rw[kF]) rfl rfl rfl rfl) (by simp[cm]) ?_;simp only[go_sem];(try refine⟨by decide +kernel,?_⟩);refine bF mixed E fun X=>?_;simp only[go_sem];refine eg X [0] 0 none [.d (.sl (some 4) (ns.map aw)),.d (i64 root),.d (i64 fx),.vw [1] 0 w.al.length,.va [2] 0 997,.vw [4] 0 w.be.length,.vw [5] 0 w.ab.length,.d (.bool w.mx),.d (.bool w.fl)] (by simp only[go_sem]) rfl rfl ?_;simp only[go_sem];refine⟨by omega,?_⟩;refine eg X [0] 0 none [.d (.sl (some 4) (ns.map aw)),.d (i64 root),.d (i64 fx),.vw [1] 0 w.al.length,.va [2] 0 997,.vw [4] 0 w.be.length,.vw [5] 0 w.ab.length,.d (.bool w.mx),.d (.bool w.fl)] (by simp only[go_sem]) rfl rfl ?_;simp only[go_sem];(try refine⟨by decide +kernel,?_⟩);rw[bY,if_neg agq,qN,Int.toNat_natCast,J4]at hW;subst hW
  have wR:((gJ (w.bk.set b (ys++[w.al.length]))).set b none)=(gJ w.bk).set b none:=by
   unfold gJ;rw[ajv,akP]
  generalize hS:mk _ _ _=S;have L:=SJ (U:=[0,1,2,4,5,202]) (k:=b) (s:=S) (fr:=[(0,.aA [])]) (u:=[0,1,2,4,5,202,302,6]) (ns:=ns) (root:=root) (fx:=fx) (w:={ w with al:=w.al++[q],bk:=w.bk.set b (ys++[w.al.length]) }) (ax:=65) (px:=56) (ys:=(ys++[w.al.length]).map nD) (by decide) ?_ (fun x hx=>?_) ?_ rfl rfl rfl rfl
  .exact⟨.aA [],_,_,_,⟨rfl,rfl⟩,⟨rfl,rfl⟩,L.2.1,L.2.2.1,rfl,L.2.2.2.2⟩
  .rw[SK (by simp;omega)];simp[show b<w.bk.length by omega]
  .rw[<-hS];rcases ah1.1 hx with hx|hx
   .unfold nK fJ at hx;rw[wR]at hx;simp only[ah6,aiw,or_false]at hx;obtain rfl|rfl|rfl|rfl|rfl|rfl:=hx
    all_goals
     simp only[go_sem]
     try (simp[nD,fc,aL,akP];done)
   .rw[wR]at hx;obtain⟨j,zs,h1,rfl⟩:=iC.1 hx;simp only[go_sem];exact l9 (fr:=[]) (u:=[]) h1
  .rw[<-hS];exact⟨⟨rfl,rfl⟩,trivial⟩
end Go.Proofs.YtpmniabdmbmafaaGreatDoor

namespace Go.Proofs.YtpmniabdmbmafaaGreatDoor
open Go.Ab
theorem kS(w:SW)(q:SQ):(bY w q).al.length<=w.al.length+1∧(bY w q).be=w.be∧(bY w q).ab=w.ab∧(bY w q).mx=w.mx∧(bY w q).fl=w.fl:=by
 unfold bY;split
 .exact⟨by omega,rfl,rfl,rfl,rfl⟩
 .exact⟨by simp,rfl,rfl,rfl,rfl⟩
theorem ags{w:SW}{q:SQ}(pw:∀q'∈w.al,jG q')(hq:jG q):∀q'∈(bY w q).al,jG q':=by
 unfold bY;split
 .exact pw
 .intro q' h;rcases ah1.1 h with h|h
  .exact pw q' h
  .rw[ahZ.1 h];exact hq
theorem J5{w:SW}{q:SQ}(hb:tN w)(hq:0<=jQ q∧jQ q<997):tN (bY w q):=by
 unfold bY;split
 .exact hb
 .rename_i hn;have hk:(jQ q).toNat<w.bk.length:=by rw[hb.len];omega
  have o8:∀b,b<997->(w.bk.set (jQ q).toNat (w.bk.getD (jQ q).toNat []++[w.al.length])).getD b []=if b=(jQ q).toNat then w.bk.getD b []++[w.al.length]else w.bk.getD b []:=fun b fg=>by
   by_cases e:b=(jQ q).toNat
   .subst e;rw[if_pos rfl,ahX,aiC hk];rfl
   .rw[if_neg e,ahX,aiy (fun g=>e g.symm),<-ahX]
  refine⟨by simp[hb.len],fun b fg=>?_,fun b fg i=>?_⟩
  .simp only;rw[o8 b fg,ah7,List.length_singleton];have:=hb.le b fg;split
   .rw[ah7,List.length_singleton];omega
   .omega
  .simp only;rw[o8 b fg,ah7,List.length_singleton];have hm:=hb.mem b fg i;by_cases e:b=(jQ q).toNat
   .rw[if_pos e,ah1,ahZ,hm];constructor
    .rintro(⟨h1,h2⟩|h)
     .refine⟨by omega,?_⟩;rw[ahX,aih h1,<-ahX];exact h2
     .subst h;refine⟨by omega,?_⟩;rw[ahX,aim (by omega)];simp;omega
    .rintro⟨h1,h2⟩;by_cases h:i<w.al.length
     .rw[ahX,aih h,<-ahX]at h2;exact .inl ⟨h,h2⟩
     .exact .inr (by omega)
   .rw[if_neg e,hm];constructor
    .rintro⟨h1,h2⟩;refine⟨by omega,?_⟩;rw[ahX,aih h1,<-ahX];exact h2
    .rintro⟨h1,h2⟩;by_cases h:i<w.al.length
     .rw[ahX,aih h,<-ahX]at h2;exact⟨h,h2⟩
     .rw[ahX,aim (by omega),show i-w.al.length=0 by omega]at h2;simp at h2;omega
theorem J6(w:SW)(q:SQ):(bY w q).bk.length=w.bk.length:=by
 unfold bY;split
 .rfl
 .simp
structure agt(w:SW)(L:List SQ)(v:SW):Prop where
 len:v.al.length<=w.al.length+L.length
 be:v.be=w.be
 ab:v.ab=w.ab
 mx:v.mx=w.mx
 fl:v.fl=w.fl
 few:(∀q∈w.al,jG q)->∀q∈v.al,jG q
 ok:tN w->tN v
theorem SL:∀(L:List SQ) (w:SW),(∀q∈L,jG q)->agt w L (L.foldl bY w)
 |[],w,_=>⟨by simp,rfl,rfl,rfl,rfl,id,id⟩
 |q::L,w,h=>by
   have hq:=h q ah0;have hb:=xp hq;obtain⟨i1,i2,i3,i4,i5,i6,i7⟩:=SL L (bY w q) fun x hx=>h x (ah8 _ hx);obtain⟨a1,a2,a3,a4,a5⟩:=kS w q;rw[List.foldl_cons];refine⟨by rw[List.length_cons];omega,i2.trans a2,i3.trans a3,i4.trans a4,i5.trans a5,fun g=>i6 (ags g hq),fun g=>i7 (J5 g hb)⟩
theorem SM{α:Type}[DecidableEq α]:∀{l u:List α},l.Nodup->(∀a∈l,a∈u)->l.length<=u.length
 |[],_,_,_=>aie _
 |x::l,u,hn,hs=>by
   rw[ai3]at hn;have hx:=hs x ah0
   have h1:=SM (l:=l) (u:=u.erase x) hn.2 fun a ha=>by
    rw[List.mem_erase_of_ne (fun e=>by subst e;exact hn.1 ha)];exact hs a (ah8 _ ha)
   rw[akf hx]at h1;have:=ajQ hx;rw[List.length_cons];omega
theorem SN{w:SW}{q:SQ}{i:Nat}(h:i<w.al.length):(bY w q).al.getD i default=w.al.getD i default:=by
 unfold bY;split
 .rfl
 .simp only;rw[ahX,aih h,<-ahX]
theorem sg{w:SW}{q x:SQ}:x∈(bY w q).al↔x∈w.al∨x=q:=by
 unfold bY;split
 .rename_i h;exact⟨.inl,fun g=>g.elim id fun e=>e▸h⟩
 .simp
theorem SP(w:SW)(q:SQ):w.al.length<=(bY w q).al.length:=by
 unfold bY;split
 .exact ain _
 .simp
theorem agu{w:SW}{q:SQ}(h:w.al.Nodup):(bY w q).al.Nodup:=by
 unfold bY;split
 .exact h
 .rename_i hn;rw[aiZ];exact⟨h,by simp,fun a ha b hb=>by rw[ahZ.1 hb];exact fun e=>hn (e▸ha)⟩
structure gK(fx:Int)(ns:List TN)(q0:SQ)(w:SW)(d:Nat):Prop where
 nd:w.al.Nodup
 qQ:∀q∈w.al,fu fx ns q0 q
 root:q0∈w.al
 bk:tN w
 few:∀q∈w.al,jG q
 dl:d<=w.al.length
 lb:(w.be.length:Int)=fx
 la:(w.ab.length:Int)=fx
 be:∀v:Nat,(v:Int)<fx->∀s,s∈w.be.getD v []↔∃i,i<d∧gH fx ns (w.al.getD i default)=true∧bQ fx ns (w.al.getD i default)=v∧s=bM ns 1 (w.al.getD i default).1
 ab:∀v:Nat,(v:Int)<fx->∀s,s∈w.ab.getD v []↔∃i,i<d∧gG fx ns (w.al.getD i default)=true∧aQ fx ns (w.al.getD i default)=v∧s=bM ns 2 (w.al.getD i default).2
 mx:w.mx=true↔∃i,i<d∧gl fx ns (w.al.getD i default)=true
 fl:w.fl=true↔∃i,i<d∧kn fx ns (w.al.getD i default)=true
 cl:∀i,i<d->ft fx ns (w.al.getD i default)=true->∀q∈(iT ns (w.al.getD i default)).1,q∈w.al
 sb:∀L∈w.be,L.length<=d
 sa:∀L∈w.ab,L.length<=d
section
variable {fx:Int}{ns:List TN}{q0:SQ}
theorem get_mem{w:SW}{i:Nat}(h:i<w.al.length):w.al.getD i default∈w.al:=by
 rw[ahX,aib h];exact ah2 h
theorem gK.add{w:SW}{d:Nat}(h:gK fx ns q0 w d){q:SQ}(hr:fu fx ns q0 q)(hf:jG q):gK fx ns q0 (bY w q) d:=by
 obtain⟨_,a2,a3,a4,a5⟩:=kS w q;have hg:∀i,i<d->(bY w q).al.getD i default=w.al.getD i default:=fun i hi=>SN (by have:=h.dl;omega);refine⟨agu h.nd,fun x hx=>?_,sg.2 (.inl h.root),J5 h.bk (xp hf),fun x hx=>?_,aix h.dl (SP _ _),by rw[a2];exact h.lb,by rw[a3];exact h.la,fun v hv s=>?_,fun v hv s=>?_,?_,?_,fun i hi hl x hx=>?_,by rw[a2];exact h.sb,by rw[a3];exact h.sa⟩
 .rcases sg.1 hx with hx|rfl
  .exact h.qQ x hx
  .exact hr
 .rcases sg.1 hx with hx|rfl
  .exact h.few x hx
  .exact hf
 .rw[a2,h.be v hv s];exact exists_congr fun i=>and_congr_right fun hi=>by rw[hg i hi]
 .rw[a3,h.ab v hv s];exact exists_congr fun i=>and_congr_right fun hi=>by rw[hg i hi]
 .rw[a4,h.mx];exact exists_congr fun i=>and_congr_right fun hi=>by rw[hg i hi]
 .rw[a5,h.fl];exact exists_congr fun i=>and_congr_right fun hi=>by rw[hg i hi]
 .rw[hg i hi]at hl hx;exact sg.2 (.inl (h.cl i hi hl x hx))
theorem gK.fold{d:Nat}:∀(L:List SQ) {w:SW},gK fx ns q0 w d->(∀q∈L,fu fx ns q0 q∧jG q)->gK fx ns q0 (L.foldl bY w) d∧(∀q∈L,q∈(L.foldl bY w).al)∧(∀q∈w.al,q∈(L.foldl bY w).al)∧∀i,i<w.al.length->(L.foldl bY w).al.getD i default=w.al.getD i default
 |[],w,h,_=>⟨h,by simp,fun q hq=>hq,fun _ _=>rfl⟩
 |q::L,w,h,hL=>by
   have hq:=hL q ah0;obtain⟨i1,i2,i3,i4⟩:=gK.fold L (h.add hq.1 hq.2) fun x hx=>hL x (ah8 _ hx);refine⟨i1,fun x hx=>?_,fun x hx=>i3 x (sg.2 (.inl hx)),fun i hi=>?_⟩
   .rcases ah6.1 hx with rfl|hx
    .exact i3 _ (sg.2 (.inr rfl))
    .exact i2 x hx
   .rw[List.foldl_cons,i4 i (aiK hi (SP _ _)),SN hi]
theorem SR{L:List (List (List Int))}{v:Int}{s:List Int}(h0:0<=v)(hv:v.toNat<L.length)(u:Nat)(z:List Int):z∈(ia L v s).getD u []↔z∈L.getD u []∨(u:Int)=v∧z=s:=by
 unfold ia;by_cases e:u=v.toNat
 .subst e;rw[ahX,aiC hv,Option.getD_some,agh];have:((v.toNat:Nat):Int)=v:=by omega
  simp[this]
 .rw[ahX,aiy (fun g=>e g.symm),<-ahX];constructor
  .exact .inl
  .rintro(h|⟨h,_⟩)
   .exact h
   .omega
theorem SU{L:List (List (List Int))}{v:Int}{s:List Int}{d:Nat}(h:∀x∈L,x.length<=d):∀x∈ia L v s,x.length<=d+1:=by
 intro x hx;unfold ia at hx;obtain⟨i,hi,rfl⟩:=aiB hx;rw[ajW];split
 .refine aix (agi _ _) ?_;by_cases hv:v.toNat<L.length
  .have:L.getD v.toNat []∈L:=by
    rw[ahX,aib hv];exact ah2 hv
   have:=h _ this;omega
  .rw[ahX,aiE (by omega)];simp
 .have ao:i<L.length:=by simpa using hi
  have:=h _ (ah2 ao);omega
theorem SV{l:List Int}(h:0<=da fx ns l):da fx ns l<fx:=by
 unfold da at h ⊢;by_cases h0:l.length=0
 .rw[if_pos h0]at h;omega
 rw[if_neg h0]at h ⊢;by_cases ha:(l.all fun x=>kl fx ns x&&decide ((nd ns x.toNat).a=(nd ns (l.getD 0 0).toNat).a))=true
 .rw[if_pos ha]
  cases l with
  |nil=>exact absurd rfl h0
  |cons x t =>
    have h1:=aio.1 ha x ah0;rw[aia]at h1;have h2:=h1.1;unfold kl at h2;rw[aia,decide_eq_true_iff,decide_eq_true_iff]at h2;exact h2.2
 .rw[if_neg ha]at h;omega
theorem SX{q:SQ}(h:gG fx ns q=true):0<=aQ fx ns q∧aQ fx ns q<fx:=by
 unfold gG at h;simp only[aia,decide_eq_true_iff]at h;exact⟨h.2.1,SV h.2.1⟩
theorem agv{q:SQ}(h:gH fx ns q=true):0<=bQ fx ns q∧bQ fx ns q<fx:=by
 unfold gH at h;simp only[aia,decide_eq_true_iff]at h;exact⟨h.2.1,SV h.2.1⟩
theorem gK.one{w:SW}{d:Nat}(h:gK fx ns q0 w d)(hd:d<w.al.length)(jk:∀q,fu fx ns q0 q->jG q):gK fx ns q0 (mL fx ns w (w.al.getD d default)) (d+1)∧w.al.length<=(mL fx ns w (w.al.getD d default)).al.length:=by
 have hq:=h.qQ _ (get_mem hd);generalize xr:w.al.getD d default=q at *
 unfold mL
 have h0:∀i,i<d+1->∀P:Nat->Prop,((∃i,i<d+1∧P i)↔(∃i,i<d∧P i)∨P d):=fun _ _ P=>by
  constructor
  .rintro⟨i,hi,hp⟩;by_cases e:i=d
   .subst e;exact .inr hp
   .exact .inl ⟨i,by omega,hp⟩
  .rintro(⟨i,hi,hp⟩|hp)
   .exact⟨i,by omega,hp⟩
   .exact⟨d,by omega,hp⟩
 have ex:∀P:Nat->Prop,(∃i,i<d+1∧P i)↔(∃i,i<d∧P i)∨P d:=fun P=>h0 d (by omega) P
 have base:∀(vy vz:List (List (List Int))),vy=(if gH fx ns q=true then ia w.be (bQ fx ns q) (bM ns 1 q.1)else w.be)->vz=(if gG fx ns q=true then ia w.ab (aQ fx ns q) (bM ns 2 q.2)else w.ab) ->
   (vy.length=w.be.length∧vz.length=w.ab.length)∧(∀v:Nat,(v:Int)<fx->∀s,s∈vy.getD v []↔∃i,i<d+1∧gH fx ns (w.al.getD i default)=true∧bQ fx ns (w.al.getD i default)=v∧s=bM ns 1 (w.al.getD i default).1) ∧
   (∀v:Nat,(v:Int)<fx->∀s,s∈vz.getD v []↔∃i,i<d+1∧gG fx ns (w.al.getD i default)=true∧aQ fx ns (w.al.getD i default)=v∧s=bM ns 2 (w.al.getD i default).2)∧(∀L∈vy,L.length<=d+1)∧∀L∈vz,L.length<=d+1:=by
  rintro vy vz rfl rfl;refine⟨⟨by split<;>simp[ia],by split<;>simp[ia]⟩,fun v hv s=>?_,fun v hv s=>?_,fun L hL=>?_,fun L hL=>?_⟩
  .rw[ex,xr,<-h.be v hv s];by_cases hb:gH fx ns q=true
   .have J7:=agv hb;rw[if_pos hb,SR J7.1 (by have:=h.lb;omega)];constructor
    .rintro(g|⟨g1,g2⟩)
     .exact .inl g
     .exact .inr ⟨hb,g1.symm,g2⟩
    .rintro(g|⟨_,g1,g2⟩)
     .exact .inl g
     .exact .inr ⟨g1.symm,g2⟩
   .rw[if_neg hb];exact⟨.inl,fun g=>g.elim id fun g=>absurd g.1 hb⟩
  .rw[ex,xr,<-h.ab v hv s];by_cases hb:gG fx ns q=true
   .have J7:=SX hb;rw[if_pos hb,SR J7.1 (by have:=h.la;omega)];constructor
    .rintro(g|⟨g1,g2⟩)
     .exact .inl g
     .exact .inr ⟨hb,g1.symm,g2⟩
    .rintro(g|⟨_,g1,g2⟩)
     .exact .inl g
     .exact .inr ⟨g1.symm,g2⟩
   .rw[if_neg hb];exact⟨.inl,fun g=>g.elim id fun g=>absurd g.1 hb⟩
  .split at hL
   .exact SU h.sb L hL
   .exact ajh (h.sb L hL)
  .split at hL
   .exact SU h.sa L hL
   .exact ajh (h.sa L hL)
 obtain⟨⟨b1,b2⟩,b3,b4,b5,b6⟩:=base _ _ rfl rfl;generalize yJ:(if gH fx ns q=true then ia w.be (bQ fx ns q) (bM ns 1 q.1)else w.be)=vy at *
 generalize eL:(if gG fx ns q=true then ia w.ab (aQ fx ns q) (bM ns 2 q.2)else w.ab)=vz at *
 have hS:gK fx ns q0 { w with mx:=w.mx,fl:=w.fl } d:=h
 obtain⟨f1,f2,f3,f4⟩:=gK.fold (if ft fx ns q=true then(iT ns q).1 else[]) h fun x hx=>by
  split at hx
  .rename_i hl;have:=fu.to hq hl hx;exact⟨this,jk _ this⟩
  .cases hx
 generalize hLL:(if ft fx ns q=true then(iT ns q).1 else[])=LL at *
 have vL:∀(L:List SQ) (w1:SW),(L.foldl bY { w1 with be:=vy,ab:=vz,mx:=w1.mx||gl fx ns q,fl:=w1.fl||kn fx ns q })={ L.foldl bY w1 with be:=vy,ab:=vz,mx:=(L.foldl bY w1).mx||gl fx ns q,fl:=(L.foldl bY w1).fl||kn fx ns q }:=by
  intro L
  induction L with
  |nil=>intro w1;rfl
  |cons x L ih =>
    intro w1;rw[List.foldl_cons,List.foldl_cons,<-ih];congr 1;unfold bY;by_cases hx:x∈w1.al
    .rw[if_pos hx,if_pos hx]
    .rw[if_neg hx,if_neg hx]
 rw[vL];generalize hV:LL.foldl bY w=v at *
 have hlen:w.al.length<=v.al.length:=by
  have:=f4;by_cases g:w.al.length<=v.al.length
  .exact g
  .exfalso;have dL:=SM h.nd f3;omega
 have hg:∀i,i<d+1->v.al.getD i default=w.al.getD i default:=fun i hi=>f4 i (by omega)
 have hve:v.be=w.be∧v.ab=w.ab:=by
  rw[<-hV]
  have:∀(L:List SQ) (w1:SW),(L.foldl bY w1).be=w1.be∧(L.foldl bY w1).ab=w1.ab:=by
   intro L
   induction L with
   |nil=>intro w1;exact⟨rfl,rfl⟩
   |cons x L ih =>
     intro w1;rw[List.foldl_cons];obtain⟨_,a2,a3,_⟩:=kS w1 x;exact⟨(ih _).1.trans a2,(ih _).2.trans a3⟩
  exact this LL w
 refine⟨⟨f1.nd,f1.qQ,f1.root,⟨f1.bk.len,f1.bk.le,f1.bk.mem⟩,f1.few,by simp only;omega,by simp only;rw[b1];exact h.lb,by simp only;rw[b2];exact h.la,fun u hu s=>?_,fun u hu s=>?_,?_,?_,fun i hi hl x hx=>?_,b5,b6⟩,hlen⟩
 .simp only;rw[b3 u hu s];exact exists_congr fun i=>and_congr_right fun hi=>by rw[hg i hi]
 .simp only;rw[b4 u hu s];exact exists_congr fun i=>and_congr_right fun hi=>by rw[hg i hi]
 .simp only;rw[ex,hg d (by omega),xr,aiL,f1.mx]
 .simp only;rw[ex,hg d (by omega),xr,aiL,f1.fl]
 .simp only at hl hx ⊢;by_cases e:i=d
  .subst e;rw[hg i hi,xr]at hl hx;rw[<-hLL,if_pos hl]at f2;exact f2 x hx
  .exact f1.cl i (by omega) hl x hx
theorem gK.end_{w:SW}(h:gK fx ns q0 w w.al.length)(hp:∀v:Nat,(v:Int)<fx->∀s∈w.be.getD v [],∀s'∈w.ab.getD v [],(s,s')∈w.al):(w.mx=false∧w.fl=false)↔nH fx ns q0:=by
 have all:∀q,fu fx ns q0 q->q∈w.al:=by
  intro q hq
  induction hq with
  |root=>exact h.root
  |to hr hl hx ih =>
    obtain⟨i,hi,rfl⟩:=aiB ih;have hg:w.al.getD i default=w.al[i]:=by simp[hi]
    exact h.cl i hi (by rw[hg];exact hl) _ (by rw[hg];exact hx)
  |pair h1 h2 ha hb hv qU oN =>
    obtain⟨i,hi,rfl⟩:=aiB qU;obtain⟨j,hj,rfl⟩:=aiB oN;have uL:w.al.getD i default=w.al[i]:=by simp[hi]
    have BW:w.al.getD j default=w.al[j]:=by simp[hj]
    have a1:=SX ha;have e:(((aQ fx ns w.al[i]).toNat:Nat):Int)=aQ fx ns w.al[i]:=by omega
    refine hp (aQ fx ns w.al[i]).toNat (by omega) _ ((h.be _ (by omega) _).2 ⟨j,hj,by rw[BW];exact hb,by rw[BW,e,hv],by rw[BW]⟩) _ ((h.ab _ (by omega) _).2 ⟨i,hi,by rw[uL];exact ha,by rw[uL,e],by rw[uL]⟩)
 constructor
 .rintro⟨h1,h2⟩ q hq;obtain⟨i,hi,rfl⟩:=aiB (all q hq);have hg:w.al.getD i default=w.al[i]:=by simp[hi]
  constructor
  .cases e:gl fx ns w.al[i]with
   |false=>rfl
   |true=>rw[h.mx.2 ⟨i,hi,by rw[hg];exact e⟩]at h1;cases h1
  .cases e:kn fx ns w.al[i]with
   |false=>rfl
   |true=>rw[h.fl.2 ⟨i,hi,by rw[hg];exact e⟩]at h2;cases h2
 .intro aF;constructor
  .cases e:w.mx with
   |false=>rfl
   |true =>
     obtain⟨i,hi,g⟩:=h.mx.1 e;rw[(aF _ (h.qQ _ (get_mem hi))).1]at g;cases g
  .cases e:w.fl with
   |false=>rfl
   |true =>
     obtain⟨i,hi,g⟩:=h.fl.1 e;rw[(aF _ (h.qQ _ (get_mem hi))).2]at g;cases g
end
end Go.Proofs.YtpmniabdmbmafaaGreatDoor

namespace Go.Ab
def kp(xs:List D):List D:=xs.flatMap D.cells
section
variable {P:Program}{cf:Cf}{Q:Exit->St->Prop}{s:St}{k:List It}
def g1(p:Name)(w:W)(xs:List D)(q:Name):Option (W×List D):=if q=p then some (w,xs)else none
end
end Go.Ab

namespace Go.Ab
theorem J8{w:W}:∀{xs:List D},(∀x∈xs,okW w x)->(kp xs).length=xs.length*wd w
 |[],_=>by simp[kp]
 |x::r,h=>by
   have h1:=J8 (w:=w) (xs:=r) fun y hy=>h y (ah8 _ hy);have h2:=gN (h x ah0);have e:kp (x::r)=x.cells++kp r:=by simp[kp]
   rw[e,ah7,h1,h2,List.length_cons,ai2];omega
theorem SY{w:W}:∀{xs:List D},(∀x∈xs,okW w x)->∀{i:Nat} {d:D},(kp xs)[i]?=some d->∃a x b,i=a*wd w+b∧xs[a]?=some x∧x.cells[b]?=some d
 |[],_,i,d,h=>by simp[kp]at h
 |x::r,hx,i,d,h=>by
   have h2:x.cells.length=wd w:=gN (hx x ah0);have e:kp (x::r)=x.cells++kp r:=by simp[kp]
   rw[e]at h;rcases aiG i (wd w)with g|g
   .rw[aih (by omega)]at h;exact⟨0,x,i,by omega,rfl,h⟩
   .rw[aim (by omega),h2]at h;obtain⟨a,y,b,h3,h4,h5⟩:=SY (fun y hy=>hx y (ah8 _ hy)) h;exact⟨a+1,y,b,by rw[ai2];omega,h4,h5⟩
section
variable {B:Base}{β:Name->Option aU}{s:St}{tm:Array Value}{w:World}
theorem aj.agw(h:aj B β s tm w){t:Nat}(ht:t∉s.used){q p:Name}{ty ta:Option Nat}{cs:List AV}{j n:Nat}{wf0:W}{xs:List D}(hq:s.hp q=some (.bz ty cs))(hj:cs[j]?=some (.vw p 0 n))(hp:s.hp p=some (.bu ta wf0 xs))
  (hn:n=xs.length) (h0:0<n):∃β',aj B β' (((s.set p none).add t (.dZ (wd wf0) ((kp xs).map .d))).set q (some (.bz ty (cs.set j (.va [t] 0 n))))) tm w:=by
 obtain⟨hqn,kq,cq,eq,IY,ahN,hcq,hzq,hlq,h1q,hvq⟩:=h.aO q _ hq;have CV:=hvq j _ hj;obtain⟨vj,SZ⟩:∃vj,cq.getD j undef=vj:=⟨_,rfl⟩
 rw[SZ]at CV
 obtain⟨k,cap,hk,hval,fL,hz⟩:∃k cap,β p=some k∧vj=.slice (some ⟨k.b,k.o,none⟩) n cap∧n<=cap∧k.o+cap*wd wf0<=k.z:=by
  cases CV with
  |vw _ _ _ _ _ _ hx =>
    obtain⟨hle,a,cap,rfl,agx⟩:=hx _ _ _ hp;obtain⟨h1,_⟩|⟨k,hk,rfl,fL,hz⟩:=agx
    .omega
    .rw[Nat.zero_mul,Nat.add_zero];rw[aiD]at hz;exact⟨k,cap,hk,rfl,fL,hz⟩
 have hpq:q≠p:=by
  rintro rfl;rw[hq]at hp;cases hp
 have S0:q≠[t]:=ku hqn ht
 have h1:=h.Oq ht hp hk (.dZ (wd wf0) ((kp xs).map .d)) k.o (w':=w) rfl rfl (fun _ _=>rfl) (fun β' hβ hv=>by
  rcases(h.aO p _ hp).2 with⟨a1,_⟩|⟨k',c,e,a1,a2,a3,a4,a5,a6⟩
  .rw[hk]at a1;cases a1
  .rw[hk]at a1;cases a1;have hlen:=J8 a5
   have cD:∀i d,(kp xs)[i]?=some d->au w.heap (s.own B.A β) (c.getD (k.o+i) undef) d∧d.ct=true:=fun i d hd=>by
    obtain⟨a,x,b,rfl,hx,hb⟩:=SY a5 hd;refine⟨?_,Cm (a5 x (aiz hx)) d (aiz hb)⟩;have:=a6 a x b d hx hb
    rwa [ajn]at this
   refine .inr ⟨_,c,_,hβ,a2,a3,by rw[aik,hlen];exact a4,fun i hi=>?_,fun i x hi=>?_⟩
   .rw[aik]at hi;obtain⟨g1,g2⟩:=cD i _ (aib hi);exact g1.vD g2
   .rw[aii,ah4]at hi;obtain⟨d,hd,rfl⟩:=hi
    exact hv _ _ (.d _ _ (cD i d hd).1))
 refine⟨_,h1.abH (p:=q) (cs:=cs) (by simpa[St.add,St.set,aP,S0,hpq]using hq) (by simp) fun k2 c2 e2 gp kY i x x' hx aV hv=>?_⟩;have mY:β q=some k2:=by simpa[aP,S0]using gp
 rw[IY]at mY;cases mY;rw[hcq]at kY;cases kY;by_cases e:j=i
 .subst e;rw[aiC (ah3.1 hj).1]at aV;cases aV;rw[SZ,hval]
  have hlen:(kp xs).length=n*wd wf0:=by
   rcases(h.aO p _ hp).2 with⟨a1,_⟩|⟨k',c,e,a1,a2,a3,a4,a5,a6⟩
   .rw[hk]at a1;cases a1
   .rw[J8 a5,hn]
  refine .va _ _ _ _ ⟨t,[],rfl,ah0⟩ rfl fun wf ys qi=>?_;have e3:(some (Ob.dZ (wd wf0) ((kp xs).map AV.d)))=some (.dZ wf ys):=by rw[<-qi];simp[St.add,St.set,aP]
  cases e3;refine⟨by rw[aik,hlen,aiD];exact ain _,_,cap,rfl,.inr ⟨_,by simp[aP];rfl,by simp,fL,by simpa using hz⟩⟩
 .rw[aiy e,hx]at aV;cases aV;exact hv
end
section
variable {P:Program}{cf:Cf}{Q:Exit->St->Prop}{s:St}{k:List It}
theorem agy(E:bB P cf Q){c:Code}(q p:Name)(t j n:Nat){ty ta:Option Nat}{cs:List AV}{wf0:W}(xs:List D)(hq:s.hp q=some (.bz ty cs))(hj:cs[j]?=some (.vw p 0 n))(hp:s.hp p=some (.bu ta wf0 xs))(hn:n=xs.length)(h0:0<n)(ht:t∉s.used)
  (h:gw E c (((s.set p none).add t (.dZ (wd wf0) ((kp xs).map .d))).set q (some (.bz ty (cs.set j (.va [t] 0 n))))) k):gw E c s k:=by
 intro B hB ds β a w' ak hs;obtain⟨β',bc⟩:=hs.agw ht hq hj hp hn h0;exact h B hB ds β' a w' ak bc
def jH(p:Name)(m N:Nat)(nm:Nat->Nat)(s:St):Nat->St
 |0=>s
 |j+1=>((jH p m N nm s j).add (nm j) (.arr none [])).set p (some (.dZ m ((List.range N).map fun i=>if i<j+1 then .vw [nm i] 0 0 else .d .ai)))
theorem S1{p:Name}{m N:Nat}{nm:Nat->Nat}(jW:s.hp p=some (.dZ m ((List.range N).map fun _=>.d .ai))):∀j,(jH p m N nm s j).hp p=some (.dZ m ((List.range N).map fun i=>if i<j then .vw [nm i] 0 0 else .d .ai))
 |0=>by simpa[jH]using jW
 |j+1=>by simp[jH,St.set,aP]
theorem S2{p:Name}{m N:Nat}{nm:Nat->Nat}(eI:∀i j,nm i=nm j->i=j):∀j i,j<=i->nm i∉s.used->nm i∉(jH p m N nm s j).used
 |0,i,_,h=>h
 |j+1,i,uo,h=>by
   have:=S2 (p:=p) (m:=m) (N:=N) eI j i (by omega) h;simp only[jH,St.set,St.add,ah6,not_or];exact⟨fun e=>by have:=eI _ _ e;omega,this⟩
theorem S3{p:Name}{m N:Nat}{nm:Nat->Nat}(hp:∀i,p≠[nm i])(eI:∀i j,nm i=nm j->i=j):∀j i,i<j->(jH p m N nm s j).hp [nm i]=some (.arr none [])
 |0,i,h=>by omega
 |j+1,i,h=>by
   by_cases e:i=j
   .subst e;simp[jH,St.set,St.add,aP,(hp i).symm]
   .have:=S3 (m:=m) (N:=N) hp eI j i (by omega);have h1:nm i≠nm j:=fun g=>e (eI _ _ g);simp[jH,St.set,St.add,aP,(hp i).symm,h1,this]
theorem S4{p:Name}{m N:Nat}{nm:Nat->Nat}{q:Name}(hq:q≠p)(uU:∀i,q≠[nm i]):∀j,(jH p m N nm s j).hp q=s.hp q
 |0=>rfl
 |j+1=>by
   have:=S4 (m:=m) (N:=N) hq uU j;simp[jH,St.set,St.add,aP,hq,uU j,this]
theorem S5{p:Name}{m N:Nat}{nm:Nat->Nat}:∀j,(jH p m N nm s j).fr=s.fr
 |0=>rfl
 |j+1=>S5 (p:=p) (m:=m) (N:=N) (nm:=nm) j
theorem S6(E:bB P cf Q){c:Code}(p:Name)(N:Nat){m:Nat}(nm:Nat->Nat)(hp:∀i,p≠[nm i])(eI:∀i j,nm i=nm j->i=j)(hu:∀i,nm i∉s.used)(jW:s.hp p=some (.dZ m ((List.range N).map fun _=>.d .ai))):∀j,j<=N->gw E c (jH p m N nm s j) k->gw E c s k
 |0,_,h=>h
 |j+1,hj,h=>by
   refine S6 E p N nm hp eI hu jW j (by omega) ?_;refine abB E p j (nm j) none ((List.range N).map fun i=>if i<j then .vw [nm i] 0 0 else .d .ai) (S1 jW j) (by simp[show j<N by omega]) (S2 eI j j (ain _) (hu j)) ?_
   have e:((List.range N).map fun i=>if i<j then AV.vw [nm i] 0 0 else .d .ai).set j (.vw [nm j] 0 0)=(List.range N).map fun i=>if i<j+1 then .vw [nm i] 0 0 else .d .ai:=by
    refine ai0 (by simp) fun q h1 h2=>?_;rw[ajW];have hq:q<N:=by simpa using h2
    by_cases g:j=q
    .subst g;simp
    .rw[if_neg g];simp only[ajB,List.getElem_range];by_cases g2:q<j
     .rw[if_pos g2,if_pos (by omega)]
     .rw[if_neg g2,if_neg (by omega)]
   rw[e];exact h
end
end Go.Ab

namespace Go.Proofs.YtpmniabdmbmafaaGreatDoor
open Go.Ab
def qR(N M:Nat):SW:=⟨[],List.replicate N [],List.replicate M [],List.replicate M [],false,false⟩
def mP:SW:=qR 997 1000
def jR(i:Nat):Nat:=3000+i
def S7:Name->Name
 |[0]=>[21]
 |[11]=>[2001]
 |[2]=>[2000]
 |[4]=>[16]
 |[5]=>[18]
 |[402,j]=>[3000+j]
 |p=>p
def J9:Name->Name
 |[x]=>if x=21 then[0]else if x=2001 then[11]else if x=2000 then[2]else if x=16 then[4]else if x=18 then[5]else[402,x-3000]
 |p=>p
theorem agz(n:Nat):(kp (List.replicate n D.ai)).map AV.d=(List.range n).map fun _=>AV.d D.ai:=by
 have:kp (List.replicate n D.ai)=List.replicate n D.ai:=by
  induction n with
  |zero=>rfl
  |succ n ih =>
    rw[List.replicate_succ];show D.ai.cells++kp (List.replicate n D.ai)=_;rw[ih];rfl
 rw[this,akD];refine ai0 (by simp) fun i h1 h2=>by simp
theorem S8:∀(n i:Nat),bZ S7 (b9 402 i (List.replicate n (some [])))=(List.range n).map fun j=>AV.vw [3000+(i+j)] 0 0
 |0,i=>rfl
 |n+1,i=>by
   rw[List.replicate_succ,b9,bZ,S8 n (i+1),List.range_succ_eq_map,aid,aiV];congr 1;refine aiQ fun j _=>?_;simp only[Function.comp_def];rw[show i+1+j=i+(j+1) by omega]
theorem agA{P:Program}{cf:Cf}{Q:Exit->St->Prop}{k:List It}(E:bB P cf Q){c:Code}{s:St}{ns:List TN}{root:Int}{g:D}{N M:Nat}(hN:N=997)(hU:cf.U=[])(h21:s.hp [21]=some (.box [.d (.sl (some 4) (ns.map aw)),.d (i64 root),.d (i64 1000),.d .ai,.vw [19] 0 N,.vw [16] 0 M,.vw [18] 0 M,.d (.bool false),.d (.bool false)]))
  (h16:s.hp [16]=some (.arr none (List.replicate M .ai))) (h18:s.hp [18]=some (.arr none (List.replicate M .ai))) (h19:s.hp [19]=some (.arr none (List.replicate N .ai))) (hu:∀x∈s.used,x<2000)
  (tG:s.fr 1=.d g) (tH:s.fr 2=.d (i64 1000)) (hf7:s.fr 7=.bx [21] 0) (hf8:s.fr 8=.d (i64 0)) (h:gw E c (mk [(1,.d g),(2,.d (i64 1000)),(7,.bx [0] 0),(8,.d (i64 0))] (wO 402 [11] ns root 1000 (qR N M)) [0,2,4,5,11,402]) k):gw E c s k:=by
 have nu:∀x,2000<=x->x∉s.used:=fun x hx hm=>by have:=hu x hm;omega
 refine om E [21] 3 2001 (some 2) _ h21 rfl (nu 2001 (by omega)) ?_;refine agy E [21] [19] 2000 4 N (wf0:=none) (List.replicate N .ai) (ty:=none) (cs:=[.d (.sl (some 4) (ns.map aw)),.d (i64 root),.d (i64 1000),.vw [2001] 0 0,.vw [19] 0 N,.vw [16] 0 M,.vw [18] 0 M,.d (.bool false),.d (.bool false)]) (by simp[St.set,aP]) rfl (by simp[St.set,St.add,aP];exact h19) (by simp) (by omega) (by simp[St.add,St.set];exact nu 2000 (by omega)) ?_;rw[agz];refine S6 E [2000] N jR (fun i=>by simp[jR];omega) (fun i j e=>by simp[jR]at e;exact e) (fun i=>?_) (by simp[St.set,St.add,aP];rfl) N (ain _) ?_
 .simp only[St.add,St.set,ah6,not_or,jR];exact⟨by omega,by omega,nu _ (by omega)⟩
 generalize hS:(((((s.add 2001 (.arr (some 2) [])).set [21] _).set [19] none).add 2000 _).set [21] _)=S;have o:∀q,q≠[2000]->(∀i,q≠[jR i])->(jH [2000] (wd none) N jR S N).hp q=S.hp q:=fun q h1 h2=>S4 h1 h2 N;have wR:gJ (qR N M).bk=List.replicate N (some []):=by simp[qR,gJ,JZ]
 refine DM E (τ:=S7) (s2:=mk [(1,.d g),(2,.d (i64 1000)),(7,.bx [0] 0),(8,.d (i64 0))] (wO 402 [11] ns root 1000 (qR N M)) [0,2,4,5,11,402]) (cF.le (BU (ρ:=J9) jo ?_ (fun q hq=>?_) (fun q hq=>?_) rfl rfl (by rw[hU];rfl) fun q _ hn=>by
  rw[hU]at hn;exfalso
  revert hn
  cases q.1<;>simp[bX])) h
 .have e:∀i,(jH [2000] (wd none) N jR S N).fr i=s.fr i:=fun i=>by rw[S5,<-hS];rfl
  exact⟨⟨by rw[e,tG];rfl,rfl⟩,⟨by rw[e,tH];rfl,rfl⟩,⟨by rw[e,hf7];rfl,rfl⟩,⟨by rw[e,hf8];rfl,rfl⟩,trivial⟩
 .rcases ah1.1 hq with hq|hq
  .unfold wP fJ at hq;simp only[ah6,aiw,or_false]at hq;obtain rfl|rfl|rfl|rfl|rfl:=hq
   .show(jH [2000] (wd none) N jR S N).hp [21]=_;rw[o [21] (by simp) (fun i=>by simp[jR];omega),<-hS];simp only[St.set,aP,if_true,Ob.ren,bZ,AV.ren,qR,ai9,List.length_nil,hN];rfl
   .show(jH [2000] (wd none) N jR S N).hp [2001]=_;rw[o [2001] (by simp) (fun i=>by simp[jR];omega),<-hS];simp[St.set,St.add,aP,Ob.ren,qR]
   .show(jH [2000] (wd none) N jR S N).hp [2000]=_;rw[S1 (by rw[<-hS];simp[St.set,St.add,aP]) N,wR];simp only[Ob.ren,S8];congr 2;refine aiQ fun j hj=>?_;rw[if_pos (aiq.1 hj),aiD];rfl
   .show(jH [2000] (wd none) N jR S N).hp [16]=_;rw[o [16] (by simp) (fun i=>by simp[jR];omega),<-hS];simp[St.set,St.add,aP,Ob.ren,qR,h16,dY]
   .show(jH [2000] (wd none) N jR S N).hp [18]=_;rw[o [18] (by simp) (fun i=>by simp[jR];omega),<-hS];simp[St.set,St.add,aP,Ob.ren,qR,h18,dY]
  .rw[wR]at hq;obtain⟨j,zs,h1,rfl⟩:=iC.1 hq;rw[ajt]at h1;split at h1
   .rename_i hj;cases h1;show(jH [2000] (wd none) N jR S N).hp [jR j]=_;rw[S3 (fun i=>by simp[jR];omega) (fun i j e=>by simp[jR]at e;exact e) N j hj];rfl
   .cases h1
 .rcases lH (o:=q.2) hq with e|e|e|e|e|⟨j,e⟩<;>rw[e]
  .rfl
  .rfl
  .rfl
  .rfl
  .rfl
  .show J9 [3000+j]=_;simp only[J9];rw[if_neg (by omega),if_neg (by omega),if_neg (by omega),if_neg (by omega),if_neg (by omega),Nat.add_sub_cancel_left]
end Go.Proofs.YtpmniabdmbmafaaGreatDoor

namespace Go.Proofs.YtpmniabdmbmafaaGreatDoor
open Go.Ab
def S9(ops:Array Oper)(l:Ns)(n:Nat):Bool:=(List.range n).all fun i=>(l.getD i ([],[],[])).2.1.isEmpty&&((l.getD i ([],[],[])).1.isEmpty||Ax (yi [] ops.toList) i n)
theorem Ta{ops:Array Oper}{l:Ns}{R W:List Name}{N:List Nat}(n:Nat)(hl:l.length=n)(hs:ops.size=n+1)(h1:fk ops (l++[([],[],N)])=true)(h2:S9 ops l n=true):fk ops (l++[(R,W,N)])=true:=by
 have g:∀(x:List Name×List Name×List Nat) (k:Nat),k<n->(l++[x]).getD k ([],[],[])=l.getD k ([],[],[]):=fun x k hk=>by
  rw[ahX,aih (by omega),<-ahX]
 have gn:∀(x:List Name×List Name×List Nat),(l++[x]).getD n ([],[],[])=x:=fun x=>by
  rw[ahX,aim (by omega),hl,aku];rfl
 unfold fk at h1 ⊢;simp only at h1 ⊢;rw[aio]at h1 ⊢;intro i hi;have ao:i<n+1:=by rw[<-hs];exact aiq.1 hi
 have a1:=h1 i hi;rw[aia,aio]at a1 ⊢;refine⟨a1.1,fun k hk=>?_⟩;have az:k<n+1:=by rw[<-hs];exact aiq.1 hk
 have a2:=a1.2 k hk;rw[aia,aia]at a2 ⊢;obtain⟨⟨b1,_⟩,b3⟩:=a2
 have nn:∀k,k<n+1->((l++[(R,W,N)]).getD k ([],[],[])).2.2=((l++[([],[],N)]).getD k ([],[],[])).2.2:=fun k hk=>by
  by_cases e:k<n
  .rw[g _ k e,g _ k e]
  .obtain rfl:k=n:=by omega
   rw[gn,gn]
 refine⟨⟨b1,?_⟩,by rw[nn k az,nn i ao];exact b3⟩;unfold S9 at h2;rw[aio]at h2;by_cases e:k<n
 .have:=h2 k (aiq.2 e);rw[aia,akQ]at this;rw[g _ k e,this.1];rfl
 .obtain rfl:k=n:=by omega
  rw[gn];by_cases ei:i=k
  .rw[aio];intro p _;simp[ei]
  .have de:i<k:=by omega
   have:=h2 i (aiq.2 de);rw[aia,akQ,aiL,akQ]at this;rw[aio];intro p _;rw[g _ i de,this.1];obtain h|h:=this.2
   .rw[h];simp
   .rw[h];simp
end Go.Proofs.YtpmniabdmbmafaaGreatDoor

namespace Go.Proofs.YtpmniabdmbmafaaGreatDoor
open Go.Ab Tryz
theorem agB{G}(ns:List TN)(root:Int)(q:SQ)(hn:ns.length<=4000)(hq:BS ns q) :
  HP prog G 81 [bp ns root,fc q] (fun v=>v=.d (.bool (oJ ns q))):=by
 obtain⟨a,b⟩:=q;obtain⟨l1,l2,k1,k2⟩:=hq;simp only at l1 l2 k1 k2;generalize hv:oJ ns (a,b)=v;unfold oJ at hv;simp only at hv;unfold fc aL bp at *
 refine cJ func81 rfl (by decide +kernel) (by simp[ntmps81]) (aT fun E=>?_);simp only[go_sem];refine eP E [2] (.agg [.sl (some 4) (ns.map aw),i64 root]) rfl rfl ?_;refine eP E [3] (.agg [.sl none (a.map i64),.sl none (b.map i64)]) rfl rfl ?_
 refine bK E (X:={ i:Nat // i<=a.length∧(a.take i).any (qK ns b)=false }) (fun x=>[(2,.d (.ptr (.agg [.sl (some 4) (ns.map aw),i64 root]))),(3,.d (.ptr (.agg [.sl none (a.map i64),.sl none (b.map i64)]))),(5,.d (i64 x.1))])
  (fun _=>[]) [] (fun x=>a.length-x.1) ⟨0,aie _,by simp⟩ id ?_ ?_
 .simp only[go_sem]
  all_goals first|rfl|(and_intros<;>first|rfl|trivial)
 rintro⟨i,hi,xn⟩ E0;refine bW E0 fun Q' hQ E'=>?_;simp only at hi ⊢;simp only[go_sem];refine aH E' ?_ ?_<;>intro h1<;>simp only[go_sem]
 .have ao:i<a.length:=by omega
  have hx:=k1 _ (ah2 ao);have gB:=hx.1;have iO:=hx.2;have dt:(a.map i64).getD i .aY=i64 a[i]:=dF ao;have hnd:=fZ hx;have Tb:qK ns b a[i]=true->(a.any (qK ns b)||b.any (tD ns))=true:=fun g=>by rw[aiA.2 ⟨_,ah2 ao,g⟩];rfl
  refine bF mixed E' fun X=>?_;simp only[go_sem];refine⟨by omega,?_⟩;rw[dt];simp only[go_sem];refine⟨by omega,?_⟩;rw[hnd];simp only[go_sem];(try refine⟨by decide +kernel,?_⟩)
  repeat (first
   |(apply gC E';(· simp only[go_sem]);(· intro h;(try simp only[bq]at h);simp only[↓h,go_sem];rfl);simp only[go_sem])
   |(apply iu E';(· decide);simp only[go_sem]))
  refine cK E' ?_ ?_<;>intro h2<;>simp only[go_sem]
  .have h3:(decide (ag ns a[i]=2)||decide (ag ns a[i]=9)||decide (ag ns a[i]=10))=true:=h2;rw[Tb (by rw[qK,h3];rfl)]at hv;rw[hQ];simp only[go_sem];rw[<-hv]
  have h3:(decide (ag ns a[i]=2)||decide (ag ns a[i]=9)||decide (ag ns a[i]=10))=false:=h2;refine eP E' [6] (.agg [i64 (nd ns a[i].toNat).k,i64 (nd ns a[i].toNat).a,i64 (nd ns a[i].toNat).b,.sl (some 2) ((nd ns a[i].toNat).l.map bf)]) rfl rfl ?_
  refine bK E' (X:={ j:Nat // j<=b.length∧(b.take j).any (fun y=>gi ns a[i] y)=false }) (fun y=>[(2,.d (.ptr (.agg [.sl (some 4) (ns.map aw),i64 root]))),(3,.d (.ptr (.agg [.sl none (a.map i64),.sl none (b.map i64)]))),(5,.d (i64 i)),(6,.d (.ptr (.agg [i64 (nd ns a[i].toNat).k,i64 (nd ns a[i].toNat).a,i64 (nd ns a[i].toNat).b,.sl (some 2) ((nd ns a[i].toNat).l.map bf)]))),(7,.d (i64 y.1))])
   (fun _=>[]) [] (fun y=>b.length-y.1) ⟨0,aie _,by simp⟩ id ?_ ?_
  .simp only[go_sem]
   all_goals first|rfl|(and_intros<;>first|rfl|trivial)
  rintro⟨j,hj,mN⟩ E1;refine bW E1 fun Q2 dv E2=>?_;simp only at hj ⊢;simp only[go_sem];refine aH E2 ?_ ?_<;>intro h2<;>simp only[go_sem]
  .have bG:j<b.length:=by omega
   have hy:=k2 _ (ah2 bG);have Ss:=hy.1;have Sv:=hy.2;have wH:(b.map i64).getD j .aY=i64 b[j]:=dF bG;have BT:=fZ hy;refine bF mixed E2 fun X=>?_;simp only[go_sem];refine⟨by omega,?_⟩;rw[wH];simp only[go_sem];refine⟨by omega,?_⟩;rw[BT];simp only[go_sem];(try refine⟨by decide +kernel,?_⟩);refine bS E2 ?_ ?_<;>intro g7<;>simp only[go_sem]
   .refine bS E2 ?_ ?_<;>intro g8<;>simp only[go_sem]
    .refine aH E2 ?_ ?_<;>intro g9<;>simp only[go_sem]
     .have ni:gi ns a[i] b[j]=true:=by
       rw[gi,show decide (ag ns a[i]=11)=true from decide_eq_true g7,show decide (ag ns b[j]=11)=true from decide_eq_true g8,decide_eq_true g9];rfl
      rw[Tb (by rw[qK,h3,ajI];exact aiA.2 ⟨_,ah2 bG,ni⟩)]at hv;rw[dv];simp only[go_sem];rw[hQ];simp only[go_sem];rw[<-hv]
     .rw[dv];refine⟨⟨j+1,bG,pS bG mN (by rw[gi,decide_eq_false g9,ajD])⟩,by show b.length-(j+1)<b.length-j;omega,id,?_⟩;simp only[go_sem];rw[aD ⟨by omega,by omega⟩]
      and_intros<;>first|rfl|trivial
    .rw[dv];refine⟨⟨j+1,bG,pS bG mN (by rw[gi,show decide (ag ns b[j]=11)=false from decide_eq_false g8,ajD,aiP])⟩,by show b.length-(j+1)<b.length-j;omega,id,?_⟩;simp only[go_sem];rw[aD ⟨by omega,by omega⟩]
     and_intros<;>first|rfl|trivial
   .rw[dv];refine⟨⟨j+1,bG,pS bG mN (by rw[gi,show decide (ag ns a[i]=11)=false from decide_eq_false g7,aiP,aiP])⟩,by show b.length-(j+1)<b.length-j;omega,id,?_⟩;simp only[go_sem];rw[aD ⟨by omega,by omega⟩]
    and_intros<;>first|rfl|trivial
  .have mF:j=b.length:=by omega
   subst mF;rw[aij]at mN;rw[dv];simp only[go_sem];rw[hQ];refine⟨⟨i+1,ao,pS ao xn (by rw[qK,h3,mN];rfl)⟩,by show a.length-(i+1)<a.length-i;omega,id,?_⟩;simp only[go_sem];rw[aD ⟨by omega,by omega⟩]
   and_intros<;>first|rfl|trivial
 have bJ:i=a.length:=by omega
 subst bJ;rw[aij]at xn;rw[xn,ajI]at hv;rw[hQ];simp only[go_sem]
 refine bK E (X:={ i:Nat // i<=b.length∧(b.take i).any (tD ns)=false }) (fun x=>[(2,.d (.ptr (.agg [.sl (some 4) (ns.map aw),i64 root]))),(3,.d (.ptr (.agg [.sl none (a.map i64),.sl none (b.map i64)]))),(9,.d (i64 x.1))])
  (fun _=>[]) [] (fun x=>b.length-x.1) ⟨0,aie _,by simp⟩ id ?_ ?_
 .simp only[go_sem]
  all_goals first|rfl|(and_intros<;>first|rfl|trivial)
 rintro⟨j,hj,mN⟩ E0;refine bW E0 fun Q2 dv E2=>?_;simp only at hj ⊢;simp only[go_sem];refine aH E2 ?_ ?_<;>intro h1<;>simp only[go_sem]
 .have bG:j<b.length:=by omega
  have hy:=k2 _ (ah2 bG);have Ss:=hy.1;have Sv:=hy.2;have wH:(b.map i64).getD j .aY=i64 b[j]:=dF bG;have BT:=fZ hy;refine bF mixed E2 fun X=>?_;simp only[go_sem];refine⟨by omega,?_⟩;rw[wH];simp only[go_sem];refine⟨by omega,?_⟩;rw[BT];simp only[go_sem];(try refine⟨by decide +kernel,?_⟩)
  repeat (first
   |(apply gC E2;(· simp only[go_sem]);(· intro h;(try simp only[bq]at h);simp only[↓h,go_sem];rfl);simp only[go_sem])
   |(apply iu E2;(· decide);simp only[go_sem]))
  refine cK E2 ?_ ?_<;>intro h2<;>simp only[go_sem]
  .have h3:tD ns b[j]=true:=h2;rw[aiA.2 ⟨_,ah2 bG,h3⟩]at hv;rw[dv];simp only[go_sem];rw[<-hv]
  .have h3:tD ns b[j]=false:=h2;rw[dv];refine⟨⟨j+1,bG,pS bG mN h3⟩,by show b.length-(j+1)<b.length-j;omega,id,?_⟩;simp only[go_sem];rw[aD ⟨by omega,by omega⟩]
   and_intros<;>first|rfl|trivial
 .have mF:j=b.length:=by omega
  subst mF;rw[aij]at mN;rw[mN]at hv;rw[dv];simp only[go_sem];rw[<-hv]
end Go.Proofs.YtpmniabdmbmafaaGreatDoor

